/- Joined: N6, N7. -/
import Derived.Test.YtekhblefchceaaaGreatNA
import Derived.Test.YtekhblefchceaaaGreatN5
set_option linter.unusedVariables false
set_option linter.unusedSimpArgs false
/- The interpreter, for PatchNames. -/
set_option linter.unusedVariables false
namespace Go.Proofs.YtekhblefchceaaaGreat.AM
open Go Go.Proofs
variable {σ : St}

def prim27 (args : List AV) (σ : St) : Option (List (AV × St)) :=
  match args with
  | [.str s, .int .i64 (.ofNat c)] =>
    match Nat.ble (s.length * c) 140737488355328 && Nat.ble c 9223372036854775807 with
    | true => some [(.str (Lib.repeatL s c), σ)]
    | false => none
  | _ => none
def prim8 (args : List AV) (σ : St) : Option (List (AV × St)) :=
  match args with
  | [] => some [(.bool true, σ)]
  | _ => none
def primM (n : Nat) (args : List AV) (σ : St) : Option (List (AV × St)) :=
  match Nat.beq n 8 with
  | true => prim8 args σ
  | false => match Nat.beq n 27 with
    | true => prim27 args σ
    | false => primN n args σ
noncomputable def CM : Cfg := { F := look tab, prim := primM, hint := hints, keeps := keepsN, frz := frzN, tight := tightN, lf := 1000 }
noncomputable def goM : CallF := go CM 60

end Go.Proofs.YtekhblefchceaaaGreat.AM

/- The interpreter for PatchNames is sound. -/
set_option linter.unusedVariables false
namespace Go.Proofs.YtekhblefchceaaaGreat.AM
open Go Go.Proofs
variable {σ : St}

theorem primM_ok : ∀ n args σ xs, primM n args σ = some xs → xs ≠ [] → ACalls Tryz.prog n args σ (fun v σ' => (v, σ') ∈ xs) := by
  intro n args σ xs h hne
  unfold primM at h
  split at h
  · rename_i e
    rw [Nat.eq_of_beq_eq_true e]
    unfold prim8 at h
    split at h
    · simp only [Option.some.injEq] at h; subst h
      refine works_ok.mono fun v σ' hv => ?_
      obtain ⟨rfl, rfl⟩ := hv
      exact List.mem_singleton.2 rfl
    · cases h
  · split at h
    · rename_i e
      rw [Nat.eq_of_beq_eq_true e]
      unfold prim27 at h
      split at h
      · rename_i s c
        split at h
        · rename_i hl
          simp only [Bool.and_eq_true] at hl
          simp only [Option.some.injEq] at h; subst h
          refine (repeat_ok s c (Nat.le_of_ble_eq_true hl.1) (Nat.le_of_ble_eq_true hl.2)).mono fun v σ' hv => ?_
          obtain ⟨rfl, rfl⟩ := hv
          exact List.mem_singleton.2 rfl
        · cases h
      · cases h
    · exact primN_ok n args σ xs h hne
theorem goM_cs : CS Tryz.prog goM := go_sound CM hmix tab_ok primM_ok 60

end Go.Proofs.YtekhblefchceaaaGreat.AM

