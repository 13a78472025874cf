/- quartotop.TopBetween returns true for every input; the input reads as it did. -/
import Derived.Test.YtekhblefchceaaaGreatRows
import Derived.WalkKit
import Derived.ProofKit
import Derived.OpenShut
import Derived.Test.YtekhblefchceaaaGreatFG
set_option linter.unusedVariables false
set_option linter.unusedSimpArgs false
namespace Go.Proofs.YtekhblefchceaaaGreat.topBetween
open Go.ChangeShapes Go.WideShapes Go.ChangeAt Go.RowKit
theorem own : ownKnob Tryz.prog.godebug = none := by kernel_rfl
theorem laid : laidOutB Tryz.prog = true := by kernel_rfl
set_option maxRecDepth 100000 in
theorem lifted (os : Os) (started : os.Started) (H : Type) (enc : TypeId × Value -> H) :
  ReturnsInHanded {} Tryz.checked os 6 .any (Rows.topBetweenSpec.pre6 enc Tryz.prog Tryz.f6 Rows.topBetweenRow.domain false) (Rows.topBetweenSpec.post enc Tryz.prog Tryz.f6 false true false false) := by
 refine returnsInHanded_of_change (C := Tryz.checked) own started (by kernel_rfl) Tryz.func6
  (ChangeSpec.witness6 (enc := enc) (C := Tryz.checked) false ⟨#[], #[.string ⟨#[]⟩, .slice none 0 0], []⟩ 8 (by kernel_rfl) (by kernel_rfl) (by kernel_rfl) (by kernel_rfl)) ?_
 intro W base args ds gs before hval0 hW hcnd _
 have hval : ∀ (j : Nat) t v, Tryz.f6.params[j]? = some t -> args[j]? = some v -> Value.okWide Tryz.prog W .any base t v := hval0
 have hW' := hW
 obtain ⟨p, q, hA0, hV, rfl, hfz, hnd⟩ := hW
 have hA : DataW.TrodAll enc Tryz.prog W 0 (fun _ => true) true Tryz.f6.params.toList args.toList ds p := hA0
 rw [Tryz.params6] at hA hval
 obtain ⟨v0, v1, d0, d1, p0, p1, rfl, rfl, rfl, h0, h1⟩ := trodAll_two hA
 obtain ⟨rfl, rfl⟩ := trodVars_none hV
 clear hA0 hval0
 have o0 := hval 0 _ v0 rfl rfl
 have o1 := hval 1 _ v1 rfl rfl
 obtain ⟨s, t1, t2⟩ := AM.arg_str Tryz.underlying9 (okWide_string Tryz.underlying9 o0) h0
 obtain ⟨l, s1, s2, s3⟩ := AM.arg_eds Tryz.underlying81 Tryz.underlying162 (by kernel_rfl) ⟨by kernel_rfl, by kernel_rfl, by kernel_rfl⟩ ⟨by kernel_rfl, by kernel_rfl, by kernel_rfl⟩ ⟨by kernel_rfl, by kernel_rfl, by kernel_rfl⟩ ⟨by kernel_rfl, by kernel_rfl, by kernel_rfl⟩ o1 h1
 have hlt := hW'.lt
 refine (AM.row_callsA (AM.between_top s l t2 s2 s3) (fun v σ' h => h.1) W [v0, v1] ⟨rfl, fun i x c hx hc => by
  match i, hx, hc with
  | 0, hx, hc => cases hx; cases hc; exact t1
  | 1, hx, hc => cases hx; cases hc; exact s1
  | i + 2, hx, hc => cases hx⟩).mono fun e W' ⟨he, hos, hout, hb⟩ => ?_
 subst he
 have hsame : ∀ x : MemPlace, x.block < W.heap.size -> W.sameAt W' x := fun x hx => by
  cases x with
  | cell b o => exact World.cell?_of_block (w := W) (hb b hx)
  | map b => exact hb b hx
 refine ⟨_, rfl, AM.post_below hW' (fun _ _ _ => (trodAll_cons_mk (shut_bool Tryz.underlying4 _) trodAll_mk0)) (fun sp hsp => trodAll_mk2
  (WideElems.Trod_stays laid (by kernel_rfl) (of_decide_eq_true (by kernel_rfl)) h0 (fun x hx => hsame x (hlt x (by simp [hx]))) (fun x hx => hsp x (by simp [hx])))
  (WideElems.Trod_stays laid (by kernel_rfl) (of_decide_eq_true (by kernel_rfl)) h1 (fun x hx => hsame x (hlt x (by simp [hx]))) (fun x hx => hsp x (by simp [hx])))) (fun _ => rfl) (by simp) hos hout hb (ok_one (by kernel_rfl) rfl (okWide_bool_mk Tryz.underlying4 _))⟩
theorem over : Rows.topBetweenRow.holds Tryz.pinned (OpenSpec.ofChange Rows.topBetweenSpec) :=
 OpenClaim.holds_of_wide 6 Tryz.f6 rfl rfl rfl rfl rfl rfl rfl ⟨rfl, rfl, rfl, rfl, rfl⟩ rfl rfl rfl rfl rfl (by kernel_rfl) Tryz.func6 (by kernel_rfl)
  (of_decide_eq_true (by kernel_rfl)) (by unfold Func.isWrapper; first | (rw [if_pos (by decide +kernel)]; kernel_rfl) | (rw [if_neg (by decide +kernel)]; exact ⟨rfl, rfl⟩))
  (fun os started H enc _ => lifted os started H enc)
theorem proved : Rows.TopBetweenSaid :=
 over
#print axioms proved
end Go.Proofs.YtekhblefchceaaaGreat.topBetween

