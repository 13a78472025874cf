/- The region of PatchNames that asks for too long a text. -/
import Derived.Test.YtekhblefchceaaaGreatCC
import Derived.Test.YtekhblefchceaaaGreatNB
set_option linter.unusedVariables false
set_option linter.unusedSimpArgs false
set_option linter.unusedSimpArgs false
set_option linter.unusedVariables false
set_option maxRecDepth 20000
namespace Go.Proofs.YtekhblefchceaaaGreat.AM
open Go Go.Proofs
variable {σ : St}

theorem rep1_length (x : UInt8) : ∀ c, (Lib.repeatL [x] c).length = c := by
  intro c; rw [Lib.repeatL_length]; simp
/-- The pieces. -/
def lp1 : Pc := ⟨2, 0, Lib.repeatL [97] 65536⟩
def lp2 : Pc := ⟨1, 17, []⟩
theorem lp_len : lengthsP [lp1, lp2] = (17, 65553, 0) := by
  have hl : (Lib.repeatL [97] 65536).length = 65536 := rep1_length _ _
  have hn : (Lib.repeatL [97] 65536 == ([] : List UInt8)) = false := by
    cases h : Lib.repeatL [97] 65536 with
    | nil => rw [h] at hl; simp at hl
    | cons a l => rfl
  have hv1 : validP lp1 = true := by simp [validP, lp1, hn]
  have hv2 : validP lp2 = true := by decide
  have s1 : sizesP lp1 = (0, 65536) := by simp [sizesP, lp1, hl]
  have s2 : sizesP lp2 = (17, 17) := by decide
  simp [lengthsP, lenLoop, hv1, hv2, s1, s2]
theorem lp_small : ∀ p, p ∈ [lp1, lp2] → p.small := by
  intro p hp
  simp only [List.mem_cons, List.not_mem_nil, or_false] at hp
  rcases hp with rfl | rfl
  · refine ⟨by decide, by decide, ?_⟩
    show (Lib.repeatL [97] 65536).length ≤ _
    rw [rep1_length]; decide
  · exact ⟨by decide, by decide, by decide⟩

def rc17 : List AV := [.int .u64 65538, .int .i64 1, .int .i64 17, .int .i64 17, .int .i64 0]
def kt17 : AV := .agg [.int .u64 65538, .int .i64 1, .int .i64 17, .int .i64 17, .int .i64 0, .str [], .vs [] .no]
/-- plan.Keep at a state. -/
def orcK (X : St) : Orc := ⟨53, [.ptr 6 0, .agg rc17], (X.new (.arr rc17)).new (.arr ch0), .tup [kt17, .int .i64 0], (X.new (.arr rc17)).new (.arr ch0)⟩

theorem apply17 (hk : (orcK σ).ok) (hb : bndH σ.n σ.H = true) : ACalls Tryz.prog 17 [.ptr 6 0, .agg rc17, .vs [lp1.av, lp2.av] .ex] σ (fun v σ' => v = .tup [.agg ch0, .int .i64 5] ∧ σ' = σ) := by
  have h := apply_long (σ := σ) (.ptr 6 0) 65538 1 17 17 0 65538 1 17 17 0 [] [] .no [lp1, lp2] .ex (by decide) lp_small hk (by rw [lp_len]) (by rw [lp_len]) (by rw [lp_len]; decide)
  refine h.tight fun v σ' hv => ?_
  obtain ⟨rfl, hE⟩ := hv
  exact ⟨σ.H, fun β b hβ => by rw [hE.2 β (bndH_lk hb hβ).1]; exact hβ, hb, rfl, rfl, rfl⟩

theorem set_new (b b' : Blk) : (σ.new b).set σ.n b' = σ.new b' := by
  simp [St.new, St.set, upd]

theorem reg25 {Q : Ex → Env → St → Prop} {L : List AV} (e1 : vget L 1 = .ptr 6 0) (e2 : vget L 2 = .ptr 8 0) (h8 : lk σ.H 8 = some (.arr rc17)) (hb : bndH σ.n σ.H = true) (hk1 : (orcK σ).ok) (hk2 : (orcK (σ.new (.arr ch0))).ok) (hb2 : bndH (σ.new (.arr ch0)).n (σ.new (.arr ch0)).H = true)
    (hQ : ∀ ρ : Env, (∀ j, j ≠ 234 → j ≠ 235 → j ≠ 236 → j ≠ 237 → ρ j = vget (vset 22 (vset 21 (vset 240 (vset 239 (vset 231 (vset 238 (vset 233 (vset 232 L (.ptr 6 0)) (.agg rc17)) (.tup [.agg ch0, .int .i64 5])) (.tup [.agg ch0, .int .i64 5])) (.agg ch0)) (.int .i64 5)) (.ptr σ.n 0)) (.int .i64 5)) j) → Q .nrm ρ (σ.new (.arr ch0))) :
    AW Tryz.prog none 309 (.qrg r4_25 [[], [], [], [2, 2], [3], [3, 4], [0, 1, 5, 4], [6], [7], [7], [], [10, 8, 6, 0, 1, 2, 3, 4, 5, 6, 7, 8, 10], [9, 11, 0, 1, 2, 3, 4, 5, 6, 7, 8, 9, 10, 11]]) Q (vget L) σ := by
  refine AW.qt (some 6) (.p 0 (.p 1 (.q 2 (.q 3 (.q 4 (.p 5 (.b 6 (.p 7 (.p 8 (.p 9 (.z 10 (.z 11 (.p 12 .nil)))))) 10 (.z 6 (.p 7 (.p 8 (.p 9 (.z 11 (.p 12 .nil))))))))))))) [(8, .arr rc17)] hmix (by decide) (by decide) (SB.cons h8 (SB.nil _)) ?_
  have hrep : Lib.repeatL [97] 65536 = lp1.tx := rfl
  try unfold r4_25
  simp -implicitDefEqProofs only [↓W0, ↓reduceIte, W, reduceCtorEq, Nat.reduceEqDiff, Int.reduceLT, Int.reduceLE, Int.reduceEq, Nat.reduceAdd, Nat.reduceMul, Nat.reduceLeDiff, Nat.reduceLT, Nat.reduceMod, Nat.reduceSub, Nat.reduceDiv, Int.reduceAdd, Int.reduceSub, Int.reduceToNat, Int.reduceNeg, r4_25, e1, e2, rc17]
  refine ⟨.str lp1.tx, fun σ' => ?_, ?_⟩
  · simp -implicitDefEqProofs only [↓W0, ↓reduceIte, W, reduceCtorEq, Nat.reduceEqDiff, Int.reduceLT, Int.reduceLE, Int.reduceEq, Nat.reduceAdd, Nat.reduceMul, Nat.reduceLeDiff, Nat.reduceLT, Nat.reduceMod, Nat.reduceSub, Nat.reduceDiv, Int.reduceAdd, Int.reduceSub, Int.reduceToNat, Int.reduceNeg]
    refine (repeat_ok [97] 65536 (by decide) (by decide)).mono fun v σ'' hv => ?_
    obtain ⟨rfl, rfl⟩ := hv
    exact ⟨rfl, rfl⟩
  refine ⟨lp1.av, fun σ' => ?_, ?_⟩
  · simp -implicitDefEqProofs only [↓W0, ↓reduceIte, W, reduceCtorEq, Nat.reduceEqDiff, Int.reduceLT, Int.reduceLE, Int.reduceEq, Nat.reduceAdd, Nat.reduceMul, Nat.reduceLeDiff, Nat.reduceLT, Nat.reduceMod, Nat.reduceSub, Nat.reduceDiv, Int.reduceAdd, Int.reduceSub, Int.reduceToNat, Int.reduceNeg]
    refine (put_st lp1.tx).mono fun v σ'' hv => ?_
    obtain ⟨rfl, rfl⟩ := hv
    exact ⟨rfl, rfl⟩
  refine ⟨lp2.av, fun σ' => ?_, ?_⟩
  · simp -implicitDefEqProofs only [↓W0, ↓reduceIte, W, reduceCtorEq, Nat.reduceEqDiff, Int.reduceLT, Int.reduceLE, Int.reduceEq, Nat.reduceAdd, Nat.reduceMul, Nat.reduceLeDiff, Nat.reduceLT, Nat.reduceMod, Nat.reduceSub, Nat.reduceDiv, Int.reduceAdd, Int.reduceSub, Int.reduceToNat, Int.reduceNeg]
    refine (keep_st 17).mono fun v σ'' hv => ?_
    obtain ⟨rfl, rfl⟩ := hv
    exact ⟨rfl, rfl⟩
  have hf : fitSz 3 [lp1.av, lp2.av] = true := rfl
  simp -implicitDefEqProofs only [↓W0, ↓reduceIte, W, reduceCtorEq, Nat.reduceEqDiff, Int.reduceLT, Int.reduceLE, Int.reduceEq, Nat.reduceAdd, Nat.reduceMul, Nat.reduceLeDiff, Nat.reduceLT, Nat.reduceMod, Nat.reduceSub, Nat.reduceDiv, Int.reduceAdd, Int.reduceSub, Int.reduceToNat, Int.reduceNeg, hf]
  have hfin : ∀ ρ : Env, (∀ j, j ≠ 234 → j ≠ 235 → j ≠ 236 → j ≠ 237 → ρ j = vget (vset 22 (vset 21 (vset 240 (vset 239 (vset 231 (vset 238 (vset 233 (vset 232 L (.ptr 6 0)) (.agg rc17)) (.tup [.agg ch0, .int .i64 5])) (.tup [.agg ch0, .int .i64 5])) (.agg ch0)) (.int .i64 5)) (.ptr σ.n 0)) (.int .i64 5)) j) → Q .nrm ρ ((σ.new (.arr ch0)).set σ.n (.arr ch0)) := fun ρ h => by rw [set_new]; exact hQ ρ h
  have n8 : ¬ σ.n = 8 := by
    have := (bndH_lk hb h8).1
    omega
  have hs1 : SB [(8, .arr rc17)] (σ.new (.arr ch0)) := SB.cons (by rw [lk_new, if_neg n8]; exact h8) (SB.nil _)
  have fin2 : ∀ (X ρ : Env), X = ρ → ∀ j, X j = ρ j := fun X ρ h j => by rw [h]
  refine ⟨?_, ?_⟩
  · refine call_go (apply17 hk1 hb) ?_
    rintro v σ' ⟨rfl, rfl⟩
    refine ⟨SB.cons h8 (SB.nil _), ?_⟩
    simp -implicitDefEqProofs only [↓W0, ↓reduceIte, W, reduceCtorEq, Nat.reduceEqDiff, Int.reduceLT, Int.reduceLE, Int.reduceEq, Nat.reduceAdd, Nat.reduceMul, Nat.reduceLeDiff, Nat.reduceLT, Nat.reduceMod, Nat.reduceSub, Nat.reduceDiv, Int.reduceAdd, Int.reduceSub, Int.reduceToNat, Int.reduceNeg, ch0]
    refine hfin _ fun j j1 j2 j3 j4 => ?_
    simp only [vget_set, put_at]
    repeat' split
    all_goals first | rfl | (subst_vars; simp at *; done) | skip
  · refine ⟨hs1, ?_⟩
    refine call_go (apply17 hk2 hb2) ?_
    rintro v σ' ⟨rfl, rfl⟩
    simp -implicitDefEqProofs only [↓W0, ↓reduceIte, W, reduceCtorEq, Nat.reduceEqDiff, Int.reduceLT, Int.reduceLE, Int.reduceEq, Nat.reduceAdd, Nat.reduceMul, Nat.reduceLeDiff, Nat.reduceLT, Nat.reduceMod, Nat.reduceSub, Nat.reduceDiv, Int.reduceAdd, Int.reduceSub, Int.reduceToNat, Int.reduceNeg, ch0]
    refine hfin _ fun j j1 j2 j3 j4 => ?_
    simp only [vget_set, put_at]
    repeat' split
    all_goals first | rfl | (subst_vars; simp at *; done) | skip

theorem AW.undef {ro : Option Nat} {nt : Nat} {c : ACode} {Q : Ex → Env → St → Prop} {ρ ρ' : Env} (h : ∀ i, i < nt → ρ' i = .undef ∨ ρ i = ρ' i) (hw : AW Tryz.prog ro nt c Q ρ' σ) : AW Tryz.prog ro nt c Q ρ σ :=
  AW.weak (fun g w tm r er => ⟨g, r, ⟨er.size, fun i hi => by
    rcases h i hi with e | e
    · rw [e]; exact .undef _
    · rw [← e]; exact er.vr i hi⟩, Evo.refl _ _ _⟩) hw
/-- The environment behind the region: the long text is forgotten. -/
noncomputable def env25 (L : List AV) (n : Nat) : List AV := vset 237 (vset 236 (vset 235 (vset 234 (vset 22 (vset 21 (vset 240 (vset 239 (vset 231 (vset 238 (vset 233 (vset 232 L (.ptr 6 0)) (.agg rc17)) (.tup [.agg ch0, .int .i64 5])) (.tup [.agg ch0, .int .i64 5])) (.agg ch0)) (.int .i64 5)) (.ptr n 0)) (.int .i64 5)) .undef) .undef) .undef) .undef
theorem reg25_go {y : ACode} {Q : Ex → Env → St → Prop} {L : List AV} (e1 : vget L 1 = .ptr 6 0) (e2 : vget L 2 = .ptr 8 0) (h8 : lk σ.H 8 = some (.arr rc17)) (hb : bndH σ.n σ.H = true) (hk1 : (orcK σ).ok) (hk2 : (orcK (σ.new (.arr ch0))).ok) (hb2 : bndH (σ.new (.arr ch0)).n (σ.new (.arr ch0)).H = true)
    (hr : AW Tryz.prog none 309 y Q (vget (env25 L σ.n)) (σ.new (.arr ch0))) :
    AW Tryz.prog none 309 (.seq (.qrg r4_25 [[], [], [], [2, 2], [3], [3, 4], [0, 1, 5, 4], [6], [7], [7], [], [10, 8, 6, 0, 1, 2, 3, 4, 5, 6, 7, 8, 10], [9, 11, 0, 1, 2, 3, 4, 5, 6, 7, 8, 9, 10, 11]]) y) Q (vget L) σ := by
  refine AW.seq (reg25 e1 e2 h8 hb hk1 hk2 hb2 fun ρ hρ => ?_)
  refine AW.undef (ρ' := vget (env25 L σ.n)) (fun i _ => ?_) hr
  simp only [env25, vget_set]
  by_cases h1 : i = 237
  · exact .inl (if_pos h1)
  by_cases h2 : i = 236
  · exact .inl ((if_neg h1).trans (if_pos h2))
  by_cases h3 : i = 235
  · exact .inl ((if_neg h1).trans ((if_neg h2).trans (if_pos h3)))
  by_cases h4 : i = 234
  · exact .inl ((if_neg h1).trans ((if_neg h2).trans ((if_neg h3).trans (if_pos h4))))
  · refine .inr ?_
    rw [hρ i h4 h3 h2 h1, if_neg h1, if_neg h2, if_neg h3, if_neg h4]
    simp only [vget_set]

end Go.Proofs.YtekhblefchceaaaGreat.AM
