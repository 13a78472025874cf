/- Joined: C12, C13. -/
import Derived.Test.YtekhblefchceaaaGreatCB
set_option linter.unusedVariables false
set_option linter.unusedSimpArgs false
/- Contracts: delta.valid, delta.sizes, delta.Lengths, delta.Check; keep, put. -/
set_option linter.unusedSimpArgs false
set_option linter.unusedVariables false
set_option maxRecDepth 20000
namespace Go.Proofs.YtekhblefchceaaaGreat.AM
open Go Go.Proofs
variable {σ : St}

/-- A piece of a delta. -/
structure Pc where
  k : Int
  n : Int
  tx : List UInt8
  deriving DecidableEq, Inhabited
def Pc.cs (p : Pc) : List AV := [.int .u8 p.k, .int .i64 p.n, .str p.tx]
def Pc.av (p : Pc) : AV := .agg p.cs
def Pc.small (p : Pc) : Prop := -9223372036854775808 ≤ p.n ∧ p.n ≤ 9223372036854775807 ∧ p.tx.length ≤ 1099511627776
def validP (p : Pc) : Bool := if p.k = 1 ∨ p.k = 3 then decide (1 ≤ p.n) && (p.tx == []) else if p.k = 2 then decide (p.n = 0) && !(p.tx == []) else false
def sizesP (p : Pc) : Int × Int := if p.k = 1 then (p.n, p.n) else if p.k = 3 then (p.n, 0) else (0, p.tx.length)

theorem valid_ok (p : Pc) : ACalls Tryz.prog 102 [p.av] σ (fun v σ' => v = .bool (validP p) ∧ Ext σ σ') := by
  obtain ⟨k, n, tx⟩ := p
  refine FOk.calls ok102 (by simp [a102]) ?_
  show AW _ _ _ c102 _ _ _
  unfold c102
  refine AW.seq (AW.rg hmix ?_)
  try unfold r102_0
  simp -implicitDefEqProofs only [↓W0, ↓reduceIte, W, reduceCtorEq, Nat.reduceEqDiff, Int.reduceLT, Int.reduceLE, Int.reduceEq, Nat.reduceAdd, Nat.reduceMul, Nat.reduceLeDiff, Nat.reduceLT, Nat.reduceMod, Nat.reduceSub, Nat.reduceDiv, Int.reduceAdd, Int.reduceSub, Int.reduceToNat, Int.reduceNeg, r102_0, Pc.av, Pc.cs]
  refine AW.seq (AW.seq (AW.rg hmix ?_))
  try unfold r102_1
  simp -implicitDefEqProofs only [↓W0, ↓reduceIte, W, reduceCtorEq, Nat.reduceEqDiff, Int.reduceLT, Int.reduceLE, Int.reduceEq, Nat.reduceAdd, Nat.reduceMul, Nat.reduceLeDiff, Nat.reduceLT, Nat.reduceMod, Nat.reduceSub, Nat.reduceDiv, Int.reduceAdd, Int.reduceSub, Int.reduceToNat, Int.reduceNeg, r102_1]
  refine AW.block (AW.seq (AW.seq (AW.rg hmix ?_)))
  have fin : ∀ {ρ : Env} (t : Bool), (k = 1 ∨ k = 3) → validP ⟨k, n, tx⟩ = (decide (1 ≤ n) && (tx == [])) := fun t h => by simp [validP, h]
  by_cases h1 : k = 1
  · try unfold r102_2
    simp -implicitDefEqProofs only [↓W0, ↓reduceIte, W, reduceCtorEq, Nat.reduceEqDiff, Int.reduceLT, Int.reduceLE, Int.reduceEq, Nat.reduceAdd, Nat.reduceMul, Nat.reduceLeDiff, Nat.reduceLT, Nat.reduceMod, Nat.reduceSub, Nat.reduceDiv, Int.reduceAdd, Int.reduceSub, Int.reduceToNat, Int.reduceNeg, r102_2, h1]
    refine AW.cond (t := true) rfl (AW.skip ?_)
    simp -implicitDefEqProofs only [↓W0, ↓reduceIte, W, reduceCtorEq, Nat.reduceEqDiff, Int.reduceLT, Int.reduceLE, Int.reduceEq, Nat.reduceAdd, Nat.reduceMul, Nat.reduceLeDiff, Nat.reduceLT, Nat.reduceMod, Nat.reduceSub, Nat.reduceDiv, Int.reduceAdd, Int.reduceSub, Int.reduceToNat, Int.reduceNeg]
    refine AW.cond (t := true) rfl ?_
    refine AW.seq (AW.rg hmix ?_)
    by_cases hn : 1 ≤ n
    · try unfold r102_4
      simp -implicitDefEqProofs only [↓W0, ↓reduceIte, W, reduceCtorEq, Nat.reduceEqDiff, Int.reduceLT, Int.reduceLE, Int.reduceEq, Nat.reduceAdd, Nat.reduceMul, Nat.reduceLeDiff, Nat.reduceLT, Nat.reduceMod, Nat.reduceSub, Nat.reduceDiv, Int.reduceAdd, Int.reduceSub, Int.reduceToNat, Int.reduceNeg, r102_4, hn]
      refine AW.ret ?_
      simp -implicitDefEqProofs only [↓W0, ↓reduceIte, W, reduceCtorEq, Nat.reduceEqDiff, Int.reduceLT, Int.reduceLE, Int.reduceEq, Nat.reduceAdd, Nat.reduceMul, Nat.reduceLeDiff, Nat.reduceLT, Nat.reduceMod, Nat.reduceSub, Nat.reduceDiv, Int.reduceAdd, Int.reduceSub, Int.reduceToNat, Int.reduceNeg, a102]
      exact ⟨by simp [validP, h1, hn], Ext.new _ _⟩
    · try unfold r102_4
      simp -implicitDefEqProofs only [↓W0, ↓reduceIte, W, reduceCtorEq, Nat.reduceEqDiff, Int.reduceLT, Int.reduceLE, Int.reduceEq, Nat.reduceAdd, Nat.reduceMul, Nat.reduceLeDiff, Nat.reduceLT, Nat.reduceMod, Nat.reduceSub, Nat.reduceDiv, Int.reduceAdd, Int.reduceSub, Int.reduceToNat, Int.reduceNeg, r102_4, hn]
      refine AW.ret ?_
      simp -implicitDefEqProofs only [↓W0, ↓reduceIte, W, reduceCtorEq, Nat.reduceEqDiff, Int.reduceLT, Int.reduceLE, Int.reduceEq, Nat.reduceAdd, Nat.reduceMul, Nat.reduceLeDiff, Nat.reduceLT, Nat.reduceMod, Nat.reduceSub, Nat.reduceDiv, Int.reduceAdd, Int.reduceSub, Int.reduceToNat, Int.reduceNeg, a102]
      exact ⟨by simp [validP, h1, hn], Ext.new _ _⟩
  · by_cases h3 : k = 3
    · try unfold r102_2
      simp -implicitDefEqProofs only [↓W0, ↓reduceIte, W, reduceCtorEq, Nat.reduceEqDiff, Int.reduceLT, Int.reduceLE, Int.reduceEq, Nat.reduceAdd, Nat.reduceMul, Nat.reduceLeDiff, Nat.reduceLT, Nat.reduceMod, Nat.reduceSub, Nat.reduceDiv, Int.reduceAdd, Int.reduceSub, Int.reduceToNat, Int.reduceNeg, r102_2, h1]
      refine AW.cond (t := false) rfl (AW.rg hmix ?_)
      try unfold r102_3
      simp -implicitDefEqProofs only [↓W0, ↓reduceIte, W, reduceCtorEq, Nat.reduceEqDiff, Int.reduceLT, Int.reduceLE, Int.reduceEq, Nat.reduceAdd, Nat.reduceMul, Nat.reduceLeDiff, Nat.reduceLT, Nat.reduceMod, Nat.reduceSub, Nat.reduceDiv, Int.reduceAdd, Int.reduceSub, Int.reduceToNat, Int.reduceNeg, r102_3, h3]
      refine AW.cond (t := true) rfl ?_
      refine AW.seq (AW.rg hmix ?_)
      by_cases hn : 1 ≤ n
      · try unfold r102_4
        simp -implicitDefEqProofs only [↓W0, ↓reduceIte, W, reduceCtorEq, Nat.reduceEqDiff, Int.reduceLT, Int.reduceLE, Int.reduceEq, Nat.reduceAdd, Nat.reduceMul, Nat.reduceLeDiff, Nat.reduceLT, Nat.reduceMod, Nat.reduceSub, Nat.reduceDiv, Int.reduceAdd, Int.reduceSub, Int.reduceToNat, Int.reduceNeg, r102_4, hn]
        refine AW.ret ?_
        simp -implicitDefEqProofs only [↓W0, ↓reduceIte, W, reduceCtorEq, Nat.reduceEqDiff, Int.reduceLT, Int.reduceLE, Int.reduceEq, Nat.reduceAdd, Nat.reduceMul, Nat.reduceLeDiff, Nat.reduceLT, Nat.reduceMod, Nat.reduceSub, Nat.reduceDiv, Int.reduceAdd, Int.reduceSub, Int.reduceToNat, Int.reduceNeg, a102]
        exact ⟨by simp [validP, h3, hn], Ext.new _ _⟩
      · try unfold r102_4
        simp -implicitDefEqProofs only [↓W0, ↓reduceIte, W, reduceCtorEq, Nat.reduceEqDiff, Int.reduceLT, Int.reduceLE, Int.reduceEq, Nat.reduceAdd, Nat.reduceMul, Nat.reduceLeDiff, Nat.reduceLT, Nat.reduceMod, Nat.reduceSub, Nat.reduceDiv, Int.reduceAdd, Int.reduceSub, Int.reduceToNat, Int.reduceNeg, r102_4, hn]
        refine AW.ret ?_
        simp -implicitDefEqProofs only [↓W0, ↓reduceIte, W, reduceCtorEq, Nat.reduceEqDiff, Int.reduceLT, Int.reduceLE, Int.reduceEq, Nat.reduceAdd, Nat.reduceMul, Nat.reduceLeDiff, Nat.reduceLT, Nat.reduceMod, Nat.reduceSub, Nat.reduceDiv, Int.reduceAdd, Int.reduceSub, Int.reduceToNat, Int.reduceNeg, a102]
        exact ⟨by simp [validP, h3, hn], Ext.new _ _⟩
    · try unfold r102_2
      simp -implicitDefEqProofs only [↓W0, ↓reduceIte, W, reduceCtorEq, Nat.reduceEqDiff, Int.reduceLT, Int.reduceLE, Int.reduceEq, Nat.reduceAdd, Nat.reduceMul, Nat.reduceLeDiff, Nat.reduceLT, Nat.reduceMod, Nat.reduceSub, Nat.reduceDiv, Int.reduceAdd, Int.reduceSub, Int.reduceToNat, Int.reduceNeg, r102_2, h1]
      refine AW.cond (t := false) rfl (AW.rg hmix ?_)
      try unfold r102_3
      simp -implicitDefEqProofs only [↓W0, ↓reduceIte, W, reduceCtorEq, Nat.reduceEqDiff, Int.reduceLT, Int.reduceLE, Int.reduceEq, Nat.reduceAdd, Nat.reduceMul, Nat.reduceLeDiff, Nat.reduceLT, Nat.reduceMod, Nat.reduceSub, Nat.reduceDiv, Int.reduceAdd, Int.reduceSub, Int.reduceToNat, Int.reduceNeg, r102_3, h3]
      refine AW.cond (t := false) rfl (AW.seq (AW.rg hmix ?_))
      by_cases h2 : k = 2
      · try unfold r102_5
        simp -implicitDefEqProofs only [↓W0, ↓reduceIte, W, reduceCtorEq, Nat.reduceEqDiff, Int.reduceLT, Int.reduceLE, Int.reduceEq, Nat.reduceAdd, Nat.reduceMul, Nat.reduceLeDiff, Nat.reduceLT, Nat.reduceMod, Nat.reduceSub, Nat.reduceDiv, Int.reduceAdd, Int.reduceSub, Int.reduceToNat, Int.reduceNeg, r102_5, h2]
        refine AW.cond (t := true) rfl (AW.seq (AW.rg hmix ?_))
        by_cases hn : n = 0
        · try unfold r102_6
          simp -implicitDefEqProofs only [↓W0, ↓reduceIte, W, reduceCtorEq, Nat.reduceEqDiff, Int.reduceLT, Int.reduceLE, Int.reduceEq, Nat.reduceAdd, Nat.reduceMul, Nat.reduceLeDiff, Nat.reduceLT, Nat.reduceMod, Nat.reduceSub, Nat.reduceDiv, Int.reduceAdd, Int.reduceSub, Int.reduceToNat, Int.reduceNeg, r102_6, hn]
          refine AW.ret ?_
          simp -implicitDefEqProofs only [↓W0, ↓reduceIte, W, reduceCtorEq, Nat.reduceEqDiff, Int.reduceLT, Int.reduceLE, Int.reduceEq, Nat.reduceAdd, Nat.reduceMul, Nat.reduceLeDiff, Nat.reduceLT, Nat.reduceMod, Nat.reduceSub, Nat.reduceDiv, Int.reduceAdd, Int.reduceSub, Int.reduceToNat, Int.reduceNeg, a102]
          exact ⟨by simp [validP, h2, hn], Ext.new _ _⟩
        · try unfold r102_6
          simp -implicitDefEqProofs only [↓W0, ↓reduceIte, W, reduceCtorEq, Nat.reduceEqDiff, Int.reduceLT, Int.reduceLE, Int.reduceEq, Nat.reduceAdd, Nat.reduceMul, Nat.reduceLeDiff, Nat.reduceLT, Nat.reduceMod, Nat.reduceSub, Nat.reduceDiv, Int.reduceAdd, Int.reduceSub, Int.reduceToNat, Int.reduceNeg, r102_6, hn]
          refine AW.ret ?_
          simp -implicitDefEqProofs only [↓W0, ↓reduceIte, W, reduceCtorEq, Nat.reduceEqDiff, Int.reduceLT, Int.reduceLE, Int.reduceEq, Nat.reduceAdd, Nat.reduceMul, Nat.reduceLeDiff, Nat.reduceLT, Nat.reduceMod, Nat.reduceSub, Nat.reduceDiv, Int.reduceAdd, Int.reduceSub, Int.reduceToNat, Int.reduceNeg, a102]
          exact ⟨by simp [validP, h2, hn], Ext.new _ _⟩
      · try unfold r102_5
        simp -implicitDefEqProofs only [↓W0, ↓reduceIte, W, reduceCtorEq, Nat.reduceEqDiff, Int.reduceLT, Int.reduceLE, Int.reduceEq, Nat.reduceAdd, Nat.reduceMul, Nat.reduceLeDiff, Nat.reduceLT, Nat.reduceMod, Nat.reduceSub, Nat.reduceDiv, Int.reduceAdd, Int.reduceSub, Int.reduceToNat, Int.reduceNeg, r102_5, h2]
        refine AW.cond (t := false) rfl (AW.skip ?_)
        simp -implicitDefEqProofs only [↓W0, ↓reduceIte, W, reduceCtorEq, Nat.reduceEqDiff, Int.reduceLT, Int.reduceLE, Int.reduceEq, Nat.reduceAdd, Nat.reduceMul, Nat.reduceLeDiff, Nat.reduceLT, Nat.reduceMod, Nat.reduceSub, Nat.reduceDiv, Int.reduceAdd, Int.reduceSub, Int.reduceToNat, Int.reduceNeg]
        refine AW.seq (AW.rg hmix ?_)
        try unfold r102_7
        simp -implicitDefEqProofs only [↓W0, ↓reduceIte, W, reduceCtorEq, Nat.reduceEqDiff, Int.reduceLT, Int.reduceLE, Int.reduceEq, Nat.reduceAdd, Nat.reduceMul, Nat.reduceLeDiff, Nat.reduceLT, Nat.reduceMod, Nat.reduceSub, Nat.reduceDiv, Int.reduceAdd, Int.reduceSub, Int.reduceToNat, Int.reduceNeg, r102_7]
        refine AW.ret ?_
        simp -implicitDefEqProofs only [↓W0, ↓reduceIte, W, reduceCtorEq, Nat.reduceEqDiff, Int.reduceLT, Int.reduceLE, Int.reduceEq, Nat.reduceAdd, Nat.reduceMul, Nat.reduceLeDiff, Nat.reduceLT, Nat.reduceMod, Nat.reduceSub, Nat.reduceDiv, Int.reduceAdd, Int.reduceSub, Int.reduceToNat, Int.reduceNeg, a102]
        exact ⟨by simp [validP, h1, h2, h3], Ext.new _ _⟩

theorem pur_pc (p : Pc) : purL [p.av] = true := rfl
theorem valid_st (p : Pc) : ACalls Tryz.prog 102 [p.av] σ (fun v σ' => v = .bool (validP p) ∧ σ' = σ) := (valid_ok p).still (pur_pc p) rfl

theorem sizes_ok (p : Pc) : ACalls Tryz.prog 103 [p.av] σ (fun v σ' => v = .tup [.int .i64 (sizesP p).1, .int .i64 (sizesP p).2] ∧ Ext σ σ') := by
  obtain ⟨k, n, tx⟩ := p
  refine FOk.calls ok103 (by simp [a103]) ?_
  show AW _ _ _ c103 _ _ _
  unfold c103
  refine AW.seq (AW.rg hmix ?_)
  try unfold r103_0
  simp -implicitDefEqProofs only [↓W0, ↓reduceIte, W, reduceCtorEq, Nat.reduceEqDiff, Int.reduceLT, Int.reduceLE, Int.reduceEq, Nat.reduceAdd, Nat.reduceMul, Nat.reduceLeDiff, Nat.reduceLT, Nat.reduceMod, Nat.reduceSub, Nat.reduceDiv, Int.reduceAdd, Int.reduceSub, Int.reduceToNat, Int.reduceNeg, r103_0, Pc.av, Pc.cs]
  refine AW.seq (AW.seq (AW.rg hmix ?_))
  try unfold r103_1
  simp -implicitDefEqProofs only [↓W0, ↓reduceIte, W, reduceCtorEq, Nat.reduceEqDiff, Int.reduceLT, Int.reduceLE, Int.reduceEq, Nat.reduceAdd, Nat.reduceMul, Nat.reduceLeDiff, Nat.reduceLT, Nat.reduceMod, Nat.reduceSub, Nat.reduceDiv, Int.reduceAdd, Int.reduceSub, Int.reduceToNat, Int.reduceNeg, r103_1]
  refine AW.block (AW.seq (AW.rg hmix ?_))
  by_cases h1 : k = 1
  · try unfold r103_2
    simp -implicitDefEqProofs only [↓W0, ↓reduceIte, W, reduceCtorEq, Nat.reduceEqDiff, Int.reduceLT, Int.reduceLE, Int.reduceEq, Nat.reduceAdd, Nat.reduceMul, Nat.reduceLeDiff, Nat.reduceLT, Nat.reduceMod, Nat.reduceSub, Nat.reduceDiv, Int.reduceAdd, Int.reduceSub, Int.reduceToNat, Int.reduceNeg, r103_2, h1]
    refine AW.cond (t := true) rfl (AW.seq (AW.rg hmix ?_))
    try unfold r103_3
    simp -implicitDefEqProofs only [↓W0, ↓reduceIte, W, reduceCtorEq, Nat.reduceEqDiff, Int.reduceLT, Int.reduceLE, Int.reduceEq, Nat.reduceAdd, Nat.reduceMul, Nat.reduceLeDiff, Nat.reduceLT, Nat.reduceMod, Nat.reduceSub, Nat.reduceDiv, Int.reduceAdd, Int.reduceSub, Int.reduceToNat, Int.reduceNeg, r103_3]
    refine AW.ret ?_
    simp -implicitDefEqProofs only [↓W0, ↓reduceIte, W, reduceCtorEq, Nat.reduceEqDiff, Int.reduceLT, Int.reduceLE, Int.reduceEq, Nat.reduceAdd, Nat.reduceMul, Nat.reduceLeDiff, Nat.reduceLT, Nat.reduceMod, Nat.reduceSub, Nat.reduceDiv, Int.reduceAdd, Int.reduceSub, Int.reduceToNat, Int.reduceNeg, a103]
    exact ⟨by simp [sizesP], Ext.new _ _⟩
  · try unfold r103_2
    simp -implicitDefEqProofs only [↓W0, ↓reduceIte, W, reduceCtorEq, Nat.reduceEqDiff, Int.reduceLT, Int.reduceLE, Int.reduceEq, Nat.reduceAdd, Nat.reduceMul, Nat.reduceLeDiff, Nat.reduceLT, Nat.reduceMod, Nat.reduceSub, Nat.reduceDiv, Int.reduceAdd, Int.reduceSub, Int.reduceToNat, Int.reduceNeg, r103_2, h1]
    refine AW.cond (t := false) rfl (AW.seq (AW.rg hmix ?_))
    by_cases h3 : k = 3
    · try unfold r103_4
      simp -implicitDefEqProofs only [↓W0, ↓reduceIte, W, reduceCtorEq, Nat.reduceEqDiff, Int.reduceLT, Int.reduceLE, Int.reduceEq, Nat.reduceAdd, Nat.reduceMul, Nat.reduceLeDiff, Nat.reduceLT, Nat.reduceMod, Nat.reduceSub, Nat.reduceDiv, Int.reduceAdd, Int.reduceSub, Int.reduceToNat, Int.reduceNeg, r103_4, h3]
      refine AW.cond (t := true) rfl (AW.seq (AW.rg hmix ?_))
      try unfold r103_5
      simp -implicitDefEqProofs only [↓W0, ↓reduceIte, W, reduceCtorEq, Nat.reduceEqDiff, Int.reduceLT, Int.reduceLE, Int.reduceEq, Nat.reduceAdd, Nat.reduceMul, Nat.reduceLeDiff, Nat.reduceLT, Nat.reduceMod, Nat.reduceSub, Nat.reduceDiv, Int.reduceAdd, Int.reduceSub, Int.reduceToNat, Int.reduceNeg, r103_5]
      refine AW.ret ?_
      simp -implicitDefEqProofs only [↓W0, ↓reduceIte, W, reduceCtorEq, Nat.reduceEqDiff, Int.reduceLT, Int.reduceLE, Int.reduceEq, Nat.reduceAdd, Nat.reduceMul, Nat.reduceLeDiff, Nat.reduceLT, Nat.reduceMod, Nat.reduceSub, Nat.reduceDiv, Int.reduceAdd, Int.reduceSub, Int.reduceToNat, Int.reduceNeg, a103]
      exact ⟨by simp [sizesP], Ext.new _ _⟩
    · try unfold r103_4
      simp -implicitDefEqProofs only [↓W0, ↓reduceIte, W, reduceCtorEq, Nat.reduceEqDiff, Int.reduceLT, Int.reduceLE, Int.reduceEq, Nat.reduceAdd, Nat.reduceMul, Nat.reduceLeDiff, Nat.reduceLT, Nat.reduceMod, Nat.reduceSub, Nat.reduceDiv, Int.reduceAdd, Int.reduceSub, Int.reduceToNat, Int.reduceNeg, r103_4, h3]
      refine AW.cond (t := false) rfl (AW.skip ?_)
      simp -implicitDefEqProofs only [↓W0, ↓reduceIte, W, reduceCtorEq, Nat.reduceEqDiff, Int.reduceLT, Int.reduceLE, Int.reduceEq, Nat.reduceAdd, Nat.reduceMul, Nat.reduceLeDiff, Nat.reduceLT, Nat.reduceMod, Nat.reduceSub, Nat.reduceDiv, Int.reduceAdd, Int.reduceSub, Int.reduceToNat, Int.reduceNeg]
      refine AW.seq (AW.rg hmix ?_)
      try unfold r103_6
      simp -implicitDefEqProofs only [↓W0, ↓reduceIte, W, reduceCtorEq, Nat.reduceEqDiff, Int.reduceLT, Int.reduceLE, Int.reduceEq, Nat.reduceAdd, Nat.reduceMul, Nat.reduceLeDiff, Nat.reduceLT, Nat.reduceMod, Nat.reduceSub, Nat.reduceDiv, Int.reduceAdd, Int.reduceSub, Int.reduceToNat, Int.reduceNeg, r103_6]
      refine AW.ret ?_
      simp -implicitDefEqProofs only [↓W0, ↓reduceIte, W, reduceCtorEq, Nat.reduceEqDiff, Int.reduceLT, Int.reduceLE, Int.reduceEq, Nat.reduceAdd, Nat.reduceMul, Nat.reduceLeDiff, Nat.reduceLT, Nat.reduceMod, Nat.reduceSub, Nat.reduceDiv, Int.reduceAdd, Int.reduceSub, Int.reduceToNat, Int.reduceNeg, a103]
      exact ⟨by simp [sizesP, h1, h3], Ext.new _ _⟩
theorem sizes_st (p : Pc) : ACalls Tryz.prog 103 [p.av] σ (fun v σ' => v = .tup [.int .i64 (sizesP p).1, .int .i64 (sizesP p).2] ∧ σ' = σ) := (sizes_ok p).still (pur_pc p) rfl

/-- The lengths of a delta, and the error. -/
def lenLoop : List Pc → Int → Int → Int × Int × Int
  | [], i, o => (i, o, 0)
  | p :: r, i, o => if validP p = true then (if 1048576 - i < (sizesP p).1 ∨ 1048576 - o < (sizesP p).2 then (0, 0, 5) else lenLoop r (i + (sizesP p).1) (o + (sizesP p).2)) else (0, 0, 2)
def lengthsP (d : List Pc) : Int × Int × Int := if 4096 < d.length then (0, 0, 5) else lenLoop d 0 0
def tup3 (x : Int × Int × Int) : AV := .tup [.int .i64 x.1, .int .i64 x.2.1, .int .i64 x.2.2]

theorem sizes_nn {p : Pc} (h : validP p = true) : 0 ≤ (sizesP p).1 ∧ 0 ≤ (sizesP p).2 := by
  unfold validP at h
  unfold sizesP
  split at h
  · rename_i hk
    simp only [Bool.and_eq_true, decide_eq_true_eq] at h
    have h1 : 1 ≤ p.n := h.1
    split
    · exact ⟨by show 0 ≤ p.n; omega, by show 0 ≤ p.n; omega⟩
    · split
      · exact ⟨by show 0 ≤ p.n; omega, Int.le_refl _⟩
      · exact ⟨Int.le_refl _, Int.natCast_nonneg _⟩
  · rename_i hk
    rw [if_neg (fun e => hk (.inl e)), if_neg (fun e => hk (.inr e))]
    exact ⟨Int.le_refl _, Int.natCast_nonneg _⟩

theorem lengths_ok (d : List Pc) (hd : d.length ≤ 1099511627776) (hs : ∀ p, p ∈ d → p.small) : ACalls Tryz.prog 49 [.vs (d.map Pc.av) .no] σ (fun v σ' => v = tup3 (lengthsP d) ∧ Ext σ σ') := by
  refine FOk.calls ok49 (by simp [a49]) ?_
  show AW _ _ _ c49 _ _ _
  unfold c49
  refine AW.seq (AW.rg hmix ?_)
  try unfold r49_0
  simp -implicitDefEqProofs only [↓W0, ↓reduceIte, W, reduceCtorEq, Nat.reduceEqDiff, Int.reduceLT, Int.reduceLE, Int.reduceEq, Nat.reduceAdd, Nat.reduceMul, Nat.reduceLeDiff, Nat.reduceLT, Nat.reduceMod, Nat.reduceSub, Nat.reduceDiv, Int.reduceAdd, Int.reduceSub, Int.reduceToNat, Int.reduceNeg, r49_0]
  refine AW.seq (AW.seq (AW.rg hmix ?_))
  by_cases hl : 4096 < d.length
  · have hl' : (4096 : Int) < (d.length : Int) := by omega
    try unfold r49_1
    simp -implicitDefEqProofs only [↓W0, ↓reduceIte, W, reduceCtorEq, Nat.reduceEqDiff, Int.reduceLT, Int.reduceLE, Int.reduceEq, Nat.reduceAdd, Nat.reduceMul, Nat.reduceLeDiff, Nat.reduceLT, Nat.reduceMod, Nat.reduceSub, Nat.reduceDiv, Int.reduceAdd, Int.reduceSub, Int.reduceToNat, Int.reduceNeg, r49_1, List.length_map, hl']
    refine AW.cond (t := true) rfl (AW.seq (AW.rg hmix ?_))
    try unfold r49_2
    simp -implicitDefEqProofs only [↓W0, ↓reduceIte, W, reduceCtorEq, Nat.reduceEqDiff, Int.reduceLT, Int.reduceLE, Int.reduceEq, Nat.reduceAdd, Nat.reduceMul, Nat.reduceLeDiff, Nat.reduceLT, Nat.reduceMod, Nat.reduceSub, Nat.reduceDiv, Int.reduceAdd, Int.reduceSub, Int.reduceToNat, Int.reduceNeg, r49_2]
    refine AW.ret ?_
    simp -implicitDefEqProofs only [↓W0, ↓reduceIte, W, reduceCtorEq, Nat.reduceEqDiff, Int.reduceLT, Int.reduceLE, Int.reduceEq, Nat.reduceAdd, Nat.reduceMul, Nat.reduceLeDiff, Nat.reduceLT, Nat.reduceMod, Nat.reduceSub, Nat.reduceDiv, Int.reduceAdd, Int.reduceSub, Int.reduceToNat, Int.reduceNeg, a49]
    exact ⟨by simp [lengthsP, hl, tup3], Ext.refl _⟩
  · have hl' : ¬ ((4096 : Int) < (d.length : Int)) := by omega
    try unfold r49_1
    simp -implicitDefEqProofs only [↓W0, ↓reduceIte, W, reduceCtorEq, Nat.reduceEqDiff, Int.reduceLT, Int.reduceLE, Int.reduceEq, Nat.reduceAdd, Nat.reduceMul, Nat.reduceLeDiff, Nat.reduceLT, Nat.reduceMod, Nat.reduceSub, Nat.reduceDiv, Int.reduceAdd, Int.reduceSub, Int.reduceToNat, Int.reduceNeg, r49_1, List.length_map, hl']
    refine AW.cond (t := false) rfl (AW.skip ?_)
    simp -implicitDefEqProofs only [↓W0, ↓reduceIte, W, reduceCtorEq, Nat.reduceEqDiff, Int.reduceLT, Int.reduceLE, Int.reduceEq, Nat.reduceAdd, Nat.reduceMul, Nat.reduceLeDiff, Nat.reduceLT, Nat.reduceMod, Nat.reduceSub, Nat.reduceDiv, Int.reduceAdd, Int.reduceSub, Int.reduceToNat, Int.reduceNeg]
    refine AW.seq (AW.seq (AW.rg hmix ?_))
    try unfold r49_3
    simp -implicitDefEqProofs only [↓W0, ↓reduceIte, W, reduceCtorEq, Nat.reduceEqDiff, Int.reduceLT, Int.reduceLE, Int.reduceEq, Nat.reduceAdd, Nat.reduceMul, Nat.reduceLeDiff, Nat.reduceLT, Nat.reduceMod, Nat.reduceSub, Nat.reduceDiv, Int.reduceAdd, Int.reduceSub, Int.reduceToNat, Int.reduceNeg, r49_3, List.length_map]
    refine AW.block (AW.loop (fun k ρ σ' => ∃ (dn rs : List Pc) (i o : Int), d = dn ++ rs ∧ k = rs.length ∧ lenLoop d 0 0 = lenLoop rs i o ∧ 0 ≤ i ∧ i ≤ 1048576 ∧ 0 ≤ o ∧ o ≤ 1048576 ∧ ρ 2 = .int .i64 i ∧ ρ 3 = .int .i64 o ∧
      ρ 12 = .vs (d.map Pc.av) .no ∧ ρ 13 = .int .i64 (d.length : Nat) ∧ ρ 14 = .int .i64 (dn.length : Nat) ∧ Ext σ σ') d.length
      ⟨[], d, 0, 0, rfl, rfl, rfl, by decide, by decide, by decide, by decide, by simp -implicitDefEqProofs only [↓W0, ↓reduceIte, W, reduceCtorEq, Nat.reduceEqDiff, Int.reduceLT, Int.reduceLE, Int.reduceEq, Nat.reduceAdd, Nat.reduceMul, Nat.reduceLeDiff, Nat.reduceLT, Nat.reduceMod, Nat.reduceSub, Nat.reduceDiv, Int.reduceAdd, Int.reduceSub, Int.reduceToNat, Int.reduceNeg], by simp -implicitDefEqProofs only [↓W0, ↓reduceIte, W, reduceCtorEq, Nat.reduceEqDiff, Int.reduceLT, Int.reduceLE, Int.reduceEq, Nat.reduceAdd, Nat.reduceMul, Nat.reduceLeDiff, Nat.reduceLT, Nat.reduceMod, Nat.reduceSub, Nat.reduceDiv, Int.reduceAdd, Int.reduceSub, Int.reduceToNat, Int.reduceNeg], by simp -implicitDefEqProofs only [↓W0, ↓reduceIte, W, reduceCtorEq, Nat.reduceEqDiff, Int.reduceLT, Int.reduceLE, Int.reduceEq, Nat.reduceAdd, Nat.reduceMul, Nat.reduceLeDiff, Nat.reduceLT, Nat.reduceMod, Nat.reduceSub, Nat.reduceDiv, Int.reduceAdd, Int.reduceSub, Int.reduceToNat, Int.reduceNeg], by simp -implicitDefEqProofs only [↓W0, ↓reduceIte, W, reduceCtorEq, Nat.reduceEqDiff, Int.reduceLT, Int.reduceLE, Int.reduceEq, Nat.reduceAdd, Nat.reduceMul, Nat.reduceLeDiff, Nat.reduceLT, Nat.reduceMod, Nat.reduceSub, Nat.reduceDiv, Int.reduceAdd, Int.reduceSub, Int.reduceToNat, Int.reduceNeg], by simp -implicitDefEqProofs only [↓W0, ↓reduceIte, W, reduceCtorEq, Nat.reduceEqDiff, Int.reduceLT, Int.reduceLE, Int.reduceEq, Nat.reduceAdd, Nat.reduceMul, Nat.reduceLeDiff, Nat.reduceLT, Nat.reduceMod, Nat.reduceSub, Nat.reduceDiv, Int.reduceAdd, Int.reduceSub, Int.reduceToNat, Int.reduceNeg]; rfl, Ext.refl _⟩ ?_)
    rintro k ρ σ' ⟨dn, rs, i, o, hdr, hk, hloop, i1, i2, o1, o2, t2, t3, t12, t13, t14, hE⟩
    unfold l49_14
    refine AW.seq (AW.rg hmix ?_)
    try unfold r49_4
    simp -implicitDefEqProofs only [↓W0, ↓reduceIte, W, reduceCtorEq, Nat.reduceEqDiff, Int.reduceLT, Int.reduceLE, Int.reduceEq, Nat.reduceAdd, Nat.reduceMul, Nat.reduceLeDiff, Nat.reduceLT, Nat.reduceMod, Nat.reduceSub, Nat.reduceDiv, Int.reduceAdd, Int.reduceSub, Int.reduceToNat, Int.reduceNeg, r49_4, t13, t14]
    refine AW.seq ?_
    have hlen : d.length = dn.length + rs.length := by rw [hdr, List.length_append]
    cases rs with
    | nil =>
      have hi : ¬ (dn.length < d.length) := by simp at hlen; omega
      refine AW.cond (t := false) (by simp -implicitDefEqProofs only [↓W0, ↓reduceIte, W, reduceCtorEq, Nat.reduceEqDiff, Int.reduceLT, Int.reduceLE, Int.reduceEq, Nat.reduceAdd, Nat.reduceMul, Nat.reduceLeDiff, Nat.reduceLT, Nat.reduceMod, Nat.reduceSub, Nat.reduceDiv, Int.reduceAdd, Int.reduceSub, Int.reduceToNat, Int.reduceNeg, Int.ofNat_lt, hi]) (AW.exit ?_)
      simp -implicitDefEqProofs only [↓W0, ↓reduceIte, W, reduceCtorEq, Nat.reduceEqDiff, Int.reduceLT, Int.reduceLE, Int.reduceEq, Nat.reduceAdd, Nat.reduceMul, Nat.reduceLeDiff, Nat.reduceLT, Nat.reduceMod, Nat.reduceSub, Nat.reduceDiv, Int.reduceAdd, Int.reduceSub, Int.reduceToNat, Int.reduceNeg]
      refine AW.seq (AW.rg hmix ?_)
      try unfold r49_14
      simp -implicitDefEqProofs only [↓W0, ↓reduceIte, W, reduceCtorEq, Nat.reduceEqDiff, Int.reduceLT, Int.reduceLE, Int.reduceEq, Nat.reduceAdd, Nat.reduceMul, Nat.reduceLeDiff, Nat.reduceLT, Nat.reduceMod, Nat.reduceSub, Nat.reduceDiv, Int.reduceAdd, Int.reduceSub, Int.reduceToNat, Int.reduceNeg, r49_14, t2, t3]
      refine AW.ret ?_
      simp -implicitDefEqProofs only [↓W0, ↓reduceIte, W, reduceCtorEq, Nat.reduceEqDiff, Int.reduceLT, Int.reduceLE, Int.reduceEq, Nat.reduceAdd, Nat.reduceMul, Nat.reduceLeDiff, Nat.reduceLT, Nat.reduceMod, Nat.reduceSub, Nat.reduceDiv, Int.reduceAdd, Int.reduceSub, Int.reduceToNat, Int.reduceNeg, a49]
      refine ⟨?_, hE⟩
      simp only [lengthsP, if_neg hl, hloop, lenLoop, tup3]
    | cons p rs =>
      have hi : dn.length < d.length := by simp at hlen; omega
      have hg : (d.map Pc.av)[dn.length]? = some p.av := by rw [hdr]; simp
      have hps := hs p (by rw [hdr]; simp)
      refine AW.cond (t := true) (by simp -implicitDefEqProofs only [↓W0, ↓reduceIte, W, reduceCtorEq, Nat.reduceEqDiff, Int.reduceLT, Int.reduceLE, Int.reduceEq, Nat.reduceAdd, Nat.reduceMul, Nat.reduceLeDiff, Nat.reduceLT, Nat.reduceMod, Nat.reduceSub, Nat.reduceDiv, Int.reduceAdd, Int.reduceSub, Int.reduceToNat, Int.reduceNeg, Int.ofNat_lt, hi]) (AW.skip ?_)
      simp -implicitDefEqProofs only [↓W0, ↓reduceIte, W, reduceCtorEq, Nat.reduceEqDiff, Int.reduceLT, Int.reduceLE, Int.reduceEq, Nat.reduceAdd, Nat.reduceMul, Nat.reduceLeDiff, Nat.reduceLT, Nat.reduceMod, Nat.reduceSub, Nat.reduceDiv, Int.reduceAdd, Int.reduceSub, Int.reduceToNat, Int.reduceNeg]
      refine AW.seq (AW.block (AW.seq (AW.rg hmix ?_)))
      try unfold r49_5
      simp -implicitDefEqProofs only [↓W0, ↓reduceIte, W, reduceCtorEq, Nat.reduceEqDiff, Int.reduceLT, Int.reduceLE, Int.reduceEq, Nat.reduceAdd, Nat.reduceMul, Nat.reduceLeDiff, Nat.reduceLT, Nat.reduceMod, Nat.reduceSub, Nat.reduceDiv, Int.reduceAdd, Int.reduceSub, Int.reduceToNat, Int.reduceNeg, r49_5, t12, t14, hg, Pc.av, Pc.cs]
      refine AW.seq (AW.seq (AW.rg hmix ?_))
      try unfold r49_6
      simp -implicitDefEqProofs only [↓W0, ↓reduceIte, W, reduceCtorEq, Nat.reduceEqDiff, Int.reduceLT, Int.reduceLE, Int.reduceEq, Nat.reduceAdd, Nat.reduceMul, Nat.reduceLeDiff, Nat.reduceLT, Nat.reduceMod, Nat.reduceSub, Nat.reduceDiv, Int.reduceAdd, Int.reduceSub, Int.reduceToNat, Int.reduceNeg, r49_6]
      refine call_go (valid_st p) ?_
      rintro v σ'' ⟨rfl, rfl⟩
      have hE2 := (hE.newer (.arr [.int .u8 0, .int .i64 0, .str []])).set (β := σ'.n) hE.1 (.arr [.int .u8 p.k, .int .i64 p.n, .str p.tx])
      cases hv : validP p with
      | false =>
        simp -implicitDefEqProofs only [↓W0, ↓reduceIte, W, reduceCtorEq, Nat.reduceEqDiff, Int.reduceLT, Int.reduceLE, Int.reduceEq, Nat.reduceAdd, Nat.reduceMul, Nat.reduceLeDiff, Nat.reduceLT, Nat.reduceMod, Nat.reduceSub, Nat.reduceDiv, Int.reduceAdd, Int.reduceSub, Int.reduceToNat, Int.reduceNeg]
        refine AW.cond (t := true) rfl (AW.seq (AW.rg hmix ?_))
        try unfold r49_7
        simp -implicitDefEqProofs only [↓W0, ↓reduceIte, W, reduceCtorEq, Nat.reduceEqDiff, Int.reduceLT, Int.reduceLE, Int.reduceEq, Nat.reduceAdd, Nat.reduceMul, Nat.reduceLeDiff, Nat.reduceLT, Nat.reduceMod, Nat.reduceSub, Nat.reduceDiv, Int.reduceAdd, Int.reduceSub, Int.reduceToNat, Int.reduceNeg, r49_7]
        refine AW.ret ?_
        simp -implicitDefEqProofs only [↓W0, ↓reduceIte, W, reduceCtorEq, Nat.reduceEqDiff, Int.reduceLT, Int.reduceLE, Int.reduceEq, Nat.reduceAdd, Nat.reduceMul, Nat.reduceLeDiff, Nat.reduceLT, Nat.reduceMod, Nat.reduceSub, Nat.reduceDiv, Int.reduceAdd, Int.reduceSub, Int.reduceToNat, Int.reduceNeg, a49]
        refine ⟨?_, hE2⟩
        simp [lengthsP, hl, hloop, lenLoop, hv, tup3]
      | true =>
        simp -implicitDefEqProofs only [↓W0, ↓reduceIte, W, reduceCtorEq, Nat.reduceEqDiff, Int.reduceLT, Int.reduceLE, Int.reduceEq, Nat.reduceAdd, Nat.reduceMul, Nat.reduceLeDiff, Nat.reduceLT, Nat.reduceMod, Nat.reduceSub, Nat.reduceDiv, Int.reduceAdd, Int.reduceSub, Int.reduceToNat, Int.reduceNeg]
        refine AW.cond (t := false) rfl (AW.skip ?_)
        simp -implicitDefEqProofs only [↓W0, ↓reduceIte, W, reduceCtorEq, Nat.reduceEqDiff, Int.reduceLT, Int.reduceLE, Int.reduceEq, Nat.reduceAdd, Nat.reduceMul, Nat.reduceLeDiff, Nat.reduceLT, Nat.reduceMod, Nat.reduceSub, Nat.reduceDiv, Int.reduceAdd, Int.reduceSub, Int.reduceToNat, Int.reduceNeg]
        refine AW.seq (AW.rg hmix ?_)
        try unfold r49_8
        simp -implicitDefEqProofs only [↓W0, ↓reduceIte, W, reduceCtorEq, Nat.reduceEqDiff, Int.reduceLT, Int.reduceLE, Int.reduceEq, Nat.reduceAdd, Nat.reduceMul, Nat.reduceLeDiff, Nat.reduceLT, Nat.reduceMod, Nat.reduceSub, Nat.reduceDiv, Int.reduceAdd, Int.reduceSub, Int.reduceToNat, Int.reduceNeg, r49_8]
        refine call_go (sizes_st p) ?_
        rintro v σ'' ⟨rfl, rfl⟩
        simp -implicitDefEqProofs only [↓W0, ↓reduceIte, W, reduceCtorEq, Nat.reduceEqDiff, Int.reduceLT, Int.reduceLE, Int.reduceEq, Nat.reduceAdd, Nat.reduceMul, Nat.reduceLeDiff, Nat.reduceLT, Nat.reduceMod, Nat.reduceSub, Nat.reduceDiv, Int.reduceAdd, Int.reduceSub, Int.reduceToNat, Int.reduceNeg]
        refine AW.seq (AW.seq (AW.rg hmix ?_))
        obtain ⟨s1, s2⟩ := sizes_nn hv
        have w1 : wr .i64 (1048576 - i) = 1048576 - i := wr_i (by omega)
        have w2 : wr .i64 (1048576 - o) = 1048576 - o := wr_i (by omega)
        by_cases ha : 1048576 - i < (sizesP p).1
        · try unfold r49_9
          simp -implicitDefEqProofs only [↓W0, ↓reduceIte, W, reduceCtorEq, Nat.reduceEqDiff, Int.reduceLT, Int.reduceLE, Int.reduceEq, Nat.reduceAdd, Nat.reduceMul, Nat.reduceLeDiff, Nat.reduceLT, Nat.reduceMod, Nat.reduceSub, Nat.reduceDiv, Int.reduceAdd, Int.reduceSub, Int.reduceToNat, Int.reduceNeg, r49_9, t2, t3, w1, w2, ha]
          refine AW.cond (t := true) rfl (AW.seq (AW.rg hmix ?_))
          try unfold r49_10
          simp -implicitDefEqProofs only [↓W0, ↓reduceIte, W, reduceCtorEq, Nat.reduceEqDiff, Int.reduceLT, Int.reduceLE, Int.reduceEq, Nat.reduceAdd, Nat.reduceMul, Nat.reduceLeDiff, Nat.reduceLT, Nat.reduceMod, Nat.reduceSub, Nat.reduceDiv, Int.reduceAdd, Int.reduceSub, Int.reduceToNat, Int.reduceNeg, r49_10]
          refine AW.ret ?_
          simp -implicitDefEqProofs only [↓W0, ↓reduceIte, W, reduceCtorEq, Nat.reduceEqDiff, Int.reduceLT, Int.reduceLE, Int.reduceEq, Nat.reduceAdd, Nat.reduceMul, Nat.reduceLeDiff, Nat.reduceLT, Nat.reduceMod, Nat.reduceSub, Nat.reduceDiv, Int.reduceAdd, Int.reduceSub, Int.reduceToNat, Int.reduceNeg, a49]
          refine ⟨?_, hE2⟩
          simp [lengthsP, hl, hloop, lenLoop, hv, ha, tup3]
        · by_cases hb : 1048576 - o < (sizesP p).2
          · try unfold r49_9
            simp -implicitDefEqProofs only [↓W0, ↓reduceIte, W, reduceCtorEq, Nat.reduceEqDiff, Int.reduceLT, Int.reduceLE, Int.reduceEq, Nat.reduceAdd, Nat.reduceMul, Nat.reduceLeDiff, Nat.reduceLT, Nat.reduceMod, Nat.reduceSub, Nat.reduceDiv, Int.reduceAdd, Int.reduceSub, Int.reduceToNat, Int.reduceNeg, r49_9, t2, t3, w1, w2, ha, hb]
            refine AW.cond (t := true) rfl (AW.seq (AW.rg hmix ?_))
            try unfold r49_10
            simp -implicitDefEqProofs only [↓W0, ↓reduceIte, W, reduceCtorEq, Nat.reduceEqDiff, Int.reduceLT, Int.reduceLE, Int.reduceEq, Nat.reduceAdd, Nat.reduceMul, Nat.reduceLeDiff, Nat.reduceLT, Nat.reduceMod, Nat.reduceSub, Nat.reduceDiv, Int.reduceAdd, Int.reduceSub, Int.reduceToNat, Int.reduceNeg, r49_10]
            refine AW.ret ?_
            simp -implicitDefEqProofs only [↓W0, ↓reduceIte, W, reduceCtorEq, Nat.reduceEqDiff, Int.reduceLT, Int.reduceLE, Int.reduceEq, Nat.reduceAdd, Nat.reduceMul, Nat.reduceLeDiff, Nat.reduceLT, Nat.reduceMod, Nat.reduceSub, Nat.reduceDiv, Int.reduceAdd, Int.reduceSub, Int.reduceToNat, Int.reduceNeg, a49]
            refine ⟨?_, hE2⟩
            simp [lengthsP, hl, hloop, lenLoop, hv, hb, tup3]
          · try unfold r49_9
            simp -implicitDefEqProofs only [↓W0, ↓reduceIte, W, reduceCtorEq, Nat.reduceEqDiff, Int.reduceLT, Int.reduceLE, Int.reduceEq, Nat.reduceAdd, Nat.reduceMul, Nat.reduceLeDiff, Nat.reduceLT, Nat.reduceMod, Nat.reduceSub, Nat.reduceDiv, Int.reduceAdd, Int.reduceSub, Int.reduceToNat, Int.reduceNeg, r49_9, t2, t3, w1, w2, ha, hb]
            refine AW.cond (t := false) rfl (AW.skip ?_)
            simp -implicitDefEqProofs only [↓W0, ↓reduceIte, W, reduceCtorEq, Nat.reduceEqDiff, Int.reduceLT, Int.reduceLE, Int.reduceEq, Nat.reduceAdd, Nat.reduceMul, Nat.reduceLeDiff, Nat.reduceLT, Nat.reduceMod, Nat.reduceSub, Nat.reduceDiv, Int.reduceAdd, Int.reduceSub, Int.reduceToNat, Int.reduceNeg]
            refine AW.seq (AW.rg hmix ?_)
            try unfold r49_11
            simp -implicitDefEqProofs only [↓W0, ↓reduceIte, W, reduceCtorEq, Nat.reduceEqDiff, Int.reduceLT, Int.reduceLE, Int.reduceEq, Nat.reduceAdd, Nat.reduceMul, Nat.reduceLeDiff, Nat.reduceLT, Nat.reduceMod, Nat.reduceSub, Nat.reduceDiv, Int.reduceAdd, Int.reduceSub, Int.reduceToNat, Int.reduceNeg, r49_11, t2]
            refine AW.rg hmix ?_
            try unfold r49_12
            simp -implicitDefEqProofs only [↓W0, ↓reduceIte, W, reduceCtorEq, Nat.reduceEqDiff, Int.reduceLT, Int.reduceLE, Int.reduceEq, Nat.reduceAdd, Nat.reduceMul, Nat.reduceLeDiff, Nat.reduceLT, Nat.reduceMod, Nat.reduceSub, Nat.reduceDiv, Int.reduceAdd, Int.reduceSub, Int.reduceToNat, Int.reduceNeg, r49_12, t3]
            refine AW.rg hmix ?_
            try unfold r49_13
            simp -implicitDefEqProofs only [↓W0, ↓reduceIte, W, reduceCtorEq, Nat.reduceEqDiff, Int.reduceLT, Int.reduceLE, Int.reduceEq, Nat.reduceAdd, Nat.reduceMul, Nat.reduceLeDiff, Nat.reduceLT, Nat.reduceMod, Nat.reduceSub, Nat.reduceDiv, Int.reduceAdd, Int.reduceSub, Int.reduceToNat, Int.reduceNeg, r49_13, t14]
            refine ⟨rs.length, by rw [hk]; simp, dn ++ [p], rs, i + (sizesP p).1, o + (sizesP p).2, by rw [hdr]; simp, rfl, ?_, by omega, by omega, by omega, by omega, ?_, ?_, t12, t13, ?_, hE2⟩
            · rw [hloop]; simp only [lenLoop, hv, if_true, ha, hb, or_self, if_false]
            · rw [wr_i (by omega)]
            · rw [wr_i (by omega)]
            · rw [wr_i (by omega)]; simp

theorem pur_pcs (d : List Pc) : purL (d.map Pc.av) = true := purL_all fun x hx => by
  obtain ⟨k, _, rfl⟩ := List.mem_map.1 hx
  rfl
theorem lengths_st (d : List Pc) (hd : d.length ≤ 1099511627776) (hs : ∀ p, p ∈ d → p.small) : ACalls Tryz.prog 49 [.vs (d.map Pc.av) .no] σ (fun v σ' => v = tup3 (lengthsP d) ∧ σ' = σ) :=
  (lengths_ok d hd hs).still (by simp only [purL, AV.pur, Tok.pur, pur_pcs, Bool.and_self]) rfl
theorem dcheck_st (d : List Pc) (hd : d.length ≤ 1099511627776) (hs : ∀ p, p ∈ d → p.small) : ACalls Tryz.prog 12 [.vs (d.map Pc.av) .no] σ (fun v σ' => v = .int .i64 (lengthsP d).2.2 ∧ σ' = σ) := by
  refine FOk.calls ok12 (by simp [a12]) ?_
  show AW _ _ _ c12 _ _ _
  unfold c12
  refine AW.seq (AW.rg hmix ?_)
  try unfold r12_0
  simp -implicitDefEqProofs only [↓W0, ↓reduceIte, W, reduceCtorEq, Nat.reduceEqDiff, Int.reduceLT, Int.reduceLE, Int.reduceEq, Nat.reduceAdd, Nat.reduceMul, Nat.reduceLeDiff, Nat.reduceLT, Nat.reduceMod, Nat.reduceSub, Nat.reduceDiv, Int.reduceAdd, Int.reduceSub, Int.reduceToNat, Int.reduceNeg, r12_0]
  refine AW.seq (AW.rg hmix ?_)
  try unfold r12_1
  simp -implicitDefEqProofs only [↓W0, ↓reduceIte, W, reduceCtorEq, Nat.reduceEqDiff, Int.reduceLT, Int.reduceLE, Int.reduceEq, Nat.reduceAdd, Nat.reduceMul, Nat.reduceLeDiff, Nat.reduceLT, Nat.reduceMod, Nat.reduceSub, Nat.reduceDiv, Int.reduceAdd, Int.reduceSub, Int.reduceToNat, Int.reduceNeg, r12_1]
  refine call_go (lengths_st d hd hs) ?_
  rintro v σ'' ⟨rfl, rfl⟩
  simp -implicitDefEqProofs only [↓W0, ↓reduceIte, W, reduceCtorEq, Nat.reduceEqDiff, Int.reduceLT, Int.reduceLE, Int.reduceEq, Nat.reduceAdd, Nat.reduceMul, Nat.reduceLeDiff, Nat.reduceLT, Nat.reduceMod, Nat.reduceSub, Nat.reduceDiv, Int.reduceAdd, Int.reduceSub, Int.reduceToNat, Int.reduceNeg, tup3]
  refine AW.seq (AW.rg hmix ?_)
  try unfold r12_2
  simp -implicitDefEqProofs only [↓W0, ↓reduceIte, W, reduceCtorEq, Nat.reduceEqDiff, Int.reduceLT, Int.reduceLE, Int.reduceEq, Nat.reduceAdd, Nat.reduceMul, Nat.reduceLeDiff, Nat.reduceLT, Nat.reduceMod, Nat.reduceSub, Nat.reduceDiv, Int.reduceAdd, Int.reduceSub, Int.reduceToNat, Int.reduceNeg, r12_2]
  refine AW.ret ?_
  simp -implicitDefEqProofs only [↓W0, ↓reduceIte, W, reduceCtorEq, Nat.reduceEqDiff, Int.reduceLT, Int.reduceLE, Int.reduceEq, Nat.reduceAdd, Nat.reduceMul, Nat.reduceLeDiff, Nat.reduceLT, Nat.reduceMod, Nat.reduceSub, Nat.reduceDiv, Int.reduceAdd, Int.reduceSub, Int.reduceToNat, Int.reduceNeg, a12]

theorem keep_st (n : Int) : ACalls Tryz.prog 16 [.int .i64 n] σ (fun v σ' => v = (Pc.mk 1 n []).av ∧ σ' = σ) := by
  refine ACalls.still (R := fun _ => True) ?_ rfl rfl
  refine FOk.calls ok16 (by simp [a16]) ?_
  show AW _ _ _ c16 _ _ _
  unfold c16
  refine AW.seq (AW.rg hmix ?_)
  try unfold r16_0
  simp -implicitDefEqProofs only [↓W0, ↓reduceIte, W, reduceCtorEq, Nat.reduceEqDiff, Int.reduceLT, Int.reduceLE, Int.reduceEq, Nat.reduceAdd, Nat.reduceMul, Nat.reduceLeDiff, Nat.reduceLT, Nat.reduceMod, Nat.reduceSub, Nat.reduceDiv, Int.reduceAdd, Int.reduceSub, Int.reduceToNat, Int.reduceNeg, r16_0]
  refine AW.seq (AW.rg hmix ?_)
  try unfold r16_1
  simp -implicitDefEqProofs only [↓W0, ↓reduceIte, W, reduceCtorEq, Nat.reduceEqDiff, Int.reduceLT, Int.reduceLE, Int.reduceEq, Nat.reduceAdd, Nat.reduceMul, Nat.reduceLeDiff, Nat.reduceLT, Nat.reduceMod, Nat.reduceSub, Nat.reduceDiv, Int.reduceAdd, Int.reduceSub, Int.reduceToNat, Int.reduceNeg, r16_1]
  refine AW.ret ?_
  simp -implicitDefEqProofs only [↓W0, ↓reduceIte, W, reduceCtorEq, Nat.reduceEqDiff, Int.reduceLT, Int.reduceLE, Int.reduceEq, Nat.reduceAdd, Nat.reduceMul, Nat.reduceLeDiff, Nat.reduceLT, Nat.reduceMod, Nat.reduceSub, Nat.reduceDiv, Int.reduceAdd, Int.reduceSub, Int.reduceToNat, Int.reduceNeg, a16, Pc.av, Pc.cs]
theorem put_st (s : List UInt8) : ACalls Tryz.prog 20 [.str s] σ (fun v σ' => v = (Pc.mk 2 0 s).av ∧ σ' = σ) := by
  refine ACalls.still (R := fun _ => True) ?_ rfl rfl
  refine FOk.calls ok20 (by simp [a20]) ?_
  show AW _ _ _ c20 _ _ _
  unfold c20
  refine AW.seq (AW.rg hmix ?_)
  try unfold r20_0
  simp -implicitDefEqProofs only [↓W0, ↓reduceIte, W, reduceCtorEq, Nat.reduceEqDiff, Int.reduceLT, Int.reduceLE, Int.reduceEq, Nat.reduceAdd, Nat.reduceMul, Nat.reduceLeDiff, Nat.reduceLT, Nat.reduceMod, Nat.reduceSub, Nat.reduceDiv, Int.reduceAdd, Int.reduceSub, Int.reduceToNat, Int.reduceNeg, r20_0]
  refine AW.seq (AW.rg hmix ?_)
  try unfold r20_1
  simp -implicitDefEqProofs only [↓W0, ↓reduceIte, W, reduceCtorEq, Nat.reduceEqDiff, Int.reduceLT, Int.reduceLE, Int.reduceEq, Nat.reduceAdd, Nat.reduceMul, Nat.reduceLeDiff, Nat.reduceLT, Nat.reduceMod, Nat.reduceSub, Nat.reduceDiv, Int.reduceAdd, Int.reduceSub, Int.reduceToNat, Int.reduceNeg, r20_1]
  refine AW.ret ?_
  simp -implicitDefEqProofs only [↓W0, ↓reduceIte, W, reduceCtorEq, Nat.reduceEqDiff, Int.reduceLT, Int.reduceLE, Int.reduceEq, Nat.reduceAdd, Nat.reduceMul, Nat.reduceLeDiff, Nat.reduceLT, Nat.reduceMod, Nat.reduceSub, Nat.reduceDiv, Int.reduceAdd, Int.reduceSub, Int.reduceToNat, Int.reduceNeg, a20, Pc.av, Pc.cs]

end Go.Proofs.YtekhblefchceaaaGreat.AM

/- A contract: patch.Apply of a delta that makes too long a text. -/
set_option linter.unusedSimpArgs false
set_option linter.unusedVariables false
set_option maxRecDepth 20000
namespace Go.Proofs.YtekhblefchceaaaGreat.AM
open Go Go.Proofs
variable {σ : St}

theorem er_pcs (l : List Pc) (t : Tok) : (AV.vs (l.map Pc.av) t).er = .vs (l.map Pc.av) .no := by
  simp only [AV.er, AV.mp, mpL_eq, List.map_map]
  congr 1
theorem lengths_er (d : List Pc) (t : Tok) (hd : d.length ≤ 1099511627776) (hs : ∀ p, p ∈ d → p.small) : ACalls Tryz.prog 49 [.vs (d.map Pc.av) t] σ (fun v σ' => v = tup3 (lengthsP d) ∧ σ' = σ) := by
  refine ACalls.args ?_
  simp only [List.map_cons, List.map_nil, er_pcs]
  exact lengths_st d hd hs
/-- The zero change. -/
def ch0 : List AV := [.int .u64 0, .int .i64 0, .int .i64 0, .int .i64 0, .int .i64 0, .vs [] .ex, .vs [] .ex]

theorem apply_long (p : AV) (h ht b r l a1 a2 a3 a4 a5 : Int) (a6 : List UInt8) (a7 : List AV) (a8 : Tok) (d : List Pc) (t : Tok) (hd : d.length ≤ 1099511627776) (hs : ∀ p, p ∈ d → p.small)
    (hk : ACalls Tryz.prog 53 [p, .agg [.int .u64 h, .int .i64 ht, .int .i64 b, .int .i64 r, .int .i64 l]] ((σ.new (.arr [.int .u64 h, .int .i64 ht, .int .i64 b, .int .i64 r, .int .i64 l])).new (.arr ch0))
      (fun v σ' => v = .tup [.agg [.int .u64 a1, .int .i64 a2, .int .i64 a3, .int .i64 a4, .int .i64 a5, .str a6, .vs a7 a8], .int .i64 0] ∧ σ' = (σ.new (.arr [.int .u64 h, .int .i64 ht, .int .i64 b, .int .i64 r, .int .i64 l])).new (.arr ch0)))
    (hl : (lengthsP d).2.2 = 0) (hin : (lengthsP d).1 = b) (hout : 65536 < (lengthsP d).2.1) :
    ACalls Tryz.prog 17 [p, .agg [.int .u64 h, .int .i64 ht, .int .i64 b, .int .i64 r, .int .i64 l], .vs (d.map Pc.av) t] σ (fun v σ' => v = .tup [.agg ch0, .int .i64 5] ∧ Ext σ σ') := by
  refine FOk.calls ok17 (by simp [a17]) ?_
  show AW _ _ _ c17 _ _ _
  unfold c17
  refine AW.seq (AW.rg hmix ?_)
  try unfold r17_0
  simp -implicitDefEqProofs only [↓W0, ↓reduceIte, W, reduceCtorEq, Nat.reduceEqDiff, Int.reduceLT, Int.reduceLE, Int.reduceEq, Nat.reduceAdd, Nat.reduceMul, Nat.reduceLeDiff, Nat.reduceLT, Nat.reduceMod, Nat.reduceSub, Nat.reduceDiv, Int.reduceAdd, Int.reduceSub, Int.reduceToNat, Int.reduceNeg, r17_0]
  refine AW.seq (AW.rg hmix ?_)
  try unfold r17_1
  simp -implicitDefEqProofs only [↓W0, ↓reduceIte, W, reduceCtorEq, Nat.reduceEqDiff, Int.reduceLT, Int.reduceLE, Int.reduceEq, Nat.reduceAdd, Nat.reduceMul, Nat.reduceLeDiff, Nat.reduceLT, Nat.reduceMod, Nat.reduceSub, Nat.reduceDiv, Int.reduceAdd, Int.reduceSub, Int.reduceToNat, Int.reduceNeg, r17_1]
  refine call_go hk ?_
  rintro v σ' ⟨rfl, rfl⟩
  simp -implicitDefEqProofs only [↓W0, ↓reduceIte, W, reduceCtorEq, Nat.reduceEqDiff, Int.reduceLT, Int.reduceLE, Int.reduceEq, Nat.reduceAdd, Nat.reduceMul, Nat.reduceLeDiff, Nat.reduceLT, Nat.reduceMod, Nat.reduceSub, Nat.reduceDiv, Int.reduceAdd, Int.reduceSub, Int.reduceToNat, Int.reduceNeg, ch0]
  refine AW.seq (AW.seq (AW.rg hmix ?_))
  try unfold r17_2
  simp -implicitDefEqProofs only [↓W0, ↓reduceIte, W, reduceCtorEq, Nat.reduceEqDiff, Int.reduceLT, Int.reduceLE, Int.reduceEq, Nat.reduceAdd, Nat.reduceMul, Nat.reduceLeDiff, Nat.reduceLT, Nat.reduceMod, Nat.reduceSub, Nat.reduceDiv, Int.reduceAdd, Int.reduceSub, Int.reduceToNat, Int.reduceNeg, r17_2]
  refine AW.cond (t := false) rfl (AW.skip ?_)
  simp -implicitDefEqProofs only [↓W0, ↓reduceIte, W, reduceCtorEq, Nat.reduceEqDiff, Int.reduceLT, Int.reduceLE, Int.reduceEq, Nat.reduceAdd, Nat.reduceMul, Nat.reduceLeDiff, Nat.reduceLT, Nat.reduceMod, Nat.reduceSub, Nat.reduceDiv, Int.reduceAdd, Int.reduceSub, Int.reduceToNat, Int.reduceNeg]
  refine AW.seq (AW.rg hmix ?_)
  try unfold r17_4
  simp -implicitDefEqProofs only [↓W0, ↓reduceIte, W, reduceCtorEq, Nat.reduceEqDiff, Int.reduceLT, Int.reduceLE, Int.reduceEq, Nat.reduceAdd, Nat.reduceMul, Nat.reduceLeDiff, Nat.reduceLT, Nat.reduceMod, Nat.reduceSub, Nat.reduceDiv, Int.reduceAdd, Int.reduceSub, Int.reduceToNat, Int.reduceNeg, r17_4]
  refine call_go (lengths_er d t hd hs) ?_
  rintro v σ' ⟨rfl, rfl⟩
  simp -implicitDefEqProofs only [↓W0, ↓reduceIte, W, reduceCtorEq, Nat.reduceEqDiff, Int.reduceLT, Int.reduceLE, Int.reduceEq, Nat.reduceAdd, Nat.reduceMul, Nat.reduceLeDiff, Nat.reduceLT, Nat.reduceMod, Nat.reduceSub, Nat.reduceDiv, Int.reduceAdd, Int.reduceSub, Int.reduceToNat, Int.reduceNeg, tup3]
  refine AW.seq (AW.block (AW.seq (AW.rg hmix ?_)))
  try unfold r17_5
  simp -implicitDefEqProofs only [↓W0, ↓reduceIte, W, reduceCtorEq, Nat.reduceEqDiff, Int.reduceLT, Int.reduceLE, Int.reduceEq, Nat.reduceAdd, Nat.reduceMul, Nat.reduceLeDiff, Nat.reduceLT, Nat.reduceMod, Nat.reduceSub, Nat.reduceDiv, Int.reduceAdd, Int.reduceSub, Int.reduceToNat, Int.reduceNeg, r17_5, hl]
  refine AW.cond (t := false) rfl (AW.seq (AW.rg hmix ?_))
  try unfold r17_7
  simp -implicitDefEqProofs only [↓W0, ↓reduceIte, W, reduceCtorEq, Nat.reduceEqDiff, Int.reduceLT, Int.reduceLE, Int.reduceEq, Nat.reduceAdd, Nat.reduceMul, Nat.reduceLeDiff, Nat.reduceLT, Nat.reduceMod, Nat.reduceSub, Nat.reduceDiv, Int.reduceAdd, Int.reduceSub, Int.reduceToNat, Int.reduceNeg, r17_7, hin]
  refine AW.cond (t := false) rfl (AW.seq (AW.rg hmix ?_))
  try unfold r17_9
  simp -implicitDefEqProofs only [↓W0, ↓reduceIte, W, reduceCtorEq, Nat.reduceEqDiff, Int.reduceLT, Int.reduceLE, Int.reduceEq, Nat.reduceAdd, Nat.reduceMul, Nat.reduceLeDiff, Nat.reduceLT, Nat.reduceMod, Nat.reduceSub, Nat.reduceDiv, Int.reduceAdd, Int.reduceSub, Int.reduceToNat, Int.reduceNeg, r17_9, hout]
  refine AW.cond (t := true) rfl (AW.seq (AW.rg hmix ?_))
  try unfold r17_10
  simp -implicitDefEqProofs only [↓W0, ↓reduceIte, W, reduceCtorEq, Nat.reduceEqDiff, Int.reduceLT, Int.reduceLE, Int.reduceEq, Nat.reduceAdd, Nat.reduceMul, Nat.reduceLeDiff, Nat.reduceLT, Nat.reduceMod, Nat.reduceSub, Nat.reduceDiv, Int.reduceAdd, Int.reduceSub, Int.reduceToNat, Int.reduceNeg, r17_10]
  refine AW.ret ?_
  simp -implicitDefEqProofs only [↓W0, ↓reduceIte, W, reduceCtorEq, Nat.reduceEqDiff, Int.reduceLT, Int.reduceLE, Int.reduceEq, Nat.reduceAdd, Nat.reduceMul, Nat.reduceLeDiff, Nat.reduceLT, Nat.reduceMod, Nat.reduceSub, Nat.reduceDiv, Int.reduceAdd, Int.reduceSub, Int.reduceToNat, Int.reduceNeg, a17]
  exact ((((Ext.new _ _).newer _).newer _).set (by omega) _).set (by omega) _

end Go.Proofs.YtekhblefchceaaaGreat.AM

