/- Joined: C10, C11. -/
import Derived.Test.YtekhblefchceaaaGreatCA
set_option linter.unusedVariables false
set_option linter.unusedSimpArgs false
/- Contracts: freelist.New. -/
set_option linter.unusedSimpArgs false
set_option linter.unusedVariables false
set_option maxRecDepth 20000
namespace Go.Proofs.YtekhblefchceaaaGreat.AM
open Go Go.Proofs
variable {σ : St}

theorem put_mid {A B : List AV} {x v : AV} {i : Nat} (h : A.length = i) : putCells (A ++ x :: B) i [v] = A ++ v :: B := by
  subst h
  simp [putCells]
theorem flat_rep (n : Nat) (v : AV) : (List.replicate n [v]).flatten = List.replicate n v := by
  induction n with
  | zero => rfl
  | succ n ih => simp [List.replicate_succ, ih]

/-- The stack while it is made: the first i are there. -/
def stk (n i : Nat) : List AV := (List.range i).map fun j => .int .i64 ((n - 1 - j : Nat) : Int)
theorem stk_succ (n i : Nat) : stk n (i + 1) = stk n i ++ [.int .i64 ((n - 1 - i : Nat) : Int)] := by simp [stk, List.range_succ]

/-- A list of free slots at its places: its struct, its stack, its states, its generations. -/
def FlNew (n gens : Nat) (σ : St) (p b1 b2 b3 : Nat) : Prop :=
  lk σ.H p = some (.arr [.hs b1 0 n n, .hs b2 0 n n, .hs b3 0 n n, .int .u64 gens]) ∧
  lk σ.H b1 = some (.arr (stk n n)) ∧ lk σ.H b2 = some (.arr (List.replicate n (.int .u8 0))) ∧ lk σ.H b3 = some (.arr (List.replicate n (.int .u64 1)))

theorem flnew_loop {n gens p b1 b2 b3 : Nat} {σ0 : St} {ρ : Env} (h1 : 1 ≤ n) (h2 : n ≤ 16384) (d1 : b1 ≠ p) (d2 : b2 ≠ p) (d3 : b3 ≠ p) (d4 : b1 ≠ b2) (d5 : b1 ≠ b3) (d6 : b2 ≠ b3) (o1 : σ0.n ≤ b1) (o3 : σ0.n ≤ b3)
    (e0 : ρ 0 = .int .i64 n) (e6 : ρ 6 = .ptr p 0) (l0 : lk σ.H p = some (.arr [.hs b1 0 n n, .hs b2 0 n n, .hs b3 0 n n, .int .u64 gens]))
    (l1 : lk σ.H b1 = some (.arr (List.replicate n (.int .i64 0)))) (l2 : lk σ.H b2 = some (.arr (List.replicate n (.int .u8 0)))) (l3 : lk σ.H b3 = some (.arr (List.replicate n (.int .u64 0)))) (hE : Ext σ0 σ) (hn : σ.n = σ0.n + 4)
    {K : AV → St → Prop} (hK : ∀ σ', FlNew n gens σ' p b1 b2 b3 → Ext σ0 σ' → σ'.n = σ0.n + 4 → K (.tup [.ptr p 0, .int .i64 0]) σ') :
    AW Tryz.prog none a81.nt (.seq (.seq (.rg r81_4) (.block 0 (.loop l81_10))) (.seq (.rg r81_10) (.ret))) (FPost a81.res K) ρ σ := by
  refine AW.seq (AW.seq (AW.rg hmix ?_))
  try unfold r81_4
  simp -implicitDefEqProofs only [↓W0, ↓reduceIte, W, reduceCtorEq, Nat.reduceEqDiff, Int.reduceLT, Int.reduceLE, Int.reduceEq, Nat.reduceAdd, Nat.reduceMul, Nat.reduceLeDiff, Nat.reduceLT, Nat.reduceMod, Nat.reduceSub, Nat.reduceDiv, Int.reduceAdd, Int.reduceSub, Int.reduceToNat, Int.reduceNeg, r81_4, e0]
  refine AW.block (AW.loop (fun k ρ σ' => ∃ i, k + i = n ∧ ρ 0 = .int .i64 n ∧ ρ 6 = .ptr p 0 ∧ ρ 31 = .int .i64 n ∧ ρ 32 = .int .i64 (i : Nat) ∧ lk σ'.H p = some (.arr [.hs b1 0 n n, .hs b2 0 n n, .hs b3 0 n n, .int .u64 gens]) ∧
    lk σ'.H b1 = some (.arr (stk n i ++ List.replicate (n - i) (.int .i64 0))) ∧ lk σ'.H b2 = some (.arr (List.replicate n (.int .u8 0))) ∧ lk σ'.H b3 = some (.arr (List.replicate i (.int .u64 1) ++ List.replicate (n - i) (.int .u64 0))) ∧ Ext σ0 σ' ∧ σ'.n = σ0.n + 4) n
    ⟨0, by simp, by simp -implicitDefEqProofs only [↓W0, ↓reduceIte, W, reduceCtorEq, Nat.reduceEqDiff, Int.reduceLT, Int.reduceLE, Int.reduceEq, Nat.reduceAdd, Nat.reduceMul, Nat.reduceLeDiff, Nat.reduceLT, Nat.reduceMod, Nat.reduceSub, Nat.reduceDiv, Int.reduceAdd, Int.reduceSub, Int.reduceToNat, Int.reduceNeg, e0], by simp -implicitDefEqProofs only [↓W0, ↓reduceIte, W, reduceCtorEq, Nat.reduceEqDiff, Int.reduceLT, Int.reduceLE, Int.reduceEq, Nat.reduceAdd, Nat.reduceMul, Nat.reduceLeDiff, Nat.reduceLT, Nat.reduceMod, Nat.reduceSub, Nat.reduceDiv, Int.reduceAdd, Int.reduceSub, Int.reduceToNat, Int.reduceNeg, e6], by simp -implicitDefEqProofs only [↓W0, ↓reduceIte, W, reduceCtorEq, Nat.reduceEqDiff, Int.reduceLT, Int.reduceLE, Int.reduceEq, Nat.reduceAdd, Nat.reduceMul, Nat.reduceLeDiff, Nat.reduceLT, Nat.reduceMod, Nat.reduceSub, Nat.reduceDiv, Int.reduceAdd, Int.reduceSub, Int.reduceToNat, Int.reduceNeg], by simp -implicitDefEqProofs only [↓W0, ↓reduceIte, W, reduceCtorEq, Nat.reduceEqDiff, Int.reduceLT, Int.reduceLE, Int.reduceEq, Nat.reduceAdd, Nat.reduceMul, Nat.reduceLeDiff, Nat.reduceLT, Nat.reduceMod, Nat.reduceSub, Nat.reduceDiv, Int.reduceAdd, Int.reduceSub, Int.reduceToNat, Int.reduceNeg]; rfl, l0, by simpa [stk] using l1, l2, by simpa using l3, hE, hn⟩ ?_)
  rintro k ρ σ' ⟨i, hk, t0, t6, t31, t32, m0, m1, m2, m3, hE', hn'⟩
  unfold l81_10
  refine AW.seq (AW.rg hmix ?_)
  try unfold r81_5
  simp -implicitDefEqProofs only [↓W0, ↓reduceIte, W, reduceCtorEq, Nat.reduceEqDiff, Int.reduceLT, Int.reduceLE, Int.reduceEq, Nat.reduceAdd, Nat.reduceMul, Nat.reduceLeDiff, Nat.reduceLT, Nat.reduceMod, Nat.reduceSub, Nat.reduceDiv, Int.reduceAdd, Int.reduceSub, Int.reduceToNat, Int.reduceNeg, r81_5, t31, t32]
  refine AW.seq ?_
  by_cases hi : i < n
  · refine AW.cond (t := true) (by simp -implicitDefEqProofs only [↓W0, ↓reduceIte, W, reduceCtorEq, Nat.reduceEqDiff, Int.reduceLT, Int.reduceLE, Int.reduceEq, Nat.reduceAdd, Nat.reduceMul, Nat.reduceLeDiff, Nat.reduceLT, Nat.reduceMod, Nat.reduceSub, Nat.reduceDiv, Int.reduceAdd, Int.reduceSub, Int.reduceToNat, Int.reduceNeg, Int.ofNat_lt, hi]) (AW.skip ?_)
    simp -implicitDefEqProofs only [↓W0, ↓reduceIte, W, reduceCtorEq, Nat.reduceEqDiff, Int.reduceLT, Int.reduceLE, Int.reduceEq, Nat.reduceAdd, Nat.reduceMul, Nat.reduceLeDiff, Nat.reduceLT, Nat.reduceMod, Nat.reduceSub, Nat.reduceDiv, Int.reduceAdd, Int.reduceSub, Int.reduceToNat, Int.reduceNeg]
    refine AW.seq (AW.block (AW.seq (AW.rg hmix ?_)))
    try unfold r81_6
    simp -implicitDefEqProofs only [↓W0, ↓reduceIte, W, reduceCtorEq, Nat.reduceEqDiff, Int.reduceLT, Int.reduceLE, Int.reduceEq, Nat.reduceAdd, Nat.reduceMul, Nat.reduceLeDiff, Nat.reduceLT, Nat.reduceMod, Nat.reduceSub, Nat.reduceDiv, Int.reduceAdd, Int.reduceSub, Int.reduceToNat, Int.reduceNeg, r81_6, t32]
    refine AW.seq (AW.rg hmix ?_)
    have hs1 : (stk n i).length = i := by simp [stk]
    have hr : n - i = (n - (i + 1)) + 1 := by omega
    have n1 : wr .i64 ((n : Int) - 1) = ((n - 1 : Nat) : Int) := by rw [wr_i (by omega)]; omega
    have n2 : wr .i64 (((n - 1 : Nat) : Int) - (i : Int)) = ((n - 1 - i : Nat) : Int) := by rw [wr_i (by omega)]; omega
    have len1 : (stk n i ++ List.replicate (n - i) (AV.int .i64 0)).length = n := by simp [hs1]; omega
    have len3 : (List.replicate i (AV.int .u64 1) ++ List.replicate (n - i) (AV.int .u64 0)).length = n := by simp; omega
    have hle : i + 1 ≤ n := hi
    try unfold r81_7
    simp -implicitDefEqProofs only [↓W0, ↓reduceIte, W, reduceCtorEq, Nat.reduceEqDiff, Int.reduceLT, Int.reduceLE, Int.reduceEq, Nat.reduceAdd, Nat.reduceMul, Nat.reduceLeDiff, Nat.reduceLT, Nat.reduceMod, Nat.reduceSub, Nat.reduceDiv, Int.reduceAdd, Int.reduceSub, Int.reduceToNat, Int.reduceNeg, r81_7, t0, t6, t32, m0, m1, n1, n2, hi, hle, len1]
    refine AW.rg hmix ?_
    try unfold r81_8
    simp -implicitDefEqProofs only [↓W0, ↓reduceIte, W, reduceCtorEq, Nat.reduceEqDiff, Int.reduceLT, Int.reduceLE, Int.reduceEq, Nat.reduceAdd, Nat.reduceMul, Nat.reduceLeDiff, Nat.reduceLT, Nat.reduceMod, Nat.reduceSub, Nat.reduceDiv, Int.reduceAdd, Int.reduceSub, Int.reduceToNat, Int.reduceNeg, r81_8, t6, m0, m3, d1, d5, hi, hle, len3]
    refine AW.rg hmix ?_
    try unfold r81_9
    simp -implicitDefEqProofs only [↓W0, ↓reduceIte, W, reduceCtorEq, Nat.reduceEqDiff, Int.reduceLT, Int.reduceLE, Int.reduceEq, Nat.reduceAdd, Nat.reduceMul, Nat.reduceLeDiff, Nat.reduceLT, Nat.reduceMod, Nat.reduceSub, Nat.reduceDiv, Int.reduceAdd, Int.reduceSub, Int.reduceToNat, Int.reduceNeg, r81_9, t32]
    refine ⟨k - 1, by omega, i + 1, by omega, t0, t6, t31, ?_, ?_, ?_, ?_, ?_, ?_, ?_⟩
    · rw [wr_i (by omega)]; rfl
    · simp -implicitDefEqProofs only [↓W0, ↓reduceIte, W, reduceCtorEq, Nat.reduceEqDiff, Int.reduceLT, Int.reduceLE, Int.reduceEq, Nat.reduceAdd, Nat.reduceMul, Nat.reduceLeDiff, Nat.reduceLT, Nat.reduceMod, Nat.reduceSub, Nat.reduceDiv, Int.reduceAdd, Int.reduceSub, Int.reduceToNat, Int.reduceNeg, d1, d3, m0]
    · have e := @put_mid (stk n i) (List.replicate (n - (i + 1)) (.int .i64 0)) (.int .i64 0) (.int .i64 ((n - 1 - i : Nat) : Int)) i hs1
      simp only [putCells, List.length_cons, List.length_nil, Nat.zero_add] at e
      simp -implicitDefEqProofs only [↓W0, ↓reduceIte, W, reduceCtorEq, Nat.reduceEqDiff, Int.reduceLT, Int.reduceLE, Int.reduceEq, Nat.reduceAdd, Nat.reduceMul, Nat.reduceLeDiff, Nat.reduceLT, Nat.reduceMod, Nat.reduceSub, Nat.reduceDiv, Int.reduceAdd, Int.reduceSub, Int.reduceToNat, Int.reduceNeg, d5, Ne.symm d5, m1]
      rw [hr, List.replicate_succ, e, stk_succ, List.append_assoc]
      rfl
    · simp -implicitDefEqProofs only [↓W0, ↓reduceIte, W, reduceCtorEq, Nat.reduceEqDiff, Int.reduceLT, Int.reduceLE, Int.reduceEq, Nat.reduceAdd, Nat.reduceMul, Nat.reduceLeDiff, Nat.reduceLT, Nat.reduceMod, Nat.reduceSub, Nat.reduceDiv, Int.reduceAdd, Int.reduceSub, Int.reduceToNat, Int.reduceNeg, d4, d6, Ne.symm d6, m2]
    · have e := @put_mid (List.replicate i (.int .u64 1)) (List.replicate (n - (i + 1)) (.int .u64 0)) (.int .u64 0) (.int .u64 1) i (by simp)
      simp only [putCells, List.length_cons, List.length_nil, Nat.zero_add] at e
      simp -implicitDefEqProofs only [↓W0, ↓reduceIte, W, reduceCtorEq, Nat.reduceEqDiff, Int.reduceLT, Int.reduceLE, Int.reduceEq, Nat.reduceAdd, Nat.reduceMul, Nat.reduceLeDiff, Nat.reduceLT, Nat.reduceMod, Nat.reduceSub, Nat.reduceDiv, Int.reduceAdd, Int.reduceSub, Int.reduceToNat, Int.reduceNeg, d5, m3]
      rw [hr, List.replicate_succ, e, List.replicate_succ', List.append_assoc]
      rfl
    · exact (hE'.set o1 _).set o3 _
    · simp -implicitDefEqProofs only [↓W0, ↓reduceIte, W, reduceCtorEq, Nat.reduceEqDiff, Int.reduceLT, Int.reduceLE, Int.reduceEq, Nat.reduceAdd, Nat.reduceMul, Nat.reduceLeDiff, Nat.reduceLT, Nat.reduceMod, Nat.reduceSub, Nat.reduceDiv, Int.reduceAdd, Int.reduceSub, Int.reduceToNat, Int.reduceNeg, hn']
  · refine AW.cond (t := false) (by simp -implicitDefEqProofs only [↓W0, ↓reduceIte, W, reduceCtorEq, Nat.reduceEqDiff, Int.reduceLT, Int.reduceLE, Int.reduceEq, Nat.reduceAdd, Nat.reduceMul, Nat.reduceLeDiff, Nat.reduceLT, Nat.reduceMod, Nat.reduceSub, Nat.reduceDiv, Int.reduceAdd, Int.reduceSub, Int.reduceToNat, Int.reduceNeg, Int.ofNat_lt, hi]) (AW.exit ?_)
    have : i = n := by omega
    subst this
    simp -implicitDefEqProofs only [↓W0, ↓reduceIte, W, reduceCtorEq, Nat.reduceEqDiff, Int.reduceLT, Int.reduceLE, Int.reduceEq, Nat.reduceAdd, Nat.reduceMul, Nat.reduceLeDiff, Nat.reduceLT, Nat.reduceMod, Nat.reduceSub, Nat.reduceDiv, Int.reduceAdd, Int.reduceSub, Int.reduceToNat, Int.reduceNeg]
    refine AW.seq (AW.rg hmix ?_)
    try unfold r81_10
    simp -implicitDefEqProofs only [↓W0, ↓reduceIte, W, reduceCtorEq, Nat.reduceEqDiff, Int.reduceLT, Int.reduceLE, Int.reduceEq, Nat.reduceAdd, Nat.reduceMul, Nat.reduceLeDiff, Nat.reduceLT, Nat.reduceMod, Nat.reduceSub, Nat.reduceDiv, Int.reduceAdd, Int.reduceSub, Int.reduceToNat, Int.reduceNeg, r81_10, t6]
    refine AW.ret ?_
    simp -implicitDefEqProofs only [↓W0, ↓reduceIte, W, reduceCtorEq, Nat.reduceEqDiff, Int.reduceLT, Int.reduceLE, Int.reduceEq, Nat.reduceAdd, Nat.reduceMul, Nat.reduceLeDiff, Nat.reduceLT, Nat.reduceMod, Nat.reduceSub, Nat.reduceDiv, Int.reduceAdd, Int.reduceSub, Int.reduceToNat, Int.reduceNeg, a81]
    refine hK σ' ⟨m0, by simpa using m1, m2, by simpa using m3⟩ hE' hn'


theorem flnew_ok (n gens : Nat) (h1 : 1 ≤ n) (h2 : n ≤ 16384) (g1 : 1 ≤ gens) (g2 : gens ≤ 4294967295) : ACalls Tryz.prog 81 [.int .i64 n, .int .u64 gens] σ (fun v σ' => ∃ b1 b2 b3, v = .tup [.ptr (σ.n + 3) 0, .int .i64 0] ∧
    FlNew n gens σ' (σ.n + 3) b1 b2 b3 ∧ ((b1 = σ.n ∧ ((b2 = σ.n + 1 ∧ b3 = σ.n + 2) ∨ (b2 = σ.n + 2 ∧ b3 = σ.n + 1))) ∨ (b1 = σ.n + 1 ∧ ((b2 = σ.n ∧ b3 = σ.n + 2) ∨ (b2 = σ.n + 2 ∧ b3 = σ.n))) ∨ (b1 = σ.n + 2 ∧ ((b2 = σ.n + 1 ∧ b3 = σ.n) ∨ (b2 = σ.n ∧ b3 = σ.n + 1)))) ∧ Ext σ σ' ∧ σ'.n = σ.n + 4) := by
  refine FOk.calls ok81 (by simp [a81]) ?_
  show AW _ _ _ c81 _ _ _
  unfold c81
  refine AW.seq (AW.rg hmix ?_)
  try unfold r81_0
  simp -implicitDefEqProofs only [↓W0, ↓reduceIte, W, reduceCtorEq, Nat.reduceEqDiff, Int.reduceLT, Int.reduceLE, Int.reduceEq, Nat.reduceAdd, Nat.reduceMul, Nat.reduceLeDiff, Nat.reduceLT, Nat.reduceMod, Nat.reduceSub, Nat.reduceDiv, Int.reduceAdd, Int.reduceSub, Int.reduceToNat, Int.reduceNeg, r81_0]
  refine AW.seq (AW.seq (AW.rg hmix ?_))
  have e1 : ¬ ((n : Int) < 1) := by omega
  have e2 : ¬ (16384 < (n : Int)) := by omega
  have e3 : ¬ ((gens : Int) < 1) := by omega
  have e4 : ¬ (4294967295 < (gens : Int)) := by omega
  try unfold r81_1
  simp -implicitDefEqProofs only [↓W0, ↓reduceIte, W, reduceCtorEq, Nat.reduceEqDiff, Int.reduceLT, Int.reduceLE, Int.reduceEq, Nat.reduceAdd, Nat.reduceMul, Nat.reduceLeDiff, Nat.reduceLT, Nat.reduceMod, Nat.reduceSub, Nat.reduceDiv, Int.reduceAdd, Int.reduceSub, Int.reduceToNat, Int.reduceNeg, r81_1, e1, e2, e3, e4]
  refine AW.cond (t := false) (by simp -implicitDefEqProofs only [↓W0, ↓reduceIte, W, reduceCtorEq, Nat.reduceEqDiff, Int.reduceLT, Int.reduceLE, Int.reduceEq, Nat.reduceAdd, Nat.reduceMul, Nat.reduceLeDiff, Nat.reduceLT, Nat.reduceMod, Nat.reduceSub, Nat.reduceDiv, Int.reduceAdd, Int.reduceSub, Int.reduceToNat, Int.reduceNeg]) (AW.skip ?_)
  simp -implicitDefEqProofs only [↓W0, ↓reduceIte, W, reduceCtorEq, Nat.reduceEqDiff, Int.reduceLT, Int.reduceLE, Int.reduceEq, Nat.reduceAdd, Nat.reduceMul, Nat.reduceLeDiff, Nat.reduceLT, Nat.reduceMod, Nat.reduceSub, Nat.reduceDiv, Int.reduceAdd, Int.reduceSub, Int.reduceToNat, Int.reduceNeg]
  refine AW.seq (AW.qt none (.p 0 (.p 2 (.p 4 (.p 6 (.c 1 (.b 3 (.a 5 (.p 7 (.a 8 (.p 9 .nil)))) 5 (.a 3 (.p 7 (.a 8 (.p 9 .nil))))) 3 (.b 1 (.a 5 (.p 7 (.a 8 (.p 9 .nil)))) 5 (.a 1 (.p 7 (.a 8 (.p 9 .nil))))) 5 (.b 1 (.a 3 (.p 7 (.a 8 (.p 9 .nil)))) 3 (.a 1 (.p 7 (.a 8 (.p 9 .nil)))))))))) [] hmix (by decide) (by decide) (SB.nil _) ?_)
  have b8 : n * (8 + 1) ≤ maxBytes := by simp [maxBytes]; omega
  have b1 : n * (1 + 1) ≤ maxBytes := by simp [maxBytes]; omega
  try unfold r81_3
  simp -implicitDefEqProofs only [↓W0, ↓reduceIte, W, reduceCtorEq, Nat.reduceEqDiff, Int.reduceLT, Int.reduceLE, Int.reduceEq, Nat.reduceAdd, Nat.reduceMul, Nat.reduceLeDiff, Nat.reduceLT, Nat.reduceMod, Nat.reduceSub, Nat.reduceDiv, Int.reduceAdd, Int.reduceSub, Int.reduceToNat, Int.reduceNeg, r81_3, b8, b1, flat_rep]
  refine ⟨⟨?_, ?_⟩, ⟨?_, ?_⟩, ⟨?_, ?_⟩⟩
  · refine flnew_loop (σ0 := σ) (gens := gens) (p := σ.n + 3) (b1 := σ.n) (b2 := σ.n + 1) (b3 := σ.n + 2) h1 h2 (by omega) (by omega) (by omega) (by omega) (by omega) (by omega) (by omega) (by omega) (by simp -implicitDefEqProofs only [↓W0, ↓reduceIte, W, reduceCtorEq, Nat.reduceEqDiff, Int.reduceLT, Int.reduceLE, Int.reduceEq, Nat.reduceAdd, Nat.reduceMul, Nat.reduceLeDiff, Nat.reduceLT, Nat.reduceMod, Nat.reduceSub, Nat.reduceDiv, Int.reduceAdd, Int.reduceSub, Int.reduceToNat, Int.reduceNeg]) (by simp -implicitDefEqProofs only [↓W0, ↓reduceIte, W, reduceCtorEq, Nat.reduceEqDiff, Int.reduceLT, Int.reduceLE, Int.reduceEq, Nat.reduceAdd, Nat.reduceMul, Nat.reduceLeDiff, Nat.reduceLT, Nat.reduceMod, Nat.reduceSub, Nat.reduceDiv, Int.reduceAdd, Int.reduceSub, Int.reduceToNat, Int.reduceNeg]) (by simp -implicitDefEqProofs only [↓W0, ↓reduceIte, W, reduceCtorEq, Nat.reduceEqDiff, Int.reduceLT, Int.reduceLE, Int.reduceEq, Nat.reduceAdd, Nat.reduceMul, Nat.reduceLeDiff, Nat.reduceLT, Nat.reduceMod, Nat.reduceSub, Nat.reduceDiv, Int.reduceAdd, Int.reduceSub, Int.reduceToNat, Int.reduceNeg]) (by simp -implicitDefEqProofs only [↓W0, ↓reduceIte, W, reduceCtorEq, Nat.reduceEqDiff, Int.reduceLT, Int.reduceLE, Int.reduceEq, Nat.reduceAdd, Nat.reduceMul, Nat.reduceLeDiff, Nat.reduceLT, Nat.reduceMod, Nat.reduceSub, Nat.reduceDiv, Int.reduceAdd, Int.reduceSub, Int.reduceToNat, Int.reduceNeg]) (by simp -implicitDefEqProofs only [↓W0, ↓reduceIte, W, reduceCtorEq, Nat.reduceEqDiff, Int.reduceLT, Int.reduceLE, Int.reduceEq, Nat.reduceAdd, Nat.reduceMul, Nat.reduceLeDiff, Nat.reduceLT, Nat.reduceMod, Nat.reduceSub, Nat.reduceDiv, Int.reduceAdd, Int.reduceSub, Int.reduceToNat, Int.reduceNeg]) (by simp -implicitDefEqProofs only [↓W0, ↓reduceIte, W, reduceCtorEq, Nat.reduceEqDiff, Int.reduceLT, Int.reduceLE, Int.reduceEq, Nat.reduceAdd, Nat.reduceMul, Nat.reduceLeDiff, Nat.reduceLT, Nat.reduceMod, Nat.reduceSub, Nat.reduceDiv, Int.reduceAdd, Int.reduceSub, Int.reduceToNat, Int.reduceNeg]) (((Ext.new _ _).newer _).newer _ |>.newer _) (by simp -implicitDefEqProofs only [↓W0, ↓reduceIte, W, reduceCtorEq, Nat.reduceEqDiff, Int.reduceLT, Int.reduceLE, Int.reduceEq, Nat.reduceAdd, Nat.reduceMul, Nat.reduceLeDiff, Nat.reduceLT, Nat.reduceMod, Nat.reduceSub, Nat.reduceDiv, Int.reduceAdd, Int.reduceSub, Int.reduceToNat, Int.reduceNeg]) ?_
    exact fun σ' a b c => ⟨_, _, _, rfl, a, by omega, b, c⟩
  · refine flnew_loop (σ0 := σ) (gens := gens) (p := σ.n + 3) (b1 := σ.n) (b2 := σ.n + 2) (b3 := σ.n + 1) h1 h2 (by omega) (by omega) (by omega) (by omega) (by omega) (by omega) (by omega) (by omega) (by simp -implicitDefEqProofs only [↓W0, ↓reduceIte, W, reduceCtorEq, Nat.reduceEqDiff, Int.reduceLT, Int.reduceLE, Int.reduceEq, Nat.reduceAdd, Nat.reduceMul, Nat.reduceLeDiff, Nat.reduceLT, Nat.reduceMod, Nat.reduceSub, Nat.reduceDiv, Int.reduceAdd, Int.reduceSub, Int.reduceToNat, Int.reduceNeg]) (by simp -implicitDefEqProofs only [↓W0, ↓reduceIte, W, reduceCtorEq, Nat.reduceEqDiff, Int.reduceLT, Int.reduceLE, Int.reduceEq, Nat.reduceAdd, Nat.reduceMul, Nat.reduceLeDiff, Nat.reduceLT, Nat.reduceMod, Nat.reduceSub, Nat.reduceDiv, Int.reduceAdd, Int.reduceSub, Int.reduceToNat, Int.reduceNeg]) (by simp -implicitDefEqProofs only [↓W0, ↓reduceIte, W, reduceCtorEq, Nat.reduceEqDiff, Int.reduceLT, Int.reduceLE, Int.reduceEq, Nat.reduceAdd, Nat.reduceMul, Nat.reduceLeDiff, Nat.reduceLT, Nat.reduceMod, Nat.reduceSub, Nat.reduceDiv, Int.reduceAdd, Int.reduceSub, Int.reduceToNat, Int.reduceNeg]) (by simp -implicitDefEqProofs only [↓W0, ↓reduceIte, W, reduceCtorEq, Nat.reduceEqDiff, Int.reduceLT, Int.reduceLE, Int.reduceEq, Nat.reduceAdd, Nat.reduceMul, Nat.reduceLeDiff, Nat.reduceLT, Nat.reduceMod, Nat.reduceSub, Nat.reduceDiv, Int.reduceAdd, Int.reduceSub, Int.reduceToNat, Int.reduceNeg]) (by simp -implicitDefEqProofs only [↓W0, ↓reduceIte, W, reduceCtorEq, Nat.reduceEqDiff, Int.reduceLT, Int.reduceLE, Int.reduceEq, Nat.reduceAdd, Nat.reduceMul, Nat.reduceLeDiff, Nat.reduceLT, Nat.reduceMod, Nat.reduceSub, Nat.reduceDiv, Int.reduceAdd, Int.reduceSub, Int.reduceToNat, Int.reduceNeg]) (by simp -implicitDefEqProofs only [↓W0, ↓reduceIte, W, reduceCtorEq, Nat.reduceEqDiff, Int.reduceLT, Int.reduceLE, Int.reduceEq, Nat.reduceAdd, Nat.reduceMul, Nat.reduceLeDiff, Nat.reduceLT, Nat.reduceMod, Nat.reduceSub, Nat.reduceDiv, Int.reduceAdd, Int.reduceSub, Int.reduceToNat, Int.reduceNeg]) (((Ext.new _ _).newer _).newer _ |>.newer _) (by simp -implicitDefEqProofs only [↓W0, ↓reduceIte, W, reduceCtorEq, Nat.reduceEqDiff, Int.reduceLT, Int.reduceLE, Int.reduceEq, Nat.reduceAdd, Nat.reduceMul, Nat.reduceLeDiff, Nat.reduceLT, Nat.reduceMod, Nat.reduceSub, Nat.reduceDiv, Int.reduceAdd, Int.reduceSub, Int.reduceToNat, Int.reduceNeg]) ?_
    exact fun σ' a b c => ⟨_, _, _, rfl, a, by omega, b, c⟩
  · refine flnew_loop (σ0 := σ) (gens := gens) (p := σ.n + 3) (b1 := σ.n + 1) (b2 := σ.n) (b3 := σ.n + 2) h1 h2 (by omega) (by omega) (by omega) (by omega) (by omega) (by omega) (by omega) (by omega) (by simp -implicitDefEqProofs only [↓W0, ↓reduceIte, W, reduceCtorEq, Nat.reduceEqDiff, Int.reduceLT, Int.reduceLE, Int.reduceEq, Nat.reduceAdd, Nat.reduceMul, Nat.reduceLeDiff, Nat.reduceLT, Nat.reduceMod, Nat.reduceSub, Nat.reduceDiv, Int.reduceAdd, Int.reduceSub, Int.reduceToNat, Int.reduceNeg]) (by simp -implicitDefEqProofs only [↓W0, ↓reduceIte, W, reduceCtorEq, Nat.reduceEqDiff, Int.reduceLT, Int.reduceLE, Int.reduceEq, Nat.reduceAdd, Nat.reduceMul, Nat.reduceLeDiff, Nat.reduceLT, Nat.reduceMod, Nat.reduceSub, Nat.reduceDiv, Int.reduceAdd, Int.reduceSub, Int.reduceToNat, Int.reduceNeg]) (by simp -implicitDefEqProofs only [↓W0, ↓reduceIte, W, reduceCtorEq, Nat.reduceEqDiff, Int.reduceLT, Int.reduceLE, Int.reduceEq, Nat.reduceAdd, Nat.reduceMul, Nat.reduceLeDiff, Nat.reduceLT, Nat.reduceMod, Nat.reduceSub, Nat.reduceDiv, Int.reduceAdd, Int.reduceSub, Int.reduceToNat, Int.reduceNeg]) (by simp -implicitDefEqProofs only [↓W0, ↓reduceIte, W, reduceCtorEq, Nat.reduceEqDiff, Int.reduceLT, Int.reduceLE, Int.reduceEq, Nat.reduceAdd, Nat.reduceMul, Nat.reduceLeDiff, Nat.reduceLT, Nat.reduceMod, Nat.reduceSub, Nat.reduceDiv, Int.reduceAdd, Int.reduceSub, Int.reduceToNat, Int.reduceNeg]) (by simp -implicitDefEqProofs only [↓W0, ↓reduceIte, W, reduceCtorEq, Nat.reduceEqDiff, Int.reduceLT, Int.reduceLE, Int.reduceEq, Nat.reduceAdd, Nat.reduceMul, Nat.reduceLeDiff, Nat.reduceLT, Nat.reduceMod, Nat.reduceSub, Nat.reduceDiv, Int.reduceAdd, Int.reduceSub, Int.reduceToNat, Int.reduceNeg]) (by simp -implicitDefEqProofs only [↓W0, ↓reduceIte, W, reduceCtorEq, Nat.reduceEqDiff, Int.reduceLT, Int.reduceLE, Int.reduceEq, Nat.reduceAdd, Nat.reduceMul, Nat.reduceLeDiff, Nat.reduceLT, Nat.reduceMod, Nat.reduceSub, Nat.reduceDiv, Int.reduceAdd, Int.reduceSub, Int.reduceToNat, Int.reduceNeg]) (((Ext.new _ _).newer _).newer _ |>.newer _) (by simp -implicitDefEqProofs only [↓W0, ↓reduceIte, W, reduceCtorEq, Nat.reduceEqDiff, Int.reduceLT, Int.reduceLE, Int.reduceEq, Nat.reduceAdd, Nat.reduceMul, Nat.reduceLeDiff, Nat.reduceLT, Nat.reduceMod, Nat.reduceSub, Nat.reduceDiv, Int.reduceAdd, Int.reduceSub, Int.reduceToNat, Int.reduceNeg]) ?_
    exact fun σ' a b c => ⟨_, _, _, rfl, a, by omega, b, c⟩
  · refine flnew_loop (σ0 := σ) (gens := gens) (p := σ.n + 3) (b1 := σ.n + 2) (b2 := σ.n) (b3 := σ.n + 1) h1 h2 (by omega) (by omega) (by omega) (by omega) (by omega) (by omega) (by omega) (by omega) (by simp -implicitDefEqProofs only [↓W0, ↓reduceIte, W, reduceCtorEq, Nat.reduceEqDiff, Int.reduceLT, Int.reduceLE, Int.reduceEq, Nat.reduceAdd, Nat.reduceMul, Nat.reduceLeDiff, Nat.reduceLT, Nat.reduceMod, Nat.reduceSub, Nat.reduceDiv, Int.reduceAdd, Int.reduceSub, Int.reduceToNat, Int.reduceNeg]) (by simp -implicitDefEqProofs only [↓W0, ↓reduceIte, W, reduceCtorEq, Nat.reduceEqDiff, Int.reduceLT, Int.reduceLE, Int.reduceEq, Nat.reduceAdd, Nat.reduceMul, Nat.reduceLeDiff, Nat.reduceLT, Nat.reduceMod, Nat.reduceSub, Nat.reduceDiv, Int.reduceAdd, Int.reduceSub, Int.reduceToNat, Int.reduceNeg]) (by simp -implicitDefEqProofs only [↓W0, ↓reduceIte, W, reduceCtorEq, Nat.reduceEqDiff, Int.reduceLT, Int.reduceLE, Int.reduceEq, Nat.reduceAdd, Nat.reduceMul, Nat.reduceLeDiff, Nat.reduceLT, Nat.reduceMod, Nat.reduceSub, Nat.reduceDiv, Int.reduceAdd, Int.reduceSub, Int.reduceToNat, Int.reduceNeg]) (by simp -implicitDefEqProofs only [↓W0, ↓reduceIte, W, reduceCtorEq, Nat.reduceEqDiff, Int.reduceLT, Int.reduceLE, Int.reduceEq, Nat.reduceAdd, Nat.reduceMul, Nat.reduceLeDiff, Nat.reduceLT, Nat.reduceMod, Nat.reduceSub, Nat.reduceDiv, Int.reduceAdd, Int.reduceSub, Int.reduceToNat, Int.reduceNeg]) (by simp -implicitDefEqProofs only [↓W0, ↓reduceIte, W, reduceCtorEq, Nat.reduceEqDiff, Int.reduceLT, Int.reduceLE, Int.reduceEq, Nat.reduceAdd, Nat.reduceMul, Nat.reduceLeDiff, Nat.reduceLT, Nat.reduceMod, Nat.reduceSub, Nat.reduceDiv, Int.reduceAdd, Int.reduceSub, Int.reduceToNat, Int.reduceNeg]) (by simp -implicitDefEqProofs only [↓W0, ↓reduceIte, W, reduceCtorEq, Nat.reduceEqDiff, Int.reduceLT, Int.reduceLE, Int.reduceEq, Nat.reduceAdd, Nat.reduceMul, Nat.reduceLeDiff, Nat.reduceLT, Nat.reduceMod, Nat.reduceSub, Nat.reduceDiv, Int.reduceAdd, Int.reduceSub, Int.reduceToNat, Int.reduceNeg]) (((Ext.new _ _).newer _).newer _ |>.newer _) (by simp -implicitDefEqProofs only [↓W0, ↓reduceIte, W, reduceCtorEq, Nat.reduceEqDiff, Int.reduceLT, Int.reduceLE, Int.reduceEq, Nat.reduceAdd, Nat.reduceMul, Nat.reduceLeDiff, Nat.reduceLT, Nat.reduceMod, Nat.reduceSub, Nat.reduceDiv, Int.reduceAdd, Int.reduceSub, Int.reduceToNat, Int.reduceNeg]) ?_
    exact fun σ' a b c => ⟨_, _, _, rfl, a, by omega, b, c⟩
  · refine flnew_loop (σ0 := σ) (gens := gens) (p := σ.n + 3) (b1 := σ.n + 1) (b2 := σ.n + 2) (b3 := σ.n) h1 h2 (by omega) (by omega) (by omega) (by omega) (by omega) (by omega) (by omega) (by omega) (by simp -implicitDefEqProofs only [↓W0, ↓reduceIte, W, reduceCtorEq, Nat.reduceEqDiff, Int.reduceLT, Int.reduceLE, Int.reduceEq, Nat.reduceAdd, Nat.reduceMul, Nat.reduceLeDiff, Nat.reduceLT, Nat.reduceMod, Nat.reduceSub, Nat.reduceDiv, Int.reduceAdd, Int.reduceSub, Int.reduceToNat, Int.reduceNeg]) (by simp -implicitDefEqProofs only [↓W0, ↓reduceIte, W, reduceCtorEq, Nat.reduceEqDiff, Int.reduceLT, Int.reduceLE, Int.reduceEq, Nat.reduceAdd, Nat.reduceMul, Nat.reduceLeDiff, Nat.reduceLT, Nat.reduceMod, Nat.reduceSub, Nat.reduceDiv, Int.reduceAdd, Int.reduceSub, Int.reduceToNat, Int.reduceNeg]) (by simp -implicitDefEqProofs only [↓W0, ↓reduceIte, W, reduceCtorEq, Nat.reduceEqDiff, Int.reduceLT, Int.reduceLE, Int.reduceEq, Nat.reduceAdd, Nat.reduceMul, Nat.reduceLeDiff, Nat.reduceLT, Nat.reduceMod, Nat.reduceSub, Nat.reduceDiv, Int.reduceAdd, Int.reduceSub, Int.reduceToNat, Int.reduceNeg]) (by simp -implicitDefEqProofs only [↓W0, ↓reduceIte, W, reduceCtorEq, Nat.reduceEqDiff, Int.reduceLT, Int.reduceLE, Int.reduceEq, Nat.reduceAdd, Nat.reduceMul, Nat.reduceLeDiff, Nat.reduceLT, Nat.reduceMod, Nat.reduceSub, Nat.reduceDiv, Int.reduceAdd, Int.reduceSub, Int.reduceToNat, Int.reduceNeg]) (by simp -implicitDefEqProofs only [↓W0, ↓reduceIte, W, reduceCtorEq, Nat.reduceEqDiff, Int.reduceLT, Int.reduceLE, Int.reduceEq, Nat.reduceAdd, Nat.reduceMul, Nat.reduceLeDiff, Nat.reduceLT, Nat.reduceMod, Nat.reduceSub, Nat.reduceDiv, Int.reduceAdd, Int.reduceSub, Int.reduceToNat, Int.reduceNeg]) (by simp -implicitDefEqProofs only [↓W0, ↓reduceIte, W, reduceCtorEq, Nat.reduceEqDiff, Int.reduceLT, Int.reduceLE, Int.reduceEq, Nat.reduceAdd, Nat.reduceMul, Nat.reduceLeDiff, Nat.reduceLT, Nat.reduceMod, Nat.reduceSub, Nat.reduceDiv, Int.reduceAdd, Int.reduceSub, Int.reduceToNat, Int.reduceNeg]) (((Ext.new _ _).newer _).newer _ |>.newer _) (by simp -implicitDefEqProofs only [↓W0, ↓reduceIte, W, reduceCtorEq, Nat.reduceEqDiff, Int.reduceLT, Int.reduceLE, Int.reduceEq, Nat.reduceAdd, Nat.reduceMul, Nat.reduceLeDiff, Nat.reduceLT, Nat.reduceMod, Nat.reduceSub, Nat.reduceDiv, Int.reduceAdd, Int.reduceSub, Int.reduceToNat, Int.reduceNeg]) ?_
    exact fun σ' a b c => ⟨_, _, _, rfl, a, by omega, b, c⟩
  · refine flnew_loop (σ0 := σ) (gens := gens) (p := σ.n + 3) (b1 := σ.n + 2) (b2 := σ.n + 1) (b3 := σ.n) h1 h2 (by omega) (by omega) (by omega) (by omega) (by omega) (by omega) (by omega) (by omega) (by simp -implicitDefEqProofs only [↓W0, ↓reduceIte, W, reduceCtorEq, Nat.reduceEqDiff, Int.reduceLT, Int.reduceLE, Int.reduceEq, Nat.reduceAdd, Nat.reduceMul, Nat.reduceLeDiff, Nat.reduceLT, Nat.reduceMod, Nat.reduceSub, Nat.reduceDiv, Int.reduceAdd, Int.reduceSub, Int.reduceToNat, Int.reduceNeg]) (by simp -implicitDefEqProofs only [↓W0, ↓reduceIte, W, reduceCtorEq, Nat.reduceEqDiff, Int.reduceLT, Int.reduceLE, Int.reduceEq, Nat.reduceAdd, Nat.reduceMul, Nat.reduceLeDiff, Nat.reduceLT, Nat.reduceMod, Nat.reduceSub, Nat.reduceDiv, Int.reduceAdd, Int.reduceSub, Int.reduceToNat, Int.reduceNeg]) (by simp -implicitDefEqProofs only [↓W0, ↓reduceIte, W, reduceCtorEq, Nat.reduceEqDiff, Int.reduceLT, Int.reduceLE, Int.reduceEq, Nat.reduceAdd, Nat.reduceMul, Nat.reduceLeDiff, Nat.reduceLT, Nat.reduceMod, Nat.reduceSub, Nat.reduceDiv, Int.reduceAdd, Int.reduceSub, Int.reduceToNat, Int.reduceNeg]) (by simp -implicitDefEqProofs only [↓W0, ↓reduceIte, W, reduceCtorEq, Nat.reduceEqDiff, Int.reduceLT, Int.reduceLE, Int.reduceEq, Nat.reduceAdd, Nat.reduceMul, Nat.reduceLeDiff, Nat.reduceLT, Nat.reduceMod, Nat.reduceSub, Nat.reduceDiv, Int.reduceAdd, Int.reduceSub, Int.reduceToNat, Int.reduceNeg]) (by simp -implicitDefEqProofs only [↓W0, ↓reduceIte, W, reduceCtorEq, Nat.reduceEqDiff, Int.reduceLT, Int.reduceLE, Int.reduceEq, Nat.reduceAdd, Nat.reduceMul, Nat.reduceLeDiff, Nat.reduceLT, Nat.reduceMod, Nat.reduceSub, Nat.reduceDiv, Int.reduceAdd, Int.reduceSub, Int.reduceToNat, Int.reduceNeg]) (by simp -implicitDefEqProofs only [↓W0, ↓reduceIte, W, reduceCtorEq, Nat.reduceEqDiff, Int.reduceLT, Int.reduceLE, Int.reduceEq, Nat.reduceAdd, Nat.reduceMul, Nat.reduceLeDiff, Nat.reduceLT, Nat.reduceMod, Nat.reduceSub, Nat.reduceDiv, Int.reduceAdd, Int.reduceSub, Int.reduceToNat, Int.reduceNeg]) (((Ext.new _ _).newer _).newer _ |>.newer _) (by simp -implicitDefEqProofs only [↓W0, ↓reduceIte, W, reduceCtorEq, Nat.reduceEqDiff, Int.reduceLT, Int.reduceLE, Int.reduceEq, Nat.reduceAdd, Nat.reduceMul, Nat.reduceLeDiff, Nat.reduceLT, Nat.reduceMod, Nat.reduceSub, Nat.reduceDiv, Int.reduceAdd, Int.reduceSub, Int.reduceToNat, Int.reduceNeg]) ?_
    exact fun σ' a b c => ⟨_, _, _, rfl, a, by omega, b, c⟩

end Go.Proofs.YtekhblefchceaaaGreat.AM

/- Contracts of functions that leave the state as it is. -/
set_option linter.unusedSimpArgs false
set_option maxRecDepth 20000
namespace Go.Proofs.YtekhblefchceaaaGreat.AM
open Go Go.Proofs
variable {σ : St} {P : Program}

theorem ACalls.still {f : Nat} {args : List AV} {X : AV} {R : St → Prop} (h : ACalls P f args ⟨[], 0⟩ (fun v σ' => v = X ∧ R σ')) (ha : purL args = true) (hX : X.scal = true) : ACalls P f args σ (fun v σ' => v = X ∧ σ' = σ) :=
  (h.frame ha (fun v σ' hv => by rw [hv.1]; exact hX)).mono fun v σ' hv => ⟨let ⟨_, e, _⟩ := hv.1; e, hv.2⟩
theorem purL_append : ∀ a b : List AV, purL (a ++ b) = (purL a && purL b)
  | [], b => by simp [purL]
  | x :: a, b => by simp [purL, purL_append a b, Bool.and_assoc]
theorem purL_all {l : List AV} (h : ∀ x, x ∈ l → x.pur = true) : purL l = true := by
  induction l with
  | nil => rfl
  | cons x l ih => simp only [purL, Bool.and_eq_true]; exact ⟨h x (by simp), ih fun y hy => h y (by simp [hy])⟩
theorem pur_kds (ks : List Kd) : purL (ks.map Kd.av) = true := purL_all fun x hx => by
  obtain ⟨k, _, rfl⟩ := List.mem_map.1 hx
  rfl
theorem pur_mss (ms : List Ms) : purL (ms.map Ms.av) = true := purL_all fun x hx => by
  obtain ⟨k, _, rfl⟩ := List.mem_map.1 hx
  rfl
theorem pur_nd (x : Nd) : purL [x.av] = true := by
  simp only [Nd.av, Nd.cs, purL, AV.pur, Tok.pur, pur_kds, Bool.and_self]

theorem measured_st (m : Ms) : ACalls Tryz.prog 279 [m.av] σ (fun v σ' => v = m.av ∧ σ' = σ) := (measured_ok m).still rfl rfl
theorem of_st (s : List UInt8) (hs : s.length ≤ 1099511627776) : ACalls Tryz.prog 256 [.str s] σ (fun v σ' => v = (msOf s).av ∧ σ' = σ) := (of_ok s hs).still rfl rfl
theorem add_st (l : List Ms) (hl : l.length ≤ 1000) (hb : ∀ m, m ∈ l → m.small) : ACalls Tryz.prog 257 [.vs (l.map Ms.av) .no] σ (fun v σ' => v = (msSum l).av ∧ σ' = σ) := (add_ok l hl hb).still (by simp only [purL, AV.pur, Tok.pur, pur_mss, Bool.and_self]) rfl
theorem sum_st (x : Nd) (hx : x.ok) : ACalls Tryz.prog 224 [x.av] σ (fun v σ' => v = x.ms.av ∧ σ' = σ) := (sum_ok x hx).still (pur_nd x) rfl
theorem formed_st (x : Nd) (hx : x.ok) : ACalls Tryz.prog 235 [x.av] σ (fun v σ' => v = .bool true ∧ σ' = σ) := (formed_ok x hx).still (pur_nd x) rfl
theorem ncheck_st (x : Nd) (hx : x.ok) (hb : x.ms.b ≤ 65536) : ACalls Tryz.prog 189 [x.av] σ (fun v σ' => v = .int .i64 0 ∧ σ' = σ) := (ncheck_ok x hx hb).still (pur_nd x) rfl
theorem nmeasure_st (x : Nd) (hx : x.ok) (hb : x.ms.b ≤ 65536) : ACalls Tryz.prog 177 [x.av] σ (fun v σ' => v = .tup [x.ms.av, .int .i64 0] ∧ σ' = σ) := (nmeasure_ok x hx hb).still (pur_nd x) rfl

end Go.Proofs.YtekhblefchceaaaGreat.AM

