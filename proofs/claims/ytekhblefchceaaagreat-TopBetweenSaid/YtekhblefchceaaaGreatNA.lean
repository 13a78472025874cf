/- Joined: C10, M26, N1, N2, Sh1, N3, N4. -/
import Derived.Test.YtekhblefchceaaaGreatCA
import Derived.Test.YtekhblefchceaaaGreatME
import Derived.Test.YtekhblefchceaaaGreatK1
import Derived.Test.YtekhblefchceaaaGreatK2
import Derived.Test.YtekhblefchceaaaGreatCB
import Derived.Shelf.Strings.Repeat
import Derived.Test.YtekhblefchceaaaGreatProg
set_option linter.unusedVariables false
set_option linter.unusedSimpArgs false
/- Contracts: freelist.New. -/
set_option maxRecDepth 20000
namespace Go.Proofs.YtekhblefchceaaaGreat.AM
open Go Go.Proofs
variable {σ : St}
theorem put_mid {A B : List AV} {x v : AV} {i : Nat} (h : A.length = i) : putCells (A ++ x :: B) i [v] = A ++ v :: B := by
 subst h
 simp [putCells]
theorem flat_rep (n : Nat) (v : AV) : (List.replicate n [v]).flatten = List.replicate n v := by
 induction n with
 | zero => rfl
 | succ n ih => simp [List.replicate_succ, ih]
def stk (n i : Nat) : List AV := (List.range i).map fun j => .int .i64 ((n - 1 - j : Nat) : Int)
theorem stk_succ (n i : Nat) : stk n (i + 1) = stk n i ++ [.int .i64 ((n - 1 - i : Nat) : Int)] := by simp [stk, List.range_succ]
def FlNew (n gens : Nat) (σ : St) (p b1 b2 b3 : Nat) : Prop :=
 lk σ.H p = some (.arr [.hs b1 0 n n, .hs b2 0 n n, .hs b3 0 n n, .int .u64 gens]) /\
 lk σ.H b1 = some (.arr (stk n n)) /\ lk σ.H b2 = some (.arr (List.replicate n (.int .u8 0))) /\ lk σ.H b3 = some (.arr (List.replicate n (.int .u64 1)))
theorem flnew_loop {n gens p b1 b2 b3 : Nat} {σ0 : St} {ρ : Env} (h1 : 1 <= n) (h2 : n <= 16384) (d1 : b1 ≠ p) (d2 : b2 ≠ p) (d3 : b3 ≠ p) (d4 : b1 ≠ b2) (d5 : b1 ≠ b3) (d6 : b2 ≠ b3) (o1 : σ0.n <= b1) (o3 : σ0.n <= b3)
  (e0 : ρ 0 = .int .i64 n) (e6 : ρ 6 = .ptr p 0) (l0 : lk σ.H p = some (.arr [.hs b1 0 n n, .hs b2 0 n n, .hs b3 0 n n, .int .u64 gens]))
  (l1 : lk σ.H b1 = some (.arr (List.replicate n (.int .i64 0)))) (l2 : lk σ.H b2 = some (.arr (List.replicate n (.int .u8 0)))) (l3 : lk σ.H b3 = some (.arr (List.replicate n (.int .u64 0)))) (hE : Ext σ0 σ) (hn : σ.n = σ0.n + 4)
  {K : AV -> St -> Prop} (hK : ∀ σ', FlNew n gens σ' p b1 b2 b3 -> Ext σ0 σ' -> σ'.n = σ0.n + 4 -> K (.tup [.ptr p 0, .int .i64 0]) σ') :
  AW Tryz.prog none a81.nt (.seq (.seq (.rg r81_4) (.block 0 (.loop l81_10))) (.seq (.rg r81_10) (.ret))) (FPost a81.res K) ρ σ := by
 refine AW.seq (AW.seq (AW.rg hmix ?_))
 try unfold r81_4
 simp only [↓W0, W, reduceCtorEq, seval, r81_4, e0]
 refine AW.block (AW.loop (fun k ρ σ' => ∃ i, k + i = n /\ ρ 0 = .int .i64 n /\ ρ 6 = .ptr p 0 /\ ρ 31 = .int .i64 n /\ ρ 32 = .int .i64 (i : Nat) /\ lk σ'.H p = some (.arr [.hs b1 0 n n, .hs b2 0 n n, .hs b3 0 n n, .int .u64 gens]) /\
  lk σ'.H b1 = some (.arr (stk n i ++ List.replicate (n - i) (.int .i64 0))) /\ lk σ'.H b2 = some (.arr (List.replicate n (.int .u8 0))) /\ lk σ'.H b3 = some (.arr (List.replicate i (.int .u64 1) ++ List.replicate (n - i) (.int .u64 0))) /\ Ext σ0 σ' /\ σ'.n = σ0.n + 4) n
  ⟨0, by simp, by simp only [↓W0, W, reduceCtorEq, seval, e0], by simp only [↓W0, W, reduceCtorEq, seval, e6], by simp only [↓W0, W, reduceCtorEq, seval], by simp only [↓W0, W, reduceCtorEq, seval] <;> rfl, l0, by simpa [stk] using l1, l2, by simpa using l3, hE, hn⟩ ?_)
 rintro k ρ σ' ⟨i, hk, t0, t6, t31, t32, m0, m1, m2, m3, hE', hn'⟩
 unfold l81_10
 refine AW.seq (AW.rg hmix ?_)
 try unfold r81_5
 simp only [↓W0, W, reduceCtorEq, seval, r81_5, t31, t32]
 refine AW.seq ?_
 by_cases hi : i < n
 ·refine AW.cond (t := true) (by simp only [↓W0, W, reduceCtorEq, seval, Int.ofNat_lt, hi]) (AW.skip ?_)
  simp only [↓W0, W, reduceCtorEq, seval]
  refine AW.seq (AW.block (AW.seq (AW.rg hmix ?_)))
  try unfold r81_6
  simp only [↓W0, W, reduceCtorEq, seval, r81_6, t32]
  refine AW.seq (AW.rg hmix ?_)
  have hs1 : (stk n i).length = i := by simp [stk]
  have hr : n - i = (n - (i + 1)) + 1 := by omega
  have n1 : wr .i64 ((n : Int) - 1) = ((n - 1 : Nat) : Int) := by rw [wr_i (by omega)]; omega
  have n2 : wr .i64 (((n - 1 : Nat) : Int) - (i : Int)) = ((n - 1 - i : Nat) : Int) := by rw [wr_i (by omega)]; omega
  have len1 : (stk n i ++ List.replicate (n - i) (AV.int .i64 0)).length = n := by simp [hs1]; omega
  have len3 : (List.replicate i (AV.int .u64 1) ++ List.replicate (n - i) (AV.int .u64 0)).length = n := by simp; omega
  have hle : i + 1 <= n := hi
  try unfold r81_7
  simp only [↓W0, W, reduceCtorEq, seval, r81_7, t0, t6, t32, m0, m1, n1, n2, hi, hle, len1]
  refine AW.rg hmix ?_
  try unfold r81_8
  simp only [↓W0, W, reduceCtorEq, seval, r81_8, t6, m0, m3, d1, d5, hi, hle, len3]
  refine AW.rg hmix ?_
  try unfold r81_9
  simp only [↓W0, W, reduceCtorEq, seval, r81_9, t32]
  refine ⟨k - 1, by omega, i + 1, by omega, t0, t6, t31, ?_, ?_, ?_, ?_, ?_, ?_, ?_⟩
  ·rw [wr_i (by omega)]; rfl
  ·simp only [↓W0, W, reduceCtorEq, seval, d1, d3, m0]
  ·have e := @put_mid (stk n i) (List.replicate (n - (i + 1)) (.int .i64 0)) (.int .i64 0) (.int .i64 ((n - 1 - i : Nat) : Int)) i hs1
   simp only [putCells, List.length_cons, List.length_nil, Nat.zero_add] at e
   simp only [↓W0, W, reduceCtorEq, seval, d5, Ne.symm d5, m1]
   rw [hr, List.replicate_succ, e, stk_succ, List.append_assoc]
   rfl
  ·simp only [↓W0, W, reduceCtorEq, seval, d4, d6, Ne.symm d6, m2]
  ·have e := @put_mid (List.replicate i (.int .u64 1)) (List.replicate (n - (i + 1)) (.int .u64 0)) (.int .u64 0) (.int .u64 1) i (by simp)
   simp only [putCells, List.length_cons, List.length_nil, Nat.zero_add] at e
   simp only [↓W0, W, reduceCtorEq, seval, d5, m3]
   rw [hr, List.replicate_succ, e, List.replicate_succ', List.append_assoc]
   rfl
  ·exact (hE'.set o1 _).set o3 _
  ·simp only [↓W0, W, reduceCtorEq, seval, hn']
 ·refine AW.cond (t := false) (by simp only [↓W0, W, reduceCtorEq, seval, Int.ofNat_lt, hi]) (AW.exit ?_)
  have : i = n := by omega
  subst this
  simp only [↓W0, W, reduceCtorEq, seval]
  refine AW.seq (AW.rg hmix ?_)
  try unfold r81_10
  simp only [↓W0, W, reduceCtorEq, seval, r81_10, t6]
  refine AW.ret ?_
  simp only [↓W0, W, reduceCtorEq, seval, a81]
  refine hK σ' ⟨m0, by simpa using m1, m2, by simpa using m3⟩ hE' hn'
theorem flnew_ok (n gens : Nat) (h1 : 1 <= n) (h2 : n <= 16384) (g1 : 1 <= gens) (g2 : gens <= 4294967295) : ACalls Tryz.prog 81 [.int .i64 n, .int .u64 gens] σ (fun v σ' => ∃ b1 b2 b3, v = .tup [.ptr (σ.n + 3) 0, .int .i64 0] /\
  FlNew n gens σ' (σ.n + 3) b1 b2 b3 /\ ((b1 = σ.n /\ ((b2 = σ.n + 1 /\ b3 = σ.n + 2) \/ (b2 = σ.n + 2 /\ b3 = σ.n + 1))) \/ (b1 = σ.n + 1 /\ ((b2 = σ.n /\ b3 = σ.n + 2) \/ (b2 = σ.n + 2 /\ b3 = σ.n))) \/ (b1 = σ.n + 2 /\ ((b2 = σ.n + 1 /\ b3 = σ.n) \/ (b2 = σ.n /\ b3 = σ.n + 1)))) /\ Ext σ σ' /\ σ'.n = σ.n + 4) := by
 refine FOk.calls ok81 (by simp [a81]) ?_
 show AW _ _ _ c81 _ _ _
 unfold c81
 refine AW.seq (AW.rg hmix ?_)
 try unfold r81_0
 simp only [↓W0, W, reduceCtorEq, seval, r81_0]
 refine AW.seq (AW.seq (AW.rg hmix ?_))
 have e1 : ¬ ((n : Int) < 1) := by omega
 have e2 : ¬ (16384 < (n : Int)) := by omega
 have e3 : ¬ ((gens : Int) < 1) := by omega
 have e4 : ¬ (4294967295 < (gens : Int)) := by omega
 try unfold r81_1
 simp only [↓W0, W, reduceCtorEq, seval, r81_1, e1, e2, e3, e4]
 refine AW.cond (t := false) (by simp only [↓W0, W, reduceCtorEq, seval]) (AW.skip ?_)
 simp only [↓W0, W, reduceCtorEq, seval]
 refine AW.seq (AW.qt none (.p 0 (.p 2 (.p 4 (.p 6 (.c 1 (.b 3 (.a 5 (.p 7 (.a 8 (.p 9 .nil)))) 5 (.a 3 (.p 7 (.a 8 (.p 9 .nil))))) 3 (.b 1 (.a 5 (.p 7 (.a 8 (.p 9 .nil)))) 5 (.a 1 (.p 7 (.a 8 (.p 9 .nil))))) 5 (.b 1 (.a 3 (.p 7 (.a 8 (.p 9 .nil)))) 3 (.a 1 (.p 7 (.a 8 (.p 9 .nil)))))))))) [] hmix (by decide) (by decide) (SB.nil _) ?_)
 have b8 : n * (8 + 1) <= maxBytes := by simp [maxBytes]; omega
 have b1 : n * (1 + 1) <= maxBytes := by simp [maxBytes]; omega
 try unfold r81_3
 simp only [↓W0, W, reduceCtorEq, seval, r81_3, b8, b1, flat_rep]
 refine ⟨⟨?_, ?_⟩, ⟨?_, ?_⟩, ⟨?_, ?_⟩⟩
 ·refine flnew_loop (σ0 := σ) (gens := gens) (p := σ.n + 3) (b1 := σ.n) (b2 := σ.n + 1) (b3 := σ.n + 2) h1 h2 (by omega) (by omega) (by omega) (by omega) (by omega) (by omega) (by omega) (by omega) (by simp only [↓W0, W, reduceCtorEq, seval]) (by simp only [↓W0, W, reduceCtorEq, seval]) (by simp only [↓W0, W, reduceCtorEq, seval]) (by simp only [↓W0, W, reduceCtorEq, seval]) (by simp only [↓W0, W, reduceCtorEq, seval]) (by simp only [↓W0, W, reduceCtorEq, seval]) (((Ext.new _ _).newer _).newer _ |>.newer _) (by simp only [↓W0, W, reduceCtorEq, seval]) ?_
  exact fun σ' a b c => ⟨_, _, _, rfl, a, by omega, b, c⟩
 ·refine flnew_loop (σ0 := σ) (gens := gens) (p := σ.n + 3) (b1 := σ.n) (b2 := σ.n + 2) (b3 := σ.n + 1) h1 h2 (by omega) (by omega) (by omega) (by omega) (by omega) (by omega) (by omega) (by omega) (by simp only [↓W0, W, reduceCtorEq, seval]) (by simp only [↓W0, W, reduceCtorEq, seval]) (by simp only [↓W0, W, reduceCtorEq, seval]) (by simp only [↓W0, W, reduceCtorEq, seval]) (by simp only [↓W0, W, reduceCtorEq, seval]) (by simp only [↓W0, W, reduceCtorEq, seval]) (((Ext.new _ _).newer _).newer _ |>.newer _) (by simp only [↓W0, W, reduceCtorEq, seval]) ?_
  exact fun σ' a b c => ⟨_, _, _, rfl, a, by omega, b, c⟩
 ·refine flnew_loop (σ0 := σ) (gens := gens) (p := σ.n + 3) (b1 := σ.n + 1) (b2 := σ.n) (b3 := σ.n + 2) h1 h2 (by omega) (by omega) (by omega) (by omega) (by omega) (by omega) (by omega) (by omega) (by simp only [↓W0, W, reduceCtorEq, seval]) (by simp only [↓W0, W, reduceCtorEq, seval]) (by simp only [↓W0, W, reduceCtorEq, seval]) (by simp only [↓W0, W, reduceCtorEq, seval]) (by simp only [↓W0, W, reduceCtorEq, seval]) (by simp only [↓W0, W, reduceCtorEq, seval]) (((Ext.new _ _).newer _).newer _ |>.newer _) (by simp only [↓W0, W, reduceCtorEq, seval]) ?_
  exact fun σ' a b c => ⟨_, _, _, rfl, a, by omega, b, c⟩
 ·refine flnew_loop (σ0 := σ) (gens := gens) (p := σ.n + 3) (b1 := σ.n + 2) (b2 := σ.n) (b3 := σ.n + 1) h1 h2 (by omega) (by omega) (by omega) (by omega) (by omega) (by omega) (by omega) (by omega) (by simp only [↓W0, W, reduceCtorEq, seval]) (by simp only [↓W0, W, reduceCtorEq, seval]) (by simp only [↓W0, W, reduceCtorEq, seval]) (by simp only [↓W0, W, reduceCtorEq, seval]) (by simp only [↓W0, W, reduceCtorEq, seval]) (by simp only [↓W0, W, reduceCtorEq, seval]) (((Ext.new _ _).newer _).newer _ |>.newer _) (by simp only [↓W0, W, reduceCtorEq, seval]) ?_
  exact fun σ' a b c => ⟨_, _, _, rfl, a, by omega, b, c⟩
 ·refine flnew_loop (σ0 := σ) (gens := gens) (p := σ.n + 3) (b1 := σ.n + 1) (b2 := σ.n + 2) (b3 := σ.n) h1 h2 (by omega) (by omega) (by omega) (by omega) (by omega) (by omega) (by omega) (by omega) (by simp only [↓W0, W, reduceCtorEq, seval]) (by simp only [↓W0, W, reduceCtorEq, seval]) (by simp only [↓W0, W, reduceCtorEq, seval]) (by simp only [↓W0, W, reduceCtorEq, seval]) (by simp only [↓W0, W, reduceCtorEq, seval]) (by simp only [↓W0, W, reduceCtorEq, seval]) (((Ext.new _ _).newer _).newer _ |>.newer _) (by simp only [↓W0, W, reduceCtorEq, seval]) ?_
  exact fun σ' a b c => ⟨_, _, _, rfl, a, by omega, b, c⟩
 ·refine flnew_loop (σ0 := σ) (gens := gens) (p := σ.n + 3) (b1 := σ.n + 2) (b2 := σ.n + 1) (b3 := σ.n) h1 h2 (by omega) (by omega) (by omega) (by omega) (by omega) (by omega) (by omega) (by omega) (by simp only [↓W0, W, reduceCtorEq, seval]) (by simp only [↓W0, W, reduceCtorEq, seval]) (by simp only [↓W0, W, reduceCtorEq, seval]) (by simp only [↓W0, W, reduceCtorEq, seval]) (by simp only [↓W0, W, reduceCtorEq, seval]) (by simp only [↓W0, W, reduceCtorEq, seval]) (((Ext.new _ _).newer _).newer _ |>.newer _) (by simp only [↓W0, W, reduceCtorEq, seval]) ?_
  exact fun σ' a b c => ⟨_, _, _, rfl, a, by omega, b, c⟩
end Go.Proofs.YtekhblefchceaaaGreat.AM

/- The functions that the interpreter knows. -/
set_option maxRecDepth 100000
namespace Go.Proofs.YtekhblefchceaaaGreat.AM
open Go Go.Proofs
end Go.Proofs.YtekhblefchceaaaGreat.AM

/- What the interpreter is given for the closed statement. -/
set_option linter.unusedSectionVars false
namespace Go.Proofs.YtekhblefchceaaaGreat.AM
open Go Go.Proofs
variable {P : Program} {σ : St}
section
variable {n : Nat} {π : Nat -> Nat} (hπ : ∀ β, β < n -> π β = β)
include hπ
end
end Go.Proofs.YtekhblefchceaaaGreat.AM

/- The interpreter of the given program. -/
namespace Go.Proofs.YtekhblefchceaaaGreat.AM
open Go Go.Proofs
variable {σ : St}
end Go.Proofs.YtekhblefchceaaaGreat.AM

/- The library contract of strings.Repeat at this program, laid by the kit (lay-shelf.mjs, lay-plain.mjs). -/
namespace Go.Proofs
open Go.Shelf
def Tryz.lays105_ren : Go.Shelf.Ren := ⟨fun | 105 => 27 | 212 => 61 | 99 => 62 | 165 => 63 | 166 => 64 | 170 => 65 | 169 => 66 | 263 => 123 | 264 => 124 | 206 => 125 | 240 => 126 | 241 => 127 | 276 => 184 | 277 => 185 | n => n, fun | 9 => 9 | 3 => 3 | 4 => 4 | 20 => 20 | 0 => 0 | 46 => 132 | 109 => 133 | 5 => 5 | 72 => 138 | 76 => 142 | 51 => 222 | 146 => 223 | 53 => 35 | 148 => 225 | 70 => 136 | 37 => 125 | 75 => 141 | 127 => 227 | 164 => 283 | 80 => 145 | n => n, fun | n => n⟩
theorem Tryz.lays105 : Go.Proofs.Lays.n105 Tryz.prog Tryz.lays105_ren := {
  mixed := by kernel_rfl
  f99 := Tryz.func62.trans (congrArg some (by kernel_rfl))
  f105 := Tryz.func27.trans (congrArg some (by kernel_rfl))
  f165 := Tryz.func63.trans (congrArg some (by kernel_rfl))
  f166 := Tryz.func64.trans (congrArg some (by kernel_rfl))
  f169 := Tryz.func66.trans (congrArg some (by kernel_rfl))
  f170 := Tryz.func65.trans (congrArg some (by kernel_rfl))
  f206 := Tryz.func125.trans (congrArg some (by kernel_rfl))
  f212 := Tryz.func61.trans (congrArg some (by kernel_rfl))
  f240 := Tryz.func126.trans (congrArg some (by kernel_rfl))
  f241 := Tryz.func127.trans (congrArg some (by kernel_rfl))
  f263 := Tryz.func123.trans (congrArg some (by kernel_rfl))
  f264 := Tryz.func124.trans (congrArg some (by kernel_rfl))
  f276 := Tryz.func184.trans (congrArg some (by kernel_rfl))
  f277 := Tryz.func185.trans (congrArg some (by kernel_rfl))
  t0 := Tryz.underlying0
  a0 := Tryz.isAgg0
  z0 := Tryz.sizeOf0
  v0 := Tryz.zeroValue0
  t3 := Tryz.underlying3
  a3 := Tryz.isAgg3
  z3 := Tryz.sizeOf3
  v3 := Tryz.zeroValue3
  t4 := Tryz.underlying4
  a4 := Tryz.isAgg4
  z4 := Tryz.sizeOf4
  v4 := Tryz.zeroValue4
  t5 := Tryz.underlying5
  a5 := Tryz.isAgg5
  z5 := Tryz.sizeOf5
  v5 := Tryz.zeroValue5
  t9 := Tryz.underlying9
  a9 := Tryz.isAgg9
  z9 := Tryz.sizeOf9
  v9 := Tryz.zeroValue9
  t20 := Tryz.underlying20
  a20 := Tryz.isAgg20
  z20 := Tryz.sizeOf20
  v20 := Tryz.zeroValue20
  t37 := Tryz.underlying125
  a37 := Tryz.isAgg125
  z37 := Tryz.sizeOf125
  v37 := Tryz.zeroValue125
  t46 := Tryz.underlying132
  a46 := Tryz.isAgg132
  z46 := Tryz.sizeOf132
  v46 := Tryz.zeroValue132
  t51 := Tryz.underlying222
  a51 := Tryz.isAgg222
  z51 := Tryz.sizeOf222
  v51 := Tryz.zeroValue222
  t53 := Tryz.underlying35
  a53 := Tryz.isAgg35
  z53 := Tryz.sizeOf35
  v53 := Tryz.zeroValue35
  t70 := Tryz.underlying136
  a70 := Tryz.isAgg136
  z70 := Tryz.sizeOf136
  v70 := Tryz.zeroValue136
  t72 := Tryz.underlying138
  a72 := Tryz.isAgg138
  z72 := Tryz.sizeOf138
  v72 := Tryz.zeroValue138
  t75 := Tryz.underlying141
  a75 := Tryz.isAgg141
  z75 := Tryz.sizeOf141
  v75 := Tryz.zeroValue141
  t76 := Tryz.underlying142
  a76 := Tryz.isAgg142
  z76 := Tryz.sizeOf142
  v76 := Tryz.zeroValue142
  t109 := Tryz.underlying133
  a109 := Tryz.isAgg133
  z109 := Tryz.sizeOf133
  v109 := Tryz.zeroValue133
  t127 := Tryz.underlying227
  a127 := Tryz.isAgg227
  z127 := Tryz.sizeOf227
  v127 := Tryz.zeroValue227
  t146 := Tryz.underlying223
  a146 := Tryz.isAgg223
  z146 := Tryz.sizeOf223
  v146 := Tryz.zeroValue223
  t148 := Tryz.underlying225
  a148 := Tryz.isAgg225
  z148 := Tryz.sizeOf225
  v148 := Tryz.zeroValue225
  t164 := Tryz.underlying283
  a164 := Tryz.isAgg283
  z164 := Tryz.sizeOf283
  v164 := Tryz.zeroValue283 }
theorem Tryz.Builder_Extra_105 : Builder.Extra Tryz.prog Tryz.lays105_ren := {
  sizeBuilder := by kernel_rfl
  liesBuilder := by kernel_rfl
  t5 := Tryz.underlying5
  a5 := Tryz.isAgg5
  z5 := Tryz.sizeOf5
  v5 := Tryz.zeroValue5
  infoByte := by kernel_rfl
  cellsByte := by kernel_rfl
  sizeByte := by kernel_rfl
  neB5 := by decide }
end Go.Proofs

/- strings.Repeat, by the kit's contract. -/
namespace Go.Proofs.YtekhblefchceaaaGreat.AM
open Go Go.Proofs Go.RowKit
variable {P : Program} {σ : St}
theorem rel_below {g : Gh} {h h' : Heap} (r : Rel P g σ h) (hs : h.size <= h'.size) (hb : ∀ k, k < h.size -> h'[k]? = h[k]?) : Rel P g σ h' /\ Evo g σ h g σ h' := by
 have hcs : ∀ b i v, hc h b i = some v -> hc h' b i = some v := by
  intro b i v hv
  have hlt := hc_lt hv
  unfold hc at hv ⊢
  rw [hb b hlt]; exact hv
 have hic : ∀ b i v, IC g σ.H h b i v -> IC g σ.H h' b i v := fun b i v hi => ⟨hcs b i v hi.1, hi.2⟩
 refine ⟨⟨r.lt, r.inj, fun β k hk => ?_⟩, Nat.le_refl _, g.le_refl _, hic, fun b o hd => ⟨?_, hd.2⟩, hs, fun b c e z hc => ⟨c, z, ?_, rfl⟩⟩
 ·have hbk := r.blk β k hk
  rw [hb _ hbk.lt]
  exact hbk.mono (Nat.le_refl _) (g.le_refl _) (r.lt β k hk) hic
 ·rw [hb b (Array.getElem?_eq_some_iff.1 hd.1).1]; exact hd.1
 ·rw [hb b (Array.getElem?_eq_some_iff.1 hc).1]; exact hc
theorem ACalls.of_below {f : Nat} {args : List AV} {X : AV} {cX : Value} (hok : CallOk P f) (hX : ∀ (g : Gh) (w : World), VRs g σ w X cX)
  (h : ∀ (g : Gh) (w : World) (cargs : List Value), Rel P g σ w.heap -> VRL g σ w args cargs -> Calls P f cargs.toArray w (fun e w' => e = .returned cX /\ Below w.heap.size w w')) : ACalls P f args σ (fun v σ' => v = X /\ σ' = σ) :=
 ⟨hok, ⟨X, σ, rfl, rfl⟩, fun g w cargs r hl => by
  have h1 := (callsIn_wide (n := 0)).2 (h g w cargs r hl)
  refine CallsIn.mono h1 fun e w' hp => ?_
  obtain ⟨rfl, hb⟩ := hp
  obtain ⟨r', e'⟩ := rel_below r hb.size hb.block
  exact ⟨X, σ, g, ⟨rfl, rfl⟩, r', hX g w', ⟨e', hb.os, hb.output⟩⟩⟩
end Go.Proofs.YtekhblefchceaaaGreat.AM

/- Closed code in pieces: each piece from one written state to the next. -/
namespace Go.Proofs.YtekhblefchceaaaGreat.AM
open Go Go.Proofs
variable {σ : St}
end Go.Proofs.YtekhblefchceaaaGreat.AM

