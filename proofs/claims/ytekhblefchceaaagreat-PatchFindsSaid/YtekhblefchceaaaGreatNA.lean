/- Joined: C10, M26, N1, N2, Sh1, N3, N4. -/
import Derived.Test.YtekhblefchceaaaGreatCA
import Derived.Test.YtekhblefchceaaaGreatME
import Derived.Test.YtekhblefchceaaaGreatK1
import Derived.Test.YtekhblefchceaaaGreatK2
import Derived.Test.YtekhblefchceaaaGreatCB
import Derived.Shelf.Strings.Repeat
import Derived.Test.YtekhblefchceaaaGreatProg
set_option linter.unusedVariables false
set_option linter.unusedSimpArgs false
/- Contracts: freelist.New. -/
set_option maxRecDepth 20000
namespace Go.Proofs.YtekhblefchceaaaGreat.AM
open Go Go.Proofs
variable {σ : St}
theorem put_mid {A B : List AV} {x v : AV} {i : Nat} (h : A.length = i) : putCells (A ++ x :: B) i [v] = A ++ v :: B := by
 subst h
 simp [putCells]
theorem flat_rep (n : Nat) (v : AV) : (List.replicate n [v]).flatten = List.replicate n v := by
 induction n with
 | zero => rfl
 | succ n ih => simp [List.replicate_succ, ih]
def stk (n i : Nat) : List AV := (List.range i).map fun j => .int .i64 ((n - 1 - j : Nat) : Int)
theorem stk_succ (n i : Nat) : stk n (i + 1) = stk n i ++ [.int .i64 ((n - 1 - i : Nat) : Int)] := by simp [stk, List.range_succ]
def FlNew (n gens : Nat) (σ : St) (p b1 b2 b3 : Nat) : Prop :=
 lk σ.H p = some (.arr [.hs b1 0 n n, .hs b2 0 n n, .hs b3 0 n n, .int .u64 gens]) /\
 lk σ.H b1 = some (.arr (stk n n)) /\ lk σ.H b2 = some (.arr (List.replicate n (.int .u8 0))) /\ lk σ.H b3 = some (.arr (List.replicate n (.int .u64 1)))
theorem flnew_loop {n gens p b1 b2 b3 : Nat} {σ0 : St} {ρ : Env} (h1 : 1 <= n) (h2 : n <= 16384) (d1 : b1 ≠ p) (d2 : b2 ≠ p) (d3 : b3 ≠ p) (d4 : b1 ≠ b2) (d5 : b1 ≠ b3) (d6 : b2 ≠ b3) (o1 : σ0.n <= b1) (o3 : σ0.n <= b3)
  (e0 : ρ 0 = .int .i64 n) (e6 : ρ 6 = .ptr p 0) (l0 : lk σ.H p = some (.arr [.hs b1 0 n n, .hs b2 0 n n, .hs b3 0 n n, .int .u64 gens]))
  (l1 : lk σ.H b1 = some (.arr (List.replicate n (.int .i64 0)))) (l2 : lk σ.H b2 = some (.arr (List.replicate n (.int .u8 0)))) (l3 : lk σ.H b3 = some (.arr (List.replicate n (.int .u64 0)))) (hE : Ext σ0 σ) (hn : σ.n = σ0.n + 4)
  {K : AV -> St -> Prop} (hK : ∀ σ', FlNew n gens σ' p b1 b2 b3 -> Ext σ0 σ' -> σ'.n = σ0.n + 4 -> K (.tup [.ptr p 0, .int .i64 0]) σ') :
  AW Tryz.prog none a81.nt (.seq (.seq (.rg r81_4) (.block 0 (.loop l81_10))) (.seq (.rg r81_10) (.ret))) (FPost a81.res K) ρ σ := by
 refine AW.seq (AW.seq (AW.rg hmix ?_))
 try unfold r81_4
 simp only [↓W0, W, reduceCtorEq, seval, r81_4, e0]
 refine AW.block (AW.loop (fun k ρ σ' => ∃ i, k + i = n /\ ρ 0 = .int .i64 n /\ ρ 6 = .ptr p 0 /\ ρ 31 = .int .i64 n /\ ρ 32 = .int .i64 (i : Nat) /\ lk σ'.H p = some (.arr [.hs b1 0 n n, .hs b2 0 n n, .hs b3 0 n n, .int .u64 gens]) /\
  lk σ'.H b1 = some (.arr (stk n i ++ List.replicate (n - i) (.int .i64 0))) /\ lk σ'.H b2 = some (.arr (List.replicate n (.int .u8 0))) /\ lk σ'.H b3 = some (.arr (List.replicate i (.int .u64 1) ++ List.replicate (n - i) (.int .u64 0))) /\ Ext σ0 σ' /\ σ'.n = σ0.n + 4) n
  ⟨0, by simp, by simp only [↓W0, W, reduceCtorEq, seval, e0], by simp only [↓W0, W, reduceCtorEq, seval, e6], by simp only [↓W0, W, reduceCtorEq, seval], by simp only [↓W0, W, reduceCtorEq, seval] <;> rfl, l0, by simpa [stk] using l1, l2, by simpa using l3, hE, hn⟩ ?_)
 rintro k ρ σ' ⟨i, hk, t0, t6, t31, t32, m0, m1, m2, m3, hE', hn'⟩
 unfold l81_10
 refine AW.seq (AW.rg hmix ?_)
 try unfold r81_5
 simp only [↓W0, W, reduceCtorEq, seval, r81_5, t31, t32]
 refine AW.seq ?_
 by_cases hi : i < n
 ·refine AW.cond (t := true) (by simp only [↓W0, W, reduceCtorEq, seval, Int.ofNat_lt, hi]) (AW.skip ?_)
  simp only [↓W0, W, reduceCtorEq, seval]
  refine AW.seq (AW.block (AW.seq (AW.rg hmix ?_)))
  try unfold r81_6
  simp only [↓W0, W, reduceCtorEq, seval, r81_6, t32]
  refine AW.seq (AW.rg hmix ?_)
  have hs1 : (stk n i).length = i := by simp [stk]
  have hr : n - i = (n - (i + 1)) + 1 := by omega
  have n1 : wr .i64 ((n : Int) - 1) = ((n - 1 : Nat) : Int) := by rw [wr_i (by omega)]; omega
  have n2 : wr .i64 (((n - 1 : Nat) : Int) - (i : Int)) = ((n - 1 - i : Nat) : Int) := by rw [wr_i (by omega)]; omega
  have len1 : (stk n i ++ List.replicate (n - i) (AV.int .i64 0)).length = n := by simp [hs1]; omega
  have len3 : (List.replicate i (AV.int .u64 1) ++ List.replicate (n - i) (AV.int .u64 0)).length = n := by simp; omega
  have hle : i + 1 <= n := hi
  try unfold r81_7
  simp only [↓W0, W, reduceCtorEq, seval, r81_7, t0, t6, t32, m0, m1, n1, n2, hi, hle, len1]
  refine AW.rg hmix ?_
  try unfold r81_8
  simp only [↓W0, W, reduceCtorEq, seval, r81_8, t6, m0, m3, d1, d5, hi, hle, len3]
  refine AW.rg hmix ?_
  try unfold r81_9
  simp only [↓W0, W, reduceCtorEq, seval, r81_9, t32]
  refine ⟨k - 1, by omega, i + 1, by omega, t0, t6, t31, ?_, ?_, ?_, ?_, ?_, ?_, ?_⟩
  ·rw [wr_i (by omega)]; rfl
  ·simp only [↓W0, W, reduceCtorEq, seval, d1, d3, m0]
  ·have e := @put_mid (stk n i) (List.replicate (n - (i + 1)) (.int .i64 0)) (.int .i64 0) (.int .i64 ((n - 1 - i : Nat) : Int)) i hs1
   simp only [putCells, List.length_cons, List.length_nil, Nat.zero_add] at e
   simp only [↓W0, W, reduceCtorEq, seval, d5, Ne.symm d5, m1]
   rw [hr, List.replicate_succ, e, stk_succ, List.append_assoc]
   rfl
  ·simp only [↓W0, W, reduceCtorEq, seval, d4, d6, Ne.symm d6, m2]
  ·have e := @put_mid (List.replicate i (.int .u64 1)) (List.replicate (n - (i + 1)) (.int .u64 0)) (.int .u64 0) (.int .u64 1) i (by simp)
   simp only [putCells, List.length_cons, List.length_nil, Nat.zero_add] at e
   simp only [↓W0, W, reduceCtorEq, seval, d5, m3]
   rw [hr, List.replicate_succ, e, List.replicate_succ', List.append_assoc]
   rfl
  ·exact (hE'.set o1 _).set o3 _
  ·simp only [↓W0, W, reduceCtorEq, seval, hn']
 ·refine AW.cond (t := false) (by simp only [↓W0, W, reduceCtorEq, seval, Int.ofNat_lt, hi]) (AW.exit ?_)
  have : i = n := by omega
  subst this
  simp only [↓W0, W, reduceCtorEq, seval]
  refine AW.seq (AW.rg hmix ?_)
  try unfold r81_10
  simp only [↓W0, W, reduceCtorEq, seval, r81_10, t6]
  refine AW.ret ?_
  simp only [↓W0, W, reduceCtorEq, seval, a81]
  refine hK σ' ⟨m0, by simpa using m1, m2, by simpa using m3⟩ hE' hn'
theorem flnew_ok (n gens : Nat) (h1 : 1 <= n) (h2 : n <= 16384) (g1 : 1 <= gens) (g2 : gens <= 4294967295) : ACalls Tryz.prog 81 [.int .i64 n, .int .u64 gens] σ (fun v σ' => ∃ b1 b2 b3, v = .tup [.ptr (σ.n + 3) 0, .int .i64 0] /\
  FlNew n gens σ' (σ.n + 3) b1 b2 b3 /\ ((b1 = σ.n /\ ((b2 = σ.n + 1 /\ b3 = σ.n + 2) \/ (b2 = σ.n + 2 /\ b3 = σ.n + 1))) \/ (b1 = σ.n + 1 /\ ((b2 = σ.n /\ b3 = σ.n + 2) \/ (b2 = σ.n + 2 /\ b3 = σ.n))) \/ (b1 = σ.n + 2 /\ ((b2 = σ.n + 1 /\ b3 = σ.n) \/ (b2 = σ.n /\ b3 = σ.n + 1)))) /\ Ext σ σ' /\ σ'.n = σ.n + 4) := by
 refine FOk.calls ok81 (by simp [a81]) ?_
 show AW _ _ _ c81 _ _ _
 unfold c81
 refine AW.seq (AW.rg hmix ?_)
 try unfold r81_0
 simp only [↓W0, W, reduceCtorEq, seval, r81_0]
 refine AW.seq (AW.seq (AW.rg hmix ?_))
 have e1 : ¬ ((n : Int) < 1) := by omega
 have e2 : ¬ (16384 < (n : Int)) := by omega
 have e3 : ¬ ((gens : Int) < 1) := by omega
 have e4 : ¬ (4294967295 < (gens : Int)) := by omega
 try unfold r81_1
 simp only [↓W0, W, reduceCtorEq, seval, r81_1, e1, e2, e3, e4]
 refine AW.cond (t := false) (by simp only [↓W0, W, reduceCtorEq, seval]) (AW.skip ?_)
 simp only [↓W0, W, reduceCtorEq, seval]
 refine AW.seq (AW.qt none (.p 0 (.p 2 (.p 4 (.p 6 (.c 1 (.b 3 (.a 5 (.p 7 (.a 8 (.p 9 .nil)))) 5 (.a 3 (.p 7 (.a 8 (.p 9 .nil))))) 3 (.b 1 (.a 5 (.p 7 (.a 8 (.p 9 .nil)))) 5 (.a 1 (.p 7 (.a 8 (.p 9 .nil))))) 5 (.b 1 (.a 3 (.p 7 (.a 8 (.p 9 .nil)))) 3 (.a 1 (.p 7 (.a 8 (.p 9 .nil)))))))))) [] hmix (by decide) (by decide) (SB.nil _) ?_)
 have b8 : n * (8 + 1) <= maxBytes := by simp [maxBytes]; omega
 have b1 : n * (1 + 1) <= maxBytes := by simp [maxBytes]; omega
 try unfold r81_3
 simp only [↓W0, W, reduceCtorEq, seval, r81_3, b8, b1, flat_rep]
 refine ⟨⟨?_, ?_⟩, ⟨?_, ?_⟩, ⟨?_, ?_⟩⟩
 ·refine flnew_loop (σ0 := σ) (gens := gens) (p := σ.n + 3) (b1 := σ.n) (b2 := σ.n + 1) (b3 := σ.n + 2) h1 h2 (by omega) (by omega) (by omega) (by omega) (by omega) (by omega) (by omega) (by omega) (by simp only [↓W0, W, reduceCtorEq, seval]) (by simp only [↓W0, W, reduceCtorEq, seval]) (by simp only [↓W0, W, reduceCtorEq, seval]) (by simp only [↓W0, W, reduceCtorEq, seval]) (by simp only [↓W0, W, reduceCtorEq, seval]) (by simp only [↓W0, W, reduceCtorEq, seval]) (((Ext.new _ _).newer _).newer _ |>.newer _) (by simp only [↓W0, W, reduceCtorEq, seval]) ?_
  exact fun σ' a b c => ⟨_, _, _, rfl, a, by omega, b, c⟩
 ·refine flnew_loop (σ0 := σ) (gens := gens) (p := σ.n + 3) (b1 := σ.n) (b2 := σ.n + 2) (b3 := σ.n + 1) h1 h2 (by omega) (by omega) (by omega) (by omega) (by omega) (by omega) (by omega) (by omega) (by simp only [↓W0, W, reduceCtorEq, seval]) (by simp only [↓W0, W, reduceCtorEq, seval]) (by simp only [↓W0, W, reduceCtorEq, seval]) (by simp only [↓W0, W, reduceCtorEq, seval]) (by simp only [↓W0, W, reduceCtorEq, seval]) (by simp only [↓W0, W, reduceCtorEq, seval]) (((Ext.new _ _).newer _).newer _ |>.newer _) (by simp only [↓W0, W, reduceCtorEq, seval]) ?_
  exact fun σ' a b c => ⟨_, _, _, rfl, a, by omega, b, c⟩
 ·refine flnew_loop (σ0 := σ) (gens := gens) (p := σ.n + 3) (b1 := σ.n + 1) (b2 := σ.n) (b3 := σ.n + 2) h1 h2 (by omega) (by omega) (by omega) (by omega) (by omega) (by omega) (by omega) (by omega) (by simp only [↓W0, W, reduceCtorEq, seval]) (by simp only [↓W0, W, reduceCtorEq, seval]) (by simp only [↓W0, W, reduceCtorEq, seval]) (by simp only [↓W0, W, reduceCtorEq, seval]) (by simp only [↓W0, W, reduceCtorEq, seval]) (by simp only [↓W0, W, reduceCtorEq, seval]) (((Ext.new _ _).newer _).newer _ |>.newer _) (by simp only [↓W0, W, reduceCtorEq, seval]) ?_
  exact fun σ' a b c => ⟨_, _, _, rfl, a, by omega, b, c⟩
 ·refine flnew_loop (σ0 := σ) (gens := gens) (p := σ.n + 3) (b1 := σ.n + 2) (b2 := σ.n) (b3 := σ.n + 1) h1 h2 (by omega) (by omega) (by omega) (by omega) (by omega) (by omega) (by omega) (by omega) (by simp only [↓W0, W, reduceCtorEq, seval]) (by simp only [↓W0, W, reduceCtorEq, seval]) (by simp only [↓W0, W, reduceCtorEq, seval]) (by simp only [↓W0, W, reduceCtorEq, seval]) (by simp only [↓W0, W, reduceCtorEq, seval]) (by simp only [↓W0, W, reduceCtorEq, seval]) (((Ext.new _ _).newer _).newer _ |>.newer _) (by simp only [↓W0, W, reduceCtorEq, seval]) ?_
  exact fun σ' a b c => ⟨_, _, _, rfl, a, by omega, b, c⟩
 ·refine flnew_loop (σ0 := σ) (gens := gens) (p := σ.n + 3) (b1 := σ.n + 1) (b2 := σ.n + 2) (b3 := σ.n) h1 h2 (by omega) (by omega) (by omega) (by omega) (by omega) (by omega) (by omega) (by omega) (by simp only [↓W0, W, reduceCtorEq, seval]) (by simp only [↓W0, W, reduceCtorEq, seval]) (by simp only [↓W0, W, reduceCtorEq, seval]) (by simp only [↓W0, W, reduceCtorEq, seval]) (by simp only [↓W0, W, reduceCtorEq, seval]) (by simp only [↓W0, W, reduceCtorEq, seval]) (((Ext.new _ _).newer _).newer _ |>.newer _) (by simp only [↓W0, W, reduceCtorEq, seval]) ?_
  exact fun σ' a b c => ⟨_, _, _, rfl, a, by omega, b, c⟩
 ·refine flnew_loop (σ0 := σ) (gens := gens) (p := σ.n + 3) (b1 := σ.n + 2) (b2 := σ.n + 1) (b3 := σ.n) h1 h2 (by omega) (by omega) (by omega) (by omega) (by omega) (by omega) (by omega) (by omega) (by simp only [↓W0, W, reduceCtorEq, seval]) (by simp only [↓W0, W, reduceCtorEq, seval]) (by simp only [↓W0, W, reduceCtorEq, seval]) (by simp only [↓W0, W, reduceCtorEq, seval]) (by simp only [↓W0, W, reduceCtorEq, seval]) (by simp only [↓W0, W, reduceCtorEq, seval]) (((Ext.new _ _).newer _).newer _ |>.newer _) (by simp only [↓W0, W, reduceCtorEq, seval]) ?_
  exact fun σ' a b c => ⟨_, _, _, rfl, a, by omega, b, c⟩
end Go.Proofs.YtekhblefchceaaaGreat.AM

/- The functions that the interpreter knows. -/
set_option maxRecDepth 100000
namespace Go.Proofs.YtekhblefchceaaaGreat.AM
open Go Go.Proofs
inductive BT (α : Type) where
  | leaf
  | node (k : Nat) (a : α) (l r : BT α)
noncomputable def look {α : Type} (t : BT α) (j : Nat) : Option α :=
  BT.rec (motive := fun _ => Option α) none (fun k a _ _ l r => Bool.rec (motive := fun _ => Option α) (Bool.rec (motive := fun _ => Option α) r l (Nat.ble j k)) (some a) (Nat.beq k j)) t
def BT.All {α : Type} (R : Nat -> α -> Prop) : BT α -> Prop
  | .leaf => True
  | .node k a l r => R k a /\ l.All R /\ r.All R
theorem look_all {α : Type} {R : Nat -> α -> Prop} : ∀ {t : BT α} {j : Nat} {a : α}, t.All R -> look t j = some a -> R j a
  | .leaf, j, a, _, h => by cases h
  | .node k b l r, j, a, hr, h => by
    have e : look (.node k b l r) j = Bool.rec (motive := fun _ => Option α) (Bool.rec (motive := fun _ => Option α) (look r j) (look l j) (Nat.ble j k)) (some b) (Nat.beq k j) := rfl
    rw [e] at h
    cases h1 : Nat.beq k j with
    | true =>
      rw [h1] at h
      simp only [Option.some.injEq] at h
      rw [<- Nat.eq_of_beq_eq_true h1, <- h]; exact hr.1
    | false =>
      rw [h1] at h
      cases h2 : Nat.ble j k with
      | true => rw [h2] at h; exact look_all hr.2.1 h
      | false => rw [h2] at h; exact look_all hr.2.2 h
def tab : BT AFunc := .node 166 a166 (.node 96 a96 (.node 54 a54 (.node 25 a25 (.node 17 a17 (.node 16 a16 (.node 8 a8 .leaf .leaf) .leaf) (.node 20 a20 (.node 19 a19 .leaf .leaf) .leaf)) (.node 49 a49 (.node 44 a44 (.node 35 a35 .leaf .leaf) .leaf) (.node 53 a53 .leaf .leaf))) (.node 83 a83 (.node 59 a59 (.node 57 a57 (.node 55 a55 .leaf .leaf) .leaf) (.node 81 a81 .leaf .leaf)) (.node 93 a93 (.node 91 a91 (.node 85 a85 .leaf .leaf) .leaf) (.node 95 a95 .leaf .leaf)))) (.node 113 a113 (.node 102 a102 (.node 99 a99 (.node 98 a98 (.node 97 a97 .leaf .leaf) .leaf) (.node 100 a100 .leaf .leaf)) (.node 111 a111 (.node 110 a110 (.node 103 a103 .leaf .leaf) .leaf) (.node 112 a112 .leaf .leaf))) (.node 118 a118 (.node 116 a116 (.node 115 a115 (.node 114 a114 .leaf .leaf) .leaf) (.node 117 a117 .leaf .leaf)) (.node 156 a156 (.node 155 a155 (.node 130 a130 .leaf .leaf) .leaf) (.node 165 a165 .leaf .leaf))))) (.node 219 a219 (.node 177 a177 (.node 171 a171 (.node 169 a169 (.node 168 a168 (.node 167 a167 .leaf .leaf) .leaf) (.node 170 a170 .leaf .leaf)) (.node 174 a174 (.node 173 a173 (.node 172 a172 .leaf .leaf) .leaf) (.node 175 a175 .leaf .leaf))) (.node 189 a189 (.node 180 a180 (.node 179 a179 (.node 178 a178 .leaf .leaf) .leaf) (.node 181 a181 .leaf .leaf)) (.node 213 a213 (.node 191 a191 (.node 190 a190 .leaf .leaf) .leaf) (.node 218 a218 .leaf .leaf)))) (.node 253 a253 (.node 224 a224 (.node 222 a222 (.node 221 a221 (.node 220 a220 .leaf .leaf) .leaf) (.node 223 a223 .leaf .leaf)) (.node 251 a251 (.node 236 a236 (.node 235 a235 .leaf .leaf) .leaf) (.node 252 a252 .leaf .leaf))) (.node 263 a263 (.node 256 a256 (.node 255 a255 (.node 254 a254 .leaf .leaf) .leaf) (.node 257 a257 .leaf .leaf)) (.node 274 a274 (.node 273 a273 (.node 264 a264 .leaf .leaf) .leaf) (.node 279 a279 .leaf .leaf)))))
theorem tab_all : tab.All (FOk Tryz.prog) := ⟨ok166, ⟨ok96, ⟨ok54, ⟨ok25, ⟨ok17, ⟨ok16, ⟨ok8, trivial, trivial⟩, trivial⟩, ⟨ok20, ⟨ok19, trivial, trivial⟩, trivial⟩⟩, ⟨ok49, ⟨ok44, ⟨ok35, trivial, trivial⟩, trivial⟩, ⟨ok53, trivial, trivial⟩⟩⟩, ⟨ok83, ⟨ok59, ⟨ok57, ⟨ok55, trivial, trivial⟩, trivial⟩, ⟨ok81, trivial, trivial⟩⟩, ⟨ok93, ⟨ok91, ⟨ok85, trivial, trivial⟩, trivial⟩, ⟨ok95, trivial, trivial⟩⟩⟩⟩, ⟨ok113, ⟨ok102, ⟨ok99, ⟨ok98, ⟨ok97, trivial, trivial⟩, trivial⟩, ⟨ok100, trivial, trivial⟩⟩, ⟨ok111, ⟨ok110, ⟨ok103, trivial, trivial⟩, trivial⟩, ⟨ok112, trivial, trivial⟩⟩⟩, ⟨ok118, ⟨ok116, ⟨ok115, ⟨ok114, trivial, trivial⟩, trivial⟩, ⟨ok117, trivial, trivial⟩⟩, ⟨ok156, ⟨ok155, ⟨ok130, trivial, trivial⟩, trivial⟩, ⟨ok165, trivial, trivial⟩⟩⟩⟩⟩, ⟨ok219, ⟨ok177, ⟨ok171, ⟨ok169, ⟨ok168, ⟨ok167, trivial, trivial⟩, trivial⟩, ⟨ok170, trivial, trivial⟩⟩, ⟨ok174, ⟨ok173, ⟨ok172, trivial, trivial⟩, trivial⟩, ⟨ok175, trivial, trivial⟩⟩⟩, ⟨ok189, ⟨ok180, ⟨ok179, ⟨ok178, trivial, trivial⟩, trivial⟩, ⟨ok181, trivial, trivial⟩⟩, ⟨ok213, ⟨ok191, ⟨ok190, trivial, trivial⟩, trivial⟩, ⟨ok218, trivial, trivial⟩⟩⟩⟩, ⟨ok253, ⟨ok224, ⟨ok222, ⟨ok221, ⟨ok220, trivial, trivial⟩, trivial⟩, ⟨ok223, trivial, trivial⟩⟩, ⟨ok251, ⟨ok236, ⟨ok235, trivial, trivial⟩, trivial⟩, ⟨ok252, trivial, trivial⟩⟩⟩, ⟨ok263, ⟨ok256, ⟨ok255, ⟨ok254, trivial, trivial⟩, trivial⟩, ⟨ok257, trivial, trivial⟩⟩, ⟨ok274, ⟨ok273, ⟨ok264, trivial, trivial⟩, trivial⟩, ⟨ok279, trivial, trivial⟩⟩⟩⟩⟩⟩
theorem tab_ok : ∀ n af, look tab n = some af -> FOk Tryz.prog n af := fun n af h => look_all tab_all h
def hints : Hints
  | 47, 13 => some (some 6, .p 0 (.p 1 (.q 2 (.q 3 (.q 4 (.p 5 (.b 6 (.p 7 (.p 8 (.p 9 (.z 10 (.z 11 (.p 12 (.nil))))))) 10 (.z 6 (.p 7 (.p 8 (.p 9 (.z 11 (.p 12 (.nil))))))))))))), [(2, [])])
  | 181, 10 => some (some 4, .p 0 (.p 1 (.q 2 (.p 3 (.z 4 (.p 5 (.p 6 (.p 7 (.z 8 (.p 9 (.nil)))))))))), [(2, [])])
  | 189, 9 => some (some 4, .p 0 (.p 1 (.q 2 (.p 3 (.z 4 (.p 5 (.p 6 (.p 7 (.p 8 (.nil))))))))), [(2, [])])
  | 232, 13 => some (some 6, .p 0 (.p 1 (.b 2 (.q 3 (.q 4 (.p 5 (.b 6 (.p 7 (.p 8 (.p 9 (.z 10 (.z 11 (.p 12 (.nil))))))) 10 (.z 6 (.p 7 (.p 8 (.p 9 (.z 11 (.p 12 (.nil))))))))))) 10 (.a 2 (.q 3 (.q 4 (.p 5 (.z 6 (.p 7 (.p 8 (.p 9 (.z 11 (.p 12 (.nil))))))))))))), [(2, [])])
  | 242, 13 => some (some 6, .p 0 (.p 1 (.b 2 (.q 3 (.q 4 (.p 5 (.b 6 (.p 7 (.p 8 (.p 9 (.z 10 (.z 11 (.p 12 (.nil))))))) 10 (.z 6 (.p 7 (.p 8 (.p 9 (.z 11 (.p 12 (.nil))))))))))) 10 (.a 2 (.q 3 (.q 4 (.p 5 (.z 6 (.p 7 (.p 8 (.p 9 (.z 11 (.p 12 (.nil))))))))))))), [(2, [])])
  | 16, 13 => some (some 6, .p 0 (.p 1 (.q 2 (.q 3 (.q 4 (.p 5 (.b 6 (.p 7 (.p 8 (.p 9 (.z 10 (.z 11 (.p 12 (.nil))))))) 10 (.z 6 (.p 7 (.p 8 (.p 9 (.z 11 (.p 12 (.nil))))))))))))), [(2, [])])
  | 22, 12 => some (none, .p 0 (.p 1 (.p 2 (.p 3 (.p 4 (.p 5 (.p 6 (.p 7 (.p 8 (.p 9 (.a 10 (.p 11 (.nil)))))))))))), [(5, [])])
  | 9, 13 => some (none, .p 0 (.p 1 (.p 2 (.p 3 (.p 5 (.p 6 (.p 7 (.p 8 (.p 9 (.p 11 (.a 4 (.p 10 (.p 12 (.nil))))))))))))), [(0, [])])
  | 3, 12 => some (some 10, .p 0 (.p 1 (.p 2 (.p 3 (.p 5 (.p 6 (.p 7 (.p 8 (.p 9 (.a 4 (.z 10 (.p 11 (.nil)))))))))))), [(0, [])])
  | 6, 35 => some (some 34, .p 0 (.p 1 (.p 2 (.p 3 (.p 4 (.p 5 (.p 6 (.p 7 (.p 10 (.p 11 (.p 12 (.p 13 (.p 15 (.p 16 (.p 17 (.p 18 (.p 21 (.p 22 (.p 23 (.p 24 (.p 25 (.p 26 (.p 27 (.p 28 (.p 29 (.p 30 (.p 31 (.p 32 (.a 8 (.p 9 (.p 14 (.a 19 (.p 20 (.p 33 (.z 34 (.nil))))))))))))))))))))))))))))))))))), [(0, []), (0, [2])])
  | 38, 8 => some (some 3, .p 0 (.p 2 (.p 4 (.a 1 (.z 3 (.z 5 (.z 6 (.p 7 (.nil)))))))), [(10, []), (11, [])])
  | 5, 16 => some (none, .p 0 (.p 1 (.p 2 (.p 3 (.p 6 (.p 9 (.p 10 (.p 11 (.p 12 (.p 13 (.a 4 (.p 5 (.p 7 (.a 8 (.p 14 (.p 15 (.nil)))))))))))))))), [(0, [])])
  | 30, 13 => some (some 11, .p 0 (.p 1 (.p 2 (.p 3 (.p 4 (.p 5 (.p 6 (.p 7 (.p 8 (.p 9 (.a 10 (.z 11 (.p 12 (.nil))))))))))))), [(0, []), (8, []), (0, [2])])
  | 15, 10 => some (some 9, .p 0 (.p 1 (.p 2 (.p 3 (.p 4 (.p 5 (.p 6 (.a 7 (.p 8 (.z 9 (.nil)))))))))), [(0, [])])
  | 19, 5 => some (some 3, .p 0 (.p 1 (.a 2 (.z 3 (.p 4 (.nil))))), [(4, [])])
  | 114, 12 => some (some 6, .p 0 (.p 1 (.p 2 (.p 3 (.p 5 (.a 4 (.z 6 (.p 7 (.p 8 (.p 9 (.z 10 (.p 11 (.nil)))))))))))), [(15, [])])
  | 129, 13 => some (some 7, .p 0 (.p 1 (.p 2 (.p 3 (.p 4 (.p 5 (.a 6 (.z 7 (.p 8 (.p 9 (.p 10 (.z 11 (.p 12 (.nil))))))))))))), [(16, [])])
  | 144, 5 => some (some 3, .p 0 (.p 1 (.a 2 (.z 3 (.p 4 (.nil))))), [(6, []), (7, [])])
  | 39, 6 => some (some 3, .p 0 (.p 2 (.a 1 (.z 3 (.p 4 (.p 5 (.nil)))))), [(5, []), (6, [])])
  | 6, 11 => some (some 10, .p 0 (.p 1 (.p 2 (.p 3 (.p 4 (.p 5 (.p 6 (.a 7 (.p 8 (.p 9 (.z 10 (.nil))))))))))), [(3, []), (3, [0])])
  | 17, 6 => some (some 3, .p 0 (.p 2 (.a 1 (.z 3 (.p 4 (.p 5 (.nil)))))), [(4, []), (5, [])])
  | 8, 12 => some (some 6, .p 0 (.p 1 (.p 2 (.p 3 (.p 4 (.a 5 (.z 6 (.p 7 (.p 8 (.p 9 (.p 10 (.p 11 (.nil)))))))))))), [(0, []), (0, [0]), (1, [])])
  | _, _ => none
end Go.Proofs.YtekhblefchceaaaGreat.AM

/- What the interpreter is given for the closed statement. -/
set_option linter.unusedSectionVars false
namespace Go.Proofs.YtekhblefchceaaaGreat.AM
open Go Go.Proofs
variable {P : Program} {σ : St}
section
variable {n : Nat} {π : Nat -> Nat} (hπ : ∀ β, β < n -> π β = β)
include hπ
theorem ren_bndT {t : Tok} (h : bndT n t = true) : t.ren π = t := by
 cases t with
 | id τ => simp only [bndT, Nat.blt_eq] at h; simp only [Tok.ren, hπ τ h]
 | _ => rfl
mutual
theorem ren_bndV : ∀ {x : AV}, bndV n x = true -> x.ren π = x
 | .ptr β _, h => by simp only [bndV, Nat.blt_eq] at h; simp only [AV.ren, hπ β h]
 | .hs β _ _ _, h => by simp only [bndV, Nat.blt_eq] at h; simp only [AV.ren, hπ β h]
 | .map β, h => by simp only [bndV, Nat.blt_eq] at h; simp only [AV.ren, hπ β h]
 | .yld β, h => by simp only [bndV, Nat.blt_eq] at h; simp only [AV.ren, hπ β h]
 | .vs l t, h => by simp only [bndV, Bool.and_eq_true] at h; simp only [AV.ren, ren_bndL h.2, ren_bndT hπ h.1]
 | .bs _ t, h => by simp only [bndV] at h; simp only [AV.ren, ren_bndT hπ h]
 | .ip l, h => by simp only [bndV] at h; simp only [AV.ren, ren_bndL h]
 | .fn _ l, h => by simp only [bndV] at h; simp only [AV.ren, ren_bndL h]
 | .agg l, h => by simp only [bndV] at h; simp only [AV.ren, ren_bndL h]
 | .tup l, h => by simp only [bndV] at h; simp only [AV.ren, ren_bndL h]
 | .undef, _ => rfl
 | .bool _, _ => rfl
 | .int _ _, _ => rfl
 | .str _, _ => rfl
 | .nilp, _ => rfl
 | .nilmap, _ => rfl
 | .nilfn, _ => rfl
 | .nilif, _ => rfl
theorem ren_bndL : ∀ {l : List AV}, bndL n l = true -> renL π l = l
 | [], _ => rfl
 | x :: l, h => by simp only [bndL, Bool.and_eq_true] at h; simp only [renL, ren_bndV h.1, ren_bndL h.2]
end
end
theorem ren_bndE {n : Nat} {π : Nat -> Nat} (hπ : ∀ β, β < n -> π β = β) : ∀ {es : List MEnt}, bndE n es = true -> es.map (MEnt.ren π) = es
 | [], _ => rfl
 | e :: r, h => by
  simp only [bndE, Bool.and_eq_true] at h
  simp only [List.map_cons, ren_bndE hπ h.2, MEnt.ren, ren_bndV hπ h.1.1, ren_bndV hπ h.1.2]
theorem ren_bndB {n : Nat} {π : Nat -> Nat} (hπ : ∀ β, β < n -> π β = β) {b : Blk} (h : bndB n b = true) : b.ren π = b := by
 cases b with
 | arr c => simp only [bndB] at h; simp only [Blk.ren, <- renL_eq, ren_bndL hπ h]
 | typ t c => simp only [bndB] at h; simp only [Blk.ren, <- renL_eq, ren_bndL hπ h]
 | tok => rfl
 | map es ck => simp only [bndB] at h; simp only [Blk.ren, ren_bndE hπ h]
 | iter m ck seen => simp only [bndB, Nat.blt_eq] at h; simp only [Blk.ren, hπ m h]
 | loop st pend ρ ps asg body => simp only [bndB] at h; simp only [Blk.ren, <- renL_eq, ren_bndL hπ h]
theorem VW.sub {v : AV} {σ : St} (H' : List (Nat × Blk)) (hs : ∀ β b, lk H' β = some b -> lk σ.H β = some b) : VW P v σ v ⟨H', σ.n⟩ := fun g w cv r h =>
 let ⟨r', e'⟩ := rel_drop (P := P) H' σ.n (Nat.le_refl _) r hs
 ⟨g, r', VR.evo e' h, e'⟩
def flNewSt (n gens : Nat) (σ : St) : St :=
 ⟨(σ.n + 3, .arr [.hs σ.n 0 n n, .hs (σ.n + 1) 0 n n, .hs (σ.n + 2) 0 n n, .int .u64 gens]) :: (σ.n + 2, .arr (List.replicate n (.int .u64 1))) :: (σ.n + 1, .arr (List.replicate n (.int .u8 0))) :: (σ.n, .arr (stk n n)) :: σ.H, σ.n + 4⟩
theorem ren_ints (π : Nat -> Nat) (n : Nat) (k : IntKind) (x : Int) : (List.replicate n (AV.int k x)).map (AV.ren π) = List.replicate n (.int k x) := by
 rw [List.map_replicate]; rfl
theorem ren_stk (π : Nat -> Nat) (n i : Nat) : (stk n i).map (AV.ren π) = stk n i := by
 simp only [stk, List.map_map]
 rfl
theorem flnew_det (n gens : Nat) (h1 : 1 <= n) (h2 : n <= 16384) (g1 : 1 <= gens) (g2 : gens <= 4294967295) (hb : bndH σ.n σ.H = true) :
  ACalls Tryz.prog 81 [.int .i64 n, .int .u64 gens] σ (fun v σ' => v = .tup [.ptr (σ.n + 3) 0, .int .i64 0] /\ σ' = flNewSt n gens σ) := by
 have h := (flnew_ok (σ := σ) n gens h1 h2 g1 g2).ren (K' := fun v σ' => v = .tup [.ptr (σ.n + 3) 0, .int .i64 0] /\ σ'.n = σ.n + 4 /\ ∀ β b, lk (flNewSt n gens σ).H β = some b -> lk σ'.H β = some b) ?_
 ·refine h.weak fun v σ' hv => ?_
  obtain ⟨rfl, hn, hl⟩ := hv
  refine ⟨_, _, VW.sub (flNewSt n gens σ).H hl, rfl, ?_⟩
  rw [hn]; rfl
 ·rintro v σ' ⟨b1, b2, b3, rfl, ⟨l0, l1, l2, l3⟩, hc, hE, hn⟩
  let π : Nat -> Nat := fun x => if x = b1 then σ.n else if x = b2 then σ.n + 1 else if x = b3 then σ.n + 2 else x
  let κ : Nat -> Nat := fun x => if x = σ.n then b1 else if x = σ.n + 1 then b2 else if x = σ.n + 2 then b3 else x
  have p3 : π (σ.n + 3) = σ.n + 3 := by simp only [π]; (repeat' split) <;> omega
  have pb1 : π b1 = σ.n := if_pos rfl
  have pb2 : π b2 = σ.n + 1 := (if_neg (by omega)).trans (if_pos rfl)
  have pb3 : π b3 = σ.n + 2 := (if_neg (by omega)).trans ((if_neg (by omega)).trans (if_pos rfl))
  have pl : ∀ β, β < σ.n -> π β = β := fun β hβ => (if_neg (by omega)).trans ((if_neg (by omega)).trans (if_neg (by omega)))
  have ex : Exch π κ σ'.n := by
   refine ⟨fun x => ?_, fun x => ?_, fun x hx => ?_⟩
   ·simp only [π, κ]; (repeat' split) <;> omega
   ·simp only [π, κ]; (repeat' split) <;> omega
   ·rw [hn] at hx ⊢; simp only [π]; (repeat' split) <;> omega
  refine ⟨π, κ, ex, fun x hx => by simp only [κ]; (repeat' split) <;> omega, by simp only [AV.ren, renL, p3], hn, fun β b hβ => ?_⟩
  show lk (renH π σ'.H) β = some b
  rw [lk_ren ex]
  simp only [flNewSt, lk] at hβ
  split at hβ
  ·rename_i e; subst e
   have : κ (σ.n + 3) = σ.n + 3 := by simp only [κ]; (repeat' split) <;> omega
   rw [this, l0, <- hβ]
   simp only [Option.map_some, Blk.ren, List.map_cons, List.map_nil, AV.ren, pb1, pb2, pb3]
  split at hβ
  ·rename_i e; subst e
   have : κ (σ.n + 2) = b3 := (if_neg (by omega)).trans ((if_neg (by omega)).trans (if_pos rfl))
   rw [this, l3, <- hβ]
   simp only [Option.map_some, Blk.ren, ren_ints]
  split at hβ
  ·rename_i e; subst e
   have : κ (σ.n + 1) = b2 := (if_neg (by omega)).trans (if_pos rfl)
   rw [this, l2, <- hβ]
   simp only [Option.map_some, Blk.ren, ren_ints]
  split at hβ
  ·rename_i e; subst e
   have : κ σ.n = b1 := if_pos rfl
   rw [this, l1, <- hβ]
   simp only [Option.map_some, Blk.ren, ren_stk]
  ·obtain ⟨b1', b2'⟩ := bndH_lk hb hβ
   have : κ β = β := by simp only [κ]; (repeat' split) <;> omega
   rw [this, hE.2 β b1', hβ]
   simp only [Option.map_some, ren_bndB pl b2']
end Go.Proofs.YtekhblefchceaaaGreat.AM

/- The interpreter of the given program. -/
namespace Go.Proofs.YtekhblefchceaaaGreat.AM
open Go Go.Proofs
variable {σ : St}
def prim81 (args : List AV) (σ : St) : Option (List (AV × St)) :=
 match args with
 | [.int .i64 (.ofNat n), .int .u64 (.ofNat g)] =>
  match Nat.ble 1 n && Nat.ble n 16384 && Nat.ble 1 g && Nat.ble g 4294967295 && bndH σ.n σ.H with
  | true => some [(.tup [.ptr (σ.n + 3) 0, .int .i64 0], flNewSt n g σ)]
  | false => none
 | _ => none
def prim256 (args : List AV) (σ : St) : Option (List (AV × St)) :=
 match args with
 | [.str s] =>
  match Nat.ble s.length 1099511627776 with
  | true => some [((msOf s).av, σ)]
  | false => none
 | _ => none
def primN (n : Nat) (args : List AV) (σ : St) : Option (List (AV × St)) :=
 match Nat.beq n 256 with
 | true => prim256 args σ
 | false => match Nat.beq n 81 with
  | true => prim81 args σ
  | false => none
theorem primN_ok : ∀ n args σ xs, primN n args σ = some xs -> xs ≠ [] -> ACalls Tryz.prog n args σ (fun v σ' => (v, σ') ∈ xs) := by
 intro n args σ xs h _
 unfold primN at h
 split at h
 ·rename_i e
  rw [Nat.eq_of_beq_eq_true e]
  unfold prim256 at h
  split at h
  ·rename_i s
   split at h
   ·rename_i hl
    simp only [Option.some.injEq] at h; subst h
    refine (of_st s (Nat.le_of_ble_eq_true hl)).mono fun v σ' hv => ?_
    obtain ⟨rfl, rfl⟩ := hv
    exact List.mem_singleton.2 rfl
   ·cases h
  ·cases h
 ·split at h
  ·rename_i e
   rw [Nat.eq_of_beq_eq_true e]
   unfold prim81 at h
   split at h
   ·rename_i n g
    split at h
    ·rename_i hl
     simp only [Bool.and_eq_true] at hl
     obtain ⟨⟨⟨⟨a, b⟩, c⟩, d⟩, e⟩ := hl
     simp only [Option.some.injEq] at h; subst h
     refine (flnew_det n g (Nat.le_of_ble_eq_true a) (Nat.le_of_ble_eq_true b) (Nat.le_of_ble_eq_true c) (Nat.le_of_ble_eq_true d) e).mono fun v σ' hv => ?_
     obtain ⟨rfl, rfl⟩ := hv
     exact List.mem_singleton.2 rfl
    ·cases h
   ·cases h
  ·cases h
def keepsN (n : Nat) : Bool := [19, 22, 35, 47, 59, 81, 94, 98, 104, 114, 115, 116, 118, 175, 176, 179, 180, 181, 221].any (Nat.beq n)
def frzN (n : Nat) : Option (Bool × Nat) := if n = 218 then some (false, 1) else if n = 166 then some (false, 1) else if n = 155 then some (false, 1) else if n = 169 then some (true, 7) else none
def tightN (n : Nat) : Bool := [11, 17, 24, 25, 44, 53, 57].any (Nat.beq n)
noncomputable def CN : Cfg := { F := look tab, prim := primN, hint := hints, keeps := keepsN, frz := frzN, tight := tightN, lf := 1000 }
theorem run_ok {d n : Nat} {args : List AV} {xs : List (AV × St)} (h : go CN d (.f n) args σ = some xs) : ACalls Tryz.prog n args σ (fun v σ' => (v, σ') ∈ xs) := go_sound CN hmix tab_ok primN_ok d (.f n) args σ xs h
end Go.Proofs.YtekhblefchceaaaGreat.AM

/- The library contract of strings.Repeat at this program, laid by the kit (lay-shelf.mjs, lay-plain.mjs). -/
namespace Go.Proofs
open Go.Shelf
def Tryz.lays105_ren : Go.Shelf.Ren := ⟨fun | 105 => 27 | 212 => 61 | 99 => 62 | 165 => 63 | 166 => 64 | 170 => 65 | 169 => 66 | 263 => 123 | 264 => 124 | 206 => 125 | 240 => 126 | 241 => 127 | 276 => 184 | 277 => 185 | n => n, fun | 9 => 9 | 3 => 3 | 4 => 4 | 20 => 20 | 0 => 0 | 46 => 132 | 109 => 133 | 5 => 5 | 72 => 138 | 76 => 142 | 51 => 222 | 146 => 223 | 53 => 35 | 148 => 225 | 70 => 136 | 37 => 125 | 75 => 141 | 127 => 227 | 164 => 283 | 80 => 145 | n => n, fun | n => n⟩
theorem Tryz.lays105 : Go.Proofs.Lays.n105 Tryz.prog Tryz.lays105_ren := {
  mixed := by kernel_rfl
  f99 := Tryz.func62.trans (congrArg some (by kernel_rfl))
  f105 := Tryz.func27.trans (congrArg some (by kernel_rfl))
  f165 := Tryz.func63.trans (congrArg some (by kernel_rfl))
  f166 := Tryz.func64.trans (congrArg some (by kernel_rfl))
  f169 := Tryz.func66.trans (congrArg some (by kernel_rfl))
  f170 := Tryz.func65.trans (congrArg some (by kernel_rfl))
  f206 := Tryz.func125.trans (congrArg some (by kernel_rfl))
  f212 := Tryz.func61.trans (congrArg some (by kernel_rfl))
  f240 := Tryz.func126.trans (congrArg some (by kernel_rfl))
  f241 := Tryz.func127.trans (congrArg some (by kernel_rfl))
  f263 := Tryz.func123.trans (congrArg some (by kernel_rfl))
  f264 := Tryz.func124.trans (congrArg some (by kernel_rfl))
  f276 := Tryz.func184.trans (congrArg some (by kernel_rfl))
  f277 := Tryz.func185.trans (congrArg some (by kernel_rfl))
  t0 := Tryz.underlying0
  a0 := Tryz.isAgg0
  z0 := Tryz.sizeOf0
  v0 := Tryz.zeroValue0
  t3 := Tryz.underlying3
  a3 := Tryz.isAgg3
  z3 := Tryz.sizeOf3
  v3 := Tryz.zeroValue3
  t4 := Tryz.underlying4
  a4 := Tryz.isAgg4
  z4 := Tryz.sizeOf4
  v4 := Tryz.zeroValue4
  t5 := Tryz.underlying5
  a5 := Tryz.isAgg5
  z5 := Tryz.sizeOf5
  v5 := Tryz.zeroValue5
  t9 := Tryz.underlying9
  a9 := Tryz.isAgg9
  z9 := Tryz.sizeOf9
  v9 := Tryz.zeroValue9
  t20 := Tryz.underlying20
  a20 := Tryz.isAgg20
  z20 := Tryz.sizeOf20
  v20 := Tryz.zeroValue20
  t37 := Tryz.underlying125
  a37 := Tryz.isAgg125
  z37 := Tryz.sizeOf125
  v37 := Tryz.zeroValue125
  t46 := Tryz.underlying132
  a46 := Tryz.isAgg132
  z46 := Tryz.sizeOf132
  v46 := Tryz.zeroValue132
  t51 := Tryz.underlying222
  a51 := Tryz.isAgg222
  z51 := Tryz.sizeOf222
  v51 := Tryz.zeroValue222
  t53 := Tryz.underlying35
  a53 := Tryz.isAgg35
  z53 := Tryz.sizeOf35
  v53 := Tryz.zeroValue35
  t70 := Tryz.underlying136
  a70 := Tryz.isAgg136
  z70 := Tryz.sizeOf136
  v70 := Tryz.zeroValue136
  t72 := Tryz.underlying138
  a72 := Tryz.isAgg138
  z72 := Tryz.sizeOf138
  v72 := Tryz.zeroValue138
  t75 := Tryz.underlying141
  a75 := Tryz.isAgg141
  z75 := Tryz.sizeOf141
  v75 := Tryz.zeroValue141
  t76 := Tryz.underlying142
  a76 := Tryz.isAgg142
  z76 := Tryz.sizeOf142
  v76 := Tryz.zeroValue142
  t109 := Tryz.underlying133
  a109 := Tryz.isAgg133
  z109 := Tryz.sizeOf133
  v109 := Tryz.zeroValue133
  t127 := Tryz.underlying227
  a127 := Tryz.isAgg227
  z127 := Tryz.sizeOf227
  v127 := Tryz.zeroValue227
  t146 := Tryz.underlying223
  a146 := Tryz.isAgg223
  z146 := Tryz.sizeOf223
  v146 := Tryz.zeroValue223
  t148 := Tryz.underlying225
  a148 := Tryz.isAgg225
  z148 := Tryz.sizeOf225
  v148 := Tryz.zeroValue225
  t164 := Tryz.underlying283
  a164 := Tryz.isAgg283
  z164 := Tryz.sizeOf283
  v164 := Tryz.zeroValue283 }
theorem Tryz.Builder_Extra_105 : Builder.Extra Tryz.prog Tryz.lays105_ren := {
  sizeBuilder := by kernel_rfl
  liesBuilder := by kernel_rfl
  t5 := Tryz.underlying5
  a5 := Tryz.isAgg5
  z5 := Tryz.sizeOf5
  v5 := Tryz.zeroValue5
  infoByte := by kernel_rfl
  cellsByte := by kernel_rfl
  sizeByte := by kernel_rfl
  neB5 := by decide }
open Go.RowKit Go.Lib in
theorem Tryz.strings_Repeat (s : ByteArray) (c : Nat) (w : World) (hc : c <= 9223372036854775807) (hlen : s.size * c <= 140737488355328) :
    Calls Tryz.prog 27 #[.string s, .int .i64 c] w fun e w' => e = .returned (.string ⟨(Lib.repeatL s.data.toList c).toArray⟩) /\ Below w.heap.size w w' := Any.strings_Repeat Tryz.lays105 Tryz.Builder_Extra_105 s c w hc hlen
end Go.Proofs

/- strings.Repeat, by the kit's contract. -/
namespace Go.Proofs.YtekhblefchceaaaGreat.AM
open Go Go.Proofs Go.RowKit
variable {P : Program} {σ : St}
theorem rel_below {g : Gh} {h h' : Heap} (r : Rel P g σ h) (hs : h.size <= h'.size) (hb : ∀ k, k < h.size -> h'[k]? = h[k]?) : Rel P g σ h' /\ Evo g σ h g σ h' := by
 have hcs : ∀ b i v, hc h b i = some v -> hc h' b i = some v := by
  intro b i v hv
  have hlt := hc_lt hv
  unfold hc at hv ⊢
  rw [hb b hlt]; exact hv
 have hic : ∀ b i v, IC g σ.H h b i v -> IC g σ.H h' b i v := fun b i v hi => ⟨hcs b i v hi.1, hi.2⟩
 refine ⟨⟨r.lt, r.inj, fun β k hk => ?_⟩, Nat.le_refl _, g.le_refl _, hic, fun b o hd => ⟨?_, hd.2⟩, hs, fun b c e z hc => ⟨c, z, ?_, rfl⟩⟩
 ·have hbk := r.blk β k hk
  rw [hb _ hbk.lt]
  exact hbk.mono (Nat.le_refl _) (g.le_refl _) (r.lt β k hk) hic
 ·rw [hb b (Array.getElem?_eq_some_iff.1 hd.1).1]; exact hd.1
 ·rw [hb b (Array.getElem?_eq_some_iff.1 hc).1]; exact hc
theorem ACalls.of_below {f : Nat} {args : List AV} {X : AV} {cX : Value} (hok : CallOk P f) (hX : ∀ (g : Gh) (w : World), VRs g σ w X cX)
  (h : ∀ (g : Gh) (w : World) (cargs : List Value), Rel P g σ w.heap -> VRL g σ w args cargs -> Calls P f cargs.toArray w (fun e w' => e = .returned cX /\ Below w.heap.size w w')) : ACalls P f args σ (fun v σ' => v = X /\ σ' = σ) :=
 ⟨hok, ⟨X, σ, rfl, rfl⟩, fun g w cargs r hl => by
  have h1 := (callsIn_wide (n := 0)).2 (h g w cargs r hl)
  refine CallsIn.mono h1 fun e w' hp => ?_
  obtain ⟨rfl, hb⟩ := hp
  obtain ⟨r', e'⟩ := rel_below r hb.size hb.block
  exact ⟨X, σ, g, ⟨rfl, rfl⟩, r', hX g w', ⟨e', hb.os, hb.output⟩⟩⟩
theorem repeat_ok (s : List UInt8) (c : Nat) (hl : s.length * c <= 140737488355328) (hc : c <= 9223372036854775807) : ACalls Tryz.prog 27 [.str s, .int .i64 c] σ (fun v σ' => v = .str (Lib.repeatL s c) /\ σ' = σ) := by
 refine ACalls.of_below (cX := .string ⟨(Lib.repeatL s c).toArray⟩) ⟨Tryz.f27, Tryz.func27, by kernel_rfl, by kernel_rfl⟩ (fun g w => .str _) fun g w cargs r hv => ?_
 obtain ⟨h1, h2⟩ := hv
 match cargs, h1 with
 | [a, b], _ =>
  have ha := h2 0 _ a rfl rfl
  have hb := h2 1 _ b rfl rfl
  cases ha
  cases hb
  exact Tryz.strings_Repeat ⟨s.toArray⟩ c w hc (by simpa [ByteArray.size] using hl)
end Go.Proofs.YtekhblefchceaaaGreat.AM

/- Closed code in pieces: each piece from one written state to the next. -/
namespace Go.Proofs.YtekhblefchceaaaGreat.AM
open Go Go.Proofs
variable {σ : St}
noncomputable def goN : CallF := go CN 60
theorem goN_cs : CS Tryz.prog goN := go_sound CN hmix tab_ok primN_ok 60
def allSeg (L : List AV) (S : St) : Outc -> Bool
 | [] => true
 | (.nrm, l, s) :: r => beqL l L && Nat.beq s.n S.n && beqH s.H S.H && allSeg L S r
 | _ => false
theorem allSeg_mem {L : List AV} {S : St} : ∀ {xs : Outc}, allSeg L S xs = true -> ∀ p, p ∈ xs -> p = (.nrm, L, S)
 | [], _, p, hp => by simp at hp
 | (.nrm, l, ⟨H, n⟩) :: r, h, p, hp => by
  simp only [allSeg, Bool.and_eq_true] at h
  rcases List.mem_cons.1 hp with rfl | hp
  ·rw [beqL_eq h.1.1.1, beqH_eq h.1.2]
   have := Nat.eq_of_beq_eq_true h.1.1.2
   obtain ⟨H', n'⟩ := S
   simp only at this
   rw [this]
  ·exact allSeg_mem h.2 p hp
 | (.ext i, l, s) :: r, h, p, hp => by simp [allSeg] at h
 | (.ret, l, s) :: r, h, p, hp => by simp [allSeg] at h
noncomputable def segB (call : CallF) (nt : Nat) (x : ACode) (L : List AV) (S : St) (L' : List AV) (S' : St) : Bool :=
 match execC call hints 1000 nt true x L S with
 | some xs => allSeg L' S' xs
 | none => false
theorem seg_go {call : CallF} (hc : CS Tryz.prog call) {nt : Nat} {x y : ACode} {Q : Ex -> Env -> St -> Prop} {L L' : List AV} {S S' : St} (h : segB call nt x L S L' S' = true) (hr : AW Tryz.prog none nt y Q (vget L') S') : AW Tryz.prog none nt (.seq x y) Q (vget L) S := by
 unfold segB at h
 split at h
 ·rename_i xs hx
  refine AW.seq (AW.mono (execC_sound hmix hc true none (fun _ => rfl) x L S xs hx) fun e ρ σ he => ?_)
  obtain ⟨l, rfl, hm⟩ := he
  have := allSeg_mem h _ hm
  simp only [Prod.mk.injEq] at this
  obtain ⟨rfl, rfl, rfl⟩ := this
  exact hr
 ·cases h
noncomputable def allEnd (rs : List RV) : Outc -> Bool
 | [] => true
 | p :: r => (match finish rs p with | some [(.bool true, _)] => true | _ => false) && allEnd rs r
noncomputable def endB (call : CallF) (nt : Nat) (rs : List RV) (x : ACode) (L : List AV) (S : St) : Bool :=
 match execC call hints 1000 nt true x L S with
 | some xs => allEnd rs xs
 | none => false
theorem allEnd_mem {rs : List RV} : ∀ {xs : Outc}, allEnd rs xs = true -> ∀ p, p ∈ xs -> ∃ s, finish rs p = some [(.bool true, s)]
 | p :: r, h, q, hq => by
  simp only [allEnd, Bool.and_eq_true] at h
  rcases List.mem_cons.1 hq with rfl | hq
  ·have h1 := h.1
   split at h1
   ·rename_i s hs; exact ⟨s, hs⟩
   ·cases h1
  ·exact allEnd_mem h.2 q hq
theorem end_go {call : CallF} (hc : CS Tryz.prog call) {nt : Nat} {rs : List RV} {x : ACode} {L : List AV} {S : St} (h : endB call nt rs x L S = true) : AW Tryz.prog none nt x (FPost rs (fun v _ => v = .bool true)) (vget L) S := by
 unfold endB at h
 split at h
 ·rename_i xs hx
  refine AW.mono (execC_sound hmix hc true none (fun _ => rfl) x L S xs hx) fun e ρ σ he => ?_
  obtain ⟨l, rfl, hm⟩ := he
  obtain ⟨s, hs⟩ := allEnd_mem h _ hm
  cases e with
  | ext i => simp [finish] at hs
  | nrm =>
   simp only [finish] at hs
   split at hs
   ·cases hs
   ·rename_i r hr
    simp only [Option.some.injEq, List.cons.injEq, Prod.mk.injEq, and_true] at hs
    exact ⟨r, hr, hs.1⟩
  | ret =>
   simp only [finish] at hs
   split at hs
   ·cases hs
   ·rename_i r hr
    simp only [Option.some.injEq, List.cons.injEq, Prod.mk.injEq, and_true] at hs
    exact ⟨r, hr, hs.1⟩
 ·cases h
structure Orc where
 n : Nat
 args : List AV
 S : St
 v : AV
 S' : St
def Orc.ok (o : Orc) : Prop := ACalls Tryz.prog o.n o.args o.S (fun v σ' => v = o.v /\ σ' = o.S')
def findO : List Orc -> Nat -> List AV -> St -> Option (List (AV × St))
 | [], _, _, _ => none
 | o :: r, n, args, σ => match Nat.beq o.n n && Nat.beq σ.n o.S.n && beqL args o.args && beqH σ.H o.S.H with
  | true => some [(o.v, o.S')]
  | false => findO r n args σ
theorem findO_ok : ∀ {l : List Orc} {n : Nat} {args : List AV} {σ : St} {xs : List (AV × St)}, (∀ o, o ∈ l -> o.ok) -> findO l n args σ = some xs -> ACalls Tryz.prog n args σ (fun v σ' => (v, σ') ∈ xs)
 | o :: r, n, args, ⟨H, m⟩, xs, hl, h => by
  simp only [findO] at h
  split at h
  ·rename_i hb
   simp only [Bool.and_eq_true] at hb
   obtain ⟨⟨⟨b1, b2⟩, b3⟩, b4⟩ := hb
   simp only [Option.some.injEq] at h; subst h
   have ho := hl o (by simp)
   have e1 := Nat.eq_of_beq_eq_true b1
   have e2 := Nat.eq_of_beq_eq_true b2
   have e3 := beqL_eq b3
   have e4 := beqH_eq b4
   obtain ⟨on, oa, ⟨oH, om⟩, ov, oS⟩ := o
   simp only at e1 e2 e3 e4
   subst e1 e2 e3 e4
   refine ACalls.mono ho fun v σ' hv => ?_
   obtain ⟨rfl, rfl⟩ := hv
   exact List.mem_singleton.2 rfl
  ·exact findO_ok (fun o ho => hl o (by simp [ho])) h
abbrev Prims := Nat -> List AV -> St -> Option (List (AV × St))
def orcP (l : List Orc) (p : Prims) : Prims := fun n args σ => match findO l n args σ with
 | some x => some x
 | none => p n args σ
noncomputable def cfgP (p : Prims) : Cfg := { F := look tab, prim := p, hint := hints, keeps := keepsN, frz := frzN, tight := tightN, lf := 1000 }
noncomputable def goP (p : Prims) : CallF := go (cfgP p) 60
def PrimsOk (p : Prims) : Prop := ∀ n args σ xs, p n args σ = some xs -> xs ≠ [] -> ACalls Tryz.prog n args σ (fun v σ' => (v, σ') ∈ xs)
theorem orcP_ok {l : List Orc} {p : Prims} (hl : ∀ o, o ∈ l -> o.ok) (hp : PrimsOk p) : PrimsOk (orcP l p) := fun n args σ xs h hne => by
 unfold orcP at h
 split at h
 ·rename_i x hx
  simp only [Option.some.injEq] at h; subst h
  exact findO_ok hl hx
 ·exact hp n args σ xs h hne
theorem goP_cs {p : Prims} (hp : PrimsOk p) : CS Tryz.prog (goP p) := go_sound (cfgP p) hmix tab_ok hp 60
def allO (v : AV) (S : St) : List (AV × St) -> Bool
 | [] => true
 | (u, s) :: r => beqV u v && Nat.beq s.n S.n && beqH s.H S.H && allO v S r
noncomputable def orcB (call : CallF) (o : Orc) : Bool :=
 match call (.f o.n) o.args o.S with
 | some xs => allO o.v o.S' xs
 | none => false
theorem allO_mem {v : AV} {S : St} : ∀ {xs : List (AV × St)}, allO v S xs = true -> ∀ p, p ∈ xs -> p = (v, S)
 | [], _, p, hp => by simp at hp
 | (u, ⟨H, n⟩) :: r, h, p, hp => by
  simp only [allO, Bool.and_eq_true] at h
  rcases List.mem_cons.1 hp with rfl | hp
  ·have := Nat.eq_of_beq_eq_true h.1.1.2
   obtain ⟨H', n'⟩ := S
   have e := beqH_eq h.1.2
   simp only at this e
   rw [beqV_eq h.1.1.1, e, this]
  ·exact allO_mem h.2 p hp
theorem orc_go {p : Prims} (hp : PrimsOk p) {o : Orc} (h : orcB (goP p) o = true) : o.ok := by
 unfold orcB at h
 split at h
 ·rename_i xs hx
  refine ACalls.mono (goP_cs hp (.f o.n) o.args o.S xs hx) fun v σ' hv => ?_
  have := allO_mem h _ hv
  simp only [Prod.mk.injEq] at this
  exact this
 ·cases h
end Go.Proofs.YtekhblefchceaaaGreat.AM

