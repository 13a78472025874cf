/- Joined: C1, C2, C3, C4, C5, C6, C7, C8, C9. -/
import Derived.Test.YtekhblefchceaaaGreatK1
import Derived.Test.YtekhblefchceaaaGreatK2
import Derived.Test.YtekhblefchceaaaGreatMD
set_option linter.unusedVariables false
set_option linter.unusedSimpArgs false
/- Contracts: handles. -/
namespace Go.Proofs.YtekhblefchceaaaGreat.AM
open Go Go.Proofs
variable {σ : St}
theorem hmix : Tryz.prog.follows .mixedOrders = true := by kernel_rfl
theorem and_mask (h : Nat) (hh : h < 18446744073709551616) : ((BitVec.ofInt IntKind.u64.bits (h : Int) &&& BitVec.ofInt IntKind.u64.bits 65535).toNat : Int) = ((h % 65536 : Nat) : Int) := by
 have e1 : (BitVec.ofInt IntKind.u64.bits (h : Int)).toNat = h := by
  have : (h : Int) % 18446744073709551616 = h := by omega
  simp [BitVec.toNat_ofInt, IntKind.bits]; omega
 have e2 : (BitVec.ofInt IntKind.u64.bits 65535).toNat = 2 ^ 16 - 1 := by simp [BitVec.toNat_ofInt, IntKind.bits]
 rw [BitVec.toNat_and, e1, e2, Nat.and_two_pow_sub_one_eq_mod]
theorem parts_ok (h : Nat) (hh : h < 18446744073709551616) : ACalls Tryz.prog 273 [.int .u64 h] σ (fun v σ' => v = .tup [.int .i64 (h % 65536 : Nat), .int .u64 (h / 65536 : Nat)] /\ σ' = σ) := by
 refine FOk.calls ok273 (by simp [a273]) ?_
 show AW _ _ _ c273 _ _ _
 unfold c273
 refine AW.seq (AW.rg hmix ?_)
 try unfold r273_0
 simp only [↓W0, W, reduceCtorEq, seval, r273_0]
 refine AW.seq (AW.rg hmix ?_)
 try unfold r273_1
 simp only [↓W0, W, reduceCtorEq, seval, r273_1, and_mask h hh, bin_shr _ _ _ _ (show (0 : Int) <= 16 by decide)]
 refine AW.ret ?_
 simp only [↓W0, W, reduceCtorEq, seval, a273]
 rw [wr_u (n := ((h % 65536 : Nat) : Int)) (by omega), wr_i (by omega)]
 have : (h : Int).fdiv (2 ^ (min 16 IntKind.u64.bits)) = ((h / 65536 : Nat) : Int) := by
  simp [IntKind.bits]
  rw [Int.fdiv_eq_ediv_of_nonneg _ (by omega)]
 rw [this]
theorem check_ok (h : Nat) (hh : h < 18446744073709551616) (h1 : h % 65536 < 16384) (h2 : 1 <= h / 65536) (h3 : h / 65536 < 4294967296) : ACalls Tryz.prog 264 [.int .u64 h] σ (fun v σ' => v = .int .i64 0 /\ σ' = σ) := by
 refine FOk.calls ok264 (by simp [a264]) ?_
 show AW _ _ _ c264 _ _ _
 unfold c264
 refine AW.seq (AW.rg hmix ?_)
 try unfold r264_0
 simp only [↓W0, W, reduceCtorEq, seval, r264_0]
 refine AW.seq (AW.seq (AW.rg hmix ?_))
 try unfold r264_1
 simp only [↓W0, W, reduceCtorEq, seval, r264_1]
 refine call_go (parts_ok h hh) ?_
 rintro v σ' ⟨rfl, rfl⟩
 simp only [↓W0, W, reduceCtorEq, seval]
 refine AW.seq (AW.rg hmix ?_)
 have e1 : ¬ (16384 <= ((h % 65536 : Nat) : Int)) := by omega
 have e2 : ¬ (((h / 65536 : Nat) : Int) < 1) := by omega
 have e3 : ¬ (4294967295 < ((h / 65536 : Nat) : Int)) := by omega
 try unfold r264_2
 simp only [↓W0, W, reduceCtorEq, seval, r264_2, e1, e2, e3]
 refine AW.cond (t := false) rfl (AW.skip ?_)
 simp only [↓W0, W, reduceCtorEq, seval]
 refine AW.seq (AW.rg hmix ?_)
 try unfold r264_4
 simp only [↓W0, W, reduceCtorEq, seval, r264_4]
 refine AW.ret ?_
 simp only [↓W0, W, reduceCtorEq, seval, a264]
end Go.Proofs.YtekhblefchceaaaGreat.AM

/- Contracts: measures. -/
set_option maxRecDepth 20000
namespace Go.Proofs.YtekhblefchceaaaGreat.AM
open Go Go.Proofs
variable {σ : St}
theorem every_ok (b : UInt8) : ACalls Tryz.prog 275 [.int .u8 b.toNat] σ (fun v σ' => v = .bool true /\ σ' = σ) := by
 refine FOk.calls ok275 (by simp [a275]) ?_
 show AW _ _ _ c275 _ _ _
 unfold c275
 refine AW.seq (AW.rg hmix ?_)
 try unfold r275_0
 simp only [↓W0, W, reduceCtorEq, seval, r275_0]
 refine AW.seq (AW.rg hmix ?_)
 try unfold r275_1
 simp only [↓W0, W, reduceCtorEq, seval, r275_1]
 refine AW.ret ?_
 simp only [↓W0, W, reduceCtorEq, seval, a275]
def isBegin (b : UInt8) : Bool := decide ((b.toNat : Int) < 128) || decide ((191 : Int) < b.toNat)
theorem begins_ok (b : UInt8) : ACalls Tryz.prog 276 [.int .u8 b.toNat] σ (fun v σ' => v = .bool (isBegin b) /\ σ' = σ) := by
 refine FOk.calls ok276 (by simp [a276]) ?_
 show AW _ _ _ c276 _ _ _
 unfold c276
 refine AW.seq (AW.rg hmix ?_)
 try unfold r276_0
 simp only [↓W0, W, reduceCtorEq, seval, r276_0]
 refine AW.seq (AW.rg hmix ?_)
 by_cases h : (b.toNat : Int) < 128
 ·try unfold r276_1
  simp only [↓W0, W, reduceCtorEq, seval, r276_1, h]
  refine AW.ret ?_
  simp only [↓W0, W, reduceCtorEq, seval, a276]
  simp [isBegin, h]
 ·try unfold r276_1
  simp only [↓W0, W, reduceCtorEq, seval, r276_1, h]
  refine AW.ret ?_
  simp only [↓W0, W, reduceCtorEq, seval, a276]
  simp [isBegin, h]
def isFeed (b : UInt8) : Bool := decide ((b.toNat : Int) = 10)
theorem feeds_ok (b : UInt8) : ACalls Tryz.prog 277 [.int .u8 b.toNat] σ (fun v σ' => v = .bool (isFeed b) /\ σ' = σ) := by
 refine FOk.calls ok277 (by simp [a277]) ?_
 show AW _ _ _ c277 _ _ _
 unfold c277
 refine AW.seq (AW.rg hmix ?_)
 try unfold r277_0
 simp only [↓W0, W, reduceCtorEq, seval, r277_0]
 refine AW.seq (AW.rg hmix ?_)
 try unfold r277_1
 simp only [↓W0, W, reduceCtorEq, seval, r277_1]
 refine AW.ret ?_
 simp only [↓W0, W, reduceCtorEq, seval, a277, isFeed]
theorem countP_succ (p : UInt8 -> Bool) (s : List UInt8) (i : Nat) (hi : i < s.length) : (s.take (i + 1)).countP p = (s.take i).countP p + (if p s[i] = true then 1 else 0) := by
 have hg : s[i]? = some s[i] := List.getElem?_eq_getElem hi
 rw [List.take_add_one, hg, List.countP_append]
 simp [List.countP_cons]
theorem count_ok (s : List UInt8) (hs : s.length <= 1099511627776) (f : Nat) (p : UInt8 -> Bool) (hf : ∀ b σ, ACalls Tryz.prog f [.int .u8 b.toNat] σ (fun v σ' => v = .bool (p b) /\ σ' = σ)) :
  ACalls Tryz.prog 278 [.str s, .fn f []] σ (fun v σ' => v = .int .i64 (s.countP p : Nat) /\ σ' = σ) := by
 refine FOk.calls ok278 (by simp [a278]) ?_
 show AW _ _ _ c278 _ _ _
 unfold c278
 refine AW.seq (AW.rg hmix ?_)
 try unfold r278_0
 simp only [↓W0, W, reduceCtorEq, seval, r278_0]
 refine AW.seq (AW.rg hmix ?_)
 try unfold r278_1
 simp only [↓W0, W, reduceCtorEq, seval, r278_1]
 refine AW.seq (AW.seq (AW.rg hmix ?_))
 try unfold r278_2
 simp only [↓W0, W, reduceCtorEq, seval, r278_2]
 refine AW.block (AW.loop (fun k ρ σ' => ∃ i, k + i = s.length /\ ρ 0 = .str s /\ ρ 1 = .fn f [] /\ ρ 5 = .int .i64 ((s.take i).countP p : Nat) /\ ρ 8 = .int .i64 s.length /\ ρ 9 = .int .i64 (i : Nat) /\ σ' = σ) s.length ⟨0, by simp⟩ ?_)
 rintro k ρ σ' ⟨i, hk, h0, h1, h5, h8, h9, rfl⟩
 unfold l278_8
 refine AW.seq (AW.rg hmix ?_)
 try unfold r278_3
 simp only [↓W0, W, reduceCtorEq, seval, r278_3, h8, h9]
 refine AW.seq ?_
 by_cases hi : i < s.length
 ·refine AW.cond (t := true) (by simp [hi]) (AW.skip ?_)
  simp
  refine AW.seq (AW.block (AW.seq (AW.rg hmix ?_)))
  try unfold r278_4
  simp only [↓W0, W, reduceCtorEq, seval, r278_4, h9]
  refine AW.seq (AW.rg hmix ?_)
  have hg : s[i]? = some s[i] := List.getElem?_eq_getElem hi
  try unfold r278_5
  simp only [↓W0, W, reduceCtorEq, seval, r278_5, h0, h1, h9, hg]
  refine call_go (hf _ _) ?_
  rintro v σ'' ⟨rfl, rfl⟩
  have ht := countP_succ p s i hi
  have hle : (s.take i).countP p <= s.length := Nat.le_trans List.countP_le_length (by simp; omega)
  refine AW.cond2 rfl (fun hp => ?_) (fun hp => ?_)
  ·refine AW.rg hmix ?_
   try unfold r278_6
   simp only [↓W0, W, reduceCtorEq, seval, r278_6, h5]
   refine AW.rg hmix ?_
   try unfold r278_7
   simp only [↓W0, W, reduceCtorEq, seval, r278_7, h9]
   refine ⟨k - 1, by omega, i + 1, by omega, h0, h1, ?_, h8, ?_⟩
   ·rw [ht, if_pos hp, wr_i (by omega)]; rfl
   ·rw [wr_i (by omega)]; simp
  ·refine AW.skip ?_
   simp
   refine AW.rg hmix ?_
   try unfold r278_7
   simp only [↓W0, W, reduceCtorEq, seval, r278_7, h9]
   refine ⟨k - 1, by omega, i + 1, by omega, h0, h1, ?_, h8, ?_⟩
   ·rw [h5, ht, hp]; rfl
   ·rw [wr_i (by omega)]; simp
 ·refine AW.cond (t := false) (by simp [hi]) (AW.exit ?_)
  have : i = s.length := by omega
  subst this
  simp
  refine AW.seq (AW.rg hmix ?_)
  try unfold r278_8
  simp only [↓W0, W, reduceCtorEq, seval, r278_8, h5]
  refine AW.ret ?_
  simp only [↓W0, W, reduceCtorEq, seval, a278, List.take_length]
end Go.Proofs.YtekhblefchceaaaGreat.AM

/- Contracts: the measure of a text, and sums of measures. -/
set_option maxRecDepth 20000
namespace Go.Proofs.YtekhblefchceaaaGreat.AM
open Go Go.Proofs
variable {σ : St}
structure Ms where
 b : Nat
 r : Nat
 l : Nat
 deriving DecidableEq, Inhabited
def Ms.cs (m : Ms) : List AV := [.int .i64 m.b, .int .i64 m.r, .int .i64 m.l]
def Ms.av (m : Ms) : AV := .agg m.cs
theorem eq3 (a b c a' b' c' : Int) : eqList [.i, .i, .i] [.int .i64 a, .int .i64 b, .int .i64 c] [.int .i64 a', .int .i64 b', .int .i64 c'] = some (decide (a = a' /\ b = b' /\ c = c')) := by
 simp only [eqList, eqSc, if_true]
 by_cases h1 : a = a'
 ·by_cases h2 : b = b'
  ·by_cases h3 : c = c' <;> simp [h1, h2, h3]
  ·simp [h1, h2]
 ·simp [h1]
theorem measured_ok (m : Ms) : ACalls Tryz.prog 279 [m.av] σ (fun v σ' => v = m.av /\ Ext σ σ') := by
 obtain ⟨a, b, c⟩ := m
 refine FOk.calls ok279 (by simp [a279]) ?_
 show AW _ _ _ c279 _ _ _
 unfold c279
 refine AW.seq (AW.rg hmix ?_)
 try unfold r279_0
 simp only [↓W0, W, reduceCtorEq, seval, r279_0, Ms.av, Ms.cs]
 refine AW.seq (AW.seq (AW.rg hmix ?_))
 try unfold r279_1
 simp only [↓W0, W, reduceCtorEq, seval, r279_1, eq3]
 refine AW.cond2 rfl (fun h => ?_) (fun h => ?_)
 ·have h : (a : Int) = 0 /\ (b : Int) = 0 /\ (c : Int) = 0 := by simpa using h
  have h1 : a = 0 := by omega
  have h2 : b = 0 := by omega
  have h3 : c = 0 := by omega
  subst h1; subst h2; subst h3
  refine AW.seq (AW.rg hmix ?_)
  try unfold r279_2
  simp only [↓W0, W, reduceCtorEq, seval, r279_2]
  refine AW.ret ?_
  simp only [↓W0, W, reduceCtorEq, seval, a279]
  exact ((Ext.new _ _).newer _).set (Nat.le_succ _) _
 ·refine AW.skip ?_
  simp only [↓W0, W, reduceCtorEq, seval]
  refine AW.seq (AW.rg hmix ?_)
  try unfold r279_3
  simp only [↓W0, W, reduceCtorEq, seval, r279_3]
  refine AW.ret ?_
  simp only [↓W0, W, reduceCtorEq, seval, a279]
  exact ((Ext.new _ _).newer _).set (Nat.le_succ _) _
def msOf (s : List UInt8) : Ms := ⟨s.length, s.countP isBegin, s.countP isFeed⟩
theorem of_ok (s : List UInt8) (hs : s.length <= 1099511627776) : ACalls Tryz.prog 256 [.str s] σ (fun v σ' => v = (msOf s).av /\ Ext σ σ') := by
 refine FOk.calls ok256 (by simp [a256]) ?_
 show AW _ _ _ c256 _ _ _
 unfold c256
 refine AW.seq (AW.rg hmix ?_)
 try unfold r256_0
 simp only [↓W0, W, reduceCtorEq, seval, r256_0]
 refine AW.seq (AW.rg hmix ?_)
 try unfold r256_1
 simp only [↓W0, W, reduceCtorEq, seval, r256_1]
 refine AW.seq (AW.seq (AW.rg hmix ?_))
 try unfold r256_2
 simp only [↓W0, W, reduceCtorEq, seval, r256_2]
 refine AW.block (AW.unroll 4 ?_)
 show AW _ _ _ l256_7 _ _ _
 try unfold l256_7
 refine AW.seq (AW.rg hmix ?_)
 try unfold r256_3
 simp only [↓W0, W, reduceCtorEq, seval, r256_3]
 refine AW.seq (AW.cond (t := true) rfl (AW.skip ?_))
 simp only [↓W0, W, reduceCtorEq, seval]
 refine AW.seq (AW.block (AW.seq (AW.rg hmix ?_)))
 try unfold r256_4
 simp only [↓W0, W, reduceCtorEq, seval, r256_4]
 refine AW.rg hmix ?_
 try unfold r256_5
 simp only [↓W0, W, reduceCtorEq, seval, r256_5]
 refine call_go (count_ok s hs 275 _ fun b σ => every_ok b) ?_
 rintro v σ' ⟨rfl, rfl⟩
 simp only [↓W0, W, reduceCtorEq, seval]
 refine AW.rg hmix ?_
 try unfold r256_6
 simp only [↓W0, W, reduceCtorEq, seval, r256_6]
 show AW _ _ _ l256_7 _ _ _
 try unfold l256_7
 refine AW.seq (AW.rg hmix ?_)
 try unfold r256_3
 simp only [↓W0, W, reduceCtorEq, seval, r256_3]
 refine AW.seq (AW.cond (t := true) rfl (AW.skip ?_))
 simp only [↓W0, W, reduceCtorEq, seval]
 refine AW.seq (AW.block (AW.seq (AW.rg hmix ?_)))
 try unfold r256_4
 simp only [↓W0, W, reduceCtorEq, seval, r256_4]
 refine AW.rg hmix ?_
 try unfold r256_5
 simp only [↓W0, W, reduceCtorEq, seval, r256_5]
 refine call_go (count_ok s hs 276 _ fun b σ => begins_ok b) ?_
 rintro v σ' ⟨rfl, rfl⟩
 simp only [↓W0, W, reduceCtorEq, seval]
 refine AW.rg hmix ?_
 try unfold r256_6
 simp only [↓W0, W, reduceCtorEq, seval, r256_6]
 show AW _ _ _ l256_7 _ _ _
 try unfold l256_7
 refine AW.seq (AW.rg hmix ?_)
 try unfold r256_3
 simp only [↓W0, W, reduceCtorEq, seval, r256_3]
 refine AW.seq (AW.cond (t := true) rfl (AW.skip ?_))
 simp only [↓W0, W, reduceCtorEq, seval]
 refine AW.seq (AW.block (AW.seq (AW.rg hmix ?_)))
 try unfold r256_4
 simp only [↓W0, W, reduceCtorEq, seval, r256_4]
 refine AW.rg hmix ?_
 try unfold r256_5
 simp only [↓W0, W, reduceCtorEq, seval, r256_5]
 refine call_go (count_ok s hs 277 _ fun b σ => feeds_ok b) ?_
 rintro v σ' ⟨rfl, rfl⟩
 simp only [↓W0, W, reduceCtorEq, seval]
 refine AW.rg hmix ?_
 try unfold r256_6
 simp only [↓W0, W, reduceCtorEq, seval, r256_6]
 show AW _ _ _ l256_7 _ _ _
 try unfold l256_7
 refine AW.seq (AW.rg hmix ?_)
 try unfold r256_3
 simp only [↓W0, W, reduceCtorEq, seval, r256_3]
 refine AW.seq (AW.cond (t := false) rfl (AW.exit ?_))
 simp only [↓W0, W, reduceCtorEq, seval]
 refine AW.seq (AW.rg hmix ?_)
 try unfold r256_7
 simp only [↓W0, W, reduceCtorEq, seval, r256_7]
 refine call_go (measured_ok ⟨s.countP fun _ => true, s.countP isBegin, s.countP isFeed⟩) ?_
 rintro v σ' ⟨rfl, hE⟩
 have e := hE.2 σ.n (by simp only [↓W0, W, reduceCtorEq, seval] <;> omega)
 simp only [↓W0, W, reduceCtorEq, seval] at e
 simp only [↓W0, W, reduceCtorEq, seval, e, Ms.av, Ms.cs]
 refine AW.ret ?_
 simp only [↓W0, W, reduceCtorEq, seval, a256, e]
 refine ⟨?_, ?_⟩
 ·simp [msOf, Ms.av, Ms.cs]
 ·refine Ext.set (Ext.trans ?_ hE) (Nat.le_refl _) _
  exact ((((Ext.new _ _).newer _).set (Nat.le_succ _) _).set (Nat.le_succ _) _).set (Nat.le_succ _) _
end Go.Proofs.YtekhblefchceaaaGreat.AM

/- Contracts: handle.Make; sums of measures; the bounds of nodes. -/
set_option maxRecDepth 20000
namespace Go.Proofs.YtekhblefchceaaaGreat.AM
open Go Go.Proofs
variable {σ : St}
theorem or_hand (gen slot : Nat) (h1 : gen < 4294967296) (h2 : slot < 65536) : wr .u64 ((BitVec.ofInt IntKind.u64.bits ((gen * 65536 : Nat) : Int) ||| BitVec.ofInt IntKind.u64.bits (slot : Int)).toNat : Int) = ((gen * 65536 + slot : Nat) : Int) := by
 have e1 : (BitVec.ofInt IntKind.u64.bits ((gen * 65536 : Nat) : Int)).toNat = gen * 65536 := by
  simp only [BitVec.toNat_ofInt, IntKind.bits]; omega
 have e2 : (BitVec.ofInt IntKind.u64.bits (slot : Int)).toNat = slot := by
  simp only [BitVec.toNat_ofInt, IntKind.bits]; omega
 rw [BitVec.toNat_or, e1, e2]
 have e3 : gen * 65536 ||| slot = gen * 65536 + slot := by
  have := Nat.two_pow_add_eq_or_of_lt (i := 16) (b := slot) (by omega) gen
  rw [Nat.mul_comm gen 65536]
  exact this.symm
 rw [e3, wr_u (by omega)]
theorem make_ok (slot gen : Nat) (hs : slot < 16384) (hg : 1 <= gen) (hg2 : gen < 4294967296) : ACalls Tryz.prog 236 [.int .i64 slot, .int .u64 gen] σ (fun v σ' => v = .tup [.int .u64 (gen * 65536 + slot : Nat), .int .i64 0] /\ σ' = σ) := by
 refine FOk.calls ok236 (by simp [a236]) ?_
 show AW _ _ _ c236 _ _ _
 unfold c236
 refine AW.seq (AW.rg hmix ?_)
 try unfold r236_0
 simp only [↓W0, W, reduceCtorEq, seval, r236_0]
 have e0 : ¬ ((slot : Int) < 0) := by omega
 have e1 : ¬ (16384 <= (slot : Int)) := by omega
 have e2 : ¬ ((gen : Int) < 1) := by omega
 have e3 : ¬ (4294967295 < (gen : Int)) := by omega
 refine AW.seq (AW.seq (AW.rg hmix ?_))
 try unfold r236_1
 simp only [↓W0, W, reduceCtorEq, seval, r236_1, e0, e1, e2, e3]
 refine AW.cond (t := false) rfl (AW.skip ?_)
 simp only [↓W0, W, reduceCtorEq, seval]
 refine AW.seq (AW.rg hmix ?_)
 have e5 : (gen : Int) * 2 ^ (min 16 IntKind.u64.bits) = ((gen * 65536 : Nat) : Int) := by simp [IntKind.bits]
 try unfold r236_3
 simp only [↓W0, W, reduceCtorEq, seval, r236_3, bin_shl _ _ _ _ (show (0 : Int) <= 16 by decide), e5, wr_u (n := ((gen * 65536 : Nat) : Int)) (by omega), wr_u (n := (slot : Int)) (by omega), or_hand gen slot hg2 (by omega)]
 refine AW.ret ?_
 simp only [↓W0, W, reduceCtorEq, seval, a236]
def most (h : Nat) : Nat := min (16 * 4 ^ h) 65536
theorem most_succ (h : Nat) : most (h + 1) = min (most h * 4) 65536 := by unfold most; rw [Nat.pow_succ]; omega
theorem most_le (h : Nat) : most h <= 65536 := Nat.min_le_right _ _
theorem pow2_le (i h : Nat) (hi : i <= h) (hh : h <= 16) : 2 ^ i <= 65536 := Nat.le_trans (Nat.pow_le_pow_right (by decide) (Nat.le_trans hi hh)) (by decide)
theorem min_nat (a b : Nat) : (if (b : Int) < (a : Int) then (b : Int) else (a : Int)) = ((min a b : Nat) : Int) := by split <;> omega
theorem bounds_ok (h : Nat) (hh : h <= 16) : ACalls Tryz.prog 263 [.int .i64 h] σ (fun v σ' => v = .tup [.int .i64 (8 * 2 ^ h : Nat), .int .i64 (most h : Nat)] /\ σ' = σ) := by
 refine FOk.calls ok263 (by simp [a263]) ?_
 show AW _ _ _ c263 _ _ _
 unfold c263
 refine AW.seq (AW.rg hmix ?_)
 try unfold r263_0
 simp only [↓W0, W, reduceCtorEq, seval, r263_0]
 refine AW.seq (AW.rg hmix ?_)
 try unfold r263_1
 simp only [↓W0, W, reduceCtorEq, seval, r263_1]
 refine AW.seq (AW.seq (AW.rg hmix ?_))
 try unfold r263_2
 simp only [↓W0, W, reduceCtorEq, seval, r263_2]
 refine AW.block (AW.loop (fun k ρ σ' => ∃ i, k + i = h /\ ρ 4 = .int .i64 (h : Nat) /\ ρ 5 = .int .i64 (i : Nat) /\ ρ 2 = .int .i64 (8 * 2 ^ i : Nat) /\ ρ 3 = .int .i64 (most i : Nat) /\ σ' = σ) h ⟨0, by simp [most]⟩ ?_)
 rintro k ρ σ' ⟨i, hk, h4, h5, h2, h3, rfl⟩
 unfold l263_7
 refine AW.seq (AW.rg hmix ?_)
 try unfold r263_3
 simp only [↓W0, W, reduceCtorEq, seval, r263_3, h4, h5]
 refine AW.seq ?_
 by_cases hi : i < h
 ·refine AW.cond (t := true) (by simp only [↓W0, W, reduceCtorEq, seval, Int.ofNat_lt, hi]) (AW.skip ?_)
  simp only [↓W0, W, reduceCtorEq, seval]
  have hp := pow2_le i h (by omega) hh
  have hm := most_le i
  refine AW.seq (AW.block (AW.seq (AW.rg hmix ?_)))
  try unfold r263_4
  simp only [↓W0, W, reduceCtorEq, seval, r263_4, h2]
  refine AW.rg hmix ?_
  try unfold r263_5
  simp only [↓W0, W, reduceCtorEq, seval, r263_5, h3]
  have e1 : wr .i64 ((most i : Nat) * 4 : Int) = ((most i * 4 : Nat) : Int) := by rw [wr_i (by omega)]; rfl
  have e2 : (65536 : Int) = ((65536 : Nat) : Int) := rfl
  rw [e1, e2]
  simp only [↓W0, W, reduceCtorEq, seval, min_nat]
  refine AW.rg hmix ?_
  try unfold r263_6
  simp only [↓W0, W, reduceCtorEq, seval, r263_6, h5]
  refine ⟨k - 1, by omega, i + 1, by omega, h4, ?_, ?_, ?_⟩
  ·rw [wr_i (by omega)]; rfl
  ·rw [wr_i (by omega), Nat.pow_succ]; congr 1; omega
  ·rw [most_succ]; congr 1; split <;> omega
 ·refine AW.cond (t := false) (by simp only [↓W0, W, reduceCtorEq, seval, Int.ofNat_lt, hi]) (AW.exit ?_)
  have : i = h := by omega
  subst this
  simp only [↓W0, W, reduceCtorEq, seval]
  refine AW.seq (AW.rg hmix ?_)
  try unfold r263_7
  simp only [↓W0, W, reduceCtorEq, seval, r263_7, h2, h3]
  have hm := most_le i
  have e1 : ¬ ((65536 : Int) < ((most i : Nat) : Int)) := by omega
  simp only [↓W0, W, reduceCtorEq, seval, e1]
  refine AW.ret ?_
  simp only [↓W0, W, reduceCtorEq, seval, a263]
end Go.Proofs.YtekhblefchceaaaGreat.AM

/- Contracts: sums of measures. -/
set_option maxRecDepth 20000
namespace Go.Proofs.YtekhblefchceaaaGreat.AM
open Go Go.Proofs
variable {σ : St}
def Ms.add (m n : Ms) : Ms := ⟨m.b + n.b, m.r + n.r, m.l + n.l⟩
def msSum (l : List Ms) : Ms := l.foldl Ms.add ⟨0, 0, 0⟩
theorem msSum_snoc (l : List Ms) (m : Ms) : msSum (l ++ [m]) = (msSum l).add m := by simp [msSum]
def Ms.small (m : Ms) : Prop := m.b <= 1099511627776 /\ m.r <= 1099511627776 /\ m.l <= 1099511627776
theorem add_ok (l : List Ms) (hl : l.length <= 1000) (hb : ∀ m, m ∈ l -> m.small) : ACalls Tryz.prog 257 [.vs (l.map Ms.av) .no] σ (fun v σ' => v = (msSum l).av /\ Ext σ σ') := by
 refine FOk.calls ok257 (by simp [a257]) ?_
 show AW _ _ _ c257 _ _ _
 unfold c257
 refine AW.seq (AW.rg hmix ?_)
 try unfold r257_0
 simp only [↓W0, W, reduceCtorEq, seval, r257_0]
 refine AW.seq (AW.rg hmix ?_)
 try unfold r257_1
 simp only [↓W0, W, reduceCtorEq, seval, r257_1]
 refine AW.seq (AW.seq (AW.rg hmix ?_))
 try unfold r257_2
 simp only [↓W0, W, reduceCtorEq, seval, r257_2, List.length_map]
 refine AW.block (AW.loop (fun k ρ σ' => ∃ i, k + i = l.length /\ ρ 2 = .ptr σ.n 0 /\ ρ 3 = .ptr (σ.n + 1) 0 /\ ρ 8 = .vs (l.map Ms.av) .no /\ ρ 9 = .int .i64 (l.length : Nat) /\ ρ 10 = .int .i64 (i : Nat) /\
  Ext σ σ' /\ σ.n + 2 <= σ'.n /\ lk σ'.H σ.n = some (.arr [.int .i64 0, .int .i64 0, .int .i64 0]) /\ lk σ'.H (σ.n + 1) = some (.arr (msSum (l.take i)).cs) /\
  (msSum (l.take i)).b <= i * 1099511627776 /\ (msSum (l.take i)).r <= i * 1099511627776 /\ (msSum (l.take i)).l <= i * 1099511627776) l.length
  ⟨0, by simp, by simp, by simp, by simp, by simp, by simp, (Ext.new _ _).newer _, by simp, by simp only [↓W0, W, reduceCtorEq, seval], by simp only [↓W0, W, reduceCtorEq, seval] <;> simp [msSum, Ms.cs], by simp [msSum], by simp [msSum], by simp [msSum]⟩ ?_)
 rintro k ρ σ' ⟨i, hk, h2, h3, h8, h9, h10, hE, hn, hk0, hk1, hb1, hb2, hb3⟩
 unfold l257_12
 refine AW.seq (AW.rg hmix ?_)
 try unfold r257_3
 simp only [↓W0, W, reduceCtorEq, seval, r257_3, h9, h10]
 refine AW.seq ?_
 by_cases hi : i < l.length
 ·refine AW.cond (t := true) (by simp only [↓W0, W, reduceCtorEq, seval, Int.ofNat_lt, hi]) (AW.skip ?_)
  simp only [↓W0, W, reduceCtorEq, seval]
  refine AW.seq (AW.block (AW.seq (AW.rg hmix ?_)))
  have hg : (l.map Ms.av)[i]? = some l[i].av := by simp [hi]
  have hbi := hb l[i] (List.getElem_mem hi)
  generalize hm : l[i] = m at hg hbi
  have hsum : msSum (l.take (i + 1)) = (msSum (l.take i)).add m := by
   rw [List.take_add_one, List.getElem?_eq_getElem hi, hm]; exact msSum_snoc _ _
  try unfold r257_4
  simp only [↓W0, W, reduceCtorEq, seval, r257_4, h8, h10, hg, Ms.av, Ms.cs]
  have ne1 : ¬ σ'.n = σ.n + 1 := by omega
  have ne0 : ¬ σ'.n = σ.n := by omega
  refine AW.seq (AW.rg hmix ?_)
  try unfold r257_5
  simp only [↓W0, W, reduceCtorEq, seval, r257_5]
  refine AW.block (AW.unroll 4 ?_)
  show AW _ _ _ l257_10 _ _ _
  try unfold l257_10
  refine AW.seq (AW.rg hmix ?_)
  try unfold r257_6
  simp only [↓W0, W, reduceCtorEq, seval, r257_6]
  refine AW.seq (AW.cond (t := true) rfl (AW.skip ?_))
  simp only [↓W0, W, reduceCtorEq, seval]
  refine AW.seq (AW.block (AW.seq (AW.rg hmix ?_)))
  try unfold r257_7
  simp only [↓W0, W, reduceCtorEq, seval, r257_7]
  refine AW.rg hmix ?_
  try unfold r257_8
  simp only [↓W0, W, reduceCtorEq, seval, r257_8, h3, hk1, ne1, Ms.cs]
  refine AW.rg hmix ?_
  try unfold r257_9
  simp only [↓W0, W, reduceCtorEq, seval, r257_9]
  show AW _ _ _ l257_10 _ _ _
  try unfold l257_10
  refine AW.seq (AW.rg hmix ?_)
  try unfold r257_6
  simp only [↓W0, W, reduceCtorEq, seval, r257_6]
  refine AW.seq (AW.cond (t := true) rfl (AW.skip ?_))
  simp only [↓W0, W, reduceCtorEq, seval]
  refine AW.seq (AW.block (AW.seq (AW.rg hmix ?_)))
  try unfold r257_7
  simp only [↓W0, W, reduceCtorEq, seval, r257_7]
  refine AW.rg hmix ?_
  try unfold r257_8
  simp only [↓W0, W, reduceCtorEq, seval, r257_8, h3, hk1, ne1, Ms.cs]
  refine AW.rg hmix ?_
  try unfold r257_9
  simp only [↓W0, W, reduceCtorEq, seval, r257_9]
  show AW _ _ _ l257_10 _ _ _
  try unfold l257_10
  refine AW.seq (AW.rg hmix ?_)
  try unfold r257_6
  simp only [↓W0, W, reduceCtorEq, seval, r257_6]
  refine AW.seq (AW.cond (t := true) rfl (AW.skip ?_))
  simp only [↓W0, W, reduceCtorEq, seval]
  refine AW.seq (AW.block (AW.seq (AW.rg hmix ?_)))
  try unfold r257_7
  simp only [↓W0, W, reduceCtorEq, seval, r257_7]
  refine AW.rg hmix ?_
  try unfold r257_8
  simp only [↓W0, W, reduceCtorEq, seval, r257_8, h3, hk1, ne1, Ms.cs]
  refine AW.rg hmix ?_
  try unfold r257_9
  simp only [↓W0, W, reduceCtorEq, seval, r257_9]
  show AW _ _ _ l257_10 _ _ _
  try unfold l257_10
  refine AW.seq (AW.rg hmix ?_)
  try unfold r257_6
  simp only [↓W0, W, reduceCtorEq, seval, r257_6]
  refine AW.seq (AW.cond (t := false) rfl (AW.exit ?_))
  simp only [↓W0, W, reduceCtorEq, seval]
  refine AW.rg hmix ?_
  try unfold r257_10
  simp only [↓W0, W, reduceCtorEq, seval, r257_10, h10]
  obtain ⟨hm1, hm2, hm3⟩ := hbi
  have e1 : wr .i64 (((msSum (l.take i)).b : Int) + (m.b : Int)) = (((msSum (l.take i)).b + m.b : Nat) : Int) := by rw [wr_i (by omega)]; rfl
  have e2 : wr .i64 (((msSum (l.take i)).r : Int) + (m.r : Int)) = (((msSum (l.take i)).r + m.r : Nat) : Int) := by rw [wr_i (by omega)]; rfl
  have e3 : wr .i64 (((msSum (l.take i)).l : Int) + (m.l : Int)) = (((msSum (l.take i)).l + m.l : Nat) : Int) := by rw [wr_i (by omega)]; rfl
  refine ⟨k - 1, by omega, i + 1, by omega, h2, h3, h8, h9, ?_, ?_, ?_, ?_, ?_, ?_, ?_, ?_⟩
  ·rw [wr_i (by omega)]; rfl
  ·exact (((((hE.newer _).set hE.1 _).set (Nat.le_succ _) _).set (Nat.le_succ _) _).set (Nat.le_succ _) _)
  ·omega
  ·simp only [↓W0, W, reduceCtorEq, seval, ne0, ne1, hk0]
  ·simp only [↓W0, W, reduceCtorEq, seval, ne0, ne1, hk1, e1, e2, e3, hsum, Ms.add]
  ·rw [hsum]; simp only [Ms.add]; omega
  ·rw [hsum]; simp only [Ms.add]; omega
  ·rw [hsum]; simp only [Ms.add]; omega
 ·refine AW.cond (t := false) (by simp only [↓W0, W, reduceCtorEq, seval, Int.ofNat_lt, hi]) (AW.exit ?_)
  have : i = l.length := by omega
  subst this
  rw [List.take_length] at hk1
  simp only [↓W0, W, reduceCtorEq, seval]
  refine AW.seq (AW.rg hmix ?_)
  try unfold r257_11
  simp only [↓W0, W, reduceCtorEq, seval, r257_11, h3, hk1, Ms.cs]
  refine call_go (measured_ok (msSum l)) ?_
  rintro v σ'' ⟨rfl, hE2⟩
  have e := hE2.2 σ.n (by omega)
  rw [hk0] at e
  simp only [↓W0, W, reduceCtorEq, seval, h2, e, Ms.av, Ms.cs]
  refine AW.ret ?_
  simp only [↓W0, W, reduceCtorEq, seval, a257, e, h2]
  exact Ext.set (hE.trans hE2) (Nat.le_refl _) _
end Go.Proofs.YtekhblefchceaaaGreat.AM

/- Contracts: nodes. -/
set_option maxRecDepth 20000
namespace Go.Proofs.YtekhblefchceaaaGreat.AM
open Go Go.Proofs
variable {σ : St}
structure Kd where
 h : Nat
 m : Ms
 deriving DecidableEq, Inhabited
def Kd.av (k : Kd) : AV := .agg [.int .u64 k.h, .int .i64 k.m.b, .int .i64 k.m.r, .int .i64 k.m.l]
structure Nd where
 ht : Nat
 tx : List UInt8
 ks : List Kd
 deriving DecidableEq, Inhabited
def Nd.cs (x : Nd) : List AV := [.int .i64 x.ht, .str x.tx, .vs (x.ks.map Kd.av) .no]
def Nd.av (x : Nd) : AV := .agg x.cs
def hOk (h : Nat) : Prop := h % 65536 < 16384 /\ 1 <= h / 65536 /\ h / 65536 < 4294967296
def kOk (ht : Nat) (k : Kd) : Prop := hOk k.h /\ 8 * 2 ^ ht <= k.m.b /\ k.m.b <= most ht /\ k.m.r <= k.m.b /\ k.m.l <= k.m.r
def Nd.ok (x : Nd) : Prop :=
 (x.ht = 0 /\ 1 <= x.tx.length /\ x.tx.length <= 16 /\ x.ks = []) \/
 (1 <= x.ht /\ x.ht <= 16 /\ x.tx = [] /\ 2 <= x.ks.length /\ x.ks.length <= 4 /\ ∀ k, k ∈ x.ks -> kOk (x.ht - 1) k)
theorem formed_leaf (x : Nd) (h0 : x.ht = 0) (h1 : 1 <= x.tx.length) (h2 : x.tx.length <= 16) (h3 : x.ks = []) : ACalls Tryz.prog 235 [x.av] σ (fun v σ' => v = .bool true /\ Ext σ σ') := by
 obtain ⟨ht, tx, ks⟩ := x
 simp only at h0 h1 h2 h3
 subst h0; subst h3
 refine FOk.calls ok235 (by simp [a235]) ?_
 show AW _ _ _ c235 _ _ _
 unfold c235
 refine AW.seq (AW.rg hmix ?_)
 try unfold r235_0
 simp only [↓W0, W, reduceCtorEq, seval, r235_0, Nd.av, Nd.cs]
 refine AW.seq (AW.seq (AW.rg hmix ?_))
 try unfold r235_1
 simp only [↓W0, W, reduceCtorEq, seval, r235_1]
 refine AW.cond (t := true) rfl ?_
 refine AW.seq (AW.rg hmix ?_)
 have e1 : (1 : Int) <= (tx.length : Int) := by omega
 have e2 : (tx.length : Int) <= 16 := by omega
 try unfold r235_2
 simp only [↓W0, W, reduceCtorEq, seval, r235_2, e1, e2]
 refine AW.ret ?_
 simp only [↓W0, W, reduceCtorEq, seval, a235]
 exact Ext.new _ _
theorem formed_inner (x : Nd) (h0 : 1 <= x.ht) (h1 : x.ht <= 16) (h2 : x.tx = []) (h3 : 2 <= x.ks.length) (h4 : x.ks.length <= 4) (h5 : ∀ k, k ∈ x.ks -> kOk (x.ht - 1) k) : ACalls Tryz.prog 235 [x.av] σ (fun v σ' => v = .bool true /\ Ext σ σ') := by
 obtain ⟨ht, tx, ks⟩ := x
 simp only at h0 h1 h2 h3 h4 h5
 subst h2
 refine FOk.calls ok235 (by simp [a235]) ?_
 show AW _ _ _ c235 _ _ _
 unfold c235
 refine AW.seq (AW.rg hmix ?_)
 try unfold r235_0
 simp only [↓W0, W, reduceCtorEq, seval, r235_0, Nd.av, Nd.cs]
 have n0 : ¬ ((ht : Int) = 0) := by omega
 have n1 : ¬ ((ht : Int) < 1) := by omega
 have n2 : ¬ (16 < (ht : Int)) := by omega
 have n3 : ¬ ((ks.length : Int) < 2) := by omega
 have n4 : ¬ (4 < (ks.length : Int)) := by omega
 refine AW.seq (AW.seq (AW.rg hmix ?_))
 try unfold r235_1
 simp only [↓W0, W, reduceCtorEq, seval, r235_1, n0]
 refine AW.cond (t := false) rfl (AW.skip ?_)
 simp only [↓W0, W, reduceCtorEq, seval]
 refine AW.seq (AW.seq (AW.rg hmix ?_))
 try unfold r235_3
 simp only [↓W0, W, reduceCtorEq, seval, r235_3, n1, n2, n3, n4, List.length_map]
 refine AW.cond (t := false) rfl (AW.skip ?_)
 simp only [↓W0, W, reduceCtorEq, seval]
 refine AW.seq (AW.rg hmix ?_)
 have n5 : wr .i64 ((ht : Int) - 1) = ((ht - 1 : Nat) : Int) := by rw [wr_i (by omega)]; omega
 try unfold r235_5
 simp only [↓W0, W, reduceCtorEq, seval, r235_5, n5]
 refine call_go (bounds_ok (ht - 1) (by omega)) ?_
 rintro v σ' ⟨rfl, rfl⟩
 simp only [↓W0, W, reduceCtorEq, seval]
 refine AW.seq (AW.seq (AW.rg hmix ?_))
 try unfold r235_6
 simp only [↓W0, W, reduceCtorEq, seval, r235_6, List.length_map]
 refine AW.block (AW.loop (fun k ρ σ' => ∃ i, k + i = ks.length /\ ρ 3 = .int .i64 (8 * 2 ^ (ht - 1) : Nat) /\ ρ 4 = .int .i64 (most (ht - 1) : Nat) /\ ρ 59 = .vs (ks.map Kd.av) .no /\ ρ 60 = .int .i64 (ks.length : Nat) /\ ρ 61 = .int .i64 (i : Nat) /\
  Ext σ σ') ks.length ⟨0, by simp, by simp only [↓W0, W, reduceCtorEq, seval], by simp only [↓W0, W, reduceCtorEq, seval], by simp only [↓W0, W, reduceCtorEq, seval], by simp only [↓W0, W, reduceCtorEq, seval], by simp only [↓W0, W, reduceCtorEq, seval] <;> rfl, Ext.new _ _⟩ ?_)
 rintro k ρ σ' ⟨i, hk, t3, t4, t59, t60, t61, hE⟩
 unfold l235_12
 refine AW.seq (AW.rg hmix ?_)
 try unfold r235_7
 simp only [↓W0, W, reduceCtorEq, seval, r235_7, t60, t61]
 refine AW.seq ?_
 by_cases hi : i < ks.length
 ·refine AW.cond (t := true) (by simp only [↓W0, W, reduceCtorEq, seval, Int.ofNat_lt, hi]) (AW.skip ?_)
  simp only [↓W0, W, reduceCtorEq, seval]
  refine AW.seq (AW.block (AW.seq (AW.rg hmix ?_)))
  have hg : (ks.map Kd.av)[i]? = some ks[i].av := by simp [hi]
  have hki := h5 ks[i] (List.getElem_mem hi)
  generalize hm : ks[i] = m at hg hki
  obtain ⟨⟨g1, g2, g3⟩, g4, g5, g6, g7⟩ := hki
  have m1 : ¬ ((m.m.b : Int) < ((8 * 2 ^ (ht - 1) : Nat) : Int)) := by omega
  have m2 : ¬ (((most (ht - 1) : Nat) : Int) < (m.m.b : Int)) := by omega
  have m3 : ¬ ((m.m.r : Int) < 0) := by omega
  have m4 : ¬ ((m.m.b : Int) < (m.m.r : Int)) := by omega
  have m5 : ¬ ((m.m.l : Int) < 0) := by omega
  have m6 : ¬ ((m.m.r : Int) < (m.m.l : Int)) := by omega
  try unfold r235_8
  simp only [↓W0, W, reduceCtorEq, seval, r235_8, t59, t61, hg, Kd.av]
  refine AW.seq (AW.rg hmix ?_)
  try unfold r235_9
  simp only [↓W0, W, reduceCtorEq, seval, r235_9]
  refine call_go (check_ok m.h (by omega) g1 g2 g3) ?_
  rintro v σ'' ⟨rfl, rfl⟩
  simp only [↓W0, W, reduceCtorEq, seval, t3, t4, m1, m2, m3, m4, m5, m6]
  refine AW.cond (t := false) rfl (AW.skip ?_)
  simp only [↓W0, W, reduceCtorEq, seval]
  refine AW.rg hmix ?_
  try unfold r235_11
  simp only [↓W0, W, reduceCtorEq, seval, r235_11, t61]
  refine ⟨k - 1, by omega, i + 1, by omega, t3, t4, t59, t60, ?_, (hE.newer _).set hE.1 _⟩
  rw [wr_i (by omega)]; rfl
 ·refine AW.cond (t := false) (by simp only [↓W0, W, reduceCtorEq, seval, Int.ofNat_lt, hi]) (AW.exit ?_)
  simp only [↓W0, W, reduceCtorEq, seval]
  refine AW.seq (AW.rg hmix ?_)
  try unfold r235_12
  simp only [↓W0, W, reduceCtorEq, seval, r235_12]
  refine AW.ret ?_
  simp only [↓W0, W, reduceCtorEq, seval, a235]
  exact hE
end Go.Proofs.YtekhblefchceaaaGreat.AM

/- Contracts: node.sum, node.Check, node.Measure. -/
set_option maxRecDepth 20000
namespace Go.Proofs.YtekhblefchceaaaGreat.AM
open Go Go.Proofs
variable {σ : St}
def Nd.ms (x : Nd) : Ms := if x.ht = 0 then msOf x.tx else msSum (x.ks.map (·.m))
theorem fit_ms (l : List Ms) : fitSz 3 (l.map Ms.av) = true := by
 simp only [fitSz, List.all_eq_true, List.mem_map]
 rintro e ⟨m, _, rfl⟩
 rfl
theorem er_ms (l : List Ms) (t : Tok) : (AV.vs (l.map Ms.av) t).er = .vs (l.map Ms.av) .no := by
 simp only [AV.er, AV.mp, mpL_eq, List.map_map]
 congr 1
theorem sum_ok (x : Nd) (hx : x.ok) : ACalls Tryz.prog 224 [x.av] σ (fun v σ' => v = x.ms.av /\ Ext σ σ') := by
 obtain ⟨ht, tx, ks⟩ := x
 refine FOk.calls ok224 (by simp [a224]) ?_
 show AW _ _ _ c224 _ _ _
 unfold c224
 refine AW.seq (AW.rg hmix ?_)
 try unfold r224_0
 simp only [↓W0, W, reduceCtorEq, seval, r224_0, Nd.av, Nd.cs]
 rcases hx with ⟨h0, h1, h2, h3⟩ | ⟨h0, h1, h2, h3, h4, h5⟩
 ·simp only at h0 h1 h2 h3
  subst h0; subst h3
  refine AW.seq (AW.seq (AW.rg hmix ?_))
  try unfold r224_1
  simp only [↓W0, W, reduceCtorEq, seval, r224_1]
  refine AW.cond (t := true) rfl ?_
  refine AW.seq (AW.rg hmix ?_)
  try unfold r224_2
  simp only [↓W0, W, reduceCtorEq, seval, r224_2]
  refine call_go (of_ok tx (by omega)) ?_
  rintro v σ' ⟨rfl, hE⟩
  have e := hE.2 (σ.n + 1) (by simp only [↓W0, W, reduceCtorEq, seval])
  simp only [↓W0, W, reduceCtorEq, seval] at e
  simp only [↓W0, W, reduceCtorEq, seval, e, Ms.av, Ms.cs]
  refine AW.ret ?_
  simp only [↓W0, W, reduceCtorEq, seval, a224, e]
  exact ⟨rfl, (((Ext.new _ _).newer _).trans hE).set (Nat.le_succ _) _⟩
 ·simp only at h0 h1 h2 h3 h4 h5
  subst h2
  have n0 : ¬ ((ht : Int) = 0) := by omega
  refine AW.seq (AW.seq (AW.rg hmix ?_))
  try unfold r224_1
  simp only [↓W0, W, reduceCtorEq, seval, r224_1, n0]
  refine AW.cond (t := false) rfl (AW.skip ?_)
  simp only [↓W0, W, reduceCtorEq, seval]
  refine AW.seq (AW.rg hmix ?_)
  try unfold r224_3
  simp only [↓W0, W, reduceCtorEq, seval, r224_3]
  refine AW.seq (AW.seq (AW.rg hmix ?_))
  try unfold r224_4
  simp only [↓W0, W, reduceCtorEq, seval, r224_4, List.length_map]
  refine AW.block (AW.loop (fun k ρ σ' => ∃ i t, k + i = ks.length /\ ρ 2 = .ptr (σ.n + 1) 0 /\ ρ 3 = .vs ((ks.take i).map fun k => k.m.av) t /\ ρ 13 = .vs (ks.map Kd.av) .no /\ ρ 14 = .int .i64 (ks.length : Nat) /\ ρ 15 = .int .i64 (i : Nat) /\
   Ext σ σ' /\ σ.n + 2 <= σ'.n /\ lk σ'.H (σ.n + 1) = some (.arr [.int .i64 0, .int .i64 0, .int .i64 0]) /\ TokOk σ.n σ' t) ks.length
   ⟨0, .ex, by simp, by simp only [↓W0, W, reduceCtorEq, seval], by simp only [↓W0, W, reduceCtorEq, seval], by simp only [↓W0, W, reduceCtorEq, seval], by simp only [↓W0, W, reduceCtorEq, seval], by simp only [↓W0, W, reduceCtorEq, seval] <;> rfl, (Ext.new _ _).newer _, by simp only [↓W0, W, reduceCtorEq, seval], by simp only [↓W0, W, reduceCtorEq, seval], trivial⟩ ?_)
  rintro k ρ σ' ⟨i, t, hk, t2, t3, t13, t14, t15, hE, hn, hk1, htk⟩
  unfold l224_9
  refine AW.seq (AW.rg hmix ?_)
  try unfold r224_5
  simp only [↓W0, W, reduceCtorEq, seval, r224_5, t14, t15]
  refine AW.seq ?_
  by_cases hi : i < ks.length
  ·refine AW.cond (t := true) (by simp only [↓W0, W, reduceCtorEq, seval, Int.ofNat_lt, hi]) (AW.skip ?_)
   simp only [↓W0, W, reduceCtorEq, seval]
   refine AW.seq (AW.block (AW.seq (AW.rg hmix ?_)))
   have hg : (ks.map Kd.av)[i]? = some ks[i].av := by simp [hi]
   have htake : ks.take (i + 1) = ks.take i ++ [ks[i]] := by rw [List.take_add_one, List.getElem?_eq_getElem hi]; rfl
   generalize hm : ks[i] = m at hg htake
   try unfold r224_6
   simp only [↓W0, W, reduceCtorEq, seval, r224_6, t13, t15, hg, Kd.av]
   refine AW.rg hmix ?_
   try unfold r224_7
   simp only [↓W0, W, reduceCtorEq, seval, r224_7, t3, ↓eval_app, fitSz]
   have htk' : TokOk σ.n ((σ'.new (.arr [.int .u64 0, .int .i64 0, .int .i64 0, .int .i64 0])).set σ'.n (.arr [.int .u64 m.h, .int .i64 m.m.b, .int .i64 m.m.r, .int .i64 m.m.l])) t := by
    refine tokok_mono htk (Nat.le_succ _) (fun τ e => ?_)
    subst e
    have h1 := htk.2.1
    have ne : ¬ σ'.n = τ := by omega
    simp only [↓W0, W, reduceCtorEq, seval, ne, htk.2.2]
   have hfit : fitSz 3 ((ks.take i).map fun k => k.m.av) = true := by
    have := fit_ms ((ks.take i).map (·.m))
    rwa [List.map_map] at this
   rw [appA_one (n := σ.n) hfit (by rfl) (by simp [maxBytes]; omega) htk']
   simp only [↓W0, W, reduceCtorEq, seval]
   refine AW.rg hmix ?_
   try unfold r224_8
   simp only [↓W0, W, reduceCtorEq, seval, r224_8, t15]
   refine ⟨k - 1, by omega, i + 1, .id (σ'.n + 1), by omega, t2, ?_, t13, t14, ?_, ?_, ?_, ?_, ?_⟩
   ·rw [htake, List.map_append]; rfl
   ·rw [wr_i (by omega)]; rfl
   ·exact rt_ext htk' ((hE.newer _).set hE.1 _)
   ·rw [rt_n]; simp only [↓W0, W, reduceCtorEq, seval] <;> omega
   ·have ne : ¬ σ'.n = σ.n + 1 := by omega
    exact rt_lk htk' (by simp only [↓W0, W, reduceCtorEq, seval, ne, hk1]) (by simp) (by simp only [↓W0, W, reduceCtorEq, seval] <;> omega)
   ·exact rt_tok t (by simp only [↓W0, W, reduceCtorEq, seval] <;> omega)
  ·refine AW.cond (t := false) (by simp only [↓W0, W, reduceCtorEq, seval, Int.ofNat_lt, hi]) (AW.exit ?_)
   have : i = ks.length := by omega
   subst this
   rw [List.take_length] at t3
   simp only [↓W0, W, reduceCtorEq, seval]
   refine AW.seq (AW.rg hmix ?_)
   try unfold r224_9
   simp only [↓W0, W, reduceCtorEq, seval, r224_9, t3]
   refine ACalls.args ?_
   have hmm : (ks.map fun k => k.m.av) = (ks.map (·.m)).map Ms.av := by rw [List.map_map]; rfl
   rw [hmm]
   simp only [List.map_cons, List.map_nil, er_ms]
   refine call_go (add_ok (ks.map (·.m)) (by simp; omega) ?_) ?_
   ·intro m hm
    obtain ⟨k, hk, rfl⟩ := List.mem_map.1 hm
    obtain ⟨_, _, a, b, c⟩ := h5 k hk
    have := most_le (ht - 1)
    exact ⟨by omega, by omega, by omega⟩
   ·rintro v σ'' ⟨rfl, hE2⟩
    have e := hE2.2 (σ.n + 1) (by omega)
    rw [hk1] at e
    simp only [↓W0, W, reduceCtorEq, seval, t2, e, Ms.av, Ms.cs]
    refine AW.ret ?_
    simp only [↓W0, W, reduceCtorEq, seval, a224, e, t2]
    refine ⟨?_, Ext.set (hE.trans hE2) (Nat.le_succ _) _⟩
    have hz : ¬ ht = 0 := by omega
    simp only [Nd.ms, if_neg hz]
end Go.Proofs.YtekhblefchceaaaGreat.AM

/- Contracts: node.Check, node.Measure. -/
set_option maxRecDepth 20000
namespace Go.Proofs.YtekhblefchceaaaGreat.AM
open Go Go.Proofs
variable {σ : St}
theorem formed_ok (x : Nd) (hx : x.ok) : ACalls Tryz.prog 235 [x.av] σ (fun v σ' => v = .bool true /\ Ext σ σ') := by
 rcases hx with ⟨h0, h1, h2, h3⟩ | ⟨h0, h1, h2, h3, h4, h5⟩
 ·exact formed_leaf x h0 h1 h2 h3
 ·exact formed_inner x h0 h1 h2 h3 h4 h5
theorem ncheck_ok (x : Nd) (hx : x.ok) (hb : x.ms.b <= 65536) : ACalls Tryz.prog 189 [x.av] σ (fun v σ' => v = .int .i64 0 /\ Ext σ σ') := by
 refine FOk.calls ok189 (by simp [a189]) ?_
 show AW _ _ _ c189 _ _ _
 unfold c189
 refine AW.seq (AW.rg hmix ?_)
 try unfold r189_0
 simp only [↓W0, W, reduceCtorEq, seval, r189_0, Nd.av, Nd.cs]
 refine AW.seq (AW.seq (AW.rg hmix ?_))
 try unfold r189_1
 simp only [↓W0, W, reduceCtorEq, seval, r189_1]
 refine call_go (formed_ok x hx) ?_
 rintro v σ' ⟨rfl, hE⟩
 have e := hE.2 σ.n (by simp only [↓W0, W, reduceCtorEq, seval])
 simp only [↓W0, W, reduceCtorEq, seval] at e
 simp only [↓W0, W, reduceCtorEq, seval]
 refine AW.cond (t := false) rfl (AW.skip ?_)
 simp only [↓W0, W, reduceCtorEq, seval]
 refine AW.seq (AW.seq (AW.rg hmix ?_))
 try unfold r189_3
 simp only [↓W0, W, reduceCtorEq, seval, r189_3, e]
 refine call_go (sum_ok x hx) ?_
 rintro v σ'' ⟨rfl, hE2⟩
 have e2 : ¬ ((65536 : Int) < (x.ms.b : Int)) := by omega
 simp only [↓W0, W, reduceCtorEq, seval, Ms.av, Ms.cs, e2]
 refine AW.cond (t := false) rfl (AW.skip ?_)
 simp only [↓W0, W, reduceCtorEq, seval]
 refine AW.seq (AW.rg hmix ?_)
 try unfold r189_5
 simp only [↓W0, W, reduceCtorEq, seval, r189_5]
 refine AW.ret ?_
 simp only [↓W0, W, reduceCtorEq, seval, a189]
 exact ((Ext.new _ _).trans hE).trans hE2
theorem nmeasure_ok (x : Nd) (hx : x.ok) (hb : x.ms.b <= 65536) : ACalls Tryz.prog 177 [x.av] σ (fun v σ' => v = .tup [x.ms.av, .int .i64 0] /\ Ext σ σ') := by
 refine FOk.calls ok177 (by simp [a177]) ?_
 show AW _ _ _ c177 _ _ _
 unfold c177
 refine AW.seq (AW.rg hmix ?_)
 try unfold r177_0
 simp only [↓W0, W, reduceCtorEq, seval, r177_0, Nd.av, Nd.cs]
 refine AW.seq (AW.seq (AW.rg hmix ?_))
 try unfold r177_1
 simp only [↓W0, W, reduceCtorEq, seval, r177_1]
 refine call_go (ncheck_ok x hx hb) ?_
 rintro v σ' ⟨rfl, hE⟩
 have e := hE.2 σ.n (by simp only [↓W0, W, reduceCtorEq, seval] <;> omega)
 have e' := hE.2 (σ.n + 1) (by simp only [↓W0, W, reduceCtorEq, seval])
 have hn := hE.1
 simp only [↓W0, W, reduceCtorEq, seval] at e e' hn
 refine AW.seq (AW.rg hmix ?_)
 try unfold r177_2
 simp only [↓W0, W, reduceCtorEq, seval, r177_2]
 refine AW.cond (t := false) rfl (AW.skip ?_)
 simp only [↓W0, W, reduceCtorEq, seval]
 refine AW.seq (AW.rg hmix ?_)
 try unfold r177_4
 simp only [↓W0, W, reduceCtorEq, seval, r177_4, e]
 refine call_go (sum_ok x hx) ?_
 rintro v σ'' ⟨rfl, hE2⟩
 have e2 := hE2.2 (σ.n + 1) (by omega)
 rw [e'] at e2
 simp only [↓W0, W, reduceCtorEq, seval, e2, Ms.av, Ms.cs]
 refine AW.ret ?_
 simp only [↓W0, W, reduceCtorEq, seval, a177, e2]
 exact Ext.set ((((Ext.new _ _).newer _).trans hE).trans hE2) (Nat.le_succ _) _
end Go.Proofs.YtekhblefchceaaaGreat.AM

/- Contracts: slices.Clone of children. -/
set_option maxRecDepth 20000
namespace Go.Proofs.YtekhblefchceaaaGreat.AM
open Go Go.Proofs
variable {σ : St}
theorem er_ks (l : List Kd) (t : Tok) : (AV.vs (l.map Kd.av) t).er = .vs (l.map Kd.av) .no := by
 simp only [AV.er, AV.mp, mpL_eq, List.map_map]
 congr 1
theorem fit_ks (l : List Kd) : fitSz 4 (l.map Kd.av) = true := by
 simp only [fitSz, List.all_eq_true, List.mem_map]
 rintro e ⟨m, _, rfl⟩
 rfl
theorem clone_ok (ks : List Kd) (hl : ks.length <= 1000) : ACalls Tryz.prog 191 [.vs (ks.map Kd.av) .no] σ (fun v σ' => v = .vs (ks.map Kd.av) .no /\ Ext σ σ') := by
 have h : ACalls Tryz.prog 191 [.vs (ks.map Kd.av) .no] σ (fun v σ' => (∃ t, v = .vs (ks.map Kd.av) t) /\ Ext σ σ') := by
  refine FOk.calls ok191 (by simp [a191]) ?_
  show AW _ _ _ c191 _ _ _
  unfold c191
  refine AW.seq (AW.rg hmix ?_)
  try unfold r191_0
  simp only [↓W0, W, reduceCtorEq, seval, r191_0]
  refine AW.seq (AW.seq (AW.rg hmix ?_))
  cases ks with
  | nil =>
   try unfold r191_1
   simp only [↓W0, W, reduceCtorEq, seval, r191_1]
   intro p hp
   simp only [List.mem_cons, List.not_mem_nil, or_false] at hp
   rcases hp with rfl | rfl
   ·refine AW.cond (t := true) rfl (AW.seq (AW.rg hmix ?_))
    try unfold r191_2
    simp only [↓W0, W, reduceCtorEq, seval, r191_2]
    refine AW.ret ?_
    simp only [↓W0, W, reduceCtorEq, seval, a191]
    exact ⟨⟨_, rfl⟩, Ext.refl _⟩
   ·refine AW.cond (t := false) rfl (AW.skip ?_)
    simp only [↓W0, W, reduceCtorEq, seval]
    refine AW.seq (AW.rg hmix ?_)
    try unfold r191_3
    simp only [↓W0, W, reduceCtorEq, seval, r191_3, fitSz, ↓eval_app, appA_nil]
    refine AW.ret ?_
    simp only [↓W0, W, reduceCtorEq, seval, a191]
    exact ⟨⟨_, rfl⟩, Ext.refl _⟩
  | cons k ks =>
   try unfold r191_1
   simp only [↓W0, W, reduceCtorEq, seval, r191_1]
   refine AW.cond (t := false) rfl (AW.skip ?_)
   simp only [↓W0, W, reduceCtorEq, seval]
   refine AW.seq (AW.rg hmix ?_)
   have hf := fit_ks (k :: ks)
   rw [List.map_cons] at hf
   simp only [List.length_cons] at hl
   try unfold r191_3
   simp only [↓W0, W, reduceCtorEq, seval, r191_3, fitSz, ↓eval_app]
   rw [appA_many (n := σ.n) (l := []) (t := .ex) (bytes := 32) (by simp) (by rfl) hf (by simp [maxBytes]; omega) trivial]
   simp only [↓W0, W, reduceCtorEq, seval]
   refine AW.ret ?_
   simp only [↓W0, W, reduceCtorEq, seval, a191]
   exact ⟨⟨_, rfl⟩, Ext.new _ _⟩
 refine h.weak ?_
 rintro v σ' ⟨⟨t, rfl⟩, hE⟩
 exact ⟨_, σ', VW.er _ _, er_ks ks t, hE⟩
end Go.Proofs.YtekhblefchceaaaGreat.AM

