/- Joined: C11, C12, C13, M33. -/
import Derived.Test.YtekhblefchceaaaGreatCA
import Derived.Test.YtekhblefchceaaaGreatMD
set_option linter.unusedVariables false
set_option linter.unusedSimpArgs false
/- Contracts of functions that leave the state as it is. -/
set_option maxRecDepth 20000
namespace Go.Proofs.YtekhblefchceaaaGreat.AM
open Go Go.Proofs
variable {σ : St} {P : Program}
theorem ACalls.still {f : Nat} {args : List AV} {X : AV} {R : St -> Prop} (h : ACalls P f args ⟨[], 0⟩ (fun v σ' => v = X /\ R σ')) (ha : purL args = true) (hX : X.scal = true) : ACalls P f args σ (fun v σ' => v = X /\ σ' = σ) :=
 (h.frame ha (fun v σ' hv => by rw [hv.1]; exact hX)).mono fun v σ' hv => ⟨let ⟨_, e, _⟩ := hv.1; e, hv.2⟩
theorem purL_all {l : List AV} (h : ∀ x, x ∈ l -> x.pur = true) : purL l = true := by
 induction l with
 | nil => rfl
 | cons x l ih => simp only [purL, Bool.and_eq_true]; exact ⟨h x (by simp), ih fun y hy => h y (by simp [hy])⟩
theorem pur_kds (ks : List Kd) : purL (ks.map Kd.av) = true := purL_all fun x hx => by
 obtain ⟨k, _, rfl⟩ := List.mem_map.1 hx
 rfl
theorem pur_nd (x : Nd) : purL [x.av] = true := by
 simp only [Nd.av, Nd.cs, purL, AV.pur, Tok.pur, pur_kds, Bool.and_self]
theorem ncheck_st (x : Nd) (hx : x.ok) (hb : x.ms.b <= 65536) : ACalls Tryz.prog 189 [x.av] σ (fun v σ' => v = .int .i64 0 /\ σ' = σ) := (ncheck_ok x hx hb).still (pur_nd x) rfl
theorem nmeasure_st (x : Nd) (hx : x.ok) (hb : x.ms.b <= 65536) : ACalls Tryz.prog 177 [x.av] σ (fun v σ' => v = .tup [x.ms.av, .int .i64 0] /\ σ' = σ) := (nmeasure_ok x hx hb).still (pur_nd x) rfl
end Go.Proofs.YtekhblefchceaaaGreat.AM

/- Contracts: delta.valid, delta.sizes, delta.Lengths, delta.Check; keep, put. -/
set_option maxRecDepth 20000
namespace Go.Proofs.YtekhblefchceaaaGreat.AM
open Go Go.Proofs
variable {σ : St}
structure Pc where
 k : Int
 n : Int
 tx : List UInt8
 deriving DecidableEq, Inhabited
def Pc.cs (p : Pc) : List AV := [.int .u8 p.k, .int .i64 p.n, .str p.tx]
def Pc.av (p : Pc) : AV := .agg p.cs
def Pc.small (p : Pc) : Prop := -9223372036854775808 <= p.n /\ p.n <= 9223372036854775807 /\ p.tx.length <= 1099511627776
def validP (p : Pc) : Bool := if p.k = 1 \/ p.k = 3 then decide (1 <= p.n) && (p.tx == []) else if p.k = 2 then decide (p.n = 0) && !(p.tx == []) else false
def sizesP (p : Pc) : Int × Int := if p.k = 1 then (p.n, p.n) else if p.k = 3 then (p.n, 0) else (0, p.tx.length)
theorem valid_ok (p : Pc) : ACalls Tryz.prog 102 [p.av] σ (fun v σ' => v = .bool (validP p) /\ Ext σ σ') := by
 obtain ⟨k, n, tx⟩ := p
 refine FOk.calls ok102 (by simp [a102]) ?_
 show AW _ _ _ c102 _ _ _
 unfold c102
 refine AW.seq (AW.rg hmix ?_)
 try unfold r102_0
 simp only [↓W0, W, reduceCtorEq, seval, r102_0, Pc.av, Pc.cs]
 refine AW.seq (AW.seq (AW.rg hmix ?_))
 try unfold r102_1
 simp only [↓W0, W, reduceCtorEq, seval, r102_1]
 refine AW.block (AW.seq (AW.seq (AW.rg hmix ?_)))
 have fin : ∀ {ρ : Env} (t : Bool), (k = 1 \/ k = 3) -> validP ⟨k, n, tx⟩ = (decide (1 <= n) && (tx == [])) := fun t h => by simp [validP, h]
 by_cases h1 : k = 1
 ·try unfold r102_2
  simp only [↓W0, W, reduceCtorEq, seval, r102_2, h1]
  refine AW.cond (t := true) rfl (AW.skip ?_)
  simp only [↓W0, W, reduceCtorEq, seval]
  refine AW.cond (t := true) rfl ?_
  refine AW.seq (AW.rg hmix ?_)
  by_cases hn : 1 <= n
  ·try unfold r102_4
   simp only [↓W0, W, reduceCtorEq, seval, r102_4, hn]
   refine AW.ret ?_
   simp only [↓W0, W, reduceCtorEq, seval, a102]
   exact ⟨by simp [validP, h1, hn], Ext.new _ _⟩
  ·try unfold r102_4
   simp only [↓W0, W, reduceCtorEq, seval, r102_4, hn]
   refine AW.ret ?_
   simp only [↓W0, W, reduceCtorEq, seval, a102]
   exact ⟨by simp [validP, h1, hn], Ext.new _ _⟩
 ·by_cases h3 : k = 3
  ·try unfold r102_2
   simp only [↓W0, W, reduceCtorEq, seval, r102_2, h1]
   refine AW.cond (t := false) rfl (AW.rg hmix ?_)
   try unfold r102_3
   simp only [↓W0, W, reduceCtorEq, seval, r102_3, h3]
   refine AW.cond (t := true) rfl ?_
   refine AW.seq (AW.rg hmix ?_)
   by_cases hn : 1 <= n
   ·try unfold r102_4
    simp only [↓W0, W, reduceCtorEq, seval, r102_4, hn]
    refine AW.ret ?_
    simp only [↓W0, W, reduceCtorEq, seval, a102]
    exact ⟨by simp [validP, h3, hn], Ext.new _ _⟩
   ·try unfold r102_4
    simp only [↓W0, W, reduceCtorEq, seval, r102_4, hn]
    refine AW.ret ?_
    simp only [↓W0, W, reduceCtorEq, seval, a102]
    exact ⟨by simp [validP, h3, hn], Ext.new _ _⟩
  ·try unfold r102_2
   simp only [↓W0, W, reduceCtorEq, seval, r102_2, h1]
   refine AW.cond (t := false) rfl (AW.rg hmix ?_)
   try unfold r102_3
   simp only [↓W0, W, reduceCtorEq, seval, r102_3, h3]
   refine AW.cond (t := false) rfl (AW.seq (AW.rg hmix ?_))
   by_cases h2 : k = 2
   ·try unfold r102_5
    simp only [↓W0, W, reduceCtorEq, seval, r102_5, h2]
    refine AW.cond (t := true) rfl (AW.seq (AW.rg hmix ?_))
    by_cases hn : n = 0
    ·try unfold r102_6
     simp only [↓W0, W, reduceCtorEq, seval, r102_6, hn]
     refine AW.ret ?_
     simp only [↓W0, W, reduceCtorEq, seval, a102]
     exact ⟨by simp [validP, h2, hn], Ext.new _ _⟩
    ·try unfold r102_6
     simp only [↓W0, W, reduceCtorEq, seval, r102_6, hn]
     refine AW.ret ?_
     simp only [↓W0, W, reduceCtorEq, seval, a102]
     exact ⟨by simp [validP, h2, hn], Ext.new _ _⟩
   ·try unfold r102_5
    simp only [↓W0, W, reduceCtorEq, seval, r102_5, h2]
    refine AW.cond (t := false) rfl (AW.skip ?_)
    simp only [↓W0, W, reduceCtorEq, seval]
    refine AW.seq (AW.rg hmix ?_)
    try unfold r102_7
    simp only [↓W0, W, reduceCtorEq, seval, r102_7]
    refine AW.ret ?_
    simp only [↓W0, W, reduceCtorEq, seval, a102]
    exact ⟨by simp [validP, h1, h2, h3], Ext.new _ _⟩
theorem pur_pc (p : Pc) : purL [p.av] = true := rfl
theorem valid_st (p : Pc) : ACalls Tryz.prog 102 [p.av] σ (fun v σ' => v = .bool (validP p) /\ σ' = σ) := (valid_ok p).still (pur_pc p) rfl
theorem sizes_ok (p : Pc) : ACalls Tryz.prog 103 [p.av] σ (fun v σ' => v = .tup [.int .i64 (sizesP p).1, .int .i64 (sizesP p).2] /\ Ext σ σ') := by
 obtain ⟨k, n, tx⟩ := p
 refine FOk.calls ok103 (by simp [a103]) ?_
 show AW _ _ _ c103 _ _ _
 unfold c103
 refine AW.seq (AW.rg hmix ?_)
 try unfold r103_0
 simp only [↓W0, W, reduceCtorEq, seval, r103_0, Pc.av, Pc.cs]
 refine AW.seq (AW.seq (AW.rg hmix ?_))
 try unfold r103_1
 simp only [↓W0, W, reduceCtorEq, seval, r103_1]
 refine AW.block (AW.seq (AW.rg hmix ?_))
 by_cases h1 : k = 1
 ·try unfold r103_2
  simp only [↓W0, W, reduceCtorEq, seval, r103_2, h1]
  refine AW.cond (t := true) rfl (AW.seq (AW.rg hmix ?_))
  try unfold r103_3
  simp only [↓W0, W, reduceCtorEq, seval, r103_3]
  refine AW.ret ?_
  simp only [↓W0, W, reduceCtorEq, seval, a103]
  exact ⟨by simp [sizesP], Ext.new _ _⟩
 ·try unfold r103_2
  simp only [↓W0, W, reduceCtorEq, seval, r103_2, h1]
  refine AW.cond (t := false) rfl (AW.seq (AW.rg hmix ?_))
  by_cases h3 : k = 3
  ·try unfold r103_4
   simp only [↓W0, W, reduceCtorEq, seval, r103_4, h3]
   refine AW.cond (t := true) rfl (AW.seq (AW.rg hmix ?_))
   try unfold r103_5
   simp only [↓W0, W, reduceCtorEq, seval, r103_5]
   refine AW.ret ?_
   simp only [↓W0, W, reduceCtorEq, seval, a103]
   exact ⟨by simp [sizesP], Ext.new _ _⟩
  ·try unfold r103_4
   simp only [↓W0, W, reduceCtorEq, seval, r103_4, h3]
   refine AW.cond (t := false) rfl (AW.skip ?_)
   simp only [↓W0, W, reduceCtorEq, seval]
   refine AW.seq (AW.rg hmix ?_)
   try unfold r103_6
   simp only [↓W0, W, reduceCtorEq, seval, r103_6]
   refine AW.ret ?_
   simp only [↓W0, W, reduceCtorEq, seval, a103]
   exact ⟨by simp [sizesP, h1, h3], Ext.new _ _⟩
theorem sizes_st (p : Pc) : ACalls Tryz.prog 103 [p.av] σ (fun v σ' => v = .tup [.int .i64 (sizesP p).1, .int .i64 (sizesP p).2] /\ σ' = σ) := (sizes_ok p).still (pur_pc p) rfl
def lenLoop : List Pc -> Int -> Int -> Int × Int × Int
 | [], i, o => (i, o, 0)
 | p :: r, i, o => if validP p = true then (if 1048576 - i < (sizesP p).1 \/ 1048576 - o < (sizesP p).2 then (0, 0, 5) else lenLoop r (i + (sizesP p).1) (o + (sizesP p).2)) else (0, 0, 2)
def lengthsP (d : List Pc) : Int × Int × Int := if 4096 < d.length then (0, 0, 5) else lenLoop d 0 0
def tup3 (x : Int × Int × Int) : AV := .tup [.int .i64 x.1, .int .i64 x.2.1, .int .i64 x.2.2]
theorem sizes_nn {p : Pc} (h : validP p = true) : 0 <= (sizesP p).1 /\ 0 <= (sizesP p).2 := by
 unfold validP at h
 unfold sizesP
 split at h
 ·rename_i hk
  simp only [Bool.and_eq_true, decide_eq_true_eq] at h
  have h1 : 1 <= p.n := h.1
  split
  ·exact ⟨by show 0 <= p.n; omega, by show 0 <= p.n; omega⟩
  ·split
   ·exact ⟨by show 0 <= p.n; omega, Int.le_refl _⟩
   ·exact ⟨Int.le_refl _, Int.natCast_nonneg _⟩
 ·rename_i hk
  rw [if_neg (fun e => hk (.inl e)), if_neg (fun e => hk (.inr e))]
  exact ⟨Int.le_refl _, Int.natCast_nonneg _⟩
theorem lengths_ok (d : List Pc) (hd : d.length <= 1099511627776) (hs : ∀ p, p ∈ d -> p.small) : ACalls Tryz.prog 49 [.vs (d.map Pc.av) .no] σ (fun v σ' => v = tup3 (lengthsP d) /\ Ext σ σ') := by
 refine FOk.calls ok49 (by simp [a49]) ?_
 show AW _ _ _ c49 _ _ _
 unfold c49
 refine AW.seq (AW.rg hmix ?_)
 try unfold r49_0
 simp only [↓W0, W, reduceCtorEq, seval, r49_0]
 refine AW.seq (AW.seq (AW.rg hmix ?_))
 by_cases hl : 4096 < d.length
 ·have hl' : (4096 : Int) < (d.length : Int) := by omega
  try unfold r49_1
  simp only [↓W0, W, reduceCtorEq, seval, r49_1, List.length_map, hl']
  refine AW.cond (t := true) rfl (AW.seq (AW.rg hmix ?_))
  try unfold r49_2
  simp only [↓W0, W, reduceCtorEq, seval, r49_2]
  refine AW.ret ?_
  simp only [↓W0, W, reduceCtorEq, seval, a49]
  exact ⟨by simp [lengthsP, hl, tup3], Ext.refl _⟩
 ·have hl' : ¬ ((4096 : Int) < (d.length : Int)) := by omega
  try unfold r49_1
  simp only [↓W0, W, reduceCtorEq, seval, r49_1, List.length_map, hl']
  refine AW.cond (t := false) rfl (AW.skip ?_)
  simp only [↓W0, W, reduceCtorEq, seval]
  refine AW.seq (AW.seq (AW.rg hmix ?_))
  try unfold r49_3
  simp only [↓W0, W, reduceCtorEq, seval, r49_3, List.length_map]
  refine AW.block (AW.loop (fun k ρ σ' => ∃ (dn rs : List Pc) (i o : Int), d = dn ++ rs /\ k = rs.length /\ lenLoop d 0 0 = lenLoop rs i o /\ 0 <= i /\ i <= 1048576 /\ 0 <= o /\ o <= 1048576 /\ ρ 2 = .int .i64 i /\ ρ 3 = .int .i64 o /\
   ρ 12 = .vs (d.map Pc.av) .no /\ ρ 13 = .int .i64 (d.length : Nat) /\ ρ 14 = .int .i64 (dn.length : Nat) /\ Ext σ σ') d.length
   ⟨[], d, 0, 0, rfl, rfl, rfl, by decide, by decide, by decide, by decide, by simp only [↓W0, W, reduceCtorEq, seval], by simp only [↓W0, W, reduceCtorEq, seval], by simp only [↓W0, W, reduceCtorEq, seval], by simp only [↓W0, W, reduceCtorEq, seval], by simp only [↓W0, W, reduceCtorEq, seval] <;> rfl, Ext.refl _⟩ ?_)
  rintro k ρ σ' ⟨dn, rs, i, o, hdr, hk, hloop, i1, i2, o1, o2, t2, t3, t12, t13, t14, hE⟩
  unfold l49_14
  refine AW.seq (AW.rg hmix ?_)
  try unfold r49_4
  simp only [↓W0, W, reduceCtorEq, seval, r49_4, t13, t14]
  refine AW.seq ?_
  have hlen : d.length = dn.length + rs.length := by rw [hdr, List.length_append]
  cases rs with
  | nil =>
   have hi : ¬ (dn.length < d.length) := by simp at hlen; omega
   refine AW.cond (t := false) (by simp only [↓W0, W, reduceCtorEq, seval, Int.ofNat_lt, hi]) (AW.exit ?_)
   simp only [↓W0, W, reduceCtorEq, seval]
   refine AW.seq (AW.rg hmix ?_)
   try unfold r49_14
   simp only [↓W0, W, reduceCtorEq, seval, r49_14, t2, t3]
   refine AW.ret ?_
   simp only [↓W0, W, reduceCtorEq, seval, a49]
   refine ⟨?_, hE⟩
   simp only [lengthsP, if_neg hl, hloop, lenLoop, tup3]
  | cons p rs =>
   have hi : dn.length < d.length := by simp at hlen; omega
   have hg : (d.map Pc.av)[dn.length]? = some p.av := by rw [hdr]; simp
   have hps := hs p (by rw [hdr]; simp)
   refine AW.cond (t := true) (by simp only [↓W0, W, reduceCtorEq, seval, Int.ofNat_lt, hi]) (AW.skip ?_)
   simp only [↓W0, W, reduceCtorEq, seval]
   refine AW.seq (AW.block (AW.seq (AW.rg hmix ?_)))
   try unfold r49_5
   simp only [↓W0, W, reduceCtorEq, seval, r49_5, t12, t14, hg, Pc.av, Pc.cs]
   refine AW.seq (AW.seq (AW.rg hmix ?_))
   try unfold r49_6
   simp only [↓W0, W, reduceCtorEq, seval, r49_6]
   refine call_go (valid_st p) ?_
   rintro v σ'' ⟨rfl, rfl⟩
   have hE2 := (hE.newer (.arr [.int .u8 0, .int .i64 0, .str []])).set (β := σ'.n) hE.1 (.arr [.int .u8 p.k, .int .i64 p.n, .str p.tx])
   cases hv : validP p with
   | false =>
    simp only [↓W0, W, reduceCtorEq, seval]
    refine AW.cond (t := true) rfl (AW.seq (AW.rg hmix ?_))
    try unfold r49_7
    simp only [↓W0, W, reduceCtorEq, seval, r49_7]
    refine AW.ret ?_
    simp only [↓W0, W, reduceCtorEq, seval, a49]
    refine ⟨?_, hE2⟩
    simp [lengthsP, hl, hloop, lenLoop, hv, tup3]
   | true =>
    simp only [↓W0, W, reduceCtorEq, seval]
    refine AW.cond (t := false) rfl (AW.skip ?_)
    simp only [↓W0, W, reduceCtorEq, seval]
    refine AW.seq (AW.rg hmix ?_)
    try unfold r49_8
    simp only [↓W0, W, reduceCtorEq, seval, r49_8]
    refine call_go (sizes_st p) ?_
    rintro v σ'' ⟨rfl, rfl⟩
    simp only [↓W0, W, reduceCtorEq, seval]
    refine AW.seq (AW.seq (AW.rg hmix ?_))
    obtain ⟨s1, s2⟩ := sizes_nn hv
    have w1 : wr .i64 (1048576 - i) = 1048576 - i := wr_i (by omega)
    have w2 : wr .i64 (1048576 - o) = 1048576 - o := wr_i (by omega)
    by_cases ha : 1048576 - i < (sizesP p).1
    ·try unfold r49_9
     simp only [↓W0, W, reduceCtorEq, seval, r49_9, t2, t3, w1, w2, ha]
     refine AW.cond (t := true) rfl (AW.seq (AW.rg hmix ?_))
     try unfold r49_10
     simp only [↓W0, W, reduceCtorEq, seval, r49_10]
     refine AW.ret ?_
     simp only [↓W0, W, reduceCtorEq, seval, a49]
     refine ⟨?_, hE2⟩
     simp [lengthsP, hl, hloop, lenLoop, hv, ha, tup3]
    ·by_cases hb : 1048576 - o < (sizesP p).2
     ·try unfold r49_9
      simp only [↓W0, W, reduceCtorEq, seval, r49_9, t2, t3, w1, w2, ha, hb]
      refine AW.cond (t := true) rfl (AW.seq (AW.rg hmix ?_))
      try unfold r49_10
      simp only [↓W0, W, reduceCtorEq, seval, r49_10]
      refine AW.ret ?_
      simp only [↓W0, W, reduceCtorEq, seval, a49]
      refine ⟨?_, hE2⟩
      simp [lengthsP, hl, hloop, lenLoop, hv, hb, tup3]
     ·try unfold r49_9
      simp only [↓W0, W, reduceCtorEq, seval, r49_9, t2, t3, w1, w2, ha, hb]
      refine AW.cond (t := false) rfl (AW.skip ?_)
      simp only [↓W0, W, reduceCtorEq, seval]
      refine AW.seq (AW.rg hmix ?_)
      try unfold r49_11
      simp only [↓W0, W, reduceCtorEq, seval, r49_11, t2]
      refine AW.rg hmix ?_
      try unfold r49_12
      simp only [↓W0, W, reduceCtorEq, seval, r49_12, t3]
      refine AW.rg hmix ?_
      try unfold r49_13
      simp only [↓W0, W, reduceCtorEq, seval, r49_13, t14]
      refine ⟨rs.length, by rw [hk]; simp, dn ++ [p], rs, i + (sizesP p).1, o + (sizesP p).2, by rw [hdr]; simp, rfl, ?_, by omega, by omega, by omega, by omega, ?_, ?_, t12, t13, ?_, hE2⟩
      ·rw [hloop]; simp only [lenLoop, hv, if_true, ha, hb, or_self, if_false]
      ·rw [wr_i (by omega)]
      ·rw [wr_i (by omega)]
      ·rw [wr_i (by omega)]; simp
theorem pur_pcs (d : List Pc) : purL (d.map Pc.av) = true := purL_all fun x hx => by
 obtain ⟨k, _, rfl⟩ := List.mem_map.1 hx
 rfl
theorem lengths_st (d : List Pc) (hd : d.length <= 1099511627776) (hs : ∀ p, p ∈ d -> p.small) : ACalls Tryz.prog 49 [.vs (d.map Pc.av) .no] σ (fun v σ' => v = tup3 (lengthsP d) /\ σ' = σ) :=
 (lengths_ok d hd hs).still (by simp only [purL, AV.pur, Tok.pur, pur_pcs, Bool.and_self]) rfl
end Go.Proofs.YtekhblefchceaaaGreat.AM

/- A contract: patch.Apply of a delta that makes too long a text. -/
set_option maxRecDepth 20000
namespace Go.Proofs.YtekhblefchceaaaGreat.AM
open Go Go.Proofs
variable {σ : St}
theorem er_pcs (l : List Pc) (t : Tok) : (AV.vs (l.map Pc.av) t).er = .vs (l.map Pc.av) .no := by
 simp only [AV.er, AV.mp, mpL_eq, List.map_map]
 congr 1
end Go.Proofs.YtekhblefchceaaaGreat.AM

/- Numbers in conditions, decided by omega; the arena at its places. -/
set_option linter.defProp false
namespace Go.Proofs.YtekhblefchceaaaGreat.AM
open Go
variable {P : Program} {σ : St}
theorem ilt_T {a b : Int} (h : a < b) : (a < b) = True := eq_true h
theorem ilt_F {a b : Int} (h : ¬a < b) : (a < b) = False := eq_false h
theorem ile_T {a b : Int} (h : a <= b) : (a <= b) = True := eq_true h
theorem ile_F {a b : Int} (h : ¬a <= b) : (a <= b) = False := eq_false h
theorem ieq_T {a b : Int} (h : a = b) : (a = b) = True := eq_true h
theorem ieq_F {a b : Int} (h : ¬a = b) : (a = b) = False := eq_false h
theorem nlt_T {a b : Nat} (h : a < b) : (a < b) = True := eq_true h
theorem nlt_F {a b : Nat} (h : ¬a < b) : (a < b) = False := eq_false h
theorem nle_T {a b : Nat} (h : a <= b) : (a <= b) = True := eq_true h
theorem nle_F {a b : Nat} (h : ¬a <= b) : (a <= b) = False := eq_false h
theorem sn_ne {σ : St} {β : Nat} (h : σ.n ≠ β) : (σ.n = β) = False := eq_false h
theorem snk_ne {σ : St} {k β : Nat} (h : σ.n + k ≠ β) : (σ.n + k = β) = False := eq_false h
theorem ne_sn {σ : St} {β : Nat} (h : β ≠ σ.n) : (β = σ.n) = False := eq_false h
theorem ne_snk {σ : St} {k β : Nat} (h : β ≠ σ.n + k) : (β = σ.n + k) = False := eq_false h
theorem toNat_cast (n : Nat) : ((n : Nat) : Int).toNat = n := Int.toNat_natCast n
theorem resAV_2 (a b : AV) : resAV [a, b] = .tup [a, b] := rfl
theorem resAV_3 (a b c : AV) : resAV [a, b, c] = .tup [a, b, c] := rfl
theorem resAV_4 (a b c d : AV) : resAV [a, b, c, d] = .tup [a, b, c, d] := rfl
theorem wr_i2 {n : Int} (h1 : -9223372036854775808 <= n) (h2 : n <= 9223372036854775807) : wr .i64 n = n := wr_i ⟨h1, h2⟩
theorem wr_u2 {n : Int} (h1 : 0 <= n) (h2 : n < 18446744073709551616) : wr .u64 n = n := wr_u ⟨h1, h2⟩
theorem maxBytes_eq : maxBytes = 17592186044416 := by decide
def TokG (σ : St) : Tok -> Prop
  | .no => False
  | .ex => True
  | .id τ => τ < σ.n /\ lk σ.H τ = some .tok
theorem TokG.ok {t : Tok} (h : TokG σ t) : TokOk 0 σ t := by
  cases t with
  | no => exact h
  | ex => trivial
  | id τ => exact ⟨Nat.zero_le _, h.1, h.2⟩
theorem Own.g {σ0 : St} {t : Tok} (h : Own σ0 σ t) : TokG σ t := by
  have h1 := h.1
  cases t with
  | no => exact h1
  | ex => trivial
  | id τ => exact ⟨h1.2.1, h1.2.2⟩
theorem TokG.new {t : Tok} (h : TokG σ t) (b : Blk) : TokG (σ.new b) t := by
  cases t with
  | no => exact h
  | ex => trivial
  | id τ => exact ⟨Nat.lt_succ_of_lt h.1, by rw [lk_new, if_neg (by have := h.1; omega)]; exact h.2⟩
theorem TokG.set {t : Tok} (h : TokG σ t) {β : Nat} (hb : lk σ.H β ≠ some .tok) (b : Blk) : TokG (σ.set β b) t := by
  cases t with
  | no => exact h
  | ex => trivial
  | id τ =>
    have h2 := h.2
    exact ⟨h.1, by rw [lk_set, if_neg (fun e => by subst e; exact hb h2)]; exact h2⟩
theorem appA_S {ag : Bool} {sz bytes : Nat} {l : List AV} {e : AV} {t t' : Tok} (hf : fitSz sz l = true) (he : fitSz sz [e] = true)
    (hb : (l.length + 1) * (bytes + 1) <= 17592186044416) (ht : TokG σ t) : appA ag sz bytes (.vs l t) (.vs [e] t') σ = .v (.vs (l ++ [e]) (.id σ.n)) (σ.rt t) := appA_one hf he hb ht.ok
theorem appA_M {ag : Bool} {sz bytes : Nat} {l new : List AV} {t t' : Tok} (h0 : new ≠ []) (hf : fitSz sz l = true) (he : fitSz sz new = true)
    (hb : (l.length + new.length) * (bytes + 1) <= 17592186044416) (ht : TokG σ t) : appA ag sz bytes (.vs l t) (.vs new t') σ = .v (.vs (l ++ new) (.id σ.n)) (σ.rt t) := appA_many h0 hf he hb ht.ok
theorem fit_all {sz : Nat} {l : List AV} (h : ∀ x, x ∈ l -> x.cells.length = sz /\ allSc x.cells = true) : fitSz sz l = true := by
  simp only [fitSz, List.all_eq_true, Bool.and_eq_true, beq_iff_eq]
  exact h
theorem fit_nil (sz : Nat) : fitSz sz [] = true := rfl
theorem fit_cons (sz : Nat) (x : AV) (l : List AV) : fitSz sz (x :: l) = (x.cells.length == sz && allSc x.cells && fitSz sz l) := rfl
theorem ACalls.wf {P : Program} {f : Nat} {args : List AV} {K : AV -> St -> Prop} (hc : CallOk P f) (hk : ∃ v σ', K v σ') (h : (∀ β k, lk σ.H β = some k -> β < σ.n) -> ACalls P f args σ K) : ACalls P f args σ K :=
  ⟨hc, hk, fun g w cargs r hl => (h r.lt).2.2 g w cargs r hl⟩
theorem ACalls.wfQ {P : Program} {f : Nat} {args : List AV} {X : AV} (hc : CallOk P f) (h : (∀ β k, lk σ.H β = some k -> β < σ.n) -> ACalls P f args σ (fun v σ' => v = X /\ σ' = σ)) : ACalls P f args σ (fun v σ' => v = X /\ σ' = σ) :=
  .wf hc ⟨_, _, rfl, rfl⟩ h
theorem aqr {P : Program} {is : List AInstr} {l : List (Nat × Blk)} {K : Env -> St -> Prop} {i : Nat} {t : QT} {ρ : Env} (v : AV) (h : ∀ σ', SB l σ' -> AO P (is.getD i default) (fun ρ' σ'' => ρ' = ρ.putO (is.getD i default).dst v /\ σ'' = σ') ρ σ')
    (k : AQ P is l K t (ρ.putO (is.getD i default).dst v) σ) : AQ P is l K (.r i t) ρ σ := ⟨v, h, k⟩
theorem AW.qx {P : Program} {ro : Option Nat} {nt : Nat} {Q : Ex -> Env -> St -> Prop} {ρ : Env} {is : List AInstr} {deps : List (List Nat)} (z : Option Nat) (t : QT) (l : List (Nat × Blk)) (hm : P.follows .mixedOrders = true) (hok : okQ is deps (ancs [] deps) z t [] = true) (hd : t.depth <= is.length)
    (hs : SB l σ) (h : AQ P is l (kN Q) t ρ σ) : AW P ro nt (.qrg is deps) Q ρ σ := AW.qt z t l hm hok hd hs h
theorem FOk.co {P : Program} {f : Nat} {af : AFunc} (h : FOk P f af) : CallOk P f :=
  let ⟨fn, h1, h2, h3⟩ := h
  let ⟨_, hb, _⟩ := cFunc_inv h3
  ⟨fn, h1, h2, by rw [hb]; rfl⟩
theorem SB.ext {l : List (Nat × Blk)} {σ' : St} (h : SB l σ) (hl : ∀ e, e ∈ l -> e.1 < σ.n) (hE : Ext σ σ') : SB l σ' := fun β b hb => by
  have : ∃ e, e ∈ l /\ e.1 = β := by
    clear h hl hE
    induction l with
    | nil => simp [lk] at hb
    | cons a l ih =>
      obtain ⟨a1, a2⟩ := a
      simp only [lk] at hb
      split at hb
      · rename_i e; exact ⟨_, List.mem_cons_self, e⟩
      · obtain ⟨e, h1, h2⟩ := ih hb
        exact ⟨e, List.mem_cons_of_mem _ h1, h2⟩
  obtain ⟨e, h1, h2⟩ := this
  rw [hE.2 β (h2 ▸ hl e h1)]
  exact h β b hb
theorem SB.mem {l : List (Nat × Blk)} {β : Nat} {b : Blk} (h : SB l σ) (hl : lk l β = some b) : lk σ.H β = some b := h β b hl
theorem isKey_int (k : IntKind) (n : Int) : isKey (.int k n) = true := rfl
theorem isKey_str (s : List UInt8) : isKey (.str s) = true := rfl
theorem c0 : ((0 : Nat) : Int) = 0 := rfl
theorem c1 : ((1 : Nat) : Int) = 1 := rfl
theorem bne_f (b : Bool) : (b != false) = b := by cases b <;> rfl
theorem bne_t (b : Bool) : (b != true) = !b := by cases b <;> rfl
def BA (s : List UInt8) (t : Tok) (v : AV) : Prop := v = .bs s t \/ (s = [] /\ v = .vs [] t)
theorem appB_ok {s q : List UInt8} {t : Tok} {v : AV} (h : BA s t v) (ht : TokG σ t) (hb : s.length + q.length <= 1099511627776) : ∃ v' t' σ', appB v (.str q) σ = .v v' σ' /\ BA (s ++ q) t' v' /\ ((σ' = σ /\ t' = t) \/ (σ' = σ.rt t /\ t' = .id σ.n)) := by
  have hb2 : s.length + q.length <= maxBytes / 4 := by unfold maxBytes; omega
  by_cases hq : q = []
  · subst hq
    rcases h with rfl | ⟨rfl, rfl⟩
    · exact ⟨.bs s t, t, σ, by simp [appB, evalOp, Opd.ev], .inl (by simp), .inl ⟨rfl, rfl⟩⟩
    · exact ⟨.vs [] t, t, σ, by simp [appB, evalOp, Opd.ev], .inr ⟨rfl, rfl⟩, .inl ⟨rfl, rfl⟩⟩
  · rcases h with rfl | ⟨rfl, rfl⟩
    · exact ⟨.bs (s ++ q) (.id σ.n), .id σ.n, σ.rt t, by simp [appB, evalOp, Opd.ev, hq, hb2, retok_rt ht.ok], .inl rfl, .inr ⟨rfl, rfl⟩⟩
    · simp only [List.length_nil, Nat.zero_add] at hb2
      exact ⟨.bs q (.id σ.n), .id σ.n, σ.rt t, by simp [appB, evalOp, Opd.ev, hq, hb2, retok_rt ht.ok], .inl rfl, .inr ⟨rfl, rfl⟩⟩
def WD := aI @c0 <| aI @c1 <| aI @bne_f <| aI @bne_t <| aI @isKey_int <| aI @isKey_str <| aI @Option.isSome_none.{0} <| aI @Option.isSome_some.{0} <| aI @Nat.sub_zero <| aI @fit_nil <| aI @fit_cons <| aI @maxBytes_eq <| aI @resAV_2 <| aI @resAV_3 <| aI @resAV_4 <| aI @List.take_length.{0} <| aI @ilt_T <| aI @ilt_F <| aI @ile_T <| aI @ile_F <| aI @ieq_T <| aI @ieq_F <| aI @nlt_T <| aI @nlt_F <| aI @nle_T <| aI @nle_F <| aI @sn_ne <| aI @snk_ne <| aI @ne_sn <| aI @ne_snk <| aI @wr_i2 <| aI @wr_u2 <| @toNat_cast
theorem cs_bool (b : Bool) : (AV.bool b).cells = [(AV.bool b)] := rfl
theorem sc_bool (b : Bool) : (AV.bool b).sc = true := rfl
theorem cs_int (k : IntKind) (n : Int) : (AV.int k n).cells = [(AV.int k n)] := rfl
theorem sc_int (k : IntKind) (n : Int) : (AV.int k n).sc = true := rfl
theorem cs_str (s : List UInt8) : (AV.str s).cells = [(AV.str s)] := rfl
theorem sc_str (s : List UInt8) : (AV.str s).sc = true := rfl
theorem cs_nilp  : AV.nilp.cells = [AV.nilp] := rfl
theorem sc_nilp  : AV.nilp.sc = true := rfl
theorem cs_ptr (β o : Nat) : (AV.ptr β o).cells = [(AV.ptr β o)] := rfl
theorem sc_ptr (β o : Nat) : (AV.ptr β o).sc = true := rfl
theorem cs_ip (l : List AV) : (AV.ip l).cells = [(AV.ip l)] := rfl
theorem sc_ip (l : List AV) : (AV.ip l).sc = true := rfl
theorem cs_vs (l : List AV) (t : Tok) : (AV.vs l t).cells = [(AV.vs l t)] := rfl
theorem sc_vs (l : List AV) (t : Tok) : (AV.vs l t).sc = true := rfl
theorem cs_bs (s : List UInt8) (t : Tok) : (AV.bs s t).cells = [(AV.bs s t)] := rfl
theorem sc_bs (s : List UInt8) (t : Tok) : (AV.bs s t).sc = true := rfl
theorem cs_hs (β o l c : Nat) : (AV.hs β o l c).cells = [(AV.hs β o l c)] := rfl
theorem sc_hs (β o l c : Nat) : (AV.hs β o l c).sc = true := rfl
theorem cs_nilmap  : AV.nilmap.cells = [AV.nilmap] := rfl
theorem sc_nilmap  : AV.nilmap.sc = true := rfl
theorem cs_map (β : Nat) : (AV.map β).cells = [(AV.map β)] := rfl
theorem sc_map (β : Nat) : (AV.map β).sc = true := rfl
theorem cs_nilfn  : AV.nilfn.cells = [AV.nilfn] := rfl
theorem sc_nilfn  : AV.nilfn.sc = true := rfl
theorem cs_fn (f : Nat) (l : List AV) : (AV.fn f l).cells = [(AV.fn f l)] := rfl
theorem sc_fn (f : Nat) (l : List AV) : (AV.fn f l).sc = true := rfl
theorem cs_yld (β : Nat) : (AV.yld β).cells = [(AV.yld β)] := rfl
theorem sc_yld (β : Nat) : (AV.yld β).sc = true := rfl
theorem cs_nilif  : AV.nilif.cells = [AV.nilif] := rfl
theorem sc_nilif  : AV.nilif.sc = true := rfl
theorem cs_agg (l : List AV) : (AV.agg l).cells = l := rfl
def WC := aI @cs_bool <| aI @sc_bool <| aI @cs_int <| aI @sc_int <| aI @cs_str <| aI @sc_str <| aI @cs_nilp <| aI @sc_nilp <| aI @cs_ptr <| aI @sc_ptr <| aI @cs_ip <| aI @sc_ip <| aI @cs_vs <| aI @sc_vs <| aI @cs_bs <| aI @sc_bs <| aI @cs_hs <| aI @sc_hs <| aI @cs_nilmap <| aI @sc_nilmap <| aI @cs_map <| aI @sc_map <| aI @cs_nilfn <| aI @sc_nilfn <| aI @cs_fn <| aI @sc_fn <| aI @cs_yld <| aI @sc_yld <| aI @cs_nilif <| aI @sc_nilif <| @cs_agg
def VV := And.intro V <| And.intro WD WC
def WF := And.intro WC <| aI @new_n <| aI @set_n <| aI @fit_nil <| aI @fit_cons <| aI @List.length_cons.{0} <| aI @List.length_nil.{0} <| aI @Nat.zero_add <| aI @allSc.eq_1 <| aI @List.all_cons.{0} <| aI @List.all_nil.{0} <| aI @beq_self_eq_true.{0} <| aI @Bool.and_self <| @Bool.and_true
theorem dA {p : Prop} (h : p := by first | assumption | omega | (simp only [WF, seval] <;> fail)) : p := h
theorem eA {p : Prop} (h : p := by repeat (first | exact Ext.refl _ | assumption | apply Ext.newer | refine Ext.set ?_ (by first | omega | (simp only [new_n, set_n] <;> omega)) _)) : p := h
theorem wA {p : Prop} (h : p := by simp only [↓W0, W, reduceCtorEq, seval]; first | done | rfl | omega | (simp <;> fail)) : p := h
end Go.Proofs.YtekhblefchceaaaGreat.AM

