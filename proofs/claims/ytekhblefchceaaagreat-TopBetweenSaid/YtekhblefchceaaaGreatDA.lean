/- Joined: D1, D2, D3, D4. -/
import Derived.Test.YtekhblefchceaaaGreatCB
import Derived.Test.YtekhblefchceaaaGreatNA
set_option linter.unusedVariables false
set_option linter.unusedSimpArgs false
/- Contracts: chunk. -/
set_option maxRecDepth 20000
namespace Go.Proofs.YtekhblefchceaaaGreat.AM
open Go Go.Proofs
variable {σ : St}
theorem leaf_ok (s : List UInt8) : ACalls Tryz.prog 252 [.str s] σ (fun v σ' => v = .bool (decide (1 <= s.length) && decide (s.length <= 16)) /\ σ' = σ) := by
 refine FOk.calls ok252 (by simp [a252]) (wpc_sound hmix ?_)
 show wpc _ _ _ c252 _ _ _
 simp (disch := first | exact dA | fail) only [↓V0, VV, reduceCtorEq, seval, a252]
 refine grd_b (fun h => ?_) (fun h => ?_)
 ·simp only [decide_eq_true_eq] at h
  simp (disch := first | exact dA | fail) only [↓V0, VV, reduceCtorEq, seval, a252]
  congr 1; rw [Bool.eq_iff_iff]; simp; omega
 ·simp only [decide_eq_false_iff_not] at h
  simp (disch := first | exact dA | fail) only [↓V0, VV, reduceCtorEq, seval, a252]
theorem ccut_ok (s : List UInt8) (n : Nat) (h1 : 1 <= s.length) (h2 : s.length <= 16) (h3 : n <= s.length) : ACalls Tryz.prog 219 [.str s, .int .i64 n] σ (fun v σ' => v = .tup [.str (s.take n), .str (s.drop n), .int .i64 0] /\ σ' = σ) := by
 refine FOk.calls ok219 (by simp [a219]) (wpc_sound hmix ?_)
 show wpc _ _ _ c219 _ _ _
 simp (disch := first | exact dA | fail) only [↓V0, VV, reduceCtorEq, seval, a219]
 refine callQ (leaf_ok s) ?_
 simp (disch := first | exact dA | fail) only [↓V0, VV, reduceCtorEq, seval, a219]
def grps (n m : Nat) : Nat := n / m + (if n % m = 0 then 0 else 1)
def szAt (n g i : Nat) : Nat := n / g + (if i < n % g then 1 else 0)
def szs (n m : Nat) : List Nat := (List.range (grps n m)).map (szAt n (grps n m))
theorem size_ok (i n g b1 b2 : Nat) (hg : 1 <= g) (hn : n <= 1048576) (h1 : lk σ.H b1 = some (.arr [.int .i64 n])) (h2 : lk σ.H b2 = some (.arr [.int .i64 g])) :
  ACalls Tryz.prog 251 [.int .i64 i, .ptr b1 0, .ptr b2 0] σ (fun v σ' => v = .int .i64 (szAt n g i) /\ σ' = σ) := by
 have hd := Nat.div_le_self n g
 have hm : n % g < g := Nat.mod_lt _ (by omega)
 unfold szAt
 refine FOk.calls ok251 (by simp [a251]) (wpc_sound hmix ?_)
 show wpc _ _ _ c251 _ _ _
 simp (disch := first | exact dA | fail) only [↓V0, VV, reduceCtorEq, seval, a251, h1, h2, bin_quo, bin_rem, <- Int.ofNat_tdiv, <- Int.ofNat_tmod]
 refine cnd_d (fun h => ?_) (fun h => ?_)
 ·rw [if_pos (by omega)]
  simp (disch := first | exact dA | fail) only [↓V0, VV, reduceCtorEq, seval, a251, h1, h2, bin_quo, bin_rem, <- Int.ofNat_tdiv, <- Int.ofNat_tmod]
  generalize n / g = q at hd ⊢
  rw [wr_i2 (n := (q : Int)) (by omega) (by omega), wr_i2 (by omega) (by omega)]
  rfl
 ·rw [if_neg (by omega)]
  simp (disch := first | exact dA | fail) only [↓V0, VV, reduceCtorEq, seval, a251, h1, h2, bin_quo, bin_rem, <- Int.ofNat_tdiv, <- Int.ofNat_tmod]
  generalize n / g = q at hd ⊢
  rw [wr_i2 (n := (q : Int)) (by omega) (by omega)]
theorem szs_nil (m : Nat) : szs 0 m = [] := by simp [szs, grps]
theorem grps_pos {n m : Nat} (hn : 0 < n) (hm : 1 <= m) : 1 <= grps n m := by
 unfold grps
 by_cases h : n % m = 0
 ·have h2 := Nat.div_add_mod n m
  rw [h, Nat.add_zero] at h2
  have : 1 <= n / m := by
   rcases Nat.eq_zero_or_pos (n / m) with e | e
   ·rw [e, Nat.mul_zero] at h2; omega
   ·exact e
  exact Nat.le_trans this (Nat.le_add_right _ _)
 ·rw [if_neg h]; exact Nat.le_add_left _ _
theorem grps_le {n m : Nat} (hm : 1 <= m) : grps n m <= n := by
 unfold grps
 have h2 := Nat.div_add_mod n m
 have h3 : n / m <= m * (n / m) := Nat.le_mul_of_pos_left _ hm
 generalize n / m = q at h2 h3 ⊢
 generalize m * q = p at h2 h3
 split <;> omega
theorem flat_ints (n : Nat) : (List.replicate n [AV.int .i64 0]).flatten = List.replicate n (.int .i64 0) := by
 induction n with
 | zero => rfl
 | succ n ih => simp [List.replicate_succ, ih]
theorem elems_one (c : List AV) : elemsOf false 1 c.length c = c := by
 induction c with
 | nil => rfl
 | cons a c ih => simp [elemsOf, ih]
def iav (l : List Nat) : List AV := l.map fun k => .int .i64 (k : Nat)
theorem er_iav (l : List Nat) : (iav l).map AV.er = iav l := by simp [iav, Function.comp_def, er_int]
theorem pur_iav (l : List Nat) : purL (iav l) = true := purL_all fun x hx => by
 obtain ⟨k, _, rfl⟩ := List.mem_map.1 hx
 rfl
theorem allSc_iav (l : List Nat) : allSc (iav l) = true := by simp [allSc, iav, AV.sc]
theorem ACalls.frzQ {P : Program} {f : Nat} {args : List AV} {c : List AV} (h : ACalls P f args σ (fun v σ' => ∃ b, v = .hs b 0 c.length c.length /\ lk σ'.H b = some (.arr c) /\ σ.n <= b /\ Ext σ σ')) (hsc : allSc c = true) (hp : purL c = true) :
  ACalls P f args σ (fun v σ' => v = .vs c .no /\ σ' = σ) := by
 have h1 : ACalls P f args σ (fun v σ' => v = .vs c .no /\ Ext σ σ') := h.weak fun v σ' ⟨b, e1, e2, e3, e4⟩ => by
  subst e1
  refine ⟨_, _, VW.frz false 1 e2 hsc (.inr rfl), ?_, e4.del e3⟩
  show (if b = b /\ 0 + c.length * 1 <= c.length /\ c.length <= c.length then _ else _) = _
  rw [if_pos ⟨rfl, by omega, Nat.le_refl _⟩, List.drop_zero, elems_one]
 refine h1.tightW fun v σ' ⟨e, hE⟩ => ⟨σ.H, fun β b hb => .inl ⟨hb, fun hlt => by rw [hE.2 β hlt]; exact hb⟩, ?_, e, rfl⟩
 subst e
 exact bw_pur _ (by simp only [AV.pur, Tok.pur, hp, Bool.and_self])
theorem csizes_loop {σ0 : St} {n g b1 b2 b3 : Nat} {ρ : Env} (hg1 : 1 <= g) (hg2 : g <= n) (hn : n <= 1048576) (d1 : b3 ≠ b1) (d2 : b3 ≠ b2) (hb : σ0.n <= b3) (l1 : lk σ.H b1 = some (.arr [.int .i64 n])) (l2 : lk σ.H b2 = some (.arr [.int .i64 g]))
  (l3 : lk σ.H b3 = some (.arr (List.replicate g (.int .i64 0)))) (t6 : ρ 6 = .fn 251 [.ptr b1 0, .ptr b2 0]) (t7 : ρ 7 = .hs b3 0 g g) (t23 : ρ 23 = .int .i64 g) (t24 : ρ 24 = .int .i64 0) (hE : Ext σ0 σ) {K : AV -> St -> Prop}
  (hK : ∀ σ', lk σ'.H b3 = some (.arr (iav ((List.range g).map (szAt n g)))) -> Ext σ0 σ' -> K (.hs b3 0 g g) σ') : AW Tryz.prog none 35 (.loop l218_13) (inBl 0 (kS Tryz.prog none 35 (.seq (.rg r218_13) .ret) (FPost [.tmp 4] K))) ρ σ := by
 refine AW.upto hmix (fun i ρ σ' => ρ 6 = .fn 251 [.ptr b1 0, .ptr b2 0] /\ ρ 7 = .hs b3 0 g g /\ ρ 23 = .int .i64 g /\ ρ 24 = .int .i64 (i : Nat) /\ lk σ'.H b1 = some (.arr [.int .i64 n]) /\ lk σ'.H b2 = some (.arr [.int .i64 g]) /\
  lk σ'.H b3 = some (.arr (iav ((List.range i).map (szAt n g)) ++ List.replicate (g - i) (.int .i64 0))) /\ Ext σ0 σ') g ⟨t6, t7, t23, t24, l1, l2, by simpa [iav] using l3, hE⟩ (fun i ρ σ' hi h => ?_) (fun ρ σ' h => ?_)
 ·obtain ⟨t6, t7, t23, t24, l1, l2, l3, hE⟩ := h
  have hlen : (iav ((List.range i).map (szAt n g))).length = i := by simp [iav]
  have hlen2 : (iav ((List.range i).map (szAt n g)) ++ List.replicate (g - i) (AV.int .i64 0)).length = g := by simp [iav]; omega
  have e := @put_mid (iav ((List.range i).map (szAt n g))) (List.replicate (g - (i + 1)) (.int .i64 0)) (.int .i64 0) (.int .i64 (szAt n g i)) i hlen
  have hr : g - i = (g - (i + 1)) + 1 := by omega
  simp only [putCells, List.length_cons, List.length_nil, Nat.zero_add] at e
  simp (disch := first | exact dA | fail) only [↓V0, VV, reduceCtorEq, seval, a218, t6, t7, t23, t24]
  refine callQ (size_ok i n g b1 b2 hg1 hn l1 l2) ?_
  simp (disch := first | exact dA | fail) only [↓V0, VV, reduceCtorEq, seval, a218, t6, t7, t23, t24, l3, hlen2]
  refine ⟨rfl, by rw [if_neg d1]; exact l1, by rw [if_neg d2]; exact l2, ?_, by exact eA⟩
  rw [hr, List.replicate_succ, e, List.range_succ]
  simp [iav]
 ·obtain ⟨t6, t7, t23, t24, l1, l2, l3, hE⟩ := h
  simp (disch := first | exact dA | fail) only [↓V0, VV, reduceCtorEq, seval, a218, t23, t24, t7]
  exact hK σ' (by simpa using l3) hE
theorem csizes_ok (n m : Nat) (hm : 1 <= m) (hm2 : m <= 1048576) (hn : n <= 1048576) : ACalls Tryz.prog 218 [.int .i64 n, .int .i64 m] σ (fun v σ' => v = .vs (iav (szs n m)) .no /\ σ' = σ) := by
 have hml : n % m < m := Nat.mod_lt _ (by omega)
 by_cases h0 : n = 0
 ·subst h0
  refine ACalls.quietX ?_ (by simp only [AV.pur, Tok.pur, pur_iav, Bool.and_self])
  refine FOk.calls ok218 (by simp [a218]) (wpc_sound hmix ?_)
  show wpc _ _ _ c218 _ _ _
  simp (disch := first | exact dA | fail) only [↓V0, VV, reduceCtorEq, seval, a218]
  rw [szs_nil]
  exact ⟨rfl, by exact eA⟩
 have hg1 := grps_pos (Nat.pos_of_ne_zero h0) hm
 have hg2 := grps_le (n := n) hm
 have hgd : grps n m = n / m + (if n % m = 0 then 0 else 1) := rfl
 have hd := Nat.div_le_self n m
 have hlen : (iav (szs n m)).length = grps n m := by simp [iav, szs]
 have hw : wr .i64 ((n / m : Nat) : Int) = ((n / m : Nat) : Int) := by
  generalize n / m = q at hd ⊢
  exact wr_i2 (by omega) (by omega)
 refine ACalls.frzQ ?_ (allSc_iav _) (pur_iav _)
 simp only [hlen]
 refine FOk.calls ok218 (by simp [a218]) (wpc_sound hmix ?_)
 show wpc _ _ _ c218 _ _ _
 simp (disch := first | exact dA | fail) only [↓V0, VV, reduceCtorEq, seval, a218, bin_quo, bin_rem, <- Int.ofNat_tdiv, <- Int.ofNat_tmod, hw]
 refine cnd_d (fun h => ?_) (fun h => ?_)
 ·have hw2 : wr .i64 (((n / m : Nat) : Int) + 1) = ((grps n m : Nat) : Int) := by
   rw [hgd, if_neg (by omega)]
   generalize n / m = q at hd ⊢
   rw [wr_i2 (by omega) (by omega)]; rfl
  simp (disch := first | exact dA | fail) only [↓V0, VV, reduceCtorEq, seval, a218, hw2, flat_ints]
  refine csizes_loop (σ0 := σ) (n := n) (g := grps n m) (b1 := σ.n) (b2 := σ.n + 1) (b3 := σ.n + 1 + 1) hg1 hg2 hn (by omega) (by omega) (by omega) (by simp only [↓W0, W, reduceCtorEq, seval]) (by simp only [↓W0, W, reduceCtorEq, seval]) (by simp only [↓W0, W, reduceCtorEq, seval]) (by simp only [↓W0, W, reduceCtorEq, seval]) (by simp only [↓W0, W, reduceCtorEq, seval]) (by simp only [↓W0, W, reduceCtorEq, seval]) (by simp only [↓W0, W, reduceCtorEq, seval]) (by exact eA) ?_
  exact fun σ' h1 h2 => ⟨_, rfl, h1, by omega, h2⟩
 ·have hw2 : ((n / m : Nat) : Int) = ((grps n m : Nat) : Int) := by
   rw [hgd, if_pos (by omega)]; rfl
  simp (disch := first | exact dA | fail) only [↓V0, VV, reduceCtorEq, seval, a218, hw2, flat_ints]
  refine csizes_loop (σ0 := σ) (n := n) (g := grps n m) (b1 := σ.n) (b2 := σ.n + 1) (b3 := σ.n + 1 + 1) hg1 hg2 hn (by omega) (by omega) (by omega) (by simp only [↓W0, W, reduceCtorEq, seval]) (by simp only [↓W0, W, reduceCtorEq, seval]) (by simp only [↓W0, W, reduceCtorEq, seval]) (by simp only [↓W0, W, reduceCtorEq, seval]) (by simp only [↓W0, W, reduceCtorEq, seval]) (by simp only [↓W0, W, reduceCtorEq, seval]) (by simp only [↓W0, W, reduceCtorEq, seval]) (by exact eA) ?_
  exact fun σ' h1 h2 => ⟨_, rfl, h1, by omega, h2⟩
theorem even_ok (n m : Nat) (hm : 1 <= m) (hm2 : m <= 1048576) (hn : n <= 65536) : ACalls Tryz.prog 166 [.int .i64 n, .int .i64 m] σ (fun v σ' => v = .tup [.vs (iav (szs n m)) .no, .int .i64 0] /\ σ' = σ) := by
 refine FOk.calls ok166 (by simp [a166]) (wpc_sound hmix ?_)
 show wpc _ _ _ c166 _ _ _
 simp (disch := first | exact dA | fail) only [↓V0, VV, reduceCtorEq, seval, a166]
 refine callQ (csizes_ok n m hm hm2 (by omega)) ?_
 simp (disch := first | exact dA | fail) only [↓V0, VV, reduceCtorEq, seval, a166]
def split {α : Type} : List Nat -> List α -> List (List α)
 | [], _ => []
 | n :: r, s => s.take n :: split r (s.drop n)
theorem split_length {α : Type} : ∀ (l : List Nat) (s : List α), (split l s).length = l.length
 | [], _ => rfl
 | n :: r, s => by simp [split, split_length r]
theorem split_get {α : Type} : ∀ (l : List Nat) (s : List α) (i : Nat), i < l.length -> (split l s)[i]? = some ((s.drop (l.take i).sum).take (l.getD i 0))
 | n :: r, s, 0, _ => by simp [split]
 | n :: r, s, i + 1, h => by
  simp only [List.length_cons] at h
  have := split_get r (s.drop n) i (by omega)
  simp only [split, List.getElem?_cons_succ, this, List.take_succ_cons, List.sum_cons, List.drop_drop, List.getD_cons_succ]
theorem take_succ_get {α : Type} {l : List α} {i : Nat} {x : α} (h : l[i]? = some x) : l.take (i + 1) = l.take i ++ [x] := by
 rw [List.take_add_one, h]; rfl
def sav (l : List (List UInt8)) : List AV := l.map .str
theorem er_sav (l : List (List UInt8)) : (sav l).map AV.er = sav l := by simp [sav, Function.comp_def, er_str]
theorem pur_sav (l : List (List UInt8)) : purL (sav l) = true := purL_all fun x hx => by
 obtain ⟨k, _, rfl⟩ := List.mem_map.1 hx
 rfl
theorem fit_sav (l : List (List UInt8)) : fitSz 1 (sav l) = true := fit_all fun x hx => by
 obtain ⟨k, _, rfl⟩ := List.mem_map.1 hx
 exact ⟨rfl, rfl⟩
def cks (s : List UInt8) : List (List UInt8) := split (szs s.length 16) s
theorem sum_take_le (l : List Nat) (i : Nat) : (l.take i).sum <= l.sum := by
 have := List.take_append_drop i l
 have h2 : l.sum = (l.take i).sum + (l.drop i).sum := by rw [<- List.sum_append, this]
 omega
theorem chunks_ok (s : List UInt8) (hn : s.length <= 1048576) (hs : (szs s.length 16).sum = s.length) : ACalls Tryz.prog 165 [.str s] σ (fun v σ' => v = .vs (sav (cks s)) .no /\ σ' = σ) := by
 refine ACalls.quietX ?_ (by simp only [AV.pur, Tok.pur, pur_sav, Bool.and_self])
 refine FOk.calls ok165 (by simp [a165]) (wpc_sound hmix ?_)
 show wpc _ _ _ c165 _ _ _
 simp (disch := first | exact dA | fail) only [↓V0, VV, reduceCtorEq, seval, a165]
 refine callQ (csizes_ok s.length 16 (by decide) (by decide) hn) ?_
 simp (disch := first | exact dA | fail) only [↓V0, VV, reduceCtorEq, seval, a165]
 have hl : (iav (szs s.length 16)).length = (szs s.length 16).length := by simp [iav]
 have hg2 := grps_le (n := s.length) (m := 16) (by decide)
 have hl3 : (szs s.length 16).length <= s.length := by simpa [szs] using hg2
 have hck : (cks s).length = (szs s.length 16).length := split_length _ _
 generalize hz : szs s.length 16 = z at hl hl3 hs hck ⊢
 refine AW.upto hmix (fun i ρ σ' => ρ 0 = .str (s.drop (z.take i).sum) /\ (∃ t, ρ 3 = .vs (sav ((cks s).take i)) t /\ Own σ σ' t) /\ ρ 8 = .vs (iav z) .no /\ ρ 9 = .int .i64 (z.length : Nat) /\ ρ 10 = .int .i64 (i : Nat)) z.length
  ⟨by simp only [↓W0, W, reduceCtorEq, seval] <;> simp, ⟨.ex, by simp only [↓W0, W, reduceCtorEq, seval] <;> rfl, .ex (Ext.refl _)⟩, by simp only [↓W0, W, reduceCtorEq, seval], by simp only [↓W0, W, reduceCtorEq, seval, hl], by simp only [↓W0, W, reduceCtorEq, seval] <;> rfl⟩ (fun i ρ σ' hi h => ?_) (fun ρ σ' h => ?_)
 ·obtain ⟨t0, ⟨t, t3, ho⟩, t8, t9, t10⟩ := h
  have hgz : (iav z)[i]? = some (.int .i64 (z.getD i 0 : Nat)) := by simp [iav, hi, List.getD_eq_getElem?_getD]
  have hgs : (cks s)[i]? = some ((s.drop (z.take i).sum).take (z.getD i 0)) := by rw [cks, hz]; exact split_get z s i hi
  have hsum : (z.take (i + 1)).sum = (z.take i).sum + z.getD i 0 := by
   rw [take_succ_get (x := z.getD i 0) (by simp [hi, List.getD_eq_getElem?_getD]), List.sum_append]; simp
  have hle := sum_take_le z (i + 1)
  have hb : z.getD i 0 <= (s.drop (z.take i).sum).length := by simp only [List.length_drop]; omega
  have hf := fit_sav ((cks s).take i)
  have hfl : (sav ((cks s).take i)).length = i := by simp only [sav, List.length_map, List.length_take]; omega
  have htk := ho.g
  generalize hrest : s.drop (z.take i).sum = rest at *
  simp (disch := first | exact dA | fail) only [↓V0, VV, reduceCtorEq, seval, a165, t0, t3, t8, t9, t10, hgz, ↓eval_app, appA_S]
  refine ⟨by rw [hsum, <- List.drop_drop, hrest], ⟨_, ?_, ho.app⟩, rfl⟩
  rw [take_succ_get hgs]; simp [sav]
 ·obtain ⟨t0, ⟨t, t3, ho⟩, t8, t9, t10⟩ := h
  simp (disch := first | exact dA | fail) only [↓V0, VV, reduceCtorEq, seval, a165, t0, t3, t8, t9, t10]
  exact ⟨by rw [er_vs, er_sav, List.take_of_length_le (by omega)], ho.ext⟩
theorem cjoin_ok (a b : List UInt8) (ha : 1 <= a.length) (ha2 : a.length <= 16) (hb : 1 <= b.length) (hb2 : b.length <= 16) : ACalls Tryz.prog 274 [.str a, .str b] σ (fun v σ' => v = .tup [.vs (sav (if (a ++ b).length <= 16 then [a ++ b] else
  if 8 <= a.length /\ 8 <= b.length then [a, b] else [(a ++ b).take (((a ++ b).length + 1) / 2), (a ++ b).drop (((a ++ b).length + 1) / 2)])) .no, .int .i64 0] /\ σ' = σ) := by
 refine ACalls.quietX ?_ (by simp only [AV.pur, purL, Tok.pur, pur_sav, Bool.and_self])
 have hl : (a ++ b).length = a.length + b.length := List.length_append
 have e1 : a.length + b.length <= 2 ^ 62 := by omega
 have hd : Int.tdiv ((((a ++ b).length : Nat) : Int) + 1) 2 = ((((a ++ b).length + 1) / 2 : Nat) : Int) := by rw [Int.tdiv_eq_ediv_of_nonneg (by omega)]; omega
 refine FOk.calls ok274 (by simp [a274]) (wpc_sound hmix ?_)
 show wpc _ _ _ c274 _ _ _
 simp (disch := first | exact dA | fail) only [↓V0, VV, reduceCtorEq, seval, a274]
 refine callQ (leaf_ok a) ?_
 simp (disch := first | exact dA | fail) only [↓V0, VV, reduceCtorEq, seval, a274]
 refine callQ (leaf_ok b) ?_
 by_cases h1 : (a ++ b).length <= 16
 ·simp (disch := first | exact dA | fail) only [↓V0, VV, reduceCtorEq, seval, a274, e1, if_pos h1]
  exact ⟨by simp only [WE, er_sav]; rfl, by exact eA⟩
 ·by_cases h2 : 8 <= a.length
  ·by_cases h3 : 8 <= b.length
   ·simp (disch := first | exact dA | fail) only [↓V0, VV, reduceCtorEq, seval, a274, e1, if_neg h1, if_pos (And.intro h2 h3)]
    exact ⟨by simp only [WE, er_sav]; rfl, by exact eA⟩
   ·simp (disch := first | exact dA | fail) only [↓V0, VV, reduceCtorEq, seval, a274, e1, if_neg h1, if_neg (fun h => h3 (And.right h)), bin_quo, hd]
    exact ⟨by simp only [WE, er_sav]; rfl, by exact eA⟩
  ·simp (disch := first | exact dA | fail) only [↓V0, VV, reduceCtorEq, seval, a274, e1, if_neg h1, if_neg (fun h => h2 (And.left h)), bin_quo, hd]
   exact ⟨by simp only [WE, er_sav]; rfl, by exact eA⟩
end Go.Proofs.YtekhblefchceaaaGreat.AM

/- The arena: its data, and its blocks. -/
set_option maxRecDepth 20000
namespace Go.Proofs.YtekhblefchceaaaGreat.AM
open Go Go.Proofs
variable {σ : St}
structure Pa where
 a : Nat
 l : Nat
 b1 : Nat
 b2 : Nat
 b3 : Nat
 m : Nat
def Pa.ok (p : Pa) : Prop := p.a ≠ p.l /\ p.a ≠ p.b1 /\ p.a ≠ p.b2 /\ p.a ≠ p.b3 /\ p.a ≠ p.m /\ p.l ≠ p.b1 /\ p.l ≠ p.b2 /\ p.l ≠ p.b3 /\ p.l ≠ p.m /\ p.b1 ≠ p.b2 /\ p.b1 ≠ p.b3 /\ p.b1 ≠ p.m /\ p.b2 ≠ p.b3 /\ p.b2 ≠ p.m /\ p.b3 ≠ p.m
theorem Pa.nes {p : Pa} (h : p.ok) : (p.a = p.l) = False /\ (p.l = p.a) = False /\ (p.a = p.b1) = False /\ (p.b1 = p.a) = False /\ (p.a = p.b2) = False /\ (p.b2 = p.a) = False /\ (p.a = p.b3) = False /\ (p.b3 = p.a) = False /\ (p.a = p.m) = False /\ (p.m = p.a) = False /\ (p.l = p.b1) = False /\ (p.b1 = p.l) = False /\ (p.l = p.b2) = False /\ (p.b2 = p.l) = False /\ (p.l = p.b3) = False /\ (p.b3 = p.l) = False /\ (p.l = p.m) = False /\ (p.m = p.l) = False /\ (p.b1 = p.b2) = False /\ (p.b2 = p.b1) = False /\ (p.b1 = p.b3) = False /\ (p.b3 = p.b1) = False /\ (p.b1 = p.m) = False /\ (p.m = p.b1) = False /\ (p.b2 = p.b3) = False /\ (p.b3 = p.b2) = False /\ (p.b2 = p.m) = False /\ (p.m = p.b2) = False /\ (p.b3 = p.m) = False /\ (p.m = p.b3) = False := by
 obtain ⟨h0, h1, h2, h3, h4, h5, h6, h7, h8, h9, h10, h11, h12, h13, h14⟩ := h
 exact ⟨eq_false h0, eq_false (Ne.symm h0), eq_false h1, eq_false (Ne.symm h1), eq_false h2, eq_false (Ne.symm h2), eq_false h3, eq_false (Ne.symm h3), eq_false h4, eq_false (Ne.symm h4), eq_false h5, eq_false (Ne.symm h5), eq_false h6, eq_false (Ne.symm h6), eq_false h7, eq_false (Ne.symm h7), eq_false h8, eq_false (Ne.symm h8), eq_false h9, eq_false (Ne.symm h9), eq_false h10, eq_false (Ne.symm h10), eq_false h11, eq_false (Ne.symm h11), eq_false h12, eq_false (Ne.symm h12), eq_false h13, eq_false (Ne.symm h13), eq_false h14, eq_false (Ne.symm h14)⟩
def Pa.has (p : Pa) (β : Nat) : Prop := β = p.a \/ β = p.l \/ β = p.b1 \/ β = p.b2 \/ β = p.b3 \/ β = p.m
def Pa.lt (p : Pa) (n : Nat) : Prop := p.a < n /\ p.l < n /\ p.b1 < n /\ p.b2 < n /\ p.b3 < n /\ p.m < n
structure Ar where
 n : Nat
 cells : List Nat
 k : Nat
 sts : List Nat
 gens : List Nat
 most : Nat
 es : List (Nat × Nd × Nat)
 ck : Nat
 al : Int
 fr : Int
 st : Int
def uav (k : IntKind) (l : List Nat) : List AV := l.map fun x => .int k (x : Nat)
def mE (e : Nat × Nd × Nat) : MEnt := ⟨.int .u64 e.1, e.2.1.av, e.2.2⟩
def Ar.get (A : Ar) (h : Nat) : Option Nd := (A.es.find? fun e => e.1 == h).map fun e => e.2.1
structure Ar.ok (A : Ar) : Prop where
 c1 : A.cells.length = A.n
 c2 : A.sts.length = A.n
 c3 : A.gens.length = A.n
 kn : A.k <= A.n
 n1 : A.n <= 16384
 cl : ∀ x, x ∈ A.cells -> x < A.n
 g1 : ∀ g, g ∈ A.gens -> 1 <= g /\ g < 4294967296
structure ArAt (p : Pa) (σ : St) (A : Ar) : Prop where
 ba : lk σ.H p.a = some (.arr [.int .i64 A.n, .ptr p.l 0, .map p.m, .int .i64 A.al, .int .i64 A.fr, .int .i64 A.st])
 bl : lk σ.H p.l = some (.arr [.hs p.b1 0 A.k A.n, .hs p.b2 0 A.n A.n, .hs p.b3 0 A.n A.n, .int .u64 A.most])
 b1 : lk σ.H p.b1 = some (.arr (iav A.cells))
 b2 : lk σ.H p.b2 = some (.arr (uav .u8 A.sts))
 b3 : lk σ.H p.b3 = some (.arr (uav .u64 A.gens))
 bm : lk σ.H p.m = some (.map (A.es.map mE) A.ck)
 ne : p.ok
 lt : p.lt σ.n
def Fr (p : Pa) (σ σ' : St) : Prop := σ'.n = σ.n /\ ∀ β, β < σ.n -> ¬p.has β -> lk σ'.H β = lk σ.H β
def FrX (p : Pa) (σ σ' : St) : Prop := σ.n <= σ'.n /\ ∀ β, β < σ.n -> ¬p.has β -> lk σ'.H β = lk σ.H β
theorem Fr.refl (p : Pa) (σ : St) : Fr p σ σ := ⟨rfl, fun _ _ _ => rfl⟩
theorem FrX.trans {p : Pa} {σ σ' σ'' : St} (h : FrX p σ σ') (h' : FrX p σ' σ'') : FrX p σ σ'' := ⟨Nat.le_trans h.1 h'.1, fun β hβ hp => (h'.2 β (Nat.lt_of_lt_of_le hβ h.1) hp).trans (h.2 β hβ hp)⟩
theorem Fr.x {p : Pa} {σ σ' : St} (h : Fr p σ σ') : FrX p σ σ' := ⟨Nat.le_of_eq h.1.symm, h.2⟩
theorem FrX.ext {p : Pa} {σ σ' : St} (h : Ext σ σ') : FrX p σ σ' := ⟨h.1, fun β hβ _ => h.2 β hβ⟩
theorem FrX.refl (p : Pa) (σ : St) : FrX p σ σ := ⟨Nat.le_refl _, fun _ _ _ => rfl⟩
theorem FrX.new {p : Pa} {σ σ' : St} (h : FrX p σ σ') (b : Blk) : FrX p σ (σ'.new b) := h.trans (.ext (Ext.new _ _))
theorem FrX.set {p : Pa} {σ σ' : St} (h : FrX p σ σ') {β : Nat} (hβ : σ.n <= β \/ p.has β) (b : Blk) : FrX p σ (σ'.set β b) :=
 ⟨h.1, fun γ hγ hp => by rw [lk_set, if_neg (fun e => by subst e; rcases hβ with h1 | h1; omega; exact hp h1)]; exact h.2 γ hγ hp⟩
theorem ArAt.ext {p : Pa} {A : Ar} {σ' : St} (h : ArAt p σ A) (hE : Ext σ σ') : ArAt p σ' A := by
 obtain ⟨h1, h2, h3, h4, h5, h6, h7, t1, t2, t3, t4, t5, t6⟩ := h
 have hn := hE.1
 exact ⟨by rw [hE.2 _ t1]; exact h1, by rw [hE.2 _ t2]; exact h2, by rw [hE.2 _ t3]; exact h3, by rw [hE.2 _ t4]; exact h4, by rw [hE.2 _ t5]; exact h5, by rw [hE.2 _ t6]; exact h6, h7,
  by omega, by omega, by omega, by omega, by omega, by omega⟩
theorem pur_uav (k : IntKind) (l : List Nat) : purL (uav k l) = true := purL_all fun x hx => by
 obtain ⟨y, _, rfl⟩ := List.mem_map.1 hx
 rfl
theorem ArAt.bw {p : Pa} {A : Ar} {n : Nat} (h : ArAt p σ A) (hn : p.lt n) {β : Nat} {b : Blk} (hβ : p.has β) (hb : lk σ.H β = some b) : bwB n b := by
 obtain ⟨t1, t2, t3, t4, t5, t6⟩ := hn
 rcases hβ with rfl | rfl | rfl | rfl | rfl | rfl
 ·rw [h.ba, Option.some.injEq] at hb; subst hb; simp [bwB, bwL, bwV]; omega
 ·rw [h.bl, Option.some.injEq] at hb; subst hb; simp [bwB, bwL, bwV]; omega
 ·rw [h.b1, Option.some.injEq] at hb; subst hb; exact bwL_pur _ (pur_iav _)
 ·rw [h.b2, Option.some.injEq] at hb; subst hb; exact bwL_pur _ (pur_uav _ _)
 ·rw [h.b3, Option.some.injEq] at hb; subst hb; exact bwL_pur _ (pur_uav _ _)
 ·rw [h.bm, Option.some.injEq] at hb; subst hb
  intro e he
  obtain ⟨x, _, rfl⟩ := List.mem_map.1 he
  exact ⟨rfl, bw_pur _ (by have := pur_nd x.2.1; simp only [purL, Bool.and_true] at this; exact this)⟩
theorem lk_filter (n : Nat) : ∀ (H : List (Nat × Blk)) (β : Nat), lk (H.filter fun e => Nat.blt e.1 n) β = if β < n then lk H β else none
 | [], β => by simp [lk]
 | (a, b) :: r, β => by
  have ih := lk_filter n r β
  by_cases ha : a < n
  ·rw [List.filter_cons_of_pos (by simpa [Nat.blt_eq] using ha)]
   simp only [lk, ih]
   by_cases e : a = β
   ·subst e; simp [ha]
   ·simp [e]
  ·rw [List.filter_cons_of_neg (by simpa [Nat.blt_eq] using ha), ih]
   simp only [lk]
   by_cases hβ : β < n
   ·rw [if_pos hβ, if_pos hβ, if_neg (by omega)]
   ·rw [if_neg hβ, if_neg hβ]
theorem ACalls.arenaQ {P : Program} {f : Nat} {args : List AV} {p : Pa} {K : AV -> Ar -> Prop} (h : ACalls P f args σ (fun v σ' => ∃ A, K v.er A /\ ArAt p σ' A /\ FrX p σ σ')) (hp : p.lt σ.n) (hK : ∀ v A, K v A -> v.pur = true) :
  ACalls P f args σ (fun v σ' => ∃ A, K v A /\ ArAt p σ' A /\ Fr p σ σ') := by
 refine ACalls.tightW (ACalls.weak h (K' := fun v σ' => ∃ A, K v A /\ ArAt p σ' A /\ FrX p σ σ') fun v σ' ⟨A, h1, h2⟩ => ⟨v.er, σ', VW.er _ _, A, h1, h2⟩) fun v σ' ⟨A, h1, h2, h3⟩ => ?_
 have hl : ∀ β, β < σ.n -> lk (σ'.H.filter fun e => Nat.blt e.1 σ.n) β = lk σ'.H β := fun β hβ => by rw [lk_filter, if_pos hβ]
 refine ⟨σ'.H.filter fun e => Nat.blt e.1 σ.n, fun β b hb => ?_, bw_pur _ (hK _ _ h1), A, h1, ?_, rfl, fun β hβ hn => ?_⟩
 ·rw [lk_filter] at hb
  split at hb
  ·rename_i hlt
   by_cases hpb : p.has β
   ·exact .inr ⟨hlt, hb, h2.bw hp hpb hb⟩
   ·exact .inl ⟨by rw [<- h3.2 β hlt hpb]; exact hb, fun _ => hb⟩
  ·cases hb
 ·obtain ⟨a1, a2, a3, a4, a5, a6, a7, _⟩ := h2
  have hp' := hp
  obtain ⟨t1, t2, t3, t4, t5, t6⟩ := hp
  exact ⟨by rw [hl _ t1]; exact a1, by rw [hl _ t2]; exact a2, by rw [hl _ t3]; exact a3, by rw [hl _ t4]; exact a4, by rw [hl _ t5]; exact a5, by rw [hl _ t6]; exact a6, a7, hp'⟩
 ·rw [hl β hβ]; exact h3.2 β hβ hn
end Go.Proofs.YtekhblefchceaaaGreat.AM

/- Contracts: the list of free slots, and the arena. -/
set_option maxRecDepth 20000
namespace Go.Proofs.YtekhblefchceaaaGreat.AM
open Go Go.Proofs
variable {σ : St}
def Ar.slot (A : Ar) : Nat := A.cells.getD (A.k - 1) 0
def Ar.hd (A : Ar) : Nat := A.gens.getD A.slot 0 * 65536 + A.slot
def Ar.took (A : Ar) : Ar := { A with k := A.k - 1, sts := A.sts.set A.slot 1 }
theorem get_iav {l : List Nat} {i : Nat} (h : i < l.length) : (iav l)[i]? = some (.int .i64 (l.getD i 0 : Nat)) := by simp [iav, h, List.getD_eq_getElem?_getD]
theorem get_uav {k : IntKind} {l : List Nat} {i : Nat} (h : i < l.length) : (uav k l)[i]? = some (.int k (l.getD i 0 : Nat)) := by simp [uav, h, List.getD_eq_getElem?_getD]
theorem len_iav (l : List Nat) : (iav l).length = l.length := by simp [iav]
theorem len_uav (k : IntKind) (l : List Nat) : (uav k l).length = l.length := by simp [uav]
theorem put_uav {k : IntKind} {l : List Nat} {i v : Nat} (h : i < l.length) : (uav k l).take i ++ [.int k (v : Nat)] ++ (uav k l).drop (i + 1) = uav k (l.set i v) := by
 unfold uav
 rw [List.map_set, List.set_eq_take_append_cons_drop, if_pos (by simpa using h)]
 simp
theorem put_iav {l : List Nat} {i v : Nat} (h : i < l.length) : (iav l).take i ++ [.int .i64 (v : Nat)] ++ (iav l).drop (i + 1) = iav (l.set i v) := put_uav h
theorem Ar.ok.slot_lt {A : Ar} (ok : A.ok) (hk : 0 < A.k) : A.slot < A.n := by
 have hlt : A.k - 1 < A.cells.length := by rw [ok.c1]; have := ok.kn; omega
 refine ok.cl _ ?_
 unfold Ar.slot
 rw [List.getD_eq_getElem?_getD, List.getElem?_eq_getElem hlt]
 exact List.getElem_mem hlt
theorem Ar.ok.gen {A : Ar} (ok : A.ok) {i : Nat} (hi : i < A.n) : 1 <= A.gens.getD i 0 /\ A.gens.getD i 0 < 4294967296 := by
 have hlt : i < A.gens.length := by rw [ok.c3]; exact hi
 refine ok.g1 _ ?_
 rw [List.getD_eq_getElem?_getD, List.getElem?_eq_getElem hlt]
 exact List.getElem_mem hlt
theorem take_ok {p : Pa} {A : Ar} (h : ArAt p σ A) (ok : A.ok) (hk : 0 < A.k) : ACalls Tryz.prog 190 [.ptr p.l 0] σ (fun v σ' => v = .tup [.int .u64 A.hd, .int .i64 0] /\ ArAt p σ' A.took /\ Fr p σ σ') := by
 obtain ⟨a1, a2, a3, a4, a5, a6, a7, t1, t2, t3, t4, t5, t6⟩ := h
 have hn := Pa.nes a7
 have hs := ok.slot_lt hk
 have hkn := ok.kn
 have hn1 := ok.n1
 have hg := ok.gen hs
 have c1 := ok.c1
 have c2 := ok.c2
 have c3 := ok.c3
 have e1 : (iav A.cells)[A.k - 1]? = some (.int .i64 (A.slot : Nat)) := get_iav (by omega)
 have e2 : (uav .u64 A.gens)[A.slot]? = some (.int .u64 (A.gens.getD A.slot 0 : Nat)) := get_uav (by omega)
 have e3 : (uav .u8 A.sts).length = A.n := by rw [len_uav, c2]
 have e4 := put_uav (k := .u8) (l := A.sts) (i := A.slot) (v := 1) (by omega)
 have hkc : ((A.k : Nat) : Int) - 1 = ((A.k - 1 : Nat) : Int) := by omega
 generalize hsl : A.slot = s at *
 refine FOk.calls ok190 (by simp [a190]) (wpc_sound hmix ?_)
 show wpc _ _ _ c190 _ _ _
 simp (disch := first | exact dA | fail) only [↓V0, VV, reduceCtorEq, seval, a190, a1, a2, a3, a4, a5, hn, e1, e2, e3, hkc]
 refine (make_ok s (A.gens.getD s 0) (by omega) hg.1 hg.2).mono ?_
 rintro v σ' ⟨rfl, rfl⟩
 simp (disch := first | exact dA | fail) only [↓V0, VV, reduceCtorEq, seval, a190, a1]
 refine ⟨by subst hsl; rfl, ⟨by simp only [↓W0, W, reduceCtorEq, seval, hn, a1] <;> rfl, by simp only [↓W0, W, reduceCtorEq, seval, hn, a2] <;> rfl, by simp only [↓W0, W, reduceCtorEq, seval, hn, a3] <;> rfl, ?_, by simp only [↓W0, W, reduceCtorEq, seval, hn, a5] <;> rfl, by simp only [↓W0, W, reduceCtorEq, seval, hn, a6] <;> rfl, a7, t1, t2, t3, t4, t5, t6⟩, rfl, fun β hβ hp => ?_⟩
 ·simp only [↓W0, W, reduceCtorEq, seval, hn, a4]
  subst hsl
  exact congrArg Blk.arr e4
 ·rw [lk_set, if_neg (fun e => hp (by subst e; simp [Pa.has])), lk_set, if_neg (fun e => hp (by subst e; simp [Pa.has]))]
theorem put1 {c : List AV} {i : Nat} {v : AV} (h : i < c.length) : c.take i ++ [v] ++ c.drop (i + 1) = c.set i v := by
 rw [List.set_eq_take_append_cons_drop, if_pos h]; simp
theorem elems_agg (k : Nat) : ∀ (c : List AV), k <= c.length -> elemsOf true 1 k c = (c.take k).map fun x => .agg [x] := by
 induction k with
 | zero => intro c _; simp [elemsOf]
 | succ k ih =>
  intro c h
  cases c with
  | nil => simp at h
  | cons x c => simp only [List.length_cons] at h; simp [elemsOf, ih c (by omega)]
theorem readAll_hs {β k n : Nat} {c : List AV} (h : lk σ.H β = some (.arr c)) (hk : k <= c.length) (hs : allSc c = true) : readAll σ true 1 (.hs β 0 k n) = some ((c.take k).map fun x => .agg [x]) := by
 simp only [readAll, h]
 rw [if_pos ⟨by omega, .inl trivial, hs⟩, List.drop_zero, elems_agg k c hk]
theorem flat_agg (c : List AV) : (c.map fun x => AV.agg [x]).flatMap AV.cells = c := by
 induction c with
 | nil => rfl
 | cons x c ih => simp only [List.map_cons, List.flatMap_cons, ih]; rfl
theorem take_iav (l : List Nat) (k : Nat) : (iav l).take k = iav (l.take k) := by simp [iav, List.map_take]
def revTo (L : List Nat) (i : Nat) : List Nat := (List.range L.length).map fun j => if j < i \/ L.length - i <= j then L.getD (L.length - 1 - j) 0 else L.getD j 0
theorem rev_zero (L : List Nat) : revTo L 0 = L := by
 unfold revTo
 apply List.ext_getElem (by simp)
 intro i h1 h2
 have h3 : ¬ L.length <= i := by omega
 simp [h3, h2]
theorem rev_all (L : List Nat) : revTo L (L.length / 2) = L.reverse := by
 unfold revTo
 apply List.ext_getElem (by simp)
 intro i h1 h2
 simp only [List.length_reverse] at h2
 simp only [List.getElem_map, List.getElem_range, List.getElem_reverse]
 split
 ·simp [show L.length - 1 - i < L.length by omega]
 ·have : L.length - 1 - i = i := by omega
  simp [this, h2]
theorem rev_step (L : List Nat) (i : Nat) (hi : i < L.length / 2) : ((revTo L i).set i ((revTo L i).getD (L.length - 1 - i) 0)).set (L.length - 1 - i) ((revTo L i).getD i 0) = revTo L (i + 1) := by
 have g : ∀ j, j < L.length -> (revTo L i).getD j 0 = if j < i \/ L.length - i <= j then L.getD (L.length - 1 - j) 0 else L.getD j 0 := fun j hj => by
  simp [revTo, hj]
 rw [g _ (by omega), g _ (by omega), if_neg (by omega), if_neg (by omega)]
 apply List.ext_getElem (by simp [revTo])
 intro j h1 h2
 simp only [revTo, List.length_map, List.length_range] at h2
 simp only [List.getElem_set]
 by_cases e1 : L.length - 1 - i = j
 ·rw [if_pos e1]; subst e1
  simp only [revTo, List.getElem_map, List.getElem_range]
  rw [if_pos (by omega)]; congr 1; omega
 ·rw [if_neg e1]
  by_cases e2 : i = j
  ·rw [if_pos e2]; subst e2
   simp only [revTo, List.getElem_map, List.getElem_range]
   rw [if_pos (by omega)]
  ·rw [if_neg e2]
   simp only [revTo, List.getElem_map, List.getElem_range]
   by_cases e3 : j < i \/ L.length - i <= j
   ·rw [if_pos e3, if_pos (by omega)]
   ·rw [if_neg e3, if_neg (by omega)]
def Ar.free (A : Ar) : List Nat := (A.cells.take A.k).reverse
theorem lfree_ok {p : Pa} {A : Ar} (h : ArAt p σ A) (ok : A.ok) : ACalls Tryz.prog 155 [.ptr p.l 0] σ (fun v σ' => v = .vs (iav A.free) .no /\ σ' = σ) := by
 obtain ⟨a1, a2, a3, a4, a5, a6, a7, t1, t2, t3, t4, t5, t6⟩ := h
 have hkn := ok.kn
 have hn1 := ok.n1
 have c1 := ok.c1
 generalize hL : A.cells.take A.k = L
 have hll : L.length = A.k := by rw [<- hL, List.length_take]; omega
 have hlf : (iav A.free).length = A.k := by rw [len_iav, Ar.free, List.length_reverse, hL, hll]
 have hr : readAll (σ.new (.arr (List.replicate A.k (.int .i64 0)))) true 1 (.hs p.b1 0 A.k A.n) = some ((iav L).map fun x => .agg [x]) := by
  rw [readAll_hs (c := iav A.cells) (by simp only [↓W0, W, reduceCtorEq, seval, a3, show (σ.n = p.b1) = False from eq_false (by omega)]) (by rw [len_iav]; omega) (allSc_iav _), take_iav, hL]
 refine ACalls.frzQ ?_ (allSc_iav _) (pur_iav _)
 rw [hlf]
 refine FOk.calls ok155 (by simp [a155]) (wpc_sound hmix ?_)
 show wpc _ _ _ c155 _ _ _
 simp (disch := first | exact dA | fail) only [↓V0, VV, reduceCtorEq, seval, a155, a1, a2, a3, flat_ints, hr, List.length_map, len_iav, hll, List.length_replicate, flat_agg]
 have hd : List.drop A.k (List.replicate A.k (AV.int .i64 0)) = [] := by simp
 simp only [hd, List.append_nil]
 refine AW.upto hmix (fun i ρ σ' => ρ 3 = .hs σ.n 0 A.k A.k /\ ρ 4 = .int .i64 (i : Nat) /\ ρ 5 = .int .i64 ((A.k : Int) - 1 - i) /\ lk σ'.H σ.n = some (.arr (iav (revTo L i))) /\ Ext σ σ') (A.k / 2)
  ⟨by simp only [↓W0, W, reduceCtorEq, seval], by simp only [↓W0, W, reduceCtorEq, seval] <;> rfl, by simp only [↓W0, W, reduceCtorEq, seval] <;> simp, by simp only [↓W0, W, reduceCtorEq, seval]; rw [rev_zero], by exact eA⟩ (fun i ρ σ' hi h => ?_) (fun ρ σ' h => ?_)
 ·obtain ⟨r3, r4, r5, hl, hE⟩ := h
  have hrl : (iav (revTo L i)).length = A.k := by rw [len_iav]; simp [revTo, hll]
  have e0 : (A.k : Int) - 1 - i = ((A.k - 1 - i : Nat) : Int) := by omega
  rw [e0] at r5
  have e1 : (iav (revTo L i))[i]? = some (.int .i64 ((revTo L i).getD i 0 : Nat)) := get_iav (by rw [<- len_iav, hrl]; omega)
  have e2 : (iav (revTo L i))[A.k - 1 - i]? = some (.int .i64 ((revTo L i).getD (A.k - 1 - i) 0 : Nat)) := get_iav (by rw [<- len_iav, hrl]; omega)
  have hrl2 : (revTo L i).length = A.k := by simp [revTo, hll]
  have e3 := put_iav (l := revTo L i) (i := i) (v := (revTo L i).getD (A.k - 1 - i) 0) (by omega)
  have e4 := put_iav (l := (revTo L i).set i ((revTo L i).getD (A.k - 1 - i) 0)) (i := A.k - 1 - i) (v := (revTo L i).getD i 0) (by rw [List.length_set]; omega)
  have e5 := rev_step L i (by omega)
  rw [hll] at e5
  simp (disch := first | exact dA | fail) only [↓V0, VV, reduceCtorEq, seval, a155, r3, r4, r5, hl, e1, e2, hrl, e3, e4, e5, len_iav, List.length_set, hrl2]
  exact ⟨rfl, by congr 1; omega, by exact eA⟩
 ·obtain ⟨r3, r4, r5, hl, hE⟩ := h
  simp (disch := first | exact dA | fail) only [↓V0, VV, reduceCtorEq, seval, a155, r3, r4, r5]
  refine ⟨σ.n, rfl, ?_, Nat.le_refl _, hE⟩
  rw [hl, Ar.free, hL, <- rev_all, hll]
def slotsOf (l : List Nat) (s : Nat) : List Nat := (List.range l.length).filter fun i => l.getD i 0 == s
def slotsTo (l : List Nat) (s i : Nat) : List Nat := (List.range i).filter fun i => l.getD i 0 == s
theorem fit_iav (l : List Nat) : fitSz 1 (iav l) = true := fit_all fun x hx => by
 obtain ⟨k, _, rfl⟩ := List.mem_map.1 hx
 exact ⟨rfl, rfl⟩
theorem slotsTo_len (l : List Nat) (s i : Nat) : (slotsTo l s i).length <= i := by
 have := List.length_filter_le (fun i => l.getD i 0 == s) (List.range i)
 simpa [slotsTo] using this
theorem slots_ok {p : Pa} {A : Ar} (s : Nat) (h : ArAt p σ A) (ok : A.ok) : ACalls Tryz.prog 213 [.ptr p.l 0, .int .u8 s] σ (fun v σ' => v = .vs (iav (slotsOf A.sts s)) .no /\ σ' = σ) := by
 obtain ⟨a1, a2, a3, a4, a5, a6, a7, t1, t2, t3, t4, t5, t6⟩ := h
 have hn1 := ok.n1
 have c2 := ok.c2
 refine ACalls.quietX ?_ (by simp only [AV.pur, Tok.pur, pur_iav, Bool.and_self])
 refine FOk.calls ok213 (by simp [a213]) (wpc_sound hmix ?_)
 show wpc _ _ _ c213 _ _ _
 simp (disch := first | exact dA | fail) only [↓V0, VV, reduceCtorEq, seval, a213, a2]
 refine AW.upto hmix (fun i ρ σ' => ρ 1 = .int .u8 s /\ (∃ t, ρ 5 = .vs (iav (slotsTo A.sts s i)) t /\ Own σ σ' t) /\ ρ 14 = .hs p.b2 0 A.n A.n /\ ρ 15 = .int .i64 A.n /\ ρ 16 = .int .i64 (i : Nat)) A.n
  ⟨by simp only [↓W0, W, reduceCtorEq, seval], ⟨.ex, by simp only [↓W0, W, reduceCtorEq, seval] <;> rfl, .ex (Ext.refl _)⟩, by simp only [↓W0, W, reduceCtorEq, seval], by simp only [↓W0, W, reduceCtorEq, seval], by simp only [↓W0, W, reduceCtorEq, seval] <;> rfl⟩ (fun i ρ σ' hi h => ?_) (fun ρ σ' h => ?_)
 ·obtain ⟨r1, ⟨t, r5, ho⟩, r14, r15, r16⟩ := h
  have l4 : lk σ'.H p.b2 = some (.arr (uav .u8 A.sts)) := by rw [ho.ext.2 _ t4]; exact a4
  have e1 : (uav .u8 A.sts)[i]? = some (.int .u8 (A.sts.getD i 0 : Nat)) := get_uav (by omega)
  have hs : slotsTo A.sts s (i + 1) = slotsTo A.sts s i ++ (if A.sts.getD i 0 = s then [i] else []) := by
   simp only [slotsTo, List.range_succ, List.filter_append]
   congr 1
   by_cases e : A.sts.getD i 0 = s
   ·rw [if_pos e, List.filter_cons_of_pos (by simpa using e)]; rfl
   ·rw [if_neg e, List.filter_cons_of_neg (by simpa using e)]; rfl
  have hf := fit_iav (slotsTo A.sts s i)
  have hfl := slotsTo_len A.sts s i
  have hl5 := len_iav (slotsTo A.sts s i)
  have htk := ho.g
  by_cases e : A.sts.getD i 0 = s
  ·rw [if_pos e] at hs
   simp (disch := first | exact dA | fail) only [↓V0, VV, reduceCtorEq, seval, a213, r1, r5, r14, r15, r16, l4, e1, ↓eval_app, appA_S]
   exact ⟨⟨_, by rw [hs]; simp [iav], ho.app⟩, rfl⟩
  ·rw [if_neg e, List.append_nil] at hs
   simp (disch := first | exact dA | fail) only [↓V0, VV, reduceCtorEq, seval, a213, r1, r5, r14, r15, r16, l4, e1, ↓eval_app, appA_S]
   exact ⟨⟨_, by rw [hs], ho⟩, rfl⟩
 ·obtain ⟨r1, ⟨t, r5, ho⟩, r14, r15, r16⟩ := h
  simp (disch := first | exact dA | fail) only [↓V0, VV, reduceCtorEq, seval, a213, r5, r15, r16]
  exact ⟨by rw [er_vs, er_iav, slotsOf, c2]; rfl, ho.ext⟩
theorem withdrawn_ok {p : Pa} {A : Ar} (h : ArAt p σ A) (ok : A.ok) : ACalls Tryz.prog 156 [.ptr p.l 0] σ (fun v σ' => v = .vs (iav (slotsOf A.sts 2)) .no /\ σ' = σ) := by
 refine FOk.calls ok156 (by simp [a156]) (wpc_sound hmix ?_)
 show wpc _ _ _ c156 _ _ _
 simp (disch := first | exact dA | fail) only [↓V0, VV, reduceCtorEq, seval, a156]
 refine callQ (slots_ok 2 h ok) ?_
 simp (disch := first | exact dA | fail) only [↓V0, VV, reduceCtorEq, seval, a156]
theorem ArAt.mk2 {p : Pa} {A B : Ar} {σ' : St} (h : ArAt p σ A) (hn : σ.n <= σ'.n) (h1 : lk σ'.H p.a = some (.arr [.int .i64 B.n, .ptr p.l 0, .map p.m, .int .i64 B.al, .int .i64 B.fr, .int .i64 B.st]))
  (h2 : lk σ'.H p.l = some (.arr [.hs p.b1 0 B.k B.n, .hs p.b2 0 B.n B.n, .hs p.b3 0 B.n B.n, .int .u64 B.most])) (h3 : lk σ'.H p.b1 = some (.arr (iav B.cells))) (h4 : lk σ'.H p.b2 = some (.arr (uav .u8 B.sts)))
  (h5 : lk σ'.H p.b3 = some (.arr (uav .u64 B.gens))) (h6 : lk σ'.H p.m = some (.map (B.es.map mE) B.ck)) : ArAt p σ' B := by
 obtain ⟨t1, t2, t3, t4, t5, t6⟩ := h.lt
 exact ⟨h1, h2, h3, h4, h5, h6, h.ne, by omega, by omega, by omega, by omega, by omega, by omega⟩
def Ar.blks (p : Pa) (A : Ar) : List (Nat × Blk) := [(p.a, .arr [.int .i64 A.n, .ptr p.l 0, .map p.m, .int .i64 A.al, .int .i64 A.fr, .int .i64 A.st]),
 (p.l, .arr [.hs p.b1 0 A.k A.n, .hs p.b2 0 A.n A.n, .hs p.b3 0 A.n A.n, .int .u64 A.most]), (p.b1, .arr (iav A.cells)), (p.b2, .arr (uav .u8 A.sts)), (p.b3, .arr (uav .u64 A.gens)), (p.m, .map (A.es.map mE) A.ck)]
theorem ArAt.sb {p : Pa} {A : Ar} (h : ArAt p σ A) : SB (A.blks p) σ := SB.cons h.ba (SB.cons h.bl (SB.cons h.b1 (SB.cons h.b2 (SB.cons h.b3 (SB.cons h.bm (SB.nil _))))))
theorem ArAt.of_sb {p : Pa} {A : Ar} (hp : p.ok) (h : SB (A.blks p) σ) (hw : ∀ β k, lk σ.H β = some k -> β < σ.n) : ArAt p σ A := by
 have hn := Pa.nes hp
 have h1 := h.mem (β := p.a) (by simp only [Ar.blks, lk, if_true]; rfl)
 have h2 := h.mem (β := p.l) (by simp only [Ar.blks, lk, hn, if_true, if_false]; rfl)
 have h3 := h.mem (β := p.b1) (by simp only [Ar.blks, lk, hn, if_true, if_false]; rfl)
 have h4 := h.mem (β := p.b2) (by simp only [Ar.blks, lk, hn, if_true, if_false]; rfl)
 have h5 := h.mem (β := p.b3) (by simp only [Ar.blks, lk, hn, if_true, if_false]; rfl)
 have h6 := h.mem (β := p.m) (by simp only [Ar.blks, lk, hn, if_true, if_false]; rfl)
 exact ⟨h1, h2, h3, h4, h5, h6, hp, hw _ _ h1, hw _ _ h2, hw _ _ h3, hw _ _ h4, hw _ _ h5, hw _ _ h6⟩
def Ar.stats (A : Ar) : List AV := [.int .i64 A.n, .int .i64 A.k, .int .i64 (A.es.length : Nat), .int .i64 ((slotsOf A.sts 2).length : Nat), .int .i64 A.al, .int .i64 A.fr, .int .i64 A.st]
theorem stats_ok {p : Pa} {A : Ar} (h : ArAt p σ A) (ok : A.ok) : ACalls Tryz.prog 83 [.ptr p.a 0] σ (fun v σ' => v = .agg A.stats /\ σ' = σ) := by
 have hp := h.ne
 have hn := Pa.nes hp
 refine ACalls.quietX ?_ rfl
 refine FOk.calls ok83 (by simp [a83]) (wpc_sound hmix ?_)
 show wpc _ _ _ c83 _ _ _
 simp (disch := first | exact dA | fail) only [↓V0, VV, reduceCtorEq, seval, a83]
 refine AW.qx none (.p 0 (.p 1 (.p 2 (.p 3 (.p 4 (.p 5 (.p 6 (.p 7 (.r 8 (.p 9 (.p 10 (.p 11 (.p 12 (.p 13 (.p 14 (.p 15 (.p 16 (.p 17 (.p 18 (.r 19 (.p 20 (.p 21 (.p 22 (.p 23 (.p 24 (.p 25 (.p 26 (.p 27 (.p 28 (.p 29 (.p 30 (.p 31 (.p 32 (.p 33 (.a 34 .nil))))))))))))))))))))))))))))))))))) (A.blks p) hmix (by decide) (by decide) (h.ext (Ext.new _ _)).sb ?_
 simp (disch := first | exact dA | fail) only [↓V0, VV, reduceCtorEq, seval, a83, Ar.blks, hn]
 refine aqr (.vs (iav A.free) .no) (fun σ' hs => ?_) ?_
 ·simp (disch := first | exact dA | fail) only [↓V0, VV, reduceCtorEq, seval, a83]
  exact callQ (.wfQ ok155.co fun hw => lfree_ok (.of_sb hp hs hw) ok) ⟨rfl, rfl⟩
 have hf : (iav A.free).length = A.k := by rw [len_iav, Ar.free, List.length_reverse, List.length_take, ok.c1]; have := ok.kn; omega
 simp (disch := first | exact dA | fail) only [↓V0, VV, reduceCtorEq, seval, a83, hn, hf]
 refine aqr (.vs (iav (slotsOf A.sts 2)) .no) (fun σ' hs => ?_) ?_
 ·simp (disch := first | exact dA | fail) only [↓V0, VV, reduceCtorEq, seval, a83]
  exact callQ (.wfQ ok156.co fun hw => withdrawn_ok (.of_sb hp hs hw) ok) ⟨rfl, rfl⟩
 simp (disch := first | exact dA | fail) only [↓V0, VV, reduceCtorEq, seval, a83, hn, len_iav, List.length_map]
 exact ⟨(h.ext (by exact eA)).sb, rfl, by exact eA⟩
theorem er_kds (l : List Kd) : (l.map Kd.av).map AV.er = l.map Kd.av := by
 have := er_ks l .no
 rw [er_vs] at this
 simpa using this
theorem clone_st (ks : List Kd) (hl : ks.length <= 1000) : ACalls Tryz.prog 191 [.vs (ks.map Kd.av) .no] σ (fun v σ' => v = .vs (ks.map Kd.av) .no /\ σ' = σ) :=
 ACalls.quietX ((clone_ok ks hl).mono fun v σ' ⟨e, hE⟩ => ⟨by rw [e, er_ks], hE⟩) (by simp only [AV.pur, Tok.pur, pur_kds, Bool.and_self])
theorem fk_some (h : Nat) (x : Nd) : ∀ (es : List (Nat × Nd × Nat)) (j : Nat), ((es.find? fun e => e.1 == h).map fun e => e.2.1) = some x -> ∃ i, findKeyA .i (.int .u64 h) (es.map mE) j = some (some (i, x.av))
 | [], _, hf => by simp at hf
 | e :: es, j, hf => by
  simp only [List.map_cons, findKeyA, mE, eqSc, if_true]
  by_cases he : e.1 = h
  ·subst he
   rw [List.find?_cons_of_pos (by simp)] at hf
   simp only [Option.map_some, Option.some.injEq] at hf
   subst hf
   exact ⟨j, by simp⟩
  ·rw [List.find?_cons_of_neg (by simpa using he)] at hf
   obtain ⟨i, hi⟩ := fk_some h x es (j + 1) hf
   refine ⟨i, ?_⟩
   rw [decide_eq_false (by omega)]
   exact hi
theorem fk_none (h : Nat) : ∀ (es : List (Nat × Nd × Nat)) (j : Nat), ((es.find? fun e => e.1 == h).map fun e => e.2.1) = none -> findKeyA .i (.int .u64 h) (es.map mE) j = some none
 | [], _, hf => rfl
 | e :: es, j, hf => by
  simp only [List.map_cons, findKeyA, mE, eqSc, if_true]
  by_cases he : e.1 = h
  ·subst he
   rw [List.find?_cons_of_pos (by simp)] at hf
   simp at hf
  ·rw [List.find?_cons_of_neg (by simpa using he)] at hf
   rw [decide_eq_false (by omega)]
   exact fk_none h es (j + 1) hf
theorem get_ok {p : Pa} {A : Ar} {h : Nat} {x : Nd} (hA : ArAt p σ A) (hg : A.get h = some x) (hk : x.ks.length <= 1000) : ACalls Tryz.prog 173 [.ptr p.a 0, .int .u64 h] σ (fun v σ' => v = .tup [x.av, .int .i64 0] /\ σ' = σ) := by
 obtain ⟨i, hi⟩ := fk_some h x A.es 0 hg
 have hpx : x.av.pur = true := by have := pur_nd x; simp only [purL, Bool.and_true] at this; exact this
 refine ACalls.quietX ?_ (by simp only [AV.pur, purL, hpx, Bool.and_self])
 have ha := hA.ba
 have hm := hA.bm
 have t1 := hA.lt.1
 have t6 := hA.lt.2.2.2.2.2
 refine FOk.calls ok173 (by simp [a173]) (wpc_sound hmix ?_)
 show wpc _ _ _ c173 _ _ _
 simp (disch := first | exact dA | fail) only [↓V0, VV, reduceCtorEq, seval, a173, ha, hm, hi, Nd.av, Nd.cs]
 refine callQ (clone_st x.ks hk) ?_
 simp (disch := first | exact dA | fail) only [↓V0, VV, reduceCtorEq, seval, a173]
 exact ⟨by simp only [WE, Nd.av, Nd.cs, er_kds], by exact eA⟩
noncomputable def Ar.put (A : Ar) (x : Nd) : Ar := { A.took with es := A.es ++ [(A.hd, x, A.ck)], ck := A.ck + 1, al := wr .i64 (A.al + 1) }
theorem alloc_ok {p : Pa} {A : Ar} {x : Nd} (hA : ArAt p σ A) (ok : A.ok) (hk : 0 < A.k) (hx : x.ok) (hb : x.ms.b <= 65536) (hks : ∀ k, k ∈ x.ks -> ∃ y, A.get k.h = some y /\ y.ok /\ y.ms.b <= 65536 /\ y.ht + 1 = x.ht /\ y.ms = k.m)
  (hf : A.get A.hd = none) : ACalls Tryz.prog 130 [.ptr p.a 0, x.av] σ (fun v σ' => v = .tup [.int .u64 A.hd, .int .i64 0] /\ ArAt p σ' (A.put x) /\ Fr p σ σ') := by
 have hl := hA.lt
 refine (ACalls.arenaQ (p := p) (K := fun v B => v = .tup [.int .u64 A.hd, .int .i64 0] /\ B = A.put x) ?_ hl (fun v B e => by rw [e.1]; rfl)).mono fun v σ' ⟨B, e, h1, h2⟩ => ⟨e.1, e.2 ▸ h1, h2⟩
 have hk1 : x.ks.length <= 4 := by
  rcases hx with ⟨_, _, _, h⟩ | ⟨_, _, _, _, h, _⟩
  ·rw [h]; decide
  ·exact h
 have hk2 : x.ht <= 16 := by
  rcases hx with ⟨h, _⟩ | ⟨_, h, _⟩
  ·omega
  ·exact h
 refine FOk.calls ok130 (by simp [a130]) (wpc_sound hmix ?_)
 show wpc _ _ _ c130 _ _ _
 simp (disch := first | exact dA | fail) only [↓V0, VV, reduceCtorEq, seval, a130, Nd.av, Nd.cs]
 refine callQ (ncheck_st x hx hb) ?_
 simp (disch := first | exact dA | fail) only [↓V0, VV, reduceCtorEq, seval, a130, Nd.av, Nd.cs, List.length_map]
 refine AW.upto hmix (fun i ρ σ' => ρ 0 = .ptr p.a 0 /\ ρ 3 = .ptr σ.n 0 /\ ρ 23 = .vs (x.ks.map Kd.av) .no /\ ρ 24 = .int .i64 (x.ks.length : Nat) /\ ρ 25 = .int .i64 (i : Nat) /\ Ext (σ.new (.arr x.cs)) σ') x.ks.length
  ⟨by simp only [↓W0, W, reduceCtorEq, seval], by simp only [↓W0, W, reduceCtorEq, seval], by simp only [↓W0, W, reduceCtorEq, seval], by simp only [↓W0, W, reduceCtorEq, seval], by simp only [↓W0, W, reduceCtorEq, seval] <;> rfl, Ext.refl _⟩ (fun i ρ σ' hi h => ?_) (fun ρ σ' h => ?_)
 ·obtain ⟨r0, r3, r23, r24, r25, hE⟩ := h
  have hA' : ArAt p σ' A := hA.ext ((Ext.new _ _).trans hE)
  have h3 : lk σ'.H σ.n = some (.arr [.int .i64 x.ht, .str x.tx, .vs (x.ks.map Kd.av) .no]) := (hE.2 σ.n (Nat.lt_succ_self _)).trans (by simp [lk_new, Nd.cs])
  have hnn : σ.n < σ'.n := hE.1
  have hgi : (x.ks.map Kd.av)[i]? = some x.ks[i].av := by simp [hi]
  obtain ⟨y, hy, hyo, hyb, hyh, hym⟩ := hks x.ks[i] (List.getElem_mem hi)
  generalize x.ks[i] = k at hgi hy hym
  obtain ⟨j, hj⟩ := fk_some k.h y A.es 0 hy
  have ha := hA'.ba
  have hm := hA'.bm
  have hn := Pa.nes hA.ne
  obtain ⟨q1, q2, q3, q4, q5, q6⟩ := hA'.lt
  have hh : ((y.ht : Nat) : Int) = (x.ht : Int) - 1 := by omega
  simp (disch := first | exact dA | fail) only [↓V0, VV, reduceCtorEq, seval, a130, r0, r3, r23, r24, r25, hgi, Kd.av]
  have hsb : SB [(p.a, .arr [.int .i64 A.n, .ptr p.l 0, .map p.m, .int .i64 A.al, .int .i64 A.fr, .int .i64 A.st]), (p.m, .map (A.es.map mE) A.ck), (σ'.n, .arr [.int .u64 k.h, .int .i64 k.m.b, .int .i64 k.m.r, .int .i64 k.m.l])]
    ((σ'.new (.arr [.int .u64 0, .int .i64 0, .int .i64 0, .int .i64 0])).set σ'.n (.arr [.int .u64 k.h, .int .i64 k.m.b, .int .i64 k.m.r, .int .i64 k.m.l])) :=
   SB.cons (by simp only [↓W0, W, reduceCtorEq, seval] <;> simp [show σ'.n ≠ p.a by omega, ha]) (SB.cons (by simp only [↓W0, W, reduceCtorEq, seval] <;> simp [show σ'.n ≠ p.m by omega, hm]) (SB.cons (by simp only [↓W0, W, reduceCtorEq, seval]) (SB.nil _)))
  have hlt : ∀ e, e ∈ [(p.a, Blk.arr [.int .i64 A.n, .ptr p.l 0, .map p.m, .int .i64 A.al, .int .i64 A.fr, .int .i64 A.st]), (p.m, .map (A.es.map mE) A.ck), (σ'.n, .arr [.int .u64 k.h, .int .i64 k.m.b, .int .i64 k.m.r, .int .i64 k.m.l])] -> e.1 < σ'.n + 1 := by
   intro e he
   simp only [List.mem_cons, List.not_mem_nil, or_false] at he
   rcases he with rfl | rfl | rfl <;> simp only <;> omega
  refine AW.qx none (.p 0 (.p 1 (.p 2 (.p 3 (.p 4 (.p 5 (.p 6 (.p 7 (.p 8 (.p 9 (.a 10 (.a 11 (.p 12 .nil))))))))))))) _ hmix (by decide) (by decide) hsb ?_
  simp (disch := first | exact dA | fail) only [↓V0, VV, reduceCtorEq, seval, a130, r0, hn, hj]
  refine ⟨hsb.ext hlt (by exact eA), ?_⟩
  have e3 := eq3 k.m.b k.m.r k.m.l k.m.b k.m.r k.m.l
  simp only [and_self, decide_true] at e3
  simp (disch := first | exact dA | fail) only [↓V0, VV, reduceCtorEq, seval, a130, Nd.av, Nd.cs, h3, hnn]
  refine ⟨hsb.ext hlt (by exact eA), ?_⟩
  refine callQ (nmeasure_st y hyo hyb) ?_
  simp (disch := first | exact dA | fail) only [↓V0, VV, reduceCtorEq, seval, a130, r0, r3, r23, r24, r25, Nd.av, Nd.cs, h3, hym, Ms.av, Ms.cs, e3, hh]
  exact ⟨rfl, hE.trans (by exact eA)⟩
 ·obtain ⟨r0, r3, r23, r24, r25, hE⟩ := h
  have hA' : ArAt p σ' A := hA.ext ((Ext.new _ _).trans hE)
  have h3 : lk σ'.H σ.n = some (.arr [.int .i64 x.ht, .str x.tx, .vs (x.ks.map Kd.av) .no]) := (hE.2 σ.n (Nat.lt_succ_self _)).trans (by simp [lk_new, Nd.cs])
  have hnn : σ.n < σ'.n := hE.1
  have ha := hA'.ba
  have hn := Pa.nes hA.ne
  obtain ⟨q1, q2, q3, q4, q5, q6⟩ := hA.lt
  simp (disch := first | exact dA | fail) only [↓V0, VV, reduceCtorEq, seval, a130, r0, r3, r23, r24, r25, ha]
  refine (take_ok hA' ok hk).mono ?_
  rintro v σ2 ⟨rfl, hB, hF⟩
  have ha2 := hB.ba
  have hm2 := hB.bm
  have h32 : lk σ2.H σ.n = some (.arr [.int .i64 x.ht, .str x.tx, .vs (x.ks.map Kd.av) .no]) := by
   rw [hF.2 σ.n (by omega) (by rintro (e | e | e | e | e | e) <;> omega)]; exact h3
  simp (disch := first | exact dA | fail) only [↓V0, VV, reduceCtorEq, seval, a130, r0, r3, ha2, h32]
  refine callQ (clone_st x.ks (by omega)) ?_
  have hfk := fk_none A.hd A.es 0 hf
  simp (disch := first | exact dA | fail) only [↓V0, VV, reduceCtorEq, seval, a130, r0, r3, ha2, hm2, h32, hn, Ar.took, hfk]
  have q0 := hB.lt
  have qn := hF.1
  refine ⟨A.put x, ⟨rfl, rfl⟩, ?_, ?_⟩
  ·obtain ⟨q1, q2, q3, q4, q5, q6⟩ := hA.lt
   refine ArAt.mk2 hB (by first | omega | (simp only [set_n, new_n] <;> omega)) ?_ ?_ ?_ ?_ ?_ ?_ <;> (simp (disch := omega) only [lk_set, lk_new, sn_ne, snk_ne, ne_sn, ne_snk, set_n, new_n, if_true, if_false, Option.map_some, hB.ba, hB.bl, hB.b1, hB.b2, hB.b3, hB.bm, hn, Ar.put, Ar.took, List.map_append, mE, Nd.av, Nd.cs, List.map_cons, List.map_nil] <;> first | done | rfl)
  ·refine FrX.set (FrX.set (FrX.set ?_ (.inl (by omega)) _) (.inr (by simp [Pa.has])) _) (.inr (by simp [Pa.has])) _
   exact (FrX.ext ((Ext.new _ _).trans hE)).trans hF.x
end Go.Proofs.YtekhblefchceaaaGreat.AM

/- Contracts: arena.New. -/
set_option maxRecDepth 20000
namespace Go.Proofs.YtekhblefchceaaaGreat.AM
open Go Go.Proofs
variable {σ : St}
def newAr (n gens : Nat) : Ar := { n := n, cells := (List.range n).map fun j => n - 1 - j, k := n, sts := List.replicate n 0, gens := List.replicate n 1, most := gens, es := [], ck := 0, al := 0, fr := 0, st := 0 }
theorem newAr_ok (n gens : Nat) (h1 : 1 <= n) (h2 : n <= 16384) : (newAr n gens).ok where
 c1 := by simp [newAr]
 c2 := by simp [newAr]
 c3 := by simp [newAr]
 kn := Nat.le_refl _
 n1 := h2
 cl := fun x hx => by
  simp only [newAr, List.mem_map, List.mem_range] at hx ⊢
  obtain ⟨j, hj, rfl⟩ := hx
  omega
 g1 := fun g hg => by
  simp only [newAr] at hg
  rw [List.eq_of_mem_replicate hg]
  exact ⟨Nat.le_refl _, by decide⟩
end Go.Proofs.YtekhblefchceaaaGreat.AM

