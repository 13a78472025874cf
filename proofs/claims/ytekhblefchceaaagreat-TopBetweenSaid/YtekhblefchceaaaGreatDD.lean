/- Joined: D11, D12. -/
import Derived.Test.YtekhblefchceaaaGreatDC
set_option linter.unusedVariables false
set_option linter.unusedSimpArgs false
/- Contracts: plan.concat, both, Concat. -/
set_option maxRecDepth 20000
namespace Go.Proofs.YtekhblefchceaaaGreat.AM
open Go Go.Proofs
variable {σ : St}
def cnc (A : Ar) (x y : Pl) : Pl := if x.kd = 1 then y else if y.kd = 1 then x else grp (mrg A (x.ht + y.ht) x y)
theorem kd1 {t : Pl} : t.kd = 1 ↔ t = .emp := by cases t <;> simp [Pl.kd]
theorem OkP.n {A : Ar} {t : Pl} (h : OkP A t) (h1 : t.kd ≠ 1) : Val A true t.ht t := by
 rcases h with rfl | ⟨n, h⟩
 ·exact absurd rfl h1
 ·rw [h.ht]; exact h
theorem OkP.ht16 {A : Ar} (wf : A.WF) {t : Pl} (h : OkP A t) : t.ht <= 16 := by
 rcases h with rfl | ⟨n, h⟩
 ·exact Nat.zero_le _
 ·rw [h.ht]; exact h.n16 wf
theorem bytesL_txt {A : Ar} (wf : A.WF) {n : Nat} {b : Bool} : ∀ l : List Pl, (∀ p, p ∈ l -> Val A b n p) -> bytesL l = (txtL A l).length
 | [], _ => rfl
 | p :: l, h => by
  simp only [bytesL, txtL, List.length_append]
  rw [(h p (by simp)).bytes wf, bytesL_txt wf l fun q hq => h q (by simp [hq])]
theorem grp_ok {A : Ar} (wf : A.WF) {n : Nat} {l : List Pl} (h1 : 1 <= l.length) (h4 : l.length <= 4) (hv : ∀ p, p ∈ l -> Val A true n p) (hs : 2 <= l.length -> ∀ p, p ∈ l -> Val A false n p) (hb : (txtL A l).length <= 65536) : OkP A (grp l) /\ (grp l).txt A = txtL A l := by
 refine ⟨?_, grp_txt A l⟩
 match l, h1, h4, hv, hs, hb with
 | [k], _, _, hv, _, _ => exact .inr ⟨n, hv k (by simp)⟩
 | k :: k2 :: r, h1, h4, hv, hs, hb =>
  have hs' := hs (by simp)
  have e := bytesL_txt wf _ hs'
  have hk := (hs' k (by simp)).low12 wf (by simp only [bytesL] at e; omega)
  exact .inr ⟨n + 1, grp_val hs' (by simp) h4 (by omega) true⟩
theorem cnc_spec {A : Ar} (wf : A.WF) {x y : Pl} (hx : OkP A x) (hy : OkP A y) (hb : (x.txt A).length + (y.txt A).length <= 65536) : OkP A (cnc A x y) /\ (cnc A x y).txt A = x.txt A ++ y.txt A := by
 unfold cnc
 by_cases h1 : x.kd = 1
 ·rw [if_pos h1]
  have := kd1.1 h1
  subst this
  exact ⟨hy, by simp [Pl.txt]⟩
 ·rw [if_neg h1]
  by_cases h2 : y.kd = 1
  ·rw [if_pos h2]
   have := kd1.1 h2
   subst this
   exact ⟨hx, by simp [Pl.txt]⟩
  ·rw [if_neg h2]
   have hm := mrg_spec wf (x.ht + y.ht) x y true true _ _ (hx.n h1) (hy.n h2) (Nat.le_refl _)
   have h4 := hm.l2
   have := grp_ok wf hm.l1 (by omega) hm.v (fun h => hm.s (.inl (by omega))) (by rw [hm.tx, List.length_append]; exact hb)
   exact ⟨this.1, by rw [this.2, hm.tx]⟩
theorem concat_ok {p : Pa} {A : Ar} (wf : A.WF) (x y : Pl) (hx : OkP A x) (hy : OkP A y) (hA : ArAt p σ A) : ACalls Tryz.prog 171 [.ptr p.a 0, x.av, y.av] σ (fun v σ' => v = .tup [(cnc A x y).av, .int .i64 0] /\ σ' = σ) := by
 refine ACalls.quietX ?_ (by simp only [AV.pur, purL, Pl.pur, Bool.and_self])
 refine FOk.calls ok171 (by simp [a171]) (wpc_sound hmix ?_)
 show wpc _ _ _ c171 _ _ _
 simp (disch := first | exact dA | fail) only [↓V0, VV, reduceCtorEq, seval, a171, Pl.av_eq, treeCs]
 refine callQE (by first | rfl | simp only [WQ, treeCs, Ms.av, Ms.cs]) (kind_ok x (hx.w0 wf).form) ?_
 by_cases h1 : x.kd = 1
 ·simp (disch := first | exact dA | fail) only [↓V0, VV, reduceCtorEq, seval, a171]
  exact ⟨by simp only [WE, cnc, if_pos h1, Pl.ers, Pl.av_eq, treeCs], by exact eA⟩
 ·simp (disch := first | exact dA | fail) only [↓V0, VV, reduceCtorEq, seval, a171]
  refine callQE (by first | rfl | simp only [WQ, treeCs, Ms.av, Ms.cs]) (kind_ok y (hy.w0 wf).form) ?_
  by_cases h2 : y.kd = 1
  ·simp (disch := first | exact dA | fail) only [↓V0, VV, reduceCtorEq, seval, a171]
   exact ⟨by simp only [WE, cnc, if_neg h1, if_pos h2, Pl.ers, Pl.av_eq, treeCs], by exact eA⟩
  ·simp (disch := first | exact dA | fail) only [↓V0, VV, reduceCtorEq, seval, a171]
   have hA2 := hA.ext ((((Ext.new σ (.arr x.cs))).newer (.arr y.cs)).newer (.arr tz))
   refine callQE (by first | rfl | simp only [WQ, treeCs, Ms.av, Ms.cs]) (merge_ok wf (x.ht + y.ht) x y true true _ _ (hx.n h1) (hy.n h2) (Nat.le_refl _) _ hA2) ?_
   have hm := mrg_spec wf (x.ht + y.ht) x y true true _ _ (hx.n h1) (hy.n h2) (Nat.le_refl _)
   have hlen := hm.l2
   have hx16 := hx.ht16 wf
   have hy16 := hy.ht16 wf
   have hmax : max x.ht y.ht <= 16 := by omega
   have hv := hm.v
   generalize hL : mrg A (x.ht + y.ht) x y = L at hv hlen ⊢
   simp (disch := first | exact dA | fail) only [↓V0, VV, reduceCtorEq, seval, a171]
   refine callQE (by first | rfl | simp only [WQ, treeCs, Ms.av, Ms.cs]) (group_ok L (by omega) (fun k hk => by have := (hv k hk).ht; omega)) ?_
   simp (disch := first | exact dA | fail) only [↓V0, VV, reduceCtorEq, seval, a171, Pl.av_eq, treeCs]
   exact ⟨by simp only [WE, cnc, if_neg h1, if_neg h2, hL, Pl.ers, Pl.av_eq, treeCs], by exact eA⟩
theorem both_ok {p : Pa} {A : Ar} (wf : A.WF) (x y : Pl) (hx : OkP A x) (hy : OkP A y) (hb : x.bytes + y.bytes <= 65536) (hA : ArAt p σ A) : ACalls Tryz.prog 178 [.ptr p.a 0, x.av, y.av, .bool true] σ (fun v σ' => v = .int .i64 0 /\ σ' = σ) := by
 refine ACalls.quietX ?_ rfl
 refine FOk.calls ok178 (by simp [a178]) (wpc_sound hmix ?_)
 show wpc _ _ _ c178 _ _ _
 simp (disch := first | exact dA | fail) only [↓V0, VV, reduceCtorEq, seval, a178, Pl.av_eq, treeCs]
 have hE0 : Ext σ ((σ.new (.arr x.cs)).new (.arr y.cs)) := by exact eA
 refine AW.upto hmix (fun i ρ σ' => ρ 0 = .ptr p.a 0 /\ ρ 3 = .bool true /\ ρ 5 = .ptr σ.n 0 /\ ρ 6 = .ptr (σ.n + 1) 0 /\ ρ 14 = .vs [x.av, y.av] .ex /\ ρ 15 = .int .i64 2 /\ ρ 16 = .int .i64 (i : Nat) /\
  lk σ'.H σ.n = some (.arr x.cs) /\ lk σ'.H (σ.n + 1) = some (.arr y.cs) /\ Ext σ σ' /\ σ.n + 2 <= σ'.n) 2
  ⟨by exact wA, by exact wA, by exact wA, by exact wA, by simp only [↓W0, W, reduceCtorEq, seval, Pl.av_eq, treeCs], by exact wA, by exact wA, by simp only [↓W0, W, reduceCtorEq, seval, Pl.cs, treeCs], by simp only [↓W0, W, reduceCtorEq, seval, Pl.cs, treeCs], by exact eA, by simp only [↓W0, W, reduceCtorEq, seval]⟩ (fun i ρ σ' hi h => ?_) (fun ρ σ' h => ?_)
 ·obtain ⟨r0, r3, r5, r6, r14, r15, r16, l1, l2, hE, hn⟩ := h
  have hlt1 : σ.n < σ'.n := by omega
  have hlt2 : σ.n + 1 < σ'.n := by omega
  have hgi : ∃ z : Pl, [x.av, y.av][i]? = some z.av /\ OkP A z /\ z.bytes <= 65536 := by
   match i, hi with
   | 0, _ => exact ⟨x, rfl, hx, by omega⟩
   | 1, _ => exact ⟨y, rfl, hy, by omega⟩
  obtain ⟨z, hz1, hz2, hz3⟩ := hgi
  rw [Pl.av_eq z] at hz1
  simp only [treeCs] at hz1
  simp (disch := first | exact dA | fail) only [↓V0, VV, reduceCtorEq, seval, a178, r0, r3, r5, r6, r14, r15, r16, hz1]
  refine callQE (by first | rfl | simp only [WQ, treeCs, Ms.av, Ms.cs]) (pcheck_ok wf z hz2 hz3 (hA.ext (hE.trans (by exact eA)))) ?_
  simp (disch := first | exact dA | fail) only [↓V0, VV, reduceCtorEq, seval, a178, r0, r3, r5, r6, r14, r15, r16, l1, l2]
  exact ⟨rfl, hE.trans (by exact eA)⟩
 ·obtain ⟨r0, r3, r5, r6, r14, r15, r16, l1, l2, hE, hn⟩ := h
  simp (disch := first | exact dA | fail) only [↓V0, VV, reduceCtorEq, seval, a178, r0, r3, r5, r6, r14, r15, r16]
  have hsb : SB [(σ.n, .arr x.cs), (σ.n + 1, .arr y.cs)] σ' := SB.cons l1 (SB.cons l2 (SB.nil _))
  simp only [Pl.cs, treeCs] at hsb
  refine AW.qx none (.p 0 (.r 1 (.p 2 (.r 3 (.p 4 (.p 5 .nil)))))) _ hmix (by decide) (by decide) hsb ?_
  simp (disch := first | exact dA | fail) only [↓V0, VV, reduceCtorEq, seval, a178, r0, r3, r5, r6]
  refine aqr (.int .i64 x.bytes) (fun σ' hs => ?_) ?_
  ·simp (disch := first | exact dA | fail) only [↓V0, VV, reduceCtorEq, seval, a178]
   refine callQE (by first | rfl | simp only [WQ, treeCs, Ms.av, Ms.cs]) (bytes_ok x (hx.w0 wf) (by omega) _) ?_
   exact ⟨rfl, rfl⟩
  simp (disch := first | exact dA | fail) only [↓V0, VV, reduceCtorEq, seval, a178, r0, r3, r5, r6]
  refine aqr (.int .i64 y.bytes) (fun σ' hs => ?_) ?_
  ·simp (disch := first | exact dA | fail) only [↓V0, VV, reduceCtorEq, seval, a178]
   refine callQE (by first | rfl | simp only [WQ, treeCs, Ms.av, Ms.cs]) (bytes_ok y (hy.w0 wf) (by omega) _) ?_
   exact ⟨rfl, rfl⟩
  simp (disch := first | exact dA | fail) only [↓V0, VV, reduceCtorEq, seval, a178, r0, r3, r5, r6]
  exact ⟨rfl, hE⟩
theorem pconcat_ok {p : Pa} {A : Ar} (wf : A.WF) (x y : Pl) (hx : OkP A x) (hy : OkP A y) (hb : x.bytes + y.bytes <= 65536) (hA : ArAt p σ A) : ACalls Tryz.prog 112 [.ptr p.a 0, x.av, y.av] σ (fun v σ' => v = .tup [(cnc A x y).av, .int .i64 0] /\ σ' = σ) := by
 refine ACalls.quietX ?_ (by simp only [AV.pur, purL, Pl.pur, Bool.and_self])
 have hA2 := hA.ext ((((Ext.new σ (.arr x.cs))).newer (.arr y.cs)).newer (.arr tz))
 have hc := cnc_spec wf hx hy (by rw [<- hx.bytes wf, <- hy.bytes wf]; exact hb)
 refine FOk.calls ok112 (by simp [a112]) (wpc_sound hmix ?_)
 show wpc _ _ _ c112 _ _ _
 simp (disch := first | exact dA | fail) only [↓V0, VV, reduceCtorEq, seval, a112, Pl.av_eq, treeCs]
 refine callQE (by first | rfl | simp only [WQ, treeCs, Ms.av, Ms.cs]) (both_ok wf x y hx hy hb hA2) ?_
 simp (disch := first | exact dA | fail) only [↓V0, VV, reduceCtorEq, seval, a112]
 refine callQE (by first | rfl | simp only [WQ, treeCs, Ms.av, Ms.cs]) (concat_ok wf x y hx hy hA2) ?_
 simp (disch := first | exact dA | fail) only [↓V0, VV, reduceCtorEq, seval, a112, Pl.av_eq, treeCs]
 refine callQE (by first | rfl | simp only [WQ, treeCs, Ms.av, Ms.cs]) (own_ok (cnc A x y) (hc.1.w0 wf) _) ?_
 simp (disch := first | exact dA | fail) only [↓V0, VV, reduceCtorEq, seval, a112, Pl.av_eq, treeCs]
 exact ⟨by simp only [WE, Pl.ers, Pl.av_eq, treeCs], by exact eA⟩
end Go.Proofs.YtekhblefchceaaaGreat.AM

/- Contracts: plan.cut, Cut. -/
set_option maxRecDepth 20000
namespace Go.Proofs.YtekhblefchceaaaGreat.AM
open Go Go.Proofs
variable {σ : St}
def findk : List Pl -> Nat -> Nat × Nat
 | [], n => (0, n)
 | [_], n => (0, n)
 | k :: k2 :: r, n => if k.bytes <= n then ((findk (k2 :: r) (n - k.bytes)).1 + 1, (findk (k2 :: r) (n - k.bytes)).2) else (0, n)
theorem findk_spec : ∀ (l : List Pl) (n : Nat), l ≠ [] -> n < bytesL l -> (findk l n).1 < l.length /\ bytesL (l.take (findk l n).1) + (findk l n).2 = n /\ (findk l n).2 < (l.getD (findk l n).1 .emp).bytes
 | [k], n, _, h => by simp [findk, bytesL] at h ⊢; exact h
 | k :: k2 :: r, n, _, h => by
  unfold findk
  by_cases hk : k.bytes <= n
  ·rw [if_pos hk]
   have := findk_spec (k2 :: r) (n - k.bytes) (by simp) (by simp only [bytesL] at h ⊢; omega)
   refine ⟨by simpa using this.1, ?_, by simpa using this.2.2⟩
   simp only [List.take_succ_cons, bytesL]
   omega
  ·rw [if_neg hk]
   simp [bytesL]; omega
theorem findk_step (l : List Pl) (n i : Nat) (hi : i + 1 < l.length) (hk : (l.getD i .emp).bytes <= n) : findk (l.drop i) n = ((findk (l.drop (i + 1)) (n - (l.getD i .emp).bytes)).1 + 1, (findk (l.drop (i + 1)) (n - (l.getD i .emp).bytes)).2) := by
 have h1 : l.drop i = l.getD i .emp :: l.drop (i + 1) := by
  rw [List.drop_eq_getElem_cons (by omega)]
  simp [List.getD_eq_getElem?_getD, show i < l.length by omega]
 have h2 : l.drop (i + 1) = l.getD (i + 1) .emp :: l.drop (i + 2) := by
  rw [List.drop_eq_getElem_cons hi]
  simp [List.getD_eq_getElem?_getD, hi]
 rw [h1, h2]
 conv => lhs; unfold findk
 rw [if_pos hk]
theorem findk_stop (l : List Pl) (n i : Nat) (h : ¬ (i + 1 < l.length /\ (l.getD i .emp).bytes <= n)) (hi : i < l.length) : findk (l.drop i) n = (0, n) := by
 have h1 : l.drop i = l.getD i .emp :: l.drop (i + 1) := by
  rw [List.drop_eq_getElem_cons (by omega)]
  simp [List.getD_eq_getElem?_getD, hi]
 rw [h1]
 cases h2 : l.drop (i + 1) with
 | nil => rfl
 | cons a r =>
  have : i + 1 < l.length := by
   rcases Nat.lt_or_ge (i + 1) l.length with h | h
   ·exact h
   ·rw [List.drop_eq_nil_of_le h] at h2; cases h2
  unfold findk
  rw [if_neg (fun hk => h ⟨this, hk⟩)]
def cutP (A : Ar) : Nat -> Pl -> Nat -> Pl × Pl
 | 0, t, n => if n = 0 then (.emp, t) else if n = t.bytes then (t, .emp) else (.leaf ((t.txt A).take n), .leaf ((t.txt A).drop n))
 | f + 1, t, n => if n = 0 then (.emp, t) else if n = t.bytes then (t, .emp) else
  if (findk (t.chs A) n).2 = 0 then (grp ((t.chs A).take (findk (t.chs A) n).1), grp ((t.chs A).drop (findk (t.chs A) n).1)) else
  (cnc A (grp ((t.chs A).take (findk (t.chs A) n).1)) (cutP A f ((t.chs A).getD (findk (t.chs A) n).1 .emp) (findk (t.chs A) n).2).1,
   cnc A (cutP A f ((t.chs A).getD (findk (t.chs A) n).1 .emp) (findk (t.chs A) n).2).2 (grp ((t.chs A).drop ((findk (t.chs A) n).1 + 1))))
theorem okp_emp (A : Ar) : OkP A .emp := .inl rfl
theorem grp_sub {A : Ar} (wf : A.WF) {n : Nat} {l : List Pl} (h4 : l.length <= 4) (hv : ∀ p, p ∈ l -> Val A false n p) (hb : (txtL A l).length <= 65536) : OkP A (grp l) /\ (grp l).txt A = txtL A l := by
 cases l with
 | nil => exact ⟨okp_emp A, rfl⟩
 | cons k r => exact grp_ok wf (by simp) h4 (fun p hp => (hv p hp).top) (fun _ => hv) hb
theorem txtL_split (A : Ar) (l : List Pl) (i : Nat) : txtL A l = txtL A (l.take i) ++ txtL A (l.drop i) := by rw [<- txtL_append, List.take_append_drop]
theorem cutP_spec {A : Ar} (wf : A.WF) : ∀ (f : Nat) (t : Pl) (b : Bool) (n : Nat), Val A b f t -> n <= t.bytes -> t.bytes <= 65536 ->
  OkP A (cutP A f t n).1 /\ OkP A (cutP A f t n).2 /\ (cutP A f t n).1.txt A = (t.txt A).take n /\ (cutP A f t n).2.txt A = (t.txt A).drop n
 | f, t, b, n, hv, hn, hb => by
  have hbt := hv.bytes wf
  by_cases h0 : n = 0
  ·have e : cutP A f t n = (.emp, t) := by cases f <;> (unfold cutP; rw [if_pos h0])
   rw [e, h0]
   exact ⟨okp_emp A, .inr ⟨_, hv.top⟩, by simp [Pl.txt], by simp⟩
  ·by_cases h1 : n = t.bytes
   ·have e : cutP A f t n = (t, .emp) := by cases f <;> (unfold cutP; rw [if_neg h0, if_pos h1])
    rw [e]
    exact ⟨.inr ⟨_, hv.top⟩, okp_emp A, by rw [List.take_of_length_le (by omega)], by rw [List.drop_of_length_le (by omega)]; rfl⟩
   ·cases f with
    | zero =>
     have e : cutP A 0 t n = (.leaf ((t.txt A).take n), .leaf ((t.txt A).drop n)) := by unfold cutP; rw [if_neg h0, if_neg h1]
     obtain ⟨x1, x2⟩ := bytes0 wf hv
     rw [e]
     refine ⟨.inr ⟨0, .leaf (by rw [List.length_take]; omega) (by rw [List.length_take]; omega) (.inl rfl)⟩, .inr ⟨0, .leaf (by rw [List.length_drop]; omega) (by rw [List.length_drop]; omega) (.inl rfl)⟩, rfl, rfl⟩
    | succ f =>
     obtain ⟨c2, c4, cv, ct⟩ := chs_spec wf hv
     have hbL := bytesL_txt wf _ cv
     rw [ct, <- hbt] at hbL
     obtain ⟨f1, f2, f3⟩ := findk_spec (t.chs A) n (by intro e; rw [e] at c2; simp at c2) (by omega)
     have e : cutP A (f + 1) t n = cutP A (f + 1) t n := rfl
     conv at e => rhs; rw [cutP, if_neg h0, if_neg h1]
     rw [e]
     clear e
     generalize hq : findk (t.chs A) n = q at f1 f2 f3 ⊢
     obtain ⟨k, r⟩ := q
     simp only at f1 f2 f3 ⊢
     have hlt := bytesL_txt wf ((t.chs A).take k) (fun p hp => cv p (List.mem_of_mem_take hp))
     have hs1 := txtL_split A (t.chs A) k
     have hs2 := txtL_split A (t.chs A) (k + 1)
     have hgk := getD_mem f1
     have hsn : txtL A ((t.chs A).take (k + 1)) = txtL A ((t.chs A).take k) ++ ((t.chs A).getD k .emp).txt A := by
      rw [take_succ_get hgk, txtL_append]; simp [txtL]
     have vk := cv _ (List.mem_of_getElem? hgk)
     have hkb := vk.bytes wf
     have hl1 : (txtL A (t.chs A)).length <= 65536 := by rw [ct, <- hbt]; exact hb
     have hla : (txtL A ((t.chs A).take k)).length <= 65536 := by rw [hs1, List.length_append] at hl1; omega
     have hlb : (txtL A ((t.chs A).drop k)).length <= 65536 := by rw [hs1, List.length_append] at hl1; omega
     have hlc : (txtL A ((t.chs A).drop (k + 1))).length <= 65536 := by rw [hs2, List.length_append] at hl1; omega
     have g1 := grp_sub wf (l := (t.chs A).take k) (by rw [List.length_take]; omega) (fun p hp => cv p (List.mem_of_mem_take hp)) hla
     by_cases hr : r = 0
     ·rw [if_pos hr]
      have g2 := grp_sub wf (l := (t.chs A).drop k) (by rw [List.length_drop]; omega) (fun p hp => cv p (List.mem_of_mem_drop hp)) hlb
      refine ⟨g1.1, g2.1, ?_, ?_⟩
      ·rw [g1.2, <- ct, hs1, List.take_left' (by omega)]
      ·rw [g2.2, <- ct]
       conv => rhs; rw [hs1]
       rw [List.drop_left' (by omega)]
     ·rw [if_neg hr]
      have hrec := cutP_spec wf f ((t.chs A).getD k .emp) false r vk (by omega) (by
       have := congrArg List.length hs2
       rw [hsn] at this
       simp only [List.length_append] at this
       omega)
      generalize cutP A f ((t.chs A).getD k .emp) r = uv at hrec ⊢
      obtain ⟨u, v⟩ := uv
      obtain ⟨o1, o2, o3, o4⟩ := hrec
      simp only at o1 o2 o3 o4 ⊢
      have g2 := grp_sub wf (l := (t.chs A).drop (k + 1)) (by rw [List.length_drop]; omega) (fun p hp => cv p (List.mem_of_mem_drop hp)) hlc
      have hlen := congrArg List.length hs2
      rw [hsn] at hlen
      simp only [List.length_append] at hlen
      have c1 := cnc_spec wf g1.1 o1 (by rw [g1.2, o3, List.length_take]; omega)
      have c2 := cnc_spec wf o2 g2.1 (by rw [g2.2, o4, List.length_drop]; omega)
      have htx : t.txt A = txtL A ((t.chs A).take k) ++ (((t.chs A).getD k .emp).txt A ++ txtL A ((t.chs A).drop (k + 1))) := by
       rw [<- ct, hs2, hsn, List.append_assoc]
      have hnl : n = (txtL A ((t.chs A).take k)).length + r := by omega
      refine ⟨c1.1, c2.1, ?_, ?_⟩
      ·rw [c1.2, g1.2, o3, htx, hnl, List.take_length_add_append, List.take_append_of_le_length (by omega)]
      ·rw [c2.2, g2.2, o4, htx, hnl, List.drop_length_add_append, List.drop_append_of_le_length (by omega)]
set_option maxHeartbeats 4000000 in
theorem cut_ok {p : Pa} {A : Ar} (wf : A.WF) : ∀ (f : Nat) (t : Pl) (b : Bool) (n : Nat), Val A b f t -> n <= t.bytes -> t.bytes <= 65536 -> ∀ σ, ArAt p σ A ->
  ACalls Tryz.prog 170 [.ptr p.a 0, t.av, .int .i64 n] σ (fun v σ' => v = .tup [(cutP A f t n).1.av, (cutP A f t n).2.av, .int .i64 0] /\ σ' = σ)
 | f, t, b, n, hv, hn, hb, σ, hA => by
  have hbt := hv.bytes wf
  have eht := hv.ht
  have hw : t.W0 := .inr (hv.wf wf)
  refine ACalls.quietX ?_ (by simp only [AV.pur, purL, Pl.pur, Bool.and_self])
  have hA2 := hA.ext ((((Ext.new σ (.arr t.cs))).newer (.arr tz)).newer (.arr tz))
  by_cases h0 : n = 0
  ·have e : cutP A f t n = (.emp, t) := by cases f <;> (unfold cutP; rw [if_pos h0])
   rw [e]
   refine FOk.calls ok170 (by simp [a170]) (wpc_sound hmix ?_)
   show wpc _ _ _ c170 _ _ _
   simp (disch := first | exact dA | fail) only [↓V0, VV, reduceCtorEq, seval, a170, Pl.av_eq, treeCs]
   refine AW.qx none (.p 0 (.p 1 (.a 2 (.a 3 (.p 4 .nil))))) [(σ.n, .arr t.cs)] hmix (by decide) (by decide) (SB.cons (by simp only [↓W0, W, reduceCtorEq, seval, Pl.cs, treeCs]) (SB.nil _)) ?_
   simp (disch := first | exact dA | fail) only [↓V0, VV, reduceCtorEq, seval, a170, Pl.cs, treeCs]
   refine ⟨SB.cons (by simp only [↓W0, W, reduceCtorEq, seval]) (SB.nil _), SB.cons (by simp only [↓W0, W, reduceCtorEq, seval]) (SB.nil _), ?_, by exact eA⟩
   simp only [WE, Pl.ers, Pl.av, Ms.z, treeCs]
   rfl
  ·by_cases h1 : n = t.bytes
   ·have e : cutP A f t n = (t, .emp) := by cases f <;> (unfold cutP; rw [if_neg h0, if_pos h1])
    rw [e]
    refine FOk.calls ok170 (by simp [a170]) (wpc_sound hmix ?_)
    show wpc _ _ _ c170 _ _ _
    simp (disch := first | exact dA | fail) only [↓V0, VV, reduceCtorEq, seval, a170, Pl.av_eq, treeCs]
    refine callQE (by first | rfl | simp only [WQ, treeCs, Ms.av, Ms.cs]) (bytes_ok t hw (by omega) _) ?_
    simp (disch := first | exact dA | fail) only [↓V0, VV, reduceCtorEq, seval, a170]
    refine ⟨?_, by exact eA⟩
    simp only [WE, Pl.ers, Pl.av, Ms.z, treeCs]
    rfl
   ·cases f with
    | zero =>
     have e : cutP A 0 t n = (.leaf ((t.txt A).take n), .leaf ((t.txt A).drop n)) := by unfold cutP; rw [if_neg h0, if_neg h1]
     obtain ⟨x1, x2⟩ := bytes0 wf hv
     rw [e]
     refine FOk.calls ok170 (by simp [a170]) (wpc_sound hmix ?_)
     show wpc _ _ _ c170 _ _ _
     simp (disch := first | exact dA | fail) only [↓V0, VV, reduceCtorEq, seval, a170, Pl.av_eq, treeCs]
     refine callQE (by first | rfl | simp only [WQ, treeCs, Ms.av, Ms.cs]) (bytes_ok t hw (by omega) _) ?_
     simp (disch := first | exact dA | fail) only [↓V0, VV, reduceCtorEq, seval, a170]
     refine callQE (by first | rfl | simp only [WQ, treeCs, Ms.av, Ms.cs]) (line_ok wf t hv hA2) ?_
     simp (disch := first | exact dA | fail) only [↓V0, VV, reduceCtorEq, seval, a170]
     refine callQ (ccut_ok (t.txt A) n (by omega) (by omega) (by omega)) ?_
     simp (disch := first | exact dA | fail) only [↓V0, VV, reduceCtorEq, seval, a170]
     refine ⟨?_, by exact eA⟩
     simp only [WE, Pl.ers, Pl.av, Ms.z, treeCs]
     rfl
    | succ f =>
     obtain ⟨c2, c4, cv, ct⟩ := chs_spec wf hv
     have hbL := bytesL_txt wf _ cv
     rw [ct, <- hbt] at hbL
     obtain ⟨f1, f2, f3⟩ := findk_spec (t.chs A) n (by intro e; rw [e] at c2; simp at c2) (by omega)
     have e : cutP A (f + 1) t n = cutP A (f + 1) t n := rfl
     conv at e => rhs; rw [cutP, if_neg h0, if_neg h1]
     rw [e]
     clear e
     have hkw : ∀ k, k ∈ t.chs A -> k.W0 /\ k.ht <= 1000 /\ k.bytes <= 65536 := fun k hk => by
      have h1 := (cv k hk).wf wf
      have h2 := (cv k hk).n16 wf
      have h3 := (cv k hk).ht
      have h4 : k.bytes <= bytesL (t.chs A) := by rw [bytesL_eq]; exact le_sum_mem (List.mem_map_of_mem hk)
      exact ⟨.inr h1, by omega, by omega⟩
     have hgk := getD_mem f1
     have vk := cv _ (List.mem_of_getElem? hgk)
     have hspec := cutP_spec wf f _ false (findk (t.chs A) n).2 vk (by omega) (hkw _ (List.mem_of_getElem? hgk)).2.2
     have hrec := cut_ok wf f _ false (findk (t.chs A) n).2 vk (by omega) (hkw _ (List.mem_of_getElem? hgk)).2.2 _ hA2
     have g1 := fun σ' => group_ok (σ := σ') ((t.chs A).take (findk (t.chs A) n).1) (by rw [List.length_take]; omega) (fun k hk => (hkw k (List.mem_of_mem_take hk)).2.1)
     have g2 := fun σ' => group_ok (σ := σ') ((t.chs A).drop (findk (t.chs A) n).1) (by rw [List.length_drop]; omega) (fun k hk => (hkw k (List.mem_of_mem_drop hk)).2.1)
     have g3 := fun σ' => group_ok (σ := σ') ((t.chs A).drop ((findk (t.chs A) n).1 + 1)) (by rw [List.length_drop]; omega) (fun k hk => (hkw k (List.mem_of_mem_drop hk)).2.1)
     have hl1 : (txtL A (t.chs A)).length <= 65536 := by rw [ct, <- hbt]; exact hb
     have o1 := (grp_sub wf (l := (t.chs A).take (findk (t.chs A) n).1) (by rw [List.length_take]; omega) (fun p hp => cv p (List.mem_of_mem_take hp)) (by rw [txtL_split A _ (findk (t.chs A) n).1, List.length_append] at hl1; omega)).1
     have o3 := (grp_sub wf (l := (t.chs A).drop ((findk (t.chs A) n).1 + 1)) (by rw [List.length_drop]; omega) (fun p hp => cv p (List.mem_of_mem_drop hp)) (by rw [txtL_split A _ ((findk (t.chs A) n).1 + 1), List.length_append] at hl1; omega)).1
     have eR : ∃ R : Pl × Pl, R = (if (findk (t.chs A) n).2 = 0 then (grp ((t.chs A).take (findk (t.chs A) n).1), grp ((t.chs A).drop (findk (t.chs A) n).1)) else
      (cnc A (grp ((t.chs A).take (findk (t.chs A) n).1)) (cutP A f ((t.chs A).getD (findk (t.chs A) n).1 .emp) (findk (t.chs A) n).2).1,
       cnc A (cutP A f ((t.chs A).getD (findk (t.chs A) n).1 .emp) (findk (t.chs A) n).2).2 (grp ((t.chs A).drop ((findk (t.chs A) n).1 + 1))))) := ⟨_, rfl⟩
     obtain ⟨R, hR⟩ := eR
     rw [<- hR]
     refine FOk.calls ok170 (by simp [a170]) (wpc_sound hmix ?_)
     show wpc _ _ _ c170 _ _ _
     simp (disch := first | exact dA | fail) only [↓V0, VV, reduceCtorEq, seval, a170, Pl.av_eq, treeCs]
     refine callQE (by first | rfl | simp only [WQ, treeCs, Ms.av, Ms.cs]) (bytes_ok t hw (by omega) _) ?_
     simp (disch := first | exact dA | fail) only [↓V0, VV, reduceCtorEq, seval, a170]
     refine callQE (by first | rfl | simp only [WQ, treeCs, Ms.av, Ms.cs]) (children_ok wf t hv hA2) ?_
     simp (disch := first | exact dA | fail) only [↓V0, VV, reduceCtorEq, seval, a170]
     have hfit := Pl.fit (t.chs A)
     simp only [Pl.cs, treeCs, tz] at hA2 hrec
     generalize t.chs A = ks at *
     refine AW.lp hmix (fun k ρ σ' => ∃ i m, k + i = ks.length /\ i < ks.length /\ findk ks n = (i + (findk (ks.drop i) m).1, (findk (ks.drop i) m).2) /\ m <= n /\ ρ 0 = .ptr p.a 0 /\ ρ 2 = .int .i64 (m : Nat) /\ ρ 6 = .ptr (σ.n + 1) 0 /\ ρ 7 = .ptr (σ.n + 1 + 1) 0 /\ ρ 13 = .vs (ks.map Pl.av) .no /\ ρ 14 = .int .i64 (i : Nat) /\
      σ' = (((σ.new (.arr t.cs)).new (.arr tz)).new (.arr tz))) ks.length ⟨0, n, by simp, by omega, by simp, Nat.le_refl _, by exact wA, by exact wA, by exact wA, by exact wA, by exact wA, by exact wA, by simp only [Pl.cs, treeCs, tz]⟩ ?_
     rintro k ρ σ' ⟨i, m, hki, hil, hfk, hmn, r0, r2, r6, r7, r13, r14, rfl⟩
     simp only [Pl.cs, treeCs, tz]
     have hgi := getD_mem hil
     have hgv : (ks.map Pl.av)[i]? = some (ks.getD i .emp).av := by rw [List.getElem?_map, hgi]; rfl
     have hki2 := hkw _ (List.mem_of_getElem? hgi)
     by_cases c1 : i + 1 < ks.length /\ (ks.getD i .emp).bytes <= m
     ·obtain ⟨d1, d2⟩ := c1
      have hstep := findk_step ks m i d1 d2
      rw [hstep] at hfk
      simp only at hfk
      generalize ks.getD i .emp = q at hgv hki2 d2 hfk
      simp (disch := first | exact dA | fail) only [↓V0, VV, reduceCtorEq, seval, a170, r0, r2, r6, r7, r13, r14, List.length_map, hgv, Pl.av_eq, treeCs]
      refine callQE (by first | rfl | simp only [WQ, treeCs, Ms.av, Ms.cs]) (bytes_ok q hki2.1 (by omega) _) ?_
      simp (disch := first | exact dA | fail) only [↓V0, VV, reduceCtorEq, seval, a170, r0, r2, r6, r7, r13, r14, List.length_map, hgv, Pl.av_eq, treeCs]
      refine callQE (by first | rfl | simp only [WQ, treeCs, Ms.av, Ms.cs]) (bytes_ok q hki2.1 (by omega) _) ?_
      have hsub : ((m : Nat) : Int) - (q.bytes : Nat) = ((m - q.bytes : Nat) : Int) := by omega
      simp (disch := first | exact dA | fail) only [↓V0, VV, reduceCtorEq, seval, a170, r0, r2, r6, r7, r13, r14, hsub]
      exact ⟨k - 1, by omega, i + 1, m - q.bytes, by omega, d1, by rw [hfk]; congr 1; omega, by omega, by first | rfl | exact ⟨rfl, rfl⟩ | exact ⟨rfl, rfl, rfl⟩⟩
     ·have hstop := findk_stop ks m i c1 hil
      rw [hstop] at hfk
      simp only [Nat.add_zero] at hfk
      rw [hfk] at f1 f2 f3 hgk vk hspec hrec g1 g2 g3 o1 o3 hR
      simp only at f1 f2 f3 hgk vk hspec hrec g1 g2 g3 o1 o3 hR
      have hx : (ks.map Pl.av).take ks.length = ks.map Pl.av := List.take_of_length_le (by simp)
      have hy : ∀ k : Nat, k <= ks.length -> (ks.map Pl.av).take k = (ks.take k).map Pl.av := fun k _ => (List.map_take).symm
      generalize ks.getD i .emp = q at *
      by_cases hm0 : m = 0
      ·rw [if_pos hm0] at hR
       by_cases d1 : i + 1 < ks.length
       ·have d2 : ¬ q.bytes <= m := fun h => c1 ⟨d1, h⟩
        simp (disch := first | exact dA | fail) only [↓V0, VV, reduceCtorEq, seval, a170, r0, r2, r6, r7, r13, r14, List.length_map, hgv, Pl.av_eq, treeCs]
        refine callQE (by first | rfl | simp only [WQ, treeCs, Ms.av, Ms.cs]) (bytes_ok q hki2.1 (by omega) _) ?_
        simp (disch := first | exact dA | fail) only [↓V0, VV, reduceCtorEq, seval, a170, r0, r2, r6, r7, r13, r14, List.length_map, hgv, hfit, hx]
        refine callQE (by first | rfl | simp only [WQ, treeCs, Ms.av, Ms.cs]) (g1 _) ?_
        simp (disch := first | exact dA | fail) only [↓V0, VV, reduceCtorEq, seval, a170, r0, r2, r6, r7, r13, r14, List.length_map, hgv, hfit, hx]
        refine callQE (by first | rfl | simp only [WQ, treeCs, Ms.av, Ms.cs]) (g2 _) ?_
        simp (disch := first | exact dA | fail) only [↓V0, VV, reduceCtorEq, seval, a170, r0, r2, r6, r7, r13, r14, Pl.av_eq, treeCs]
        exact ⟨by rw [hR]; simp only [WE, Pl.ers], by exact eA⟩
       ·simp (disch := first | exact dA | fail) only [↓V0, VV, reduceCtorEq, seval, a170, r0, r2, r6, r7, r13, r14, List.length_map, hgv, hfit, hx]
        refine callQE (by first | rfl | simp only [WQ, treeCs, Ms.av, Ms.cs]) (g1 _) ?_
        simp (disch := first | exact dA | fail) only [↓V0, VV, reduceCtorEq, seval, a170, r0, r2, r6, r7, r13, r14, List.length_map, hgv, hfit, hx]
        refine callQE (by first | rfl | simp only [WQ, treeCs, Ms.av, Ms.cs]) (g2 _) ?_
        simp (disch := first | exact dA | fail) only [↓V0, VV, reduceCtorEq, seval, a170, r0, r2, r6, r7, r13, r14, Pl.av_eq, treeCs]
        exact ⟨by rw [hR]; simp only [WE, Pl.ers], by exact eA⟩
      ·rw [if_neg hm0] at hR
       by_cases d1 : i + 1 < ks.length
       ·have d2 : ¬ q.bytes <= m := fun h => c1 ⟨d1, h⟩
        simp (disch := first | exact dA | fail) only [↓V0, VV, reduceCtorEq, seval, a170, r0, r2, r6, r7, r13, r14, List.length_map, hgv, Pl.av_eq, treeCs]
        refine callQE (by first | rfl | simp only [WQ, treeCs, Ms.av, Ms.cs]) (bytes_ok q hki2.1 (by omega) _) ?_
        simp (disch := first | exact dA | fail) only [↓V0, VV, reduceCtorEq, seval, a170, r0, r2, r6, r7, r13, r14, List.length_map, hgv, Pl.av_eq, treeCs]
        refine callQE (by first | rfl | simp only [WQ, treeCs, Ms.av, Ms.cs]) (hrec) ?_
        generalize cutP A f q m = uv at hspec hR ⊢
        obtain ⟨u, v⟩ := uv
        obtain ⟨ou, ov, tu, tv⟩ := hspec
        simp only at ou ov tu tv hR ⊢
        simp (disch := first | exact dA | fail) only [↓V0, VV, reduceCtorEq, seval, a170, r0, r2, r6, r7, r13, r14, hgv, Pl.av_eq, treeCs]
        refine AW.qx none (.p 0 (.p 1 (.p 2 (.p 3 (.r 4 (.p 5 (.a 6 (.p 7 (.p 8 (.p 9 (.a 10 (.p 11 .nil)))))))))))) [(σ.n + 1 + 1 + 1, .arr u.cs)] hmix (by decide) (by decide) (SB.cons (by simp (disch := first | exact dA | fail) only [↓V0, VV, reduceCtorEq, seval, a170, Pl.cs, treeCs]) (SB.nil _)) ?_
        simp (disch := first | exact dA | fail) only [↓V0, VV, reduceCtorEq, seval, a170, r0, r2, r6, r7, r13, r14, hfit, hx, List.length_map, Pl.cs, treeCs]
        refine aqr (grp (ks.take i)).av (fun σ' hs => ?_) ?_
        ·simp (disch := first | exact dA | fail) only [↓V0, VV, reduceCtorEq, seval, a170]
         refine callQE (by first | rfl | simp only [WQ, treeCs, Ms.av, Ms.cs]) (g1 _) ?_
         exact ⟨rfl, rfl⟩
        simp (disch := first | exact dA | fail) only [↓V0, VV, reduceCtorEq, seval, a170, r0, r2, r6, r7, r13, r14, Pl.av_eq, treeCs]
        refine callQE (by first | rfl | simp only [WQ, treeCs, Ms.av, Ms.cs]) (concat_ok wf _ _ o1 ou (hA2.ext (by exact eA))) ?_
        simp (disch := first | exact dA | fail) only [↓V0, VV, reduceCtorEq, seval, a170, r0, r2, r6, r7, r13, r14, Pl.av_eq, treeCs]
        refine ⟨SB.cons (by simp (disch := first | exact dA | fail) only [↓V0, VV, reduceCtorEq, seval, a170]) (SB.nil _), SB.cons (by simp (disch := first | exact dA | fail) only [↓V0, VV, reduceCtorEq, seval, a170]) (SB.nil _), ?_⟩
        refine AW.qx none (.p 0 (.p 1 (.p 2 (.p 3 (.p 4 (.p 5 (.r 6 (.a 7 (.p 8 (.p 9 (.p 10 (.a 11 (.p 12 .nil))))))))))))) [(σ.n + 1 + 1 + 1 + 1, .arr v.cs)] hmix (by decide) (by decide) (SB.cons (by simp (disch := first | exact dA | fail) only [↓V0, VV, reduceCtorEq, seval, a170, Pl.cs, treeCs]) (SB.nil _)) ?_
        simp (disch := first | exact dA | fail) only [↓V0, VV, reduceCtorEq, seval, a170, r0, r2, r6, r7, r13, r14, hfit, hx, List.length_map, Pl.cs, treeCs]
        refine aqr (grp (ks.drop (i + 1))).av (fun σ' hs => ?_) ?_
        ·simp (disch := first | exact dA | fail) only [↓V0, VV, reduceCtorEq, seval, a170]
         refine callQE (by first | rfl | simp only [WQ, treeCs, Ms.av, Ms.cs]) (g3 _) ?_
         exact ⟨rfl, rfl⟩
        simp (disch := first | exact dA | fail) only [↓V0, VV, reduceCtorEq, seval, a170, r0, r2, r6, r7, r13, r14, Pl.av_eq, treeCs]
        refine callQE (by first | rfl | simp only [WQ, treeCs, Ms.av, Ms.cs]) (concat_ok wf _ _ ov o3 (hA.ext (by exact eA))) ?_
        simp (disch := first | exact dA | fail) only [↓V0, VV, reduceCtorEq, seval, a170, r0, r2, r6, r7, r13, r14, Pl.av_eq, treeCs]
        refine ⟨SB.cons (by simp (disch := first | exact dA | fail) only [↓V0, VV, reduceCtorEq, seval, a170]) (SB.nil _), SB.cons (by simp (disch := first | exact dA | fail) only [↓V0, VV, reduceCtorEq, seval, a170]) (SB.nil _), ?_⟩
        rw [hR]
        generalize cnc A (grp (ks.take i)) u = c6 at *
        generalize cnc A v (grp (ks.drop (i + 1))) = c7 at *
        refine AW.qx none (.p 0 (.p 1 (.a 2 (.a 3 (.p 4 .nil))))) [(σ.n + 1, .arr c6.cs), (σ.n + 1 + 1, .arr c7.cs)] hmix (by decide) (by decide) (SB.cons (by simp (disch := first | exact dA | fail) only [↓V0, VV, reduceCtorEq, seval, a170, Pl.cs, treeCs]) (SB.cons (by simp (disch := first | exact dA | fail) only [↓V0, VV, reduceCtorEq, seval, a170, Pl.cs, treeCs]) (SB.nil _))) ?_
        simp (disch := first | exact dA | fail) only [↓V0, VV, reduceCtorEq, seval, a170, r0, r2, r6, r7, r13, r14, Pl.cs, treeCs]
        refine ⟨SB.cons (by simp (disch := first | exact dA | fail) only [↓V0, VV, reduceCtorEq, seval, a170]) (SB.cons (by simp (disch := first | exact dA | fail) only [↓V0, VV, reduceCtorEq, seval, a170]) (SB.nil _)), SB.cons (by simp (disch := first | exact dA | fail) only [↓V0, VV, reduceCtorEq, seval, a170]) (SB.cons (by simp (disch := first | exact dA | fail) only [↓V0, VV, reduceCtorEq, seval, a170]) (SB.nil _)), ?_, by exact eA⟩
        simp only [WE, Pl.ers]
       ·simp (disch := first | exact dA | fail) only [↓V0, VV, reduceCtorEq, seval, a170, r0, r2, r6, r7, r13, r14, List.length_map, hgv, Pl.av_eq, treeCs]
        refine callQE (by first | rfl | simp only [WQ, treeCs, Ms.av, Ms.cs]) (hrec) ?_
        generalize cutP A f q m = uv at hspec hR ⊢
        obtain ⟨u, v⟩ := uv
        obtain ⟨ou, ov, tu, tv⟩ := hspec
        simp only at ou ov tu tv hR ⊢
        simp (disch := first | exact dA | fail) only [↓V0, VV, reduceCtorEq, seval, a170, r0, r2, r6, r7, r13, r14, hgv, Pl.av_eq, treeCs]
        refine AW.qx none (.p 0 (.p 1 (.p 2 (.p 3 (.r 4 (.p 5 (.a 6 (.p 7 (.p 8 (.p 9 (.a 10 (.p 11 .nil)))))))))))) [(σ.n + 1 + 1 + 1, .arr u.cs)] hmix (by decide) (by decide) (SB.cons (by simp (disch := first | exact dA | fail) only [↓V0, VV, reduceCtorEq, seval, a170, Pl.cs, treeCs]) (SB.nil _)) ?_
        simp (disch := first | exact dA | fail) only [↓V0, VV, reduceCtorEq, seval, a170, r0, r2, r6, r7, r13, r14, hfit, hx, List.length_map, Pl.cs, treeCs]
        refine aqr (grp (ks.take i)).av (fun σ' hs => ?_) ?_
        ·simp (disch := first | exact dA | fail) only [↓V0, VV, reduceCtorEq, seval, a170]
         refine callQE (by first | rfl | simp only [WQ, treeCs, Ms.av, Ms.cs]) (g1 _) ?_
         exact ⟨rfl, rfl⟩
        simp (disch := first | exact dA | fail) only [↓V0, VV, reduceCtorEq, seval, a170, r0, r2, r6, r7, r13, r14, Pl.av_eq, treeCs]
        refine callQE (by first | rfl | simp only [WQ, treeCs, Ms.av, Ms.cs]) (concat_ok wf _ _ o1 ou (hA2.ext (by exact eA))) ?_
        simp (disch := first | exact dA | fail) only [↓V0, VV, reduceCtorEq, seval, a170, r0, r2, r6, r7, r13, r14, Pl.av_eq, treeCs]
        refine ⟨SB.cons (by simp (disch := first | exact dA | fail) only [↓V0, VV, reduceCtorEq, seval, a170]) (SB.nil _), SB.cons (by simp (disch := first | exact dA | fail) only [↓V0, VV, reduceCtorEq, seval, a170]) (SB.nil _), ?_⟩
        refine AW.qx none (.p 0 (.p 1 (.p 2 (.p 3 (.p 4 (.p 5 (.r 6 (.a 7 (.p 8 (.p 9 (.p 10 (.a 11 (.p 12 .nil))))))))))))) [(σ.n + 1 + 1 + 1 + 1, .arr v.cs)] hmix (by decide) (by decide) (SB.cons (by simp (disch := first | exact dA | fail) only [↓V0, VV, reduceCtorEq, seval, a170, Pl.cs, treeCs]) (SB.nil _)) ?_
        simp (disch := first | exact dA | fail) only [↓V0, VV, reduceCtorEq, seval, a170, r0, r2, r6, r7, r13, r14, hfit, hx, List.length_map, Pl.cs, treeCs]
        refine aqr (grp (ks.drop (i + 1))).av (fun σ' hs => ?_) ?_
        ·simp (disch := first | exact dA | fail) only [↓V0, VV, reduceCtorEq, seval, a170]
         refine callQE (by first | rfl | simp only [WQ, treeCs, Ms.av, Ms.cs]) (g3 _) ?_
         exact ⟨rfl, rfl⟩
        simp (disch := first | exact dA | fail) only [↓V0, VV, reduceCtorEq, seval, a170, r0, r2, r6, r7, r13, r14, Pl.av_eq, treeCs]
        refine callQE (by first | rfl | simp only [WQ, treeCs, Ms.av, Ms.cs]) (concat_ok wf _ _ ov o3 (hA.ext (by exact eA))) ?_
        simp (disch := first | exact dA | fail) only [↓V0, VV, reduceCtorEq, seval, a170, r0, r2, r6, r7, r13, r14, Pl.av_eq, treeCs]
        refine ⟨SB.cons (by simp (disch := first | exact dA | fail) only [↓V0, VV, reduceCtorEq, seval, a170]) (SB.nil _), SB.cons (by simp (disch := first | exact dA | fail) only [↓V0, VV, reduceCtorEq, seval, a170]) (SB.nil _), ?_⟩
        rw [hR]
        generalize cnc A (grp (ks.take i)) u = c6 at *
        generalize cnc A v (grp (ks.drop (i + 1))) = c7 at *
        refine AW.qx none (.p 0 (.p 1 (.a 2 (.a 3 (.p 4 .nil))))) [(σ.n + 1, .arr c6.cs), (σ.n + 1 + 1, .arr c7.cs)] hmix (by decide) (by decide) (SB.cons (by simp (disch := first | exact dA | fail) only [↓V0, VV, reduceCtorEq, seval, a170, Pl.cs, treeCs]) (SB.cons (by simp (disch := first | exact dA | fail) only [↓V0, VV, reduceCtorEq, seval, a170, Pl.cs, treeCs]) (SB.nil _))) ?_
        simp (disch := first | exact dA | fail) only [↓V0, VV, reduceCtorEq, seval, a170, r0, r2, r6, r7, r13, r14, Pl.cs, treeCs]
        refine ⟨SB.cons (by simp (disch := first | exact dA | fail) only [↓V0, VV, reduceCtorEq, seval, a170]) (SB.cons (by simp (disch := first | exact dA | fail) only [↓V0, VV, reduceCtorEq, seval, a170]) (SB.nil _)), SB.cons (by simp (disch := first | exact dA | fail) only [↓V0, VV, reduceCtorEq, seval, a170]) (SB.cons (by simp (disch := first | exact dA | fail) only [↓V0, VV, reduceCtorEq, seval, a170]) (SB.nil _)), ?_, by exact eA⟩
        simp only [WE, Pl.ers]
end Go.Proofs.YtekhblefchceaaaGreat.AM

