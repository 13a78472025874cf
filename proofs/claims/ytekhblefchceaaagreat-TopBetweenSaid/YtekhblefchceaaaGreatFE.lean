/- Joined: F16, F17, F18, F19, F20. -/
import Derived.Test.YtekhblefchceaaaGreatFD
import Derived.Test.YtekhblefchceaaaGreatFA
set_option linter.unusedVariables false
set_option linter.unusedSimpArgs false
/- Law: which handles a plan keeps. -/
namespace Go.Proofs.YtekhblefchceaaaGreat.AM
open Go Go.Proofs
inductive Pl.In (K : Nat -> Prop) : Pl -> Prop where
 | emp : Pl.In K .emp
 | kept {h ht : Nat} {m : Ms} (hk : K h) : Pl.In K (.kept h ht m)
 | leaf {s : List UInt8} : Pl.In K (.leaf s)
 | inner {ht : Nat} {ks : List Pl} (hk : ∀ k, k ∈ ks -> Pl.In K k) : Pl.In K (.inner ht ks)
def Cl (A : Ar) (K : Nat -> Prop) : Prop := ∀ h x, K h -> A.get h = some x -> ∀ k, k ∈ x.ks -> K k.h
variable {K : Nat -> Prop} {A : Ar}
theorem in_chs (hc : Cl A K) {t : Pl} (h : t.In K) : ∀ k, k ∈ t.chs A -> k.In K := by
 intro k hk
 cases h with
 | emp => simp [Pl.chs] at hk
 | leaf => simp [Pl.chs] at hk
 | inner h => exact h k hk
 | kept h =>
  simp only [Pl.chs] at hk
  split at hk
  ·rename_i x hx
   obtain ⟨q, q1, rfl⟩ := List.mem_map.1 hk
   exact .kept (hc _ _ h hx q q1)
  ·simp at hk
theorem in_grp : ∀ {l : List Pl}, (∀ k, k ∈ l -> k.In K) -> (grp l).In K
 | [], _ => .emp
 | [k], h => h k (by simp)
 | k :: k2 :: r, h => .inner h
theorem in_foldP {l : List Pl} (h : ∀ k, k ∈ l -> k.In K) : ∀ k, k ∈ foldP l -> k.In K := by
 intro k hk
 unfold foldP at hk
 split at hk
 ·simp only [List.mem_singleton] at hk; subst hk; exact in_grp h
 ·simp only [List.mem_cons, List.not_mem_nil, or_false] at hk
  rcases hk with rfl | rfl
  ·exact in_grp fun q hq => h q (List.mem_of_mem_take hq)
  ·exact in_grp fun q hq => h q (List.mem_of_mem_drop hq)
theorem in_lvs {x y : Pl} (hx : x.In K) (hy : y.In K) : ∀ k, k ∈ lvs A x y -> k.In K := by
 intro k hk
 unfold lvs at hk
 split at hk
 ·simp only [List.mem_cons, List.not_mem_nil, or_false] at hk
  rcases hk with rfl | rfl <;> assumption
 ·obtain ⟨s, _, rfl⟩ := List.mem_map.1 hk
  exact .leaf
theorem in_getD {l : List Pl} (h : ∀ k, k ∈ l -> k.In K) (i : Nat) : (l.getD i .emp).In K := by
 rw [List.getD_eq_getElem?_getD]
 cases e : l[i]? with
 | none => exact .emp
 | some k => exact h k (List.mem_of_getElem? e)
theorem in_mrg (hc : Cl A K) : ∀ (f : Nat) (x y : Pl), x.In K -> y.In K -> ∀ k, k ∈ mrg A f x y -> k.In K
 | 0, x, y, hx, hy => in_lvs hx hy
 | f + 1, x, y, hx, hy => by
  have cx := in_chs hc hx
  have cy := in_chs hc hy
  unfold mrg
  split
  ·exact in_lvs hx hy
  ·split
   ·split
    ·intro k hk
     simp only [List.mem_singleton] at hk; subst hk
     exact in_grp fun q hq => by rcases List.mem_append.1 hq with hq | hq; exact cx q hq; exact cy q hq
    ·intro k hk
     simp only [List.mem_cons, List.not_mem_nil, or_false] at hk
     rcases hk with rfl | rfl <;> assumption
   ·split
    ·refine in_foldP fun q hq => ?_
     rcases List.mem_append.1 hq with hq | hq
     ·exact cx q (List.mem_of_mem_take hq)
     ·exact in_mrg hc f _ _ (in_getD cx _) hy q hq
    ·refine in_foldP fun q hq => ?_
     rcases List.mem_append.1 hq with hq | hq
     ·exact in_mrg hc f _ _ hx (in_getD cy _) q hq
     ·exact cy q (List.mem_of_mem_drop hq)
theorem in_cnc (hc : Cl A K) {x y : Pl} (hx : x.In K) (hy : y.In K) : (cnc A x y).In K := by
 unfold cnc
 split
 ·exact hy
 ·split
  ·exact hx
  ·exact in_grp (in_mrg hc _ _ _ hx hy)
theorem in_cutP (hc : Cl A K) : ∀ (f : Nat) (t : Pl) (n : Nat), t.In K -> (cutP A f t n).1.In K /\ (cutP A f t n).2.In K
 | 0, t, n, h => by
  unfold cutP
  split
  ·exact ⟨.emp, h⟩
  ·split
   ·exact ⟨h, .emp⟩
   ·exact ⟨.leaf, .leaf⟩
 | f + 1, t, n, h => by
  have ct := in_chs hc h
  unfold cutP
  split
  ·exact ⟨.emp, h⟩
  ·split
   ·exact ⟨h, .emp⟩
   ·have hr := in_cutP hc f ((t.chs A).getD (findk (t.chs A) n).1 .emp) (findk (t.chs A) n).2 (in_getD ct _)
    split
    ·exact ⟨in_grp fun q hq => ct q (List.mem_of_mem_take hq), in_grp fun q hq => ct q (List.mem_of_mem_drop hq)⟩
    ·exact ⟨in_cnc hc (in_grp fun q hq => ct q (List.mem_of_mem_take hq)) hr.1, in_cnc hc hr.2 (in_grp fun q hq => ct q (List.mem_of_mem_drop hq))⟩
theorem split_sub {α : Type} : ∀ (l : List Nat) (s : List α) (t : List α), t ∈ split l s -> ∀ x, x ∈ t -> x ∈ s
 | [], _, _, h => by simp [split] at h
 | n :: r, s, t, h => by
  rcases List.mem_cons.1 h with rfl | h
  ·exact fun x hx => List.mem_of_mem_take hx
  ·exact fun x hx => List.mem_of_mem_drop (split_sub r _ t h x hx)
theorem in_bld : ∀ (f : Nat) (row : List Pl), (∀ k, k ∈ row -> k.In K) -> (bld f row).In K
 | 0, row, h => in_grp h
 | f + 1, row, h => by
  unfold bld
  split
  ·refine in_bld f _ fun q hq => ?_
   unfold rowUp at hq
   obtain ⟨t, ht, rfl⟩ := List.mem_map.1 hq
   exact in_grp fun k hk => h k (split_sub _ _ t ht k hk)
  ·exact in_grp h
theorem in_bldP (s : List UInt8) : (bldP s).In K := in_bld _ _ fun k hk => by
 obtain ⟨q, _, rfl⟩ := List.mem_map.1 hk
 exact .leaf
theorem in_rplP (hc : Cl A K) {t : Pl} (h : t.In K) (at_ n : Nat) (s : List UInt8) : (rplP A t at_ n s).In K := by
 unfold rplP
 split
 ·exact h
 ·have h1 := in_cutP hc t.ht t at_ h
  exact in_cnc hc (in_cnc hc h1.1 (in_bldP s)) (in_cutP hc _ _ n h1.2).2
end Go.Proofs.YtekhblefchceaaaGreat.AM

/- Law: the nodes below a node; those that a plan drops. -/
namespace Go.Proofs.YtekhblefchceaaaGreat.AM
open Go Go.Proofs
inductive Rch (A : Ar) : Nat -> Nat -> Prop where
 | refl (h : Nat) : Rch A h h
 | step {h j : Nat} {x : Nd} {k : Kd} (hg : A.get h = some x) (hk : k ∈ x.ks) (hr : Rch A k.h j) : Rch A h j
variable {A : Ar}
theorem Rch.trans {a b c : Nat} (h : Rch A a b) (h' : Rch A b c) : Rch A a c := by
 induction h with
 | refl => exact h'
 | step hg hk _ ih => exact .step hg hk (ih h')
theorem mem_nds (wf : A.WF) : ∀ (n h : Nat) (x : Nd), A.get h = some x -> x.ht = n -> ∀ j, (∃ e, e ∈ nds A n h /\ e.1 = j) ↔ Rch A h j := by
 intro n
 induction n using Nat.strongRecOn with
 | ind n ih =>
  intro h x hg hn j
  rw [nds_eq wf hg hn]
  constructor
  ·rintro ⟨e, he, rfl⟩
   rcases List.mem_cons.1 he with rfl | he
   ·exact .refl _
   ·obtain ⟨k, hk, he⟩ := List.mem_flatMap.1 he
    obtain ⟨y, y1, y2, _⟩ := (wf _ _ hg).2.2.2 k hk
    exact .step hg hk ((ih (n - 1) (by omega) k.h y y1 (by omega) e.1).1 ⟨e, he, rfl⟩)
  ·intro hr
   cases hr with
   | refl => exact ⟨_, List.mem_cons_self, rfl⟩
   | step hg2 hk hr =>
    rename_i x2 k
    rw [hg] at hg2; cases hg2
    obtain ⟨y, y1, y2, _⟩ := (wf _ _ hg).2.2.2 k hk
    obtain ⟨e, he, e1⟩ := (ih (n - 1) (by omega) k.h y y1 (by omega) j).2 hr
    exact ⟨e, List.mem_cons_of_mem _ (List.mem_flatMap.2 ⟨k, hk, he⟩), e1⟩
theorem mem_nodes (wf : A.WF) {r : Rt} (hr : RtOk A r) {j : Nat} : j ∈ nodes A r ↔ r.h ≠ 0 /\ Rch A r.h j := by
 unfold nodes
 rw [mem_hdl]
 unfold rns
 rcases hr with rfl | ⟨x, x1, x2, x3⟩
 ·simp [Rt.z]
 ·have := (wf _ _ x1).1.pos
  rw [if_neg (by omega), mem_nds wf _ _ x x1 x2]
  exact ⟨fun h => ⟨by omega, h⟩, fun h => h.2⟩
theorem rch_get (wf : A.WF) {h j : Nat} (hr : Rch A h j) {x : Nd} (hg : A.get h = some x) : ∃ y, A.get j = some y /\ y.ht <= x.ht := by
 induction hr generalizing x with
 | refl => exact ⟨x, hg, Nat.le_refl _⟩
 | step hg2 hk _ ih =>
  rw [hg] at hg2; cases hg2
  obtain ⟨y, y1, y2, _⟩ := (wf _ _ hg).2.2.2 _ hk
  obtain ⟨z, z1, z2⟩ := ih y1
  exact ⟨z, z1, by omega⟩
def Cd (A : Ar) (n : Nat) (S : List Nat) : Prop := ∀ h x, h ∈ S -> A.get h = some x -> x.ht <= n -> ∀ j, Rch A h j -> j ∈ S
theorem mem_bel (wf : A.WF) : ∀ (n h : Nat) (x : Nd), A.get h = some x -> x.ht = n -> ∀ S, Cd A n S -> (∀ j, j ∈ bel A n h S ↔ j ∈ S \/ Rch A h j) := by
 intro n
 induction n using Nat.strongRecOn with
 | ind n ih =>
  intro h x hg hn S hS j
  by_cases hm : h ∈ S
  ·rw [bel_in hm]
   exact ⟨.inl, fun e => e.elim id fun e => hS h x hm hg (by omega) j e⟩
  ·rw [bel_out wf hg hn hm]
   have key : ∀ (l : List Kd) (S' : List Nat), (∀ k, k ∈ l -> k ∈ x.ks) -> Cd A (n - 1) S' -> (∀ j, j ∈ belL A n l S' ↔ j ∈ S' \/ ∃ k, k ∈ l /\ Rch A k.h j) := by
    intro l
    induction l with
    | nil => intro S' _ _ j; simp [belL]
    | cons k l il =>
     intro S' hl hc j
     obtain ⟨y, y1, y2, _⟩ := (wf _ _ hg).2.2.2 k (hl k (by simp))
     have i1 := ih (n - 1) (by omega) k.h y y1 (by omega) S' hc
     have hc2 : Cd A (n - 1) (bel A (n - 1) k.h S') := by
      intro h2 x2 m2 g2 t2 j2 r2
      rw [i1] at m2 ⊢
      rcases m2 with m2 | m2
      ·exact .inl (hc h2 x2 m2 g2 t2 j2 r2)
      ·exact .inr (m2.trans r2)
     have i2 := il (bel A (n - 1) k.h S') (fun q hq => hl q (by simp [hq])) hc2 j
     have e : belL A n (k :: l) S' = belL A n l (bel A (n - 1) k.h S') := rfl
     rw [e, i2, i1]
     constructor
     ·rintro ((h | h) | ⟨q, h1, h2⟩)
      ·exact .inl h
      ·exact .inr ⟨k, by simp, h⟩
      ·exact .inr ⟨q, by simp [h1], h2⟩
     ·rintro (h | ⟨q, h1, h2⟩)
      ·exact .inl (.inl h)
      ·rcases List.mem_cons.1 h1 with rfl | h1
       ·exact .inl (.inr h2)
       ·exact .inr ⟨q, h1, h2⟩
   rw [key x.ks (S ++ [h]) (fun _ h => h) ?_ j]
   ·constructor
    ·rintro (h1 | ⟨k, h1, h2⟩)
     ·rcases List.mem_append.1 h1 with h1 | h1
      ·exact .inl h1
      ·rw [List.mem_singleton] at h1; subst h1; exact .inr (.refl _)
     ·exact .inr (.step hg h1 h2)
    ·rintro (h1 | h1)
     ·exact .inl (List.mem_append.2 (.inl h1))
     ·cases h1 with
      | refl => exact .inl (List.mem_append.2 (.inr (by simp)))
      | step hg2 hk hr =>
       rw [hg] at hg2; cases hg2
       exact .inr ⟨_, hk, hr⟩
   ·intro h2 x2 m2 g2 t2 j2 r2
    rcases List.mem_append.1 m2 with m2 | m2
    ·exact List.mem_append.2 (.inl (hS h2 x2 m2 g2 (by omega) j2 r2))
    ·rw [List.mem_singleton] at m2; subst m2
     rw [hg] at g2; cases g2
     have : n = 0 := by omega
     cases r2 with
     | refl => exact List.mem_append.2 (.inr (by simp))
     | step hg2 hk hr =>
      rw [hg] at hg2; cases hg2
      obtain ⟨y, y1, y2, _⟩ := (wf _ _ hg).2.2.2 _ hk
      omega
def Ca (A : Ar) (S : List Nat) : Prop := ∀ n, Cd A n S
theorem mem_bels (wf : A.WF) : ∀ (l S : List Nat), (∀ h, h ∈ l -> ∃ x, A.get h = some x) -> Ca A S -> (∀ j, j ∈ bels A l S ↔ j ∈ S \/ ∃ h, h ∈ l /\ Rch A h j)
 | [], S, _, _, j => by simp [bels]
 | h :: l, S, hl, hS, j => by
  obtain ⟨x, hx⟩ := hl h (by simp)
  have i1 := mem_bel wf x.ht h x hx rfl S (hS _)
  have hc2 : Ca A (bel A x.ht h S) := by
   intro n h2 x2 m2 g2 t2 j2 r2
   rw [i1] at m2 ⊢
   rcases m2 with m2 | m2
   ·exact .inl (hS n h2 x2 m2 g2 t2 j2 r2)
   ·exact .inr (m2.trans r2)
  have e : bels A (h :: l) S = bels A l (bel A x.ht h S) := by
   unfold bels
   rw [List.foldl_cons, hx]; rfl
  rw [e, mem_bels wf l _ (fun q hq => hl q (by simp [hq])) hc2 j, i1]
  constructor
  ·rintro ((h1 | h1) | ⟨q, h1, h2⟩)
   ·exact .inl h1
   ·exact .inr ⟨h, by simp, h1⟩
   ·exact .inr ⟨q, by simp [h1], h2⟩
  ·rintro (h1 | ⟨q, h1, h2⟩)
   ·exact .inl (.inl h1)
   ·rcases List.mem_cons.1 h1 with rfl | h1
    ·exact .inl (.inr h2)
    ·exact .inr ⟨q, h1, h2⟩
theorem mem_drp (wf : A.WF) {r : Rt} (hr : RtOk A r) {t : Pl} (ht : OkP A t) {j : Nat} : j ∈ drp A r t ↔ j ∈ nodes A r /\ ¬ ∃ h, h ∈ t.kp [] /\ Rch A h j := by
 have c0 : Ca A [] := fun _ _ _ h => by simp at h
 rw [mem_nodes wf hr]
 unfold drp
 by_cases h0 : r.h = 0
 ·rw [if_pos h0]; simp [h0]
 ·rw [if_neg h0, List.mem_filter]
  rcases id hr with e | ⟨x, x1, x2, x3⟩
  ·subst e; exact absurd rfl h0
  ·rw [mem_bel wf _ _ x x1 x2 [] (c0 _), Bool.not_eq_true', decide_eq_false_iff_not, mem_bels wf _ [] (kp_valid wf t ht [] (by simp)) c0]
   simp [h0]
theorem drp_len (wf : A.WF) {r : Rt} (hr : RtOk A r) (t : Pl) : (drp A r t).length <= 131072 := by
 unfold drp
 split
 ·simp
 ·refine Nat.le_trans (List.length_filter_le _ _) ?_
  rcases id hr with e | ⟨x, x1, x2, x3⟩
  ·subst e; rename_i h; exact absurd rfl h
  ·have := bel_len wf _ _ x x1 x2 []
   have := (wf _ _ x1).2.2.1
   simp only [List.length_nil] at *
   omega
end Go.Proofs.YtekhblefchceaaaGreat.AM

/- Law: what writing a plan makes of an arena. -/
namespace Go.Proofs.YtekhblefchceaaaGreat.AM
open Go Go.Proofs
theorem newAr_lv (n gens : Nat) (h1 : 1 <= n) (h2 : n <= 16384) (h3 : 1 <= gens) (h4 : gens < 4294967296) : (newAr n gens).Lv where
 ok := newAr_ok n gens h1 h2
 fl := fun h x hg => by simp [newAr, Ar.get] at hg
 nd := by
  refine List.Nodup.sublist (List.take_sublist _ _) ?_
  simp only [newAr]
  refine List.nodup_iff_pairwise_ne.2 (List.pairwise_map.2 ?_)
  have hr := List.nodup_iff_pairwise_ne.1 (List.nodup_range (n := n))
  refine List.Pairwise.imp_of_mem (fun {a b} ha hb hne e => ?_) hr
  rw [List.mem_range] at ha hb
  omega
 lv := fun h x hg => by simp [newAr, Ar.get] at hg
 nk := by simp [newAr]
 gm := fun g hg => by simp [newAr, List.mem_replicate] at hg ⊢; omega
 mm := h4
theorem Ar.Lv.put {A : Ar} (l : A.Lv) {x : Nd} (g' : (A.put x).Good) (hk : 0 < A.k) (hfr : A.get A.hd = none) : (A.put x).Lv where
 ok := g'.ok
 fl := g'.fl
 nd := g'.nd
 lv := fun h y hg => by
  have hsl := l.ok.slot_lt hk
  rw [Ar.put_get] at hg
  have ss : ∀ i, A.sts.getD i 0 = 1 -> (A.put x).sts.getD i 0 = 1 := fun i hi => by
   show (A.sts.set A.slot 1).getD i 0 = 1
   rw [List.getD_eq_getElem?_getD] at hi ⊢
   rw [List.getElem?_set]
   split
   ·split
    ·rfl
    ·rename_i h1 h2
     exact absurd (by rw [l.ok.c2]; exact hsl) h2
   ·exact hi
  cases ho : A.get h with
  | some z =>
   have := l.lv h z ho
   exact ⟨this.ho, this.lt, ss _ this.st, this.gn⟩
  | none =>
   rw [ho] at hg
   by_cases e : A.hd = h
   ·subst e
    have e1 := Ar.hd_slot l.ok hk
    refine ⟨Ar.hd_ok l.ok hk, by rw [e1]; exact hsl, ?_, ?_⟩
    ·rw [e1]
     show (A.sts.set A.slot 1).getD A.slot 0 = 1
     rw [List.getD_eq_getElem?_getD, List.getElem?_set, if_pos rfl, if_pos (by rw [l.ok.c2]; exact hsl)]; rfl
    ·rw [e1]
     have := l.ok.n1
     show A.gens.getD A.slot 0 = A.hd / 65536
     unfold Ar.hd; omega
   ·simp only [if_neg e] at hg; cases hg
 nk := by
  show ((A.es ++ [(A.hd, x, A.ck)]).map (·.1)).Nodup
  rw [List.map_append, List.nodup_append]
  refine ⟨l.nk, by simp, fun a ha b hb e => ?_⟩
  simp only [List.map_cons, List.map_nil, List.mem_singleton] at hb
  subst hb; subst e
  exact Ar.get_none hfr ha
 gm := l.gm
 mm := l.mm
inductive Kept : Nat -> Pl -> Prop where
 | kept {h ht : Nat} {m : Ms} : Kept h (.kept h ht m)
 | inner {h ht : Nat} {ks : List Pl} {k : Pl} (hk : k ∈ ks) (hh : Kept h k) : Kept h (.inner ht ks)
theorem Kept.get {A : Ar} {h : Nat} {t : Pl} (hk : Kept h t) : ∀ {b : Bool} {n : Nat}, Val A b n t -> ∃ x, A.get h = some x := by
 induction hk with
 | kept => intro b n hv; cases hv with | kept hg e1 e2 e3 => exact ⟨_, hg⟩
 | inner hk _ ih => intro b n hv; cases hv with | inner h1 h2 h3 h4 => exact ih (h4 _ hk)
theorem rch_mono {A B : Ar} (wf : A.WF) (hs : A.sub B) {h j : Nat} {x : Nd} (hg : A.get h = some x) : Rch B h j ↔ Rch A h j := by
 constructor
 ·intro hr
  induction hr generalizing x with
  | refl => exact .refl _
  | step hg2 hk _ ih =>
   rw [hs _ _ hg] at hg2; cases hg2
   obtain ⟨y, y1, _⟩ := (wf _ _ hg).2.2.2 _ hk
   exact .step hg hk (ih y1)
 ·intro hr
  induction hr generalizing x with
  | refl => exact .refl _
  | step hg2 hk _ ih =>
   obtain ⟨y, y1, _⟩ := (wf _ _ hg2).2.2.2 _ hk
   exact .step (hs _ _ hg2) hk (ih y1)
structure WrV (A : Ar) (fr : List Nat) (B : Ar) (K : Nat -> Prop) (R : List Nat) : Prop where
 lv : B.Lv
 nd : fr.Nodup
 no : ∀ h, h ∈ fr -> A.get h = none
 yes : ∀ h, (∃ x, B.get h = some x) ↔ (∃ x, A.get h = some x) \/ h ∈ fr
 rc : ∀ j, (∃ h, h ∈ R /\ Rch B h j) ↔ j ∈ fr \/ ∃ h, K h /\ Rch A h j
theorem wrL_v {n : Nat} : ∀ (l : List Pl) (A : Ar), A.Good -> A.Lv -> (∀ k, k ∈ l -> Val A false n k) -> (∀ k, k ∈ l -> k.bytes <= 65536) -> nnewL l <= A.k ->
  (∀ k, k ∈ l -> ∀ B : Ar, B.Good -> B.Lv -> Val B false n k -> k.nnew <= B.k -> WrV B (wrP B k).2.2 (wrP B k).1 (fun h => Kept h k) [(wrP B k).2.1.h]) -> WrV A (wrL A l).2.2 (wrL A l).1 (fun h => ∃ k, k ∈ l /\ Kept h k) ((wrL A l).2.1.map (·.h))
 | [], A, g, lv, hv, hb, hk, ih => ⟨lv, by simp [wrL], fun h hh => by simp [wrL] at hh, fun h => by simp [wrL], fun j => by simp [wrL]⟩
 | p :: l, A, g, lv, hv, hb, hk, ih => by
  simp only [nnewL] at hk
  have h1 := wrP_spec p A false n g (hv p (by simp)) (hb p (by simp)) (by omega)
  have v1 := ih p (by simp) A g lv (hv p (by simp)) (by omega)
  have hk1 := h1.k
  have hvl : ∀ k, k ∈ l -> Val (wrP A p).1 false n k := fun k hk => (hv k (by simp [hk])).mono h1.s
  have h2 := wrL_spec l (wrP A p).1 h1.g hvl (by omega) (fun k hk B gB vB kB => wrP_spec k B false n gB vB (hb k (by simp [hk])) kB)
  have v2 := wrL_v l (wrP A p).1 h1.g v1.lv hvl (fun k hk => hb k (by simp [hk])) (by omega) (fun k hk => ih k (by simp [hk]))
  obtain ⟨x, x1, x2, x3⟩ := h1.at_
  refine ⟨v2.lv, ?_, fun h hh => ?_, fun h => ?_, fun j => ?_⟩
  ·simp only [wrL]
   rw [List.nodup_append]
   refine ⟨v1.nd, v2.nd, fun a ha b hb e => ?_⟩
   subst e
   obtain ⟨y, hy⟩ := (v1.yes a).2 (.inr ha)
   rw [v2.no a hb] at hy; cases hy
  ·simp only [wrL] at hh
   rcases List.mem_append.1 hh with hh | hh
   ·exact v1.no h hh
   ·cases e : A.get h with
    | none => rfl
    | some y => have := v2.no h hh; rw [h1.s _ _ e] at this; cases this
  ·simp only [wrL]
   rw [v2.yes, v1.yes, List.mem_append]
   exact or_assoc
  ·simp only [wrL, List.map_cons]
   have e1 : Rch (wrL (wrP A p).1 l).1 (wrP A p).2.1.h j ↔ Rch (wrP A p).1 (wrP A p).2.1.h j := rch_mono h1.g.wf h2.s x1
   have e2 := v1.rc j
   have e3 := v2.rc j
   simp only [List.mem_singleton, exists_eq_left] at e2
   rw [List.mem_append]
   constructor
   ·rintro ⟨h, hh, hr⟩
    rcases List.mem_cons.1 hh with rfl | hh
    ·rcases e2.1 (e1.1 hr) with q | ⟨h, q1, q2⟩
     ·exact .inl (.inl q)
     ·exact .inr ⟨h, ⟨p, by simp, q1⟩, q2⟩
    ·rcases e3.1 ⟨h, hh, hr⟩ with q | ⟨h, ⟨k, q0, q1⟩, q2⟩
     ·exact .inl (.inr q)
     ·obtain ⟨y, hy⟩ := q1.get (hv k (by simp [q0]))
      exact .inr ⟨h, ⟨k, by simp [q0], q1⟩, (rch_mono g.wf h1.s hy).1 q2⟩
   ·rintro ((q | q) | ⟨h, ⟨k, q0, q1⟩, q2⟩)
    ·exact ⟨_, List.mem_cons_self, e1.2 (e2.2 (.inl q))⟩
    ·obtain ⟨h, hh, hr⟩ := e3.2 (.inl q)
     exact ⟨h, List.mem_cons_of_mem _ hh, hr⟩
    ·rcases List.mem_cons.1 q0 with rfl | q0
     ·exact ⟨_, List.mem_cons_self, e1.2 (e2.2 (.inr ⟨h, q1, q2⟩))⟩
     ·obtain ⟨y, hy⟩ := q1.get (hv k (by simp [q0]))
      obtain ⟨h', hh, hr⟩ := e3.2 (.inr ⟨h, ⟨k, q0, q1⟩, (rch_mono g.wf h1.s hy).2 q2⟩)
      exact ⟨h', List.mem_cons_of_mem _ hh, hr⟩
theorem put_yes {A : Ar} (x : Nd) (h : Nat) : (∃ y, (A.put x).get h = some y) ↔ (∃ y, A.get h = some y) \/ h = A.hd := by
 rw [Ar.put_get]
 cases A.get h with
 | some y => simp
 | none =>
  by_cases e : A.hd = h
  ·simp [e]
  ·simp [e, Ne.symm e]
theorem wrP_v (t : Pl) : ∀ (A : Ar) (b : Bool) (n : Nat), A.Good -> A.Lv -> Val A b n t -> t.bytes <= 65536 -> t.nnew <= A.k -> WrV A (wrP A t).2.2 (wrP A t).1 (fun h => Kept h t) [(wrP A t).2.1.h] := by
 refine Pl.ind (M := fun t => ∀ (A : Ar) (b : Bool) (n : Nat), A.Good -> A.Lv -> Val A b n t -> t.bytes <= 65536 -> t.nnew <= A.k -> WrV A (wrP A t).2.2 (wrP A t).1 (fun h => Kept h t) [(wrP A t).2.1.h]) (fun t ih A b n g lv hv hb hk => ?_) t
 have hsp := wrP_spec t A b n g hv hb hk
 cases hv with
 | kept hg e1 e2 e3 =>
  rename_i h m x
  refine ⟨lv, by simp [wrP], fun h hh => by simp [wrP] at hh, fun h => by simp [wrP], fun j => ?_⟩
  simp only [wrP, List.mem_singleton, exists_eq_left, List.not_mem_nil, false_or]
  exact ⟨fun h => ⟨_, .kept, h⟩, fun ⟨_, h1, h2⟩ => by cases h1; exact h2⟩
 | leaf h1 h2 h3 =>
  rename_i s
  simp only [Pl.nnew] at hk
  have hfr := g.fresh (by omega)
  refine ⟨lv.put hsp.g (by omega) hfr, by simp [wrP], fun h hh => ?_, fun h => ?_, fun j => ?_⟩
  ·simp only [wrP, List.mem_singleton] at hh; subst hh; exact hfr
  ·simp only [wrP, List.mem_singleton]; exact put_yes _ h
  ·simp only [wrP, List.mem_singleton, exists_eq_left]
   constructor
   ·intro hr
    cases hr with
    | refl => exact .inl rfl
    | step hg hk _ => rw [Ar.put_get, hfr] at hg; simp at hg; subst hg; simp at hk
   ·rintro (rfl | ⟨h, h1, _⟩)
    ·exact .refl _
    ·cases h1
 | inner h1 h2 h3 h4 =>
  rename_i n ks
  simp only [Pl.nnew] at hk
  simp only [Pl.bytes] at hb
  have hbk : ∀ k, k ∈ ks -> k.bytes <= 65536 := fun k hk => by
   have : k.bytes <= bytesL ks := by rw [bytesL_eq]; exact le_sum_mem (List.mem_map_of_mem hk)
   omega
  have hw := wrL_spec ks A g h4 (by omega) (fun k hk B gB vB kB => wrP_spec k B false n gB vB (hbk k hk) kB)
  have wv := wrL_v ks A g lv h4 hbk (by omega) (fun k hk B gB lB vB kB => ih k hk B false n gB lB vB (hbk k hk) kB)
  have hkk := hw.k
  have hfr := hw.g.fresh (by omega)
  have ho := (inner_ok g h4 h2 h3 h1 hb hw).2.2.2
  refine ⟨wv.lv.put hsp.g (by omega) hfr, ?_, fun h hh => ?_, fun h => ?_, fun j => ?_⟩
  ·simp only [wrP]
   rw [List.nodup_append]
   refine ⟨wv.nd, by simp, fun a ha b hb e => ?_⟩
   rw [List.mem_singleton] at hb
   subst hb; subst e
   obtain ⟨y, hy⟩ := (wv.yes _).2 (.inr ha)
   rw [hfr] at hy; cases hy
  ·simp only [wrP] at hh
   rcases List.mem_append.1 hh with hh | hh
   ·exact wv.no h hh
   ·rw [List.mem_singleton] at hh; subst hh
    cases e : A.get (wrL A ks).1.hd with
    | none => rfl
    | some y => rw [hw.s _ _ e] at hfr; cases hfr
  ·simp only [wrP, List.mem_append, List.mem_singleton]
   rw [put_yes, wv.yes]
   exact or_assoc
  ·simp only [wrP, List.mem_singleton, exists_eq_left, List.mem_append]
   have e3 := wv.rc j
   have em : ∀ h, h ∈ (wrL A ks).2.1.map (·.h) -> (Rch ((wrL A ks).1.put ⟨n + 1, [], (wrL A ks).2.1.map Rt.kd⟩) h j ↔ Rch (wrL A ks).1 h j) := fun h hh => by
    obtain ⟨r, hr, rfl⟩ := List.mem_map.1 hh
    obtain ⟨y, y1, _⟩ := ho r.kd (List.mem_map_of_mem hr)
    exact rch_mono hw.g.wf (Ar.put_sub _) y1
   constructor
   ·intro hr
    cases hr with
    | refl => exact .inl (.inr rfl)
    | step hg hk hr =>
     rw [Ar.put_get, hfr] at hg
     simp only [if_true, Option.some.injEq] at hg
     subst hg
     obtain ⟨r, hr', rfl⟩ := List.mem_map.1 hk
     have hm : r.h ∈ (wrL A ks).2.1.map (·.h) := List.mem_map_of_mem hr'
     rcases e3.1 ⟨r.h, hm, (em _ hm).1 hr⟩ with q | ⟨h, ⟨k, q0, q1⟩, q2⟩
     ·exact .inl (.inl q)
     ·exact .inr ⟨h, .inner q0 q1, q2⟩
   ·intro hq
    have hstep : (∃ h, h ∈ (wrL A ks).2.1.map (·.h) /\ Rch (wrL A ks).1 h j) -> Rch ((wrL A ks).1.put ⟨n + 1, [], (wrL A ks).2.1.map Rt.kd⟩) (wrL A ks).1.hd j := by
     rintro ⟨h, hh, hr⟩
     have hr' := (em h hh).2 hr
     obtain ⟨r, hm, rfl⟩ := List.mem_map.1 hh
     exact .step (x := ⟨n + 1, [], (wrL A ks).2.1.map Rt.kd⟩) (by rw [Ar.put_get, hfr]; simp) (List.mem_map_of_mem hm) hr'
    rcases hq with (q | rfl) | ⟨h, q1, q2⟩
    ·exact hstep (e3.2 (.inl q))
    ·exact .refl _
    ·cases q1 with
     | inner hk hh => exact hstep (e3.2 (.inr ⟨h, ⟨_, hk, hh⟩, q2⟩))
end Go.Proofs.YtekhblefchceaaaGreat.AM

/- Law: an edit's new rope, its fresh and its dropped nodes. -/
namespace Go.Proofs.YtekhblefchceaaaGreat.AM
open Go Go.Proofs
theorem mem_fins {x : Nat} : ∀ (D S : List Nat), x ∈ D.foldl ins S ↔ x ∈ S \/ x ∈ D
 | [], S => by simp
 | d :: D, S => by rw [List.foldl_cons, mem_fins D, mem_ins, List.mem_cons, or_assoc]
theorem mem_kp (t : Pl) : (∀ h, Kept h t -> h ≠ 0) -> ∀ (S : List Nat) (x : Nat), x ∈ t.kp S ↔ x ∈ S \/ Kept x t := by
 refine Pl.ind (M := fun t => (∀ h, Kept h t -> h ≠ 0) -> ∀ (S : List Nat) (x : Nat), x ∈ t.kp S ↔ x ∈ S \/ Kept x t) (fun t ih h0 S x => ?_) t
 have key : ∀ (l : List Pl), (∀ k, k ∈ l -> k ∈ t.ks) -> (∀ k, k ∈ l -> ∀ h, Kept h k -> h ≠ 0) -> ∀ S, x ∈ kpL l S ↔ x ∈ S \/ ∃ k, k ∈ l /\ Kept x k := by
  intro l
  induction l with
  | nil => intro _ _ S; simp [kpL]
  | cons k l il =>
   intro hl hz S
   simp only [kpL]
   rw [il (fun q hq => hl q (by simp [hq])) (fun q hq => hz q (by simp [hq])), ih k (hl k (by simp)) (hz k (by simp))]
   simp only [List.mem_cons, exists_eq_or_imp]
   exact or_assoc
 cases t with
 | emp => simp only [Pl.kp]; exact ⟨.inl, fun h => h.elim id fun h => by cases h⟩
 | leaf s => simp only [Pl.kp]; exact ⟨.inl, fun h => h.elim id fun h => by cases h⟩
 | kept h ht m =>
  have := h0 h .kept
  simp only [Pl.kp, if_neg this]
  rw [mem_ins]
  exact ⟨fun h => h.imp id fun e => by subst e; exact .kept, fun h => h.imp id fun e => by cases e; rfl⟩
 | inner ht ks =>
  simp only [Pl.kp]
  rw [key ks (fun _ h => h) (fun k hk h hh => h0 h (.inner hk hh)) S]
  exact ⟨fun h => h.imp id fun ⟨k, h1, h2⟩ => .inner h1 h2, fun h => h.imp id fun h => by cases h with | inner h1 h2 => exact ⟨_, h1, h2⟩⟩
structure Wro (A : Ar) (T : Pl) (W : Ar × Rt × List Nat) : Prop where
 g : W.1.Good
 lv : W.1.Lv
 s : A.sub W.1
 rt : RtOk W.1 W.2.1
 tx : W.2.1.txt W.1 = T.txt A
 k : W.1.k = A.k - T.nnew
 fl : W.2.2.length = T.nnew
 nd : W.2.2.Nodup
 no : ∀ h, h ∈ W.2.2 -> A.get h = none
 yes : ∀ h, (∃ x, W.1.get h = some x) ↔ (∃ x, A.get h = some x) \/ h ∈ W.2.2
 rc : ∀ j, j ∈ nodes W.1 W.2.1 ↔ j ∈ W.2.2 \/ ∃ h, Kept h T /\ Rch A h j
theorem wro {A : Ar} (g : A.Good) (lv : A.Lv) {T : Pl} (hT : OkP A T) (hb : T.bytes <= 65536) (hk : T.nnew <= A.k) : Wro A T (wrP A T) := by
 rcases hT with rfl | ⟨n, hv⟩
 ·refine ⟨g, lv, Ar.sub.refl A, .inl rfl, rfl, rfl, rfl, by simp [wrP], fun h hh => by simp [wrP] at hh, fun h => by simp [wrP], fun j => ?_⟩
  simp only [wrP]
  rw [mem_nodes g.wf (.inl rfl)]
  simp only [List.not_mem_nil, false_or]
  exact ⟨fun h => absurd rfl h.1, fun ⟨h, h1, _⟩ => by cases h1⟩
 ·have hw := wrP_spec T A true n g hv (by omega) hk
  have v := wrP_v T A true n g lv hv (by omega) hk
  obtain ⟨x, x1, x2, x3⟩ := hw.at_
  have hp := (hw.g.wf _ _ x1).1.pos
  have hr : RtOk (wrP A T).1 (wrP A T).2.1 := .inr ⟨x, x1, x2.trans hw.ht.symm, x3.trans hw.m.symm⟩
  refine ⟨hw.g, v.lv, hw.s, hr, ?_, hw.k, hw.len, v.nd, v.no, v.yes, fun j => ?_⟩
  ·unfold Rt.txt
   rw [Rt.pl, if_neg (by omega)]
   simp only [Pl.txt, hw.ht]
   exact hw.tx
  ·have := v.rc j
   simp only [List.mem_singleton, exists_eq_left] at this
   rw [mem_nodes hw.g.wf hr, this]
   exact ⟨fun h => h.2, fun h => ⟨by omega, h⟩⟩
theorem kept_get {A : Ar} {T : Pl} (hT : OkP A T) {h : Nat} (hk : Kept h T) : ∃ x, A.get h = some x := by
 rcases hT with rfl | ⟨n, hv⟩
 ·cases hk
 ·exact hk.get hv
theorem nodes_get {A : Ar} (wf : A.WF) {r : Rt} (hr : RtOk A r) {j : Nat} (hj : j ∈ nodes A r) : ∃ x, A.get j = some x := by
 obtain ⟨h0, hc⟩ := (mem_nodes wf hr).1 hj
 rcases hr with rfl | ⟨x, x1, _⟩
 ·exact absurd rfl h0
 ·obtain ⟨y, y1, _⟩ := rch_get wf hc x1
  exact ⟨y, y1⟩
theorem law_old {A : Ar} (g : A.Good) {T : Pl} (hT : OkP A T) (W : Wro A T (wrP A T)) {r : Rt} (hr : RtOk A r) {o : Nat} (ho : o ∈ nodes A r) :
  (o ∈ nodes (wrP A T).1 (wrP A T).2.1 ↔ ¬ o ∈ drp A r T) /\ ¬ o ∈ (wrP A T).2.2 := by
 obtain ⟨x, hx⟩ := nodes_get g.wf hr ho
 have hf : ¬ o ∈ (wrP A T).2.2 := fun h => by rw [W.no o h] at hx; cases hx
 refine ⟨?_, hf⟩
 have h0 : ∀ h, Kept h T -> h ≠ 0 := fun h hk e => by
  obtain ⟨y, hy⟩ := kept_get hT hk
  have := (g.wf _ _ hy).1.pos
  omega
 rw [W.rc, mem_drp g.wf hr hT]
 have : (∃ h, h ∈ T.kp [] /\ Rch A h o) ↔ ∃ h, Kept h T /\ Rch A h o := by
  constructor <;> rintro ⟨h, h1, h2⟩
  ·exact ⟨h, ((mem_kp T h0 [] h).1 h1).resolve_left (by simp), h2⟩
  ·exact ⟨h, (mem_kp T h0 [] h).2 (.inr h1), h2⟩
 rw [this]
 simp [hf, ho]
theorem in_kept {K : Nat -> Prop} {T : Pl} (h : T.In K) {x : Nat} (hx : Kept x T) : K x := by
 induction hx with
 | kept => cases h; assumption
 | inner hk _ ih => cases h with | inner h => exact ih (h _ hk)
theorem law_new {A : Ar} (g : A.Good) {T : Pl} (hT : OkP A T) (W : Wro A T (wrP A T)) {r : Rt} (hr : RtOk A r) (hI : T.In (fun h => h ∈ nodes A r)) {x : Nat} (hx : x ∈ nodes (wrP A T).1 (wrP A T).2.1) :
  x ∈ nodes A r ↔ ¬ x ∈ (wrP A T).2.2 := by
 constructor
 ·exact fun h => (law_old g hT W hr h).2
 ·intro hf
  rw [W.rc] at hx
  obtain ⟨h, h1, h2⟩ := hx.resolve_left hf
  have := (mem_nodes g.wf hr).1 (in_kept hI h1)
  exact (mem_nodes g.wf hr).2 ⟨this.1, this.2.trans h2⟩
theorem rpl_in {A : Ar} (wf : A.WF) {r : Rt} (hr : RtOk A r) (at_ n : Nat) (s : List UInt8) : (rplP A r.pl at_ n s).In (fun h => h ∈ nodes A r) := by
 have hc : Cl A (fun h => h ∈ nodes A r) := fun h x hh hg k hk => by
  have := (mem_nodes wf hr).1 hh
  exact (mem_nodes wf hr).2 ⟨this.1, this.2.trans (.step hg hk (.refl _))⟩
 refine in_rplP hc ?_ at_ n s
 unfold Rt.pl
 split
 ·exact .emp
 ·rename_i h
  exact .kept ((mem_nodes wf hr).2 ⟨h, .refl _⟩)
end Go.Proofs.YtekhblefchceaaaGreat.AM

/- Law: how many nodes a plan is; what is left after Undo. -/
namespace Go.Proofs.YtekhblefchceaaaGreat.AM
open Go Go.Proofs
theorem nnewL_c : ∀ {l : List Pl}, (∀ k, k ∈ l -> k.nnew + 1 <= 2 * (k.bytes / 8)) -> nnewL l + l.length <= 2 * ((l.map Pl.bytes).sum / 8)
 | [], _ => by simp [nnewL]
 | k :: l, h => by
  have h1 := h k (by simp)
  have h2 := nnewL_c (l := l) fun q hq => h q (by simp [hq])
  simp only [nnewL, List.length_cons, List.map_cons, List.sum_cons]
  omega
theorem Val.nnew_c {A : Ar} (wf : A.WF) {b : Bool} {n : Nat} {t : Pl} (h : Val A b n t) : (b = false \/ n ≠ 0 -> t.nnew + 1 <= 2 * (t.bytes / 8)) /\ t.nnew <= 2 * (t.bytes / 8) + 1 := by
 have hb := h.bytes wf
 induction h with
 | kept hg e1 e2 e3 =>
  rename_i t n h m x
  refine ⟨fun hc => ?_, by simp only [Pl.nnew]; omega⟩
  have h8 : 8 <= (Pl.kept h n m).bytes := by
   by_cases hn : n = 0
   ·have := hc.resolve_right (by omega)
    have := e3.resolve_left (by simp [this]) |>.resolve_left (by omega)
    simpa [Pl.bytes] using this
   ·have := Val.least wf (Val.kept (t := false) hg e1 e2 (.inr (.inl hn)))
    have h2 : 2 ^ 1 <= 2 ^ n := Nat.pow_le_pow_right (by omega) (by omega)
    omega
  simp only [Pl.nnew]; omega
 | leaf h1 h2 h3 =>
  rename_i t s
  refine ⟨fun hc => ?_, by simp only [Pl.nnew]; omega⟩
  have := h3.resolve_left (by have := hc.resolve_right (by omega); simp [this])
  simp only [Pl.nnew, Pl.bytes]; omega
 | inner h1 h2 h3 h4 ih =>
  rename_i t n ks
  have := nnewL_c (l := ks) fun k hk => (ih k hk ((h4 k hk).bytes wf)).1 (.inl rfl)
  have e : (Pl.inner (n + 1) ks).bytes = (ks.map Pl.bytes).sum := by rw [Pl.bytes_eq]; simp [Pl.ks, Pl.m, Pl.tx, Ms.z]
  simp only [Pl.nnew]
  rw [e]
  omega
theorem OkP.nnew_c {A : Ar} (wf : A.WF) {t : Pl} (h : OkP A t) : t.nnew <= 2 * (t.bytes / 8) + 1 := by
 rcases h with rfl | ⟨n, h⟩
 ·simp [Pl.nnew]
 ·exact (h.nnew_c wf).2
theorem undo_good {A : Ar} (g : A.Good) {T : Pl} (W : Wro A T (wrP A T)) : ((wrP A T).1.undo (wrP A T).2.2).Good /\ ((wrP A T).1.undo (wrP A T).2.2).Lv /\ A.sub ((wrP A T).1.undo (wrP A T).2.2) /\ A.k - T.nnew <= ((wrP A T).1.undo (wrP A T).2.2).k := by
 obtain ⟨u1, u2, u3⟩ := undo_lv W.lv (wrP A T).2.2 W.nd fun h hh => (W.yes h).2 (.inr hh)
 have hs : A.sub ((wrP A T).1.undo (wrP A T).2.2) := fun h x hx => by
  rw [u3, if_neg (fun hf => by rw [W.no h hf] at hx; cases hx)]
  exact W.s _ _ hx
 have hb : ∀ h x, ((wrP A T).1.undo (wrP A T).2.2).get h = some x -> A.get h = some x := fun h x hx => by
  rw [u3] at hx
  split at hx
  ·cases hx
  ·rename_i hf
   obtain ⟨y, hy⟩ := ((W.yes h).1 ⟨x, hx⟩).resolve_right hf
   have := W.s _ _ hy
   rw [hx] at this; cases this; exact hy
 have hk := W.k
 refine ⟨⟨u1.ok, fun h x hx => ?_, u1.fl, u1.nd⟩, u1, hs, by omega⟩
 obtain ⟨w1, w2, w3, w4⟩ := g.wf h x (hb h x hx)
 exact ⟨w1, w2, w3, fun k hk => by obtain ⟨y, y1, y2⟩ := w4 k hk; exact ⟨y, hs _ _ y1, y2⟩⟩
end Go.Proofs.YtekhblefchceaaaGreat.AM

