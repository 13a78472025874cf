/- Joined: D21, D22, D23, D24. -/
import Derived.Test.YtekhblefchceaaaGreatDF
set_option linter.unusedVariables false
set_option linter.unusedSimpArgs false
/- Plain laws: what an arena is once the new nodes of a plan are written. -/
set_option maxRecDepth 20000
namespace Go.Proofs.YtekhblefchceaaaGreat.AM
open Go Go.Proofs
structure Ar.Good (A : Ar) : Prop where
 ok : A.ok
 wf : A.WF
 fl : ∀ h x, A.get h = some x -> ∀ s, s ∈ A.cells.take A.k -> h % 65536 ≠ s
 nd : (A.cells.take A.k).Nodup
theorem Ar.slot_mem {A : Ar} (ok : A.ok) (hk : 0 < A.k) : A.slot ∈ A.cells.take A.k := by
 have hlt : A.k - 1 < A.cells.length := by rw [ok.c1]; have := ok.kn; omega
 have : (A.cells.take A.k)[A.k - 1]? = some A.slot := by
  rw [List.getElem?_take, if_pos (by omega), List.getElem?_eq_getElem hlt]
  simp [Ar.slot, List.getD_eq_getElem?_getD, hlt]
 exact List.mem_of_getElem? this
theorem Ar.hd_slot {A : Ar} (ok : A.ok) (hk : 0 < A.k) : A.hd % 65536 = A.slot := by
 have := ok.slot_lt hk
 have := ok.n1
 unfold Ar.hd
 omega
theorem Ar.hd_ok {A : Ar} (ok : A.ok) (hk : 0 < A.k) : hOk A.hd := by
 have h1 := ok.slot_lt hk
 have h2 := ok.n1
 have h3 := ok.gen h1
 have h4 := Ar.hd_slot ok hk
 have h5 : A.hd / 65536 = A.gens.getD A.slot 0 := by unfold Ar.hd; omega
 exact ⟨by omega, by omega, by omega⟩
theorem Ar.Good.fresh {A : Ar} (g : A.Good) (hk : 0 < A.k) : A.get A.hd = none := by
 cases h : A.get A.hd with
 | none => rfl
 | some x => exact absurd (Ar.hd_slot g.ok hk) (g.fl _ _ h _ (Ar.slot_mem g.ok hk))
theorem Ar.put_get {A : Ar} (x : Nd) (h : Nat) : (A.put x).get h = match A.get h with | some y => some y | none => if A.hd = h then some x else none := by
 unfold Ar.get Ar.put
 simp only [List.find?_append]
 cases hf : A.es.find? fun e => e.1 == h with
 | some e => rfl
 | none =>
  simp only [Option.none_or, Option.map_none]
  by_cases e : A.hd = h
  ·rw [List.find?_cons_of_pos (by simpa using e), if_pos e]; rfl
  ·rw [List.find?_cons_of_neg (by simpa using e), if_neg e]; rfl
theorem Ar.put_sub {A : Ar} (x : Nd) : A.sub (A.put x) := fun h y e => by rw [Ar.put_get, e]
theorem Ar.Good.put {A : Ar} (g : A.Good) (hk : 0 < A.k) {x : Nd} (hx : x.ok) (hb : x.ms.b <= 65536) (hks : ∀ k, k ∈ x.ks -> ∃ y, A.get k.h = some y /\ y.ht + 1 = x.ht /\ y.ms = k.m) : (A.put x).Good /\ (A.put x).get A.hd = some x /\ (A.put x).k = A.k - 1 := by
 have hfr := g.fresh hk
 have hkn := g.ok.kn
 have hc1 := g.ok.c1
 have e1 : (A.put x).cells.take (A.put x).k = (A.cells.take A.k).dropLast := by
  show A.cells.take (A.k - 1) = _
  rw [List.dropLast_eq_take, List.length_take, List.take_take]; congr 1; omega
 have e2 : A.cells.take A.k = (A.cells.take A.k).dropLast ++ [A.slot] := by
  have hlt : A.k - 1 < A.cells.length := by omega
  have : A.cells[A.k - 1]? = some A.slot := by
   rw [List.getElem?_eq_getElem hlt]; simp [Ar.slot, List.getD_eq_getElem?_getD, hlt]
  have e0 : (A.cells.take A.k).dropLast = A.cells.take (A.k - 1) := by rw [List.dropLast_eq_take, List.length_take, List.take_take]; congr 1; omega
  rw [e0, <- take_succ_get this]
  congr 1; omega
 refine ⟨⟨⟨hc1, ?_, g.ok.c3, by show A.k - 1 <= A.n; omega, g.ok.n1, g.ok.cl, g.ok.g1⟩, fun h y hy => ?_, fun h y hy s hs => ?_, ?_⟩, ?_, rfl⟩
 ·show (A.sts.set A.slot 1).length = A.n
  rw [List.length_set]; exact g.ok.c2
 ·rw [Ar.put_get] at hy
  have up : ∀ z : Nd, (∀ k, k ∈ z.ks -> ∃ y, A.get k.h = some y /\ y.ht + 1 = z.ht /\ y.ms = k.m) -> ∀ k, k ∈ z.ks -> ∃ y, (A.put x).get k.h = some y /\ y.ht + 1 = z.ht /\ y.ms = k.m := fun z hz k hk => by
   obtain ⟨w, h1, h2⟩ := hz k hk
   exact ⟨w, Ar.put_sub x _ _ h1, h2⟩
  cases hg : A.get h with
  | some z =>
   rw [hg] at hy
   cases hy
   obtain ⟨w1, w2, w3, w4⟩ := g.wf h _ hg
   exact ⟨w1, w2, w3, up _ w4⟩
  | none =>
   rw [hg] at hy
   by_cases e : A.hd = h
   ·simp only [if_pos e] at hy
    cases hy
    subst e
    exact ⟨Ar.hd_ok g.ok hk, hx, hb, up x hks⟩
   ·simp only [if_neg e] at hy; cases hy
 ·rw [e1] at hs
  rw [Ar.put_get] at hy
  cases hg : A.get h with
  | some z => exact g.fl h z hg s (by rw [e2]; exact List.mem_append_left _ hs)
  | none =>
   rw [hg] at hy
   by_cases e : A.hd = h
   ·subst e
    rw [Ar.hd_slot g.ok hk]
    have := g.nd
    rw [e2, List.nodup_append] at this
    exact fun e => this.2.2 s hs A.slot (by simp) e.symm
   ·simp only [if_neg e] at hy; cases hy
 ·rw [e1]
  have := g.nd
  rw [e2, List.nodup_append] at this
  exact this.1
 ·rw [Ar.put_get, hfr]; simp
def Rt.kd (r : Rt) : Kd := ⟨r.h, r.m⟩
mutual
noncomputable def wrP (A : Ar) : Pl -> Ar × Rt × List Nat
 | .emp => (A, Rt.z, [])
 | .kept h ht m => (A, ⟨h, ht, m⟩, [])
 | .leaf s => (A.put ⟨0, s, []⟩, ⟨A.hd, 0, msOf s⟩, [A.hd])
 | .inner ht ks => ((wrL A ks).1.put ⟨ht, [], (wrL A ks).2.1.map Rt.kd⟩, ⟨(wrL A ks).1.hd, ht, msSumL ks⟩, (wrL A ks).2.2 ++ [(wrL A ks).1.hd])
noncomputable def wrL (A : Ar) : List Pl -> Ar × List Rt × List Nat
 | [] => (A, [], [])
 | p :: l => ((wrL (wrP A p).1 l).1, (wrP A p).2.1 :: (wrL (wrP A p).1 l).2.1, (wrP A p).2.2 ++ (wrL (wrP A p).1 l).2.2)
end
theorem Val.ms {A : Ar} (wf : A.WF) {b : Bool} {n : Nat} {t : Pl} (h : Val A b n t) : t.ms = msOf (t.txt A) := by
 induction h with
 | kept hg e1 e2 e3 => simp only [Pl.ms, Pl.txt]; rw [<- e2]; exact wf.ms _ _ _ hg e1
 | leaf h1 h2 h3 => rfl
 | inner h1 h2 h3 h4 ih =>
  simp only [Pl.ms, Pl.txt, msSumL_eq, txtL_eq]
  exact msSum_flat _ _ _ ih
theorem ms_le (s : List UInt8) : (msOf s).r <= (msOf s).b /\ (msOf s).l <= (msOf s).r := by
 refine ⟨List.countP_le_length, ?_⟩
 refine List.countP_mono_left fun x _ h => ?_
 simp only [isFeed, decide_eq_true_eq] at h
 simp only [isBegin, Bool.or_eq_true, decide_eq_true_eq]
 omega
theorem msSumL_pt {l : List Pl} {rs : List Rt} (h : rs.length = l.length) (hm : ∀ i, i < l.length -> (rs.getD i Rt.z).m = (l.getD i .emp).ms) : msSum ((rs.map Rt.kd).map (·.m)) = msSumL l := by
 rw [msSumL_eq, List.map_map]
 congr 1
 apply List.ext_getElem (by simpa using h)
 intro i h1 h2
 simp only [List.length_map] at h1 h2
 have := hm i h2
 simp only [List.getD_eq_getElem?_getD, List.getElem?_eq_getElem h1, List.getElem?_eq_getElem h2, Option.getD_some] at this
 simpa [Rt.kd] using this
structure WrS (A : Ar) (n : Nat) (t : Pl) (W : Ar × Rt × List Nat) : Prop where
 g : W.1.Good
 s : A.sub W.1
 k : W.1.k = A.k - t.nnew
 at_ : ∃ x, W.1.get W.2.1.h = some x /\ x.ht = n /\ x.ms = t.ms
 tx : W.1.ntx n W.2.1.h = t.txt A
 ht : W.2.1.ht = n
 m : W.2.1.m = t.ms
 len : W.2.2.length = t.nnew
structure WrLS (A : Ar) (n : Nat) (l : List Pl) (W : Ar × List Rt × List Nat) : Prop where
 g : W.1.Good
 s : A.sub W.1
 k : W.1.k = A.k - nnewL l
 lr : W.2.1.length = l.length
 at_ : ∀ i, i < l.length -> ∃ x, W.1.get (W.2.1.getD i Rt.z).h = some x /\ x.ht = n /\ x.ms = (l.getD i .emp).ms
 tx : (W.2.1.map fun r => W.1.ntx n r.h).flatten = txtL A l
 m : ∀ i, i < l.length -> (W.2.1.getD i Rt.z).m = (l.getD i .emp).ms
 len : W.2.2.length = nnewL l
theorem wrL_spec {n : Nat} : ∀ (l : List Pl) (A : Ar), A.Good -> (∀ k, k ∈ l -> Val A false n k) -> nnewL l <= A.k ->
  (∀ k, k ∈ l -> ∀ B : Ar, B.Good -> Val B false n k -> k.nnew <= B.k -> WrS B n k (wrP B k)) -> WrLS A n l (wrL A l)
 | [], A, g, hv, hk, ih => ⟨g, Ar.sub.refl A, by simp [wrL, nnewL], rfl, fun i hi => by simp at hi, rfl, fun i hi => by simp at hi, rfl⟩
 | p :: l, A, g, hv, hk, ih => by
  simp only [nnewL] at hk
  have h1 := ih p (by simp) A g (hv p (by simp)) (by omega)
  have hk1 := h1.k
  have h2 := wrL_spec l (wrP A p).1 h1.g (fun k hk => (hv k (by simp [hk])).mono h1.s) (by omega) (fun k hk => ih k (by simp [hk]))
  obtain ⟨x, x1, x2, x3⟩ := h1.at_
  refine ⟨h2.g, h1.s.trans h2.s, ?_, by simp [wrL, h2.lr], fun i hi => ?_, ?_, fun i hi => ?_, ?_⟩
  ·have := h2.k; simp only [wrL, nnewL]; omega
  ·cases i with
   | zero => exact ⟨x, by simpa [wrL] using h2.s _ _ x1, x2, by simpa using x3⟩
   | succ i =>
    simp only [List.length_cons] at hi
    simpa [wrL] using h2.at_ i (by omega)
  ·simp only [wrL, List.map_cons, List.flatten_cons, txtL]
   rw [ntx_mono h1.g.wf h2.s n _ x x1 x2, h1.tx, h2.tx]
   congr 1
   have : ∀ q : List Pl, (∀ k, k ∈ q -> Val A false n k) -> txtL (wrP A p).1 q = txtL A q := fun q hq => by
    rw [txtL_eq, txtL_eq]
    congr 1
    exact List.map_congr_left fun k hk => (hq k hk).txt_mono g.wf h1.s
   exact this l fun k hk => hv k (by simp [hk])
  ·cases i with
   | zero => simpa [wrL] using h1.m
   | succ i =>
    simp only [List.length_cons] at hi
    simpa [wrL] using h2.m i (by omega)
  ·simp only [wrL, nnewL, List.length_append, h1.len, h2.len]
theorem inner_ok {A : Ar} {n : Nat} {ks : List Pl} (g : A.Good) (hv : ∀ k, k ∈ ks -> Val A false n k) (h2 : 2 <= ks.length) (h4 : ks.length <= 4) (hn : n + 1 <= 16) (hb : bytesL ks <= 65536) {W : Ar × List Rt × List Nat} (hw : WrLS A n ks W) :
  (Nd.mk (n + 1) [] (W.2.1.map Rt.kd)).ok /\ (Nd.mk (n + 1) [] (W.2.1.map Rt.kd)).ms = msSumL ks /\ (msSumL ks).b <= 65536 /\ ∀ k, k ∈ W.2.1.map Rt.kd -> ∃ y, W.1.get k.h = some y /\ y.ok /\ y.ms.b <= 65536 /\ y.ht + 1 = n + 1 /\ y.ms = k.m := by
 have hms : (Nd.mk (n + 1) [] (W.2.1.map Rt.kd)).ms = msSumL ks := by
  rw [Nd.ms, if_neg (by simp)]
  exact msSumL_pt hw.lr hw.m
 have hsb : (msSumL ks).b <= 65536 := by
  rw [msSumL_eq, msSum_flat (Pl.txt A) Pl.ms ks fun k hk => (hv k hk).ms g.wf]
  show ((ks.map (Pl.txt A)).flatten).length <= 65536
  rw [<- txtL_eq, <- bytesL_txt g.wf ks hv]; exact hb
 have key : ∀ k, k ∈ W.2.1.map Rt.kd -> ∃ (y : Nd) (q : Pl), q ∈ ks /\ W.1.get k.h = some y /\ y.ht = n /\ y.ms = k.m /\ k.m = q.ms := fun k hk => by
  obtain ⟨r, hr, rfl⟩ := List.mem_map.1 hk
  obtain ⟨i, hi⟩ := List.getElem?_of_mem hr
  have hlt : i < W.2.1.length := (List.getElem?_eq_some_iff.1 hi).1
  have hlt2 : i < ks.length := by rw [<- hw.lr]; exact hlt
  have e : W.2.1.getD i Rt.z = r := by rw [List.getD_eq_getElem?_getD, hi]; rfl
  obtain ⟨x, x1, x2, x3⟩ := hw.at_ i hlt2
  have hm := hw.m i hlt2
  rw [e] at x1 hm
  exact ⟨x, ks.getD i .emp, List.mem_of_getElem? (getD_mem hlt2), x1, x2, by rw [x3, <- hm]; rfl, hm⟩
 refine ⟨.inr ⟨by simp, hn, rfl, by simp [hw.lr, h2], by simp [hw.lr, h4], fun k hk => ?_⟩, hms, hsb, fun k hk => ?_⟩
 ·obtain ⟨y, q, hq, y1, y2, y3, y4⟩ := key k hk
  have hvq := hv q hq
  have hqm := hvq.ms g.wf
  have hqb := hvq.bytes g.wf
  have hl := hvq.least g.wf
  have hm := hvq.most g.wf
  obtain ⟨m1, m2⟩ := ms_le (q.txt A)
  have hbq : q.bytes <= bytesL ks := by rw [bytesL_eq]; exact le_sum_mem (List.mem_map_of_mem hq)
  refine ⟨(hw.g.wf _ _ y1).1, ?_⟩
  simp only [Nat.add_sub_cancel]
  rw [y4, hqm]
  have hb2 : (msOf (q.txt A)).b = q.bytes := hqb.symm
  rw [hb2]
  refine ⟨hl, ?_, by rw [<- hb2]; exact m1, m2⟩
  unfold AM.most
  omega
 ·obtain ⟨y, q, hq, y1, y2, y3, y4⟩ := key k hk
  obtain ⟨_, w2, w3, _⟩ := hw.g.wf _ _ y1
  exact ⟨y, y1, w2, w3, by omega, y3⟩
theorem leaf_nd_ok {s : List UInt8} (h1 : 1 <= s.length) (h2 : s.length <= 16) : (Nd.mk 0 s []).ok /\ (Nd.mk 0 s []).ms = msOf s /\ (msOf s).b <= 65536 := ⟨.inl ⟨rfl, h1, h2, rfl⟩, rfl, by show s.length <= _; omega⟩
theorem wrP_spec (t : Pl) : ∀ (A : Ar) (b : Bool) (n : Nat), A.Good -> Val A b n t -> t.bytes <= 65536 -> t.nnew <= A.k -> WrS A n t (wrP A t) := by
 refine Pl.ind (M := fun t => ∀ (A : Ar) (b : Bool) (n : Nat), A.Good -> Val A b n t -> t.bytes <= 65536 -> t.nnew <= A.k -> WrS A n t (wrP A t)) (fun t ih A b n g hv hb hk => ?_) t
 cases hv with
 | kept hg e1 e2 e3 => exact ⟨g, Ar.sub.refl A, by simp [wrP, Pl.nnew], ⟨_, hg, e1, e2⟩, rfl, rfl, rfl, rfl⟩
 | leaf h1 h2 h3 =>
  rename_i s
  simp only [Pl.nnew] at hk
  obtain ⟨l1, l2, l3⟩ := leaf_nd_ok h1 h2
  obtain ⟨p1, p2, p3⟩ := g.put (x := ⟨0, s, []⟩) (by omega) l1 (by rw [l2]; exact l3) (fun k hk => by simp at hk)
  refine ⟨p1, Ar.put_sub _, p3, ⟨_, p2, rfl, rfl⟩, ?_, rfl, rfl, rfl⟩
  simp only [wrP, Ar.ntx, Pl.txt]
  rw [p2]
 | inner h1 h2 h3 h4 =>
  rename_i n ks
  simp only [Pl.nnew] at hk
  simp only [Pl.bytes] at hb
  have hbk : ∀ k, k ∈ ks -> k.bytes <= 65536 := fun k hk => by
   have : k.bytes <= bytesL ks := by rw [bytesL_eq]; exact le_sum_mem (List.mem_map_of_mem hk)
   omega
  have hw := wrL_spec ks A g h4 (by omega) (fun k hk B gB vB kB => ih k hk B false n gB vB (hbk k hk) kB)
  obtain ⟨o1, o2, o3, o4⟩ := inner_ok g h4 h2 h3 h1 hb hw
  have hkk := hw.k
  obtain ⟨p1, p2, p3⟩ := hw.g.put (x := ⟨n + 1, [], (wrL A ks).2.1.map Rt.kd⟩) (by omega) o1 (by rw [o2]; exact o3) (fun k hk => by
   obtain ⟨y, y1, _, _, y4, y5⟩ := o4 k hk
   exact ⟨y, y1, y4, y5⟩)
  refine ⟨p1, hw.s.trans (Ar.put_sub _), ?_, ⟨_, p2, rfl, o2⟩, ?_, rfl, rfl, by simp [wrP, Pl.nnew, hw.len]; omega⟩
  ·simp only [wrP, Pl.nnew]; rw [p3]; omega
  ·simp only [wrP, Ar.ntx, Pl.txt]
   rw [p2]
   simp only [List.map_map]
   rw [<- hw.tx]
   congr 1
   refine List.map_congr_left fun r hr => ?_
   obtain ⟨y, y1, _, _, y4, _⟩ := o4 r.kd (List.mem_map_of_mem hr)
   exact ntx_mono hw.g.wf (Ar.put_sub _) n r.h y y1 (by omega)
end Go.Proofs.YtekhblefchceaaaGreat.AM

/- rope.Pen: the noted nodes are written one after another. -/
set_option maxRecDepth 20000
namespace Go.Proofs.YtekhblefchceaaaGreat.AM
open Go Go.Proofs
variable {σ : St}
def Ag (LO HI : Nat) (σ σ1 : St) : Prop := σ.n <= σ1.n /\ ∀ β, LO <= β -> β < HI -> lk σ1.H β = lk σ.H β
theorem Ag.refl (LO HI : Nat) (σ : St) : Ag LO HI σ σ := ⟨Nat.le_refl _, fun _ _ _ => rfl⟩
theorem Ag.trans {LO HI : Nat} {σ σ1 σ2 : St} (h : Ag LO HI σ σ1) (h' : Ag LO HI σ1 σ2) : Ag LO HI σ σ2 := ⟨Nat.le_trans h.1 h'.1, fun β h1 h2 => (h'.2 β h1 h2).trans (h.2 β h1 h2)⟩
def PenS (a pp : Nat) (σ : St) : Prop := ∃ td, lk σ.H pp = some (.arr (.ptr a 0 :: td))
def RunL (p : Pa) (pp LO HI : Nat) : List AV -> Ar -> St -> (Ar -> List Nat -> St -> Prop) -> Prop
 | [], A, σ, Post => Post A [] σ
 | c :: L, A, σ, Post => ∀ σ1, Ag LO HI σ σ1 -> PenS p.a pp σ1 -> pp < σ1.n -> ArAt p σ1 A -> ∃ f cap h A', c = .fn f cap /\
   ACalls Tryz.prog f cap σ1 (fun v σ2 => v = .tup [.int .u64 (h : Nat), .int .i64 0] /\ ArAt p σ2 A' /\ σ2.n = σ1.n /\ (∀ β, β < σ1.n -> ¬p.has β -> ¬(LO <= β /\ β < HI) -> lk σ2.H β = lk σ1.H β) /\ RunL p pp LO HI L A' σ2 (fun B hs => Post B (h :: hs)))
theorem RunL.seq {p : Pa} {pp LO HI : Nat} : ∀ (L1 L2 : List AV) (A : Ar) (σ : St) (Post : Ar -> List Nat -> St -> Prop), RunL p pp LO HI L1 A σ (fun B hs σ' => RunL p pp LO HI L2 B σ' (fun C hs2 => Post C (hs ++ hs2))) -> RunL p pp LO HI (L1 ++ L2) A σ Post
 | [], L2, A, σ, Post, h => h
 | c :: L1, L2, A, σ, Post, h => fun σ1 h1 h2 h2' h3 => by
  obtain ⟨f, cap, hh, A', e, hc⟩ := h σ1 h1 h2 h2' h3
  exact ⟨f, cap, hh, A', e, hc.mono fun v σ2 ⟨a, b, c, d, r⟩ => ⟨a, b, c, d, RunL.seq L1 L2 A' σ2 _ r⟩⟩
section
variable {p : Pa} {pp LO HI : Nat}
theorem runs_ok (hp : ∀ β, LO <= β -> β < HI -> ¬ p.has β) (hpp : ¬ p.has pp) {n : Nat} : ∀ (ts : List Pl) {lo hi : Nat} {L : List AV} {rs : List Nat} {A : Ar} {σ : St} {Post : Ar -> List Nat -> St -> Prop}, JobsP pp σ ts lo hi L rs -> LO <= lo -> hi <= HI -> HI <= σ.n -> A.Good -> (∀ k, k ∈ ts -> Val A false n k) -> nnewL ts <= A.k -> (∀ k, k ∈ ts -> k.bytes <= 65536) ->
  (∀ k, k ∈ ts -> ∀ {lo hi : Nat} {L : List AV} {r : Nat} {A : Ar} {σ : St} {Post : Ar -> List Nat -> St -> Prop}, JobP pp σ k lo hi L r -> LO <= lo -> hi <= HI -> HI <= σ.n -> A.Good -> Val A false n k -> k.nnew <= A.k ->
   (∀ σ', σ.n <= σ'.n -> lk σ'.H r = some (.arr (wrP A k).2.1.cs) -> (∀ β, LO <= β -> β < HI -> ¬(lo <= β /\ β < hi) -> lk σ'.H β = lk σ.H β) -> Post (wrP A k).1 (wrP A k).2.2 σ') -> RunL p pp LO HI L A σ Post) ->
  (∀ σ', σ.n <= σ'.n -> rs.length = ts.length -> (∀ i, i < ts.length -> lo <= rs.getD i 0 /\ rs.getD i 0 < hi /\ lk σ'.H (rs.getD i 0) = some (.arr ((wrL A ts).2.1.getD i Rt.z).cs)) -> (∀ β, LO <= β -> β < HI -> ¬(lo <= β /\ β < hi) -> lk σ'.H β = lk σ.H β) -> Post (wrL A ts).1 (wrL A ts).2.2 σ') -> RunL p pp LO HI L A σ Post
 | [], lo, hi, L, rs, A, σ, Post, hj, h1, h2, h3, g, hv, hk, hb, ih, hP => by
  obtain ⟨rfl, rfl, _⟩ := hj
  exact hP σ (Nat.le_refl _) rfl (fun i hi => by simp at hi) (fun _ _ _ _ => rfl)
 | k :: ts, lo, hi, L, rs, A, σ, Post, hj, h1, h2, h3, g, hv, hk, hb, ih, hP => by
  obtain ⟨mid, L1, L2, r, rs2, m1, m2, j1, j2, rfl, rfl⟩ := hj
  simp only [nnewL] at hk
  have hw := wrP_spec k A false n g (hv k (by simp)) (hb k (by simp)) (by omega)
  obtain ⟨r1, r2, _⟩ := j1.r
  refine RunL.seq L1 L2 A σ Post (ih k (by simp) j1 h1 (by omega) h3 g (hv k (by simp)) (by omega) fun σ' q1 q2 q3 => ?_)
  have j2' : JobsP pp σ' ts mid hi L2 rs2 := JobsP.fr ts j2 fun β b1 b2 _ => q3 β (by omega) (by omega) (by omega)
  refine runs_ok hp hpp ts j2' (by omega) h2 (by omega) hw.g (fun q hq => (hv q (by simp [hq])).mono hw.s) (by have := hw.k; omega) (fun q hq => hb q (by simp [hq])) (fun q hq => ih q (by simp [hq])) fun σ2 s1 s2 s3 s4 => ?_
  refine hP σ2 (by omega) (by simp [s2]) (fun i hi => ?_) (fun β b1 b2 b3 => ?_)
  ·cases i with
   | zero =>
    simp only [List.getD_cons_zero, wrL]
    exact ⟨r1, by omega, by rw [s4 r (by omega) (by omega) (by omega)]; exact q2⟩
   | succ i =>
    simp only [List.length_cons] at hi
    simp only [List.getD_cons_succ, wrL]
    obtain ⟨t1, t2, t3⟩ := s3 i (by omega)
    exact ⟨by omega, t2, t3⟩
  ·rw [s4 β b1 b2 (by omega), q3 β b1 b2 (by omega)]
theorem penrun_ok (hp : ∀ β, LO <= β -> β < HI -> ¬ p.has β) (hpp : ¬ p.has pp) (hpl : ¬ (LO <= pp /\ pp < HI)) (t : Pl) : ∀ {b : Bool} {n : Nat} {lo hi : Nat} {L : List AV} {r : Nat} {A : Ar} {σ : St} {Post : Ar -> List Nat -> St -> Prop}, JobP pp σ t lo hi L r -> LO <= lo -> hi <= HI -> HI <= σ.n -> A.Good -> Val A b n t -> t.nnew <= A.k -> t.bytes <= 65536 ->
   (∀ σ', σ.n <= σ'.n -> lk σ'.H r = some (.arr (wrP A t).2.1.cs) -> (∀ β, LO <= β -> β < HI -> ¬(lo <= β /\ β < hi) -> lk σ'.H β = lk σ.H β) -> Post (wrP A t).1 (wrP A t).2.2 σ') -> RunL p pp LO HI L A σ Post := by
 refine Pl.ind (M := fun t => ∀ {b : Bool} {n : Nat} {lo hi : Nat} {L : List AV} {r : Nat} {A : Ar} {σ : St} {Post : Ar -> List Nat -> St -> Prop}, JobP pp σ t lo hi L r -> LO <= lo -> hi <= HI -> HI <= σ.n -> A.Good -> Val A b n t -> t.nnew <= A.k -> t.bytes <= 65536 ->
   (∀ σ', σ.n <= σ'.n -> lk σ'.H r = some (.arr (wrP A t).2.1.cs) -> (∀ β, LO <= β -> β < HI -> ¬(lo <= β /\ β < hi) -> lk σ'.H β = lk σ.H β) -> Post (wrP A t).1 (wrP A t).2.2 σ') -> RunL p pp LO HI L A σ Post) (fun t ih b n lo hi L r A σ Post hj h1 h2 h3 g hv hk hb hP => ?_) t
 cases hv with
 | kept hg e1 e2 e3 =>
  obtain ⟨rfl, j2, j3, j4⟩ := hj
  exact hP σ (Nat.le_refl _) j4 (fun _ _ _ _ => rfl)
 | leaf v1 v2 v3 =>
  rename_i s
  simp only [Pl.nnew] at hk
  obtain ⟨c1, c2, c3, m, rfl, j2, j3, a1, a2, a3, a4, a5, a6, a7, a8, b1, b2, b3, b4, b5⟩ := hj
  obtain ⟨l1, l2, l3⟩ := leaf_nd_ok v1 v2
  intro σ1 hA hP1 hpp1 hAr
  have hn1 := hA.1
  obtain ⟨td, hP2⟩ := hP1
  refine ⟨255, _, A.hd, A.put ⟨0, s, []⟩, rfl, ?_⟩
  have q : ∀ β x, lo <= β -> β < hi -> lk σ.H β = some x -> lk σ1.H β = some x := fun β x h4 h5 h6 => (hA.2 β (by omega) (by omega)).trans h6
  refine (put1_ok (x := ⟨0, s, []⟩) (R := ⟨0, 0, msOf s⟩) hAr g.ok (by omega) l1 (by rw [l2]; exact l3) (fun k hk => by simp at hk) (g.fresh (by omega)) hP2 (q _ _ a1 a2 b2) (q _ _ a3 a4 b3) (q _ _ a5 a6 b4) (q _ _ j2 j3 b1) (by omega) (hp _ (by omega) (by omega))
   hpp1 (by omega) (by omega) (by omega) hpp (hp _ (by omega) (by omega)) (hp _ (by omega) (by omega)) (hp _ (by omega) (by omega)) (cont_leaf (q _ _ a7 a8 b5) (by omega))).mono ?_
  rintro v σ2 ⟨rfl, q1, q2, q3, q4⟩
  refine ⟨rfl, q1, q3, fun β f1 f2 f3 => q4 β f1 f2 (fun e => f3 (by omega)), ?_⟩
  refine hP σ2 (by omega) q2 fun β f1 f2 f3 => ?_
  rw [q4 β (by omega) (hp β f1 f2) (fun e => f3 (by omega))]
  exact hA.2 β f1 f2
 | inner v1 v2 v3 v4 =>
  rename_i n ks
  simp only [Pl.nnew] at hk
  simp only [Pl.bytes] at hb
  have hbk : ∀ k, k ∈ ks -> k.bytes <= 65536 := fun k hk => by
   have : k.bytes <= bytesL ks := by rw [bytesL_eq]; exact le_sum_mem (List.mem_map_of_mem hk)
   omega
  have hw := wrL_spec ks A g v4 (by omega) (fun k hk B gB vB kB => wrP_spec k B false n gB vB (hbk k hk) kB)
  obtain ⟨o1, o2, o3, o4⟩ := inner_ok g v4 v2 v3 v1 hb hw
  obtain ⟨c1, c2, c3, bt, bk, kl, kh, Lk, rs, tk, rfl, j2, j3, a1, a2, a3, a4, a5, a6, a7, a8, a9, a10, a11, n1, n2, b1, b2, b3, b4, b5, b6, hjs⟩ := hj
  have hkl := JobsP.le ks hjs
  refine RunL.seq Lk _ A σ Post (runs_ok hp hpp ks hjs (by omega) (by omega) h3 g v4 (by omega) hbk (fun k hkm lo hi L r A σ Post x1 x2 x3 x4 x5 x6 x7 x8 => ih k hkm x1 x2 x3 x4 x5 x6 x7 (hbk k hkm) x8) fun σ' s1 s2 s3 s4 => ?_)
  intro σ1 hA hP1 hpp1 hAr
  have hn1 := hA.1
  obtain ⟨td, hP2⟩ := hP1
  have q : ∀ β x, lo <= β -> β < hi -> ¬(kl <= β /\ β < kh) -> lk σ.H β = some x -> lk σ1.H β = some x := fun β x h4 h5 h6 h7 => (hA.2 β (by omega) (by omega)).trans ((s4 β (by omega) (by omega) h6).trans h7)
  refine ⟨255, _, (wrL A ks).1.hd, (wrL A ks).1.put ⟨n + 1, [], (wrL A ks).2.1.map Rt.kd⟩, rfl, ?_⟩
  have hwk := hw.k
  have hlr := hw.lr
  have hrts : (List.zip rs (wrL A ks).2.1).map (fun r => AV.ptr r.1 0) = rs.map fun r => AV.ptr r 0 := by
   have e := congrArg (List.map fun r => AV.ptr r 0) (List.map_fst_zip (l₁ := rs) (l₂ := (wrL A ks).2.1) (by omega))
   rw [List.map_map] at e
   exact e
  have hrts2 : (List.zip rs (wrL A ks).2.1).map (fun r => (⟨r.2.h, r.2.m⟩ : Kd)) = (wrL A ks).2.1.map Rt.kd := by
   have e := congrArg (List.map Rt.kd) (List.map_snd_zip (l₁ := rs) (l₂ := (wrL A ks).2.1) (by omega))
   rw [List.map_map] at e
   exact e
  have hcont := cont_inner (σ := σ1) (bt := bt) (bk := bk) (ht := n + 1) (tcs := ks) (rts := List.zip rs (wrL A ks).2.1) (tk := tk) (q _ _ (by omega) (by omega) (by omega) b5) (by rw [hrts]; exact q _ _ (by omega) (by omega) (by omega) b6) (by omega) (by omega) (fun r hr => by
   obtain ⟨i, hi⟩ := List.getElem?_of_mem hr
   rw [List.getElem?_zip_eq_some] at hi
   have hlt : i < rs.length := (List.getElem?_eq_some_iff.1 hi.1).1
   obtain ⟨t1, t2, t3⟩ := s3 i (by omega)
   have e1 : rs.getD i 0 = r.1 := by rw [List.getD_eq_getElem?_getD, hi.1]; rfl
   have e2 : (wrL A ks).2.1.getD i Rt.z = r.2 := by rw [List.getD_eq_getElem?_getD, hi.2]; rfl
   rw [e1] at t1 t2 t3
   rw [e2] at t3
   exact ⟨by omega, (hA.2 _ (by omega) (by omega)).trans t3⟩) (by rw [List.length_zip]; omega)
  rw [hrts2] at hcont
  refine (put1_ok (x := ⟨n + 1, [], (wrL A ks).2.1.map Rt.kd⟩) (R := ⟨0, n + 1, msSumL ks⟩) hAr hw.g.ok (by omega) o1 (by rw [o2]; exact o3) o4 (hw.g.fresh (by omega)) hP2 (q _ _ (by omega) (by omega) (by omega) b2) (q _ _ (by omega) (by omega) (by omega) b3) (q _ _ (by omega) (by omega) (by omega) b4) (q _ _ (by omega) (by omega) (by omega) b1) (by omega) (hp _ (by omega) (by omega))
   hpp1 (by omega) (by omega) (by omega) hpp (hp _ (by omega) (by omega)) (hp _ (by omega) (by omega)) (hp _ (by omega) (by omega)) hcont).mono ?_
  rintro v σ2 ⟨rfl, q1, q2, q3, q4⟩
  refine ⟨rfl, q1, q3, fun β f1 f2 f3 => q4 β f1 f2 (fun e => f3 (by omega)), ?_⟩
  refine hP σ2 (by omega) q2 fun β f1 f2 f3 => ?_
  rw [q4 β (by omega) (hp β f1 f2) (fun e => f3 (by omega)), hA.2 β f1 f2]
  exact s4 β f1 f2 (fun e => f3 (by omega))
end
end Go.Proofs.YtekhblefchceaaaGreat.AM

/- Contracts: rope.Begin, Step, Root. -/
set_option maxRecDepth 20000
namespace Go.Proofs.YtekhblefchceaaaGreat.AM
open Go Go.Proofs
variable {σ : St}
theorem OkP.ms {A : Ar} (wf : A.WF) {t : Pl} (h : OkP A t) : t.ms = msOf (t.txt A) := by
 rcases h with rfl | ⟨n, h⟩
 ·rfl
 ·exact h.ms wf
theorem begin_full {p : Pa} {A : Ar} (g : A.Good) (t : Pl) (hv : OkP A t) (hb : t.bytes <= 65536) (hnn : t.nnew <= 100000) (hk : A.k < t.nnew) (hA : ArAt p σ A) : ACalls Tryz.prog 98 [.ptr p.a 0, t.av] σ (fun v σ' => v = .tup [.nilp, .int .i64 6] /\ σ' = σ) := by
 refine ACalls.quietX ?_ rfl
 have hw := hv.w0 g.wf
 refine FOk.calls ok98 (by simp [a98]) (wpc_sound hmix ?_)
 show wpc _ _ _ c98 _ _ _
 simp (disch := first | exact dA | fail) only [↓V0, VV, reduceCtorEq, seval, a98, Pl.av_eq, treeCs]
 refine callQE (by first | rfl | simp only [WQ, treeCs, Ms.av, Ms.cs]) (pcheck_ok g.wf t hv hb (hA.ext (by exact eA))) ?_
 simp (disch := first | exact dA | fail) only [↓V0, VV, reduceCtorEq, seval, a98]
 refine callQE (by first | rfl | simp only [WQ, treeCs, Ms.av, Ms.cs]) (new_ok t hw (by omega) _) ?_
 simp (disch := first | exact dA | fail) only [↓V0, VV, reduceCtorEq, seval, a98]
 refine callQ (stats_ok (hA.ext (by exact eA)) g.ok) ?_
 simp (disch := first | exact dA | fail) only [↓V0, VV, reduceCtorEq, seval, a98, Ar.stats]
 exact ⟨rfl, by exact eA⟩
structure PenOk (p : Pa) (t : Pl) (pp lo hi r : Nat) (L : List AV) (t1 : Tok) (σ σ' : St) : Prop where
 pen : lk σ'.H pp = some (penB p.a L t1 (.ptr r 0))
 job : JobP pp σ' t lo hi L r
 h1 : σ.n <= pp
 h2 : pp < lo
 h3 : hi <= σ'.n
 fit : fitSz 1 L = true
 len : L.length = t.nnew
 e : Ext σ σ'
theorem begin_ok {p : Pa} {A : Ar} (g : A.Good) (t : Pl) (hv : OkP A t) (hb : t.bytes <= 65536) (hk : t.nnew <= A.k) (hA : ArAt p σ A) : ACalls Tryz.prog 98 [.ptr p.a 0, t.av] σ (fun v σ' => ∃ pp lo hi r L t1, v = .tup [.ptr pp 0, .int .i64 0] /\ PenOk p t pp lo hi r L t1 σ σ') := by
 have hw := hv.w0 g.wf
 have hkn := g.ok.kn
 have hn1 := g.ok.n1
 have hms := hv.ms g.wf
 have hbt := hv.bytes g.wf
 obtain ⟨m1, m2⟩ := ms_le (t.txt A)
 rw [<- hms] at m1 m2
 have m0 : t.ms.b = t.bytes := by rw [hms, hbt]; rfl
 refine FOk.calls ok98 (by simp [a98]) (wpc_sound hmix ?_)
 show wpc _ _ _ c98 _ _ _
 simp (disch := first | exact dA | fail) only [↓V0, VV, reduceCtorEq, seval, a98, Pl.av_eq, treeCs]
 refine callQE (by first | rfl | simp only [WQ, treeCs, Ms.av, Ms.cs]) (pcheck_ok g.wf t hv hb (hA.ext (by exact eA))) ?_
 simp (disch := first | exact dA | fail) only [↓V0, VV, reduceCtorEq, seval, a98]
 refine callQE (by first | rfl | simp only [WQ, treeCs, Ms.av, Ms.cs]) (new_ok t hw (by omega) _) ?_
 simp (disch := first | exact dA | fail) only [↓V0, VV, reduceCtorEq, seval, a98]
 refine callQ (stats_ok (hA.ext (by exact eA)) g.ok) ?_
 simp (disch := first | exact dA | fail) only [↓V0, VV, reduceCtorEq, seval, a98, Ar.stats]
 generalize hσ1 : St.new _ _ = σ1
 have hE : Ext σ σ1 := by rw [<- hσ1]; exact eA
 have hn1 : σ1.n = σ.n + 2 := by rw [<- hσ1]; rfl
 have k1 : lk σ1.H (σ.n + 1) = some (penB p.a [] .ex .nilp) := by rw [<- hσ1]; simp (disch := first | exact dA | fail) only [↓V0, VV, reduceCtorEq, seval, a98, penB]
 have hadd := padd_ok p.a (σ.n + 1) σ.n .nilp t [] .ex σ1 hw (by omega) (by omega) (by omega) (by simp; omega) k1 trivial rfl (by omega) (by omega)
 refine (by rw [Pl.av_eq] at hadd; exact hadd : ACalls _ _ _ _ _).mono ?_
 rintro v σ2 ⟨L, r, t1, rfl, c1, c2, c3, c4, c5, c6, c7⟩
 have hn2 := c7.1
 rw [List.nil_append] at c2 c5
 simp only [penB] at c2
 simp (disch := first | exact dA | fail) only [↓V0, VV, reduceCtorEq, seval, a98, c2]
 refine ⟨σ.n + 1, σ1.n, σ2.n, r, L, t1, rfl, ⟨?_, c6.fr t fun β h1 h2 _ => ?_, by omega, by omega, by simp only [↓W0, W, reduceCtorEq, seval], c5, c1, ?_⟩⟩
 ·rw [lk_set, if_pos rfl, c2]; rfl
 ·rw [lk_set, if_neg (by omega)]
 ·refine ⟨by simp only [↓W0, W, reduceCtorEq, seval] <;> omega, fun β hβ => ?_⟩
  rw [lk_set, if_neg (by omega), c7.2 β (by omega) (by omega) (by simp), hE.2 β hβ]
theorem step_ok {a pp f h : Nat} {cap L : List AV} {t1 : Tok} {rtv : AV} {R : St -> Prop} (hpp : lk σ.H pp = some (penB a (.fn f cap :: L) t1 rtv)) (hf : fitSz 1 (.fn f cap :: L) = true)
  (hc : ACalls Tryz.prog f cap σ (fun v σ2 => v = .tup [.int .u64 h, .int .i64 0] /\ lk σ2.H pp = lk σ.H pp /\ R σ2)) :
  ACalls Tryz.prog 99 [.ptr pp 0] σ (fun v σ' => ∃ σ2 t' b, v = .tup [.int .u64 h, .bool b, .int .i64 0] /\ R σ2 /\ lk σ2.H pp = lk σ.H pp /\ σ' = σ2.set pp (penB a L t' rtv)) := by
 simp only [penB] at hpp
 refine FOk.calls ok99 (by simp [a99]) (wpc_sound hmix ?_)
 show wpc _ _ _ c99 _ _ _
 simp (disch := first | exact dA | fail) only [↓V0, VV, reduceCtorEq, seval, a99, hpp]
 refine hc.mono ?_
 rintro v σ2 ⟨rfl, h1, h2⟩
 rw [hpp] at h1
 have hx : (AV.fn f cap :: L).take (L.length + 1) = .fn f cap :: L := List.take_of_length_le (by simp)
 simp (disch := first | exact dA | fail) only [↓V0, VV, reduceCtorEq, seval, a99, h1, hf, hx]
 exact ⟨σ2, _, _, rfl, h2, h1, rfl⟩
theorem root_ok {a pp r : Nat} {t1 : Tok} {R : Rt} (hpp : lk σ.H pp = some (penB a [] t1 (.ptr r 0))) (hr : lk σ.H r = some (.arr R.cs)) (h1 : pp < σ.n) (h2 : r < σ.n) : ACalls Tryz.prog 100 [.ptr pp 0] σ (fun v σ' => v = .tup [R.av, .int .i64 0] /\ σ' = σ) := by
 refine ACalls.quietX ?_ rfl
 simp only [penB] at hpp
 simp only [Rt.cs] at hr
 refine FOk.calls ok100 (by simp [a100]) (wpc_sound hmix ?_)
 show wpc _ _ _ c100 _ _ _
 simp (disch := first | exact dA | fail) only [↓V0, VV, reduceCtorEq, seval, a100, hpp, hr]
 exact ⟨by simp only [WE]; rfl, by exact eA⟩
theorem RunL.ag {p : Pa} {pp LO HI : Nat} {L : List AV} {A : Ar} {σ σ3 : St} {Post : Ar -> List Nat -> St -> Prop} (h : RunL p pp LO HI L A σ Post) (hA : Ag LO HI σ σ3) (hP : ∀ B hs σ σ', Ag LO HI σ σ' -> Post B hs σ -> Post B hs σ') : RunL p pp LO HI L A σ3 Post := by
 cases L with
 | nil => exact hP _ _ _ _ hA h
 | cons c L => exact fun σ1 h1 h2 h3 h4 => h σ1 (hA.trans h1) h2 h3 h4
theorem er_uav (k : IntKind) (l : List Nat) : (uav k l).map AV.er = uav k l := by simp [uav, Function.comp_def, er_int]
theorem fit_uav (k : IntKind) (l : List Nat) : fitSz 1 (uav k l) = true := fit_all fun x hx => by
 obtain ⟨y, _, rfl⟩ := List.mem_map.1 hx
 exact ⟨rfl, rfl⟩
theorem write_ok {p : Pa} {A : Ar} (g : A.Good) (t : Pl) (hv : OkP A t) (hb : t.bytes <= 65536) (hk : t.nnew <= A.k) (hA : ArAt p σ A) : ACalls Tryz.prog 44 [.ptr p.a 0, t.av] σ (fun v σ' => v = .tup [(wrP A t).2.1.av, .vs (uav .u64 (wrP A t).2.2) .no, .int .i64 0] /\ ArAt p σ' (wrP A t).1 /\ Fr p σ σ') := by
 have hkn := g.ok.kn
 have hn1 := g.ok.n1
 obtain ⟨q1, q2, q3, q4, q5, q6⟩ := hA.lt
 refine (ACalls.arenaQ (p := p) (K := fun v B => v = .tup [(wrP A t).2.1.av, .vs (uav .u64 (wrP A t).2.2) .no, .int .i64 0] /\ B = (wrP A t).1) ?_ hA.lt (fun v B e => by rw [e.1]; simp only [AV.pur, purL, Rt.av, Rt.cs, pur_uav, Tok.pur, Bool.and_self])).mono fun v σ' ⟨B, e, h1, h2⟩ => ⟨e.1, e.2 ▸ h1, h2⟩
 refine FOk.calls ok44 (by simp [a44]) (wpc_sound hmix ?_)
 show wpc _ _ _ c44 _ _ _
 simp (disch := first | exact dA | fail) only [↓V0, VV, reduceCtorEq, seval, a44, Pl.av_eq, treeCs]
 generalize hσ1 : St.new _ _ = σ1
 have hE : Ext σ σ1 := by rw [<- hσ1]; exact eA
 have hn1' : σ1.n = σ.n + 2 := by rw [<- hσ1]; rfl
 have k1 : lk σ1.H (σ.n + 1) = some (.arr Rt.z.cs) := by rw [<- hσ1]; simp (disch := first | exact dA | fail) only [↓V0, VV, reduceCtorEq, seval, a44] <;> rfl
 refine callE (by first | rfl | simp only [WQ, treeCs, Ms.av, Ms.cs]) (begin_ok g t hv hb hk (hA.ext hE)) ?_
 rintro v σ2 ⟨pp, lo, hi, r, L, t1, rfl, P⟩
 obtain ⟨P1, P2, P3, P4, P5, P6, P7, P8⟩ := P
 obtain ⟨j1, j2, j3⟩ := P2.r
 have hn2 := P8.1
 have hp : ∀ β, σ.n <= β -> ¬ p.has β := fun β hβ h => by rcases h with e | e | e | e | e | e <;> omega
 generalize hW : wrP A t = X0 at *
 have hrun : RunL p pp lo hi L A σ2 (fun B hs σ'' => B = X0.1 /\ hs = X0.2.2 /\ lk σ''.H r = some (.arr X0.2.1.cs)) := by
  rcases hv with rfl | ⟨n, hv⟩
  ·obtain ⟨rfl, _, _, e⟩ := P2
   subst hW
   exact ⟨rfl, rfl, e⟩
  ·have := penrun_ok (p := p) (pp := pp) (LO := lo) (HI := hi) (fun β h1 h2 => hp β (by omega)) (hp pp (by omega)) (by omega) t (Post := fun B hs σ'' => B = X0.1 /\ hs = X0.2.2 /\ lk σ''.H r = some (.arr X0.2.1.cs)) P2 (Nat.le_refl _) (Nat.le_refl _) P5 g hv hk hb (fun σ' _ h2 _ => by rw [hW] at h2 ⊢; exact ⟨rfl, rfl, h2⟩)
   exact this
 simp (disch := first | exact dA | fail) only [↓V0, VV, reduceCtorEq, seval, a44]
 have k2 : lk σ2.H (σ.n + 1) = some (.arr Rt.z.cs) := (P8.2 _ (by omega)).trans k1
 refine AW.lp hmix (fun k ρ σ' => ∃ (L : List AV) (t1 tk : Tok) (A' : Ar) (hs : List Nat), k = L.length /\ ρ 4 = .ptr (σ.n + 1) 0 /\ ρ 5 = .vs (uav .u64 hs) tk /\ ρ 7 = .ptr pp 0 /\ lk σ'.H pp = some (penB p.a L t1 (.ptr r 0)) /\ fitSz 1 L = true /\ ArAt p σ' A' /\ FrX p σ σ' /\ TokOk hi σ' tk /\ hi <= σ'.n /\ lk σ'.H (σ.n + 1) = some (.arr Rt.z.cs) /\
  L.length + hs.length <= 100000 /\ RunL p pp lo hi L A' σ' (fun B hs' σ'' => B = X0.1 /\ hs ++ hs' = X0.2.2 /\ lk σ''.H r = some (.arr X0.2.1.cs))) L.length
  ⟨L, t1, .ex, A, [], rfl, by exact wA, by (simp only [↓W0, W, reduceCtorEq, seval, uav]; first | done | rfl | omega | simp), by exact wA, P1, P6, hA.ext (hE.trans P8), .ext (hE.trans P8), trivial, P5, k2, by simp; omega, by simpa using hrun⟩ ?_
 rintro k ρ σ' ⟨L, t1, tk, A', hs, rfl, r4, r5, r7, l1, l2, l3, l4, l5, l6, l7, l8, l9⟩
 cases L with
 | nil =>
  obtain ⟨rfl, w2, w3⟩ := l9
  rw [List.append_nil] at w2
  subst w2
  simp only [penB] at l1
  simp (disch := first | exact dA | fail) only [↓V0, VV, reduceCtorEq, seval, a44, r4, r5, r7, l1]
  refine callQ (root_ok l1 w3 (by omega) (by omega)) ?_
  have q7 : lk σ'.H (σ.n + 1) = some (.arr Rt.z.cs) := l7
  simp only [Rt.cs] at q7
  simp (disch := first | exact dA | fail) only [↓V0, VV, reduceCtorEq, seval, a44, r4, r5, r7, q7, Rt.av, Rt.cs]
  refine ⟨_, ⟨by simp only [WE, er_uav], rfl⟩, (l3.gr (hp _ (by omega)) (GrX.set (GrX.refl 0 _ _) (Nat.zero_le _) _)).gr (hp _ (by omega)) (GrX.set (GrX.refl 0 _ _) (Nat.zero_le _) _), (l4.set (.inl (by omega)) _).set (.inl (by omega)) _⟩
 | cons c L =>
  obtain ⟨f, cap, h, A2, rfl, hc⟩ := l9 σ' (Ag.refl _ _ _) ⟨_, l1⟩ (by omega) l3
  simp only [List.length_cons] at l8
  have l1' := l1
  simp only [penB] at l1'
  simp (disch := first | exact dA | fail) only [↓V0, VV, reduceCtorEq, seval, a44, r4, r5, r7, l1']
  refine (step_ok (a := p.a) (rtv := .ptr r 0) (R := fun σ2 => ArAt p σ2 A2 /\ σ2.n = σ'.n /\ (∀ β, β < σ'.n -> ¬p.has β -> ¬(lo <= β /\ β < hi) -> lk σ2.H β = lk σ'.H β) /\ RunL p pp lo hi L A2 σ2 (fun B hs' σ'' => B = X0.1 /\ hs ++ (h :: hs') = X0.2.2 /\ lk σ''.H r = some (.arr X0.2.1.cs))) l1 l2
   (hc.mono fun v σ2 ⟨x1, x2, x3, x4, x5⟩ => ⟨x1, x4 pp (by omega) (hp pp (by omega)) (by omega), x2, x3, x4, x5⟩)).mono ?_
  rintro v σ4 ⟨σ3, t', b, rfl, ⟨x2, x3, x4, x5⟩, x6, rfl⟩
  have tk3 : TokOk hi σ3 tk := tokok_mono l5 (by omega) fun τ e => by
   subst e
   rw [x4 τ l5.2.1 (hp τ (by have := l5.1; omega)) (by have := l5.1; omega)]
   exact l5.2.2
  rw [l1] at x6
  have tk4 : TokOk hi (σ3.set pp (penB p.a L t' (.ptr r 0))) tk := tk3.set (by rw [x6]; simp [penB]) _
  have y1 : lk (σ3.set pp (penB p.a L t' (.ptr r 0))).H pp = some (penB p.a L t' (.ptr r 0)) := by rw [lk_set, if_pos rfl, x6]; rfl
  have y2 : lk (σ3.set pp (penB p.a L t' (.ptr r 0))).H (σ.n + 1) = some (.arr Rt.z.cs) := by
   rw [lk_set, if_neg (by omega), x4 _ (by omega) (hp _ (by omega)) (by omega)]; exact l7
  have yA : ArAt p (σ3.set pp (penB p.a L t' (.ptr r 0))) A2 := x2.gr (hp _ (by omega)) (GrX.set (GrX.refl 0 _ _) (Nat.zero_le _) _)
  have yF : FrX p σ (σ3.set pp (penB p.a L t' (.ptr r 0))) := by
   refine FrX.set ⟨by have := l4.1; omega, fun β h1 h2 => ?_⟩ (.inl (by omega)) _
   rw [x4 β (by have := l4.1; omega) h2 (by omega)]
   exact l4.2 β h1 h2
  have yR : Ag lo hi σ3 (σ3.set pp (penB p.a L t' (.ptr r 0))) := ⟨Nat.le_refl _, fun β h1 h2 => by rw [lk_set, if_neg (by omega)]⟩
  have yn : (σ3.set pp (penB p.a L t' (.ptr r 0))).n = σ'.n := x3
  generalize σ3.set pp (penB p.a L t' (.ptr r 0)) = σ4 at *
  have htg := tk4.g
  have hfu := fit_uav .u64 hs
  have hlu := len_uav .u64 hs
  have hu : uav .u64 (hs ++ [h]) = uav .u64 hs ++ [.int .u64 (h : Nat)] := by simp [uav]
  simp (disch := first | exact dA | fail) only [↓V0, VV, reduceCtorEq, seval, a44, r4, r5, r7, ↓eval_app, appA_S]
  have z : ∀ β, β < hi -> lk (σ4.rt tk).H β = lk σ4.H β := fun β hβ => rt_ne tk4 (by omega) (fun e => by subst e; have := tk4.1; omega)
  refine ⟨L.length, by simp, L, t', .id σ4.n, A2, hs ++ [h], rfl, by rw [hu], ?_, ?_, ?_, ?_, rt_tok tk (by omega), by rw [rt_n]; omega, ?_, by simp; omega, ?_⟩
  ·rw [z pp (by omega)]; exact y1
  ·unfold fitSz at l2 ⊢; rw [List.all_cons] at l2; simp only [Bool.and_eq_true] at l2; exact l2.2
  ·refine ArAt.gr (n0 := hi) (b := pp) yA (hp _ (by omega)) (GrX.rt tk4 (by omega))
  ·have l41 := l4.1
   exact ⟨by have := yF.1; rw [rt_n]; omega, fun β h1 h2 => by rw [z β (by omega)]; exact yF.2 β h1 h2⟩
  ·rw [z _ (by omega)]; exact y2
  ·have := x5.ag (yR.trans ⟨by rw [rt_n]; omega, fun β h1 h2 => z β h2⟩ : Ag lo hi σ3 (σ4.rt tk)) (fun B hs σ σ' hA ⟨e1, e2, e3⟩ => ⟨e1, e2, (hA.2 r j1 j2).trans e3⟩)
   simpa using this
end Go.Proofs.YtekhblefchceaaaGreat.AM

/- Contracts: rope.Write in one, rope.New. -/
set_option maxRecDepth 20000
namespace Go.Proofs.YtekhblefchceaaaGreat.AM
open Go Go.Proofs
variable {σ : St}
theorem RtOk.okp {A : Ar} (wf : A.WF) {r : Rt} (h : RtOk A r) : OkP A r.pl := by
 rcases h with rfl | ⟨x, h1, h2, h3⟩
 ·exact .inl rfl
 ·have := (wf _ _ h1).1.pos
  refine .inr ⟨r.ht, ?_⟩
  rw [Rt.pl, if_neg (by omega)]
  exact .kept h1 h2 h3 (.inl rfl)
theorem RtOk.mono {A B : Ar} (hs : A.sub B) {r : Rt} (h : RtOk A r) : RtOk B r := by
 rcases h with h | ⟨x, h1, h2, h3⟩
 ·exact .inl h
 ·exact .inr ⟨x, hs _ _ h1, h2, h3⟩
noncomputable def Rt.txt (A : Ar) (r : Rt) : List UInt8 := r.pl.txt A
theorem Rt.txt_mono {A B : Ar} (wf : A.WF) (hs : A.sub B) {r : Rt} (h : RtOk A r) : r.txt B = r.txt A := by
 rcases h.okp wf with e | ⟨n, h⟩
 ·unfold Rt.txt; rw [e]; rfl
 ·exact h.txt_mono wf hs
theorem rt_bytes {A : Ar} (wf : A.WF) {r : Rt} (h : RtOk A r) : r.pl.bytes = (r.txt A).length /\ (r.m.b : Int) = ((r.txt A).length : Nat) := by
 have e := (h.okp wf).bytes wf
 refine ⟨e, ?_⟩
 rcases h with rfl | ⟨x, h1, h2, h3⟩
 ·rfl
 ·have := (wf _ _ h1).1.pos
  unfold Rt.txt
  rw [<- e, Rt.pl, if_neg (by omega)]
  rfl
theorem Val.pos {A : Ar} (wf : A.WF) {b : Bool} {n : Nat} {t : Pl} (h : Val A b n t) : 1 <= t.bytes := by
 by_cases hn : n = 0
 ·subst hn; exact (bytes0 wf h).1
 ·cases h with
  | kept hg e1 e2 e3 =>
   have := Val.least wf (Val.kept (t := false) hg e1 e2 (.inr (.inl hn)))
   have := Nat.one_le_two_pow (n := n)
   omega
  | leaf h1 h2 h3 => exact absurd rfl hn
  | inner h1 h2 h3 h4 =>
   rename_i n ks
   have := Val.least wf (Val.inner (t := false) h1 h2 h3 h4)
   have := Nat.one_le_two_pow (n := n + 1)
   omega
end Go.Proofs.YtekhblefchceaaaGreat.AM

