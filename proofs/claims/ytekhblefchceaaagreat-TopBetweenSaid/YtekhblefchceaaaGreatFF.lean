/- Joined: F21, F22, F23. -/
import Derived.Test.YtekhblefchceaaaGreatFE
set_option linter.unusedVariables false
set_option linter.unusedSimpArgs false
/- Contracts: quartotop.few; rope.New, with what it writes. -/
set_option maxRecDepth 20000
namespace Go.Proofs.YtekhblefchceaaaGreat.AM
open Go Go.Proofs
variable {σ : St}
structure Ed where
 of : Int
 at_ : Int
 n : Int
 tx : List UInt8
def Ed.av (e : Ed) : AV := .agg [.int .i64 e.of, .int .i64 e.at_, .int .i64 e.n, .str e.tx]
theorem few_ok (s : List UInt8) (l : List Ed) (hs : s.length <= 9223372036854775807) (hl : l.length <= 9223372036854775807) (ht : ∀ e, e ∈ l -> e.tx.length <= 9223372036854775807) :
  ACalls Tryz.prog 34 [.str s, .vs (l.map Ed.av) .no] σ (fun v σ' => (∃ b, v = .bool b /\ (b = true -> s.length <= 80 /\ l.length <= 10 /\ ∀ e, e ∈ l -> e.tx.length <= 40)) /\ σ' = σ) := by
 have hll : (l.map Ed.av).length = l.length := List.length_map _
 by_cases h1 : s.length <= 80
 ·by_cases h2 : l.length <= 10
  ·refine FOk.calls ok34 (by simp [a34]) (wpc_sound hmix ?_)
   show wpc _ _ _ c34 _ _ _
   simp (disch := first | exact dA | fail) only [↓V0, VV, reduceCtorEq, seval, a34, hll, eq_false (show ¬ (80 : Int) < (s.length : Int) by omega), eq_false (show ¬ (10 : Int) < (l.length : Int) by omega)]
   refine AW.upto hmix (fun i ρ σ' => σ' = σ /\ (∀ e, e ∈ l.take i -> e.tx.length <= 40) /\ ρ 1 = .vs (l.map Ed.av) .no /\ ρ 5 = .int .i64 (i : Nat)) l.length ⟨rfl, by simp, by exact wA, by exact wA⟩ (fun i ρ σ' hi hJ => ?_) (fun ρ σ' hJ => ?_)
   ·obtain ⟨rfl, hn, r1, r5⟩ := hJ
    have hgi : (l.map Ed.av)[i]? = some l[i].av := by simp [hi]
    have hs := List.take_succ_eq_append_getElem hi
    have hm := ht _ (List.getElem_mem hi)
    generalize l[i] = e at *
    simp only [Ed.av] at hgi
    by_cases he : e.tx.length <= 40
    ·simp (disch := first | exact dA | fail) only [↓V0, VV, reduceCtorEq, seval, a34, r1, r5, hll, hgi, eq_false (show ¬ (40 : Int) < (e.tx.length : Int) by omega)]
     rw [hs]
     refine ⟨fun q hq => ?_, rfl⟩
     rcases List.mem_append.1 hq with hq | hq
     ·exact hn q hq
     ·rw [List.mem_singleton] at hq; subst hq; exact he
    ·simp (disch := first | exact dA | fail) only [↓V0, VV, reduceCtorEq, seval, a34, r1, r5, hll, hgi, eq_true (show (40 : Int) < (e.tx.length : Int) by omega)]
     exact ⟨false, rfl, by simp⟩
   ·obtain ⟨rfl, hn, r1, r5⟩ := hJ
    rw [List.take_length] at hn
    simp (disch := first | exact dA | fail) only [↓V0, VV, reduceCtorEq, seval, a34, r1, r5, hll]
    exact ⟨true, rfl, fun _ => hn⟩
  ·refine FOk.calls ok34 (by simp [a34]) (wpc_sound hmix ?_)
   show wpc _ _ _ c34 _ _ _
   simp (disch := first | exact dA | fail) only [↓V0, VV, reduceCtorEq, seval, a34, hll, eq_false (show ¬ (80 : Int) < (s.length : Int) by omega), eq_true (show (10 : Int) < (l.length : Int) by omega)]
   exact ⟨false, rfl, by simp⟩
 ·refine FOk.calls ok34 (by simp [a34]) (wpc_sound hmix ?_)
  show wpc _ _ _ c34 _ _ _
  simp (disch := first | exact dA | fail) only [↓V0, VV, reduceCtorEq, seval, a34, hll, eq_true (show (80 : Int) < (s.length : Int) by omega)]
  exact ⟨false, rfl, by simp⟩
theorem rnew2_ok {p : Pa} {A : Ar} (g : A.Good) (s : List UInt8) (hs : s.length <= 50000) (hk : (bldP s).nnew <= A.k) (hA : ArAt p σ A) :
  ACalls Tryz.prog 57 [.ptr p.a 0, .str s] σ (fun v σ' => ∃ B, (v = .tup [(wrP A (bldP s)).2.1.av, .int .i64 0] /\ B = (wrP A (bldP s)).1) /\ ArAt p σ' B /\ Fr p σ σ') := by
 obtain ⟨b1, b2, b3⟩ := bldP_spec s (by omega)
 have hbb := (b1 A).bytes g.wf
 rw [b2] at hbb
 refine ACalls.arenaQ ?_ hA.lt (fun v B ⟨e, _⟩ => by rw [e]; rfl)
 refine FOk.calls ok57 (by simp [a57]) (wpc_sound hmix ?_)
 show wpc _ _ _ c57 _ _ _
 simp (disch := first | exact dA | fail) only [↓V0, VV, reduceCtorEq, seval, a57]
 refine callQE (by first | rfl | simp only [WQ, treeCs, Ms.av, Ms.cs]) (build_ok s (by omega)) ?_
 have hw := fun σ' (hA' : ArAt p σ' A) => write_ok (σ := σ') g (bldP s) (b1 A) (by omega) hk hA'
 generalize bldP s = t at *
 simp (disch := first | exact dA | fail) only [↓V0, VV, reduceCtorEq, seval, a57, Pl.av_eq, treeCs]
 generalize hσ1 : St.set _ _ _ = σ1
 have hE : Ext σ σ1 := by rw [<- hσ1]; exact eA
 have hn1 : σ1.n = σ.n + 2 := by rw [<- hσ1]; rfl
 have k1 : lk σ1.H σ.n = some (.arr Rt.z.cs) := by rw [<- hσ1]; simp (disch := first | exact dA | fail) only [↓V0, VV, reduceCtorEq, seval, a57] <;> rfl
 obtain ⟨q1, q2, q3, q4, q5, q6⟩ := hA.lt
 have hp : ∀ β, σ.n <= β -> ¬ p.has β := fun β hβ h => by rcases h with e | e | e | e | e | e <;> omega
 refine callE (by first | rfl | simp only [WQ, treeCs, Ms.av, Ms.cs]) (hw _ (hA.ext hE)) ?_
 rintro v σ' ⟨rfl, h1, h2⟩
 simp (disch := first | exact dA | fail) only [↓V0, VV, reduceCtorEq, seval, a57, Rt.av, Rt.cs]
 have hn2 := h2.1
 have k2 : lk σ'.H σ.n = some (.arr Rt.z.cs) := (h2.2 _ (by omega) (hp _ (by omega))).trans k1
 simp only [Rt.cs] at k2
 simp (disch := first | exact dA | fail) only [↓V0, VV, reduceCtorEq, seval, a57, k2, show (σ'.n = σ.n) = False from eq_false (by omega)]
 exact ⟨_, ⟨by simp only [WE], rfl⟩, h1.gr (n0 := 0) (b := σ.n) (hp _ (by omega)) (GrX.set (GrX.ext (by exact eA) (by omega)) (Nat.zero_le _) _), FrX.set (FrX.set (FrX.new ((FrX.ext hE).trans h2.x) _) (.inl (by omega)) _) (.inl (by omega)) _⟩
end Go.Proofs.YtekhblefchceaaaGreat.AM

/- Law: what holds of the versions. -/
namespace Go.Proofs.YtekhblefchceaaaGreat.AM
open Go Go.Proofs
def cst (k : Nat) : Nat := 5 * (k * k) + 16 * k
theorem cst_succ (k : Nat) : cst (k + 1) = cst k + (21 + 10 * k) := by
 have : (k + 1) * (k + 1) = k * k + 2 * k + 1 := by rw [Nat.add_mul, Nat.mul_add]; omega
 unfold cst; omega
theorem cst_mono {a b : Nat} (h : a <= b) : cst a <= cst b := by
 have := Nat.mul_le_mul h h
 unfold cst; omega
structure VI (A : Ar) (vs : List (Rt × List UInt8)) : Prop where
 g : A.Good
 lv : A.Lv
 ok : ∀ j v, vs[j]? = some v -> RtOk A v.1 /\ v.1.txt A = v.2 /\ v.2.length <= 80 + 40 * j
 k : 3000 <= A.k + cst vs.length
theorem VI.first {A : Ar} (g : A.Good) (lv : A.Lv) (hk : 3000 <= A.k) (s : List UInt8) (hs : s.length <= 80) :
  (bldP s).nnew <= A.k /\ VI (wrP A (bldP s)).1 [((wrP A (bldP s)).2.1, s)] := by
 obtain ⟨b1, b2, b3⟩ := bldP_spec s (by omega)
 have hb := (b1 A).bytes g.wf
 rw [b2] at hb
 have hc := (b1 A).nnew_c g.wf
 have W := wro g lv (b1 A) (by omega) (by omega)
 refine ⟨by omega, W.g, W.lv, fun j v hv => ?_, ?_⟩
 ·cases j with
  | zero =>
   simp only [List.getElem?_cons_zero, Option.some.injEq] at hv
   subst hv
   exact ⟨W.rt, W.tx.trans (b2 A), by simp only; omega⟩
  | succ j => simp at hv
 ·rw [W.k, List.length_singleton]
  have : cst 1 = 21 := rfl
  omega
theorem VI.step {A : Ar} {vs : List (Rt × List UInt8)} (V : VI A vs) (hm : vs.length <= 6) {j : Nat} {v : Rt × List UInt8} (hv : vs[j]? = some v) (at_ n : Nat) (s : List UInt8) (h1 : at_ <= v.2.length) (h2 : n <= v.2.length - at_) (h3 : s.length <= 40) :
  (rplP A v.1.pl at_ n s).nnew <= A.k /\ OkP A (rplP A v.1.pl at_ n s) /\ Wro A (rplP A v.1.pl at_ n s) (wrP A (rplP A v.1.pl at_ n s)) /\
   VI (wrP A (rplP A v.1.pl at_ n s)).1 (vs ++ [((wrP A (rplP A v.1.pl at_ n s)).2.1, v.2.take at_ ++ s ++ v.2.drop (at_ + n))]) := by
 obtain ⟨g, lv, ok, k⟩ := V
 obtain ⟨hr, ht, hl⟩ := ok j v hv
 have hj : j < vs.length := (List.getElem?_eq_some_iff.1 hv).1
 have hpl := hr.okp g.wf
 have hpb := hpl.bytes g.wf
 have e : v.1.pl.txt A = v.2 := ht
 rw [e] at hpb
 obtain ⟨o1, o2⟩ := rplP_spec g.wf (at_ := at_) (n := n) (s := s) hpl (by omega) (by omega) (by omega) (by omega)
 rw [e] at o2
 have hTb := o1.bytes g.wf
 rw [o2] at hTb
 simp only [List.length_append, List.length_take, List.length_drop] at hTb
 generalize rplP A v.1.pl at_ n s = T at *
 have hc := o1.nnew_c g.wf
 have hcm := cst_mono hm
 have hc6 : cst 6 = 276 := rfl
 have W := wro g lv o1 (by omega) (by omega)
 refine ⟨by omega, o1, W, W.g, W.lv, fun i q hq => ?_, ?_⟩
 ·by_cases hi : i < vs.length
  ·rw [List.getElem?_append_left hi] at hq
   obtain ⟨x1, x2, x3⟩ := ok i q hq
   exact ⟨x1.mono W.s, (Rt.txt_mono g.wf W.s x1).trans x2, x3⟩
  ·rw [List.getElem?_append_right (by omega)] at hq
   have hi2 : i - vs.length = 0 := by
    rcases Nat.eq_zero_or_pos (i - vs.length) with h | h
    ·exact h
    ·rw [List.getElem?_eq_none (by simp; omega)] at hq; cases hq
   rw [hi2] at hq
   simp only [List.getElem?_cons_zero, Option.some.injEq] at hq
   subst hq
   refine ⟨W.rt, W.tx.trans (by rw [o2, List.append_assoc]), ?_⟩
   simp only [List.length_append, List.length_take, List.length_drop]
   omega
 ·rw [W.k, List.length_append, List.length_singleton, cst_succ]
  omega
end Go.Proofs.YtekhblefchceaaaGreat.AM

/- Contract: quartotop.versions. -/
set_option maxRecDepth 20000
namespace Go.Proofs.YtekhblefchceaaaGreat.AM
open Go Go.Proofs
variable {σ : St}
def vav (v : Rt × List UInt8) : AV := .agg [.int .u64 v.1.h, .int .i64 v.1.ht, .int .i64 v.1.m.b, .int .i64 v.1.m.r, .int .i64 v.1.m.l, .str v.2]
theorem er_vav (l : List (Rt × List UInt8)) : (l.map vav).map AV.er = l.map vav := by
 rw [List.map_map]
 refine List.map_congr_left fun v _ => ?_
 simp only [Function.comp_apply, vav, WE]
theorem pur_vav (l : List (Rt × List UInt8)) : purL (l.map vav) = true := purL_all fun x hx => by
 obtain ⟨v, _, rfl⟩ := List.mem_map.1 hx
 rfl
theorem fit_vav (l : List (Rt × List UInt8)) : fitSz 6 (l.map vav) = true := fit_all fun x hx => by
 obtain ⟨v, _, rfl⟩ := List.mem_map.1 hx
 exact ⟨rfl, rfl⟩
theorem wrP_es (t : Pl) : ∀ A : Ar, (wrP A t).1.es.length = A.es.length + (wrP A t).2.2.length := by
 refine Pl.ind (M := fun t => ∀ A : Ar, (wrP A t).1.es.length = A.es.length + (wrP A t).2.2.length) (fun t ih A => ?_) t
 have put1 : ∀ (A : Ar) (x : Nd), (A.put x).es.length = A.es.length + 1 := fun A x => by
  show (A.es ++ [(A.hd, x, A.ck)]).length = _
  rw [List.length_append]; rfl
 cases t with
 | emp => rfl
 | kept h ht m => rfl
 | leaf s => simp only [wrP]; rw [put1]; rfl
 | inner ht ks =>
  have key : ∀ (l : List Pl), (∀ k, k ∈ l -> k ∈ ks) -> ∀ A : Ar, (wrL A l).1.es.length = A.es.length + (wrL A l).2.2.length := by
   intro l
   induction l with
   | nil => intro _ A; rfl
   | cons k l il =>
    intro hl A
    simp only [wrL, List.length_append]
    rw [il (fun q hq => hl q (by simp [hq])), ih k (hl k (by simp))]
    omega
  simp only [wrP, List.length_append, List.length_singleton]
  rw [put1, key ks (fun _ h => h)]
  omega
theorem SB.tail {β : Nat} {b : Blk} {l : List (Nat × Blk)} (h : SB ((β, b) :: l) σ) (hn : lk l β = none) : SB l σ := fun γ c hc => by
 refine h γ c ?_
 simp only [lk]
 rw [if_neg (fun e => by subst e; rw [hn] at hc; cases hc)]
 exact hc
theorem blks_out {p : Pa} {A : Ar} {β : Nat} (h : ¬ p.has β) : lk (A.blks p) β = none := by
 have e1 : ¬ p.a = β := fun e => h (.inl e.symm)
 have e2 : ¬ p.l = β := fun e => h (.inr (.inl e.symm))
 have e3 : ¬ p.b1 = β := fun e => h (.inr (.inr (.inl e.symm)))
 have e4 : ¬ p.b2 = β := fun e => h (.inr (.inr (.inr (.inl e.symm))))
 have e5 : ¬ p.b3 = β := fun e => h (.inr (.inr (.inr (.inr (.inl e.symm)))))
 have e6 : ¬ p.m = β := fun e => h (.inr (.inr (.inr (.inr (.inr e.symm)))))
 simp [Ar.blks, lk, e1, e2, e3, e4, e5, e6]
theorem es_le {A : Ar} (l : A.Lv) : A.es.length <= 16384 := by
 have hm : ∀ e, e ∈ A.es -> A.has e.1 := fun e he => by
  cases hg : A.get e.1 with
  | none => exact absurd (List.mem_map_of_mem he) (Ar.get_none hg)
  | some x => exact l.lv _ _ hg
 have h1 : (A.es.map fun e => e.1 % 65536).Nodup := by
  refine List.nodup_iff_pairwise_ne.2 (List.pairwise_map.2 ?_)
  have := List.pairwise_map.1 (List.nodup_iff_pairwise_ne.1 l.nk)
  refine List.Pairwise.imp_of_mem (fun {a b} ha hb hne e => hne ?_) this
  have ga := (hm a ha).gn
  have gb := (hm b hb).gn
  rw [e] at ga
  have : a.1 / 65536 = b.1 / 65536 := ga.symm.trans gb
  omega
 have h2 := nodup_le A.n _ h1 fun x hx => by
  obtain ⟨e, he, rfl⟩ := List.mem_map.1 hx
  exact (hm e he).lt
 have := l.ok.n1
 rw [List.length_map] at h2
 omega
set_option maxHeartbeats 1000000 in
theorem versions_ok {p : Pa} {A : Ar} (g : A.Good) (lv : A.Lv) (hk : 3000 <= A.k) (hA : ArAt p σ A) (s : List UInt8) (hs : s.length <= 80) (l : List Ed) (hl : l.length <= 6) (ht : ∀ e, e ∈ l -> e.tx.length <= 40) :
  ACalls Tryz.prog 36 [.ptr p.a 0, .str s, .vs (l.map Ed.av) .no] σ (fun v σ' => ∃ B, (∃ vs, v = .tup [.vs (vs.map vav) .no, .bool true] /\ VI B vs /\ vs.length <= 7) /\ ArAt p σ' B /\ Fr p σ σ') := by
 obtain ⟨q1, q2, q3, q4, q5, q6⟩ := hA.lt
 have hp : ∀ β, σ.n <= β -> ¬ p.has β := fun β hβ h => by rcases h with e | e | e | e | e | e <;> omega
 refine ACalls.arenaQ ?_ hA.lt (fun v B ⟨vs, e, _⟩ => by rw [e]; simp only [AV.pur, purL, pur_vav, Tok.pur, Bool.and_self])
 have hll : (l.map Ed.av).length = l.length := List.length_map _
 obtain ⟨f1, f2⟩ := VI.first g lv hk s hs
 refine FOk.calls ok36 (by simp [a36]) (wpc_sound hmix ?_)
 show wpc _ _ _ c36 _ _ _
 simp (disch := first | exact dA | fail) only [↓V0, VV, reduceCtorEq, seval, a36]
 refine (rnew2_ok g s (by omega) f1 hA).mono ?_
 rintro v σ1 ⟨B0, ⟨rfl, rfl⟩, z1, z2⟩
 generalize wrP A (bldP s) = W0 at *
 obtain ⟨A1, R1, D1⟩ := W0
 simp only at f2 z1
 simp (disch := first | exact dA | fail) only [↓V0, VV, reduceCtorEq, seval, a36, Rt.av, Rt.cs]
 generalize hσ2 : St.set _ _ _ = σ2
 have hE2 : Ext σ1 σ2 := by rw [<- hσ2]; exact eA
 clear hσ2
 refine AW.upto hmix (fun i ρ σ' => ∃ B vs t, VI B vs /\ vs.length = i + 1 /\ ArAt p σ' B /\ FrX p σ σ' /\ TokOk σ.n σ' t /\ ρ 0 = .ptr p.a 0 /\ ρ 2 = .vs (l.map Ed.av) .no /\ ρ 10 = .vs (vs.map vav) t /\ ρ 11 = .int .i64 (i : Nat)) l.length
  ⟨A1, [(R1, s)], .ex, f2, rfl, z1.ext hE2, z2.x.trans (FrX.ext hE2), trivial, by exact wA, by exact wA, by (simp only [↓W0, W, reduceCtorEq, seval, vav]; first | done | rfl | omega | simp), by exact wA⟩ (fun i ρ σ' hi hJ => ?_) (fun ρ σ' hJ => ?_)
 ·obtain ⟨B, vs, tk, V, hvl, hB, hF, htk, r0, r2, r10, r11⟩ := hJ
  obtain ⟨p1, p2, p3, p4, p5, p6⟩ := hB.lt
  have hgi : (l.map Ed.av)[i]? = some l[i].av := by simp [hi]
  have hte := ht _ (List.getElem_mem hi)
  generalize l[i] = e at *
  simp only [Ed.av] at hgi
  have w1 := wi_lt (i := e.of) (n := (vs.length : Int)) (by omega)
  obtain ⟨j, hj⟩ : ∃ j : Nat, wi e.of (vs.length : Int) = (j : Int) := ⟨(wi e.of (vs.length : Int)).toNat, by omega⟩
  rw [hj] at w1
  have hjl : j < vs.length := by omega
  have hvj : vs[j]? = some vs[j] := List.getElem?_eq_getElem hjl
  generalize vs[j] = v at *
  have hgv : (vs.map vav)[j]? = some (vav v) := by simp [hvj]
  have hvl2 : (vs.map vav).length = vs.length := List.length_map _
  obtain ⟨o1, o2, o3⟩ := V.ok j v hvj
  have w2 := wi_lt (i := e.at_) (n := (v.2.length : Int) + 1) (by omega)
  obtain ⟨a, ha⟩ : ∃ a : Nat, wi e.at_ ((v.2.length : Int) + 1) = (a : Int) := ⟨(wi e.at_ ((v.2.length : Int) + 1)).toNat, by omega⟩
  rw [ha] at w2
  have w3 := wi_lt (i := e.n) (n := (v.2.length : Int) - a + 1) (by omega)
  obtain ⟨b, hb⟩ : ∃ b : Nat, wi e.n ((v.2.length : Int) - a + 1) = (b : Int) := ⟨(wi e.n ((v.2.length : Int) - a + 1)).toNat, by omega⟩
  rw [hb] at w3
  obtain ⟨s1, s2, s3, s4⟩ := V.step (by omega) hvj a b e.tx (by omega) (by omega) hte
  simp only [vav] at hgv
  simp (disch := first | exact dA | fail) only [↓V0, VV, reduceCtorEq, seval, a36, r0, r2, r10, r11, hll, hgi, hvl2]
  refine callQ (within_ok _ _ (by omega)) ?_
  simp (disch := first | exact dA | fail) only [↓V0, VV, reduceCtorEq, seval, a36, r0, r2, r10, r11, hll, hgi, hj, hgv]
  refine callQ (within_ok _ _ (by omega)) ?_
  simp (disch := first | exact dA | fail) only [↓V0, VV, reduceCtorEq, seval, a36, r0, r2, r10, r11, hll, hgi, ha]
  refine callQ (within_ok _ _ (by omega)) ?_
  simp (disch := first | exact dA | fail) only [↓V0, VV, reduceCtorEq, seval, a36, r0, r2, r10, r11, hll, hgi, hb]
  generalize hσa : St.set _ _ _ = σa
  have hEa : Ext σ' σa := by rw [<- hσa]; exact eA
  have hna : σa.n = σ'.n + 1 := by rw [<- hσa]; rfl
  have kv : lk σa.H σ'.n = some (.arr [.int .u64 v.1.h, .int .i64 v.1.ht, .int .i64 v.1.m.b, .int .i64 v.1.m.r, .int .i64 v.1.m.l, .str v.2]) := by rw [<- hσa]; simp (disch := first | exact dA | fail) only [↓V0, VV, reduceCtorEq, seval, a36]
  clear hσa
  have hBa := hB.ext hEa
  refine callQ (stats_ok hBa V.g.ok) ?_
  simp (disch := first | exact dA | fail) only [↓V0, VV, reduceCtorEq, seval, a36, Ar.stats, r0, r2, r10, r11]
  have hrb : v.1.m.b = v.2.length := by have := (rt_bytes V.g.wf o1).2; rw [o2] at this; omega
  have hpB : ∀ β, σ'.n <= β -> ¬ p.has β := fun β hβ h => by rcases h with e | e | e | e | e | e <;> omega
  have hdl := drp_len V.g.wf o1 (rplP B v.1.pl a b e.tx)
  have hcall := fun (σ3 : St) (hE : Ext σa σ3) => ereplace_ok (σ := σ3) V.g v.1 o1 a b e.tx (by omega) (by omega) (by omega) s1 hdl (hBa.ext hE)
  have hIn := rpl_in V.g.wf o1 a b e.tx
  generalize rplP B v.1.pl a b e.tx = T at *
  have hL := fun o (ho : o ∈ nodes B v.1) => law_old V.g s2 s3 o1 ho
  have hN := fun x hx => law_new V.g s2 s3 o1 hIn (x := x) hx
  have hes := wrP_es T B
  generalize hW : wrP B T = W at *
  obtain ⟨C, r', fr⟩ := W
  simp only at s3 s4 hL hN hes
  simp only [Rt.av, Rt.cs] at hcall
  generalize hdr : (drp B v.1 T).foldl ins [] = dr at *
  refine AW.mono (Q := fun x ρ3 σ4 => x = .nrm /\ (ρ3 0 = .ptr p.a 0 /\ ρ3 2 = .vs (l.map Ed.av) .no /\ ρ3 10 = .vs (vs.map vav) tk /\ ρ3 11 = .int .i64 (i : Nat) /\ ρ3 12 = .ptr σ'.n 0 /\ ρ3 13 = .int .i64 (a : Nat) /\ ρ3 14 = .int .i64 (b : Nat) /\ ρ3 15 = .int .i64 (B.es.length : Nat) /\ ρ3 16 = .ptr (σ'.n + 1) 0 /\ ρ3 17 = .int .i64 0) /\
   σ4.n = σ'.n + 2 /\ lk σ4.H σ'.n = some (.arr [.int .u64 v.1.h, .int .i64 v.1.ht, .int .i64 v.1.m.b, .int .i64 v.1.m.r, .int .i64 v.1.m.l, .str v.2]) /\
   lk σ4.H (σ'.n + 1) = some (.arr [.int .u64 r'.h, .int .i64 r'.ht, .int .i64 r'.m.b, .int .i64 r'.m.r, .int .i64 r'.m.l, .vs (uav .u64 fr) .no, .vs (uav .u64 dr) .no]) /\ ArAt p σ4 C /\ FrX p σ' σ4) ?_ ?_
  ·refine AW.qx (some 10) (.p 0 (.p 1 (.p 2 (.p 3 (.p 4 (.p 5 (.p 6 (.p 7 (.p 8 (.p 9 (.b 10 (.p 11 (.p 12 (.p 13 (.a 14 (.a 15 (.p 16 .nil)))))) 14 (.z 10 (.p 11 (.p 12 (.p 13 (.a 15 (.p 16 .nil))))))))))))))))) [(σ'.n, .arr [.int .u64 v.1.h, .int .i64 v.1.ht, .int .i64 v.1.m.b, .int .i64 v.1.m.r, .int .i64 v.1.m.l, .str v.2])] hmix (by decide) (by decide) (SB.cons kv (SB.nil _)) ?_
   simp (disch := first | exact dA | fail) only [↓V0, VV, reduceCtorEq, seval, a36, r0, r2, r10, r11, hll, hgi, kv]
   refine ⟨?_, ?_, ?_⟩
   ·refine (hcall σa (Ext.refl _)).mono ?_
    rintro v3 σ3 ⟨_, ⟨rfl, rfl⟩, y1, y2⟩
    have y3 := y2.1
    have kv3 := (y2.2 _ (by omega) (hpB _ (Nat.le_refl _))).trans kv
    simp (disch := first | exact dA | fail) only [↓V0, VV, reduceCtorEq, seval, a36, List.cons_append, List.nil_append, r0, r2, r10, r11, hna, Rt.cs]
    have hn3 : σ3.n = σ'.n + 1 := by omega
    rw [hn3]
    refine ⟨SB.cons kv3 (SB.nil _), SB.cons (by rw [lk_new, if_neg (by omega)]; exact kv3) (SB.nil _), SB.cons (by rw [lk_set, if_neg (by omega), lk_new, if_neg (by omega)]; exact kv3) (SB.nil _), rfl, rfl, kv3, by rw [if_pos rfl, if_pos rfl]; rfl,
     (y1.ext (Ext.new _ _)).gr (n0 := 0) (b := σ'.n + 1) (hpB _ (by omega)) (GrX.set (GrX.refl 0 _ _) (Nat.zero_le _) _), FrX.set (FrX.new ((FrX.ext hEa).trans y2.x) _) (.inl (by omega)) _⟩
   ·exact SB.cons (by simp (disch := first | exact dA | fail) only [↓V0, VV, reduceCtorEq, seval, a36, kv]) (SB.nil _)
   ·refine (hcall _ (Ext.new σa _)).mono ?_
    rintro v3 σ3 ⟨_, ⟨rfl, rfl⟩, y1, y2⟩
    have y3 := y2.1
    have kv3 := (y2.2 σ'.n (by simp only [St.new]; omega) (hpB _ (Nat.le_refl _))).trans ((lk_new _ _ _).trans ((if_neg (by omega)).trans kv))
    have kz := (y2.2 (σ'.n + 1) (by simp only [St.new]; omega) (hpB _ (by omega))).trans ((lk_new _ _ _).trans (if_pos hna))
    simp (disch := first | exact dA | fail) only [↓V0, VV, reduceCtorEq, seval, a36, List.cons_append, List.nil_append, r0, r2, r10, r11, hna, Rt.cs, kz]
    refine ⟨SB.cons (by rw [lk_set, if_neg (by omega)]; exact kv3) (SB.nil _), by rw [y3]; simp only [St.new]; omega, kv3,
     y1.gr (n0 := 0) (b := σ'.n + 1) (hpB _ (by omega)) (GrX.set (GrX.refl 0 _ _) (Nat.zero_le _) _), FrX.set ((FrX.new (FrX.ext hEa) _).trans y2.x) (.inl (by omega)) _⟩
  ·rintro x ρ3 σ4 ⟨rfl, ⟨r0, r2, r10, r11, r12, r13, r14, r15, r16, r17⟩, hn4, kv4, kc4, hC, hF4⟩
   have hbk := V.g.ok.kn
   have hbn := V.g.ok.n1
   have hfl := s3.fl
   simp only at hfl
   have hfr : fr.length <= 16384 := by omega
   have hel := es_le V.lv
   have hlf : (uav .u64 fr).length = fr.length := len_uav _ _
   have hC4 := hC.sb
   have hpo := hC.ne
   have hno : lk (C.blks p) (σ'.n + 1) = none := blks_out (hpB _ (by omega))
   simp (disch := first | exact dA | fail) only [↓V0, VV, reduceCtorEq, seval, a36, r0, r2, r10, r11, r12, r13, r14, r15, r16, r17]
   refine AW.qx none (.p 0 (.r 1 (.p 2 (.p 3 (.p 4 (.p 5 (.p 6 (.p 7 (.p 8 .nil))))))))) ((σ'.n + 1, .arr [.int .u64 r'.h, .int .i64 r'.ht, .int .i64 r'.m.b, .int .i64 r'.m.r, .int .i64 r'.m.l, .vs (uav .u64 fr) .no, .vs (uav .u64 dr) .no]) :: C.blks p) hmix (by decide) (by decide) (SB.cons kc4 hC4) ?_
   simp (disch := first | exact dA | fail) only [↓V0, VV, reduceCtorEq, seval, a36, r0, r2, r10, r11, r12, r13, r14, r15, r16, r17]
   refine aqr (.agg C.stats) (fun σ5 hs5 => ?_) ?_
   ·simp (disch := first | exact dA | fail) only [↓V0, VV, reduceCtorEq, seval, a36, r0]
    exact callQ (.wfQ ok83.co fun hw => stats_ok (.of_sb hpo (hs5.tail hno) hw) s4.g.ok) ⟨rfl, rfl⟩
   simp (disch := first | exact dA | fail) only [↓V0, VV, reduceCtorEq, seval, a36, Ar.stats, r0, r2, r10, r11, r12, r13, r14, r15, r16, r17, hlf, eq_false (show ¬ ¬ (C.es.length : Int) = (B.es.length : Int) + (fr.length : Int) by omega)]
   have o1C := o1.mono s3.s
   have hnm : ∀ x, x ∈ nodes C v.1 ↔ x ∈ nodes B v.1 := fun x => by
    rw [mem_nodes s4.g.wf o1C, mem_nodes V.g.wf o1]
    rcases id o1 with h | ⟨y, y1, _⟩
    ·rw [h]; simp [Rt.z]
    ·rw [rch_mono V.g.wf s3.s y1]
   have hro := nodes_ok (σ := σ4) s4.g.wf v.1 o1C hC
   have hrn := nodes_ok (σ := σ4) s4.g.wf r' s3.rt hC
   have hlo := nodes_len s4.g.wf o1C
   have hln := nodes_len s4.g.wf s3.rt
   have hL2 : ∀ o, o ∈ nodes C v.1 -> (o ∈ nodes C r' ↔ ¬ o ∈ dr) /\ ¬ o ∈ fr := fun o ho => by
    have := hL o ((hnm o).1 ho)
    rw [<- hdr, mem_fins]
    simpa using this
   have hN2 : ∀ x, x ∈ nodes C r' -> (x ∈ nodes C v.1 ↔ ¬ x ∈ fr) := fun x hx => (hnm x).trans (hN x hx)
   have hdl2 : dr.length <= 131072 := by rw [<- hdr]; exact Nat.le_trans (foldl_ins_len _ _) (by simpa using hdl)
   generalize nodes C v.1 = old at *
   generalize nodes C r' = now at *
   simp only [Rt.av, Rt.cs] at hro hrn
   have hlold : (uav .u64 old).length = old.length := len_uav _ _
   have hlnow : (uav .u64 now).length = now.length := len_uav _ _
   simp (disch := first | exact dA | fail) only [↓V0, VV, reduceCtorEq, seval, a36, r0, r2, r10, r11, r12, r13, r14, r15, r16, r17, kv4]
   refine callQ hro ?_
   simp (disch := first | exact dA | fail) only [↓V0, VV, reduceCtorEq, seval, a36, r0, r2, r10, r11, r12, r13, r14, r15, r16, r17, kc4]
   refine callQ hrn ?_
   simp (disch := first | exact dA | fail) only [↓V0, VV, reduceCtorEq, seval, a36, r0, r2, r10, r11, r12, r13, r14, r15, r16, r17, kc4]
   refine AW.upto hmix (fun i1 ρ σ5 => σ5 = σ4 /\ ρ 0 = .ptr p.a 0 /\ ρ 2 = .vs (l.map Ed.av) .no /\ ρ 10 = .vs (vs.map vav) tk /\ ρ 11 = .int .i64 (i : Nat) /\ ρ 12 = .ptr σ'.n 0 /\ ρ 13 = .int .i64 (a : Nat) /\ ρ 14 = .int .i64 (b : Nat) /\ ρ 16 = .ptr (σ'.n + 1) 0 /\
     ρ 18 = .vs (uav .u64 old) .no /\ ρ 19 = .vs (uav .u64 now) .no /\ ρ 21 = .int .i64 (i1 : Nat)) old.length
    ⟨rfl, by (simp only [↓W0, W, reduceCtorEq, seval, r0]; first | done | rfl | omega | simp), by (simp only [↓W0, W, reduceCtorEq, seval, r2]; first | done | rfl | omega | simp), by (simp only [↓W0, W, reduceCtorEq, seval, r10]; first | done | rfl | omega | simp), by (simp only [↓W0, W, reduceCtorEq, seval, r11]; first | done | rfl | omega | simp), by (simp only [↓W0, W, reduceCtorEq, seval, r12]; first | done | rfl | omega | simp), by (simp only [↓W0, W, reduceCtorEq, seval, r13]; first | done | rfl | omega | simp), by (simp only [↓W0, W, reduceCtorEq, seval, r14]; first | done | rfl | omega | simp), by (simp only [↓W0, W, reduceCtorEq, seval, r16]; first | done | rfl | omega | simp), by exact wA, by exact wA, by exact wA⟩ (fun i1 ρ5 σ5 hi1 hF5 => ?_) (fun ρ5 σ5 hF5 => ?_)
   ·obtain ⟨rfl, r0, r2, r10, r11, r12, r13, r14, r16, r18, r19, r21⟩ := hF5
    have hgo : (uav .u64 old)[i1]? = some (.int .u64 (old[i1] : Nat)) := by simp [uav, hi1]
    have hmo := hL2 _ (List.getElem_mem hi1)
    generalize old[i1] = x at *
    simp (disch := first | exact dA | fail) only [↓V0, VV, reduceCtorEq, seval, a36, r0, r2, r10, r11, r12, r13, r14, r16, r18, r19, r21, hlold, hgo]
    refine AW.qx none (.p 0 (.p 1 (.p 2 (.p 3 (.p 4 (.r 5 (.p 6 (.p 7 (.p 8 (.p 9 (.p 10 (.p 11 (.r 12 (.p 13 (.p 14 (.p 15 (.p 16 (.p 17 (.p 18 (.p 19 (.p 20 (.r 21 (.p 22 .nil))))))))))))))))))))))) [(σ'.n + 1, .arr [.int .u64 r'.h, .int .i64 r'.ht, .int .i64 r'.m.b, .int .i64 r'.m.r, .int .i64 r'.m.l, .vs (uav .u64 fr) .no, .vs (uav .u64 dr) .no])] hmix (by decide) (by decide) (SB.cons kc4 (SB.nil _)) ?_
    simp (disch := first | exact dA | fail) only [↓V0, VV, reduceCtorEq, seval, a36, r0, r2, r10, r11, r12, r13, r14, r16, r18, r19, r21, hlold, hgo]
    have hh1 := fun (σ6 : St) => has_ok (σ := σ6) now x .no (by omega)
    have hh2 := fun (σ6 : St) => has_ok (σ := σ6) dr x .no (by omega)
    have hh3 := fun (σ6 : St) => has_ok (σ := σ6) fr x .no (by omega)
    rw [decide_eq_false hmo.2] at hh3
    by_cases hx : x ∈ now
    ·rw [decide_eq_true hx] at hh1
     rw [decide_eq_false (hmo.1.1 hx)] at hh2
     refine aqr (.bool true) (fun σ6 hs6 => ?_) ?_
     ·simp (disch := first | exact dA | fail) only [↓V0, VV, reduceCtorEq, seval, a36, r0, r2, r10, r11, r12, r13, r14, r16, r18, r19, r21]
      exact callQ (hh1 σ6) ⟨rfl, rfl⟩
     simp (disch := first | exact dA | fail) only [↓V0, VV, reduceCtorEq, seval, a36, r0, r2, r10, r11, r12, r13, r14, r16, r18, r19, r21, hlold, hgo]
     refine aqr (.bool false) (fun σ6 hs6 => ?_) ?_
     ·simp (disch := first | exact dA | fail) only [↓V0, VV, reduceCtorEq, seval, a36, r0, r2, r10, r11, r12, r13, r14, r16, r18, r19, r21]
      exact callQ (hh2 σ6) ⟨rfl, rfl⟩
     simp (disch := first | exact dA | fail) only [↓V0, VV, reduceCtorEq, seval, a36, r0, r2, r10, r11, r12, r13, r14, r16, r18, r19, r21, hlold, hgo]
     refine aqr (.bool false) (fun σ6 hs6 => ?_) ?_
     ·simp (disch := first | exact dA | fail) only [↓V0, VV, reduceCtorEq, seval, a36, r0, r2, r10, r11, r12, r13, r14, r16, r18, r19, r21]
      exact callQ (hh3 σ6) ⟨rfl, rfl⟩
     simp (disch := first | exact dA | fail) only [↓V0, VV, reduceCtorEq, seval, a36, r0, r2, r10, r11, r12, r13, r14, r16, r18, r19, r21, hlold, hgo]
     rw [Int.natCast_add]; rfl
    ·rw [decide_eq_false hx] at hh1
     rw [decide_eq_true (Decidable.not_not.1 fun h => hx (hmo.1.2 h))] at hh2
     refine aqr (.bool false) (fun σ6 hs6 => ?_) ?_
     ·simp (disch := first | exact dA | fail) only [↓V0, VV, reduceCtorEq, seval, a36, r0, r2, r10, r11, r12, r13, r14, r16, r18, r19, r21]
      exact callQ (hh1 σ6) ⟨rfl, rfl⟩
     simp (disch := first | exact dA | fail) only [↓V0, VV, reduceCtorEq, seval, a36, r0, r2, r10, r11, r12, r13, r14, r16, r18, r19, r21, hlold, hgo]
     refine aqr (.bool true) (fun σ6 hs6 => ?_) ?_
     ·simp (disch := first | exact dA | fail) only [↓V0, VV, reduceCtorEq, seval, a36, r0, r2, r10, r11, r12, r13, r14, r16, r18, r19, r21]
      exact callQ (hh2 σ6) ⟨rfl, rfl⟩
     simp (disch := first | exact dA | fail) only [↓V0, VV, reduceCtorEq, seval, a36, r0, r2, r10, r11, r12, r13, r14, r16, r18, r19, r21, hlold, hgo]
     refine aqr (.bool false) (fun σ6 hs6 => ?_) ?_
     ·simp (disch := first | exact dA | fail) only [↓V0, VV, reduceCtorEq, seval, a36, r0, r2, r10, r11, r12, r13, r14, r16, r18, r19, r21]
      exact callQ (hh3 σ6) ⟨rfl, rfl⟩
     simp (disch := first | exact dA | fail) only [↓V0, VV, reduceCtorEq, seval, a36, r0, r2, r10, r11, r12, r13, r14, r16, r18, r19, r21, hlold, hgo]
     rw [Int.natCast_add]; rfl
   ·obtain ⟨rfl, r0, r2, r10, r11, r12, r13, r14, r16, r18, r19, r21⟩ := hF5
    simp (disch := first | exact dA | fail) only [↓V0, VV, reduceCtorEq, seval, a36, r0, r2, r10, r11, r12, r13, r14, r16, r18, r19, r21, hlold]
    refine AW.upto hmix (fun i1 ρ σ6 => σ6 = σ5 /\ ρ 0 = .ptr p.a 0 /\ ρ 2 = .vs (l.map Ed.av) .no /\ ρ 10 = .vs (vs.map vav) tk /\ ρ 11 = .int .i64 (i : Nat) /\ ρ 12 = .ptr σ'.n 0 /\ ρ 13 = .int .i64 (a : Nat) /\ ρ 14 = .int .i64 (b : Nat) /\ ρ 16 = .ptr (σ'.n + 1) 0 /\
      ρ 18 = .vs (uav .u64 old) .no /\ ρ 19 = .vs (uav .u64 now) .no /\ ρ 22 = .int .i64 (i1 : Nat)) now.length
     ⟨rfl, by (simp only [↓W0, W, reduceCtorEq, seval, r0]; first | done | rfl | omega | simp), by (simp only [↓W0, W, reduceCtorEq, seval, r2]; first | done | rfl | omega | simp), by (simp only [↓W0, W, reduceCtorEq, seval, r10]; first | done | rfl | omega | simp), by (simp only [↓W0, W, reduceCtorEq, seval, r11]; first | done | rfl | omega | simp), by (simp only [↓W0, W, reduceCtorEq, seval, r12]; first | done | rfl | omega | simp), by (simp only [↓W0, W, reduceCtorEq, seval, r13]; first | done | rfl | omega | simp), by (simp only [↓W0, W, reduceCtorEq, seval, r14]; first | done | rfl | omega | simp), by (simp only [↓W0, W, reduceCtorEq, seval, r16]; first | done | rfl | omega | simp), by (simp only [↓W0, W, reduceCtorEq, seval, r18]; first | done | rfl | omega | simp), by (simp only [↓W0, W, reduceCtorEq, seval, r19]; first | done | rfl | omega | simp), by exact wA⟩ (fun i1 ρ6 σ6 hi1 hF6 => ?_) (fun ρ6 σ6 hF6 => ?_)
    ·obtain ⟨rfl, r0, r2, r10, r11, r12, r13, r14, r16, r18, r19, r22⟩ := hF6
     have hgo : (uav .u64 now)[i1]? = some (.int .u64 (now[i1] : Nat)) := by simp [uav, hi1]
     have hmo := hN2 _ (List.getElem_mem hi1)
     generalize now[i1] = x at *
     simp (disch := first | exact dA | fail) only [↓V0, VV, reduceCtorEq, seval, a36, r0, r2, r10, r11, r12, r13, r14, r16, r18, r19, r22, hlnow, hgo]
     refine AW.qx none (.p 0 (.p 1 (.p 2 (.p 3 (.p 4 (.r 5 (.p 6 (.p 7 (.p 8 (.p 9 (.p 10 (.p 11 (.r 12 (.p 13 .nil)))))))))))))) [(σ'.n + 1, .arr [.int .u64 r'.h, .int .i64 r'.ht, .int .i64 r'.m.b, .int .i64 r'.m.r, .int .i64 r'.m.l, .vs (uav .u64 fr) .no, .vs (uav .u64 dr) .no])] hmix (by decide) (by decide) (SB.cons kc4 (SB.nil _)) ?_
     simp (disch := first | exact dA | fail) only [↓V0, VV, reduceCtorEq, seval, a36, r0, r2, r10, r11, r12, r13, r14, r16, r18, r19, r22, hlnow, hgo]
     have hh1 := fun (σ6 : St) => has_ok (σ := σ6) old x .no (by omega)
     have hh3 := fun (σ6 : St) => has_ok (σ := σ6) fr x .no (by omega)
     by_cases hx : x ∈ old
     ·rw [decide_eq_true hx] at hh1
      rw [decide_eq_false (hmo.1 hx)] at hh3
      refine aqr (.bool true) (fun σ6 hs6 => ?_) ?_
      ·simp (disch := first | exact dA | fail) only [↓V0, VV, reduceCtorEq, seval, a36, r0, r2, r10, r11, r12, r13, r14, r16, r18, r19, r22]
       exact callQ (hh1 σ6) ⟨rfl, rfl⟩
      simp (disch := first | exact dA | fail) only [↓V0, VV, reduceCtorEq, seval, a36, r0, r2, r10, r11, r12, r13, r14, r16, r18, r19, r22, hlnow, hgo]
      refine aqr (.bool false) (fun σ6 hs6 => ?_) ?_
      ·simp (disch := first | exact dA | fail) only [↓V0, VV, reduceCtorEq, seval, a36, r0, r2, r10, r11, r12, r13, r14, r16, r18, r19, r22]
       exact callQ (hh3 σ6) ⟨rfl, rfl⟩
      simp (disch := first | exact dA | fail) only [↓V0, VV, reduceCtorEq, seval, a36, r0, r2, r10, r11, r12, r13, r14, r16, r18, r19, r22, hlnow, hgo]
      rw [Int.natCast_add]; rfl
     ·rw [decide_eq_false hx] at hh1
      rw [decide_eq_true (Decidable.not_not.1 fun h => hx (hmo.2 h))] at hh3
      refine aqr (.bool false) (fun σ6 hs6 => ?_) ?_
      ·simp (disch := first | exact dA | fail) only [↓V0, VV, reduceCtorEq, seval, a36, r0, r2, r10, r11, r12, r13, r14, r16, r18, r19, r22]
       exact callQ (hh1 σ6) ⟨rfl, rfl⟩
      simp (disch := first | exact dA | fail) only [↓V0, VV, reduceCtorEq, seval, a36, r0, r2, r10, r11, r12, r13, r14, r16, r18, r19, r22, hlnow, hgo]
      refine aqr (.bool true) (fun σ6 hs6 => ?_) ?_
      ·simp (disch := first | exact dA | fail) only [↓V0, VV, reduceCtorEq, seval, a36, r0, r2, r10, r11, r12, r13, r14, r16, r18, r19, r22]
       exact callQ (hh3 σ6) ⟨rfl, rfl⟩
      simp (disch := first | exact dA | fail) only [↓V0, VV, reduceCtorEq, seval, a36, r0, r2, r10, r11, r12, r13, r14, r16, r18, r19, r22, hlnow, hgo]
      rw [Int.natCast_add]; rfl
    ·obtain ⟨rfl, r0, r2, r10, r11, r12, r13, r14, r16, r18, r19, r22⟩ := hF6
     have ht4 : TokOk σ.n σ6 tk := tokok_mono htk (by omega) fun τ e => by
      subst e
      have hτ := htk.2.1
      refine (hF4.2 τ hτ fun hp => ?_).trans htk.2.2
      have h1 := htk.2.2
      rcases hp with e | e | e | e | e | e <;> subst e
      ·rw [hB.ba] at h1; cases h1
      ·rw [hB.bl] at h1; cases h1
      ·rw [hB.b1] at h1; cases h1
      ·rw [hB.b2] at h1; cases h1
      ·rw [hB.b3] at h1; cases h1
      ·rw [hB.bm] at h1; cases h1
     have htg := ht4.g
     have hfv := fit_vav vs
     have hσn := hF.1
     have hta : (v.2.take a).length = a := by rw [List.length_take]; omega
     have hda : (v.2.drop (a + b)).length = v.2.length - (a + b) := List.length_drop
     have haN : a <= 440 := by omega
     have hvN : v.2.length <= 440 := by omega
     have hbN : (a : Int) + b <= v.2.length := by omega
     have hab : ((a : Int) + (b : Int)).toNat = a + b := by omega
     simp (disch := first | exact dA | fail) only [↓V0, VV, reduceCtorEq, seval, a36, r0, r2, r10, r11, r12, r13, r14, r16, r18, r19, r22, hlnow, kv4, kc4, hgi, hll, hta, hda, hab, List.length_append]
     rw [appA_S hfv rfl (by rw [hvl2]; omega) htg]
     have hg := GrX.rt (b := σ'.n) ht4 (by omega)
     have hCr := hC.gr (hpB _ (Nat.le_refl _)) hg
     have hFr : FrX p σ (σ6.rt tk) := ⟨by have := hg.1; omega, fun β hβ hpβ => (hg.2.1 β hβ).trans ((hF4.2 β (by omega) hpβ).trans (hF.2 β hβ hpβ))⟩
     have htr := rt_tok (n := σ.n) (σ := σ6) tk (by omega)
     generalize hσ7 : σ6.rt tk = σ7 at *
     generalize hτ : Tok.id σ6.n = τ at *
     simp (disch := first | exact dA | fail) only [↓V0, VV, reduceCtorEq, seval, a36, r0, r2, r10, r11]
     refine ⟨C, _, τ, s4, by rw [List.length_append, List.length_singleton]; omega, hCr, hFr, htr, ?_⟩
     exact ⟨by rw [List.map_append]; rfl, by rw [Int.natCast_add]; rfl⟩
 ·obtain ⟨B, vs, tk, V, hvl, hB, hF, htk, r0, r2, r10, r11⟩ := hJ
  simp (disch := first | exact dA | fail) only [↓V0, VV, reduceCtorEq, seval, a36, r0, r2, r10, r11, hll]
  exact ⟨B, ⟨vs, by simp only [WE, er_vav], V, by omega⟩, hB, hF⟩
end Go.Proofs.YtekhblefchceaaaGreat.AM

