/- Joined: D28, D29, D30, D31. -/
import Derived.Test.YtekhblefchceaaaGreatDH
set_option linter.unusedVariables false
set_option linter.unusedSimpArgs false
/- Contracts: rope.Check, Leaves, Text. -/
set_option maxRecDepth 20000
namespace Go.Proofs.YtekhblefchceaaaGreat.AM
open Go Go.Proofs
variable {σ : St}
theorem AW.envg {P : Program} {ro : Option Nat} {nt : Nat} {c : ACode} {Q : Ex -> Env -> St -> Prop} {ρ : Env} (F : Env -> Prop) (hF : F ρ) (h : ∀ ρ, F ρ -> AW P ro nt c Q ρ σ) : AW P ro nt c Q ρ σ := h ρ hF
theorem ayieldW {P : Program} (hm : P.follows .mixedOrders = true) {β nt : Nat} {ρl : Env} {ps : List Nat} {asg body : ACode} {args : List AV} {K : AV -> St -> Prop} (ca : ∃ a, cCode P nt a = asg) (cb : ∃ b, cCode P nt b = body)
  (hk : lk σ.H β = some (.loop .ready none ((List.range nt).map ρl) ps asg body)) (hl : args.length = ps.length) (hps : ∀ p, p ∈ ps -> p < nt) (F : Env -> Prop) (hF : F (fun i => ((List.range nt).map ρl).getD i .undef))
  (h : ∀ ro ρ2, F ρ2 -> wpc P ro nt asg (thn (fun ρ1 σ1 => lk σ1.H β = some (.loop .ready none ((List.range nt).map ρl) ps asg body) /\
   wpc P ro nt body (RoundEnd β K) ρ1 (σ1.set β (.loop .busy none ((List.range nt).map ρl) ps asg body))) (fun _ _ _ => False)) (putAll ps args ρ2) σ) : AYields P β args σ K := by
 have el := evl_list ρl nt
 refine ayield (ρl := (List.range nt).map ρl) (by rw [el]; exact ca) (by rw [el]; exact cb) hk hl (by rw [el]; exact hps) fun ro => ?_
 rw [el]
 refine AW.mono (wpc_sound hm (h ro _ hF)) fun x ρ σ hx => ?_
 cases x with
 | nrm => exact ⟨_, _, _, _, hx.1, wpc_sound hm hx.2⟩
 | ext i => exact hx.elim
 | ret => exact hx.elim
theorem roundN {β : Nat} {K : AV -> St -> Prop} {ρ : Env} {ρl : List AV} {ps : List Nat} {asg body : ACode} (h : lk σ.H β = some (.loop .busy none ρl ps asg body))
  (hK : ∀ σ', σ'.n = σ.n -> (∀ γ, γ ≠ β -> lk σ'.H γ = lk σ.H γ) -> lk σ'.H β = some (.loop .ready none ρl ps asg body) -> K (.bool true) σ') : RoundEnd β K .nrm ρ σ :=
 ⟨ρl, ps, asg, body, h, hK _ rfl (fun γ hγ => by rw [lk_set, if_neg (Ne.symm hγ)]) (by rw [lk_set, if_pos rfl, h]; rfl)⟩
theorem del_ne {β γ : Nat} (h : γ ≠ β) : lk (σ.del β).H γ = lk σ.H γ := by
 show lk (AM.del σ.H β) γ = _
 rw [lk_del]; simp [h, Ne.symm h]
theorem getD_range (ρ : Env) {nt i : Nat} (h : i < nt) : ((List.range nt).map ρ).getD i .undef = ρ i := by simp [List.getD_eq_getElem?_getD, h]
theorem rcheck_ok {p : Pa} {A : Ar} (wf : A.WF) (r : Rt) (hr : RtOk A r) (hA : ArAt p σ A) : ACalls Tryz.prog 117 [.ptr p.a 0, r.av] σ (fun v σ' => v = .int .i64 0 /\ σ' = σ) := by
 refine ACalls.quietX ?_ rfl
 obtain ⟨q1, q2, q3, q4, q5, q6⟩ := hA.lt
 refine FOk.calls ok117 (by simp [a117]) (wpc_sound hmix ?_)
 show wpc _ _ _ c117 _ _ _
 simp (disch := first | exact dA | fail) only [↓V0, VV, reduceCtorEq, seval, a117, Rt.av, Rt.cs]
 refine callQE (by first | rfl | simp only [WQ, treeCs, Ms.av, Ms.cs]) (keep_ok wf r hr (hA.ext (by exact eA))) ?_
 simp (disch := first | exact dA | fail) only [↓V0, VV, reduceCtorEq, seval, a117, Pl.av_eq, treeCs]
 generalize hσ1 : St.set _ _ _ = σ1
 have hE1 : Ext σ σ1 := by rw [<- hσ1]; exact eA
 have hn1 : σ1.n = σ.n + 3 := by rw [<- hσ1]; rfl
 have k1 : lk σ1.H (σ.n + 1 + 1) = some (.arr [.int .i64 0]) := by rw [<- hσ1]; simp (disch := first | exact dA | fail) only [↓V0, VV, reduceCtorEq, seval, a117]
 clear hσ1
 refine (nfn_ok r).mono ?_
 rintro v σ2 ⟨rfl, n1, n2, hE2, n3⟩
 simp (disch := first | exact dA | fail) only [↓V0, VV, reduceCtorEq, seval, a117]
 refine AW.envg (fun ρ => ρ 7 = .ptr (σ.n + 1 + 1) 0 /\ ρ 21 = .fn 180 [.ptr σ1.n 0, .ptr (σ1.n + 1) 0]) ⟨by exact wA, by exact wA⟩ fun ρ ⟨r7, r21⟩ => ?_
 refine AW.rf (gf := 180) (cap := [.ptr σ1.n 0, .ptr (σ1.n + 1) 0]) r21 fun ca cb => ?_
 generalize hB : Blk.loop .ready none ((List.range 30).map ρ) [22, 23] x117_7 y117_10 = B
 refine (nseq_ok (p := p) wf (β := σ2.n) (bA := σ1.n) (b3 := σ1.n + 1) (w0 := σ2.n + 1) (J := fun _ σ' => Ext σ2 σ' /\ σ2.n < σ'.n /\ lk σ'.H σ2.n = some B) (fun L σ' h => ⟨hA.ext (hE1.trans (hE2.trans h.1)), (h.1.2 _ (by omega)).trans n1, h.2.1, by omega⟩)
  (fun L σ' σ'' h hE => ⟨h.1.trans hE, Nat.lt_of_lt_of_le h.2.1 hE.1, (hE.2 _ h.2.1).trans h.2.2⟩) (fun L h x σ' hg _ hJ => ?_) hr (by rw [lk_new, if_neg (by omega)]; exact n2) (by simp only [↓W0, W, reduceCtorEq, seval] <;> omega) ⟨Ext.new _ _, Nat.lt_succ_self _, by rw [lk_new, if_pos rfl]⟩).mono ?_
 ·obtain ⟨hE, hlt, hB'⟩ := hJ
  rw [<- hB] at hB'
  refine ayieldW hmix ca cb hB' rfl (by simp) (fun ρ2 => ρ2 7 = .ptr (σ.n + 1 + 1) 0) ((getD_range ρ (by decide)).trans r7) fun ro ρ2 e7 => ?_
  simp only [putAll]
  simp (disch := first | exact dA | fail) only [↓V0, VV, reduceCtorEq, seval, a117, x117_7, y117_10, Nd.c4, e7]
  refine ⟨hB', roundN (by rw [lk_set, if_pos rfl, lk_set, if_neg (by omega), lk_new, if_neg (by omega), hB']; rfl) fun σ'' z1 z2 z3 => ?_⟩
  have y1 : ∀ γ, γ < σ'.n -> γ ≠ σ2.n -> lk σ''.H γ = lk σ'.H γ := fun γ g1 g2 => by
   rw [z2 γ g2, lk_set, if_neg (Ne.symm g2), lk_set, if_neg (by omega), lk_new, if_neg (by omega)]
  have y2 : σ''.n = σ'.n + 1 := z1
  exact ⟨rfl, ⟨⟨by omega, fun γ g1 => (y1 γ (by omega) (by omega)).trans (hE.2 γ g1)⟩, by omega, z3.trans (congrArg some hB)⟩, ⟨by omega, fun γ g1 g2 _ => y1 γ g2 (by omega)⟩⟩
 ·rintro v σ' ⟨hE, hlt, hB'⟩
  rw [<- hB] at hB'
  refine ⟨_, _, _, _, _, _, hB', by simp, ?_⟩
  have k2 := (hE.2 (σ.n + 1 + 1) (by omega)).trans ((hE2.2 (σ.n + 1 + 1) (by omega)).trans k1)
  have k3 := (del_ne (σ := σ') (β := σ2.n) (γ := σ.n + 1 + 1) (by omega)).trans k2
  simp (disch := first | exact dA | fail) only [↓V0, VV, reduceCtorEq, seval, a117, r7, k3]
  exact ⟨rfl, Nat.le_trans hE1.1 (Nat.le_trans hE2.1 hE.1), fun γ hγ => (del_ne (by have := hE1.1; omega)).trans ((hE.2 γ (by omega)).trans ((hE2.2 γ (by omega)).trans (hE1.2 γ hγ)))⟩
end Go.Proofs.YtekhblefchceaaaGreat.AM

/- Contracts: rope.Leaves, Text. -/
set_option maxRecDepth 20000
namespace Go.Proofs.YtekhblefchceaaaGreat.AM
open Go Go.Proofs
variable {σ : St}
theorem nds_len {A : Ar} (wf : A.WF) : ∀ (n h : Nat) (x : Nd), A.get h = some x -> x.ht = n -> (nds A n h).length + 1 <= 2 * x.ms.b := by
 intro n
 induction n using Nat.strongRecOn with
 | ind n ih =>
  intro h x hg hn
  have hp := nd_pos wf hg
  rw [nds_eq wf hg hn, List.length_cons]
  have key : ∀ (l : List Kd), (∀ k, k ∈ l -> k ∈ x.ks) -> (l.flatMap fun k => nds A (n - 1) k.h).length + l.length <= 2 * (l.map fun k => k.m.b).sum := by
   intro l
   induction l with
   | nil => intro _; exact Nat.le_refl _
   | cons k l il =>
    intro hl
    obtain ⟨y, y1, y2, y3⟩ := (wf _ _ hg).2.2.2 k (hl k (by simp))
    have i1 := ih (n - 1) (by omega) k.h y y1 (by omega)
    have i2 := il fun q hq => hl q (by simp [hq])
    rw [y3] at i1
    simp only [List.flatMap_cons, List.length_append, List.map_cons, List.sum_cons, List.length_cons]
    omega
  have h1 := key x.ks fun _ h => h
  by_cases h0 : x.ks = []
  ·rw [h0] at h1 ⊢
   simp only [List.flatMap_nil, List.length_nil]
   omega
  ·obtain ⟨k1, k2, _⟩ := nd_kids wf hg h0
   rw [k2] at h1
   omega
theorem rns_len {A : Ar} (wf : A.WF) {r : Rt} (hr : RtOk A r) : (rns A r).length <= 131072 := by
 unfold rns
 split
 ·simp
 ·rcases hr with rfl | ⟨x, x1, x2, x3⟩
  ·rename_i h; exact absurd rfl h
  ·have := nds_len wf x.ht r.h x x1 rfl
   have := (wf _ _ x1).2.2.1
   rw [<- x2]; omega
def lfs (L : List (Nat × Nd)) : List (List UInt8) := (L.filter fun e => e.2.ht == 0).map fun e => e.2.tx
theorem lfs_app (L L2 : List (Nat × Nd)) : lfs (L ++ L2) = lfs L ++ lfs L2 := by simp [lfs]
theorem nds_txt {A : Ar} (wf : A.WF) : ∀ (n h : Nat) (x : Nd), A.get h = some x -> x.ht = n -> (lfs (nds A n h)).flatten = A.ntx n h := by
 intro n
 induction n with
 | zero =>
  intro h x hg hn
  rw [nds_eq wf hg hn]
  have : x.ks = [] := by
   rcases (wf _ _ hg).2.1 with ⟨_, _, _, e⟩ | ⟨e, _⟩
   ·exact e
   ·omega
  rw [this]
  simp [lfs, hn, Ar.ntx, hg]
 | succ n ih =>
  intro h x hg hn
  rw [nds_eq wf hg hn]
  have e : lfs ((h, x) :: x.ks.flatMap fun k => nds A (n + 1 - 1) k.h) = lfs (x.ks.flatMap fun k => nds A n k.h) := by
   unfold lfs
   rw [List.filter_cons_of_neg (by simp [hn])]
   rfl
  rw [e]
  have key : ∀ (l : List Kd), (∀ k, k ∈ l -> k ∈ x.ks) -> (lfs (l.flatMap fun k => nds A n k.h)).flatten = (l.map fun k => A.ntx n k.h).flatten := by
   intro l
   induction l with
   | nil => intro _; rfl
   | cons k l il =>
    intro hl
    obtain ⟨y, y1, y2, y3⟩ := (wf _ _ hg).2.2.2 k (hl k (by simp))
    rw [List.flatMap_cons, lfs_app, List.flatten_append, ih k.h y y1 (by omega), il fun q hq => hl q (by simp [hq])]
    rfl
  rw [key x.ks fun _ h => h]
  simp [Ar.ntx, hg]
theorem rns_txt {A : Ar} (wf : A.WF) {r : Rt} (hr : RtOk A r) : (lfs (rns A r)).flatten = r.txt A := by
 unfold rns Rt.txt Rt.pl
 rcases hr with rfl | ⟨x, x1, x2, x3⟩
 ·rfl
 ·have := (wf _ _ x1).1.pos
  rw [if_neg (by omega), if_neg (by omega)]
  simp only [Pl.txt]
  rw [<- x2]
  exact nds_txt wf _ _ x x1 rfl
end Go.Proofs.YtekhblefchceaaaGreat.AM

/- Contracts: rope.Text, patch.join. -/
set_option maxRecDepth 20000
namespace Go.Proofs.YtekhblefchceaaaGreat.AM
open Go Go.Proofs
variable {σ : St}
def OB (σ0 σ : St) (s : List UInt8) (v : AV) : Prop := ∃ t, BA s t v /\ Own σ0 σ t
theorem OB.ex {σ0 : St} (h : Ext σ0 σ) : OB σ0 σ [] (.vs [] .ex) := ⟨.ex, .inr ⟨rfl, rfl⟩, .ex h⟩
theorem OB.app {σ0 : St} {s : List UInt8} {v : AV} (h : OB σ0 σ s v) (q : List UInt8) (hb : s.length + q.length <= 1099511627776) : ∃ v' σ', appB v (.str q) σ = .v v' σ' /\ OB σ0 σ' (s ++ q) v' /\ Lo σ0.n σ σ' := by
 obtain ⟨t, h1, h2⟩ := h
 obtain ⟨v', t', σ', e1, e2, e3⟩ := appB_ok h1 h2.ok.g hb
 rcases e3 with ⟨rfl, rfl⟩ | ⟨rfl, rfl⟩
 ·exact ⟨v', σ', e1, ⟨t', e2, h2⟩, Lo.refl _ _⟩
 ·exact ⟨v', _, e1, ⟨_, e2, h2.app⟩, (GrX.rt (n0 := σ0.n) (b := 0) h2.ok h2.ext.1).lo⟩
theorem OB.str {σ0 : St} {s : List UInt8} {v : AV} (h : OB σ0 σ s v) : (∃ t, v = .bs s t) \/ (s = [] /\ ∃ t, v = .vs [] t) := by
 obtain ⟨t, h1, _⟩ := h
 rcases h1 with rfl | ⟨h, rfl⟩
 ·exact .inl ⟨t, rfl⟩
 ·exact .inr ⟨h, t, rfl⟩
theorem OB.e {σ0 : St} {s : List UInt8} {v : AV} (h : OB σ0 σ s v) : Ext σ0 σ := h.elim fun _ h => h.2.ext
theorem OB.ext {σ0 σ' : St} {s : List UInt8} {v : AV} (h : OB σ0 σ s v) (hE : Ext σ σ') : OB σ0 σ' s v := by
 obtain ⟨t, h1, h2⟩ := h
 exact ⟨t, h1, h2.ok.ext hE, h2.ext.trans hE⟩
theorem flat_succ {l : List (List UInt8)} {i : Nat} (h : i < l.length) : (l.take (i + 1)).flatten = (l.take i).flatten ++ l[i] := by
 rw [List.take_succ_eq_append_getElem h, List.flatten_append, List.flatten_cons, List.flatten_nil, List.append_nil]
theorem flat_le {l : List (List UInt8)} {i : Nat} (h : i < l.length) : (l.take i).flatten.length + l[i].length <= l.flatten.length := by
 have e := congrArg (fun x => x.flatten.length) (List.take_append_drop (i + 1) l)
 simp only [List.flatten_append, List.length_append, flat_succ h] at e
 omega
def pav (e : Nat × List UInt8) : AV := .agg [.int .u64 e.1, .str e.2]
theorem join_ok (l : List (Nat × List UInt8)) (hb : (l.map (·.2)).flatten.length <= 1000000) (hl : l.length <= 1000000) (t : Tok) (σ : St) : ACalls Tryz.prog 48 [.vs (l.map pav) t] σ (fun v σ' => v = .str (l.map (·.2)).flatten /\ σ' = σ) := by
 refine ACalls.quietX ?_ rfl
 have hgs : ∀ i (h : i < l.length), (l.map pav)[i]? = some (.agg [.int .u64 l[i].1, .str l[i].2]) := fun i h => by simp [pav, h]
 have hll : (l.map pav).length = l.length := List.length_map _
 refine FOk.calls ok48 (by simp [a48]) (wpc_sound hmix ?_)
 show wpc _ _ _ c48 _ _ _
 simp (disch := first | exact dA | fail) only [↓V0, VV, reduceCtorEq, seval, a48]
 refine AW.upto hmix (fun i ρ σ' => OB σ σ' ((l.map (·.2)).take i).flatten (ρ 3) /\ ρ 6 = .vs (l.map pav) t /\ ρ 7 = .int .i64 (l.length : Nat) /\ ρ 8 = .int .i64 (i : Nat)) l.length
  ⟨by simp only [↓W0, W, reduceCtorEq, seval]; exact .ex (by exact eA), by exact wA, by (simp only [↓W0, W, reduceCtorEq, seval, hll]; first | done | rfl | omega | simp), by exact wA⟩ (fun i ρ σ' hi h => ?_) (fun ρ σ' h => ?_)
 ·obtain ⟨r3, r6, r7, r8⟩ := h
  have hgi := hgs i hi
  have h1 := flat_le (l := l.map (·.2)) (i := i) (by rw [List.length_map]; exact hi)
  have h2 := flat_succ (l := l.map (·.2)) (i := i) (by rw [List.length_map]; exact hi)
  rw [List.getElem_map] at h1 h2
  generalize l[i] = q at *
  obtain ⟨v', σ2, e1, e2, e3⟩ := (r3.ext (σ' := (σ'.new (.arr [.int .u64 0, .str []])).set σ'.n (.arr [.int .u64 q.1, .str q.2])) (by exact eA)).app q.2 (by omega)
  simp (disch := first | exact dA | fail) only [↓V0, VV, reduceCtorEq, seval, a48, r6, r7, r8, hgi, e1]
  exact ⟨by rw [h2]; exact e2, rfl⟩
 ·obtain ⟨r3, r6, r7, r8⟩ := h
  rw [List.take_of_length_le (by rw [List.length_map]; exact Nat.le_refl _)] at r3
  have hE := r3.e
  rcases r3.str with ⟨t, e⟩ | ⟨h0, t, e⟩
  ·simp (disch := first | exact dA | fail) only [↓V0, VV, reduceCtorEq, seval, a48, r6, r7, r8, e]
   exact ⟨rfl, hE⟩
  ·simp (disch := first | exact dA | fail) only [↓V0, VV, reduceCtorEq, seval, a48, r6, r7, r8, e]
   exact ⟨by rw [h0]; rfl, hE⟩
end Go.Proofs.YtekhblefchceaaaGreat.AM

/- Contracts: patch.leaves, both. -/
set_option maxRecDepth 20000
namespace Go.Proofs.YtekhblefchceaaaGreat.AM
open Go Go.Proofs
variable {σ : St}
def lvp (L : List (Nat × Nd)) : List (Nat × List UInt8) := (L.filter fun e => e.2.ht == 0).map fun e => (e.1, e.2.tx)
theorem lvp_app (L L2 : List (Nat × Nd)) : lvp (L ++ L2) = lvp L ++ lvp L2 := by simp [lvp]
theorem lvp_len (L : List (Nat × Nd)) : (lvp L).length <= L.length := by unfold lvp; rw [List.length_map]; exact List.length_filter_le _ _
theorem lvp_tx (L : List (Nat × Nd)) : (lvp L).map (·.2) = lfs L := by simp [lvp, lfs, Function.comp_def]
theorem fit_pav (l : List (Nat × List UInt8)) : fitSz 2 (l.map pav) = true := fit_all fun x hx => by
 obtain ⟨y, _, rfl⟩ := List.mem_map.1 hx
 exact ⟨rfl, rfl⟩
structure LE (n0 bA b7 b8 : Nat) (p : Pa) (A : Ar) (L : List (Nat × Nd)) (σ : St) : Prop where
 ar : ArAt p σ A
 e1 : lk σ.H bA = some (.arr [.ptr p.a 0])
 e8 : lk σ.H b8 = some (.arr [.fn 176 [.ptr bA 0, .ptr b7 0, .ptr b8 0]])
 l : LstB n0 b7 ((lvp L).map pav) σ
 l1 : bA < σ.n
 l7 : b7 < σ.n
 l8 : b8 < σ.n
 n7 : n0 <= b7
 n1 : bA ≠ b7
 n8 : b8 ≠ b7
 hp : ¬ p.has b7
theorem LE.ext {n0 bA b7 b8 : Nat} {p : Pa} {A : Ar} {L : List (Nat × Nd)} {σ' : St} (h : LE n0 bA b7 b8 p A L σ) (hE : Ext σ σ') : LE n0 bA b7 b8 p A L σ' :=
 ⟨h.ar.ext hE, (hE.2 _ h.l1).trans h.e1, (hE.2 _ h.l8).trans h.e8, h.l.ext h.l7 hE, Nat.lt_of_lt_of_le h.l1 hE.1, Nat.lt_of_lt_of_le h.l7 hE.1, Nat.lt_of_lt_of_le h.l8 hE.1, h.n7, h.n1, h.n8, h.hp⟩
theorem pleaf_ok {p : Pa} {A : Ar} (wf : A.WF) {n0 bA b7 b8 : Nat} : ∀ (n h : Nat) (x : Nd) (L : List (Nat × Nd)) (σ : St), A.get h = some x -> x.ht = n -> LE n0 bA b7 b8 p A L σ -> L.length + (nds A n h).length <= 200000 ->
  ACalls Tryz.prog 176 [.int .u64 (h : Nat), .ptr bA 0, .ptr b7 0, .ptr b8 0] σ (fun v σ' => v = .int .i64 0 /\ LE n0 bA b7 b8 p A (L ++ nds A n h) σ' /\ Lo n0 σ σ') := by
 intro n
 induction n using Nat.strongRecOn with
 | ind n ih =>
  intro h x L σ hg hn hL hlen
  have hks : x.ks.length <= 4 := by
   rcases (wf _ _ hg).2.1 with ⟨_, _, _, h⟩ | ⟨_, _, _, _, h, _⟩
   ·rw [h]; decide
   ·exact h
  have e1 := hL.e1
  have l1 := hL.l1
  have l7 := hL.l7
  have n7 := hL.n7
  have hll := lvp_len L
  have hnd := nds_eq wf hg hn
  have main : ∀ (ρ : Env) (σ1 : St), ρ 3 = .ptr b8 0 -> ρ 31 = .vs (x.ks.map Kd.av) .no -> ρ 32 = .int .i64 (x.ks.length : Nat) -> ρ 33 = .int .i64 0 -> LE n0 bA b7 b8 p A (L ++ [(h, x)]) σ1 -> Lo n0 σ σ1 ->
    AW Tryz.prog none 45 l176_13.loop (inBl 0 (kS Tryz.prog none 45 ((ACode.rg r176_13).seq ACode.ret) (FPost [.tmp 5] fun v σ' => v = .int .i64 0 /\ LE n0 bA b7 b8 p A (L ++ nds A n h) σ' /\ Lo n0 σ σ'))) ρ σ1 := by
   intro ρ σ1 r3 r31 r32 r33 hK1 hL1
   refine AW.upto hmix (fun i ρ σ' => ρ 3 = .ptr b8 0 /\ ρ 31 = .vs (x.ks.map Kd.av) .no /\ ρ 32 = .int .i64 (x.ks.length : Nat) /\ ρ 33 = .int .i64 (i : Nat) /\ LE n0 bA b7 b8 p A (L ++ ((h, x) :: (x.ks.take i).flatMap fun k => nds A (n - 1) k.h)) σ' /\ Lo n0 σ σ') x.ks.length
    ⟨r3, r31, r32, r33, by simpa using hK1, hL1⟩ (fun i ρ σ' hi h => ?_) (fun ρ σ' h => ?_)
   ·obtain ⟨r3, r31, r32, r33, hT, hG⟩ := h
    have hgi : (x.ks.map Kd.av)[i]? = some x.ks[i].av := by simp [hi]
    have hmem := List.getElem_mem hi
    have htk : (x.ks.take (i + 1)).flatMap (fun k => nds A (n - 1) k.h) = (x.ks.take i).flatMap (fun k => nds A (n - 1) k.h) ++ nds A (n - 1) x.ks[i].h := by rw [List.take_succ_eq_append_getElem hi, List.flatMap_append]; simp
    have hpre : ((x.ks.take (i + 1)).flatMap (fun k => nds A (n - 1) k.h)).length + 1 <= (nds A n h).length := by
     have e := congrArg (fun l => (l.flatMap fun k => nds A (n - 1) k.h).length) (List.take_append_drop (i + 1) x.ks)
     simp only [List.flatMap_append, List.length_append] at e
     rw [hnd, List.length_cons]
     omega
    obtain ⟨y, y1, y2, y3⟩ := (wf _ _ hg).2.2.2 _ hmem
    rw [htk, List.length_append] at hpre
    have e8 := hT.e8
    have l8 := hT.l8
    have lA := hT.l7
    generalize x.ks[i] = k at *
    have hE3 : Ext σ' ((σ'.new (.arr [.int .u64 0, .int .i64 0, .int .i64 0, .int .i64 0])).set σ'.n (.arr [.int .u64 k.h, .int .i64 k.m.b, .int .i64 k.m.r, .int .i64 k.m.l])) := by exact eA
    have hrec := ih (n - 1) (by omega) k.h y _ _ y1 (by omega) (hT.ext hE3) (by simp only [List.length_append, List.length_cons]; omega)
    simp (disch := first | exact dA | fail) only [↓V0, VV, reduceCtorEq, seval, a176, r3, r31, r32, r33, hgi, Kd.av, e8, eq_false (show ¬ σ'.n = b8 by omega)]
    refine hrec.mono ?_
    rintro v σ4 ⟨rfl, hT4, hG4⟩
    simp (disch := first | exact dA | fail) only [↓V0, VV, reduceCtorEq, seval, a176, r3, r31, r32, r33]
    exact ⟨rfl, by rw [htk]; simpa using hT4, (hG.trans (Lo.ext hE3 (by omega))).trans hG4⟩
   ·obtain ⟨r3, r31, r32, r33, hT, hG⟩ := h
    rw [List.take_of_length_le (Nat.le_refl _), <- hnd] at hT
    simp (disch := first | exact dA | fail) only [↓V0, VV, reduceCtorEq, seval, a176, r3, r31, r32, r33]
    exact ⟨hT, hG⟩
  refine FOk.calls ok176 (by simp [a176]) (wpc_sound hmix ?_)
  show wpc _ _ _ c176 _ _ _
  simp (disch := first | exact dA | fail) only [↓V0, VV, reduceCtorEq, seval, a176, e1]
  refine callQE (by first | rfl | simp only [WQ, treeCs, Ms.av, Ms.cs]) (get_ok hL.ar hg (by omega)) ?_
  by_cases h0 : x.ht = 0
  ·obtain ⟨tk, a1, a2⟩ := hL.l
   simp (disch := first | exact dA | fail) only [↓V0, VV, reduceCtorEq, seval, a176, Nd.av, Nd.cs, a1, h0]
   have h2 := hL.ext (σ' := (σ.new (.arr [.int .i64 0, .str [], .vs [] .ex])).set σ.n (.arr [.int .i64 0, .str x.tx, .vs (x.ks.map Kd.av) .no])) (by exact eA)
   have hE2 : Ext σ ((σ.new (.arr [.int .i64 0, .str [], .vs [] .ex])).set σ.n (.arr [.int .i64 0, .str x.tx, .vs (x.ks.map Kd.av) .no])) := by exact eA
   have hv2 : lk ((σ.new (.arr [.int .i64 0, .str [], .vs [] .ex])).set σ.n (.arr [.int .i64 0, .str x.tx, .vs (x.ks.map Kd.av) .no])).H σ.n = some (.arr [.int .i64 0, .str x.tx, .vs (x.ks.map Kd.av) .no]) := by simp [lk_set, lk_new]
   have hn2 : ((σ.new (.arr [.int .i64 0, .str [], .vs [] .ex])).set σ.n (.arr [.int .i64 0, .str x.tx, .vs (x.ks.map Kd.av) .no])).n = σ.n + 1 := rfl
   have hlf : (lvp (L ++ [(h, x)])).map pav = (lvp L).map pav ++ [.agg [.int .u64 (h : Nat), .str x.tx]] := by rw [lvp_app, List.map_append]; simp [lvp, h0, pav]
   have hfp := fit_pav (lvp L)
   have hlp : ((lvp L).map pav).length = (lvp L).length := List.length_map _
   have hnl : 1 <= (nds A n h).length := by rw [hnd]; simp
   generalize (σ.new _).set σ.n _ = S at *
   obtain ⟨c1, c2, c3, c4⟩ := lst_app [.agg [.int .u64 (h : Nat), .str x.tx]] ((hE2.2 _ l7).trans a1) (a2.ext hE2) (by omega) n7
   have kv := (c4.2.2 σ.n (by omega) (by omega) (by rw [hv2]; simp)).trans hv2
   simp (disch := first | exact dA | fail) only [↓V0, VV, reduceCtorEq, seval, a176, c2, kv, ↓eval_app, appA_S, appA_M]
   refine main _ _ (by exact wA) (by exact wA) (by (simp only [↓W0, W, reduceCtorEq, seval, List.length_map]; first | done | rfl | omega | simp)) (by exact wA) ?_ ((Lo.ext hE2 (by omega)).trans c4.lo)
   exact ⟨h2.ar.gr h2.hp c4, (c4.2.2 _ h2.l1 h2.n1 (by rw [h2.e1]; simp)).trans h2.e1, (c4.2.2 _ h2.l8 h2.n8 (by rw [h2.e8]; simp)).trans h2.e8, by rw [hlf]; exact c3, Nat.lt_of_lt_of_le h2.l1 c4.1, Nat.lt_of_lt_of_le h2.l7 c4.1, Nat.lt_of_lt_of_le h2.l8 c4.1, h2.n7, h2.n1, h2.n8, h2.hp⟩
  ·have hlf : lvp (L ++ [(h, x)]) = lvp L := by rw [lvp_app]; simp [lvp, h0]
   simp (disch := first | exact dA | fail) only [↓V0, VV, reduceCtorEq, seval, a176, Nd.av, Nd.cs, eq_false (show ¬ (x.ht : Int) = 0 by omega)]
   refine main _ _ (by exact wA) (by exact wA) (by (simp only [↓W0, W, reduceCtorEq, seval, List.length_map]; first | done | rfl | omega | simp)) (by exact wA) ?_ (Lo.ext (by exact eA) (by omega))
   have h2 := hL.ext (σ' := (σ.new (.arr [.int .i64 0, .str [], .vs [] .ex])).set σ.n (.arr [.int .i64 x.ht, .str x.tx, .vs (x.ks.map Kd.av) .no])) (by exact eA)
   exact ⟨h2.ar, h2.e1, h2.e8, by rw [hlf]; exact h2.l, h2.l1, h2.l7, h2.l8, h2.n7, h2.n1, h2.n8, h2.hp⟩
theorem pur_pav (l : List (Nat × List UInt8)) : purL (l.map pav) = true := purL_all fun x hx => by
 obtain ⟨y, _, rfl⟩ := List.mem_map.1 hx
 rfl
theorem er_pav (l : List (Nat × List UInt8)) : (l.map pav).map AV.er = l.map pav := by simp [pav, Function.comp_def, WE]
noncomputable def prs (A : Ar) (r : Rt) : List (Nat × List UInt8) := lvp (rns A r)
theorem prs_len {A : Ar} (wf : A.WF) {r : Rt} (hr : RtOk A r) : (prs A r).length <= 131072 := Nat.le_trans (lvp_len _) (rns_len wf hr)
theorem prs_txt {A : Ar} (wf : A.WF) {r : Rt} (hr : RtOk A r) : ((prs A r).map (·.2)).flatten = r.txt A := by unfold prs; rw [lvp_tx, rns_txt wf hr]
theorem pleaves_ok {p : Pa} {A : Ar} (wf : A.WF) (r : Rt) (hr : RtOk A r) (hA : ArAt p σ A) : ACalls Tryz.prog 101 [.ptr p.a 0, r.av] σ (fun v σ' => v = .tup [.vs ((prs A r).map pav) .no, .int .i64 0] /\ σ' = σ) := by
 refine ACalls.quietX ?_ (by simp only [AV.pur, purL, pur_pav, Tok.pur, Bool.and_self])
 obtain ⟨q1, q2, q3, q4, q5, q6⟩ := hA.lt
 have hnl := rns_len wf hr
 have hp : ∀ β, σ.n <= β -> ¬ p.has β := fun β hβ h => by rcases h with e | e | e | e | e | e <;> omega
 refine FOk.calls ok101 (by simp [a101]) (wpc_sound hmix ?_)
 show wpc _ _ _ c101 _ _ _
 simp (disch := first | exact dA | fail) only [↓V0, VV, reduceCtorEq, seval, a101, Rt.av, Rt.cs]
 refine callQE (by first | rfl | simp only [WQ, treeCs, Ms.av, Ms.cs]) (rcheck_ok wf r hr (hA.ext (by exact eA))) ?_
 simp (disch := first | exact dA | fail) only [↓V0, VV, reduceCtorEq, seval, a101]
 rcases hr with rfl | ⟨x, x1, x2, x3⟩
 ·simp (disch := first | exact dA | fail) only [↓V0, VV, reduceCtorEq, seval, a101, Rt.z]
  exact ⟨by simp only [WE]; rfl, by exact eA⟩
 ·have hh := (wf _ _ x1).1.pos
  simp (disch := first | exact dA | fail) only [↓V0, VV, reduceCtorEq, seval, a101, show ((r.h : Int) = 0) = False from eq_false (by omega)]
  have hr0 : rns A r = nds A x.ht r.h := by rw [rns, if_neg (by omega), x2]
  generalize hσ1 : St.set _ _ _ = σ1
  have hE1 : Ext σ σ1 := by rw [<- hσ1]; exact eA
  have hL : LE σ.n σ.n (σ.n + 1 + 1) (σ.n + 1 + 1 + 1) p A [] σ1 := by
   subst hσ1
   exact ⟨hA.ext hE1, by simp (disch := first | exact dA | fail) only [↓V0, VV, reduceCtorEq, seval, a101], by simp (disch := first | exact dA | fail) only [↓V0, VV, reduceCtorEq, seval, a101], ⟨.ex, by simp (disch := first | exact dA | fail) only [↓V0, VV, reduceCtorEq, seval, a101] <;> rfl, trivial⟩, by simp only [↓W0, W, reduceCtorEq, seval] <;> omega, by simp only [↓W0, W, reduceCtorEq, seval] <;> omega, by simp only [↓W0, W, reduceCtorEq, seval], by omega, by omega, by omega, hp _ (by omega)⟩
  refine (pleaf_ok wf x.ht r.h x [] σ1 x1 rfl hL (by rw [<- hr0]; simp; omega)).mono ?_
  rintro v σ2 ⟨rfl, hK2, hLo⟩
  obtain ⟨tk, a1, a2⟩ := hK2.l
  rw [List.nil_append, <- hr0] at a1
  simp (disch := first | exact dA | fail) only [↓V0, VV, reduceCtorEq, seval, a101, a1]
  exact ⟨by simp only [WE, er_pav, prs], hLo.toExt hE1⟩
theorem pboth_ok {p : Pa} {A : Ar} (wf : A.WF) (r r' : Rt) (hr : RtOk A r) (hr' : RtOk A r') (hA : ArAt p σ A) : ACalls Tryz.prog 46 [.ptr p.a 0, r.av, r'.av] σ (fun v σ' => v = .tup [.vs ((prs A r).map pav) .no, .vs ((prs A r').map pav) .no, .int .i64 0] /\ σ' = σ) := by
 refine ACalls.quietX ?_ (by simp only [AV.pur, purL, pur_pav, Tok.pur, Bool.and_self])
 refine FOk.calls ok46 (by simp [a46]) (wpc_sound hmix ?_)
 show wpc _ _ _ c46 _ _ _
 simp (disch := first | exact dA | fail) only [↓V0, VV, reduceCtorEq, seval, a46, Rt.av, Rt.cs]
 refine callQE (by first | rfl | simp only [WQ, treeCs, Ms.av, Ms.cs]) (pleaves_ok wf r hr (hA.ext (by exact eA))) ?_
 simp (disch := first | exact dA | fail) only [↓V0, VV, reduceCtorEq, seval, a46]
 refine callQE (by first | rfl | simp only [WQ, treeCs, Ms.av, Ms.cs]) (pleaves_ok wf r' hr' (hA.ext (by exact eA))) ?_
 simp (disch := first | exact dA | fail) only [↓V0, VV, reduceCtorEq, seval, a46]
 exact ⟨by simp only [WE, er_pav], by exact eA⟩
end Go.Proofs.YtekhblefchceaaaGreat.AM

