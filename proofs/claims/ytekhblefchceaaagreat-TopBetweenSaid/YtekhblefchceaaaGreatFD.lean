/- Joined: F12, F13, F14, F15. -/
import Derived.Test.YtekhblefchceaaaGreatFC
import Derived.Test.YtekhblefchceaaaGreatDJ
set_option linter.unusedVariables false
set_option linter.unusedSimpArgs false
/- Contract: rope.Nodes. -/
set_option maxRecDepth 20000
namespace Go.Proofs.YtekhblefchceaaaGreat.AM
open Go Go.Proofs
variable {σ : St}
def hdl (L : List (Nat × Nd)) : List Nat := L.foldl (fun S e => ins S e.1) []
theorem hdl_app (L : List (Nat × Nd)) (e : Nat × Nd) : hdl (L ++ [e]) = ins (hdl L) e.1 := by simp [hdl]
theorem mem_ins {S : List Nat} {h x : Nat} : x ∈ ins S h ↔ x ∈ S \/ x = h := by
 unfold ins
 split
 ·rename_i hh
  exact ⟨.inl, fun e => e.elim id fun e => e ▸ hh⟩
 ·simp
theorem mem_foldl_ins (x : Nat) : ∀ (L : List (Nat × Nd)) (S : List Nat), x ∈ L.foldl (fun S e => ins S e.1) S ↔ x ∈ S \/ ∃ e, e ∈ L /\ e.1 = x
 | [], S => by simp
 | e :: L, S => by
  rw [List.foldl_cons, mem_foldl_ins x L, mem_ins]
  constructor
  ·rintro ((h | h) | ⟨q, h1, h2⟩)
   ·exact .inl h
   ·exact .inr ⟨e, by simp, h.symm⟩
   ·exact .inr ⟨q, by simp [h1], h2⟩
  ·rintro (h | ⟨q, h1, h2⟩)
   ·exact .inl (.inl h)
   ·rcases List.mem_cons.1 h1 with rfl | h1
    ·exact .inl (.inr h2.symm)
    ·exact .inr ⟨q, h1, h2⟩
theorem mem_hdl {x : Nat} {L : List (Nat × Nd)} : x ∈ hdl L ↔ ∃ e, e ∈ L /\ e.1 = x := by
 unfold hdl; rw [mem_foldl_ins]; simp
theorem hdl_len (L : List (Nat × Nd)) : (hdl L).length <= L.length := by
 unfold hdl
 have : ∀ (L : List (Nat × Nd)) (S : List Nat), (L.foldl (fun S e => ins S e.1) S).length <= S.length + L.length := by
  intro L
  induction L with
  | nil => intro S; simp
  | cons e L ih => intro S; have := ih (ins S e.1); have := ins_len S e.1; simp only [List.foldl_cons, List.length_cons]; omega
 have := this L []
 simpa using this
structure NJ (n0 : Nat) (p : Pa) (B : Blk) (σ0 : St) (S : List Nat) (σ : St) : Prop where
 lo : Lo n0 σ0 σ
 lt : n0 + 6 < σ.n
 lb : lk σ.H (n0 + 6) = some B
 la : lk σ.H (n0 + 4) = some (.arr [.ptr p.a 0])
 lm : lk σ.H (n0 + 3) = some (.arr [.map (n0 + 2)])
 s : SetAt (n0 + 2) S σ
 l : LstB n0 (n0 + 1) (uav .u64 S) σ
theorem NJ.ext {n0 : Nat} {p : Pa} {B : Blk} {σ0 σ' : St} {S : List Nat} (h : NJ n0 p B σ0 S σ) (hE : Ext σ σ') : NJ n0 p B σ0 S σ' := by
 have lt := h.lt
 exact ⟨h.lo.trans (Lo.ext hE (by omega)), Nat.lt_of_lt_of_le lt hE.1, (hE.2 _ lt).trans h.lb, (hE.2 _ (by omega)).trans h.la, (hE.2 _ (by omega)).trans h.lm, by unfold SetAt; rw [hE.2 _ (by omega)]; exact h.s, h.l.ext (by omega) hE⟩
theorem NJ.step {n0 : Nat} {p : Pa} {B B2 : Blk} {σ0 σ' : St} {S : List Nat} (h : NJ n0 p B σ0 S σ) (hB : B ≠ .tok) (hn : σ.n <= σ'.n) (hs : ∀ γ, γ < σ.n -> γ ≠ n0 + 6 -> lk σ'.H γ = lk σ.H γ) (hb : lk σ'.H (n0 + 6) = some B2) : NJ n0 p B2 σ0 S σ' := by
 have lt := h.lt
 obtain ⟨t, t1, t2⟩ := h.l
 refine ⟨h.lo.trans ⟨hn, fun γ hγ => hs γ (by omega) (by omega)⟩, by omega, hb, (hs _ (by omega) (by omega)).trans h.la, (hs _ (by omega) (by omega)).trans h.lm, by unfold SetAt; rw [hs _ (by omega) (by omega)]; exact h.s, ⟨t, (hs _ (by omega) (by omega)).trans t1, tokok_mono t2 hn fun τ e => ?_⟩⟩
 subst e
 rw [hs τ t2.2.1 (fun e => by subst e; have := h.lb.symm.trans t2.2.2; simp only [Option.some.injEq] at this; exact hB this)]
 exact t2.2.2
theorem NJ.app {n0 : Nat} {p : Pa} {B : Blk} {σ0 : St} {S : List Nat} (h : NJ n0 p B σ0 S σ) (x : Nat) (hB : B ≠ .tok) (hx : x ∉ S) :
  ∃ t, lk σ.H (n0 + 1) = some (.arr [.vs (uav .u64 S) t]) /\ TokG (σ.set (n0 + 2) (.map (sE S ++ [⟨.int .u64 x, .bool true, S.length⟩]) (S.length + 1))) t /\
   lk ((σ.set (n0 + 2) (.map (sE S ++ [⟨.int .u64 x, .bool true, S.length⟩]) (S.length + 1))).rt t).H (n0 + 1) = some (.arr [.vs (uav .u64 S) t]) /\
   NJ n0 p B σ0 (ins S x) (((σ.set (n0 + 2) (.map (sE S ++ [⟨.int .u64 x, .bool true, S.length⟩]) (S.length + 1))).rt t).set (n0 + 1) (.arr [.vs (uav .u64 S ++ [.int .u64 x]) (.id σ.n)])) /\
   Hi (n0 + 7) σ (((σ.set (n0 + 2) (.map (sE S ++ [⟨.int .u64 x, .bool true, S.length⟩]) (S.length + 1))).rt t).set (n0 + 1) (.arr [.vs (uav .u64 S ++ [.int .u64 x]) (.id σ.n)])) := by
 have lt := h.lt
 have hs := h.s
 obtain ⟨t, t1, t2⟩ := h.l
 have e0 : ∀ γ, γ ≠ n0 + 2 -> lk (σ.set (n0 + 2) (.map (sE S ++ [⟨.int .u64 x, .bool true, S.length⟩]) (S.length + 1))).H γ = lk σ.H γ := fun γ g => by rw [lk_set, if_neg (Ne.symm g)]
 have hS := SetAt.up x hs
 have t3 : TokOk n0 (σ.set (n0 + 2) (.map (sE S ++ [⟨.int .u64 x, .bool true, S.length⟩]) (S.length + 1))) t := t2.set (by unfold SetAt at hs; rw [hs]; simp) _
 generalize hσ2 : σ.set (n0 + 2) _ = σ2 at *
 have n2 : σ2.n = σ.n := by rw [<- hσ2]; rfl
 obtain ⟨c1, c2, c3, c4⟩ := lst_app [.int .u64 x] ((e0 _ (by omega)).trans t1) t3 (by omega) (by omega)
 have e : uav .u64 (S ++ [x]) = uav .u64 S ++ [.int .u64 x] := by simp [uav]
 rw [n2] at c3 c4
 have hi : ins S x = S ++ [x] := if_neg hx
 rw [hi]
 have g2 : ∀ γ, γ < σ.n -> γ ≠ n0 + 1 -> γ ≠ n0 + 2 -> lk σ.H γ ≠ some .tok -> lk ((σ2.rt t).set (n0 + 1) (.arr [.vs (uav .u64 S ++ [.int .u64 x]) (.id σ.n)])).H γ = lk σ.H γ := fun γ q1 q2 q3 q4 => (c4.2.2 γ (by omega) q2 (by rw [e0 _ q3]; exact q4)).trans (e0 _ q3)
 refine ⟨t, t1, c1, c2, ⟨⟨by have := c4.1; have := h.lo.1; omega, fun γ hγ => (c4.2.1 γ hγ).trans ((e0 γ (by omega)).trans (h.lo.2 γ hγ))⟩, by have := c4.1; omega, (g2 _ lt (by omega) (by omega) (by rw [h.lb]; simpa using hB)).trans h.lb,
  (g2 _ (by omega) (by omega) (by omega) (by rw [h.la]; simp)).trans h.la, (g2 _ (by omega) (by omega) (by omega) (by rw [h.lm]; simp)).trans h.lm, ?_, e ▸ c3⟩, ⟨by have := c4.1; omega, fun γ q1 q2 q3 => g2 γ q2 (by omega) (by omega) q3⟩⟩
 unfold SetAt at hS ⊢
 exact (c4.2.2 _ (by omega) (by omega) (by rw [hS]; simp)).trans hS
noncomputable def nodes (A : Ar) (r : Rt) : List Nat := hdl (rns A r)
theorem nodes_len {A : Ar} (wf : A.WF) {r : Rt} (hr : RtOk A r) : (nodes A r).length <= 131072 := Nat.le_trans (hdl_len _) (rns_len wf hr)
theorem nodes_ok {p : Pa} {A : Ar} (wf : A.WF) (r : Rt) (hr : RtOk A r) (hA : ArAt p σ A) : ACalls Tryz.prog 85 [.ptr p.a 0, r.av] σ (fun v σ' => v = .tup [.vs (uav .u64 (nodes A r)) .no, .int .i64 0] /\ σ' = σ) := by
 refine ACalls.quietX ?_ (by simp only [AV.pur, purL, pur_uav, Tok.pur, Bool.and_self])
 obtain ⟨q1, q2, q3, q4, q5, q6⟩ := hA.lt
 have hnl := rns_len wf hr
 refine FOk.calls ok85 (by simp [a85]) (wpc_sound hmix ?_)
 show wpc _ _ _ c85 _ _ _
 simp (disch := first | exact dA | fail) only [↓V0, VV, reduceCtorEq, seval, a85, Rt.av, Rt.cs]
 refine callQE (by first | rfl | simp only [WQ, treeCs, Ms.av, Ms.cs]) (rcheck_ok wf r hr (hA.ext (by exact eA))) ?_
 simp (disch := first | exact dA | fail) only [↓V0, VV, reduceCtorEq, seval, a85]
 generalize hσ1 : St.set _ _ _ = σ1
 have hE1 : Ext σ σ1 := by rw [<- hσ1]; exact eA
 have hn1 : σ1.n = σ.n + 4 := by rw [<- hσ1]; rfl
 have k1 : lk σ1.H (σ.n + 1) = some (.arr [.vs [] .ex]) := by rw [<- hσ1]; simp (disch := first | exact dA | fail) only [↓V0, VV, reduceCtorEq, seval, a85]
 have k2 : SetAt (σ.n + 2) [] σ1 := by rw [<- hσ1]; unfold SetAt; simp (disch := first | exact dA | fail) only [↓V0, VV, reduceCtorEq, seval, a85, sE]; rfl
 have k3 : lk σ1.H (σ.n + 3) = some (.arr [.map (σ.n + 2)]) := by rw [<- hσ1]; simp (disch := first | exact dA | fail) only [↓V0, VV, reduceCtorEq, seval, a85]
 clear hσ1
 refine (nfn_ok r).mono ?_
 rintro v σ2 ⟨rfl, n1, n2, hE2, n3⟩
 simp (disch := first | exact dA | fail) only [↓V0, VV, reduceCtorEq, seval, a85, hn1]
 rw [hn1] at n1 n2 n3
 refine AW.envg (fun ρ => ρ 7 = .ptr (σ.n + 1) 0 /\ ρ 8 = .ptr (σ.n + 3) 0 /\ ρ 19 = .fn 180 [.ptr (σ.n + 4) 0, .ptr (σ.n + 5) 0]) ⟨by exact wA, by exact wA, by exact wA⟩ fun ρ ⟨r7, r8, r19⟩ => ?_
 refine AW.rf (gf := 180) (cap := [.ptr (σ.n + 4) 0, .ptr (σ.n + 5) 0]) r19 fun ca cb => ?_
 generalize hB : Blk.loop .ready none ((List.range 33).map ρ) [20, 21] x85_8 y85_12 = B
 rw [n3]
 have eL : ∀ γ, γ ≠ σ.n + 6 -> lk (σ2.new B).H γ = lk σ2.H γ := fun γ g => by rw [lk_new, if_neg (by omega)]
 refine (nseq_ok (p := p) wf (β := σ.n + 6) (bA := σ.n + 4) (b3 := σ.n + 5) (w0 := σ.n + 7) (J := fun L σ' => NJ σ.n p B σ2 (hdl L) σ') (fun L σ' h => ⟨hA.ext (Lo.toExt h.lo (hE1.trans hE2)), h.la, h.lt, by omega⟩)
  (fun L σ' σ'' h hE => h.ext hE) (fun L h x σ' hg hT hJ => ?_) hr ((eL _ (by omega)).trans n2) (by simp only [St.new]; omega)
  ⟨Lo.ext (Ext.new _ _) (by omega), by simp only [St.new]; omega, by rw [lk_new, if_pos n3], (eL _ (by omega)).trans n1, (eL _ (by omega)).trans ((hE2.2 _ (by omega)).trans k3), by unfold SetAt at k2 ⊢; exact (eL _ (by omega)).trans ((hE2.2 _ (by omega)).trans k2),
   ⟨.ex, (eL _ (by omega)).trans ((hE2.2 _ (by omega)).trans k1), trivial⟩⟩).mono ?_
 ·have hll := hT.length_le
  have hl2 := hdl_len L
  rw [List.length_append, List.length_singleton] at hll
  have hB' := hJ.lb
  have hlt := hJ.lt
  have hlm := hJ.lm
  have hs := hJ.s
  unfold SetAt at hs
  rw [<- hB] at hB'
  refine ayieldW hmix ca cb hB' rfl (by simp) (fun ρ2 => ρ2 7 = .ptr (σ.n + 1) 0 /\ ρ2 8 = .ptr (σ.n + 3) 0) ⟨(getD_range ρ (by decide)).trans r7, (getD_range ρ (by decide)).trans r8⟩ fun ro ρ2 ⟨e7, e8⟩ => ?_
  simp only [putAll]
  rw [hdl_app]
  by_cases hS : h ∈ hdl L
  ·obtain ⟨i, hi⟩ := set_some hS
   simp (disch := first | exact dA | fail) only [↓V0, VV, reduceCtorEq, seval, a85, x85_8, y85_12, e7, e8, hlm, hs, hi]
   have hi2 : ins (hdl L) h = hdl L := if_pos hS
   rw [hi2]
   refine ⟨hB', roundN (by rw [lk_set, if_pos rfl, hB']; rfl) fun σ'' z1 z2 z3 => ⟨rfl, hJ.step (by rw [<- hB]; simp) (by rw [z1]; exact Nat.le_refl _) (fun γ g1 g2 => ?_) (z3.trans (congrArg some hB)), by rw [z1]; exact Nat.le_refl _, fun γ g1 g2 _ => ?_⟩⟩
   ·rw [z2 γ g2, lk_set, if_neg (Ne.symm g2)]
   ·rw [z2 γ (by omega), lk_set, if_neg (by omega)]
  ·have hi := set_no hS
   simp (disch := first | exact dA | fail) only [↓V0, VV, reduceCtorEq, seval, a85, x85_8, y85_12, e7, e8, hlm, hs, hi]
   refine ⟨hB', ?_⟩
   have z0 := hJ.step (B2 := .loop .busy none ((List.range 33).map ρ) [20, 21] x85_8 y85_12) (σ' := σ'.set (σ.n + 6) (.loop .busy none ((List.range 33).map ρ) [20, 21] x85_8 y85_12))
    (by rw [<- hB]; simp) (Nat.le_refl _) (fun γ g1 g2 => by rw [lk_set, if_neg (Ne.symm g2)]) (by rw [lk_set, if_pos rfl, hB']; rfl)
   have zs : ∀ γ, γ ≠ σ.n + 6 -> lk (σ'.set (σ.n + 6) (.loop .busy none ((List.range 33).map ρ) [20, 21] x85_8 y85_12)).H γ = lk σ'.H γ := fun γ g2 => by rw [lk_set, if_neg (Ne.symm g2)]
   have zn : (σ'.set (σ.n + 6) (.loop .busy none ((List.range 33).map ρ) [20, 21] x85_8 y85_12)).n = σ'.n := rfl
   obtain ⟨tk, a1, a2, a3, a4, a5⟩ := z0.app h (by simp) hS
   have a1' := (zs (σ.n + 1) (by omega)).symm.trans a1
   have hfs := fit_uav .u64 (hdl L)
   have hls : (uav .u64 (hdl L)).length = (hdl L).length := by simp [uav]
   simp only [x85_8, y85_12] at z0 zs zn a1 a2 a3 a4 a5
   generalize St.set σ' _ _ = S at *
   generalize hS1 : St.set S _ _ = S1 at *
   have zm : S1.n = S.n := by rw [<- hS1]; rfl
   clear hS1
   rw [<- zm] at a4 a5
   simp (disch := first | exact dA | fail) only [↓V0, VV, reduceCtorEq, seval, a85, a1', a3, e7, ↓eval_app, appA_S]
   generalize (S1.rt tk).set (σ.n + 1) _ = S2 at *
   have hn5 := a5.1
   refine roundN a4.lb fun σ'' w1 w2 w3 => ⟨rfl, a4.step (by simp) (by omega) (fun γ g1 g2 => w2 γ g2) (w3.trans (congrArg some hB)), by omega, fun γ g1 g2 g3 => ?_⟩
   rw [w2 γ (by omega), a5.2 γ g1 (by omega) (by rw [zs γ (by omega)]; exact g3), zs γ (by omega)]
 ·rintro v σ' hJ
  have hB' := hJ.lb
  rw [<- hB] at hB'
  obtain ⟨tk, k2, k4⟩ := hJ.l
  refine ⟨_, _, _, _, _, _, hB', by simp, ?_⟩
  have k3 := (del_ne (σ := σ') (β := σ.n + 6) (γ := σ.n + 1) (by omega)).trans k2
  simp (disch := first | exact dA | fail) only [↓V0, VV, reduceCtorEq, seval, a85, r7, k3]
  have hlo := Lo.toExt hJ.lo (hE1.trans hE2)
  exact ⟨by simp only [WE, er_uav, nodes], hlo.1, fun γ hγ => (del_ne (by omega)).trans (hlo.2 γ hγ)⟩
end Go.Proofs.YtekhblefchceaaaGreat.AM

/- Contracts: edit.Plan, edit.change, edit.Replace. -/
set_option maxRecDepth 20000
namespace Go.Proofs.YtekhblefchceaaaGreat.AM
open Go Go.Proofs
variable {σ : St}
theorem eplan_ok {p : Pa} {A : Ar} (wf : A.WF) (r : Rt) (hr : RtOk A r) (at_ n : Nat) (s : List UInt8) (h1 : at_ <= r.m.b) (h2 : n <= r.m.b - at_) (h3 : r.m.b - n + s.length <= 65536) (hA : ArAt p σ A) :
  ACalls Tryz.prog 159 [.ptr p.a 0, r.av, .int .i64 at_, .int .i64 n, .str s] σ (fun v σ' => v = .tup [(rplP A r.pl at_ n s).av, .int .i64 0] /\ σ' = σ) := by
 refine ACalls.quietX ?_ (by simp only [AV.pur, purL, Pl.pur, Bool.and_self])
 have hbr := rtxt_len wf hr
 have hpl := hr.okp wf
 have hpb := hpl.bytes wf
 have hbm := Rt.bytes_m wf hr
 have hrb := (rt_bytes wf hr).2
 have hrp := fun (σ' : St) (hE : Ext σ σ') => replace_ok wf r.pl at_ n s hpl (by omega) (by omega) (by omega) (by omega) (hA.ext hE)
 generalize hR : rplP A r.pl at_ n s = R at *
 refine FOk.calls ok159 (by simp [a159]) (wpc_sound hmix ?_)
 show wpc _ _ _ c159 _ _ _
 simp (disch := first | exact dA | fail) only [↓V0, VV, reduceCtorEq, seval, a159, Rt.av, Rt.cs]
 refine callQE (by first | rfl | simp only [WQ, treeCs, Ms.av, Ms.cs]) (keep_ok wf r hr (hA.ext (by exact eA))) ?_
 simp only [Pl.av_eq, treeCs] at hrp
 simp (disch := first | exact dA | fail) only [↓V0, VV, reduceCtorEq, seval, a159, Pl.av_eq, treeCs]
 refine callQE (by first | rfl | simp only [WQ, treeCs, Ms.av, Ms.cs]) (hrp _ (by exact eA)) ?_
 simp (disch := first | exact dA | fail) only [↓V0, VV, reduceCtorEq, seval, a159, Pl.av_eq, treeCs]
 have he : (AV.tup [R.av, .int .i64 0]).er = AV.tup [R.av, .int .i64 0] := by simp only [WE, Pl.er]
 simp only [Pl.av_eq, treeCs] at he
 exact ⟨he, by exact eA⟩
theorem efn_ok {p : Pa} {A : Ar} (wf : A.WF) (r : Rt) (hr : RtOk A r) (at_ n : Nat) (s : List UInt8) (h1 : at_ <= r.m.b) (h2 : n <= r.m.b - at_) (h3 : r.m.b - n + s.length <= 65536) (hA : ArAt p σ A) {b1 b2 b3 b4 b5 : Nat}
  (k1 : lk σ.H b1 = some (.arr [.ptr p.a 0])) (k2 : lk σ.H b2 = some (.arr r.cs)) (k3 : lk σ.H b3 = some (.arr [.int .i64 at_])) (k4 : lk σ.H b4 = some (.arr [.int .i64 n])) (k5 : lk σ.H b5 = some (.arr [.str s])) (l : b1 < σ.n /\ b2 < σ.n /\ b3 < σ.n /\ b4 < σ.n /\ b5 < σ.n) :
  ACalls Tryz.prog 158 [.ptr b1 0, .ptr b2 0, .ptr b3 0, .ptr b4 0, .ptr b5 0] σ (fun v σ' => v = .tup [(rplP A r.pl at_ n s).av, .int .i64 0] /\ σ' = σ) := by
 refine ACalls.quietX ?_ (by simp only [AV.pur, purL, Pl.pur, Bool.and_self])
 obtain ⟨l1, l2, l3, l4, l5⟩ := l
 have hep := eplan_ok wf r hr at_ n s h1 h2 h3 (hA.ext (by exact eA) : ArAt p (σ.new (.arr [.int .u64 0, .int .i64 0, .int .i64 0, .int .i64 0, .int .i64 0, .str [], .vs [] .ex])) A)
 generalize hR : rplP A r.pl at_ n s = R at *
 simp only [Rt.cs, Rt.av] at k2 hep
 refine FOk.calls ok158 (by simp [a158]) (wpc_sound hmix ?_)
 show wpc _ _ _ c158 _ _ _
 simp (disch := first | exact dA | fail) only [↓V0, VV, reduceCtorEq, seval, a158, k1, k2, k3, k4, k5]
 refine callQE (by first | rfl | simp only [WQ, treeCs, Ms.av, Ms.cs]) (hep) ?_
 simp (disch := first | exact dA | fail) only [↓V0, VV, reduceCtorEq, seval, a158, Pl.av_eq, treeCs]
 have he : (AV.tup [R.av, .int .i64 0]).er = AV.tup [R.av, .int .i64 0] := by simp only [WE, Pl.er]
 simp only [Pl.av_eq, treeCs] at he
 exact ⟨he, by exact eA⟩
structure CJ (n0 : Nat) (T : Pl) (S : List Nat) (σ1 σ : St) : Prop where
 lo : Lo n0 σ1 σ
 lt : n0 + 3 < σ.n
 k6 : lk σ.H n0 = some (.arr [.int .u64 0, .int .i64 0, .int .i64 0, .int .i64 0, .int .i64 0, .vs [] .ex, .vs [] .ex])
 k8 : lk σ.H (n0 + 1) = some (.arr T.cs)
 k10 : ∃ t, lk σ.H (n0 + 2) = some (.arr [.int .u64 0, .int .i64 0, .int .i64 0, .int .i64 0, .int .i64 0, .vs [] .ex, .vs (uav .u64 S) t]) /\ TokOk n0 σ t
 s : SetAt (n0 + 3) S σ
theorem CJ.ext {n0 : Nat} {T : Pl} {S : List Nat} {σ1 σ' : St} (h : CJ n0 T S σ1 σ) (hE : Ext σ σ') : CJ n0 T S σ1 σ' := by
 have lt := h.lt
 obtain ⟨t, t1, t2⟩ := h.k10
 refine ⟨h.lo.trans (Lo.ext hE (by omega)), Nat.lt_of_lt_of_le lt hE.1, (hE.2 _ (by omega)).trans h.k6, (hE.2 _ (by omega)).trans h.k8, ⟨t, (hE.2 _ (by omega)).trans t1, tokok_mono t2 hE.1 fun τ e => ?_⟩, by unfold SetAt; rw [hE.2 _ (by omega)]; exact h.s⟩
 subst e
 exact (hE.2 _ t2.2.1).trans t2.2.2
theorem CJ.app {n0 : Nat} {T : Pl} {S : List Nat} {σ1 : St} (h : CJ n0 T S σ1 σ) (x : Nat) (hx : x ∉ S) :
  ∃ t, lk σ.H (n0 + 2) = some (.arr [.int .u64 0, .int .i64 0, .int .i64 0, .int .i64 0, .int .i64 0, .vs [] .ex, .vs (uav .u64 S) t]) /\ TokG (σ.set (n0 + 3) (.map (sE S ++ [⟨.int .u64 x, .bool true, S.length⟩]) (S.length + 1))) t /\
   lk ((σ.set (n0 + 3) (.map (sE S ++ [⟨.int .u64 x, .bool true, S.length⟩]) (S.length + 1))).rt t).H (n0 + 2) = some (.arr [.int .u64 0, .int .i64 0, .int .i64 0, .int .i64 0, .int .i64 0, .vs [] .ex, .vs (uav .u64 S) t]) /\
   CJ n0 T (ins S x) σ1 (((σ.set (n0 + 3) (.map (sE S ++ [⟨.int .u64 x, .bool true, S.length⟩]) (S.length + 1))).rt t).set (n0 + 2) (.arr [.int .u64 0, .int .i64 0, .int .i64 0, .int .i64 0, .int .i64 0, .vs [] .ex, .vs (uav .u64 S ++ [.int .u64 x]) (.id σ.n)])) := by
 have lt := h.lt
 have hs := h.s
 obtain ⟨t, t1, t2⟩ := h.k10
 have e0 : ∀ γ, γ ≠ n0 + 3 -> lk (σ.set (n0 + 3) (.map (sE S ++ [⟨.int .u64 x, .bool true, S.length⟩]) (S.length + 1))).H γ = lk σ.H γ := fun γ g => by rw [lk_set, if_neg (Ne.symm g)]
 have hS := SetAt.up x hs
 have t3 : TokOk n0 (σ.set (n0 + 3) (.map (sE S ++ [⟨.int .u64 x, .bool true, S.length⟩]) (S.length + 1))) t := t2.set (by unfold SetAt at hs; rw [hs]; simp) _
 generalize hσ2 : σ.set (n0 + 3) _ = σ2 at *
 have n2 : σ2.n = σ.n := by rw [<- hσ2]; rfl
 have c2 := rt_lk t3 ((e0 _ (by omega)).trans t1) (by simp) (show n0 + 2 < σ2.n by omega)
 have c3 : TokOk n0 ((σ2.rt t).set (n0 + 2) (.arr [.int .u64 0, .int .i64 0, .int .i64 0, .int .i64 0, .int .i64 0, .vs [] .ex, .vs (uav .u64 S ++ [.int .u64 x]) (.id σ2.n)])) (.id σ2.n) := (rt_tok t (by omega)).set (by rw [c2]; simp) _
 have c4 : GrX n0 (n0 + 2) σ2 ((σ2.rt t).set (n0 + 2) (.arr [.int .u64 0, .int .i64 0, .int .i64 0, .int .i64 0, .int .i64 0, .vs [] .ex, .vs (uav .u64 S ++ [.int .u64 x]) (.id σ2.n)])) := GrX.set (GrX.rt t3 (by omega)) (by omega) _
 have e : uav .u64 (S ++ [x]) = uav .u64 S ++ [.int .u64 x] := by simp [uav]
 have hi : ins S x = S ++ [x] := if_neg hx
 rw [n2] at c3 c4
 rw [hi]
 refine ⟨t, t1, t3.g, c2, ⟨⟨by have := c4.1; have := h.lo.1; omega, fun γ hγ => (c4.2.1 γ hγ).trans ((e0 γ (by omega)).trans (h.lo.2 γ hγ))⟩, by have := c4.1; omega, (c4.2.2 _ (by omega) (by omega) (by rw [e0 _ (by omega), h.k6]; simp)).trans ((e0 _ (by omega)).trans h.k6),
  (c4.2.2 _ (by omega) (by omega) (by rw [e0 _ (by omega), h.k8]; simp)).trans ((e0 _ (by omega)).trans h.k8), ⟨.id σ.n, by rw [lk_set, if_pos rfl, c2, e]; rfl, c3⟩, ?_⟩⟩
 unfold SetAt at hS ⊢
 exact (c4.2.2 _ (by omega) (by omega) (by rw [hS]; simp)).trans hS
end Go.Proofs.YtekhblefchceaaaGreat.AM

/- Contracts: edit.change, edit.Replace. -/
set_option maxRecDepth 20000
namespace Go.Proofs.YtekhblefchceaaaGreat.AM
open Go Go.Proofs
variable {σ : St}
theorem foldl_ins_len : ∀ (D S : List Nat), (D.foldl ins S).length <= S.length + D.length
 | [], S => by simp
 | x :: D, S => by have := foldl_ins_len D (ins S x); have := ins_len S x; simp only [List.foldl_cons, List.length_cons]; omega
theorem echange_ok {p : Pa} {A : Ar} (g : A.Good) (r : Rt) (hr : RtOk A r) (T : Pl) (hT : OkP A T) (hb : T.bytes <= 65536) (hk : T.nnew <= A.k) (hA : ArAt p σ A) {cap : List AV} (hd : (drp A r T).length <= 131072)
  (hf : ∀ σ', Ext σ σ' -> ACalls Tryz.prog 158 cap σ' (fun v σ'' => v = .tup [T.av, .int .i64 0] /\ σ'' = σ')) :
  ACalls Tryz.prog 157 [.ptr p.a 0, .fn 158 cap, .vs [r.av] .ex] σ (fun v σ' => ∃ B, (v = .tup [.agg ((wrP A T).2.1.cs ++ [.vs (uav .u64 (wrP A T).2.2) .no, .vs (uav .u64 ((drp A r T).foldl ins [])) .no]), .int .i64 0] /\ B = (wrP A T).1) /\ ArAt p σ' B /\ Fr p σ σ') := by
 have wf := g.wf
 obtain ⟨q1, q2, q3, q4, q5, q6⟩ := hA.lt
 have hp : ∀ β, σ.n <= β -> ¬ p.has β := fun β hβ h => by rcases h with e | e | e | e | e | e <;> omega
 refine ACalls.arenaQ ?_ hA.lt (fun v B ⟨h, _⟩ => by rw [h]; simp only [Rt.cs, AV.pur, purL, List.cons_append, List.nil_append, pur_uav, Tok.pur, Bool.and_self])
 refine FOk.calls ok157 (by simp [a157]) (wpc_sound hmix ?_)
 show wpc _ _ _ c157 _ _ _
 simp (disch := first | exact dA | fail) only [↓V0, VV, reduceCtorEq, seval, a157, Rt.av, Rt.cs]
 simp only [Pl.av_eq, treeCs] at hf
 refine callQ (hf _ (by exact eA)) ?_
 simp (disch := first | exact dA | fail) only [↓V0, VV, reduceCtorEq, seval, a157]
 generalize hσ1 : St.new _ _ = σ1
 have hE1 : Ext σ σ1 := by rw [<- hσ1]; exact eA
 have hn1 : σ1.n = σ.n + 4 := by rw [<- hσ1]; rfl
 have hC : CJ σ.n T [] σ1 σ1 := by
  refine ⟨Lo.refl _ _, by omega, ?_, ?_, ⟨.ex, ?_, trivial⟩, ?_⟩
  ·rw [<- hσ1]; simp (disch := first | exact dA | fail) only [↓V0, VV, reduceCtorEq, seval, a157]
  ·rw [<- hσ1]; simp (disch := first | exact dA | fail) only [↓V0, VV, reduceCtorEq, seval, a157, Pl.cs, treeCs]
  ·rw [<- hσ1]; simp (disch := first | exact dA | fail) only [↓V0, VV, reduceCtorEq, seval, a157, uav, List.map_nil]
  ·rw [<- hσ1]; unfold SetAt; simp (disch := first | exact dA | fail) only [↓V0, VV, reduceCtorEq, seval, a157, sE]; try rfl
 clear hσ1
 have hlu := len_uav .u64 (drp A r T)
 refine AW.lp hmix (fun k ρ σ' => k <= 1 /\ CJ σ.n T (if k = 1 then [] else (drp A r T).foldl ins []) σ1 σ' /\ ρ 0 = .ptr p.a 0 /\ ρ 6 = .ptr σ.n 0 /\ ρ 8 = .ptr (σ.n + 1) 0 /\ ρ 10 = .ptr (σ.n + 2) 0 /\ ρ 11 = .map (σ.n + 3) /\ ρ 29 = .vs [.agg r.cs] .ex /\ ρ 30 = .int .i64 1 /\ ρ 31 = .int .i64 ((1 - k : Nat) : Nat)) 1
  ⟨Nat.le_refl _, hC, by exact wA, by exact wA, by exact wA, by exact wA, by exact wA, by (simp only [↓W0, W, reduceCtorEq, seval, Rt.cs]; first | done | rfl | omega | simp), by exact wA, by exact wA⟩ (fun k ρ σ' hI => ?_)
 obtain ⟨hk1, hJ, r0, r6, r8, r10, r11, r29, r30, r31⟩ := hI
 simp only [Rt.cs] at r29
 have hlt := hJ.lt
 have k6 := hJ.k6
 have k8 := hJ.k8
 simp only [Pl.cs, treeCs] at k8
 have hA' : ArAt p σ' A := hA.ext (Lo.toExt hJ.lo hE1)
 match k, hk1 with
 | 0, _ =>
  simp only [Nat.zero_ne_one, if_false] at hJ
  obtain ⟨t, k10, ht⟩ := hJ.k10
  simp (disch := first | exact dA | fail) only [↓V0, VV, reduceCtorEq, seval, a157, r0, r6, r8, r10, r11, r29, r30, r31, k6, k8, k10]
  refine callE (by first | rfl | simp only [WQ, treeCs, Ms.av, Ms.cs]) (write_ok g T hT hb hk hA') ?_
  rintro v σ3 ⟨rfl, z1, z2⟩
  have k6' := (z2.2 σ.n (by omega) (hp _ (by omega))).trans k6
  have k10' := (z2.2 (σ.n + 2) (by omega) (hp _ (by omega))).trans k10
  simp (disch := first | exact dA | fail) only [↓V0, VV, reduceCtorEq, seval, a157, r0, r6, r8, r10, r11, r29, r30, r31, k6', k10', Rt.av, Rt.cs]
  have z3 := z2.1
  have fr3 : FrX p σ σ3 := (FrX.ext (Lo.toExt hJ.lo hE1)).trans z2.x
  refine ⟨_, ⟨?_, rfl⟩, ((z1.gr (n0 := 0) (b := σ.n + 2) (hp _ (by omega)) (GrX.set (GrX.refl 0 _ _) (Nat.zero_le _) _)).gr (n0 := 0) (b := σ.n + 2) (hp _ (by omega)) (GrX.set (GrX.refl 0 _ _) (Nat.zero_le _) _)).gr (n0 := 0) (b := σ.n) (hp _ (by omega)) (GrX.set (GrX.refl 0 _ _) (Nat.zero_le _) _),
   FrX.set (FrX.set (FrX.set fr3 (.inl (by omega)) _) (.inl (by omega)) _) (.inl (by omega)) _⟩
  simp only [WE, er_uav]
 | 1, _ =>
  simp only [if_true] at hJ
  have hdr := fun (σ'' : St) (hE : Ext σ' σ'') => dropped_ok wf r hr T hT hb (hA'.ext hE)
  simp only [Rt.av, Rt.cs] at hdr
  simp (disch := first | exact dA | fail) only [↓V0, VV, reduceCtorEq, seval, a157, r0, r6, r8, r10, r11, r29, r30, r31, k6, k8]
  refine callQE (by first | rfl | simp only [WQ, treeCs, Ms.av, Ms.cs]) (hdr _ (by exact eA)) ?_
  simp (disch := first | exact dA | fail) only [↓V0, VV, reduceCtorEq, seval, a157, r0, r6, r8, r10, r11, r29, r30, r31, k6, k8]
  generalize hσ2 : St.set _ _ _ = σ2
  have hE2 : Ext σ' σ2 := by rw [<- hσ2]; exact eA
  have hJ2 := hJ.ext hE2
  clear hσ2
  refine AW.upto hmix (fun i ρ σ' => CJ σ.n T (((drp A r T).take i).foldl ins []) σ1 σ' /\ ρ 0 = .ptr p.a 0 /\ ρ 6 = .ptr σ.n 0 /\ ρ 8 = .ptr (σ.n + 1) 0 /\ ρ 10 = .ptr (σ.n + 2) 0 /\ ρ 11 = .map (σ.n + 3) /\ ρ 29 = .vs [.agg r.cs] .ex /\ ρ 30 = .int .i64 1 /\ ρ 31 = .int .i64 0 /\
    ρ 46 = .vs (uav .u64 (drp A r T)) .no /\ ρ 47 = .int .i64 ((drp A r T).length : Nat) /\ ρ 48 = .int .i64 (i : Nat)) (drp A r T).length
   ⟨hJ2, by (simp only [↓W0, W, reduceCtorEq, seval, r0]; first | done | rfl | omega | simp), by (simp only [↓W0, W, reduceCtorEq, seval, r6]; first | done | rfl | omega | simp), by (simp only [↓W0, W, reduceCtorEq, seval, r8]; first | done | rfl | omega | simp), by (simp only [↓W0, W, reduceCtorEq, seval, r10]; first | done | rfl | omega | simp), by (simp only [↓W0, W, reduceCtorEq, seval, r11]; first | done | rfl | omega | simp), by (simp only [↓W0, W, reduceCtorEq, seval, r29, Rt.cs]; first | done | rfl | omega | simp), by (simp only [↓W0, W, reduceCtorEq, seval, r30]; first | done | rfl | omega | simp), by (simp only [↓W0, W, reduceCtorEq, seval, r31]; first | done | rfl | omega | simp), by exact wA, by (simp only [↓W0, W, reduceCtorEq, seval, hlu]; first | done | rfl | omega | simp), by exact wA⟩ (fun i ρ σ' hi h => ?_) (fun ρ σ' h => ?_)
  ·obtain ⟨hJ, r0, r6, r8, r10, r11, r29, r30, r31, r46, r47, r48⟩ := h
   have hdi : (drp A r T).take (i + 1) = (drp A r T).take i ++ [(drp A r T)[i]] := by rw [List.take_add_one, List.getElem?_eq_getElem hi]; rfl
   have hgi : (uav .u64 (drp A r T))[i]? = some (.int .u64 (((drp A r T)[i] : Nat) : Nat)) := by simp [uav, hi]
   have hfl := foldl_ins_len ((drp A r T).take i) []
   rw [List.length_take] at hfl
   simp only [List.length_nil, Nat.zero_add] at hfl
   have hSl : (((drp A r T).take i).foldl ins []).length <= 131072 := by omega
   have hS1 : ((drp A r T).take (i + 1)).foldl ins [] = ins (((drp A r T).take i).foldl ins []) ((drp A r T)[i]) := by rw [hdi, List.foldl_append]; rfl
   rw [hS1]
   clear hS1 hdi
   generalize ((drp A r T).take i).foldl ins [] = S at *
   generalize (drp A r T)[i] = x at *
   have hs := hJ.s
   unfold SetAt at hs
   by_cases hS : x ∈ S
   ·obtain ⟨i', hi'⟩ := set_some hS
    have hi2 : ins S x = S := if_pos hS
    rw [hi2]
    simp (disch := first | exact dA | fail) only [↓V0, VV, reduceCtorEq, seval, a157, r0, r6, r8, r10, r11, r29, r30, r31, r46, r47, r48, hgi, hs, hi']
    exact ⟨hJ, by rw [Int.natCast_add]; rfl⟩
   ·have hi' := set_no hS
    obtain ⟨tk, a1, a2, a3, a4⟩ := hJ.app x hS
    have hfs := fit_uav .u64 S
    have hls := len_uav .u64 S
    simp (disch := first | exact dA | fail) only [↓V0, VV, reduceCtorEq, seval, a157, r0, r6, r8, r10, r11, r29, r30, r31, r46, r47, r48, hgi, hs, hi']
    have hn : (σ'.set (σ.n + 3) (.map (sE S ++ [⟨.int .u64 x, .bool true, S.length⟩]) (S.length + 1))).n = σ'.n := rfl
    generalize St.set σ' _ _ = S1 at *
    rw [<- hn] at a4
    simp (disch := first | exact dA | fail) only [↓V0, VV, reduceCtorEq, seval, a157, r0, r6, r8, r10, r11, r29, r30, r31, r46, r47, r48, a1, a3, ↓eval_app, appA_S]
    exact ⟨a4, by rw [Int.natCast_add]; rfl⟩
  ·obtain ⟨hJ, r0, r6, r8, r10, r11, r29, r30, r31, r46, r47, r48⟩ := h
   rw [List.take_length] at hJ
   simp (disch := first | exact dA | fail) only [↓V0, VV, reduceCtorEq, seval, a157, r0, r6, r8, r10, r11, r29, r30, r31, r46, r47, r48]
   refine ⟨0, by omega, by omega, by simpa using hJ, ?_⟩
   (simp only [↓W0, W, reduceCtorEq, seval, r0, r6, r8, r10, r11, r29, r30]; first | done | rfl | omega | simp)
theorem ereplace_ok {p : Pa} {A : Ar} (g : A.Good) (r : Rt) (hr : RtOk A r) (at_ n : Nat) (s : List UInt8) (h1 : at_ <= r.m.b) (h2 : n <= r.m.b - at_) (h3 : r.m.b - n + s.length <= 65536) (hk : (rplP A r.pl at_ n s).nnew <= A.k) (hd : (drp A r (rplP A r.pl at_ n s)).length <= 131072) (hA : ArAt p σ A) :
  ACalls Tryz.prog 84 [.ptr p.a 0, r.av, .int .i64 at_, .int .i64 n, .str s] σ (fun v σ' => ∃ B, (v = .tup [.agg ((wrP A (rplP A r.pl at_ n s)).2.1.cs ++ [.vs (uav .u64 (wrP A (rplP A r.pl at_ n s)).2.2) .no, .vs (uav .u64 ((drp A r (rplP A r.pl at_ n s)).foldl ins [])) .no]), .int .i64 0] /\ B = (wrP A (rplP A r.pl at_ n s)).1) /\ ArAt p σ' B /\ Fr p σ σ') := by
 have wf := g.wf
 obtain ⟨q1, q2, q3, q4, q5, q6⟩ := hA.lt
 have hp : ∀ β, σ.n <= β -> ¬ p.has β := fun β hβ h => by rcases h with e | e | e | e | e | e <;> omega
 have hbr := rtxt_len wf hr
 have hrb := (rt_bytes wf hr).2
 have hpl := hr.okp wf
 have hpb := hpl.bytes wf
 have hbm := Rt.bytes_m wf hr
 have hsp := rplP_spec wf (at_ := at_) (n := n) (s := s) hpl (by omega) (by omega) (by omega) (by omega)
 have hep := fun (σ' : St) (hA : ArAt p σ' A) {b1 b2 b3 b4 b5 : Nat} k1 k2 k3 k4 k5 l => efn_ok (σ := σ') wf r hr at_ n s h1 h2 h3 hA (b1 := b1) (b2 := b2) (b3 := b3) (b4 := b4) (b5 := b5) k1 k2 k3 k4 k5 l
 have hTb : (rplP A r.pl at_ n s).bytes <= 65536 := by
  rw [hsp.1.bytes wf, hsp.2]
  simp only [List.length_append, List.length_take, List.length_drop]
  omega
 generalize rplP A r.pl at_ n s = T at *
 refine ACalls.arenaQ ?_ hA.lt (fun v B ⟨h, _⟩ => by rw [h]; simp only [Rt.cs, AV.pur, purL, List.cons_append, List.nil_append, pur_uav, Tok.pur, Bool.and_self])
 refine FOk.calls ok84 (by simp [a84]) (wpc_sound hmix ?_)
 show wpc _ _ _ c84 _ _ _
 simp (disch := first | exact dA | fail) only [↓V0, VV, reduceCtorEq, seval, a84, Rt.av, Rt.cs]
 generalize hσ1 : St.new _ _ = σ1
 have hE1 : Ext σ σ1 := by rw [<- hσ1]; exact eA
 have hn1 : σ1.n = σ.n + 6 := by rw [<- hσ1]; rfl
 have k0 : lk σ1.H σ.n = some (.arr [.ptr p.a 0]) := by rw [<- hσ1]; simp (disch := first | exact dA | fail) only [↓V0, VV, reduceCtorEq, seval, a84]
 have k1 : lk σ1.H (σ.n + 1) = some (.arr r.cs) := by rw [<- hσ1]; simp (disch := first | exact dA | fail) only [↓V0, VV, reduceCtorEq, seval, a84, Rt.cs]
 have k2 : lk σ1.H (σ.n + 2) = some (.arr [.int .i64 at_]) := by rw [<- hσ1]; simp (disch := first | exact dA | fail) only [↓V0, VV, reduceCtorEq, seval, a84]
 have k3 : lk σ1.H (σ.n + 3) = some (.arr [.int .i64 n]) := by rw [<- hσ1]; simp (disch := first | exact dA | fail) only [↓V0, VV, reduceCtorEq, seval, a84]
 have k4 : lk σ1.H (σ.n + 4) = some (.arr [.str s]) := by rw [<- hσ1]; simp (disch := first | exact dA | fail) only [↓V0, VV, reduceCtorEq, seval, a84]
 have k5 : lk σ1.H (σ.n + 5) = some (.arr [.int .u64 0, .int .i64 0, .int .i64 0, .int .i64 0, .int .i64 0, .vs [] .ex, .vs [] .ex]) := by rw [<- hσ1]; simp (disch := first | exact dA | fail) only [↓V0, VV, reduceCtorEq, seval, a84]
 clear hσ1
 have hc := echange_ok g r hr T hsp.1 hTb hk (hA.ext hE1) hd (fun σ' hE => hep σ' (hA.ext (hE1.trans hE)) (b1 := σ.n) (b2 := σ.n + 1) (b3 := σ.n + 2) (b4 := σ.n + 3) (b5 := σ.n + 4) ((hE.2 _ (by omega)).trans k0) ((hE.2 _ (by omega)).trans k1) ((hE.2 _ (by omega)).trans k2) ((hE.2 _ (by omega)).trans k3) ((hE.2 _ (by omega)).trans k4) (by have := hE.1; omega))
 simp only [Rt.cs] at k1
 simp only [Rt.av, Rt.cs] at hc
 refine hc.mono ?_
 rintro v σ3 ⟨B, ⟨rfl, rfl⟩, z1, z2⟩
 have z3 := z2.1
 have k5' := (z2.2 (σ.n + 5) (by omega) (hp _ (by omega))).trans k5
 simp (disch := first | exact dA | fail) only [↓V0, VV, reduceCtorEq, seval, a84, k5']
 refine ⟨_, ⟨?_, rfl⟩, z1.gr (n0 := 0) (b := σ.n + 5) (hp _ (by omega)) (GrX.set (GrX.refl 0 _ _) (Nat.zero_le _) _), FrX.set ((FrX.ext hE1).trans z2.x) (.inl (by omega)) _⟩
 simp only [WE, er_uav]
end Go.Proofs.YtekhblefchceaaaGreat.AM

/- Contracts: patch.Apply, with what it writes. -/
set_option maxRecDepth 20000
namespace Go.Proofs.YtekhblefchceaaaGreat.AM
open Go Go.Proofs
variable {σ : St}
theorem apply2_ok {p : Pa} {A : Ar} (g : A.Good) (r : Rt) (hr : RtOk A r) (d : List Pc) (hd : d.length <= 1099511627776) (hs : ∀ q, q ∈ d -> q.small) (hl : (lengthsP d).2.2 = 0) (hin : (lengthsP d).1 = r.m.b) (hout : (lengthsP d).2.1 <= 50000) (hk : ∀ T, OkP A T -> T.txt A = apl d (r.txt A) -> T.nnew <= A.k) (hA : ArAt p σ A) :
  ACalls Tryz.prog 17 [.ptr p.a 0, r.av, .vs (d.map Pc.av) .no] σ (fun v σ' => ∃ B, (∃ (T : Pl), v = .tup [.agg ((wrP A T).2.1.cs ++ [.vs (uav .u64 (wrP A T).2.2) .no, .vs (uav .u64 (drp A r T)) .no]), .int .i64 0] /\ OkP A T /\ T.txt A = apl d (r.txt A) /\ B = (wrP A T).1) /\ ArAt p σ' B /\ Fr p σ σ') := by
 have wf := g.wf
 have hbr := rtxt_len wf hr
 have hpb := (hr.okp wf).bytes wf
 have hbm := Rt.bytes_m wf hr
 obtain ⟨q1, q2, q3, q4, q5, q6⟩ := hA.lt
 have hp : ∀ β, σ.n <= β -> ¬ p.has β := fun β hβ h => by rcases h with e | e | e | e | e | e <;> omega
 have hln : d.length <= 4096 := by
  refine Decidable.byContradiction fun h => ?_
  unfold lengthsP at hl
  rw [if_pos (by omega)] at hl; cases hl
 have hlp : lengthsP d = lenLoop d 0 0 := if_neg (by omega)
 have hpl := hr.okp wf
 refine ACalls.arenaQ (K := fun v B => ∃ (T : Pl), v = .tup [.agg ((wrP A T).2.1.cs ++ [.vs (uav .u64 (wrP A T).2.2) .no, .vs (uav .u64 (drp A r T)) .no]), .int .i64 0] /\ OkP A T /\ T.txt A = apl d (r.txt A) /\ B = (wrP A T).1) ?_ hA.lt (fun v B ⟨T, h, _⟩ => by rw [h]; simp only [Rt.cs, AV.pur, purL, List.cons_append, List.nil_append, pur_uav, Tok.pur, Bool.and_self])
 obtain ⟨v1, v2, v3⟩ := lenLoop_in d 0 0 (by rw [<- hlp]; exact hl)
 rw [<- hlp] at v2 v3
 simp only [Int.zero_add] at v2 v3
 have ⟨w1, w2⟩ := sum_nn v1
 refine FOk.calls ok17 (by simp [a17]) (wpc_sound hmix ?_)
 show wpc _ _ _ c17 _ _ _
 simp (disch := first | exact dA | fail) only [↓V0, VV, reduceCtorEq, seval, a17, Rt.av, Rt.cs]
 refine callQE (by first | rfl | simp only [WQ, treeCs, Ms.av, Ms.cs]) (keep_ok wf r hr (hA.ext (by exact eA))) ?_
 simp (disch := first | exact dA | fail) only [↓V0, VV, reduceCtorEq, seval, a17, Pl.av_eq, treeCs]
 refine callQ (lengths_st d hd hs) ?_
 simp (disch := first | exact dA | fail) only [↓V0, VV, reduceCtorEq, seval, a17, tup3, hl, hin]
 generalize hσ1 : St.new _ _ = σ1
 have hE1 : Ext σ σ1 := by rw [<- hσ1]; exact eA
 have hn1 : σ1.n = σ.n + 4 := by rw [<- hσ1]; rfl
 have k0 : lk σ1.H σ.n = some (.arr r.cs) := by rw [<- hσ1]; simp (disch := first | exact dA | fail) only [↓V0, VV, reduceCtorEq, seval, a17, Rt.cs]
 have k1 : lk σ1.H (σ.n + 1) = some (.arr [.int .u64 0, .int .i64 0, .int .i64 0, .int .i64 0, .int .i64 0, .vs [] .ex, .vs [] .ex]) := by rw [<- hσ1]; simp (disch := first | exact dA | fail) only [↓V0, VV, reduceCtorEq, seval, a17]
 have k3 : lk σ1.H (σ.n + 1 + 1 + 1) = some (wkB p.a .emp r.pl .ex .no) := by rw [<- hσ1]; simp (disch := first | exact dA | fail) only [↓V0, VV, reduceCtorEq, seval, a17, wkB] <;> rfl
 clear hσ1
 have hll : (d.map Pc.av).length = d.length := List.length_map _
 refine AW.upto hmix (fun i ρ σ' => ρ 0 = .ptr p.a 0 /\ ρ 4 = .ptr σ.n 0 /\ ρ 6 = .ptr (σ.n + 1) 0 /\ ρ 12 = .ptr (σ.n + 1 + 1 + 1) 0 /\ ρ 55 = .vs (d.map Pc.av) .no /\ ρ 56 = .int .i64 (d.length : Nat) /\ ρ 57 = .int .i64 (i : Nat) /\
   ∃ T L, AW1 A r d (d.drop i) T L /\ (∃ t1 t2, lk σ'.H (σ.n + 1 + 1 + 1) = some (wkB p.a T L t1 t2)) /\ σ1.n <= σ'.n /\ ∀ β, β < σ1.n -> β ≠ σ.n + 1 + 1 + 1 -> lk σ'.H β = lk σ1.H β) d.length
  ⟨by exact wA, by exact wA, by exact wA, by exact wA, by exact wA, by (simp only [↓W0, W, reduceCtorEq, seval, hll]; first | done | rfl | omega | simp), by exact wA, .emp, r.pl, ⟨.inl rfl, hpl, by rw [hbm, <- hin, v2]; rfl, by simp [Pl.bytes], rfl, by rw [hpb]; exact hbr⟩, ⟨_, _, k3⟩, Nat.le_refl _, fun _ _ _ => rfl⟩ (fun i ρ σ' hi h => ?_) (fun ρ σ' h => ?_)
 ·obtain ⟨r0, r4, r6, r12, r55, r56, r57, T, L, W, ⟨t1, t2, hw⟩, hn, hf⟩ := h
  have hgi : (d.map Pc.av)[i]? = some d[i].av := by simp [hi]
  have hdi : d.drop i = d[i] :: d.drop (i + 1) := List.drop_eq_getElem_cons hi
  have hvq := v1 _ (List.getElem_mem hi)
  have hvd := sum_nn (d := d.drop (i + 1)) fun x hx => v1 x (List.mem_of_mem_drop hx)
  have hsz := sizes_nn hvq
  obtain ⟨o1, o2, b1, b2, tx, hLb⟩ := W
  rw [hdi] at b1 b2 tx
  simp only [List.map_cons, List.sum_cons] at b1 b2
  generalize d[i] = q at *
  obtain ⟨s1, s2, s3, s4, s5, s6, s7⟩ := stW_spec wf (i := ((d.drop (i + 1)).map fun q => (sizesP q).1).sum) (o := ((d.drop (i + 1)).map fun q => (sizesP q).2).sum) o1 o2 hvq b1 hvd.1 (by omega) hvd.2 hLb
  have hGr : GrX 0 (σ.n + 1 + 1 + 1) σ1 σ' := ⟨hn, fun β hβ => by omega, fun β h1 h2 _ => hf β h1 h2⟩
  have hA' := ((hA.ext hE1).gr (hp _ (by omega)) hGr).ext (σ' := (σ'.new (.arr [.int .u8 0, .int .i64 0, .str []])).set σ'.n (.arr q.cs)) (by exact eA)
  have hpc := piece_ok (p := p) (wb := σ.n + 1 + 1 + 1) (σ := (σ'.new (.arr [.int .u8 0, .int .i64 0, .str []])).set σ'.n (.arr q.cs)) wf T L q o1 o2 hvq s6 hLb s7 (t1 := t1) (t2 := t2) (by rw [lk_set, if_neg (by omega), lk_new, if_neg (by omega)]; exact hw) (by simp only [↓W0, W, reduceCtorEq, seval] <;> omega) (hp _ (by omega)) hA'
  simp only [Pc.av, Pc.cs] at hgi hpc
  simp (disch := first | exact dA | fail) only [↓V0, VV, reduceCtorEq, seval, a17, r0, r4, r6, r12, r55, r56, r57, hgi]
  refine hpc.mono ?_
  rintro v σ3 ⟨rfl, x1, x2, x3⟩
  simp (disch := first | exact dA | fail) only [↓V0, VV, reduceCtorEq, seval, a17, r0, r4, r6, r12, r55, r56, r57]
  refine ⟨rfl, _, _, ⟨s1, s2, s3, by rw [s4]; omega, by rw [s5]; exact tx, by omega⟩, x1, ?_, fun β h1 h2 => ?_⟩
  ·have : σ'.n + 1 <= σ3.n := x2
   omega
  ·rw [x3 β (by simp only [↓W0, W, reduceCtorEq, seval] <;> omega) h2, lk_set, if_neg (by omega), lk_new, if_neg (by omega)]
   exact hf β h1 h2
 ·obtain ⟨r0, r4, r6, r12, r55, r56, r57, T, L, W, ⟨t1, t2, hw⟩, hn, hf⟩ := h
  obtain ⟨o1, o2, b1, b2, tx, hLb⟩ := W
  rw [List.drop_length] at b1 b2 tx
  simp only [apl, List.append_nil] at tx
  simp only [List.map_nil, List.sum_nil] at b1 b2
  have hw' := hw
  simp only [wkB] at hw'
  have k0' := (hf σ.n (by omega) (by omega)).trans k0
  have k1' := (hf (σ.n + 1) (by omega) (by omega)).trans k1
  simp only [Rt.cs] at k0'
  have hGr : GrX 0 (σ.n + 1 + 1 + 1) σ1 σ' := ⟨hn, fun β hβ => by omega, fun β h1 h2 _ => hf β h1 h2⟩
  have hA' := (hA.ext hE1).gr (hp _ (by omega)) hGr
  have hEx : Ext σ σ' := ⟨by omega, fun β hβ => (hf β (by omega) (by omega)).trans (hE1.2 β hβ)⟩
  simp (disch := first | exact dA | fail) only [↓V0, VV, reduceCtorEq, seval, a17, r0, r4, r6, r12, r55, r56, r57, hw', k0']
  have hdr := dropped_ok wf r hr T o1 (by omega) hA'
  simp only [Rt.av, Rt.cs] at hdr
  refine callQE (by first | rfl | simp only [WQ, treeCs, Ms.av, Ms.cs]) (hdr) ?_
  simp (disch := first | exact dA | fail) only [↓V0, VV, reduceCtorEq, seval, a17, r0, r4, r6, r12, hw', k0']
  refine callE (by first | rfl | simp only [WQ, treeCs, Ms.av, Ms.cs]) (write_ok g T o1 (by omega) (hk T o1 tx) hA') ?_
  rintro v σ3 ⟨rfl, z1, z2⟩
  have z3 := z2.1
  have k1'' := (z2.2 (σ.n + 1) (by omega) (hp _ (by omega))).trans k1'
  have fr3 : FrX p σ σ3 := (FrX.ext hEx).trans z2.x
  simp (disch := first | exact dA | fail) only [↓V0, VV, reduceCtorEq, seval, a17, Rt.av, Rt.cs, r6, k1'', eq_false (show ¬ σ3.n = σ.n + 1 by omega)]
  refine ⟨_, ⟨T, ?_, o1, tx, rfl⟩, (z1.ext (σ' := (σ3.new (.arr Rt.z.cs)).set σ3.n (.arr (wrP A T).2.1.cs)) (by exact eA)).gr (n0 := 0) (b := σ.n + 1) (hp _ (by omega)) (GrX.set (GrX.refl 0 _ _) (Nat.zero_le _) _), FrX.set (FrX.set (FrX.new fr3 _) (.inl (by omega)) _) (.inl (by omega)) _⟩
  simp only [WE, er_uav, List.cons_append, List.nil_append]
end Go.Proofs.YtekhblefchceaaaGreat.AM

