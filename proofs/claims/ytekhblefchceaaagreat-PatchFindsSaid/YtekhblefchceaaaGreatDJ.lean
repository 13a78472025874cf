/- Joined: D32, D33, D34, D35. -/
import Derived.Test.YtekhblefchceaaaGreatDI
set_option linter.unusedVariables false
set_option linter.unusedSimpArgs false
/- Contracts: patch.Between. -/
set_option maxRecDepth 20000
namespace Go.Proofs.YtekhblefchceaaaGreat.AM
open Go Go.Proofs
variable {σ : St}
def cpre : List (Nat × List UInt8) -> List (Nat × List UInt8) -> Nat
 | a :: X, b :: Y => if a.1 = b.1 then cpre X Y + 1 else 0
 | _, _ => 0
def csuf (X Y : List (Nat × List UInt8)) : Nat := cpre X.reverse Y.reverse
def ftx (X : List (Nat × List UInt8)) : List UInt8 := (X.map (·.2)).flatten
def pc1 (p : Pc) : List Pc := if 0 < p.n \/ p.tx ≠ [] then [p] else []
def btwT (X Y : List (Nat × List UInt8)) (k j : Nat) : List Pc := pc1 ⟨1, (ftx (X.take k)).length, []⟩ ++ pc1 ⟨2, 0, ftx ((Y.drop k).take ((Y.drop k).length - j))⟩ ++ pc1 ⟨3, (ftx ((X.drop k).take ((X.drop k).length - j))).length, []⟩ ++ pc1 ⟨1, (ftx ((X.drop k).drop ((X.drop k).length - j))).length, []⟩
def btw (X Y : List (Nat × List UInt8)) : List Pc := btwT X Y (cpre X Y) (csuf (X.drop (cpre X Y)) (Y.drop (cpre X Y)))
theorem fit_pcs (l : List Pc) : fitSz 3 (l.map Pc.av) = true := fit_all fun x hx => by
 obtain ⟨y, _, rfl⟩ := List.mem_map.1 hx
 exact ⟨rfl, rfl⟩
theorem pput_ok {n0 b : Nat} {l : List Pc} (k n : Nat) (s : List UInt8) (h : LstB n0 b (l.map Pc.av) σ) (hb : b < σ.n) (hn0 : n0 <= b) (hl : l.length <= 1000) :
  ACalls Tryz.prog 47 [.int .u8 (k : Nat), .int .i64 (n : Nat), .str s, .ptr b 0] σ (fun _ σ' => LstB n0 b ((l ++ pc1 ⟨k, n, s⟩).map Pc.av) σ' /\ GrX n0 b σ σ') := by
 obtain ⟨t, a1, a2⟩ := h
 have hll : (l.map Pc.av).length = l.length := List.length_map _
 have hfp := fit_pcs l
 by_cases hq : 0 < n \/ s ≠ []
 ·have hpc : pc1 ⟨k, n, s⟩ = [⟨k, n, s⟩] := if_pos (by simpa using hq)
  rw [hpc, List.map_append]
  obtain ⟨c1, c2, c3, c4⟩ := lst_app [.agg [.int .u8 (k : Nat), .int .i64 (n : Nat), .str s]] a1 a2 hb hn0
  by_cases h0 : 0 < n
  ·refine FOk.calls ok47 (by simp [a47]) (wpc_sound hmix ?_)
   show wpc _ _ _ c47 _ _ _
   simp (disch := first | exact dA | fail) only [↓V0, VV, reduceCtorEq, seval, a47, show ((0 : Int) < (n : Int)) = True from eq_true (by omega)]
   simp (disch := first | exact dA | fail) only [↓V0, VV, reduceCtorEq, seval, a47, a1, c2, ↓eval_app, appA_S, appA_M]
   exact ⟨c3, c4⟩
  ·have hn : n = 0 := by omega
   subst hn
   have hs : (s == []) = false := beq_nil_f (by
    cases s with
    | nil => simp at hq
    | cons a s => simp)
   refine FOk.calls ok47 (by simp [a47]) (wpc_sound hmix ?_)
   show wpc _ _ _ c47 _ _ _
   simp (disch := first | exact dA | fail) only [↓V0, VV, reduceCtorEq, seval, a47, hs]
   simp (disch := first | exact dA | fail) only [↓V0, VV, reduceCtorEq, seval, a47, a1, c2, ↓eval_app, appA_S, appA_M]
   exact ⟨c3, c4⟩
 ·have hpc : pc1 ⟨k, n, s⟩ = [] := if_neg (by simpa using hq)
  rw [hpc, List.append_nil]
  have hn : n = 0 := by omega
  have hs : s = [] := Decidable.byContradiction fun h => hq (.inr h)
  subst hn hs
  refine FOk.calls ok47 (by simp [a47]) (wpc_sound hmix ?_)
  show wpc _ _ _ c47 _ _ _
  simp (disch := first | exact dA | fail) only [↓V0, VV, reduceCtorEq, seval, a47]
  exact ⟨⟨t, a1, a2⟩, GrX.refl _ _ _⟩
theorem rtxt_len {A : Ar} (wf : A.WF) {r : Rt} (hr : RtOk A r) : (r.txt A).length <= 65536 := by
 rw [<- (rt_bytes wf hr).1]
 rcases hr with rfl | ⟨x, x1, x2, x3⟩
 ·simp [Rt.pl, Rt.z, Pl.bytes]
 ·have := (wf _ _ x1).1.pos
  have := (wf _ _ x1).2.2.1
  rw [Rt.pl, if_neg (by omega)]
  show r.m.b <= 65536
  rw [<- x3]; exact this
theorem between_ok {p : Pa} {A : Ar} (wf : A.WF) (r r' : Rt) (hr : RtOk A r) (hr' : RtOk A r') (hA : ArAt p σ A) : ACalls Tryz.prog 11 [.ptr p.a 0, r.av, r'.av] σ (fun v σ' => v = .tup [.vs ((btw (prs A r) (prs A r')).map Pc.av) .no, .int .i64 0] /\ σ' = σ) := by
 refine ACalls.quietX ?_ (by simp only [AV.pur, purL, pur_pcs, Tok.pur, Bool.and_self])
 have hx1 := prs_len wf hr
 have hb1 : (ftx (prs A r)).length <= 65536 := by unfold ftx; rw [prs_txt wf hr]; exact rtxt_len wf hr
 have hb2 : (ftx (prs A r')).length <= 65536 := by unfold ftx; rw [prs_txt wf hr']; exact rtxt_len wf hr'
 have hx2 := prs_len wf hr'
 refine FOk.calls ok11 (by simp [a11]) (wpc_sound hmix ?_)
 show wpc _ _ _ c11 _ _ _
 simp (disch := first | exact dA | fail) only [↓V0, VV, reduceCtorEq, seval, a11, Rt.av, Rt.cs]
 refine callQE (by first | rfl | simp only [WQ, treeCs, Ms.av, Ms.cs]) (pboth_ok wf r r' hr hr' (hA.ext (by exact eA))) ?_
 generalize prs A r = X0 at *
 generalize prs A r' = Y0 at *
 simp (disch := first | exact dA | fail) only [↓V0, VV, reduceCtorEq, seval, a11]
 refine AW.lp hmix (fun k ρ σ' => ∃ Px Py X Y, X0 = Px ++ X /\ Y0 = Py ++ Y /\ Px.length = Py.length /\ k = X.length /\ ρ 8 = .vs (X.map pav) .no /\ ρ 9 = .vs (Y.map pav) .no /\ ρ 11 = .int .i64 ((ftx Px).length : Nat) /\ ρ 12 = .int .i64 0 /\ Px.length + cpre X Y = cpre X0 Y0 /\ Ext σ σ') X0.length
  ⟨[], [], X0, Y0, rfl, rfl, rfl, rfl, by exact wA, by exact wA, by exact wA, by exact wA, by simp, by exact eA⟩ ?_
 rintro k ρ σ' ⟨Px, Py, X, Y, eX, eY, hP, rfl, r8, r9, r11, r12, hc, hE⟩
 have next : cpre X Y = 0 -> ∀ (ρ : Env) (σ' : St), ρ 8 = .vs (X.map pav) .no -> ρ 9 = .vs (Y.map pav) .no -> ρ 11 = .int .i64 ((ftx Px).length : Nat) -> ρ 12 = .int .i64 0 -> Ext σ σ' -> AW Tryz.prog none 118 l11_12.loop (inBl 2 (kS Tryz.prog none 118
     ((ACode.rg r11_11).seq ((ACode.rg r11_12).seq ((ACode.rg r11_13).seq ((ACode.rg r11_14).seq ((ACode.rg r11_15).seq ((ACode.rg r11_16).seq ((ACode.rg r11_17).seq ACode.ret))))))) (FPost [RV.tmp 6, RV.tmp 7] fun v σ' => v.er = AV.tup [AV.vs (List.map Pc.av (btw X0 Y0)) Tok.no, AV.int IntKind.i64 0] /\ Ext σ σ'))) ρ σ' := by
  intro h0 ρ σ1 r8 r9 r11 r12 hE1
  clear hE
  have hcX : Px = X0.take (cpre X0 Y0) /\ X = X0.drop (cpre X0 Y0) /\ Y = Y0.drop (cpre X0 Y0) := by
   rw [h0, Nat.add_zero] at hc
   exact ⟨by rw [<- hc, eX, List.take_left], by rw [<- hc, eX, List.drop_left], by rw [<- hc, eY, hP, List.drop_left]⟩
  generalize hR : ((ACode.rg r11_11).seq ((ACode.rg r11_12).seq ((ACode.rg r11_13).seq ((ACode.rg r11_14).seq ((ACode.rg r11_15).seq ((ACode.rg r11_16).seq ((ACode.rg r11_17).seq ACode.ret))))))) = R
  refine AW.lp hmix (fun k ρ σ' => ∃ X1 Y1 S T, X = X1 ++ S /\ Y = Y1 ++ T /\ S.length = T.length /\ k = X1.length /\ ρ 8 = .vs (X1.map pav) .no /\ ρ 9 = .vs (Y1.map pav) .no /\ ρ 11 = .int .i64 ((ftx Px).length : Nat) /\ ρ 12 = .int .i64 ((ftx S).length : Nat) /\ S.length + csuf X1 Y1 = csuf X Y /\ Ext σ σ') X.length
   ⟨X, Y, [], [], by simp, by simp, rfl, rfl, r8, r9, r11, r12, by simp, hE1⟩ ?_
  rintro k ρ σ' ⟨X1, Y1, S, T, eX1, eY1, hS, rfl, r8, r9, r11, r12, hc1, hE⟩
  have fin : csuf X1 Y1 = 0 -> ∀ (ρ : Env), ρ 8 = .vs (X1.map pav) .no -> ρ 9 = .vs (Y1.map pav) .no -> ρ 11 = .int .i64 ((ftx Px).length : Nat) -> ρ 12 = .int .i64 ((ftx S).length : Nat) -> wpc Tryz.prog none 118 R (FPost [RV.tmp 6, RV.tmp 7] fun v σ' => v.er = AV.tup [AV.vs (List.map Pc.av (btw X0 Y0)) Tok.no, AV.int IntKind.i64 0] /\ Ext σ σ') ρ σ' := by
   intro h1 ρ r8 r9 r11 r12
   subst hR
   have hbX : ((X1.map (·.2)).flatten).length <= 65536 := by
    have : (ftx X1).length <= (ftx X0).length := by rw [eX, eX1]; simp [ftx]; omega
    unfold ftx at this hb1; omega
   have hbY : ((Y1.map (·.2)).flatten).length <= 65536 := by
    have : (ftx Y1).length <= (ftx Y0).length := by rw [eY, eY1]; simp [ftx]; omega
    unfold ftx at this hb2; omega
   have hlX : X1.length <= 131072 := by rw [eX, eX1] at hx1; simp at hx1; omega
   have hlY : Y1.length <= 131072 := by rw [eY, eY1] at hx2; simp at hx2; omega
   simp (disch := first | exact dA | fail) only [↓V0, VV, reduceCtorEq, seval, a11, r11]
   have hL0 : LstB σ.n σ'.n (([] : List Pc).map Pc.av) (σ'.new (.arr [.vs [] .ex])) := ⟨.ex, by rw [lk_new, if_pos rfl]; rfl, trivial⟩
   have hE2 : Ext σ (σ'.new (.arr [.vs [] .ex])) := hE.newer _
   have hn2 : (σ'.new (.arr [.vs [] .ex])).n = σ'.n + 1 := rfl
   have hnn := hE.1
   generalize σ'.new _ = σ2 at *
   refine (pput_ok 1 (ftx Px).length [] hL0 (by omega) (by omega) (by simp)).mono ?_
   rintro v σ3 ⟨L3, G3⟩
   have n3 := G3.1
   simp (disch := first | exact dA | fail) only [↓V0, VV, reduceCtorEq, seval, a11, r9]
   refine callQ (join_ok Y1 (by omega) (by omega) .no _) ?_
   simp (disch := first | exact dA | fail) only [↓V0, VV, reduceCtorEq, seval, a11]
   refine (pput_ok 2 0 (Y1.map (·.2)).flatten L3 (by omega) (by omega) (by simp [pc1]; split <;> simp)).mono ?_
   rintro v σ4 ⟨L4, G4⟩
   have n4 := G4.1
   simp (disch := first | exact dA | fail) only [↓V0, VV, reduceCtorEq, seval, a11, r8]
   refine callQ (join_ok X1 (by omega) (by omega) .no _) ?_
   simp (disch := first | exact dA | fail) only [↓V0, VV, reduceCtorEq, seval, a11]
   have pl : ∀ q : Pc, (pc1 q).length <= 1 := fun q => by unfold pc1; split <;> simp
   have p1 := pl ⟨1, (ftx Px).length, []⟩
   have p2 := pl ⟨2, 0, (Y1.map (·.2)).flatten⟩
   have p3 := pl ⟨3, (X1.map (·.2)).flatten.length, []⟩
   refine (pput_ok 3 (X1.map (·.2)).flatten.length [] L4 (by omega) (by omega) (by simp only [List.nil_append, List.length_append]; exact Nat.le_trans (Nat.add_le_add p1 p2) (by decide))).mono ?_
   rintro v σ5 ⟨L5, G5⟩
   have n5 := G5.1
   simp (disch := first | exact dA | fail) only [↓V0, VV, reduceCtorEq, seval, a11, r12]
   refine (pput_ok 1 (ftx S).length [] L5 (by omega) (by omega) (by simp only [List.nil_append, List.length_append]; exact Nat.le_trans (Nat.add_le_add (Nat.add_le_add p1 p2) p3) (by decide))).mono ?_
   rintro v σ6 ⟨⟨tk, t1, t2⟩, G6⟩
   have hbt : ([] : List Pc) ++ pc1 ⟨1, (ftx Px).length, []⟩ ++ pc1 ⟨2, 0, (Y1.map (·.2)).flatten⟩ ++ pc1 ⟨3, (X1.map (·.2)).flatten.length, []⟩ ++ pc1 ⟨1, (ftx S).length, []⟩ = btw X0 Y0 := by
    obtain ⟨c1, c2, c3⟩ := hcX
    rw [h1, Nat.add_zero] at hc1
    have d1 : X.take (X.length - S.length) = X1 := by rw [eX1]; simp
    have d2 : X.drop (X.length - S.length) = S := by rw [eX1]; simp
    have d3 : Y.take (Y.length - S.length) = Y1 := by rw [eY1, hS]; simp
    unfold btw btwT
    rw [<- c1, <- c2, <- c3, <- hc1, d1, d2, d3]
    rfl
   rw [show ((1 : Nat) : Int) = 1 from rfl, show ((2 : Nat) : Int) = 2 from rfl, show ((3 : Nat) : Int) = 3 from rfl, show ((0 : Nat) : Int) = 0 from rfl, hbt] at t1
   simp (disch := first | exact dA | fail) only [↓V0, VV, reduceCtorEq, seval, a11, t1]
   have hlo : Ext σ σ6 := Lo.toExt (((G3.lo.trans G4.lo).trans G5.lo).trans G6.lo) hE2
   exact ⟨by simp only [er_tup, List.map_cons, List.map_nil, er_pcs, er_int], hlo⟩
  clear hR
  rcases List.eq_nil_or_concat X1 with rfl | ⟨XA, a, rfl⟩
  ·simp (disch := first | exact dA | fail) only [↓V0, VV, reduceCtorEq, seval, a11, r8, r9]
   exact fin rfl _ (by (simp only [↓W0, W, reduceCtorEq, seval, r8]; first | done | rfl | omega | simp)) (by (simp only [↓W0, W, reduceCtorEq, seval, r9]; first | done | rfl | omega | simp)) (by (simp only [↓W0, W, reduceCtorEq, seval, r11]; first | done | rfl | omega | simp)) (by (simp only [↓W0, W, reduceCtorEq, seval, r12]; first | done | rfl | omega | simp))
  ·obtain ⟨h1, x1⟩ := a
   rw [List.concat_eq_append] at *
   have lx : ((XA ++ [(h1, x1)]).map pav).length = XA.length + 1 := by simp
   have gx : ((XA ++ [(h1, x1)]).map pav)[XA.length]? = some (.agg [.int .u64 h1, .str x1]) := by simp [pav]
   have tx : ((XA ++ [(h1, x1)]).map pav).take XA.length = XA.map pav := by simp
   have fx := fit_pav (XA ++ [(h1, x1)])
   rcases List.eq_nil_or_concat Y1 with rfl | ⟨YA, b, rfl⟩
   ·have hc0 : csuf (XA ++ [(h1, x1)]) [] = 0 := by unfold csuf; rw [List.reverse_append]; rfl
    generalize hLX : (XA ++ [(h1, x1)]).map pav = LX at *
    simp (disch := first | exact dA | fail) only [↓V0, VV, reduceCtorEq, seval, a11, r8, r9, show ((0 : Int) < (LX.length : Nat)) = True from eq_true (by omega)]
    exact fin hc0 _ (by (simp only [↓W0, W, reduceCtorEq, seval, r8]; first | done | rfl | omega | simp)) (by (simp only [↓W0, W, reduceCtorEq, seval, r9]; first | done | rfl | omega | simp)) (by (simp only [↓W0, W, reduceCtorEq, seval, r11]; first | done | rfl | omega | simp)) (by (simp only [↓W0, W, reduceCtorEq, seval, r12]; first | done | rfl | omega | simp))
   ·obtain ⟨h2, x2⟩ := b
    rw [List.concat_eq_append] at *
    have ly : ((YA ++ [(h2, x2)]).map pav).length = YA.length + 1 := by simp
    have gy : ((YA ++ [(h2, x2)]).map pav)[YA.length]? = some (.agg [.int .u64 h2, .str x2]) := by simp [pav]
    have ty : ((YA ++ [(h2, x2)]).map pav).take YA.length = YA.map pav := by simp
    have fy := fit_pav (YA ++ [(h2, x2)])
    generalize hLX : (XA ++ [(h1, x1)]).map pav = LX at *
    generalize hLY : (YA ++ [(h2, x2)]).map pav = LY at *
    have hl1 : XA.length < 131072 := by rw [eX, eX1] at hx1; simp at hx1; omega
    have hl2 : YA.length < 131072 := by rw [eY, eY1] at hx2; simp at hx2; omega
    have lx0 : ((0 : Int) < (LX.length : Nat)) = True := eq_true (by omega)
    have ly0 : ((0 : Int) < (LY.length : Nat)) = True := eq_true (by omega)
    have lx1 : ((LX.length : Nat) : Int) - 1 = (XA.length : Nat) := by omega
    have ly1 : ((LY.length : Nat) : Int) - 1 = (YA.length : Nat) := by omega
    by_cases hh : h1 = h2
    ·subst hh
     have e1 : (ftx ((h1, x1) :: S)).length = x1.length + (ftx S).length := by simp [ftx]
     have e2 : x1.length + (ftx S).length <= (ftx X0).length := by rw [eX, eX1]; simp [ftx]; omega
     simp (disch := first | exact dA | fail) only [↓V0, VV, reduceCtorEq, seval, a11, r8, r9, r12, lx0, ly0, lx1, ly1, gx, gy, tx, ty, fx, fy, ite_self]
     exact ⟨XA.length, by simp, XA, YA, (h1, x1) :: S, (h1, x2) :: T, by simp [eX1], by simp [eY1], by simp [hS], rfl, rfl, rfl, r11, by rw [e1]; congr 1; omega, by
      rw [<- hc1, csuf, csuf, List.reverse_append, List.reverse_append]
      simp only [List.reverse_cons, List.reverse_nil, List.nil_append, List.cons_append, cpre, if_true, List.length_cons]; omega, hE⟩
    ·have hc0 : csuf (XA ++ [(h1, x1)]) (YA ++ [(h2, x2)]) = 0 := by
      rw [csuf, List.reverse_append, List.reverse_append]
      exact if_neg hh
     simp (disch := first | exact dA | fail) only [↓V0, VV, reduceCtorEq, seval, a11, r8, r9, r12, lx0, ly0, lx1, ly1, gx, gy, tx, ty, fx, fy, ite_self, eq_false (show ¬ (h1 : Int) = (h2 : Int) by omega)]
     exact fin hc0 _ (by (simp only [↓W0, W, reduceCtorEq, seval, r8]; first | done | rfl | omega | simp)) (by (simp only [↓W0, W, reduceCtorEq, seval, r9]; first | done | rfl | omega | simp)) (by (simp only [↓W0, W, reduceCtorEq, seval, r11]; first | done | rfl | omega | simp)) (by (simp only [↓W0, W, reduceCtorEq, seval, r12]; first | done | rfl | omega | simp))
 have htk : ∀ (a : AV) (X : List (Nat × List UInt8)), (a :: X.map pav).take (X.length + 1) = a :: X.map pav := fun a X => List.take_of_length_le (by simp)
 cases X with
 | nil =>
  simp (disch := first | exact dA | fail) only [↓V0, VV, reduceCtorEq, seval, a11, r8, r9]
  exact next rfl _ _ (by (simp only [↓W0, W, reduceCtorEq, seval, r8]; first | done | rfl | omega | simp)) (by (simp only [↓W0, W, reduceCtorEq, seval, r9]; first | done | rfl | omega | simp)) (by (simp only [↓W0, W, reduceCtorEq, seval, r11]; first | done | rfl | omega | simp)) (by (simp only [↓W0, W, reduceCtorEq, seval, r12]; first | done | rfl | omega | simp)) hE
 | cons a X =>
  cases Y with
  | nil =>
   simp (disch := first | exact dA | fail) only [↓V0, VV, reduceCtorEq, seval, a11, r8, r9]
   exact next rfl _ _ (by (simp only [↓W0, W, reduceCtorEq, seval, r8]; first | done | rfl | omega | simp)) (by (simp only [↓W0, W, reduceCtorEq, seval, r9]; first | done | rfl | omega | simp)) (by (simp only [↓W0, W, reduceCtorEq, seval, r11]; first | done | rfl | omega | simp)) (by (simp only [↓W0, W, reduceCtorEq, seval, r12]; first | done | rfl | omega | simp)) hE
  | cons b Y =>
   obtain ⟨h1, x1⟩ := a
   obtain ⟨h2, x2⟩ := b
   by_cases hh : h1 = h2
   ·subst hh
    have hfx : fitSz 2 (.agg [.int .u64 h1, .str x1] :: X.map pav) = true := fit_pav ((h1, x1) :: X)
    have hfy : fitSz 2 (.agg [.int .u64 h1, .str x2] :: Y.map pav) = true := fit_pav ((h1, x2) :: Y)
    have e1 : (ftx (Px ++ [(h1, x1)])).length = (ftx Px).length + x1.length := by simp [ftx]
    have e2 : (ftx Px).length + x1.length <= (ftx X0).length := by rw [eX]; simp [ftx]
    simp (disch := first | exact dA | fail) only [↓V0, VV, reduceCtorEq, seval, a11, r8, r9, r11, pav, htk, hfx, hfy, ite_self]
    refine ⟨X.length, by omega, Px ++ [(h1, x1)], Py ++ [(h1, x2)], X, Y, by simp [eX], by simp [eY], by simp [hP], rfl, rfl, rfl, by rw [e1]; rfl, r12, by rw [<- hc, cpre, if_pos rfl, List.length_append, List.length_singleton]; omega, hE⟩
   ·have hc0 : cpre ((h1, x1) :: X) ((h2, x2) :: Y) = 0 := if_neg hh
    simp (disch := first | exact dA | fail) only [↓V0, VV, reduceCtorEq, seval, a11, r8, r9, r11, pav, eq_false (show ¬ (h1 : Int) = (h2 : Int) by omega)]
    exact next hc0 _ _ (by (simp only [↓W0, W, reduceCtorEq, seval, r8]; first | done | rfl | omega | simp)) (by (simp only [↓W0, W, reduceCtorEq, seval, r9]; first | done | rfl | omega | simp)) (by (simp only [↓W0, W, reduceCtorEq, seval, r11]; first | done | rfl | omega | simp)) (by (simp only [↓W0, W, reduceCtorEq, seval, r12]; first | done | rfl | omega | simp)) hE
end Go.Proofs.YtekhblefchceaaaGreat.AM

/- Contracts: patch.Apply. -/
set_option maxRecDepth 20000
namespace Go.Proofs.YtekhblefchceaaaGreat.AM
open Go Go.Proofs
variable {σ : St}
noncomputable def stW (A : Ar) (T L : Pl) (q : Pc) : Pl × Pl :=
 if q.k = 2 then (cnc A T (bldP q.tx), L) else if q.k = 3 then (T, (cutP A L.ht L q.n.toNat).2) else (cnc A T (cutP A L.ht L q.n.toNat).1, (cutP A L.ht L q.n.toNat).2)
def wkB (a : Nat) (T L : Pl) (t1 t2 : Tok) : Blk := .arr [.ptr a 0, .int .u64 T.old, .int .i64 T.ht, .int .i64 T.m.b, .int .i64 T.m.r, .int .i64 T.m.l, .str T.tx, .vs (T.ks.map Pl.av) t1,
 .int .u64 L.old, .int .i64 L.ht, .int .i64 L.m.b, .int .i64 L.m.r, .int .i64 L.m.l, .str L.tx, .vs (L.ks.map Pl.av) t2]
theorem piece_ok {p : Pa} {A : Ar} (wf : A.WF) {wb : Nat} (T L : Pl) (q : Pc) (hT : OkP A T) (hL : OkP A L) (hq : validP q = true) (hn : q.k ≠ 2 -> q.n.toNat <= L.bytes) (hb : L.bytes <= 65536) (hTb : T.bytes + (if q.k = 3 then 0 else if q.k = 2 then q.tx.length else q.n.toNat) <= 65536)
  {t1 t2 : Tok} (hw : lk σ.H wb = some (wkB p.a T L t1 t2)) (hlt : wb < σ.n) (hp : ¬ p.has wb) (hA : ArAt p σ A) :
  ACalls Tryz.prog 54 [.ptr wb 0, q.av] σ (fun v σ' => v = .int .i64 0 /\ (∃ t1 t2, lk σ'.H wb = some (wkB p.a (stW A T L q).1 (stW A T L q).2 t1 t2)) /\ σ.n <= σ'.n /\ ∀ β, β < σ.n -> β ≠ wb -> lk σ'.H β = lk σ.H β) := by
 obtain ⟨k, n, tx⟩ := q
 have hw' := hw
 simp only [wkB] at hw'
 unfold validP at hq
 simp only at hq hn hTb
 by_cases h2 : k = 2
 ·subst h2
  simp only [show ((2 : Int) = 1 \/ (2 : Int) = 3) = False from by simp, if_false, if_true, Bool.and_eq_true, decide_eq_true_eq] at hq
  have hst : stW A T L ⟨2, n, tx⟩ = (cnc A T (bldP tx), L) := if_pos rfl
  rw [hst]
  simp only [show ((2 : Int) = 3) = False from by simp, if_false, if_true] at hTb
  refine FOk.calls ok54 (by simp [a54]) (wpc_sound hmix ?_)
  show wpc _ _ _ c54 _ _ _
  simp (disch := first | exact dA | fail) only [↓V0, VV, reduceCtorEq, seval, a54, Pc.av, Pc.cs]
  refine callQE (by first | rfl | simp only [WQ, treeCs, Ms.av, Ms.cs]) (build_ok tx (by omega)) ?_
  simp (disch := first | exact dA | fail) only [↓V0, VV, reduceCtorEq, seval, a54, Pl.av_eq, treeCs, hw']
  have hbs := bldP_spec tx (by omega)
  have hbb := (hbs.1 A).bytes wf
  rw [hbs.2.1] at hbb
  refine callQE (by first | rfl | simp only [WQ, treeCs, Ms.av, Ms.cs]) (pconcat_ok wf T (bldP tx) hT (hbs.1 A) (by omega) (hA.ext (by exact eA))) ?_
  simp (disch := first | exact dA | fail) only [↓V0, VV, reduceCtorEq, seval, a54, Pl.av_eq, treeCs, hw']
  exact ⟨⟨.no, t2, rfl⟩, fun β h1 h2 => by simp [show ¬ wb = β from fun e => h2 e.symm, show ¬ σ.n + 1 = β by omega, show ¬ σ.n = β by omega]⟩
 ·have hk : k = 1 \/ k = 3 := by
   refine Decidable.byContradiction fun h => ?_
   rw [if_neg h, if_neg h2] at hq
   cases hq
  rw [if_pos hk] at hq
  simp only [Bool.and_eq_true, decide_eq_true_eq] at hq
  have hn' := hn h2
  obtain ⟨c1, c2, c3, c4⟩ := cutQ_spec wf hL hn' hb
  have hcut := fun σ (hA : ArAt p σ A) => pcut_ok (σ := σ) wf L n.toNat hL hn' hb hA
  rw [show ((n.toNat : Nat) : Int) = n by omega] at hcut
  have hst : stW A T L ⟨k, n, tx⟩ = if k = 3 then (T, (cutP A L.ht L n.toNat).2) else (cnc A T (cutP A L.ht L n.toNat).1, (cutP A L.ht L n.toNat).2) := if_neg h2
  rw [hst]
  generalize cutP A L.ht L n.toNat = C at *
  obtain ⟨u, v⟩ := C
  simp only at c1 c2 c3 c4 hcut ⊢
  refine FOk.calls ok54 (by simp [a54]) (wpc_sound hmix ?_)
  show wpc _ _ _ c54 _ _ _
  simp (disch := first | exact dA | fail) only [↓V0, VV, reduceCtorEq, seval, a54, Pc.av, Pc.cs, eq_false h2, hw']
  refine callQE (by first | rfl | simp only [WQ, treeCs, Ms.av, Ms.cs]) (hcut _ (hA.ext (by exact eA))) ?_
  have hub := c1.bytes wf
  have hvb := c2.bytes wf
  have hLb := hL.bytes wf
  rcases hk with rfl | rfl
  ·simp only [show ((1 : Int) = 3) = False from by simp, show ((1 : Int) = 2) = False from by simp, if_false] at hTb ⊢
   have hu2 : u.bytes <= n.toNat := by rw [hub, c3, List.length_take]; omega
   simp (disch := first | exact dA | fail) only [↓V0, VV, reduceCtorEq, seval, a54, Pl.av_eq, treeCs, hw']
   refine callQE (by first | rfl | simp only [WQ, treeCs, Ms.av, Ms.cs]) (pconcat_ok wf T u hT c1 (by omega) (hA.gr (n0 := 0) (b := wb) hp (GrX.set (GrX.ext (by exact eA) (Nat.zero_le _)) (Nat.zero_le _) _))) ?_
   simp (disch := first | exact dA | fail) only [↓V0, VV, reduceCtorEq, seval, a54, Pl.av_eq, treeCs, hw']
   exact ⟨⟨.no, .no, rfl⟩, fun β h1 h2 => by simp [show ¬ wb = β from fun e => h2 e.symm, show ¬ σ.n + 1 = β by omega, show ¬ σ.n = β by omega]⟩
  ·simp only [if_true]
   simp (disch := first | exact dA | fail) only [↓V0, VV, reduceCtorEq, seval, a54, Pl.av_eq, treeCs, hw']
   exact ⟨⟨t1, .no, rfl⟩, fun β h1 h2 => by simp [show ¬ wb = β from fun e => h2 e.symm, show ¬ σ.n + 1 = β by omega, show ¬ σ.n = β by omega]⟩
def apl : List Pc -> List UInt8 -> List UInt8
 | [], _ => []
 | q :: d, s => if q.k = 2 then q.tx ++ apl d s else if q.k = 3 then apl d (s.drop q.n.toNat) else s.take q.n.toNat ++ apl d (s.drop q.n.toNat)
theorem lenLoop_in : ∀ (d : List Pc) (i o : Int), (lenLoop d i o).2.2 = 0 -> (∀ q, q ∈ d -> validP q = true) /\ (lenLoop d i o).1 = i + (d.map fun q => (sizesP q).1).sum /\ (lenLoop d i o).2.1 = o + (d.map fun q => (sizesP q).2).sum
 | [], i, o, _ => ⟨fun q hq => by simp at hq, by simp [lenLoop], by simp [lenLoop]⟩
 | q :: d, i, o, h => by
  unfold lenLoop at h ⊢
  by_cases hv : validP q = true
  ·rw [if_pos hv] at h ⊢
   by_cases hs : 1048576 - i < (sizesP q).1 \/ 1048576 - o < (sizesP q).2
   ·rw [if_pos hs] at h; cases h
   ·rw [if_neg hs] at h ⊢
    obtain ⟨h1, h2, h3⟩ := lenLoop_in d _ _ h
    refine ⟨fun x hx => ?_, by rw [h2]; simp only [List.map_cons, List.sum_cons]; omega, by rw [h3]; simp only [List.map_cons, List.sum_cons]; omega⟩
    rcases List.mem_cons.1 hx with rfl | hx
    ·exact hv
    ·exact h1 x hx
  ·rw [if_neg hv] at h; cases h
noncomputable def folW (A : Ar) (T L : Pl) (d : List Pc) : Pl × Pl := d.foldl (fun s q => stW A s.1 s.2 q) (T, L)
theorem sum_nn {d : List Pc} (hv : ∀ q, q ∈ d -> validP q = true) : 0 <= (d.map fun q => (sizesP q).1).sum /\ 0 <= (d.map fun q => (sizesP q).2).sum := by
 induction d with
 | nil => exact ⟨Int.le_refl _, Int.le_refl _⟩
 | cons q d ih =>
  have h1 := sizes_nn (hv q (by simp))
  have h2 := ih fun x hx => hv x (by simp [hx])
  simp only [List.map_cons, List.sum_cons]
  omega
theorem stW_spec {A : Ar} (wf : A.WF) {T L : Pl} {q : Pc} {i o : Int} (hT : OkP A T) (hL : OkP A L) (hq : validP q = true) (hi : (L.bytes : Int) = (sizesP q).1 + i) (hi0 : 0 <= i) (ho : (T.bytes : Int) + (sizesP q).2 + o <= 65536) (ho0 : 0 <= o) (hb : L.bytes <= 65536) :
  OkP A (stW A T L q).1 /\ OkP A (stW A T L q).2 /\ ((stW A T L q).2.bytes : Int) = i /\ ((stW A T L q).1.bytes : Int) = T.bytes + (sizesP q).2 /\
  (∀ d, (stW A T L q).1.txt A ++ apl d ((stW A T L q).2.txt A) = T.txt A ++ apl (q :: d) (L.txt A)) /\ (q.k ≠ 2 -> q.n.toNat <= L.bytes) /\ T.bytes + (if q.k = 3 then 0 else if q.k = 2 then q.tx.length else q.n.toNat) <= 65536 := by
 obtain ⟨k, n, tx⟩ := q
 have hTb := hT.bytes wf
 have hLb := hL.bytes wf
 unfold validP at hq
 simp only at hq
 by_cases h2 : k = 2
 ·subst h2
  simp only [show ((2 : Int) = 1 \/ (2 : Int) = 3) = False from by simp, if_false, if_true, Bool.and_eq_true, decide_eq_true_eq] at hq
  have hsz : sizesP ⟨2, n, tx⟩ = (0, (tx.length : Int)) := rfl
  rw [hsz] at hi ho ⊢
  simp only at hi ho ⊢
  obtain ⟨b1, b2, _⟩ := bldP_spec tx (by omega)
  have e := cnc_spec wf hT (b1 A) (by rw [b2]; omega)
  have hst : stW A T L ⟨2, n, tx⟩ = (cnc A T (bldP tx), L) := if_pos rfl
  rw [hst]
  refine ⟨e.1, hL, by simp only; omega, ?_, fun d => ?_, fun h => absurd rfl h, by simp only [show ((2 : Int) = 3) = False from by simp, if_false, if_true]; omega⟩
  ·rw [e.1.bytes wf, e.2, b2, List.length_append]; omega
  ·simp only [apl, if_true]; rw [e.2, b2, List.append_assoc]
 ·have hk : k = 1 \/ k = 3 := by
   refine Decidable.byContradiction fun h => ?_
   rw [if_neg h, if_neg h2] at hq
   cases hq
  rw [if_pos hk] at hq
  simp only [Bool.and_eq_true, decide_eq_true_eq] at hq
  have hs1 : (sizesP ⟨k, n, tx⟩).1 = n := by rcases hk with rfl | rfl <;> rfl
  rw [hs1] at hi
  have hn' : n.toNat <= L.bytes := by omega
  obtain ⟨c1, c2, c3, c4⟩ := cutQ_spec wf hL hn' hb
  have hst : stW A T L ⟨k, n, tx⟩ = if k = 3 then (T, (cutP A L.ht L n.toNat).2) else (cnc A T (cutP A L.ht L n.toNat).1, (cutP A L.ht L n.toNat).2) := if_neg h2
  rw [hst]
  generalize cutP A L.ht L n.toNat = C at *
  obtain ⟨u, v⟩ := C
  simp only at c1 c2 c3 c4
  have hub := c1.bytes wf
  have hvb := c2.bytes wf
  rw [c3, List.length_take] at hub
  rw [c4, List.length_drop] at hvb
  rcases hk with rfl | rfl
  ·have hs2 : (sizesP ⟨1, n, tx⟩).2 = n := rfl
   rw [hs2] at ho ⊢
   have e := cnc_spec wf hT c1 (by rw [c3, List.length_take]; omega)
   simp only [show ((1 : Int) = 3) = False from by simp, show ((1 : Int) = 2) = False from by simp, if_false]
   refine ⟨e.1, c2, by omega, ?_, fun d => ?_, fun _ => hn', by omega⟩
   ·rw [e.1.bytes wf, e.2, c3, List.length_append, List.length_take]; omega
   ·simp only [apl, show ((1 : Int) = 3) = False from by simp, show ((1 : Int) = 2) = False from by simp, if_false]
    rw [e.2, c3, c4, List.append_assoc]
  ·have hs2 : (sizesP ⟨3, n, tx⟩).2 = 0 := rfl
   rw [hs2] at ho ⊢
   simp only [if_true]
   refine ⟨hT, c2, by omega, by omega, fun d => ?_, fun _ => hn', by omega⟩
   simp only [apl, show ((3 : Int) = 2) = False from by simp, if_false, if_true]
   rw [c4]
end Go.Proofs.YtekhblefchceaaaGreat.AM

/- Contracts: patch.Apply. -/
set_option maxRecDepth 20000
namespace Go.Proofs.YtekhblefchceaaaGreat.AM
open Go Go.Proofs
variable {σ : St}
theorem Rt.bytes_m {A : Ar} (wf : A.WF) {r : Rt} (hr : RtOk A r) : r.pl.bytes = r.m.b := by
 rcases hr with rfl | ⟨x, h1, h2, h3⟩
 ·rfl
 ·have := (wf _ _ h1).1.pos
  rw [Rt.pl, if_neg (by omega)]; rfl
structure AW1 (A : Ar) (r : Rt) (d D : List Pc) (T L : Pl) : Prop where
 o1 : OkP A T
 o2 : OkP A L
 b1 : (L.bytes : Int) = (D.map fun q => (sizesP q).1).sum
 b2 : (T.bytes : Int) + (D.map fun q => (sizesP q).2).sum = (d.map fun q => (sizesP q).2).sum
 tx : T.txt A ++ apl D (L.txt A) = apl d (r.txt A)
 lb : L.bytes <= 65536
theorem apply_ok {p : Pa} {A : Ar} (g : A.Good) (r : Rt) (hr : RtOk A r) (d : List Pc) (hd : d.length <= 1099511627776) (hs : ∀ q, q ∈ d -> q.small) (hl : (lengthsP d).2.2 = 0) (hin : (lengthsP d).1 = r.m.b) (hout : (lengthsP d).2.1 <= 50000) (hA : ArAt p σ A) :
  ACalls Tryz.prog 17 [.ptr p.a 0, r.av, .vs (d.map Pc.av) .no] σ (fun v σ' => ∃ B, (∃ (r' : Rt) (hs dr : List Nat) (e : Nat) (T : Pl), v = .tup [.agg (r'.cs ++ [.vs (uav .u64 hs) .no, .vs (uav .u64 dr) .no]), .int .i64 e] /\ OkP A T /\ T.txt A = apl d (r.txt A) /\ Wrote A T B r' e) /\ ArAt p σ' B /\ Fr p σ σ') := by
 have wf := g.wf
 have hbr := rtxt_len wf hr
 have hpb := (hr.okp wf).bytes wf
 have hbm := Rt.bytes_m wf hr
 obtain ⟨q1, q2, q3, q4, q5, q6⟩ := hA.lt
 have hp : ∀ β, σ.n <= β -> ¬ p.has β := fun β hβ h => by rcases h with e | e | e | e | e | e <;> omega
 have hln : d.length <= 4096 := by
  refine Decidable.byContradiction fun h => ?_
  unfold lengthsP at hl
  rw [if_pos (by omega)] at hl; cases hl
 have hlp : lengthsP d = lenLoop d 0 0 := if_neg (by omega)
 have hpl := hr.okp wf
 refine ACalls.arenaQ (K := fun v B => ∃ (r' : Rt) (hs dr : List Nat) (e : Nat) (T : Pl), v = .tup [.agg (r'.cs ++ [.vs (uav .u64 hs) .no, .vs (uav .u64 dr) .no]), .int .i64 e] /\ OkP A T /\ T.txt A = apl d (r.txt A) /\ Wrote A T B r' e) ?_ hA.lt (fun v B ⟨r', hs, dr, e, T, h, _⟩ => by rw [h]; simp only [Rt.cs, AV.pur, purL, List.cons_append, List.nil_append, pur_uav, Tok.pur, Bool.and_self])
 obtain ⟨v1, v2, v3⟩ := lenLoop_in d 0 0 (by rw [<- hlp]; exact hl)
 rw [<- hlp] at v2 v3
 simp only [Int.zero_add] at v2 v3
 have ⟨w1, w2⟩ := sum_nn v1
 refine FOk.calls ok17 (by simp [a17]) (wpc_sound hmix ?_)
 show wpc _ _ _ c17 _ _ _
 simp (disch := first | exact dA | fail) only [↓V0, VV, reduceCtorEq, seval, a17, Rt.av, Rt.cs]
 refine callQE (by first | rfl | simp only [WQ, treeCs, Ms.av, Ms.cs]) (keep_ok wf r hr (hA.ext (by exact eA))) ?_
 simp (disch := first | exact dA | fail) only [↓V0, VV, reduceCtorEq, seval, a17, Pl.av_eq, treeCs]
 refine callQ (lengths_st d hd hs) ?_
 simp (disch := first | exact dA | fail) only [↓V0, VV, reduceCtorEq, seval, a17, tup3, hl, hin]
 generalize hσ1 : St.new _ _ = σ1
 have hE1 : Ext σ σ1 := by rw [<- hσ1]; exact eA
 have hn1 : σ1.n = σ.n + 4 := by rw [<- hσ1]; rfl
 have k0 : lk σ1.H σ.n = some (.arr r.cs) := by rw [<- hσ1]; simp (disch := first | exact dA | fail) only [↓V0, VV, reduceCtorEq, seval, a17, Rt.cs]
 have k1 : lk σ1.H (σ.n + 1) = some (.arr [.int .u64 0, .int .i64 0, .int .i64 0, .int .i64 0, .int .i64 0, .vs [] .ex, .vs [] .ex]) := by rw [<- hσ1]; simp (disch := first | exact dA | fail) only [↓V0, VV, reduceCtorEq, seval, a17]
 have k3 : lk σ1.H (σ.n + 1 + 1 + 1) = some (wkB p.a .emp r.pl .ex .no) := by rw [<- hσ1]; simp (disch := first | exact dA | fail) only [↓V0, VV, reduceCtorEq, seval, a17, wkB] <;> rfl
 clear hσ1
 have hll : (d.map Pc.av).length = d.length := List.length_map _
 refine AW.upto hmix (fun i ρ σ' => ρ 0 = .ptr p.a 0 /\ ρ 4 = .ptr σ.n 0 /\ ρ 6 = .ptr (σ.n + 1) 0 /\ ρ 12 = .ptr (σ.n + 1 + 1 + 1) 0 /\ ρ 55 = .vs (d.map Pc.av) .no /\ ρ 56 = .int .i64 (d.length : Nat) /\ ρ 57 = .int .i64 (i : Nat) /\
   ∃ T L, AW1 A r d (d.drop i) T L /\ (∃ t1 t2, lk σ'.H (σ.n + 1 + 1 + 1) = some (wkB p.a T L t1 t2)) /\ σ1.n <= σ'.n /\ ∀ β, β < σ1.n -> β ≠ σ.n + 1 + 1 + 1 -> lk σ'.H β = lk σ1.H β) d.length
  ⟨by exact wA, by exact wA, by exact wA, by exact wA, by exact wA, by (simp only [↓W0, W, reduceCtorEq, seval, hll]; first | done | rfl | omega | simp), by exact wA, .emp, r.pl, ⟨.inl rfl, hpl, by rw [hbm, <- hin, v2]; rfl, by simp [Pl.bytes], rfl, by rw [hpb]; exact hbr⟩, ⟨_, _, k3⟩, Nat.le_refl _, fun _ _ _ => rfl⟩ (fun i ρ σ' hi h => ?_) (fun ρ σ' h => ?_)
 ·obtain ⟨r0, r4, r6, r12, r55, r56, r57, T, L, W, ⟨t1, t2, hw⟩, hn, hf⟩ := h
  have hgi : (d.map Pc.av)[i]? = some d[i].av := by simp [hi]
  have hdi : d.drop i = d[i] :: d.drop (i + 1) := List.drop_eq_getElem_cons hi
  have hvq := v1 _ (List.getElem_mem hi)
  have hvd := sum_nn (d := d.drop (i + 1)) fun x hx => v1 x (List.mem_of_mem_drop hx)
  have hsz := sizes_nn hvq
  obtain ⟨o1, o2, b1, b2, tx, hLb⟩ := W
  rw [hdi] at b1 b2 tx
  simp only [List.map_cons, List.sum_cons] at b1 b2
  generalize d[i] = q at *
  obtain ⟨s1, s2, s3, s4, s5, s6, s7⟩ := stW_spec wf (i := ((d.drop (i + 1)).map fun q => (sizesP q).1).sum) (o := ((d.drop (i + 1)).map fun q => (sizesP q).2).sum) o1 o2 hvq b1 hvd.1 (by omega) hvd.2 hLb
  have hGr : GrX 0 (σ.n + 1 + 1 + 1) σ1 σ' := ⟨hn, fun β hβ => by omega, fun β h1 h2 _ => hf β h1 h2⟩
  have hA' := ((hA.ext hE1).gr (hp _ (by omega)) hGr).ext (σ' := (σ'.new (.arr [.int .u8 0, .int .i64 0, .str []])).set σ'.n (.arr q.cs)) (by exact eA)
  have hpc := piece_ok (p := p) (wb := σ.n + 1 + 1 + 1) (σ := (σ'.new (.arr [.int .u8 0, .int .i64 0, .str []])).set σ'.n (.arr q.cs)) wf T L q o1 o2 hvq s6 hLb s7 (t1 := t1) (t2 := t2) (by rw [lk_set, if_neg (by omega), lk_new, if_neg (by omega)]; exact hw) (by simp only [↓W0, W, reduceCtorEq, seval] <;> omega) (hp _ (by omega)) hA'
  simp only [Pc.av, Pc.cs] at hgi hpc
  simp (disch := first | exact dA | fail) only [↓V0, VV, reduceCtorEq, seval, a17, r0, r4, r6, r12, r55, r56, r57, hgi]
  refine hpc.mono ?_
  rintro v σ3 ⟨rfl, x1, x2, x3⟩
  simp (disch := first | exact dA | fail) only [↓V0, VV, reduceCtorEq, seval, a17, r0, r4, r6, r12, r55, r56, r57]
  refine ⟨rfl, _, _, ⟨s1, s2, s3, by rw [s4]; omega, by rw [s5]; exact tx, by omega⟩, x1, ?_, fun β h1 h2 => ?_⟩
  ·have : σ'.n + 1 <= σ3.n := x2
   omega
  ·rw [x3 β (by simp only [↓W0, W, reduceCtorEq, seval] <;> omega) h2, lk_set, if_neg (by omega), lk_new, if_neg (by omega)]
   exact hf β h1 h2
 ·obtain ⟨r0, r4, r6, r12, r55, r56, r57, T, L, W, ⟨t1, t2, hw⟩, hn, hf⟩ := h
  obtain ⟨o1, o2, b1, b2, tx, hLb⟩ := W
  rw [List.drop_length] at b1 b2 tx
  simp only [apl, List.append_nil] at tx
  simp only [List.map_nil, List.sum_nil] at b1 b2
  have hw' := hw
  simp only [wkB] at hw'
  have k0' := (hf σ.n (by omega) (by omega)).trans k0
  have k1' := (hf (σ.n + 1) (by omega) (by omega)).trans k1
  simp only [Rt.cs] at k0'
  have hGr : GrX 0 (σ.n + 1 + 1 + 1) σ1 σ' := ⟨hn, fun β hβ => by omega, fun β h1 h2 _ => hf β h1 h2⟩
  have hA' := (hA.ext hE1).gr (hp _ (by omega)) hGr
  have hEx : Ext σ σ' := ⟨by omega, fun β hβ => (hf β (by omega) (by omega)).trans (hE1.2 β hβ)⟩
  simp (disch := first | exact dA | fail) only [↓V0, VV, reduceCtorEq, seval, a17, r0, r4, r6, r12, r55, r56, r57, hw', k0']
  have hdr := dropped_ok wf r hr T o1 (by omega) hA'
  simp only [Rt.av, Rt.cs] at hdr
  refine callQE (by first | rfl | simp only [WQ, treeCs, Ms.av, Ms.cs]) (hdr) ?_
  simp (disch := first | exact dA | fail) only [↓V0, VV, reduceCtorEq, seval, a17, r0, r4, r6, r12, hw', k0']
  refine callE (by first | rfl | simp only [WQ, treeCs, Ms.av, Ms.cs]) (write_any g T o1 (by omega) hA') ?_
  rintro v σ3 ⟨r', hs, e, B, rfl, hW, z1, z2⟩
  have z3 := z2.1
  have k1'' := (z2.2 (σ.n + 1) (by omega) (hp _ (by omega))).trans k1'
  have fr3 : FrX p σ σ3 := (FrX.ext hEx).trans z2.x
  have hal := hW.alt
  rcases hal with ⟨rfl, _⟩ | ⟨rfl, _, e2, _⟩
  ·simp (disch := first | exact dA | fail) only [↓V0, VV, reduceCtorEq, seval, a17, Rt.av, Rt.cs, r6, k1'', eq_false (show ¬ σ3.n = σ.n + 1 by omega)]
   refine ⟨B, ⟨r', hs, drp A r T, 0, T, ?_, o1, tx, hW⟩, (z1.ext (σ' := (σ3.new (.arr Rt.z.cs)).set σ3.n (.arr r'.cs)) (by exact eA)).gr (n0 := 0) (b := σ.n + 1) (hp _ (by omega)) (GrX.set (GrX.refl 0 _ _) (Nat.zero_le _) _), FrX.set (FrX.set (FrX.new fr3 _) (.inl (by omega)) _) (.inl (by omega)) _⟩
   simp only [WE, er_uav, List.cons_append, List.nil_append]; rfl
  ·subst e2
   simp (disch := first | exact dA | fail) only [↓V0, VV, reduceCtorEq, seval, a17, Rt.av, Rt.cs, Rt.z, r6, k1'', eq_false (show ¬ σ3.n = σ.n + 1 by omega)]
   refine ⟨B, ⟨Rt.z, [], [], 6, T, ?_, o1, tx, hW⟩, (z1.ext (σ' := (σ3.new (.arr Rt.z.cs)).set σ3.n (.arr Rt.z.cs)) (by exact eA)).gr (n0 := 0) (b := σ.n + 1) (hp _ (by omega)) (GrX.set (GrX.refl 0 _ _) (Nat.zero_le _) _), FrX.set (FrX.set (FrX.new fr3 _) (.inl (by omega)) _) (.inl (by omega)) _⟩
   simp only [WE, er_uav, List.cons_append, List.nil_append]; rfl
end Go.Proofs.YtekhblefchceaaaGreat.AM

/- Contracts: quartolaw16.Pick, laid. -/
set_option maxRecDepth 20000
namespace Go.Proofs.YtekhblefchceaaaGreat.AM
open Go Go.Proofs
variable {σ : St}
theorem anew2_ok (n gens : Nat) (h1 : 1 <= n) (h2 : n <= 16384) (g1 : 1 <= gens) (g2 : gens <= 4294967295) : ACalls Tryz.prog 35 [.int .i64 n, .int .u64 gens] σ (fun v σ' => ∃ p : Pa, v = .tup [.ptr p.a 0, .int .i64 0] /\ ArAt p σ' (newAr n gens) /\ Ext σ σ' /\ ∀ β, p.has β -> σ.n <= β) := by
 refine FOk.calls ok35 (by simp [a35]) (wpc_sound hmix ?_)
 show wpc _ _ _ c35 _ _ _
 simp (disch := first | exact dA | fail) only [↓V0, VV, reduceCtorEq, seval, a35]
 refine (flnew_ok n gens h1 h2 g1 g2).mono ?_
 rintro v σ' ⟨b1, b2, b3, rfl, ⟨f1, f2, f3, f4⟩, hb, hE, hn⟩
 simp (disch := first | exact dA | fail) only [↓V0, VV, reduceCtorEq, seval, a35]
 refine ⟨⟨σ'.n + 1, σ.n + 3, b1, b2, b3, σ'.n⟩, rfl, ⟨by simp only [↓W0, W, reduceCtorEq, seval] <;> rfl, ?_, ?_, ?_, ?_, by simp only [↓W0, W, reduceCtorEq, seval] <;> rfl, ?_, ?_⟩, by exact eA, ?_⟩
 ·simp only [↓W0, W, reduceCtorEq, seval, show (σ'.n + 1 = σ.n + 3) = False from eq_false (by omega), show (σ'.n = σ.n + 3) = False from eq_false (by omega)]; exact f1
 ·simp only [↓W0, W, reduceCtorEq, seval, show (σ'.n + 1 = b1) = False from eq_false (by omega), show (σ'.n = b1) = False from eq_false (by omega)]; rw [f2]; simp [newAr, stk, iav]
 ·simp only [↓W0, W, reduceCtorEq, seval, show (σ'.n + 1 = b2) = False from eq_false (by omega), show (σ'.n = b2) = False from eq_false (by omega)]; rw [f3]; simp [newAr, uav]
 ·simp only [↓W0, W, reduceCtorEq, seval, show (σ'.n + 1 = b3) = False from eq_false (by omega), show (σ'.n = b3) = False from eq_false (by omega)]; rw [f4]; simp [newAr, uav]
 ·simp only [Pa.ok]; omega
 ·simp only [Pa.lt, new_n]; omega
 ·rintro β (e | e | e | e | e | e) <;> simp only at e <;> omega
theorem newAr_good (n gens : Nat) (h1 : 1 <= n) (h2 : n <= 16384) : (newAr n gens).Good where
 ok := newAr_ok n gens h1 h2
 wf := fun h x e => by simp [newAr, Ar.get] at e
 fl := fun h x e => by simp [newAr, Ar.get] at e
 nd := by
  have h : ((List.range n).map fun j => n - 1 - j).Nodup := by
   rw [List.nodup_iff_pairwise_ne, List.pairwise_map]
   refine List.Pairwise.imp_of_mem ?_ List.pairwise_lt_range
   intro a b ha hb hab
   rw [List.mem_range] at ha hb
   omega
  exact h.sublist (List.take_sublist _ _)
noncomputable def pk (w : Int) (n : Nat) : Nat := (wr .u64 w).toNat % (n + 1)
theorem pk_le (w : Int) (n : Nat) : pk w n <= n := Nat.le_of_lt_succ (Nat.mod_lt _ (Nat.succ_pos n))
theorem pick45_ok (w : Int) (n : Nat) (hn : n <= 1000000) : ACalls Tryz.prog 45 [.int .i64 w, .int .i64 (n : Nat)] σ (fun v σ' => v = .int .i64 (pk w n : Nat) /\ σ' = σ) := by
 refine ACalls.quietX ?_ rfl
 obtain ⟨u, hu⟩ : ∃ u : Nat, wr .u64 w = (u : Nat) := by
  have : 0 <= wr .u64 w := by
   rw [<- wr_eq]
   show 0 <= w % (2 ^ 64 : Int)
   exact Int.emod_nonneg _ (by decide)
  exact ⟨(wr .u64 w).toNat, by omega⟩
 have hp : pk w n = u % (n + 1) := by unfold pk; rw [hu]; rfl
 have hm : ((u : Nat) : Int).tmod ((n : Nat) + 1) = ((u % (n + 1) : Nat) : Int) := (Int.ofNat_tmod u (n + 1)).symm
 have hk : u % (n + 1) <= n := Nat.le_of_lt_succ (Nat.mod_lt u (Nat.succ_pos n))
 refine FOk.calls ok45 (by simp [a45]) (wpc_sound hmix ?_)
 show wpc _ _ _ c45 _ _ _
 simp (disch := first | exact dA | fail) only [↓V0, VV, reduceCtorEq, seval, a45, hu]
 simp (disch := first | exact dA | fail) only [↓V0, VV, reduceCtorEq, seval, a45, hu, bin_rem, hm]
 exact ⟨by simp only [WE, hp], Ext.refl _⟩
theorem pick_ok (w : Int) (n : Nat) (hn : n <= 1000000) : ACalls Tryz.prog 10 [.int .i64 w, .int .i64 (n : Nat)] σ (fun v σ' => v = .int .i64 (pk w n : Nat) /\ σ' = σ) := by
 refine ACalls.quietX ?_ rfl
 refine FOk.calls ok10 (by simp [a10]) (wpc_sound hmix ?_)
 show wpc _ _ _ c10 _ _ _
 simp (disch := first | exact dA | fail) only [↓V0, VV, reduceCtorEq, seval, a10]
 refine callQ (pick45_ok w n hn) ?_
 simp (disch := first | exact dA | fail) only [↓V0, VV, reduceCtorEq, seval, a10]
 exact ⟨by simp only [WE], Ext.refl _⟩
def RtsOk (A : Ar) (rs : List Rt) (ts : List (List UInt8)) : Prop := rs.length = ts.length /\ ∀ i, i < rs.length -> RtOk A (rs.getD i Rt.z) /\ (rs.getD i Rt.z).txt A = ts.getD i []
theorem RtsOk.mono {A B : Ar} (wf : A.WF) (hs : A.sub B) {rs : List Rt} {ts : List (List UInt8)} (h : RtsOk A rs ts) : RtsOk B rs ts :=
 ⟨h.1, fun i hi => ⟨(h.2 i hi).1.mono hs, (Rt.txt_mono wf hs (h.2 i hi).1).trans (h.2 i hi).2⟩⟩
theorem RtsOk.snoc {A : Ar} {rs : List Rt} {ts : List (List UInt8)} {r : Rt} {t : List UInt8} (h : RtsOk A rs ts) (hr : RtOk A r) (ht : r.txt A = t) : RtsOk A (rs ++ [r]) (ts ++ [t]) := by
 refine ⟨by simp [h.1], fun i hi => ?_⟩
 rw [List.length_append, List.length_singleton] at hi
 by_cases h2 : i < rs.length
 ·have e1 : (rs ++ [r]).getD i Rt.z = rs.getD i Rt.z := by simp [List.getD_eq_getElem?_getD, List.getElem?_append_left h2]
  have e2 : (ts ++ [t]).getD i [] = ts.getD i [] := by simp [List.getD_eq_getElem?_getD, List.getElem?_append_left (show i < ts.length by rw [<- h.1]; exact h2)]
  rw [e1, e2]; exact h.2 i h2
 ·have e : i = rs.length := by omega
  have e1 : (rs ++ [r]).getD i Rt.z = r := by rw [e]; simp
  have e2 : (ts ++ [t]).getD i [] = t := by rw [e, h.1]; simp
  rw [e1, e2]; exact ⟨hr, ht⟩
theorem fit_rts (l : List Rt) : fitSz 5 (l.map Rt.av) = true := fit_all fun x hx => by
 obtain ⟨y, _, rfl⟩ := List.mem_map.1 hx
 exact ⟨rfl, rfl⟩
theorem er_rts (l : List Rt) : (l.map Rt.av).map AV.er = l.map Rt.av := by simp [Rt.av, Rt.cs, Function.comp_def, WE]
structure LdJ (p : Pa) (ts : List (List UInt8)) (kk : Nat) (A : Ar) (rs : List Rt) : Prop where
 g : A.Good
 r : RtsOk A rs ts
 k : kk <= A.k
theorem ArAt.notok {p : Pa} {A : Ar} (h : ArAt p σ A) {τ : Nat} (ht : lk σ.H τ = some .tok) : ¬ p.has τ := by
 rintro (e | e | e | e | e | e) <;> subst e
 ·rw [h.ba] at ht; cases ht
 ·rw [h.bl] at ht; cases ht
 ·rw [h.b1] at ht; cases ht
 ·rw [h.b2] at ht; cases ht
 ·rw [h.b3] at ht; cases ht
 ·rw [h.bm] at ht; cases ht
theorem Own.fr {p : Pa} {A : Ar} {σ0 σ' : St} {t : Tok} (h : Own σ0 σ t) (hA : ArAt p σ A) (hp : ∀ β, p.has β -> σ0.n <= β) (hf : Fr p σ σ') : Own σ0 σ' t := by
 have hn := hf.1
 refine ⟨tokok_mono h.1 (by omega) fun τ e => ?_, ⟨by have := h.2.1; omega, fun β hβ => (hf.2 β (by have := h.2.1; omega) fun hh => by have := hp β hh; omega).trans (h.2.2 β hβ)⟩⟩
 subst e
 rw [hf.2 τ h.1.2.1 (hA.notok h.1.2.2)]
 exact h.1.2.2
theorem Own.ext2 {σ0 σ' : St} {t : Tok} (h : Own σ0 σ t) (hE : Ext σ σ') : Own σ0 σ' t := ⟨h.1.ext hE, h.2.trans hE⟩
theorem ArAt.rt {p : Pa} {A : Ar} {n0 : Nat} {t : Tok} (h : ArAt p σ A) (ht : TokOk n0 σ t) (hn : n0 <= σ.n) : ArAt p (σ.rt t) A :=
 h.gr (n0 := n0) (b := σ.n) (fun hh => by have := h.lt; obtain ⟨q1, q2, q3, q4, q5, q6⟩ := this; rcases hh with e | e | e | e | e | e <;> omega) (GrX.rt ht hn)
theorem sum_take_lt (l : List Nat) (i : Nat) (hi : i < l.length) : (l.take i).sum + l[i] <= l.sum := by
 have e := congrArg List.sum (List.take_append_drop (i + 1) l)
 rw [List.take_succ_eq_append_getElem hi, List.sum_append, List.sum_append] at e
 simp only [List.sum_cons, List.sum_nil] at e
 omega
theorem laid_ok (ts : List (List UInt8)) (hl : ts.length <= 4) (hb : (ts.map List.length).sum <= 900) (t0 : Tok) : ACalls Tryz.prog 41 [.vs (sav ts) t0] σ (fun v σ' => ∃ (p : Pa) (A : Ar) (rs : List Rt) (tk : Tok), v = .tup [.ptr p.a 0, .vs (rs.map Rt.av) tk, .bool true] /\ A.Good /\ RtsOk A rs ts /\ ArAt p σ' A /\ Own σ σ' tk /\ ∀ β, p.has β -> σ.n <= β) := by
 refine FOk.calls ok41 (by simp [a41]) (wpc_sound hmix ?_)
 show wpc _ _ _ c41 _ _ _
 simp (disch := first | exact dA | fail) only [↓V0, VV, reduceCtorEq, seval, a41]
 refine (anew2_ok 1500 3 (by decide) (by decide) (by decide) (by decide)).mono ?_
 rintro v σ1 ⟨p, rfl, hA1, hE1, hp1⟩
 have hg := newAr_good 1500 3 (by decide) (by decide)
 simp (disch := first | exact dA | fail) only [↓V0, VV, reduceCtorEq, seval, a41]
 have hls : (sav ts).length = ts.length := by simp [sav]
 refine AW.upto hmix (fun i ρ σ' => ρ 0 = .vs (sav ts) t0 /\ ρ 5 = .ptr p.a 0 /\ ρ 8 = .int .i64 (i : Nat) /\ ∃ A rs t, ρ 7 = .vs (rs.map Rt.av) t /\ Own σ σ' t /\ A.Good /\ RtsOk A rs (ts.take i) /\ ArAt p σ' A /\ 1500 <= A.k + ((ts.map List.length).take i).sum) ts.length
  ⟨by exact wA, by exact wA, by exact wA, newAr 1500 3, [], .ex, by exact wA, .ex hE1, hg, ⟨rfl, fun i hi => by simp at hi⟩, hA1, by simp [newAr]⟩ (fun i ρ σ' hi h => ?_) (fun ρ σ' h => ?_)
 ·obtain ⟨r0, r5, r8, A, rs, t, r7, hO, hG, hR, hA, hk⟩ := h
  have hgi : (sav ts)[i]? = some (.str ts[i]) := by simp [sav, hi]
  have hs1 := sum_take_lt (ts.map List.length) i (by rw [List.length_map]; exact hi)
  rw [List.getElem_map] at hs1
  have hs2 : ((ts.map List.length).take (i + 1)).sum = ((ts.map List.length).take i).sum + ts[i].length := by rw [List.take_succ_eq_append_getElem (by rw [List.length_map]; exact hi)]; simp
  have htk : ts.take (i + 1) = ts.take i ++ [ts[i]] := List.take_succ_eq_append_getElem hi
  have hrl := hR.1
  rw [List.length_take] at hrl
  generalize ts[i] = s at *
  simp (disch := first | exact dA | fail) only [↓V0, VV, reduceCtorEq, seval, a41, r0, r5, r8, hgi, hls]
  refine (rnew_ok hG s (by omega) (by omega) hA).mono ?_
  rintro v σ2 ⟨B, ⟨r, rfl, b1, b2, b3, b4, b5⟩, b6, b7⟩
  have hO2 := (hO.fr hA hp1 b7).ext2 (σ' := (σ2.new (.arr Rt.z.cs)).set σ2.n (.arr r.cs)) (by exact eA)
  have hA2 := b6.ext (σ' := (σ2.new (.arr Rt.z.cs)).set σ2.n (.arr r.cs)) (by exact eA)
  have hv2 : lk ((σ2.new (.arr Rt.z.cs)).set σ2.n (.arr r.cs)).H σ2.n = some (.arr r.cs) := by simp [lk_set, lk_new]
  have hfr := fit_rts rs
  have hlr : (rs.map Rt.av).length = rs.length := List.length_map _
  have htg := hO2.ok.g
  have he1 : (rs ++ [r]).map Rt.av = rs.map Rt.av ++ [r.av] := by simp
  have hA3 := hA2.rt hO2.ok hO2.ext.1
  have hO3 := hO2.app
  simp only [Rt.cs, Rt.z, Ms.z] at hv2 htg hA3 hO3
  simp (disch := first | exact dA | fail) only [↓V0, VV, reduceCtorEq, seval, a41, r0, r5, r7, r8, Rt.av, Rt.cs, ↓eval_app, appA_S, appA_M]
  exact ⟨rfl, B, rs ++ [r], _, by rw [he1]; rfl, hO3, b1, by rw [htk]; exact (hR.mono hG.wf b2).snoc b3 b4, hA3, by omega⟩
 ·obtain ⟨r0, r5, r8, A, rs, t, r7, hO, hG, hR, hA, hk⟩ := h
  rw [List.take_of_length_le (Nat.le_refl _)] at hR
  simp (disch := first | exact dA | fail) only [↓V0, VV, reduceCtorEq, seval, a41, r0, r5, r7, r8, hls]
  exact ⟨p, A, rs, t, rfl, hG, hR, hA, hO, hp1⟩
end Go.Proofs.YtekhblefchceaaaGreat.AM

