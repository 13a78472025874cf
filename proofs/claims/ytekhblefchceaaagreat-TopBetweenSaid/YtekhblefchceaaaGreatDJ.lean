/- Joined: D32, D33, D34, D35. -/
import Derived.Test.YtekhblefchceaaaGreatDI
set_option linter.unusedVariables false
set_option linter.unusedSimpArgs false
/- Contracts: patch.Between. -/
set_option maxRecDepth 20000
namespace Go.Proofs.YtekhblefchceaaaGreat.AM
open Go Go.Proofs
variable {σ : St}
def cpre : List (Nat × List UInt8) -> List (Nat × List UInt8) -> Nat
 | a :: X, b :: Y => if a.1 = b.1 then cpre X Y + 1 else 0
 | _, _ => 0
def csuf (X Y : List (Nat × List UInt8)) : Nat := cpre X.reverse Y.reverse
def ftx (X : List (Nat × List UInt8)) : List UInt8 := (X.map (·.2)).flatten
def pc1 (p : Pc) : List Pc := if 0 < p.n \/ p.tx ≠ [] then [p] else []
def btwT (X Y : List (Nat × List UInt8)) (k j : Nat) : List Pc := pc1 ⟨1, (ftx (X.take k)).length, []⟩ ++ pc1 ⟨2, 0, ftx ((Y.drop k).take ((Y.drop k).length - j))⟩ ++ pc1 ⟨3, (ftx ((X.drop k).take ((X.drop k).length - j))).length, []⟩ ++ pc1 ⟨1, (ftx ((X.drop k).drop ((X.drop k).length - j))).length, []⟩
def btw (X Y : List (Nat × List UInt8)) : List Pc := btwT X Y (cpre X Y) (csuf (X.drop (cpre X Y)) (Y.drop (cpre X Y)))
theorem fit_pcs (l : List Pc) : fitSz 3 (l.map Pc.av) = true := fit_all fun x hx => by
 obtain ⟨y, _, rfl⟩ := List.mem_map.1 hx
 exact ⟨rfl, rfl⟩
theorem pput_ok {n0 b : Nat} {l : List Pc} (k n : Nat) (s : List UInt8) (h : LstB n0 b (l.map Pc.av) σ) (hb : b < σ.n) (hn0 : n0 <= b) (hl : l.length <= 1000) :
  ACalls Tryz.prog 47 [.int .u8 (k : Nat), .int .i64 (n : Nat), .str s, .ptr b 0] σ (fun _ σ' => LstB n0 b ((l ++ pc1 ⟨k, n, s⟩).map Pc.av) σ' /\ GrX n0 b σ σ') := by
 obtain ⟨t, a1, a2⟩ := h
 have hll : (l.map Pc.av).length = l.length := List.length_map _
 have hfp := fit_pcs l
 by_cases hq : 0 < n \/ s ≠ []
 ·have hpc : pc1 ⟨k, n, s⟩ = [⟨k, n, s⟩] := if_pos (by simpa using hq)
  rw [hpc, List.map_append]
  obtain ⟨c1, c2, c3, c4⟩ := lst_app [.agg [.int .u8 (k : Nat), .int .i64 (n : Nat), .str s]] a1 a2 hb hn0
  by_cases h0 : 0 < n
  ·refine FOk.calls ok47 (by simp [a47]) (wpc_sound hmix ?_)
   show wpc _ _ _ c47 _ _ _
   simp (disch := first | exact dA | fail) only [↓V0, VV, reduceCtorEq, seval, a47, show ((0 : Int) < (n : Int)) = True from eq_true (by omega)]
   simp (disch := first | exact dA | fail) only [↓V0, VV, reduceCtorEq, seval, a47, a1, c2, ↓eval_app, appA_S, appA_M]
   exact ⟨c3, c4⟩
  ·have hn : n = 0 := by omega
   subst hn
   have hs : (s == []) = false := beq_nil_f (by
    cases s with
    | nil => simp at hq
    | cons a s => simp)
   refine FOk.calls ok47 (by simp [a47]) (wpc_sound hmix ?_)
   show wpc _ _ _ c47 _ _ _
   simp (disch := first | exact dA | fail) only [↓V0, VV, reduceCtorEq, seval, a47, hs]
   simp (disch := first | exact dA | fail) only [↓V0, VV, reduceCtorEq, seval, a47, a1, c2, ↓eval_app, appA_S, appA_M]
   exact ⟨c3, c4⟩
 ·have hpc : pc1 ⟨k, n, s⟩ = [] := if_neg (by simpa using hq)
  rw [hpc, List.append_nil]
  have hn : n = 0 := by omega
  have hs : s = [] := Decidable.byContradiction fun h => hq (.inr h)
  subst hn hs
  refine FOk.calls ok47 (by simp [a47]) (wpc_sound hmix ?_)
  show wpc _ _ _ c47 _ _ _
  simp (disch := first | exact dA | fail) only [↓V0, VV, reduceCtorEq, seval, a47]
  exact ⟨⟨t, a1, a2⟩, GrX.refl _ _ _⟩
theorem rtxt_len {A : Ar} (wf : A.WF) {r : Rt} (hr : RtOk A r) : (r.txt A).length <= 65536 := by
 rw [<- (rt_bytes wf hr).1]
 rcases hr with rfl | ⟨x, x1, x2, x3⟩
 ·simp [Rt.pl, Rt.z, Pl.bytes]
 ·have := (wf _ _ x1).1.pos
  have := (wf _ _ x1).2.2.1
  rw [Rt.pl, if_neg (by omega)]
  show r.m.b <= 65536
  rw [<- x3]; exact this
theorem between_ok {p : Pa} {A : Ar} (wf : A.WF) (r r' : Rt) (hr : RtOk A r) (hr' : RtOk A r') (hA : ArAt p σ A) : ACalls Tryz.prog 11 [.ptr p.a 0, r.av, r'.av] σ (fun v σ' => v = .tup [.vs ((btw (prs A r) (prs A r')).map Pc.av) .no, .int .i64 0] /\ σ' = σ) := by
 refine ACalls.quietX ?_ (by simp only [AV.pur, purL, pur_pcs, Tok.pur, Bool.and_self])
 have hx1 := prs_len wf hr
 have hb1 : (ftx (prs A r)).length <= 65536 := by unfold ftx; rw [prs_txt wf hr]; exact rtxt_len wf hr
 have hb2 : (ftx (prs A r')).length <= 65536 := by unfold ftx; rw [prs_txt wf hr']; exact rtxt_len wf hr'
 have hx2 := prs_len wf hr'
 refine FOk.calls ok11 (by simp [a11]) (wpc_sound hmix ?_)
 show wpc _ _ _ c11 _ _ _
 simp (disch := first | exact dA | fail) only [↓V0, VV, reduceCtorEq, seval, a11, Rt.av, Rt.cs]
 refine callQE (by first | rfl | simp only [WQ, treeCs, Ms.av, Ms.cs]) (pboth_ok wf r r' hr hr' (hA.ext (by exact eA))) ?_
 generalize prs A r = X0 at *
 generalize prs A r' = Y0 at *
 simp (disch := first | exact dA | fail) only [↓V0, VV, reduceCtorEq, seval, a11]
 refine AW.lp hmix (fun k ρ σ' => ∃ Px Py X Y, X0 = Px ++ X /\ Y0 = Py ++ Y /\ Px.length = Py.length /\ k = X.length /\ ρ 8 = .vs (X.map pav) .no /\ ρ 9 = .vs (Y.map pav) .no /\ ρ 11 = .int .i64 ((ftx Px).length : Nat) /\ ρ 12 = .int .i64 0 /\ Px.length + cpre X Y = cpre X0 Y0 /\ Ext σ σ') X0.length
  ⟨[], [], X0, Y0, rfl, rfl, rfl, rfl, by exact wA, by exact wA, by exact wA, by exact wA, by simp, by exact eA⟩ ?_
 rintro k ρ σ' ⟨Px, Py, X, Y, eX, eY, hP, rfl, r8, r9, r11, r12, hc, hE⟩
 have next : cpre X Y = 0 -> ∀ (ρ : Env) (σ' : St), ρ 8 = .vs (X.map pav) .no -> ρ 9 = .vs (Y.map pav) .no -> ρ 11 = .int .i64 ((ftx Px).length : Nat) -> ρ 12 = .int .i64 0 -> Ext σ σ' -> AW Tryz.prog none 118 l11_12.loop (inBl 2 (kS Tryz.prog none 118
     ((ACode.rg r11_11).seq ((ACode.rg r11_12).seq ((ACode.rg r11_13).seq ((ACode.rg r11_14).seq ((ACode.rg r11_15).seq ((ACode.rg r11_16).seq ((ACode.rg r11_17).seq ACode.ret))))))) (FPost [RV.tmp 6, RV.tmp 7] fun v σ' => v.er = AV.tup [AV.vs (List.map Pc.av (btw X0 Y0)) Tok.no, AV.int IntKind.i64 0] /\ Ext σ σ'))) ρ σ' := by
  intro h0 ρ σ1 r8 r9 r11 r12 hE1
  clear hE
  have hcX : Px = X0.take (cpre X0 Y0) /\ X = X0.drop (cpre X0 Y0) /\ Y = Y0.drop (cpre X0 Y0) := by
   rw [h0, Nat.add_zero] at hc
   exact ⟨by rw [<- hc, eX, List.take_left], by rw [<- hc, eX, List.drop_left], by rw [<- hc, eY, hP, List.drop_left]⟩
  generalize hR : ((ACode.rg r11_11).seq ((ACode.rg r11_12).seq ((ACode.rg r11_13).seq ((ACode.rg r11_14).seq ((ACode.rg r11_15).seq ((ACode.rg r11_16).seq ((ACode.rg r11_17).seq ACode.ret))))))) = R
  refine AW.lp hmix (fun k ρ σ' => ∃ X1 Y1 S T, X = X1 ++ S /\ Y = Y1 ++ T /\ S.length = T.length /\ k = X1.length /\ ρ 8 = .vs (X1.map pav) .no /\ ρ 9 = .vs (Y1.map pav) .no /\ ρ 11 = .int .i64 ((ftx Px).length : Nat) /\ ρ 12 = .int .i64 ((ftx S).length : Nat) /\ S.length + csuf X1 Y1 = csuf X Y /\ Ext σ σ') X.length
   ⟨X, Y, [], [], by simp, by simp, rfl, rfl, r8, r9, r11, r12, by simp, hE1⟩ ?_
  rintro k ρ σ' ⟨X1, Y1, S, T, eX1, eY1, hS, rfl, r8, r9, r11, r12, hc1, hE⟩
  have fin : csuf X1 Y1 = 0 -> ∀ (ρ : Env), ρ 8 = .vs (X1.map pav) .no -> ρ 9 = .vs (Y1.map pav) .no -> ρ 11 = .int .i64 ((ftx Px).length : Nat) -> ρ 12 = .int .i64 ((ftx S).length : Nat) -> wpc Tryz.prog none 118 R (FPost [RV.tmp 6, RV.tmp 7] fun v σ' => v.er = AV.tup [AV.vs (List.map Pc.av (btw X0 Y0)) Tok.no, AV.int IntKind.i64 0] /\ Ext σ σ') ρ σ' := by
   intro h1 ρ r8 r9 r11 r12
   subst hR
   have hbX : ((X1.map (·.2)).flatten).length <= 65536 := by
    have : (ftx X1).length <= (ftx X0).length := by rw [eX, eX1]; simp [ftx]; omega
    unfold ftx at this hb1; omega
   have hbY : ((Y1.map (·.2)).flatten).length <= 65536 := by
    have : (ftx Y1).length <= (ftx Y0).length := by rw [eY, eY1]; simp [ftx]; omega
    unfold ftx at this hb2; omega
   have hlX : X1.length <= 131072 := by rw [eX, eX1] at hx1; simp at hx1; omega
   have hlY : Y1.length <= 131072 := by rw [eY, eY1] at hx2; simp at hx2; omega
   simp (disch := first | exact dA | fail) only [↓V0, VV, reduceCtorEq, seval, a11, r11]
   have hL0 : LstB σ.n σ'.n (([] : List Pc).map Pc.av) (σ'.new (.arr [.vs [] .ex])) := ⟨.ex, by rw [lk_new, if_pos rfl]; rfl, trivial⟩
   have hE2 : Ext σ (σ'.new (.arr [.vs [] .ex])) := hE.newer _
   have hn2 : (σ'.new (.arr [.vs [] .ex])).n = σ'.n + 1 := rfl
   have hnn := hE.1
   generalize σ'.new _ = σ2 at *
   refine (pput_ok 1 (ftx Px).length [] hL0 (by omega) (by omega) (by simp)).mono ?_
   rintro v σ3 ⟨L3, G3⟩
   have n3 := G3.1
   simp (disch := first | exact dA | fail) only [↓V0, VV, reduceCtorEq, seval, a11, r9]
   refine callQ (join_ok Y1 (by omega) (by omega) .no _) ?_
   simp (disch := first | exact dA | fail) only [↓V0, VV, reduceCtorEq, seval, a11]
   refine (pput_ok 2 0 (Y1.map (·.2)).flatten L3 (by omega) (by omega) (by simp [pc1]; split <;> simp)).mono ?_
   rintro v σ4 ⟨L4, G4⟩
   have n4 := G4.1
   simp (disch := first | exact dA | fail) only [↓V0, VV, reduceCtorEq, seval, a11, r8]
   refine callQ (join_ok X1 (by omega) (by omega) .no _) ?_
   simp (disch := first | exact dA | fail) only [↓V0, VV, reduceCtorEq, seval, a11]
   have pl : ∀ q : Pc, (pc1 q).length <= 1 := fun q => by unfold pc1; split <;> simp
   have p1 := pl ⟨1, (ftx Px).length, []⟩
   have p2 := pl ⟨2, 0, (Y1.map (·.2)).flatten⟩
   have p3 := pl ⟨3, (X1.map (·.2)).flatten.length, []⟩
   refine (pput_ok 3 (X1.map (·.2)).flatten.length [] L4 (by omega) (by omega) (by simp only [List.nil_append, List.length_append]; exact Nat.le_trans (Nat.add_le_add p1 p2) (by decide))).mono ?_
   rintro v σ5 ⟨L5, G5⟩
   have n5 := G5.1
   simp (disch := first | exact dA | fail) only [↓V0, VV, reduceCtorEq, seval, a11, r12]
   refine (pput_ok 1 (ftx S).length [] L5 (by omega) (by omega) (by simp only [List.nil_append, List.length_append]; exact Nat.le_trans (Nat.add_le_add (Nat.add_le_add p1 p2) p3) (by decide))).mono ?_
   rintro v σ6 ⟨⟨tk, t1, t2⟩, G6⟩
   have hbt : ([] : List Pc) ++ pc1 ⟨1, (ftx Px).length, []⟩ ++ pc1 ⟨2, 0, (Y1.map (·.2)).flatten⟩ ++ pc1 ⟨3, (X1.map (·.2)).flatten.length, []⟩ ++ pc1 ⟨1, (ftx S).length, []⟩ = btw X0 Y0 := by
    obtain ⟨c1, c2, c3⟩ := hcX
    rw [h1, Nat.add_zero] at hc1
    have d1 : X.take (X.length - S.length) = X1 := by rw [eX1]; simp
    have d2 : X.drop (X.length - S.length) = S := by rw [eX1]; simp
    have d3 : Y.take (Y.length - S.length) = Y1 := by rw [eY1, hS]; simp
    unfold btw btwT
    rw [<- c1, <- c2, <- c3, <- hc1, d1, d2, d3]
    rfl
   rw [show ((1 : Nat) : Int) = 1 from rfl, show ((2 : Nat) : Int) = 2 from rfl, show ((3 : Nat) : Int) = 3 from rfl, show ((0 : Nat) : Int) = 0 from rfl, hbt] at t1
   simp (disch := first | exact dA | fail) only [↓V0, VV, reduceCtorEq, seval, a11, t1]
   have hlo : Ext σ σ6 := Lo.toExt (((G3.lo.trans G4.lo).trans G5.lo).trans G6.lo) hE2
   exact ⟨by simp only [er_tup, List.map_cons, List.map_nil, er_pcs, er_int], hlo⟩
  clear hR
  rcases List.eq_nil_or_concat X1 with rfl | ⟨XA, a, rfl⟩
  ·simp (disch := first | exact dA | fail) only [↓V0, VV, reduceCtorEq, seval, a11, r8, r9]
   exact fin rfl _ (by (simp only [↓W0, W, reduceCtorEq, seval, r8]; first | done | rfl | omega | simp)) (by (simp only [↓W0, W, reduceCtorEq, seval, r9]; first | done | rfl | omega | simp)) (by (simp only [↓W0, W, reduceCtorEq, seval, r11]; first | done | rfl | omega | simp)) (by (simp only [↓W0, W, reduceCtorEq, seval, r12]; first | done | rfl | omega | simp))
  ·obtain ⟨h1, x1⟩ := a
   rw [List.concat_eq_append] at *
   have lx : ((XA ++ [(h1, x1)]).map pav).length = XA.length + 1 := by simp
   have gx : ((XA ++ [(h1, x1)]).map pav)[XA.length]? = some (.agg [.int .u64 h1, .str x1]) := by simp [pav]
   have tx : ((XA ++ [(h1, x1)]).map pav).take XA.length = XA.map pav := by simp
   have fx := fit_pav (XA ++ [(h1, x1)])
   rcases List.eq_nil_or_concat Y1 with rfl | ⟨YA, b, rfl⟩
   ·have hc0 : csuf (XA ++ [(h1, x1)]) [] = 0 := by unfold csuf; rw [List.reverse_append]; rfl
    generalize hLX : (XA ++ [(h1, x1)]).map pav = LX at *
    simp (disch := first | exact dA | fail) only [↓V0, VV, reduceCtorEq, seval, a11, r8, r9, show ((0 : Int) < (LX.length : Nat)) = True from eq_true (by omega)]
    exact fin hc0 _ (by (simp only [↓W0, W, reduceCtorEq, seval, r8]; first | done | rfl | omega | simp)) (by (simp only [↓W0, W, reduceCtorEq, seval, r9]; first | done | rfl | omega | simp)) (by (simp only [↓W0, W, reduceCtorEq, seval, r11]; first | done | rfl | omega | simp)) (by (simp only [↓W0, W, reduceCtorEq, seval, r12]; first | done | rfl | omega | simp))
   ·obtain ⟨h2, x2⟩ := b
    rw [List.concat_eq_append] at *
    have ly : ((YA ++ [(h2, x2)]).map pav).length = YA.length + 1 := by simp
    have gy : ((YA ++ [(h2, x2)]).map pav)[YA.length]? = some (.agg [.int .u64 h2, .str x2]) := by simp [pav]
    have ty : ((YA ++ [(h2, x2)]).map pav).take YA.length = YA.map pav := by simp
    have fy := fit_pav (YA ++ [(h2, x2)])
    generalize hLX : (XA ++ [(h1, x1)]).map pav = LX at *
    generalize hLY : (YA ++ [(h2, x2)]).map pav = LY at *
    have hl1 : XA.length < 131072 := by rw [eX, eX1] at hx1; simp at hx1; omega
    have hl2 : YA.length < 131072 := by rw [eY, eY1] at hx2; simp at hx2; omega
    have lx0 : ((0 : Int) < (LX.length : Nat)) = True := eq_true (by omega)
    have ly0 : ((0 : Int) < (LY.length : Nat)) = True := eq_true (by omega)
    have lx1 : ((LX.length : Nat) : Int) - 1 = (XA.length : Nat) := by omega
    have ly1 : ((LY.length : Nat) : Int) - 1 = (YA.length : Nat) := by omega
    by_cases hh : h1 = h2
    ·subst hh
     have e1 : (ftx ((h1, x1) :: S)).length = x1.length + (ftx S).length := by simp [ftx]
     have e2 : x1.length + (ftx S).length <= (ftx X0).length := by rw [eX, eX1]; simp [ftx]; omega
     simp (disch := first | exact dA | fail) only [↓V0, VV, reduceCtorEq, seval, a11, r8, r9, r12, lx0, ly0, lx1, ly1, gx, gy, tx, ty, fx, fy, ite_self]
     exact ⟨XA.length, by simp, XA, YA, (h1, x1) :: S, (h1, x2) :: T, by simp [eX1], by simp [eY1], by simp [hS], rfl, rfl, rfl, r11, by rw [e1]; congr 1; omega, by
      rw [<- hc1, csuf, csuf, List.reverse_append, List.reverse_append]
      simp only [List.reverse_cons, List.reverse_nil, List.nil_append, List.cons_append, cpre, if_true, List.length_cons]; omega, hE⟩
    ·have hc0 : csuf (XA ++ [(h1, x1)]) (YA ++ [(h2, x2)]) = 0 := by
      rw [csuf, List.reverse_append, List.reverse_append]
      exact if_neg hh
     simp (disch := first | exact dA | fail) only [↓V0, VV, reduceCtorEq, seval, a11, r8, r9, r12, lx0, ly0, lx1, ly1, gx, gy, tx, ty, fx, fy, ite_self, eq_false (show ¬ (h1 : Int) = (h2 : Int) by omega)]
     exact fin hc0 _ (by (simp only [↓W0, W, reduceCtorEq, seval, r8]; first | done | rfl | omega | simp)) (by (simp only [↓W0, W, reduceCtorEq, seval, r9]; first | done | rfl | omega | simp)) (by (simp only [↓W0, W, reduceCtorEq, seval, r11]; first | done | rfl | omega | simp)) (by (simp only [↓W0, W, reduceCtorEq, seval, r12]; first | done | rfl | omega | simp))
 have htk : ∀ (a : AV) (X : List (Nat × List UInt8)), (a :: X.map pav).take (X.length + 1) = a :: X.map pav := fun a X => List.take_of_length_le (by simp)
 cases X with
 | nil =>
  simp (disch := first | exact dA | fail) only [↓V0, VV, reduceCtorEq, seval, a11, r8, r9]
  exact next rfl _ _ (by (simp only [↓W0, W, reduceCtorEq, seval, r8]; first | done | rfl | omega | simp)) (by (simp only [↓W0, W, reduceCtorEq, seval, r9]; first | done | rfl | omega | simp)) (by (simp only [↓W0, W, reduceCtorEq, seval, r11]; first | done | rfl | omega | simp)) (by (simp only [↓W0, W, reduceCtorEq, seval, r12]; first | done | rfl | omega | simp)) hE
 | cons a X =>
  cases Y with
  | nil =>
   simp (disch := first | exact dA | fail) only [↓V0, VV, reduceCtorEq, seval, a11, r8, r9]
   exact next rfl _ _ (by (simp only [↓W0, W, reduceCtorEq, seval, r8]; first | done | rfl | omega | simp)) (by (simp only [↓W0, W, reduceCtorEq, seval, r9]; first | done | rfl | omega | simp)) (by (simp only [↓W0, W, reduceCtorEq, seval, r11]; first | done | rfl | omega | simp)) (by (simp only [↓W0, W, reduceCtorEq, seval, r12]; first | done | rfl | omega | simp)) hE
  | cons b Y =>
   obtain ⟨h1, x1⟩ := a
   obtain ⟨h2, x2⟩ := b
   by_cases hh : h1 = h2
   ·subst hh
    have hfx : fitSz 2 (.agg [.int .u64 h1, .str x1] :: X.map pav) = true := fit_pav ((h1, x1) :: X)
    have hfy : fitSz 2 (.agg [.int .u64 h1, .str x2] :: Y.map pav) = true := fit_pav ((h1, x2) :: Y)
    have e1 : (ftx (Px ++ [(h1, x1)])).length = (ftx Px).length + x1.length := by simp [ftx]
    have e2 : (ftx Px).length + x1.length <= (ftx X0).length := by rw [eX]; simp [ftx]
    simp (disch := first | exact dA | fail) only [↓V0, VV, reduceCtorEq, seval, a11, r8, r9, r11, pav, htk, hfx, hfy, ite_self]
    refine ⟨X.length, by omega, Px ++ [(h1, x1)], Py ++ [(h1, x2)], X, Y, by simp [eX], by simp [eY], by simp [hP], rfl, rfl, rfl, by rw [e1]; rfl, r12, by rw [<- hc, cpre, if_pos rfl, List.length_append, List.length_singleton]; omega, hE⟩
   ·have hc0 : cpre ((h1, x1) :: X) ((h2, x2) :: Y) = 0 := if_neg hh
    simp (disch := first | exact dA | fail) only [↓V0, VV, reduceCtorEq, seval, a11, r8, r9, r11, pav, eq_false (show ¬ (h1 : Int) = (h2 : Int) by omega)]
    exact next hc0 _ _ (by (simp only [↓W0, W, reduceCtorEq, seval, r8]; first | done | rfl | omega | simp)) (by (simp only [↓W0, W, reduceCtorEq, seval, r9]; first | done | rfl | omega | simp)) (by (simp only [↓W0, W, reduceCtorEq, seval, r11]; first | done | rfl | omega | simp)) (by (simp only [↓W0, W, reduceCtorEq, seval, r12]; first | done | rfl | omega | simp)) hE
end Go.Proofs.YtekhblefchceaaaGreat.AM

/- Contracts: patch.Apply. -/
set_option maxRecDepth 20000
namespace Go.Proofs.YtekhblefchceaaaGreat.AM
open Go Go.Proofs
variable {σ : St}
noncomputable def stW (A : Ar) (T L : Pl) (q : Pc) : Pl × Pl :=
 if q.k = 2 then (cnc A T (bldP q.tx), L) else if q.k = 3 then (T, (cutP A L.ht L q.n.toNat).2) else (cnc A T (cutP A L.ht L q.n.toNat).1, (cutP A L.ht L q.n.toNat).2)
def wkB (a : Nat) (T L : Pl) (t1 t2 : Tok) : Blk := .arr [.ptr a 0, .int .u64 T.old, .int .i64 T.ht, .int .i64 T.m.b, .int .i64 T.m.r, .int .i64 T.m.l, .str T.tx, .vs (T.ks.map Pl.av) t1,
 .int .u64 L.old, .int .i64 L.ht, .int .i64 L.m.b, .int .i64 L.m.r, .int .i64 L.m.l, .str L.tx, .vs (L.ks.map Pl.av) t2]
theorem piece_ok {p : Pa} {A : Ar} (wf : A.WF) {wb : Nat} (T L : Pl) (q : Pc) (hT : OkP A T) (hL : OkP A L) (hq : validP q = true) (hn : q.k ≠ 2 -> q.n.toNat <= L.bytes) (hb : L.bytes <= 65536) (hTb : T.bytes + (if q.k = 3 then 0 else if q.k = 2 then q.tx.length else q.n.toNat) <= 65536)
  {t1 t2 : Tok} (hw : lk σ.H wb = some (wkB p.a T L t1 t2)) (hlt : wb < σ.n) (hp : ¬ p.has wb) (hA : ArAt p σ A) :
  ACalls Tryz.prog 54 [.ptr wb 0, q.av] σ (fun v σ' => v = .int .i64 0 /\ (∃ t1 t2, lk σ'.H wb = some (wkB p.a (stW A T L q).1 (stW A T L q).2 t1 t2)) /\ σ.n <= σ'.n /\ ∀ β, β < σ.n -> β ≠ wb -> lk σ'.H β = lk σ.H β) := by
 obtain ⟨k, n, tx⟩ := q
 have hw' := hw
 simp only [wkB] at hw'
 unfold validP at hq
 simp only at hq hn hTb
 by_cases h2 : k = 2
 ·subst h2
  simp only [show ((2 : Int) = 1 \/ (2 : Int) = 3) = False from by simp, if_false, if_true, Bool.and_eq_true, decide_eq_true_eq] at hq
  have hst : stW A T L ⟨2, n, tx⟩ = (cnc A T (bldP tx), L) := if_pos rfl
  rw [hst]
  simp only [show ((2 : Int) = 3) = False from by simp, if_false, if_true] at hTb
  refine FOk.calls ok54 (by simp [a54]) (wpc_sound hmix ?_)
  show wpc _ _ _ c54 _ _ _
  simp (disch := first | exact dA | fail) only [↓V0, VV, reduceCtorEq, seval, a54, Pc.av, Pc.cs]
  refine callQE (by first | rfl | simp only [WQ, treeCs, Ms.av, Ms.cs]) (build_ok tx (by omega)) ?_
  simp (disch := first | exact dA | fail) only [↓V0, VV, reduceCtorEq, seval, a54, Pl.av_eq, treeCs, hw']
  have hbs := bldP_spec tx (by omega)
  have hbb := (hbs.1 A).bytes wf
  rw [hbs.2.1] at hbb
  refine callQE (by first | rfl | simp only [WQ, treeCs, Ms.av, Ms.cs]) (pconcat_ok wf T (bldP tx) hT (hbs.1 A) (by omega) (hA.ext (by exact eA))) ?_
  simp (disch := first | exact dA | fail) only [↓V0, VV, reduceCtorEq, seval, a54, Pl.av_eq, treeCs, hw']
  exact ⟨⟨.no, t2, rfl⟩, fun β h1 h2 => by simp [show ¬ wb = β from fun e => h2 e.symm, show ¬ σ.n + 1 = β by omega, show ¬ σ.n = β by omega]⟩
 ·have hk : k = 1 \/ k = 3 := by
   refine Decidable.byContradiction fun h => ?_
   rw [if_neg h, if_neg h2] at hq
   cases hq
  rw [if_pos hk] at hq
  simp only [Bool.and_eq_true, decide_eq_true_eq] at hq
  have hn' := hn h2
  obtain ⟨c1, c2, c3, c4⟩ := cutQ_spec wf hL hn' hb
  have hcut := fun σ (hA : ArAt p σ A) => pcut_ok (σ := σ) wf L n.toNat hL hn' hb hA
  rw [show ((n.toNat : Nat) : Int) = n by omega] at hcut
  have hst : stW A T L ⟨k, n, tx⟩ = if k = 3 then (T, (cutP A L.ht L n.toNat).2) else (cnc A T (cutP A L.ht L n.toNat).1, (cutP A L.ht L n.toNat).2) := if_neg h2
  rw [hst]
  generalize cutP A L.ht L n.toNat = C at *
  obtain ⟨u, v⟩ := C
  simp only at c1 c2 c3 c4 hcut ⊢
  refine FOk.calls ok54 (by simp [a54]) (wpc_sound hmix ?_)
  show wpc _ _ _ c54 _ _ _
  simp (disch := first | exact dA | fail) only [↓V0, VV, reduceCtorEq, seval, a54, Pc.av, Pc.cs, eq_false h2, hw']
  refine callQE (by first | rfl | simp only [WQ, treeCs, Ms.av, Ms.cs]) (hcut _ (hA.ext (by exact eA))) ?_
  have hub := c1.bytes wf
  have hvb := c2.bytes wf
  have hLb := hL.bytes wf
  rcases hk with rfl | rfl
  ·simp only [show ((1 : Int) = 3) = False from by simp, show ((1 : Int) = 2) = False from by simp, if_false] at hTb ⊢
   have hu2 : u.bytes <= n.toNat := by rw [hub, c3, List.length_take]; omega
   simp (disch := first | exact dA | fail) only [↓V0, VV, reduceCtorEq, seval, a54, Pl.av_eq, treeCs, hw']
   refine callQE (by first | rfl | simp only [WQ, treeCs, Ms.av, Ms.cs]) (pconcat_ok wf T u hT c1 (by omega) (hA.gr (n0 := 0) (b := wb) hp (GrX.set (GrX.ext (by exact eA) (Nat.zero_le _)) (Nat.zero_le _) _))) ?_
   simp (disch := first | exact dA | fail) only [↓V0, VV, reduceCtorEq, seval, a54, Pl.av_eq, treeCs, hw']
   exact ⟨⟨.no, .no, rfl⟩, fun β h1 h2 => by simp [show ¬ wb = β from fun e => h2 e.symm, show ¬ σ.n + 1 = β by omega, show ¬ σ.n = β by omega]⟩
  ·simp only [if_true]
   simp (disch := first | exact dA | fail) only [↓V0, VV, reduceCtorEq, seval, a54, Pl.av_eq, treeCs, hw']
   exact ⟨⟨t1, .no, rfl⟩, fun β h1 h2 => by simp [show ¬ wb = β from fun e => h2 e.symm, show ¬ σ.n + 1 = β by omega, show ¬ σ.n = β by omega]⟩
def apl : List Pc -> List UInt8 -> List UInt8
 | [], _ => []
 | q :: d, s => if q.k = 2 then q.tx ++ apl d s else if q.k = 3 then apl d (s.drop q.n.toNat) else s.take q.n.toNat ++ apl d (s.drop q.n.toNat)
theorem lenLoop_in : ∀ (d : List Pc) (i o : Int), (lenLoop d i o).2.2 = 0 -> (∀ q, q ∈ d -> validP q = true) /\ (lenLoop d i o).1 = i + (d.map fun q => (sizesP q).1).sum /\ (lenLoop d i o).2.1 = o + (d.map fun q => (sizesP q).2).sum
 | [], i, o, _ => ⟨fun q hq => by simp at hq, by simp [lenLoop], by simp [lenLoop]⟩
 | q :: d, i, o, h => by
  unfold lenLoop at h ⊢
  by_cases hv : validP q = true
  ·rw [if_pos hv] at h ⊢
   by_cases hs : 1048576 - i < (sizesP q).1 \/ 1048576 - o < (sizesP q).2
   ·rw [if_pos hs] at h; cases h
   ·rw [if_neg hs] at h ⊢
    obtain ⟨h1, h2, h3⟩ := lenLoop_in d _ _ h
    refine ⟨fun x hx => ?_, by rw [h2]; simp only [List.map_cons, List.sum_cons]; omega, by rw [h3]; simp only [List.map_cons, List.sum_cons]; omega⟩
    rcases List.mem_cons.1 hx with rfl | hx
    ·exact hv
    ·exact h1 x hx
  ·rw [if_neg hv] at h; cases h
theorem sum_nn {d : List Pc} (hv : ∀ q, q ∈ d -> validP q = true) : 0 <= (d.map fun q => (sizesP q).1).sum /\ 0 <= (d.map fun q => (sizesP q).2).sum := by
 induction d with
 | nil => exact ⟨Int.le_refl _, Int.le_refl _⟩
 | cons q d ih =>
  have h1 := sizes_nn (hv q (by simp))
  have h2 := ih fun x hx => hv x (by simp [hx])
  simp only [List.map_cons, List.sum_cons]
  omega
theorem stW_spec {A : Ar} (wf : A.WF) {T L : Pl} {q : Pc} {i o : Int} (hT : OkP A T) (hL : OkP A L) (hq : validP q = true) (hi : (L.bytes : Int) = (sizesP q).1 + i) (hi0 : 0 <= i) (ho : (T.bytes : Int) + (sizesP q).2 + o <= 65536) (ho0 : 0 <= o) (hb : L.bytes <= 65536) :
  OkP A (stW A T L q).1 /\ OkP A (stW A T L q).2 /\ ((stW A T L q).2.bytes : Int) = i /\ ((stW A T L q).1.bytes : Int) = T.bytes + (sizesP q).2 /\
  (∀ d, (stW A T L q).1.txt A ++ apl d ((stW A T L q).2.txt A) = T.txt A ++ apl (q :: d) (L.txt A)) /\ (q.k ≠ 2 -> q.n.toNat <= L.bytes) /\ T.bytes + (if q.k = 3 then 0 else if q.k = 2 then q.tx.length else q.n.toNat) <= 65536 := by
 obtain ⟨k, n, tx⟩ := q
 have hTb := hT.bytes wf
 have hLb := hL.bytes wf
 unfold validP at hq
 simp only at hq
 by_cases h2 : k = 2
 ·subst h2
  simp only [show ((2 : Int) = 1 \/ (2 : Int) = 3) = False from by simp, if_false, if_true, Bool.and_eq_true, decide_eq_true_eq] at hq
  have hsz : sizesP ⟨2, n, tx⟩ = (0, (tx.length : Int)) := rfl
  rw [hsz] at hi ho ⊢
  simp only at hi ho ⊢
  obtain ⟨b1, b2, _⟩ := bldP_spec tx (by omega)
  have e := cnc_spec wf hT (b1 A) (by rw [b2]; omega)
  have hst : stW A T L ⟨2, n, tx⟩ = (cnc A T (bldP tx), L) := if_pos rfl
  rw [hst]
  refine ⟨e.1, hL, by simp only; omega, ?_, fun d => ?_, fun h => absurd rfl h, by simp only [show ((2 : Int) = 3) = False from by simp, if_false, if_true]; omega⟩
  ·rw [e.1.bytes wf, e.2, b2, List.length_append]; omega
  ·simp only [apl, if_true]; rw [e.2, b2, List.append_assoc]
 ·have hk : k = 1 \/ k = 3 := by
   refine Decidable.byContradiction fun h => ?_
   rw [if_neg h, if_neg h2] at hq
   cases hq
  rw [if_pos hk] at hq
  simp only [Bool.and_eq_true, decide_eq_true_eq] at hq
  have hs1 : (sizesP ⟨k, n, tx⟩).1 = n := by rcases hk with rfl | rfl <;> rfl
  rw [hs1] at hi
  have hn' : n.toNat <= L.bytes := by omega
  obtain ⟨c1, c2, c3, c4⟩ := cutQ_spec wf hL hn' hb
  have hst : stW A T L ⟨k, n, tx⟩ = if k = 3 then (T, (cutP A L.ht L n.toNat).2) else (cnc A T (cutP A L.ht L n.toNat).1, (cutP A L.ht L n.toNat).2) := if_neg h2
  rw [hst]
  generalize cutP A L.ht L n.toNat = C at *
  obtain ⟨u, v⟩ := C
  simp only at c1 c2 c3 c4
  have hub := c1.bytes wf
  have hvb := c2.bytes wf
  rw [c3, List.length_take] at hub
  rw [c4, List.length_drop] at hvb
  rcases hk with rfl | rfl
  ·have hs2 : (sizesP ⟨1, n, tx⟩).2 = n := rfl
   rw [hs2] at ho ⊢
   have e := cnc_spec wf hT c1 (by rw [c3, List.length_take]; omega)
   simp only [show ((1 : Int) = 3) = False from by simp, show ((1 : Int) = 2) = False from by simp, if_false]
   refine ⟨e.1, c2, by omega, ?_, fun d => ?_, fun _ => hn', by omega⟩
   ·rw [e.1.bytes wf, e.2, c3, List.length_append, List.length_take]; omega
   ·simp only [apl, show ((1 : Int) = 3) = False from by simp, show ((1 : Int) = 2) = False from by simp, if_false]
    rw [e.2, c3, c4, List.append_assoc]
  ·have hs2 : (sizesP ⟨3, n, tx⟩).2 = 0 := rfl
   rw [hs2] at ho ⊢
   simp only [if_true]
   refine ⟨hT, c2, by omega, by omega, fun d => ?_, fun _ => hn', by omega⟩
   simp only [apl, show ((3 : Int) = 2) = False from by simp, if_false, if_true]
   rw [c4]
end Go.Proofs.YtekhblefchceaaaGreat.AM

/- Contracts: patch.Apply. -/
set_option maxRecDepth 20000
namespace Go.Proofs.YtekhblefchceaaaGreat.AM
open Go Go.Proofs
variable {σ : St}
theorem Rt.bytes_m {A : Ar} (wf : A.WF) {r : Rt} (hr : RtOk A r) : r.pl.bytes = r.m.b := by
 rcases hr with rfl | ⟨x, h1, h2, h3⟩
 ·rfl
 ·have := (wf _ _ h1).1.pos
  rw [Rt.pl, if_neg (by omega)]; rfl
structure AW1 (A : Ar) (r : Rt) (d D : List Pc) (T L : Pl) : Prop where
 o1 : OkP A T
 o2 : OkP A L
 b1 : (L.bytes : Int) = (D.map fun q => (sizesP q).1).sum
 b2 : (T.bytes : Int) + (D.map fun q => (sizesP q).2).sum = (d.map fun q => (sizesP q).2).sum
 tx : T.txt A ++ apl D (L.txt A) = apl d (r.txt A)
 lb : L.bytes <= 65536
end Go.Proofs.YtekhblefchceaaaGreat.AM

/- Contracts: quartolaw16.Pick, laid. -/
set_option maxRecDepth 20000
namespace Go.Proofs.YtekhblefchceaaaGreat.AM
open Go Go.Proofs
variable {σ : St}
theorem anew2_ok (n gens : Nat) (h1 : 1 <= n) (h2 : n <= 16384) (g1 : 1 <= gens) (g2 : gens <= 4294967295) : ACalls Tryz.prog 35 [.int .i64 n, .int .u64 gens] σ (fun v σ' => ∃ p : Pa, v = .tup [.ptr p.a 0, .int .i64 0] /\ ArAt p σ' (newAr n gens) /\ Ext σ σ' /\ ∀ β, p.has β -> σ.n <= β) := by
 refine FOk.calls ok35 (by simp [a35]) (wpc_sound hmix ?_)
 show wpc _ _ _ c35 _ _ _
 simp (disch := first | exact dA | fail) only [↓V0, VV, reduceCtorEq, seval, a35]
 refine (flnew_ok n gens h1 h2 g1 g2).mono ?_
 rintro v σ' ⟨b1, b2, b3, rfl, ⟨f1, f2, f3, f4⟩, hb, hE, hn⟩
 simp (disch := first | exact dA | fail) only [↓V0, VV, reduceCtorEq, seval, a35]
 refine ⟨⟨σ'.n + 1, σ.n + 3, b1, b2, b3, σ'.n⟩, rfl, ⟨by simp only [↓W0, W, reduceCtorEq, seval] <;> rfl, ?_, ?_, ?_, ?_, by simp only [↓W0, W, reduceCtorEq, seval] <;> rfl, ?_, ?_⟩, by exact eA, ?_⟩
 ·simp only [↓W0, W, reduceCtorEq, seval, show (σ'.n + 1 = σ.n + 3) = False from eq_false (by omega), show (σ'.n = σ.n + 3) = False from eq_false (by omega)]; exact f1
 ·simp only [↓W0, W, reduceCtorEq, seval, show (σ'.n + 1 = b1) = False from eq_false (by omega), show (σ'.n = b1) = False from eq_false (by omega)]; rw [f2]; simp [newAr, stk, iav]
 ·simp only [↓W0, W, reduceCtorEq, seval, show (σ'.n + 1 = b2) = False from eq_false (by omega), show (σ'.n = b2) = False from eq_false (by omega)]; rw [f3]; simp [newAr, uav]
 ·simp only [↓W0, W, reduceCtorEq, seval, show (σ'.n + 1 = b3) = False from eq_false (by omega), show (σ'.n = b3) = False from eq_false (by omega)]; rw [f4]; simp [newAr, uav]
 ·simp only [Pa.ok]; omega
 ·simp only [Pa.lt, new_n]; omega
 ·rintro β (e | e | e | e | e | e) <;> simp only at e <;> omega
theorem newAr_good (n gens : Nat) (h1 : 1 <= n) (h2 : n <= 16384) : (newAr n gens).Good where
 ok := newAr_ok n gens h1 h2
 wf := fun h x e => by simp [newAr, Ar.get] at e
 fl := fun h x e => by simp [newAr, Ar.get] at e
 nd := by
  have h : ((List.range n).map fun j => n - 1 - j).Nodup := by
   rw [List.nodup_iff_pairwise_ne, List.pairwise_map]
   refine List.Pairwise.imp_of_mem ?_ List.pairwise_lt_range
   intro a b ha hb hab
   rw [List.mem_range] at ha hb
   omega
  exact h.sublist (List.take_sublist _ _)
theorem Own.ext2 {σ0 σ' : St} {t : Tok} (h : Own σ0 σ t) (hE : Ext σ σ') : Own σ0 σ' t := ⟨h.1.ext hE, h.2.trans hE⟩
end Go.Proofs.YtekhblefchceaaaGreat.AM

