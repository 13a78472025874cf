/- Joined: Sh2, F9, F10, F11. -/
import Derived.Shelf.Strings.OnBuilder
import Derived.Shelf.Small.Strs
import Derived.Test.YtekhblefchceaaaGreatProg
import Derived.Test.YtekhblefchceaaaGreatFB
import Derived.Test.YtekhblefchceaaaGreatNA
set_option linter.unusedVariables false
set_option linter.unusedSimpArgs false
/- The library contract of strings.Join and strings.Compare at this program, by the kit (as Sh1: the same form, other numbers). -/
namespace Go.Proofs
open Go.Shelf
def Tryz.lays156_ren : Go.Shelf.Ren := ⟨fun | 156 => 161 | 105 => 27 | 212 => 61 | 99 => 62 | 165 => 63 | 166 => 64 | 170 => 65 | 169 => 66 | 263 => 123 | 264 => 124 | 206 => 125 | 240 => 126 | 241 => 127 | 276 => 184 | 277 => 185 | n => n, fun | 31 => 22 | 9 => 9 | 3 => 3 | 4 => 4 | 20 => 20 | 0 => 0 | 46 => 132 | 109 => 133 | 5 => 5 | 72 => 138 | 76 => 142 | 51 => 222 | 146 => 223 | 53 => 35 | 148 => 225 | 70 => 136 | 37 => 125 | 75 => 141 | 127 => 227 | 164 => 283 | 80 => 145 | n => n, fun | n => n⟩
theorem Tryz.lays156 : Go.Proofs.Lays.n156 Tryz.prog Tryz.lays156_ren := {
 mixed := by kernel_rfl
 f156 := Tryz.func161.trans (congrArg some (by kernel_rfl))
 f165 := Tryz.func63.trans (congrArg some (by kernel_rfl))
 f166 := Tryz.func64.trans (congrArg some (by kernel_rfl))
 f169 := Tryz.func66.trans (congrArg some (by kernel_rfl))
 f240 := Tryz.func126.trans (congrArg some (by kernel_rfl))
 f241 := Tryz.func127.trans (congrArg some (by kernel_rfl))
 f276 := Tryz.func184.trans (congrArg some (by kernel_rfl))
 f277 := Tryz.func185.trans (congrArg some (by kernel_rfl))
 t0 := Tryz.underlying0
 a0 := Tryz.isAgg0
 z0 := Tryz.sizeOf0
 v0 := Tryz.zeroValue0
 t3 := Tryz.underlying3
 a3 := Tryz.isAgg3
 z3 := Tryz.sizeOf3
 v3 := Tryz.zeroValue3
 t4 := Tryz.underlying4
 a4 := Tryz.isAgg4
 z4 := Tryz.sizeOf4
 v4 := Tryz.zeroValue4
 t9 := Tryz.underlying9
 a9 := Tryz.isAgg9
 z9 := Tryz.sizeOf9
 v9 := Tryz.zeroValue9
 t20 := Tryz.underlying20
 a20 := Tryz.isAgg20
 z20 := Tryz.sizeOf20
 v20 := Tryz.zeroValue20
 t31 := Tryz.underlying22
 a31 := Tryz.isAgg22
 z31 := Tryz.sizeOf22
 v31 := Tryz.zeroValue22
 t37 := Tryz.underlying125
 a37 := Tryz.isAgg125
 z37 := Tryz.sizeOf125
 v37 := Tryz.zeroValue125
 t70 := Tryz.underlying136
 a70 := Tryz.isAgg136
 z70 := Tryz.sizeOf136
 v70 := Tryz.zeroValue136
 t72 := Tryz.underlying138
 a72 := Tryz.isAgg138
 z72 := Tryz.sizeOf138
 v72 := Tryz.zeroValue138
 t75 := Tryz.underlying141
 a75 := Tryz.isAgg141
 z75 := Tryz.sizeOf141
 v75 := Tryz.zeroValue141
 t76 := Tryz.underlying142
 a76 := Tryz.isAgg142
 z76 := Tryz.sizeOf142
 v76 := Tryz.zeroValue142
 t127 := Tryz.underlying227
 a127 := Tryz.isAgg227
 z127 := Tryz.sizeOf227
 v127 := Tryz.zeroValue227
 t164 := Tryz.underlying283
 a164 := Tryz.isAgg283
 z164 := Tryz.sizeOf283
 v164 := Tryz.zeroValue283 }
theorem Tryz.Builder_Extra_156 : Builder.Extra Tryz.prog Tryz.lays156_ren := {
 sizeBuilder := by kernel_rfl
 liesBuilder := by kernel_rfl
 t5 := Tryz.underlying5
 a5 := Tryz.isAgg5
 z5 := Tryz.sizeOf5
 v5 := Tryz.zeroValue5
 infoByte := by kernel_rfl
 cellsByte := by kernel_rfl
 sizeByte := by kernel_rfl
 neB5 := by decide }
def Tryz.lays106_ren : Go.Shelf.Ren := ⟨fun | 106 => 88 | 213 => 162 | 265 => 216 | n => n, fun | n => n, fun | n => n⟩
theorem Tryz.lays106 : Go.Proofs.Lays.n106 Tryz.prog Tryz.lays106_ren := {
 mixed := by kernel_rfl
 f106 := Tryz.func88.trans (congrArg some (by kernel_rfl))
 f213 := Tryz.func162.trans (congrArg some (by kernel_rfl))
 f265 := Tryz.func216.trans (congrArg some (by kernel_rfl))
 t3 := Tryz.underlying3
 a3 := Tryz.isAgg3
 z3 := Tryz.sizeOf3
 v3 := Tryz.zeroValue3
 t9 := Tryz.underlying9
 a9 := Tryz.isAgg9
 z9 := Tryz.sizeOf9
 v9 := Tryz.zeroValue9 }
end Go.Proofs

/- Contracts: slice.check, Pieces, Read, of a whole rope. -/
set_option maxRecDepth 20000
namespace Go.Proofs.YtekhblefchceaaaGreat.AM
open Go Go.Proofs
variable {σ : St}
theorem lcheck_ok {p : Pa} {A : Ar} (wf : A.WF) (r : Rt) (hr : RtOk A r) (hA : ArAt p σ A) : ACalls Tryz.prog 214 [.ptr p.a 0, r.av, .int .i64 0, .int .i64 r.m.b] σ (fun v σ' => v = .int .i64 0 /\ σ' = σ) := by
 refine ACalls.quietX ?_ rfl
 have hk := keep_ok wf r hr (hA.ext (by exact eA) : ArAt p (σ.new (.arr r.cs)) A)
 have hrb := (rt_bytes wf hr).2
 simp only [Rt.av, Rt.cs] at hk
 refine FOk.calls ok214 (by simp [a214]) (wpc_sound hmix ?_)
 show wpc _ _ _ c214 _ _ _
 simp (disch := first | exact dA | fail) only [↓V0, VV, reduceCtorEq, seval, a214, Rt.av, Rt.cs]
 refine callQE (by first | rfl | simp only [WQ, treeCs, Ms.av, Ms.cs]) (hk) ?_
 have hl6 := rtxt_len wf hr
 have hw : wr .i64 ((r.m.b : Int) - 0) = r.m.b := by rw [Int.sub_zero]; exact wr_i2 (by omega) (by omega)
 by_cases h0 : r.h = 0
 ·simp (disch := first | exact dA | fail) only [↓V0, VV, reduceCtorEq, seval, a214, Rt.pl, Pl.av, Rt.cs, h0, if_true, Pl.emp, treeCs, hw]
  exact ⟨rfl, by exact eA⟩
 ·simp (disch := first | exact dA | fail) only [↓V0, VV, reduceCtorEq, seval, a214, Rt.pl, Pl.av, Rt.cs, if_neg h0, Pl.kept, treeCs, hw]
  exact ⟨rfl, by exact eA⟩
structure PJ (n0 : Nat) (p : Pa) (r : Rt) (B : Blk) (σ0 : St) (L : List (List UInt8)) (σ : St) : Prop where
 lo : Lo n0 σ0 σ
 lt : n0 + 7 < σ.n
 lb : lk σ.H (n0 + 7) = some B
 la : lk σ.H (n0 + 3) = some (.arr [.ptr p.a 0])
 lr : lk σ.H (n0 + 4) = some (.arr r.cs)
 le : lk σ.H (n0 + 2) = some (.arr [.int .i64 0])
 l : LstB n0 (n0 + 1) (sav L) σ
 h1 : ∃ x, lk σ.H (n0 + 6) = some (.arr x)
 h6 : ∃ x, lk σ.H (n0 + 5) = some (.arr x)
 ne : ∀ s, s ∈ L -> s ≠ []
theorem flat_ge : ∀ {L : List (List UInt8)}, (∀ s, s ∈ L -> s ≠ []) -> L.length <= L.flatten.length
 | [], _ => Nat.le_refl _
 | s :: L, h => by
  have := flat_ge (L := L) fun q hq => h q (by simp [hq])
  have := List.length_pos_iff.2 (h s (by simp))
  simp only [List.flatten_cons, List.length_append, List.length_cons]
  omega
theorem PJ.set {n0 : Nat} {p : Pa} {r : Rt} {B : Blk} {σ0 : St} {L : List (List UInt8)} (h : PJ n0 p r B σ0 L σ) {c : Nat} (hc : c = n0 + 6 \/ c = n0 + 5) (x : List AV) : PJ n0 p r B σ0 L (σ.set c (.arr x)) := by
 have hk : ∃ y, lk σ.H c = some (.arr y) := by
  rcases hc with rfl | rfl
  ·exact h.h1
  ·exact h.h6
 obtain ⟨y, hk⟩ := hk
 have e : ∀ γ, γ ≠ c -> lk (σ.set c (.arr x)).H γ = lk σ.H γ := fun γ g => by rw [lk_set, if_neg (Ne.symm g)]
 refine ⟨⟨h.lo.1, fun γ hγ => (e γ (by omega)).trans (h.lo.2 γ hγ)⟩, h.lt, (e _ (by omega)).trans h.lb, (e _ (by omega)).trans h.la, (e _ (by omega)).trans h.lr, (e _ (by omega)).trans h.le, h.l.set (by omega) (by rw [hk]; simp) _, ?_, ?_, h.ne⟩
 ·by_cases g : n0 + 6 = c
  ·subst g; exact ⟨x, by rw [lk_set, if_pos rfl, hk]; rfl⟩
  ·obtain ⟨z, hz⟩ := h.h1; exact ⟨z, (e _ g).trans hz⟩
 ·by_cases g : n0 + 5 = c
  ·subst g; exact ⟨x, by rw [lk_set, if_pos rfl, hk]; rfl⟩
  ·obtain ⟨z, hz⟩ := h.h6; exact ⟨z, (e _ g).trans hz⟩
theorem PJ.step {n0 : Nat} {p : Pa} {r : Rt} {B B2 : Blk} {σ0 σ' : St} {L : List (List UInt8)} (h : PJ n0 p r B σ0 L σ) (hB : B ≠ .tok) (hn : σ.n <= σ'.n) (hs : ∀ γ, γ < σ.n -> γ ≠ n0 + 7 -> lk σ'.H γ = lk σ.H γ) (hb : lk σ'.H (n0 + 7) = some B2) : PJ n0 p r B2 σ0 L σ' := by
 have lt := h.lt
 obtain ⟨t, t1, t2⟩ := h.l
 obtain ⟨x1, g1⟩ := h.h1
 obtain ⟨x6, g6⟩ := h.h6
 refine ⟨h.lo.trans ⟨hn, fun γ hγ => hs γ (by omega) (by omega)⟩, by omega, hb, (hs _ (by omega) (by omega)).trans h.la, (hs _ (by omega) (by omega)).trans h.lr, (hs _ (by omega) (by omega)).trans h.le, ⟨t, (hs _ (by omega) (by omega)).trans t1, tokok_mono t2 hn fun τ e => ?_⟩,
  ⟨x1, (hs _ (by omega) (by omega)).trans g1⟩, ⟨x6, (hs _ (by omega) (by omega)).trans g6⟩, h.ne⟩
 subst e
 rw [hs τ t2.2.1 (fun e => by subst e; have := h.lb.symm.trans t2.2.2; simp only [Option.some.injEq] at this; exact hB this)]
 exact t2.2.2
theorem PJ.app {n0 : Nat} {p : Pa} {r : Rt} {B : Blk} {σ0 : St} {L : List (List UInt8)} (h : PJ n0 p r B σ0 L σ) (s : List UInt8) (hs : s ≠ []) (hB : B ≠ .tok) :
  ∃ t, lk σ.H (n0 + 1) = some (.arr [.vs (sav L) t]) /\ TokG σ t /\ lk (σ.rt t).H (n0 + 1) = some (.arr [.vs (sav L) t]) /\ PJ n0 p r B σ0 (L ++ [s]) ((σ.rt t).set (n0 + 1) (.arr [.vs (sav L ++ [.str s]) (.id σ.n)])) /\ GrX n0 (n0 + 1) σ ((σ.rt t).set (n0 + 1) (.arr [.vs (sav L ++ [.str s]) (.id σ.n)])) := by
 have lt := h.lt
 obtain ⟨t, t1, t2⟩ := h.l
 obtain ⟨x1, g1⟩ := h.h1
 obtain ⟨x6, g6⟩ := h.h6
 obtain ⟨c1, c2, c3, c4⟩ := lst_app [.str s] t1 t2 (by omega) (by omega)
 have e : sav (L ++ [s]) = sav L ++ [.str s] := by simp [sav]
 refine ⟨t, t1, c1, c2, ⟨h.lo.trans c4.lo, Nat.lt_of_lt_of_le lt c4.1, (c4.2.2 _ lt (by omega) (by rw [h.lb]; simpa using hB)).trans h.lb, (c4.2.2 _ (by omega) (by omega) (by rw [h.la]; simp)).trans h.la, (c4.2.2 _ (by omega) (by omega) (by rw [h.lr]; simp)).trans h.lr,
  (c4.2.2 _ (by omega) (by omega) (by rw [h.le]; simp)).trans h.le, e ▸ c3, ⟨x1, (c4.2.2 _ (by omega) (by omega) (by rw [g1]; simp)).trans g1⟩, ⟨x6, (c4.2.2 _ (by omega) (by omega) (by rw [g6]; simp)).trans g6⟩, fun q hq => ?_⟩, c4⟩
 rcases List.mem_append.1 hq with hq | hq
 ·exact h.ne q hq
 ·rw [List.mem_singleton] at hq; subst hq; exact hs
theorem lparts_ok (b : Nat) (r : Rt) (m : Int) : ACalls Tryz.prog 215 [.ptr b 0, r.av, .int .i64 0, .int .i64 m] σ (fun v σ' => v = .fn 247 [.ptr (σ.n + 3) 0, .ptr σ.n 0, .ptr (σ.n + 1) 0, .ptr (σ.n + 2) 0] /\ σ' = (((σ.new (.arr [.ptr b 0])).new (.arr r.cs)).new (.arr [.int .i64 0])).new (.arr [.int .i64 m])) := by
 refine FOk.calls ok215 (by simp [a215]) (wpc_sound hmix ?_)
 show wpc _ _ _ c215 _ _ _
 simp (disch := first | exact dA | fail) only [↓V0, VV, reduceCtorEq, seval, a215, Rt.av, Rt.cs]
theorem pieces_ok {p : Pa} {A : Ar} (wf : A.WF) (r : Rt) (hr : RtOk A r) (hA : ArAt p σ A) : ACalls Tryz.prog 160 [.ptr p.a 0, r.av, .int .i64 0, .int .i64 r.m.b] σ (fun v σ' => ∃ (L : List (List UInt8)) (t : Tok), L.flatten = r.txt A /\ L.length <= 65536 /\ v = .tup [.vs (sav L) t, .int .i64 0] /\ Ext σ σ' /\ TokOk σ.n σ' t) := by
 have hl6 := rtxt_len wf hr
 have hc := lcheck_ok wf r hr (hA.ext (by exact eA) : ArAt p (σ.new (.arr r.cs)) A)
 obtain ⟨q1, q2, q3, q4, q5, q6⟩ := hA.lt
 simp only [Rt.av, Rt.cs] at hc
 refine FOk.calls ok160 (by simp [a160]) (wpc_sound hmix ?_)
 show wpc _ _ _ c160 _ _ _
 simp (disch := first | exact dA | fail) only [↓V0, VV, reduceCtorEq, seval, a160, Rt.av, Rt.cs]
 refine callQE (by first | rfl | simp only [WQ, treeCs, Ms.av, Ms.cs]) (hc) ?_
 simp (disch := first | exact dA | fail) only [↓V0, VV, reduceCtorEq, seval, a160]
 generalize hσ1 : St.set _ _ _ = σ1
 have hE1 : Ext σ σ1 := by rw [<- hσ1]; exact eA
 have hn1 : σ1.n = σ.n + 3 := by rw [<- hσ1]; rfl
 have k1 : lk σ1.H (σ.n + 1) = some (.arr [.vs [] .ex]) := by rw [<- hσ1]; simp (disch := first | exact dA | fail) only [↓V0, VV, reduceCtorEq, seval, a160]
 have k2 : lk σ1.H (σ.n + 2) = some (.arr [.int .i64 0]) := by rw [<- hσ1]; simp (disch := first | exact dA | fail) only [↓V0, VV, reduceCtorEq, seval, a160]
 clear hσ1
 refine (lparts_ok (σ := σ1) p.a r r.m.b).mono ?_
 rintro v σ2 ⟨rfl, e2⟩
 have hn2 : σ2.n = σ.n + 7 := by rw [e2]; simp only [St.new]; omega
 have m3 : lk σ2.H (σ.n + 3) = some (.arr [.ptr p.a 0]) := by rw [e2]; simp only [lk_new, hn1]; simp [St.new, hn1]
 have m4 : lk σ2.H (σ.n + 4) = some (.arr r.cs) := by rw [e2]; simp only [lk_new, hn1]; simp [St.new, hn1]
 have m5 : lk σ2.H (σ.n + 5) = some (.arr [.int .i64 0]) := by rw [e2]; simp only [lk_new, hn1]; simp [St.new, hn1]
 have m6 : lk σ2.H (σ.n + 6) = some (.arr [.int .i64 r.m.b]) := by rw [e2]; simp only [lk_new, hn1]; simp [St.new, hn1]
 have hE2 : Ext σ1 σ2 := by rw [e2]; exact eA
 clear e2
 simp (disch := first | exact dA | fail) only [↓V0, VV, reduceCtorEq, seval, a160, hn1]
 refine AW.envg (fun ρ => ρ 11 = .ptr (σ.n + 1) 0 /\ ρ 12 = .ptr (σ.n + 2) 0 /\ ρ 27 = .fn 247 [.ptr (σ.n + 6) 0, .ptr (σ.n + 3) 0, .ptr (σ.n + 4) 0, .ptr (σ.n + 5) 0]) ⟨by exact wA, by exact wA, by exact wA⟩ fun ρ ⟨r11, r12, r27⟩ => ?_
 refine AW.rf (gf := 247) (cap := [.ptr (σ.n + 6) 0, .ptr (σ.n + 3) 0, .ptr (σ.n + 4) 0, .ptr (σ.n + 5) 0]) r27 fun ca cb => ?_
 generalize hB : Blk.loop .ready none ((List.range 39).map ρ) [28, 29] x160_9 y160_13 = B
 rw [hn2]
 have eL : ∀ γ, γ ≠ σ.n + 7 -> lk (σ2.new B).H γ = lk σ2.H γ := fun γ g => by rw [lk_new, if_neg (by omega)]
 refine (parts_it (p := p) wf r hr (β := σ.n + 7) (b1 := σ.n + 6) (b4 := σ.n + 3) (b5 := σ.n + 4) (b6 := σ.n + 5) (J := fun L σ' => PJ σ.n p r B σ2 L σ') (fun L σ' h => ⟨hA.ext (Lo.toExt h.lo (hE1.trans hE2)), h.la, h.lr⟩) (fun L σ' c x h hc => h.set hc x) (fun L s σ' hs hlen hJ => ?_) (by omega)
  ((eL _ (by omega)).trans m6) ((eL _ (by omega)).trans m5) ⟨Lo.ext (Ext.new _ _) (by omega), by simp only [St.new]; omega, by rw [lk_new, if_pos hn2], (eL _ (by omega)).trans m3, (eL _ (by omega)).trans m4, ?_, ?_, ⟨_, (eL _ (by omega)).trans m6⟩, ⟨_, (eL _ (by omega)).trans m5⟩, by simp⟩).mono ?_
 ·have hB' := hJ.lb
  have hlt := hJ.lt
  have hfg := flat_ge hJ.ne
  rw [List.length_append] at hlen
  rw [<- hB] at hB'
  refine ayieldW hmix ca cb hB' rfl (by simp) (fun ρ2 => ρ2 11 = .ptr (σ.n + 1) 0) ((getD_range ρ (by decide)).trans r11) fun ro ρ2 e11 => ?_
  simp only [putAll]
  simp (disch := first | exact dA | fail) only [↓V0, VV, reduceCtorEq, seval, a160, x160_9, y160_13, e11]
  refine ⟨hB', ?_⟩
  have z0 := hJ.step (B2 := Blk.loop .busy none ((List.range 39).map ρ) [28, 29] x160_9 y160_13) (σ' := σ'.set (σ.n + 7) (.loop .busy none ((List.range 39).map ρ) [28, 29] x160_9 y160_13))
   (by rw [<- hB]; simp) (Nat.le_refl _) (fun γ g1 g2 => by rw [lk_set, if_neg (Ne.symm g2)]) (by rw [lk_set, if_pos rfl, hB']; rfl)
  have zs : ∀ γ, γ ≠ σ.n + 7 -> lk (σ'.set (σ.n + 7) (.loop .busy none ((List.range 39).map ρ) [28, 29] x160_9 y160_13)).H γ = lk σ'.H γ := fun γ g2 => by rw [lk_set, if_neg (Ne.symm g2)]
  have zn : (σ'.set (σ.n + 7) (.loop .busy none ((List.range 39).map ρ) [28, 29] x160_9 y160_13)).n = σ'.n := rfl
  obtain ⟨tk, a1, a2, a3, a4, a5⟩ := z0.app s hs (by simp)
  have a1' := (zs (σ.n + 1) (by omega)).symm.trans a1
  have hfs := fit_sav L
  have hls : (sav L).length = L.length := by simp [sav]
  obtain ⟨x1, g1⟩ := hJ.h1
  obtain ⟨x6, g6⟩ := hJ.h6
  simp only [x160_9, y160_13] at z0 zs zn a1 a2 a3 a4 a5
  generalize St.set σ' _ _ = S at *
  simp (disch := first | exact dA | fail) only [↓V0, VV, reduceCtorEq, seval, a160, a1', a3, e11, ↓eval_app, appA_S]
  generalize (S.rt tk).set (σ.n + 1) _ = S2 at *
  have hn5 := a5.1
  have k6 := (a5.2.2 (σ.n + 6) (by omega) (by omega) (by rw [zs _ (by omega), g1]; simp)).trans (zs _ (by omega))
  have k5 := (a5.2.2 (σ.n + 5) (by omega) (by omega) (by rw [zs _ (by omega), g6]; simp)).trans (zs _ (by omega))
  exact roundN a4.lb fun σ'' w1 w2 w3 => ⟨rfl, a4.step (by simp) (by omega) (fun γ g1 g2 => w2 γ g2) (w3.trans (congrArg some hB)), (w2 _ (by omega)).trans k6, (w2 _ (by omega)).trans k5⟩
 ·exact (eL _ (by omega)).trans ((hE2.2 _ (by omega)).trans k2)
 ·exact ⟨.ex, (eL _ (by omega)).trans ((hE2.2 _ (by omega)).trans k1), trivial⟩
 ·rintro v σ' ⟨L, hJ, hfl⟩
  have hB' := hJ.lb
  rw [<- hB] at hB'
  obtain ⟨tk, k2, k4⟩ := hJ.l
  refine ⟨_, _, _, _, _, _, hB', by simp, ?_⟩
  have k3 := (del_ne (σ := σ') (β := σ.n + 7) (γ := σ.n + 1) (by omega)).trans k2
  have k5 := (del_ne (σ := σ') (β := σ.n + 7) (γ := σ.n + 2) (by omega)).trans hJ.le
  simp (disch := first | exact dA | fail) only [↓V0, VV, reduceCtorEq, seval, a160, r11, r12, k3, k5]
  have hfg := flat_ge hJ.ne
  have hlo := Lo.toExt hJ.lo (hE1.trans hE2)
  refine ⟨L, tk, hfl, by rw [hfl] at hfg; omega, rfl, ⟨hlo.1, fun γ hγ => (del_ne (by omega)).trans (hlo.2 γ hγ)⟩, tokok_mono k4 (Nat.le_refl _) fun τ e => ?_⟩
  subst e
  refine (del_ne (fun e => ?_)).trans k4.2.2
  subst e
  have := hB'.symm.trans k4.2.2
  simp at this
end Go.Proofs.YtekhblefchceaaaGreat.AM

/- Contracts: strings.Join of a list of strings with no separator; slice.Read of a whole rope. -/
set_option maxRecDepth 20000
namespace Go.Proofs.YtekhblefchceaaaGreat.AM
open Go Go.Proofs Go.RowKit
variable {σ : St}
theorem join_nosep (L : List (List UInt8)) : Lib.join L [] = L.flatten := by
 cases L with
 | nil => rfl
 | cons x r => rw [Lib.join_cons]; simp [Lib.joinTail]
theorem sjoin_ok (L : List (List UInt8)) (t : Tok) (hl : L.flatten.length <= 65536) (hn : L.length <= 65536) : ACalls Tryz.prog 161 [.vs (sav L) t, .str []] σ (fun v σ' => v = .str L.flatten /\ σ' = σ) := by
 refine ACalls.of_below (cX := .string ⟨L.flatten.toArray⟩) ⟨Tryz.f161, Tryz.func161, by kernel_rfl, by kernel_rfl⟩ (fun g w => .str _) fun g w cargs r hv => ?_
 obtain ⟨h1, h2⟩ := hv
 match cargs, h1 with
 | [a, b], _ =>
  have ha := h2 0 _ a rfl rfl
  have hb := h2 1 _ b rfl rfl
  cases hb
  have hmap : (L.map fun s => (⟨s.toArray⟩ : ByteArray)).map (·.data.toList) = L := by
   rw [List.map_map]
   conv => rhs; rw [<- List.map_id L]
   exact List.map_congr_left fun s _ => rfl
  have hnone : ∀ (pt : Option Addr) (c : Nat), L = [] -> Calls Tryz.prog 161 #[.slice pt 0 c, .string ⟨#[]⟩] w (fun e w' => e = .returned (.string ⟨L.flatten.toArray⟩) /\ Below w.heap.size w w') := by
   intro pt c e
   subst e
   exact (Any.strings_Join_none Tryz.lays156 Tryz.Builder_Extra_156 _ c _ w).mono fun e w' ⟨he, hw⟩ => ⟨he, hw ▸ Below.refl _ _⟩
  generalize hs : AV.vs (sav L) t = X at ha
  cases ha with
  | vsn t' =>
   injection hs with e1 e2
   exact hnone _ _ (by simpa [sav] using e1)
  | vs l t' b off cap sz cs hsz hcap k1 k2 kt =>
   injection hs with e1 e2
   subst e1
   have hsl : (sav L).length = L.length := by simp [sav]
   rw [hsl] at hcap
   rw [show (sav L).length = L.length from hsl]
   cases L with
   | nil => exact hnone _ _ rfl
   | cons x0 r0 =>
    have hsz1 : sz = 1 := by
     have := hsz (.str x0) (by simp [sav])
     rw [<- this]; rfl
    subst hsz1
    have hcl : ∀ (j : Nat) (s : List UInt8), (x0 :: r0)[j]? = some s -> w.cell? ⟨b, off + j, none⟩ = some (.string ⟨s.toArray⟩) /\ b < w.heap.size := by
     intro j s hj
     have hj2 := (List.getElem?_eq_some_iff.1 hj).1
     have q1 := (k1 j 0 (by rw [hsl]; exact hj2) (by omega)).1
     have q2 := k2 j 0 (.str s) (.str s) (by simp only [sav]; rw [List.getElem?_map, hj]; rfl) rfl
     generalize cs j 0 = c at q1 q2
     cases q2
     rw [Nat.mul_one, Nat.add_zero] at q1
     exact ⟨(hc_cell w b (off + j)).trans q1, hc_lt q1⟩
    have hJ := Any.strings_Join Tryz.lays156 Tryz.Builder_Extra_156 b off cap ((x0 :: r0).map fun s => (⟨s.toArray⟩ : ByteArray)) ⟨#[]⟩ w (fun j x hj => by
     rw [List.getElem?_map, Option.map_eq_some_iff] at hj
     obtain ⟨s, e1, rfl⟩ := hj
     exact (hcl j s e1).1) (hcl 0 x0 rfl).2 (by rw [List.length_map]; omega) (by rw [List.length_map]; exact hcap) (by rw [hmap]; rw [show (⟨#[]⟩ : ByteArray).data.toList = [] from rfl, join_nosep]; omega)
    rw [hmap, show (⟨#[]⟩ : ByteArray).data.toList = [] from rfl, join_nosep, List.length_map] at hJ
    exact hJ
  | _ => cases hs
theorem lread_ok {p : Pa} {A : Ar} (wf : A.WF) (r : Rt) (hr : RtOk A r) (hA : ArAt p σ A) : ACalls Tryz.prog 87 [.ptr p.a 0, r.av, .int .i64 0, .int .i64 r.m.b] σ (fun v σ' => v = .tup [.str (r.txt A), .int .i64 0] /\ σ' = σ) := by
 refine ACalls.quietX ?_ rfl
 have hl6 := rtxt_len wf hr
 have hp := pieces_ok wf r hr (hA.ext (by exact eA) : ArAt p (σ.new (.arr r.cs)) A)
 simp only [Rt.av, Rt.cs] at hp
 refine FOk.calls ok87 (by simp [a87]) (wpc_sound hmix ?_)
 show wpc _ _ _ c87 _ _ _
 simp (disch := first | exact dA | fail) only [↓V0, VV, reduceCtorEq, seval, a87, Rt.av, Rt.cs]
 refine hp.mono ?_
 rintro v σ1 ⟨L, t, h1, h2, rfl, hE, _⟩
 simp (disch := first | exact dA | fail) only [↓V0, VV, reduceCtorEq, seval, a87]
 refine (sjoin_ok L t (by rw [h1]; exact hl6) h2).mono ?_
 rintro v σ2 ⟨rfl, rfl⟩
 simp (disch := first | exact dA | fail) only [↓V0, VV, reduceCtorEq, seval, a87]
 rw [h1]
 exact ⟨rfl, (Ext.new _ _).trans hE⟩
end Go.Proofs.YtekhblefchceaaaGreat.AM

/- Contracts: strings.Compare, slice.Compare of two whole ropes. -/
set_option maxRecDepth 20000
namespace Go.Proofs.YtekhblefchceaaaGreat.AM
open Go Go.Proofs Go.RowKit
variable {σ : St}
theorem scomp_ok (a b : List UInt8) : ACalls Tryz.prog 88 [.str a, .str b] σ (fun v σ' => v = .int .i64 (Lib.compareBytes a b) /\ σ' = σ) := by
 refine ACalls.of_below (cX := .int .i64 (Lib.compareBytes a b)) ⟨Tryz.f88, Tryz.func88, by kernel_rfl, by kernel_rfl⟩ (fun g w => .int _ _) fun g w cargs r hv => ?_
 obtain ⟨h1, h2⟩ := hv
 match cargs, h1 with
 | [x, y], _ =>
  have ha := h2 0 _ x rfl rfl
  have hb := h2 1 _ y rfl rfl
  cases ha
  cases hb
  exact (Any.strings_Compare Tryz.lays106 ⟨a.toArray⟩ ⟨b.toArray⟩ w).mono fun e w' ⟨he, hw⟩ => ⟨he, hw ▸ Below.refl _ _⟩
theorem pl_cells (r : Rt) : ∃ c, r.pl.av = .agg c /\ c.length = 7 /\ c.all AV.sc = true := by
 by_cases h : r.h = 0
 ·exact ⟨_, by rw [Rt.pl, if_pos h, Pl.av], rfl, rfl⟩
 ·exact ⟨_, by rw [Rt.pl, if_neg h, Pl.av], rfl, rfl⟩
theorem comp_ok {p : Pa} {A : Ar} (wf : A.WF) (r s : Rt) (hr : RtOk A r) (hs : RtOk A s) (hA : ArAt p σ A) : ACalls Tryz.prog 37 [.ptr p.a 0, r.av, s.av] σ (fun v σ' => v = .tup [.int .i64 (Lib.compareBytes (r.txt A) (s.txt A)), .int .i64 0] /\ σ' = σ) := by
 refine ACalls.quietX ?_ rfl
 have hk1 := fun (σ' : St) (hE : Ext σ σ') => keep_ok wf r hr (hA.ext hE)
 have hk2 := fun (σ' : St) (hE : Ext σ σ') => keep_ok wf s hs (hA.ext hE)
 have hl1 := fun (σ' : St) (hE : Ext σ σ') => lread_ok wf r hr (hA.ext hE)
 have hl2 := fun (σ' : St) (hE : Ext σ σ') => lread_ok wf s hs (hA.ext hE)
 simp only [Rt.av, Rt.cs] at hk1 hk2 hl1 hl2
 obtain ⟨c1, hc1, hd1, he1⟩ := pl_cells r
 obtain ⟨c2, hc2, hd2, he2⟩ := pl_cells s
 refine FOk.calls ok37 (by simp [a37]) (wpc_sound hmix ?_)
 show wpc _ _ _ c37 _ _ _
 simp (disch := first | exact dA | fail) only [↓V0, VV, reduceCtorEq, seval, a37, Rt.av, Rt.cs]
 generalize hσ1 : St.new _ _ = σ1
 have hE1 : Ext σ σ1 := by rw [<- hσ1]; exact eA
 have hn1 : σ1.n = σ.n + 2 := by rw [<- hσ1]; rfl
 have k1 : lk σ1.H σ.n = some (.arr r.cs) := by rw [<- hσ1]; simp (disch := first | exact dA | fail) only [↓V0, VV, reduceCtorEq, seval, a37, Rt.cs]
 have k2 : lk σ1.H (σ.n + 1) = some (.arr s.cs) := by rw [<- hσ1]; simp (disch := first | exact dA | fail) only [↓V0, VV, reduceCtorEq, seval, a37, Rt.cs]
 simp only [Rt.cs] at k1 k2
 clear hσ1
 refine AW.lp hmix (fun k ρ σ' => Ext σ1 σ' /\ k <= 2 /\ ρ 0 = .ptr p.a 0 /\ ρ 4 = .ptr σ.n 0 /\ ρ 5 = .ptr (σ.n + 1) 0 /\ ρ 17 = .vs [.agg r.cs, .agg s.cs] .ex /\ ρ 18 = .int .i64 2 /\ ρ 19 = .int .i64 ((2 - k : Nat) : Nat)) 2
  ⟨Ext.refl _, Nat.le_refl _, by exact wA, by exact wA, by exact wA, by (simp only [↓W0, W, reduceCtorEq, seval, Rt.cs]; first | done | rfl | omega | simp), by exact wA, by exact wA⟩ (fun k ρ σ' hI => ?_)
 obtain ⟨hE, hk, r0, r4, r5, r17, r18, r19⟩ := hI
 simp only [Rt.cs] at r17
 have k1' := (hE.2 _ (by omega)).trans k1
 have k2' := (hE.2 _ (by omega)).trans k2
 match k, hk with
 | 0, _ =>
  simp (disch := first | exact dA | fail) only [↓V0, VV, reduceCtorEq, seval, a37, r0, r4, r5, r17, r18, r19, k1', k2']
  refine callQE (by first | rfl | simp only [WQ, treeCs, Ms.av, Ms.cs]) ((hl1 _ (hE1.trans hE))) ?_
  simp (disch := first | exact dA | fail) only [↓V0, VV, reduceCtorEq, seval, a37, r0, r4, r5, r17, r18, r19, k1', k2']
  refine callQE (by first | rfl | simp only [WQ, treeCs, Ms.av, Ms.cs]) ((hl2 _ (hE1.trans hE))) ?_
  simp (disch := first | exact dA | fail) only [↓V0, VV, reduceCtorEq, seval, a37, r0, r4, r5, r17, r18, r19, k1', k2']
  refine (scomp_ok _ _).mono ?_
  rintro v σ2 ⟨rfl, rfl⟩
  simp (disch := first | exact dA | fail) only [↓V0, VV, reduceCtorEq, seval, a37, r0, r4, r5, r17, r18, r19, k1', k2']
  exact ⟨rfl, hE1.trans hE⟩
 | 1, _ =>
  simp (disch := first | exact dA | fail) only [↓V0, VV, reduceCtorEq, seval, a37, r0, r4, r5, r17, r18, r19, k1', k2']
  refine callQE (by first | rfl | simp only [WQ, treeCs, Ms.av, Ms.cs]) ((hk2 _ (hE1.trans (hE.trans (by exact eA))))) ?_
  simp (disch := first | exact dA | fail) only [↓V0, VV, reduceCtorEq, seval, a37, r0, r4, r5, r17, r18, r19, k1', k2', hc2, hd2, he2]
  refine ⟨0, by omega, hE.trans (by exact eA), by omega, ?_⟩
  (simp only [↓W0, W, reduceCtorEq, seval, r0, r4, r5, r17, r18, r19]; first | done | rfl | omega | simp)
 | 2, _ =>
  simp (disch := first | exact dA | fail) only [↓V0, VV, reduceCtorEq, seval, a37, r0, r4, r5, r17, r18, r19, k1', k2']
  refine callQE (by first | rfl | simp only [WQ, treeCs, Ms.av, Ms.cs]) ((hk1 _ (hE1.trans (hE.trans (by exact eA))))) ?_
  simp (disch := first | exact dA | fail) only [↓V0, VV, reduceCtorEq, seval, a37, r0, r4, r5, r17, r18, r19, k1', k2', hc1, hd1, he1]
  refine ⟨1, by omega, hE.trans (by exact eA), by omega, ?_⟩
  (simp only [↓W0, W, reduceCtorEq, seval, r0, r4, r5, r17, r18, r19]; first | done | rfl | omega | simp)
end Go.Proofs.YtekhblefchceaaaGreat.AM

