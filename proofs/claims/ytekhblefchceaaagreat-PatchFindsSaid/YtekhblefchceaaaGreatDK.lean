/- Joined: D36, D37, D38. -/
import Derived.Test.YtekhblefchceaaaGreatDJ
set_option linter.unusedVariables false
set_option linter.unusedSimpArgs false
/- Contracts: quartolaw16.plans of one operation. -/
set_option maxRecDepth 20000
namespace Go.Proofs.YtekhblefchceaaaGreat.AM
open Go Go.Proofs
variable {σ : St}
structure Op6 where
 k : AV
 w : Int
 a : Int
 n : Int
 s : List UInt8
def Op6.av (o : Op6) : AV := .agg [o.k, .int .i64 o.w, .int .i64 o.a, .int .i64 o.n, .str o.s]
noncomputable def opP (A : Ar) (rs : List Rt) (o : Op6) : Pl :=
 if rs = [] then bldP o.s else
  let r := rs.getD (pk o.w (rs.length - 1)) Rt.z
  rplP A r.pl (pk o.a r.m.b) (pk o.n (r.m.b - pk o.a r.m.b)) o.s
noncomputable def opT (ts : List (List UInt8)) (o : Op6) : List UInt8 :=
 if ts = [] then o.s else
  let t := ts.getD (pk o.w (ts.length - 1)) []
  t.take (pk o.a t.length) ++ (o.s ++ t.drop (pk o.a t.length + pk o.n (t.length - pk o.a t.length)))
theorem getD_ne {α : Type} {l : List α} (h : l ≠ []) (w : Int) (z : α) : pk w (l.length - 1) < l.length := by
 have := pk_le w (l.length - 1)
 have : 0 < l.length := List.length_pos_iff.2 h
 omega
theorem opP_spec {A : Ar} (wf : A.WF) {rs : List Rt} {ts : List (List UInt8)} (hR : RtsOk A rs ts) (o : Op6) (hb : ∀ t, t ∈ ts -> t.length + o.s.length <= 65536) (ho : o.s.length <= 65536) : OkP A (opP A rs o) /\ (opP A rs o).txt A = opT ts o := by
 obtain ⟨b1, b2, _⟩ := bldP_spec o.s ho
 unfold opP opT
 by_cases h : rs = []
 ·have h2 : ts = [] := List.length_eq_zero_iff.1 (by rw [<- hR.1, h]; rfl)
  rw [if_pos h, if_pos h2]
  exact ⟨b1 A, b2 A⟩
 ·have h2 : ts ≠ [] := fun e => h (List.length_eq_zero_iff.1 (by rw [hR.1, e]; rfl))
  rw [if_neg h, if_neg h2]
  have hlt := getD_ne h o.w Rt.z
  obtain ⟨r1, r2⟩ := hR.2 _ hlt
  rw [<- hR.1]
  have hmem : ts.getD (pk o.w (rs.length - 1)) [] ∈ ts := List.mem_of_getElem? (i := pk o.w (rs.length - 1)) (by
   have : pk o.w (rs.length - 1) < ts.length := by rw [<- hR.1]; exact hlt
   simp [List.getD_eq_getElem?_getD, this])
  have hbt := hb _ hmem
  simp only
  generalize ts.getD (pk o.w (rs.length - 1)) [] = t at *
  generalize rs.getD (pk o.w (rs.length - 1)) Rt.z = r at *
  obtain ⟨m1, m2⟩ := rt_bytes wf r1
  have m3 : r.m.b = t.length := by rw [r2] at m2; omega
  rw [r2] at m1
  have p1 := pk_le o.a r.m.b
  have p2 := pk_le o.n (r.m.b - pk o.a r.m.b)
  have hs := rplP_spec wf (r1.okp wf) (at_ := pk o.a r.m.b) (n := pk o.n (r.m.b - pk o.a r.m.b)) (s := o.s) (by omega) (by omega) (by omega) (by omega)
  have e : r.pl.txt A = t := r2
  rw [e] at hs
  rw [m3] at hs ⊢
  exact hs
theorem plans_ok {p : Pa} {A : Ar} (wf : A.WF) {rs : List Rt} {ts : List (List UInt8)} (hR : RtsOk A rs ts) (hl : rs.length <= 1000000) (o : Op6) (hk : o.k.er = o.k /\ o.k.cells = [o.k] /\ AV.sc o.k = true) (hb : ∀ t, t ∈ ts -> t.length + o.s.length <= 65536) (ho : o.s.length <= 65536) (tk : Tok) (hA : ArAt p σ A) :
  ACalls Tryz.prog 42 [.ptr p.a 0, .vs (rs.map Rt.av) tk, .vs [o.av] .no] σ (fun v σ' => v = .tup [.vs [(opP A rs o).av] .no, .bool true] /\ σ' = σ) := by
 refine ACalls.quietX ?_ (by simp only [AV.pur, purL, Pl.pur, Tok.pur, Bool.and_self])
 have hlr : (rs.map Rt.av).length = rs.length := List.length_map _
 refine FOk.calls ok42 (by simp [a42]) (wpc_sound hmix ?_)
 show wpc _ _ _ c42 _ _ _
 simp (disch := first | exact dA | fail) only [↓V0, VV, reduceCtorEq, seval, a42]
 refine AW.upto hmix (fun i ρ σ' => ρ 0 = .ptr p.a 0 /\ ρ 1 = .vs (rs.map Rt.av) tk /\ ρ 2 = .vs [o.av] .no /\ ρ 9 = .int .i64 (i : Nat) /\ Ext σ σ' /\ ∃ t, ρ 8 = .vs (if i = 0 then [] else [(opP A rs o).av]) t /\ Own σ σ' t) 1
  ⟨by exact wA, by exact wA, by exact wA, by exact wA, by exact eA, .ex, by exact wA, .ex (by exact eA)⟩ (fun i ρ σ' hi h => ?_) (fun ρ σ' h => ?_)
 ·obtain ⟨r0, r1, r2, r9, hE, t, r8, hO⟩ := h
  have hi0 : i = 0 := by omega
  subst hi0
  rw [if_pos rfl] at r8
  by_cases hrs : rs = []
  ·have hpl : opP A rs o = bldP o.s := if_pos hrs
   subst hrs
   rw [hpl]
   simp (disch := first | exact dA | fail) only [↓V0, VV, reduceCtorEq, seval, a42, r0, r1, r2, r9, Op6.av, hk.2.1, hk.2.2]
   refine callQ (build_ok o.s (by omega)) ?_
   have hO2 := hO.ext2 (σ' := (σ'.new (.arr [.int .u64 0, .int .i64 0, .int .i64 0, .int .i64 0, .int .i64 0, .str [], .vs [] .ex])).set σ'.n (.arr (bldP o.s).cs)) (by exact eA)
   have hap := hO2.app
   have htg := hO2.ok.g
   simp only [Pl.cs, treeCs] at hap htg
   generalize bldP o.s = P at *
   simp (disch := first | exact dA | fail) only [↓V0, VV, reduceCtorEq, seval, a42, r0, r1, r2, r8, r9, Pl.av_eq, treeCs, ↓eval_app, appA_S, appA_M]
   refine ⟨rfl, hap.ext, _, rfl, hap⟩
  ·have hlt := getD_ne hrs o.w Rt.z
   obtain ⟨w1, w2⟩ := hR.2 _ hlt
   have hgr : (rs.map Rt.av)[pk o.w (rs.length - 1)]? = some (rs.getD (pk o.w (rs.length - 1)) Rt.z).av := by simp [List.getD_eq_getElem?_getD, hlt]
   have hpl : opP A rs o = rplP A (rs.getD (pk o.w (rs.length - 1)) Rt.z).pl (pk o.a (rs.getD (pk o.w (rs.length - 1)) Rt.z).m.b) (pk o.n ((rs.getD (pk o.w (rs.length - 1)) Rt.z).m.b - pk o.a (rs.getD (pk o.w (rs.length - 1)) Rt.z).m.b)) o.s := if_neg hrs
   have hlp : 0 < rs.length := List.length_pos_iff.2 hrs
   have hlr0 : (((rs.map Rt.av).length : Int) = 0) = False := eq_false (by rw [hlr]; omega)
   have hlr1 : ((rs.map Rt.av).length : Int) - 1 = ((rs.length - 1 : Nat) : Int) := by rw [hlr]; omega
   have hmem : ts.getD (pk o.w (rs.length - 1)) [] ∈ ts := List.mem_of_getElem? (i := pk o.w (rs.length - 1)) (by
    have : pk o.w (rs.length - 1) < ts.length := by rw [<- hR.1]; exact hlt
    simp [List.getD_eq_getElem?_getD, this])
   have hbt := hb _ hmem
   rw [hpl]
   generalize rs.getD (pk o.w (rs.length - 1)) Rt.z = r at *
   simp (disch := first | exact dA | fail) only [↓V0, VV, reduceCtorEq, seval, a42, r0, r1, r2, r9, Op6.av, hk.2.1, hk.2.2, hlr1, hlr0]
   refine callQ (pick45_ok o.w (rs.length - 1) (by omega)) ?_
   simp (disch := first | exact dA | fail) only [↓V0, VV, reduceCtorEq, seval, a42, r0, r1, hgr, Rt.av, Rt.cs]
   have hmb : r.m.b <= 65536 := by
    have := rtxt_len wf w1
    rw [<- (rt_bytes wf w1).1, Rt.bytes_m wf w1] at this
    exact this
   have hpb := Rt.bytes_m wf w1
   have hrb := (rt_bytes wf w1).1
   rw [w2] at hrb
   have p1 := pk_le o.a r.m.b
   have p2 := pk_le o.n (r.m.b - pk o.a r.m.b)
   have hE2 : Ext σ' ((σ'.new (.arr [.int .u64 0, .int .i64 0, .int .i64 0, .int .i64 0, .int .i64 0])).set σ'.n (.arr [.int .u64 r.h, .int .i64 r.ht, .int .i64 r.m.b, .int .i64 r.m.r, .int .i64 r.m.l])) := by exact eA
   have hkp := keep_ok wf r w1 (hA.ext (hE.trans hE2))
   simp only [Rt.av, Rt.cs] at hkp
   refine callQE (by first | rfl | simp only [WQ, treeCs, Ms.av, Ms.cs]) (hkp) ?_
   simp (disch := first | exact dA | fail) only [↓V0, VV, reduceCtorEq, seval, a42, r0, r1, r2, r9, Op6.av, hk.2.1, hk.2.2, Pl.av_eq, treeCs]
   refine callQ (pick45_ok o.a r.m.b (by omega)) ?_
   simp (disch := first | exact dA | fail) only [↓V0, VV, reduceCtorEq, seval, a42, r0, r1, r2, r9]
   generalize hσ2 : St.set _ _ _ = σ2
   have hE3 : Ext σ' σ2 := by rw [<- hσ2]; exact eA
   have hn2 : σ2.n = σ'.n + 2 := by rw [<- hσ2]; rfl
   have ka : lk σ2.H σ'.n = some (.arr r.cs) := by rw [<- hσ2]; simp (disch := first | exact dA | fail) only [↓V0, VV, reduceCtorEq, seval, a42, Rt.cs]
   have kb : lk σ2.H (σ'.n + 1) = some (.arr r.pl.cs) := by rw [<- hσ2]; simp (disch := first | exact dA | fail) only [↓V0, VV, reduceCtorEq, seval, a42, Pl.cs, treeCs]
   clear hσ2
   have hA3 := hA.ext (hE.trans hE3)
   have hro := replace_ok wf r.pl (pk o.a r.m.b) (pk o.n (r.m.b - pk o.a r.m.b)) o.s (w1.okp wf) (by omega) (by omega) (by omega) (by omega) hA3
   have hcb : ((r.m.b : Int) - (pk o.a r.m.b : Nat)) = ((r.m.b - pk o.a r.m.b : Nat) : Int) := by omega
   simp only [Rt.cs] at ka
   simp only [Pl.cs, treeCs] at kb
   refine AW.qx (some 23) (.p 0 (.p 1 (.p 2 (.p 3 (.p 4 (.p 5 (.p 6 (.p 7 (.p 8 (.p 9 (.p 10 (.p 11 (.p 12 (.p 14 (.p 15 (.p 16 (.p 17 (.p 18 (.r 13 (.a 19 (.p 20 (.p 21 (.p 22 (.z 23 (.p 24 .nil))))))))))))))))))))))))) [(σ'.n, .arr r.cs), (σ'.n + 1, .arr r.pl.cs)] hmix (by decide) (by decide) (SB.cons ka (SB.cons kb (SB.nil _))) ?_
   simp (disch := first | exact dA | fail) only [↓V0, VV, reduceCtorEq, seval, a42, r0, r1, r2, r9, Rt.cs, Pl.cs, treeCs, hcb, Op6.av, hk.2.1, hk.2.2]
   refine aqr (.int .i64 (pk o.n (r.m.b - pk o.a r.m.b) : Nat)) (fun σ'' _ => ?_) ?_
   ·simp (disch := first | exact dA | fail) only [↓V0, VV, reduceCtorEq, seval, a42]
    refine callQ (pick45_ok o.n (r.m.b - pk o.a r.m.b) (by omega)) ?_
    exact ⟨rfl, rfl⟩
   simp (disch := first | exact dA | fail) only [↓V0, VV, reduceCtorEq, seval, a42]
   refine callQE (by first | rfl | simp only [WQ, treeCs, Ms.av, Ms.cs]) (hro) ?_
   generalize rplP A r.pl (pk o.a r.m.b) (pk o.n (r.m.b - pk o.a r.m.b)) o.s = P at *
   simp (disch := first | exact dA | fail) only [↓V0, VV, reduceCtorEq, seval, a42, Pl.av_eq, treeCs]
   refine ⟨SB.cons ka (SB.cons kb (SB.nil _)), ?_⟩
   have hO2 := (hO.ext2 hE3).set (β := σ'.n + 1) (by have := hE.1; omega) (by rw [kb]; simp) (.arr [.int .u64 P.old, .int .i64 P.ht, .int .i64 P.m.b, .int .i64 P.m.r, .int .i64 P.m.l, .str P.tx, .vs (P.ks.map Pl.av) .no])
   have hap := hO2.app
   have htg := hO2.ok.g
   simp (disch := first | exact dA | fail) only [↓V0, VV, reduceCtorEq, seval, a42, kb, r8, r9, r0, r1, r2, ↓eval_app]
   rw [appA_S (fit_nil 7) rfl (by simp) htg]
   simp (disch := first | exact dA | fail) only [↓V0, VV, reduceCtorEq, seval, a42, r9, r0, r1, r2]
   exact ⟨rfl, hap.ext, _, rfl, hap⟩
 ·obtain ⟨r0, r1, r2, r9, hE, t, r8, hO⟩ := h
  rw [if_neg (by decide)] at r8
  simp (disch := first | exact dA | fail) only [↓V0, VV, reduceCtorEq, seval, a42, r0, r1, r2, r8, r9]
  exact ⟨by simp only [WE, Pl.ers, Pl.er], hE⟩
end Go.Proofs.YtekhblefchceaaaGreat.AM

/- Contracts: quartolaw16.Make. -/
set_option maxRecDepth 20000
namespace Go.Proofs.YtekhblefchceaaaGreat.AM
open Go Go.Proofs
variable {σ : St}
def Two (t t' : Tok) : Prop := ∀ τ, t = .id τ -> t' ≠ .id τ
theorem Own.rt2 {σ0 : St} {t t' : Tok} (h : Own σ0 σ t) (h' : Own σ0 σ t') (h2 : Two t t') : Own σ0 (σ.rt t) t' := by
 refine ⟨tokok_mono h'.1 (by rw [rt_n]; omega) fun τ e => ?_, rt_ext h.1 h.2⟩
 subst e
 rw [rt_ne h.1 h'.1.2.1 (fun e => h2 τ e rfl)]
 exact h'.1.2.2
theorem Own.fresh {σ0 : St} {t : Tok} (h : Own σ0 σ t) : Two (.id σ.n) t := fun τ e e' => by
 cases e
 subst e'
 have := h.1.2.1
 omega
theorem Two.symm {t t' : Tok} (h : Two t t') : Two t' t := fun τ e e' => h τ e' e
theorem Own.fresh2 {σ0 : St} {t : Tok} (h : Own σ0 σ t) : Two t (.id σ.n) := Two.symm (Own.fresh h)
theorem Own.set2 {σ0 : St} {t : Tok} (h : Own σ0 σ t) {b : Nat} {x c : Blk} (hx : lk σ.H b = some x) (hn : x ≠ .tok) (hb : σ0.n <= b) : Own σ0 (σ.set b c) t := h.set hb (by rw [hx]; simpa using hn) c
theorem opT_len (ts : List (List UInt8)) (o : Op6) (m : Nat) (hm : ∀ t, t ∈ ts -> t.length <= m) : (opT ts o).length <= m + o.s.length := by
 unfold opT
 split
 ·omega
 ·rename_i h
  have hlt := getD_ne h o.w []
  have := hm _ (List.mem_of_getElem? (i := pk o.w (ts.length - 1)) (a := ts.getD (pk o.w (ts.length - 1)) []) (by simp [List.getD_eq_getElem?_getD, hlt]))
  simp only
  generalize ts.getD (pk o.w (ts.length - 1)) [] = t at *
  have := pk_le o.a t.length
  simp only [List.length_append, List.length_take, List.length_drop]
  omega
def opOk (o : Op6) : Prop := (o.k.er = o.k /\ o.k.cells = [o.k] /\ AV.sc o.k = true) /\ o.s.length <= 200
theorem fit_ops {ops : List Op6} (h : ∀ o, o ∈ ops -> opOk o) : fitSz 5 (ops.map Op6.av) = true := fit_all fun x hx => by
 obtain ⟨y, hy, rfl⟩ := List.mem_map.1 hx
 refine ⟨rfl, ?_⟩
 have hk := (h y hy).1.2.2
 show allSc [y.k, .int .i64 y.w, .int .i64 y.a, .int .i64 y.n, .str y.s] = true
 unfold allSc
 rw [List.all_cons, hk]
 rfl
structure MkJ (p : Pa) (σ0 σ : St) (A : Ar) (rs : List Rt) (ts : List (List UInt8)) (i : Nat) (tk tk' : Tok) : Prop where
 g : A.Good
 r : RtsOk A rs ts
 b : ∀ t, t ∈ ts -> t.length <= 900 + 200 * i
 l : rs.length <= 4 + i
 a : ArAt p σ A
 o : Own σ0 σ tk
 o' : Own σ0 σ tk'
 w : Two tk tk'
theorem qmake_ok (ts : List (List UInt8)) (ops : List Op6) (hl : ts.length <= 4) (hb : (ts.map List.length).sum <= 900) (hol : ops.length <= 12) (ho : ∀ o, o ∈ ops -> opOk o) :
  ACalls Tryz.prog 9 [.vs (sav ts) .no, .vs (ops.map Op6.av) .no] σ (fun v σ' => ∃ (p : Pa) (A : Ar) (rs : List Rt) (ts' : List (List UInt8)) (tk tk' : Tok), v = .tup [.ptr p.a 0, .vs (rs.map Rt.av) tk, .vs (sav ts') tk', .bool true] /\ MkJ p σ σ' A rs ts' ops.length tk tk' /\ ∀ β, p.has β -> σ.n <= β) := by
 refine FOk.calls ok9 (by simp [a9]) (wpc_sound hmix ?_)
 show wpc _ _ _ c9 _ _ _
 simp (disch := first | exact dA | fail) only [↓V0, VV, reduceCtorEq, seval, a9]
 refine (laid_ok ts hl hb .no).mono ?_
 rintro v σ1 ⟨p, A, rs, tk, rfl, hG, hR, hA, hO, hp⟩
 simp (disch := first | exact dA | fail) only [↓V0, VV, reduceCtorEq, seval, a9]
 have hts : ∀ t, t ∈ ts -> t.length <= 900 + 200 * 0 := fun t ht => by
  obtain ⟨i, hi, he⟩ := List.getElem_of_mem ht
  have := sum_take_lt (ts.map List.length) i (by rw [List.length_map]; exact hi)
  rw [List.getElem_map, he] at this
  omega
 have hrl : rs.length <= 4 + 0 := by rw [hR.1]; omega
 have hol' : (ops.map Op6.av).length = ops.length := List.length_map _
 have hfo := fit_ops ho
 have main : ∀ (σ2 : St) (ρ : Env) (tk' : Tok), ρ 1 = .vs (ops.map Op6.av) .no -> ρ 8 = .ptr p.a 0 -> ρ 9 = .vs (rs.map Rt.av) tk -> ρ 11 = .vs (sav ts) tk' -> ρ 12 = .int .i64 0 -> MkJ p σ σ2 A rs ts 0 tk tk' ->
   AW Tryz.prog none 83 l9_20.loop (inBl 0 (kS Tryz.prog none 83 ((ACode.rg r9_20).seq ACode.ret) (FPost [.tmp 4, .tmp 5, .tmp 6, .tmp 7] fun v σ' => ∃ (p : Pa) (A : Ar) (rs : List Rt) (ts' : List (List UInt8)) (tk tk' : Tok), v = .tup [.ptr p.a 0, .vs (rs.map Rt.av) tk, .vs (sav ts') tk', .bool true] /\ MkJ p σ σ' A rs ts' ops.length tk tk' /\ ∀ β, p.has β -> σ.n <= β))) ρ σ2 := by
  intro σ2 ρ tk' r1 r8 r9 r11 r12 hM
  refine AW.upto hmix (fun i ρ σ' => ρ 1 = .vs (ops.map Op6.av) .no /\ ρ 8 = .ptr p.a 0 /\ ρ 12 = .int .i64 (i : Nat) /\ ∃ A rs ts' tk tk', ρ 9 = .vs (rs.map Rt.av) tk /\ ρ 11 = .vs (sav ts') tk' /\ MkJ p σ σ' A rs ts' i tk tk') ops.length
   ⟨r1, r8, r12, A, rs, ts, tk, tk', r9, r11, hM⟩ (fun i ρ σ' hi h => ?_) (fun ρ σ' h => ?_)
  ·clear hM r1 r8 r9 r11 r12 hA hR hG hO hrl hts
   obtain ⟨r1, r8, r12, A, rs, ts, tk, tk', r9, r11, ⟨hG, hR, hB, hL, hA, hO, hO', hTw⟩⟩ := h
   have hsl : ((ops.map Op6.av).drop i).take 1 = [ops[i].av] := by rw [List.drop_eq_getElem_cons (by rw [hol']; exact hi)]; simp
   have hsl2 : ((ops.map Op6.av).take (i + 1)).drop i = [ops[i].av] := by rw [List.drop_take]; simpa using hsl
   have hoi := ho _ (List.getElem_mem hi)
   generalize ops[i] = o at *
   simp (disch := first | exact dA | fail) only [↓V0, VV, reduceCtorEq, seval, a9, r1, r8, r9, r11, r12, hol', hsl, hsl2, hfo, ite_self]
   obtain ⟨hkk, hos⟩ := hoi
   have hPs := opP_spec hG.wf hR o (fun t ht => by have := hB t ht; omega) (by omega)
   have hPl := opT_len ts o _ hB
   refine callQ (plans_ok hG.wf hR (by omega) o hkk (fun t ht => by have := hB t ht; omega) (by omega) tk hA) ?_
   generalize opP A rs o = P at *
   generalize opT ts o = T at *
   obtain ⟨hP1, hP2⟩ := hPs
   have hPb := hP1.bytes hG.wf
   rw [hP2] at hPb
   simp (disch := first | exact dA | fail) only [↓V0, VV, reduceCtorEq, seval, a9, r1, r8, r9, r11, r12, Pl.av_eq, treeCs]
   refine callQE (by first | rfl | simp only [WQ, treeCs, Ms.av, Ms.cs]) (ptext_ok hG.wf P hP1 (by omega) hA) ?_
   simp (disch := first | exact dA | fail) only [↓V0, VV, reduceCtorEq, seval, a9, r1, r8, r9, r11, r12, Pl.av_eq, treeCs]
   refine callE (by first | rfl | simp only [WQ, treeCs, Ms.av, Ms.cs]) (write_any hG P hP1 (by omega) hA) ?_
   rintro v σ3 ⟨r', hs, e, B, rfl, hW, z1, z2⟩
   have hO2 := hO.fr hA hp z2
   have hO2' := hO'.fr hA hp z2
   rcases hW.alt with ⟨rfl, w1, w2, w3⟩ | ⟨rfl, rfl, rfl, _⟩
   ·have hO3 := hO2.ext2 (σ' := (σ3.new (.arr Rt.z.cs)).set σ3.n (.arr r'.cs)) (by exact eA)
    have hO3' := hO2'.ext2 (σ' := (σ3.new (.arr Rt.z.cs)).set σ3.n (.arr r'.cs)) (by exact eA)
    have hA3 := z1.ext (σ' := (σ3.new (.arr Rt.z.cs)).set σ3.n (.arr r'.cs)) (by exact eA)
    have hrr : lk ((σ3.new (.arr Rt.z.cs)).set σ3.n (.arr r'.cs)).H σ3.n = some (.arr r'.cs) := by simp [lk_set, lk_new]
    have hnn : ((σ3.new (.arr Rt.z.cs)).set σ3.n (.arr r'.cs)).n = σ3.n + 1 := rfl
    simp (disch := first | exact dA | fail) only [↓V0, VV, reduceCtorEq, seval, a9, r1, r8, r9, r11, r12, Rt.av, Rt.cs]
    simp only [Rt.cs, Rt.z, Ms.z] at hO3 hO3' hA3 hrr hnn
    generalize hS : St.set (St.new σ3 _) _ _ = S at *
    have hrl := hR.1
    have hfr := fit_rts rs
    have hlr : (rs.map Rt.av).length = rs.length := List.length_map _
    have hfs := fit_sav ts
    have hls : (sav ts).length = ts.length := by simp [sav]
    have hO4 := hO3.rt2 hO3' hTw
    have hO4' := hO3.app
    have hA4 := hA3.rt hO3.ok hO3.ext.1
    have hW4 := hO3'.fresh
    rw [appA_S hfr rfl (by rw [hlr]; omega) hO3.ok.g]
    simp (disch := first | exact dA | fail) only [↓V0, VV, reduceCtorEq, seval, a9, r1, r8, r9, r11, r12]
    generalize S.rt tk = S2 at *
    rw [appA_S hfs rfl (by rw [hls]; omega) hO4.ok.g]
    have hO5 := hO4.app
    have hO5' := hO4.rt2 hO4' hW4.symm
    have hA5 := hA4.rt hO4.ok hO4.ext.1
    simp (disch := first | exact dA | fail) only [↓V0, VV, reduceCtorEq, seval, a9, r1, r8, r9, r11, r12]
    have he1 : (rs ++ [r']).map Rt.av = rs.map Rt.av ++ [r'.av] := by simp
    have he2 : sav (ts ++ [T]) = sav ts ++ [.str T] := by simp [sav]
    refine ⟨rfl, B, rs ++ [r'], ts ++ [T], .id S.n, .id S2.n, by rw [he1]; rfl, by rw [he2, hP2], ⟨hW.g, (hR.mono hG.wf hW.s).snoc w1 (w2.trans hP2), fun t ht => ?_, by simp; omega, hA5, hO5', hO5, hO4'.fresh2⟩⟩
    rcases List.mem_append.1 ht with ht | ht
    ·have := hB t ht; omega
    ·rw [List.mem_singleton] at ht; subst ht; omega
   ·simp (disch := first | exact dA | fail) only [↓V0, VV, reduceCtorEq, seval, a9, r1, r8, r9, r11, r12, Rt.av, Rt.cs, Rt.z]
    exact ⟨rfl, _, rs, ts, tk, tk', rfl, rfl, ⟨hG, hR, fun t ht => by have := hB t ht; omega, by omega, z1.ext (by exact eA), hO2.ext2 (by exact eA), hO2'.ext2 (by exact eA), hTw⟩⟩
  ·obtain ⟨r1, r8, r12, A, rs, ts', tk, tk', r9, r11, hM⟩ := h
   simp (disch := first | exact dA | fail) only [↓V0, VV, reduceCtorEq, seval, a9, r1, r8, r9, r11, r12, hol']
   exact ⟨p, A, rs, ts', tk, tk', rfl, hM, hp⟩
 cases ts with
 | nil =>
  simp (disch := first | exact dA | fail) only [↓V0, VV, reduceCtorEq, seval, a9, show sav [] = [] from rfl, appA_nil]
  refine main _ _ .ex (by exact wA) (by exact wA) (by exact wA) (by exact wA) (by exact wA) ⟨hG, hR, hts, hrl, hA, hO, .ex hO.ext, fun τ _ e => by cases e⟩
 | cons t ts =>
  have hf := fit_sav (t :: ts)
  have hne : sav (t :: ts) ≠ [] := by simp [sav]
  have hln : (sav (t :: ts)).length <= 4 := by simp [sav] at hl ⊢; omega
  have hx : Own σ σ1 .ex := .ex hO.ext
  have htx : TokG σ1 .ex := trivial
  generalize hL : sav (t :: ts) = L at *
  rw [appA_M (l := []) hne (fit_nil 1) hf (by simp; omega) htx]
  simp (disch := first | exact dA | fail) only [↓V0, VV, reduceCtorEq, seval, a9]
  refine main _ _ (.id σ1.n) (by exact wA) (by exact wA) (by exact wA) (by exact wA) (by exact wA) ⟨hG, hR, hts, hrl, hA.rt hx.ok hO.ext.1, ?_, hx.app, ?_⟩
  ·exact hx.rt2 hO (fun τ e => by cases e)
  ·exact hO.fresh2
end Go.Proofs.YtekhblefchceaaaGreat.AM

/- Contracts: quartolaw16.Beyond. -/
set_option maxRecDepth 20000
namespace Go.Proofs.YtekhblefchceaaaGreat.AM
open Go Go.Proofs
variable {σ : St}
def mins (ts : List (List UInt8)) : List Nat := ts.map fun t => min t.length 1000
theorem long_ok (ts : List (List UInt8)) (hl : ts.length <= 9223372036854775807) (hs : ∀ t, t ∈ ts -> t.length <= 9223372036854775807) : ACalls Tryz.prog 39 [.vs (sav ts) .no] σ (fun v σ' => (∃ b, v = .bool b /\ (b = false -> ts.length <= 4 /\ (ts.map List.length).sum <= 900)) /\ σ' = σ) := by
 refine ACalls.quiet (K := fun v => ∃ b, v = .bool b /\ (b = false -> ts.length <= 4 /\ (ts.map List.length).sum <= 900)) ?_ (fun v ⟨b, h, _⟩ => by rw [h]; rfl)
 have hls : (sav ts).length = ts.length := by simp [sav]
 refine FOk.calls ok39 (by simp [a39]) (wpc_sound hmix ?_)
 show wpc _ _ _ c39 _ _ _
 simp (disch := first | exact dA | fail) only [↓V0, VV, reduceCtorEq, seval, a39]
 refine AW.lp hmix (fun k ρ σ' => ∃ i, i <= ts.length /\ k = ts.length - i /\ ρ 0 = .vs (sav ts) .no /\ ρ 4 = .int .i64 (i : Nat) /\ ρ 3 = .int .i64 (((mins ts).take i).sum : Nat) /\ ((mins ts).take i).sum <= 1900 /\ Ext σ σ') ts.length
  ⟨0, by omega, rfl, by exact wA, by exact wA, by exact wA, by simp, by exact eA⟩ ?_
 rintro k ρ σ' ⟨i, hi, rfl, r0, r4, r3, h3, hE⟩
 have hfin : ts.length <= 4 -> i = ts.length -> ((mins ts).take i).sum <= 900 -> ts.length <= 4 /\ (ts.map List.length).sum <= 900 := by
  intro h1 h2 h3
  refine ⟨h1, ?_⟩
  have key : ∀ l : List (List UInt8), (mins l).sum <= 900 -> (l.map List.length).sum = (mins l).sum := by
   intro l
   induction l with
   | nil => intro _; rfl
   | cons a l ih =>
    intro h
    simp only [mins, List.map_cons, List.sum_cons] at h ih ⊢
    have := ih (by omega)
    omega
  rw [List.take_of_length_le (by unfold mins; rw [List.length_map]; omega)] at h3
  rw [key ts h3]; exact h3
 by_cases h1 : i < ts.length
 ·by_cases h2 : ((mins ts).take i).sum <= 900
  ·have hgi : (sav ts)[i]? = some (.str ts[i]) := by simp [sav, h1]
   have hsl := hs _ (List.getElem_mem h1)
   have htk : ((mins ts).take (i + 1)).sum = ((mins ts).take i).sum + min ts[i].length 1000 := by
    unfold mins
    rw [List.take_succ_eq_append_getElem (by rw [List.length_map]; exact h1), List.sum_append, List.getElem_map]; simp
   clear hfin
   generalize ts[i] = t at *
   generalize ((mins ts).take i).sum = m at *
   simp (disch := first | exact dA | fail) only [↓V0, VV, reduceCtorEq, seval, a39, r0, r4, r3, hls, hgi]
   exact ⟨ts.length - (i + 1), by omega, i + 1, by omega, rfl, by congr 1, by rw [htk]; congr 1; split <;> omega, by omega, hE⟩
  ·clear hfin
   generalize ((mins ts).take i).sum = m at *
   by_cases h4 : 4 < ts.length
   ·simp (disch := first | exact dA | fail) only [↓V0, VV, reduceCtorEq, seval, a39, r0, r4, r3, hls, eq_false (show ¬ (m : Int) <= 900 by omega), eq_true (show (4 : Int) < (ts.length : Int) by omega)]
    exact ⟨⟨true, by simp only [WE], fun h => by cases h⟩, hE⟩
   ·simp (disch := first | exact dA | fail) only [↓V0, VV, reduceCtorEq, seval, a39, r0, r4, r3, hls, eq_false (show ¬ (m : Int) <= 900 by omega), eq_false (show ¬ (4 : Int) < (ts.length : Int) by omega), eq_true (show (900 : Int) < (m : Int) by omega)]
    exact ⟨⟨true, by simp only [WE], fun h => by cases h⟩, hE⟩
 ·have hie : i = ts.length := by omega
  by_cases h2 : ((mins ts).take i).sum <= 900
  ·by_cases h4 : 4 < ts.length
   ·clear hfin
    generalize ((mins ts).take i).sum = m at *
    simp (disch := first | exact dA | fail) only [↓V0, VV, reduceCtorEq, seval, a39, r0, r4, r3, hls, eq_false (show ¬ (i : Int) < (ts.length : Int) by omega), eq_true (show (4 : Int) < (ts.length : Int) by omega)]
    exact ⟨⟨true, by simp only [WE], fun h => by cases h⟩, hE⟩
   ·have hf := hfin (by omega) hie h2
    clear hfin
    generalize ((mins ts).take i).sum = m at *
    simp (disch := first | exact dA | fail) only [↓V0, VV, reduceCtorEq, seval, a39, r0, r4, r3, hls, eq_false (show ¬ (i : Int) < (ts.length : Int) by omega), eq_false (show ¬ (4 : Int) < (ts.length : Int) by omega), eq_false (show ¬ (900 : Int) < (m : Int) by omega)]
    exact ⟨⟨false, by simp only [WE], fun _ => trivial⟩, hE⟩
  ·clear hfin
   generalize ((mins ts).take i).sum = m at *
   by_cases h4 : 4 < ts.length
   ·simp (disch := first | exact dA | fail) only [↓V0, VV, reduceCtorEq, seval, a39, r0, r4, r3, hls, eq_false (show ¬ (i : Int) < (ts.length : Int) by omega), eq_true (show (4 : Int) < (ts.length : Int) by omega)]
    exact ⟨⟨true, by simp only [WE], fun h => by cases h⟩, hE⟩
   ·simp (disch := first | exact dA | fail) only [↓V0, VV, reduceCtorEq, seval, a39, r0, r4, r3, hls, eq_false (show ¬ (i : Int) < (ts.length : Int) by omega), eq_false (show ¬ (4 : Int) < (ts.length : Int) by omega), eq_true (show (900 : Int) < (m : Int) by omega)]
    exact ⟨⟨true, by simp only [WE], fun h => by cases h⟩, hE⟩
def opS (o : Op6) : Prop := (o.k.er = o.k /\ o.k.cells = [o.k] /\ AV.sc o.k = true) /\ o.s.length <= 9223372036854775807
theorem many_ok (ops : List Op6) (hl : ops.length <= 9223372036854775807) (hs : ∀ o, o ∈ ops -> opS o) : ACalls Tryz.prog 40 [.vs (ops.map Op6.av) .no] σ (fun v σ' => (∃ b, v = .bool b /\ (b = false -> ∀ o, o ∈ ops -> o.s.length <= 200)) /\ σ' = σ) := by
 refine ACalls.quiet (K := fun v => ∃ b, v = .bool b /\ (b = false -> ∀ o, o ∈ ops -> o.s.length <= 200)) ?_ (fun v ⟨b, h, _⟩ => by rw [h]; rfl)
 have hls : (ops.map Op6.av).length = ops.length := List.length_map _
 refine FOk.calls ok40 (by simp [a40]) (wpc_sound hmix ?_)
 show wpc _ _ _ c40 _ _ _
 simp (disch := first | exact dA | fail) only [↓V0, VV, reduceCtorEq, seval, a40]
 refine AW.lp hmix (fun k ρ σ' => ∃ i, i <= ops.length /\ i <= 100 /\ k = ops.length - i /\ ρ 0 = .vs (ops.map Op6.av) .no /\ ρ 3 = .int .i64 (i : Nat) /\ (∀ o, o ∈ ops.take i -> o.s.length <= 200) /\ Ext σ σ') ops.length
  ⟨0, by omega, by omega, rfl, by exact wA, by exact wA, fun o ho => by simp at ho, by exact eA⟩ ?_
 rintro k ρ σ' ⟨i, hi, hi2, rfl, r0, r3, h3, hE⟩
 by_cases h1 : i < ops.length
 ·by_cases h2 : i < 100
  ·have hgi : (ops.map Op6.av)[i]? = some ops[i].av := by simp [h1]
   have hsl := hs _ (List.getElem_mem h1)
   have htk : ops.take (i + 1) = ops.take i ++ [ops[i]] := List.take_succ_eq_append_getElem h1
   generalize ops[i] = o at *
   by_cases h4 : 200 < o.s.length
   ·simp (disch := first | exact dA | fail) only [↓V0, VV, reduceCtorEq, seval, a40, r0, r3, hls, hgi, Op6.av, hsl.1.2.1, hsl.1.2.2, eq_true (show (200 : Int) < (o.s.length : Int) by omega)]
    exact ⟨⟨true, by simp only [WE], fun h => by cases h⟩, hE⟩
   ·simp (disch := first | exact dA | fail) only [↓V0, VV, reduceCtorEq, seval, a40, r0, r3, hls, hgi, Op6.av, hsl.1.2.1, hsl.1.2.2, eq_false (show ¬ (200 : Int) < (o.s.length : Int) by omega)]
    refine ⟨ops.length - (i + 1), by omega, i + 1, by omega, by omega, rfl, by congr 1, fun q hq => ?_, hE⟩
    rw [htk] at hq
    rcases List.mem_append.1 hq with hq | hq
    ·exact h3 q hq
    ·rw [List.mem_singleton] at hq; subst hq; omega
  ·simp (disch := first | exact dA | fail) only [↓V0, VV, reduceCtorEq, seval, a40, r0, r3, hls, eq_false (show ¬ (i : Int) < 100 by omega), eq_true (show (60 : Int) < (ops.length : Int) by omega)]
   exact ⟨⟨true, by simp only [WE], fun h => by cases h⟩, hE⟩
 ·have hie : i = ops.length := by omega
  rw [List.take_of_length_le (by omega)] at h3
  by_cases h4 : 60 < ops.length
  ·simp (disch := first | exact dA | fail) only [↓V0, VV, reduceCtorEq, seval, a40, r0, r3, hls, eq_false (show ¬ (i : Int) < (ops.length : Int) by omega), eq_true (show (60 : Int) < (ops.length : Int) by omega)]
   exact ⟨⟨true, by simp only [WE], fun h => by cases h⟩, hE⟩
  ·simp (disch := first | exact dA | fail) only [↓V0, VV, reduceCtorEq, seval, a40, r0, r3, hls, eq_false (show ¬ (i : Int) < (ops.length : Int) by omega), eq_false (show ¬ (60 : Int) < (ops.length : Int) by omega)]
   exact ⟨⟨false, by simp only [WE], fun _ => h3⟩, hE⟩
theorem beyond_ok (ts : List (List UInt8)) (ops : List Op6) (hl : ts.length <= 9223372036854775807) (hs : ∀ t, t ∈ ts -> t.length <= 9223372036854775807) (hol : ops.length <= 9223372036854775807) (hos : ∀ o, o ∈ ops -> opS o) :
  ACalls Tryz.prog 7 [.vs (sav ts) .no, .vs (ops.map Op6.av) .no] σ (fun v σ' => (∃ b, v = .bool b /\ (b = false -> (ts.length <= 4 /\ (ts.map List.length).sum <= 900) /\ ops.length <= 12 /\ ∀ o, o ∈ ops -> o.s.length <= 200)) /\ σ' = σ) := by
 refine ACalls.quiet (K := fun v => ∃ b, v = .bool b /\ (b = false -> (ts.length <= 4 /\ (ts.map List.length).sum <= 900) /\ ops.length <= 12 /\ ∀ o, o ∈ ops -> o.s.length <= 200)) ?_ (fun v ⟨b, h, _⟩ => by rw [h]; rfl)
 have hls : (ops.map Op6.av).length = ops.length := List.length_map _
 refine FOk.calls ok7 (by simp [a7]) (wpc_sound hmix ?_)
 show wpc _ _ _ c7 _ _ _
 simp (disch := first | exact dA | fail) only [↓V0, VV, reduceCtorEq, seval, a7]
 refine (long_ok ts hl hs).mono ?_
 rintro v σ' ⟨⟨b, rfl, hb⟩, rfl⟩
 cases b with
 | true =>
  simp (disch := first | exact dA | fail) only [↓V0, VV, reduceCtorEq, seval, a7]
  exact ⟨⟨true, by simp only [WE], fun h => by cases h⟩, Ext.refl _⟩
 | false =>
  simp (disch := first | exact dA | fail) only [↓V0, VV, reduceCtorEq, seval, a7]
  refine (many_ok ops hol hos).mono ?_
  rintro v σ' ⟨⟨b2, rfl, hb2⟩, rfl⟩
  cases b2 with
  | true =>
   simp (disch := first | exact dA | fail) only [↓V0, VV, reduceCtorEq, seval, a7]
   exact ⟨⟨true, by simp only [WE], fun h => by cases h⟩, Ext.refl _⟩
  | false =>
   by_cases h : 12 < ops.length
   ·simp (disch := first | exact dA | fail) only [↓V0, VV, reduceCtorEq, seval, a7, hls, eq_true (show (12 : Int) < (ops.length : Int) by omega)]
    exact ⟨⟨true, by simp only [WE], fun h => by cases h⟩, Ext.refl _⟩
   ·simp (disch := first | exact dA | fail) only [↓V0, VV, reduceCtorEq, seval, a7, hls, eq_false (show ¬ (12 : Int) < (ops.length : Int) by omega)]
    exact ⟨⟨false, by simp only [WE], fun _ => ⟨hb rfl, hb2 rfl⟩⟩, Ext.refl _⟩
end Go.Proofs.YtekhblefchceaaaGreat.AM

