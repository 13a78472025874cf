/- Joined: D8, D9, D10. -/
import Derived.Test.YtekhblefchceaaaGreatDB
set_option linter.unusedVariables false
set_option linter.unusedSimpArgs false
/- Contracts: plan.Check, Keep, line, children, leaves, fold. -/
set_option maxRecDepth 20000
namespace Go.Proofs.YtekhblefchceaaaGreat.AM
open Go Go.Proofs
variable {σ : St}
def OkP (A : Ar) (t : Pl) : Prop := t = .emp \/ ∃ n, Val A true n t
theorem OkP.w0 {A : Ar} (wf : A.WF) {t : Pl} (h : OkP A t) : t.W0 := by
 rcases h with rfl | ⟨n, h⟩
 ·exact .inl rfl
 ·exact .inr (h.wf wf)
theorem OkP.bytes {A : Ar} (wf : A.WF) {t : Pl} (h : OkP A t) : t.bytes = (t.txt A).length := by
 rcases h with rfl | ⟨n, h⟩
 ·rfl
 ·exact h.bytes wf
theorem pcheck_ok {p : Pa} {A : Ar} (wf : A.WF) (t : Pl) (hv : OkP A t) (hb : t.bytes <= 65536) (hA : ArAt p σ A) : ACalls Tryz.prog 93 [.ptr p.a 0, t.av] σ (fun v σ' => v = .int .i64 0 /\ σ' = σ) := by
 refine ACalls.quietX ?_ rfl
 have hw := hv.w0 wf
 refine FOk.calls ok93 (by simp [a93]) (wpc_sound hmix ?_)
 show wpc _ _ _ c93 _ _ _
 simp (disch := first | exact dA | fail) only [↓V0, VV, reduceCtorEq, seval, a93, Pl.av_eq, treeCs]
 refine callQE (by first | rfl | simp only [WQ, treeCs, Ms.av, Ms.cs]) (kind_ok t hw.form) ?_
 rcases hv with rfl | ⟨n, hv⟩
 ·simp (disch := first | exact dA | fail) only [↓V0, VV, reduceCtorEq, seval, a93, Pl.kd]
  exact ⟨rfl, by exact eA⟩
 ·have hkv : ¬ ((t.kd : Int) = 1) := by cases hv <;> simp [Pl.kd]
  simp (disch := first | exact dA | fail) only [↓V0, VV, reduceCtorEq, seval, a93, hkv]
  refine callQE (by first | rfl | simp only [WQ, treeCs, Ms.av, Ms.cs]) (check_ok' wf t false n 0 hv (fun h => by cases h) hb _ (hA.ext (Ext.new _ _))) ?_
  simp (disch := first | exact dA | fail) only [↓V0, VV, reduceCtorEq, seval, a93]
  refine callQE (by first | rfl | simp only [WQ, treeCs, Ms.av, Ms.cs]) (bytes_ok t hw (by omega) _) ?_
  simp (disch := first | exact dA | fail) only [↓V0, VV, reduceCtorEq, seval, a93]
  exact ⟨rfl, by exact eA⟩
structure Rt where
 h : Nat
 ht : Nat
 m : Ms
 deriving DecidableEq, Inhabited
def Rt.cs (r : Rt) : List AV := [.int .u64 r.h, .int .i64 r.ht, .int .i64 r.m.b, .int .i64 r.m.r, .int .i64 r.m.l]
def Rt.av (r : Rt) : AV := .agg r.cs
def Rt.z : Rt := ⟨0, 0, Ms.z⟩
def Rt.pl (r : Rt) : Pl := if r.h = 0 then .emp else .kept r.h r.ht r.m
def RtOk (A : Ar) (r : Rt) : Prop := r = Rt.z \/ ∃ x, A.get r.h = some x /\ x.ht = r.ht /\ x.ms = r.m
theorem eq5 (a b c d e a' b' c' d' e' : Int) : eqList [.i, .i, .i, .i, .i] [.int .u64 a, .int .i64 b, .int .i64 c, .int .i64 d, .int .i64 e] [.int .u64 a', .int .i64 b', .int .i64 c', .int .i64 d', .int .i64 e'] = some (decide (a = a' /\ b = b' /\ c = c' /\ d = d' /\ e = e')) := by
 simp only [eqList, eqSc, if_true]
 by_cases h1 : a = a'
 ·by_cases h2 : b = b'
  ·by_cases h3 : c = c'
   ·by_cases h4 : d = d'
    ·by_cases h5 : e = e' <;> simp [h1, h2, h3, h4, h5]
    ·simp [h1, h2, h3, h4]
   ·simp [h1, h2, h3]
  ·simp [h1, h2]
 ·simp [h1]
theorem keep_ok {p : Pa} {A : Ar} (wf : A.WF) (r : Rt) (hr : RtOk A r) (hA : ArAt p σ A) : ACalls Tryz.prog 53 [.ptr p.a 0, r.av] σ (fun v σ' => v = .tup [r.pl.av, .int .i64 0] /\ σ' = σ) := by
 refine ACalls.quietX ?_ (by simp only [AV.pur, purL, Pl.pur, Bool.and_self])
 have e5 := eq5 r.h r.ht r.m.b r.m.r r.m.l 0 0 0 0 0
 rcases hr with rfl | ⟨x, hx1, hx2, hx3⟩
 ·rw [decide_eq_true (by decide)] at e5
  refine FOk.calls ok53 (by simp [a53]) (wpc_sound hmix ?_)
  show wpc _ _ _ c53 _ _ _
  simp (disch := first | exact dA | fail) only [↓V0, VV, reduceCtorEq, seval, a53, Rt.av, Rt.cs, e5]
  exact ⟨by simp only [WE, Rt.pl, Rt.z, if_true, Pl.av, treeCs, Ms.z]; rfl, by exact eA⟩
 ·obtain ⟨hh, hxo, hxb, _⟩ := wf _ _ hx1
  have h0 := hh.pos
  rw [decide_eq_false (by omega)] at e5
  have hs := same_ok (σ := σ) r.ht r.m hA hx1 hxo hxb
  rw [if_pos ⟨hx2, hx3⟩] at hs
  refine FOk.calls ok53 (by simp [a53]) (wpc_sound hmix ?_)
  show wpc _ _ _ c53 _ _ _
  simp (disch := first | exact dA | fail) only [↓V0, VV, reduceCtorEq, seval, a53, Rt.av, Rt.cs, e5]
  have hs := same_ok (σ := (σ.new (.arr r.cs)).new (.arr tz)) r.ht r.m (hA.ext (by exact eA)) hx1 hxo hxb
  rw [if_pos ⟨hx2, hx3⟩] at hs
  refine callQE (by first | rfl | simp only [WQ, treeCs, Ms.av, Ms.cs]) (hs) ?_
  simp (disch := first | exact dA | fail) only [↓V0, VV, reduceCtorEq, seval, a53]
  exact ⟨by simp only [WE, Rt.pl, if_neg (show ¬ r.h = 0 by omega), Pl.av, treeCs], by exact eA⟩
theorem line_ok {p : Pa} {A : Ar} (wf : A.WF) (t : Pl) {b : Bool} (hv : Val A b 0 t) (hA : ArAt p σ A) : ACalls Tryz.prog 95 [.ptr p.a 0, t.av] σ (fun v σ' => v = .tup [.str (t.txt A), .int .i64 0] /\ σ' = σ) := by
 refine ACalls.quietX ?_ rfl
 cases hv with
 | kept hg e1 e2 e3 =>
  rename_i h m x
  obtain ⟨hh, hxo, hxb, _⟩ := wf _ _ hg
  have h0 := hh.pos
  have hk1 : x.ks.length <= 4 := by
   rcases hxo with ⟨_, _, _, h⟩ | ⟨_, _, _, _, h, _⟩
   ·rw [h]; decide
   ·exact h
  refine FOk.calls ok95 (by simp [a95]) (wpc_sound hmix ?_)
  show wpc _ _ _ c95 _ _ _
  simp (disch := first | exact dA | fail) only [↓V0, VV, reduceCtorEq, seval, a95, Pl.av, treeCs]
  refine callQE (by first | rfl | simp only [WQ, treeCs, Ms.av, Ms.cs]) (get_ok (hA.ext (Ext.new _ _)) hg (by omega)) ?_
  simp (disch := first | exact dA | fail) only [↓V0, VV, reduceCtorEq, seval, a95, Nd.av, Nd.cs]
  refine ⟨?_, by exact eA⟩
  simp only [WE, Pl.txt, Ar.ntx, hg]
 | leaf h1 h2 h3 =>
  refine FOk.calls ok95 (by simp [a95]) (wpc_sound hmix ?_)
  show wpc _ _ _ c95 _ _ _
  simp (disch := first | exact dA | fail) only [↓V0, VV, reduceCtorEq, seval, a95, Pl.av, treeCs]
  exact ⟨by simp only [WE, Pl.txt], by exact eA⟩
def Pl.chs (A : Ar) : Pl -> List Pl
 | .inner _ ks => ks
 | .kept h ht _ => match A.get h with | some x => x.ks.map fun k => .kept k.h (ht - 1) k.m | none => []
 | _ => []
def kraw (ht : Nat) (k : Kd) : AV := .agg [.int .u64 k.h, .int .i64 (ht : Nat), .int .i64 k.m.b, .int .i64 k.m.r, .int .i64 k.m.l, .str [], .vs [] .ex]
theorem fit_kraw (ht : Nat) (l : List Kd) : fitSz 7 (l.map (kraw ht)) = true := fit_all fun x hx => by
 obtain ⟨k, _, rfl⟩ := List.mem_map.1 hx
 exact ⟨rfl, rfl⟩
theorem children_ok {p : Pa} {A : Ar} (wf : A.WF) (t : Pl) {b : Bool} {n : Nat} (hv : Val A b (n + 1) t) (hA : ArAt p σ A) : ACalls Tryz.prog 96 [.ptr p.a 0, t.av] σ (fun v σ' => v = .tup [.vs ((t.chs A).map Pl.av) .no, .int .i64 0] /\ σ' = σ) := by
 refine ACalls.quietX ?_ (by simp only [AV.pur, purL, Pl.purl, Tok.pur, Bool.and_self])
 have hn := hv.n16 wf
 cases hv with
 | inner h1 h2 h3 h4 =>
  refine FOk.calls ok96 (by simp [a96]) (wpc_sound hmix ?_)
  show wpc _ _ _ c96 _ _ _
  simp (disch := first | exact dA | fail) only [↓V0, VV, reduceCtorEq, seval, a96, Pl.av, treeCs, plL_eq]
  exact ⟨by simp only [WE, Pl.ers, Pl.chs], by exact eA⟩
 | kept hg e1 e2 e3 =>
  rename_i h m x
  obtain ⟨hh, hxo, hxb, _⟩ := wf _ _ hg
  have h0 := hh.pos
  have hk1 : 2 <= x.ks.length /\ x.ks.length <= 4 := by
   rcases hxo with ⟨h, _⟩ | ⟨_, _, _, h, h', _⟩
   ·omega
   ·exact ⟨h, h'⟩
  refine FOk.calls ok96 (by simp [a96]) (wpc_sound hmix ?_)
  show wpc _ _ _ c96 _ _ _
  simp (disch := first | exact dA | fail) only [↓V0, VV, reduceCtorEq, seval, a96, Pl.av, treeCs]
  refine callQE (by first | rfl | simp only [WQ, treeCs, Ms.av, Ms.cs]) (get_ok (hA.ext (Ext.new _ _)) hg (by omega)) ?_
  simp (disch := first | exact dA | fail) only [↓V0, VV, reduceCtorEq, seval, a96, Nd.av, Nd.cs, List.length_map]
  refine AW.upto hmix (fun i ρ σ' => ρ 6 = .ptr (σ.n + 1) 0 /\ (∃ t, ρ 8 = .vs ((x.ks.take i).map (kraw n)) t /\ Own σ σ' t) /\ ρ 27 = .vs (x.ks.map Kd.av) .no /\ ρ 28 = .int .i64 (x.ks.length : Nat) /\ ρ 29 = .int .i64 (i : Nat) /\
   lk σ'.H (σ.n + 1) = some (.arr [.int .i64 x.ht, .str x.tx, .vs (x.ks.map Kd.av) .no]) /\ σ.n + 1 < σ'.n) x.ks.length
   ⟨by simp only [↓W0, W, reduceCtorEq, seval], ⟨.ex, by exact wA, .ex (by exact eA)⟩, by simp only [↓W0, W, reduceCtorEq, seval], by simp only [↓W0, W, reduceCtorEq, seval], by exact wA, by simp only [↓W0, W, reduceCtorEq, seval], by simp only [↓W0, W, reduceCtorEq, seval]⟩ (fun i ρ σ' hi h => ?_) (fun ρ σ' h => ?_)
  ·obtain ⟨r6, ⟨t, r8, ho⟩, r27, r28, r29, hl, hlt⟩ := h
   have hgi : (x.ks.map Kd.av)[i]? = some x.ks[i].av := by simp [hi]
   have htk : (x.ks.take (i + 1)).map (kraw n) = (x.ks.take i).map (kraw n) ++ [kraw n x.ks[i]] := by
    rw [take_succ_get (x := x.ks[i]) (by simp [hi]), List.map_append]; rfl
   have hf := fit_kraw n (x.ks.take i)
   have hfl : ((x.ks.take i).map (kraw n)).length = i := by simp; omega
   have he : ((x.ht : Nat) : Int) - 1 = (n : Nat) := by omega
   have hle := ho.ext.1
   generalize x.ks[i] = k at hgi htk
   have htg : TokG ((σ'.new (.arr [.int .u64 0, .int .i64 0, .int .i64 0, .int .i64 0])).set σ'.n (.arr [.int .u64 k.h, .int .i64 k.m.b, .int .i64 k.m.r, .int .i64 k.m.l])) t := (ho.g.new _).set (by exact wA) _
   simp (disch := first | exact dA | fail) only [↓V0, VV, reduceCtorEq, seval, a96, r6, r8, r27, r28, r29, hgi, Kd.av, hl, he, ↓eval_app, appA_S]
   have ho2 : Own σ ((σ'.new (.arr [.int .u64 0, .int .i64 0, .int .i64 0, .int .i64 0])).set σ'.n (.arr [.int .u64 k.h, .int .i64 k.m.b, .int .i64 k.m.r, .int .i64 k.m.l])) t := (ho.new _).set hle (by exact wA) _
   refine ⟨⟨_, by rw [htk]; rfl, ho2.app⟩, rfl, ?_, ?_⟩
   ·refine rt_lk ho2.ok (b := .arr [.int .i64 x.ht, .str x.tx, .vs (x.ks.map Kd.av) .no]) ?_ (by simp) ?_
    ·simp (disch := first | exact dA | fail) only [↓V0, VV, reduceCtorEq, seval, a96, hl]
    ·simp only [set_n, new_n]; omega
   ·rw [rt_n]; exact wA
  ·obtain ⟨r6, ⟨t, r8, ho⟩, r27, r28, r29, hl, hlt⟩ := h
   rw [List.take_of_length_le (Nat.le_refl _)] at r8
   simp (disch := first | exact dA | fail) only [↓V0, VV, reduceCtorEq, seval, a96, r6, r8, r27, r28, r29, List.length_map]
   refine ⟨?_, ho.ext⟩
   simp only [WE, Pl.chs, hg, List.map_map]
   rfl
def foldP (l : List Pl) : List Pl := if l.length <= 4 then [grp l] else [grp (l.take ((l.length + 1) / 2)), grp (l.drop ((l.length + 1) / 2))]
theorem fold_ok (l : List Pl) (hl : l.length <= 100) (hh : ∀ k, k ∈ l -> k.ht <= 1000) : ACalls Tryz.prog 254 [.vs (l.map Pl.av) .no] σ (fun v σ' => v = .vs ((foldP l).map Pl.av) .no /\ σ' = σ) := by
 refine ACalls.quietX ?_ (by simp only [AV.pur, Pl.purl, Tok.pur, Bool.and_self])
 have hd : Int.tdiv (((l.length : Nat) : Int) + 1) 2 = (((l.length + 1) / 2 : Nat) : Int) := by rw [Int.tdiv_eq_ediv_of_nonneg (by omega)]; omega
 have hf := Pl.fit l
 by_cases h : l.length <= 4
 ·refine FOk.calls ok254 (by simp [a254]) (wpc_sound hmix ?_)
  show wpc _ _ _ c254 _ _ _
  simp (disch := first | exact dA | fail) only [↓V0, VV, reduceCtorEq, seval, a254, List.length_map]
  refine callQ (group_ok l hl hh) ?_
  simp (disch := first | exact dA | fail) only [↓V0, VV, reduceCtorEq, seval, a254, Pl.av_eq, treeCs]
  exact ⟨by simp only [WE, foldP, if_pos h, Pl.ers, Pl.av_eq, treeCs], by exact eA⟩
 ·refine FOk.calls ok254 (by simp [a254]) (wpc_sound hmix ?_)
  show wpc _ _ _ c254 _ _ _
  simp (disch := first | exact dA | fail) only [↓V0, VV, reduceCtorEq, seval, a254, List.length_map, bin_quo, hd, hf]
  have g1 := group_ok (σ := σ) (l.take ((l.length + 1) / 2)) (by rw [List.length_take]; omega) (fun k hk => hh k (List.mem_of_mem_take hk))
  have g2 := group_ok (σ := σ) (l.drop ((l.length + 1) / 2)) (by rw [List.length_drop]; omega) (fun k hk => hh k (List.mem_of_mem_drop hk))
  have hx : (l.map Pl.av).take l.length = l.map Pl.av := List.take_of_length_le (by simp)
  refine callQE (by first | rfl | simp only [WQ, treeCs, Ms.av, Ms.cs]) (g1) ?_
  simp (disch := first | exact dA | fail) only [↓V0, VV, reduceCtorEq, seval, a254, List.length_map, hf, hx, Pl.av_eq, treeCs]
  refine callQE (by first | rfl | simp only [WQ, treeCs, Ms.av, Ms.cs]) (g2) ?_
  simp (disch := first | exact dA | fail) only [↓V0, VV, reduceCtorEq, seval, a254, Pl.av_eq, treeCs]
  exact ⟨by simp only [WE, foldP, if_neg h, Pl.ers, Pl.av_eq, treeCs], by exact eA⟩
def joinL (a b : List UInt8) : List (List UInt8) := if (a ++ b).length <= 16 then [a ++ b] else if 8 <= a.length /\ 8 <= b.length then [a, b] else [(a ++ b).take (((a ++ b).length + 1) / 2), (a ++ b).drop (((a ++ b).length + 1) / 2)]
def lvs (A : Ar) (x y : Pl) : List Pl := if 16 < x.bytes + y.bytes /\ 8 <= x.bytes /\ 8 <= y.bytes then [x, y] else (joinL (x.txt A) (y.txt A)).map .leaf
def lraw (s : List UInt8) : AV := .agg [.int .u64 0, .int .i64 0, .int .i64 0, .int .i64 0, .int .i64 0, .str s, .vs [] .ex]
theorem fit_lraw (l : List (List UInt8)) : fitSz 7 (l.map lraw) = true := fit_all fun x hx => by
 obtain ⟨k, _, rfl⟩ := List.mem_map.1 hx
 exact ⟨rfl, rfl⟩
theorem er_lraw (l : List (List UInt8)) : (l.map lraw).map AV.er = (l.map Pl.leaf).map Pl.av := by
 simp only [List.map_map]
 refine List.map_congr_left fun s _ => ?_
 simp only [Function.comp, lraw, WE, Pl.av, treeCs, Ms.z]
 rfl
theorem bytes0 {A : Ar} (wf : A.WF) {b : Bool} {t : Pl} (h : Val A b 0 t) : 1 <= t.bytes /\ t.bytes <= 16 := by
 cases h with
 | kept hg e1 e2 e3 =>
  rcases (wf _ _ hg).2.1 with ⟨h0, h1, h2, h3⟩ | ⟨h, _⟩
  ·simp only [Pl.bytes]
   rw [<- e2, Nd.ms, if_pos h0]
   exact ⟨h1, h2⟩
  ·omega
 | leaf h1 h2 h3 => exact ⟨h1, h2⟩
theorem joinL_len (a b : List UInt8) : (joinL a b).length <= 2 := by unfold joinL; split; simp; split <;> simp
theorem leaves_ok {p : Pa} {A : Ar} (wf : A.WF) (x y : Pl) {b1 b2 : Bool} (hx : Val A b1 0 x) (hy : Val A b2 0 y) (hA : ArAt p σ A) : ACalls Tryz.prog 253 [.ptr p.a 0, x.av, y.av] σ (fun v σ' => v = .tup [.vs ((lvs A x y).map Pl.av) .no, .int .i64 0] /\ σ' = σ) := by
 refine ACalls.quietX ?_ (by simp only [AV.pur, purL, Pl.purl, Tok.pur, Bool.and_self])
 obtain ⟨x1, x2⟩ := bytes0 wf hx
 obtain ⟨y1, y2⟩ := bytes0 wf hy
 have hbx := hx.bytes wf
 have hby := hy.bytes wf
 refine FOk.calls ok253 (by simp [a253]) (wpc_sound hmix ?_)
 show wpc _ _ _ c253 _ _ _
 simp (disch := first | exact dA | fail) only [↓V0, VV, reduceCtorEq, seval, a253, Pl.av_eq, treeCs]
 have hsb : SB [(σ.n, .arr x.cs), (σ.n + 1, .arr y.cs)] ((σ.new (.arr x.cs)).new (.arr y.cs)) := SB.cons (by exact wA) (SB.cons (by exact wA) (SB.nil _))
 simp only [Pl.cs, treeCs] at hsb
 refine AW.qx none (.p 0 (.r 1 (.p 2 (.r 3 (.p 4 (.p 5 .nil)))))) _ hmix (by decide) (by decide) hsb ?_
 simp (disch := first | exact dA | fail) only [↓V0, VV, reduceCtorEq, seval, a253]
 refine aqr (.int .i64 x.bytes) (fun σ' hs => ?_) ?_
 ·simp (disch := first | exact dA | fail) only [↓V0, VV, reduceCtorEq, seval, a253]
  refine callQE (by first | rfl | simp only [WQ, treeCs, Ms.av, Ms.cs]) (bytes_ok x (.inr (hx.wf wf)) (by omega) _) ?_
  exact ⟨rfl, rfl⟩
 simp (disch := first | exact dA | fail) only [↓V0, VV, reduceCtorEq, seval, a253]
 refine aqr (.int .i64 y.bytes) (fun σ' hs => ?_) ?_
 ·simp (disch := first | exact dA | fail) only [↓V0, VV, reduceCtorEq, seval, a253]
  refine callQE (by first | rfl | simp only [WQ, treeCs, Ms.av, Ms.cs]) (bytes_ok y (.inr (hy.wf wf)) (by omega) _) ?_
  exact ⟨rfl, rfl⟩
 have hll := joinL_len (x.txt A) (y.txt A)
 have tail : 16 < x.bytes + y.bytes /\ 8 <= x.bytes /\ 8 <= y.bytes -> lvs A x y = [x, y] := fun h => if_pos h
 have tail2 : ¬ (16 < x.bytes + y.bytes /\ 8 <= x.bytes /\ 8 <= y.bytes) -> lvs A x y = (joinL (x.txt A) (y.txt A)).map .leaf := fun h => if_neg h
 by_cases c1 : 16 < x.bytes + y.bytes /\ 8 <= x.bytes /\ 8 <= y.bytes
 ·obtain ⟨c2, c3, c4⟩ := c1
  simp (disch := first | exact dA | fail) only [↓V0, VV, reduceCtorEq, seval, a253]
  refine ⟨?_, by exact eA⟩
  rw [tail ⟨c2, c3, c4⟩]
  simp only [WE, Pl.ers, Pl.av_eq, treeCs]
 ·rw [tail2 c1]
  have hE : Ext σ ((σ.new (.arr x.cs)).new (.arr y.cs)) := by exact eA
  simp only [Pl.cs, treeCs] at hE
  have hA2 := hA.ext hE
  have c2 : ¬ 16 < x.bytes + y.bytes \/ (16 < x.bytes + y.bytes /\ ¬ 8 <= x.bytes) \/ (16 < x.bytes + y.bytes /\ 8 <= x.bytes /\ ¬ 8 <= y.bytes) := by omega
  rcases c2 with c | ⟨c, d⟩ | ⟨c, d, e⟩
  all_goals
   simp (disch := first | exact dA | fail) only [↓V0, VV, reduceCtorEq, seval, a253]
   refine callQE (by first | rfl | simp only [WQ, treeCs, Ms.av, Ms.cs]) (line_ok wf x hx hA2) ?_
   simp (disch := first | exact dA | fail) only [↓V0, VV, reduceCtorEq, seval, a253]
   refine callQE (by first | rfl | simp only [WQ, treeCs, Ms.av, Ms.cs]) (line_ok wf y hy hA2) ?_
   simp (disch := first | exact dA | fail) only [↓V0, VV, reduceCtorEq, seval, a253]
   refine callQ (cjoin_ok (x.txt A) (y.txt A) (by omega) (by omega) (by omega) (by omega)) ?_
   have hfold : (if (x.txt A ++ y.txt A).length <= 16 then [x.txt A ++ y.txt A] else if 8 <= (x.txt A).length /\ 8 <= (y.txt A).length then [x.txt A, y.txt A] else
    [(x.txt A ++ y.txt A).take (((x.txt A ++ y.txt A).length + 1) / 2), (x.txt A ++ y.txt A).drop (((x.txt A ++ y.txt A).length + 1) / 2)]) = joinL (x.txt A) (y.txt A) := rfl
   rw [hfold]
   clear hfold
   generalize joinL (x.txt A) (y.txt A) = L at hll ⊢
   have hsl : (sav L).length = L.length := by simp [sav]
   simp (disch := first | exact dA | fail) only [↓V0, VV, reduceCtorEq, seval, a253, hsl]
   refine AW.upto hmix (fun i ρ σ' => (∃ t, ρ 14 = .vs ((L.take i).map lraw) t /\ Own σ σ' t) /\ ρ 63 = .vs (sav L) .no /\ ρ 64 = .int .i64 (L.length : Nat) /\ ρ 65 = .int .i64 (i : Nat)) L.length
    ⟨⟨.ex, by exact wA, .ex (by exact eA)⟩, by exact wA, by (simp only [↓W0, W, reduceCtorEq, seval, hsl]; first | done | rfl | omega | simp), by exact wA⟩ (fun i ρ σ' hi h => ?_) (fun ρ σ' h => ?_)
   ·obtain ⟨⟨t, r14, ho⟩, r63, r64, r65⟩ := h
    have hgi : (sav L)[i]? = some (.str L[i]) := by simp [sav, hi]
    have htk : (L.take (i + 1)).map lraw = (L.take i).map lraw ++ [lraw L[i]] := by
     rw [take_succ_get (x := L[i]) (by simp [hi]), List.map_append]; rfl
    have hf := fit_lraw (L.take i)
    have hfl : ((L.take i).map lraw).length = i := by simp; omega
    have htg := ho.g
    generalize L[i] = k at hgi htk
    simp (disch := first | exact dA | fail) only [↓V0, VV, reduceCtorEq, seval, a253, r14, r63, r64, r65, hgi, ↓eval_app, appA_S]
    exact ⟨⟨_, by rw [htk]; rfl, ho.app⟩, rfl⟩
   ·obtain ⟨⟨t, r14, ho⟩, r63, r64, r65⟩ := h
    rw [List.take_of_length_le (Nat.le_refl _)] at r14
    simp (disch := first | exact dA | fail) only [↓V0, VV, reduceCtorEq, seval, a253, r14, r63, r64, r65]
    exact ⟨by simp only [WE, er_lraw], ho.ext⟩
end Go.Proofs.YtekhblefchceaaaGreat.AM

/- Plain laws: what plans become when they are merged. -/
set_option maxRecDepth 20000
namespace Go.Proofs.YtekhblefchceaaaGreat.AM
open Go Go.Proofs
theorem chs_spec {A : Ar} (wf : A.WF) {b : Bool} {n : Nat} {x : Pl} (h : Val A b (n + 1) x) : 2 <= (x.chs A).length /\ (x.chs A).length <= 4 /\ (∀ k, k ∈ x.chs A -> Val A false n k) /\ txtL A (x.chs A) = x.txt A := by
 cases h with
 | inner h1 h2 h3 h4 => exact ⟨h2, h3, h4, rfl⟩
 | kept hg e1 e2 e3 =>
  rename_i h m x
  obtain ⟨_, hok, _, hks⟩ := wf _ _ hg
  rcases hok with ⟨h0, _⟩ | ⟨_, _, _, k2, k4, hk⟩
  ·omega
  ·simp only [Pl.chs, hg, List.length_map]
   refine ⟨k2, k4, fun k hkm => ?_, ?_⟩
   ·obtain ⟨kd, hkd, rfl⟩ := List.mem_map.1 hkm
    obtain ⟨y, y1, y2, y3⟩ := hks kd hkd
    have := (hk kd hkd).2.1
    refine .kept y1 (by omega) y3 ?_
    by_cases hn : n = 0
    ·subst hn
     rw [e1] at this
     exact .inr (.inr (by simpa using this))
    ·exact .inr (.inl hn)
   ·simp only [txtL_eq, Pl.txt, Ar.ntx, hg, List.map_map]
    rfl
theorem grp_val {A : Ar} {n : Nat} {l : List Pl} (h : ∀ k, k ∈ l -> Val A false n k) (h2 : 2 <= l.length) (h4 : l.length <= 4) (hn : n + 1 <= 16) (t : Bool) : Val A t (n + 1) (grp l) := by
 match l, h, h2, h4 with
 | k :: k2 :: r, h, h2, h4 =>
  have hk := (h k (by simp)).ht
  simp only [grp, hk]
  exact .inner hn h2 h4 h
theorem grp_txt (A : Ar) (l : List Pl) : (grp l).txt A = txtL A l := by
 match l with
 | [] => rfl
 | [k] => simp [grp, txtL]
 | k :: k2 :: r => rfl
theorem fold_spec {A : Ar} {n : Nat} {l : List Pl} (h : ∀ k, k ∈ l -> Val A false n k) (h2 : 2 <= l.length) (h5 : l.length <= 6) (hn : n + 1 <= 16) :
  1 <= (foldP l).length /\ (foldP l).length <= 2 /\ (∀ p, p ∈ foldP l -> ∀ t, Val A t (n + 1) p) /\ txtL A (foldP l) = txtL A l := by
 unfold foldP
 by_cases h4 : l.length <= 4
 ·rw [if_pos h4]
  refine ⟨by simp, by simp, fun p hp t => ?_, ?_⟩
  ·simp only [List.mem_singleton] at hp; subst hp; exact grp_val h h2 h4 hn t
  ·simp [txtL, grp_txt]
 ·rw [if_neg h4]
  refine ⟨by simp, by simp, fun p hp t => ?_, ?_⟩
  ·simp only [List.mem_cons, List.not_mem_nil, or_false] at hp
   rcases hp with rfl | rfl
   ·exact grp_val (fun k hk => h k (List.mem_of_mem_take hk)) (by rw [List.length_take]; omega) (by rw [List.length_take]; omega) hn t
   ·exact grp_val (fun k hk => h k (List.mem_of_mem_drop hk)) (by rw [List.length_drop]; omega) (by rw [List.length_drop]; omega) hn t
  ·simp only [txtL, grp_txt, List.append_nil, <- txtL_append, List.take_append_drop]
theorem joinL_spec (a b : List UInt8) (a1 : 1 <= a.length) (a2 : a.length <= 16) (b1 : 1 <= b.length) (b2 : b.length <= 16) :
  (joinL a b).flatten = a ++ b /\ (∀ s, s ∈ joinL a b -> 1 <= s.length /\ s.length <= 16) /\ 1 <= (joinL a b).length /\ (((joinL a b).length = 2 \/ 8 <= a.length \/ 8 <= b.length) -> ∀ s, s ∈ joinL a b -> 8 <= s.length) := by
 have hl : (a ++ b).length = a.length + b.length := List.length_append
 unfold joinL
 by_cases h1 : (a ++ b).length <= 16
 ·rw [if_pos h1]
  refine ⟨by simp, fun s hs => ?_, by simp, fun h s hs => ?_⟩ <;> (simp only [List.mem_singleton] at hs; subst hs)
  ·omega
  ·simp only [List.length_singleton] at h; omega
 ·rw [if_neg h1]
  by_cases h2 : 8 <= a.length /\ 8 <= b.length
  ·rw [if_pos h2]
   refine ⟨by simp, fun s hs => ?_, by simp, fun h s hs => ?_⟩ <;> (simp only [List.mem_cons, List.not_mem_nil, or_false] at hs; rcases hs with rfl | rfl) <;> omega
  ·rw [if_neg h2]
   refine ⟨by simp, fun s hs => ?_, by simp, fun h s hs => ?_⟩ <;> (simp only [List.mem_cons, List.not_mem_nil, or_false] at hs; rcases hs with rfl | rfl) <;> simp only [List.length_take, List.length_drop] <;> omega
theorem Val.low0 {A : Ar} (wf : A.WF) {b : Bool} {x : Pl} (h : Val A b 0 x) (h8 : 8 <= x.bytes) : Val A false 0 x := by
 cases h with
 | kept hg e1 e2 e3 => exact .kept hg e1 e2 (.inr (.inr h8))
 | leaf h1 h2 h3 => exact .leaf h1 h2 (.inr h8)
theorem Val.low {A : Ar} {b : Bool} {n : Nat} {x : Pl} (h : Val A b n x) (hn : n ≠ 0) : Val A false n x := by
 cases h with
 | kept hg e1 e2 e3 => exact .kept hg e1 e2 (.inr (.inl hn))
 | leaf h1 h2 h3 => exact absurd rfl hn
 | inner h1 h2 h3 h4 => exact .inner h1 h2 h3 h4
theorem Val.b8 {A : Ar} {x : Pl} (h : Val A false 0 x) : 8 <= x.bytes := by
 cases h with
 | kept hg e1 e2 e3 => exact (e3.resolve_left (by decide)).resolve_left (by simp)
 | leaf h1 h2 h3 => exact h3.resolve_left (by decide)
structure Mrg (A : Ar) (H : Nat) (x y : Pl) (l : List Pl) (st : Prop) : Prop where
 l1 : 1 <= l.length
 l2 : l.length <= 2
 v : ∀ p, p ∈ l -> Val A true H p
 tx : txtL A l = x.txt A ++ y.txt A
 s : (l.length = 2 \/ st) -> ∀ p, p ∈ l -> Val A false H p
theorem lvs_spec {A : Ar} (wf : A.WF) {b1 b2 : Bool} {x y : Pl} (hx : Val A b1 0 x) (hy : Val A b2 0 y) : Mrg A 0 x y (lvs A x y) (b1 = false \/ b2 = false) := by
 obtain ⟨x1, x2⟩ := bytes0 wf hx
 obtain ⟨y1, y2⟩ := bytes0 wf hy
 have hbx := hx.bytes wf
 have hby := hy.bytes wf
 unfold lvs
 by_cases h : 16 < x.bytes + y.bytes /\ 8 <= x.bytes /\ 8 <= y.bytes
 ·rw [if_pos h]
  refine ⟨by simp, by simp, fun p hp => ?_, by simp [txtL], fun _ p hp => ?_⟩ <;> (simp only [List.mem_cons, List.not_mem_nil, or_false] at hp; rcases hp with rfl | rfl)
  ·exact hx.top
  ·exact hy.top
  ·exact hx.low0 wf h.2.1
  ·exact hy.low0 wf h.2.2
 ·rw [if_neg h]
  obtain ⟨j1, j2, j3, j4⟩ := joinL_spec (x.txt A) (y.txt A) (by omega) (by omega) (by omega) (by omega)
  refine ⟨by simpa using j3, by simpa using joinL_len _ _, fun p hp => ?_, ?_, fun hs p hp => ?_⟩
  ·obtain ⟨s, hs, rfl⟩ := List.mem_map.1 hp
   exact .leaf (j2 s hs).1 (j2 s hs).2 (.inl rfl)
  ·rw [txtL_eq, List.map_map, <- j1]
   congr 1
   exact List.map_id' _
  ·obtain ⟨s, hs', rfl⟩ := List.mem_map.1 hp
   refine .leaf (j2 s hs').1 (j2 s hs').2 (.inr (j4 ?_ s hs'))
   rw [List.length_map] at hs
   rcases hs with hs | hs | hs
   ·exact .inl hs
   ·subst hs; have := hx.b8; omega
   ·subst hs; have := hy.b8; omega
def mrg (A : Ar) : Nat -> Pl -> Pl -> List Pl
 | 0, x, y => lvs A x y
 | f + 1, x, y =>
  if x.ht = 0 /\ y.ht = 0 then lvs A x y
  else if x.ht = y.ht then (if (x.chs A).length + (y.chs A).length <= 4 then [grp (x.chs A ++ y.chs A)] else [x, y])
  else if y.ht < x.ht then foldP ((x.chs A).take ((x.chs A).length - 1) ++ mrg A f ((x.chs A).getD ((x.chs A).length - 1) .emp) y)
  else foldP (mrg A f x ((y.chs A).getD 0 .emp) ++ (y.chs A).drop 1)
theorem mrg_spec {A : Ar} (wf : A.WF) : ∀ (f : Nat) (x y : Pl) (b1 b2 : Bool) (hx hy : Nat), Val A b1 hx x -> Val A b2 hy y -> hx + hy <= f -> Mrg A (max hx hy) x y (mrg A f x y) ((b1 = false /\ hy <= hx) \/ (b2 = false /\ hx <= hy) \/ max hx hy ≠ 0)
 | 0, x, y, b1, b2, hx, hy, vx, vy, hf => by
  have e1 : hx = 0 := by omega
  have e2 : hy = 0 := by omega
  subst e1; subst e2
  have h := lvs_spec wf vx vy
  exact ⟨h.l1, h.l2, h.v, h.tx, fun hs => h.s (hs.imp id fun hs => by rcases hs with hs | hs | hs; exact .inl hs.1; exact .inr hs.1; exact absurd rfl hs)⟩
 | f + 1, x, y, b1, b2, hx, hy, vx, vy, hf => by
  have ex := vx.ht
  have ey := vy.ht
  have nx := vx.n16 wf
  have ny := vy.n16 wf
  unfold mrg
  rw [ex, ey]
  by_cases h0 : hx = 0 /\ hy = 0
  ·rw [if_pos h0]
   obtain ⟨e1, e2⟩ := h0
   subst e1; subst e2
   have h := lvs_spec wf vx vy
   exact ⟨h.l1, h.l2, h.v, h.tx, fun hs => h.s (hs.imp id fun hs => by rcases hs with hs | hs | hs; exact .inl hs.1; exact .inr hs.1; exact absurd rfl hs)⟩
  ·rw [if_neg h0]
   by_cases h1 : hx = hy
   ·rw [if_pos h1]
    subst h1
    obtain ⟨n, rfl⟩ : ∃ n, hx = n + 1 := ⟨hx - 1, by omega⟩
    obtain ⟨x2, x4, xv, xt⟩ := chs_spec wf vx
    obtain ⟨y2, y4, yv, yt⟩ := chs_spec wf vy
    rw [Nat.max_self]
    by_cases h2 : (x.chs A).length + (y.chs A).length <= 4
    ·rw [if_pos h2]
     have hv : ∀ t, Val A t (n + 1) (grp (x.chs A ++ y.chs A)) := fun t => grp_val (fun k hk => by rcases List.mem_append.1 hk with hk | hk; exact xv k hk; exact yv k hk) (by rw [List.length_append]; omega) (by rw [List.length_append]; omega) nx t
     refine ⟨by simp, by simp, fun p hp => ?_, ?_, fun _ p hp => ?_⟩
     ·simp only [List.mem_singleton] at hp; subst hp; exact hv _
     ·simp only [txtL, List.append_nil, grp_txt, txtL_append, xt, yt]
     ·simp only [List.mem_singleton] at hp; subst hp; exact hv _
    ·rw [if_neg h2]
     refine ⟨by simp, by simp, fun p hp => ?_, by simp [txtL], fun _ p hp => ?_⟩ <;> (simp only [List.mem_cons, List.not_mem_nil, or_false] at hp; rcases hp with rfl | rfl)
     ·exact vx.top
     ·exact vy.top
     ·exact vx.low (by omega)
     ·exact vy.low (by omega)
   ·rw [if_neg h1]
    by_cases h2 : hy < hx
    ·rw [if_pos h2]
     obtain ⟨n, rfl⟩ : ∃ n, hx = n + 1 := ⟨hx - 1, by omega⟩
     obtain ⟨x2, x4, xv, xt⟩ := chs_spec wf vx
     have hlt : (x.chs A).length - 1 < (x.chs A).length := by omega
     have hg : (x.chs A)[(x.chs A).length - 1]? = some ((x.chs A).getD ((x.chs A).length - 1) .emp) := by simp [hlt, List.getD_eq_getElem?_getD]
     have hm := mrg_spec wf f ((x.chs A).getD ((x.chs A).length - 1) .emp) y false b2 n hy (xv _ (List.mem_of_getElem? hg)) vy (by omega)
     rw [Nat.max_eq_left (by omega : hy <= n)] at hm
     have hsp : (x.chs A).take ((x.chs A).length - 1) ++ [(x.chs A).getD ((x.chs A).length - 1) .emp] = x.chs A := by
      rw [<- take_succ_get hg, List.take_of_length_le (by omega)]
     generalize (x.chs A).getD ((x.chs A).length - 1) .emp = k at hm hsp hg
     have hfs := fold_spec (A := A) (n := n) (l := (x.chs A).take ((x.chs A).length - 1) ++ mrg A f k y) (fun q hq => by
      rcases List.mem_append.1 hq with hq | hq
      ·exact xv q (List.mem_of_mem_take hq)
      ·exact hm.s (.inr (.inl ⟨rfl, by omega⟩)) q hq) (by rw [List.length_append, List.length_take]; have := hm.l1; omega) (by rw [List.length_append, List.length_take]; have := hm.l2; omega) nx
     rw [Nat.max_eq_left (by omega)]
     refine ⟨hfs.1, hfs.2.1, fun p hp => hfs.2.2.1 p hp _, ?_, fun _ p hp => hfs.2.2.1 p hp _⟩
     rw [hfs.2.2.2, txtL_append, hm.tx, <- xt]
     conv => rhs; rw [<- hsp]
     simp [txtL_append, txtL]
    ·rw [if_neg h2]
     obtain ⟨n, rfl⟩ : ∃ n, hy = n + 1 := ⟨hy - 1, by omega⟩
     obtain ⟨y2, y4, yv, yt⟩ := chs_spec wf vy
     have hg : (y.chs A)[0]? = some ((y.chs A).getD 0 .emp) := by simp [show 0 < (y.chs A).length by omega, List.getD_eq_getElem?_getD]
     have hm := mrg_spec wf f x ((y.chs A).getD 0 .emp) b1 false hx n vx (yv _ (List.mem_of_getElem? hg)) (by omega)
     rw [Nat.max_eq_right (by omega : hx <= n)] at hm
     have hsp : [(y.chs A).getD 0 .emp] ++ (y.chs A).drop 1 = y.chs A := by
      have := take_succ_get hg
      rw [List.take_zero, List.nil_append] at this
      rw [<- this, List.take_append_drop]
     generalize (y.chs A).getD 0 .emp = k at hm hsp hg
     have hfs := fold_spec (A := A) (n := n) (l := mrg A f x k ++ (y.chs A).drop 1) (fun q hq => by
      rcases List.mem_append.1 hq with hq | hq
      ·exact hm.s (.inr (.inr (.inl ⟨rfl, by omega⟩))) q hq
      ·exact yv q (List.mem_of_mem_drop hq)) (by rw [List.length_append, List.length_drop]; have := hm.l1; omega) (by rw [List.length_append, List.length_drop]; have := hm.l2; omega) ny
     rw [Nat.max_eq_right (by omega)]
     refine ⟨hfs.1, hfs.2.1, fun p hp => hfs.2.2.1 p hp _, ?_, fun _ p hp => hfs.2.2.1 p hp _⟩
     rw [hfs.2.2.2, txtL_append, hm.tx, <- yt]
     conv => rhs; rw [<- hsp]
     simp [txtL_append, txtL]
theorem Val.least {A : Ar} (wf : A.WF) {n : Nat} {p : Pl} (h : Val A false n p) : 8 * 2 ^ n <= p.bytes := by
 generalize hb : false = b at h
 induction h with
 | kept hg e1 e2 e3 =>
  rename_i t n h m x
  subst hb
  rcases (wf _ _ hg).2.1 with ⟨h0, h1, h2, h3⟩ | ⟨k1, k16, ktx, k2, k4, hk⟩
  ·have := (e3.resolve_left (by decide)).resolve_left (by omega)
   have hn : n = 0 := by omega
   subst hn
   simpa [Pl.bytes] using this
  ·obtain ⟨q, rfl⟩ : ∃ q, n = q + 1 := ⟨n - 1, by omega⟩
   simp only [Pl.bytes]
   rw [<- e2, Nd.ms, if_neg (by omega)]
   rw [e1] at hk
   match hks : x.ks, k2 with
   | a :: c :: r, _ =>
    rw [hks] at hk
    have ha := (hk a (by simp)).2.1
    have hc := (hk c (by simp)).2.1
    simp only [Nat.add_sub_cancel] at ha hc
    simp only [List.map_cons, msSum_cons, Ms.add]
    rw [Nat.pow_succ]
    omega
 | leaf h1 h2 h3 => subst hb; simpa [Pl.bytes] using h3.resolve_left (by decide)
 | inner h1 h2 h3 h4 ih =>
  rename_i t n ks
  match ks, h2 with
  | a :: c :: r, _ =>
   have ha := ih a (by simp) rfl
   have hc := ih c (by simp) rfl
   simp only [Pl.bytes, bytesL]
   rw [Nat.pow_succ]
   omega
theorem Val.most {A : Ar} (wf : A.WF) {t : Bool} {n : Nat} {p : Pl} (h : Val A t n p) : p.bytes <= 16 * 4 ^ n := by
 induction h with
 | kept hg e1 e2 e3 =>
  rename_i t n h m x
  rcases (wf _ _ hg).2.1 with ⟨h0, h1, h2, h3⟩ | ⟨k1, k16, ktx, k2, k4, hk⟩
  ·have : n = 0 := by omega
   subst this
   simp only [Pl.bytes]
   rw [<- e2, Nd.ms, if_pos h0]
   simpa [msOf] using h2
  ·obtain ⟨q, rfl⟩ : ∃ q, n = q + 1 := ⟨n - 1, by omega⟩
   simp only [Pl.bytes]
   rw [<- e2, Nd.ms, if_neg (by omega)]
   rw [e1] at hk
   have key : ∀ l : List Kd, (∀ k, k ∈ l -> k.m.b <= 16 * 4 ^ q) -> (msSum (l.map (·.m))).b <= l.length * (16 * 4 ^ q) := by
    intro l
    induction l with
    | nil => intro _; simp [msSum]
    | cons a l ih =>
     intro h
     have h1 := h a (by simp)
     have h2 := ih fun k hk => h k (by simp [hk])
     simp only [List.map_cons, msSum_cons, Ms.add, List.length_cons, Nat.add_mul, Nat.one_mul]
     omega
   have := key x.ks fun k hkm => Nat.le_trans (hk k hkm).2.2.1 (by simp only [Nat.add_sub_cancel, AM.most]; exact Nat.min_le_left _ _)
   have h5 : x.ks.length * (16 * 4 ^ q) <= 4 * (16 * 4 ^ q) := Nat.mul_le_mul_right _ k4
   rw [Nat.pow_succ]
   omega
 | leaf h1 h2 h3 => simpa [Pl.bytes] using h2
 | inner h1 h2 h3 h4 ih =>
  rename_i t n ks
  have key : ∀ l : List Pl, (∀ k, k ∈ l -> k.bytes <= 16 * 4 ^ n) -> bytesL l <= l.length * (16 * 4 ^ n) := by
   intro l
   induction l with
   | nil => intro _; simp [bytesL]
   | cons a l ih =>
    intro h
    have h1 := h a (by simp)
    have h2 := ih fun k hk => h k (by simp [hk])
    simp only [bytesL, List.length_cons, Nat.add_mul, Nat.one_mul]
    omega
  have := key ks ih
  have h5 : ks.length * (16 * 4 ^ n) <= 4 * (16 * 4 ^ n) := Nat.mul_le_mul_right _ h3
  simp only [Pl.bytes]
  rw [Nat.pow_succ]
  omega
theorem Val.low12 {A : Ar} (wf : A.WF) {n : Nat} {p : Pl} (h : Val A false n p) (hb : p.bytes <= 65536) : n <= 13 := by
 have h1 := h.least wf
 rcases Nat.lt_or_ge 13 n with hn | hn
 ·have : 2 ^ 14 <= 2 ^ n := Nat.pow_le_pow_right (by decide) hn
  have e : (2 : Nat) ^ 14 = 16384 := by decide
  omega
 ·exact hn
end Go.Proofs.YtekhblefchceaaaGreat.AM

/- Contracts: plan.merge, concat, both, Concat. -/
set_option maxRecDepth 20000
namespace Go.Proofs.YtekhblefchceaaaGreat.AM
open Go Go.Proofs
variable {σ : St}
theorem Ext.app2 {σ' : St} (h : Ext σ σ') : Ext σ ((σ'.new .tok).rt (.id σ'.n)) := rt_ext (rt_tok (σ := σ') .ex h.1) (h.newer _)
theorem app_a (l : List Pl) (t : Tok) (h0 : l ≠ []) (hl : l.length <= 1000) (σ' : St) : appA true 7 80 (.vs [] .ex) (.vs (l.map Pl.av) t) σ' = .v (.vs (l.map Pl.av) (.id σ'.n)) (σ'.new .tok) := by
 have := appA_M (σ := σ') (ag := true) (sz := 7) (bytes := 80) (l := []) (new := l.map Pl.av) (t := .ex) (t' := t) (by simpa using h0) rfl (Pl.fit l) (by simp; omega) trivial
 simpa [St.rt] using this
theorem app_b (l r : List Pl) (t : Tok) (h0 : r ≠ []) (hl : l.length <= 1000) (hr : r.length <= 1000) (σ' : St) (m : Nat) (hm : σ'.n = m) : appA true 7 80 (.vs (l.map Pl.av) (.id m)) (.vs (r.map Pl.av) t) (σ'.new .tok) = .v (.vs ((l ++ r).map Pl.av) (.id (m + 1))) ((σ'.new .tok).rt (.id σ'.n)) := by
 subst hm
 have ht : TokG (σ'.new .tok) (.id σ'.n) := ⟨Nat.lt_succ_self _, by simp [lk_new]⟩
 have := appA_M (σ := σ'.new .tok) (ag := true) (sz := 7) (bytes := 80) (l := l.map Pl.av) (new := r.map Pl.av) (t := .id σ'.n) (t' := t) (by simpa using h0) (Pl.fit l) (Pl.fit r) (by simp; omega) ht
 simpa using this
theorem getD_mem {l : List Pl} {i : Nat} (h : i < l.length) : l[i]? = some (l.getD i .emp) := by simp [h, List.getD_eq_getElem?_getD]
theorem merge_ok {p : Pa} {A : Ar} (wf : A.WF) : ∀ (f : Nat) (x y : Pl) (b1 b2 : Bool) (hx hy : Nat), Val A b1 hx x -> Val A b2 hy y -> hx + hy <= f -> ∀ σ, ArAt p σ A ->
  ACalls Tryz.prog 220 [.ptr p.a 0, x.av, y.av] σ (fun v σ' => v = .tup [.vs ((mrg A f x y).map Pl.av) .no, .int .i64 0] /\ σ' = σ) := by
 intro f
 induction f with
 | zero =>
  intro x y b1 b2 hx hy vx vy hf σ hA
  have e1 : hx = 0 := by omega
  have e2 : hy = 0 := by omega
  subst e1; subst e2
  have ex := vx.ht
  have ey := vy.ht
  refine ACalls.quietX ?_ (by simp only [AV.pur, purL, Pl.purl, Tok.pur, Bool.and_self])
  refine FOk.calls ok220 (by simp [a220]) (wpc_sound hmix ?_)
  show wpc _ _ _ c220 _ _ _
  simp (disch := first | exact dA | fail) only [↓V0, VV, reduceCtorEq, seval, a220, Pl.av_eq, treeCs]
  refine callQE (by first | rfl | simp only [WQ, treeCs, Ms.av, Ms.cs]) (leaves_ok wf x y vx vy (hA.ext (by exact eA))) ?_
  simp (disch := first | exact dA | fail) only [↓V0, VV, reduceCtorEq, seval, a220]
  exact ⟨by simp only [WE, mrg, Pl.ers], by exact eA⟩
 | succ f ih =>
  intro x y b1 b2 hx hy vx vy hf σ hA
  have ex := vx.ht
  have ey := vy.ht
  have nx := vx.n16 wf
  have ny := vy.n16 wf
  refine ACalls.quietX ?_ (by simp only [AV.pur, purL, Pl.purl, Tok.pur, Bool.and_self])
  have hm : mrg A (f + 1) x y = mrg A (f + 1) x y := rfl
  conv at hm => rhs; rw [mrg]
  rw [ex, ey] at hm
  have hA2 := hA.ext (((Ext.new σ (.arr x.cs))).newer (.arr y.cs))
  simp only [Pl.cs, treeCs] at hA2
  by_cases h0 : hx = 0 /\ hy = 0
  ·rw [if_pos h0] at hm
   obtain ⟨e1, e2⟩ := h0
   subst e1; subst e2
   refine FOk.calls ok220 (by simp [a220]) (wpc_sound hmix ?_)
   show wpc _ _ _ c220 _ _ _
   simp (disch := first | exact dA | fail) only [↓V0, VV, reduceCtorEq, seval, a220, Pl.av_eq, treeCs]
   refine callQE (by first | rfl | simp only [WQ, treeCs, Ms.av, Ms.cs]) (leaves_ok wf x y vx vy hA2) ?_
   simp (disch := first | exact dA | fail) only [↓V0, VV, reduceCtorEq, seval, a220]
   exact ⟨by simp only [WE, hm, Pl.ers], by exact eA⟩
  ·rw [if_neg h0] at hm
   by_cases h1 : hx = hy
   ·rw [if_pos h1] at hm
    subst h1
    obtain ⟨n, rfl⟩ : ∃ n, hx = n + 1 := ⟨hx - 1, by omega⟩
    obtain ⟨x2, x4, xv, xt⟩ := chs_spec wf vx
    obtain ⟨y2, y4, yv, yt⟩ := chs_spec wf vy
    refine FOk.calls ok220 (by simp [a220]) (wpc_sound hmix ?_)
    show wpc _ _ _ c220 _ _ _
    simp (disch := first | exact dA | fail) only [↓V0, VV, reduceCtorEq, seval, a220, Pl.av_eq, treeCs]
    refine callQE (by first | rfl | simp only [WQ, treeCs, Ms.av, Ms.cs]) (children_ok wf x vx hA2) ?_
    simp (disch := first | exact dA | fail) only [↓V0, VV, reduceCtorEq, seval, a220]
    refine callQE (by first | rfl | simp only [WQ, treeCs, Ms.av, Ms.cs]) (children_ok wf y vy hA2) ?_
    have g1 := fun σ' => group_ok (σ := σ') (x.chs A ++ y.chs A) (by rw [List.length_append]; omega) (fun k hk => by
     rcases List.mem_append.1 hk with hk | hk
     ·have := (xv k hk).ht; omega
     ·have := (yv k hk).ht; omega)
    generalize x.chs A = kx at x2 x4 xv xt hm g1
    generalize y.chs A = ky at y2 y4 yv yt hm g1
    have a1 := fun t => app_a kx t (by intro e; subst e; simp at x2) (by omega)
    have a2 := fun t => app_b kx ky t (by intro e; subst e; simp at y2) (by omega) (by omega)
    by_cases h2 : kx.length + ky.length <= 4
    ·rw [if_pos h2] at hm
     simp (disch := first | exact dA | fail) only [↓V0, VV, reduceCtorEq, seval, a220, List.length_map, ↓eval_app, a1, a2]
     refine callQE (by first | rfl | simp only [WQ, treeCs, Ms.av, Ms.cs]) (g1 _) ?_
     simp (disch := first | exact dA | fail) only [↓V0, VV, reduceCtorEq, seval, a220, Pl.av_eq, treeCs]
     exact ⟨by simp only [WE, hm, Pl.ers, Pl.av_eq, treeCs], Ext.app2 (by exact eA)⟩
    ·rw [if_neg h2] at hm
     simp (disch := first | exact dA | fail) only [↓V0, VV, reduceCtorEq, seval, a220, List.length_map]
     exact ⟨by simp only [WE, hm, Pl.ers, Pl.av_eq, treeCs], by exact eA⟩
   ·rw [if_neg h1] at hm
    by_cases h2 : hy < hx
    ·rw [if_pos h2] at hm
     obtain ⟨n, rfl⟩ : ∃ n, hx = n + 1 := ⟨hx - 1, by omega⟩
     obtain ⟨x2, x4, xv, xt⟩ := chs_spec wf vx
     refine FOk.calls ok220 (by simp [a220]) (wpc_sound hmix ?_)
     show wpc _ _ _ c220 _ _ _
     simp (disch := first | exact dA | fail) only [↓V0, VV, reduceCtorEq, seval, a220, Pl.av_eq, treeCs]
     refine callQE (by first | rfl | simp only [WQ, treeCs, Ms.av, Ms.cs]) (children_ok wf x vx hA2) ?_
     have hgm := getD_mem (l := x.chs A) (i := (x.chs A).length - 1) (by omega)
     have vk := xv _ (List.mem_of_getElem? hgm)
     have hg : ((x.chs A).map Pl.av)[(x.chs A).length - 1]? = some ((x.chs A).getD ((x.chs A).length - 1) .emp).av := by rw [List.getElem?_map, hgm]; rfl
     have hmg := mrg_spec wf f _ y false b2 n hy vk vy (by omega)
     have hrec := ih _ y false b2 n hy vk vy (by omega) _ hA2
     have hfit := Pl.fit (x.chs A)
     generalize hk : (x.chs A).getD ((x.chs A).length - 1) .emp = k at hm hmg hrec vk hg
     have hmv := hmg.v
     have hml := hmg.l2
     have hml1 := hmg.l1
     rw [Nat.max_eq_left (by omega : hy <= n)] at hmv
     generalize x.chs A = kx at x2 x4 xv xt hm hg hfit
     have hlm : ((kx.length : Nat) : Int) - 1 = ((kx.length - 1 : Nat) : Int) := by omega
     simp (disch := first | exact dA | fail) only [↓V0, VV, reduceCtorEq, seval, a220, List.length_map, hlm, hg, Pl.av_eq, treeCs]
     refine callQE (by first | rfl | simp only [WQ, treeCs, Ms.av, Ms.cs]) (hrec) ?_
     generalize mrg A f k y = L at hm hmv hml hml1
     have a1 := fun t => app_a (kx.take (kx.length - 1)) t (by intro e; have := congrArg List.length e; simp at this; omega) (by simp; omega)
     have a2 := fun t => app_b (kx.take (kx.length - 1)) L t (by intro e; subst e; simp at hml1) (by simp; omega) (by omega)
     simp only [List.map_take, List.map_append] at a1 a2
     have g1 := fun σ' => fold_ok (σ := σ') (kx.take (kx.length - 1) ++ L) (by rw [List.length_append, List.length_take]; omega) (fun q hq => by
      rcases List.mem_append.1 hq with hq | hq
      ·have := (xv q (List.mem_of_mem_take hq)).ht; omega
      ·have := (hmv q hq).ht; omega)
     simp (disch := first | exact dA | fail) only [↓V0, VV, reduceCtorEq, seval, a220, List.length_map, hfit, ↓eval_app, a1, a2]
     refine callQE (by first | rfl | simp only [WQ, treeCs, Ms.av, Ms.cs]) (g1 _) ?_
     simp (disch := first | exact dA | fail) only [↓V0, VV, reduceCtorEq, seval, a220]
     exact ⟨by simp only [WE, hm, Pl.ers], Ext.app2 (by exact eA)⟩
    ·rw [if_neg h2] at hm
     obtain ⟨n, rfl⟩ : ∃ n, hy = n + 1 := ⟨hy - 1, by omega⟩
     obtain ⟨y2, y4, yv, yt⟩ := chs_spec wf vy
     have hq : hx = 0 \/ 0 < hx := by omega
     rcases hq with q | q
     all_goals
      refine FOk.calls ok220 (by simp [a220]) (wpc_sound hmix ?_)
      show wpc _ _ _ c220 _ _ _
      simp (disch := first | exact dA | fail) only [↓V0, VV, reduceCtorEq, seval, a220, Pl.av_eq, treeCs]
      refine callQE (by first | rfl | simp only [WQ, treeCs, Ms.av, Ms.cs]) (children_ok wf y vy hA2) ?_
      have hgm := getD_mem (l := y.chs A) (i := 0) (by omega)
      have vk := yv _ (List.mem_of_getElem? hgm)
      have hg : ((y.chs A).map Pl.av)[0]? = some ((y.chs A).getD 0 .emp).av := by rw [List.getElem?_map, hgm]; rfl
      have hmg := mrg_spec wf f x _ b1 false hx n vx vk (by omega)
      have hrec := ih x _ b1 false hx n vx vk (by omega) _ hA2
      have hfit := Pl.fit (y.chs A)
      generalize hk : (y.chs A).getD 0 .emp = k at hm hmg hrec vk hg
      have hmv := hmg.v
      have hml := hmg.l2
      have hml1 := hmg.l1
      rw [Nat.max_eq_right (by omega : hx <= n)] at hmv
      generalize y.chs A = ky at y2 y4 yv yt hm hg hfit
      simp (disch := first | exact dA | fail) only [↓V0, VV, reduceCtorEq, seval, a220, List.length_map, hg, Pl.av_eq, treeCs]
      refine callQE (by first | rfl | simp only [WQ, treeCs, Ms.av, Ms.cs]) (hrec) ?_
      generalize mrg A f x k = L at hm hmv hml hml1
      have a1 := fun t => app_a L t (by intro e; subst e; simp at hml1) (by omega)
      have a2 := fun t => app_b L (ky.drop 1) t (by intro e; have := congrArg List.length e; simp at this; omega) (by omega) (by simp; omega)
      simp only [List.map_drop, List.map_append] at a1 a2
      have g1 := fun σ' => fold_ok (σ := σ') (L ++ ky.drop 1) (by rw [List.length_append, List.length_drop]; omega) (fun q hq => by
       rcases List.mem_append.1 hq with hq | hq
       ·have := (hmv q hq).ht; omega
       ·have := (yv q (List.mem_of_mem_drop hq)).ht; omega)
      have hx : (ky.map Pl.av).take ky.length = ky.map Pl.av := List.take_of_length_le (by simp)
      simp (disch := first | exact dA | fail) only [↓V0, VV, reduceCtorEq, seval, a220, List.length_map, hfit, hx, ↓eval_app, a1, a2]
      refine callQE (by first | rfl | simp only [WQ, treeCs, Ms.av, Ms.cs]) (g1 _) ?_
      simp (disch := first | exact dA | fail) only [↓V0, VV, reduceCtorEq, seval, a220]
      exact ⟨by simp only [WE, hm, Pl.ers], Ext.app2 (by exact eA)⟩
end Go.Proofs.YtekhblefchceaaaGreat.AM

