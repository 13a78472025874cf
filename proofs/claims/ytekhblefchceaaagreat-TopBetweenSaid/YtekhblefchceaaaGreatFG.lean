/- Joined: F24, W2, W3. -/
import Derived.Test.YtekhblefchceaaaGreatFF
import Derived.Test.YtekhblefchceaaaGreatEB
import Derived.Test.YtekhblefchceaaaGreatMD
import Derived.Test.YtekhblefchceaaaGreatDK
import Derived.Carry
import Derived.ChangeArms
import Derived.SliceStrings
set_option linter.unusedVariables false
set_option linter.unusedSimpArgs false
/- Contract: quartotop.TopBetween. -/
set_option maxRecDepth 20000
namespace Go.Proofs.YtekhblefchceaaaGreat.AM
open Go Go.Proofs
variable {σ : St}
theorem comp_self (x : List UInt8) : Lib.compareBytes x x = 0 := by
 induction x with
 | nil => rfl
 | cons a x ih => simp [Lib.compareBytes, ih]
structure BI (A : Ar) (vs : List (Rt × List UInt8)) (i k : Nat) : Prop where
 g : A.Good
 lv : A.Lv
 ok : ∀ j v, vs[j]? = some v -> RtOk A v.1 /\ v.1.txt A = v.2 /\ v.2.length <= 80 + 40 * j
 k : 3000 <= A.k + 357 + 357 * i + cst k
theorem VI.bi {A : Ar} {vs : List (Rt × List UInt8)} (V : VI A vs) (hm : vs.length <= 7) : BI A vs 0 0 := by
 have h1 := cst_mono hm
 have h7 : cst 7 = 357 := rfl
 have h0 : cst 0 = 0 := rfl
 have := V.k
 exact ⟨V.g, V.lv, V.ok, by omega⟩
theorem BI.next {A : Ar} {vs : List (Rt × List UInt8)} {i k : Nat} (V : BI A vs i k) (hk : k <= 7) : BI A vs (i + 1) 0 := by
 have h1 := cst_mono hk
 have h7 : cst 7 = 357 := rfl
 have h0 : cst 0 = 0 := rfl
 have := V.k
 exact ⟨V.g, V.lv, V.ok, by omega⟩
theorem BI.room {A : Ar} {vs : List (Rt × List UInt8)} {i k : Nat} (V : BI A vs i k) (hi : i <= 6) (hk : k <= 6) {T : Pl} (hT : OkP A T) (hb : T.bytes <= 80 + 40 * k) : T.nnew <= 21 + 10 * k /\ T.nnew <= A.k := by
 have h1 := cst_mono hk
 have h6 : cst 6 = 276 := rfl
 have := V.k
 have := hT.nnew_c V.g.wf
 omega
theorem BI.undo {A : Ar} {vs : List (Rt × List UInt8)} {i k : Nat} (V : BI A vs i k) {T : Pl} (hT : T.nnew <= 21 + 10 * k) (W : Wro A T (wrP A T)) : BI ((wrP A T).1.undo (wrP A T).2.2) vs i (k + 1) := by
 obtain ⟨u1, u2, u3, u4⟩ := undo_good V.g W
 have := V.k
 refine ⟨u1, u2, fun j v hv => ?_, by rw [cst_succ]; omega⟩
 obtain ⟨x1, x2, x3⟩ := V.ok j v hv
 exact ⟨x1.mono u3, (Rt.txt_mono V.g.wf u3 x1).trans x2, x3⟩
theorem between_top (s : List UInt8) (l : List Ed) (hs : s.length <= 9223372036854775807) (hl : l.length <= 9223372036854775807) (ht : ∀ e, e ∈ l -> e.tx.length <= 9223372036854775807) :
  ACalls Tryz.prog 6 [.str s, .vs (l.map Ed.av) .no] σ (fun v σ' => v = .bool true /\ σ' = σ) := by
 refine ACalls.quietX ?_ rfl
 have hll : (l.map Ed.av).length = l.length := List.length_map _
 refine FOk.calls ok6 (by simp [a6]) (wpc_sound hmix ?_)
 show wpc _ _ _ c6 _ _ _
 simp (disch := first | exact dA | fail) only [↓V0, VV, reduceCtorEq, seval, a6]
 refine (few_ok s l hs hl ht).mono ?_
 rintro v σ' ⟨⟨b, rfl, hb⟩, rfl⟩
 cases b with
 | false =>
  simp (disch := first | exact dA | fail) only [↓V0, VV, reduceCtorEq, seval, a6, hll]
  exact ⟨rfl, Ext.refl _⟩
 | true =>
  obtain ⟨b1, b2, b3⟩ := hb rfl
  by_cases h6 : l.length <= 6
  ·simp (disch := first | exact dA | fail) only [↓V0, VV, reduceCtorEq, seval, a6, hll, eq_false (show ¬ (6 : Int) < (l.length : Int) by omega)]
   refine (anew2_ok 3000 3 (by omega) (by omega) (by omega) (by omega)).mono ?_
   rintro v σ1 ⟨p, rfl, hA, hE, hp⟩
   simp (disch := first | exact dA | fail) only [↓V0, VV, reduceCtorEq, seval, a6]
   refine (versions_ok (newAr_good 3000 3 (by omega) (by omega)) (newAr_lv 3000 3 (by omega) (by omega) (by omega) (by omega)) (Nat.le_refl _) hA s b1 l h6 b3).mono ?_
   rintro v σ2 ⟨B0, ⟨vs, rfl, hV, hm⟩, hA2, hF2⟩
   have hvl : (vs.map vav).length = vs.length := List.length_map _
   simp (disch := first | exact dA | fail) only [↓V0, VV, reduceCtorEq, seval, a6]
   refine AW.upto hmix (fun i ρ σ3 => (∃ B, BI B vs i 0 /\ ArAt p σ3 B) /\ FrX p σ2 σ3 /\ ρ 5 = .ptr p.a 0 /\ ρ 7 = .vs (vs.map vav) .no /\ ρ 9 = .int .i64 (i : Nat)) vs.length
    ⟨⟨B0, hV.bi hm, hA2⟩, FrX.refl _ _, by exact wA, by exact wA, by exact wA⟩ (fun i ρ σ3 hi hJ => ?_) (fun ρ σ3 hJ => ?_)
   ·obtain ⟨⟨B, hB, hA3⟩, hF3, r5, r7, r9⟩ := hJ
    simp (disch := first | exact dA | fail) only [↓V0, VV, reduceCtorEq, seval, a6, r5, r7, r9, hvl]
    refine AW.upto hmix (fun k ρ σ4 => (∃ B, BI B vs i k /\ ArAt p σ4 B) /\ FrX p σ2 σ4 /\ ρ 5 = .ptr p.a 0 /\ ρ 7 = .vs (vs.map vav) .no /\ ρ 9 = .int .i64 (i : Nat) /\ ρ 10 = .int .i64 (k : Nat)) vs.length
     ⟨⟨B, hB, hA3⟩, hF3, by (simp only [↓W0, W, reduceCtorEq, seval, r5]; first | done | rfl | omega | simp), by (simp only [↓W0, W, reduceCtorEq, seval, r7]; first | done | rfl | omega | simp), by (simp only [↓W0, W, reduceCtorEq, seval, r9]; first | done | rfl | omega | simp), by exact wA⟩ (fun k ρ4 σ4 hk hJ => ?_) (fun ρ4 σ4 hJ => ?_)
    ·obtain ⟨⟨B, hB, hA4⟩, hF4, r5, r7, r9, r10⟩ := hJ
     clear hA3 hF3 hA
     have hvi : vs[i]? = some vs[i] := List.getElem?_eq_getElem hi
     have hvk : vs[k]? = some vs[k] := List.getElem?_eq_getElem hk
     generalize vs[i] = v at *
     generalize vs[k] = w at *
     have hgi : (vs.map vav)[i]? = some (vav v) := by simp [hvi]
     have hgk : (vs.map vav)[k]? = some (vav w) := by simp [hvk]
     simp only [vav] at hgi hgk
     obtain ⟨x1, x2, x3⟩ := hB.ok i v hvi
     obtain ⟨y1, y2, y3⟩ := hB.ok k w hvk
     have wf := hB.g.wf
     obtain ⟨p1, p2, p3, p4, p5, p6⟩ := hA4.lt
     have hbt := between_ok (σ := σ4) wf v.1 w.1 x1 y1 hA4
     have hagr := agr_prs wf x1 y1
     have hX : ftx (prs B v.1) = v.2 := by unfold ftx; rw [prs_txt wf x1, x2]
     have hY : ftx (prs B w.1) = w.2 := by unfold ftx; rw [prs_txt wf y1, y2]
     have hlen := btw_lengths _ _ hagr (by rw [hX]; omega) (by rw [hY]; omega)
     have hsm := btw_small _ _ hagr (by rw [hX]; omega) (by rw [hY]; omega)
     have hap := apl_btw _ _ hagr
     have hd4 := (btw_sums _ _ hagr).2.2
     rw [hX, hY] at hlen
     rw [hX, hY] at hap
     generalize btw (prs B v.1) (prs B w.1) = d at *
     have hl1 : (lengthsP d).1 = (v.2.length : Nat) := by rw [hlen]
     have hl2 : (lengthsP d).2.2 = 0 := by rw [hlen]
     have hl3 : (lengthsP d).2.1 = (w.2.length : Nat) := by rw [hlen]
     have happ := aapply_ok d v.2 σ4 hd4 (by omega) hsm (by rw [hlen]) (by rw [hl3]; omega)
     rw [hap] at happ
     have hvb : (v.1.m.b : Int) = v.2.length := by have := (rt_bytes wf x1).2; rw [x2] at this; exact this
     have hpa := apply2_ok (σ := σ4) hB.g v.1 x1 d (by omega) hsm hl2 (by rw [hl1]; omega) (by rw [hl3]; omega) (fun T hT hTx => by
      rw [x2, hap] at hTx
      have := hT.bytes wf
      rw [hTx] at this
      exact (hB.room (by omega) (by omega) hT (by omega)).2) hA4
     rw [x2, hap] at hpa
     simp only [Rt.av, Rt.cs] at hbt hpa
     simp (disch := first | exact dA | fail) only [↓V0, VV, reduceCtorEq, seval, a6, r5, r7, r9, r10, hvl, hgi, hgk]
     refine callQ hbt ?_
     simp (disch := first | exact dA | fail) only [↓V0, VV, reduceCtorEq, seval, a6, r5, r7, r9, r10, hvl, hgi, hgk]
     refine callQ happ ?_
     simp (disch := first | exact dA | fail) only [↓V0, VV, reduceCtorEq, seval, a6, r5, r7, r9, r10, hvl, hgi, hgk]
     refine hpa.mono ?_
     rintro v5 σ5 ⟨_, ⟨T, rfl, o1, o2, rfl⟩, z1, z2⟩
     have hTb := o1.bytes wf
     rw [o2] at hTb
     obtain ⟨n1, n2⟩ := hB.room (by omega) (by omega) o1 (by omega)
     have W := wro hB.g hB.lv o1 (by omega) n2
     have hU := hB.undo n1 W
     generalize drp B v.1 T = dr at *
     generalize hW : wrP B T = Wt at *
     obtain ⟨C, r', fr⟩ := Wt
     simp only at hU z1
     have hfl := W.fl
     simp only at hfl
     have hbn := hB.g.ok.n1
     have hbk := hB.g.ok.kn
     simp (disch := first | exact dA | fail) only [↓V0, VV, reduceCtorEq, seval, a6, r5, r7, r9, r10, hvl, List.cons_append, List.nil_append, Rt.cs]
     generalize hσ6 : St.set _ _ _ = σ6
     have hE6 : Ext σ5 σ6 := by rw [<- hσ6]; exact eA
     have hn6 : σ6.n = σ5.n + 1 := by rw [<- hσ6]; rfl
     have kc : lk σ6.H σ5.n = some (.arr [.int .u64 r'.h, .int .i64 r'.ht, .int .i64 r'.m.b, .int .i64 r'.m.r, .int .i64 r'.m.l, .vs (uav .u64 fr) .no, .vs (uav .u64 dr) .no]) := by rw [<- hσ6]; simp (disch := first | exact dA | fail) only [↓V0, VV, reduceCtorEq, seval, a6]
     clear hσ6
     have hC6 := z1.ext hE6
     have hcm := comp_ok (σ := σ6) W.g.wf r' w.1 W.rt (y1.mono W.s) hC6
     have et1 : r'.txt C = w.2 := W.tx.trans o2
     have et2 : w.1.txt C = w.2 := (Rt.txt_mono wf W.s y1).trans y2
     simp only at hcm
     rw [et1, et2, comp_self] at hcm
     have hun := undo_ok (σ := σ6) (ds := dr) r' hC6 W.lv W.nd (fun h hh => (W.yes h).2 (.inr hh)) (by simp only; omega)
     simp only [Rt.av, Rt.cs, List.cons_append, List.nil_append] at hcm hun
     simp (disch := first | exact dA | fail) only [↓V0, VV, reduceCtorEq, seval, a6, r5, r7, r9, r10, hvl, hgk, kc]
     refine callQ hcm ?_
     simp (disch := first | exact dA | fail) only [↓V0, VV, reduceCtorEq, seval, a6, r5, r7, r9, r10, hvl, hgk, kc]
     refine hun.mono ?_
     rintro v7 σ7 ⟨rfl, u1, u2⟩
     simp (disch := first | exact dA | fail) only [↓V0, VV, reduceCtorEq, seval, a6, r5, r7, r9, r10]
     exact ⟨⟨_, hU, u1⟩, hF4.trans (z2.x.trans ((FrX.ext hE6).trans u2)), by rw [Int.natCast_add]; rfl⟩
    ·obtain ⟨⟨B, hB, hA4⟩, hF4, r5, r7, r9, r10⟩ := hJ
     simp (disch := first | exact dA | fail) only [↓V0, VV, reduceCtorEq, seval, a6, r5, r7, r9, r10, hvl]
     exact ⟨⟨B, hB.next hm, hA4⟩, hF4, by rw [Int.natCast_add]; rfl⟩
   ·obtain ⟨⟨B, hB, hA3⟩, hF3, r5, r7, r9⟩ := hJ
    simp (disch := first | exact dA | fail) only [↓V0, VV, reduceCtorEq, seval, a6, r5, r7, r9, hvl]
    refine ⟨rfl, ?_⟩
    have e1 := hF2.1
    have e2 := hF3.1
    have e3 := hE.1
    exact ⟨by omega, fun β hβ => (hF3.2 β (by omega) fun h => by have := hp β h; omega).trans ((hF2.2 β (by omega) fun h => by have := hp β h; omega).trans (hE.2 β hβ))⟩
  ·simp (disch := first | exact dA | fail) only [↓V0, VV, reduceCtorEq, seval, a6, hll, eq_true (show (6 : Int) < (l.length : Int) by omega)]
   exact ⟨rfl, Ext.refl _⟩
end Go.Proofs.YtekhblefchceaaaGreat.AM

/- From the abstract machine to the rows: a function with arguments that returns true. -/
namespace Go.Proofs.YtekhblefchceaaaGreat.AM
open Go Go.ChangeShapes Go.WideShapes Go.RowKit
variable {P : Program}
def g0 : Gh := ⟨fun _ => 0, fun _ => 0, fun _ => 0, fun _ => 0⟩
theorem row_callsA {f : Nat} {args : List AV} {K : AV -> St -> Prop} (h : ACalls P f args ⟨[], 0⟩ K) (hk : ∀ v σ', K v σ' -> v = .bool true) (w : World) (cargs : List Value) (hl : VRL g0 ⟨[], 0⟩ w args cargs) :
    Calls P f cargs.toArray w fun e w' => e = .returned (.bool true) /\ w'.os = w.os /\ w'.output = w.output /\ ∀ i, i < w.heap.size -> w'.heap[i]? = w.heap[i]? := by
  have h1 := h.2.2 g0 w cargs (rel_none _ 0 w.heap) hl
  refine callsIn_wide.1 (CallsIn.mono h1 fun e w' hp => ?_)
  cases e with
  | panicked _ => exact hp.elim
  | outgrown => exact hp.elim
  | returned cv =>
    obtain ⟨v, σ', g', hk1, h2, h3, h4⟩ := hp
    obtain rfl := hk v σ' hk1
    cases h3
    refine ⟨rfl, h4.os, h4.out, fun i hi => ?_⟩
    have ho : w.heap[i]? = some w.heap[i] := Array.getElem?_eq_getElem hi
    rw [kept_all h4.toEvo i _ ho, ho]
theorem ic0 {w : World} {b i : Nat} {v : Value} (h : hc w.heap b i = some v) : IC g0 [] w.heap b i v := ⟨h, fun ⟨β, k, hk, _⟩ => by simp [lk] at hk⟩
theorem adr_add (b off i : Nat) : (⟨b, off, none⟩ : Addr).add i = ⟨b, off + i, none⟩ := by
  unfold Addr.add
  by_cases h : i = 0
  · subst h; simp
  · simp [h]
theorem cells_get {w : World} {base b off n : Nat} {cs : List Value} (h : w.cells? base ⟨b, off, none⟩ n = some cs) : cs.length = n /\ ∀ (j : Nat) (v : Value), cs[j]? = some v -> hc w.heap b (off + j) = some v := by
  unfold World.cells? at h
  split at h
  · have h1 := mapM_some_length h
    refine ⟨by simpa using h1, fun j v hj => ?_⟩
    have hlt := (List.getElem?_eq_some_iff.1 hj).1
    have hn : cs.length = n := by simpa using h1
    have hr : (List.range n)[j]? = some j := List.getElem?_range (by omega)
    have := mapM_some_get h j j hr
    rw [adr_add, hc_cell, hj] at this
    exact this
  · cases h
theorem spot_none {w : World} {t e : TypeId} {a : Addr} {len cap : Nat} {r : Reach} {base : Nat} (ht : P.underlying t = some (.slice e)) (h : Value.okWide P w r base t (.slice (some a) len cap)) : a.spot = none := by
  simp only [Value.okWide, ht, Cell.okWide, Cell.ok, World.has] at h
  exact h.2.2.2.1
theorem ok_slice {w : World} {t e : TypeId} {v : Value} {r : Reach} {base : Nat} (ht : P.underlying t = some (.slice e)) (h : Value.okWide P w r base t v) : ∃ a len cap, v = .slice a len cap := okWide_slice ht h
section
variable {H : Type} {enc : TypeId × Value -> H} {w : World}
theorem post_below {f : Func} {s : ChangeSpec} {apart fresh handsOn again : Bool} {W W' : World} {args : Array Value} {v : Value} {ds gs : List (DataW H)} {before pa : List MemPlace}
    (hW : DataW.Whole enc P f.params.toList s.vars apart W args.toList ds gs before)
    (hres : ∀ (b : Nat) (sp : Nat -> Bool) (hd : Bool), DataW.TrodAll enc P W' b sp hd f.resultTypes.toList (v.resultList f.resultTypes.size) (s.fn H (ds ++ gs)).results [])
    (hargs : ∀ sp : Nat -> Bool, (∀ p ∈ before, sp p.block = true) -> DataW.TrodAll enc P W' 0 sp true f.params.toList args.toList (s.fn H (ds ++ gs)).args pa)
    (hvars : ∀ sp : Nat -> Bool, DataW.TrodVars enc P W' sp s.vars (s.fn H (ds ++ gs)).vars [])
    (hps : before = pa) (hos : W'.os = W.os) (hout : W'.output = W.output) (hb : ∀ i, i < W.heap.size -> W'.heap[i]? = W.heap[i]?)
    (hok : ∀ (j : Nat) (t : TypeId) (r : Value), f.resultTypes[j]? = some t -> (v.resultList f.resultTypes.size)[j]? = some r -> Value.okWide P W' .any 0 t r) :
    s.post enc P f apart fresh handsOn again W args v W' := by
  have hold : ∀ p ∈ before, (fun b => decide (b < W.heap.size)) p.block = true := fun p hp => by simpa using hW.lt p hp
  have hlt := hW.lt
  have hk : W.keptBut W' (fun _ => False) := ⟨hos, hout, fun i hi => by
    rw [hb i hi]
    have ho : W.heap[i]? = some W.heap[i] := Array.getElem?_eq_getElem hi
    rw [ho]
    cases W.heap[i] <;> simp⟩
  subst hps
  refine ⟨ds, gs, before, [], before, [], hW, hres _ _ _, hargs _ hold, hvars _, World.keptBut_mono (fun p hp => hp.elim) hk, fun _ => ?_⟩
  obtain ⟨_, _, _, _, _, hz, hn⟩ := hW
  refine ⟨hok, _, _, ([] ++ before) ++ [], ⟨[] ++ before, [], trodAll_append (hargs _ (fun _ _ => rfl)) (hres _ _ _), hvars _, rfl, ?_, ?_⟩, ?_⟩
  · intro b off hp
    have hp2 : MemPlace.cell b off ∈ before := by simpa using hp
    have h1 := hz b off hp2
    have h2 := hlt _ hp2
    unfold World.frozen? at h1 ⊢
    rw [hb b h2]
    exact h1
  · intro ha
    simpa using hn ha
  · intro p hp _
    simpa using hp
end
end Go.Proofs.YtekhblefchceaaaGreat.AM

/- Arguments: a slice of edits. -/
namespace Go.Proofs.YtekhblefchceaaaGreat.AM
open Go Go.ChangeShapes Go.WideShapes Go.RowKit
variable {P : Program}
section
variable {H : Type} {enc : TypeId × Value -> H} {w : World}
structure Q4 where
 w : Int
 a : Int
 n : Int
 s : List UInt8
 deriving Inhabited
def Q4.vals (q : Q4) : List Value := [.int .i64 q.w, .int .i64 q.a, .int .i64 q.n, .string ⟨q.s.toArray⟩]
def Q4.op (q : Q4) : Ed := ⟨q.w, q.a, q.n, q.s⟩
theorem arg_ed {e : TypeId} {f1 f2 f3 f4 : Field} {cs : List Value} {n : Nat} {y : DataW H × List MemPlace} (he : P.underlying e = some (.struct #[f1, f2, f3, f4])) (hce : P.cellsOf e = 4)
  (h1 : P.underlying f1.type = some (.int .i64) /\ f1.offset = 0 /\ P.cellsOf f1.type = 1) (h2 : P.underlying f2.type = some (.int .i64) /\ f2.offset = 1 /\ P.cellsOf f2.type = 1)
  (h3 : P.underlying f3.type = some (.int .i64) /\ f3.offset = 2 /\ P.cellsOf f3.type = 1) (h4 : P.underlying f4.type = some .string /\ f4.offset = 3 /\ P.cellsOf f4.type = 1)
  (h : DataW.trod enc P w 0 (fun _ => true) true n e cs = some y) : ∃ q : Q4, cs = q.vals /\ q.s.length <= 9223372036854775807 := by
 obtain ⟨xs, m, _, _, hl, hlx, hf⟩ := DataW.trod_struct he h
 rw [hce] at hl
 match cs, hl with
 | [c1, c2, c3, c4], _ =>
  have hx : ∀ i, i < 4 -> ∃ x, xs[i]? = some x := fun i hi => ⟨xs[i]'(by rw [hlx]; exact hi), List.getElem?_eq_getElem _⟩
  obtain ⟨x1, e1⟩ := hx 0 (by omega)
  obtain ⟨x2, e2⟩ := hx 1 (by omega)
  obtain ⟨x3, e3⟩ := hx 2 (by omega)
  obtain ⟨x4, e4⟩ := hx 3 (by omega)
  have g1 := hf 0 f1 rfl
  have g2 := hf 1 f2 rfl
  have g3 := hf 2 f3 rfl
  have g4 := hf 3 f4 rfl
  rw [h1.2.1, h1.2.2, e1] at g1
  rw [h2.2.1, h2.2.2, e2] at g2
  rw [h3.2.1, h3.2.2, e3] at g3
  rw [h4.2.1, h4.2.2, e4] at g4
  simp only [List.drop_zero, List.drop_succ_cons, List.take_succ_cons, List.take_zero] at g1 g2 g3 g4
  obtain ⟨w1, q1, _, _⟩ := DataW.trod_int h1.1 g1
  obtain ⟨a1, q2, _, _⟩ := DataW.trod_int h2.1 g2
  obtain ⟨n1, q3, _, _⟩ := DataW.trod_int h3.1 g3
  obtain ⟨s, q4, _, hs⟩ := DataW.trod_string h4.1 g4
  simp only [List.cons.injEq, and_true] at q1 q2 q3 q4
  subst q1 q2 q3 q4
  exact ⟨⟨w1, a1, n1, s.data.toList⟩, by cases s; rfl, hs⟩
theorem arg_eds {t e : TypeId} {f1 f2 f3 f4 : Field} {v : Value} {d : DataW H} {ps : List MemPlace} {r : Reach} {base : Nat} (ht : P.underlying t = some (.slice e)) (he : P.underlying e = some (.struct #[f1, f2, f3, f4])) (hce : P.cellsOf e = 4)
  (h1 : P.underlying f1.type = some (.int .i64) /\ f1.offset = 0 /\ P.cellsOf f1.type = 1) (h2 : P.underlying f2.type = some (.int .i64) /\ f2.offset = 1 /\ P.cellsOf f2.type = 1)
  (h3 : P.underlying f3.type = some (.int .i64) /\ f3.offset = 2 /\ P.cellsOf f3.type = 1) (h4 : P.underlying f4.type = some .string /\ f4.offset = 3 /\ P.cellsOf f4.type = 1) (hok : Value.okWide P w r base t v)
  (h : DataW.Trod enc P w 0 (fun _ => true) true t v d ps) : ∃ ops : List Ed, VRs g0 ⟨[], 0⟩ w (.vs (ops.map Ed.av) .no) v /\ ops.length <= 9223372036854775807 /\ ∀ o, o ∈ ops -> o.tx.length <= 9223372036854775807 := by
 obtain ⟨a0, len, cap, rfl⟩ := ok_slice ht hok
 obtain ⟨fuel, hf⟩ := h
 rcases DataW.trod_slice ht hf with ⟨hcs, _⟩ | ⟨a, len', cap', elems, rest, n, _, hcs, _, _, hl, hm, hlen, hel, _, _⟩
 ·simp only [Value.cells, List.cons.injEq, and_true] at hcs
  cases hcs
  exact ⟨[], .vsn _, by simp, fun s h => by simp at h⟩
 ·simp only [Value.cells, List.cons.injEq, and_true] at hcs
  cases hcs
  have hsp := spot_none ht hok
  obtain ⟨b, off, sp⟩ := a
  simp only at hsp
  subst hsp
  have hml : maxLen = 9223372036854775807 := rfl
  have each : ∀ i, i < len -> ∃ q : Q4, q.s.length <= 9223372036854775807 /\ ∀ (j : Nat) (u : Value), q.vals[j]? = some u -> hc w.heap b (off + i * 4 + j) = some u := by
   intro i hi
   have h6 := hel i hi
   rw [List.getElem?_eq_getElem (by omega), hce, Option.bind_eq_some_iff] at h6
   obtain ⟨cs, hc1, hc2⟩ := h6
   rw [adr_add] at hc1
   obtain ⟨q, rfl, hq⟩ := arg_ed he hce h1 h2 h3 h4 hc2
   exact ⟨q, hq, (cells_get hc1).2⟩
  have pick : ∃ F : Nat -> Q4, ∀ i, i < len -> (F i).s.length <= 9223372036854775807 /\ ∀ (j : Nat) (u : Value), (F i).vals[j]? = some u -> hc w.heap b (off + i * 4 + j) = some u := by
   refine ⟨fun i => if h : i < len then Classical.choose (each i h) else default, fun i hi => ?_⟩
   simp only [dif_pos hi]
   exact Classical.choose_spec (each i hi)
  obtain ⟨F, hF⟩ := pick
  refine ⟨(List.range len).map fun i => (F i).op, ?_, by simp; omega, fun o ho => ?_⟩
  ·have hlen2 : (((List.range len).map fun i => (F i).op).map Ed.av).length = len := by simp
   have key := VR.vs (g := g0) (n := 0) (ic := IC g0 [] w.heap) (((List.range len).map fun i => (F i).op).map Ed.av) .no b off cap 4 (fun i j => (F i).vals.getD j .nilFunc) (fun x hx => by
     obtain ⟨y, _, rfl⟩ := List.mem_map.1 hx
     rfl) (by rw [hlen2]; exact hl) (fun i j hi hj => by
     rw [hlen2] at hi
     have h7 : (F i).vals[j]? = some ((F i).vals.getD j .nilFunc) := by
      rw [List.getD_eq_getElem?_getD, List.getElem?_eq_getElem (by show j < 4; omega)]; rfl
     exact ic0 ((hF i hi).2 j _ h7)) (fun i j x y hx hy => by
     simp only [List.map_map, List.getElem?_map, Option.map_eq_some_iff, Function.comp_apply] at hx
     obtain ⟨i', hi', rfl⟩ := hx
     have : i' = i := by
      rw [List.getElem?_range (by have := (List.getElem?_eq_some_iff.1 hi').1; simpa using this)] at hi'
      simpa using hi'.symm
     subst this
     simp only [Ed.av, Q4.op, AV.cells] at hy
     match j, hy with
     | 0, hy => simp at hy; subst hy; exact .int _ _
     | 1, hy => simp at hy; subst hy; exact .int _ _
     | 2, hy => simp at hy; subst hy; exact .int _ _
     | 3, hy => simp at hy; subst hy; exact .str _
     | j + 4, hy => simp at hy) trivial
   rw [hlen2] at key
   exact key
  ·obtain ⟨i, hi, rfl⟩ := List.mem_map.1 ho
   exact (hF i (by simpa using hi)).1
theorem arg_str {t : TypeId} {v : Value} {d : DataW H} {ps : List MemPlace} (ht : P.underlying t = some .string) (hok : ∃ s, v = .string s) (h : DataW.Trod enc P w 0 (fun _ => true) true t v d ps) :
  ∃ s : List UInt8, VRs g0 ⟨[], 0⟩ w (.str s) v /\ s.length <= 9223372036854775807 := by
 obtain ⟨s0, rfl⟩ := hok
 obtain ⟨fuel, hf⟩ := h
 obtain ⟨s, q4, _, hs⟩ := DataW.trod_string ht hf
 simp only [Value.cells, List.cons.injEq, and_true] at q4
 cases q4
 exact ⟨s0.data.toList, by cases s0; exact .str _, hs⟩
end
end Go.Proofs.YtekhblefchceaaaGreat.AM

