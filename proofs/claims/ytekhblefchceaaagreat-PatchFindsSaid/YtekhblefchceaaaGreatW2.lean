/- From the abstract machine to the rows: a function with arguments that returns true. -/
import Derived.Test.YtekhblefchceaaaGreatMD
import Derived.Test.YtekhblefchceaaaGreatDK
import Derived.Carry
import Derived.ChangeArms
import Derived.SliceStrings
set_option linter.unusedVariables false
set_option linter.unusedSimpArgs false
namespace Go.Proofs.YtekhblefchceaaaGreat.AM
open Go Go.ChangeShapes Go.WideShapes Go.RowKit
variable {P : Program}
def g0 : Gh := ⟨fun _ => 0, fun _ => 0, fun _ => 0, fun _ => 0⟩
theorem row_callsA {f : Nat} {args : List AV} {K : AV -> St -> Prop} (h : ACalls P f args ⟨[], 0⟩ K) (hk : ∀ v σ', K v σ' -> v = .bool true) (w : World) (cargs : List Value) (hl : VRL g0 ⟨[], 0⟩ w args cargs) :
    Calls P f cargs.toArray w fun e w' => e = .returned (.bool true) /\ w'.os = w.os /\ w'.output = w.output /\ ∀ i, i < w.heap.size -> w'.heap[i]? = w.heap[i]? := by
  have h1 := h.2.2 g0 w cargs (rel_none _ 0 w.heap) hl
  refine callsIn_wide.1 (CallsIn.mono h1 fun e w' hp => ?_)
  cases e with
  | panicked _ => exact hp.elim
  | outgrown => exact hp.elim
  | returned cv =>
    obtain ⟨v, σ', g', hk1, h2, h3, h4⟩ := hp
    obtain rfl := hk v σ' hk1
    cases h3
    refine ⟨rfl, h4.os, h4.out, fun i hi => ?_⟩
    have ho : w.heap[i]? = some w.heap[i] := Array.getElem?_eq_getElem hi
    rw [kept_all h4.toEvo i _ ho, ho]
theorem ic0 {w : World} {b i : Nat} {v : Value} (h : hc w.heap b i = some v) : IC g0 [] w.heap b i v := ⟨h, fun ⟨β, k, hk, _⟩ => by simp [lk] at hk⟩
theorem adr_add (b off i : Nat) : (⟨b, off, none⟩ : Addr).add i = ⟨b, off + i, none⟩ := by
  unfold Addr.add
  by_cases h : i = 0
  · subst h; simp
  · simp [h]
theorem cells_get {w : World} {base b off n : Nat} {cs : List Value} (h : w.cells? base ⟨b, off, none⟩ n = some cs) : cs.length = n /\ ∀ (j : Nat) (v : Value), cs[j]? = some v -> hc w.heap b (off + j) = some v := by
  unfold World.cells? at h
  split at h
  · have h1 := mapM_some_length h
    refine ⟨by simpa using h1, fun j v hj => ?_⟩
    have hlt := (List.getElem?_eq_some_iff.1 hj).1
    have hn : cs.length = n := by simpa using h1
    have hr : (List.range n)[j]? = some j := List.getElem?_range (by omega)
    have := mapM_some_get h j j hr
    rw [adr_add, hc_cell, hj] at this
    exact this
  · cases h
theorem spot_none {w : World} {t e : TypeId} {a : Addr} {len cap : Nat} {r : Reach} {base : Nat} (ht : P.underlying t = some (.slice e)) (h : Value.okWide P w r base t (.slice (some a) len cap)) : a.spot = none := by
  simp only [Value.okWide, ht, Cell.okWide, Cell.ok, World.has] at h
  exact h.2.2.2.1
theorem ok_slice {w : World} {t e : TypeId} {v : Value} {r : Reach} {base : Nat} (ht : P.underlying t = some (.slice e)) (h : Value.okWide P w r base t v) : ∃ a len cap, v = .slice a len cap := okWide_slice ht h
section
variable {H : Type} {enc : TypeId × Value -> H} {w : World}
theorem arg_strs {t e : TypeId} {v : Value} {d : DataW H} {ps : List MemPlace} {r : Reach} {base : Nat} (ht : P.underlying t = some (.slice e)) (he : P.underlying e = some .string) (hce : P.cellsOf e = 1) (hok : Value.okWide P w r base t v)
    (h : DataW.Trod enc P w 0 (fun _ => true) true t v d ps) : ∃ ts : List (List UInt8), VRs g0 ⟨[], 0⟩ w (.vs (sav ts) .no) v /\ ts.length <= 9223372036854775807 /\ ∀ s, s ∈ ts -> s.length <= 9223372036854775807 := by
  obtain ⟨a0, len, cap, rfl⟩ := ok_slice ht hok
  obtain ⟨fuel, hf⟩ := h
  rcases open_strings ht he hce hf with ⟨hcs, hx⟩ | ⟨a, len', cap', ss, hcs, _, hl, hm, hz, hx, hcell, hsz⟩
  · simp only [Value.cells, List.cons.injEq, and_true] at hcs
    cases hcs
    exact ⟨[], .vsn _, by simp, fun s h => by simp at h⟩
  · simp only [Value.cells, List.cons.injEq, and_true] at hcs
    cases hcs
    have hsp := spot_none ht hok
    obtain ⟨b, off, sp⟩ := a
    simp only at hsp
    subst hsp
    simp only [if_true] at hz
    have hml : maxLen = 9223372036854775807 := rfl
    refine ⟨(ss.take len).map (fun s => s.data.toList), ?_, by simp; omega, fun s hs => ?_⟩
    · have hlen : (sav ((ss.take len).map fun s => s.data.toList)).length = len := by simp [sav]; omega
      have key := VR.vs (g := g0) (n := 0) (ic := IC g0 [] w.heap) (sav ((ss.take len).map fun s => s.data.toList)) .no b off cap 1 (fun i _ => .string (ss.getD i ByteArray.empty)) (fun x hx => by
          obtain ⟨y, _, rfl⟩ := List.mem_map.1 hx
          rfl) (by rw [hlen]; exact hl) (fun i j hi hj => by
          rw [hlen] at hi
          have hj0 : j = 0 := by omega
          subst hj0
          have := hcell i (by omega)
          rw [adr_add, hc_cell] at this
          refine ic0 ?_
          simpa using this) (fun i j x y hx hy => by
          simp only [sav, List.map_map, List.getElem?_map, Option.map_eq_some_iff, Function.comp_apply] at hx
          obtain ⟨s, hs, rfl⟩ := hx
          cases j with
          | succ j => simp [AV.cells] at hy
          | zero =>
            simp only [AV.cells, List.getElem?_cons_zero, Option.some.injEq] at hy
            subst hy
            have hs2 : ss[i]? = some s := by
              rw [List.getElem?_take] at hs
              split at hs
              · exact hs
              · cases hs
            have e : ss.getD i ByteArray.empty = ⟨s.data.toList.toArray⟩ := by rw [List.getD_eq_getElem?_getD, hs2]; cases s; simp
            simp only [e]
            exact .str _) trivial
      rw [hlen] at key
      exact key
    · obtain ⟨y, hy, rfl⟩ := List.mem_map.1 hs
      have := hsz y (List.mem_of_mem_take hy)
      rw [hml] at this
      show y.data.toList.length <= _
      rw [Array.length_toList]
      exact this
structure Q5 where
  k : Int
  w : Int
  a : Int
  n : Int
  s : List UInt8
  deriving Inhabited
def Q5.vals (q : Q5) : List Value := [.int .u8 q.k, .int .i64 q.w, .int .i64 q.a, .int .i64 q.n, .string ⟨q.s.toArray⟩]
def Q5.op (q : Q5) : Op6 := ⟨.int .u8 q.k, q.w, q.a, q.n, q.s⟩
theorem Q5.opS (q : Q5) (h : q.s.length <= 9223372036854775807) : opS q.op := ⟨⟨rfl, rfl, rfl⟩, h⟩
theorem arg_op {e : TypeId} {f0 f1 f2 f3 f4 : Field} {cs : List Value} {n : Nat} {y : DataW H × List MemPlace} (he : P.underlying e = some (.struct #[f0, f1, f2, f3, f4])) (hce : P.cellsOf e = 5)
    (h0 : P.underlying f0.type = some (.int .u8) /\ f0.offset = 0 /\ P.cellsOf f0.type = 1) (h1 : P.underlying f1.type = some (.int .i64) /\ f1.offset = 1 /\ P.cellsOf f1.type = 1) (h2 : P.underlying f2.type = some (.int .i64) /\ f2.offset = 2 /\ P.cellsOf f2.type = 1)
    (h3 : P.underlying f3.type = some (.int .i64) /\ f3.offset = 3 /\ P.cellsOf f3.type = 1) (h4 : P.underlying f4.type = some .string /\ f4.offset = 4 /\ P.cellsOf f4.type = 1)
    (h : DataW.trod enc P w 0 (fun _ => true) true n e cs = some y) : ∃ q : Q5, cs = q.vals /\ q.s.length <= 9223372036854775807 := by
  obtain ⟨xs, m, _, _, hl, hlx, hf⟩ := DataW.trod_struct he h
  rw [hce] at hl
  match cs, hl with
  | [c0, c1, c2, c3, c4], _ =>
    have hx : ∀ i, i < 5 -> ∃ x, xs[i]? = some x := fun i hi => ⟨xs[i]'(by rw [hlx]; exact hi), List.getElem?_eq_getElem _⟩
    obtain ⟨x0, e0⟩ := hx 0 (by omega)
    obtain ⟨x1, e1⟩ := hx 1 (by omega)
    obtain ⟨x2, e2⟩ := hx 2 (by omega)
    obtain ⟨x3, e3⟩ := hx 3 (by omega)
    obtain ⟨x4, e4⟩ := hx 4 (by omega)
    have g0 := hf 0 f0 rfl
    have g1 := hf 1 f1 rfl
    have g2 := hf 2 f2 rfl
    have g3 := hf 3 f3 rfl
    have g4 := hf 4 f4 rfl
    rw [h0.2.1, h0.2.2, e0] at g0
    rw [h1.2.1, h1.2.2, e1] at g1
    rw [h2.2.1, h2.2.2, e2] at g2
    rw [h3.2.1, h3.2.2, e3] at g3
    rw [h4.2.1, h4.2.2, e4] at g4
    simp only [List.drop_zero, List.drop_succ_cons, List.take_succ_cons, List.take_zero] at g0 g1 g2 g3 g4
    obtain ⟨k, q0, _, _⟩ := DataW.trod_int h0.1 g0
    obtain ⟨w1, q1, _, _⟩ := DataW.trod_int h1.1 g1
    obtain ⟨a1, q2, _, _⟩ := DataW.trod_int h2.1 g2
    obtain ⟨n1, q3, _, _⟩ := DataW.trod_int h3.1 g3
    obtain ⟨s, q4, _, hs⟩ := DataW.trod_string h4.1 g4
    simp only [List.cons.injEq, and_true] at q0 q1 q2 q3 q4
    subst q0 q1 q2 q3 q4
    exact ⟨⟨k, w1, a1, n1, s.data.toList⟩, by cases s; rfl, hs⟩
theorem arg_ops {t e : TypeId} {f0 f1 f2 f3 f4 : Field} {v : Value} {d : DataW H} {ps : List MemPlace} {r : Reach} {base : Nat} (ht : P.underlying t = some (.slice e)) (he : P.underlying e = some (.struct #[f0, f1, f2, f3, f4])) (hce : P.cellsOf e = 5)
    (h0 : P.underlying f0.type = some (.int .u8) /\ f0.offset = 0 /\ P.cellsOf f0.type = 1) (h1 : P.underlying f1.type = some (.int .i64) /\ f1.offset = 1 /\ P.cellsOf f1.type = 1) (h2 : P.underlying f2.type = some (.int .i64) /\ f2.offset = 2 /\ P.cellsOf f2.type = 1)
    (h3 : P.underlying f3.type = some (.int .i64) /\ f3.offset = 3 /\ P.cellsOf f3.type = 1) (h4 : P.underlying f4.type = some .string /\ f4.offset = 4 /\ P.cellsOf f4.type = 1) (hok : Value.okWide P w r base t v)
    (h : DataW.Trod enc P w 0 (fun _ => true) true t v d ps) : ∃ ops : List Op6, VRs g0 ⟨[], 0⟩ w (.vs (ops.map Op6.av) .no) v /\ ops.length <= 9223372036854775807 /\ ∀ o, o ∈ ops -> opS o := by
  obtain ⟨a0, len, cap, rfl⟩ := ok_slice ht hok
  obtain ⟨fuel, hf⟩ := h
  rcases DataW.trod_slice ht hf with ⟨hcs, _⟩ | ⟨a, len', cap', elems, rest, n, _, hcs, _, _, hl, hm, hlen, hel, _, _⟩
  · simp only [Value.cells, List.cons.injEq, and_true] at hcs
    cases hcs
    exact ⟨[], .vsn _, by simp, fun s h => by simp at h⟩
  · simp only [Value.cells, List.cons.injEq, and_true] at hcs
    cases hcs
    have hsp := spot_none ht hok
    obtain ⟨b, off, sp⟩ := a
    simp only at hsp
    subst hsp
    have hml : maxLen = 9223372036854775807 := rfl
    have each : ∀ i, i < len -> ∃ q : Q5, q.s.length <= 9223372036854775807 /\ ∀ (j : Nat) (u : Value), q.vals[j]? = some u -> hc w.heap b (off + i * 5 + j) = some u := by
      intro i hi
      have h6 := hel i hi
      rw [List.getElem?_eq_getElem (by omega), hce, Option.bind_eq_some_iff] at h6
      obtain ⟨cs, hc1, hc2⟩ := h6
      rw [adr_add] at hc1
      obtain ⟨q, rfl, hq⟩ := arg_op he hce h0 h1 h2 h3 h4 hc2
      exact ⟨q, hq, (cells_get hc1).2⟩
    have pick : ∃ F : Nat -> Q5, ∀ i, i < len -> (F i).s.length <= 9223372036854775807 /\ ∀ (j : Nat) (u : Value), (F i).vals[j]? = some u -> hc w.heap b (off + i * 5 + j) = some u := by
      refine ⟨fun i => if h : i < len then Classical.choose (each i h) else default, fun i hi => ?_⟩
      simp only [dif_pos hi]
      exact Classical.choose_spec (each i hi)
    obtain ⟨F, hF⟩ := pick
    refine ⟨(List.range len).map fun i => (F i).op, ?_, by simp; omega, fun o ho => ?_⟩
    · have hlen2 : (((List.range len).map fun i => (F i).op).map Op6.av).length = len := by simp
      have key := VR.vs (g := g0) (n := 0) (ic := IC g0 [] w.heap) (((List.range len).map fun i => (F i).op).map Op6.av) .no b off cap 5 (fun i j => (F i).vals.getD j .nilFunc) (fun x hx => by
          obtain ⟨y, _, rfl⟩ := List.mem_map.1 hx
          rfl) (by rw [hlen2]; exact hl) (fun i j hi hj => by
          rw [hlen2] at hi
          have h7 : (F i).vals[j]? = some ((F i).vals.getD j .nilFunc) := by
            rw [List.getD_eq_getElem?_getD, List.getElem?_eq_getElem (by show j < 5; omega)]; rfl
          exact ic0 ((hF i hi).2 j _ h7)) (fun i j x y hx hy => by
          simp only [List.map_map, List.getElem?_map, Option.map_eq_some_iff, Function.comp_apply] at hx
          obtain ⟨i', hi', rfl⟩ := hx
          have : i' = i := by
            rw [List.getElem?_range (by have := (List.getElem?_eq_some_iff.1 hi').1; simpa using this)] at hi'
            simpa using hi'.symm
          subst this
          simp only [Op6.av, Q5.op, AV.cells] at hy
          match j, hy with
          | 0, hy => simp at hy; subst hy; exact .int _ _
          | 1, hy => simp at hy; subst hy; exact .int _ _
          | 2, hy => simp at hy; subst hy; exact .int _ _
          | 3, hy => simp at hy; subst hy; exact .int _ _
          | 4, hy => simp at hy; subst hy; exact .str _
          | j + 5, hy => simp at hy) trivial
      rw [hlen2] at key
      exact key
    · obtain ⟨i, hi, rfl⟩ := List.mem_map.1 ho
      exact (F i).opS (hF i (by simpa using hi)).1
theorem post_below {f : Func} {s : ChangeSpec} {apart fresh handsOn again : Bool} {W W' : World} {args : Array Value} {v : Value} {ds gs : List (DataW H)} {before pa : List MemPlace}
    (hW : DataW.Whole enc P f.params.toList s.vars apart W args.toList ds gs before)
    (hres : ∀ (b : Nat) (sp : Nat -> Bool) (hd : Bool), DataW.TrodAll enc P W' b sp hd f.resultTypes.toList (v.resultList f.resultTypes.size) (s.fn H (ds ++ gs)).results [])
    (hargs : ∀ sp : Nat -> Bool, (∀ p ∈ before, sp p.block = true) -> DataW.TrodAll enc P W' 0 sp true f.params.toList args.toList (s.fn H (ds ++ gs)).args pa)
    (hvars : ∀ sp : Nat -> Bool, DataW.TrodVars enc P W' sp s.vars (s.fn H (ds ++ gs)).vars [])
    (hps : before = pa) (hos : W'.os = W.os) (hout : W'.output = W.output) (hb : ∀ i, i < W.heap.size -> W'.heap[i]? = W.heap[i]?)
    (hok : ∀ (j : Nat) (t : TypeId) (r : Value), f.resultTypes[j]? = some t -> (v.resultList f.resultTypes.size)[j]? = some r -> Value.okWide P W' .any 0 t r) :
    s.post enc P f apart fresh handsOn again W args v W' := by
  have hold : ∀ p ∈ before, (fun b => decide (b < W.heap.size)) p.block = true := fun p hp => by simpa using hW.lt p hp
  have hlt := hW.lt
  have hk : W.keptBut W' (fun _ => False) := ⟨hos, hout, fun i hi => by
    rw [hb i hi]
    have ho : W.heap[i]? = some W.heap[i] := Array.getElem?_eq_getElem hi
    rw [ho]
    cases W.heap[i] <;> simp⟩
  subst hps
  refine ⟨ds, gs, before, [], before, [], hW, hres _ _ _, hargs _ hold, hvars _, World.keptBut_mono (fun p hp => hp.elim) hk, fun _ => ?_⟩
  obtain ⟨_, _, _, _, _, hz, hn⟩ := hW
  refine ⟨hok, _, _, ([] ++ before) ++ [], ⟨[] ++ before, [], trodAll_append (hargs _ (fun _ _ => rfl)) (hres _ _ _), hvars _, rfl, ?_, ?_⟩, ?_⟩
  · intro b off hp
    have hp2 : MemPlace.cell b off ∈ before := by simpa using hp
    have h1 := hz b off hp2
    have h2 := hlt _ hp2
    unfold World.frozen? at h1 ⊢
    rw [hb b h2]
    exact h1
  · intro ha
    simpa using hn ha
  · intro p hp _
    simpa using hp
end
end Go.Proofs.YtekhblefchceaaaGreat.AM
