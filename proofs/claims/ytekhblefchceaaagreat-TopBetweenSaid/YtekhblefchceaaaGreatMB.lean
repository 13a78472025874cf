/- Joined: M7, M8, M9, M10, M11. -/
import Derived.Test.YtekhblefchceaaaGreatMA
import Derived.Laws.Tables
import Derived.Laws.MakeOwn
import Derived.Great.BuildSlice
import Derived.Laws.AppendOwn
set_option linter.unusedVariables false
set_option linter.unusedSimpArgs false
/- The operations of the abstract machine are those of the model: conversions, cutting, making. -/
namespace Go.Proofs.YtekhblefchceaaaGreat.AM
open Go
variable {P : Program} {g : Gh} {σ : St} {w : World}
theorem push_list : ∀ (s : List UInt8) (b : ByteArray), (s.map fun x => (x.toNat : Int)).foldl (fun r n => r.push (UInt8.ofNat n.toNat)) b = ⟨(b.data.toList ++ s).toArray⟩
  | [], b => by simp
  | x :: s, b => by
    simp only [List.map_cons, List.foldl_cons]
    rw [push_list s]
    simp [ByteArray.push]
theorem snd_b2s {src dst e : TypeId} {x v : AV} {a : Value} {σ' : St} {ρ : Env} {y : Opd} (hy : y.ev ρ = x) (r : Rel P g σ w.heap) (hx : VRs g σ w x a)
    (hs : P.underlying src = some (.slice e)) (he : P.underlying e = some (.int .u8)) (hd : P.underlying dst = some .string) (hev : evalOp ρ σ (.b2s y) = .v v σ') :
    Good P g σ w ((convert src dst a).run P w) v σ' := by
  simp only [evalOp, hy] at hev
  cases hx with
  | bs s t b off cap hcap h1 ht =>
    simp only [OR.v.injEq] at hev
    obtain ⟨rfl, rfl⟩ := hev
    refine Good.pure r ?_ (.str s)
    rw [run_convert_bytes_string w src dst e _ _ _ hs he hd]
    have hl : (loadCells ⟨b, off, none⟩ s.length).run P w = .ok ((s.map fun x => (x.toNat : Int)).map (Value.int .u8)).toArray w := by
      have := run_cells (P := P) (w := w) (b := b) (off := off) ((s.map fun x => (x.toNat : Int)).map (Value.int .u8)) (fun j v hj => by
        simp only [List.getElem?_map, Option.map_map, Option.map_eq_some_iff] at hj
        obtain ⟨x, hx, rfl⟩ := hj
        exact (h1 j x hx).1)
      simpa using this
    rw [run_bytesToString w _ _ _ _ hl, push_list]
    rfl
  | vsn t =>
    simp only [OR.v.injEq] at hev
    obtain ⟨rfl, rfl⟩ := hev
    refine Good.pure r ?_ (.str [])
    rw [run_convert_bytes_string w src dst e _ _ _ hs he hd]
    rfl
  | vs l t b off cap sz cs hsz hcap h1 h2 ht =>
    cases l with
    | cons x l => simp at hev
    | nil =>
      simp only [OR.v.injEq] at hev
      obtain ⟨rfl, rfl⟩ := hev
      refine Good.pure r ?_ (.str [])
      rw [run_convert_bytes_string w src dst e _ _ _ hs he hd]
      rw [run_bytesToString w ⟨b, off, none⟩ _ _ [] (by simp [loadCells, loadCellsFrom])]
      rfl
  | _ => simp at hev
theorem snd_conv {src dst : TypeId} {k ks : IntKind} {v : AV} {a : Value} {σ' : St} {ρ : Env} {y : Opd} (r : Rel P g σ w.heap) (hx : VRs g σ w (y.ev ρ) a)
    (hs : P.underlying src = some (.int ks)) (hd : P.underlying dst = some (.int k)) (hev : evalOp ρ σ (.conv k y) = .v v σ') : Good P g σ w ((convert src dst a).run P w) v σ' := by
  simp only [evalOp] at hev
  generalize y.ev ρ = x at *
  cases hx with
  | int k' i =>
    simp only [OR.v.injEq] at hev
    obtain ⟨rfl, rfl⟩ := hev
    exact Good.pure r (by simp [convert, run_under hs, run_under hd, Conv.intToInt]) (.int _ _)
  | _ => simp at hev
inductive OVR (g : Gh) (σ : St) (w : World) (ρ : Env) : Option Opd -> Option Value -> Prop where
  | none : OVR g σ w ρ .none .none
  | some (y : Opd) (c : Value) (h : VRs g σ w (y.ev ρ) c) : OVR g σ w ρ (.some y) (.some c)
theorem run_bound {k : IntKind} {n y : Nat} {code : BoundsCode} (h : n <= y) : (Instr.sliceBound (.int k (n : Int)) y code).run P w = .ok n w := by
  simp [Instr.sliceBound, asIntOf, h]
theorem run_bounds {isSlice : Bool} {len cap lo hi : Nat} {ρ : Env} {olo ohi omx : Option Opd} {clo chi cmx : Option Value} {m dm : Nat} (hlo : OVR g σ w ρ olo clo) (hhi : OVR g σ w ρ ohi chi) (hmx : OVR g σ w ρ omx cmx)
    (e1 : optNat ρ 0 olo = some lo) (e2 : optNat ρ len ohi = some hi) (e3 : optNat ρ dm omx = some m) (h1 : lo <= hi) (h2 : hi <= m) (h3 : m <= cap) (h4 : omx.isSome = true -> ohi.isSome = true) :
    (Instr.sliceBounds isSlice len cap clo chi cmx).run P w = .ok (lo, hi, if omx.isSome then m else cap) w := by
  cases hmx with
  | none =>
    cases hhi with
    | none =>
      simp only [optNat, Option.some.injEq] at e2 e3
      subst e2
      cases hlo with
      | none => simp only [optNat, Option.some.injEq] at e1; subst e1; simp [Instr.sliceBounds]
      | some y c h =>
        obtain ⟨k, rfl⟩ := natOf_some e1 h
        simp [Instr.sliceBounds, run_bound h1]
    | some z d hz =>
      obtain ⟨k', rfl⟩ := natOf_some e2 hz
      have h5 : hi <= cap := by omega
      cases hlo with
      | none => simp only [optNat, Option.some.injEq] at e1; subst e1; simp [Instr.sliceBounds, run_bound h5]
      | some y c h =>
        obtain ⟨k, rfl⟩ := natOf_some e1 h
        simp [Instr.sliceBounds, run_bound h1, run_bound h5]
  | some q u hq =>
    obtain ⟨k'', rfl⟩ := natOf_some e3 hq
    cases hhi with
    | none => simp at h4
    | some z d hz =>
      obtain ⟨k', rfl⟩ := natOf_some e2 hz
      cases hlo with
      | none => simp only [optNat, Option.some.injEq] at e1; subst e1; simp [Instr.sliceBounds, run_bound h2, run_bound h3]
      | some y c h =>
        obtain ⟨k, rfl⟩ := natOf_some e1 h
        simp [Instr.sliceBounds, run_bound h1, run_bound h2, run_bound h3]
theorem run_sliceAt_slice {t e : TypeId} {x : Value} {lo hi mx : Option Value} (hu : P.underlying t = some (.slice e)) : (Instr.sliceAt t x lo hi mx).run P w = (Instr.slice t x lo hi mx).run P w := by
  simp [Instr.sliceAt, run_under hu]
theorem run_sliceAt_string {t : TypeId} {x : Value} {lo hi mx : Option Value} (hu : P.underlying t = some .string) : (Instr.sliceAt t x lo hi mx).run P w = (Instr.slice t x lo hi mx).run P w := by
  simp [Instr.sliceAt, run_under hu]
theorem extract_list (s : List UInt8) (lo hi : Nat) (_h : lo <= hi) : (⟨s.toArray⟩ : ByteArray).extract lo hi = ⟨((s.take hi).drop lo).toArray⟩ := by
  apply ByteArray.ext
  simp [ByteArray.data_extract, List.drop_take]
theorem snd_sslice {t : TypeId} {v : AV} {a : Value} {σ' : St} {ρ : Env} {y : Opd} {olo ohi : Option Opd} {clo chi : Option Value} (r : Rel P g σ w.heap) (hx : VRs g σ w (y.ev ρ) a)
    (hlo : OVR g σ w ρ olo clo) (hhi : OVR g σ w ρ ohi chi) (hu : P.underlying t = some .string) (hev : evalOp ρ σ (.sslice y olo ohi) = .v v σ') :
    Good P g σ w ((Instr.sliceAt t a clo chi none).run P w) v σ' := by
  simp only [evalOp] at hev
  generalize y.ev ρ = x at *
  cases hx with
  | str s =>
    simp only at hev
    split at hev
    · rename_i lo hi e1 e2
      split at hev
      · rename_i h
        simp only [OR.v.injEq] at hev
        obtain ⟨rfl, rfl⟩ := hev
        refine Good.pure r ?_ (.str _)
        rw [run_sliceAt_string hu]
        have hsz : (⟨s.toArray⟩ : ByteArray).size = s.length := by simp [ByteArray.size]
        have hb := run_bounds (P := P) (isSlice := false) (len := s.length) (cap := s.length) (m := s.length) (dm := s.length) hlo hhi .none e1 e2 rfl h.1 h.2 (Nat.le_refl _) (by simp)
        simp only [Instr.slice, Sem.run_bind, run_under hu, Result.andThen_ok, hsz]
        simp only [Option.isSome, Bool.false_eq_true, if_false, Sem.run_bind, hb, Result.andThen_ok, Sem.run_pure, extract_list s lo hi h.1]
      · simp at hev
    · simp at hev
  | _ => simp at hev
theorem fitSz_mem {s : Nat} {l : List AV} (h : fitSz s l = true) : ∀ e ∈ l, e.cells.length = s /\ allSc e.cells = true := by
  simpa [fitSz] using h
theorem snd_slice {t e : TypeId} {s : Nat} {v : AV} {a : Value} {σ' : St} {ρ : Env} {y : Opd} {olo ohi omx : Option Opd} {clo chi cmx : Option Value} (r : Rel P g σ w.heap) (hx : VRs g σ w (y.ev ρ) a)
    (hlo : OVR g σ w ρ olo clo) (hhi : OVR g σ w ρ ohi chi) (hmx : OVR g σ w ρ omx cmx) (h4 : omx.isSome = true -> ohi.isSome = true) (hu : P.underlying t = some (.slice e)) (hs : szOf P e = some s)
    (hev : evalOp ρ σ (.slice s y olo ohi omx) = .v v σ') : Good P g σ w ((Instr.sliceAt t a clo chi cmx).run P w) v σ' := by
  simp only [evalOp] at hev
  rw [run_sliceAt_slice hu]
  have run1 : ∀ (ad : Option Addr) (len cap lo hi m : Nat), (Instr.sliceBounds true len cap clo chi cmx).run P w = .ok (lo, hi, m) w ->
      (Instr.slice t (.slice ad len cap) clo chi cmx).run P w = .ok (.slice (if m = lo then ad else ad.map (·.add (lo * s))) (hi - lo) (m - lo)) w := by
    intro ad len cap lo hi m hb
    simp [Instr.slice, run_under hu, hb, run_sizeOf hs]
  generalize y.ev ρ = x at *
  cases hx with
  | vsn tk =>
    simp only at hev
    split at hev
    · rename_i lo hi m e1 e2 e3
      split at hev
      · rename_i h
        simp only [OR.v.injEq] at hev
        obtain ⟨rfl, rfl⟩ := hev
        obtain ⟨h1, h2, h3, _⟩ := h
        simp only [List.length_nil, Nat.le_zero] at h3
        subst h3
        obtain rfl : hi = 0 := by omega
        obtain rfl : lo = 0 := by omega
        have hb := run_bounds (P := P) (isSlice := true) (len := 0) (cap := 0) (dm := 0) hlo hhi hmx e1 e2 e3 (Nat.le_refl _) (Nat.le_refl _) (Nat.le_refl _) h4
        have hm : (if omx.isSome then 0 else 0) = 0 := by split <;> rfl
        rw [hm] at hb
        exact Good.pure r (run1 none 0 0 0 0 0 hb) (.vsn _)
      · simp at hev
    · simp at hev
  | vs l tk b off cap sz cs hsz hcap hc1 hc2 ht =>
    simp only at hev
    split at hev
    · rename_i lo hi m e1 e2 e3
      split at hev
      · rename_i h
        simp only [OR.v.injEq] at hev
        obtain ⟨rfl, rfl⟩ := hev
        obtain ⟨h1, h2, h3, h5⟩ := h
        have hb := run_bounds (P := P) (isSlice := true) (len := l.length) (cap := cap) (dm := l.length) hlo hhi hmx e1 e2 e3 h1 h2 (by omega) h4
        refine Good.pure r (run1 _ _ _ _ _ _ hb) ?_
        generalize hM : (if omx.isSome = true then m else cap) = M
        have hM1 : hi <= M /\ M <= cap := by rw [<- hM]; split <;> omega
        have hl : ((l.take hi).drop lo).length = hi - lo := by simp; omega
        by_cases hemp : lo = hi
        · subst hemp
          have hnil : (l.take lo).drop lo = [] := by rw [List.drop_eq_nil_of_le]; simp; omega
          rw [hnil]
          have key : ∀ (tk' : Tok) (b' off' : Nat), TokR g σ.n 0 b' off' 0 0 (M - lo) tk' -> VRs g σ w (.vs [] tk') (.slice (some ⟨b', off', none⟩) (lo - lo) (M - lo)) := by
            intro tk' b' off' htk
            rw [Nat.sub_self]
            exact .vs [] tk' b' off' (M - lo) 0 (fun _ _ => .nilFunc) (by simp) (by simp) (by simp) (by simp) htk
          have tok : ∀ b' off', TokR g σ.n 0 b' off' 0 0 (M - lo) (if omx.isSome = true then (if m = lo then .ex else .no) else if lo = l.length then (if lo < lo then tk else if tk = .ex then .ex else .no) else .no) := by
            intro b' off'
            by_cases ho : omx.isSome = true
            · rw [if_pos ho] at hM ⊢
              subst hM
              split
              · rename_i hml; simp [TokR, hml]
              · trivial
            · rw [if_neg ho] at hM ⊢
              subst hM
              split
              · rename_i hll
                rw [if_neg (by omega)]
                split
                · rename_i htk
                  subst htk
                  have ht' : cap = l.length := ht
                  simp [TokR]; omega
                · trivial
              · trivial
          by_cases hML : M = lo
          · rw [if_pos hML]; exact key _ _ _ (tok _ _)
          · rw [if_neg hML]; simp only [Option.map_some, addr_add]; exact key _ _ _ (tok _ _)
        · have hlt : lo < hi := by omega
          have hne : M ≠ lo := by omega
          rw [if_neg hne]
          simp only [Option.map_some, addr_add]
          have hss : sz = s := by
            have : l ≠ [] := by intro e; subst e; simp at h3; omega
            obtain ⟨x, hx⟩ := List.exists_mem_of_ne_nil l this
            rw [<- hsz x hx]; exact (fitSz_mem h5 x hx).1
          subst hss
          rw [<- hl]
          have hel : ∀ i x, ((l.take hi).drop lo)[i]? = some x -> l[lo + i]? = some x := by
            intro i x hx
            rw [List.getElem?_drop, List.getElem?_take] at hx
            split at hx
            · exact hx
            · simp at hx
          refine .vs _ _ b (off + lo * sz) (M - lo) sz (fun i j => cs (lo + i) j) ?_ (by omega) ?_ ?_ ?_
          · intro x hx
            exact hsz x (List.mem_of_mem_take (List.mem_of_mem_drop hx))
          · intro i j hi' hj
            have := hc1 (lo + i) j (by omega) hj
            have e : off + (lo + i) * sz + j = off + lo * sz + i * sz + j := by rw [Nat.add_mul]; omega
            rwa [e] at this
          · intro i j x y hx hy
            exact hc2 (lo + i) j x y (hel i x hx) hy
          · by_cases ho : omx.isSome = true
            · rw [if_pos ho] at hM ⊢
              subst hM
              split
              · rename_i hml; simp [TokR]; omega
              · trivial
            · rw [if_neg ho] at hM ⊢
              subst hM
              split
              · rename_i hll
                cases tk with
                | no => trivial
                | ex => have ht' : cap = l.length := ht; simp [TokR]; omega
                | id τ =>
                  rcases ht with ht | ⟨ht1, ht2⟩
                  · exfalso; have := ht.1; omega
                  refine .inr ⟨ht1, ?_⟩
                  rcases ht2 with h | ⟨hn, hb1, hf, htp⟩
                  · left; omega
                  · right
                    refine ⟨by omega, hb1, ?_, ?_⟩
                    · rw [hf, hl, hll, Nat.add_assoc, <- Nat.add_mul, Nat.add_sub_cancel' (by omega)]
                    · rw [Nat.add_assoc, <- Nat.add_mul, Nat.add_sub_cancel' (by omega)]; exact htp
              · trivial
      · simp at hev
    · simp at hev
  | hs β off len cap hβ =>
    simp only at hev
    split at hev
    · simp at hev
    · rename_i hno
      split at hev
      · rename_i lo hi e1 e2
        split at hev
        · rename_i h
          simp only [OR.v.injEq] at hev
          obtain ⟨rfl, rfl⟩ := hev
          have h1 := h.1
          have h2 := h.2.1
          have h3 := h.2.2.2
          have ho : omx = none := by cases omx with | none => rfl | some q => simp at hno
          subst ho
          cases hmx
          by_cases hlc : hi <= cap
          · have hb := run_bounds (P := P) (isSlice := true) (len := len) (cap := cap) (m := cap) (dm := cap) hlo hhi .none e1 e2 rfl h1 hlc (Nat.le_refl _) (by simp)
            simp only [Option.isSome, Bool.false_eq_true, if_false] at hb
            refine Good.pure r (run1 _ _ _ _ _ _ hb) ?_
            rw [if_neg (by omega)]
            simp only [Option.map_some, addr_add]
            exact .hs β _ _ _ hβ
          · exact absurd h.2.1 (by omega)
        · simp at hev
      · simp at hev
  | _ => simp at hev
end Go.Proofs.YtekhblefchceaaaGreat.AM

/- The operations of the abstract machine are those of the model: literals, making, lengths. -/
namespace Go.Proofs.YtekhblefchceaaaGreat.AM
open Go
variable {P : Program} {g : Gh} {σ : St} {w : World}
theorem foldl_set (off : Nat) : ∀ (cs : List Value) (j : Nat) (z : Array Value), off + j + cs.length <= z.size ->
    (((cs.zipIdx j).foldl (fun (a : Array Value) (p : Value × Nat) => a.setIfInBounds (off + p.2) p.1) z).size = z.size /\
    ∀ k : Nat, ((cs.zipIdx j).foldl (fun (a : Array Value) (p : Value × Nat) => a.setIfInBounds (off + p.2) p.1) z)[k]? =
      if off + j <= k /\ k < off + j + cs.length then cs[k - (off + j)]? else z[k]?)
  | [], j, z, _ => ⟨rfl, fun k => by rw [if_neg (by simp)]; rfl⟩
  | c :: cs, j, z, h => by
    simp only [List.length_cons] at h
    obtain ⟨h1, h2⟩ := foldl_set off cs (j + 1) (z.setIfInBounds (off + j) c) (by rw [Array.size_setIfInBounds]; omega)
    simp only [List.zipIdx_cons, List.foldl_cons]
    refine ⟨by rw [h1]; simp, fun k => ?_⟩
    rw [h2 k, Array.getElem?_setIfInBounds]
    by_cases e1 : off + j = k
    · subst e1
      rw [if_neg (by omega), if_pos rfl, if_pos (by omega), if_pos (by simp)]; simp
    · by_cases e2 : off + (j + 1) <= k /\ k < off + (j + 1) + cs.length
      · rw [if_pos e2, if_pos (by simp; omega)]
        have : k - (off + j) = k - (off + (j + 1)) + 1 := by omega
        rw [this, List.getElem?_cons_succ]
      · rw [if_neg e2, if_neg e1, if_neg (by simp; omega)]
theorem fill_one (off : Nat) (v : Value) (z : Array Value) (h : off + v.cells.size <= z.size) :
    (v.cells.zipIdx.foldl (fun (a : Array Value) (p : Value × Nat) => a.setIfInBounds (off + p.2) p.1) z).size = z.size /\
    ∀ k : Nat, (v.cells.zipIdx.foldl (fun (a : Array Value) (p : Value × Nat) => a.setIfInBounds (off + p.2) p.1) z)[k]? = if off <= k /\ k < off + v.cells.size then v.cells[k - off]? else z[k]? := by
  have := foldl_set off v.cells.toList 0 z (by simpa using h)
  rw [<- Array.foldl_toList, Array.toList_zipIdx]
  simpa using this
def CellsVR (g : Gh) (σ : St) (w : World) (l : List AV) (cs : Array Value) : Prop :=
  cs.size = l.length /\ ∀ (i : Nat) (x : AV) (v : Value), l[i]? = some x -> cs[i]? = some v -> VRs g σ w x v
theorem cellsVR_put {l cs : List AV} {z : Array Value} {x : AV} {v : Value} {off : Nat} (hz : CellsVR g σ w l z) (hx : VRs g σ w x v) (hs : allSc x.cells = true) (hcs : cs = x.cells) (hle : off + cs.length <= l.length) :
    CellsVR g σ w (putCells l off cs) (v.cells.zipIdx.foldl (fun (a : Array Value) (p : Value × Nat) => a.setIfInBounds (off + p.2) p.1) z) := by
  subst hcs
  obtain ⟨h1, h2⟩ := hx.cells hs
  obtain ⟨h3, h4⟩ := fill_one off v z (by rw [h1, hz.1]; exact hle)
  refine ⟨by rw [h3, hz.1, length_putCells hle], fun i y u hy hu => ?_⟩
  rw [getElem?_putCells hle] at hy
  rw [h4 i, h1] at hu
  split at hy
  · rename_i h; rw [if_pos h] at hu; exact h2 _ y u hy hu
  · rename_i h; rw [if_neg h] at hu; exact hz.2 i y u hy hu
inductive PVR (g : Gh) (σ : St) (w : World) (ρ : Env) (place : Nat -> Option (Nat × Nat)) : List (Nat × Value) -> List (Nat × Nat × Opd) -> Prop where
  | nil : PVR g σ w ρ place [] []
  | cons {i off sz v y vs ys} (h1 : place i = some (off, sz)) (h2 : VRs g σ w (Opd.ev ρ y) v) (h3 : PVR g σ w ρ place vs ys) : PVR g σ w ρ place ((i, v) :: vs) ((off, sz, y) :: ys)
theorem fill_build {ρ : Env} {place : Nat -> Option (Nat × Nat)} {vs : List (Nat × Value)} {ys : List (Nat × Nat × Opd)} (h : PVR g σ w ρ place vs ys) :
    ∀ (z : Array Value) (l m : List AV), CellsVR g σ w l z -> buildA ρ l ys = some m -> ∃ cs, Instr.fill place z vs = some cs /\ CellsVR g σ w m cs := by
  induction h with
  | nil => intro z l m hz hb; simp [buildA] at hb; subst hb; exact ⟨z, rfl, hz⟩
  | @cons i off sz v y vs ys h1 h2 h3 ih =>
    intro z l m hz hb
    simp only [buildA] at hb
    split at hb
    · rename_i hc
      obtain ⟨c1, c2, c3⟩ := hc
      have hsz := (h2.cells c2).1
      have := cellsVR_put (off := off) hz h2 c2 rfl (by omega)
      obtain ⟨cs, hf, hv⟩ := ih _ _ _ this hb
      refine ⟨cs, ?_, hv⟩
      simp only [Instr.fill, h1]
      rw [if_neg (by simp [hsz, c1, hz.1]; omega)]
      exact hf
    · simp at hb
theorem places_some : ∀ (fs : List Field), (fs.all fun f => (szOf P f.type).isSome) = true ->
    ∃ pl : List (Nat × Nat), (fs.mapM (fun f => (P.info? f.type).map fun i => (f.offset, i.size)) : Option (List (Nat × Nat))) = some pl /\
      ∀ (i : Nat) (f : Field) (s : Nat), fs[i]? = some f -> szOf P f.type = some s -> pl[i]? = some (f.offset, s)
  | [], _ => ⟨[], rfl, fun i f s h => by simp at h⟩
  | f :: fs, h => by
    simp only [List.all_cons, Bool.and_eq_true] at h
    obtain ⟨pl, h1, h2⟩ := places_some fs h.2
    cases hs : szOf P f.type with
    | none => simp [hs] at h
    | some s =>
      obtain ⟨inf, hi, hsz⟩ := info_of_sz hs
      refine ⟨(f.offset, s) :: pl, by simp [List.mapM_cons, hi, h1, hsz], fun i f' s' hf hs' => ?_⟩
      cases i with
      | zero => simp at hf; subst hf; rw [hs] at hs'; simp at hs'; subst hs'; rfl
      | succ i => simp at hf ⊢; exact h2 i f' s' hf hs'
theorem zero_cells {t : TypeId} {z : List AV} (h : zeroCellsOf P t = some z) : ∃ (i : TypeInfo) (v : Value), P.info? t = some i /\ i.zero = some v /\ v.cells.size = i.size /\ valScs v.cells.toList = some z := by
  unfold zeroCellsOf at h
  cases hi : P.info? t with
  | none => simp [hi] at h
  | some i =>
    cases hzz : i.zero with
    | none => simp [hi, hzz] at h
    | some v =>
      simp only [hi, hzz] at h
      split at h
      · rename_i hsz; exact ⟨i, v, rfl, hzz, hsz, h⟩
      · simp at h
theorem cellsVR_zero {z : List AV} {v : Value} (h : valScs v.cells.toList = some z) : CellsVR g σ w z v.cells := by
  obtain ⟨a, b, c⟩ := vr_scs _ _ h
  exact ⟨by simpa using a.symm, fun i x u h1 h2 => c i x u h1 (by simpa using h2) _ _ _⟩
theorem snd_build {t : TypeId} {z : List AV} {ys : List (Nat × Nat × Opd)} {v : AV} {σ' : St} {ρ : Env} {parts : Array (Nat × Value)} {place : Nat -> Option (Nat × Nat)} (r : Rel P g σ w.heap)
    (hz : zeroCellsOf P t = some z) (hok : okFields P t = true)
    (hpl : ∀ i off s, place i = some (off, s) -> (∃ (fs : Array Field) (f : Field), P.underlying t = some (.struct fs) /\ fs[i]? = some f /\ f.offset = off /\ szOf P f.type = some s) \/
      (∃ n e, P.underlying t = some (.array n e) /\ szOf P e = some s /\ off = i * s))
    (hp : PVR g σ w ρ place parts.toList ys) (he : evalOp ρ σ (.build z ys) = .v v σ') : Good P g σ w ((Instr.build t parts).run P w) v σ' := by
  simp only [evalOp] at he
  split at he
  · rename_i cs hb
    simp only [OR.v.injEq] at he
    obtain ⟨rfl, rfl⟩ := he
    obtain ⟨it, zv, hit, hzv, hzs, hzc⟩ := zero_cells hz
    have hz0 : CellsVR g σ w z zv.cells := cellsVR_zero hzc
    have fin : ∀ (pl2 : Nat -> Option (Nat × Nat)), (∀ i off s, place i = some (off, s) -> pl2 i = some (off, s)) ->
        ∃ c2, Instr.fill pl2 zv.cells parts.toList = some c2 /\ CellsVR g σ w cs c2 := by
      intro pl2 h2
      have hp2 : PVR g σ w ρ pl2 parts.toList ys := by
        clear hb
        revert hp
        generalize parts.toList = vs
        intro hp
        induction hp with
        | nil => exact .nil
        | cons h1 h3 _ ih => exact .cons (h2 _ _ _ h1) h3 ih
      exact fill_build hp2 _ _ _ hz0 hb
    unfold okFields at hok
    split at hok
    · rename_i fs hu
      obtain ⟨pl, h1, h2⟩ := places_some fs.toList hok
      obtain ⟨c2, hf, hv⟩ := fin (fun i => pl.toArray[i]?) (fun i off s h => by
        rcases hpl i off s h with ⟨fs', f, hu', hf, rfl, hs⟩ | ⟨n, e, hu', _⟩
        · rw [hu] at hu'; simp only [Option.some.injEq, TypeDesc.struct.injEq] at hu'; subst hu'
          have := h2 i f s (by simpa using hf) hs
          simpa using this
        · rw [hu] at hu'; simp at hu')
      have hbuilt : P.built t parts.toList = some c2 := by
        simp only [Program.built, hit, hu, hzv, h1]; exact hf
      exact Good.pure r (run_build w t parts c2 hbuilt) (.agg cs c2 hv.1.symm hv.2)
    · rename_i n e hu
      obtain ⟨se, hse⟩ : ∃ s, szOf P e = some s := by
        cases h : szOf P e with
        | none => simp [h] at hok
        | some s => exact ⟨s, rfl⟩
      obtain ⟨ie, hie, hsz⟩ := info_of_sz hse
      obtain ⟨c2, hf, hv⟩ := fin (fun i => some (i * ie.size, ie.size)) (fun i off s h => by
        rcases hpl i off s h with ⟨fs', f, hu', _⟩ | ⟨n', e', hu', hs, rfl⟩
        · rw [hu] at hu'; simp at hu'
        · rw [hu] at hu'; simp only [Option.some.injEq, TypeDesc.array.injEq] at hu'
          obtain ⟨_, rfl⟩ := hu'
          rw [hse] at hs; simp at hs; subst hs; rw [hsz])
      have hbuilt : P.built t parts.toList = some c2 := by
        simp only [Program.built, hit, hu, hzv, hie]; exact hf
      exact Good.pure r (run_build w t parts c2 hbuilt) (.agg cs c2 hv.1.symm hv.2)
    · simp at hok
  · simp at he
theorem new_row {g : Gh} {σ : St} {w : World} {l : List AV} {s : Nat} {cs : Array Value} {e : TypeId} (r : Rel P g σ w.heap) (hfit : fitSz s l = true) (hcs : cs.size = l.length * s)
    (h : ∀ (i j : Nat) (e x : AV) (c : Value), l[i]? = some e -> e.cells[j]? = some x -> cs[i * s + j]? = some c -> VRs g σ w x c) :
    Good P g σ w (.ok (.slice (some ⟨w.heap.size, 0, none⟩) l.length l.length) { w with heap := w.heap.push (.cells cs e) }) (.vs l .ex) σ := by
  have ev := evo_push (g := g) (σ := σ) (h := w.heap) (.cells cs e)
  refine ⟨_, _, g, rfl, rel_push _ r, ?_, ev, rfl, rfl⟩
  have hnew : (w.heap.push (.cells cs e))[w.heap.size]? = some (.cells cs e) := by simp
  refine .vs l .ex w.heap.size 0 l.length s (fun i j => cs.getD (i * s + j) .nilFunc) (fun x hx => (fitSz_mem hfit x hx).1) (Nat.le_refl _) ?_ ?_ rfl
  · intro i j hi hj
    have hlt : i * s + j < cs.size := by
      rw [hcs]
      have : (i + 1) * s <= l.length * s := Nat.mul_le_mul_right _ (by omega)
      rw [Nat.add_mul, Nat.one_mul] at this; omega
    refine ⟨?_, ?_⟩
    · simp only [hc, hnew, Nat.zero_add]
      simp [hlt, Array.getD]
    · rintro ⟨β, k, hk, hb, _⟩
      have := r.bl_lt hk; omega
  · intro i j x y hx hy
    have hxl := (fitSz_mem hfit x (List.mem_of_getElem? hx)).1
    have hi := (List.getElem?_eq_some_iff.1 hx).1
    have hj := (List.getElem?_eq_some_iff.1 hy).1
    have hlt : i * s + j < cs.size := by
      rw [hcs]
      have : (i + 1) * s <= l.length * s := Nat.mul_le_mul_right _ (by omega)
      rw [Nat.add_mul, Nat.one_mul] at this; omega
    have := h i j x y cs[i * s + j] hx hy (by simp [hlt])
    have e2 : cs.getD (i * s + j) .nilFunc = cs[i * s + j] := by simp [Array.getD, hlt]
    rw [e2]
    exact this.evo ev
theorem fill_rows {ρ : Env} {s : Nat} : ∀ (xs : List Opd) (vs : List (Nat × Value)) (k : Nat) (z : Array Value), fitSz s (xs.map (·.ev ρ)) = true -> vs.length = xs.length ->
    (∀ (i : Nat) (y : Opd) (p : Nat × Value), xs[i]? = some y -> vs[i]? = some p -> p.1 = k + i /\ VRs g σ w (y.ev ρ) p.2) -> (k + xs.length) * s <= z.size ->
    ∃ cs, Instr.fill (fun i => some (i * s, s)) z vs = some cs /\ cs.size = z.size /\ (∀ q : Nat, q < k * s -> cs[q]? = z[q]?) /\
      ∀ (i j : Nat) (y : Opd) (x : AV) (c : Value), xs[i]? = some y -> (y.ev ρ).cells[j]? = some x -> cs[(k + i) * s + j]? = some c -> VRs g σ w x c
  | [], vs, k, z, _, hl, _, _ => by
    have : vs = [] := by simpa using hl
    subst this
    exact ⟨z, rfl, rfl, fun _ _ => rfl, fun i j y x c h => by simp at h⟩
  | y :: xs, [], k, z, _, hl, _, _ => by simp at hl
  | y :: xs, (i0, v) :: vs, k, z, hfit, hl, hv, hz => by
    simp only [List.map_cons, fitSz, List.all_cons, Bool.and_eq_true, beq_iff_eq] at hfit
    obtain ⟨⟨hc1, hc2⟩, hfit⟩ := hfit
    obtain ⟨hi0, hvr⟩ := hv 0 y (i0, v) rfl rfl
    simp only at hi0 hvr
    simp only [Nat.add_zero] at hi0
    subst hi0
    obtain ⟨h1, h2⟩ := hvr.cells hc2
    have hmul : (i0 + 1) * s <= (i0 + (xs.length + 1)) * s := Nat.mul_le_mul_right _ (by omega)
    rw [Nat.add_mul, Nat.one_mul] at hmul
    have hzz : i0 * s + v.cells.size <= z.size := by rw [h1, hc1]; simp at hz; omega
    obtain ⟨h3, h4⟩ := fill_one (i0 * s) v z hzz
    obtain ⟨cs, hf, hsz, hlow, hrows⟩ := fill_rows xs vs (i0 + 1) _ (by simpa [fitSz] using hfit) (by simpa using hl) (fun i y' p h5 h6 => by
      have := hv (i + 1) y' p (by simpa using h5) (by simpa using h6)
      exact ⟨by omega, this.2⟩) (by rw [h3]; simp at hz; have : i0 + 1 + xs.length = i0 + (xs.length + 1) := by omega
                                    rw [this]; exact hz)
    refine ⟨cs, ?_, by rw [hsz, h3], ?_, ?_⟩
    · simp only [Instr.fill]
      rw [if_neg (by simp [h1, hc1]; omega)]
      exact hf
    · intro q hq
      have hq2 : q < (i0 + 1) * s := by rw [Nat.add_mul, Nat.one_mul]; omega
      rw [hlow q hq2, h4 q, if_neg (by omega)]
    · intro i j y' x c h5 h6 h7
      cases i with
      | zero =>
        simp at h5; subst h5
        have hj := (List.getElem?_eq_some_iff.1 h6).1
        have hq2 : (i0 + 0) * s + j < (i0 + 1) * s := by rw [Nat.add_zero, Nat.add_mul, Nat.one_mul]; omega
        rw [hlow _ hq2, h4, if_pos (by rw [h1, Nat.add_zero]; omega)] at h7
        have e1 : (i0 + 0) * s + j - i0 * s = j := by rw [Nat.add_zero]; omega
        rw [e1] at h7
        exact h2 j x c h6 h7
      | succ i =>
        have e1 : i0 + (i + 1) = i0 + 1 + i := by omega
        rw [e1] at h7
        exact hrows i j y' x c (by simpa using h5) h6 h7
theorem snd_lit {t e : TypeId} {s len : Nat} {xs : List Opd} {v : AV} {σ' : St} {ρ : Env} {parts : Array (Nat × Value)} (r : Rel P g σ w.heap)
    (hu : P.underlying t = some (.slice e)) (hs : szOf P e = some s) (hs0 : s ≠ 0) (hlen : xs.length = len) (hsmall : len * s <= 1000) (hz : ∃ z, zeroCellsOf P e = some z)
    (hvs : parts.toList.length = xs.length) (hv : ∀ (i : Nat) (y : Opd) (p : Nat × Value), xs[i]? = some y -> parts.toList[i]? = some p -> p.1 = i /\ VRs g σ w (y.ev ρ) p.2)
    (he : evalOp ρ σ (.lit s xs) = .v v σ') : Good P g σ w ((Instr.buildSlice t len parts).run P w) v σ' := by
  simp only [evalOp] at he
  split at he
  · rename_i hfit
    simp only [OR.v.injEq] at he
    obtain ⟨rfl, rfl⟩ := he
    obtain ⟨ie, hie, hsz⟩ := info_of_sz hs
    obtain ⟨zz, hzz⟩ := hz
    obtain ⟨it, zv, hit, hzv, hzs, hzc⟩ := zero_cells hzz
    rw [hie] at hit; simp at hit; subst hit
    by_cases h0 : len = 0
    · have hx : xs = [] := by cases xs with | nil => rfl | cons => simp at hlen; omega
      subst hx
      have hp : parts = #[] := by
        have : parts.toList = [] := by simpa using hvs
        exact Array.toList_eq_nil_iff.1 this
      subst hp
      subst h0
      have := new_row (P := P) (e := e) (l := []) (s := s) (cs := #[]) r rfl (by simp) (fun i j e x c h => by simp at h)
      simpa [Instr.buildSlice, run_under hu, run_sizeOf hs, Instr.fill, newRow, Array.range_zero'] using this
    · have hpos : ¬ len * ie.size = 0 := by rw [hsz]; intro h; rcases Nat.mul_eq_zero.1 h with h | h <;> omega
      obtain ⟨cs, hf, hcsz, _, hrows⟩ := fill_rows (g := g) (σ := σ) (w := w) (ρ := ρ) (s := s) xs parts.toList 0 ((Array.range (len * ie.size)).map (zv.cells[· % zv.cells.size]!)) hfit hvs
        (fun i y p h1 h2 => by have := hv i y p h1 h2; exact ⟨by omega, this.2⟩) (by simp [hlen, hsz])
      have hrun := run_buildSlice (P := P) w t e len parts cs ie zv hu hie hzv (by rw [hsz]; omega) hpos (by rw [hsz] at hf ⊢; exact hf)
      have := new_row (P := P) (e := e) (l := xs.map (·.ev ρ)) (s := s) (cs := cs) r hfit (by rw [hcsz]; simp [hlen, hsz]) (fun i j x y c h1 h2 h3 => by
        rw [List.getElem?_map, Option.map_eq_some_iff] at h1
        obtain ⟨y', hy', rfl⟩ := h1
        exact hrows i j y' y c hy' h2 (by simpa using h3))
      rw [hrun]
      simp only [List.length_map, hlen] at this
      exact this
  · simp at he
theorem flatten_replicate (z : List AV) (c k : Nat) (hk : k < c * z.length) : (List.replicate c z).flatten[k]? = z[k % z.length]? := by
  induction c generalizing k with
  | zero => omega
  | succ c ih =>
    rw [List.replicate_succ, List.flatten_cons]
    by_cases h : k < z.length
    · rw [List.getElem?_append_left h, Nat.mod_eq_of_lt h]
    · rw [List.getElem?_append_right (by omega), ih (k - z.length) (by rw [Nat.add_mul, Nat.one_mul] at hk; omega)]
      rw [Nat.mod_eq_sub_mod (by omega : k ≥ z.length)]
theorem snd_mksl {t e : TypeId} {z : List AV} {i : TypeInfo} {v : AV} {σ' : St} {la ca : Value} {ρ : Env} {x y : Opd} (r : Rel P g σ w.heap) (hl : VRs g σ w (x.ev ρ) la) (hcp : VRs g σ w (y.ev ρ) ca)
    (hu : P.underlying t = some (.slice e)) (hi : P.info? e = some i) (hz : zeroCellsOf P e = some z) (hs0 : i.size ≠ 0) (he : evalOp ρ σ (.mksl z i.bytes x y) = .v v σ') :
    Good P g σ w ((Instr.makeSlice t la ca).run P w) v σ' := by
  simp only [evalOp] at he
  split at he
  · rename_i l c h1 h2
    obtain ⟨k1, rfl⟩ := natOf_some h1 hl
    obtain ⟨k2, rfl⟩ := natOf_some h2 hcp
    split at he
    · rename_i hb
      simp only [OR.v.injEq] at he
      obtain ⟨rfl, rfl⟩ := he
      obtain ⟨hlc, hbytes⟩ := hb
      obtain ⟨i', zv, hi', hzv, hzs, hzc⟩ := zero_cells hz
      rw [hi] at hi'; simp at hi'; subst hi'
      obtain ⟨a, b, cc⟩ := vr_scs _ _ hzc
      have hm : maxBytes = 17592186044416 := rfl
      have hb2 : i.bytes * c <= 17592186044416 := by
        have : c * (i.bytes + 1) = i.bytes * c + c := by rw [Nat.mul_add, Nat.mul_one, Nat.mul_comm]
        omega
      have hc2 : c <= 17592186044416 := by
        have : c * (i.bytes + 1) = i.bytes * c + c := by rw [Nat.mul_add, Nat.mul_one, Nat.mul_comm]
        omega
      have hrun := run_make (P := P) w t e i zv hu hi hzv k1 k2 (l : Int) (c : Int) (by omega) (by omega) (by
        have : ((i.bytes * c : Nat) : Int) <= 17592186044416 := by omega
        rw [Int.natCast_mul] at this; omega) (by omega)
      simp only [Int.toNat_natCast] at hrun
      have hzl : z.length = i.size := by rw [a]; simpa using hzs
      have hfl : (List.replicate c z).flatten.length = c * i.size := by simp [hzl]
      have hmc : (madeCells zv.cells (c * i.size)).size = c * i.size := by simp [madeCells]
      have := rel_new (P := P) (.cells (madeCells zv.cells (c * i.size)) e) (.arr (List.replicate c z).flatten) σ.H 0 0 r (fun _ _ h => h)
        ⟨_, e, rfl, by rw [hfl, hmc], fun q xx u hq hu' => by
          have hql := (List.getElem?_eq_some_iff.1 hq).1
          rw [hfl] at hql
          rw [flatten_replicate z c q (by rw [hzl]; exact hql)] at hq
          have hmod : q % z.length < z.length := Nat.mod_lt _ (by omega)
          have hzc2 : zv.cells.size = z.length := by rw [hzs, hzl]
          have hu2 : u = zv.cells[q % z.length]! := by
            simp only [madeCells] at hu'
            rw [Array.getElem?_map, Array.getElem?_range] at hu'
            rw [if_pos hql] at hu'
            simp at hu'
            rw [<- hu', hzc2]
          have hget : zv.cells.toList[q % z.length]? = some u := by
            rw [hu2, Array.getElem?_toList, getElem!_pos zv.cells _ (by rw [hzc2]; exact hmod)]
            simp [hzc2, hmod]
          exact cc _ xx u hq hget _ _ _⟩
      rw [hrun]
      refine ⟨_, _, _, rfl, this.1, ?_, this.2, rfl, rfl⟩
      have e1 : (⟨w.heap.size, 0, none⟩ : Addr) = ⟨(g.at σ.n w.heap.size 0 0).bl σ.n, 0, none⟩ := by simp [Gh.at]
      rw [e1]
      exact .hs σ.n 0 l c (Nat.lt_succ_self _)
    · simp at he
  · simp at he
theorem snd_mkmap {t kt et : TypeId} {c : Option Value} {v : AV} {σ' : St} {ρ : Env} (r : Rel P g σ w.heap) (hu : P.underlying t = some (.map kt et)) (hc : ∀ x, c = some x -> ∃ k n, x = .int k n)
    (he : evalOp ρ σ .mkmap = .v v σ') : Good P g σ w ((Instr.makeMap t c).run P w) v σ' := by
  simp only [evalOp, OR.v.injEq] at he
  obtain ⟨rfl, rfl⟩ := he
  have := rel_new (P := P) (.map #[] 0) (.map [] 0) σ.H 0 0 r (fun _ _ h => h)
    ⟨#[], rfl, rfl, fun i e ce h => by simp at h, by simp⟩
  have hrun : (Instr.makeMap t c).run P w = .ok (.map (some w.heap.size)) { w with heap := w.heap.push (.map #[] 0) } := by
    cases c with
    | none => simp [Instr.makeMap]
    | some x =>
      obtain ⟨k, n, rfl⟩ := hc x rfl
      simp [Instr.makeMap, run_under hu, asInt, asIntOf]
  refine ⟨_, _, _, hrun, this.1, ?_, this.2, rfl, rfl⟩
  have e1 : w.heap.size = (g.at σ.n w.heap.size 0 0).bl σ.n := by simp [Gh.at]
  conv => rhs; rw [e1]
  exact .map σ.n (Nat.lt_succ_self _)
def LKty (P : Program) (t : TypeId) : LK -> Prop
  | .s => P.underlying t = some .string
  | .l => ∃ e, P.underlying t = some (.slice e)
  | .m => ∃ k e, P.underlying t = some (.map k e)
theorem snd_len {ats : Array TypeId} {ty : TypeId} {a : Value} {v : AV} {σ' : St} {ρ : Env} {y : Opd} {t : TypeId} {k : LK} (r : Rel P g σ w.heap) (ha : VRs g σ w (y.ev ρ) a) (h0 : ats[0]? = some t)
    (hu : LKty P t k)
    (he : evalOp ρ σ (.len k y) = .v v σ') : Good P g σ w ((Builtin.len_ ats ty #[a]).run P w) v σ' := by
  simp only [evalOp] at he
  generalize y.ev ρ = x at *
  cases k with
  | s =>
    cases ha <;> try (simp at he; done)
    rename_i s
    have hu : P.underlying t = some .string := hu
    simp only [OR.v.injEq] at he; obtain ⟨rfl, rfl⟩ := he
    refine Good.pure r ?_ (.int _ _)
    have hsz : (⟨s.toArray⟩ : ByteArray).size = s.length := by simp [ByteArray.size]
    simp [Builtin.len_, h0, run_under hu, goInt, hsz]
  | l =>
    obtain ⟨e, hu⟩ := hu
    cases ha <;> try (simp at he; done)
    all_goals
      simp only [OR.v.injEq] at he; obtain ⟨rfl, rfl⟩ := he
      exact Good.pure r (by simp [Builtin.len_, h0, run_under hu, goInt]) (.int _ _)
  | m =>
    obtain ⟨k, e, hu⟩ := hu
    cases ha <;> try (simp at he; done)
    · simp only [OR.v.injEq] at he; obtain ⟨rfl, rfl⟩ := he
      exact Good.pure r (by simp [Builtin.len_, h0, run_under hu, goInt]) (.int _ _)
    · rename_i β hβ
      simp only at he
      split at he
      · rename_i es ck hk
        simp only [OR.v.injEq] at he; obtain ⟨rfl, rfl⟩ := he
        obtain ⟨ces, ho, hsz, _⟩ := r.blk _ _ hk
        refine Good.pure r ?_ (.int _ _)
        have hg : (getObj (g.bl β)).run P w = .ok (.map ces ck) w := by simp only [getObj, Sem.run, ho]
        simp [Builtin.len_, h0, run_under hu, hg, goInt, hsz]
      · simp at he
end Go.Proofs.YtekhblefchceaaaGreat.AM

/- The operations of the abstract machine are those of the model: append, copy. -/
namespace Go.Proofs.YtekhblefchceaaaGreat.AM
open Go
variable {P : Program} {g : Gh} {σ : St} {w : World}
section
variable (P)
def Src (w : World) (size n : Nat) (x : Value) (news : List Value) : Prop :=
  news.length = n * size /\ ∀ w2 : World, w2.heap = w.heap -> (Builtin.firstCells size n x).run P w2 = .ok news.toArray w2
end
theorem app_core (t u ty e : TypeId) (i : TypeInfo) (z : Value) (ud : TypeDesc) (ht : P.underlying t = some (.slice e)) (hu : P.underlying u = some ud) (hud : ud = .string \/ ∃ e', ud = .slice e') (hi : P.info? e = some i) (hz : i.zero = some z)
    (base : Option Addr) (sLen sCap n : Nat) (x : Value) (olds news : List Value) (hlx : (Builtin.lenOf x).run P w = .ok n w) (ho : Src P w i.size sLen (.slice base sLen sCap) olds) (hn : Src P w i.size n x news)
    (hg : sCap < sLen + n) (hb : (sLen + n) * (i.bytes + 1) <= maxBytes) :
    (Builtin.append_ #[t, u] ty #[.slice base sLen sCap, x]).run P w =
      .ok (.slice (some ⟨w.heap.size, 0, none⟩) (sLen + n) (grownCap w (sLen + n) sCap e))
        (w.drew.alloc (.cells (olds ++ news ++ (Builtin.zeroCells z.cells (grownCap w (sLen + n) sCap e - (sLen + n))).toList).toArray e)) := by
  have hm : maxBytes = 17592186044416 := rfl
  have hb1 : (sLen + n) * i.bytes <= 17592186044416 := by rw [Nat.mul_add, Nat.mul_one] at hb; omega
  have hb2 : sLen + n <= 17592186044416 := by rw [Nat.mul_add, Nat.mul_one] at hb; omega
  have hn' : ¬ (sLen + n <= sCap) := by omega
  have h63' : ¬ (9223372036854775807 < ((sLen : Int) + (n : Int))) := by omega
  have h48' : ¬ (281474976710656 < Builtin.nextslicecap (sLen + n) sCap * i.bytes) := by
    have := growslice_fits (need := sLen + n) (old := sCap) (bytes := i.bytes) hg (by omega)
    omega
  have hf := hn.2 w.drew rfl
  have hfo := ho.2 w.drew rfl
  have hcl : ∀ q, (olds ++ news ++ (Builtin.zeroCells z.cells q).toList).toArray = olds.toArray ++ (news.toArray ++ Builtin.zeroCells z.cells q) := by
    intro q; apply Array.ext'; simp
  rw [hcl]
  rcases hud with rfl | ⟨e', rfl⟩ <;>
    simp [Builtin.append_, run_underlying ht, run_underlying hu, sizeOf, typeInfo, zeroValue, hi, hz, hlx, hn', h63', h48', Question.forced, hf, hfo, newRow, grownCap]
theorem app_room (t u ty e : TypeId) (i : TypeInfo) (ud : TypeDesc) (ht : P.underlying t = some (.slice e)) (hu : P.underlying u = some ud) (hud : ud = .string \/ ∃ e', ud = .slice e') (hi : P.info? e = some i)
    (b off sLen sCap n : Nat) (x : Value) (news : List Value) (hlx : (Builtin.lenOf x).run P w = .ok n w) (hn : Src P w i.size n x news)
    (hg : sLen + n <= sCap) {w' : World} (hst : (storeCells ⟨b, off + sLen * i.size, none⟩ news).run P w = .ok () w') :
    (Builtin.append_ #[t, u] ty #[.slice (some ⟨b, off, none⟩) sLen sCap, x]).run P w = .ok (.slice (some ⟨b, off, none⟩) (sLen + n) sCap) w' := by
  have hf := hn.2 w rfl
  rcases hud with rfl | ⟨e', rfl⟩ <;>
    simp [Builtin.append_, run_underlying ht, run_underlying hu, sizeOf, typeInfo, hi, hlx, hg, hf, addr_add, hst]
theorem app_none (t u ty e : TypeId) (i : TypeInfo) (ud : TypeDesc) (ht : P.underlying t = some (.slice e)) (hu : P.underlying u = some ud) (hud : ud = .string \/ ∃ e', ud = .slice e') (hi : P.info? e = some i)
    (base : Option Addr) (sLen sCap : Nat) (x : Value) (hlx : (Builtin.lenOf x).run P w = .ok 0 w) (hn : Src P w i.size 0 x [])
    (hg : sLen <= sCap) :
    (Builtin.append_ #[t, u] ty #[.slice base sLen sCap, x]).run P w = .ok (.slice base sLen sCap) w := by
  have hf := hn.2 w rfl
  rcases hud with rfl | ⟨e', rfl⟩ <;> cases base <;> simp [Builtin.append_, run_underlying ht, run_underlying hu, sizeOf, typeInfo, hi, hlx, hg, hf, storeCells]
theorem lk_retok_sub {t : Tok} {σ' : St} (h : σ.retok t = some σ') : ∃ H, σ' = ⟨(σ.n, .tok) :: H, σ.n + 1⟩ /\ (∀ β b, lk H β = some b -> lk σ.H β = some b) := by
  cases t with
  | no => simp [St.retok] at h
  | ex => simp [St.retok, St.new] at h; exact ⟨σ.H, h.symm, fun _ _ h => h⟩
  | id τ =>
    simp only [St.retok] at h
    split at h
    · simp [St.new] at h
      refine ⟨_, h.symm, fun β b hb => ?_⟩
      rw [lk_del] at hb
      split at hb
      · simp at hb
      · exact hb
    · simp at h
structure Dst (g : Gh) (σ : St) (w : World) (sz : Nat) (base : Option Addr) (len cap : Nat) (t : Tok) (olds : List Value) : Prop where
  nil : base = none -> len = 0 /\ cap = 0
  olen : olds.length = len * sz
  ocap : len <= cap
  lies : ∀ b off s, base = some ⟨b, off, s⟩ -> s = none /\ (∀ k v, olds[k]? = some v -> IC g σ.H w.heap b (off + k) v) /\ (cap = len \/ TokR g σ.n 1 b off sz len cap t)
theorem app_tok {tt u ty e : TypeId} {i : TypeInfo} {z : Value} {ud : TypeDesc} (ht : P.underlying tt = some (.slice e)) (hu : P.underlying u = some ud) (hud : ud = .string \/ ∃ e', ud = .slice e') (hi : P.info? e = some i) (hz : i.zero = some z) (hzs : z.cells.size = i.size)
    {base : Option Addr} {sLen sCap n : Nat} {x : Value} {olds news : List Value} {t : Tok} {σ' : St} (r : Rel P g σ w.heap) (hd : Dst g σ w i.size base sLen sCap t olds)
    (hlx : (Builtin.lenOf x).run P w = .ok n w) (hn : Src P w i.size n x news) (hn0 : n ≠ 0) (hone : ∀ v ∈ news, v.oneCell' = true) (hret : σ.retok t = some σ') (hb : (sLen + n) * (i.bytes + 1) <= maxBytes) :
    ∃ w' g' b' off' cap', (Builtin.append_ #[tt, u] ty #[.slice base sLen sCap, x]).run P w = .ok (.slice (some ⟨b', off', none⟩) (sLen + n) cap') w' /\
      Rel P g' σ' w'.heap /\ EvoW g σ w g' σ' w' /\ (∀ k v, (olds ++ news)[k]? = some v -> IC g' σ'.H w'.heap b' (off' + k) v) /\
      TokR g' σ'.n (sLen + n) b' off' i.size (sLen + n) cap' (.id σ.n) /\ sLen + n <= cap' /\
      ((∀ τ b off, t = .id τ -> base = some ⟨b, off, none⟩ -> sLen + n <= sCap -> off = 0 /\ g.ty τ = e) -> g'.bl σ.n = b' /\ off' = 0 /\ g'.ty σ.n = e /\ (sLen + n) * i.size <= g'.fr σ.n) := by
  have hnl : news.length = n * i.size := hn.1
  have htot : (olds ++ news).length = (sLen + n) * i.size := by simp [hd.olen, hnl, Nat.add_mul]
  by_cases hroom : sLen + n <= sCap
  · -- in place: the token's own cells
    obtain ⟨⟨b, off, sp⟩, rfl⟩ : ∃ a, base = some a := by
      cases base with
      | none => have := hd.nil rfl; omega
      | some a => exact ⟨a, rfl⟩
    obtain ⟨rfl, hold, htk⟩ := hd.lies b off sp rfl
    rcases htk with htk | htk
    · omega
    cases t with
    | no => simp [St.retok] at hret
    | ex => have : sCap = sLen := htk; omega
    | id τ =>
      simp only [St.retok] at hret
      split at hret
      · rename_i hk
        simp only [St.new, Option.some.injEq] at hret
        subst hret
        rcases htk with h | ⟨hτ, htk⟩
        · exact absurd h.1 (by decide)
        rcases htk with h | ⟨_, hbl, hfr, htp⟩
        · omega
        obtain ⟨cs, e', z', hoo, _, hs1, hs2, hs3⟩ := r.blk _ _ hk
        have hmul : sLen * i.size + n * i.size <= sCap * i.size := by rw [<- Nat.add_mul]; exact Nat.mul_le_mul_right _ hroom
        rw [hbl] at hoo
        obtain ⟨w', cs', hr, how, hsz, hoth, hb', hcz, hcs⟩ := run_stores (P := P) (off := off + sLen * i.size) news 0 w cs hoo (by omega) hone (fun j h1 h2 h3 => by omega)
        have rt := rel_tok (P := P) r hk w'.heap (off + (sLen + n) * i.size) hsz (by rw [hbl]; exact hoth) (by
          intro cs0 e0 z0 h0
          rw [hbl] at h0 ⊢
          rw [hoo] at h0
          simp only [Option.some.injEq, Obj.cells.injEq] at h0
          obtain ⟨rfl, rfl, rfl⟩ := h0
          exact ⟨cs', hb', hcz, fun k hk' => by rw [hcs k, if_neg (by omega)]⟩) (by rw [hfr, Nat.add_mul]; omega) (by rw [Nat.add_mul]; omega)
        refine ⟨w', _, b, off, sCap, app_room tt u ty e i ud ht hu hud hi b off sLen sCap n x news hlx hn hroom hr, rt.1, ⟨rt.2, how.1, how.2⟩, ?_, ?_, hroom, fun hbx => ?_⟩
        · intro k v hv
          by_cases hko : k < olds.length
          · rw [List.getElem?_append_left hko] at hv
            exact rt.2.eic _ _ _ (hold k v hv)
          · have hkn := (List.getElem?_eq_some_iff.1 hv).1
            rw [htot, Nat.add_mul] at hkn
            rw [List.getElem?_append_right (by omega)] at hv
            rw [hd.olen] at hko hv
            refine ⟨?_, ?_⟩
            · rw [hc_of hb', hcs, if_pos (by omega)]
              rw [<- hv]; congr 1; omega
            · rintro ⟨β, k', hk', hbl', hfr'⟩
              by_cases hβ : σ.n = β
              · subst hβ
                simp only [lk, if_true, Option.some.injEq] at hk'
                have := hfr' hk'.symm
                simp only [Gh.at, if_true] at this
                rw [Nat.add_mul] at this
                omega
              · simp only [lk, hβ, if_false, lk_del] at hk'
                split at hk'
                · simp at hk'
                · rename_i hne
                  have hlt := r.lt _ _ hk'
                  rw [(g.le_at σ.n _ _ _ β hlt).1] at hbl'
                  exact hne (r.inj _ _ _ _ hk' hk (by rw [hbl', hbl]))
        · refine .inr ⟨Nat.lt_succ_self _, .inr ⟨by omega, by simp [Gh.at, hbl], by simp [Gh.at], by simp [Gh.at]; exact htp⟩⟩
        · obtain ⟨b1, b2⟩ := hbx τ b off rfl rfl hroom
          exact ⟨by simp [Gh.at, hbl], b1, by simp [Gh.at]; exact b2, by simp [Gh.at]⟩
      · simp at hret
  · -- a new row
    have hrun := app_core tt u ty e i z ud ht hu hud hi hz base sLen sCap n x olds news hlx ⟨hd.olen, fun w2 h2 => by
      cases base with
      | none => obtain ⟨rfl, rfl⟩ := hd.nil rfl; have : olds = [] := by simpa using hd.olen
                subst this; simp [Builtin.firstCells]
      | some a =>
        obtain ⟨b, off, sp⟩ := a
        obtain ⟨rfl, hold, _⟩ := hd.lies b off sp rfl
        simp only [Builtin.firstCells]
        have hrc := run_cells (P := P) (w := w2) (b := b) (off := off) olds (fun j v hj => by rw [h2]; exact (hold j v hj).1)
        rwa [hd.olen] at hrc⟩ hn (by omega) hb
    generalize hcap : grownCap w (sLen + n) sCap e = cap at hrun
    have hge : sLen + n <= cap := by rw [<- hcap]; exact grownCap_ge w _ _ _
    obtain ⟨H, rfl, hsub⟩ := lk_retok_sub hret
    generalize hcells : (olds ++ news ++ (Builtin.zeroCells z.cells (cap - (sLen + n))).toList).toArray = cells at hrun
    have hpre : ∀ (k : Nat) (v : Value), (olds ++ news)[k]? = some v -> cells[k]? = some v := by
      intro k v hv
      have hk := (List.getElem?_eq_some_iff.1 hv).1
      rw [<- hcells]
      rw [List.getElem?_toArray, List.getElem?_append_left hk]; exact hv
    have hsz : (sLen + n) * i.size <= cells.size := by rw [<- hcells, List.size_toArray, List.length_append, htot]; omega
    have rn := rel_newT (P := P) (h := w.heap) (.cells cells e) .tok H ((sLen + n) * i.size) cells.size e r hsub ⟨cells, e, (0, 0), rfl, by simp [Gh.at], by simp [Gh.at], by simp [Gh.at]; exact hsz, by simp⟩
    refine ⟨_, _, w.heap.size, 0, cap, hrun, rn.1, ⟨rn.2, rfl, rfl⟩, ?_, ?_, hge, fun _ => ⟨by simp [Gh.at], rfl, by simp [Gh.at], by simp [Gh.at]⟩⟩
    · intro k v hv
      have hk := (List.getElem?_eq_some_iff.1 hv).1
      rw [htot] at hk
      refine ⟨?_, ?_⟩
      · have : (w.heap.push (.cells cells e))[w.heap.size]? = some (.cells cells e) := by simp
        show hc (w.heap.push (.cells cells e)) _ _ = _
        rw [hc_of this, Nat.zero_add]; exact hpre k v hv
      · rintro ⟨β, k', hk', hbl', hfr'⟩
        by_cases hβ : σ.n = β
        · subst hβ
          simp only [lk, if_true, Option.some.injEq] at hk'
          have := hfr' hk'.symm
          simp only [Gh.at, if_true] at this
          omega
        · simp only [lk, hβ, if_false] at hk'
          have hlt := r.lt _ _ (hsub _ _ hk')
          rw [(g.le_at σ.n _ _ _ β hlt).1] at hbl'
          have := r.bl_lt (hsub _ _ hk'); omega
    · refine .inr ⟨Nat.lt_succ_self _, .inr ⟨by omega, by simp [Gh.at], by simp [Gh.at], ?_⟩⟩
      simp only [Gh.at, if_true, Nat.zero_add]
      rw [<- hcells]
      simp only [List.size_toArray, List.length_append]
      have hzl : (Builtin.zeroCells z.cells (cap - (sLen + n))).toList.length = (cap - (sLen + n)) * i.size := by simp [Builtin.zeroCells, hzs]
      rw [hzl]
      have e1 : cap * i.size = (sLen + n) * i.size + (cap - (sLen + n)) * i.size := by rw [<- Nat.add_mul]; congr 1; omega
      rw [e1, <- htot, List.length_append]; omega
theorem elemsOf_get (ag : Bool) (sz : Nat) : ∀ (n : Nat) (c : List AV), (elemsOf ag sz n c).length = n /\
    ∀ (i : Nat) (e : AV), (elemsOf ag sz n c)[i]? = some e -> e = if ag then .agg ((c.drop (i * sz)).take sz) else (c.drop (i * sz)).headD .undef
  | 0, c => ⟨rfl, fun i e h => by simp [elemsOf] at h⟩
  | n + 1, c => by
    obtain ⟨h1, h2⟩ := elemsOf_get ag sz n (c.drop sz)
    refine ⟨by simp [elemsOf, h1], fun i e h => ?_⟩
    cases i with
    | zero => simp [elemsOf] at h; simp [<- h]
    | succ i =>
      simp only [elemsOf, List.getElem?_cons_succ] at h
      have := h2 i e h
      rw [List.drop_drop] at this
      rw [this, Nat.add_mul, Nat.one_mul, Nat.add_comm sz]
theorem src_of {ag : Bool} {s : Nat} {x : AV} {a : Value} {new : List AV} (r : Rel P g σ w.heap) (hs0 : s ≠ 0) (hx : VRs g σ w x a) (hr : readAll σ ag s x = some new) :
    ∃ news : List Value, (Builtin.lenOf a).run P w = .ok new.length w /\ Src P w s new.length a news /\ fitSz s new = true /\
      (∀ (i j : Nat) (e y : AV) (c : Value), new[i]? = some e -> e.cells[j]? = some y -> news[i * s + j]? = some c -> VRs g σ w y c) /\ ∀ v ∈ news, v.oneCell' = true := by
  unfold readAll at hr
  cases hx with
  | vsn t =>
    simp only at hr
    split at hr
    · simp only [Option.some.injEq] at hr
      subst hr
      exact ⟨[], by simp [Builtin.lenOf], ⟨by simp, fun w2 _ => by simp [Builtin.firstCells]⟩, rfl, fun i j e y c h => by simp at h, fun v h => by simp at h⟩
    · simp at hr
  | vs l t b off cap sz cs hsz hcap h1 h2 ht =>
    simp only at hr
    split at hr
    · rename_i hfit
      simp only [Option.some.injEq] at hr
      subst hr
      by_cases hl : l = []
      · subst hl
        exact ⟨[], by simp [Builtin.lenOf], ⟨by simp, fun w2 _ => by simp [Builtin.firstCells, loadCells, loadCellsFrom]⟩, rfl, fun i j e y c h => by simp at h, fun v h => by simp at h⟩
      · have hss : sz = s := by
          obtain ⟨x, hx⟩ := List.exists_mem_of_ne_nil l hl
          rw [<- hsz x hx]; exact (fitSz_mem hfit x hx).1
        subst hss
        have hget : ∀ k, k < l.length * sz -> ((List.range (l.length * sz)).map fun k => cs (k / sz) (k % sz))[k]? = some (cs (k / sz) (k % sz)) := by
          intro k hk; rw [List.getElem?_map, List.getElem?_range hk]; rfl
        have hdiv : ∀ k, k < l.length * sz -> k / sz < l.length /\ k % sz < sz := by
          intro k hk
          exact ⟨(Nat.div_lt_iff_lt_mul (by omega)).2 hk, Nat.mod_lt _ (by omega)⟩
        refine ⟨(List.range (l.length * sz)).map fun k => cs (k / sz) (k % sz), by simp [Builtin.lenOf], ⟨by simp, fun w2 hw2 => ?_⟩, hfit, ?_, ?_⟩
        · have hlen : ((List.range (l.length * sz)).map fun k => cs (k / sz) (k % sz)).length = l.length * sz := by simp
          simp only [Builtin.firstCells]
          have hrc := run_cells (P := P) (w := w2) (b := b) (off := off) ((List.range (l.length * sz)).map fun k => cs (k / sz) (k % sz)) (fun j v hj => ?_)
          · rwa [hlen] at hrc
          have hjl := (List.getElem?_eq_some_iff.1 hj).1
          rw [hlen] at hjl
          rw [hget j hjl] at hj
          simp only [Option.some.injEq] at hj; subst hj
          obtain ⟨d1, d2⟩ := hdiv j hjl
          have := (h1 (j / sz) (j % sz) d1 d2).1
          rw [hw2]
          have e1 : off + j / sz * sz + j % sz = off + j := by rw [Nat.add_assoc, Nat.mul_comm, Nat.div_add_mod]
          rwa [e1] at this
        · intro i j e y c he hy hc
          have hi := (List.getElem?_eq_some_iff.1 he).1
          have hj := (List.getElem?_eq_some_iff.1 hy).1
          rw [hsz e (List.mem_of_getElem? he)] at hj
          have hlt : i * sz + j < l.length * sz := by
            have : (i + 1) * sz <= l.length * sz := Nat.mul_le_mul_right _ (by omega)
            rw [Nat.add_mul, Nat.one_mul] at this; omega
          rw [hget _ hlt] at hc
          simp only [Option.some.injEq] at hc; subst hc
          have e1 : (i * sz + j) / sz = i := by rw [Nat.mul_comm, Nat.mul_add_div (by omega), Nat.div_eq_of_lt hj, Nat.add_zero]
          have e2 : (i * sz + j) % sz = j := by rw [Nat.mul_comm, Nat.mul_add_mod, Nat.mod_eq_of_lt hj]
          rw [e1, e2]
          exact h2 i j e y he hy
        · intro v hv
          obtain ⟨k, hk, rfl⟩ := List.mem_map.1 hv
          have hk := List.mem_range.1 hk
          obtain ⟨d1, d2⟩ := hdiv k hk
          have he := List.getElem?_eq_getElem d1
          have hm := List.getElem_mem d1
          obtain ⟨f1, f2⟩ := fitSz_mem hfit _ hm
          have hy := List.getElem?_eq_getElem (l := l[k / sz].cells) (i := k % sz) (by omega)
          refine (h2 _ _ _ _ he hy).one ?_
          simp only [allSc, List.all_eq_true] at f2
          exact f2 _ (List.getElem_mem _)
    · simp at hr
  | hs β off len cap hβ =>
    simp only at hr
    split at hr
    · rename_i c hk
      split at hr
      · rename_i hc
        obtain ⟨hle, hag, hsc⟩ := hc
        simp only [Option.some.injEq] at hr
        subst hr
        obtain ⟨cs, e, ho, hsz, hv⟩ := rel_arr r hk
        obtain ⟨el, eg⟩ := elemsOf_get ag s len (c.drop off)
        have hcell : ∀ (i : Nat) (x : AV), (elemsOf ag s len (c.drop off))[i]? = some x -> x.cells = ((c.drop (off + i * s)).take s) := by
          intro i x hx
          have hi := (List.getElem?_eq_some_iff.1 hx).1
          rw [el] at hi
          have h := eg i x hx
          rw [List.drop_drop] at h
          cases ag with
          | true => rw [h]; rfl
          | false =>
            obtain rfl : s = 1 := by rcases hag with h | h <;> simp_all
            have hlt : off + i * 1 < c.length := by omega
            simp only [Bool.false_eq_true, if_false] at h
            rw [List.drop_eq_getElem_cons hlt] at h ⊢
            simp only [List.headD_cons] at h
            simp only [List.take_succ_cons, List.take_zero]
            have hsc1 : (c[off + i * 1]).sc = true := by
              simp only [allSc, List.all_eq_true] at hsc; exact hsc _ (List.getElem_mem hlt)
            rw [h]
            cases hq : c[off + i * 1] <;> rw [hq] at hsc1 <;> first | rfl | (simp [AV.sc] at hsc1)
        refine ⟨(cs.toList.drop off).take (len * s), by simp [Builtin.lenOf, el], ⟨by rw [el]; simp; omega, fun w2 hw2 => ?_⟩, ?_, ?_, ?_⟩
        · have hlen : ((cs.toList.drop off).take (len * s)).length = len * s := by simp; omega
          simp only [Builtin.firstCells, el]
          have hrc := run_cells (P := P) (w := w2) (b := g.bl β) (off := off) ((cs.toList.drop off).take (len * s)) (fun j v hj => ?_)
          · rwa [hlen] at hrc
          rw [hw2, hc_of ho]
          rw [List.getElem?_take] at hj
          split at hj
          · rw [List.getElem?_drop] at hj; simpa using hj
          · simp at hj
        · simp only [fitSz, List.all_eq_true, Bool.and_eq_true, beq_iff_eq]
          intro x hx
          obtain ⟨i, hi, rfl⟩ := List.mem_iff_getElem.1 hx
          have hc2 := hcell i _ (List.getElem?_eq_getElem hi)
          rw [hc2]
          rw [el] at hi
          have hmul : (i + 1) * s <= len * s := Nat.mul_le_mul_right _ (by omega)
          rw [Nat.add_mul, Nat.one_mul] at hmul
          refine ⟨by simp; omega, ?_⟩
          simp only [allSc, List.all_eq_true] at hsc ⊢
          intro y hy
          exact hsc y (List.mem_of_mem_drop (List.mem_of_mem_take hy))
        · intro i j x y u hx hy hu
          have hi := (List.getElem?_eq_some_iff.1 hx).1
          rw [el] at hi
          rw [hcell i x hx] at hy
          rw [List.getElem?_take] at hy hu
          split at hy
          · rw [List.getElem?_drop] at hy
            split at hu
            · rw [List.getElem?_drop] at hu
              have e1 : off + (i * s + j) = off + i * s + j := by omega
              rw [e1] at hu
              exact hv _ y u hy (by simpa using hu)
            · simp at hu
          · simp at hy
        · intro v hv'
          have hm := List.mem_of_mem_drop (List.mem_of_mem_take hv')
          obtain ⟨k, hk', rfl⟩ := List.mem_iff_getElem.1 hm
          have hk2 : k < cs.size := by simpa using hk'
          have hk3 : k < c.length := by omega
          have := hv k c[k] (cs.toList[k]) (by simp [hk3]) (by simp [hk2])
          refine this.one ?_
          simp only [allSc, List.all_eq_true] at hsc
          exact hsc _ (List.getElem_mem hk3)
      · simp at hr
    · simp at hr
  | _ => simp at hr
end Go.Proofs.YtekhblefchceaaaGreat.AM

/- The operations of the abstract machine are those of the model: append and copy, whole. -/
namespace Go.Proofs.YtekhblefchceaaaGreat.AM
open Go
variable {P : Program} {g : Gh} {σ : St} {w : World}
theorem dst_of {s : Nat} {l : List AV} {t : Tok} {a : Value} (hs0 : s ≠ 0) (hx : VRs g σ w (.vs l t) a) (hfit : fitSz s l = true) :
    ∃ base cap olds, a = .slice base l.length cap /\ Dst g σ w s base l.length cap t olds /\
      ∀ (i j : Nat) (e y : AV) (c : Value), l[i]? = some e -> e.cells[j]? = some y -> olds[i * s + j]? = some c -> VRs g σ w y c := by
  cases hx with
  | vsn t => exact ⟨none, 0, [], rfl, ⟨fun _ => ⟨rfl, rfl⟩, by simp, Nat.le_refl _, fun b off s h => by simp at h⟩, fun i j e y c h => by simp at h⟩
  | vs l t b off cap sz cs hsz hcap h1 h2 ht =>
    by_cases hl : l = []
    · subst hl
      refine ⟨some ⟨b, off, none⟩, cap, [], rfl, ⟨by simp, by simp, Nat.zero_le _, fun b' off' s' h => ?_⟩, fun i j e y c h => by simp at h⟩
      simp only [Option.some.injEq, Addr.mk.injEq] at h
      obtain ⟨rfl, rfl, rfl⟩ := h
      refine ⟨rfl, fun k v h => by simp at h, ?_⟩
      cases t with
      | no => exact .inr trivial
      | ex => exact .inl ht
      | id τ => exact .inl (by rcases ht with h | ⟨_, h | h⟩; exact h.2; exact h; exact absurd rfl h.1)
    · have hss : sz = s := by
        obtain ⟨x, hx⟩ := List.exists_mem_of_ne_nil l hl
        rw [<- hsz x hx]; exact (fitSz_mem hfit x hx).1
      subst hss
      have hget : ∀ k, k < l.length * sz -> ((List.range (l.length * sz)).map fun k => cs (k / sz) (k % sz))[k]? = some (cs (k / sz) (k % sz)) := by
        intro k hk; rw [List.getElem?_map, List.getElem?_range hk]; rfl
      have hdiv : ∀ k, k < l.length * sz -> k / sz < l.length /\ k % sz < sz := by
        intro k hk
        exact ⟨(Nat.div_lt_iff_lt_mul (by omega)).2 hk, Nat.mod_lt _ (by omega)⟩
      refine ⟨some ⟨b, off, none⟩, cap, (List.range (l.length * sz)).map fun k => cs (k / sz) (k % sz), rfl, ⟨by simp, by simp, hcap, fun b' off' s' h => ?_⟩, ?_⟩
      · simp only [Option.some.injEq, Addr.mk.injEq] at h
        obtain ⟨rfl, rfl, rfl⟩ := h
        refine ⟨rfl, fun k v hk => ?_, by
          cases t with
          | no => exact .inr trivial
          | ex => exact .inl ht
          | id τ => rcases ht with h | ⟨h1, h | h⟩; exact .inl h.2; exact .inl h; exact .inr (.inr ⟨h1, .inr ⟨by omega, h.2⟩⟩)⟩
        have hkl := (List.getElem?_eq_some_iff.1 hk).1
        simp only [List.length_map, List.length_range] at hkl
        rw [hget k hkl] at hk
        simp only [Option.some.injEq] at hk; subst hk
        obtain ⟨d1, d2⟩ := hdiv k hkl
        have := h1 (k / sz) (k % sz) d1 d2
        have e1 : off + k / sz * sz + k % sz = off + k := by rw [Nat.add_assoc, Nat.mul_comm, Nat.div_add_mod]
        rwa [e1] at this
      · intro i j e y c he hy hc
        have hi := (List.getElem?_eq_some_iff.1 he).1
        have hj := (List.getElem?_eq_some_iff.1 hy).1
        rw [hsz e (List.mem_of_getElem? he)] at hj
        have hlt : i * sz + j < l.length * sz := by
          have : (i + 1) * sz <= l.length * sz := Nat.mul_le_mul_right _ (by omega)
          rw [Nat.add_mul, Nat.one_mul] at this; omega
        rw [hget _ hlt] at hc
        simp only [Option.some.injEq] at hc; subst hc
        have e1 : (i * sz + j) / sz = i := by rw [Nat.mul_comm, Nat.mul_add_div (by omega), Nat.div_eq_of_lt hj, Nat.add_zero]
        have e2 : (i * sz + j) % sz = j := by rw [Nat.mul_comm, Nat.mul_add_mod, Nat.mod_eq_of_lt hj]
        rw [e1, e2]
        exact h2 i j e y he hy
theorem flatMap_cells {s : Nat} {new : List AV} (hfit : fitSz s new = true) : (new.flatMap AV.cells).length = new.length * s /\
    ∀ (q : Nat) (y : AV), (new.flatMap AV.cells)[q]? = some y -> ∃ i j e, q = i * s + j /\ new[i]? = some e /\ e.cells[j]? = some y := by
  induction new with
  | nil => exact ⟨by simp, fun q y h => by simp at h⟩
  | cons e new ih =>
    simp only [fitSz, List.all_cons, Bool.and_eq_true, beq_iff_eq] at hfit
    obtain ⟨⟨h1, h2⟩, h3⟩ := hfit
    obtain ⟨i1, i2⟩ := ih (by simpa [fitSz] using h3)
    refine ⟨by simp only [List.flatMap_cons, List.length_append, i1, h1, List.length_cons]; rw [Nat.add_mul]; omega, fun q y hq => ?_⟩
    simp only [List.flatMap_cons] at hq
    by_cases hlt : q < e.cells.length
    · rw [List.getElem?_append_left hlt] at hq
      exact ⟨0, q, e, by omega, rfl, hq⟩
    · rw [List.getElem?_append_right (by omega)] at hq
      obtain ⟨i, j, e', hq', he', hy'⟩ := i2 _ y hq
      refine ⟨i + 1, j, e', ?_, by simpa using he', hy'⟩
      rw [Nat.add_mul, Nat.one_mul]; omega
theorem snd_app {tt u ty e e' : TypeId} {i : TypeInfo} {ag : Bool} {v : AV} {σ' : St} {sa xa : Value} {ρ : Env} {s x : Opd} (r : Rel P g σ w.heap) (hs : VRs g σ w (s.ev ρ) sa) (hx : VRs g σ w (x.ev ρ) xa)
    (ht : P.underlying tt = some (.slice e)) (hu : P.underlying u = some (.slice e')) (hi : P.info? e = some i) (hz : ∃ z, zeroCellsOf P e = some z) (hs0 : i.size ≠ 0)
    (he : evalOp ρ σ (.app ag i.size i.bytes s x) = .v v σ') : Good P g σ w ((Builtin.append_ #[tt, u] ty #[sa, xa]).run P w) v σ' := by
  obtain ⟨zl, hzl⟩ := hz
  obtain ⟨i', z, hi', hzv, hzs, _⟩ := zero_cells hzl
  rw [hi] at hi'; simp at hi'; subst hi'
  simp only [evalOp] at he
  generalize s.ev ρ = sv at *
  split at he
  · rename_i new l t hr
    obtain ⟨news, hlen, hsrc, hfn, hvr, hone⟩ := src_of (P := P) (w := w) r hs0 hx hr
    split at he
    · rename_i hnil
      subst hnil
      simp only [OR.v.injEq] at he
      obtain ⟨rfl, rfl⟩ := he
      have hn0 : news = [] := by have := hsrc.1; simpa using this
      subst hn0
      obtain ⟨base, cap, rfl, hcap⟩ : ∃ base cap, sa = .slice base l.length cap /\ l.length <= cap := by
        cases hs with
        | vsn t => exact ⟨none, 0, rfl, Nat.le_refl _⟩
        | vs l t b off cap sz cs hsz hcap h1 h2 ht => exact ⟨_, cap, rfl, hcap⟩
      exact Good.pure r (app_none tt u ty e i _ ht hu (.inr ⟨_, rfl⟩) hi base _ _ xa hlen hsrc hcap) hs
    · rename_i hnn
      split at he
      · rename_i hc
        simp only [Bool.and_eq_true, decide_eq_true_eq] at hc
        obtain ⟨⟨hfl, _⟩, hb⟩ := hc
        split at he
        · rename_i σ1 hret
          simp only [OR.v.injEq] at he
          obtain ⟨rfl, rfl⟩ := he
          obtain ⟨base, cap, olds, rfl, hd, hold⟩ := dst_of hs0 hs hfl
          have hn0 : new.length ≠ 0 := by intro h; exact hnn (by simpa using h)
          obtain ⟨w', g', b', off', cap', hrun, hrel, hev, hic, htok, hcp, _⟩ := app_tok (P := P) ht hu (.inr ⟨_, rfl⟩) hi hzv hzs r hd hlen hsrc hn0 hone hret hb
          refine ⟨_, w', g', hrun, hrel, ?_, hev⟩
          have hll : (l ++ new).length = l.length + new.length := by simp
          rw [<- hll]
          have hfa : fitSz i.size (l ++ new) = true := by
            simp only [fitSz, List.all_append, Bool.and_eq_true]; exact ⟨hfl, hfn⟩
          have htot : (olds ++ news).length = (l.length + new.length) * i.size := by rw [List.length_append, hd.olen, hsrc.1, Nat.add_mul]
          have hgd : ∀ k, k < (l.length + new.length) * i.size -> (olds ++ news)[k]? = some ((olds ++ news).getD k .nilFunc) := by
            intro k hk
            rw [List.getD_eq_getElem?_getD, List.getElem?_eq_getElem (by rw [htot]; exact hk)]; rfl
          have hij : ∀ i' j, i' < l.length + new.length -> j < i.size -> i' * i.size + j < (l.length + new.length) * i.size := by
            intro i' j h1 h2
            have : (i' + 1) * i.size <= (l.length + new.length) * i.size := Nat.mul_le_mul_right _ (by omega)
            rw [Nat.add_mul, Nat.one_mul] at this; omega
          refine .vs (l ++ new) (.id σ.n) b' off' cap' i.size (fun i' j => (olds ++ news).getD (i' * i.size + j) .nilFunc) (fun x hx => (fitSz_mem hfa x hx).1) (by rw [hll]; exact hcp) ?_ ?_ ?_
          · intro i' j h1 h2
            rw [hll] at h1
            have := hic _ _ (hgd _ (hij i' j h1 h2))
            rwa [<- Nat.add_assoc] at this
          · intro i' j x y hx' hy
            have h1 := (List.getElem?_eq_some_iff.1 hx').1
            rw [hll] at h1
            have h2 := (List.getElem?_eq_some_iff.1 hy).1
            rw [(fitSz_mem hfa x (List.mem_of_getElem? hx')).1] at h2
            have hq := hgd _ (hij i' j h1 h2)
            by_cases hlt : i' < l.length
            · rw [List.getElem?_append_left hlt] at hx'
              have hk : i' * i.size + j < olds.length := by
                rw [hd.olen]
                have : (i' + 1) * i.size <= l.length * i.size := Nat.mul_le_mul_right _ (by omega)
                rw [Nat.add_mul, Nat.one_mul] at this; omega
              have hq2 := hq
              rw [List.getElem?_append_left hk] at hq2
              exact (hold i' j x y _ hx' hy hq2).evo hev.toEvo
            · rw [List.getElem?_append_right (by omega)] at hx'
              have hmul : l.length * i.size <= i' * i.size := Nat.mul_le_mul_right _ (by omega)
              have hq2 := hq
              rw [List.getElem?_append_right (by rw [hd.olen]; omega), hd.olen] at hq2
              have e1 : i' * i.size + j - l.length * i.size = (i' - l.length) * i.size + j := by rw [Nat.sub_mul]; omega
              rw [e1] at hq2
              exact (hvr (i' - l.length) j x y _ hx' hy hq2).evo hev.toEvo
          · rw [hll]; exact htok
        · simp at he
      · simp at he
  · rename_i new β off len cap hr
    obtain ⟨news, hlen, hsrc, hfn, hvr, hone⟩ := src_of (P := P) (w := w) r hs0 hx hr
    split at he
    · rename_i c hk
      split at he
      · rename_i hc
        obtain ⟨h1, h2, h3⟩ := hc
        simp only [OR.v.injEq] at he
        obtain ⟨rfl, rfl⟩ := he
        cases hs with
        | hs β off len cap hβ =>
          obtain ⟨f1, f2⟩ := flatMap_cells hfn
          have hle : off + len * i.size + (new.flatMap AV.cells).length <= c.length := by rw [f1]; rw [Nat.add_mul] at h2; omega
          have := arr_write (P := P) (off := off + len * i.size) (ncs := new.flatMap AV.cells) r hk hle news (by rw [hsrc.1, f1]) (fun q y v hy hv => by
            obtain ⟨i', j, e0, rfl, he0, hy0⟩ := f2 q y hy
            exact hvr i' j e0 y v he0 hy0 hv) hone
          obtain ⟨w', g', hst, hrel, hev⟩ := this
          refine ⟨_, w', g', app_room tt u ty e i _ ht hu (.inr ⟨_, rfl⟩) hi _ _ len cap new.length xa news hlen hsrc h1 hst, hrel, ?_, hev⟩
          exact (VR.hs β off (len + new.length) cap hβ : VRs g σ w _ _).evo hev.toEvo
      · simp at he
    · simp at he
  · simp at he
theorem snd_appb {tt u ty e : TypeId} {i : TypeInfo} {v : AV} {σ' : St} {sa xa : Value} {ρ : Env} {s x : Opd} (r : Rel P g σ w.heap) (hs : VRs g σ w (s.ev ρ) sa) (hx : VRs g σ w (x.ev ρ) xa)
    (ht : P.underlying tt = some (.slice e)) (hu : P.underlying u = some .string) (hi : P.info? e = some i) (hz : ∃ z, zeroCellsOf P e = some z) (hs1 : i.size = 1) (hb1 : i.bytes <= 1) (hby : e = byteTy)
    (he : evalOp ρ σ (.appb s x) = .v v σ') : Good P g σ w ((Builtin.append_ #[tt, u] ty #[sa, xa]).run P w) v σ' := by
  obtain ⟨zl, hzl⟩ := hz
  obtain ⟨i', z, hi', hzv, hzs, _⟩ := zero_cells hzl
  rw [hi] at hi'; simp at hi'; subst hi'
  simp only [evalOp] at he
  generalize s.ev ρ = sv at *
  generalize x.ev ρ = xv at *
  have hsz : ∀ q : List UInt8, (⟨q.toArray⟩ : ByteArray).size = q.length := by intro q; simp [ByteArray.size]
  have hm : maxBytes = 17592186044416 := rfl
  have src : ∀ q : List UInt8, (Builtin.lenOf (.string ⟨q.toArray⟩)).run P w = .ok q.length w /\ Src P w i.size q.length (.string ⟨q.toArray⟩) (q.map fun b => .int .u8 b.toNat) /\
      ∀ v ∈ (q.map fun b => Value.int .u8 b.toNat), v.oneCell' = true := by
    intro q
    refine ⟨by simp [Builtin.lenOf, hsz], ⟨by simp [hs1], fun w2 _ => ?_⟩, fun v hv => ?_⟩
    · simp only [Builtin.firstCells, Sem.run_pure]
      congr 1
      apply Array.ext'
      simp [ByteArray.data_extract]
    · obtain ⟨b, _, rfl⟩ := List.mem_map.1 hv; rfl
  have grow : ∀ (base : Option Addr) (l : List UInt8) (cap : Nat) (t : Tok) (q : List UInt8) (σ1 : St), sa = .slice base l.length cap -> Dst g σ w i.size base l.length cap t (l.map fun b => .int .u8 b.toNat) -> q ≠ [] ->
      (∀ τ b off, t = .id τ -> base = some ⟨b, off, none⟩ -> l.length + q.length <= cap -> off = 0 /\ g.ty τ = e) -> l.length + q.length <= maxBytes / 4 -> σ.retok t = some σ1 -> Good P g σ w ((Builtin.append_ #[tt, u] ty #[sa, .string ⟨q.toArray⟩]).run P w) (.bs (l ++ q) (.id σ.n)) σ1 := by
    intro base l cap t q σ1 hsa hd hq hbx hbound hret
    subst hsa
    obtain ⟨s1, s2, s3⟩ := src q
    obtain ⟨w', g', b', off', cap', hrun, hrel, hev, hic, htok, hcp, hbb⟩ := app_tok (P := P) (ty := ty) ht hu (.inl rfl) hi hzv hzs r hd s1 s2 (by intro h; exact hq (by simpa using h)) s3 hret (by
      have h2 : (l.length + q.length) * (i.bytes + 1) <= (l.length + q.length) * 2 := Nat.mul_le_mul_left _ (by omega)
      rw [hm] at hbound ⊢; omega)
    refine ⟨_, w', g', hrun, hrel, ?_, hev⟩
    have hll : (l ++ q).length = l.length + q.length := by simp
    rw [<- hll]
    refine .bs (l ++ q) (.id σ.n) b' off' cap' (by rw [hll]; exact hcp) (fun k y hy => ?_) ?_
    · refine hic k _ ?_
      rw [<- List.map_append, List.getElem?_map, hy]; rfl
    · rw [hll]
      rw [hs1] at htok
      rcases htok with htok | ⟨t1, t2⟩
      · exact absurd (List.length_eq_zero_iff.1 (by omega : q.length = 0)) hq
      refine ⟨.inr ⟨t1, ?_⟩, ?_⟩
      rotate_left
      · have := hbb hbx
        exact ⟨this.1, this.2.1, this.2.2.1.trans hby, by have := this.2.2.2; rw [hs1] at this; omega⟩
      rcases t2 with h | ⟨_, h⟩
      · exact .inl h
      · exact .inr ⟨by omega, h⟩
  have idle : ∀ (base : Option Addr) (n cap : Nat), sa = .slice base n cap -> n <= cap -> (Builtin.append_ #[tt, u] ty #[sa, .string ⟨([] : List UInt8).toArray⟩]).run P w = .ok sa w := by
    intro base n cap hsa hc
    subst hsa
    obtain ⟨s1, s2, _⟩ := src []
    exact app_none tt u ty e i _ ht hu (.inl rfl) hi base n cap _ s1 s2 hc
  cases hx <;> try (cases hs <;> simp at he; done)
  rename_i q
  cases hs <;> try (simp at he; done)
  · -- nil
    rename_i t
    simp only at he
    split at he
    · rename_i hq; subst hq
      simp only [OR.v.injEq] at he
      obtain ⟨rfl, rfl⟩ := he
      exact Good.pure r (idle none 0 0 rfl (Nat.le_refl _)) (.vsn _)
    · rename_i hq
      split at he
      · rename_i hb
        split at he
        · rename_i σ1 hret
          simp only [OR.v.injEq] at he
          obtain ⟨rfl, rfl⟩ := he
          exact grow none [] 0 t q _ rfl ⟨fun _ => ⟨rfl, rfl⟩, by simp, Nat.le_refl _, fun b off s h => by simp at h⟩ hq (fun _ _ _ _ h => by simp at h) hb hret
        · simp at he
      · simp at he
  · rename_i l t b off cap sz cs hsz' hcap h1 h2 ht'
    cases l with
    | cons => simp at he
    | nil =>
      simp only at he
      split at he
      · rename_i hq; subst hq
        simp only [OR.v.injEq] at he
        obtain ⟨rfl, rfl⟩ := he
        exact Good.pure r (idle _ _ _ rfl hcap) (.vs [] t b off cap sz cs hsz' hcap h1 h2 ht')
      · rename_i hq
        split at he
        · rename_i hb
          split at he
          · rename_i σ1 hret
            simp only [OR.v.injEq] at he
            obtain ⟨rfl, rfl⟩ := he
            refine grow (some ⟨b, off, none⟩) [] cap t q _ rfl ⟨by simp, by simp, Nat.zero_le _, fun b' off' s' h => ?_⟩ hq (fun τ b0 off0 ht0 _ hc0 => by
              subst ht0
              have : cap = 0 := by rcases ht' with h | ⟨_, h | h⟩; exact h.2; exact h; exact absurd rfl h.1
              have hq0 : q.length ≠ 0 := fun h => hq (List.length_eq_zero_iff.1 h)
              simp at hc0; omega) hb hret
            simp only [Option.some.injEq, Addr.mk.injEq] at h
            obtain ⟨rfl, rfl, rfl⟩ := h
            refine ⟨rfl, fun k v h => by simp at h, ?_⟩
            cases t with
            | no => exact .inr trivial
            | ex => exact .inl ht'
            | id τ => exact .inl (by rcases ht' with h | ⟨_, h | h⟩; exact h.2; exact h; exact absurd rfl h.1)
          · simp at he
        · simp at he
  · rename_i l t b off cap hcap h1 ht'
    simp only at he
    split at he
    · rename_i hq; subst hq
      simp only [OR.v.injEq] at he
      obtain ⟨rfl, rfl⟩ := he
      exact Good.pure r (idle _ _ _ rfl hcap) (.bs l t b off cap hcap h1 ht')
    · rename_i hq
      split at he
      · rename_i hb
        split at he
        · rename_i σ1 hret
          simp only [OR.v.injEq] at he
          obtain ⟨rfl, rfl⟩ := he
          refine grow (some ⟨b, off, none⟩) l cap t q _ rfl ⟨by simp, by simp [hs1], hcap, fun b' off' s' h => ?_⟩ hq (fun τ b0 off0 ht0 hb0 _ => by
            subst ht0
            simp only [Option.some.injEq, Addr.mk.injEq] at hb0
            obtain ⟨rfl, rfl, _⟩ := hb0
            exact ⟨ht'.2.2.1, ht'.2.2.2.1.trans hby.symm⟩) hb hret
          simp only [Option.some.injEq, Addr.mk.injEq] at h
          obtain ⟨rfl, rfl, rfl⟩ := h
          refine ⟨rfl, fun k v hk => ?_, ?_⟩
          · rw [List.getElem?_map, Option.map_eq_some_iff] at hk
            obtain ⟨y, hy, rfl⟩ := hk
            exact h1 k y hy
          · cases t with
            | no => exact .inr trivial
            | ex => exact .inl ht'.1
            | id τ =>
              rw [hs1]; exact .inr ht'.1
        · simp at he
      · simp at he
end Go.Proofs.YtekhblefchceaaaGreat.AM

/- The operations of the abstract machine are those of the model: maps, copy. -/
namespace Go.Proofs.YtekhblefchceaaaGreat.AM
open Go
variable {P : Program} {g : Gh} {σ : St} {w : World}
theorem snd_copy {tt u ty e : TypeId} {s : Nat} {v : AV} {σ' : St} {da xa : Value} {ρ : Env} {d x : Opd} (r : Rel P g σ w.heap) (hd : VRs g σ w (d.ev ρ) da) (hx : VRs g σ w (x.ev ρ) xa)
    (ht : P.underlying tt = some (.slice e)) (hsz : szOf P e = some s) (hs0 : s ≠ 0) (he : evalOp ρ σ (.copy s d x) = .v v σ') : Good P g σ w ((Builtin.copy_ #[tt, u] ty #[da, xa]).run P w) v σ' := by
  simp only [evalOp] at he
  generalize d.ev ρ = dv at *
  cases hd <;> try (simp at he; done)
  rename_i β off len cap hβ
  simp only at he
  split at he
  · rename_i c l hk hr
    split at he
    · rename_i hc
      simp only [OR.v.injEq] at he
      obtain ⟨rfl, rfl⟩ := he
      obtain ⟨news, hlen, hsrc, hfn, hvr, hone⟩ := src_of (P := P) (w := w) r hs0 hx hr
      obtain ⟨f1, f2⟩ := flatMap_cells hfn
      have hmul : l.length * s <= len * s := Nat.mul_le_mul_right _ hc.1
      have := arr_write (P := P) (off := off) (ncs := l.flatMap AV.cells) r hk (by rw [f1]; omega) news (by rw [hsrc.1, f1]) (fun q y v hy hv => by
        obtain ⟨i', j, e0, rfl, he0, hy0⟩ := f2 q y hy
        exact hvr i' j e0 y v he0 hy0 hv) hone
      obtain ⟨w', g', hst, hrel, hev⟩ := this
      have hf := hsrc.2 w rfl
      refine ⟨.int .i64 l.length, w', g', ?_, hrel, .int _ _, hev⟩
      have hmin : Nat.min l.length len = l.length := Nat.min_eq_left hc.1
      simp [Builtin.copy_, run_under ht, hlen, run_sizeOf hsz, hmin, hf, hst, goInt]
    · simp at he
  · simp at he
theorem run_getObj {b : Nat} {o : Obj} (h : w.heap[b]? = some o) (hc : ∀ c e z, o ≠ .cells c e z) : (getObj b).run P w = .ok o w := by
  simp only [getObj, Sem.run, h]
theorem keyKind_run {t : TypeId} {ck : CK} (h : keyKind P t = some ck) : ∃ d, P.underlying t = some d /\ (match ck with | .i => ∃ k, d = .int k | .b => d = .bool | .s => d = .string) := by
  unfold keyKind at h
  split at h <;> simp at h <;> subst h
  · rename_i k hu; exact ⟨_, hu, k, rfl⟩
  · rename_i hu; exact ⟨_, hu, rfl⟩
  · rename_i hu; exact ⟨_, hu, rfl⟩
theorem run_checkKey {t : TypeId} {ck : CK} (h : keyKind P t = some ck) (e : Bool) (v : Value) (n : Nat) : (Instr.checkKey e (n + 1) t v).run P w = .ok () w := by
  obtain ⟨d, hu, hd⟩ := keyKind_run h
  unfold Instr.checkKey
  simp only [Sem.run_bind, run_under hu, Result.andThen_ok]
  cases ck with
  | i => obtain ⟨k, rfl⟩ := hd; rfl
  | b => subst hd; rfl
  | s => subst hd; rfl
theorem run_checkKey' {t : TypeId} {ck : CK} (h : keyKind P t = some ck) (e : Bool) (v : Value) : (Instr.checkKey e 10000 t v).run P w = .ok () w := run_checkKey h e v 9999
theorem sameNow_eq {t : TypeId} {ck : CK} {d : TypeDesc} (h : keyKind P t = some ck) (hu : P.underlying t = some d) {x y : AV} {a b : Value} {r : Bool} (hx : VRs g σ w x a) (hy : VRs g σ w y b)
    (he : eqSc ck x y = some r) : Instr.sameNow d a b = some r := by
  obtain ⟨d', hu', hd⟩ := keyKind_run h
  rw [hu] at hu'; simp at hu'; subst hu'
  cases ck with
  | i =>
    obtain ⟨k, rfl⟩ := hd
    cases hx <;> cases hy <;> try (simp [eqSc] at he; done)
    simp only [eqSc] at he
    split at he
    · rename_i hk; subst hk
      simp only [Option.some.injEq] at he; subst he
      simp [Instr.sameNow]; rfl
    · simp at he
  | b =>
    subst hd
    cases hx <;> cases hy <;> try (simp [eqSc] at he; done)
    simp only [eqSc, Option.some.injEq] at he; subst he; rfl
  | s =>
    subst hd
    cases hx <;> cases hy <;> try (simp [eqSc] at he; done)
    simp only [eqSc, Option.some.injEq] at he; subst he
    simp only [Instr.sameNow]
    rw [beq_toListBytes, blist, blist]
def Ents (g : Gh) (σ : St) (w : World) (es : List MEnt) (ces : List MapEntry) : Prop :=
  ces.length = es.length /\ ∀ (i : Nat) (e : MEnt) (ce : MapEntry), es[i]? = some e -> ces[i]? = some ce -> VRs g σ w e.key ce.key /\ VRs g σ w e.val ce.val /\ ce.born = e.born
theorem findNow_eq {t : TypeId} {ck : CK} {d : TypeDesc} (h : keyKind P t = some ck) (hu : P.underlying t = some d) {x : AV} {a : Value} (hx : VRs g σ w x a) :
    ∀ (es : List MEnt) (ces : List MapEntry) (i : Nat) (r : Option (Nat × AV)), Ents g σ w es ces -> findKeyA ck x es i = some r ->
      (r = none -> Instr.findNow d a ces i = some none) /\
      (∀ j v, r = some (j, v) -> ∃ cv e ce, Instr.findNow d a ces i = some (some (j, cv)) /\ VRs g σ w v cv /\ i <= j /\ es[j - i]? = some e /\ ces[j - i]? = some ce /\ eqSc ck x e.key = some true)
  | [], ces, i, r, he, hf => by
    have : ces = [] := by have := he.1; simpa using this
    subst this
    simp [findKeyA] at hf; subst hf
    exact ⟨fun _ => rfl, fun j v h => by simp at h⟩
  | e :: es, [], i, r, he, hf => by have := he.1; simp at this
  | e :: es, ce :: ces, i, r, he, hf => by
    obtain ⟨h1, h2, h3⟩ := he.2 0 e ce rfl rfl
    have he' : Ents g σ w es ces := ⟨by have := he.1; simpa using this, fun k e' ce' a b => he.2 (k + 1) e' ce' (by simpa using a) (by simpa using b)⟩
    simp only [findKeyA] at hf
    cases hq : eqSc ck x e.key with
    | none => simp [hq] at hf
    | some q =>
      have hs := sameNow_eq h hu hx h1 hq
      cases q with
      | true =>
        simp only [hq, Option.some.injEq] at hf
        subst hf
        refine ⟨fun h => by simp at h, fun j v hj => ?_⟩
        simp only [Option.some.injEq, Prod.mk.injEq] at hj
        obtain ⟨rfl, rfl⟩ := hj
        exact ⟨ce.val, e, ce, by simp [Instr.findNow, hs], h2, Nat.le_refl _, by simp, by simp, hq⟩
      | false =>
        simp only [hq] at hf
        obtain ⟨i1, i2⟩ := findNow_eq h hu hx es ces (i + 1) r he' hf
        refine ⟨fun hr => by simp only [Instr.findNow, hs]; exact i1 hr, fun j v hj => ?_⟩
        obtain ⟨cv, e', ce', a1, a2, a3, a4, a5, a6⟩ := i2 j v hj
        have e1 : j - i = (j - (i + 1)) + 1 := by omega
        exact ⟨cv, e', ce', by simp only [Instr.findNow, hs]; exact a1, a2, by omega, by rw [e1]; simpa using a4, by rw [e1]; simpa using a5, a6⟩
theorem run_findKey {t : TypeId} {ck : CK} (h : keyKind P t = some ck) {x : AV} {a : Value} (hx : VRs g σ w x a) {es : List MEnt} {ces : List MapEntry} {r : Option (Nat × AV)}
    (he : Ents g σ w es ces) (hf : findKeyA ck x es 0 = some r) :
    (r = none -> (Instr.findKey t a ces).run P w = .ok none w) /\
    (∀ j v, r = some (j, v) -> ∃ cv e ce, (Instr.findKey t a ces).run P w = .ok (some (j, cv)) w /\ VRs g σ w v cv /\ es[j]? = some e /\ ces[j]? = some ce /\ eqSc ck x e.key = some true) := by
  obtain ⟨d, hu, _⟩ := keyKind_run h
  obtain ⟨h1, h2⟩ := findNow_eq h hu hx es ces 0 r he hf
  refine ⟨fun hr => ?_, fun j v hj => ?_⟩
  · simp [Instr.findKey, run_under hu, h1 hr]
  · obtain ⟨cv, e, ce, a1, a2, _, a4, a5, a6⟩ := h2 j v hj
    exact ⟨cv, e, ce, by simp [Instr.findKey, run_under hu, a1], a2, by simpa using a4, by simpa using a5, a6⟩
theorem rel_map {β ck : Nat} {es : List MEnt} (r : Rel P g σ w.heap) (hk : lk σ.H β = some (.map es ck)) : ∃ ces : Array MapEntry, w.heap[g.bl β]? = some (.map ces ck) /\ Ents g σ w es ces.toList /\
    (∀ e ∈ es, isKey e.key = true /\ e.born < ck) /\ (es.map (·.born)).Nodup := by
  obtain ⟨ces, ho, hsz, hv, hn⟩ := r.blk _ _ hk
  refine ⟨ces, ho, ⟨by simpa using hsz, fun i e ce h1 h2 => ?_⟩, fun e he => ?_, hn⟩
  · obtain ⟨a, b, c, _⟩ := hv i e ce h1 (by simpa using h2)
    exact ⟨a, b, c⟩
  · obtain ⟨i, hi, rfl⟩ := List.mem_iff_getElem.1 he
    have hi2 : i < ces.size := by omega
    obtain ⟨_, _, _, d, f⟩ := hv i es[i] ces[i] (by simp [hi]) (by simp [hi2])
    exact ⟨d, f⟩
theorem snd_lookup {t kt et : TypeId} {ck : CK} {z v : AV} {zv : Value} {a ka : Value} {ok : Bool} {σ' : St} {ρ : Env} {x i : Opd} (r : Rel P g σ w.heap) (hx : VRs g σ w (x.ev ρ) a) (hi : VRs g σ w (i.ev ρ) ka)
    (hu : P.underlying t = some (.map kt et)) (hck : keyKind P kt = some ck) (hz : (zeroValue et).run P w = .ok zv w) (hzv : VRs g σ w z zv) (he : evalOp ρ σ (.lookup ck z x i ok) = .v v σ') :
    Good P g σ w ((Instr.lookup t a ka ok).run P w) v σ' := by
  simp only [evalOp] at he
  have hpair : ∀ (b : Bool) (y : AV) (c : Value), VRs g σ w y c -> VRs g σ w (.tup [y, .bool b]) (.tuple #[c, .bool b]) := by
    intro b y c hy
    refine .tup _ _ rfl fun k p q h1 h2 => ?_
    match k with
    | 0 => simp at h1 h2; subst h1; subst h2; exact hy
    | 1 => simp at h1 h2; subst h1; subst h2; exact .bool _
    | k + 2 => simp at h1
  split at he
  · generalize x.ev ρ = xv at *
    cases hx <;> try (simp at he; done)
    · have f1 := (run_findKey (P := P) hck hi (es := []) (ces := []) ⟨rfl, fun i e ce h => by simp at h⟩ (r := none) rfl).1 rfl
      simp only [OR.v.injEq] at he
      obtain ⟨rfl, rfl⟩ := he
      cases ok with
      | true => exact Good.pure r (by simp [Instr.lookup, run_under hu, run_checkKey' hck, f1, hz]) (hpair _ _ _ hzv)
      | false => exact Good.pure r (by simp [Instr.lookup, run_under hu, run_checkKey' hck, f1, hz]) hzv
    · rename_i β hβ
      simp only at he
      split at he
      · rename_i es c hk
        obtain ⟨ces, ho, hents, _⟩ := rel_map r hk
        have hg := run_getObj (P := P) ho (by simp)
        cases hq : findKeyA ck (i.ev ρ) es 0 with
        | none => simp [hq] at he
        | some q =>
          rw [hq] at he
          obtain ⟨f1, f2⟩ := run_findKey (P := P) hck hi hents hq
          cases q with
          | none =>
            simp only [OR.v.injEq] at he
            obtain ⟨rfl, rfl⟩ := he
            cases ok with
            | true => exact Good.pure r (by simp [Instr.lookup, run_under hu, hg, run_checkKey' hck, f1 rfl, hz]) (hpair _ _ _ hzv)
            | false => exact Good.pure r (by simp [Instr.lookup, run_under hu, hg, run_checkKey' hck, f1 rfl, hz]) hzv
          | some q =>
            obtain ⟨j, u⟩ := q
            simp only [OR.v.injEq] at he
            obtain ⟨rfl, rfl⟩ := he
            obtain ⟨cv, e, ce, g1, g2, _⟩ := f2 j u rfl
            cases ok with
            | true => exact Good.pure r (by simp [Instr.lookup, run_under hu, hg, run_checkKey' hck, g1]) (hpair _ _ _ g2)
            | false => exact Good.pure r (by simp [Instr.lookup, run_under hu, hg, run_checkKey' hck, g1]) g2
      · simp at he
  · simp at he
theorem key_stays {ck : CK} {x y : AV} {a b : Value} (hx : VRs g σ w x a) (hy : VRs g σ w y b) (he : eqSc ck x y = some true) : (Instr.keyThatStays b a).run P w = .ok a w := by
  have hs : ∀ n, Instr.sameBits (n + 1) b a = true := by
    intro n
    cases ck <;> cases hx <;> cases hy <;> try (simp [eqSc] at he; done)
    · simp only [eqSc] at he
      split at he
      · rename_i hk; subst hk; simp at he; subst he; simp [Instr.sameBits]
      · simp at he
    · simp [eqSc] at he; subst he; simp [Instr.sameBits]
    · simp only [eqSc, Option.some.injEq, beq_iff_eq] at he; subst he
      simp only [Instr.sameBits]
      rw [beq_toListBytes]; simp
  have : Instr.sameBits 10000 b a = true := hs 9999
  simp [Instr.keyThatStays, this]
theorem snd_mapup {t kt et : TypeId} {ck : CK} {v : AV} {a ka va : Value} {σ' : St} {ρ : Env} {m k x : Opd} (r : Rel P g σ w.heap) (hm : VRs g σ w (m.ev ρ) a) (hk : VRs g σ w (k.ev ρ) ka) (hv : VRs g σ w (x.ev ρ) va)
    (hu : P.underlying t = some (.map kt et)) (hck : keyKind P kt = some ck) (he : evalOp ρ σ (.mapup ck m k x) = .v v σ') : v = .tup [] /\ GoodU P g σ w ((Instr.mapUpdate t a ka va).run P w) σ' := by
  simp only [evalOp] at he
  split at he
  · rename_i hkey
    generalize m.ev ρ = mv at *
    cases hm <;> try (simp at he; done)
    rename_i β hβ
    simp only at he
    split at he
    · rename_i es c hkl
      obtain ⟨ces, ho, hents, hes, hnd⟩ := rel_map r hkl
      have hg := run_getObj (P := P) ho (by simp)
      have hset : ∀ o : Obj, (setObj (g.bl β) o).run P w = .ok () { w with heap := w.heap.setIfInBounds (g.bl β) o } := by
        intro o; simp only [setObj, Sem.run, ho]
      have hb := (Array.getElem?_eq_some_iff.1 ho).1
      have fin : ∀ (es' : List MEnt) (ces' : Array MapEntry) (c' : Nat), Ents g σ w es' ces'.toList -> (∀ e ∈ es', isKey e.key = true /\ e.born < c') -> (es'.map (·.born)).Nodup ->
          GoodU P g σ w (.ok () { w with heap := w.heap.setIfInBounds (g.bl β) (.map ces' c') }) (σ.set β (.map es' c')) := by
        intro es' ces' c' h1 h2 h3
        have := rel_set (P := P) r hkl (by simp) (.map es' c') (by simp) (w.heap.setIfInBounds (g.bl β) (.map ces' c')) (by simp)
          (fun b hbb => by rw [Array.getElem?_setIfInBounds]; simp [Ne.symm hbb]) ⟨ces', by simp [hb], by simpa using h1.1, fun i e ce a b => by
            obtain ⟨q1, q2, q3⟩ := h1.2 i e ce a (by simpa using b)
            obtain ⟨q4, q5⟩ := h2 e (List.mem_of_getElem? a)
            exact ⟨q1, q2, q3, q4, q5⟩, h3⟩ (fun c0 e0 z0 h0 => by rw [ho] at h0; cases h0)
        exact ⟨_, g, rfl, this.1, this.2, rfl, rfl⟩
      split at he
      · rename_i j u hf
        simp only [OR.v.injEq] at he
        obtain ⟨rfl, rfl⟩ := he
        refine ⟨rfl, ?_⟩
        obtain ⟨cv, e, ce, f1, f2, f3, f4, f5⟩ := (run_findKey hck hk hents hf).2 j u rfl
        have hke := (hents.2 j e ce f3 f4).1
        have hst := key_stays (P := P) (w := w) hk hke f5
        have hceq : ces[j]? = some ce := by simpa using f4
        have := fin (es.modify j fun e => { e with key := k.ev ρ, val := x.ev ρ }) (ces.modify j fun e => { e with key := ka, val := va }) c
          ⟨by simp [hents.1], fun i e' ce' a b => by
            rw [List.getElem?_modify] at a
            rw [Array.toList_modify, List.getElem?_modify] at b
            by_cases hij : j = i
            · subst hij
              rw [f3] at a; rw [f4] at b
              simp at a b; subst a; subst b
              exact ⟨hk, hv, (hents.2 j e ce f3 f4).2.2⟩
            · simp [hij] at a b
              exact hents.2 i e' ce' a (by simpa using b)⟩
          (fun e' he' => by
            obtain ⟨i, hi, rfl⟩ := List.mem_iff_getElem.1 he'
            rw [List.getElem_modify]
            simp only [List.length_modify] at hi
            split
            · exact ⟨hkey, (hes _ (List.getElem_mem hi)).2⟩
            · exact hes _ (List.getElem_mem hi))
          (by
            have : (es.modify j fun e => { e with key := k.ev ρ, val := x.ev ρ }).map (·.born) = es.map (·.born) := by
              apply List.ext_getElem?
              intro i
              rw [List.getElem?_map, List.getElem?_map, List.getElem?_modify]
              by_cases hij : j = i
              · subst hij; rw [f3]; simp
              · simp [hij]
            rw [this]; exact hnd)
        simpa [Instr.mapUpdate, run_under hu, hg, run_checkKey' hck, f1, hceq, hst, hset] using this
      · rename_i hf
        simp only [OR.v.injEq] at he
        obtain ⟨rfl, rfl⟩ := he
        refine ⟨rfl, ?_⟩
        have f1 := (run_findKey hck hk hents hf).1 rfl
        have := fin (es ++ [⟨k.ev ρ, x.ev ρ, c⟩]) (ces.push { key := ka, val := va, born := c }) (c + 1)
          ⟨by simp; exact hents.1, fun i e' ce' a b => by
            simp only [Array.toList_push] at b
            have hl := hents.1
            by_cases hi : i < es.length
            · rw [List.getElem?_append_left hi] at a
              rw [List.getElem?_append_left (by omega)] at b
              exact hents.2 i e' ce' a b
            · have hil := (List.getElem?_eq_some_iff.1 a).1
              simp at hil
              have hie : i = es.length := by omega
              subst hie
              rw [List.getElem?_append_right (Nat.le_refl _)] at a
              rw [List.getElem?_append_right (by omega)] at b
              rw [hl] at b
              simp at a b; subst a; subst b
              exact ⟨hk, hv, rfl⟩⟩
          (fun e' he' => by
            rcases List.mem_append.1 he' with h | h
            · have := hes e' h; exact ⟨this.1, by omega⟩
            · simp at h; subst h; exact ⟨hkey, by simp⟩)
          (by
            rw [List.map_append, List.nodup_append]
            refine ⟨hnd, by simp, fun a ha b hb => ?_⟩
            simp at hb; subst hb
            obtain ⟨e', he', rfl⟩ := List.mem_map.1 ha
            have := (hes e' he').2; omega)
        simpa [Instr.mapUpdate, run_under hu, hg, run_checkKey' hck, f1, hset] using this
      · simp at he
    · simp at he
  · simp at he
theorem snd_del {t u ty kt et : TypeId} {ck : CK} {v : AV} {a ka : Value} {σ' : St} {ρ : Env} {m k : Opd} (r : Rel P g σ w.heap) (hm : VRs g σ w (m.ev ρ) a) (hk : VRs g σ w (k.ev ρ) ka)
    (hu : P.underlying t = some (.map kt et)) (hck : keyKind P kt = some ck) (he : evalOp ρ σ (.del ck m k) = .v v σ') : Good P g σ w ((Builtin.delete_ #[t, u] ty #[a, ka]).run P w) v σ' := by
  simp only [evalOp] at he
  split at he
  · rename_i hkey
    generalize m.ev ρ = mv at *
    cases hm <;> try (simp at he; done)
    rename_i β hβ
    simp only at he
    split at he
    · rename_i es c hkl
      obtain ⟨ces, ho, hents, hes, hnd⟩ := rel_map r hkl
      have hg := run_getObj (P := P) ho (by simp)
      have hset : ∀ o : Obj, (setObj (g.bl β) o).run P w = .ok () { w with heap := w.heap.setIfInBounds (g.bl β) o } := by
        intro o; simp only [setObj, Sem.run, ho]
      have hb := (Array.getElem?_eq_some_iff.1 ho).1
      have nil : ∀ g' σ'' w', VRs g' σ'' w' (.tup []) (.tuple #[]) := fun g' σ'' w' => .tup [] #[] rfl (fun i x c h => by simp at h)
      split at he
      · rename_i j u' hf
        simp only [OR.v.injEq] at he
        obtain ⟨rfl, rfl⟩ := he
        obtain ⟨cv, e, ce, f1, f2, f3, f4, f5⟩ := (run_findKey hck hk hents hf).2 j u' rfl
        have hj := (List.getElem?_eq_some_iff.1 f3).1
        have hl := hents.1
        have hj2 : j < ces.size := by simp at hl; omega
        have := rel_set (P := P) r hkl (by simp) (.map (es.eraseIdx j) c) (by simp) (w.heap.setIfInBounds (g.bl β) (.map (ces.eraseIdxIfInBounds j) c)) (by simp)
          (fun b hbb => by rw [Array.getElem?_setIfInBounds]; simp [Ne.symm hbb])
          ⟨ces.eraseIdxIfInBounds j, by simp [hb], by
            simp [Array.eraseIdxIfInBounds, hj2, List.length_eraseIdx, hj]; simp at hl; omega, fun i e' ce' a b => by
            rw [List.getElem?_eraseIdx] at a
            rw [Array.eraseIdxIfInBounds, dif_pos hj2, Array.getElem?_eraseIdx] at b
            have q : ∃ i' : Nat, es[i']? = some e' /\ ces[i']? = some ce' := by
              split at a
              · rename_i h; rw [if_pos h] at b; exact ⟨_, a, b⟩
              · rename_i h; rw [if_neg h] at b; exact ⟨_, a, b⟩
            obtain ⟨i', a', b'⟩ := q
            obtain ⟨q1, q2, q3⟩ := hents.2 i' e' ce' a' (by simpa using b')
            obtain ⟨q4, q5⟩ := hes e' (List.mem_of_getElem? a')
            exact ⟨q1, q2, q3, q4, q5⟩, by
            exact hnd.sublist ((List.eraseIdx_sublist es j).map _)⟩ (fun c0 e0 z0 h0 => by rw [ho] at h0; cases h0)
        refine ⟨.tuple #[], { w with heap := w.heap.setIfInBounds (g.bl β) (.map (ces.eraseIdxIfInBounds j) c) }, g, ?_, this.1, nil _ _ { w with heap := w.heap.setIfInBounds (g.bl β) (.map (ces.eraseIdxIfInBounds j) c) }, this.2, rfl, rfl⟩
        simp [Builtin.delete_, run_under hu, hg, run_checkKey' hck, f1, hset]
      · rename_i hf
        simp only [OR.v.injEq] at he
        obtain ⟨rfl, rfl⟩ := he
        have f1 := (run_findKey hck hk hents hf).1 rfl
        have hsame : w.heap.setIfInBounds (g.bl β) (.map ces c) = w.heap := by
          apply Array.ext_getElem?
          intro i
          rw [Array.getElem?_setIfInBounds]
          by_cases hi : g.bl β = i
          · subst hi; rw [if_pos rfl, if_pos hb, ho]
          · simp [hi]
        refine Good.pure r ?_ (nil _ _ w)
        simp [Builtin.delete_, run_under hu, hg, run_checkKey' hck, f1, hset, hsame]
      · simp at he
    · simp at he
  · simp at he
theorem snd_range {t kt et : TypeId} {v : AV} {a : Value} {σ' : St} {ρ : Env} {m : Opd} (r : Rel P g σ w.heap) (hm : VRs g σ w (m.ev ρ) a)
    (hu : P.underlying t = some (.map kt et)) (he : evalOp ρ σ (.range m) = .v v σ') : Good P g σ w ((Instr.range t a).run P w) v σ' := by
  simp only [evalOp] at he
  generalize m.ev ρ = mv at *
  cases hm <;> try (simp at he; done)
  rename_i β hβ
  simp only at he
  split at he
  · rename_i es c hkl
    simp only [OR.v.injEq] at he
    obtain ⟨rfl, rfl⟩ := he
    obtain ⟨ces, ho, _⟩ := rel_map r hkl
    have hg := run_getObj (P := P) ho (by simp)
    have hle := (g.le_at σ.n w.heap.size 0 0 (ty := 0)) β hβ
    have := rel_new (P := P) (.mapIter (some (g.bl β)) c #[] c) (.iter β c []) σ.H 0 0 r (fun _ _ h => h) ⟨by omega, by rw [hle.1]⟩
    refine ⟨_, { w with heap := w.heap.push (.mapIter (some (g.bl β)) c #[] c) }, _, by simp [Instr.range, run_under hu, hg]; rfl, this.1, ?_, this.2, rfl, rfl⟩
    have e1 : (⟨w.heap.size, 0, none⟩ : Addr) = ⟨(g.at σ.n w.heap.size 0 0).bl σ.n, 0, none⟩ := by simp [Gh.at]
    rw [e1]
    exact .ptr σ.n 0 (Nat.lt_succ_self _)
  · simp at he
theorem run_pick {n : Nat} (h : 0 < n) : ∃ k w', k < n /\ (choose (.mapNext n)).run P w = .ok k w' /\ w'.heap = w.heap /\ w'.os = w.os /\ w'.output = w.output := by
  simp only [run_choose]
  split
  · exact ⟨0, w, h, rfl, rfl, rfl, rfl⟩
  · exact ⟨_, _, Nat.mod_lt _ h, rfl, rfl, rfl, rfl⟩
theorem filter_map_eq {es : List MEnt} {ces : List MapEntry} (h : Ents g σ w es ces) (seen : List Nat) :
    Ents g σ w (es.filter fun e => !seen.contains e.born) (ces.filter fun e => !seen.toArray.contains e.born) := by
  induction es generalizing ces with
  | nil =>
    have : ces = [] := by have := h.1; simpa using this
    subst this; exact h
  | cons e es ih =>
    cases ces with
    | nil => have := h.1; simp at this
    | cons ce ces =>
      obtain ⟨h1, h2, h3⟩ := h.2 0 e ce rfl rfl
      have h' : Ents g σ w es ces := ⟨by have := h.1; simpa using this, fun k e' ce' a b => h.2 (k + 1) e' ce' (by simpa using a) (by simpa using b)⟩
      have ih := ih h'
      have hb : seen.toArray.contains ce.born = seen.contains e.born := by rw [List.contains_toArray, h3]
      by_cases hq : seen.contains e.born = true
      · rw [List.filter_cons_of_neg (by simpa using hq), List.filter_cons_of_neg (by rw [hb, hq]; simp)]; exact ih
      · have hq' : seen.contains e.born = false := by simpa using hq
        rw [List.filter_cons_of_pos (by rw [hq']; rfl), List.filter_cons_of_pos (by rw [hb, hq']; rfl)]
        refine ⟨by rw [List.length_cons, List.length_cons, ih.1], fun k e' ce' a b => ?_⟩
        cases k with
        | zero => simp at a b; subst a; subst b; exact ⟨h1, h2, h3⟩
        | succ k => exact ih.2 k e' ce' (by simpa using a) (by simpa using b)
theorem snd_next {ty : TypeId} {a : Value} {ρ : Env} {y : Opd} (r : Rel P g σ w.heap) (ha : VRs g σ w (y.ev ρ) a) :
    (∀ v σ', evalOp ρ σ (.next y) = .v v σ' -> Good P g σ w ((Instr.next a false ty).run P w) v σ') /\
    (∀ l, evalOp ρ σ (.next y) = .any l -> ∃ p ∈ l, Good P g σ w ((Instr.next a false ty).run P w) p.1 p.2) := by
  simp only [evalOp]
  generalize y.ev ρ = x at *
  cases ha
  case ptr β off hβ =>
    cases off with
    | succ n => exact ⟨fun v σ' h => by simp at h, fun l h => by simp at h⟩
    | zero =>
      by_cases hgood : ∃ m ck seen es, lk σ.H β = some (.iter m ck seen) /\ lk σ.H m = some (.map es ck)
      · obtain ⟨m, ck', seen, es, hk, hm⟩ := hgood
        simp only [hk, hm, if_true]
        obtain ⟨hmn, hit⟩ := r.blk _ _ hk
        obtain ⟨ces, ho, hents, hes, hnd⟩ := rel_map r hm
        have hg1 := run_getObj (P := P) hit (by simp)
        have hg2 := run_getObj (P := P) ho (by simp)
        have hfil := filter_map_eq hents seen
        have hborn : ∀ ce ∈ ces.toList, ce.born < ck' := by
          intro ce hce
          obtain ⟨i, hi, rfl⟩ := List.mem_iff_getElem.1 hce
          have hl := hents.1
          have hi2 : i < es.length := by omega
          have := (hents.2 i es[i] _ (by simp [hi2]) (List.getElem?_eq_getElem hi)).2.2
          rw [this]; exact (hes _ (List.getElem_mem hi2)).2
        have hold : (ces.filter fun e => !seen.toArray.contains e.born).filter (fun e => decide (e.born < ck')) = ces.filter fun e => !seen.toArray.contains e.born := by
          apply Array.ext'
          rw [Array.toList_filter, Array.toList_filter]
          refine List.filter_eq_self.2 (fun e he => ?_)
          simpa using hborn e (List.mem_filter.1 he).1
        have hnew : (ces.filter fun e => !seen.toArray.contains e.born).filter (fun e => decide (e.born ≥ ck')) = #[] := by
          apply Array.ext'
          rw [Array.toList_filter, Array.toList_filter]
          refine List.filter_eq_nil_iff.2 (fun e he => ?_)
          have := hborn e (List.mem_filter.1 he).1
          simp; omega
        have hchk : (!seen.toArray.isEmpty && !ces.isEmpty && ces.all (fun x => decide (x.born ≥ ck'))) = false := by
          by_cases hce : ces.isEmpty = true
          · simp [hce]
          · have hpos : 0 < ces.size := by
              rcases Nat.eq_zero_or_pos ces.size with h | h
              · exact absurd (by simpa using h) hce
              · exact h
            have h0 := hborn ces[0] (by simp)
            have : ces.all (fun x => decide (x.born ≥ ck')) = false := by
              rw [Array.all_eq_false']
              exact ⟨ces[0], by simp, by simpa using h0⟩
            simp [this]
        generalize hleft : (ces.filter fun e => !seen.toArray.contains e.born) = left at hold hnew
        have hfil2 : Ents g σ w (es.filter fun e => !seen.contains e.born) left.toList := by
          rw [<- hleft, Array.toList_filter]; exact hfil
        cases hl : es.filter (fun e => !seen.contains e.born) with
        | nil =>
          rw [hl] at hfil2
          have hemp : left = #[] := by
            have := hfil2.1
            exact Array.toList_eq_nil_iff.1 (by simpa using this)
          refine ⟨fun v σ' h => ?_, fun l h => by simp at h⟩
          simp only [OR.v.injEq] at h
          obtain ⟨rfl, rfl⟩ := h
          refine Good.pure r ?_ (.tup [.bool false] #[.bool false] rfl fun i x c h1 h2 => ?_)
          · simp only [Instr.next, Sem.run_bind, hg1, Result.andThen_ok, hg2, hchk, Bool.false_eq_true, if_false, hleft, hold, hnew]
            simp [hemp, Question.forced]
          · match i with
            | 0 => simp at h1 h2; subst h1; subst h2; exact .bool _
            | i + 1 => simp at h1
        | cons e0 rest =>
          refine ⟨fun v σ' h => by simp at h, fun l h => ?_⟩
          simp only [OR.any.injEq] at h
          subst h
          rw [hl] at hfil2
          have hpos : 0 < left.size := by have := hfil2.1; simp at this; omega
          obtain ⟨k, w1, hk1, hch, hw1, ho1, hu1⟩ := run_pick (P := P) (w := w) hpos
          have hkl : k < (e0 :: rest).length := by have := hfil2.1; simp at this ⊢; omega
          have hce : left[k]? = some left[k] := by simp [hk1]
          have he := List.getElem?_eq_getElem hkl
          obtain ⟨v1, v2, v3⟩ := hfil2.2 k _ _ he (by rw [Array.getElem?_toList]; exact hce)
          refine ⟨_, List.mem_map.2 ⟨(e0 :: rest)[k], List.getElem_mem hkl, rfl⟩, ?_⟩
          have hset : ∀ o : Obj, (setObj (g.bl β) o).run P w1 = .ok () { w1 with heap := w1.heap.setIfInBounds (g.bl β) o } := by
            intro o; simp only [setObj, Sem.run, hw1, hit]
          have hb := r.bl_lt hk
          have rs := rel_set (P := P) r hk (by simp) (.iter m ck' (seen ++ [(e0 :: rest)[k].born])) (by simp) (w.heap.setIfInBounds (g.bl β) (.mapIter (some (g.bl m)) ck' (seen.toArray.push left[k].born) ck')) (by simp)
            (fun b hbb => by rw [Array.getElem?_setIfInBounds]; simp [Ne.symm hbb]) ⟨hmn, by rw [v3]; simp [hb]⟩ (fun c0 e0 z0 h0 => by rw [hit] at h0; cases h0)
          have hne : left.isEmpty = false := by simp; intro h; subst h; simp at hpos
          refine ⟨.tuple #[.bool true, left[k].key, left[k].val], { w1 with heap := w1.heap.setIfInBounds (g.bl β) (.mapIter (some (g.bl m)) ck' (seen.toArray.push left[k].born) ck') }, g, ?_, ?_, ?_, ?_⟩
          · simp only [Instr.next, Sem.run_bind, hg1, Result.andThen_ok, hg2, hchk, Bool.false_eq_true, if_false, hleft, hold, hnew, hne]
            have hcs : ((#[] : Array (Option MapEntry)) ++ (left ++ #[]).map some) = left.map some := by simp
            rw [hcs]
            simp only [Array.size_map, hch, Result.andThen_ok, Array.getElem?_map, hce, Option.map_some, Sem.run_bind, hset, Sem.run_pure]
          · show Rel P g _ (w1.heap.setIfInBounds _ _)
            rw [hw1]; exact rs.1
          · show VR g _ (IC g _ (w1.heap.setIfInBounds _ _)) _ _
            rw [hw1]
            refine .tup _ _ rfl fun i x c h1 h2 => ?_
            match i with
            | 0 => simp at h1 h2; subst h1; subst h2; exact .bool _
            | 1 => simp at h1 h2; subst h1; subst h2; exact v1.evo rs.2
            | 2 => simp at h1 h2; subst h1; subst h2; exact v2.evo rs.2
            | i + 3 => simp at h1
          · refine ⟨?_, ?_, ?_⟩
            · show Evo g σ w.heap g _ (w1.heap.setIfInBounds _ _)
              rw [hw1]; exact rs.2
            · exact ho1
            · exact hu1
      · constructor
        · intro v σ' h
          simp only at h
          split at h
          · rename_i m ck seen hk
            split at h
            · rename_i es ck' hm
              split at h
              · rename_i hc; subst hc; exact absurd ⟨_, _, _, _, hk, hm⟩ hgood
              · simp at h
            · simp at h
          · simp at h
        · intro l h
          simp only at h
          split at h
          · rename_i m ck seen hk
            split at h
            · rename_i es ck' hm
              split at h
              · rename_i hc; subst hc; exact absurd ⟨_, _, _, _, hk, hm⟩ hgood
              · simp at h
            · simp at h
          · simp at h
  all_goals
    constructor
    · intro v σ' h; simp at h
    · intro l h; simp at h
theorem snd_entry {a : Value} {v : AV} {σ' : St} {ρ : Env} {y : Opd} (r : Rel P g σ w.heap) (ha : VRs g σ w (y.ev ρ) a) (he : evalOp ρ σ (.entry y) = .v v σ') :
    Good P g σ w ((Instr.entry a).run P w) v σ' := by
  simp only [evalOp] at he
  generalize y.ev ρ = x at *
  cases ha <;> try (simp at he; done)
  rename_i β off hβ
  cases off with
  | succ n => simp at he
  | zero =>
    simp only at he
    split at he
    · rename_i m ck seen hk
      split at he
      · rename_i es ck' s hm hs
        split at he
        · rename_i hck
          subst hck
          split at he
          · rename_i e hf
            simp only [OR.v.injEq] at he
            obtain ⟨rfl, rfl⟩ := he
            obtain ⟨hmn, hit⟩ := r.blk _ _ hk
            obtain ⟨ces, ho, hents, hes, hnd⟩ := rel_map r hm
            have hg1 := run_getObj (P := P) hit (by simp)
            have hg2 := run_getObj (P := P) ho (by simp)
            have hback : seen.toArray.back? = some s := by rw [List.back?_toArray]; exact hs
            have hfind : ∀ (es : List MEnt) (ces : List MapEntry), Ents g σ w es ces -> es.find? (fun e => e.born == s) = some e -> ∃ ce, ces.find? (fun e => e.born == s) = some ce /\ VRs g σ w e.key ce.key /\ VRs g σ w e.val ce.val := by
              intro es
              induction es with
              | nil => intro ces _ h; simp at h
              | cons e1 es ih =>
                intro ces hen hfi
                cases ces with
                | nil => have := hen.1; simp at this
                | cons ce ces =>
                  obtain ⟨h1, h2, h3⟩ := hen.2 0 e1 ce rfl rfl
                  have h' : Ents g σ w es ces := ⟨by have := hen.1; simpa using this, fun k e' ce' a b => hen.2 (k + 1) e' ce' (by simpa using a) (by simpa using b)⟩
                  by_cases hb : e1.born = s
                  · rw [List.find?_cons_of_pos (by simpa using hb)] at hfi
                    simp at hfi; subst hfi
                    exact ⟨ce, by rw [List.find?_cons_of_pos (by simpa [h3] using hb)], h1, h2⟩
                  · rw [List.find?_cons_of_neg (by simpa using hb)] at hfi
                    obtain ⟨ce', c1, c2⟩ := ih ces h' hfi
                    exact ⟨ce', by rw [List.find?_cons_of_neg (by simpa [h3] using hb)]; exact c1, c2⟩
            obtain ⟨ce, c1, c2, c3⟩ := hfind es ces.toList hents hf
            have hfa : ces.find? (fun e => e.born == s) = some ce := by rw [<- Array.find?_toList]; exact c1
            refine Good.pure r (cv := .tuple #[ce.key, ce.val]) ?_ (.tup _ _ rfl fun i x c h1 h2 => ?_)
            · simp only [Instr.entry, Sem.run_bind, hg1, Result.andThen_ok, hback, hg2, bne_self_eq_false, Bool.false_eq_true, if_false, hfa, Sem.run_pure]
            · match i with
              | 0 => simp at h1 h2; subst h1; subst h2; exact c2
              | 1 => simp at h1 h2; subst h1; subst h2; exact c3
              | i + 2 => simp at h1
          · simp at he
        · simp at he
      · simp at he
    · simp at he
end Go.Proofs.YtekhblefchceaaaGreat.AM

