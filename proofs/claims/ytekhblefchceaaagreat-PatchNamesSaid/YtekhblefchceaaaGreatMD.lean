/- Joined: M20, M21, M22, M23, M24, M30, M27, M31, M25, M28. -/
import Derived.Test.YtekhblefchceaaaGreatMC
set_option linter.unusedVariables false
set_option linter.unusedSimpArgs false
/- What may be known of a value instead: its tokens forgotten; a block of memory that nobody will write again, as a list. -/
namespace Go.Proofs.YtekhblefchceaaaGreat.AM
open Go
variable {P : Program} {σ : St}

/-- A value, its leaves turned. -/
def AV.leaf : AV → Bool
  | .ip _ | .vs _ _ | .fn _ _ | .agg _ | .tup _ => false
  | _ => true
mutual
def AV.mp (tk : Tok → Tok) (f : AV → AV) : AV → AV
  | .ip l => .ip (mpL tk f l)
  | .vs l t => .vs (mpL tk f l) (tk t)
  | .fn n l => .fn n (mpL tk f l)
  | .agg l => .agg (mpL tk f l)
  | .tup l => .tup (mpL tk f l)
  | .undef => f .undef
  | .bool b => f (.bool b)
  | .int k n => f (.int k n)
  | .str s => f (.str s)
  | .nilp => f .nilp
  | .ptr β off => f (.ptr β off)
  | .bs s t => f (.bs s t)
  | .hs β off len cap => f (.hs β off len cap)
  | .nilmap => f .nilmap
  | .map β => f (.map β)
  | .nilfn => f .nilfn
  | .yld β => f (.yld β)
  | .nilif => f .nilif
def mpL (tk : Tok → Tok) (f : AV → AV) : List AV → List AV
  | [] => []
  | x :: l => x.mp tk f :: mpL tk f l
end
theorem mpL_eq (tk : Tok → Tok) (f : AV → AV) : ∀ l, mpL tk f l = l.map (AV.mp tk f)
  | [] => by simp [mpL]
  | x :: l => by simp [mpL, mpL_eq tk f l]
theorem mp_leaf (tk : Tok → Tok) (f : AV → AV) {x : AV} (h : x.leaf = true) : x.mp tk f = f x := by cases x <;> first | rfl | (simp [AV.leaf] at h; done) | simp [AV.mp]

theorem mp_cells (tk : Tok → Tok) (f : AV → AV) (hf : ∀ x, x.leaf = true → (f x).cells = [f x]) (x : AV) : (x.mp tk f).cells = x.cells.map (AV.mp tk f) := by
  cases x with
  | agg l => simp [AV.mp, AV.cells, mpL_eq]
  | ip l => simp [AV.mp, AV.cells]
  | vs l t => simp [AV.mp, AV.cells]
  | fn n l => simp [AV.mp, AV.cells]
  | tup l => simp [AV.mp, AV.cells]
  | _ =>
    rw [mp_leaf tk f rfl, hf _ rfl]
    simp only [AV.cells, List.map_cons, List.map_nil]
    rw [mp_leaf tk f rfl]

theorem VR.mp {g : Gh} {n : Nat} {ic ic' : Nat → Nat → Value → Prop} (tk : Tok → Tok) (htk : ∀ t, tk t = t ∨ tk t = .no) (f : AV → AV) (hf : ∀ x, x.leaf = true → (f x).cells = [f x])
    (hi : ∀ b i v, ic b i v → ic' b i v) (hv : ∀ x c, x.leaf = true → VR g n ic x c → VR g n ic' (f x) c) {x : AV} {c : Value} (h : VR g n ic x c) : VR g n ic' (x.mp tk f) c := by
  induction h with
  | ip l b off cs h1 h2 ih =>
    simp only [AV.mp, mpL_eq]
    refine .ip _ b off cs (fun i hl => hi _ _ _ (h1 i (by simpa using hl))) (fun i x hx => ?_)
    rw [List.getElem?_map, Option.map_eq_some_iff] at hx
    obtain ⟨y, hy, rfl⟩ := hx
    exact ih i y hy
  | vsn t => simp only [AV.mp, mpL]; exact .vsn _
  | vs l t b off cap sz cs hsz hcap h1 h2 ht ih =>
    simp only [AV.mp, mpL_eq]
    have := VR.vs (g := g) (n := n) (ic := ic') (l.map (AV.mp tk f)) (tk t) b off cap sz cs (fun e he => by
        obtain ⟨y, hy, rfl⟩ := List.mem_map.1 he
        rw [mp_cells tk f hf]; simpa using hsz y hy) (by simpa using hcap) (fun i j hl hj => hi _ _ _ (h1 i j (by simpa using hl) hj)) (fun i j e x he hx => by
        rw [List.getElem?_map, Option.map_eq_some_iff] at he
        obtain ⟨y, hy, rfl⟩ := he
        rw [mp_cells tk f hf, List.getElem?_map, Option.map_eq_some_iff] at hx
        obtain ⟨z, hz, rfl⟩ := hx
        exact ih i j y z hy hz) (by
        rw [List.length_map]
        rcases htk t with e | e
        · rw [e]; exact ht
        · rw [e]; trivial)
    rwa [List.length_map] at this
  | fn m l cs hl h2 ih =>
    simp only [AV.mp, mpL_eq]
    refine .fn m _ cs (by simpa using hl) (fun i x c hx hc => ?_)
    rw [List.getElem?_map, Option.map_eq_some_iff] at hx
    obtain ⟨y, hy, rfl⟩ := hx
    exact ih i y c hy hc
  | agg l cs hl h2 ih =>
    simp only [AV.mp, mpL_eq]
    refine .agg _ cs (by simpa using hl) (fun i x c hx hc => ?_)
    rw [List.getElem?_map, Option.map_eq_some_iff] at hx
    obtain ⟨y, hy, rfl⟩ := hx
    exact ih i y c hy hc
  | tup l cs hl h2 ih =>
    simp only [AV.mp, mpL_eq]
    refine .tup _ cs (by simpa using hl) (fun i x c hx hc => ?_)
    rw [List.getElem?_map, Option.map_eq_some_iff] at hx
    obtain ⟨y, hy, rfl⟩ := hx
    exact ih i y c hy hc
  | undef v => rw [mp_leaf tk f rfl]; exact hv _ _ rfl (.undef v)
  | bool b => rw [mp_leaf tk f rfl]; exact hv _ _ rfl (.bool b)
  | int k i => rw [mp_leaf tk f rfl]; exact hv _ _ rfl (.int k i)
  | str s => rw [mp_leaf tk f rfl]; exact hv _ _ rfl (.str s)
  | nilp => rw [mp_leaf tk f rfl]; exact hv _ _ rfl .nilp
  | ptr β off h => rw [mp_leaf tk f rfl]; exact hv _ _ rfl (.ptr β off h)
  | bs s t b off cap hcap h1 ht => rw [mp_leaf tk f rfl]; exact hv _ _ rfl (.bs s t b off cap hcap h1 ht)
  | hs β off len cap h => rw [mp_leaf tk f rfl]; exact hv _ _ rfl (.hs β off len cap h)
  | nilmap => rw [mp_leaf tk f rfl]; exact hv _ _ rfl .nilmap
  | map β h => rw [mp_leaf tk f rfl]; exact hv _ _ rfl (.map β h)
  | nilfn => rw [mp_leaf tk f rfl]; exact hv _ _ rfl .nilfn
  | yld β h => rw [mp_leaf tk f rfl]; exact hv _ _ rfl (.yld β h)
  | nilif => rw [mp_leaf tk f rfl]; exact hv _ _ rfl .nilif

/-! ### Forgetting tokens -/
def erLeaf : AV → AV
  | .bs s _ => .bs s .no
  | v => v
def AV.er (x : AV) : AV := x.mp (fun _ => .no) erLeaf
theorem VR.er {g : Gh} {n : Nat} {ic : Nat → Nat → Value → Prop} {x : AV} {c : Value} (h : VR g n ic x c) : VR g n ic x.er c := by
  refine VR.mp _ (fun _ => .inr rfl) erLeaf (fun x hx => ?_) (fun _ _ _ h => h) (fun x c hx h => ?_) h
  · cases x <;> first | rfl | (simp [AV.leaf] at hx; done)
  · cases h <;> first | (simp only [erLeaf]; constructor; done) | (simp [AV.leaf] at hx; done) | skip
    · rename_i β off h; exact .ptr β off h
    · rename_i s t b off cap hcap h1 ht; exact .bs s .no b off cap hcap h1 trivial
    · rename_i β off len cap h; exact .hs β off len cap h
    · rename_i β h; exact .map β h
    · rename_i β h; exact .yld β h

/-! ### A block as a list -/
/-- What a slice of the block β, whose cells are c, is as a list. -/
def frLeaf (β : Nat) (ag : Bool) (sz : Nat) (c : List AV) : AV → AV
  | .hs γ off len cap => if γ = β ∧ off + len * sz ≤ c.length ∧ len ≤ cap then .vs (elemsOf ag sz len (c.drop off)) .no else .hs γ off len cap
  | v => v
def AV.fr (β : Nat) (ag : Bool) (sz : Nat) (c : List AV) (x : AV) : AV := x.mp id (frLeaf β ag sz c)

theorem elems_length (ag : Bool) (sz : Nat) : ∀ (n : Nat) (c : List AV), (elemsOf ag sz n c).length = n
  | 0, _ => rfl
  | n + 1, c => by simp [elemsOf, elems_length ag sz n]
theorem elems_get (ag : Bool) (sz : Nat) : ∀ (n : Nat) (c : List AV) (i : Nat), i < n → (elemsOf ag sz n c)[i]? = some (if ag then .agg ((c.drop (i * sz)).take sz) else (c.drop (i * sz)).headD .undef)
  | 0, _, _, h => by omega
  | n + 1, c, 0, _ => by simp [elemsOf]
  | n + 1, c, i + 1, h => by
    simp only [elemsOf, List.getElem?_cons_succ]
    rw [elems_get ag sz n _ i (by omega)]
    simp only [List.drop_drop]
    have : sz + i * sz = (i + 1) * sz := by rw [Nat.succ_mul]; omega
    rw [this]

theorem sc_cells {x : AV} (h : x.sc = true) : x.cells = [x] := by cases x <;> first | rfl | (simp [AV.sc] at h; done)

theorem elem_cells {ag : Bool} {sz : Nat} {c : List AV} (hc : allSc c = true) (hag : ag = true ∨ sz = 1) {n i : Nat} {e : AV} (hn : n * sz ≤ c.length) (he : (elemsOf ag sz n c)[i]? = some e) :
    e.cells.length = sz ∧ ∀ (j : Nat) (x : AV), e.cells[j]? = some x → c[i * sz + j]? = some x := by
  have hi : i < n := by
    have := (List.getElem?_eq_some_iff.1 he).1
    rwa [elems_length] at this
  have hb : i * sz + sz ≤ c.length := by
    have : (i + 1) * sz ≤ n * sz := Nat.mul_le_mul_right sz hi
    rw [Nat.succ_mul] at this; omega
  rw [elems_get ag sz n c i hi] at he
  simp only [Option.some.injEq] at he
  cases ag with
  | true =>
    simp only [if_true] at he
    subst he
    refine ⟨by simp [AV.cells]; omega, fun j x hx => ?_⟩
    simp only [AV.cells] at hx
    rw [List.getElem?_take] at hx
    split at hx
    · rw [List.getElem?_drop] at hx; exact hx
    · simp at hx
  | false =>
    have hsz : sz = 1 := by rcases hag with h | h <;> simp_all
    subst hsz
    simp only [Bool.false_eq_true, if_false] at he
    have hlt : i < c.length := by omega
    have hd : c.drop (i * 1) = c[i] :: c.drop (i + 1) := by rw [Nat.mul_one, List.drop_eq_getElem_cons hlt]
    rw [hd] at he
    simp only [List.headD_cons] at he
    subst he
    have hsc : c[i].sc = true := List.all_eq_true.1 hc _ (List.getElem_mem hlt)
    rw [sc_cells hsc]
    refine ⟨rfl, fun j x hx => ?_⟩
    cases j with
    | zero => simp at hx; subst hx; simp [hlt]
    | succ j => simp at hx

theorem VR.frz {g : Gh} {w : World} {β : Nat} {c : List AV} {ag : Bool} {sz : Nat} (r : Rel P g σ w.heap) (hk : lk σ.H β = some (.arr c)) (hc : allSc c = true) (hag : ag = true ∨ sz = 1)
    {x : AV} {cv : Value} (h : VR g σ.n (IC g σ.H w.heap) x cv) : VR g σ.n (IC g (del σ.H β) w.heap) (x.fr β ag sz c) cv := by
  have sub : ∀ γ b, lk (del σ.H β) γ = some b → γ ≠ β ∧ lk σ.H γ = some b := fun γ b h => by
    rw [lk_del] at h
    split at h
    · simp at h
    · rename_i e; exact ⟨e, h⟩
  have hi : ∀ b i v, IC g σ.H w.heap b i v → IC g (del σ.H β) w.heap b i v := fun b i v ⟨h1, h2⟩ => ⟨h1, fun ⟨γ, k, hγ, hr⟩ => h2 ⟨γ, k, (sub γ k hγ).2, hr⟩⟩
  refine VR.mp id (fun _ => .inl rfl) _ (fun x hx => ?_) hi (fun x cv hx h => ?_) h
  · cases x <;> first | rfl | (simp [AV.leaf] at hx; done) | skip
    simp only [frLeaf]
    split <;> rfl
  · have hm := h.mono (Nat.le_refl _) (g.le_refl _) hi
    cases h <;> first | (exact hm) | skip
    rename_i γ off len cap hγ
    simp only [frLeaf]
    split
    · rename_i hcond
      obtain ⟨rfl, hb, hcap⟩ := hcond
      obtain ⟨cs, e, ho, hsz, hv⟩ := rel_arr r hk
      have hln : (elemsOf ag sz len (c.drop off)).length = len := elems_length _ _ _ _
      have hcd : allSc (c.drop off) = true := List.all_eq_true.2 fun y hy => List.all_eq_true.1 hc y (List.mem_of_mem_drop hy)
      have hbd : len * sz ≤ (c.drop off).length := by simp; omega
      have := VR.vs (g := g) (n := σ.n) (ic := IC g (del σ.H γ) w.heap) (elemsOf ag sz len (c.drop off)) .no (g.bl γ) off cap sz (fun i j => cs.getD (off + i * sz + j) Go.undef) (fun e he => by
          obtain ⟨i, hi1⟩ := List.getElem?_of_mem he
          exact (elem_cells hcd hag hbd hi1).1) (by rw [hln]; exact hcap) (fun i j hl hj => by
          rw [hln] at hl
          have hlt : off + i * sz + j < cs.size := by
            have : (i + 1) * sz ≤ len * sz := Nat.mul_le_mul_right sz hl
            rw [Nat.succ_mul] at this; omega
          refine ⟨by rw [hc_of ho]; simp [hlt], ?_⟩
          rintro ⟨δ, k, hδ, hbl, _⟩
          obtain ⟨h1, h2⟩ := sub δ k hδ
          exact h1 (r.inj _ _ _ _ h2 hk hbl)) (fun i j e x he hx => by
          have hil : i < len := by
            have := (List.getElem?_eq_some_iff.1 he).1
            rwa [hln] at this
          obtain ⟨_, h2⟩ := elem_cells hcd hag hbd he
          have hx2 := h2 j x hx
          rw [List.getElem?_drop] at hx2
          have hidx : off + (i * sz + j) = off + i * sz + j := by omega
          rw [hidx] at hx2
          have hlt : off + i * sz + j < cs.size := by rw [hsz]; exact (List.getElem?_eq_some_iff.1 hx2).1
          have hcs : cs[off + i * sz + j]? = some (cs.getD (off + i * sz + j) Go.undef) := by simp [hlt]
          exact (hv _ x _ hx2 hcs).mono (Nat.le_refl _) (g.le_refl _) hi) trivial
      rwa [hln] at this
    · exact hm

/-! ### The rules -/
/-- What may be known instead of a value and a state. -/
def VW (P : Program) (v : AV) (σ : St) (v' : AV) (σ' : St) : Prop :=
  ∀ (g : Gh) (w : World) (cv : Value), Rel P g σ w.heap → VRs g σ w v cv → ∃ g', Rel P g' σ' w.heap ∧ VRs g' σ' w v' cv ∧ Evo g σ w.heap g' σ' w.heap
theorem VW.refl (v : AV) (σ : St) : VW P v σ v σ := fun g _ _ r h => ⟨g, r, h, Evo.refl _ _ _⟩
theorem VW.trans {v v' v'' : AV} {σ σ' σ'' : St} (h : VW P v σ v' σ') (h' : VW P v' σ' v'' σ'') : VW P v σ v'' σ'' := fun g w cv r hv =>
  let ⟨g', r', hv', e'⟩ := h g w cv r hv
  let ⟨g'', r'', hv'', e''⟩ := h' g' w cv r' hv'
  ⟨g'', r'', hv'', e'.trans e''⟩
theorem VW.er (v : AV) (σ : St) : VW P v σ v.er σ := fun g _ _ r h => ⟨g, r, VR.er h, Evo.refl _ _ _⟩
theorem VW.frz {v : AV} {σ : St} {β : Nat} {c : List AV} (ag : Bool) (sz : Nat) (hk : lk σ.H β = some (.arr c)) (hc : allSc c = true) (hag : ag = true ∨ sz = 1) : VW P v σ (v.fr β ag sz c) (σ.del β) := fun g w cv r h =>
  ⟨g, (rel_drop (del σ.H β) σ.n (Nat.le_refl _) r (fun γ b h => by rw [lk_del] at h; split at h <;> first | (simp at h; done) | exact h)).1, VR.frz r hk hc hag h,
    (rel_drop (del σ.H β) σ.n (Nat.le_refl _) r (fun γ b h => by rw [lk_del] at h; split at h <;> first | (simp at h; done) | exact h)).2⟩

theorem ACalls.weak {f : Nat} {args : List AV} {K K' : AV → St → Prop} (h : ACalls P f args σ K) (hk : ∀ v σ', K v σ' → ∃ v' σ'', VW P v σ' v' σ'' ∧ K' v' σ'') : ACalls P f args σ K' :=
  ⟨h.1, let ⟨v, σ', hv⟩ := h.2.1; let ⟨v', σ'', _, h'⟩ := hk v σ' hv; ⟨v', σ'', h'⟩, fun g w cargs r hl => (h.2.2 g w cargs r hl).mono fun e w' hp => by
    cases e with
    | returned cv =>
      obtain ⟨v, σ', g', h1, h2, h3, h4⟩ := hp
      obtain ⟨v', σ'', hw, hk'⟩ := hk v σ' h1
      obtain ⟨g'', r'', hv'', e''⟩ := hw g' w' cv h2 h3
      exact ⟨v', σ'', g'', hk', r'', hv'', h4.trans ⟨e'', rfl, rfl⟩⟩
    | panicked _ => exact hp.elim
    | outgrown => exact hp.elim⟩
/-- What the caller knows of the arguments may be forgotten. -/
theorem ACalls.args {f : Nat} {args : List AV} {K : AV → St → Prop} (h : ACalls P f (args.map AV.er) σ K) : ACalls P f args σ K :=
  ⟨h.1, h.2.1, fun g w cargs r hl => h.2.2 g w cargs r ⟨by simpa using hl.1, fun i x c hx hc => by
    rw [List.getElem?_map, Option.map_eq_some_iff] at hx
    obtain ⟨y, hy, rfl⟩ := hx
    exact VR.er (hl.2 i y c hy hc)⟩⟩

theorem Ext.del {σ σ' : St} (h : Ext σ σ') {β : Nat} (hβ : σ.n ≤ β) : Ext σ (σ'.del β) :=
  ⟨h.1, fun γ hγ => by simp only [St.del]; rw [lk_del, if_neg (by omega)]; exact h.2 γ hγ⟩

/-! ### Loops of few rounds -/
def LoopN (P : Program) (ro : Option Nat) (nt : Nat) (x : ACode) (Q : Ex → Env → St → Prop) : Nat → Env → St → Prop
  | 0, _, _ => False
  | n + 1, ρ, σ => AW P ro nt x (thn (LoopN P ro nt x Q n) Q) ρ σ
theorem AW.unroll {ro : Option Nat} {nt : Nat} {x : ACode} {Q : Ex → Env → St → Prop} {ρ : Env} (n : Nat) (h : LoopN P ro nt x Q n ρ σ) : AW P ro nt (.loop x) Q ρ σ := by
  refine AW.loop (LoopN P ro nt x Q) n h fun k ρ σ hk => ?_
  cases k with
  | zero => exact hk.elim
  | succ k =>
    refine AW.mono hk fun y ρ σ hy => ?_
    cases y with
    | nrm => exact ⟨k, Nat.lt_succ_self _, hy⟩
    | ext i => exact hy
    | ret => exact hy

theorem zlt (n : Nat) [h : NeZero n] : (0 < n) = True := by simp [Nat.pos_of_neZero]

theorem wl0 : wr .i64 0 = 0 := wr_i (by decide)
theorem wl1 : wr .i64 1 = 1 := wr_i (by decide)
theorem wl2 : wr .i64 2 = 2 := wr_i (by decide)
theorem wl3 : wr .i64 3 = 3 := wr_i (by decide)
theorem wl4 : wr .i64 4 = 4 := wr_i (by decide)
theorem wl5 : wr .i64 5 = 5 := wr_i (by decide)
theorem wl6 : wr .i64 6 = 6 := wr_i (by decide)
theorem wl7 : wr .i64 7 = 7 := wr_i (by decide)
theorem wl8 : wr .i64 8 = 8 := wr_i (by decide)
theorem wl9 : wr .i64 9 = 9 := wr_i (by decide)
theorem wl10 : wr .i64 10 = 10 := wr_i (by decide)
theorem wl11 : wr .i64 11 = 11 := wr_i (by decide)
theorem wl12 : wr .i64 12 = 12 := wr_i (by decide)
theorem wl13 : wr .i64 13 = 13 := wr_i (by decide)
theorem wl14 : wr .i64 14 = 14 := wr_i (by decide)
theorem wl15 : wr .i64 15 = 15 := wr_i (by decide)
theorem wl16 : wr .i64 16 = 16 := wr_i (by decide)

end Go.Proofs.YtekhblefchceaaaGreat.AM

/- Appending to a slice of one's own. -/
namespace Go.Proofs.YtekhblefchceaaaGreat.AM
open Go
variable {σ : St}

/-- The slice may be appended to; its token was made at or behind n. -/
def TokOk (n : Nat) (σ : St) : Tok → Prop
  | .no => False
  | .ex => True
  | .id τ => n ≤ τ ∧ τ < σ.n ∧ lk σ.H τ = some .tok
def St.rt (σ : St) : Tok → St
  | .id τ => ({ σ with H := AM.del σ.H τ } : St).new .tok
  | _ => σ.new .tok
theorem retok_rt {n : Nat} {t : Tok} (h : TokOk n σ t) : σ.retok t = some (σ.rt t) := by
  cases t with
  | no => exact h.elim
  | ex => rfl
  | id τ => obtain ⟨_, _, h⟩ := h; simp only [St.retok, h, St.rt]
theorem rt_n (t : Tok) : (σ.rt t).n = σ.n + 1 := by cases t <;> rfl
theorem rt_tok {n : Nat} (t : Tok) (hn : n ≤ σ.n) : TokOk n (σ.rt t) (.id σ.n) := by
  refine ⟨hn, by rw [rt_n]; omega, ?_⟩
  cases t <;> simp [St.rt, St.new, lk]
theorem rt_lk {n : Nat} {t : Tok} (h : TokOk n σ t) {β : Nat} {b : Blk} (hb : lk σ.H β = some b) (ht : b ≠ .tok) (hβ : β < σ.n) : lk (σ.rt t).H β = some b := by
  cases t with
  | no => exact h.elim
  | ex => simp only [St.rt, lk_new]; rw [if_neg (by omega)]; exact hb
  | id τ =>
    obtain ⟨_, _, h⟩ := h
    simp only [St.rt, lk_new]
    rw [if_neg (by show ¬ σ.n = β; omega), lk_del, if_neg (fun e => by subst e; rw [h] at hb; cases hb; exact ht rfl)]
    exact hb
theorem rt_ext {σ0 : St} {t : Tok} (h : TokOk σ0.n σ t) (hE : Ext σ0 σ) : Ext σ0 (σ.rt t) := by
  cases t with
  | no => exact h.elim
  | ex => exact hE.newer _
  | id τ =>
    obtain ⟨h1, h2, h3⟩ := h
    exact (Ext.del hE h1).newer _
theorem tokok_mono {n : Nat} {σ σ' : St} {t : Tok} (h : TokOk n σ t) (hn : σ.n ≤ σ'.n) (hl : ∀ τ, t = .id τ → lk σ'.H τ = some .tok) : TokOk n σ' t := by
  cases t with
  | no => exact h.elim
  | ex => trivial
  | id τ => exact ⟨h.1, Nat.lt_of_lt_of_le h.2.1 hn, hl τ rfl⟩

/-- One element more. -/
theorem app_one {ρ : Env} {ag : Bool} {sz bytes : Nat} {s x : Opd} {l : List AV} {e : AV} {t t' : Tok} {n : Nat} (hs : s.ev ρ = .vs l t) (hx : x.ev ρ = .vs [e] t') (hf : fitSz sz l = true) (he : fitSz sz [e] = true)
    (hb : (l.length + 1) * (bytes + 1) ≤ maxBytes) (ht : TokOk n σ t) : evalOp ρ σ (.app ag sz bytes s x) = .v (.vs (l ++ [e]) (.id σ.n)) (σ.rt t) := by
  simp only [evalOp, hs, hx, readAll, he, if_true, hf, retok_rt ht, List.length_cons, List.length_nil, Nat.zero_add, hb, decide_true, Bool.and_self]
  simp

/-- An append, by the values. -/
def appA (ag : Bool) (sz bytes : Nat) (s x : AV) (σ : St) : OR := evalOp (fun _ => .undef) σ (.app ag sz bytes (.c s) (.c x))
theorem eval_app (ρ : Env) (σ : St) (ag : Bool) (sz bytes : Nat) (s x : Opd) : evalOp ρ σ (.app ag sz bytes s x) = appA ag sz bytes (s.ev ρ) (x.ev ρ) σ := rfl
theorem appA_one {ag : Bool} {sz bytes : Nat} {l : List AV} {e : AV} {t t' : Tok} {n : Nat} (hf : fitSz sz l = true) (he : fitSz sz [e] = true)
    (hb : (l.length + 1) * (bytes + 1) ≤ maxBytes) (ht : TokOk n σ t) : appA ag sz bytes (.vs l t) (.vs [e] t') σ = .v (.vs (l ++ [e]) (.id σ.n)) (σ.rt t) := app_one rfl rfl hf he hb ht

theorem appA_many {ag : Bool} {sz bytes : Nat} {l new : List AV} {t t' : Tok} {n : Nat} (h0 : new ≠ []) (hf : fitSz sz l = true) (he : fitSz sz new = true)
    (hb : (l.length + new.length) * (bytes + 1) ≤ maxBytes) (ht : TokOk n σ t) : appA ag sz bytes (.vs l t) (.vs new t') σ = .v (.vs (l ++ new) (.id σ.n)) (σ.rt t) := by
  simp only [appA, evalOp, Opd.ev, readAll, he, if_true, hf, retok_rt ht, hb, decide_true, Bool.and_self, if_neg h0]
theorem appA_nil {ag : Bool} {sz bytes : Nat} {l : List AV} {t t' : Tok} : appA ag sz bytes (.vs l t) (.vs [] t') σ = .v (.vs l t) σ := by
  simp [appA, evalOp, Opd.ev, readAll, fitSz]

end Go.Proofs.YtekhblefchceaaaGreat.AM

/- Regions whose order of evaluation is drawn: operations that act one after another, and others that only read what none of these changes. -/
set_option linter.unusedVariables false
namespace Go.Proofs.YtekhblefchceaaaGreat.AM
open Go
variable {P : Program} {σ : St}

/-- These blocks lie so. -/
def SB (l : List (Nat × Blk)) (σ : St) : Prop := ∀ β b, lk l β = some b → lk σ.H β = some b
theorem SB.nil (σ : St) : SB [] σ := fun β b h => by simp [lk] at h
theorem SB.cons {l : List (Nat × Blk)} {β : Nat} {b : Blk} (h : lk σ.H β = some b) (hl : SB l σ) : SB ((β, b) :: l) σ := fun γ c hc => by
  simp only [lk] at hc
  split at hc
  · rename_i e; subst e; simp only [Option.some.injEq] at hc; subst hc; exact h
  · exact hl γ c hc
theorem contains_cons (i : Nat) (dn : List Nat) : (fun x => (i :: dn).contains x) = (fun x => x == i || dn.contains x) := by
  funext x
  rw [List.contains_cons]
def psv (o : AOp) : Bool := pureOp o || readOp o

theorem psv_small {o : AOp} (hp : psv o = true) {l : List (Nat × Blk)} (ρ : Env) : evalOp ρ ⟨l, 0⟩ o = .bad ∨ ∃ v, evalOp ρ ⟨l, 0⟩ o = .v v ⟨l, 0⟩ ∧ ∀ σ, SB l σ → evalOp ρ σ o = .v v σ := by
  by_cases h1 : pureOp o = true
  · rcases (pure_at h1 ρ ⟨l, 0⟩ ⟨l, 0⟩).2 with e | ⟨v, e⟩
    · exact .inl e
    · exact .inr ⟨v, e, fun σ _ => by rw [(pure_at h1 ρ ⟨l, 0⟩ σ).1, e]; rfl⟩
  · have h2 : readOp o = true := by simp only [psv, Bool.or_eq_true] at hp; exact hp.resolve_left h1
    cases o <;> first | (simp [readOp] at h2; done) | skip
    case load ag sz a =>
      simp only [evalOp]
      split
      · rename_i β off _
        cases hk : lk l β with
        | none => exact .inl rfl
        | some b =>
          cases b with
          | arr c =>
            simp only
            cases ag with
            | true =>
              simp only [if_true]
              split
              · rename_i hle
                exact .inr ⟨_, rfl, fun σ hs => by rw [hs _ _ hk]; simp only [if_pos hle]⟩
              · exact .inl rfl
            | false =>
              simp only [Bool.false_eq_true, if_false]
              cases hc : c[off]? with
              | none => exact .inl rfl
              | some v => exact .inr ⟨_, rfl, fun σ hs => by rw [hs _ _ hk]; simp only [hc]⟩
          | _ => exact .inl rfl
      · cases ag with
        | true =>
          simp only [if_true]
          split
          · exact .inr ⟨_, rfl, fun _ _ => rfl⟩
          · exact .inl rfl
        | false =>
          simp only [Bool.false_eq_true, if_false]
          split
          · exact .inr ⟨_, rfl, fun _ _ => rfl⟩
          · exact .inl rfl
      · exact .inl rfl
    case lookup ck z x i ok =>
      simp only [evalOp]
      split
      · split
        · exact .inr ⟨_, rfl, fun _ _ => rfl⟩
        · rename_i β _
          cases hk : lk l β with
          | none => exact .inl rfl
          | some b =>
            cases b with
            | map es c =>
              simp only
              cases hf : findKeyA ck (i.ev ρ) es 0 with
              | none => exact .inl rfl
              | some r =>
                cases r with
                | none => exact .inr ⟨_, rfl, fun σ hs => by rw [hs _ _ hk]; simp only [hf]⟩
                | some p => exact .inr ⟨_, rfl, fun σ hs => by rw [hs _ _ hk]; simp only [hf]⟩
            | _ => exact .inl rfl
        · exact .inl rfl
      · exact .inl rfl
    case len k x =>
      simp only [evalOp]
      split
      · exact .inr ⟨_, rfl, fun _ _ => rfl⟩
      · exact .inr ⟨_, rfl, fun _ _ => rfl⟩
      · exact .inr ⟨_, rfl, fun _ _ => rfl⟩
      · exact .inr ⟨_, rfl, fun _ _ => rfl⟩
      · exact .inr ⟨_, rfl, fun _ _ => rfl⟩
      · rename_i β _
        cases hk : lk l β with
        | none => exact .inl rfl
        | some b =>
          cases b with
          | map es c => exact .inr ⟨_, rfl, fun σ hs => by rw [hs _ _ hk]⟩
          | _ => exact .inl rfl
      · exact .inl rfl

theorem psv_out {i : AInstr} (hp : psv i.op = true) {l : List (Nat × Blk)} (ρ : Env) : out i ρ ⟨l, 0⟩ = .bad ∨ ∃ v, out i ρ ⟨l, 0⟩ = .v v ⟨l, 0⟩ ∧ ∀ σ, SB l σ → out i ρ σ = .v v σ := by
  unfold out
  cases wanted ρ i.guard with
  | none => exact .inl rfl
  | some b =>
    cases b with
    | false => exact .inr ⟨_, rfl, fun _ _ => rfl⟩
    | true => exact psv_small hp ρ

theorem psv_out' {i : AInstr} (hp : psv i.op = true) {l : List (Nat × Blk)} (ρ : Env) : out i ρ ⟨l, 0⟩ = .bad ∨ ∃ v, out i ρ ⟨l, 0⟩ = .v v ⟨l, 0⟩ ∧ ∀ σ, (readOp i.op = true → SB l σ) → out i ρ σ = .v v σ := by
  by_cases h : readOp i.op = true
  · rcases psv_out hp (l := l) ρ with e | ⟨v, e, hv⟩
    · exact .inl e
    · exact .inr ⟨v, e, fun σ hs => hv σ (hs h)⟩
  · have h1 : pureOp i.op = true := by simp only [psv, Bool.or_eq_true] at hp; exact hp.resolve_right h
    rcases out_pure h1 ρ with e | ⟨v, e⟩
    · exact .inl (e _)
    · exact .inr ⟨v, e _, fun σ _ => e σ⟩

def isCall : AOp → Bool
  | .call _ _ => true
  | _ => false
/-- The order in which a region is looked at: one that only reads; a call that leaves any state as it is; one that acts; one that acts when all reading is over; two that act, in either order. -/
inductive QT where
  | nil
  | p (i : Nat) (t : QT)
  | q (i : Nat) (t : QT)
  | a (i : Nat) (t : QT)
  | z (i : Nat) (t : QT)
  | b (i : Nat) (t : QT) (j : Nat) (u : QT)
  | c (i : Nat) (t : QT) (j : Nat) (u : QT) (k : Nat) (w : QT)
def QT.depth : QT → Nat
  | .nil => 0
  | .p _ t => t.depth + 1
  | .q _ t => t.depth + 1
  | .a _ t => t.depth + 1
  | .z _ t => t.depth + 1
  | .b _ t _ u => max t.depth u.depth + 1
  | .c _ t _ u _ w => max (max t.depth u.depth) w.depth + 1
/-- Reading is not over. -/
def needS (z : Option Nat) (dn : Nat → Bool) : Bool := match z with | some c => !dn c | none => true
def okQ (is : List AInstr) (deps : List (List Nat)) (an : List Nat) (z : Option Nat) : QT → List Nat → Bool
  | .nil, dn => (readyA deps (dn.contains ·)).isEmpty
  | .p i t, dn => (readyA deps (dn.contains ·)).contains i && psv (is.getD i default).op &&
      (match z with | some c => !(c == i) && (!readOp (is.getD i default).op || (an.getD c 0).testBit i) | none => true) &&
      ((List.range deps.length).all fun j => dn.contains j || j == i || (an.getD j 0).testBit i || disj (is.getD i default) (is.getD j default)) && okQ is deps an z t (i :: dn)
  | .q i t, dn => (readyA deps (dn.contains ·)).contains i && isCall (is.getD i default).op && (match z with | some c => !(c == i) | none => true) &&
      ((List.range deps.length).all fun j => dn.contains j || j == i || (an.getD j 0).testBit i || disj (is.getD i default) (is.getD j default)) && okQ is deps an z t (i :: dn)
  | .a i t, dn => readyA deps (dn.contains ·) == [i] && okQ is deps an z t (i :: dn)
  | .z i t, dn => readyA deps (dn.contains ·) == [i] && !needS z ((i :: dn).contains ·) && okQ is deps an z t (i :: dn)
  | .b i t j u, dn => readyA deps (dn.contains ·) == [i, j] && okQ is deps an z t (i :: dn) && okQ is deps an z u (j :: dn)
  | .c i t j u k w, dn => readyA deps (dn.contains ·) == [i, j, k] && okQ is deps an z t (i :: dn) && okQ is deps an z u (j :: dn) && okQ is deps an z w (k :: dn)
def AQ (P : Program) (is : List AInstr) (l : List (Nat × Blk)) (K : Env → St → Prop) : QT → Env → St → Prop
  | .nil, ρ, σ => K ρ σ
  | .p i t, ρ, σ => AO P (is.getD i default) (fun ρ' _ => AQ P is l K t ρ' σ) ρ ⟨l, 0⟩
  | .q i t, ρ, σ => ∃ v, (∀ σ', AO P (is.getD i default) (fun ρ' σ'' => ρ' = ρ.putO (is.getD i default).dst v ∧ σ'' = σ') ρ σ') ∧ AQ P is l K t (ρ.putO (is.getD i default).dst v) σ
  | .a i t, ρ, σ => AO P (is.getD i default) (fun ρ' σ' => SB l σ' ∧ AQ P is l K t ρ' σ') ρ σ
  | .z i t, ρ, σ => AO P (is.getD i default) (fun ρ' σ' => AQ P is l K t ρ' σ') ρ σ
  | .b i t j u, ρ, σ => AO P (is.getD i default) (fun ρ' σ' => SB l σ' ∧ AQ P is l K t ρ' σ') ρ σ ∧ AO P (is.getD j default) (fun ρ' σ' => SB l σ' ∧ AQ P is l K u ρ' σ') ρ σ
  | .c i t j u k w, ρ, σ => AO P (is.getD i default) (fun ρ' σ' => SB l σ' ∧ AQ P is l K t ρ' σ') ρ σ ∧ AO P (is.getD j default) (fun ρ' σ' => SB l σ' ∧ AQ P is l K u ρ' σ') ρ σ ∧
      AO P (is.getD k default) (fun ρ' σ' => SB l σ' ∧ AQ P is l K w ρ' σ') ρ σ

def AnyS (P : Program) (is : List AInstr) (deps : List (List Nat)) (z : Option Nat) (l : List (Nat × Blk)) (K : Env → St → Prop) : Nat → (Nat → Bool) → Env → St → Prop
  | 0, dn, ρ, σ => (needS z dn = true → SB l σ) ∧ readyA deps dn = [] ∧ K ρ σ
  | f + 1, dn, ρ, σ => (needS z dn = true → SB l σ) ∧ (readyA deps dn = [] → K ρ σ) ∧ ∀ i, i ∈ readyA deps dn → AO P (is.getD i default) (AnyS P is deps z l K f fun x => x == i || dn x) ρ σ
theorem anyS_any {is : List AInstr} {deps : List (List Nat)} {z : Option Nat} {l : List (Nat × Blk)} {K : Env → St → Prop} : ∀ (f : Nat) (dn : Nat → Bool) (ρ : Env) (σ : St), AnyS P is deps z l K f dn ρ σ → AnyA P is deps K f dn ρ σ
  | 0, _, _, _, h => h.2
  | f + 1, _, _, _, h => ⟨h.2.1, fun i hi => AO_mono (fun ρ' σ' hk => anyS_any f _ ρ' σ' hk) (h.2.2 i hi)⟩

theorem anyS_pas {is : List AInstr} {deps : List (List Nat)} {z : Option Nat} {l : List (Nat × Blk)} {K : Env → St → Prop} {i : Nat} {rd : Bool} (hz : ∀ c, z = some c → c ≠ i ∧ (rd = true → ((ancs [] deps).getD c 0).testBit i = true)) :
    ∀ (f : Nat) (dn : Nat → Bool) (ρ : Env) (σ : St) (v : AV), (rd = true → SB l σ) → (needS z dn = true → SB l σ) → Down deps dn → i ∈ readyA deps dn →
    (∀ σ', (rd = true → SB l σ') → AO P (is.getD i default) (fun ρ' σ'' => ρ' = ρ.putO (is.getD i default).dst v ∧ σ'' = σ') ρ σ') →
    (∀ j, j < deps.length → dn j = false → j ≠ i → ((ancs [] deps).getD j 0).testBit i = true ∨ disj (is.getD i default) (is.getD j default) = true) →
    AnyS P is deps z l K f (fun x => x == i || dn x) (ρ.putO (is.getD i default).dst v) σ → AnyS P is deps z l K (f + 1) dn ρ σ := by
  intro f
  induction f with
  | zero =>
    intro dn ρ σ v hs hs0 hd hi hst hc h
    refine ⟨hs0, fun e => (by rw [e] at hi; simp at hi), fun j hj => ?_⟩
    by_cases hji : j = i
    · subst hji
      refine AO_mono (fun ρ' σ' hk => ?_) (hst σ hs)
      obtain ⟨rfl, rfl⟩ := hk
      exact h
    · have : j ∈ readyA deps (fun x => x == i || dn x) := by
        obtain ⟨h1, h2, h3⟩ := mem_readyA.1 hj
        exact mem_readyA.2 ⟨h1, by simp [hji, h2], fun e he => by simp [h3 e he]⟩
      rw [h.2.1] at this; simp at this
  | succ f ih =>
    intro dn ρ σ v hs hs0 hd hi hst hc h
    refine ⟨hs0, fun e => (by rw [e] at hi; simp at hi), fun j hj => ?_⟩
    by_cases hji : j = i
    · subst hji
      refine AO_mono (fun ρ' σ' hk => ?_) (hst σ hs)
      obtain ⟨rfl, rfl⟩ := hk
      exact h
    · obtain ⟨h1, h2, h3⟩ := mem_readyA.1 hj
      obtain ⟨i1, i2, i3⟩ := mem_readyA.1 hi
      have hj' : j ∈ readyA deps (fun x => x == i || dn x) := mem_readyA.2 ⟨h1, by simp [hji, h2], fun e he => by simp [h3 e he]⟩
      have hi' : i ∈ readyA deps (fun x => x == j || dn x) := mem_readyA.2 ⟨i1, by simp [Ne.symm hji, i2], fun e he => by simp [i3 e he]⟩
      have hdj : disj (is.getD i default) (is.getD j default) = true := by
        rcases hc j h1 h2 hji with hb | hb
        · have := anc_done hd j h3 i hb
          rw [i2] at this; cases this
        · exact hb
      obtain ⟨d1, d2, d3⟩ := disj_spec hdj
      have hx := AO_out.1 (h.2.2 j hj')
      rw [out_put d1] at hx
      refine AO_out.2 (upon_mono (fun vj σ1 hk => ?_) hx)
      have e : (fun x => x == j || (x == i || dn x)) = (fun x => x == i || (x == j || dn x)) := by
        funext x; cases x == j <;> cases x == i <;> rfl
      rw [e, d3] at hk
      have hk1 : needS z (fun x => x == i || (x == j || dn x)) = true → SB l σ1 := by cases f <;> exact hk.1
      have hs1 : rd = true → SB l σ1 := fun hr => hk1 (by
        cases z with
        | none => rfl
        | some c =>
          have ha := (hz c rfl).2 hr
          have c1 : c ≠ j := fun e => by
            subst e
            have := anc_done hd c h3 i ha
            rw [i2] at this; cases this
          have c2 : dn c = false := by
            cases hdc : dn c with
            | false => rfl
            | true =>
              have := anc_done hd c (fun e he => hd c hdc e he) i ha
              rw [i2] at this; cases this
          have c3 : c ≠ i := fun e => by
            subst e
            have := anc_done hd c i3 c ha
            rw [i2] at this; cases this
          simp [needS, c1, c2, c3])
      refine ih _ _ _ v hs1 (fun hn => ?_) (down_add hd hj) hi' (fun σ' hs' => ?_) (fun k k1 k2 k3 => ?_) hk
      · by_cases hr : rd = true
        · exact hs1 hr
        · refine hk1 ?_
          cases z with
          | none => rfl
          | some c =>
            simp only [needS, Bool.not_eq_true', Bool.or_eq_false_iff] at hn ⊢
            refine ⟨?_, hn⟩
            simp only [beq_eq_false_iff_ne, ne_eq]
            exact (hz c rfl).1
      · refine AO_out.2 ?_
        rw [out_put d2]
        refine upon_mono (fun v' σ'' hk => ?_) (AO_out.1 (hst σ' hs'))
        obtain ⟨e1, e2⟩ := hk
        refine ⟨?_, e2⟩
        rw [← d3, e1, d3]
      · simp only [Bool.or_eq_false_iff] at k2
        exact hc k k1 k2.2 k3

theorem aq_any {is : List AInstr} {deps : List (List Nat)} {z : Option Nat} {l : List (Nat × Blk)} {K : Env → St → Prop} : ∀ (t : QT) (f : Nat) (dn : List Nat) (ρ : Env) (σ : St), okQ is deps (ancs [] deps) z t dn = true → t.depth ≤ f → Down deps (dn.contains ·) → (needS z (dn.contains ·) = true → SB l σ) →
    AQ P is l K t ρ σ → AnyS P is deps z l K f (dn.contains ·) ρ σ
  | .nil, f, dn, ρ, σ, ok, _, hd, hs, h => by
    simp only [okQ, List.isEmpty_iff] at ok
    cases f with
    | zero => exact ⟨hs, ok, h⟩
    | succ f => exact ⟨hs, fun _ => h, fun i hi => by rw [ok] at hi; simp at hi⟩
  | .p i t, f, dn, ρ, σ, ok, hf, hd, hs, h => by
    simp only [okQ, Bool.and_eq_true] at ok
    obtain ⟨⟨⟨⟨o1, o2⟩, oz⟩, o3⟩, o4⟩ := ok
    have hi : i ∈ readyA deps (dn.contains ·) := by simpa using o1
    have hz : ∀ c, z = some c → c ≠ i ∧ (readOp (is.getD i default).op = true → ((ancs [] deps).getD c 0).testBit i = true) := by
      intro c hc
      subst hc
      simp only [Bool.and_eq_true, Bool.not_eq_true', beq_eq_false_iff_ne, ne_eq, Bool.or_eq_true] at oz
      exact ⟨oz.1, fun hr => oz.2.resolve_left (by rw [hr]; simp)⟩
    cases f with
    | zero => simp [QT.depth] at hf
    | succ f =>
      have h := AO_out.1 h
      rcases psv_out' o2 (l := l) ρ with e | ⟨v, e, hv⟩
      · rw [e] at h; exact h.elim
      · rw [e] at h
        have hs1 : readOp (is.getD i default).op = true → SB l σ := fun hr => hs (by
          cases z with
          | none => rfl
          | some c =>
            obtain ⟨i1, i2, i3⟩ := mem_readyA.1 hi
            cases hdc : dn.contains c with
            | false => simp only [needS, hdc]; rfl
            | true =>
              have := anc_done hd c (fun e he => hd c hdc e he) i ((hz c rfl).2 hr)
              simp only [this] at i2; cases i2)
        have hd' := down_add hd hi
        have e2 := (contains_cons i dn).symm
        refine anyS_pas hz f _ ρ σ v hs1 hs hd hi (fun σ' hs' => AO_out.2 (by rw [hv σ' hs']; exact ⟨rfl, rfl⟩)) (fun j j1 j2 j3 => ?_) ?_
        · simp only [List.all_eq_true, List.mem_range, Bool.or_eq_true, beq_iff_eq] at o3
          rcases o3 j j1 with ((hx | hx) | hx) | hx
          · rw [j2] at hx; cases hx
          · exact absurd hx j3
          · exact .inl hx
          · exact .inr hx
        · rw [e2] at hd' ⊢
          refine aq_any t f (i :: dn) _ _ o4 (by simp only [QT.depth] at hf; omega) hd' (fun hn => hs ?_) h
          cases z with
          | none => rfl
          | some c =>
            simp only [needS, List.contains_cons, Bool.not_eq_true', Bool.or_eq_false_iff] at hn ⊢
            exact hn.2
  | .q i t, f, dn, ρ, σ, ok, hf, hd, hs, h => by
    simp only [okQ, Bool.and_eq_true] at ok
    obtain ⟨⟨⟨⟨o1, o2⟩, oz⟩, o3⟩, o4⟩ := ok
    have hi : i ∈ readyA deps (dn.contains ·) := by simpa using o1
    have hz : ∀ c, z = some c → c ≠ i ∧ (false = true → ((ancs [] deps).getD c 0).testBit i = true) := by
      intro c hc
      subst hc
      simp only [Bool.not_eq_true', beq_eq_false_iff_ne, ne_eq] at oz
      exact ⟨oz, fun hr => by cases hr⟩
    cases f with
    | zero => simp [QT.depth] at hf
    | succ f =>
      obtain ⟨v, hv, h⟩ := h
      have hd' := down_add hd hi
      have e2 := (contains_cons i dn).symm
      refine anyS_pas hz f _ ρ σ v (fun e => by cases e) hs hd hi (fun σ' _ => hv σ') (fun j j1 j2 j3 => ?_) ?_
      · simp only [List.all_eq_true, List.mem_range, Bool.or_eq_true, beq_iff_eq] at o3
        rcases o3 j j1 with ((hx | hx) | hx) | hx
        · rw [j2] at hx; cases hx
        · exact absurd hx j3
        · exact .inl hx
        · exact .inr hx
      · rw [e2] at hd' ⊢
        refine aq_any t f (i :: dn) _ _ o4 (by simp only [QT.depth] at hf; omega) hd' (fun hn => hs ?_) h
        cases z with
        | none => rfl
        | some c =>
          simp only [needS, List.contains_cons, Bool.not_eq_true', Bool.or_eq_false_iff] at hn ⊢
          exact hn.2
  | .a i t, f, dn, ρ, σ, ok, hf, hd, hs, h => by
    simp only [okQ, Bool.and_eq_true, beq_iff_eq] at ok
    obtain ⟨o1, o4⟩ := ok
    cases f with
    | zero => simp [QT.depth] at hf
    | succ f =>
      refine ⟨hs, fun e => (by rw [o1] at e; simp at e), fun j hj => ?_⟩
      have hi := hj
      rw [o1] at hj
      simp only [List.mem_singleton] at hj
      subst hj
      refine AO_mono (fun ρ' σ' hk => ?_) h
      have hd' := down_add hd hi
      have e2 := (contains_cons j dn).symm
      rw [e2] at hd' ⊢
      exact aq_any t f (j :: dn) _ _ o4 (by simp only [QT.depth] at hf; omega) hd' (fun _ => hk.1) hk.2
  | .z i t, f, dn, ρ, σ, ok, hf, hd, hs, h => by
    simp only [okQ, Bool.and_eq_true, beq_iff_eq] at ok
    obtain ⟨⟨o1, oz⟩, o4⟩ := ok
    cases f with
    | zero => simp [QT.depth] at hf
    | succ f =>
      refine ⟨hs, fun e => (by rw [o1] at e; simp at e), fun j hj => ?_⟩
      have hi := hj
      rw [o1] at hj
      simp only [List.mem_singleton] at hj
      subst hj
      refine AO_mono (fun ρ' σ' hk => ?_) h
      have hd' := down_add hd hi
      have e2 := (contains_cons j dn).symm
      rw [e2] at hd' ⊢
      exact aq_any t f (j :: dn) _ _ o4 (by simp only [QT.depth] at hf; omega) hd' (fun hn => by rw [hn] at oz; cases oz) hk
  | .b i t j u, f, dn, ρ, σ, ok, hf, hd, hs, h => by
    simp only [okQ, Bool.and_eq_true, beq_iff_eq] at ok
    obtain ⟨⟨o1, o4⟩, o5⟩ := ok
    cases f with
    | zero => simp [QT.depth] at hf
    | succ f =>
      refine ⟨hs, fun e => (by rw [o1] at e; simp at e), fun k hk => ?_⟩
      have hi := hk
      rw [o1] at hk
      simp only [List.mem_cons, List.not_mem_nil, or_false] at hk
      have hd' := down_add hd hi
      have e2 := (contains_cons k dn).symm
      rw [e2] at hd' ⊢
      simp only [QT.depth] at hf
      rcases hk with rfl | rfl
      · exact AO_mono (fun ρ' σ' hk => aq_any t f (k :: dn) _ _ o4 (by omega) hd' (fun _ => hk.1) hk.2) h.1
      · exact AO_mono (fun ρ' σ' hk => aq_any u f (k :: dn) _ _ o5 (by omega) hd' (fun _ => hk.1) hk.2) h.2
  | .c i t j u m w, f, dn, ρ, σ, ok, hf, hd, hs, h => by
    simp only [okQ, Bool.and_eq_true, beq_iff_eq] at ok
    obtain ⟨⟨⟨o1, o4⟩, o5⟩, o6⟩ := ok
    cases f with
    | zero => simp [QT.depth] at hf
    | succ f =>
      refine ⟨hs, fun e => (by rw [o1] at e; simp at e), fun k hk => ?_⟩
      have hi := hk
      rw [o1] at hk
      simp only [List.mem_cons, List.not_mem_nil, or_false] at hk
      have hd' := down_add hd hi
      have e2 := (contains_cons k dn).symm
      rw [e2] at hd' ⊢
      simp only [QT.depth] at hf
      rcases hk with rfl | rfl | rfl
      · exact AO_mono (fun ρ' σ' hk => aq_any t f (k :: dn) _ _ o4 (by omega) hd' (fun _ => hk.1) hk.2) h.1
      · exact AO_mono (fun ρ' σ' hk => aq_any u f (k :: dn) _ _ o5 (by omega) hd' (fun _ => hk.1) hk.2) h.2.1
      · exact AO_mono (fun ρ' σ' hk => aq_any w f (k :: dn) _ _ o6 (by omega) hd' (fun _ => hk.1) hk.2) h.2.2

theorem AQ_some {is : List AInstr} {l : List (Nat × Blk)} {K : Env → St → Prop} : ∀ (t : QT) (ρ : Env) (σ : St), AQ P is l K t ρ σ → ∃ ρ' σ', K ρ' σ'
  | .nil, _, _, h => ⟨_, _, h⟩
  | .p i t, ρ, σ, h => let ⟨_, _, h⟩ := AO_some h; AQ_some t _ _ h
  | .q i t, ρ, σ, h => let ⟨_, _, h⟩ := h; AQ_some t _ _ h
  | .a i t, ρ, σ, h => let ⟨_, _, h⟩ := AO_some h; AQ_some t _ _ h.2
  | .z i t, ρ, σ, h => let ⟨_, _, h⟩ := AO_some h; AQ_some t _ _ h
  | .b i t j u, ρ, σ, h => let ⟨_, _, h⟩ := AO_some h.1; AQ_some t _ _ h.2
  | .c i t j u k w, ρ, σ, h => let ⟨_, _, h⟩ := AO_some h.1; AQ_some t _ _ h.2

/-- A region, looked at in one order. 'l' : the blocks that the reads look at; 'z' : behind it nothing is read. -/
theorem AW.qt {ro : Option Nat} {nt : Nat} {Q : Ex → Env → St → Prop} {ρ : Env} {is : List AInstr} {deps : List (List Nat)} (z : Option Nat) (t : QT) (l : List (Nat × Blk)) (hm : P.follows .mixedOrders = true) (hok : okQ is deps (ancs [] deps) z t [] = true) (hd : t.depth ≤ is.length)
    (hs : SB l σ) (h : AQ P is l (fun ρ σ => Q .nrm ρ σ) t ρ σ) : AW P ro nt (.qrg is deps) Q ρ σ := by
  refine AW.qrg hm (let ⟨_, _, h⟩ := AQ_some t _ _ h; ⟨_, _, h⟩) ?_
  have := aq_any t is.length [] ρ σ hok hd (fun j hj => by simp at hj) (fun _ => hs) h
  have e : (fun x => ([] : List Nat).contains x) = (fun _ : Nat => false) := by funext x; simp
  rw [e] at this
  exact anyS_any _ _ _ _ this

end Go.Proofs.YtekhblefchceaaaGreat.AM

/- The numbers of blocks that were made since a call began may be exchanged. -/
set_option linter.unusedVariables false
namespace Go.Proofs.YtekhblefchceaaaGreat.AM
open Go
variable {P : Program} {σ : St}

def Tok.ren (π : Nat → Nat) : Tok → Tok
  | .id τ => .id (π τ)
  | t => t
mutual
def AV.ren (π : Nat → Nat) : AV → AV
  | .ip l => .ip (renL π l)
  | .vs l t => .vs (renL π l) (t.ren π)
  | .fn n l => .fn n (renL π l)
  | .agg l => .agg (renL π l)
  | .tup l => .tup (renL π l)
  | .ptr β off => .ptr (π β) off
  | .bs s t => .bs s (t.ren π)
  | .hs β off len cap => .hs (π β) off len cap
  | .map β => .map (π β)
  | .yld β => .yld (π β)
  | .undef => .undef
  | .bool b => .bool b
  | .int k n => .int k n
  | .str s => .str s
  | .nilp => .nilp
  | .nilmap => .nilmap
  | .nilfn => .nilfn
  | .nilif => .nilif
def renL (π : Nat → Nat) : List AV → List AV
  | [] => []
  | x :: l => x.ren π :: renL π l
end
theorem renL_eq (π : Nat → Nat) : ∀ l, renL π l = l.map (AV.ren π)
  | [] => by simp [renL]
  | x :: l => by simp [renL, renL_eq π l]
theorem ren_cells (π : Nat → Nat) (x : AV) : (x.ren π).cells = x.cells.map (AV.ren π) := by
  cases x <;> simp [AV.ren, AV.cells, renL_eq]

/-- An exchange of numbers below n. -/
structure Exch (π κ : Nat → Nat) (n : Nat) : Prop where
  lk : ∀ x, κ (π x) = x
  rk : ∀ x, π (κ x) = x
  lt : ∀ x, x < n → π x < n
def Gh.ren (κ : Nat → Nat) (g : Gh) : Gh := { bl := fun x => g.bl (κ x), fr := fun x => g.fr (κ x), tp := fun x => g.tp (κ x) }

variable {π κ : Nat → Nat} {n : Nat}
theorem TokR.ren (e : Exch π κ n) {g : Gh} {l b off sz len cap : Nat} {t : Tok} (h : TokR g n l b off sz len cap t) : TokR (g.ren κ) n l b off sz len cap (t.ren π) := by
  cases t with
  | no => trivial
  | ex => exact h
  | id τ =>
    obtain ⟨h1, h2⟩ := h
    refine ⟨e.lt _ h1, ?_⟩
    simpa only [Gh.ren, e.lk] using h2
theorem VR.ren (e : Exch π κ n) {g : Gh} {ic ic' : Nat → Nat → Value → Prop} (hi : ∀ b i v, ic b i v → ic' b i v) {x : AV} {c : Value} (h : VR g n ic x c) : VR (g.ren κ) n ic' (x.ren π) c := by
  have gb : ∀ β, (g.ren κ).bl (π β) = g.bl β := fun β => by simp only [Gh.ren, e.lk]
  induction h with
  | undef v => exact .undef v
  | bool b => exact .bool b
  | int k i => exact .int k i
  | str s => exact .str s
  | nilp => exact .nilp
  | ptr β off h => simp only [AV.ren]; rw [← gb β]; exact .ptr _ off (e.lt _ h)
  | ip l b off cs h1 h2 ih =>
    simp only [AV.ren, renL_eq]
    refine .ip _ b off cs (fun i hl => hi _ _ _ (h1 i (by simpa using hl))) (fun i x hx => ?_)
    rw [List.getElem?_map, Option.map_eq_some_iff] at hx
    obtain ⟨y, hy, rfl⟩ := hx
    exact ih i y hy
  | vsn t => simp only [AV.ren, renL]; exact .vsn _
  | vs l t b off cap sz cs hsz hcap h1 h2 ht ih =>
    simp only [AV.ren, renL_eq]
    have := VR.vs (g := g.ren κ) (n := n) (ic := ic') (l.map (AV.ren π)) (t.ren π) b off cap sz cs (fun x hx => by
        obtain ⟨y, hy, rfl⟩ := List.mem_map.1 hx
        rw [ren_cells]; simpa using hsz y hy) (by simpa using hcap) (fun i j hl hj => hi _ _ _ (h1 i j (by simpa using hl) hj)) (fun i j x z hx hz => by
        rw [List.getElem?_map, Option.map_eq_some_iff] at hx
        obtain ⟨y, hy, rfl⟩ := hx
        rw [ren_cells, List.getElem?_map, Option.map_eq_some_iff] at hz
        obtain ⟨q, hq, rfl⟩ := hz
        exact ih i j y q hy hq) (by rw [List.length_map]; exact ht.ren e)
    rwa [List.length_map] at this
  | bs s t b off cap hcap h1 ht =>
    simp only [AV.ren]
    exact .bs s _ b off cap hcap (fun i x hx => hi _ _ _ (h1 i x hx)) (ht.ren e)
  | hs β off len cap h => simp only [AV.ren]; rw [← gb β]; exact .hs _ off len cap (e.lt _ h)
  | nilmap => exact .nilmap
  | map β h => simp only [AV.ren]; rw [← gb β]; exact .map _ (e.lt _ h)
  | nilfn => exact .nilfn
  | fn m l cs hl h2 ih =>
    simp only [AV.ren, renL_eq]
    refine .fn m _ cs (by simpa using hl) (fun i x c hx hc => ?_)
    rw [List.getElem?_map, Option.map_eq_some_iff] at hx
    obtain ⟨y, hy, rfl⟩ := hx
    exact ih i y c hy hc
  | yld β h => simp only [AV.ren]; rw [← gb β]; exact .yld _ (e.lt _ h)
  | nilif => exact .nilif
  | agg l cs hl h2 ih =>
    simp only [AV.ren, renL_eq]
    refine .agg _ cs (by simpa using hl) (fun i x c hx hc => ?_)
    rw [List.getElem?_map, Option.map_eq_some_iff] at hx
    obtain ⟨y, hy, rfl⟩ := hx
    exact ih i y c hy hc
  | tup l cs hl h2 ih =>
    simp only [AV.ren, renL_eq]
    refine .tup _ cs (by simpa using hl) (fun i x c hx hc => ?_)
    rw [List.getElem?_map, Option.map_eq_some_iff] at hx
    obtain ⟨y, hy, rfl⟩ := hx
    exact ih i y c hy hc

def MEnt.ren (π : Nat → Nat) (e : MEnt) : MEnt := { key := e.key.ren π, val := e.val.ren π, born := e.born }
def Blk.ren (π : Nat → Nat) : Blk → Blk
  | .arr c => .arr (c.map (AV.ren π))
  | .tok => .tok
  | .map es ck => .map (es.map (MEnt.ren π)) ck
  | .iter m ck seen => .iter (π m) ck seen
  | .loop st pend ρ ps asg body => .loop st pend (ρ.map (AV.ren π)) ps asg body
def renH (π : Nat → Nat) (H : List (Nat × Blk)) : List (Nat × Blk) := H.map fun p => (π p.1, p.2.ren π)
def St.ren (π : Nat → Nat) (σ : St) : St := { H := renH π σ.H, n := σ.n }

theorem lk_ren (e : Exch π κ n) : ∀ (H : List (Nat × Blk)) (β : Nat), lk (renH π H) β = (lk H (κ β)).map (Blk.ren π)
  | [], _ => rfl
  | (a, b) :: r, β => by
    simp only [renH, List.map_cons, lk]
    by_cases h : π a = β
    · have h2 : a = κ β := by rw [← h, e.lk]
      rw [if_pos h, if_pos h2]; rfl
    · have h2 : ¬ a = κ β := fun h2 => h (by rw [h2, e.rk])
      rw [if_neg h, if_neg h2]
      exact lk_ren e r β
theorem ren_tok {b : Blk} : b.ren π = .tok ↔ b = .tok := by cases b <;> simp [Blk.ren]
theorem lk_ren_some (e : Exch π κ n) {H : List (Nat × Blk)} {β : Nat} {k : Blk} (h : lk (renH π H) β = some k) : ∃ k0, lk H (κ β) = some k0 ∧ k = k0.ren π := by
  rw [lk_ren e, Option.map_eq_some_iff] at h
  obtain ⟨k0, h1, rfl⟩ := h
  exact ⟨k0, h1, rfl⟩
theorem ic_ren (e : Exch π κ n) {g : Gh} {H : List (Nat × Blk)} {h : Heap} (b i : Nat) (v : Value) (x : IC g H h b i v) : IC (g.ren κ) (renH π H) h b i v := by
  refine ⟨x.1, ?_⟩
  rintro ⟨β, k, hk, hb, hf⟩
  obtain ⟨k0, h1, rfl⟩ := lk_ren_some e hk
  exact x.2 ⟨κ β, k0, h1, hb, fun ht => hf (ren_tok.2 ht)⟩
theorem do_ren (e : Exch π κ n) {g : Gh} {H : List (Nat × Blk)} {h : Heap} (b : Nat) (o : Obj) (x : DO g H h b o) : DO (g.ren κ) (renH π H) h b o :=
  ⟨x.1, x.2.1, fun β k hk => by obtain ⟨k0, h1, rfl⟩ := lk_ren_some e hk; exact x.2.2 _ _ h1⟩

theorem isKey_ren {x : AV} (h : isKey x = true) : isKey (x.ren π) = true := by cases x <;> simp [isKey, AV.ren] at h ⊢

theorem rel_ren (e : Exch π κ σ.n) {g : Gh} {h : Heap} (r : Rel P g σ h) : Rel P (g.ren κ) (σ.ren π) h where
  lt := fun β k hk => by
    obtain ⟨k0, h1, rfl⟩ := lk_ren_some e hk
    have := e.lt _ (r.lt _ _ h1)
    rwa [e.rk] at this
  inj := fun β γ k k' hk hk' hb => by
    obtain ⟨k0, h1, rfl⟩ := lk_ren_some e hk
    obtain ⟨k1, h2, rfl⟩ := lk_ren_some e hk'
    have := r.inj _ _ _ _ h1 h2 hb
    rw [← e.rk β, ← e.rk γ, this]
  blk := fun β k hk => by
    obtain ⟨k0, h1, rfl⟩ := lk_ren_some e hk
    have hb := r.blk _ _ h1
    have hi := fun b i v => ic_ren e (g := g) (H := σ.H) (h := h) b i v
    show BR P (g.ren κ) σ.n (IC (g.ren κ) (renH π σ.H) h) β (k0.ren π) h[g.bl (κ β)]?
    cases k0 with
    | arr c =>
      obtain ⟨cs, ee, ho, hs, hv⟩ := hb
      refine ⟨cs, ee, ho, by simpa using hs, fun i x v hx hc => ?_⟩
      rw [List.getElem?_map, Option.map_eq_some_iff] at hx
      obtain ⟨y, hy, rfl⟩ := hx
      exact (hv i y v hy hc).ren e hi
    | tok => exact hb
    | map es ck =>
      obtain ⟨ces, ho, hs, hv, hn⟩ := hb
      refine ⟨ces, ho, by simpa using hs, fun i x ce hx hc => ?_, by simpa [MEnt.ren, Function.comp_def] using hn⟩
      rw [List.getElem?_map, Option.map_eq_some_iff] at hx
      obtain ⟨y, hy, rfl⟩ := hx
      obtain ⟨a, b, c, d, f⟩ := hv i y ce hy hc
      exact ⟨a.ren e hi, b.ren e hi, c, isKey_ren d, f⟩
    | iter m ck seen =>
      obtain ⟨h1, h2⟩ := hb
      exact ⟨e.lt _ h1, by simp only [Gh.ren, e.lk]; exact h2⟩
    | loop st pend ρ ps asg body =>
      obtain ⟨L, ho, h2, h3, h4, h5, h6, h7⟩ := hb
      refine ⟨L, ho, by simpa using h2, fun i x v hx hc => ?_, h4, by simpa using h5, by simpa using h6, h7⟩
      rw [List.getElem?_map, Option.map_eq_some_iff] at hx
      obtain ⟨y, hy, rfl⟩ := hx
      exact (h3 i y v hy hc).ren e hi

/-- Behind a call the numbers of what it made may be exchanged. -/
theorem ACalls.ren {f : Nat} {args : List AV} {K K' : AV → St → Prop} (h : ACalls P f args σ K) (hk : ∀ v σ', K v σ' → ∃ π κ, Exch π κ σ'.n ∧ (∀ x, x < σ.n → κ x = x) ∧ K' (v.ren π) (σ'.ren π)) : ACalls P f args σ K' :=
  ⟨h.1, let ⟨v, σ', hv⟩ := h.2.1; let ⟨_, _, _, _, h'⟩ := hk v σ' hv; ⟨_, _, h'⟩, fun g w cargs r hl => (h.2.2 g w cargs r hl).mono fun e w' hp => by
    cases e with
    | returned cv =>
      obtain ⟨v, σ', g', h1, h2, h3, h4⟩ := hp
      obtain ⟨π, κ, ex, fx, hk'⟩ := hk v σ' h1
      refine ⟨_, _, g'.ren κ, hk', rel_ren ex h2, VR.ren ex (fun b i v => ic_ren ex b i v) h3, ⟨h4.en, fun β hβ => ?_, fun b i v x => ic_ren ex b i v (h4.eic b i v x), fun b o x => do_ren ex b o (h4.edo b o x), h4.esz, h4.ekc⟩, h4.os, h4.out⟩
      simp only [Gh.ren, fx β hβ]
      exact h4.eg β hβ
    | panicked _ => exact hp.elim
    | outgrown => exact hp.elim⟩

end Go.Proofs.YtekhblefchceaaaGreat.AM

/- An interpreter of the abstract machine: every way that a closed call can go. What it answers, the machine does. -/
set_option linter.unusedVariables false
namespace Go.Proofs.YtekhblefchceaaaGreat.AM
open Go
variable {P : Program} {σ : St}

/-! ### Equality -/
def beqTok : Tok → Tok → Bool
  | .no, .no => true
  | .ex, .ex => true
  | .id a, .id b => Nat.beq a b
  | _, _ => false
theorem beqTok_eq {a b : Tok} (h : beqTok a b = true) : a = b := by
  cases a <;> cases b <;> simp [beqTok] at h ⊢
  exact h
def beqStr : List UInt8 → List UInt8 → Bool
  | [], [] => true
  | a :: x, b :: y => if a.toNat = b.toNat then beqStr x y else false
  | _, _ => false
theorem beqStr_eq : ∀ {a b : List UInt8}, beqStr a b = true → a = b
  | [], [], _ => rfl
  | a :: x, b :: y, h => by
    simp only [beqStr] at h
    split at h
    · rename_i e
      rw [UInt8.toNat_inj.1 e, beqStr_eq h]
    · cases h
mutual
def beqV : AV → AV → Bool
  | .undef, .undef => true
  | .bool a, .bool b => a == b
  | .int k a, .int k' b => decide (k = k') && decide (a = b)
  | .str a, .str b => beqStr a b
  | .nilp, .nilp => true
  | .ptr a i, .ptr b j => Nat.beq a b && Nat.beq i j
  | .ip a, .ip b => beqL a b
  | .vs a s, .vs b t => beqTok s t && beqL a b
  | .bs a s, .bs b t => beqTok s t && beqStr a b
  | .hs a i l c, .hs b j m d => Nat.beq a b && Nat.beq i j && Nat.beq l m && Nat.beq c d
  | .nilmap, .nilmap => true
  | .map a, .map b => Nat.beq a b
  | .nilfn, .nilfn => true
  | .fn f a, .fn g b => Nat.beq f g && beqL a b
  | .yld a, .yld b => Nat.beq a b
  | .nilif, .nilif => true
  | .agg a, .agg b => beqL a b
  | .tup a, .tup b => beqL a b
  | _, _ => false
def beqL : List AV → List AV → Bool
  | [], [] => true
  | x :: a, y :: b => beqV x y && beqL a b
  | _, _ => false
end
mutual
theorem beqV_eq : ∀ {x y : AV}, beqV x y = true → x = y
  | .undef, y, h => by cases y <;> simp [beqV] at h ⊢
  | .bool a, y, h => by cases y <;> simp [beqV] at h ⊢; exact h
  | .int k a, y, h => by cases y <;> simp [beqV] at h ⊢; exact h
  | .str a, y, h => by cases y <;> simp [beqV] at h ⊢; exact beqStr_eq h
  | .nilp, y, h => by cases y <;> simp [beqV] at h ⊢
  | .ptr a i, y, h => by cases y <;> simp [beqV] at h ⊢; exact h
  | .ip a, y, h => by cases y <;> simp [beqV] at h ⊢; exact beqL_eq h
  | .vs a s, y, h => by cases y <;> simp [beqV] at h ⊢; exact ⟨beqL_eq h.2, beqTok_eq h.1⟩
  | .bs a s, y, h => by cases y <;> simp [beqV] at h ⊢; exact ⟨beqStr_eq h.2, beqTok_eq h.1⟩
  | .hs a i l c, y, h => by cases y <;> simp [beqV] at h ⊢; exact ⟨h.1.1.1, h.1.1.2, h.1.2, h.2⟩
  | .nilmap, y, h => by cases y <;> simp [beqV] at h ⊢
  | .map a, y, h => by cases y <;> simp [beqV] at h ⊢; exact h
  | .nilfn, y, h => by cases y <;> simp [beqV] at h ⊢
  | .fn f a, y, h => by cases y <;> simp [beqV] at h ⊢; exact ⟨h.1, beqL_eq h.2⟩
  | .yld a, y, h => by cases y <;> simp [beqV] at h ⊢; exact h
  | .nilif, y, h => by cases y <;> simp [beqV] at h ⊢
  | .agg a, y, h => by cases y <;> simp [beqV] at h ⊢; exact beqL_eq h
  | .tup a, y, h => by cases y <;> simp [beqV] at h ⊢; exact beqL_eq h
theorem beqL_eq : ∀ {x y : List AV}, beqL x y = true → x = y
  | [], y, h => by cases y <;> simp [beqL] at h ⊢
  | x :: a, y, h => by
    cases y with
    | nil => simp [beqL] at h
    | cons z b =>
      simp only [beqL, Bool.and_eq_true] at h
      rw [beqV_eq h.1, beqL_eq h.2]
end
def beqNs : List Nat → List Nat → Bool
  | [], [] => true
  | a :: x, b :: y => Nat.beq a b && beqNs x y
  | _, _ => false
theorem beqNs_eq : ∀ {x y : List Nat}, beqNs x y = true → x = y
  | [], [], _ => rfl
  | a :: x, b :: y, h => by
    simp only [beqNs, Bool.and_eq_true] at h
    rw [Nat.eq_of_beq_eq_true h.1, beqNs_eq h.2]
def beqEs : List MEnt → List MEnt → Bool
  | [], [] => true
  | a :: x, b :: y => beqV a.key b.key && beqV a.val b.val && Nat.beq a.born b.born && beqEs x y
  | _, _ => false
theorem beqEs_eq : ∀ {x y : List MEnt}, beqEs x y = true → x = y
  | [], [], _ => rfl
  | ⟨k, v, c⟩ :: x, ⟨k', v', c'⟩ :: y, h => by
    simp only [beqEs, Bool.and_eq_true] at h
    rw [beqV_eq h.1.1.1, beqV_eq h.1.1.2, Nat.eq_of_beq_eq_true h.1.2, beqEs_eq h.2]
def beqB : Blk → Blk → Bool
  | .arr a, .arr b => beqL a b
  | .tok, .tok => true
  | .map a i, .map b j => Nat.beq i j && beqEs a b
  | .iter m i s, .iter m' j t => Nat.beq m m' && Nat.beq i j && beqNs s t
  | _, _ => false
theorem beqB_eq {x y : Blk} (h : beqB x y = true) : x = y := by
  cases x <;> cases y <;> simp [beqB] at h ⊢
  · exact beqL_eq h
  · exact ⟨beqEs_eq h.2, h.1⟩
  · exact ⟨h.1.1, h.1.2, beqNs_eq h.2⟩
def beqH : List (Nat × Blk) → List (Nat × Blk) → Bool
  | [], [] => true
  | (i, a) :: x, (j, b) :: y => Nat.beq i j && beqB a b && beqH x y
  | _, _ => false
theorem beqH_eq : ∀ {x y : List (Nat × Blk)}, beqH x y = true → x = y
  | [], [], _ => rfl
  | (i, a) :: x, (j, b) :: y, h => by
    simp only [beqH, Bool.and_eq_true] at h
    rw [Nat.eq_of_beq_eq_true h.1.1, beqB_eq h.1.2, beqH_eq h.2]
def beqO (p q : AV × St) : Bool := beqV p.1 q.1 && Nat.beq p.2.n q.2.n && beqH p.2.H q.2.H
theorem beqO_eq {p q : AV × St} (h : beqO p q = true) : p = q := by
  obtain ⟨v, H, n⟩ := p
  obtain ⟨v', H', n'⟩ := q
  simp only [beqO, Bool.and_eq_true] at h
  rw [beqV_eq h.1.1, Nat.eq_of_beq_eq_true h.1.2, beqH_eq h.2]
/-- Each once. -/
def once : List (AV × St) → List (AV × St)
  | [] => []
  | x :: r => x :: (once r).filter fun y => !beqO x y
theorem mem_once : ∀ {l : List (AV × St)} {p : AV × St}, p ∈ l → p ∈ once l
  | x :: r, p, h => by
    simp only [once, List.mem_cons, List.mem_filter]
    rcases List.mem_cons.1 h with e | e
    · exact .inl e
    · by_cases hb : beqO x p = true
      · exact .inl (beqO_eq hb).symm
      · exact .inr ⟨mem_once e, by simpa using hb⟩

end Go.Proofs.YtekhblefchceaaaGreat.AM

/- The operations once more, in a form that the kernel reckons quickly. -/
set_option linter.unusedVariables false
namespace Go.Proofs.YtekhblefchceaaaGreat.AM
open Go
variable {P : Program} {σ : St}

def wrapF (k : IntKind) (n : Int) : Int :=
  match n with
  | .ofNat m => match k with
    | .i64 => (match Nat.ble 9223372036854775808 m with | true => k.wrap n | false => n)
    | .u64 => (match Nat.ble 18446744073709551616 m with | true => k.wrap n | false => n)
    | .u8 => (match Nat.ble 256 m with | true => k.wrap n | false => n)
    | _ => k.wrap n
  | .negSucc m => match k with
    | .i64 => (match Nat.ble 9223372036854775808 m with | true => k.wrap n | false => n)
    | _ => k.wrap n
theorem ble_false {a b : Nat} (h : Nat.ble a b = false) : b < a := by
  rcases Nat.lt_or_ge b a with x | x
  · exact x
  · rw [Nat.ble_eq_true_of_le x] at h; cases h
theorem wrapF_eq (k : IntKind) (n : Int) : wrapF k n = k.wrap n := by
  cases n with
  | ofNat m =>
    cases k <;> simp only [wrapF]
    case i64 =>
      cases h : Nat.ble 9223372036854775808 m with
      | true => rfl
      | false =>
        have := ble_false h
        rw [IntKind.wrap_i64]
        show (m : Int) = _
        have e : Int.ofNat m = (m : Int) := rfl
        rw [e]; omega
    case u64 =>
      cases h : Nat.ble 18446744073709551616 m with
      | true => rfl
      | false =>
        have := ble_false h
        have e : IntKind.u64.wrap (Int.ofNat m) = Int.ofNat m % 18446744073709551616 := by simp [IntKind.wrap, IntKind.bits, IntKind.signed]
        rw [e]
        show (m : Int) = _
        have e : Int.ofNat m = (m : Int) := rfl
        rw [e]; omega
    case u8 =>
      cases h : Nat.ble 256 m with
      | true => rfl
      | false =>
        have := ble_false h
        have e : IntKind.u8.wrap (Int.ofNat m) = Int.ofNat m % 256 := by simp [IntKind.wrap, IntKind.bits, IntKind.signed]
        rw [e]
        show (m : Int) = _
        have e : Int.ofNat m = (m : Int) := rfl
        rw [e]; omega
  | negSucc m =>
    cases k <;> simp only [wrapF]
    case i64 =>
      cases h : Nat.ble 9223372036854775808 m with
      | true => rfl
      | false =>
        have := ble_false h
        rw [IntKind.wrap_i64]
        show Int.negSucc m = _
        have e : Int.negSucc m = -((m : Int) + 1) := by omega
        rw [e]; omega

def iLt : Int → Int → Bool
  | .ofNat a, .ofNat b => Nat.blt a b
  | .ofNat _, .negSucc _ => false
  | .negSucc _, .ofNat _ => true
  | .negSucc a, .negSucc b => Nat.blt b a
theorem iLt_eq (a b : Int) : iLt a b = decide (a < b) := by
  cases a <;> cases b <;> rw [Bool.eq_iff_iff] <;> simp [iLt, Nat.blt_eq] <;> omega
def iEq : Int → Int → Bool
  | .ofNat a, .ofNat b => Nat.beq a b
  | .negSucc a, .negSucc b => Nat.beq a b
  | _, _ => false
theorem iEq_eq (a b : Int) : iEq a b = decide (a = b) := by
  cases a <;> cases b <;> rw [Bool.eq_iff_iff] <;> simp [iEq, Nat.beq_eq] <;> omega
def kEq : IntKind → IntKind → Bool
  | .i64, .i64 => true
  | .u64, .u64 => true
  | .u8, .u8 => true
  | k, k' => decide (k = k')
theorem kEq_eq (k k' : IntKind) : kEq k k' = decide (k = k') := by cases k <;> cases k' <;> rfl

def nth : List AV → Nat → Option AV
  | [], _ => none
  | x :: _, 0 => some x
  | _ :: l, i + 1 => nth l i
theorem nth_eq : ∀ (l : List AV) (i : Nat), nth l i = l[i]?
  | [], _ => by simp [nth]
  | x :: l, 0 => by simp [nth]
  | x :: l, i + 1 => by simp [nth, nth_eq l i]

def eArith (f : Int → Int → Int) : AV → AV → St → OR
  | .int k a, .int k' b, σ => (match kEq k k' with | true => .v (.int k (wrapF k (f a b))) σ | false => .bad)
  | _, _, _ => .bad
def eCmp (f : Int → Int → Bool) (op : BinOp) : AV → AV → St → OR
  | .int k a, .int k' b, σ => (match kEq k k' with | true => .v (.bool (f a b)) σ | false => .bad)
  | x, y, σ => match binA op x y with | some v => .v v σ | none => .bad
def eAdd : AV → AV → St → OR
  | .int k a, .int k' b, σ => (match kEq k k' with | true => .v (.int k (wrapF k (Int.add a b))) σ | false => .bad)
  | x, y, σ => match binA .add x y with | some v => .v v σ | none => .bad
def eBin (op : BinOp) (x y : AV) (σ : St) : OR :=
  match op with
  | .add => eAdd x y σ
  | .sub => eArith Int.sub x y σ
  | .eql => eCmp iEq .eql x y σ
  | .neq => eCmp (fun a b => !iEq a b) .neq x y σ
  | .lss => eCmp iLt .lss x y σ
  | .leq => eCmp (fun a b => !iLt b a) .leq x y σ
  | .gtr => eCmp (fun a b => iLt b a) .gtr x y σ
  | .geq => eCmp (fun a b => !iLt a b) .geq x y σ
  | op => match binA op x y with | some v => .v v σ | none => .bad
theorem eCmp_eq {f : Int → Int → Bool} {op : BinOp} (h : ∀ k a b, binA op (.int k a) (.int k b) = some (.bool (f a b))) (hn : ∀ k k' a b, k ≠ k' → binA op (.int k a) (.int k' b) = none) (x y : AV) : eCmp f op x y σ = (match binA op x y with | some v => .v v σ | none => .bad) := by
  cases x <;> cases y <;> first | rfl | skip
  rename_i k a k' b
  simp only [eCmp, kEq_eq]
  by_cases e : k = k'
  · subst e; rw [h]; simp
  · rw [hn _ _ _ _ e]; simp [e]
theorem eBin_eq (op : BinOp) (x y : AV) : eBin op x y σ = (match binA op x y with | some v => .v v σ | none => .bad) := by
  cases op <;> simp only [eBin]
  case add =>
    cases x <;> cases y <;> first | rfl | skip
    rename_i k a k' b
    simp only [eAdd, kEq_eq, wrapF_eq]
    by_cases e : k = k'
    · subst e; simp [binA, intOp]; try rfl
    · simp [binA, e]
  case sub =>
    cases x <;> cases y <;> first | rfl | skip
    rename_i k a k' b
    simp only [eArith, kEq_eq, wrapF_eq]
    by_cases e : k = k'
    · subst e; simp [binA, intOp]; try rfl
    · simp [binA, e]
  all_goals
    refine eCmp_eq (fun k a b => ?_) (fun k k' a b h => by simp [binA, h]) x y
    simp only [iEq_eq, iLt_eq]
    simp [binA, intOp]
    try (rw [← decide_not]; congr 1; simp; done)

noncomputable def vget (l : List AV) : Nat → AV :=
  List.rec (motive := fun _ => Nat → AV) (fun _ => .tup []) (fun x _ ih i => Nat.rec (motive := fun _ => AV) x (fun k _ => ih k) i) l
noncomputable def vset (i : Nat) : List AV → AV → List AV :=
  Nat.rec (motive := fun _ => List AV → AV → List AV) (fun l v => List.rec (motive := fun _ => List AV) [v] (fun _ t _ => v :: t) l)
    (fun _ ih l v => List.rec (motive := fun _ => List AV) (.tup [] :: ih [] v) (fun x t _ => x :: ih t v) l) i
theorem vget_nil (i : Nat) : vget [] i = .tup [] := rfl
theorem vget_zero (x : AV) (l : List AV) : vget (x :: l) 0 = x := rfl
theorem vget_succ (x : AV) (l : List AV) (i : Nat) : vget (x :: l) (i + 1) = vget l i := rfl
theorem vset_zn (v : AV) : vset 0 [] v = [v] := rfl
theorem vset_zc (x : AV) (l : List AV) (v : AV) : vset 0 (x :: l) v = v :: l := rfl
theorem vset_sn (i : Nat) (v : AV) : vset (i + 1) [] v = .tup [] :: vset i [] v := rfl
theorem vset_sc (i : Nat) (x : AV) (l : List AV) (v : AV) : vset (i + 1) (x :: l) v = x :: vset i l v := rfl
noncomputable def vput (l : List AV) (d : Option Nat) (v : AV) : List AV := match d with | some i => vset i l v | none => l
theorem vget_set : ∀ (i : Nat) (l : List AV) (v : AV) (j : Nat), vget (vset i l v) j = if j = i then v else vget l j
  | 0, [], v, 0 => rfl
  | 0, [], v, j + 1 => by simp [vset_zn, vget_nil, vget_succ]
  | 0, x :: l, v, 0 => rfl
  | 0, x :: l, v, j + 1 => by simp [vset_zc, vget_succ]
  | i + 1, [], v, 0 => by simp [vset_sn, vget_zero, vget_nil]
  | i + 1, [], v, j + 1 => by simp only [vset_sn, vget_succ, vget_nil, vget_set i [] v j, Nat.add_right_cancel_iff]
  | i + 1, x :: l, v, 0 => by simp [vset_sc, vget_zero]
  | i + 1, x :: l, v, j + 1 => by simp only [vset_sc, vget_succ, vget_set i l v j, Nat.add_right_cancel_iff]
theorem vput_eq (l : List AV) (d : Option Nat) (v : AV) : vget (vput l d v) = Env.putO (vget l) d v := by
  cases d with
  | none => rfl
  | some i => funext j; simp only [vput, vget_set, Env.putO, Env.put]
theorem vget_args (l : List AV) : vget l = envOf l := by
  funext i
  simp only [envOf]
  induction l generalizing i with
  | nil => simp [vget_nil]
  | cons x l ih => cases i <;> simp [vget_zero, vget_succ, ih]

noncomputable def ov (l : List AV) : Opd → AV
  | .t i => vget l i
  | .c v => v
theorem ov_eq (l : List AV) (x : Opd) : ov l x = x.ev (vget l) := by cases x <;> rfl
noncomputable def ovs (l : List AV) : List Opd → List AV
  | [] => []
  | x :: r => ov l x :: ovs l r
theorem ovs_eq (l : List AV) : ∀ xs : List Opd, ovs l xs = xs.map (·.ev (vget l))
  | [] => rfl
  | x :: r => by simp only [ovs, ovs_eq l r, ov_eq, List.map_cons]
def lkF : List (Nat × Blk) → Nat → Option Blk
  | [], _ => none
  | (a, b) :: r, x => match Nat.beq a x with | true => some b | false => lkF r x
theorem lkF_eq : ∀ (H : List (Nat × Blk)) (x : Nat), lkF H x = lk H x
  | [], x => rfl
  | (a, b) :: r, x => by
    simp only [lkF, lk, lkF_eq r x]
    cases h : Nat.beq a x with
    | true => rw [if_pos (Nat.eq_of_beq_eq_true h)]
    | false => rw [if_neg (Nat.ne_of_beq_eq_false h)]
def natF : AV → Option Nat
  | .int _ (.ofNat n) => some n
  | _ => none
theorem natF_eq (v : AV) : natF v = natOf v := by
  cases v <;> try rfl
  rename_i k n
  cases n with
  | ofNat n => simp [natF, natOf]
  | negSucc n => simp [natF, natOf]
def nthS : List UInt8 → Nat → Option UInt8
  | [], _ => none
  | x :: _, 0 => some x
  | _ :: l, i + 1 => nthS l i
theorem nthS_eq : ∀ (l : List UInt8) (i : Nat), nthS l i = l[i]?
  | [], _ => by simp [nthS]
  | x :: l, 0 => by simp [nthS]
  | x :: l, i + 1 => by simp [nthS, nthS_eq l i]
theorem ble_dec {a b : Nat} {α : Type} (x y : α) : (match Nat.ble a b with | true => x | false => y) = if a ≤ b then x else y := by
  cases h : Nat.ble a b with
  | true => rw [if_pos (Nat.le_of_ble_eq_true h)]
  | false => rw [if_neg (by have := ble_false h; omega)]
noncomputable def h_mv (l : List AV) (σ : St) (x : Opd) : OR :=
  .v (ov l x) σ
noncomputable def h_pick (l : List AV) (σ : St) (c : Opd) (a : Opd) (b : Opd) : OR :=
  match ov l c with | .bool true => .v (ov l a) σ | .bool false => .v (ov l b) σ | _ => .bad
noncomputable def h_alloc (l : List AV) (σ : St) (z : List AV) : OR :=
  let ρ := vget l
  .v (.ptr σ.n 0) (σ.new (.arr z))
noncomputable def h_box (l : List AV) (σ : St) (sz : Nat) (x : Opd) : OR :=
  let ρ := vget l
  let cs := (x.ev ρ).cells; if cs.length = sz ∧ allSc cs = true then .v (.ptr σ.n 0) (σ.new (.arr cs)) else .bad
noncomputable def h_build (l : List AV) (σ : St) (z : List AV) (ps : List (Nat × Nat × Opd)) : OR :=
  let ρ := vget l
  match buildA ρ z ps with | some cs => .v (.agg cs) σ | none => .bad
noncomputable def h_lit (l : List AV) (σ : St) (sz : Nat) (xs : List Opd) : OR :=
  let ρ := vget l
  let l := xs.map (·.ev ρ); if fitSz sz l then .v (.vs l .ex) σ else .bad
noncomputable def h_load (l : List AV) (σ : St) (ag : Bool) (sz : Nat) (a : Opd) : OR :=
  match ov l a with
    | .ptr β off =>
      match lkF σ.H β with
      | some (.arr c) =>
        match ag with
        | true => (match Nat.ble (Nat.add off sz) c.length with | true => .v (.agg ((c.drop off).take sz)) σ | false => .bad)
        | false => match nth c off with | some v => .v v σ | none => .bad
      | _ => .bad
    | .ip m =>
      match ag with
      | true => (match Nat.ble sz m.length with | true => .v (.agg (m.take sz)) σ | false => .bad)
      | false => match m with | v :: _ => .v v σ | [] => .bad
    | _ => .bad
noncomputable def h_store (l : List AV) (σ : St) (sz : Nat) (a : Opd) (v : Opd) : OR :=
  let ρ := vget l
 
    match a.ev ρ with
    | .ptr β off =>
      match lk σ.H β with
      | some (.arr c) =>
        let cs := (v.ev ρ).cells
        if cs.length = sz ∧ allSc cs = true ∧ off + sz ≤ c.length then .v (.tup []) (σ.set β (.arr (putCells c off cs))) else .bad
      | _ => .bad
    | _ => .bad
noncomputable def h_nilc (l : List AV) (σ : St) (x : Opd) : OR :=
  match ov l x with | .ptr β o => .v (.ptr β o) σ | .ip l => .v (.ip l) σ | _ => .bad
noncomputable def h_bin (l : List AV) (σ : St) (op : BinOp) (x : Opd) (y : Opd) : OR :=
  eBin op (ov l x) (ov l y) σ
noncomputable def h_eqv (l : List AV) (σ : St) (kd : EK) (neg : Bool) (x : Opd) (y : Opd) : OR :=
  let ρ := vget l
  match eqK kd (x.ev ρ) (y.ev ρ) with | some t => .v (.bool (t != neg)) σ | none => .bad
noncomputable def h_eqagg (l : List AV) (σ : St) (neg : Bool) (ks : List CK) (x : Opd) (y : Opd) : OR :=
  let ρ := vget l
 
    match x.ev ρ, y.ev ρ with
    | .agg a, .agg b => if a.length = ks.length ∧ b.length = ks.length then (match eqList ks a b with | some t => .v (.bool (t != neg)) σ | none => .bad) else .bad
    | _, _ => .bad
noncomputable def h_eqnil (l : List AV) (σ : St) (neg : Bool) (x : Opd) : OR :=
  let ρ := vget l
 
    match x.ev ρ with
    | .vs [] _ => .any [(.bool true, σ), (.bool false, σ)]
    | .vs (_ :: _) _ => .v (.bool neg) σ
    | .hs _ _ _ _ => .v (.bool neg) σ
    | _ => .bad
noncomputable def h_not (l : List AV) (σ : St) (x : Opd) : OR :=
  match ov l x with | .bool true => .v (.bool false) σ | .bool false => .v (.bool true) σ | _ => .bad
noncomputable def h_conv (l : List AV) (σ : St) (k : IntKind) (x : Opd) : OR :=
  let ρ := vget l
  match x.ev ρ with | .int _ n => .v (.int k (k.wrap n)) σ | _ => .bad
noncomputable def h_b2s (l : List AV) (σ : St) (x : Opd) : OR :=
  let ρ := vget l
  match x.ev ρ with | .bs s _ => .v (.str s) σ | .vs [] _ => .v (.str []) σ | _ => .bad
noncomputable def h_mkfn (l : List AV) (σ : St) (f : Nat) (cap : List Opd) : OR :=
  let ρ := vget l
  .v (.fn f (cap.map (·.ev ρ))) σ
noncomputable def h_mkmap (l : List AV) (σ : St)  : OR :=
  let ρ := vget l
  .v (.map σ.n) (σ.new (.map [] 0))
noncomputable def h_mksl (l : List AV) (σ : St) (z : List AV) (bytes : Nat) (len : Opd) (cap : Opd) : OR :=
  let ρ := vget l
 
    match natOf (len.ev ρ), natOf (cap.ev ρ) with
    | some l, some c =>
      if l ≤ c ∧ c * (bytes + 1) ≤ maxBytes then .v (.hs σ.n 0 l c) (σ.new (.arr (List.replicate c z).flatten)) else .bad
    | _, _ => .bad
noncomputable def h_slice (l : List AV) (σ : St) (sz : Nat) (x : Opd) (lo : Option Opd) (hi : Option Opd) (mx : Option Opd) : OR :=
  let ρ := vget l
 
    match x.ev ρ with
    | .vs l t =>
      match optNat ρ 0 lo, optNat ρ l.length hi, optNat ρ l.length mx with
      | some lo, some hi, some m =>
        if lo ≤ hi ∧ hi ≤ m ∧ m ≤ l.length ∧ fitSz sz l = true then
          .v (.vs ((l.take hi).drop lo) (if mx.isSome then (if m = hi then .ex else .no) else if hi = l.length then (if lo < hi then t else if t = .ex then .ex else .no) else .no)) σ
        else .bad
      | _, _, _ => .bad
    | .hs β off len cap =>
      if mx.isSome then .bad else
      match optNat ρ 0 lo, optNat ρ len hi with
      | some lo, some hi => if lo ≤ hi ∧ hi ≤ cap ∧ hi ≤ len ∧ lo < cap then .v (.hs β (off + lo * sz) (hi - lo) (cap - lo)) σ else .bad
      | _, _ => .bad
    | _ => .bad
noncomputable def h_sslice (l : List AV) (σ : St) (x : Opd) (lo : Option Opd) (hi : Option Opd) : OR :=
  let ρ := vget l
 
    match x.ev ρ with
    | .str s =>
      match optNat ρ 0 lo, optNat ρ s.length hi with
      | some lo, some hi => if lo ≤ hi ∧ hi ≤ s.length then .v (.str ((s.take hi).drop lo)) σ else .bad
      | _, _ => .bad
    | _ => .bad
noncomputable def h_fld (l : List AV) (σ : St) (off : Nat) (x : Opd) : OR :=
  match ov l x with | .ptr β o => .v (.ptr β (Nat.add o off)) σ | .ip m => .v (.ip (m.drop off)) σ | _ => .bad
noncomputable def h_field (l : List AV) (σ : St) (ag : Bool) (off : Nat) (sz : Nat) (x : Opd) : OR :=
  let ρ := vget l
 
    match x.ev ρ with
    | .agg l => if ag then (if off + sz ≤ l.length then .v (.agg ((l.drop off).take sz)) σ else .bad)
      else match l[off]? with | some v => .v v σ | none => .bad
    | _ => .bad
noncomputable def h_idxA (l : List AV) (σ : St) (sz : Nat) (x : Opd) (i : Opd) : OR :=
  let ρ := vget l
 
    match natOf (i.ev ρ) with
    | some i =>
      match x.ev ρ with
      | .vs l _ => match l[i]? with | some e => if e.cells.length = sz then .v (.ip e.cells) σ else .bad | none => .bad
      | .hs β off len _ => if i < len then .v (.ptr β (off + i * sz)) σ else .bad
      | _ => .bad
    | none => .bad
noncomputable def h_idxP (l : List AV) (σ : St) (sz : Nat) (len : Nat) (x : Opd) (i : Opd) : OR :=
  let ρ := vget l
 
    match natOf (i.ev ρ), x.ev ρ with
    | some i, .ptr β o => if i < len then .v (.ptr β (o + i * sz)) σ else .bad
    | _, _ => .bad
noncomputable def h_idx (l : List AV) (σ : St) (ag : Bool) (sz : Nat) (len : Nat) (x : Opd) (i : Opd) : OR :=
  let ρ := vget l
 
    match natOf (i.ev ρ), x.ev ρ with
    | some i, .agg l =>
      if i < len then
        if ag then (if i * sz + sz ≤ l.length then .v (.agg ((l.drop (i * sz)).take sz)) σ else .bad)
        else match l[i * sz]? with | some v => .v v σ | none => .bad
      else .bad
    | _, _ => .bad
noncomputable def h_idxS (l : List AV) (σ : St) (x : Opd) (i : Opd) : OR :=
  match natF (ov l i), ov l x with
    | some i, .str s => match nthS s i with | some b => .v (.int .u8 (Int.ofNat b.toNat)) σ | none => .bad
    | _, _ => .bad
noncomputable def h_lookup (l : List AV) (σ : St) (ck : CK) (z : AV) (x : Opd) (i : Opd) (ok : Bool) : OR :=
  let ρ := vget l
 
    let done (r : Option (Option (Nat × AV))) : OR := match r with
      | some (some (_, v)) => .v (if ok then .tup [v, .bool true] else v) σ
      | some none => .v (if ok then .tup [z, .bool false] else z) σ
      | none => .bad
    if isKey (i.ev ρ) then
      match x.ev ρ with
      | .nilmap => done (some none)
      | .map β => match lk σ.H β with
        | some (.map es _) => done (findKeyA ck (i.ev ρ) es 0)
        | _ => .bad
      | _ => .bad
    else .bad
noncomputable def h_mapup (l : List AV) (σ : St) (kk : CK) (m : Opd) (k : Opd) (v : Opd) : OR :=
  let ρ := vget l
 
    if isKey (k.ev ρ) then
      match m.ev ρ with
      | .map β => match lk σ.H β with
        | some (.map es ck) =>
          match findKeyA kk (k.ev ρ) es 0 with
          | some (some (i, _)) => .v (.tup []) (σ.set β (.map (es.modify i fun e => { e with key := k.ev ρ, val := v.ev ρ }) ck))
          | some none => .v (.tup []) (σ.set β (.map (es ++ [⟨k.ev ρ, v.ev ρ, ck⟩]) (ck + 1)))
          | none => .bad
        | _ => .bad
      | _ => .bad
    else .bad
noncomputable def h_del (l : List AV) (σ : St) (kk : CK) (m : Opd) (k : Opd) : OR :=
  let ρ := vget l
 
    if isKey (k.ev ρ) then
      match m.ev ρ with
      | .map β => match lk σ.H β with
        | some (.map es ck) =>
          match findKeyA kk (k.ev ρ) es 0 with
          | some (some (i, _)) => .v (.tup []) (σ.set β (.map (es.eraseIdx i) ck))
          | some none => .v (.tup []) σ
          | none => .bad
        | _ => .bad
      | _ => .bad
    else .bad
noncomputable def h_range (l : List AV) (σ : St) (m : Opd) : OR :=
  let ρ := vget l
 
    match m.ev ρ with
    | .map β => match lk σ.H β with
      | some (.map _ ck) => .v (.ptr σ.n 0) (σ.new (.iter β ck []))
      | _ => .bad
    | _ => .bad
noncomputable def h_next (l : List AV) (σ : St) (it : Opd) : OR :=
  let ρ := vget l
 
    match it.ev ρ with
    | .ptr r 0 =>
      match lk σ.H r with
      | some (.iter m ck seen) =>
        match lk σ.H m with
        | some (.map es ck') =>
          if ck' = ck then
            match es.filter (fun e => !seen.contains e.born) with
            | [] => .v (.tup [.bool false]) σ
            | left => .any (left.map fun e => (.tup [.bool true, e.key, e.val], σ.set r (.iter m ck (seen ++ [e.born]))))
          else .bad
        | _ => .bad
      | _ => .bad
    | _ => .bad
noncomputable def h_entry (l : List AV) (σ : St) (it : Opd) : OR :=
  let ρ := vget l
 
    match it.ev ρ with
    | .ptr r 0 =>
      match lk σ.H r with
      | some (.iter m ck seen) =>
        match lk σ.H m, seen.getLast? with
        | some (.map es ck'), some s =>
          if ck' = ck then
            match es.find? (fun e => e.born == s) with
            | some e => .v (.tup [e.key, e.val]) σ
            | none => .bad
          else .bad
        | _, _ => .bad
      | _ => .bad
    | _ => .bad
noncomputable def h_ext (l : List AV) (σ : St) (x : Opd) (i : Nat) : OR :=
  match ov l x with | .tup m => (match nth m i with | some v => .v v σ | none => .bad) | _ => .bad
noncomputable def h_call (l : List AV) (σ : St) (f : Nat) (args : List Opd) : OR :=
  .call f (ovs l args)
noncomputable def h_callv (l : List AV) (σ : St) (x : Opd) (args : List Opd) : OR :=
  match ov l x with | .fn f cap => .call f (ovs l args ++ cap) | .yld β => .yld β (ovs l args) | _ => .bad
noncomputable def h_app (l : List AV) (σ : St) (ag : Bool) (sz : Nat) (bytes : Nat) (s : Opd) (x : Opd) : OR :=
  let ρ := vget l
 
    match readAll σ ag sz (x.ev ρ), s.ev ρ with
    | some new, .vs l t =>
      if new = [] then .v (.vs l t) σ
      else if fitSz sz l && fitSz sz new && decide ((l.length + new.length) * (bytes + 1) ≤ maxBytes) then
        match σ.retok t with
        | some σ' => .v (.vs (l ++ new) (.id σ.n)) σ'
        | none => .bad
      else .bad
    | some new, .hs β off len cap =>
      match lk σ.H β with
      | some (.arr c) =>
        if len + new.length ≤ cap ∧ off + (len + new.length) * sz ≤ c.length ∧ fitSz sz new = true then
          .v (.hs β off (len + new.length) cap) (σ.set β (.arr (putCells c (off + len * sz) (new.flatMap AV.cells))))
        else .bad
      | _ => .bad
    | _, _ => .bad
noncomputable def h_appb (l : List AV) (σ : St) (s : Opd) (x : Opd) : OR :=
  let ρ := vget l
 
    let fin (l : List UInt8) (t : Tok) (x : List UInt8) : OR :=
      if l.length + x.length ≤ maxBytes / 4 then
        match σ.retok t with
        | some σ' => .v (.bs (l ++ x) (.id σ.n)) σ'
        | none => .bad
      else .bad
    match s.ev ρ, x.ev ρ with
    | .bs l t, .str x => if x = [] then .v (.bs l t) σ else fin l t x
    | .vs [] t, .str x => if x = [] then .v (.vs [] t) σ else fin [] t x
    | _, _ => .bad
noncomputable def h_len (l : List AV) (σ : St) (k : LK) (x : Opd) : OR :=
  let ρ := vget l
 
    match k, x.ev ρ with
    | .l, .vs l _ => .v (.int .i64 l.length) σ
    | .l, .bs l _ => .v (.int .i64 l.length) σ
    | .s, .str l => .v (.int .i64 l.length) σ
    | .l, .hs _ _ len _ => .v (.int .i64 len) σ
    | .m, .nilmap => .v (.int .i64 0) σ
    | .m, .map β => match lk σ.H β with
      | some (.map es _) => .v (.int .i64 es.length) σ
      | _ => .bad
    | _, _ => .bad
noncomputable def h_copy (l : List AV) (σ : St) (sz : Nat) (d : Opd) (s : Opd) : OR :=
  let ρ := vget l
 
    match d.ev ρ with
    | .hs β off len _ =>
      match lk σ.H β, readAll σ true sz (s.ev ρ) with
      | some (.arr c), some l =>
        if l.length ≤ len ∧ off + len * sz ≤ c.length then
          .v (.int .i64 l.length) (σ.set β (.arr (putCells c off (l.flatMap AV.cells))))
        else .bad
      | _, _ => .bad
    | _ => .bad
noncomputable def h_min (l : List AV) (σ : St) (x : Opd) (y : Opd) : OR :=
  let ρ := vget l
  match x.ev ρ, y.ev ρ with | .int k a, .int k' b => if k = k' then .v (.int k (if b < a then b else a)) σ else .bad | _, _ => .bad
noncomputable def h_bad (l : List AV) (σ : St)  : OR :=
  let ρ := vget l
  .bad
noncomputable def ev2 (l : List AV) (σ : St) (o : AOp) : OR :=
  match o with
  | .mv x => h_mv l σ x
  | .pick c a b => h_pick l σ c a b
  | .alloc z => h_alloc l σ z
  | .box sz x => h_box l σ sz x
  | .build z ps => h_build l σ z ps
  | .lit sz xs => h_lit l σ sz xs
  | .load ag sz a => h_load l σ ag sz a
  | .store sz a v => h_store l σ sz a v
  | .nilc x => h_nilc l σ x
  | .bin op x y => h_bin l σ op x y
  | .eqv kd neg x y => h_eqv l σ kd neg x y
  | .eqagg neg ks x y => h_eqagg l σ neg ks x y
  | .eqnil neg x => h_eqnil l σ neg x
  | .not x => h_not l σ x
  | .conv k x => h_conv l σ k x
  | .b2s x => h_b2s l σ x
  | .mkfn f cap => h_mkfn l σ f cap
  | .mkmap  => h_mkmap l σ 
  | .mksl z bytes len cap => h_mksl l σ z bytes len cap
  | .slice sz x lo hi mx => h_slice l σ sz x lo hi mx
  | .sslice x lo hi => h_sslice l σ x lo hi
  | .fld off x => h_fld l σ off x
  | .field ag off sz x => h_field l σ ag off sz x
  | .idxA sz x i => h_idxA l σ sz x i
  | .idxP sz len x i => h_idxP l σ sz len x i
  | .idx ag sz len x i => h_idx l σ ag sz len x i
  | .idxS x i => h_idxS l σ x i
  | .lookup ck z x i ok => h_lookup l σ ck z x i ok
  | .mapup kk m k v => h_mapup l σ kk m k v
  | .del kk m k => h_del l σ kk m k
  | .range m => h_range l σ m
  | .next it => h_next l σ it
  | .entry it => h_entry l σ it
  | .ext x i => h_ext l σ x i
  | .call f args => h_call l σ f args
  | .callv x args => h_callv l σ x args
  | .app ag sz bytes s x => h_app l σ ag sz bytes s x
  | .appb s x => h_appb l σ s x
  | .len k x => h_len l σ k x
  | .copy sz d s => h_copy l σ sz d s
  | .min x y => h_min l σ x y
  | .bad  => h_bad l σ 
theorem ev2_eq (l : List AV) (σ : St) (o : AOp) : ev2 l σ o = evalOp (vget l) σ o := by
  cases o
  case bin op x y =>
    simp only [ev2, h_bin, ov_eq, eBin_eq, evalOp]
    cases binA op (x.ev (vget l)) (y.ev (vget l)) <;> rfl
  case load ag sz a =>
    simp only [ev2, h_load, ov_eq, evalOp, lkF_eq, nth_eq]
    generalize a.ev (vget l) = v
    cases v <;> try rfl
    case ptr β off =>
      dsimp only
      generalize lk σ.H β = b
      rcases b with _ | b
      · rfl
      cases b <;> try rfl
      dsimp only
      cases ag
      · rfl
      · exact ble_dec _ _
    case ip m =>
      dsimp only
      cases ag
      · rfl
      · exact ble_dec _ _
  case pick c a b =>
    simp only [ev2, h_pick, ov_eq, evalOp]
    generalize c.ev (vget l) = v
    cases v <;> try rfl
    rename_i t; cases t <;> rfl
  case not x =>
    simp only [ev2, h_not, ov_eq, evalOp]
    generalize x.ev (vget l) = v
    cases v <;> try rfl
    rename_i t; cases t <;> rfl
  case call f args => simp only [ev2, h_call, ovs_eq, evalOp]
  case callv x args =>
    simp only [ev2, h_callv, ov_eq, ovs_eq, evalOp]
    cases x.ev (vget l) <;> rfl
  case idxS x i =>
    simp only [ev2, h_idxS, ov_eq, natF_eq, nthS_eq, evalOp]
    cases natOf (i.ev (vget l)) <;> cases x.ev (vget l) <;> rfl
  case ext x i =>
    simp only [ev2, h_ext, ov_eq, nth_eq, evalOp]
    cases x.ev (vget l) <;> rfl
  case mv x => simp only [ev2, h_mv, ov_eq, evalOp]
  case nilc x =>
    simp only [ev2, h_nilc, ov_eq, evalOp]
    cases x.ev (vget l) <;> rfl
  case fld off x =>
    simp only [ev2, h_fld, ov_eq, evalOp]
    cases x.ev (vget l) <;> rfl
  all_goals rfl

end Go.Proofs.YtekhblefchceaaaGreat.AM

/- A call that is handed no memory that may be written, and answers without memory, leaves the state as it is. -/
set_option linter.unusedVariables false
namespace Go.Proofs.YtekhblefchceaaaGreat.AM
open Go
variable {P : Program} {σ : St}

def Tok.pur : Tok → Bool
  | .id _ => false
  | _ => true
mutual
def AV.pur : AV → Bool
  | .ptr _ _ => false
  | .hs _ _ _ _ => false
  | .map _ => false
  | .yld _ => false
  | .vs l t => t.pur && purL l
  | .bs _ t => t.pur
  | .ip l => purL l
  | .fn _ l => purL l
  | .agg l => purL l
  | .tup l => purL l
  | .undef => true
  | .bool _ => true
  | .int _ _ => true
  | .str _ => true
  | .nilp => true
  | .nilmap => true
  | .nilfn => true
  | .nilif => true
def purL : List AV → Bool
  | [] => true
  | x :: l => x.pur && purL l
end
theorem purL_mem : ∀ {l : List AV}, purL l = true → ∀ x, x ∈ l → x.pur = true
  | x :: l, h, y, hy => by
    simp only [purL, Bool.and_eq_true] at h
    rcases List.mem_cons.1 hy with rfl | hy
    · exact h.1
    · exact purL_mem h.2 y hy
theorem pur_cells {x y : AV} (h : x.pur = true) (hy : y ∈ x.cells) : y.pur = true := by
  cases x with
  | agg l => simp only [AV.cells] at hy; simp only [AV.pur] at h; exact purL_mem h y hy
  | _ => simp only [AV.cells, List.mem_singleton] at hy; subst hy; exact h
theorem TokR.pur {g g' : Gh} {n n' l b off sz len cap : Nat} {t : Tok} (hp : t.pur = true) (h : TokR g n l b off sz len cap t) : TokR g' n' l b off sz len cap t := by
  cases t with
  | no => trivial
  | ex => exact h
  | id τ => simp [Tok.pur] at hp
theorem VR.pur {g g' : Gh} {n n' : Nat} {ic ic' : Nat → Nat → Value → Prop} (hi : ∀ b i v, ic b i v → ic' b i v) {x : AV} {c : Value} (h : VR g n ic x c) : x.pur = true → VR g' n' ic' x c := by
  induction h with
  | undef v => exact fun _ => .undef v
  | bool b => exact fun _ => .bool b
  | int k i => exact fun _ => .int k i
  | str s => exact fun _ => .str s
  | nilp => exact fun _ => .nilp
  | ptr β off h => intro hp; simp [AV.pur] at hp
  | ip l b off cs h1 h2 ih =>
    intro hp; simp only [AV.pur] at hp
    exact .ip l b off cs (fun i hl => hi _ _ _ (h1 i hl)) (fun i x hx => ih i x hx (purL_mem hp x (List.mem_of_getElem? hx)))
  | vsn t => exact fun _ => .vsn t
  | vs l t b off cap sz cs hsz hcap h1 h2 ht ih =>
    intro hp; simp only [AV.pur, Bool.and_eq_true] at hp
    exact .vs l t b off cap sz cs hsz hcap (fun i j hl hj => hi _ _ _ (h1 i j hl hj)) (fun i j e x he hx => ih i j e x he hx (pur_cells (purL_mem hp.2 e (List.mem_of_getElem? he)) (List.mem_of_getElem? hx))) (ht.pur hp.1)
  | bs s t b off cap hcap h1 ht =>
    intro hp; simp only [AV.pur] at hp
    exact .bs s t b off cap hcap (fun i x hx => hi _ _ _ (h1 i x hx)) (ht.pur hp)
  | hs β off len cap h => intro hp; simp [AV.pur] at hp
  | nilmap => exact fun _ => .nilmap
  | map β h => intro hp; simp [AV.pur] at hp
  | nilfn => exact fun _ => .nilfn
  | fn m l cs hl h2 ih =>
    intro hp; simp only [AV.pur] at hp
    exact .fn m l cs hl (fun i x c hx hc => ih i x c hx hc (purL_mem hp x (List.mem_of_getElem? hx)))
  | yld β h => intro hp; simp [AV.pur] at hp
  | nilif => exact fun _ => .nilif
  | agg l cs hl h2 ih =>
    intro hp; simp only [AV.pur] at hp
    exact .agg l cs hl (fun i x c hx hc => ih i x c hx hc (purL_mem hp x (List.mem_of_getElem? hx)))
  | tup l cs hl h2 ih =>
    intro hp; simp only [AV.pur] at hp
    exact .tup l cs hl (fun i x c hx hc => ih i x c hx hc (purL_mem hp x (List.mem_of_getElem? hx)))

mutual
/-- No memory at all. -/
def AV.scal : AV → Bool
  | .agg l => scalL l
  | .tup l => scalL l
  | .bool _ => true
  | .int _ _ => true
  | .str _ => true
  | .nilp => true
  | .nilmap => true
  | .nilfn => true
  | .nilif => true
  | _ => false
def scalL : List AV → Bool
  | [] => true
  | x :: l => x.scal && scalL l
end
theorem scalL_mem : ∀ {l : List AV}, scalL l = true → ∀ x, x ∈ l → x.scal = true
  | x :: l, h, y, hy => by
    simp only [scalL, Bool.and_eq_true] at h
    rcases List.mem_cons.1 hy with rfl | hy
    · exact h.1
    · exact scalL_mem h.2 y hy
theorem VR.scal {g g' : Gh} {n n' : Nat} {ic ic' : Nat → Nat → Value → Prop} {x : AV} {c : Value} (h : VR g n ic x c) : x.scal = true → VR g' n' ic' x c := by
  induction h with
  | bool b => exact fun _ => .bool b
  | int k i => exact fun _ => .int k i
  | str s => exact fun _ => .str s
  | nilp => exact fun _ => .nilp
  | nilmap => exact fun _ => .nilmap
  | nilfn => exact fun _ => .nilfn
  | nilif => exact fun _ => .nilif
  | agg l cs hl h2 ih =>
    intro hp; simp only [AV.scal] at hp
    exact .agg l cs hl (fun i x c hx hc => ih i x c hx hc (scalL_mem hp x (List.mem_of_getElem? hx)))
  | tup l cs hl h2 ih =>
    intro hp; simp only [AV.scal] at hp
    exact .tup l cs hl (fun i x c hx hc => ih i x c hx hc (scalL_mem hp x (List.mem_of_getElem? hx)))
  | _ => intro hp; simp [AV.scal] at hp

theorem rel_none (g : Gh) (n : Nat) (h : Heap) : Rel P g ⟨[], n⟩ h := ⟨fun β k hk => by simp [lk] at hk, fun β γ k k' hk => by simp [lk] at hk, fun β k hk => by simp [lk] at hk⟩

/-- Nothing that was there has changed. -/
theorem kept_all {g g' : Gh} {σ' : St} {h h' : Heap} (e : Evo g ⟨[], 0⟩ h g' σ' h') (b : Nat) (o : Obj) (ho : h[b]? = some o) : h'[b]? = some o := by
  by_cases hc : ∃ c t z, o = .cells c t z
  · obtain ⟨c, t, z, rfl⟩ := hc
    obtain ⟨c', h1, h2⟩ := e.ekc b c t z ho
    rw [h1]
    have : c' = c := by
      apply Array.ext h2
      intro i i1 i2
      have hi : IC g [] h b i c[i] := ⟨by simp [hc, ho, i2], fun ⟨β, k, hk, _⟩ => by simp [lk] at hk⟩
      have := (e.eic b i _ hi).1
      simp [hc, h1, i1] at this
      exact this
    rw [this]
  · have hd : DO g [] h b o := ⟨ho, fun c t z e => hc ⟨c, t, z, e⟩, fun β k hk => by simp [lk] at hk⟩
    exact (e.edo b o hd).1

theorem ACalls.frame {f : Nat} {args : List AV} {K : AV → St → Prop} (h : ACalls P f args ⟨[], 0⟩ K) (ha : purL args = true) (hk : ∀ v σ', K v σ' → v.scal = true) : ACalls P f args σ (fun v σ' => (∃ σ0, K v σ0) ∧ σ' = σ) :=
  ⟨h.1, let ⟨v, σ', hv⟩ := h.2.1; ⟨v, σ, ⟨σ', hv⟩, rfl⟩, fun g w cargs r hl => by
    refine (h.2.2 g w cargs (rel_none g 0 w.heap) ⟨hl.1, fun i x c hx hc => VR.pur (fun b i v hi => ⟨hi.1, fun ⟨β, k, hk, _⟩ => by simp [lk] at hk⟩) (hl.2 i x c hx hc) (purL_mem ha x (List.mem_of_getElem? hx))⟩).mono fun e w' hp => ?_
    cases e with
    | panicked _ => exact hp.elim
    | outgrown => exact hp.elim
    | returned cv =>
      obtain ⟨v, σ1, g1, h1, h2, h3, h4⟩ := hp
      have hka := kept_all h4.toEvo
      have hcs : ∀ b i v, hc w.heap b i = some v → hc w'.heap b i = some v := by
        intro b i v hv
        unfold hc at hv ⊢
        cases ho : w.heap[b]? with
        | none => simp [ho] at hv
        | some o => rw [hka b o ho]; rw [ho] at hv; exact hv
      have hic : ∀ b i v, IC g σ.H w.heap b i v → IC g σ.H w'.heap b i v := fun b i v hi => ⟨hcs b i v hi.1, hi.2⟩
      refine ⟨v, σ, g, ⟨⟨σ1, h1⟩, rfl⟩, ⟨r.lt, r.inj, fun β k hk => ?_⟩, VR.scal h3 (hk v σ1 h1), ⟨Nat.le_refl _, g.le_refl _, hic, fun b o hd => ⟨hka b o hd.1, hd.2⟩, h4.esz, h4.ekc⟩, h4.os, h4.out⟩
      have hb := r.blk β k hk
      have hlt := hb.lt
      have ho : w.heap[g.bl β]? = some w.heap[g.bl β] := Array.getElem?_eq_getElem hlt
      rw [hka _ _ ho, ← ho]
      exact hb.mono (Nat.le_refl _) (g.le_refl _) (r.lt β k hk) hic⟩

end Go.Proofs.YtekhblefchceaaaGreat.AM

/- What a call made may be forgotten, with its numbers. -/
set_option linter.unusedVariables false
namespace Go.Proofs.YtekhblefchceaaaGreat.AM
open Go
variable {P : Program} {σ : St}

/-! ### Numbers below a bound -/
def bndT (n : Nat) : Tok → Bool
  | .id τ => Nat.blt τ n
  | _ => true
mutual
def bndV (n : Nat) : AV → Bool
  | .ptr β _ => Nat.blt β n
  | .hs β _ _ _ => Nat.blt β n
  | .map β => Nat.blt β n
  | .yld β => Nat.blt β n
  | .vs l t => bndT n t && bndL n l
  | .bs _ t => bndT n t
  | .ip l => bndL n l
  | .fn _ l => bndL n l
  | .agg l => bndL n l
  | .tup l => bndL n l
  | _ => true
def bndL (n : Nat) : List AV → Bool
  | [] => true
  | x :: l => bndV n x && bndL n l
end
def bndE (n : Nat) : List MEnt → Bool
  | [] => true
  | e :: r => bndV n e.key && bndV n e.val && bndE n r
def bndB (n : Nat) : Blk → Bool
  | .arr c => bndL n c
  | .tok => true
  | .map es _ => bndE n es
  | .iter m _ _ => Nat.blt m n
  | .loop _ _ ρ _ _ _ => bndL n ρ
def bndH (n : Nat) : List (Nat × Blk) → Bool
  | [] => true
  | (β, b) :: r => Nat.blt β n && bndB n b && bndH n r
theorem bndH_lk {n : Nat} : ∀ {H : List (Nat × Blk)} {β : Nat} {b : Blk}, bndH n H = true → lk H β = some b → β < n ∧ bndB n b = true
  | [], β, b, _, h => by simp [lk] at h
  | (a, c) :: r, β, b, hb, h => by
    simp only [bndH, Bool.and_eq_true, Nat.blt_eq] at hb
    simp only [lk] at h
    split at h
    · rename_i e
      simp only [Option.some.injEq] at h
      subst h
      rw [← e]
      exact hb.1
    · exact bndH_lk hb.2 h


theorem bndL_mem {n : Nat} : ∀ {l : List AV}, bndL n l = true → ∀ x, x ∈ l → bndV n x = true
  | x :: l, h, y, hy => by
    simp only [bndL, Bool.and_eq_true] at h
    rcases List.mem_cons.1 hy with rfl | hy
    · exact h.1
    · exact bndL_mem h.2 y hy
theorem bnd_cells {n : Nat} {x y : AV} (h : bndV n x = true) (hy : y ∈ x.cells) : bndV n y = true := by
  cases x with
  | agg l => simp only [AV.cells] at hy; simp only [bndV] at h; exact bndL_mem h y hy
  | _ => simp only [AV.cells, List.mem_singleton] at hy; subst hy; exact h
theorem TokR.low {g : Gh} {n m l b off sz len cap : Nat} {t : Tok} (hb : bndT m t = true) (h : TokR g n l b off sz len cap t) : TokR g m l b off sz len cap t := by
  cases t with
  | no => trivial
  | ex => exact h
  | id τ => simp only [bndT, Nat.blt_eq] at hb; exact ⟨hb, h.2⟩
theorem VR.low {g : Gh} {n m : Nat} {ic ic' : Nat → Nat → Value → Prop} (hi : ∀ b i v, ic b i v → ic' b i v) {x : AV} {c : Value} (h : VR g n ic x c) : bndV m x = true → VR g m ic' x c := by
  induction h with
  | undef v => exact fun _ => .undef v
  | bool b => exact fun _ => .bool b
  | int k i => exact fun _ => .int k i
  | str s => exact fun _ => .str s
  | nilp => exact fun _ => .nilp
  | ptr β off h => intro hb; simp only [bndV, Nat.blt_eq] at hb; exact .ptr β off hb
  | ip l b off cs h1 h2 ih =>
    intro hb; simp only [bndV] at hb
    exact .ip l b off cs (fun i hl => hi _ _ _ (h1 i hl)) (fun i x hx => ih i x hx (bndL_mem hb x (List.mem_of_getElem? hx)))
  | vsn t => exact fun _ => .vsn t
  | vs l t b off cap sz cs hsz hcap h1 h2 ht ih =>
    intro hb; simp only [bndV, Bool.and_eq_true] at hb
    exact .vs l t b off cap sz cs hsz hcap (fun i j hl hj => hi _ _ _ (h1 i j hl hj)) (fun i j e x he hx => ih i j e x he hx (bnd_cells (bndL_mem hb.2 e (List.mem_of_getElem? he)) (List.mem_of_getElem? hx))) (ht.low hb.1)
  | bs s t b off cap hcap h1 ht =>
    intro hb; simp only [bndV] at hb
    exact .bs s t b off cap hcap (fun i x hx => hi _ _ _ (h1 i x hx)) (ht.low hb)
  | hs β off len cap h => intro hb; simp only [bndV, Nat.blt_eq] at hb; exact .hs β off len cap hb
  | nilmap => exact fun _ => .nilmap
  | map β h => intro hb; simp only [bndV, Nat.blt_eq] at hb; exact .map β hb
  | nilfn => exact fun _ => .nilfn
  | fn k l cs hl h2 ih =>
    intro hb; simp only [bndV] at hb
    exact .fn k l cs hl (fun i x c hx hc => ih i x c hx hc (bndL_mem hb x (List.mem_of_getElem? hx)))
  | yld β h => intro hb; simp only [bndV, Nat.blt_eq] at hb; exact .yld β hb
  | nilif => exact fun _ => .nilif
  | agg l cs hl h2 ih =>
    intro hb; simp only [bndV] at hb
    exact .agg l cs hl (fun i x c hx hc => ih i x c hx hc (bndL_mem hb x (List.mem_of_getElem? hx)))
  | tup l cs hl h2 ih =>
    intro hb; simp only [bndV] at hb
    exact .tup l cs hl (fun i x c hx hc => ih i x c hx hc (bndL_mem hb x (List.mem_of_getElem? hx)))
theorem bndE_mem {n : Nat} : ∀ {es : List MEnt}, bndE n es = true → ∀ e, e ∈ es → bndV n e.key = true ∧ bndV n e.val = true
  | e :: r, h, y, hy => by
    simp only [bndE, Bool.and_eq_true] at h
    rcases List.mem_cons.1 hy with rfl | hy
    · exact h.1
    · exact bndE_mem h.2 y hy
theorem BR.low {g : Gh} {n m : Nat} {ic ic' : Nat → Nat → Value → Prop} {β : Nat} {k : Blk} {o : Option Obj} (hi : ∀ b i v, ic b i v → ic' b i v) (hb : bndB m k = true) (h : BR P g n ic β k o) : BR P g m ic' β k o := by
  cases k with
  | arr c => obtain ⟨cs, e, ho, hs, hv⟩ := h; exact ⟨cs, e, ho, hs, fun i x v h1 h2 => (hv i x v h1 h2).low hi (bndL_mem hb x (List.mem_of_getElem? h1))⟩
  | tok => exact h
  | map es ck =>
    obtain ⟨ces, ho, hs, hv, hn'⟩ := h
    refine ⟨ces, ho, hs, fun i e ce h1 h2 => ?_, hn'⟩
    obtain ⟨a, b, c, d⟩ := hv i e ce h1 h2
    obtain ⟨b1, b2⟩ := bndE_mem hb e (List.mem_of_getElem? h1)
    exact ⟨a.low hi b1, b.low hi b2, c, d⟩
  | iter mm ck seen => obtain ⟨h1, h2⟩ := h; simp only [bndB, Nat.blt_eq] at hb; exact ⟨hb, h2⟩
  | loop st pend ρ params asg body =>
    obtain ⟨L, ho, h2, h3, h4⟩ := h
    exact ⟨L, ho, h2, fun i x v a b => (h3 i x v a b).low hi (bndL_mem hb x (List.mem_of_getElem? a)), h4⟩

/-- Behind a call all may be forgotten that it made, with its numbers. -/
theorem ACalls.tight {f : Nat} {args : List AV} {K K' : AV → St → Prop} (h : ACalls P f args σ K)
    (hk : ∀ v σ', K v σ' → ∃ H, (∀ β b, lk H β = some b → lk σ'.H β = some b) ∧ bndH σ.n H = true ∧ bndV σ.n v = true ∧ K' v ⟨H, σ.n⟩) : ACalls P f args σ K' :=
  ⟨h.1, let ⟨v, σ', hv⟩ := h.2.1; let ⟨H, _, _, _, h'⟩ := hk v σ' hv; ⟨_, _, h'⟩, fun g w cargs r hl => (h.2.2 g w cargs r hl).mono fun e w' hp => by
    cases e with
    | panicked _ => exact hp.elim
    | outgrown => exact hp.elim
    | returned cv =>
      obtain ⟨v, σ', g', h1, h2, h3, h4⟩ := hp
      obtain ⟨H, hs, hb, hv, hk'⟩ := hk v σ' h1
      obtain ⟨r', e'⟩ := rel_drop (P := P) H σ'.n (Nat.le_refl _) h2 hs
      refine ⟨v, ⟨H, σ.n⟩, g', hk', ⟨fun β k hk => (bndH_lk hb hk).1, r'.inj, fun β k hk => ?_⟩, VR.low e'.eic h3 hv, ⟨Nat.le_refl _, h4.eg, fun b i v x => e'.eic _ _ _ (h4.eic b i v x), fun b o x => e'.edo _ _ (h4.edo b o x), h4.esz, h4.ekc⟩, h4.os, h4.out⟩
      exact (r'.blk β k hk).low (fun _ _ _ h => h) (bndH_lk hb hk).2⟩

end Go.Proofs.YtekhblefchceaaaGreat.AM

/- An interpreter of the abstract machine, its rules. What it answers, the machine does. -/
set_option linter.unusedVariables false
namespace Go.Proofs.YtekhblefchceaaaGreat.AM
open Go
variable {P : Program} {σ : St}

def coll {α β : Type} (f : α → Option (List β)) : List α → Option (List β)
  | [] => some []
  | x :: r => match r with
    | [] => f x
    | _ :: _ => match f x with
      | none => none
      | some a => match coll f r with
        | none => none
        | some b => some (a ++ b)
theorem coll_mem {α β : Type} {f : α → Option (List β)} : ∀ {l : List α} {m : List β}, coll f l = some m → ∀ x, x ∈ l → ∃ a, f x = some a ∧ ∀ y, y ∈ a → y ∈ m
  | [], m, h, x, hx => by simp at hx
  | [z], m, h, x, hx => by
    simp only [coll] at h
    rw [List.mem_singleton.1 hx]
    exact ⟨m, h, fun _ hy => hy⟩
  | z :: z' :: r, m, h, x, hx => by
    simp only [coll] at h
    split at h
    · cases h
    · rename_i a ha
      split at h
      · cases h
      · rename_i b hb
        simp only [Option.some.injEq] at h
        subst h
        rcases List.mem_cons.1 hx with rfl | hx
        · exact ⟨a, ha, fun y hy => by simp [hy]⟩
        · obtain ⟨c, hc, h2⟩ := coll_mem (l := z' :: r) (by simp only [coll]; exact hb) x hx
          exact ⟨c, hc, fun y hy => by simp [h2 y hy]⟩

inductive Tgt where
  | f (n : Nat)
  | y (β : Nat)
abbrev CallF := Tgt → List AV → St → Option (List (AV × St))

noncomputable def doOne (call : CallF) (i : AInstr) (l : List AV) (σ : St) : Option (List (List AV × St)) :=
  match wanted (vget l) i.guard with
  | some true =>
    match ev2 l σ i.op with
    | .v v σ' => some [(vput l i.dst v, σ')]
    | .any xs => match xs with
      | [] => none
      | x :: r => some ((x :: r).map fun p => (vput l i.dst p.1, p.2))
    | .call f args => match call (.f f) args σ with
      | none => none
      | some xs => some (xs.map fun p => (vput l i.dst p.1, p.2))
    | .yld β args => match call (.y β) args σ with
      | none => none
      | some xs => some (xs.map fun p => (vput l i.dst p.1, p.2))
    | .bad => none
  | some false => some [(vput l i.dst (.tup []), σ)]
  | none => none
noncomputable def doAll (call : CallF) : List AInstr → List AV → St → Option (List (List AV × St))
  | [], l, σ => some [(l, σ)]
  | i :: r, l, σ => match doOne call i l σ with
    | none => none
    | some xs => coll (fun p => doAll call r p.1 p.2) xs

/-- The calls are sound. -/
def CS (P : Program) (call : CallF) : Prop := ∀ t args σ xs, call t args σ = some xs → match t with
  | .f n => ACalls P n args σ (fun v σ' => (v, σ') ∈ xs)
  | .y β => AYields P β args σ (fun v σ' => (v, σ') ∈ xs)

theorem doOne_sound {call : CallF} (hc : CS P call) {i : AInstr} {l : List AV} {xs : List (List AV × St)} (h : doOne call i l σ = some xs) {K : Env → St → Prop} (hk : ∀ p, p ∈ xs → K (vget p.1) p.2) : AO P i K (vget l) σ := by
  unfold doOne at h
  rw [ev2_eq] at h
  unfold AO
  split at h
  · rename_i hw
    rw [hw]
    simp only
    split at h
    · rename_i v σ' he
      simp only [Option.some.injEq] at h; subst h
      rw [he]
      have := hk _ (List.mem_singleton.2 rfl)
      simpa only [vput_eq, upon] using this
    · rename_i xs0 he
      rw [he]
      split at h
      · cases h
      · simp only [Option.some.injEq] at h; subst h
        refine ⟨by simp, fun p hp => ?_⟩
        have := hk _ (List.mem_map.2 ⟨p, hp, rfl⟩)
        simpa only [vput_eq] using this
    · rename_i f args he
      rw [he]
      split at h
      · cases h
      · rename_i ys hy
        simp only [Option.some.injEq] at h; subst h
        refine ACalls.mono (hc _ _ _ _ hy) fun v σ' hm => ?_
        have := hk _ (List.mem_map.2 ⟨(v, σ'), hm, rfl⟩)
        simpa only [vput_eq] using this
    · rename_i β args he
      rw [he]
      split at h
      · cases h
      · rename_i ys hy
        simp only [Option.some.injEq] at h; subst h
        refine AYields.mono (hc _ _ _ _ hy) fun v σ' hm => ?_
        have := hk _ (List.mem_map.2 ⟨(v, σ'), hm, rfl⟩)
        simpa only [vput_eq] using this
    · cases h
  · rename_i hw
    rw [hw]
    simp only [Option.some.injEq] at h; subst h
    have := hk _ (List.mem_singleton.2 rfl)
    simpa only [vput_eq] using this
  · cases h

theorem doAll_sound {call : CallF} (hc : CS P call) {K : Env → St → Prop} : ∀ {is : List AInstr} {l : List AV} {σ : St} {xs : List (List AV × St)}, doAll call is l σ = some xs → (∀ p, p ∈ xs → K (vget p.1) p.2) → AL P is K (vget l) σ
  | [], l, σ, xs, h, hk => by
    simp only [doAll, Option.some.injEq] at h; subst h
    exact hk _ (List.mem_singleton.2 rfl)
  | i :: r, l, σ, xs, h, hk => by
    simp only [doAll] at h
    split at h
    · cases h
    · rename_i ys hy
      refine doOne_sound hc hy fun p hp => ?_
      obtain ⟨a, ha, h2⟩ := coll_mem h p hp
      exact doAll_sound hc ha fun q hq => hk q (h2 q hq)

/-! ### Regions that draw -/
def sbB : List (Nat × Blk) → St → Bool
  | [], _ => true
  | (β, b) :: r, σ => (match lk σ.H β with | some c => beqB c b | none => false) && sbB r σ
theorem sbB_eq : ∀ {l : List (Nat × Blk)} {σ : St}, sbB l σ = true → SB l σ
  | [], σ, _ => SB.nil σ
  | (β, b) :: r, σ, h => by
    simp only [sbB, Bool.and_eq_true] at h
    obtain ⟨h1, h2⟩ := h
    split at h1
    · rename_i c hc
      exact SB.cons (by rw [hc, beqB_eq h1]) (sbB_eq h2)
    · cases h1
noncomputable def doT (call : CallF) (is : List AInstr) (l : List (Nat × Blk)) : QT → List AV → St → Option (List (List AV × St))
  | .nil, e, σ => some [(e, σ)]
  | .p i t, e, σ => match doOne call (is.getD i default) e ⟨l, 0⟩ with
    | none => none
    | some xs => coll (fun p => doT call is l t p.1 σ) xs
  | .q i t, e, σ => match wanted (vget e) (is.getD i default).guard, (is.getD i default).op with
    | some true, .call f args => match purL (ovs e args) with
      | true => match call (.f f) (ovs e args) ⟨[], 0⟩ with
        | some [(v, _)] => match v.scal with
          | true => doT call is l t (vput e (is.getD i default).dst v) σ
          | false => none
        | _ => none
      | false => none
    | _, _ => none
  | .a i t, e, σ => match doOne call (is.getD i default) e σ with
    | none => none
    | some xs => coll (fun p => if sbB l p.2 = true then doT call is l t p.1 p.2 else none) xs
  | .z i t, e, σ => match doOne call (is.getD i default) e σ with
    | none => none
    | some xs => coll (fun p => doT call is l t p.1 p.2) xs
  | .b i t j u, e, σ => match doOne call (is.getD i default) e σ, doOne call (is.getD j default) e σ with
    | some xs, some ys => match coll (fun p => if sbB l p.2 = true then doT call is l t p.1 p.2 else none) xs, coll (fun p => if sbB l p.2 = true then doT call is l u p.1 p.2 else none) ys with
      | some a, some b => some (a ++ b)
      | _, _ => none
    | _, _ => none
  | .c _ _ _ _ _ _, _, _ => none
theorem doT_sound {call : CallF} (hc : CS P call) {is : List AInstr} {l : List (Nat × Blk)} {K : Env → St → Prop} : ∀ {t : QT} {e : List AV} {σ : St} {xs : List (List AV × St)}, doT call is l t e σ = some xs → (∀ p, p ∈ xs → K (vget p.1) p.2) → AQ P is l K t (vget e) σ
  | .nil, e, σ, xs, h, hk => by
    simp only [doT, Option.some.injEq] at h; subst h
    exact hk _ (List.mem_singleton.2 rfl)
  | .p i t, e, σ, xs, h, hk => by
    simp only [doT] at h
    split at h
    · cases h
    · rename_i ys hy
      refine doOne_sound hc hy fun p hp => ?_
      obtain ⟨a, ha, h2⟩ := coll_mem h p hp
      exact doT_sound hc ha fun q hq => hk q (h2 q hq)
  | .q i t, e, σ, xs, h, hk => by
    simp only [doT] at h
    split at h
    · rename_i f args hw hop
      split at h
      · rename_i hp
        split at h
        · rename_i v σ0 hcall
          split at h
          · rename_i hsc
            refine ⟨v, fun σ' => ?_, ?_⟩
            · unfold AO
              rw [hw, hop]
              simp only [evalOp, upon]
              have h1 := hc (.f f) _ _ _ hcall
              rw [ovs_eq] at h1 hp
              refine (ACalls.frame (σ := σ') h1 hp (fun v' σ1 hm => ?_)).mono fun v' σ1 hm => ?_
              · have := List.mem_singleton.1 hm
                simp only [Prod.mk.injEq] at this
                rw [this.1]; exact hsc
              · obtain ⟨⟨σ2, hm⟩, rfl⟩ := hm
                have := List.mem_singleton.1 hm
                simp only [Prod.mk.injEq] at this
                rw [this.1]; exact ⟨rfl, rfl⟩
            · rw [← vput_eq]
              exact doT_sound hc h hk
          · cases h
        · cases h
      · cases h
    · cases h
  | .a i t, e, σ, xs, h, hk => by
    simp only [doT] at h
    split at h
    · cases h
    · rename_i ys hy
      refine doOne_sound hc hy fun p hp => ?_
      obtain ⟨a, ha, h2⟩ := coll_mem h p hp
      split at ha
      · rename_i hs
        exact ⟨sbB_eq hs, doT_sound hc ha fun q hq => hk q (h2 q hq)⟩
      · cases ha
  | .z i t, e, σ, xs, h, hk => by
    simp only [doT] at h
    split at h
    · cases h
    · rename_i ys hy
      refine doOne_sound hc hy fun p hp => ?_
      obtain ⟨a, ha, h2⟩ := coll_mem h p hp
      exact doT_sound hc ha fun q hq => hk q (h2 q hq)
  | .b i t j u, e, σ, xs, h, hk => by
    simp only [doT] at h
    split at h
    · rename_i ys zs hy hz
      split at h
      · rename_i a b ha hb
        simp only [Option.some.injEq] at h; subst h
        refine ⟨doOne_sound hc hy fun p hp => ?_, doOne_sound hc hz fun p hp => ?_⟩
        · obtain ⟨c, hc', h2⟩ := coll_mem ha p hp
          split at hc'
          · rename_i hs
            exact ⟨sbB_eq hs, doT_sound hc hc' fun q hq => hk q (List.mem_append_left _ (h2 q hq))⟩
          · cases hc'
        · obtain ⟨c, hc', h2⟩ := coll_mem hb p hp
          split at hc'
          · rename_i hs
            exact ⟨sbB_eq hs, doT_sound hc hc' fun q hq => hk q (List.mem_append_right _ (h2 q hq))⟩
          · cases hc'
      · cases h
    · cases h
  | .c _ _ _ _ _ _, e, σ, xs, h, hk => by simp [doT] at h

/-- The block at the end of a path: a temporary, and cells. -/
noncomputable def pathB (σ : St) : AV → List Nat → Option (Nat × Blk)
  | .ptr β _, [] => (lk σ.H β).map fun b => (β, b)
  | .map β, [] => (lk σ.H β).map fun b => (β, b)
  | .hs β _ _ _, [] => (lk σ.H β).map fun b => (β, b)
  | .ptr β off, o :: r => match lk σ.H β with
    | some (.arr c) => pathB σ (vget c (off + o)) r
    | _ => none
  | _, _ => none
noncomputable def pathsB (σ : St) (l : List AV) : List (Nat × List Nat) → List (Nat × Blk)
  | [] => []
  | (t, p) :: r => match pathB σ (vget l t) p with
    | some x => x :: pathsB σ l r
    | none => pathsB σ l r

abbrev Hints := Nat → Nat → Option (Option Nat × QT × List (Nat × List Nat))
def firstDst : List AInstr → Nat
  | [] => 0
  | i :: r => match i.dst with | some d => d | none => firstDst r
noncomputable def doQ (call : CallF) (hint : Hints) (is : List AInstr) (deps : List (List Nat)) (e : List AV) (σ : St) : Option (List (List AV × St)) :=
  match hint (firstDst is) is.length with
  | none => none
  | some (z, t, ps) =>
    if (okQ is deps (ancs [] deps) z t [] && Nat.ble t.depth is.length) = true then
      let l := pathsB σ e ps
      if sbB l σ = true then doT call is l t e σ else none
    else none

/-! ### Code -/
abbrev Outc := List (Ex × List AV × St)
noncomputable def loopX (body : List AV → St → Option Outc) : Nat → List AV → St → Option Outc
  | 0, _, _ => none
  | n + 1, l, σ => match body l σ with
    | none => none
    | some xs => coll (fun p => match p.1 with
      | .nrm => loopX body n p.2.1 p.2.2
      | _ => some [p]) xs
noncomputable def execC (call : CallF) (hint : Hints) (lf nt : Nat) (top : Bool) : ACode → List AV → St → Option Outc
  | .skip, l, σ => some [(.nrm, l, σ)]
  | .exit i, l, σ => some [(.ext i, l, σ)]
  | .ret, l, σ => some [(.ret, l, σ)]
  | .seq a b, l, σ => match execC call hint lf nt top a l σ with
    | none => none
    | some xs => coll (fun p => match p.1 with
      | .nrm => execC call hint lf nt top b p.2.1 p.2.2
      | _ => some [p]) xs
  | .rg is, l, σ => match doAll call is l σ with
    | none => none
    | some xs => some (xs.map fun p => (.nrm, p.1, p.2))
  | .qrg is deps, l, σ => match doQ call hint is deps l σ with
    | none => none
    | some xs => some (xs.map fun p => (.nrm, p.1, p.2))
  | .cond c a b, l, σ => match c.ev (vget l) with
    | .bool true => execC call hint lf nt top a l σ
    | .bool false => execC call hint lf nt top b l σ
    | _ => none
  | .block id c, l, σ => match execC call hint lf nt top c l σ with
    | none => none
    | some xs => some (xs.map fun p => match p.1 with
      | .ext i => if i = id then (.nrm, p.2.1, p.2.2) else p
      | _ => p)
  | .loop c, l, σ => loopX (execC call hint lf nt top c) lf l σ
  | .scope c, l, σ => execC call hint lf nt top c l σ
  | .rf f ps asg body, l, σ => match top, f.ev (vget l) with
    | true, .fn gf cap => match call (.f gf) (.yld σ.n :: cap) (σ.new (.loop .ready none ((List.range nt).map (vget l)) ps asg body)) with
      | none => none
      | some xs => coll (fun p => match lk p.2.H σ.n with
        | some (.loop .ready none _ _ _ _) => some [(.nrm, l, p.2.del σ.n)]
        | some (.loop .done none _ _ _ _) => some [(.nrm, l, p.2.del σ.n)]
        | some (.loop .done (some (.exit i)) _ _ _ _) => some [(.ext i, l, p.2.del σ.n)]
        | some (.loop .done (some .ret) _ _ _ _) => some [(.ret, l, p.2.del σ.n)]
        | _ => none) xs
    | _, _ => none
  | .bad, _, _ => none

/-- One of these ways. -/
def In (xs : Outc) (x : Ex) (ρ : Env) (σ : St) : Prop := ∃ l, ρ = vget l ∧ (x, l, σ) ∈ xs
theorem In.mono {xs ys : Outc} (h : ∀ p, p ∈ xs → p ∈ ys) {x : Ex} {ρ : Env} {σ : St} (hx : In xs x ρ σ) : In ys x ρ σ := let ⟨l, e, hm⟩ := hx; ⟨l, e, h _ hm⟩
theorem LoopN.mono {ro : Option Nat} {nt : Nat} {c : ACode} {Q Q' : Ex → Env → St → Prop} (h : ∀ x ρ σ, Q x ρ σ → Q' x ρ σ) : ∀ {n : Nat} {ρ : Env} {σ : St}, LoopN P ro nt c Q n ρ σ → LoopN P ro nt c Q' n ρ σ
  | 0, _, _, hn => hn
  | n + 1, ρ, σ, hn => AW.mono hn fun x ρ σ hx => by
    cases x with
    | nrm => exact LoopN.mono h hx
    | ext i => exact h _ _ _ hx
    | ret => exact h _ _ _ hx

section
variable {call : CallF} {hint : Hints} {lf nt : Nat}

theorem loopX_sound {ro : Option Nat} {c : ACode} {body : List AV → St → Option Outc} (hb : ∀ l σ xs, body l σ = some xs → AW P ro nt c (In xs) (vget l) σ) : ∀ (n : Nat) (l : List AV) (σ : St) (xs : Outc),
    loopX body n l σ = some xs → LoopN P ro nt c (In xs) n (vget l) σ
  | 0, l, σ, xs, h => by simp [loopX] at h
  | n + 1, l, σ, xs, h => by
    simp only [loopX] at h
    split at h
    · cases h
    · rename_i ys hy
      refine AW.mono (hb _ _ _ hy) fun x ρ σ' hx => ?_
      obtain ⟨l', rfl, hm⟩ := hx
      obtain ⟨a, ha, h2⟩ := coll_mem h _ hm
      cases x with
      | nrm => exact LoopN.mono (fun x ρ σ hx => hx.mono h2) (loopX_sound hb n l' σ' a ha)
      | ext i =>
        simp only [Option.some.injEq] at ha; subst ha
        exact ⟨l', rfl, h2 _ (List.mem_singleton.2 rfl)⟩
      | ret =>
        simp only [Option.some.injEq] at ha; subst ha
        exact ⟨l', rfl, h2 _ (List.mem_singleton.2 rfl)⟩

theorem execC_sound (hm : P.follows .mixedOrders = true) (hc : CS P call) (top : Bool) (ro : Option Nat) (hro : top = true → ro = none) : ∀ (c : ACode) (l : List AV) (σ : St) (xs : Outc), execC call hint lf nt top c l σ = some xs → AW P ro nt c (In xs) (vget l) σ
  | .skip, l, σ, xs, h => by
    simp only [execC, Option.some.injEq] at h; subst h
    exact AW.skip ⟨l, rfl, List.mem_singleton.2 rfl⟩
  | .exit i, l, σ, xs, h => by
    simp only [execC, Option.some.injEq] at h; subst h
    exact AW.exit ⟨l, rfl, List.mem_singleton.2 rfl⟩
  | .ret, l, σ, xs, h => by
    simp only [execC, Option.some.injEq] at h; subst h
    exact AW.ret ⟨l, rfl, List.mem_singleton.2 rfl⟩
  | .seq a b, l, σ, xs, h => by
    simp only [execC] at h
    split at h
    · cases h
    · rename_i ys hy
      refine AW.seq (AW.mono (execC_sound hm hc top ro hro a l σ ys hy) fun x ρ σ' hx => ?_)
      obtain ⟨l', rfl, hmm⟩ := hx
      obtain ⟨z, hz, h2⟩ := coll_mem h _ hmm
      cases x with
      | nrm => exact AW.mono (execC_sound hm hc top ro hro b l' σ' z hz) fun x ρ σ hx => hx.mono h2
      | ext i =>
        simp only [Option.some.injEq] at hz; subst hz
        exact ⟨l', rfl, h2 _ (List.mem_singleton.2 rfl)⟩
      | ret =>
        simp only [Option.some.injEq] at hz; subst hz
        exact ⟨l', rfl, h2 _ (List.mem_singleton.2 rfl)⟩
  | .rg is, l, σ, xs, h => by
    simp only [execC] at h
    split at h
    · cases h
    · rename_i ys hy
      simp only [Option.some.injEq] at h; subst h
      exact AW.rg hm (doAll_sound hc hy fun p hp => ⟨p.1, rfl, List.mem_map.2 ⟨p, hp, rfl⟩⟩)
  | .qrg is deps, l, σ, xs, h => by
    simp only [execC] at h
    split at h
    · cases h
    · rename_i ys hy
      simp only [Option.some.injEq] at h; subst h
      simp only [doQ] at hy
      split at hy
      · cases hy
      · rename_i z t ps _
        split at hy
        · rename_i hok
          simp only [Bool.and_eq_true] at hok
          split at hy
          · rename_i hs
            exact AW.qt z t (pathsB σ l ps) hm hok.1 (Nat.le_of_ble_eq_true hok.2) (sbB_eq hs) (doT_sound hc hy fun p hp => ⟨p.1, rfl, List.mem_map.2 ⟨p, hp, rfl⟩⟩)
          · cases hy
        · cases hy
  | .cond c a b, l, σ, xs, h => by
    simp only [execC] at h
    split at h
    · rename_i he
      exact AW.cond he (execC_sound hm hc top ro hro a l σ xs h)
    · rename_i he
      exact AW.cond he (execC_sound hm hc top ro hro b l σ xs h)
    · cases h
  | .block id c, l, σ, xs, h => by
    simp only [execC] at h
    split at h
    · cases h
    · rename_i ys hy
      simp only [Option.some.injEq] at h; subst h
      refine AW.block (AW.mono (execC_sound hm hc top ro hro c l σ ys hy) fun x ρ σ' hx => ?_)
      obtain ⟨l', rfl, hmm⟩ := hx
      have hmap := List.mem_map_of_mem (f := fun p : Ex × List AV × St => match p.1 with | .ext i => if i = id then ((Ex.nrm, p.2.1, p.2.2) : Ex × List AV × St) else p | _ => p) hmm
      cases x with
      | nrm => exact ⟨l', rfl, hmap⟩
      | ret => exact ⟨l', rfl, hmap⟩
      | ext i =>
        simp only [inBl]
        simp only at hmap
        split
        · rename_i e; rw [if_pos e] at hmap; exact ⟨l', rfl, hmap⟩
        · rename_i e; rw [if_neg e] at hmap; exact ⟨l', rfl, hmap⟩
  | .loop c, l, σ, xs, h => by
    simp only [execC] at h
    exact AW.unroll lf (loopX_sound (fun l σ xs h => execC_sound hm hc top ro hro c l σ xs h) lf l σ xs h)
  | .scope c, l, σ, xs, h => by
    simp only [execC] at h
    exact AW.scope (execC_sound hm hc top ro hro c l σ xs h)
  | .rf f ps asg body, l, σ, xs, h => by
    simp only [execC] at h
    split at h
    · rename_i ht gf cap he
      have hr := hro rfl
      subst hr
      split at h
      · cases h
      · rename_i ys hy
        refine AW.rf he fun _ _ => ACalls.mono (hc _ _ _ _ hy) fun v σ' hmm => ?_
        obtain ⟨z, hz, h2⟩ := coll_mem h _ hmm
        split at hz
        · rename_i hk
          simp only [Option.some.injEq] at hz; subst hz
          exact ⟨_, _, _, _, _, _, hk, by simp, l, rfl, h2 _ (List.mem_singleton.2 rfl)⟩
        · rename_i hk
          simp only [Option.some.injEq] at hz; subst hz
          exact ⟨_, _, _, _, _, _, hk, by simp, l, rfl, h2 _ (List.mem_singleton.2 rfl)⟩
        · rename_i i _ _ _ _ hk
          simp only [Option.some.injEq] at hz; subst hz
          exact ⟨_, _, _, _, _, _, hk, by simp, l, rfl, h2 _ (List.mem_singleton.2 rfl)⟩
        · rename_i hk
          simp only [Option.some.injEq] at hz; subst hz
          exact ⟨_, _, _, _, _, _, hk, by simp, l, rfl, h2 _ (List.mem_singleton.2 rfl)⟩
        · cases hz
    · cases h
  | .bad, l, σ, xs, h => by simp [execC] at h
end

/-! ### Calls -/
noncomputable def finish (rs : List RV) (p : Ex × List AV × St) : Option (List (AV × St)) :=
  match p.1 with
  | .ext _ => none
  | _ => match resOf (vget p.2.1) p.2.2 rs with
    | none => none
    | some l => some [(resAV l, p.2.2)]
def cutH (n : Nat) : List (Nat × Blk) → List (Nat × Blk)
  | [] => []
  | (β, b) :: r => if Nat.ble n β = true then cutH n r else (β, b) :: cutH n r
theorem lk_cutH {n : Nat} : ∀ {H : List (Nat × Blk)} {β : Nat} {b : Blk}, lk (cutH n H) β = some b → β < n ∧ lk H β = some b
  | [], β, b, h => by simp [cutH, lk] at h
  | (a, c) :: r, β, b, h => by
    simp only [cutH] at h
    split at h
    · rename_i ha
      obtain ⟨h1, h2⟩ := lk_cutH h
      refine ⟨h1, ?_⟩
      simp only [lk]
      rw [if_neg (fun e => by subst e; have := Nat.le_of_ble_eq_true ha; omega)]
      exact h2
    · rename_i ha
      simp only [lk] at h ⊢
      split at h
      · rename_i e
        rw [if_pos e]
        refine ⟨?_, h⟩
        rcases Nat.lt_or_ge a n with x | x
        · rw [← e]; exact x
        · exact absurd (Nat.ble_eq_true_of_le x) ha
      · rename_i e
        rw [if_neg e]
        exact lk_cutH h
/-- What was made since is forgotten. -/
def gc (n : Nat) (p : AV × St) : AV × St := (p.1.er, { H := cutH n p.2.H, n := p.2.n })
theorem vw_gc (n : Nat) (v : AV) (σ : St) : VW P v σ (gc n (v, σ)).1 (gc n (v, σ)).2 := fun g w cv r h => by
  obtain ⟨r', e'⟩ := rel_drop (P := P) (cutH n σ.H) σ.n (Nat.le_refl _) r (fun β b h => (lk_cutH h).2)
  exact ⟨g, r', (VR.er h).mono (Nat.le_refl _) (g.le_refl _) e'.eic, e'⟩

mutual
def hsOf : AV → Option Nat
  | .hs β _ _ _ => some β
  | .tup l => hsOfL l
  | .agg l => hsOfL l
  | _ => none
def hsOfL : List AV → Option Nat
  | [] => none
  | x :: l => match hsOf x with
    | some β => some β
    | none => hsOfL l
end
/-- A slice that was made, as a list. -/
def frzO (ag : Bool) (sz : Nat) (p : AV × St) : AV × St :=
  match hsOf p.1 with
  | none => p
  | some β => match lk p.2.H β with
    | some (.arr c) => if (allSc c && (ag || Nat.beq sz 1)) = true then (p.1.fr β ag sz c, p.2.del β) else p
    | _ => p
theorem vw_frzO (ag : Bool) (sz : Nat) (p : AV × St) : VW P p.1 p.2 (frzO ag sz p).1 (frzO ag sz p).2 := by
  unfold frzO
  split
  · exact VW.refl _ _
  · split
    · split
      · rename_i β _ c hk h
        simp only [Bool.and_eq_true, Bool.or_eq_true] at h
        exact VW.frz ag sz hk h.1 (h.2.imp id Nat.eq_of_beq_eq_true)
      · exact VW.refl _ _
    · exact VW.refl _ _
def frzs (x : Option (Bool × Nat)) (p : AV × St) : AV × St := match x with | some (ag, sz) => frzO ag sz p | none => p
theorem vw_frzs (x : Option (Bool × Nat)) (p : AV × St) : VW P p.1 p.2 (frzs x p).1 (frzs x p).2 := by
  cases x with
  | none => exact VW.refl _ _
  | some x => exact vw_frzO _ _ _

/-- What the interpreter is given: the functions; those whose answer is known; the orders; which calls make what outlives them. -/
structure Cfg where
  F : Nat → Option AFunc
  prim : Nat → List AV → St → Option (List (AV × St))
  hint : Hints
  keeps : Nat → Bool
  frz : Nat → Option (Bool × Nat)
  tight : Nat → Bool
  lf : Nat
def lowB (n : Nat) : List (AV × St) → Bool
  | [] => true
  | p :: r => bndV n p.1 && bndH n p.2.H && lowB n r
theorem lowB_mem {n : Nat} : ∀ {l : List (AV × St)}, lowB n l = true → ∀ p, p ∈ l → bndV n p.1 = true ∧ bndH n p.2.H = true
  | x :: l, h, y, hy => by
    simp only [lowB, Bool.and_eq_true] at h
    rcases List.mem_cons.1 hy with rfl | hy
    · exact h.1
    · exact lowB_mem h.2 y hy
def tidy (k t : Bool) (n : Nat) (xs : List (AV × St)) : List (AV × St) :=
  match k with
  | true => once xs
  | false => match t && lowB n (xs.map (gc n)) with
    | true => once ((xs.map (gc n)).map fun p => (p.1, ⟨p.2.H, n⟩))
    | false => once (xs.map (gc n))
theorem tidy_sound {f : Nat} {args : List AV} {xs : List (AV × St)} (k t : Bool) (h : ACalls P f args σ (fun v σ' => (v, σ') ∈ xs)) : ACalls P f args σ (fun v σ' => (v, σ') ∈ tidy k t σ.n xs) := by
  unfold tidy
  cases k with
  | true => exact h.mono fun v σ' hv => mem_once hv
  | false =>
    have h1 : ACalls P f args σ (fun v σ' => (v, σ') ∈ xs.map (gc σ.n)) := h.weak fun v σ' hv => ⟨_, _, vw_gc σ.n v σ', List.mem_map_of_mem hv⟩
    simp only
    split
    · rename_i hb
      simp only [Bool.and_eq_true] at hb
      refine h1.tight fun v σ' hv => ?_
      obtain ⟨b1, b2⟩ := lowB_mem hb.2 _ hv
      exact ⟨σ'.H, fun _ _ h => h, b2, b1, mem_once (List.mem_map_of_mem (f := fun p : AV × St => (p.1, (⟨p.2.H, σ.n⟩ : St))) hv)⟩
    · exact h1.mono fun v σ' hv => mem_once hv
noncomputable def putL : List Nat → List AV → List AV → List AV
  | p :: ps, a :: as, l => putL ps as (vset p l a)
  | _, _, l => l
noncomputable def go (C : Cfg) : Nat → CallF
  | 0 => fun _ _ _ => none
  | d + 1 => fun t args σ => match t with
    | .f n => match C.prim n args σ with
      | some xs => match xs with | [] => none | x :: r => some (x :: r)
      | none => match C.F n with
        | none => none
        | some af => if Nat.ble args.length af.nt = true then
            match execC (go C d) C.hint C.lf af.nt true af.body args σ with
            | none => none
            | some xs => match coll (finish af.res) xs with
              | none => none
              | some ys => match ys with | [] => none | y :: r => some (tidy (C.keeps n) (C.tight n) σ.n ((y :: r).map (frzs (C.frz n))))
          else none
    | .y β => match lk σ.H β with
      | some (.loop .ready none ρl ps asg body) =>
        if (Nat.beq args.length ps.length && ps.all (fun p => Nat.blt p ρl.length)) = true then
          match execC (go C d) C.hint C.lf ρl.length false asg (putL ps args ρl) σ with
          | none => none
          | some xs => match coll (fun p => match p.1 with
              | .nrm => match lk p.2.2.H β with
                | some (.loop .ready none ρ1 ps1 asg1 body1) => match execC (go C d) C.hint C.lf ρl.length false body p.2.1 (p.2.2.set β (.loop .busy none ρ1 ps1 asg1 body1)) with
                  | none => none
                  | some ys => coll (fun q => match lk q.2.2.H β with
                    | some (.loop .busy none ρ2 ps2 asg2 body2) => match q.1 with
                      | .nrm => some [(AV.bool true, q.2.2.set β (.loop .ready none ρ2 ps2 asg2 body2))]
                      | .ext i => some [(AV.bool false, q.2.2.set β (.loop .done (some (.exit i)) ρ2 ps2 asg2 body2))]
                      | .ret => some [(AV.bool false, q.2.2.set β (.loop .done (some .ret) ρ2 ps2 asg2 body2))]
                    | _ => none) ys
                | _ => none
              | _ => none) xs with
            | none => none
            | some zs => match zs with | [] => none | z :: r => some (once (z :: r))
        else none
      | _ => none

theorem finish_sound {rs : List RV} {xs : Outc} {ys : List (AV × St)} (h : coll (finish rs) xs = some ys) (x : Ex) (ρ : Env) (σ : St) (hx : In xs x ρ σ) : FPost rs (fun v σ' => (v, σ') ∈ ys) x ρ σ := by
  obtain ⟨l, rfl, hm⟩ := hx
  obtain ⟨a, ha, h2⟩ := coll_mem h _ hm
  cases x with
  | ext i => simp [finish] at ha
  | nrm =>
    simp only [finish] at ha
    split at ha
    · cases ha
    · rename_i r hr
      simp only [Option.some.injEq] at ha; subst ha
      exact ⟨r, hr, h2 _ (List.mem_singleton.2 rfl)⟩
  | ret =>
    simp only [finish] at ha
    split at ha
    · cases ha
    · rename_i r hr
      simp only [Option.some.injEq] at ha; subst ha
      exact ⟨r, hr, h2 _ (List.mem_singleton.2 rfl)⟩

theorem AW.env {ro : Option Nat} {nt : Nat} {c : ACode} {Q : Ex → Env → St → Prop} {ρ ρ' : Env} (he : ∀ i, i < nt → ρ i = ρ' i) (h : AW P ro nt c Q ρ' σ) : AW P ro nt c Q ρ σ :=
  AW.weak (fun g w tm r er => ⟨g, r, ⟨er.size, fun i hi => by rw [← he i hi]; exact er.vr i hi⟩, Evo.refl _ _ _⟩) h
theorem putL_eq : ∀ (ps : List Nat) (as : List AV) (l : List AV), vget (putL ps as l) = putAll ps as (vget l)
  | [], as, l => by cases as <;> rfl
  | p :: ps, [], l => rfl
  | p :: ps, a :: as, l => by
    simp only [putL, putAll, putL_eq ps as]
    congr 1
    exact vput_eq l (some p) a
theorem putAll_congr (n : Nat) : ∀ (ps : List Nat) (as : List AV) (ρ ρ' : Env), (∀ i, i < n → ρ i = ρ' i) → ∀ i, i < n → putAll ps as ρ i = putAll ps as ρ' i
  | [], as, ρ, ρ', h => by cases as <;> exact h
  | p :: ps, [], ρ, ρ', h => h
  | p :: ps, a :: as, ρ, ρ', h => putAll_congr n ps as _ _ fun i hi => by simp only [Env.put]; rw [h i hi]
theorem vget_lt : ∀ (l : List AV) (i : Nat), i < l.length → vget l i = l.getD i .undef
  | [], i, h => by simp at h
  | x :: l, 0, h => by simp [vget_zero]
  | x :: l, i + 1, h => by rw [vget_succ, vget_lt l i (by simpa using h)]; simp

theorem go_sound (C : Cfg) (hm : P.follows .mixedOrders = true) (hF : ∀ n af, C.F n = some af → FOk P n af) (hp : ∀ n args σ xs, C.prim n args σ = some xs → xs ≠ [] → ACalls P n args σ (fun v σ' => (v, σ') ∈ xs)) : ∀ d, CS P (go C d)
  | 0, t, args, σ, xs, h => by simp [go] at h
  | d + 1, .f n, args, σ, xs, h => by
    have hc := go_sound C hm hF hp d
    simp only [go] at h
    split at h
    · rename_i ys hy
      split at h
      · cases h
      · simp only [Option.some.injEq] at h; subst h
        exact hp n args σ _ hy (by simp)
    · split at h
      · cases h
      · rename_i af haf
        split at h
        · rename_i hl
          split at h
          · cases h
          · rename_i zs hz
            split at h
            · cases h
            · rename_i ys hy
              split at h
              · cases h
              · rename_i y r
                simp only [Option.some.injEq] at h; subst h
                have h1 := execC_sound (P := P) hm hc true none (fun _ => rfl) af.body args σ zs hz
                have h2 : ACalls P n args σ (fun v σ' => (v, σ') ∈ y :: r) := by
                  refine FOk.calls (hF n af haf) (Nat.le_of_ble_eq_true hl) ?_
                  rw [← vget_args]
                  exact AW.mono h1 fun x ρ σ' hx => finish_sound hy x ρ σ' hx
                have h3 : ACalls P n args σ (fun v σ' => (v, σ') ∈ (y :: r).map (frzs (C.frz n))) :=
                  h2.weak fun v σ' hv => ⟨_, _, vw_frzs (C.frz n) (v, σ'), List.mem_map_of_mem hv⟩
                exact tidy_sound _ _ h3
        · cases h
  | d + 1, .y β, args, σ, xs, h => by
    have hc := go_sound C hm hF hp d
    simp only [go] at h
    split at h
    · rename_i ρl ps asg body hk
      split at h
      · rename_i hb
        simp only [Bool.and_eq_true, List.all_eq_true] at hb
        split at h
        · cases h
        · rename_i us hu
          split at h
          · cases h
          · rename_i zs hz
            split at h
            · cases h
            · rename_i z r
              simp only [Option.some.injEq] at h; subst h
              have hl : args.length = ps.length := Nat.eq_of_beq_eq_true hb.1
              show AYields P β args σ _
              refine AYields.mono (K := fun v σ' => (v, σ') ∈ z :: r) (ayield' ⟨z.1, z.2, by simp⟩ hk hl (fun p hp => by have := hb.2 p hp; simpa [Nat.blt_eq] using this) fun ro => ?_) fun v σ' hv => mem_once hv
              refine AW.env (ρ' := vget (putL ps args ρl)) (fun i hi => ?_) ?_
              · rw [putL_eq]
                exact (putAll_congr ρl.length ps args _ _ (fun i hi => vget_lt ρl i hi) i hi).symm
              refine AW.mono (execC_sound (P := P) hm hc false ro (fun e => by cases e) asg _ σ us hu) fun x ρ σ' hx => ?_
              obtain ⟨l', rfl, hmm⟩ := hx
              obtain ⟨a, ha, h2⟩ := coll_mem hz _ hmm
              cases x with
              | ext i => simp at ha
              | ret => simp at ha
              | nrm =>
                simp only at ha
                split at ha
                · rename_i ρ1 ps1 asg1 body1 hk1
                  refine ⟨ρ1, ps1, asg1, body1, hk1, ?_⟩
                  split at ha
                  · cases ha
                  · rename_i ys hy
                    refine AW.mono (execC_sound (P := P) hm hc false ro (fun e => by cases e) body _ _ ys hy) fun x ρ σ'' hx => ?_
                    obtain ⟨l2, rfl, hm2⟩ := hx
                    obtain ⟨b, hb2, h3⟩ := coll_mem ha _ hm2
                    simp only at hb2
                    split at hb2
                    · rename_i ρ2 ps2 asg2 body2 hk2
                      refine ⟨ρ2, ps2, asg2, body2, hk2, ?_⟩
                      cases x with
                      | nrm => simp only [Option.some.injEq] at hb2; subst hb2; exact h2 _ (h3 _ (List.mem_singleton.2 rfl))
                      | ext i => simp only [Option.some.injEq] at hb2; subst hb2; exact h2 _ (h3 _ (List.mem_singleton.2 rfl))
                      | ret => simp only [Option.some.injEq] at hb2; subst hb2; exact h2 _ (h3 _ (List.mem_singleton.2 rfl))
                    · cases hb2
                · cases ha
      · cases h
    · cases h

end Go.Proofs.YtekhblefchceaaaGreat.AM

/- The rules of a walk, together. -/
set_option linter.unusedVariables false
set_option maxRecDepth 20000
set_option linter.defProp false
namespace Go.Proofs.YtekhblefchceaaaGreat.AM
open Go
variable {P : Program}
/-- A length. -/
def lenA (k : LK) (σ : St) (v : AV) : OR := evalOp (fun _ => v) σ (.len k (.t 0))
theorem eval_len (ρ : Env) (σ : St) (k : LK) (x : Opd) : evalOp ρ σ (.len k x) = lenA k σ (x.ev ρ) := rfl
theorem len_vs (σ : St) (l : List AV) (t : Tok) : lenA .l σ (.vs l t) = .v (.int .i64 l.length) σ := rfl
theorem len_bs (σ : St) (l : List UInt8) (t : Tok) : lenA .l σ (.bs l t) = .v (.int .i64 l.length) σ := rfl
theorem len_s (σ : St) (l : List UInt8) : lenA .s σ (.str l) = .v (.int .i64 l.length) σ := rfl
theorem len_hs (σ : St) (β off len cap : Nat) : lenA .l σ (.hs β off len cap) = .v (.int .i64 len) σ := rfl
theorem len_nilmap (σ : St) : lenA .m σ .nilmap = .v (.int .i64 0) σ := rfl
theorem len_map (σ : St) (β : Nat) : lenA .m σ (.map β) = (match lk σ.H β with | some (.map es _) => .v (.int .i64 es.length) σ | _ => .bad) := rfl
/-- One instruction of a region that draws. -/
def gao (P : Program) (b : Bool) (d : Option Nat) (op : AOp) (K : Env → St → Prop) (ρ : Env) (σ : St) (x : AV) : Prop :=
  match (match x with | .bool t => some (t == b) | .tup [] => some false | _ => none : Option Bool) with
  | some true => upon P σ (fun v σ' => K (ρ.putO d v) σ') (evalOp ρ σ op)
  | some false => K (ρ.putO d (.tup [])) σ
  | none => False
theorem ao_n {K : Env → St → Prop} (d : Option Nat) (op : AOp) (ρ : Env) (σ : St) : AO P ⟨d, none, op⟩ K ρ σ = upon P σ (fun v σ' => K (ρ.putO d v) σ') (evalOp ρ σ op) := rfl
theorem ao_g {K : Env → St → Prop} (d : Option Nat) (s : Nat) (b : Bool) (op : AOp) (ρ : Env) (σ : St) : AO P ⟨d, some (s, b), op⟩ K ρ σ = gao P b d op K ρ σ (ρ s) := rfl
theorem ga_tt {K : Env → St → Prop} (d : Option Nat) (op : AOp) (ρ : Env) (σ : St) : gao P true d op K ρ σ (.bool true) = upon P σ (fun v σ' => K (ρ.putO d v) σ') (evalOp ρ σ op) := rfl
theorem ga_ff {K : Env → St → Prop} (d : Option Nat) (op : AOp) (ρ : Env) (σ : St) : gao P false d op K ρ σ (.bool false) = upon P σ (fun v σ' => K (ρ.putO d v) σ') (evalOp ρ σ op) := rfl
theorem ga_tf {K : Env → St → Prop} (d : Option Nat) (op : AOp) (ρ : Env) (σ : St) : gao P true d op K ρ σ (.bool false) = K (ρ.putO d (.tup [])) σ := rfl
theorem ga_ft {K : Env → St → Prop} (d : Option Nat) (op : AOp) (ρ : Env) (σ : St) : gao P false d op K ρ σ (.bool true) = K (ρ.putO d (.tup [])) σ := rfl
theorem ga_no {K : Env → St → Prop} (b : Bool) (d : Option Nat) (op : AOp) (ρ : Env) (σ : St) : gao P b d op K ρ σ (.tup []) = K (ρ.putO d (.tup [])) σ := rfl
@[congr] theorem gao_congr {K : Env → St → Prop} (b : Bool) (d : Option Nat) (op : AOp) (ρ : Env) (σ : St) {x y : AV} (h : x = y) : gao P b d op K ρ σ x = gao P b d op K ρ σ y := by rw [h]
section
variable {is : List AInstr} {l : List (Nat × Blk)} {K : Env → St → Prop}
theorem aq_nil (ρ : Env) (σ : St) : AQ P is l K .nil ρ σ = K ρ σ := rfl
theorem aq_p (i : Nat) (t : QT) (ρ : Env) (σ : St) : AQ P is l K (.p i t) ρ σ = AO P (is.getD i default) (fun ρ' _ => AQ P is l K t ρ' σ) ρ ⟨l, 0⟩ := rfl
theorem aq_a (i : Nat) (t : QT) (ρ : Env) (σ : St) : AQ P is l K (.a i t) ρ σ = AO P (is.getD i default) (fun ρ' σ' => SB l σ' ∧ AQ P is l K t ρ' σ') ρ σ := rfl
theorem aq_z (i : Nat) (t : QT) (ρ : Env) (σ : St) : AQ P is l K (.z i t) ρ σ = AO P (is.getD i default) (fun ρ' σ' => AQ P is l K t ρ' σ') ρ σ := rfl
theorem aq_b (i : Nat) (t : QT) (j : Nat) (u : QT) (ρ : Env) (σ : St) : AQ P is l K (.b i t j u) ρ σ = (AO P (is.getD i default) (fun ρ' σ' => SB l σ' ∧ AQ P is l K t ρ' σ') ρ σ ∧ AO P (is.getD j default) (fun ρ' σ' => SB l σ' ∧ AQ P is l K u ρ' σ') ρ σ) := rfl
theorem aq_c (i : Nat) (t : QT) (j : Nat) (u : QT) (k : Nat) (w : QT) (ρ : Env) (σ : St) : AQ P is l K (.c i t j u k w) ρ σ = (AO P (is.getD i default) (fun ρ' σ' => SB l σ' ∧ AQ P is l K t ρ' σ') ρ σ ∧ AO P (is.getD j default) (fun ρ' σ' => SB l σ' ∧ AQ P is l K u ρ' σ') ρ σ ∧
      AO P (is.getD k default) (fun ρ' σ' => SB l σ' ∧ AQ P is l K w ρ' σ') ρ σ) := rfl
theorem lk_here (β : Nat) (b : Blk) (r : List (Nat × Blk)) (x : Nat) : lk ((β, b) :: r) x = if β = x then some b else lk r x := rfl
theorem sb_nil_true (σ : St) : SB [] σ = True := eq_true (SB.nil σ)
end
def W0 := And.intro @eval_len <| And.intro @aq_nil <| And.intro @aq_p <| And.intro @aq_a <| And.intro @aq_z <| And.intro @aq_b <| And.intro @aq_c <| And.intro @ao_n <| And.intro @ao_g <| And.intro @w_nil <| And.intro @w_cons <| And.intro @w_consg <| And.intro @ev_t <| And.intro @ev_c <| And.intro @put_at <| And.intro @eval_conv <| And.intro @eval_app <| And.intro @evalOp.eq_1 <| And.intro @evalOp.eq_2 <| And.intro @evalOp.eq_3 <| And.intro @evalOp.eq_4 <| And.intro @evalOp.eq_5 <| And.intro @evalOp.eq_6 <| And.intro @evalOp.eq_7 <| And.intro @evalOp.eq_8 <| And.intro @evalOp.eq_9 <| And.intro @evalOp.eq_10 <| And.intro @evalOp.eq_11 <| And.intro @evalOp.eq_12 <| And.intro @evalOp.eq_13 <| And.intro @evalOp.eq_14 <| And.intro @evalOp.eq_16 <| And.intro @evalOp.eq_17 <| And.intro @evalOp.eq_18 <| And.intro @evalOp.eq_19 <| And.intro @evalOp.eq_20 <| And.intro @evalOp.eq_21 <| And.intro @evalOp.eq_22 <| And.intro @evalOp.eq_23 <| And.intro @evalOp.eq_24 <| And.intro @evalOp.eq_25 <| And.intro @evalOp.eq_26 <| And.intro @evalOp.eq_27 <| And.intro @evalOp.eq_28 <| And.intro @evalOp.eq_29 <| And.intro @evalOp.eq_30 <| And.intro @evalOp.eq_31 <| And.intro @evalOp.eq_32 <| And.intro @evalOp.eq_33 <| And.intro @evalOp.eq_34 <| And.intro @evalOp.eq_35 <| And.intro @evalOp.eq_36 <| And.intro @evalOp.eq_38 <| And.intro @evalOp.eq_46 <| And.intro @evalOp.eq_47 <| @evalOp.eq_48
def W := And.intro @len_vs <| And.intro @len_bs <| And.intro @len_s <| And.intro @len_hs <| And.intro @len_nilmap <| And.intro @len_map <| And.intro @ga_tt <| And.intro @ga_ff <| And.intro @ga_tf <| And.intro @ga_ft <| And.intro @ga_no <| And.intro @lk_here <| And.intro @sb_nil_true <| And.intro @g_tt <| And.intro @g_ff <| And.intro @g_tf <| And.intro @g_ft <| And.intro @g_no <| And.intro @u_v <| And.intro @u_any <| And.intro @u_call <| And.intro @u_yld <| And.intro @u_bad <| And.intro @putO_some <| And.intro @putO_none <| And.intro @thn_nrm <| And.intro @thn_ext <| And.intro @thn_ret <| And.intro @inBl_nrm <| And.intro @inBl_ret <| And.intro @inBl_ext <| And.intro @FPost_nrm <| And.intro @FPost_ret <| And.intro @envOf_at <| And.intro @List.getD_cons_zero.{0} <| And.intro @List.getD_cons_succ.{0} <| And.intro @List.getD_nil.{0} <| And.intro @bin_add <| And.intro @bin_sub <| And.intro @bin_mul <| And.intro @bin_eql <| And.intro @bin_neq <| And.intro @bin_lss <| And.intro @bin_leq <| And.intro @bin_gtr <| And.intro @bin_geq <| And.intro @bin_sadd <| And.intro @bin_seql <| And.intro @bin_sneq <| And.intro @bin_and <| And.intro @bin_or <| And.intro @wr_eq <| And.intro @natOf.eq_1 <| And.intro @natOf.eq_2 <| And.intro @optNat.eq_1 <| And.intro @optNat.eq_2 <| And.intro @eqK.eq_1 <| And.intro @eqK.eq_2 <| And.intro @eqK.eq_3 <| And.intro @eqK.eq_4 <| And.intro @eqK.eq_5 <| And.intro @eqK.eq_6 <| And.intro @eqK.eq_7 <| And.intro @eqK.eq_8 <| And.intro @eqK.eq_9 <| And.intro @eqK.eq_10 <| And.intro @eqK.eq_11 <| And.intro @eqK.eq_12 <| And.intro @eqK.eq_13 <| And.intro @eqK.eq_14 <| And.intro @resOf.eq_1 <| And.intro @resOf.eq_2 <| And.intro @resOf.eq_3 <| And.intro @resAV.eq_1 <| And.intro @resAV.eq_2 <| And.intro @Option.map_some.{0, 0} <| And.intro @AV.cells.eq_1 <| And.intro @AV.cells.eq_2 <| And.intro @allSc.eq_1 <| And.intro @AV.sc.eq_1 <| And.intro @AV.sc.eq_2 <| And.intro @AV.sc.eq_3 <| And.intro @AV.sc.eq_4 <| And.intro @List.all_cons.{0} <| And.intro @List.all_nil.{0} <| And.intro @Bool.and_true <| And.intro @Bool.and_self <| And.intro @List.map_cons.{0, 0} <| And.intro @List.map_nil.{0, 0} <| And.intro @List.append_nil.{0} <| And.intro @List.nil_append.{0} <| And.intro @List.cons_append.{0} <| And.intro @List.length_cons.{0} <| And.intro @List.length_nil.{0} <| And.intro @lk_new <| And.intro @lk_set <| And.intro @new_n <| And.intro @set_n <| And.intro @Int.natCast_nonneg <| And.intro @Int.toNat_natCast <| And.intro @Bool.false_eq_true <| And.intro @Bool.not_true <| And.intro @Bool.not_false <| And.intro @Bool.not_eq_true <| And.intro @decide_true <| And.intro @decide_false <| And.intro @beq_self_eq_true.{0} <| And.intro @beq_true <| And.intro @beq_false <| And.intro @bne_self_eq_false.{0} <| And.intro @gt_iff_lt.{0} <| And.intro @ge_iff_le.{0} <| And.intro @if_true.{1} <| And.intro @if_false.{1} <| And.intro @List.getElem?_cons_zero.{0} <| And.intro @List.getElem?_cons_succ.{0} <| And.intro @Option.some.injEq.{0} <| And.intro @exists_eq_left'.{1} <| And.intro @Int.toNat_natCast_add_one <| And.intro @Int.le_refl <| And.intro @Int.toNat_zero <| And.intro @Nat.zero_mul <| And.intro @Nat.mul_one <| And.intro @zlt <| And.intro @Int.zero_add <| And.intro @Int.add_zero <| And.intro @wl0 <| And.intro @wl1 <| And.intro @wl2 <| And.intro @wl3 <| And.intro @wl4 <| And.intro @wl5 <| And.intro @wl6 <| And.intro @wl7 <| And.intro @wl8 <| And.intro @wl9 <| And.intro @wl10 <| And.intro @wl11 <| And.intro @wl12 <| And.intro @wl13 <| And.intro @wl14 <| And.intro @wl15 <| And.intro @wl16 <| And.intro @Nat.lt_add_one <| And.intro @Nat.add_zero <| And.intro @Nat.zero_add <| And.intro @Nat.le_refl <| And.intro @and_self <| And.intro @and_true <| And.intro @true_and <| And.intro @List.drop_zero.{0} <| And.intro @List.drop_succ_cons.{0} <| And.intro @List.take_zero.{0} <| And.intro @List.take_succ_cons.{0} <| And.intro @buildA.eq_1 <| And.intro @buildA.eq_2 <| And.intro @putCells.eq_1 <| And.intro @List.headD_cons.{0} <| And.intro @ne_eq.{1} <| And.intro @not_true_eq_false <| And.intro @not_false_eq_true <| And.intro @nk1 <| And.intro @kn1 <| And.intro @nk2 <| And.intro @kn2 <| And.intro @nk3 <| And.intro @kn3 <| And.intro @nk4 <| And.intro @kn4 <| And.intro @nk5 <| And.intro @kn5 <| And.intro @nk6 <| And.intro @kn6 <| And.intro @nk7 <| And.intro @kn7 <| And.intro @nk8 <| And.intro @kn8 <| And.intro @nk9 <| And.intro @kn9 <| And.intro @nk10 <| And.intro @kn10 <| And.intro @nk11 <| And.intro @kn11 <| And.intro @nk12 <| And.intro @kn12 <| @convOR_int
end Go.Proofs.YtekhblefchceaaaGreat.AM

