/- Joined: M20, M21, M22, M23, M27, M31, W1, M28, M32. -/
import Derived.Test.YtekhblefchceaaaGreatMC
import Derived.RowKit
import Derived.RowKit3
set_option linter.unusedVariables false
set_option linter.unusedSimpArgs false
/- What may be known of a value instead: its tokens forgotten; a block of memory that nobody will write again, as a list. -/
namespace Go.Proofs.YtekhblefchceaaaGreat.AM
open Go
variable {P : Program} {σ : St}
def AV.leaf : AV -> Bool
  | .ip _ | .vs _ _ | .fn _ _ | .agg _ | .tup _ => false
  | _ => true
mutual
def AV.mp (tk : Tok -> Tok) (f : AV -> AV) : AV -> AV
  | .ip l => .ip (mpL tk f l)
  | .vs l t => .vs (mpL tk f l) (tk t)
  | .fn n l => .fn n (mpL tk f l)
  | .agg l => .agg (mpL tk f l)
  | .tup l => .tup (mpL tk f l)
  | .undef => f .undef
  | .bool b => f (.bool b)
  | .int k n => f (.int k n)
  | .str s => f (.str s)
  | .nilp => f .nilp
  | .ptr β off => f (.ptr β off)
  | .bs s t => f (.bs s t)
  | .hs β off len cap => f (.hs β off len cap)
  | .nilmap => f .nilmap
  | .map β => f (.map β)
  | .nilfn => f .nilfn
  | .yld β => f (.yld β)
  | .nilif => f .nilif
def mpL (tk : Tok -> Tok) (f : AV -> AV) : List AV -> List AV
  | [] => []
  | x :: l => x.mp tk f :: mpL tk f l
end
theorem mpL_eq (tk : Tok -> Tok) (f : AV -> AV) : ∀ l, mpL tk f l = l.map (AV.mp tk f)
  | [] => by simp [mpL]
  | x :: l => by simp [mpL, mpL_eq tk f l]
theorem mp_leaf (tk : Tok -> Tok) (f : AV -> AV) {x : AV} (h : x.leaf = true) : x.mp tk f = f x := by cases x <;> first | rfl | (simp [AV.leaf] at h; done) | simp [AV.mp]
theorem mp_cells (tk : Tok -> Tok) (f : AV -> AV) (hf : ∀ x, x.leaf = true -> (f x).cells = [f x]) (x : AV) : (x.mp tk f).cells = x.cells.map (AV.mp tk f) := by
  cases x with
  | agg l => simp [AV.mp, AV.cells, mpL_eq]
  | ip l => simp [AV.mp, AV.cells]
  | vs l t => simp [AV.mp, AV.cells]
  | fn n l => simp [AV.mp, AV.cells]
  | tup l => simp [AV.mp, AV.cells]
  | _ =>
    rw [mp_leaf tk f rfl, hf _ rfl]
    simp only [AV.cells, List.map_cons, List.map_nil]
    rw [mp_leaf tk f rfl]
theorem VR.mp {g : Gh} {n : Nat} {ic ic' : Nat -> Nat -> Value -> Prop} (tk : Tok -> Tok) (htk : ∀ t, tk t = t \/ tk t = .no) (f : AV -> AV) (hf : ∀ x, x.leaf = true -> (f x).cells = [f x])
    (hi : ∀ b i v, ic b i v -> ic' b i v) (hv : ∀ x c, x.leaf = true -> VR g n ic x c -> VR g n ic' (f x) c) {x : AV} {c : Value} (h : VR g n ic x c) : VR g n ic' (x.mp tk f) c := by
  induction h with
  | ip l b off cs h1 h2 ih =>
    simp only [AV.mp, mpL_eq]
    refine .ip _ b off cs (fun i hl => hi _ _ _ (h1 i (by simpa using hl))) (fun i x hx => ?_)
    rw [List.getElem?_map, Option.map_eq_some_iff] at hx
    obtain ⟨y, hy, rfl⟩ := hx
    exact ih i y hy
  | vsn t => simp only [AV.mp, mpL]; exact .vsn _
  | vs l t b off cap sz cs hsz hcap h1 h2 ht ih =>
    simp only [AV.mp, mpL_eq]
    have := VR.vs (g := g) (n := n) (ic := ic') (l.map (AV.mp tk f)) (tk t) b off cap sz cs (fun e he => by
        obtain ⟨y, hy, rfl⟩ := List.mem_map.1 he
        rw [mp_cells tk f hf]; simpa using hsz y hy) (by simpa using hcap) (fun i j hl hj => hi _ _ _ (h1 i j (by simpa using hl) hj)) (fun i j e x he hx => by
        rw [List.getElem?_map, Option.map_eq_some_iff] at he
        obtain ⟨y, hy, rfl⟩ := he
        rw [mp_cells tk f hf, List.getElem?_map, Option.map_eq_some_iff] at hx
        obtain ⟨z, hz, rfl⟩ := hx
        exact ih i j y z hy hz) (by
        rw [List.length_map]
        rcases htk t with e | e
        · rw [e]; exact ht
        · rw [e]; trivial)
    rwa [List.length_map] at this
  | fn m l cs hl h2 ih =>
    simp only [AV.mp, mpL_eq]
    refine .fn m _ cs (by simpa using hl) (fun i x c hx hc => ?_)
    rw [List.getElem?_map, Option.map_eq_some_iff] at hx
    obtain ⟨y, hy, rfl⟩ := hx
    exact ih i y c hy hc
  | agg l cs hl h2 ih =>
    simp only [AV.mp, mpL_eq]
    refine .agg _ cs (by simpa using hl) (fun i x c hx hc => ?_)
    rw [List.getElem?_map, Option.map_eq_some_iff] at hx
    obtain ⟨y, hy, rfl⟩ := hx
    exact ih i y c hy hc
  | tup l cs hl h2 ih =>
    simp only [AV.mp, mpL_eq]
    refine .tup _ cs (by simpa using hl) (fun i x c hx hc => ?_)
    rw [List.getElem?_map, Option.map_eq_some_iff] at hx
    obtain ⟨y, hy, rfl⟩ := hx
    exact ih i y c hy hc
  | undef v => rw [mp_leaf tk f rfl]; exact hv _ _ rfl (.undef v)
  | bool b => rw [mp_leaf tk f rfl]; exact hv _ _ rfl (.bool b)
  | int k i => rw [mp_leaf tk f rfl]; exact hv _ _ rfl (.int k i)
  | str s => rw [mp_leaf tk f rfl]; exact hv _ _ rfl (.str s)
  | nilp => rw [mp_leaf tk f rfl]; exact hv _ _ rfl .nilp
  | ptr β off h => rw [mp_leaf tk f rfl]; exact hv _ _ rfl (.ptr β off h)
  | bs s t b off cap hcap h1 ht => rw [mp_leaf tk f rfl]; exact hv _ _ rfl (.bs s t b off cap hcap h1 ht)
  | hs β off len cap h => rw [mp_leaf tk f rfl]; exact hv _ _ rfl (.hs β off len cap h)
  | nilmap => rw [mp_leaf tk f rfl]; exact hv _ _ rfl .nilmap
  | map β h => rw [mp_leaf tk f rfl]; exact hv _ _ rfl (.map β h)
  | nilfn => rw [mp_leaf tk f rfl]; exact hv _ _ rfl .nilfn
  | yld β h => rw [mp_leaf tk f rfl]; exact hv _ _ rfl (.yld β h)
  | nilif => rw [mp_leaf tk f rfl]; exact hv _ _ rfl .nilif
def erLeaf : AV -> AV
  | .bs s _ => .bs s .no
  | v => v
def AV.er (x : AV) : AV := x.mp (fun _ => .no) erLeaf
theorem VR.er {g : Gh} {n : Nat} {ic : Nat -> Nat -> Value -> Prop} {x : AV} {c : Value} (h : VR g n ic x c) : VR g n ic x.er c := by
  refine VR.mp _ (fun _ => .inr rfl) erLeaf (fun x hx => ?_) (fun _ _ _ h => h) (fun x c hx h => ?_) h
  · cases x <;> first | rfl | (simp [AV.leaf] at hx; done)
  · cases h <;> first | (simp only [erLeaf]; constructor; done) | (simp [AV.leaf] at hx; done) | skip
    · rename_i β off h; exact .ptr β off h
    · rename_i s t b off cap hcap h1 ht; exact .bs s .no b off cap hcap h1 ⟨trivial, trivial⟩
    · rename_i β off len cap h; exact .hs β off len cap h
    · rename_i β h; exact .map β h
    · rename_i β h; exact .yld β h
def frLeaf (β : Nat) (ag : Bool) (sz : Nat) (c : List AV) : AV -> AV
  | .hs γ off len cap => if γ = β /\ off + len * sz <= c.length /\ len <= cap then .vs (elemsOf ag sz len (c.drop off)) .no else .hs γ off len cap
  | v => v
def AV.fr (β : Nat) (ag : Bool) (sz : Nat) (c : List AV) (x : AV) : AV := x.mp id (frLeaf β ag sz c)
theorem elems_length (ag : Bool) (sz : Nat) : ∀ (n : Nat) (c : List AV), (elemsOf ag sz n c).length = n
  | 0, _ => rfl
  | n + 1, c => by simp [elemsOf, elems_length ag sz n]
theorem elems_get (ag : Bool) (sz : Nat) : ∀ (n : Nat) (c : List AV) (i : Nat), i < n -> (elemsOf ag sz n c)[i]? = some (if ag then .agg ((c.drop (i * sz)).take sz) else (c.drop (i * sz)).headD .undef)
  | 0, _, _, h => by omega
  | n + 1, c, 0, _ => by simp [elemsOf]
  | n + 1, c, i + 1, h => by
    simp only [elemsOf, List.getElem?_cons_succ]
    rw [elems_get ag sz n _ i (by omega)]
    simp only [List.drop_drop]
    have : sz + i * sz = (i + 1) * sz := by rw [Nat.succ_mul]; omega
    rw [this]
theorem sc_cells {x : AV} (h : x.sc = true) : x.cells = [x] := by cases x <;> first | rfl | (simp [AV.sc] at h; done)
theorem elem_cells {ag : Bool} {sz : Nat} {c : List AV} (hc : allSc c = true) (hag : ag = true \/ sz = 1) {n i : Nat} {e : AV} (hn : n * sz <= c.length) (he : (elemsOf ag sz n c)[i]? = some e) :
    e.cells.length = sz /\ ∀ (j : Nat) (x : AV), e.cells[j]? = some x -> c[i * sz + j]? = some x := by
  have hi : i < n := by
    have := (List.getElem?_eq_some_iff.1 he).1
    rwa [elems_length] at this
  have hb : i * sz + sz <= c.length := by
    have : (i + 1) * sz <= n * sz := Nat.mul_le_mul_right sz hi
    rw [Nat.succ_mul] at this; omega
  rw [elems_get ag sz n c i hi] at he
  simp only [Option.some.injEq] at he
  cases ag with
  | true =>
    simp only [if_true] at he
    subst he
    refine ⟨by simp [AV.cells]; omega, fun j x hx => ?_⟩
    simp only [AV.cells] at hx
    rw [List.getElem?_take] at hx
    split at hx
    · rw [List.getElem?_drop] at hx; exact hx
    · simp at hx
  | false =>
    have hsz : sz = 1 := by rcases hag with h | h <;> simp_all
    subst hsz
    simp only [Bool.false_eq_true, if_false] at he
    have hlt : i < c.length := by omega
    have hd : c.drop (i * 1) = c[i] :: c.drop (i + 1) := by rw [Nat.mul_one, List.drop_eq_getElem_cons hlt]
    rw [hd] at he
    simp only [List.headD_cons] at he
    subst he
    have hsc : c[i].sc = true := List.all_eq_true.1 hc _ (List.getElem_mem hlt)
    rw [sc_cells hsc]
    refine ⟨rfl, fun j x hx => ?_⟩
    cases j with
    | zero => simp at hx; subst hx; simp [hlt]
    | succ j => simp at hx
theorem VR.frz {g : Gh} {w : World} {β : Nat} {c : List AV} {ag : Bool} {sz : Nat} (r : Rel P g σ w.heap) (hk : lk σ.H β = some (.arr c)) (hc : allSc c = true) (hag : ag = true \/ sz = 1)
    {x : AV} {cv : Value} (h : VR g σ.n (IC g σ.H w.heap) x cv) : VR g σ.n (IC g (del σ.H β) w.heap) (x.fr β ag sz c) cv := by
  have sub : ∀ γ b, lk (del σ.H β) γ = some b -> γ ≠ β /\ lk σ.H γ = some b := fun γ b h => by
    rw [lk_del] at h
    split at h
    · simp at h
    · rename_i e; exact ⟨e, h⟩
  have hi : ∀ b i v, IC g σ.H w.heap b i v -> IC g (del σ.H β) w.heap b i v := fun b i v ⟨h1, h2⟩ => ⟨h1, fun ⟨γ, k, hγ, hr⟩ => h2 ⟨γ, k, (sub γ k hγ).2, hr⟩⟩
  refine VR.mp id (fun _ => .inl rfl) _ (fun x hx => ?_) hi (fun x cv hx h => ?_) h
  · cases x <;> first | rfl | (simp [AV.leaf] at hx; done) | skip
    simp only [frLeaf]
    split <;> rfl
  · have hm := h.mono (Nat.le_refl _) (g.le_refl _) hi
    cases h <;> first | (exact hm) | skip
    rename_i γ off len cap hγ
    simp only [frLeaf]
    split
    · rename_i hcond
      obtain ⟨rfl, hb, hcap⟩ := hcond
      obtain ⟨cs, e, ho, hsz, hv⟩ := rel_arr r hk
      have hln : (elemsOf ag sz len (c.drop off)).length = len := elems_length _ _ _ _
      have hcd : allSc (c.drop off) = true := List.all_eq_true.2 fun y hy => List.all_eq_true.1 hc y (List.mem_of_mem_drop hy)
      have hbd : len * sz <= (c.drop off).length := by simp; omega
      have := VR.vs (g := g) (n := σ.n) (ic := IC g (del σ.H γ) w.heap) (elemsOf ag sz len (c.drop off)) .no (g.bl γ) off cap sz (fun i j => cs.getD (off + i * sz + j) Go.undef) (fun e he => by
          obtain ⟨i, hi1⟩ := List.getElem?_of_mem he
          exact (elem_cells hcd hag hbd hi1).1) (by rw [hln]; exact hcap) (fun i j hl hj => by
          rw [hln] at hl
          have hlt : off + i * sz + j < cs.size := by
            have : (i + 1) * sz <= len * sz := Nat.mul_le_mul_right sz hl
            rw [Nat.succ_mul] at this; omega
          refine ⟨by rw [hc_of ho]; simp [hlt], ?_⟩
          rintro ⟨δ, k, hδ, hbl, _⟩
          obtain ⟨h1, h2⟩ := sub δ k hδ
          exact h1 (r.inj _ _ _ _ h2 hk hbl)) (fun i j e x he hx => by
          have hil : i < len := by
            have := (List.getElem?_eq_some_iff.1 he).1
            rwa [hln] at this
          obtain ⟨_, h2⟩ := elem_cells hcd hag hbd he
          have hx2 := h2 j x hx
          rw [List.getElem?_drop] at hx2
          have hidx : off + (i * sz + j) = off + i * sz + j := by omega
          rw [hidx] at hx2
          have hlt : off + i * sz + j < cs.size := by rw [hsz]; exact (List.getElem?_eq_some_iff.1 hx2).1
          have hcs : cs[off + i * sz + j]? = some (cs.getD (off + i * sz + j) Go.undef) := by simp [hlt]
          exact (hv _ x _ hx2 hcs).mono (Nat.le_refl _) (g.le_refl _) hi) trivial
      rwa [hln] at this
    · exact hm
def VW (P : Program) (v : AV) (σ : St) (v' : AV) (σ' : St) : Prop :=
  ∀ (g : Gh) (w : World) (cv : Value), Rel P g σ w.heap -> VRs g σ w v cv -> ∃ g', Rel P g' σ' w.heap /\ VRs g' σ' w v' cv /\ Evo g σ w.heap g' σ' w.heap
theorem VW.er (v : AV) (σ : St) : VW P v σ v.er σ := fun g _ _ r h => ⟨g, r, VR.er h, Evo.refl _ _ _⟩
theorem VW.frz {v : AV} {σ : St} {β : Nat} {c : List AV} (ag : Bool) (sz : Nat) (hk : lk σ.H β = some (.arr c)) (hc : allSc c = true) (hag : ag = true \/ sz = 1) : VW P v σ (v.fr β ag sz c) (σ.del β) := fun g w cv r h =>
  ⟨g, (rel_drop (del σ.H β) σ.n (Nat.le_refl _) r (fun γ b h => by rw [lk_del] at h; split at h <;> first | (simp at h; done) | exact h)).1, VR.frz r hk hc hag h,
    (rel_drop (del σ.H β) σ.n (Nat.le_refl _) r (fun γ b h => by rw [lk_del] at h; split at h <;> first | (simp at h; done) | exact h)).2⟩
theorem ACalls.weak {f : Nat} {args : List AV} {K K' : AV -> St -> Prop} (h : ACalls P f args σ K) (hk : ∀ v σ', K v σ' -> ∃ v' σ'', VW P v σ' v' σ'' /\ K' v' σ'') : ACalls P f args σ K' :=
  ⟨h.1, let ⟨v, σ', hv⟩ := h.2.1; let ⟨v', σ'', _, h'⟩ := hk v σ' hv; ⟨v', σ'', h'⟩, fun g w cargs r hl => (h.2.2 g w cargs r hl).mono fun e w' hp => by
    cases e with
    | returned cv =>
      obtain ⟨v, σ', g', h1, h2, h3, h4⟩ := hp
      obtain ⟨v', σ'', hw, hk'⟩ := hk v σ' h1
      obtain ⟨g'', r'', hv'', e''⟩ := hw g' w' cv h2 h3
      exact ⟨v', σ'', g'', hk', r'', hv'', h4.trans ⟨e'', rfl, rfl⟩⟩
    | panicked _ => exact hp.elim
    | outgrown => exact hp.elim⟩
theorem ACalls.args {f : Nat} {args : List AV} {K : AV -> St -> Prop} (h : ACalls P f (args.map AV.er) σ K) : ACalls P f args σ K :=
  ⟨h.1, h.2.1, fun g w cargs r hl => h.2.2 g w cargs r ⟨by simpa using hl.1, fun i x c hx hc => by
    rw [List.getElem?_map, Option.map_eq_some_iff] at hx
    obtain ⟨y, hy, rfl⟩ := hx
    exact VR.er (hl.2 i y c hy hc)⟩⟩
theorem Ext.del {σ σ' : St} (h : Ext σ σ') {β : Nat} (hβ : σ.n <= β) : Ext σ (σ'.del β) :=
  ⟨h.1, fun γ hγ => by simp only [St.del]; rw [lk_del, if_neg (by omega)]; exact h.2 γ hγ⟩
def LoopN (P : Program) (ro : Option Nat) (nt : Nat) (x : ACode) (Q : Ex -> Env -> St -> Prop) : Nat -> Env -> St -> Prop
  | 0, _, _ => False
  | n + 1, ρ, σ => AW P ro nt x (thn (LoopN P ro nt x Q n) Q) ρ σ
theorem AW.unroll {ro : Option Nat} {nt : Nat} {x : ACode} {Q : Ex -> Env -> St -> Prop} {ρ : Env} (n : Nat) (h : LoopN P ro nt x Q n ρ σ) : AW P ro nt (.loop x) Q ρ σ := by
  refine AW.loop (LoopN P ro nt x Q) n h fun k ρ σ hk => ?_
  cases k with
  | zero => exact hk.elim
  | succ k =>
    refine AW.mono hk fun y ρ σ hy => ?_
    cases y with
    | nrm => exact ⟨k, Nat.lt_succ_self _, hy⟩
    | ext i => exact hy
    | ret => exact hy
theorem zlt (n : Nat) [h : NeZero n] : (0 < n) = True := by simp [Nat.pos_of_neZero]
theorem wl0 : wr .i64 0 = 0 := wr_i (by decide)
theorem wl1 : wr .i64 1 = 1 := wr_i (by decide)
theorem wl2 : wr .i64 2 = 2 := wr_i (by decide)
theorem wl3 : wr .i64 3 = 3 := wr_i (by decide)
theorem wl4 : wr .i64 4 = 4 := wr_i (by decide)
theorem wl5 : wr .i64 5 = 5 := wr_i (by decide)
theorem wl6 : wr .i64 6 = 6 := wr_i (by decide)
theorem wl7 : wr .i64 7 = 7 := wr_i (by decide)
theorem wl8 : wr .i64 8 = 8 := wr_i (by decide)
theorem wl9 : wr .i64 9 = 9 := wr_i (by decide)
theorem wl10 : wr .i64 10 = 10 := wr_i (by decide)
theorem wl11 : wr .i64 11 = 11 := wr_i (by decide)
theorem wl12 : wr .i64 12 = 12 := wr_i (by decide)
theorem wl13 : wr .i64 13 = 13 := wr_i (by decide)
theorem wl14 : wr .i64 14 = 14 := wr_i (by decide)
theorem wl15 : wr .i64 15 = 15 := wr_i (by decide)
theorem wl16 : wr .i64 16 = 16 := wr_i (by decide)
end Go.Proofs.YtekhblefchceaaaGreat.AM

/- Appending to a slice of one's own. -/
namespace Go.Proofs.YtekhblefchceaaaGreat.AM
open Go
variable {σ : St}
def TokOk (n : Nat) (σ : St) : Tok -> Prop
  | .no => False
  | .ex => True
  | .id τ => n <= τ /\ τ < σ.n /\ lk σ.H τ = some .tok
def St.rt (σ : St) : Tok -> St
  | .id τ => ({ σ with H := AM.del σ.H τ } : St).new .tok
  | _ => σ.new .tok
theorem retok_rt {n : Nat} {t : Tok} (h : TokOk n σ t) : σ.retok t = some (σ.rt t) := by
  cases t with
  | no => exact h.elim
  | ex => rfl
  | id τ => obtain ⟨_, _, h⟩ := h; simp only [St.retok, h, St.rt]
theorem rt_n (t : Tok) : (σ.rt t).n = σ.n + 1 := by cases t <;> rfl
theorem rt_tok {n : Nat} (t : Tok) (hn : n <= σ.n) : TokOk n (σ.rt t) (.id σ.n) := by
  refine ⟨hn, by rw [rt_n]; omega, ?_⟩
  cases t <;> simp [St.rt, St.new, lk]
theorem rt_lk {n : Nat} {t : Tok} (h : TokOk n σ t) {β : Nat} {b : Blk} (hb : lk σ.H β = some b) (ht : b ≠ .tok) (hβ : β < σ.n) : lk (σ.rt t).H β = some b := by
  cases t with
  | no => exact h.elim
  | ex => simp only [St.rt, lk_new]; rw [if_neg (by omega)]; exact hb
  | id τ =>
    obtain ⟨_, _, h⟩ := h
    simp only [St.rt, lk_new]
    rw [if_neg (by show ¬ σ.n = β; omega), lk_del, if_neg (fun e => by subst e; rw [h] at hb; cases hb; exact ht rfl)]
    exact hb
theorem rt_ext {σ0 : St} {t : Tok} (h : TokOk σ0.n σ t) (hE : Ext σ0 σ) : Ext σ0 (σ.rt t) := by
  cases t with
  | no => exact h.elim
  | ex => exact hE.newer _
  | id τ =>
    obtain ⟨h1, h2, h3⟩ := h
    exact (Ext.del hE h1).newer _
theorem tokok_mono {n : Nat} {σ σ' : St} {t : Tok} (h : TokOk n σ t) (hn : σ.n <= σ'.n) (hl : ∀ τ, t = .id τ -> lk σ'.H τ = some .tok) : TokOk n σ' t := by
  cases t with
  | no => exact h.elim
  | ex => trivial
  | id τ => exact ⟨h.1, Nat.lt_of_lt_of_le h.2.1 hn, hl τ rfl⟩
theorem app_one {ρ : Env} {ag : Bool} {sz bytes : Nat} {s x : Opd} {l : List AV} {e : AV} {t t' : Tok} {n : Nat} (hs : s.ev ρ = .vs l t) (hx : x.ev ρ = .vs [e] t') (hf : fitSz sz l = true) (he : fitSz sz [e] = true)
    (hb : (l.length + 1) * (bytes + 1) <= maxBytes) (ht : TokOk n σ t) : evalOp ρ σ (.app ag sz bytes s x) = .v (.vs (l ++ [e]) (.id σ.n)) (σ.rt t) := by
  simp only [evalOp, hs, hx, readAll, he, if_true, hf, retok_rt ht, List.length_cons, List.length_nil, Nat.zero_add, hb, decide_true, Bool.and_self]
  simp
def appA (ag : Bool) (sz bytes : Nat) (s x : AV) (σ : St) : OR := evalOp (fun _ => .undef) σ (.app ag sz bytes (.c s) (.c x))
theorem eval_app (ρ : Env) (σ : St) (ag : Bool) (sz bytes : Nat) (s x : Opd) : evalOp ρ σ (.app ag sz bytes s x) = appA ag sz bytes (s.ev ρ) (x.ev ρ) σ := rfl
theorem appA_one {ag : Bool} {sz bytes : Nat} {l : List AV} {e : AV} {t t' : Tok} {n : Nat} (hf : fitSz sz l = true) (he : fitSz sz [e] = true)
    (hb : (l.length + 1) * (bytes + 1) <= maxBytes) (ht : TokOk n σ t) : appA ag sz bytes (.vs l t) (.vs [e] t') σ = .v (.vs (l ++ [e]) (.id σ.n)) (σ.rt t) := app_one rfl rfl hf he hb ht
theorem appA_many {ag : Bool} {sz bytes : Nat} {l new : List AV} {t t' : Tok} {n : Nat} (h0 : new ≠ []) (hf : fitSz sz l = true) (he : fitSz sz new = true)
    (hb : (l.length + new.length) * (bytes + 1) <= maxBytes) (ht : TokOk n σ t) : appA ag sz bytes (.vs l t) (.vs new t') σ = .v (.vs (l ++ new) (.id σ.n)) (σ.rt t) := by
  simp only [appA, evalOp, Opd.ev, readAll, he, if_true, hf, retok_rt ht, hb, decide_true, Bool.and_self, if_neg h0]
theorem appA_nil {ag : Bool} {sz bytes : Nat} {l : List AV} {t t' : Tok} : appA ag sz bytes (.vs l t) (.vs [] t') σ = .v (.vs l t) σ := by
  simp [appA, evalOp, Opd.ev, readAll, fitSz]
end Go.Proofs.YtekhblefchceaaaGreat.AM

/- Regions whose order of evaluation is drawn: operations that act one after another, and others that only read what none of these changes. -/
namespace Go.Proofs.YtekhblefchceaaaGreat.AM
open Go
variable {P : Program} {σ : St}
def SB (l : List (Nat × Blk)) (σ : St) : Prop := ∀ β b, lk l β = some b -> lk σ.H β = some b
theorem SB.nil (σ : St) : SB [] σ := fun β b h => by simp [lk] at h
theorem SB.cons {l : List (Nat × Blk)} {β : Nat} {b : Blk} (h : lk σ.H β = some b) (hl : SB l σ) : SB ((β, b) :: l) σ := fun γ c hc => by
  simp only [lk] at hc
  split at hc
  · rename_i e; subst e; simp only [Option.some.injEq] at hc; subst hc; exact h
  · exact hl γ c hc
theorem contains_cons (i : Nat) (dn : List Nat) : (fun x => (i :: dn).contains x) = (fun x => x == i || dn.contains x) := by
  funext x
  rw [List.contains_cons]
def psv (o : AOp) : Bool := pureOp o || readOp o
theorem psv_small {o : AOp} (hp : psv o = true) {l : List (Nat × Blk)} (ρ : Env) : evalOp ρ ⟨l, 0⟩ o = .bad \/ ∃ v, evalOp ρ ⟨l, 0⟩ o = .v v ⟨l, 0⟩ /\ ∀ σ, SB l σ -> evalOp ρ σ o = .v v σ := by
  by_cases h1 : pureOp o = true
  · rcases (pure_at h1 ρ ⟨l, 0⟩ ⟨l, 0⟩).2 with e | ⟨v, e⟩
    · exact .inl e
    · exact .inr ⟨v, e, fun σ _ => by rw [(pure_at h1 ρ ⟨l, 0⟩ σ).1, e]; rfl⟩
  · have h2 : readOp o = true := by simp only [psv, Bool.or_eq_true] at hp; exact hp.resolve_left h1
    cases o <;> first | (simp [readOp] at h2; done) | skip
    case load ag sz a =>
      simp only [evalOp]
      split
      · rename_i β off _
        cases hk : lk l β with
        | none => exact .inl rfl
        | some b =>
          cases b with
          | arr c =>
            simp only
            cases ag with
            | true =>
              simp only [if_true]
              split
              · rename_i hle
                exact .inr ⟨_, rfl, fun σ hs => by rw [hs _ _ hk]; simp only [if_pos hle]⟩
              · exact .inl rfl
            | false =>
              simp only [Bool.false_eq_true, if_false]
              cases hc : c[off]? with
              | none => exact .inl rfl
              | some v => exact .inr ⟨_, rfl, fun σ hs => by rw [hs _ _ hk]; simp only [hc]⟩
          | typ t' c =>
            simp only
            cases ag with
            | true =>
              simp only [if_true]
              split
              · rename_i hle
                exact .inr ⟨_, rfl, fun σ hs => by rw [hs _ _ hk]; simp only [if_pos hle]⟩
              · exact .inl rfl
            | false =>
              simp only [Bool.false_eq_true, if_false]
              cases hc : c[off]? with
              | none => exact .inl rfl
              | some v => exact .inr ⟨_, rfl, fun σ hs => by rw [hs _ _ hk]; simp only [hc]⟩
          | _ => exact .inl rfl
      · cases ag with
        | true =>
          simp only [if_true]
          split
          · exact .inr ⟨_, rfl, fun _ _ => rfl⟩
          · exact .inl rfl
        | false =>
          simp only [Bool.false_eq_true, if_false]
          split
          · exact .inr ⟨_, rfl, fun _ _ => rfl⟩
          · exact .inl rfl
      · exact .inl rfl
    case lookup ck z x i ok =>
      simp only [evalOp]
      split
      · split
        · exact .inr ⟨_, rfl, fun _ _ => rfl⟩
        · rename_i β _
          cases hk : lk l β with
          | none => exact .inl rfl
          | some b =>
            cases b with
            | map es c =>
              simp only
              cases hf : findKeyA ck (i.ev ρ) es 0 with
              | none => exact .inl rfl
              | some r =>
                cases r with
                | none => exact .inr ⟨_, rfl, fun σ hs => by rw [hs _ _ hk]; simp only [hf]⟩
                | some p => exact .inr ⟨_, rfl, fun σ hs => by rw [hs _ _ hk]; simp only [hf]⟩
            | _ => exact .inl rfl
        · exact .inl rfl
      · exact .inl rfl
    case len k x =>
      simp only [evalOp]
      split
      · exact .inr ⟨_, rfl, fun _ _ => rfl⟩
      · exact .inr ⟨_, rfl, fun _ _ => rfl⟩
      · exact .inr ⟨_, rfl, fun _ _ => rfl⟩
      · exact .inr ⟨_, rfl, fun _ _ => rfl⟩
      · exact .inr ⟨_, rfl, fun _ _ => rfl⟩
      · rename_i β _
        cases hk : lk l β with
        | none => exact .inl rfl
        | some b =>
          cases b with
          | map es c => exact .inr ⟨_, rfl, fun σ hs => by rw [hs _ _ hk]⟩
          | _ => exact .inl rfl
      · exact .inl rfl
theorem psv_out {i : AInstr} (hp : psv i.op = true) {l : List (Nat × Blk)} (ρ : Env) : out i ρ ⟨l, 0⟩ = .bad \/ ∃ v, out i ρ ⟨l, 0⟩ = .v v ⟨l, 0⟩ /\ ∀ σ, SB l σ -> out i ρ σ = .v v σ := by
  unfold out
  cases wanted ρ i.guard with
  | none => exact .inl rfl
  | some b =>
    cases b with
    | false => exact .inr ⟨_, rfl, fun _ _ => rfl⟩
    | true => exact psv_small hp ρ
theorem psv_out' {i : AInstr} (hp : psv i.op = true) {l : List (Nat × Blk)} (ρ : Env) : out i ρ ⟨l, 0⟩ = .bad \/ ∃ v, out i ρ ⟨l, 0⟩ = .v v ⟨l, 0⟩ /\ ∀ σ, (readOp i.op = true -> SB l σ) -> out i ρ σ = .v v σ := by
  by_cases h : readOp i.op = true
  · rcases psv_out hp (l := l) ρ with e | ⟨v, e, hv⟩
    · exact .inl e
    · exact .inr ⟨v, e, fun σ hs => hv σ (hs h)⟩
  · have h1 : pureOp i.op = true := by simp only [psv, Bool.or_eq_true] at hp; exact hp.resolve_right h
    rcases out_pure h1 ρ with e | ⟨v, e⟩
    · exact .inl (e _)
    · exact .inr ⟨v, e _, fun σ _ => e σ⟩
def isCall : AOp -> Bool
  | .call _ _ => true
  | _ => false
inductive QT where
  | nil
  | p (i : Nat) (t : QT)
  | q (i : Nat) (t : QT)
  | r (i : Nat) (t : QT)
  | a (i : Nat) (t : QT)
  | z (i : Nat) (t : QT)
  | b (i : Nat) (t : QT) (j : Nat) (u : QT)
  | c (i : Nat) (t : QT) (j : Nat) (u : QT) (k : Nat) (w : QT)
def QT.depth : QT -> Nat
  | .nil => 0
  | .p _ t => t.depth + 1
  | .q _ t => t.depth + 1
  | .r _ t => t.depth + 1
  | .a _ t => t.depth + 1
  | .z _ t => t.depth + 1
  | .b _ t _ u => max t.depth u.depth + 1
  | .c _ t _ u _ w => max (max t.depth u.depth) w.depth + 1
def needS (z : Option Nat) (dn : Nat -> Bool) : Bool := match z with | some c => !dn c | none => true
def okQ (is : List AInstr) (deps : List (List Nat)) (an : List Nat) (z : Option Nat) : QT -> List Nat -> Bool
  | .nil, dn => (readyA deps (dn.contains ·)).isEmpty
  | .p i t, dn => (readyA deps (dn.contains ·)).contains i && psv (is.getD i default).op &&
      (match z with | some c => !(c == i) && (!readOp (is.getD i default).op || (an.getD c 0).testBit i) | none => true) &&
      ((List.range deps.length).all fun j => dn.contains j || j == i || (an.getD j 0).testBit i || disj (is.getD i default) (is.getD j default)) && okQ is deps an z t (i :: dn)
  | .q i t, dn => (readyA deps (dn.contains ·)).contains i && isCall (is.getD i default).op && (match z with | some c => !(c == i) | none => true) &&
      ((List.range deps.length).all fun j => dn.contains j || j == i || (an.getD j 0).testBit i || disj (is.getD i default) (is.getD j default)) && okQ is deps an z t (i :: dn)
  | .r i t, dn => (readyA deps (dn.contains ·)).contains i && (match z with | some c => !(c == i) && (an.getD c 0).testBit i | none => true) &&
      ((List.range deps.length).all fun j => dn.contains j || j == i || (an.getD j 0).testBit i || disj (is.getD i default) (is.getD j default)) && okQ is deps an z t (i :: dn)
  | .a i t, dn => readyA deps (dn.contains ·) == [i] && okQ is deps an z t (i :: dn)
  | .z i t, dn => readyA deps (dn.contains ·) == [i] && !needS z ((i :: dn).contains ·) && okQ is deps an z t (i :: dn)
  | .b i t j u, dn => readyA deps (dn.contains ·) == [i, j] && okQ is deps an z t (i :: dn) && okQ is deps an z u (j :: dn)
  | .c i t j u k w, dn => readyA deps (dn.contains ·) == [i, j, k] && okQ is deps an z t (i :: dn) && okQ is deps an z u (j :: dn) && okQ is deps an z w (k :: dn)
def AQ (P : Program) (is : List AInstr) (l : List (Nat × Blk)) (K : Env -> St -> Prop) : QT -> Env -> St -> Prop
  | .nil, ρ, σ => K ρ σ
  | .p i t, ρ, σ => AO P (is.getD i default) (fun ρ' _ => AQ P is l K t ρ' σ) ρ ⟨l, 0⟩
  | .q i t, ρ, σ => ∃ v, (∀ σ', AO P (is.getD i default) (fun ρ' σ'' => ρ' = ρ.putO (is.getD i default).dst v /\ σ'' = σ') ρ σ') /\ AQ P is l K t (ρ.putO (is.getD i default).dst v) σ
  | .r i t, ρ, σ => ∃ v, (∀ σ', SB l σ' -> AO P (is.getD i default) (fun ρ' σ'' => ρ' = ρ.putO (is.getD i default).dst v /\ σ'' = σ') ρ σ') /\ AQ P is l K t (ρ.putO (is.getD i default).dst v) σ
  | .a i t, ρ, σ => AO P (is.getD i default) (fun ρ' σ' => SB l σ' /\ AQ P is l K t ρ' σ') ρ σ
  | .z i t, ρ, σ => AO P (is.getD i default) (fun ρ' σ' => AQ P is l K t ρ' σ') ρ σ
  | .b i t j u, ρ, σ => AO P (is.getD i default) (fun ρ' σ' => SB l σ' /\ AQ P is l K t ρ' σ') ρ σ /\ AO P (is.getD j default) (fun ρ' σ' => SB l σ' /\ AQ P is l K u ρ' σ') ρ σ
  | .c i t j u k w, ρ, σ => AO P (is.getD i default) (fun ρ' σ' => SB l σ' /\ AQ P is l K t ρ' σ') ρ σ /\ AO P (is.getD j default) (fun ρ' σ' => SB l σ' /\ AQ P is l K u ρ' σ') ρ σ /\
      AO P (is.getD k default) (fun ρ' σ' => SB l σ' /\ AQ P is l K w ρ' σ') ρ σ
def AnyS (P : Program) (is : List AInstr) (deps : List (List Nat)) (z : Option Nat) (l : List (Nat × Blk)) (K : Env -> St -> Prop) : Nat -> (Nat -> Bool) -> Env -> St -> Prop
  | 0, dn, ρ, σ => (needS z dn = true -> SB l σ) /\ readyA deps dn = [] /\ K ρ σ
  | f + 1, dn, ρ, σ => (needS z dn = true -> SB l σ) /\ (readyA deps dn = [] -> K ρ σ) /\ ∀ i, i ∈ readyA deps dn -> AO P (is.getD i default) (AnyS P is deps z l K f fun x => x == i || dn x) ρ σ
theorem anyS_any {is : List AInstr} {deps : List (List Nat)} {z : Option Nat} {l : List (Nat × Blk)} {K : Env -> St -> Prop} : ∀ (f : Nat) (dn : Nat -> Bool) (ρ : Env) (σ : St), AnyS P is deps z l K f dn ρ σ -> AnyA P is deps K f dn ρ σ
  | 0, _, _, _, h => h.2
  | f + 1, _, _, _, h => ⟨h.2.1, fun i hi => AO_mono (fun ρ' σ' hk => anyS_any f _ ρ' σ' hk) (h.2.2 i hi)⟩
theorem anyS_pas {is : List AInstr} {deps : List (List Nat)} {z : Option Nat} {l : List (Nat × Blk)} {K : Env -> St -> Prop} {i : Nat} {rd : Bool} (hz : ∀ c, z = some c -> c ≠ i /\ (rd = true -> ((ancs [] deps).getD c 0).testBit i = true)) :
    ∀ (f : Nat) (dn : Nat -> Bool) (ρ : Env) (σ : St) (v : AV), (rd = true -> SB l σ) -> (needS z dn = true -> SB l σ) -> Down deps dn -> i ∈ readyA deps dn ->
    (∀ σ', (rd = true -> SB l σ') -> AO P (is.getD i default) (fun ρ' σ'' => ρ' = ρ.putO (is.getD i default).dst v /\ σ'' = σ') ρ σ') ->
    (∀ j, j < deps.length -> dn j = false -> j ≠ i -> ((ancs [] deps).getD j 0).testBit i = true \/ disj (is.getD i default) (is.getD j default) = true) ->
    AnyS P is deps z l K f (fun x => x == i || dn x) (ρ.putO (is.getD i default).dst v) σ -> AnyS P is deps z l K (f + 1) dn ρ σ := by
  intro f
  induction f with
  | zero =>
    intro dn ρ σ v hs hs0 hd hi hst hc h
    refine ⟨hs0, fun e => (by rw [e] at hi; simp at hi), fun j hj => ?_⟩
    by_cases hji : j = i
    · subst hji
      refine AO_mono (fun ρ' σ' hk => ?_) (hst σ hs)
      obtain ⟨rfl, rfl⟩ := hk
      exact h
    · have : j ∈ readyA deps (fun x => x == i || dn x) := by
        obtain ⟨h1, h2, h3⟩ := mem_readyA.1 hj
        exact mem_readyA.2 ⟨h1, by simp [hji, h2], fun e he => by simp [h3 e he]⟩
      rw [h.2.1] at this; simp at this
  | succ f ih =>
    intro dn ρ σ v hs hs0 hd hi hst hc h
    refine ⟨hs0, fun e => (by rw [e] at hi; simp at hi), fun j hj => ?_⟩
    by_cases hji : j = i
    · subst hji
      refine AO_mono (fun ρ' σ' hk => ?_) (hst σ hs)
      obtain ⟨rfl, rfl⟩ := hk
      exact h
    · obtain ⟨h1, h2, h3⟩ := mem_readyA.1 hj
      obtain ⟨i1, i2, i3⟩ := mem_readyA.1 hi
      have hj' : j ∈ readyA deps (fun x => x == i || dn x) := mem_readyA.2 ⟨h1, by simp [hji, h2], fun e he => by simp [h3 e he]⟩
      have hi' : i ∈ readyA deps (fun x => x == j || dn x) := mem_readyA.2 ⟨i1, by simp [Ne.symm hji, i2], fun e he => by simp [i3 e he]⟩
      have hdj : disj (is.getD i default) (is.getD j default) = true := by
        rcases hc j h1 h2 hji with hb | hb
        · have := anc_done hd j h3 i hb
          rw [i2] at this; cases this
        · exact hb
      obtain ⟨d1, d2, d3⟩ := disj_spec hdj
      have hx := AO_out.1 (h.2.2 j hj')
      rw [out_put d1] at hx
      refine AO_out.2 (upon_mono (fun vj σ1 hk => ?_) hx)
      have e : (fun x => x == j || (x == i || dn x)) = (fun x => x == i || (x == j || dn x)) := by
        funext x; cases x == j <;> cases x == i <;> rfl
      rw [e, d3] at hk
      have hk1 : needS z (fun x => x == i || (x == j || dn x)) = true -> SB l σ1 := by cases f <;> exact hk.1
      have hs1 : rd = true -> SB l σ1 := fun hr => hk1 (by
        cases z with
        | none => rfl
        | some c =>
          have ha := (hz c rfl).2 hr
          have c1 : c ≠ j := fun e => by
            subst e
            have := anc_done hd c h3 i ha
            rw [i2] at this; cases this
          have c2 : dn c = false := by
            cases hdc : dn c with
            | false => rfl
            | true =>
              have := anc_done hd c (fun e he => hd c hdc e he) i ha
              rw [i2] at this; cases this
          have c3 : c ≠ i := fun e => by
            subst e
            have := anc_done hd c i3 c ha
            rw [i2] at this; cases this
          simp [needS, c1, c2, c3])
      refine ih _ _ _ v hs1 (fun hn => ?_) (down_add hd hj) hi' (fun σ' hs' => ?_) (fun k k1 k2 k3 => ?_) hk
      · by_cases hr : rd = true
        · exact hs1 hr
        · refine hk1 ?_
          cases z with
          | none => rfl
          | some c =>
            simp only [needS, Bool.not_eq_true', Bool.or_eq_false_iff] at hn ⊢
            refine ⟨?_, hn⟩
            simp only [beq_eq_false_iff_ne, ne_eq]
            exact (hz c rfl).1
      · refine AO_out.2 ?_
        rw [out_put d2]
        refine upon_mono (fun v' σ'' hk => ?_) (AO_out.1 (hst σ' hs'))
        obtain ⟨e1, e2⟩ := hk
        refine ⟨?_, e2⟩
        rw [<- d3, e1, d3]
      · simp only [Bool.or_eq_false_iff] at k2
        exact hc k k1 k2.2 k3
theorem aq_any {is : List AInstr} {deps : List (List Nat)} {z : Option Nat} {l : List (Nat × Blk)} {K : Env -> St -> Prop} : ∀ (t : QT) (f : Nat) (dn : List Nat) (ρ : Env) (σ : St), okQ is deps (ancs [] deps) z t dn = true -> t.depth <= f -> Down deps (dn.contains ·) -> (needS z (dn.contains ·) = true -> SB l σ) ->
    AQ P is l K t ρ σ -> AnyS P is deps z l K f (dn.contains ·) ρ σ
  | .nil, f, dn, ρ, σ, ok, _, hd, hs, h => by
    simp only [okQ, List.isEmpty_iff] at ok
    cases f with
    | zero => exact ⟨hs, ok, h⟩
    | succ f => exact ⟨hs, fun _ => h, fun i hi => by rw [ok] at hi; simp at hi⟩
  | .p i t, f, dn, ρ, σ, ok, hf, hd, hs, h => by
    simp only [okQ, Bool.and_eq_true] at ok
    obtain ⟨⟨⟨⟨o1, o2⟩, oz⟩, o3⟩, o4⟩ := ok
    have hi : i ∈ readyA deps (dn.contains ·) := by simpa using o1
    have hz : ∀ c, z = some c -> c ≠ i /\ (readOp (is.getD i default).op = true -> ((ancs [] deps).getD c 0).testBit i = true) := by
      intro c hc
      subst hc
      simp only [Bool.and_eq_true, Bool.not_eq_true', beq_eq_false_iff_ne, ne_eq, Bool.or_eq_true] at oz
      exact ⟨oz.1, fun hr => oz.2.resolve_left (by rw [hr]; simp)⟩
    cases f with
    | zero => simp [QT.depth] at hf
    | succ f =>
      have h := AO_out.1 h
      rcases psv_out' o2 (l := l) ρ with e | ⟨v, e, hv⟩
      · rw [e] at h; exact h.elim
      · rw [e] at h
        have hs1 : readOp (is.getD i default).op = true -> SB l σ := fun hr => hs (by
          cases z with
          | none => rfl
          | some c =>
            obtain ⟨i1, i2, i3⟩ := mem_readyA.1 hi
            cases hdc : dn.contains c with
            | false => simp only [needS, hdc]; rfl
            | true =>
              have := anc_done hd c (fun e he => hd c hdc e he) i ((hz c rfl).2 hr)
              simp only [this] at i2; cases i2)
        have hd' := down_add hd hi
        have e2 := (contains_cons i dn).symm
        refine anyS_pas hz f _ ρ σ v hs1 hs hd hi (fun σ' hs' => AO_out.2 (by rw [hv σ' hs']; exact ⟨rfl, rfl⟩)) (fun j j1 j2 j3 => ?_) ?_
        · simp only [List.all_eq_true, List.mem_range, Bool.or_eq_true, beq_iff_eq] at o3
          rcases o3 j j1 with ((hx | hx) | hx) | hx
          · rw [j2] at hx; cases hx
          · exact absurd hx j3
          · exact .inl hx
          · exact .inr hx
        · rw [e2] at hd' ⊢
          refine aq_any t f (i :: dn) _ _ o4 (by simp only [QT.depth] at hf; omega) hd' (fun hn => hs ?_) h
          cases z with
          | none => rfl
          | some c =>
            simp only [needS, List.contains_cons, Bool.not_eq_true', Bool.or_eq_false_iff] at hn ⊢
            exact hn.2
  | .q i t, f, dn, ρ, σ, ok, hf, hd, hs, h => by
    simp only [okQ, Bool.and_eq_true] at ok
    obtain ⟨⟨⟨⟨o1, o2⟩, oz⟩, o3⟩, o4⟩ := ok
    have hi : i ∈ readyA deps (dn.contains ·) := by simpa using o1
    have hz : ∀ c, z = some c -> c ≠ i /\ (false = true -> ((ancs [] deps).getD c 0).testBit i = true) := by
      intro c hc
      subst hc
      simp only [Bool.not_eq_true', beq_eq_false_iff_ne, ne_eq] at oz
      exact ⟨oz, fun hr => by cases hr⟩
    cases f with
    | zero => simp [QT.depth] at hf
    | succ f =>
      obtain ⟨v, hv, h⟩ := h
      have hd' := down_add hd hi
      have e2 := (contains_cons i dn).symm
      refine anyS_pas hz f _ ρ σ v (fun e => by cases e) hs hd hi (fun σ' _ => hv σ') (fun j j1 j2 j3 => ?_) ?_
      · simp only [List.all_eq_true, List.mem_range, Bool.or_eq_true, beq_iff_eq] at o3
        rcases o3 j j1 with ((hx | hx) | hx) | hx
        · rw [j2] at hx; cases hx
        · exact absurd hx j3
        · exact .inl hx
        · exact .inr hx
      · rw [e2] at hd' ⊢
        refine aq_any t f (i :: dn) _ _ o4 (by simp only [QT.depth] at hf; omega) hd' (fun hn => hs ?_) h
        cases z with
        | none => rfl
        | some c =>
          simp only [needS, List.contains_cons, Bool.not_eq_true', Bool.or_eq_false_iff] at hn ⊢
          exact hn.2
  | .r i t, f, dn, ρ, σ, ok, hf, hd, hs, h => by
    simp only [okQ, Bool.and_eq_true] at ok
    obtain ⟨⟨⟨o1, oz⟩, o3⟩, o4⟩ := ok
    have hi : i ∈ readyA deps (dn.contains ·) := by simpa using o1
    have hz : ∀ c, z = some c -> c ≠ i /\ (true = true -> ((ancs [] deps).getD c 0).testBit i = true) := by
      intro c hc
      subst hc
      simp only [Bool.and_eq_true, Bool.not_eq_true', beq_eq_false_iff_ne, ne_eq] at oz
      exact ⟨oz.1, fun _ => oz.2⟩
    cases f with
    | zero => simp [QT.depth] at hf
    | succ f =>
      obtain ⟨v, hv, h⟩ := h
      have hs1 : SB l σ := hs (by
          cases z with
          | none => rfl
          | some c =>
            obtain ⟨i1, i2, i3⟩ := mem_readyA.1 hi
            cases hdc : dn.contains c with
            | false => simp only [needS, hdc]; rfl
            | true =>
              have := anc_done hd c (fun e he => hd c hdc e he) i ((hz c rfl).2 rfl)
              simp only [this] at i2; cases i2)
      have hd' := down_add hd hi
      have e2 := (contains_cons i dn).symm
      refine anyS_pas hz f _ ρ σ v (fun _ => hs1) hs hd hi (fun σ' hs' => hv σ' (hs' rfl)) (fun j j1 j2 j3 => ?_) ?_
      · simp only [List.all_eq_true, List.mem_range, Bool.or_eq_true, beq_iff_eq] at o3
        rcases o3 j j1 with ((hx | hx) | hx) | hx
        · rw [j2] at hx; cases hx
        · exact absurd hx j3
        · exact .inl hx
        · exact .inr hx
      · rw [e2] at hd' ⊢
        refine aq_any t f (i :: dn) _ _ o4 (by simp only [QT.depth] at hf; omega) hd' (fun hn => hs ?_) h
        cases z with
        | none => rfl
        | some c =>
          simp only [needS, List.contains_cons, Bool.not_eq_true', Bool.or_eq_false_iff] at hn ⊢
          exact hn.2
  | .a i t, f, dn, ρ, σ, ok, hf, hd, hs, h => by
    simp only [okQ, Bool.and_eq_true, beq_iff_eq] at ok
    obtain ⟨o1, o4⟩ := ok
    cases f with
    | zero => simp [QT.depth] at hf
    | succ f =>
      refine ⟨hs, fun e => (by rw [o1] at e; simp at e), fun j hj => ?_⟩
      have hi := hj
      rw [o1] at hj
      simp only [List.mem_singleton] at hj
      subst hj
      refine AO_mono (fun ρ' σ' hk => ?_) h
      have hd' := down_add hd hi
      have e2 := (contains_cons j dn).symm
      rw [e2] at hd' ⊢
      exact aq_any t f (j :: dn) _ _ o4 (by simp only [QT.depth] at hf; omega) hd' (fun _ => hk.1) hk.2
  | .z i t, f, dn, ρ, σ, ok, hf, hd, hs, h => by
    simp only [okQ, Bool.and_eq_true, beq_iff_eq] at ok
    obtain ⟨⟨o1, oz⟩, o4⟩ := ok
    cases f with
    | zero => simp [QT.depth] at hf
    | succ f =>
      refine ⟨hs, fun e => (by rw [o1] at e; simp at e), fun j hj => ?_⟩
      have hi := hj
      rw [o1] at hj
      simp only [List.mem_singleton] at hj
      subst hj
      refine AO_mono (fun ρ' σ' hk => ?_) h
      have hd' := down_add hd hi
      have e2 := (contains_cons j dn).symm
      rw [e2] at hd' ⊢
      exact aq_any t f (j :: dn) _ _ o4 (by simp only [QT.depth] at hf; omega) hd' (fun hn => by rw [hn] at oz; cases oz) hk
  | .b i t j u, f, dn, ρ, σ, ok, hf, hd, hs, h => by
    simp only [okQ, Bool.and_eq_true, beq_iff_eq] at ok
    obtain ⟨⟨o1, o4⟩, o5⟩ := ok
    cases f with
    | zero => simp [QT.depth] at hf
    | succ f =>
      refine ⟨hs, fun e => (by rw [o1] at e; simp at e), fun k hk => ?_⟩
      have hi := hk
      rw [o1] at hk
      simp only [List.mem_cons, List.not_mem_nil, or_false] at hk
      have hd' := down_add hd hi
      have e2 := (contains_cons k dn).symm
      rw [e2] at hd' ⊢
      simp only [QT.depth] at hf
      rcases hk with rfl | rfl
      · exact AO_mono (fun ρ' σ' hk => aq_any t f (k :: dn) _ _ o4 (by omega) hd' (fun _ => hk.1) hk.2) h.1
      · exact AO_mono (fun ρ' σ' hk => aq_any u f (k :: dn) _ _ o5 (by omega) hd' (fun _ => hk.1) hk.2) h.2
  | .c i t j u m w, f, dn, ρ, σ, ok, hf, hd, hs, h => by
    simp only [okQ, Bool.and_eq_true, beq_iff_eq] at ok
    obtain ⟨⟨⟨o1, o4⟩, o5⟩, o6⟩ := ok
    cases f with
    | zero => simp [QT.depth] at hf
    | succ f =>
      refine ⟨hs, fun e => (by rw [o1] at e; simp at e), fun k hk => ?_⟩
      have hi := hk
      rw [o1] at hk
      simp only [List.mem_cons, List.not_mem_nil, or_false] at hk
      have hd' := down_add hd hi
      have e2 := (contains_cons k dn).symm
      rw [e2] at hd' ⊢
      simp only [QT.depth] at hf
      rcases hk with rfl | rfl | rfl
      · exact AO_mono (fun ρ' σ' hk => aq_any t f (k :: dn) _ _ o4 (by omega) hd' (fun _ => hk.1) hk.2) h.1
      · exact AO_mono (fun ρ' σ' hk => aq_any u f (k :: dn) _ _ o5 (by omega) hd' (fun _ => hk.1) hk.2) h.2.1
      · exact AO_mono (fun ρ' σ' hk => aq_any w f (k :: dn) _ _ o6 (by omega) hd' (fun _ => hk.1) hk.2) h.2.2
theorem AQ_some {is : List AInstr} {l : List (Nat × Blk)} {K : Env -> St -> Prop} : ∀ (t : QT) (ρ : Env) (σ : St), AQ P is l K t ρ σ -> ∃ ρ' σ', K ρ' σ'
  | .nil, _, _, h => ⟨_, _, h⟩
  | .p i t, ρ, σ, h => let ⟨_, _, h⟩ := AO_some h; AQ_some t _ _ h
  | .q i t, ρ, σ, h => let ⟨_, _, h⟩ := h; AQ_some t _ _ h
  | .r i t, ρ, σ, h => let ⟨_, _, h⟩ := h; AQ_some t _ _ h
  | .a i t, ρ, σ, h => let ⟨_, _, h⟩ := AO_some h; AQ_some t _ _ h.2
  | .z i t, ρ, σ, h => let ⟨_, _, h⟩ := AO_some h; AQ_some t _ _ h
  | .b i t j u, ρ, σ, h => let ⟨_, _, h⟩ := AO_some h.1; AQ_some t _ _ h.2
  | .c i t j u k w, ρ, σ, h => let ⟨_, _, h⟩ := AO_some h.1; AQ_some t _ _ h.2
theorem AW.qt {ro : Option Nat} {nt : Nat} {Q : Ex -> Env -> St -> Prop} {ρ : Env} {is : List AInstr} {deps : List (List Nat)} (z : Option Nat) (t : QT) (l : List (Nat × Blk)) (hm : P.follows .mixedOrders = true) (hok : okQ is deps (ancs [] deps) z t [] = true) (hd : t.depth <= is.length)
    (hs : SB l σ) (h : AQ P is l (fun ρ σ => Q .nrm ρ σ) t ρ σ) : AW P ro nt (.qrg is deps) Q ρ σ := by
  refine AW.qrg hm (let ⟨_, _, h⟩ := AQ_some t _ _ h; ⟨_, _, h⟩) ?_
  have := aq_any t is.length [] ρ σ hok hd (fun j hj => by simp at hj) (fun _ => hs) h
  have e : (fun x => ([] : List Nat).contains x) = (fun _ : Nat => false) := by funext x; simp
  rw [e] at this
  exact anyS_any _ _ _ _ this
end Go.Proofs.YtekhblefchceaaaGreat.AM

/- The numbers of blocks that were made since a call began may be exchanged. -/
namespace Go.Proofs.YtekhblefchceaaaGreat.AM
open Go
variable {P : Program} {σ : St}
variable {π κ : Nat -> Nat} {n : Nat}
end Go.Proofs.YtekhblefchceaaaGreat.AM

/- A call that is handed no memory that may be written, and answers without memory, leaves the state as it is. -/
namespace Go.Proofs.YtekhblefchceaaaGreat.AM
open Go
variable {P : Program} {σ : St}
def Tok.pur : Tok -> Bool
  | .id _ => false
  | _ => true
mutual
def AV.pur : AV -> Bool
  | .ptr _ _ => false
  | .hs _ _ _ _ => false
  | .map _ => false
  | .yld _ => false
  | .vs l t => t.pur && purL l
  | .bs _ t => t.pur
  | .ip l => purL l
  | .fn _ l => purL l
  | .agg l => purL l
  | .tup l => purL l
  | .undef => true
  | .bool _ => true
  | .int _ _ => true
  | .str _ => true
  | .nilp => true
  | .nilmap => true
  | .nilfn => true
  | .nilif => true
def purL : List AV -> Bool
  | [] => true
  | x :: l => x.pur && purL l
end
theorem purL_mem : ∀ {l : List AV}, purL l = true -> ∀ x, x ∈ l -> x.pur = true
  | x :: l, h, y, hy => by
    simp only [purL, Bool.and_eq_true] at h
    rcases List.mem_cons.1 hy with rfl | hy
    · exact h.1
    · exact purL_mem h.2 y hy
theorem pur_cells {x y : AV} (h : x.pur = true) (hy : y ∈ x.cells) : y.pur = true := by
  cases x with
  | agg l => simp only [AV.cells] at hy; simp only [AV.pur] at h; exact purL_mem h y hy
  | _ => simp only [AV.cells, List.mem_singleton] at hy; subst hy; exact h
theorem TokR.pur {g g' : Gh} {n n' l b off sz len cap : Nat} {t : Tok} (hp : t.pur = true) (h : TokR g n l b off sz len cap t) : TokR g' n' l b off sz len cap t := by
  cases t with
  | no => trivial
  | ex => exact h
  | id τ => simp [Tok.pur] at hp
theorem VR.pur {g g' : Gh} {n n' : Nat} {ic ic' : Nat -> Nat -> Value -> Prop} (hi : ∀ b i v, ic b i v -> ic' b i v) {x : AV} {c : Value} (h : VR g n ic x c) : x.pur = true -> VR g' n' ic' x c := by
  induction h with
  | undef v => exact fun _ => .undef v
  | bool b => exact fun _ => .bool b
  | int k i => exact fun _ => .int k i
  | str s => exact fun _ => .str s
  | nilp => exact fun _ => .nilp
  | ptr β off h => intro hp; simp [AV.pur] at hp
  | ip l b off cs h1 h2 ih =>
    intro hp; simp only [AV.pur] at hp
    exact .ip l b off cs (fun i hl => hi _ _ _ (h1 i hl)) (fun i x hx => ih i x hx (purL_mem hp x (List.mem_of_getElem? hx)))
  | vsn t => exact fun _ => .vsn t
  | vs l t b off cap sz cs hsz hcap h1 h2 ht ih =>
    intro hp; simp only [AV.pur, Bool.and_eq_true] at hp
    exact .vs l t b off cap sz cs hsz hcap (fun i j hl hj => hi _ _ _ (h1 i j hl hj)) (fun i j e x he hx => ih i j e x he hx (pur_cells (purL_mem hp.2 e (List.mem_of_getElem? he)) (List.mem_of_getElem? hx))) (ht.pur hp.1)
  | bs s t b off cap hcap h1 ht =>
    intro hp; simp only [AV.pur] at hp
    exact .bs s t b off cap hcap (fun i x hx => hi _ _ _ (h1 i x hx)) ⟨ht.1.pur hp, by cases t <;> first | trivial | simp [Tok.pur] at hp⟩
  | hs β off len cap h => intro hp; simp [AV.pur] at hp
  | nilmap => exact fun _ => .nilmap
  | map β h => intro hp; simp [AV.pur] at hp
  | nilfn => exact fun _ => .nilfn
  | fn m l cs hl h2 ih =>
    intro hp; simp only [AV.pur] at hp
    exact .fn m l cs hl (fun i x c hx hc => ih i x c hx hc (purL_mem hp x (List.mem_of_getElem? hx)))
  | yld β h => intro hp; simp [AV.pur] at hp
  | nilif => exact fun _ => .nilif
  | agg l cs hl h2 ih =>
    intro hp; simp only [AV.pur] at hp
    exact .agg l cs hl (fun i x c hx hc => ih i x c hx hc (purL_mem hp x (List.mem_of_getElem? hx)))
  | tup l cs hl h2 ih =>
    intro hp; simp only [AV.pur] at hp
    exact .tup l cs hl (fun i x c hx hc => ih i x c hx hc (purL_mem hp x (List.mem_of_getElem? hx)))
mutual
def AV.scal : AV -> Bool
  | .agg l => scalL l
  | .tup l => scalL l
  | .bool _ => true
  | .int _ _ => true
  | .str _ => true
  | .nilp => true
  | .nilmap => true
  | .nilfn => true
  | .nilif => true
  | _ => false
def scalL : List AV -> Bool
  | [] => true
  | x :: l => x.scal && scalL l
end
theorem scalL_mem : ∀ {l : List AV}, scalL l = true -> ∀ x, x ∈ l -> x.scal = true
  | x :: l, h, y, hy => by
    simp only [scalL, Bool.and_eq_true] at h
    rcases List.mem_cons.1 hy with rfl | hy
    · exact h.1
    · exact scalL_mem h.2 y hy
theorem VR.scal {g g' : Gh} {n n' : Nat} {ic ic' : Nat -> Nat -> Value -> Prop} {x : AV} {c : Value} (h : VR g n ic x c) : x.scal = true -> VR g' n' ic' x c := by
  induction h with
  | bool b => exact fun _ => .bool b
  | int k i => exact fun _ => .int k i
  | str s => exact fun _ => .str s
  | nilp => exact fun _ => .nilp
  | nilmap => exact fun _ => .nilmap
  | nilfn => exact fun _ => .nilfn
  | nilif => exact fun _ => .nilif
  | agg l cs hl h2 ih =>
    intro hp; simp only [AV.scal] at hp
    exact .agg l cs hl (fun i x c hx hc => ih i x c hx hc (scalL_mem hp x (List.mem_of_getElem? hx)))
  | tup l cs hl h2 ih =>
    intro hp; simp only [AV.scal] at hp
    exact .tup l cs hl (fun i x c hx hc => ih i x c hx hc (scalL_mem hp x (List.mem_of_getElem? hx)))
  | _ => intro hp; simp [AV.scal] at hp
theorem rel_none (g : Gh) (n : Nat) (h : Heap) : Rel P g ⟨[], n⟩ h := ⟨fun β k hk => by simp [lk] at hk, fun β γ k k' hk => by simp [lk] at hk, fun β k hk => by simp [lk] at hk⟩
theorem kept_all {g g' : Gh} {σ' : St} {h h' : Heap} (e : Evo g ⟨[], 0⟩ h g' σ' h') (b : Nat) (o : Obj) (ho : h[b]? = some o) : h'[b]? = some o := by
  have hd : DO g [] h b o := ⟨ho, fun β k hk => by simp [lk] at hk⟩
  exact (e.edo b o hd).1
theorem ACalls.frame {f : Nat} {args : List AV} {K : AV -> St -> Prop} (h : ACalls P f args ⟨[], 0⟩ K) (ha : purL args = true) (hk : ∀ v σ', K v σ' -> v.scal = true) : ACalls P f args σ (fun v σ' => (∃ σ0, K v σ0) /\ σ' = σ) :=
  ⟨h.1, let ⟨v, σ', hv⟩ := h.2.1; ⟨v, σ, ⟨σ', hv⟩, rfl⟩, fun g w cargs r hl => by
    refine (h.2.2 g w cargs (rel_none g 0 w.heap) ⟨hl.1, fun i x c hx hc => VR.pur (fun b i v hi => ⟨hi.1, fun ⟨β, k, hk, _⟩ => by simp [lk] at hk⟩) (hl.2 i x c hx hc) (purL_mem ha x (List.mem_of_getElem? hx))⟩).mono fun e w' hp => ?_
    cases e with
    | panicked _ => exact hp.elim
    | outgrown => exact hp.elim
    | returned cv =>
      obtain ⟨v, σ1, g1, h1, h2, h3, h4⟩ := hp
      have hka := kept_all h4.toEvo
      have hcs : ∀ b i v, hc w.heap b i = some v -> hc w'.heap b i = some v := by
        intro b i v hv
        unfold hc at hv ⊢
        cases ho : w.heap[b]? with
        | none => simp [ho] at hv
        | some o => rw [hka b o ho]; rw [ho] at hv; exact hv
      have hic : ∀ b i v, IC g σ.H w.heap b i v -> IC g σ.H w'.heap b i v := fun b i v hi => ⟨hcs b i v hi.1, hi.2⟩
      refine ⟨v, σ, g, ⟨⟨σ1, h1⟩, rfl⟩, ⟨r.lt, r.inj, fun β k hk => ?_⟩, VR.scal h3 (hk v σ1 h1), ⟨Nat.le_refl _, g.le_refl _, hic, fun b o hd => ⟨hka b o hd.1, hd.2⟩, h4.esz, h4.ekc⟩, h4.os, h4.out⟩
      have hb := r.blk β k hk
      have hlt := hb.lt
      have ho : w.heap[g.bl β]? = some w.heap[g.bl β] := Array.getElem?_eq_getElem hlt
      rw [hka _ _ ho, <- ho]
      exact hb.mono (Nat.le_refl _) (g.le_refl _) (r.lt β k hk) hic⟩
end Go.Proofs.YtekhblefchceaaaGreat.AM

/- What a call made may be forgotten, with its numbers. -/
namespace Go.Proofs.YtekhblefchceaaaGreat.AM
open Go
variable {P : Program} {σ : St}
def bndT (n : Nat) : Tok -> Bool
  | .id τ => Nat.blt τ n
  | _ => true
end Go.Proofs.YtekhblefchceaaaGreat.AM

/- From the abstract machine to the rows: a function without arguments that returns true. -/
namespace Go.Proofs.YtekhblefchceaaaGreat.AM
open Go Go.ChangeShapes Go.WideShapes
variable {P : Program}
section
variable {H : Type} {enc : TypeId × Value -> H}
end
end Go.Proofs.YtekhblefchceaaaGreat.AM

/- The rules of a walk, together. -/
set_option maxRecDepth 20000
set_option linter.defProp false
namespace Go.Proofs.YtekhblefchceaaaGreat.AM
open Go
variable {P : Program}
def lenA (k : LK) (σ : St) (v : AV) : OR := evalOp (fun _ => v) σ (.len k (.t 0))
theorem eval_len (ρ : Env) (σ : St) (k : LK) (x : Opd) : evalOp ρ σ (.len k x) = lenA k σ (x.ev ρ) := rfl
theorem len_vs (σ : St) (l : List AV) (t : Tok) : lenA .l σ (.vs l t) = .v (.int .i64 l.length) σ := rfl
theorem len_bs (σ : St) (l : List UInt8) (t : Tok) : lenA .l σ (.bs l t) = .v (.int .i64 l.length) σ := rfl
theorem len_s (σ : St) (l : List UInt8) : lenA .s σ (.str l) = .v (.int .i64 l.length) σ := rfl
theorem len_hs (σ : St) (β off len cap : Nat) : lenA .l σ (.hs β off len cap) = .v (.int .i64 len) σ := rfl
theorem len_nilmap (σ : St) : lenA .m σ .nilmap = .v (.int .i64 0) σ := rfl
theorem len_map (σ : St) (β : Nat) : lenA .m σ (.map β) = (match lk σ.H β with | some (.map es _) => .v (.int .i64 es.length) σ | _ => .bad) := rfl
def gao (P : Program) (b : Bool) (d : Option Nat) (op : AOp) (K : Env -> St -> Prop) (ρ : Env) (σ : St) (x : AV) : Prop :=
  match (match x with | .bool t => some (t == b) | .tup [] => some false | _ => none : Option Bool) with
  | some true => upon P σ (fun v σ' => K (ρ.putO d v) σ') (evalOp ρ σ op)
  | some false => K (ρ.putO d (.tup [])) σ
  | none => False
theorem ao_n {K : Env -> St -> Prop} (d : Option Nat) (op : AOp) (ρ : Env) (σ : St) : AO P ⟨d, none, op⟩ K ρ σ = upon P σ (fun v σ' => K (ρ.putO d v) σ') (evalOp ρ σ op) := rfl
theorem ao_g {K : Env -> St -> Prop} (d : Option Nat) (s : Nat) (b : Bool) (op : AOp) (ρ : Env) (σ : St) : AO P ⟨d, some (s, b), op⟩ K ρ σ = gao P b d op K ρ σ (ρ s) := rfl
theorem ga_tt {K : Env -> St -> Prop} (d : Option Nat) (op : AOp) (ρ : Env) (σ : St) : gao P true d op K ρ σ (.bool true) = upon P σ (fun v σ' => K (ρ.putO d v) σ') (evalOp ρ σ op) := rfl
theorem ga_ff {K : Env -> St -> Prop} (d : Option Nat) (op : AOp) (ρ : Env) (σ : St) : gao P false d op K ρ σ (.bool false) = upon P σ (fun v σ' => K (ρ.putO d v) σ') (evalOp ρ σ op) := rfl
theorem ga_tf {K : Env -> St -> Prop} (d : Option Nat) (op : AOp) (ρ : Env) (σ : St) : gao P true d op K ρ σ (.bool false) = K (ρ.putO d (.tup [])) σ := rfl
theorem ga_ft {K : Env -> St -> Prop} (d : Option Nat) (op : AOp) (ρ : Env) (σ : St) : gao P false d op K ρ σ (.bool true) = K (ρ.putO d (.tup [])) σ := rfl
theorem ga_no {K : Env -> St -> Prop} (b : Bool) (d : Option Nat) (op : AOp) (ρ : Env) (σ : St) : gao P b d op K ρ σ (.tup []) = K (ρ.putO d (.tup [])) σ := rfl
@[congr] theorem gao_congr {K : Env -> St -> Prop} (b : Bool) (d : Option Nat) (op : AOp) (ρ : Env) (σ : St) {x y : AV} (h : x = y) : gao P b d op K ρ σ x = gao P b d op K ρ σ y := by rw [h]
section
variable {is : List AInstr} {l : List (Nat × Blk)} {K : Env -> St -> Prop}
theorem aq_nil (ρ : Env) (σ : St) : AQ P is l K .nil ρ σ = K ρ σ := rfl
theorem aq_p (i : Nat) (t : QT) (ρ : Env) (σ : St) : AQ P is l K (.p i t) ρ σ = AO P (is.getD i default) (fun ρ' _ => AQ P is l K t ρ' σ) ρ ⟨l, 0⟩ := rfl
theorem aq_a (i : Nat) (t : QT) (ρ : Env) (σ : St) : AQ P is l K (.a i t) ρ σ = AO P (is.getD i default) (fun ρ' σ' => SB l σ' /\ AQ P is l K t ρ' σ') ρ σ := rfl
theorem aq_z (i : Nat) (t : QT) (ρ : Env) (σ : St) : AQ P is l K (.z i t) ρ σ = AO P (is.getD i default) (fun ρ' σ' => AQ P is l K t ρ' σ') ρ σ := rfl
theorem aq_b (i : Nat) (t : QT) (j : Nat) (u : QT) (ρ : Env) (σ : St) : AQ P is l K (.b i t j u) ρ σ = (AO P (is.getD i default) (fun ρ' σ' => SB l σ' /\ AQ P is l K t ρ' σ') ρ σ /\ AO P (is.getD j default) (fun ρ' σ' => SB l σ' /\ AQ P is l K u ρ' σ') ρ σ) := rfl
theorem aq_c (i : Nat) (t : QT) (j : Nat) (u : QT) (k : Nat) (w : QT) (ρ : Env) (σ : St) : AQ P is l K (.c i t j u k w) ρ σ = (AO P (is.getD i default) (fun ρ' σ' => SB l σ' /\ AQ P is l K t ρ' σ') ρ σ /\ AO P (is.getD j default) (fun ρ' σ' => SB l σ' /\ AQ P is l K u ρ' σ') ρ σ /\
      AO P (is.getD k default) (fun ρ' σ' => SB l σ' /\ AQ P is l K w ρ' σ') ρ σ) := rfl
theorem lk_here (β : Nat) (b : Blk) (r : List (Nat × Blk)) (x : Nat) : lk ((β, b) :: r) x = if β = x then some b else lk r x := rfl
theorem sb_nil_true (σ : St) : SB [] σ = True := eq_true (SB.nil σ)
end
def W0 := aI @eval_len <| aI @aq_nil <| aI @aq_p <| aI @aq_a <| aI @aq_z <| aI @aq_b <| aI @aq_c <| aI @ao_n <| aI @ao_g <| aI @w_nil <| aI @w_cons <| aI @w_consg <| aI @ev_t <| aI @ev_c <| aI @put_at <| aI @eval_conv <| aI @eval_app <| aI @evalOp.eq_1 <| aI @evalOp.eq_2 <| aI @evalOp.eq_3 <| aI @evalOp.eq_4 <| aI @evalOp.eq_5 <| aI @evalOp.eq_6 <| aI @evalOp.eq_7 <| aI @evalOp.eq_8 <| aI @evalOp.eq_9 <| aI @evalOp.eq_10 <| aI @evalOp.eq_11 <| aI @evalOp.eq_12 <| aI @evalOp.eq_13 <| aI @evalOp.eq_14 <| aI @evalOp.eq_16 <| aI @evalOp.eq_17 <| aI @evalOp.eq_18 <| aI @evalOp.eq_19 <| aI @evalOp.eq_20 <| aI @evalOp.eq_21 <| aI @evalOp.eq_22 <| aI @evalOp.eq_23 <| aI @evalOp.eq_24 <| aI @evalOp.eq_25 <| aI @evalOp.eq_26 <| aI @evalOp.eq_27 <| aI @evalOp.eq_28 <| aI @evalOp.eq_29 <| aI @evalOp.eq_30 <| aI @evalOp.eq_31 <| aI @evalOp.eq_32 <| aI @evalOp.eq_33 <| aI @evalOp.eq_34 <| aI @evalOp.eq_35 <| aI @evalOp.eq_36 <| aI @evalOp.eq_38 <| aI @evalOp.eq_46 <| aI @evalOp.eq_47 <| @evalOp.eq_48
def W := aI @len_vs <| aI @len_bs <| aI @len_s <| aI @len_hs <| aI @len_nilmap <| aI @len_map <| aI @ga_tt <| aI @ga_ff <| aI @ga_tf <| aI @ga_ft <| aI @ga_no <| aI @lk_here <| aI @sb_nil_true <| aI @g_tt <| aI @g_ff <| aI @g_tf <| aI @g_ft <| aI @g_no <| aI @u_v <| aI @u_any <| aI @u_call <| aI @u_yld <| aI @u_bad <| aI @putO_some <| aI @putO_none <| aI @thn_nrm <| aI @thn_ext <| aI @thn_ret <| aI @inBl_nrm <| aI @inBl_ret <| aI @inBl_ext <| aI @FPost_nrm <| aI @FPost_ret <| aI @envOf_at <| aI @List.getD_cons_zero.{0} <| aI @List.getD_cons_succ.{0} <| aI @List.getD_nil.{0} <| aI @bin_add <| aI @bin_sub <| aI @bin_mul <| aI @bin_eql <| aI @bin_neq <| aI @bin_lss <| aI @bin_leq <| aI @bin_gtr <| aI @bin_geq <| aI @bin_sadd <| aI @bin_seql <| aI @bin_sneq <| aI @bin_and <| aI @bin_or <| aI @wr_eq <| aI @natOf.eq_1 <| aI @natOf.eq_2 <| aI @optNat.eq_1 <| aI @optNat.eq_2 <| aI @eqK.eq_1 <| aI @eqK.eq_2 <| aI @eqK.eq_3 <| aI @eqK.eq_4 <| aI @eqK.eq_5 <| aI @eqK.eq_6 <| aI @eqK.eq_7 <| aI @eqK.eq_8 <| aI @eqK.eq_9 <| aI @eqK.eq_10 <| aI @eqK.eq_11 <| aI @eqK.eq_12 <| aI @eqK.eq_13 <| aI @eqK.eq_14 <| aI @resOf.eq_1 <| aI @resOf.eq_2 <| aI @resOf.eq_3 <| aI @resAV.eq_1 <| aI @resAV.eq_2 <| aI @Option.map_some.{0, 0} <| aI @AV.cells.eq_1 <| aI @AV.cells.eq_2 <| aI @allSc.eq_1 <| aI @AV.sc.eq_1 <| aI @AV.sc.eq_2 <| aI @AV.sc.eq_3 <| aI @AV.sc.eq_4 <| aI @List.all_cons.{0} <| aI @List.all_nil.{0} <| aI @Bool.and_true <| aI @Bool.and_self <| aI @List.map_cons.{0, 0} <| aI @List.map_nil.{0, 0} <| aI @List.append_nil.{0} <| aI @List.nil_append.{0} <| aI @List.cons_append.{0} <| aI @List.length_cons.{0} <| aI @List.length_nil.{0} <| aI @lk_new <| aI @lk_set <| aI @new_n <| aI @set_n <| aI @Int.natCast_nonneg <| aI @Int.toNat_natCast <| aI @Bool.false_eq_true <| aI @Bool.not_true <| aI @Bool.not_false <| aI @Bool.not_eq_true <| aI @decide_true <| aI @decide_false <| aI @beq_self_eq_true.{0} <| aI @beq_true <| aI @beq_false <| aI @bne_self_eq_false.{0} <| aI @gt_iff_lt.{0} <| aI @ge_iff_le.{0} <| aI @if_true.{1} <| aI @if_false.{1} <| aI @List.getElem?_cons_zero.{0} <| aI @List.getElem?_cons_succ.{0} <| aI @Option.some.injEq.{0} <| aI @exists_eq_left'.{1} <| aI @Int.toNat_natCast_add_one <| aI @Int.le_refl <| aI @Int.toNat_zero <| aI @Nat.zero_mul <| aI @Nat.mul_one <| aI @zlt <| aI @Int.zero_add <| aI @Int.add_zero <| aI @wl0 <| aI @wl1 <| aI @wl2 <| aI @wl3 <| aI @wl4 <| aI @wl5 <| aI @wl6 <| aI @wl7 <| aI @wl8 <| aI @wl9 <| aI @wl10 <| aI @wl11 <| aI @wl12 <| aI @wl13 <| aI @wl14 <| aI @wl15 <| aI @wl16 <| aI @Nat.lt_add_one <| aI @Nat.add_zero <| aI @Nat.zero_add <| aI @Nat.le_refl <| aI @and_self <| aI @and_true <| aI @true_and <| aI @List.drop_zero.{0} <| aI @List.drop_succ_cons.{0} <| aI @List.take_zero.{0} <| aI @List.take_succ_cons.{0} <| aI @buildA.eq_1 <| aI @buildA.eq_2 <| aI @putCells.eq_1 <| aI @List.headD_cons.{0} <| aI @ne_eq.{1} <| aI @not_true_eq_false <| aI @not_false_eq_true <| aI @nk1 <| aI @kn1 <| aI @nk2 <| aI @kn2 <| aI @nk3 <| aI @kn3 <| aI @nk4 <| aI @kn4 <| aI @nk5 <| aI @kn5 <| aI @nk6 <| aI @kn6 <| aI @nk7 <| aI @kn7 <| aI @nk8 <| aI @kn8 <| aI @nk9 <| aI @kn9 <| aI @nk10 <| aI @kn10 <| aI @nk11 <| aI @kn11 <| aI @nk12 <| aI @kn12 <| @convOR_int
end Go.Proofs.YtekhblefchceaaaGreat.AM

/- What a call made is forgotten, with its numbers; straight code at once. -/
set_option linter.defProp false
namespace Go.Proofs.YtekhblefchceaaaGreat.AM
open Go
variable {P : Program} {σ : St}
mutual
def bwV (n : Nat) : AV -> Bool
  | .ptr β _ => Nat.blt β n
  | .hs β _ _ _ => Nat.blt β n
  | .map β => Nat.blt β n
  | .yld β => Nat.blt β n
  | .vs l t => l.isEmpty || (bndT n t && bwL n l)
  | .bs _ t => bndT n t
  | .ip l => bwL n l
  | .fn _ l => bwL n l
  | .agg l => bwL n l
  | .tup l => bwL n l
  | _ => true
def bwL (n : Nat) : List AV -> Bool
  | [] => true
  | x :: l => bwV n x && bwL n l
end
def bwB (n : Nat) : Blk -> Prop
  | .arr c => bwL n c = true
  | .typ _ c => bwL n c = true
  | .tok => True
  | .map es _ => ∀ e, e ∈ es -> bwV n e.key = true /\ bwV n e.val = true
  | .iter m _ _ => m < n
  | .loop _ _ ρ _ _ _ => bwL n ρ = true
theorem bwL_mem {n : Nat} : ∀ {l : List AV}, bwL n l = true -> ∀ x, x ∈ l -> bwV n x = true
  | x :: l, h, y, hy => by
    simp only [bwL, Bool.and_eq_true] at h
    rcases List.mem_cons.1 hy with rfl | hy
    · exact h.1
    · exact bwL_mem h.2 y hy
theorem bwL_all {n : Nat} : ∀ {l : List AV}, (∀ x, x ∈ l -> bwV n x = true) -> bwL n l = true
  | [], _ => rfl
  | x :: l, h => by
    simp only [bwL, Bool.and_eq_true]
    exact ⟨h x (by simp), bwL_all fun y hy => h y (by simp [hy])⟩
theorem bw_cells {n : Nat} {x y : AV} (h : bwV n x = true) (hy : y ∈ x.cells) : bwV n y = true := by
  cases x with
  | agg l => simp only [AV.cells] at hy; simp only [bwV] at h; exact bwL_mem h y hy
  | _ => simp only [AV.cells, List.mem_singleton] at hy; subst hy; exact h
theorem bw_of_cells {n : Nat} {x : AV} (h : ∀ y, y ∈ x.cells -> bwV n y = true) : bwV n x = true := by
  cases x with
  | agg l => simp only [bwV]; exact bwL_all h
  | _ => exact h _ (by simp [AV.cells])
theorem TokR.lowW {g : Gh} {n m l b off sz len cap : Nat} {t : Tok} (hb : l = 0 \/ bndT m t = true) (h : TokR g n l b off sz len cap t) : TokR g m l b off sz len cap t := by
  cases t with
  | no => trivial
  | ex => exact h
  | id τ =>
    rcases h with h | ⟨h1, h2⟩
    · exact .inl h
    · rcases hb with hb | hb
      · rcases h2 with h2 | h2
        · exact .inl ⟨hb, h2⟩
        · exact absurd hb h2.1
      · simp only [bndT, Nat.blt_eq] at hb
        exact .inr ⟨hb, h2⟩
theorem TokR.bnd {g : Gh} {n l b off sz len cap : Nat} {t : Tok} (hl : l ≠ 0) (h : TokR g n l b off sz len cap t) : bndT n t = true := by
  cases t with
  | no => rfl
  | ex => rfl
  | id τ =>
    rcases h with h | ⟨h1, _⟩
    · exact absurd h.1 hl
    · simp only [bndT, Nat.blt_eq]; exact h1
theorem VR.bw {g : Gh} {n : Nat} {ic : Nat -> Nat -> Value -> Prop} {x : AV} {c : Value} (h : VR g n ic x c) : bwV n x = true := by
  induction h with
  | undef v => rfl
  | bool b => rfl
  | int k i => rfl
  | str s => rfl
  | nilp => rfl
  | ptr β off h => simp only [bwV, Nat.blt_eq]; exact h
  | ip l b off cs h1 h2 ih =>
    simp only [bwV]
    exact bwL_all fun x hx => let ⟨i, hi⟩ := List.getElem?_of_mem hx; ih i x hi
  | vsn t => rfl
  | vs l t b off cap sz cs hsz hcap h1 h2 ht ih =>
    simp only [bwV, Bool.or_eq_true, Bool.and_eq_true]
    cases l with
    | nil => exact .inl rfl
    | cons a l =>
      refine .inr ⟨ht.bnd (by simp), bwL_all fun e he => bw_of_cells fun y hy => ?_⟩
      obtain ⟨i, hi⟩ := List.getElem?_of_mem he
      obtain ⟨j, hj⟩ := List.getElem?_of_mem hy
      exact ih i j e y hi hj
  | bs s t b off cap hcap h1 ht => exact ht.1.bnd (by simp)
  | hs β off len cap h => simp only [bwV, Nat.blt_eq]; exact h
  | nilmap => rfl
  | map β h => simp only [bwV, Nat.blt_eq]; exact h
  | nilfn => rfl
  | fn k l cs hl h2 ih =>
    simp only [bwV]
    refine bwL_all fun x hx => ?_
    obtain ⟨i, hi⟩ := List.getElem?_of_mem hx
    have hlt : i < cs.size := by rw [<- hl]; exact (List.getElem?_eq_some_iff.1 hi).1
    exact ih i x cs[i] hi (Array.getElem?_eq_getElem hlt)
  | yld β h => simp only [bwV, Nat.blt_eq]; exact h
  | nilif => rfl
  | agg l cs hl h2 ih =>
    simp only [bwV]
    refine bwL_all fun x hx => ?_
    obtain ⟨i, hi⟩ := List.getElem?_of_mem hx
    have hlt : i < cs.size := by rw [<- hl]; exact (List.getElem?_eq_some_iff.1 hi).1
    exact ih i x cs[i] hi (Array.getElem?_eq_getElem hlt)
  | tup l cs hl h2 ih =>
    simp only [bwV]
    refine bwL_all fun x hx => ?_
    obtain ⟨i, hi⟩ := List.getElem?_of_mem hx
    have hlt : i < cs.size := by rw [<- hl]; exact (List.getElem?_eq_some_iff.1 hi).1
    exact ih i x cs[i] hi (Array.getElem?_eq_getElem hlt)
theorem VR.lowW {g : Gh} {n m : Nat} {ic ic' : Nat -> Nat -> Value -> Prop} (hi : ∀ b i v, ic b i v -> ic' b i v) {x : AV} {c : Value} (h : VR g n ic x c) : bwV m x = true -> VR g m ic' x c := by
  induction h with
  | undef v => exact fun _ => .undef v
  | bool b => exact fun _ => .bool b
  | int k i => exact fun _ => .int k i
  | str s => exact fun _ => .str s
  | nilp => exact fun _ => .nilp
  | ptr β off h => intro hb; simp only [bwV, Nat.blt_eq] at hb; exact .ptr β off hb
  | ip l b off cs h1 h2 ih =>
    intro hb; simp only [bwV] at hb
    exact .ip l b off cs (fun i hl => hi _ _ _ (h1 i hl)) (fun i x hx => ih i x hx (bwL_mem hb x (List.mem_of_getElem? hx)))
  | vsn t => exact fun _ => .vsn t
  | vs l t b off cap sz cs hsz hcap h1 h2 ht ih =>
    intro hb; simp only [bwV, Bool.or_eq_true, Bool.and_eq_true] at hb
    refine .vs l t b off cap sz cs hsz hcap (fun i j hl hj => hi _ _ _ (h1 i j hl hj)) (fun i j e x he hx => ?_) (ht.lowW ?_)
    · rcases hb with hb | hb
      · cases l with
        | nil => simp at he
        | cons a l => simp at hb
      · exact ih i j e x he hx (bw_cells (bwL_mem hb.2 e (List.mem_of_getElem? he)) (List.mem_of_getElem? hx))
    · rcases hb with hb | hb
      · cases l with
        | nil => exact .inl rfl
        | cons a l => simp at hb
      · exact .inr hb.1
  | bs s t b off cap hcap h1 ht =>
    intro hb; simp only [bwV] at hb
    exact .bs s t b off cap hcap (fun i x hx => hi _ _ _ (h1 i x hx)) ⟨ht.1.lowW (.inr hb), ht.2⟩
  | hs β off len cap h => intro hb; simp only [bwV, Nat.blt_eq] at hb; exact .hs β off len cap hb
  | nilmap => exact fun _ => .nilmap
  | map β h => intro hb; simp only [bwV, Nat.blt_eq] at hb; exact .map β hb
  | nilfn => exact fun _ => .nilfn
  | fn k l cs hl h2 ih =>
    intro hb; simp only [bwV] at hb
    exact .fn k l cs hl (fun i x c hx hc => ih i x c hx hc (bwL_mem hb x (List.mem_of_getElem? hx)))
  | yld β h => intro hb; simp only [bwV, Nat.blt_eq] at hb; exact .yld β hb
  | nilif => exact fun _ => .nilif
  | agg l cs hl h2 ih =>
    intro hb; simp only [bwV] at hb
    exact .agg l cs hl (fun i x c hx hc => ih i x c hx hc (bwL_mem hb x (List.mem_of_getElem? hx)))
  | tup l cs hl h2 ih =>
    intro hb; simp only [bwV] at hb
    exact .tup l cs hl (fun i x c hx hc => ih i x c hx hc (bwL_mem hb x (List.mem_of_getElem? hx)))
theorem BR.bw {g : Gh} {n : Nat} {ic : Nat -> Nat -> Value -> Prop} {β : Nat} {k : Blk} {o : Option Obj} (h : BR P g n ic β k o) : bwB n k := by
  cases k with
  | arr c =>
    obtain ⟨cs, e, ho, hs, hv⟩ := h
    refine bwL_all fun x hx => ?_
    obtain ⟨i, hi⟩ := List.getElem?_of_mem hx
    have hlt : i < cs.size := by rw [hs]; exact (List.getElem?_eq_some_iff.1 hi).1
    exact (hv i x cs[i] hi (Array.getElem?_eq_getElem hlt)).bw
  | typ t c =>
    obtain ⟨cs, ho, hs, hv⟩ := h
    refine bwL_all fun x hx => ?_
    obtain ⟨i, hi⟩ := List.getElem?_of_mem hx
    have hlt : i < cs.size := by rw [hs]; exact (List.getElem?_eq_some_iff.1 hi).1
    exact (hv i x cs[i] hi (Array.getElem?_eq_getElem hlt)).1.bw
  | tok => trivial
  | map es ck =>
    obtain ⟨ces, ho, hs, hv, hn'⟩ := h
    intro e he
    obtain ⟨i, hi⟩ := List.getElem?_of_mem he
    have hlt : i < ces.size := by rw [hs]; exact (List.getElem?_eq_some_iff.1 hi).1
    obtain ⟨a, b, _⟩ := hv i e ces[i] hi (Array.getElem?_eq_getElem hlt)
    exact ⟨a.bw, b.bw⟩
  | iter mm ck seen => exact h.1
  | loop st pend ρ params asg body =>
    obtain ⟨L, ho, h2, h3, h4⟩ := h
    refine bwL_all fun x hx => ?_
    obtain ⟨i, hi⟩ := List.getElem?_of_mem hx
    have hlt : i < L.tmps.size := by rw [h2]; exact (List.getElem?_eq_some_iff.1 hi).1
    exact (h3 i x L.tmps[i] hi (Array.getElem?_eq_getElem hlt)).bw
theorem BR.lowW {g : Gh} {n m : Nat} {ic ic' : Nat -> Nat -> Value -> Prop} {β : Nat} {k : Blk} {o : Option Obj} (hi : ∀ b i v, ic b i v -> ic' b i v) (hb : bwB m k) (h : BR P g n ic β k o) : BR P g m ic' β k o := by
  cases k with
  | arr c => obtain ⟨cs, e, ho, hs, hv⟩ := h; exact ⟨cs, e, ho, hs, fun i x v h1 h2 => (hv i x v h1 h2).lowW hi (bwL_mem hb x (List.mem_of_getElem? h1))⟩
  | typ t c => obtain ⟨cs, ho, hs, hv⟩ := h; exact ⟨cs, ho, hs, fun i x v h1 h2 => ⟨(hv i x v h1 h2).1.lowW hi (bwL_mem hb x (List.mem_of_getElem? h1)), (hv i x v h1 h2).2⟩⟩
  | tok => exact h
  | map es ck =>
    obtain ⟨ces, ho, hs, hv, hn'⟩ := h
    refine ⟨ces, ho, hs, fun i e ce h1 h2 => ?_, hn'⟩
    obtain ⟨a, b, c, d⟩ := hv i e ce h1 h2
    obtain ⟨b1, b2⟩ := hb e (List.mem_of_getElem? h1)
    exact ⟨a.lowW hi b1, b.lowW hi b2, c, d⟩
  | iter mm ck seen => exact ⟨hb, h.2⟩
  | loop st pend ρ params asg body =>
    obtain ⟨L, ho, h2, h3, h4⟩ := h
    exact ⟨L, ho, h2, fun i x v a b => (h3 i x v a b).lowW hi (bwL_mem hb x (List.mem_of_getElem? a)), h4⟩
mutual
theorem bw_pur {n : Nat} : ∀ x : AV, x.pur = true -> bwV n x = true
  | .vs l t, h => by
    simp only [AV.pur, Bool.and_eq_true] at h
    simp only [bwV, Bool.or_eq_true, Bool.and_eq_true]
    refine .inr ⟨?_, bwL_pur l h.2⟩
    cases t <;> first | rfl | simp [Tok.pur] at h
  | .bs _ t, h => by
    simp only [AV.pur] at h
    simp only [bwV]
    cases t <;> first | rfl | simp [Tok.pur] at h
  | .ip l, h => by simp only [AV.pur] at h; simp only [bwV]; exact bwL_pur l h
  | .fn _ l, h => by simp only [AV.pur] at h; simp only [bwV]; exact bwL_pur l h
  | .agg l, h => by simp only [AV.pur] at h; simp only [bwV]; exact bwL_pur l h
  | .tup l, h => by simp only [AV.pur] at h; simp only [bwV]; exact bwL_pur l h
  | .ptr _ _, h => by simp [AV.pur] at h
  | .hs _ _ _ _, h => by simp [AV.pur] at h
  | .map _, h => by simp [AV.pur] at h
  | .yld _, h => by simp [AV.pur] at h
  | .undef, _ => rfl
  | .bool _, _ => rfl
  | .int _ _, _ => rfl
  | .str _, _ => rfl
  | .nilp, _ => rfl
  | .nilmap, _ => rfl
  | .nilfn, _ => rfl
  | .nilif, _ => rfl
theorem bwL_pur {n : Nat} : ∀ l : List AV, purL l = true -> bwL n l = true
  | [], _ => rfl
  | x :: l, h => by
    simp only [purL, Bool.and_eq_true] at h
    simp only [bwL, Bool.and_eq_true]
    exact ⟨bw_pur x h.1, bwL_pur l h.2⟩
end
theorem ACalls.tightW {f : Nat} {args : List AV} {K K' : AV -> St -> Prop} (h : ACalls P f args σ K)
    (hk : ∀ v σ', K v σ' -> ∃ H, (∀ β b, lk H β = some b -> (lk σ.H β = some b /\ (β < σ.n -> lk σ'.H β = some b)) \/ (β < σ.n /\ lk σ'.H β = some b /\ bwB σ.n b)) /\ bwV σ.n v = true /\ K' v ⟨H, σ.n⟩) : ACalls P f args σ K' :=
  ⟨h.1, let ⟨v, σ', hv⟩ := h.2.1; let ⟨H, _, _, h'⟩ := hk v σ' hv; ⟨_, _, h'⟩, fun g w cargs r hl => (h.2.2 g w cargs r hl).mono fun e w' hp => by
    cases e with
    | panicked _ => exact hp.elim
    | outgrown => exact hp.elim
    | returned cv =>
      obtain ⟨v, σ', g', h1, h2, h3, h4⟩ := hp
      obtain ⟨H, hs, hv, hk'⟩ := hk v σ' h1
      have hs' : ∀ β b, lk H β = some b -> β < σ.n /\ lk σ'.H β = some b /\ bwB σ.n b := fun β b hb => by
        rcases hs β b hb with ⟨a, c⟩ | c
        · exact ⟨r.lt β b a, c (r.lt β b a), (r.blk β b a).bw⟩
        · exact c
      obtain ⟨r', e'⟩ := rel_drop (P := P) H σ'.n (Nat.le_refl _) h2 (fun β b hb => (hs' β b hb).2.1)
      refine ⟨v, ⟨H, σ.n⟩, g', hk', ⟨fun β k hk => (hs' β k hk).1, r'.inj, fun β k hk => ?_⟩, VR.lowW e'.eic h3 hv, ⟨Nat.le_refl _, h4.eg, fun b i v x => e'.eic _ _ _ (h4.eic b i v x), fun b o x => e'.edo _ _ (h4.edo b o x), h4.esz, h4.ekc⟩, h4.os, h4.out⟩
      exact (r'.blk β k hk).lowW (fun _ _ _ h => h) (hs' β k hk).2.2⟩
theorem ACalls.quiet {f : Nat} {args : List AV} {K : AV -> Prop} (h : ACalls P f args σ (fun v σ' => K v.er /\ Ext σ σ')) (hK : ∀ v, K v -> v.pur = true) : ACalls P f args σ (fun v σ' => K v /\ σ' = σ) := by
  refine ACalls.tightW (ACalls.weak h (K' := fun v σ' => K v /\ Ext σ σ') fun v σ' ⟨h1, h2⟩ => ⟨v.er, σ', VW.er _ _, h1, h2⟩) fun v σ' ⟨h1, h2⟩ => ?_
  exact ⟨σ.H, fun β b hb => .inl ⟨hb, fun hlt => by rw [h2.2 β hlt]; exact hb⟩, bw_pur _ (hK _ h1), h1, rfl⟩
theorem ACalls.quietX {f : Nat} {args : List AV} {X : AV} (h : ACalls P f args σ (fun v σ' => v.er = X /\ Ext σ σ')) (hX : X.pur = true) : ACalls P f args σ (fun v σ' => v = X /\ σ' = σ) :=
  h.quiet (K := fun v => v = X) fun v e => by rw [e]; exact hX
section
variable {ro : Option Nat} {nt : Nat} {Q : Ex -> Env -> St -> Prop} {ρ : Env}
def wpc (P : Program) (ro : Option Nat) (nt : Nat) : ACode -> (Ex -> Env -> St -> Prop) -> Env -> St -> Prop
  | .skip, Q, ρ, σ => Q .nrm ρ σ
  | .seq a b, Q, ρ, σ => wpc P ro nt a (thn (wpc P ro nt b Q) Q) ρ σ
  | .rg is, Q, ρ, σ => AL P is (fun ρ σ => Q .nrm ρ σ) ρ σ
  | .cond c a b, Q, ρ, σ => match c.ev ρ with | .bool true => wpc P ro nt a Q ρ σ | .bool false => wpc P ro nt b Q ρ σ | _ => False
  | .block id c, Q, ρ, σ => wpc P ro nt c (inBl id Q) ρ σ
  | .exit id, Q, ρ, σ => Q (.ext id) ρ σ
  | .ret, Q, ρ, σ => Q .ret ρ σ
  | .scope c, Q, ρ, σ => wpc P ro nt c Q ρ σ
  | .loop c, Q, ρ, σ => AW P ro nt (.loop c) Q ρ σ
  | .qrg is d, Q, ρ, σ => AW P ro nt (.qrg is d) Q ρ σ
  | .rf f p a b, Q, ρ, σ => AW P ro nt (.rf f p a b) Q ρ σ
  | .bad, _, _, _ => False
def cnd (P : Program) (ro : Option Nat) (nt : Nat) (x : AV) (a b : ACode) (Q : Ex -> Env -> St -> Prop) (ρ : Env) (σ : St) : Prop :=
  match x with | .bool true => wpc P ro nt a Q ρ σ | .bool false => wpc P ro nt b Q ρ σ | _ => False
def kN (Q : Ex -> Env -> St -> Prop) : Env -> St -> Prop := fun ρ σ => Q .nrm ρ σ
def kU (P : Program) (r : List AInstr) (K : Env -> St -> Prop) (ρ : Env) (d : Option Nat) : AV -> St -> Prop := fun v σ' => AL P r K (ρ.putO d v) σ'
def kS (P : Program) (ro : Option Nat) (nt : Nat) (b : ACode) (Q : Ex -> Env -> St -> Prop) : Ex -> Env -> St -> Prop := thn (wpc P ro nt b Q) Q
theorem wpc_sound (hm : P.follows .mixedOrders = true) : ∀ {c : ACode} {Q : Ex -> Env -> St -> Prop} {ρ : Env} {σ : St}, wpc P ro nt c Q ρ σ -> AW P ro nt c Q ρ σ
  | .skip, _, _, _, h => AW.skip h
  | .seq a b, Q, _, _, h => AW.seq (AW.mono (wpc_sound hm (c := a) h) fun x ρ σ hx => by
      cases x with
      | nrm => exact wpc_sound hm (c := b) hx
      | ext i => exact hx
      | ret => exact hx)
  | .rg is, _, _, _, h => AW.rg hm h
  | .cond c a b, Q, ρ, σ, h => by
    simp only [wpc] at h
    cases hc : c.ev ρ with
    | bool t =>
      rw [hc] at h
      cases t with
      | true => exact AW.cond hc (wpc_sound hm (c := a) h)
      | false => exact AW.cond hc (wpc_sound hm (c := b) h)
    | _ => rw [hc] at h; exact h.elim
  | .block id c, _, _, _, h => AW.block (wpc_sound hm (c := c) h)
  | .exit id, _, _, _, h => AW.exit h
  | .ret, _, _, _, h => AW.ret h
  | .scope c, _, _, _, h => AW.scope (wpc_sound hm (c := c) h)
  | .loop c, _, _, _, h => h
  | .qrg is d, _, _, _, h => h
  | .rf f p a b, _, _, _, h => h
  | .bad, _, _, _, h => h.elim
theorem cnd_t (a b : ACode) : cnd P ro nt (.bool true) a b Q ρ σ = wpc P ro nt a Q ρ σ := rfl
theorem cnd_f (a b : ACode) : cnd P ro nt (.bool false) a b Q ρ σ = wpc P ro nt b Q ρ σ := rfl
theorem cnd_d {p : Prop} [Decidable p] {x y : ACode} (h1 : p -> wpc P ro nt x Q ρ σ) (h2 : ¬p -> wpc P ro nt y Q ρ σ) : cnd P ro nt (.bool (decide p)) x y Q ρ σ := by
  by_cases h : p
  · rw [decide_eq_true h]; exact h1 h
  · rw [decide_eq_false h]; exact h2 h
theorem AW.lp (hm : P.follows .mixedOrders = true) {x : ACode} (I : Nat -> Env -> St -> Prop) (k : Nat) (h0 : I k ρ σ) (round : ∀ k ρ σ, I k ρ σ -> wpc P ro nt x (thn (fun ρ' σ' => ∃ k', k' < k /\ I k' ρ' σ') Q) ρ σ) : AW P ro nt (.loop x) Q ρ σ :=
  AW.loop I k h0 fun k ρ σ h => wpc_sound hm (round k ρ σ h)
theorem AW.upto (hm : P.follows .mixedOrders = true) {x : ACode} (J : Nat -> Env -> St -> Prop) (N : Nat) (h0 : J 0 ρ σ) (step : ∀ i ρ σ, i < N -> J i ρ σ -> wpc P ro nt x (thn (J (i + 1)) Q) ρ σ)
    (last : ∀ ρ σ, J N ρ σ -> wpc P ro nt x (thn (fun _ _ => False) Q) ρ σ) : AW P ro nt (.loop x) Q ρ σ := by
  refine AW.loop (fun k ρ σ => k <= N /\ J (N - k) ρ σ) N ⟨Nat.le_refl _, by rw [Nat.sub_self]; exact h0⟩ fun k ρ σ ⟨hk, hJ⟩ => ?_
  cases k with
  | zero =>
    refine AW.mono (wpc_sound hm (last ρ σ hJ)) fun y ρ σ hy => ?_
    cases y with
    | nrm => exact hy.elim
    | ext i => exact hy
    | ret => exact hy
  | succ k =>
    refine AW.mono (wpc_sound hm (step (N - (k + 1)) ρ σ (by omega) hJ)) fun y ρ σ hy => ?_
    cases y with
    | nrm => exact ⟨k, Nat.lt_succ_self _, by omega, by rw [show N - k = N - (k + 1) + 1 by omega]; exact hy⟩
    | ext i => exact hy
    | ret => exact hy
section
variable {K : Env -> St -> Prop} {r : List AInstr}
theorem v_nil (ρ : Env) (σ : St) : AL P [] K ρ σ = K ρ σ := rfl
theorem v_cons (d : Option Nat) (op : AOp) (ρ : Env) (σ : St) : AL P (⟨d, none, op⟩ :: r) K ρ σ = upon P σ (kU P r K ρ d) (evalOp ρ σ op) := rfl
theorem v_consg (d : Option Nat) (s : Nat) (b : Bool) (op : AOp) (ρ : Env) (σ : St) : AL P (⟨d, some (s, b), op⟩ :: r) K ρ σ = grd P b d op r K ρ σ (ρ s) := rfl
theorem v_tt (d : Option Nat) (op : AOp) (ρ : Env) (σ : St) : grd P true d op r K ρ σ (.bool true) = upon P σ (kU P r K ρ d) (evalOp ρ σ op) := rfl
theorem v_ff (d : Option Nat) (op : AOp) (ρ : Env) (σ : St) : grd P false d op r K ρ σ (.bool false) = upon P σ (kU P r K ρ d) (evalOp ρ σ op) := rfl
theorem kU_at (d : Option Nat) (v : AV) (σ' : St) : kU P r K ρ d v σ' = AL P r K (ρ.putO d v) σ' := rfl
theorem kN_at (ρ : Env) (σ : St) : kN Q ρ σ = Q .nrm ρ σ := rfl
theorem grd_b {b' b : Bool} {d : Option Nat} {op : AOp} (h1 : b = true -> grd P b' d op r K ρ σ (.bool true)) (h2 : b = false -> grd P b' d op r K ρ σ (.bool false)) : grd P b' d op r K ρ σ (.bool b) := by
  cases b; exact h2 rfl; exact h1 rfl
end
theorem wpc_skip : wpc P ro nt .skip Q ρ σ = Q .nrm ρ σ := rfl
theorem wpc_seq (a b : ACode) : wpc P ro nt (.seq a b) Q ρ σ = wpc P ro nt a (kS P ro nt b Q) ρ σ := rfl
theorem kS_nrm (b : ACode) : kS P ro nt b Q .nrm ρ σ = wpc P ro nt b Q ρ σ := rfl
theorem kS_ext (b : ACode) (i : Nat) : kS P ro nt b Q (.ext i) ρ σ = Q (.ext i) ρ σ := rfl
theorem kS_ret (b : ACode) : kS P ro nt b Q .ret ρ σ = Q .ret ρ σ := rfl
theorem wpc_rg (is : List AInstr) : wpc P ro nt (.rg is) Q ρ σ = AL P is (kN Q) ρ σ := rfl
theorem wpc_cond (c : Opd) (a b : ACode) : wpc P ro nt (.cond c a b) Q ρ σ = cnd P ro nt (c.ev ρ) a b Q ρ σ := rfl
theorem wpc_block (i : Nat) (c : ACode) : wpc P ro nt (.block i c) Q ρ σ = wpc P ro nt c (inBl i Q) ρ σ := rfl
theorem wpc_exit (i : Nat) : wpc P ro nt (.exit i) Q ρ σ = Q (.ext i) ρ σ := rfl
theorem wpc_ret : wpc P ro nt .ret Q ρ σ = Q .ret ρ σ := rfl
theorem wpc_scope (c : ACode) : wpc P ro nt (.scope c) Q ρ σ = wpc P ro nt c Q ρ σ := rfl
theorem wpc_loop (c : ACode) : wpc P ro nt (.loop c) Q ρ σ = AW P ro nt (.loop c) Q ρ σ := rfl
theorem wpc_qrg (is : List AInstr) (d : List (List Nat)) : wpc P ro nt (.qrg is d) Q ρ σ = AW P ro nt (.qrg is d) Q ρ σ := rfl
theorem wpc_rf (f : Opd) (p : List Nat) (a b : ACode) : wpc P ro nt (.rf f p a b) Q ρ σ = AW P ro nt (.rf f p a b) Q ρ σ := rfl
end
section
variable {is : List AInstr} {l : List (Nat × Blk)} {K : Env -> St -> Prop} {t : QT} {ρ : Env}
def aqP (P : Program) (is : List AInstr) (l : List (Nat × Blk)) (K : Env -> St -> Prop) (t : QT) (σ : St) (x : AInstr) (ρ : Env) : Prop := AO P x (fun ρ' _ => AQ P is l K t ρ' σ) ρ ⟨l, 0⟩
def kP (P : Program) (is : List AInstr) (l : List (Nat × Blk)) (K : Env -> St -> Prop) (t : QT) (σ : St) (ρ : Env) (d : Option Nat) : AV -> St -> Prop := fun v _ => AQ P is l K t (ρ.putO d v) σ
def aqA (P : Program) (is : List AInstr) (l : List (Nat × Blk)) (K : Env -> St -> Prop) (t : QT) (x : AInstr) (ρ : Env) (σ : St) : Prop := AO P x (fun ρ' σ' => SB l σ' /\ AQ P is l K t ρ' σ') ρ σ
def kA (P : Program) (is : List AInstr) (l : List (Nat × Blk)) (K : Env -> St -> Prop) (t : QT) (ρ : Env) (d : Option Nat) : AV -> St -> Prop := fun v σ' => SB l σ' /\ AQ P is l K t (ρ.putO d v) σ'
def aqZ (P : Program) (is : List AInstr) (l : List (Nat × Blk)) (K : Env -> St -> Prop) (t : QT) (x : AInstr) (ρ : Env) (σ : St) : Prop := AO P x (fun ρ' σ' => AQ P is l K t ρ' σ') ρ σ
def kZ (P : Program) (is : List AInstr) (l : List (Nat × Blk)) (K : Env -> St -> Prop) (t : QT) (ρ : Env) (d : Option Nat) : AV -> St -> Prop := fun v σ' => AQ P is l K t (ρ.putO d v) σ'
theorem vq_p (i : Nat) (ρ : Env) (σ : St) : AQ P is l K (.p i t) ρ σ = aqP P is l K t σ (is.getD i default) ρ := rfl
theorem vq_a (i : Nat) (ρ : Env) (σ : St) : AQ P is l K (.a i t) ρ σ = aqA P is l K t (is.getD i default) ρ σ := rfl
theorem vq_z (i : Nat) (ρ : Env) (σ : St) : AQ P is l K (.z i t) ρ σ = aqZ P is l K t (is.getD i default) ρ σ := rfl
theorem vq_b (i j : Nat) (u : QT) (ρ : Env) (σ : St) : AQ P is l K (.b i t j u) ρ σ = (aqA P is l K t (is.getD i default) ρ σ /\ aqA P is l K u (is.getD j default) ρ σ) := rfl
theorem aqP_n (d : Option Nat) (op : AOp) (ρ : Env) : aqP P is l K t σ ⟨d, none, op⟩ ρ = upon P ⟨l, 0⟩ (kP P is l K t σ ρ d) (evalOp ρ ⟨l, 0⟩ op) := rfl
theorem aqA_n (d : Option Nat) (op : AOp) (ρ : Env) : aqA P is l K t ⟨d, none, op⟩ ρ σ = upon P σ (kA P is l K t ρ d) (evalOp ρ σ op) := rfl
theorem aqZ_n (d : Option Nat) (op : AOp) (ρ : Env) : aqZ P is l K t ⟨d, none, op⟩ ρ σ = upon P σ (kZ P is l K t ρ d) (evalOp ρ σ op) := rfl
theorem kP_at (d : Option Nat) (v : AV) (σ' : St) : kP P is l K t σ ρ d v σ' = AQ P is l K t (ρ.putO d v) σ := rfl
theorem kA_at (d : Option Nat) (v : AV) (σ' : St) : kA P is l K t ρ d v σ' = (SB l σ' /\ AQ P is l K t (ρ.putO d v) σ') := rfl
theorem kZ_at (d : Option Nat) (v : AV) (σ' : St) : kZ P is l K t ρ d v σ' = AQ P is l K t (ρ.putO d v) σ' := rfl
theorem aqP_g (d : Option Nat) (s : Nat) (b : Bool) (op : AOp) (ρ : Env) : aqP P is l K t σ ⟨d, some (s, b), op⟩ ρ = gao P b d op (fun ρ' _ => AQ P is l K t ρ' σ) ρ ⟨l, 0⟩ (ρ s) := rfl
theorem aqA_g (d : Option Nat) (s : Nat) (b : Bool) (op : AOp) (ρ : Env) : aqA P is l K t ⟨d, some (s, b), op⟩ ρ σ = gao P b d op (fun ρ' σ' => SB l σ' /\ AQ P is l K t ρ' σ') ρ σ (ρ s) := rfl
end
def appB (s x : AV) (σ : St) : OR := evalOp (fun _ => .undef) σ (.appb (.c s) (.c x))
theorem eval_appb (ρ : Env) (σ : St) (s x : Opd) : evalOp ρ σ (.appb s x) = appB (s.ev ρ) (x.ev ρ) σ := rfl
def V0 := aI @v_nil <| aI @v_cons <| aI @v_consg <| aI @wpc_skip <| aI @wpc_seq <| aI @wpc_rg <| aI @wpc_cond <| aI @wpc_block <| aI @wpc_exit <| aI @wpc_ret <| aI @wpc_scope <| aI @wpc_loop <| aI @wpc_qrg <| aI @wpc_rf <| aI @kS_nrm <| aI @kS_ext <| aI @kS_ret <| aI @kU_at <| aI @kN_at <| aI @cnd_t <| aI @cnd_f <| aI @thn_nrm <| aI @thn_ext <| aI @thn_ret <| aI @inBl_nrm <| aI @inBl_ret <| aI @inBl_ext <| aI @eval_len <| aI @aq_nil <| aI @vq_p <| aI @vq_a <| aI @vq_z <| aI @vq_b <| aI @aqP_n <| aI @aqA_n <| aI @aqZ_n <| aI @kP_at <| aI @kA_at <| aI @kZ_at <| aI @aqP_g <| aI @aqA_g <| aI @aq_c <| aI @ao_n <| aI @ao_g <| aI @ev_t <| aI @ev_c <| aI @put_at <| aI @eval_conv <| aI @eval_app <| aI @evalOp.eq_1 <| aI @evalOp.eq_2 <| aI @evalOp.eq_3 <| aI @evalOp.eq_4 <| aI @evalOp.eq_5 <| aI @evalOp.eq_6 <| aI @evalOp.eq_7 <| aI @evalOp.eq_8 <| aI @evalOp.eq_9 <| aI @evalOp.eq_10 <| aI @evalOp.eq_11 <| aI @evalOp.eq_12 <| aI @evalOp.eq_13 <| aI @evalOp.eq_14 <| aI @evalOp.eq_16 <| aI @evalOp.eq_17 <| aI @evalOp.eq_18 <| aI @evalOp.eq_19 <| aI @evalOp.eq_20 <| aI @evalOp.eq_21 <| aI @evalOp.eq_22 <| aI @evalOp.eq_23 <| aI @evalOp.eq_24 <| aI @evalOp.eq_25 <| aI @evalOp.eq_26 <| aI @evalOp.eq_27 <| aI @evalOp.eq_28 <| aI @evalOp.eq_29 <| aI @evalOp.eq_30 <| aI @evalOp.eq_31 <| aI @evalOp.eq_32 <| aI @evalOp.eq_33 <| aI @evalOp.eq_34 <| aI @evalOp.eq_35 <| aI @evalOp.eq_36 <| aI @eval_appb <| aI @evalOp.eq_46 <| aI @evalOp.eq_47 <| @evalOp.eq_48
def V := aI @len_vs <| aI @len_bs <| aI @len_s <| aI @len_hs <| aI @len_nilmap <| aI @len_map <| aI @ga_tt <| aI @ga_ff <| aI @ga_tf <| aI @ga_ft <| aI @ga_no <| aI @lk_here <| aI @sb_nil_true <| aI @v_tt <| aI @v_ff <| aI @g_tf <| aI @g_ft <| aI @g_no <| aI @u_v <| aI @u_any <| aI @u_call <| aI @u_yld <| aI @u_bad <| aI @putO_some <| aI @putO_none <| aI @thn_nrm <| aI @thn_ext <| aI @thn_ret <| aI @inBl_nrm <| aI @inBl_ret <| aI @inBl_ext <| aI @FPost_nrm <| aI @FPost_ret <| aI @envOf_at <| aI @List.getD_cons_zero.{0} <| aI @List.getD_cons_succ.{0} <| aI @List.getD_nil.{0} <| aI @bin_add <| aI @bin_sub <| aI @bin_mul <| aI @bin_eql <| aI @bin_neq <| aI @bin_lss <| aI @bin_leq <| aI @bin_gtr <| aI @bin_geq <| aI @bin_sadd <| aI @bin_seql <| aI @bin_sneq <| aI @bin_and <| aI @bin_or <| aI @wr_eq <| aI @natOf.eq_1 <| aI @natOf.eq_2 <| aI @optNat.eq_1 <| aI @optNat.eq_2 <| aI @eqK.eq_1 <| aI @eqK.eq_2 <| aI @eqK.eq_3 <| aI @eqK.eq_4 <| aI @eqK.eq_5 <| aI @eqK.eq_6 <| aI @eqK.eq_7 <| aI @eqK.eq_8 <| aI @eqK.eq_9 <| aI @eqK.eq_10 <| aI @eqK.eq_11 <| aI @eqK.eq_12 <| aI @eqK.eq_13 <| aI @eqK.eq_14 <| aI @resOf.eq_1 <| aI @resOf.eq_2 <| aI @resOf.eq_3 <| aI @resAV.eq_1 <| aI @resAV.eq_2 <| aI @Option.map_some.{0, 0} <| aI @AV.cells.eq_1 <| aI @AV.cells.eq_2 <| aI @allSc.eq_1 <| aI @AV.sc.eq_1 <| aI @AV.sc.eq_2 <| aI @AV.sc.eq_3 <| aI @AV.sc.eq_4 <| aI @List.all_cons.{0} <| aI @List.all_nil.{0} <| aI @Bool.and_true <| aI @Bool.and_self <| aI @List.map_cons.{0, 0} <| aI @List.map_nil.{0, 0} <| aI @List.append_nil.{0} <| aI @List.nil_append.{0} <| aI @List.cons_append.{0} <| aI @List.length_cons.{0} <| aI @List.length_nil.{0} <| aI @lk_new <| aI @lk_set <| aI @new_n <| aI @set_n <| aI @Int.natCast_nonneg <| aI @Int.toNat_natCast <| aI @Bool.false_eq_true <| aI @Bool.not_true <| aI @Bool.not_false <| aI @Bool.not_eq_true <| aI @decide_true <| aI @decide_false <| aI @beq_self_eq_true.{0} <| aI @beq_true <| aI @beq_false <| aI @bne_self_eq_false.{0} <| aI @gt_iff_lt.{0} <| aI @ge_iff_le.{0} <| aI @if_true.{1} <| aI @if_false.{1} <| aI @List.getElem?_cons_zero.{0} <| aI @List.getElem?_cons_succ.{0} <| aI @Option.some.injEq.{0} <| aI @exists_eq_left'.{1} <| aI @Int.toNat_natCast_add_one <| aI @Int.le_refl <| aI @Int.toNat_zero <| aI @Nat.zero_mul <| aI @Nat.mul_one <| aI @zlt <| aI @Int.zero_add <| aI @Int.add_zero <| aI @wl0 <| aI @wl1 <| aI @wl2 <| aI @wl3 <| aI @wl4 <| aI @wl5 <| aI @wl6 <| aI @wl7 <| aI @wl8 <| aI @wl9 <| aI @wl10 <| aI @wl11 <| aI @wl12 <| aI @wl13 <| aI @wl14 <| aI @wl15 <| aI @wl16 <| aI @Nat.lt_add_one <| aI @Nat.add_zero <| aI @Nat.zero_add <| aI @Nat.le_refl <| aI @and_self <| aI @and_true <| aI @true_and <| aI @List.drop_zero.{0} <| aI @List.drop_succ_cons.{0} <| aI @List.take_zero.{0} <| aI @List.take_succ_cons.{0} <| aI @buildA.eq_1 <| aI @buildA.eq_2 <| aI @putCells.eq_1 <| aI @List.headD_cons.{0} <| aI @ne_eq.{1} <| aI @not_true_eq_false <| aI @not_false_eq_true <| aI @nk1 <| aI @kn1 <| aI @nk2 <| aI @kn2 <| aI @nk3 <| aI @kn3 <| aI @nk4 <| aI @kn4 <| aI @nk5 <| aI @kn5 <| aI @nk6 <| aI @kn6 <| aI @nk7 <| aI @kn7 <| aI @nk8 <| aI @kn8 <| aI @nk9 <| aI @kn9 <| aI @nk10 <| aI @kn10 <| aI @nk11 <| aI @kn11 <| aI @nk12 <| aI @kn12 <| @convOR_int
theorem callE {f : Nat} {args args' : List AV} {K K' : AV -> St -> Prop} (he : args.map AV.er = args') (h : ACalls P f args' σ K) (hk : ∀ v σ', K v σ' -> K' v σ') : ACalls P f args σ K' :=
  (ACalls.args (he ▸ h)).mono hk
theorem callQ {f : Nat} {args : List AV} {X : AV} {K : AV -> St -> Prop} (h : ACalls P f args σ (fun v σ' => v = X /\ σ' = σ)) (hk : K X σ) : ACalls P f args σ K :=
  h.mono fun _ _ ⟨e1, e2⟩ => by rw [e1, e2]; exact hk
theorem callQE {f : Nat} {args args' : List AV} {X : AV} {K : AV -> St -> Prop} (he : args.map AV.er = args') (h : ACalls P f args' σ (fun v σ' => v = X /\ σ' = σ)) (hk : K X σ) : ACalls P f args σ K :=
  callQ (ACalls.args (he ▸ h)) hk
def Own (σ0 σ : St) (t : Tok) : Prop := TokOk σ0.n σ t /\ Ext σ0 σ
theorem Own.app {σ0 : St} {t : Tok} (h : Own σ0 σ t) : Own σ0 (σ.rt t) (.id σ.n) := ⟨rt_tok t h.2.1, rt_ext h.1 h.2⟩
theorem Own.ex {σ0 : St} (h : Ext σ0 σ) : Own σ0 σ .ex := ⟨trivial, h⟩
theorem Own.new {σ0 : St} {t : Tok} (h : Own σ0 σ t) (b : Blk) : Own σ0 (σ.new b) t :=
  ⟨tokok_mono h.1 (Nat.le_succ _) fun τ e => by subst e; rw [lk_new, if_neg (by have := h.1.2.1; omega)]; exact h.1.2.2, h.2.newer b⟩
theorem Own.set {σ0 : St} {t : Tok} (h : Own σ0 σ t) {β : Nat} (hβ : σ0.n <= β) (ht : lk σ.H β ≠ some .tok) (b : Blk) : Own σ0 (σ.set β b) t :=
  ⟨tokok_mono h.1 (Nat.le_refl _) fun τ e => by
    subst e
    have h3 := h.1.2.2
    rw [lk_set, if_neg (fun e => by subst e; exact ht h3)]
    exact h3, h.2.set hβ b⟩
theorem Own.ok {σ0 : St} {t : Tok} (h : Own σ0 σ t) : TokOk σ0.n σ t := h.1
theorem Own.ext {σ0 : St} {t : Tok} (h : Own σ0 σ t) : Ext σ0 σ := h.2
theorem er_int (k : IntKind) (n : Int) : (AV.int k n).er = .int k n := rfl
theorem er_bool (b : Bool) : (AV.bool b).er = .bool b := rfl
theorem er_str (s : List UInt8) : (AV.str s).er = .str s := rfl
theorem er_ptr (β o : Nat) : (AV.ptr β o).er = .ptr β o := rfl
theorem er_nilp : AV.nilp.er = .nilp := rfl
theorem er_nilmap : AV.nilmap.er = .nilmap := rfl
theorem er_nilfn : AV.nilfn.er = .nilfn := rfl
theorem er_map (β : Nat) : (AV.map β).er = .map β := rfl
theorem er_hs (β o l c : Nat) : (AV.hs β o l c).er = .hs β o l c := rfl
theorem er_yld (β : Nat) : (AV.yld β).er = .yld β := rfl
theorem er_bs (s : List UInt8) (t : Tok) : (AV.bs s t).er = .bs s .no := rfl
theorem er_vs (l : List AV) (t : Tok) : (AV.vs l t).er = .vs (l.map AV.er) .no := by simp only [AV.er, AV.mp, mpL_eq]; rfl
theorem er_agg (l : List AV) : (AV.agg l).er = .agg (l.map AV.er) := by simp only [AV.er, AV.mp, mpL_eq]; rfl
theorem er_tup (l : List AV) : (AV.tup l).er = .tup (l.map AV.er) := by simp only [AV.er, AV.mp, mpL_eq]; rfl
theorem er_fn (f : Nat) (l : List AV) : (AV.fn f l).er = .fn f (l.map AV.er) := by simp only [AV.er, AV.mp, mpL_eq]; rfl
theorem er_undef : AV.undef.er = .undef := rfl
def WE := aI @er_int <| aI @er_bool <| aI @er_str <| aI @er_ptr <| aI @er_nilp <| aI @er_nilmap <| aI @er_nilfn <| aI @er_map <| aI @er_hs <| aI @er_yld <| aI @er_bs <| aI @er_vs <| aI @er_agg <| aI @er_tup <| aI @er_fn <| aI @er_undef <| aI @List.map_cons.{0, 0} <| @List.map_nil.{0, 0}
end Go.Proofs.YtekhblefchceaaaGreat.AM

