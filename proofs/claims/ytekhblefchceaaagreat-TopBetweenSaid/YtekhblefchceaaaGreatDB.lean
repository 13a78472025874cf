/- Joined: D5, D6, D7. -/
import Derived.Test.YtekhblefchceaaaGreatDA
set_option linter.unusedVariables false
set_option linter.unusedSimpArgs false
/- Plans: their data; contracts of plan.kind, bytes. -/
set_option linter.defProp false
set_option maxRecDepth 20000
namespace Go.Proofs.YtekhblefchceaaaGreat.AM
open Go Go.Proofs
variable {σ : St}
inductive Pl where
 | emp
 | kept (h ht : Nat) (m : Ms)
 | leaf (s : List UInt8)
 | inner (ht : Nat) (ks : List Pl)
 deriving Inhabited
def Ms.z : Ms := ⟨0, 0, 0⟩
def Pl.old : Pl -> Nat | .kept h _ _ => h | _ => 0
def Pl.ht : Pl -> Nat | .kept _ ht _ => ht | .inner ht _ => ht | _ => 0
def Pl.m : Pl -> Ms | .kept _ _ m => m | _ => Ms.z
def Pl.tx : Pl -> List UInt8 | .leaf s => s | _ => []
def Pl.ks : Pl -> List Pl | .inner _ ks => ks | _ => []
def treeCs (old ht : Nat) (m : Ms) (tx : List UInt8) (ks : List AV) : List AV := [.int .u64 old, .int .i64 ht, .int .i64 m.b, .int .i64 m.r, .int .i64 m.l, .str tx, .vs ks .no]
mutual
def Pl.av : Pl -> AV
 | .emp => .agg (treeCs 0 0 Ms.z [] [])
 | .kept h ht m => .agg (treeCs h ht m [] [])
 | .leaf s => .agg (treeCs 0 0 Ms.z s [])
 | .inner ht ks => .agg (treeCs 0 ht Ms.z [] (plL ks))
def plL : List Pl -> List AV
 | [] => []
 | p :: l => p.av :: plL l
end
theorem plL_eq : ∀ l, plL l = l.map Pl.av
 | [] => rfl
 | p :: l => by simp [plL, plL_eq l]
theorem Pl.av_eq (p : Pl) : p.av = .agg (treeCs p.old p.ht p.m p.tx (p.ks.map Pl.av)) := by
 cases p <;> simp [Pl.av, Pl.old, Pl.ht, Pl.m, Pl.tx, Pl.ks, plL_eq]
def Pl.cs (p : Pl) : List AV := treeCs p.old p.ht p.m p.tx (p.ks.map Pl.av)
theorem Pl.av_cs (p : Pl) : p.av = .agg p.cs := p.av_eq
mutual
def Pl.bytes : Pl -> Nat
 | .emp => 0
 | .kept _ _ m => m.b
 | .leaf s => s.length
 | .inner _ ks => bytesL ks
def bytesL : List Pl -> Nat
 | [] => 0
 | p :: l => p.bytes + bytesL l
end
theorem bytesL_eq : ∀ l, bytesL l = (l.map Pl.bytes).sum
 | [] => rfl
 | p :: l => by simp [bytesL, bytesL_eq l]
theorem Pl.bytes_eq (p : Pl) : p.bytes = p.m.b + p.tx.length + (p.ks.map Pl.bytes).sum := by
 cases p <;> simp [Pl.bytes, Pl.m, Pl.tx, Pl.ks, bytesL_eq, Ms.z]
theorem Pl.ind {M : Pl -> Prop} (h : ∀ p, (∀ k, k ∈ p.ks -> M k) -> M p) : ∀ p, M p := by
 intro p
 have key : ∀ (n : Nat) (p : Pl), SizeOf.sizeOf p < n -> M p := by
  intro n
  induction n with
  | zero => intro p hp; omega
  | succ n ih =>
   intro p hp
   refine h p fun k hk => ih k ?_
   cases p with
   | inner ht ks =>
    have := List.sizeOf_lt_of_mem (show k ∈ ks from hk)
    simp at hp
    omega
   | _ => simp [Pl.ks] at hk
 exact key _ p (Nat.lt_succ_self _)
theorem Pl.er (p : Pl) : p.av.er = p.av := by
 refine Pl.ind (M := fun p => p.av.er = p.av) (fun p ih => ?_) p
 rw [Pl.av_eq]
 simp only [treeCs, WE, List.map_map]
 have : p.ks.map (AV.er ∘ Pl.av) = p.ks.map Pl.av := List.map_congr_left fun k hk => ih k hk
 rw [this]
theorem Pl.ers (l : List Pl) : (l.map Pl.av).map AV.er = l.map Pl.av := by
 rw [List.map_map]
 exact List.map_congr_left fun k _ => k.er
theorem Pl.purs (l : List Pl) (h : ∀ k, k ∈ l -> k.av.pur = true) : purL (l.map Pl.av) = true := purL_all fun x hx => by
 obtain ⟨k, hk, rfl⟩ := List.mem_map.1 hx
 exact h k hk
theorem Pl.pur (p : Pl) : p.av.pur = true := by
 refine Pl.ind (M := fun p => p.av.pur = true) (fun p ih => ?_) p
 rw [Pl.av_eq]
 simp only [treeCs, AV.pur, purL, Tok.pur, Bool.and_self, Bool.and_true, Pl.purs _ ih]
theorem Pl.purl (l : List Pl) : purL (l.map Pl.av) = true := Pl.purs l fun k _ => k.pur
theorem Pl.fit (l : List Pl) : fitSz 7 (l.map Pl.av) = true := fit_all fun x hx => by
 obtain ⟨k, _, rfl⟩ := List.mem_map.1 hx
 rw [Pl.av_eq]
 exact ⟨rfl, rfl⟩
def Pl.kd : Pl -> Nat
 | .emp => 1
 | .kept _ _ _ => 2
 | .leaf _ => 3
 | .inner _ _ => 4
def Pl.form : Pl -> Prop
 | .emp => True
 | .kept h _ _ => 0 < h
 | .leaf s => 1 <= s.length /\ s.length <= 16
 | .inner ht ks => 1 <= ht /\ ht <= 16 /\ 2 <= ks.length /\ ks.length <= 4
theorem beq_nil_f {s : List UInt8} (h : 1 <= s.length) : (s == []) = false := by
 cases s with
 | nil => simp at h
 | cons a s => rfl
theorem kind_ok (p : Pl) (hf : p.form) : ACalls Tryz.prog 97 [p.av] σ (fun v σ' => v = .int .i64 (p.kd : Nat) /\ σ' = σ) := by
 refine ACalls.quietX ?_ rfl
 have e0 := eq3 0 0 0 0 0 0
 simp only [and_self, decide_true] at e0
 cases p with
 | emp =>
  refine FOk.calls ok97 (by simp [a97]) (wpc_sound hmix ?_)
  show wpc _ _ _ c97 _ _ _
  simp (disch := first | exact dA | fail) only [↓V0, VV, reduceCtorEq, seval, a97, Pl.av, treeCs, Ms.z, e0]
  exact ⟨rfl, by exact eA⟩
 | kept h ht m =>
  have hf : 0 < h := hf
  have e1 := eq3 m.b m.r m.l 0 0 0
  rw [Pl.av_eq]
  by_cases hm : (m.b : Int) = 0 /\ (m.r : Int) = 0 /\ (m.l : Int) = 0
  ·rw [decide_eq_true hm] at e1
   refine FOk.calls ok97 (by simp [a97]) (wpc_sound hmix ?_)
   show wpc _ _ _ c97 _ _ _
   simp (disch := first | exact dA | fail) only [↓V0, VV, reduceCtorEq, seval, a97, Pl.old, Pl.ht, Pl.m, Pl.tx, Pl.ks, treeCs, e1]
   exact ⟨rfl, by exact eA⟩
  ·rw [decide_eq_false hm] at e1
   refine FOk.calls ok97 (by simp [a97]) (wpc_sound hmix ?_)
   show wpc _ _ _ c97 _ _ _
   simp (disch := first | exact dA | fail) only [↓V0, VV, reduceCtorEq, seval, a97, Pl.old, Pl.ht, Pl.m, Pl.tx, Pl.ks, treeCs, e1]
   exact ⟨rfl, by exact eA⟩
 | leaf s =>
  obtain ⟨h1, h2⟩ : 1 <= s.length /\ s.length <= 16 := hf
  have hs := beq_nil_f h1
  refine FOk.calls ok97 (by simp [a97]) (wpc_sound hmix ?_)
  show wpc _ _ _ c97 _ _ _
  simp (disch := first | exact dA | fail) only [↓V0, VV, reduceCtorEq, seval, a97, Pl.av, treeCs, Ms.z, e0, hs]
  exact ⟨rfl, by exact eA⟩
 | inner ht ks =>
  obtain ⟨h1, h2, h3, h4⟩ : 1 <= ht /\ ht <= 16 /\ 2 <= ks.length /\ ks.length <= 4 := hf
  refine FOk.calls ok97 (by simp [a97]) (wpc_sound hmix ?_)
  show wpc _ _ _ c97 _ _ _
  simp (disch := first | exact dA | fail) only [↓V0, VV, reduceCtorEq, seval, a97, Pl.av, treeCs, Ms.z, e0, plL_eq, List.length_map]
  exact ⟨rfl, by exact eA⟩
def WQ := And.intro WE <| And.intro @Pl.ers <| And.intro @Pl.er <| And.intro @Pl.av_eq <| And.intro @er_iav <| And.intro @er_sav <| And.intro @er_kds <| And.intro @List.map_take.{0,0} <| And.intro @List.map_drop.{0,0} <| @List.map_append.{0,0}
end Go.Proofs.YtekhblefchceaaaGreat.AM

/- Contracts: plan.bytes, own, group, same, check, Check, Keep. -/
set_option maxRecDepth 20000
namespace Go.Proofs.YtekhblefchceaaaGreat.AM
open Go Go.Proofs
variable {σ : St}
theorem sum_le_of_mem {l : List Nat} {i : Nat} (h : i < l.length) : (l.take i).sum + l.getD i 0 <= l.sum := by
 have h1 := sum_take_le l (i + 1)
 rw [take_succ_get (x := l.getD i 0) (by simp [h, List.getD_eq_getElem?_getD]), List.sum_append] at h1
 simpa using h1
theorem pget (l : List Pl) {i : Nat} (hi : i < l.length) : (l.map Pl.av)[i]? = some (l[i]).av := by simp [hi]
theorem le_sum_mem {l : List Nat} {x : Nat} (h : x ∈ l) : x <= l.sum := by
 induction l with
 | nil => simp at h
 | cons a l ih =>
  rcases List.mem_cons.1 h with rfl | h
  ·simp
  ·have := ih h; simp; omega
inductive Pl.Wf : Pl -> Prop where
 | kept {h ht : Nat} {m : Ms} (h1 : 0 < h) : Pl.Wf (.kept h ht m)
 | leaf {s : List UInt8} (h1 : 1 <= s.length) (h2 : s.length <= 16) : Pl.Wf (.leaf s)
 | inner {ht : Nat} {ks : List Pl} (h1 : 1 <= ht) (h2 : ht <= 16) (h3 : 2 <= ks.length) (h4 : ks.length <= 4) (h5 : ∀ k, k ∈ ks -> Pl.Wf k) : Pl.Wf (.inner ht ks)
theorem Pl.Wf.form {p : Pl} (h : p.Wf) : p.form := by
 cases h with
 | kept h1 => exact h1
 | leaf h1 h2 => exact ⟨h1, h2⟩
 | inner h1 h2 h3 h4 h5 => exact ⟨h1, h2, h3, h4⟩
theorem Pl.Wf.sub {p k : Pl} (h : p.Wf) (hk : k ∈ p.ks) : k.Wf := by
 cases h with
 | inner h1 h2 h3 h4 h5 => exact h5 k hk
 | _ => simp [Pl.ks] at hk
theorem Pl.Wf.len {p : Pl} (h : p.Wf) : p.ks.length <= 4 := by
 cases h with
 | inner h1 h2 h3 h4 h5 => exact h4
 | _ => simp [Pl.ks]
def Pl.W0 (p : Pl) : Prop := p = .emp \/ p.Wf
theorem Pl.W0.form {p : Pl} (h : p.W0) : p.form := by
 rcases h with rfl | h
 ·trivial
 ·exact h.form
theorem Pl.W0.sub {p k : Pl} (h : p.W0) (hk : k ∈ p.ks) : k.W0 := by
 rcases h with rfl | h
 ·simp [Pl.ks] at hk
 ·exact .inr (h.sub hk)
theorem Pl.W0.len {p : Pl} (h : p.W0) : p.ks.length <= 4 := by
 rcases h with rfl | h
 ·simp [Pl.ks]
 ·exact h.len
theorem bytes_ok (p : Pl) : ∀ (hv : p.W0) (hb : p.bytes <= 1099511627776) (σ : St), ACalls Tryz.prog 168 [p.av] σ (fun v σ' => v = .int .i64 (p.bytes : Nat) /\ σ' = σ) := by
 refine Pl.ind (M := fun p => p.W0 -> p.bytes <= 1099511627776 -> ∀ σ, ACalls Tryz.prog 168 [p.av] σ (fun v σ' => v = .int .i64 (p.bytes : Nat) /\ σ' = σ)) (fun p ih hv hb σ => ?_) p
 have hlen := hv.len
 refine ACalls.quietX ?_ rfl
 have he := p.bytes_eq
 rw [Pl.av_eq]
 refine FOk.calls ok168 (by simp [a168]) (wpc_sound hmix ?_)
 show wpc _ _ _ c168 _ _ _
 simp (disch := first | exact dA | fail) only [↓V0, VV, reduceCtorEq, seval, a168, treeCs]
 have hw : wr .i64 ((p.m.b : Int) + p.tx.length) = ((p.m.b + p.tx.length : Nat) : Int) := by rw [wr_i2 (by omega) (by omega)]; omega
 refine AW.upto hmix (fun i ρ σ' => ρ 3 = .int .i64 ((p.m.b + p.tx.length + ((p.ks.map Pl.bytes).take i).sum : Nat) : Int) /\ ρ 14 = .vs (p.ks.map Pl.av) .no /\ ρ 15 = .int .i64 (p.ks.length : Nat) /\ ρ 16 = .int .i64 (i : Nat) /\ Ext σ σ') p.ks.length
  ⟨by simp only [↓W0, W, reduceCtorEq, seval, hw] <;> simp, by simp only [↓W0, W, reduceCtorEq, seval], by simp only [↓W0, W, reduceCtorEq, seval, List.length_map], by simp only [↓W0, W, reduceCtorEq, seval] <;> rfl, by exact eA⟩ (fun i ρ σ' hi h => ?_) (fun ρ σ' h => ?_)
 ·obtain ⟨r3, r14, r15, r16, hE⟩ := h
  have hgi := pget p.ks hi
  have hs := sum_le_of_mem (l := p.ks.map Pl.bytes) (i := i) (by simpa using hi)
  have hgb : (p.ks.map Pl.bytes).getD i 0 = (p.ks[i]).bytes := by simp [hi, List.getD_eq_getElem?_getD]
  have hss : ((p.ks.map Pl.bytes).take (i + 1)).sum = ((p.ks.map Pl.bytes).take i).sum + (p.ks[i]).bytes := by
   rw [take_succ_get (x := (p.ks[i]).bytes) (by simp [hi]), List.sum_append]; simp
  rw [hgb] at hs
  have hk := ih p.ks[i] (List.getElem_mem hi) (hv.sub (List.getElem_mem hi)) (by omega)
  generalize p.ks[i] = k at hgi hs hgb hss hk
  rw [Pl.av_eq] at hgi
  simp (disch := first | exact dA | fail) only [↓V0, VV, reduceCtorEq, seval, a168, r3, r14, r15, r16, hgi, treeCs]
  refine callQ (by have := hk; rw [Pl.av_eq] at this; exact this _) ?_
  simp (disch := first | exact dA | fail) only [↓V0, VV, reduceCtorEq, seval, a168, r3, r14, r15, r16]
  exact ⟨by rw [hss]; congr 1; omega, rfl, hE.trans (by exact eA)⟩
 ·obtain ⟨r3, r14, r15, r16, hE⟩ := h
  simp (disch := first | exact dA | fail) only [↓V0, VV, reduceCtorEq, seval, a168, r3, r14, r15, r16]
  exact ⟨by rw [List.take_of_length_le (by simp), he]; rfl, hE⟩
theorem elems_flat {sz : Nat} : ∀ (l : List AV), (∀ x, x ∈ l -> ∃ c, x = .agg c /\ c.length = sz) -> elemsOf true sz l.length (l.flatMap AV.cells) = l
 | [], _ => rfl
 | x :: l, h => by
  obtain ⟨c, rfl, hc⟩ := h x (by simp)
  simp only [List.length_cons, elemsOf, List.flatMap_cons, AV.cells, if_true]
  rw [List.take_left' hc, List.drop_left' hc, elems_flat l fun y hy => h y (by simp [hy])]
def tz : List AV := [.int .u64 0, .int .i64 0, .int .i64 0, .int .i64 0, .int .i64 0, .str [], .vs [] .ex]
theorem own_ok (p : Pl) : ∀ (hv : p.W0) (σ : St), ACalls Tryz.prog 169 [p.av] σ (fun v σ' => v = p.av /\ σ' = σ) := by
 refine Pl.ind (M := fun p => p.W0 -> ∀ σ, ACalls Tryz.prog 169 [p.av] σ (fun v σ' => v = p.av /\ σ' = σ)) (fun p ih hv σ => ?_) p
 have hlen := hv.len
 refine ACalls.quietX ?_ p.pur
 by_cases h0 : p.ks.length = 0
 ·have hks : p.ks = [] := List.length_eq_zero_iff.1 h0
  rw [Pl.av_eq, hks]
  refine FOk.calls ok169 (by simp [a169]) (wpc_sound hmix ?_)
  show wpc _ _ _ c169 _ _ _
  simp (disch := first | exact dA | fail) only [↓V0, VV, reduceCtorEq, seval, a169, treeCs, List.length_map, List.map_nil]
  exact ⟨by simp only [WE, treeCs], by exact eA⟩
 ·have hzl : tz.length = 7 := rfl
  have hcs : ∀ k : Pl, k.av.cells.length = 7 := fun k => by rw [Pl.av_eq]; rfl
  have hsc : ∀ k : Pl, allSc k.av.cells = true := fun k => by rw [Pl.av_eq]; rfl
  have hfl : ∀ l : List Pl, ((l.map Pl.av).flatMap AV.cells).length = l.length * 7 := fun l => by
   induction l with
   | nil => rfl
   | cons k l ihl => simp only [List.map_cons, List.flatMap_cons, List.length_append, ihl, hcs, List.length_cons]; omega
  have hzf : ∀ n, ((List.replicate n tz).flatten).length = n * 7 := fun n => by simp [hzl]
  have hres : ∀ σ', lk σ'.H (σ.n + 1 + 1) = some (.arr ((p.ks.map Pl.av).flatMap AV.cells)) -> Ext σ σ' -> ∃ v' σ'', VW Tryz.prog (.agg [.int .u64 p.old, .int .i64 p.ht, .int .i64 p.m.b, .int .i64 p.m.r, .int .i64 p.m.l, .str p.tx, .hs (σ.n + 1 + 1) 0 p.ks.length p.ks.length]) σ' v' σ'' /\ v'.er = p.av /\ Ext σ σ'' := by
   intro σ' hl hE
   refine ⟨_, _, VW.frz true 7 hl ?_ (.inl rfl), ?_, hE.del (by omega)⟩
   ·simp only [allSc, List.all_eq_true, List.mem_flatMap, List.mem_map]
    rintro x ⟨y, ⟨k, _, rfl⟩, hx⟩
    exact List.all_eq_true.1 (hsc k) x hx
   ·have h1 : 0 + p.ks.length * 7 <= ((p.ks.map Pl.av).flatMap AV.cells).length := by rw [hfl]; omega
    have h2 := elems_flat (sz := 7) (p.ks.map Pl.av) (fun x hx => by
     obtain ⟨k, _, rfl⟩ := List.mem_map.1 hx
     exact ⟨_, k.av_eq, rfl⟩)
    rw [List.length_map] at h2
    have h3 : AV.fr (σ.n + 1 + 1) true 7 ((p.ks.map Pl.av).flatMap AV.cells) (.agg [.int .u64 p.old, .int .i64 p.ht, .int .i64 p.m.b, .int .i64 p.m.r, .int .i64 p.m.l, .str p.tx, .hs (σ.n + 1 + 1) 0 p.ks.length p.ks.length]) = p.av := by
     rw [Pl.av_eq]
     show AV.agg [_, _, _, _, _, _, (if _ then _ else _)] = _
     rw [if_pos ⟨rfl, h1, Nat.le_refl _⟩, List.drop_zero, h2]
     rfl
    rw [h3]; exact p.er
  rw [Pl.av_eq]
  refine ACalls.weak (K := fun v σ' => v = .agg [.int .u64 p.old, .int .i64 p.ht, .int .i64 p.m.b, .int .i64 p.m.r, .int .i64 p.m.l, .str p.tx, .hs (σ.n + 1 + 1) 0 p.ks.length p.ks.length] /\ lk σ'.H (σ.n + 1 + 1) = some (.arr ((p.ks.map Pl.av).flatMap AV.cells)) /\ Ext σ σ') ?_
   (fun v σ' ⟨e, h1, h2⟩ => by
    subst e
    have := hres σ' h1 h2
    rw [Pl.av_eq] at this
    exact this)
  refine FOk.calls ok169 (by simp [a169]) (wpc_sound hmix ?_)
  show wpc _ _ _ c169 _ _ _
  simp (disch := first | exact dA | fail) only [↓V0, VV, reduceCtorEq, seval, a169, treeCs, List.length_map]
  have hz0 : ∀ (n : Nat) (l : List AV), (List.replicate n l).flatten = (List.replicate n l).flatten := fun _ _ => rfl
  refine AW.upto hmix (fun i ρ σ' => ρ 1 = .ptr σ.n 0 /\ ρ 2 = .ptr (σ.n + 1) 0 /\ ρ 3 = .hs (σ.n + 1 + 1) 0 p.ks.length p.ks.length /\ ρ 17 = .vs (p.ks.map Pl.av) .no /\ ρ 18 = .int .i64 (p.ks.length : Nat) /\ ρ 19 = .int .i64 (i : Nat) /\
   lk σ'.H σ.n = some (.arr (treeCs p.old p.ht p.m p.tx (p.ks.map Pl.av))) /\ lk σ'.H (σ.n + 1) = some (.arr tz) /\
   lk σ'.H (σ.n + 1 + 1) = some (.arr (((p.ks.take i).map Pl.av).flatMap AV.cells ++ (List.replicate (p.ks.length - i) tz).flatten)) /\ Ext σ σ' /\ σ.n + 3 <= σ'.n) p.ks.length
   ⟨by simp only [↓W0, W, reduceCtorEq, seval], by simp only [↓W0, W, reduceCtorEq, seval], by simp only [↓W0, W, reduceCtorEq, seval], by simp only [↓W0, W, reduceCtorEq, seval], by simp only [↓W0, W, reduceCtorEq, seval], by simp only [↓W0, W, reduceCtorEq, seval] <;> rfl, by simp only [↓W0, W, reduceCtorEq, seval] <;> rfl, by simp only [↓W0, W, reduceCtorEq, seval] <;> rfl, by simp only [↓W0, W, reduceCtorEq, seval] <;> rfl, by exact eA, by simp only [↓W0, W, reduceCtorEq, seval]⟩ (fun i ρ σ' hi h => ?_) (fun ρ σ' h => ?_)
  ·obtain ⟨r1, r2, r3, r17, r18, r19, l1, l2, l3, hE, hn⟩ := h
   have hgi := pget p.ks hi
   have hk := ih p.ks[i] (List.getElem_mem hi) (hv.sub (List.getElem_mem hi))
   have htk : (p.ks.take (i + 1)).map Pl.av = (p.ks.take i).map Pl.av ++ [p.ks[i].av] := by
    rw [take_succ_get (x := p.ks[i]) (by simp [hi]), List.map_append]; rfl
   have hla := hfl (p.ks.take i)
   rw [List.length_take, Nat.min_eq_left (by omega)] at hla
   generalize p.ks[i] = k at hgi hk htk
   have hlen2 : (((p.ks.take i).map Pl.av).flatMap AV.cells ++ (List.replicate (p.ks.length - i) tz).flatten).length = p.ks.length * 7 := by
    rw [List.length_append, hla, hzf]; omega
   have hput : putCells (((p.ks.take i).map Pl.av).flatMap AV.cells ++ (List.replicate (p.ks.length - i) tz).flatten) (i * 7) k.cs = ((p.ks.take (i + 1)).map Pl.av).flatMap AV.cells ++ (List.replicate (p.ks.length - (i + 1)) tz).flatten := by
    rw [htk, List.flatMap_append, show p.ks.length - i = (p.ks.length - (i + 1)) + 1 by omega, List.replicate_succ, List.flatten_cons]
    unfold putCells
    rw [List.take_left' hla, <- List.append_assoc, List.drop_left' (by rw [List.length_append, hla, hzl]; rfl)]
    simp [Pl.av_cs, AV.cells]
   rw [Pl.av_cs] at hgi
   simp only [Pl.cs, treeCs] at hput hgi
   simp (disch := first | exact dA | fail) only [↓V0, VV, reduceCtorEq, seval, a169, r1, r2, r3, r17, r18, r19, hgi]
   refine callQ (by have := hk; rw [Pl.av_eq] at this; exact this _) ?_
   simp only [putCells, List.length_cons, List.length_nil, Nat.zero_add, Nat.reduceAdd] at hput
   simp (disch := first | exact dA | fail) only [↓V0, VV, reduceCtorEq, seval, a169, r1, r2, r3, r17, r18, r19, l3, treeCs, hlen2, hput]
   exact ⟨rfl, l1, l2, ((hE.newer _).set hE.1 _).set (by omega) _⟩
  ·obtain ⟨r1, r2, r3, r17, r18, r19, l1, l2, l3, hE, hn⟩ := h
   rw [Nat.sub_self, List.replicate_zero, List.flatten_nil, List.append_nil, List.take_of_length_le (Nat.le_refl _)] at l3
   simp (disch := first | exact dA | fail) only [↓V0, VV, reduceCtorEq, seval, a169, r1, r2, r3, r17, r18, r19, l1, l2, l3, treeCs, tz]
   exact by exact eA
def grp : List Pl -> Pl
 | [] => .emp
 | [k] => k
 | k :: r => .inner (k.ht + 1) (k :: r)
theorem group_ok (l : List Pl) (hl : l.length <= 100) (hh : ∀ k, k ∈ l -> k.ht <= 1000) : ACalls Tryz.prog 167 [.vs (l.map Pl.av) .no] σ (fun v σ' => v = (grp l).av /\ σ' = σ) := by
 refine ACalls.quietX ?_ (grp l).pur
 match l, hl, hh with
 | [], _, _ =>
  refine FOk.calls ok167 (by simp [a167]) (wpc_sound hmix ?_)
  show wpc _ _ _ c167 _ _ _
  simp (disch := first | exact dA | fail) only [↓V0, VV, reduceCtorEq, seval, a167, List.map_nil]
  exact ⟨rfl, by exact eA⟩
 | [k], _, _ =>
  rw [List.map_cons, Pl.av_eq]
  refine FOk.calls ok167 (by simp [a167]) (wpc_sound hmix ?_)
  show wpc _ _ _ c167 _ _ _
  simp (disch := first | exact dA | fail) only [↓V0, VV, reduceCtorEq, seval, a167, treeCs]
  exact ⟨by rw [grp, Pl.av_eq]; simp only [treeCs, WE, Pl.ers], by exact eA⟩
 | k :: k2 :: r, hl, hh =>
  have hf := Pl.fit (k :: k2 :: r)
  have hk := hh k (by simp)
  simp only [List.map_cons, List.length_cons] at hf hl
  have e1 := k.av_eq
  rw [e1] at hf
  rw [List.map_cons, List.map_cons, e1]
  simp only [treeCs] at hf ⊢
  refine FOk.calls ok167 (by simp [a167]) (wpc_sound hmix ?_)
  show wpc _ _ _ c167 _ _ _
  simp (disch := first | exact dA | fail) only [↓V0, VV, reduceCtorEq, seval, a167, List.length_map]
  refine AW.qx none (.p 0 (.p 1 (.p 2 (.p 3 (.p 4 (.p 5 (.p 6 (.a 7 (.p 8 (.a 9 .nil)))))))))) [] hmix (by decide) (by decide) (SB.nil _) ?_
  have ha := fun σ' : St => appA_M (σ := σ') (ag := true) (sz := 7) (bytes := 80) (l := []) (t := .ex) (t' := .no) (by simp) rfl hf (by simp only [List.length_cons, List.length_map, List.length_nil]; omega) trivial
  have hx : ∀ σ' : St, σ'.rt .ex = σ'.new .tok := fun _ => rfl
  simp (disch := first | exact dA | fail) only [↓V0, VV, reduceCtorEq, seval, a167, ↓eval_app, ha, List.length_map, hx]
  refine ⟨?_, by exact eA⟩
  simp only [WE, Pl.er, Pl.ers, grp, Pl.av, plL_eq, treeCs, List.map_cons, e1, Ms.z]
  rfl
theorem same_ok {p : Pa} {A : Ar} {h : Nat} {x : Nd} (ht : Nat) (m : Ms) (hA : ArAt p σ A) (hg : A.get h = some x) (hx : x.ok) (hb : x.ms.b <= 65536) :
  ACalls Tryz.prog 110 [.ptr p.a 0, .int .u64 h, .int .i64 ht, m.av] σ (fun v σ' => v = .int .i64 (if x.ht = ht /\ x.ms = m then 0 else 23) /\ σ' = σ) := by
 have hk1 : x.ks.length <= 4 := by
  rcases hx with ⟨_, _, _, h⟩ | ⟨_, _, _, _, h, _⟩
  ·rw [h]; decide
  ·exact h
 have hA' := hA.ext (Ext.new σ (.arr m.cs))
 have e3 := eq3 x.ms.b x.ms.r x.ms.l m.b m.r m.l
 have hmm : ((x.ms.b : Int) = m.b /\ (x.ms.r : Int) = m.r /\ (x.ms.l : Int) = m.l) ↔ x.ms = m := by
  constructor
  ·intro ⟨h1, h2, h3⟩
   generalize x.ms = y at h1 h2 h3
   cases y; cases m
   simp only at h1 h2 h3
   simp only [Ms.mk.injEq]
   omega
  ·rintro rfl; exact ⟨rfl, rfl, rfl⟩
 refine ACalls.quietX ?_ (by split <;> rfl)
 refine FOk.calls ok110 (by simp [a110]) (wpc_sound hmix ?_)
 show wpc _ _ _ c110 _ _ _
 simp (disch := first | exact dA | fail) only [↓V0, VV, reduceCtorEq, seval, a110, Ms.av, Ms.cs]
 refine callQ (get_ok hA' hg (by omega)) ?_
 simp (disch := first | exact dA | fail) only [↓V0, VV, reduceCtorEq, seval, a110, Nd.av, Nd.cs]
 refine callQ (nmeasure_st x hx hb) ?_
 by_cases c1 : x.ht = ht
 ·by_cases c2 : x.ms = m
  ·rw [decide_eq_true (hmm.2 c2)] at e3
   simp (disch := first | exact dA | fail) only [↓V0, VV, reduceCtorEq, seval, a110, Nd.av, Nd.cs, Ms.av, Ms.cs, e3, Bool.not_false, if_pos (And.intro c1 c2)]
   exact ⟨rfl, by exact eA⟩
  ·rw [decide_eq_false (fun h => c2 (hmm.1 h))] at e3
   simp (disch := first | exact dA | fail) only [↓V0, VV, reduceCtorEq, seval, a110, Nd.av, Nd.cs, Ms.av, Ms.cs, e3, if_neg (fun h => c2 (And.right h))]
   exact ⟨rfl, by exact eA⟩
 ·simp (disch := first | exact dA | fail) only [↓V0, VV, reduceCtorEq, seval, a110, Nd.av, Nd.cs, Ms.av, Ms.cs, if_neg (fun h => c1 (And.left h))]
  exact ⟨rfl, by exact eA⟩
end Go.Proofs.YtekhblefchceaaaGreat.AM

/- What plans are valid over an arena, and their texts; contracts of plan.check, Check, Keep. -/
set_option maxRecDepth 20000
namespace Go.Proofs.YtekhblefchceaaaGreat.AM
open Go Go.Proofs
variable {σ : St}
def Ar.WF (A : Ar) : Prop := ∀ h x, A.get h = some x -> hOk h /\ x.ok /\ x.ms.b <= 65536 /\ ∀ k, k ∈ x.ks -> ∃ y, A.get k.h = some y /\ y.ht + 1 = x.ht /\ y.ms = k.m
inductive Val (A : Ar) : Bool -> Nat -> Pl -> Prop where
 | kept {t : Bool} {n h : Nat} {m : Ms} {x : Nd} (hg : A.get h = some x) (e1 : x.ht = n) (e2 : x.ms = m) (e3 : t = true \/ n ≠ 0 \/ 8 <= m.b) : Val A t n (.kept h n m)
 | leaf {t : Bool} {s : List UInt8} (h1 : 1 <= s.length) (h2 : s.length <= 16) (h3 : t = true \/ 8 <= s.length) : Val A t 0 (.leaf s)
 | inner {t : Bool} {n : Nat} {ks : List Pl} (h1 : n + 1 <= 16) (h2 : 2 <= ks.length) (h3 : ks.length <= 4) (h4 : ∀ k, k ∈ ks -> Val A false n k) : Val A t (n + 1) (.inner (n + 1) ks)
theorem Val.top {A : Ar} {t : Bool} {n : Nat} {p : Pl} (h : Val A t n p) : Val A true n p := by
 cases h with
 | kept hg e1 e2 e3 => exact .kept hg e1 e2 (.inl rfl)
 | leaf h1 h2 h3 => exact .leaf h1 h2 (.inl rfl)
 | inner h1 h2 h3 h4 => exact .inner h1 h2 h3 h4
theorem Val.ht {A : Ar} {t : Bool} {n : Nat} {p : Pl} (h : Val A t n p) : p.ht = n := by cases h <;> rfl
theorem hOk.pos {h : Nat} (hh : hOk h) : 0 < h := by
 rcases Nat.eq_zero_or_pos h with e | e
 ·subst e; exact absurd hh.2.1 (by decide)
 ·exact e
theorem Val.wf {A : Ar} {t : Bool} {n : Nat} {p : Pl} (wf : A.WF) (h : Val A t n p) : p.Wf := by
 induction h with
 | kept hg e1 e2 e3 => exact .kept (wf _ _ hg).1.pos
 | leaf h1 h2 h3 => exact .leaf h1 h2
 | inner h1 h2 h3 h4 ih => exact .inner (by omega) h1 h2 h3 ih
theorem Val.n16 {A : Ar} {t : Bool} {n : Nat} {p : Pl} (wf : A.WF) (h : Val A t n p) : n <= 16 := by
 cases h with
 | kept hg e1 e2 e3 =>
  rcases (wf _ _ hg).2.1 with ⟨h, _⟩ | ⟨_, h, _⟩ <;> omega
 | leaf h1 h2 h3 => omega
 | inner h1 h2 h3 h4 => exact h1
def Ar.sub (A B : Ar) : Prop := ∀ h x, A.get h = some x -> B.get h = some x
theorem Ar.sub.refl (A : Ar) : A.sub A := fun _ _ h => h
theorem Ar.sub.trans {A B C : Ar} (h : A.sub B) (h' : B.sub C) : A.sub C := fun x y e => h' x y (h x y e)
theorem Val.mono {A B : Ar} (hs : A.sub B) {t : Bool} {n : Nat} {p : Pl} (h : Val A t n p) : Val B t n p := by
 induction h with
 | kept hg e1 e2 e3 => exact .kept (hs _ _ hg) e1 e2 e3
 | leaf h1 h2 h3 => exact .leaf h1 h2 h3
 | inner h1 h2 h3 h4 ih => exact .inner h1 h2 h3 ih
def Ar.ntx (A : Ar) : Nat -> Nat -> List UInt8
 | 0, h => match A.get h with | some x => x.tx | none => []
 | n + 1, h => match A.get h with | some x => (x.ks.map fun k => A.ntx n k.h).flatten | none => []
mutual
def Pl.txt (A : Ar) : Pl -> List UInt8
 | .emp => []
 | .kept h ht _ => A.ntx ht h
 | .leaf s => s
 | .inner _ ks => txtL A ks
def txtL (A : Ar) : List Pl -> List UInt8
 | [] => []
 | p :: l => p.txt A ++ txtL A l
end
theorem txtL_eq (A : Ar) : ∀ l, txtL A l = (l.map (Pl.txt A)).flatten
 | [] => rfl
 | p :: l => by simp [txtL, txtL_eq A l]
theorem txtL_append (A : Ar) (l r : List Pl) : txtL A (l ++ r) = txtL A l ++ txtL A r := by simp [txtL_eq]
theorem msOf_append (a b : List UInt8) : msOf (a ++ b) = (msOf a).add (msOf b) := by simp [msOf, Ms.add]
theorem foldl_ms (l : List Ms) : ∀ a : Ms, l.foldl Ms.add a = a.add (l.foldl Ms.add ⟨0, 0, 0⟩) := by
 induction l with
 | nil => intro a; simp [Ms.add]
 | cons b l ih =>
  intro a
  simp only [List.foldl_cons]
  rw [ih (a.add b), ih ((⟨0, 0, 0⟩ : Ms).add b)]
  simp only [Ms.add, Ms.mk.injEq]
  omega
theorem msSum_cons (a : Ms) (l : List Ms) : msSum (a :: l) = a.add (msSum l) := by
 unfold msSum
 rw [List.foldl_cons, foldl_ms]
 simp [Ms.add]
theorem msSum_flat {α : Type} (f : α -> List UInt8) (g : α -> Ms) : ∀ l : List α, (∀ x, x ∈ l -> g x = msOf (f x)) -> msSum (l.map g) = msOf (l.map f).flatten
 | [], _ => rfl
 | a :: l, h => by
  rw [List.map_cons, msSum_cons, List.map_cons, List.flatten_cons, msOf_append, msSum_flat f g l fun x hx => h x (by simp [hx]), h a (by simp)]
theorem Ar.WF.ms {A : Ar} (wf : A.WF) : ∀ (n h : Nat) (x : Nd), A.get h = some x -> x.ht = n -> x.ms = msOf (A.ntx n h)
 | 0, h, x, hg, he => by simp only [Ar.ntx, hg, Nd.ms, he, if_true]
 | n + 1, h, x, hg, he => by
  simp only [Ar.ntx, hg, Nd.ms]
  rw [if_neg (by omega)]
  refine msSum_flat _ _ _ fun k hk => ?_
  obtain ⟨y, h1, h2, h3⟩ := (wf h x hg).2.2.2 k hk
  rw [<- h3]
  exact Ar.WF.ms wf n k.h y h1 (by omega)
theorem Val.bytes {A : Ar} (wf : A.WF) {t : Bool} {n : Nat} {p : Pl} (h : Val A t n p) : p.bytes = (p.txt A).length := by
 induction h with
 | kept hg e1 e2 e3 =>
  simp only [Pl.bytes, Pl.txt]
  rw [<- e2, wf.ms _ _ _ hg e1]; rfl
 | leaf h1 h2 h3 => rfl
 | inner h1 h2 h3 h4 ih =>
  simp only [Pl.bytes, Pl.txt, bytesL_eq, txtL_eq, List.length_flatten, List.map_map]
  congr 1
  exact List.map_congr_left fun k hk => ih k hk
theorem ntx_mono {A B : Ar} (wf : A.WF) (hs : A.sub B) : ∀ (n h : Nat) (x : Nd), A.get h = some x -> x.ht = n -> B.ntx n h = A.ntx n h
 | 0, h, x, hg, he => by simp only [Ar.ntx, hg, hs _ _ hg]
 | n + 1, h, x, hg, he => by
  simp only [Ar.ntx, hg, hs _ _ hg]
  congr 1
  refine List.map_congr_left fun k hk => ?_
  obtain ⟨y, h1, h2, h3⟩ := (wf h x hg).2.2.2 k hk
  exact ntx_mono wf hs n k.h y h1 (by omega)
theorem Val.txt_mono {A B : Ar} (wf : A.WF) (hs : A.sub B) {t : Bool} {n : Nat} {p : Pl} (h : Val A t n p) : p.txt B = p.txt A := by
 induction h with
 | kept hg e1 e2 e3 => simp only [Pl.txt]; exact ntx_mono wf hs _ _ _ hg e1
 | leaf h1 h2 h3 => rfl
 | inner h1 h2 h3 h4 ih =>
  simp only [Pl.txt, txtL_eq]
  congr 1
  exact List.map_congr_left fun k hk => ih k hk
theorem check_ok' {p : Pa} {A : Ar} (wf : A.WF) (t : Pl) : ∀ (kid : Bool) (n : Nat) (z : Int), Val A (!kid) n t -> (kid = true -> z = n) -> t.bytes <= 65536 -> ∀ σ, ArAt p σ A -> ACalls Tryz.prog 172 [.ptr p.a 0, t.av, .bool kid, .int .i64 z] σ (fun v σ' => v = .int .i64 0 /\ σ' = σ) := by
 refine Pl.ind (M := fun t => ∀ (kid : Bool) (n : Nat) (z : Int), Val A (!kid) n t -> (kid = true -> z = n) -> t.bytes <= 65536 -> ∀ σ, ArAt p σ A -> ACalls Tryz.prog 172 [.ptr p.a 0, t.av, .bool kid, .int .i64 z] σ (fun v σ' => v = .int .i64 0 /\ σ' = σ)) (fun t ih kid n z hv hz hb σ hA => ?_) t
 have hw := hv.wf wf
 have hlen := hw.len
 have hn := hv.ht
 have hn16 := hv.n16 wf
 have hbe := t.bytes_eq
 have hb8 : kid = true -> n = 0 -> 8 <= t.bytes := by
  intro h1 h2
  subst h1
  cases hv with
  | kept hg e1 e2 e3 => exact (e3.resolve_left (by decide)).resolve_left (fun h => h h2)
  | leaf h1 h2 h3 => exact h3.resolve_left (by decide)
  | inner h1 h2 h3 h4 => omega
 have hkv : t.kd = 2 \/ t.kd = 3 \/ t.kd = 4 := by cases hv <;> simp [Pl.kd]
 have hk2 : t.kd = 2 -> ∃ x, A.get t.old = some x /\ x.ht = t.ht /\ x.ms = t.m := by
  intro h
  cases hv with
  | kept hg e1 e2 e3 => exact ⟨_, hg, e1, e2⟩
  | leaf h1 h2 h3 => simp [Pl.kd] at h
  | inner h1 h2 h3 h4 => simp [Pl.kd] at h
 have hkid : ∀ k, k ∈ t.ks -> ∃ m, t.ht = m + 1 /\ Val A false m k := by
  intro k hk
  cases hv with
  | inner h1 h2 h3 h4 => exact ⟨_, rfl, h4 k hk⟩
  | _ => simp [Pl.ks] at hk
 have tail : ∀ (ρ : Env) (σ' : St), ρ 0 = .ptr p.a 0 -> ρ 5 = .ptr σ.n 0 -> ρ 56 = .vs (t.ks.map Pl.av) .no -> ρ 57 = .int .i64 (t.ks.length : Nat) -> ρ 58 = .int .i64 0 -> lk σ'.H σ.n = some (.arr (treeCs t.old t.ht t.m t.tx (t.ks.map Pl.av))) -> Ext σ σ' -> σ.n < σ'.n ->
   AW Tryz.prog none 72 (.loop l172_17) (inBl 0 (kS Tryz.prog none 72 (.seq (.rg r172_17) .ret) (FPost [.tmp 8] fun v σ' => v.er = .int .i64 0 /\ Ext σ σ'))) ρ σ' := by
  intro ρ σ1 r0 r5 r56 r57 r58 hl hE hlt
  refine AW.upto hmix (fun i ρ σ' => ρ 0 = .ptr p.a 0 /\ ρ 5 = .ptr σ.n 0 /\ ρ 56 = .vs (t.ks.map Pl.av) .no /\ ρ 57 = .int .i64 (t.ks.length : Nat) /\ ρ 58 = .int .i64 (i : Nat) /\ Ext σ1 σ') t.ks.length
   ⟨r0, r5, r56, r57, r58, Ext.refl _⟩ (fun i ρ σ' hi h => ?_) (fun ρ σ' h => ?_)
  ·obtain ⟨r0, r5, r56, r57, r58, hE2⟩ := h
   have hgi := pget t.ks hi
   obtain ⟨m, hm1, hm2⟩ := hkid t.ks[i] (List.getElem_mem hi)
   have hkb : (t.ks[i]).bytes <= (t.ks.map Pl.bytes).sum := le_sum_mem (List.mem_map_of_mem (List.getElem_mem hi))
   have hk := ih t.ks[i] (List.getElem_mem hi) true m (m : Nat) hm2 (fun _ => rfl) (by omega)
   have hl2 : lk σ'.H σ.n = _ := (hE2.2 σ.n hlt).trans hl
   have hn2 := hE2.1
   generalize t.ks[i] = k at hgi hk
   rw [Pl.av_eq] at hgi
   simp only [treeCs] at hl2 hgi
   have hme : ((t.ht : Nat) : Int) - 1 = (m : Nat) := by omega
   simp (disch := first | exact dA | fail) only [↓V0, VV, reduceCtorEq, seval, a172, r0, r5, r56, r57, r58, hgi, hl2, hme]
   refine callQ (by have := hk; rw [Pl.av_eq] at this; exact this _ (hA.ext ((hE.trans hE2).trans (by exact eA)))) ?_
   simp (disch := first | exact dA | fail) only [↓V0, VV, reduceCtorEq, seval, a172, r0, r5, r56, r57, r58]
   exact ⟨rfl, hE2.trans (by exact eA)⟩
  ·obtain ⟨r0, r5, r56, r57, r58, hE2⟩ := h
   simp (disch := first | exact dA | fail) only [↓V0, VV, reduceCtorEq, seval, a172, r0, r5, r56, r57, r58]
   exact ⟨rfl, hE.trans hE2⟩
 refine ACalls.quietX ?_ rfl
 rw [Pl.av_eq]
 refine FOk.calls ok172 (by simp [a172]) (wpc_sound hmix ?_)
 show wpc _ _ _ c172 _ _ _
 simp (disch := first | exact dA | fail) only [↓V0, VV, reduceCtorEq, seval, a172, treeCs]
 have hA' := hA.ext (Ext.new σ (.arr (treeCs t.old t.ht t.m t.tx (t.ks.map Pl.av))))
 have hkd := kind_ok (σ := σ.new (.arr (treeCs t.old t.ht t.m t.tx (t.ks.map Pl.av)))) t hw.form
 rw [Pl.av_eq] at hkd
 simp only [treeCs] at hkd hA'
 refine callQ hkd ?_
 have hbytes := bytes_ok t (.inr hw) (by omega) (σ.new (.arr (treeCs t.old t.ht t.m t.tx (t.ks.map Pl.av))))
 rw [Pl.av_eq] at hbytes
 simp only [treeCs] at hbytes
 have fin : ∀ (b : Bool), kid = b -> 8 <= t.bytes \/ (kid = true -> t.ht ≠ 0) := fun b hb => by
  by_cases h : kid = true /\ n = 0
  ·exact .inl (hb8 h.1 h.2)
  ·exact .inr fun h1 h2 => h ⟨h1, by omega⟩
 by_cases c2 : t.kd = 2
 ·obtain ⟨x, hx1, hx2, hx3⟩ := hk2 c2
  obtain ⟨_, hxo, hxb, _⟩ := wf _ _ hx1
  have hsame := same_ok t.ht t.m hA' hx1 hxo hxb
  rw [if_pos ⟨hx2, hx3⟩] at hsame
  simp only [Ms.av, Ms.cs] at hsame
  cases kid with
  | false =>
   simp (disch := first | exact dA | fail) only [↓V0, VV, reduceCtorEq, seval, a172]
   refine callQ hsame ?_
   simp (disch := first | exact dA | fail) only [↓V0, VV, reduceCtorEq, seval, a172]
   exact tail _ _ (by simp only [↓W0, W, reduceCtorEq, seval]) (by simp only [↓W0, W, reduceCtorEq, seval]) (by simp only [↓W0, W, reduceCtorEq, seval]) (by simp only [↓W0, W, reduceCtorEq, seval, List.length_map]) (by simp only [↓W0, W, reduceCtorEq, seval]) (by simp only [↓W0, W, reduceCtorEq, seval, treeCs]) (by exact eA) (by simp only [↓W0, W, reduceCtorEq, seval])
  | true =>
   have hz := hz rfl
   simp (disch := first | exact dA | fail) only [↓V0, VV, reduceCtorEq, seval, a172]
   refine callQ hsame ?_
   by_cases c0 : t.ht = 0
   ·have := hb8 rfl (by omega)
    simp (disch := first | exact dA | fail) only [↓V0, VV, reduceCtorEq, seval, a172]
    refine callQ hbytes ?_
    simp (disch := first | exact dA | fail) only [↓V0, VV, reduceCtorEq, seval, a172]
    exact tail _ _ (by simp only [↓W0, W, reduceCtorEq, seval]) (by simp only [↓W0, W, reduceCtorEq, seval]) (by simp only [↓W0, W, reduceCtorEq, seval]) (by simp only [↓W0, W, reduceCtorEq, seval, List.length_map]) (by simp only [↓W0, W, reduceCtorEq, seval]) (by simp only [↓W0, W, reduceCtorEq, seval, treeCs]) (by exact eA) (by simp only [↓W0, W, reduceCtorEq, seval])
   ·simp (disch := first | exact dA | fail) only [↓V0, VV, reduceCtorEq, seval, a172]
    exact tail _ _ (by simp only [↓W0, W, reduceCtorEq, seval]) (by simp only [↓W0, W, reduceCtorEq, seval]) (by simp only [↓W0, W, reduceCtorEq, seval]) (by simp only [↓W0, W, reduceCtorEq, seval, List.length_map]) (by simp only [↓W0, W, reduceCtorEq, seval]) (by simp only [↓W0, W, reduceCtorEq, seval, treeCs]) (by exact eA) (by simp only [↓W0, W, reduceCtorEq, seval])
 ·cases kid with
  | false =>
   simp (disch := first | exact dA | fail) only [↓V0, VV, reduceCtorEq, seval, a172]
   exact tail _ _ (by simp only [↓W0, W, reduceCtorEq, seval]) (by simp only [↓W0, W, reduceCtorEq, seval]) (by simp only [↓W0, W, reduceCtorEq, seval]) (by simp only [↓W0, W, reduceCtorEq, seval, List.length_map]) (by simp only [↓W0, W, reduceCtorEq, seval]) (by simp only [↓W0, W, reduceCtorEq, seval, treeCs]) (by exact eA) (by simp only [↓W0, W, reduceCtorEq, seval])
  | true =>
   have hz := hz rfl
   by_cases c0 : t.ht = 0
   ·have := hb8 rfl (by omega)
    simp (disch := first | exact dA | fail) only [↓V0, VV, reduceCtorEq, seval, a172]
    refine callQ hbytes ?_
    simp (disch := first | exact dA | fail) only [↓V0, VV, reduceCtorEq, seval, a172]
    exact tail _ _ (by simp only [↓W0, W, reduceCtorEq, seval]) (by simp only [↓W0, W, reduceCtorEq, seval]) (by simp only [↓W0, W, reduceCtorEq, seval]) (by simp only [↓W0, W, reduceCtorEq, seval, List.length_map]) (by simp only [↓W0, W, reduceCtorEq, seval]) (by simp only [↓W0, W, reduceCtorEq, seval, treeCs]) (by exact eA) (by simp only [↓W0, W, reduceCtorEq, seval])
   ·simp (disch := first | exact dA | fail) only [↓V0, VV, reduceCtorEq, seval, a172]
    exact tail _ _ (by simp only [↓W0, W, reduceCtorEq, seval]) (by simp only [↓W0, W, reduceCtorEq, seval]) (by simp only [↓W0, W, reduceCtorEq, seval]) (by simp only [↓W0, W, reduceCtorEq, seval, List.length_map]) (by simp only [↓W0, W, reduceCtorEq, seval]) (by simp only [↓W0, W, reduceCtorEq, seval, treeCs]) (by exact eA) (by simp only [↓W0, W, reduceCtorEq, seval])
end Go.Proofs.YtekhblefchceaaaGreat.AM

