/- Joined: D25, D26, D27. -/
import Derived.Test.YtekhblefchceaaaGreatDG
set_option linter.unusedVariables false
set_option linter.unusedSimpArgs false
/- Sets as maps; variables that hold lists; plan.Kept. -/
set_option maxRecDepth 20000
namespace Go.Proofs.YtekhblefchceaaaGreat.AM
open Go Go.Proofs
variable {σ : St}
def Lo (n0 : Nat) (σ σ' : St) : Prop := σ.n <= σ'.n /\ ∀ β, β < n0 -> lk σ'.H β = lk σ.H β
theorem Lo.refl (n0 : Nat) (σ : St) : Lo n0 σ σ := ⟨Nat.le_refl _, fun _ _ => rfl⟩
theorem Lo.trans {n0 : Nat} {σ σ1 σ2 : St} (h : Lo n0 σ σ1) (h' : Lo n0 σ1 σ2) : Lo n0 σ σ2 := ⟨Nat.le_trans h.1 h'.1, fun β hβ => (h'.2 β hβ).trans (h.2 β hβ)⟩
theorem Lo.ext {n0 : Nat} {σ σ1 : St} (h : Ext σ σ1) (hn : n0 <= σ.n) : Lo n0 σ σ1 := ⟨h.1, fun β hβ => h.2 β (by omega)⟩
theorem GrX.lo {n0 b : Nat} {σ σ1 : St} (h : GrX n0 b σ σ1) : Lo n0 σ σ1 := ⟨h.1, h.2.1⟩
theorem Lo.toExt {σ σ1 σ2 : St} (h : Lo σ.n σ1 σ2) (hE : Ext σ σ1) : Ext σ σ2 := ⟨Nat.le_trans hE.1 h.1, fun β hβ => (h.2 β hβ).trans (hE.2 β hβ)⟩
def LstB (n0 b : Nat) (l : List AV) (σ : St) : Prop := ∃ t, lk σ.H b = some (.arr [.vs l t]) /\ TokOk n0 σ t
theorem LstB.ext {n0 b : Nat} {l : List AV} {σ' : St} (h : LstB n0 b l σ) (hb : b < σ.n) (hE : Ext σ σ') : LstB n0 b l σ' := by
 obtain ⟨t, h1, h2⟩ := h
 exact ⟨t, by rw [hE.2 b hb]; exact h1, h2.ext hE⟩
theorem LstB.set {n0 b m : Nat} {l : List AV} (h : LstB n0 b l σ) (hm : m ≠ b) (hk : lk σ.H m ≠ some .tok) (x : Blk) : LstB n0 b l (σ.set m x) := by
 obtain ⟨t, h1, h2⟩ := h
 exact ⟨t, by rw [lk_set, if_neg hm]; exact h1, h2.set hk x⟩
theorem lst_app {n0 b : Nat} {l : List AV} {t : Tok} (q : List AV) (h1 : lk σ.H b = some (.arr [.vs l t])) (h2 : TokOk n0 σ t) (hb : b < σ.n) (hn0 : n0 <= b) :
  TokG σ t /\ lk (σ.rt t).H b = some (.arr [.vs l t]) /\ LstB n0 b (l ++ q) ((σ.rt t).set b (.arr [.vs (l ++ q) (.id σ.n)])) /\ GrX n0 b σ ((σ.rt t).set b (.arr [.vs (l ++ q) (.id σ.n)])) := by
 have h3 : lk (σ.rt t).H b = some (.arr [.vs l t]) := rt_lk h2 h1 (by simp) hb
 exact ⟨h2.g, h3, ⟨.id σ.n, by simp [lk_set, h3], (rt_tok t (by omega)).set (by rw [h3]; simp) _⟩, GrX.set (GrX.rt h2 (by omega)) hn0 _⟩
def sE (S : List Nat) : List MEnt := S.zipIdx.map fun e => ⟨.int .u64 e.1, .bool true, e.2⟩
theorem sE_app (S : List Nat) (h : Nat) : sE (S ++ [h]) = sE S ++ [⟨.int .u64 h, .bool true, S.length⟩] := by simp [sE, List.zipIdx_append]
def SetAt (m : Nat) (S : List Nat) (σ : St) : Prop := lk σ.H m = some (.map (sE S) S.length)
theorem fks_no (h : Nat) : ∀ (S : List Nat) (i j : Nat), h ∉ S -> findKeyA .i (.int .u64 h) ((S.zipIdx j).map fun e => ⟨.int .u64 e.1, .bool true, e.2⟩) i = some none
 | [], _, _, _ => rfl
 | s :: S, i, j, hn => by
  have hne : h ≠ s := fun e => hn (by simp [e])
  simp only [List.zipIdx_cons, List.map_cons, findKeyA, eqSc, if_true]
  rw [decide_eq_false (by omega)]
  exact fks_no h S (i + 1) (j + 1) fun e => hn (by simp [e])
theorem fks_some (h : Nat) : ∀ (S : List Nat) (i j : Nat), h ∈ S -> ∃ i', findKeyA .i (.int .u64 h) ((S.zipIdx j).map fun e => ⟨.int .u64 e.1, .bool true, e.2⟩) i = some (some (i', .bool true))
 | s :: S, i, j, hn => by
  simp only [List.zipIdx_cons, List.map_cons, findKeyA, eqSc, if_true]
  by_cases he : h = s
  ·exact ⟨i, by rw [decide_eq_true (by omega)]⟩
  ·obtain ⟨i', hi⟩ := fks_some h S (i + 1) (j + 1) (by simpa [he] using hn)
   exact ⟨i', by rw [decide_eq_false (by omega)]; exact hi⟩
theorem set_no {S : List Nat} {h : Nat} (hn : h ∉ S) : findKeyA .i (.int .u64 h) (sE S) 0 = some none := fks_no h S 0 0 hn
theorem set_some {S : List Nat} {h : Nat} (hn : h ∈ S) : ∃ i, findKeyA .i (.int .u64 h) (sE S) 0 = some (some (i, .bool true)) := fks_some h S 0 0 hn
def ins (S : List Nat) (h : Nat) : List Nat := if h ∈ S then S else S ++ [h]
theorem SetAt.up {m : Nat} {S : List Nat} (h : Nat) (hs : SetAt m S σ) : SetAt m (S ++ [h]) (σ.set m (.map (sE S ++ [⟨.int .u64 h, .bool true, S.length⟩]) (S.length + 1))) := by
 unfold SetAt at hs ⊢
 rw [lk_set, if_pos rfl, hs, sE_app, List.length_append]; rfl
mutual
def Pl.kp : Pl -> List Nat -> List Nat
 | .emp, S => S
 | .kept h _ _, S => if h = 0 then S else ins S h
 | .leaf _, S => S
 | .inner _ ks, S => kpL ks S
def kpL : List Pl -> List Nat -> List Nat
 | [], S => S
 | k :: l, S => kpL l (k.kp S)
end
theorem Pl.kp_eq (t : Pl) (S : List Nat) : t.kp S = kpL t.ks (if t.old = 0 then S else ins S t.old) := by cases t <;> rfl
theorem kpL_app : ∀ (l l2 : List Pl) (S : List Nat), kpL (l ++ l2) S = kpL l2 (kpL l S)
 | [], _, _ => rfl
 | k :: l, l2, S => kpL_app l l2 (k.kp S)
structure KE (n0 m b3 b4 b5 : Nat) (S : List Nat) (σ : St) : Prop where
 e4 : lk σ.H b4 = some (.arr [.map m])
 e5 : lk σ.H b5 = some (.arr [.fn 179 [.ptr b4 0, .ptr b3 0, .ptr b5 0]])
 s : SetAt m S σ
 l : LstB n0 b3 (uav .u64 S) σ
 lm : m < σ.n
 l3 : b3 < σ.n
 l4 : b4 < σ.n
 l5 : b5 < σ.n
 nm : n0 <= m
 n3 : n0 <= b3
 ne1 : m ≠ b3
 ne2 : b3 ≠ b4
 ne3 : b3 ≠ b5
theorem KE.ext {n0 m b3 b4 b5 : Nat} {S : List Nat} {σ' : St} (h : KE n0 m b3 b4 b5 S σ) (hE : Ext σ σ') : KE n0 m b3 b4 b5 S σ' :=
 ⟨by rw [hE.2 _ h.l4]; exact h.e4, by rw [hE.2 _ h.l5]; exact h.e5, by unfold SetAt; rw [hE.2 _ h.lm]; exact h.s, h.l.ext h.l3 hE, Nat.lt_of_lt_of_le h.lm hE.1, Nat.lt_of_lt_of_le h.l3 hE.1, Nat.lt_of_lt_of_le h.l4 hE.1, Nat.lt_of_lt_of_le h.l5 hE.1, h.nm, h.n3, h.ne1, h.ne2, h.ne3⟩
theorem OkP.kid {A : Ar} {t k : Pl} (h : OkP A t) (hk : k ∈ t.ks) : OkP A k := by
 rcases h with rfl | ⟨n, h⟩
 ·simp [Pl.ks] at hk
 ·cases h with
  | kept => simp [Pl.ks] at hk
  | leaf => simp [Pl.ks] at hk
  | inner h1 h2 h3 h4 => exact .inr ⟨_, (h4 k hk).top⟩
theorem OkP.pos {A : Ar} (wf : A.WF) {t : Pl} (h : OkP A t) (ho : t.old ≠ 0) : 1 <= t.bytes := by
 rcases h with rfl | ⟨n, h⟩
 ·exact absurd rfl ho
 ·exact h.pos wf
theorem ins_len (S : List Nat) (h : Nat) : (ins S h).length <= S.length + 1 := by
 unfold ins; split <;> simp
theorem kpL_len : ∀ (l : List Pl) (S : List Nat), (∀ k, k ∈ l -> ∀ S : List Nat, (k.kp S).length <= S.length + k.bytes) -> (kpL l S).length <= S.length + (l.map Pl.bytes).sum
 | [], S, _ => by simp [kpL]
 | k :: l, S, h => by
  have h1 := h k (by simp) S
  have h2 := kpL_len l (k.kp S) fun q hq => h q (by simp [hq])
  simp only [kpL, List.map_cons, List.sum_cons]; omega
theorem kp_len {A : Ar} (wf : A.WF) : ∀ (t : Pl), OkP A t -> ∀ S : List Nat, (t.kp S).length <= S.length + t.bytes := by
 refine Pl.ind fun t ih h S => ?_
 rw [Pl.kp_eq]
 have h1 := kpL_len t.ks (if t.old = 0 then S else ins S t.old) fun k hk => ih k hk (h.kid hk)
 have h2 := ins_len S t.old
 have h3 := t.bytes_eq
 split at h1
 ·rw [if_pos (by assumption)]; omega
 ·rw [if_neg (by assumption)]
  rename_i ho
  have h4 := h.pos wf ho
  rcases h with rfl | ⟨n, h⟩
  ·exact absurd rfl ho
  ·cases h with
   | kept => simp only [Pl.ks, kpL, Pl.old] at *; omega
   | leaf => exact absurd rfl ho
   | inner => exact absurd rfl ho
theorem kp_ok {A : Ar} (wf : A.WF) {n0 m b3 b4 b5 : Nat} : ∀ (t : Pl), OkP A t -> ∀ (S : List Nat) (σ : St), KE n0 m b3 b4 b5 S σ -> S.length + t.bytes <= 100000 ->
  ACalls Tryz.prog 179 [t.av, .ptr b4 0, .ptr b3 0, .ptr b5 0] σ (fun _ σ' => KE n0 m b3 b4 b5 (t.kp S) σ' /\ Lo n0 σ σ') := by
 refine Pl.ind fun t ih hv S σ hK hlen => ?_
 have h' := hK.ext (Ext.new σ (.arr t.cs))
 have hnσ : n0 <= σ.n := by have := hK.n3; have := hK.l3; omega
 have e4 := hK.e4
 have l4 := hK.l4
 have hs := hK.s
 have lm := hK.lm
 have hkl := (hv.w0 wf).len
 unfold SetAt at hs
 have hlen0 : (if t.old = 0 then S else ins S t.old).length + (t.ks.map Pl.bytes).sum <= 100000 := by
  have h2 := ins_len S t.old
  have h3 := t.bytes_eq
  split
  ·omega
  ·rename_i ho
   have h4 := hv.pos wf ho
   rcases hv with rfl | ⟨n, hv⟩
   ·exact absurd rfl ho
   ·cases hv with
    | kept => simp only [Pl.ks, List.map_nil, List.sum_nil, Pl.old] at *; omega
    | leaf => exact absurd rfl ho
    | inner => exact absurd rfl ho
 have hkp := t.kp_eq S
 generalize hS0 : (if t.old = 0 then S else ins S t.old) = S0 at *
 have main : ∀ (ρ : Env) (σ1 : St), ρ 3 = .ptr b5 0 -> ρ 26 = .vs (t.ks.map Pl.av) .no -> ρ 27 = .int .i64 (t.ks.length : Nat) -> ρ 28 = .int .i64 0 -> KE n0 m b3 b4 b5 S0 σ1 -> Lo n0 σ σ1 -> AW Tryz.prog none 36 l179_9.loop (inBl 0 (FPost [] fun x σ' => KE n0 m b3 b4 b5 (t.kp S) σ' /\ Lo n0 σ σ')) ρ σ1 := by
  intro ρ σ1 r3 r26 r27 r28 hK1 hL1
  refine AW.upto hmix (fun i ρ σ' => ρ 3 = .ptr b5 0 /\ ρ 26 = .vs (t.ks.map Pl.av) .no /\ ρ 27 = .int .i64 (t.ks.length : Nat) /\ ρ 28 = .int .i64 (i : Nat) /\ KE n0 m b3 b4 b5 (kpL (t.ks.take i) S0) σ' /\ Lo n0 σ σ') t.ks.length
   ⟨r3, r26, r27, r28, hK1, hL1⟩ (fun i ρ σ' hi h => ?_) (fun ρ σ' h => ?_)
  ·obtain ⟨r3, r26, r27, r28, hT, hG⟩ := h
   have hgi := pget t.ks hi
   have hmem := List.getElem_mem hi
   have htk : kpL (t.ks.take (i + 1)) S0 = (t.ks[i]).kp (kpL (t.ks.take i) S0) := by rw [List.take_succ_eq_append_getElem hi, kpL_app]; rfl
   have hl1 := kpL_len (t.ks.take i) S0 fun k hk S => kp_len wf k (hv.kid (List.mem_of_mem_take hk)) S
   have hl2 : ((t.ks.take i).map Pl.bytes).sum + (t.ks[i]).bytes <= (t.ks.map Pl.bytes).sum := by
    have := congrArg List.sum (congrArg (List.map Pl.bytes) (List.take_append_drop (i + 1) t.ks))
    rw [List.take_succ_eq_append_getElem hi] at this
    simp only [List.map_append, List.sum_append, List.map_cons, List.map_nil, List.sum_cons, List.sum_nil] at this
    omega
   have e5 := hT.e5
   have l5 := hT.l5
   generalize t.ks[i] = k at hgi hmem htk hl2
   have hT2 := hT.ext (σ' := (σ'.new (.arr tz)).set σ'.n (.arr k.cs)) (by exact eA)
   have hrec := ih k hmem (hv.kid hmem) _ _ hT2 (by omega)
   have hn5 : (σ'.n = b5) = False := eq_false (by omega)
   rw [Pl.av_eq] at hgi
   simp only [treeCs] at hgi
   simp only [Pl.cs, treeCs, tz] at hrec
   simp (disch := first | exact dA | fail) only [↓V0, VV, reduceCtorEq, seval, a179, r3, r26, r27, r28, hgi, e5]
   refine (by rw [Pl.av_eq] at hrec; exact hrec : ACalls _ _ _ _ _).mono ?_
   rintro v σ3 ⟨hT3, hG3⟩
   simp (disch := first | exact dA | fail) only [↓V0, VV, reduceCtorEq, seval, a179, r3, r26, r27, r28]
   have hG2 : Lo n0 σ' ((σ'.new (.arr tz)).set σ'.n (.arr k.cs)) := Lo.ext (by exact eA) (by have := hT.n3; have := hT.l3; omega)
   simp only [Pl.cs, treeCs, tz] at hG2
   exact ⟨rfl, by rw [htk]; exact hT3, (hG.trans hG2).trans hG3⟩
  ·obtain ⟨r3, r26, r27, r28, hT, hG⟩ := h
   rw [List.take_of_length_le (Nat.le_refl _), <- hkp] at hT
   simp (disch := first | exact dA | fail) only [↓V0, VV, reduceCtorEq, seval, a179, r3, r26, r27, r28]
   exact ⟨hT, hG⟩
 have hlS : S.length <= 100000 := by omega
 clear hlen0
 refine FOk.calls ok179 (by simp [a179]) (wpc_sound hmix ?_)
 show wpc _ _ _ c179 _ _ _
 simp (disch := first | exact dA | fail) only [↓V0, VV, reduceCtorEq, seval, a179, Pl.av_eq, treeCs, e4, hs]
 by_cases ho : t.old = 0
 ·rw [if_pos ho] at hS0
  subst hS0
  simp (disch := first | exact dA | fail) only [↓V0, VV, reduceCtorEq, seval, a179, ho]
  refine main _ _ (by exact wA) (by exact wA) (by (simp only [↓W0, W, reduceCtorEq, seval, List.length_map]; first | done | rfl | omega | simp)) (by exact wA) ?_ ?_
  ·have := hK.ext (Ext.new σ (.arr t.cs))
   simp only [Pl.cs, treeCs, ho] at this
   exact this
  ·exact Lo.ext (by exact eA) hnσ
 ·rw [if_neg ho] at hS0
  by_cases hS : t.old ∈ S
  ·obtain ⟨i, hi⟩ := set_some hS
   unfold ins at hS0
   rw [if_pos hS] at hS0
   subst hS0
   simp (disch := first | exact dA | fail) only [↓V0, VV, reduceCtorEq, seval, a179, hi, e4, hs, show ((t.old : Int) = 0) = False from eq_false (by omega)]
   refine main _ _ (by exact wA) (by exact wA) (by (simp only [↓W0, W, reduceCtorEq, seval, List.length_map]; first | done | rfl | omega | simp)) (by exact wA) ?_ ?_
   ·have := hK.ext (Ext.new σ (.arr t.cs))
    simp only [Pl.cs, treeCs] at this
    exact this
   ·exact Lo.ext (by exact eA) hnσ
  ·have hi := set_no hS
   unfold ins at hS0
   rw [if_neg hS] at hS0
   subst hS0
   obtain ⟨tk, a1, a2⟩ := hK.l
   have l3 := hK.l3
   have l5 := hK.l5
   have n1 := hK.ne1
   have n2 := hK.ne2
   have n3 := hK.ne3
   have nm := hK.nm
   have nn3 := hK.n3
   have e5 := hK.e5
   have q4 : m ≠ b4 := fun e => by subst e; rw [hs] at e4; cases e4
   have q5 : m ≠ b5 := fun e => by subst e; rw [hs] at e5; cases e5
   simp (disch := first | exact dA | fail) only [↓V0, VV, reduceCtorEq, seval, a179, hi, e4, hs, a1, eq_false n1, show ((t.old : Int) = 0) = False from eq_false (by omega)]
   have k4 : lk ((σ.new (.arr t.cs)).set m (.map (sE S ++ [⟨.int .u64 t.old, .bool true, S.length⟩]) (S.length + 1))).H b4 = some (.arr [.map m]) := by rw [lk_set, if_neg q4, lk_new, if_neg (by omega)]; exact e4
   have k5 : lk ((σ.new (.arr t.cs)).set m (.map (sE S ++ [⟨.int .u64 t.old, .bool true, S.length⟩]) (S.length + 1))).H b5 = some (.arr [.fn 179 [.ptr b4 0, .ptr b3 0, .ptr b5 0]]) := by rw [lk_set, if_neg q5, lk_new, if_neg (by omega)]; exact e5
   have k3 : lk ((σ.new (.arr t.cs)).set m (.map (sE S ++ [⟨.int .u64 t.old, .bool true, S.length⟩]) (S.length + 1))).H b3 = some (.arr [.vs (uav .u64 S) tk]) := by rw [lk_set, if_neg n1, lk_new, if_neg (by omega)]; exact a1
   have kv : lk ((σ.new (.arr t.cs)).set m (.map (sE S ++ [⟨.int .u64 t.old, .bool true, S.length⟩]) (S.length + 1))).H σ.n = some (.arr t.cs) := by rw [lk_set, if_neg (by omega), lk_new, if_pos rfl]
   have kt : TokOk n0 ((σ.new (.arr t.cs)).set m (.map (sE S ++ [⟨.int .u64 t.old, .bool true, S.length⟩]) (S.length + 1))) tk := (a2.ext (Ext.new _ _)).set (by rw [lk_new, if_neg (by omega), hs]; simp) _
   have ks : SetAt m (S ++ [t.old]) ((σ.new (.arr t.cs)).set m (.map (sE S ++ [⟨.int .u64 t.old, .bool true, S.length⟩]) (S.length + 1))) := SetAt.up _ (by unfold SetAt; rw [lk_new, if_neg (by omega)]; exact hs)
   have kG : Lo n0 σ ((σ.new (.arr t.cs)).set m (.map (sE S ++ [⟨.int .u64 t.old, .bool true, S.length⟩]) (S.length + 1))) := ⟨Nat.le_succ _, fun β hβ => by rw [lk_set, if_neg (by omega), lk_new, if_neg (by omega)]⟩
   have kn : ((σ.new (.arr t.cs)).set m (.map (sE S ++ [⟨.int .u64 t.old, .bool true, S.length⟩]) (S.length + 1))).n = σ.n + 1 := rfl
   simp only [Pl.cs, treeCs] at k3 k4 k5 kv kt ks kG kn
   generalize (σ.new (.arr [_, _, _, _, _, _, _])).set m _ = σ1 at *
   obtain ⟨c2, c3, c4, c5⟩ := lst_app (uav .u64 [t.old]) k3 kt (by omega) nn3
   have hfu := fit_uav .u64 S
   have hlu := len_uav .u64 S
   have hu : uav .u64 (S ++ [t.old]) = uav .u64 S ++ [.int .u64 (t.old : Nat)] := by simp [uav]
   have hu1 : uav .u64 [t.old] = [.int .u64 (t.old : Nat)] := by simp [uav]
   have kv2 := c5.2.2 σ.n (by omega) (by omega) (by rw [kv]; simp)
   rw [kv, lk_set, if_neg (by omega)] at kv2
   have k4' := c5.2.2 b4 (by omega) (Ne.symm n2) (by rw [k4]; simp)
   have k5' := c5.2.2 b5 (by omega) (Ne.symm n3) (by rw [k5]; simp)
   have km' := c5.2.2 m (by omega) n1 (by rw [ks]; simp)
   rw [hu1] at c4 c5 k4' k5' km'
   simp (disch := first | exact dA | fail) only [↓V0, VV, reduceCtorEq, seval, a179, kv, k3, c3, kv2, ↓eval_app, appA_S]
   refine main _ _ (by exact wA) (by exact wA) (by (simp only [↓W0, W, reduceCtorEq, seval, List.length_map]; first | done | rfl | omega | simp)) (by exact wA) ?_ ?_
   ·refine ⟨k4'.trans k4, k5'.trans k5, km'.trans ks, by rw [hu]; exact c4, ?_, ?_, ?_, ?_, nm, nn3, n1, n2, n3⟩ <;> simp only [set_n, rt_n] <;> omega
   ·exact kG.trans c5.lo
theorem pur_uav' (k : IntKind) (l : List Nat) (t : Tok) (ht : t.pur = true) : (AV.vs (uav k l) t).pur = true := by simp only [AV.pur, pur_uav, ht, Bool.and_self]
theorem kept_ok {A : Ar} (wf : A.WF) (t : Pl) (hv : OkP A t) (hb : t.bytes <= 65536) : ACalls Tryz.prog 113 [t.av] σ (fun v σ' => v = .vs (uav .u64 (t.kp [])) .no /\ σ' = σ) := by
 refine ACalls.quietX ?_ (pur_uav' _ _ _ rfl)
 refine FOk.calls ok113 (by simp [a113]) (wpc_sound hmix ?_)
 show wpc _ _ _ c113 _ _ _
 simp (disch := first | exact dA | fail) only [↓V0, VV, reduceCtorEq, seval, a113, Pl.av_eq, treeCs]
 generalize hσ1 : St.set _ _ _ = σ1
 have hE : Ext σ σ1 := by rw [<- hσ1]; exact eA
 have hK : KE σ.n (σ.n + 1 + 1) (σ.n + 1) (σ.n + 1 + 1 + 1) (σ.n + 1 + 1 + 1 + 1) [] σ1 := by
  subst hσ1
  exact ⟨by simp (disch := first | exact dA | fail) only [↓V0, VV, reduceCtorEq, seval, a113], by simp (disch := first | exact dA | fail) only [↓V0, VV, reduceCtorEq, seval, a113], by unfold SetAt; simp (disch := first | exact dA | fail) only [↓V0, VV, reduceCtorEq, seval, a113] <;> rfl, ⟨.ex, by simp (disch := first | exact dA | fail) only [↓V0, VV, reduceCtorEq, seval, a113] <;> rfl, trivial⟩, by simp only [↓W0, W, reduceCtorEq, seval] <;> omega, by simp only [↓W0, W, reduceCtorEq, seval] <;> omega, by simp only [↓W0, W, reduceCtorEq, seval] <;> omega, by simp only [↓W0, W, reduceCtorEq, seval], by omega, by omega, by omega, by omega, by omega⟩
 have hrec := kp_ok wf t hv [] σ1 hK (by simp; omega)
 refine (by rw [Pl.av_eq] at hrec; exact hrec : ACalls _ _ _ _ _).mono ?_
 rintro v σ2 ⟨hK2, hL⟩
 obtain ⟨tk, a1, a2⟩ := hK2.l
 simp (disch := first | exact dA | fail) only [↓V0, VV, reduceCtorEq, seval, a113, a1]
 exact ⟨by simp only [WE, er_uav], hL.toExt hE⟩
end Go.Proofs.YtekhblefchceaaaGreat.AM

/- Contracts: plan.below, Dropped. -/
set_option maxRecDepth 20000
namespace Go.Proofs.YtekhblefchceaaaGreat.AM
open Go Go.Proofs
variable {σ : St}
noncomputable def bel (A : Ar) : Nat -> Nat -> List Nat -> List Nat
 | 0, h, S => ins S h
 | n + 1, h, S => if h ∈ S then S else ((A.get h).getD ⟨0, [], []⟩).ks.foldl (fun S k => bel A n k.h S) (S ++ [h])
noncomputable def belL (A : Ar) (n : Nat) (ks : List Kd) (S : List Nat) : List Nat := ks.foldl (fun S k => bel A (n - 1) k.h S) S
theorem bel_in {A : Ar} {n h : Nat} {S : List Nat} (hS : h ∈ S) : bel A n h S = S := by
 cases n with
 | zero => exact if_pos hS
 | succ n => exact if_pos hS
theorem bel_out {A : Ar} (wf : A.WF) {n h : Nat} {S : List Nat} {x : Nd} (hg : A.get h = some x) (hn : x.ht = n) (hS : h ∉ S) : bel A n h S = belL A n x.ks (S ++ [h]) := by
 cases n with
 | zero =>
  have : x.ks = [] := by
   rcases (wf _ _ hg).2.1 with ⟨_, _, _, e⟩ | ⟨e, _⟩
   ·exact e
   ·omega
  rw [this]
  exact if_neg hS
 | succ n =>
  unfold bel
  rw [if_neg hS, hg]
  rfl
theorem sum_take {l : List Nat} (h : ∀ x, x ∈ l -> 1 <= x) {i : Nat} (hi : i < l.length) : (l.take i).sum + l[i] + (l.length - i - 1) <= l.sum := by
 have e := congrArg List.sum (List.take_append_drop (i + 1) l)
 rw [List.take_succ_eq_append_getElem hi, List.sum_append, List.sum_append] at e
 have key : ∀ l : List Nat, (∀ x, x ∈ l -> 1 <= x) -> l.length <= l.sum := by
  intro l
  induction l with
  | nil => intro _; exact Nat.le_refl _
  | cons a l ih =>
   intro h
   have h1 := h a (by simp)
   have h2 := ih fun x hx => h x (by simp [hx])
   simp only [List.length_cons, List.sum_cons]; omega
 have h2 := key (l.drop (i + 1)) fun x hx => h x (List.mem_of_mem_drop hx)
 simp only [List.length_drop, List.sum_cons, List.sum_nil] at h2 e
 omega
theorem msSum_b : ∀ l : List Ms, (msSum l).b = (l.map Ms.b).sum
 | [] => rfl
 | m :: l => by rw [msSum_cons, List.map_cons, List.sum_cons, <- msSum_b l]; rfl
theorem nd_pos {A : Ar} (wf : A.WF) {h : Nat} {x : Nd} (hg : A.get h = some x) : 1 <= x.ms.b := Val.pos wf (Val.kept (t := true) hg rfl rfl (.inl rfl))
theorem nd_kids {A : Ar} (wf : A.WF) {h : Nat} {x : Nd} (hg : A.get h = some x) (h0 : x.ks ≠ []) : 2 <= x.ks.length /\ (x.ks.map fun k => k.m.b).sum = x.ms.b /\ (∀ b, b ∈ (x.ks.map fun k => k.m.b) -> 1 <= b) := by
 obtain ⟨_, w2, _, w4⟩ := wf _ _ hg
 rcases w2 with ⟨_, _, _, e⟩ | ⟨e1, _, _, e4, _, _⟩
 ·exact absurd e h0
 ·refine ⟨e4, ?_, fun b hb => ?_⟩
  ·unfold Nd.ms
   rw [if_neg (by omega), msSum_b, List.map_map]; rfl
  ·obtain ⟨k, hk, rfl⟩ := List.mem_map.1 hb
   obtain ⟨y, y1, y2, y3⟩ := w4 k hk
   rw [<- y3]
   exact nd_pos wf y1
theorem bel_len {A : Ar} (wf : A.WF) : ∀ (n h : Nat) (x : Nd), A.get h = some x -> x.ht = n -> ∀ S : List Nat, (bel A n h S).length + 1 <= S.length + 2 * x.ms.b := by
 intro n
 induction n using Nat.strongRecOn with
 | ind n ih =>
  intro h x hg hn S
  have hp := nd_pos wf hg
  by_cases hS : h ∈ S
  ·rw [bel_in hS]; omega
  ·rw [bel_out wf hg hn hS]
   have key : ∀ (l : List Kd) (S : List Nat), (∀ k, k ∈ l -> k ∈ x.ks) -> (belL A n l S).length + l.length <= S.length + 2 * (l.map fun k => k.m.b).sum := by
    intro l
    induction l with
    | nil => intro S _; exact Nat.le_refl _
    | cons k l il =>
     intro S hl
     obtain ⟨y, y1, y2, y3⟩ := (wf _ _ hg).2.2.2 k (hl k (by simp))
     have i1 := ih (n - 1) (by omega) k.h y y1 (by omega) S
     have i2 := il (bel A (n - 1) k.h S) fun q hq => hl q (by simp [hq])
     rw [y3] at i1
     have e : belL A n (k :: l) S = belL A n l (bel A (n - 1) k.h S) := rfl
     rw [e]
     simp only [List.map_cons, List.sum_cons, List.length_cons]
     omega
   have h1 := key x.ks (S ++ [h]) fun _ h => h
   rw [List.length_append, List.length_singleton] at h1
   by_cases h0 : x.ks = []
   ·rw [h0] at h1 ⊢
    simp only [List.map_nil, List.sum_nil, List.length_nil] at h1
    omega
   ·obtain ⟨k1, k2, _⟩ := nd_kids wf hg h0
    rw [k2] at h1
    omega
theorem belL_len {A : Ar} (wf : A.WF) {n h : Nat} {x : Nd} (hg : A.get h = some x) (hn : x.ht = n) : ∀ (l : List Kd) (S : List Nat), (∀ k, k ∈ l -> k ∈ x.ks) -> (belL A n l S).length + l.length <= S.length + 2 * (l.map fun k => k.m.b).sum := by
 intro l
 induction l with
 | nil => intro S _; exact Nat.le_refl _
 | cons k l il =>
  intro S hl
  obtain ⟨y, y1, y2, y3⟩ := (wf _ _ hg).2.2.2 k (hl k (by simp))
  have i1 := bel_len wf (n - 1) k.h y y1 (by omega) S
  have i2 := il (bel A (n - 1) k.h S) fun q hq => hl q (by simp [hq])
  rw [y3] at i1
  have e : belL A n (k :: l) S = belL A n l (bel A (n - 1) k.h S) := rfl
  rw [e]
  simp only [List.map_cons, List.sum_cons, List.length_cons]
  omega
structure BJ (p : Pa) (A : Ar) (b m : Nat) (J : List Nat -> St -> Prop) (S : List Nat) (σ : St) : Prop where
 ar : ArAt p σ A
 s : SetAt m S σ
 lm : m < σ.n
 lb : b < σ.n
 j : J S σ
theorem BJ.ext {p : Pa} {A : Ar} {b m : Nat} {J : List Nat -> St -> Prop} {S : List Nat} {σ' : St} (hJe : ∀ S σ σ', J S σ -> b < σ.n -> Ext σ σ' -> J S σ') (h : BJ p A b m J S σ) (hE : Ext σ σ') : BJ p A b m J S σ' :=
 ⟨h.ar.ext hE, by unfold SetAt; rw [hE.2 _ h.lm]; exact h.s, Nat.lt_of_lt_of_le h.lm hE.1, Nat.lt_of_lt_of_le h.lb hE.1, hJe _ _ _ h.j h.lb hE⟩
theorem below_ok {p : Pa} {A : Ar} (wf : A.WF) {n0 b m f N : Nat} {cap : List AV} {J : List Nat -> St -> Prop}
  (hJe : ∀ S σ σ', J S σ -> b < σ.n -> Ext σ σ' -> J S σ') (hJm : ∀ S σ x, J S σ -> SetAt m S σ -> J S (σ.set m x))
  (hf : ∀ S h σ, h ∉ S -> S.length + 1 <= N -> ArAt p σ A -> SetAt m (S ++ [h]) σ -> m < σ.n -> b < σ.n -> J S σ -> ACalls Tryz.prog f (.int .u64 (h : Nat) :: cap) σ (fun _ σ' => BJ p A b m J (S ++ [h]) σ' /\ GrX n0 b σ σ'))
  (hm : ¬ p.has m) (hnm : n0 <= m) : ∀ (n h : Nat) (S : List Nat) (σ : St) (x : Nd), A.get h = some x -> x.ht = n -> S.length + 2 * x.ms.b <= N -> BJ p A b m J S σ ->
  ACalls Tryz.prog 114 [.ptr p.a 0, .int .u64 (h : Nat), .map m, .fn f cap] σ (fun v σ' => v = .int .i64 0 /\ BJ p A b m J (bel A n h S) σ' /\ Lo n0 σ σ') := by
 intro n
 induction n using Nat.strongRecOn with
 | ind n ih =>
  intro h S σ x hg hn hN hB
  have hp1 := nd_pos wf hg
  obtain ⟨hA, hs, lm, lb, hj⟩ := hB
  have hs' := hs
  unfold SetAt at hs'
  by_cases hS : h ∈ S
  ·obtain ⟨i, hi⟩ := set_some hS
   refine FOk.calls ok114 (by simp [a114]) (wpc_sound hmix ?_)
   show wpc _ _ _ c114 _ _ _
   simp (disch := first | exact dA | fail) only [↓V0, VV, reduceCtorEq, seval, a114, hs', hi]
   exact ⟨by rw [bel_in hS]; exact ⟨hA, hs, lm, lb, hj⟩, Lo.refl _ _⟩
  ·have hi := set_no hS
   have hks : x.ks.length <= 4 := by
    rcases (wf _ _ hg).2.1 with ⟨_, _, _, h⟩ | ⟨_, _, _, _, h, _⟩
    ·rw [h]; decide
    ·exact h
   have hkid : ∀ k, k ∈ x.ks -> ∃ y, A.get k.h = some y /\ y.ht = n - 1 /\ n - 1 < n /\ y.ms = k.m := fun k hk => by
    obtain ⟨y, h1, h2, h3⟩ := (wf _ _ hg).2.2.2 k hk
    exact ⟨y, h1, by omega, by omega, h3⟩
   have hA1 : ArAt p (σ.set m (.map (sE S ++ [⟨.int .u64 h, .bool true, S.length⟩]) (S.length + 1))) A := hA.gr (n0 := 0) (b := m) hm (GrX.set (GrX.refl 0 _ _) (Nat.zero_le _) _)
   have hs1 := hs.up h
   have hj1 := hJm S σ (.map (sE S ++ [⟨.int .u64 h, .bool true, S.length⟩]) (S.length + 1)) hj hs
   have hL1 : Lo n0 σ (σ.set m (.map (sE S ++ [⟨.int .u64 h, .bool true, S.length⟩]) (S.length + 1))) := ⟨Nat.le_refl _, fun β hβ => by rw [lk_set, if_neg (by omega)]⟩
   have lm1 : m < (σ.set m (.map (sE S ++ [⟨.int .u64 h, .bool true, S.length⟩]) (S.length + 1))).n := lm
   have lb1 : b < (σ.set m (.map (sE S ++ [⟨.int .u64 h, .bool true, S.length⟩]) (S.length + 1))).n := lb
   refine FOk.calls ok114 (by simp [a114]) (wpc_sound hmix ?_)
   show wpc _ _ _ c114 _ _ _
   simp (disch := first | exact dA | fail) only [↓V0, VV, reduceCtorEq, seval, a114, hs', hi]
   generalize σ.set m _ = σ1 at *
   refine callQE (by first | rfl | simp only [WQ, treeCs, Ms.av, Ms.cs]) (get_ok hA1 hg (by omega)) ?_
   simp (disch := first | exact dA | fail) only [↓V0, VV, reduceCtorEq, seval, a114, Nd.av, Nd.cs]
   have hE2 : Ext σ1 ((σ1.new (.arr [.int .i64 0, .str [], .vs [] .ex])).set σ1.n (.arr [.int .i64 x.ht, .str x.tx, .vs (x.ks.map Kd.av) .no])) := by exact eA
   have hv2 : lk ((σ1.new (.arr [.int .i64 0, .str [], .vs [] .ex])).set σ1.n (.arr [.int .i64 x.ht, .str x.tx, .vs (x.ks.map Kd.av) .no])).H σ1.n = some (.arr [.int .i64 x.ht, .str x.tx, .vs (x.ks.map Kd.av) .no]) := by simp [lk_set, lk_new]
   have hn2 : ((σ1.new (.arr [.int .i64 0, .str [], .vs [] .ex])).set σ1.n (.arr [.int .i64 x.ht, .str x.tx, .vs (x.ks.map Kd.av) .no])).n = σ1.n + 1 := rfl
   generalize (σ1.new _).set σ1.n _ = σ2 at *
   refine (hf S h σ2 hS (by omega) (hA1.ext hE2) (by unfold SetAt at hs1 ⊢; rw [hE2.2 _ lm1]; exact hs1) (by omega) (by omega) (hJe _ _ _ hj1 lb1 hE2)).mono ?_
   rintro v σ3 ⟨hB3, hG3⟩
   have hv3 := (hG3.2.2 σ1.n (by omega) (by omega) (by rw [hv2]; simp)).trans hv2
   have hL3 : Lo n0 σ σ3 := (hL1.trans (Lo.ext hE2 (by omega))).trans hG3.lo
   simp (disch := first | exact dA | fail) only [↓V0, VV, reduceCtorEq, seval, a114, hv3, List.length_map]
   refine AW.upto hmix (fun i ρ σ' => ρ 0 = .ptr p.a 0 /\ ρ 2 = .map m /\ ρ 3 = .fn f cap /\ ρ 32 = .vs (x.ks.map Kd.av) .no /\ ρ 33 = .int .i64 (x.ks.length : Nat) /\ ρ 34 = .int .i64 (i : Nat) /\ BJ p A b m J (belL A n (x.ks.take i) (S ++ [h])) σ' /\ Lo n0 σ σ') x.ks.length
    ⟨by exact wA, by exact wA, by exact wA, by exact wA, by exact wA, by exact wA, hB3, hL3⟩ (fun i ρ σ' hi h => ?_) (fun ρ σ' h => ?_)
   ·obtain ⟨r0, r2, r3, r32, r33, r34, hT, hG⟩ := h
    have hgi : (x.ks.map Kd.av)[i]? = some x.ks[i].av := by simp [hi]
    have hmem := List.getElem_mem hi
    have htk : belL A n (x.ks.take (i + 1)) (S ++ [h]) = bel A (n - 1) x.ks[i].h (belL A n (x.ks.take i) (S ++ [h])) := by unfold belL; rw [List.take_succ_eq_append_getElem hi, List.foldl_append]; rfl
    obtain ⟨y, hy, hyn, hnn, hym⟩ := hkid _ hmem
    obtain ⟨d1, d2, d3⟩ := nd_kids wf hg (List.ne_nil_of_mem hmem)
    have d4 := sum_take d3 (i := i) (by rw [List.length_map]; exact hi)
    have d5 := belL_len wf hg hn (x.ks.take i) (S ++ [h]) fun k hk => List.mem_of_mem_take hk
    simp only [d2, List.getElem_map, <- List.map_take, List.length_map] at d4
    simp only [List.length_append, List.length_take, List.length_singleton] at d5
    generalize x.ks[i] = k at *
    have hT2 := hT.ext hJe (σ' := (σ'.new (.arr [.int .u64 0, .int .i64 0, .int .i64 0, .int .i64 0])).set σ'.n (.arr [.int .u64 k.h, .int .i64 k.m.b, .int .i64 k.m.r, .int .i64 k.m.l])) (by exact eA)
    have hrec := ih (n - 1) hnn k.h _ _ y hy hyn (by rw [hym]; omega) hT2
    simp (disch := first | exact dA | fail) only [↓V0, VV, reduceCtorEq, seval, a114, r0, r2, r3, r32, r33, r34, hgi, Kd.av]
    refine hrec.mono ?_
    rintro v σ4 ⟨rfl, hT4, hG4⟩
    simp (disch := first | exact dA | fail) only [↓V0, VV, reduceCtorEq, seval, a114, r0, r2, r3, r32, r33, r34]
    exact ⟨rfl, by rw [htk]; exact hT4, (hG.trans (Lo.ext (by exact eA) (by have := hT.lm; omega))).trans hG4⟩
   ·obtain ⟨r0, r2, r3, r32, r33, r34, hT, hG⟩ := h
    rw [List.take_of_length_le (Nat.le_refl _)] at hT
    simp (disch := first | exact dA | fail) only [↓V0, VV, reduceCtorEq, seval, a114, r0, r2, r3, r32, r33, r34]
    exact ⟨by rw [bel_out wf hg hn hS]; exact hT, hG⟩
noncomputable def bels (A : Ar) (hs : List Nat) (S : List Nat) : List Nat := hs.foldl (fun S h => bel A ((A.get h).getD ⟨0, [], []⟩).ht h S) S
noncomputable def drp (A : Ar) (r : Rt) (t : Pl) : List Nat := if r.h = 0 then [] else (bel A r.ht r.h []).filter fun h => !decide (h ∈ bels A (t.kp []) [])
theorem kp_valid {A : Ar} (wf : A.WF) : ∀ (t : Pl), OkP A t -> ∀ (S : List Nat), (∀ h, h ∈ S -> ∃ x, A.get h = some x) -> ∀ h, h ∈ t.kp S -> ∃ x, A.get h = some x := by
 refine Pl.ind fun t ih hv S hS => ?_
 have key : ∀ (l : List Pl), (∀ k, k ∈ l -> k ∈ t.ks) -> ∀ S : List Nat, (∀ h, h ∈ S -> ∃ x, A.get h = some x) -> ∀ h, h ∈ kpL l S -> ∃ x, A.get h = some x := by
  intro l
  induction l with
  | nil => intro _ S hS; exact hS
  | cons k l il => exact fun hk S hS => il (fun q hq => hk q (by simp [hq])) _ (ih k (hk k (by simp)) (hv.kid (hk k (by simp))) S hS)
 rw [Pl.kp_eq]
 refine key t.ks (fun _ h => h) _ fun h hh => ?_
 split at hh
 ·exact hS h hh
 ·unfold ins at hh
  split at hh
  ·exact hS h hh
  ·rw [List.mem_append] at hh
   rcases hh with hh | hh
   ·exact hS h hh
   ·rw [List.mem_singleton] at hh
    subst hh
    rename_i ho _
    rcases hv with rfl | ⟨n, hv⟩
    ·exact absurd rfl ho
    ·cases hv with
     | kept hg e1 e2 e3 => exact ⟨_, hg⟩
     | leaf => exact absurd rfl ho
     | inner => exact absurd rfl ho
structure DJ (n0 b m b2 : Nat) (R S : List Nat) (σ : St) : Prop where
 e : lk σ.H b = some (.arr [.map m])
 s : SetAt m R σ
 l : LstB n0 b2 (uav .u64 (S.filter fun h => !decide (h ∈ R))) σ
theorem dropf_ok {n0 b m b2 : Nat} {R S : List Nat} {h : Nat} (hd : DJ n0 b m b2 R S σ) (h1 : b < b2) (h2 : m < b2) (h3 : b2 < σ.n) (h4 : n0 <= b2) (hN : S.length <= 200000) :
  ACalls Tryz.prog 116 [.int .u64 (h : Nat), .ptr b 0, .ptr b2 0] σ (fun _ σ' => DJ n0 b m b2 R (S ++ [h]) σ' /\ GrX n0 b2 σ σ') := by
 obtain ⟨e, s, l⟩ := hd
 have s' := s
 unfold SetAt at s'
 by_cases hR : h ∈ R
 ·obtain ⟨i, hi⟩ := set_some hR
  refine FOk.calls ok116 (by simp [a116]) (wpc_sound hmix ?_)
  show wpc _ _ _ c116 _ _ _
  simp (disch := first | exact dA | fail) only [↓V0, VV, reduceCtorEq, seval, a116, e, s', hi]
  refine ⟨⟨e, s, ?_⟩, GrX.refl _ _ _⟩
  rw [List.filter_append, List.filter_cons_of_neg (by simp [hR]), List.filter_nil, List.append_nil]
  exact l
 ·have hi := set_no hR
  have hfl := List.length_filter_le (fun h => !decide (h ∈ R)) S
  have hS : (S ++ [h]).filter (fun h => !decide (h ∈ R)) = S.filter (fun h => !decide (h ∈ R)) ++ [h] := by rw [List.filter_append, List.filter_cons_of_pos (by simp [hR]), List.filter_nil]
  obtain ⟨t, a1, a2⟩ := l
  generalize S.filter (fun h => !decide (h ∈ R)) = L at *
  obtain ⟨c2, c3, c4, c5⟩ := lst_app (uav .u64 [h]) a1 a2 h3 h4
  have hfu := fit_uav .u64 L
  have hlu := len_uav .u64 L
  have hu : uav .u64 (L ++ [h]) = uav .u64 L ++ [.int .u64 (h : Nat)] := by simp [uav]
  have hu1 : uav .u64 [h] = [.int .u64 (h : Nat)] := by simp [uav]
  have k1 := c5.2.2 b (by omega) (by omega) (by rw [e]; simp)
  have k2 := c5.2.2 m (by omega) (by omega) (by rw [s]; simp)
  rw [hu1] at c4 c5 k1 k2
  refine FOk.calls ok116 (by simp [a116]) (wpc_sound hmix ?_)
  show wpc _ _ _ c116 _ _ _
  simp (disch := first | exact dA | fail) only [↓V0, VV, reduceCtorEq, seval, a116, e, s', hi]
  simp (disch := first | exact dA | fail) only [↓V0, VV, reduceCtorEq, seval, a116, a1, c3, ↓eval_app, appA_S]
  exact ⟨⟨k1.trans e, k2.trans s, by rw [hS, hu]; exact c4⟩, c5⟩
theorem dropped_ok {p : Pa} {A : Ar} (wf : A.WF) (r : Rt) (hr : RtOk A r) (t : Pl) (hv : OkP A t) (hb : t.bytes <= 65536) (hA : ArAt p σ A) :
  ACalls Tryz.prog 55 [.ptr p.a 0, r.av, t.av] σ (fun v σ' => v = .tup [.vs (uav .u64 (drp A r t)) .no, .int .i64 0] /\ σ' = σ) := by
 refine ACalls.quietX ?_ (by simp only [AV.pur, purL, pur_uav, Tok.pur, Bool.and_self])
 have hkl := kp_len wf t hv []
 simp only [List.length_nil, Nat.zero_add] at hkl
 have hkv := kp_valid wf t hv [] (by simp)
 obtain ⟨q1, q2, q3, q4, q5, q6⟩ := hA.lt
 have hp : ∀ β, σ.n <= β -> ¬ p.has β := fun β hβ h => by rcases h with e | e | e | e | e | e <;> omega
 refine FOk.calls ok55 (by simp [a55]) (wpc_sound hmix ?_)
 show wpc _ _ _ c55 _ _ _
 simp (disch := first | exact dA | fail) only [↓V0, VV, reduceCtorEq, seval, a55, Pl.av_eq, treeCs, Rt.av, Rt.cs]
 refine callQE (by first | rfl | simp only [WQ, treeCs, Ms.av, Ms.cs]) (keep_ok wf r hr (hA.ext (by exact eA))) ?_
 simp (disch := first | exact dA | fail) only [↓V0, VV, reduceCtorEq, seval, a55, Pl.av_eq, treeCs]
 refine callQE (by first | rfl | simp only [WQ, treeCs, Ms.av, Ms.cs]) (pcheck_ok wf t hv hb (hA.ext (by exact eA))) ?_
 simp (disch := first | exact dA | fail) only [↓V0, VV, reduceCtorEq, seval, a55]
 refine callQE (by first | rfl | simp only [WQ, treeCs, Ms.av, Ms.cs]) (kept_ok wf t hv hb) ?_
 simp (disch := first | exact dA | fail) only [↓V0, VV, reduceCtorEq, seval, a55]
 have hlu := len_uav .u64 (t.kp [])
 generalize hσ1 : St.set _ _ _ = σ1
 have hE1 : Ext σ σ1 := by rw [<- hσ1]; exact eA
 have hn1 : σ1.n = σ.n + 5 := by rw [<- hσ1]; rfl
 have k0 : lk σ1.H σ.n = some (.arr r.cs) := by rw [<- hσ1]; simp (disch := first | exact dA | fail) only [↓V0, VV, reduceCtorEq, seval, a55, Rt.cs]
 have k4 : lk σ1.H (σ.n + 1 + 1 + 1 + 1) = some (.arr [.map (σ.n + 1 + 1 + 1)]) := by rw [<- hσ1]; simp (disch := first | exact dA | fail) only [↓V0, VV, reduceCtorEq, seval, a55]
 have k3 : SetAt (σ.n + 1 + 1 + 1) [] σ1 := by rw [<- hσ1]; unfold SetAt; simp (disch := first | exact dA | fail) only [↓V0, VV, reduceCtorEq, seval, a55] <;> rfl
 clear hσ1
 generalize hK : t.kp [] = K at *
 refine AW.upto hmix (fun i ρ σ' => ρ 0 = .ptr p.a 0 /\ ρ 4 = .ptr σ.n 0 /\ ρ 11 = .ptr (σ.n + 1 + 1 + 1 + 1) 0 /\ ρ 34 = .vs (uav .u64 K) .no /\ ρ 35 = .int .i64 (K.length : Nat) /\ ρ 36 = .int .i64 (i : Nat) /\
   BJ p A (σ.n + 1 + 1 + 1 + 1) (σ.n + 1 + 1 + 1) (fun _ σ' => lk σ'.H (σ.n + 1 + 1 + 1 + 1) = some (.arr [.map (σ.n + 1 + 1 + 1)])) (bels A (K.take i) []) σ' /\ Lo (σ.n + 1) σ1 σ') K.length
  ⟨by exact wA, by exact wA, by exact wA, by exact wA, by (simp only [↓W0, W, reduceCtorEq, seval, hlu]; first | done | rfl | omega | simp), by exact wA, ⟨hA.ext hE1, k3, by omega, by omega, k4⟩, Lo.refl _ _⟩ (fun i ρ σ' hi h => ?_) (fun ρ σ' h => ?_)
 ·obtain ⟨r0, r4, r11, r34, r35, r36, hT, hG⟩ := h
  have hgi := get_uav (k := .u64) hi
  have hmem := List.getElem_mem hi
  have hke : K.getD i 0 = K[i] := by simp [List.getD_eq_getElem?_getD, hi]
  have htk : bels A (K.take (i + 1)) [] = bel A ((A.get K[i]).getD ⟨0, [], []⟩).ht K[i] (bels A (K.take i) []) := by unfold bels; rw [List.take_succ_eq_append_getElem hi, List.foldl_append]; rfl
  obtain ⟨y, hy⟩ := hkv _ hmem
  rw [hke] at hgi
  generalize K[i] = h at *
  rw [hy] at htk
  have hj := hT.j
  have hrec := below_ok (p := p) (A := A) wf (n0 := σ.n + 1) (b := σ.n + 1 + 1 + 1 + 1) (m := σ.n + 1 + 1 + 1) (f := 115) (cap := []) (N := (bels A (K.take i) []).length + 2 * y.ms.b) (J := fun _ σ' => lk σ'.H (σ.n + 1 + 1 + 1 + 1) = some (.arr [.map (σ.n + 1 + 1 + 1)]))
   (fun S σ σ' h1 h2 h3 => (h3.2 _ h2).trans h1) (fun S σ x h1 h2 => by rw [lk_set, if_neg (by omega)]; exact h1)
   (fun S h σ h1 h2 h3 h4 h5 h6 h7 => by
    refine FOk.calls ok115 (by simp [a115]) (wpc_sound hmix ?_)
    show wpc _ _ _ c115 _ _ _
    simp (disch := first | exact dA | fail) only [↓V0, VV, reduceCtorEq, seval, a115]
    exact ⟨⟨h3, h4, h5, h6, h7⟩, GrX.refl _ _ _⟩) (hp _ (by omega)) (by omega) y.ht h _ σ' y hy rfl (Nat.le_refl _) hT
  simp (disch := first | exact dA | fail) only [↓V0, VV, reduceCtorEq, seval, a55, r0, r4, r11, r34, r35, r36, hgi, hj]
  refine hrec.mono ?_
  rintro v σ3 ⟨rfl, hT3, hG3⟩
  simp (disch := first | exact dA | fail) only [↓V0, VV, reduceCtorEq, seval, a55, r0, r4, r11, r34, r35, r36]
  exact ⟨rfl, by rw [htk]; exact hT3, hG.trans hG3⟩
 ·obtain ⟨r0, r4, r11, r34, r35, r36, hT, hG⟩ := h
  rw [List.take_of_length_le (Nat.le_refl _)] at hT
  have hrc := (hG.2 σ.n (by omega)).trans k0
  simp only [Rt.cs] at hrc
  have hnG := hG.1
  have hEx : Ext σ σ' := Lo.toExt (σ1 := σ1) ⟨hG.1, fun β hβ => hG.2 β (by omega)⟩ hE1
  rcases hr with rfl | ⟨x, x1, x2, x3⟩
  ·simp only [Rt.z] at hrc
   simp (disch := first | exact dA | fail) only [↓V0, VV, reduceCtorEq, seval, a55, r0, r4, r11, r34, r35, r36, hrc]
   exact ⟨by simp only [WE]; rfl, by exact eA⟩
  ·have hh := (wf _ _ x1).1.pos
   simp (disch := first | exact dA | fail) only [↓V0, VV, reduceCtorEq, seval, a55, r0, r4, r11, r34, r35, r36, hrc]
   have hj := hT.j
   have hs := hT.s
   generalize hR : bels A K [] = R at *
   have hB : BJ p A σ'.n (σ'.n + 1) (DJ σ.n (σ.n + 1 + 1 + 1 + 1) (σ.n + 1 + 1 + 1) σ'.n R) [] ((σ'.new (.arr [.vs [] .ex])).new (.map [] 0)) :=
    ⟨hA.ext (hEx.trans (by exact eA)), by unfold SetAt; simp [lk_new, sE], by simp only [↓W0, W, reduceCtorEq, seval], by simp only [↓W0, W, reduceCtorEq, seval] <;> omega,
     ⟨by rw [lk_new, if_neg (by simp only [↓W0, W, reduceCtorEq, seval] <;> omega), lk_new, if_neg (by omega)]; exact hj, by unfold SetAt; rw [lk_new, if_neg (by simp only [↓W0, W, reduceCtorEq, seval] <;> omega), lk_new, if_neg (by omega)]; exact hs, ⟨.ex, by rw [lk_new, if_neg (by simp only [↓W0, W, reduceCtorEq, seval]), lk_new, if_pos rfl]; rfl, trivial⟩⟩⟩
   have hrec := below_ok (p := p) (A := A) wf (n0 := σ.n) (b := σ'.n) (m := σ'.n + 1) (f := 116) (cap := [.ptr (σ.n + 1 + 1 + 1 + 1) 0, .ptr σ'.n 0]) (N := 200000) (J := DJ σ.n (σ.n + 1 + 1 + 1 + 1) (σ.n + 1 + 1 + 1) σ'.n R)
    (fun S σ1 σ2 h1 h2 h3 => ⟨(h3.2 _ (by omega)).trans h1.e, (h3.2 _ (by omega)).trans h1.s, h1.l.ext h2 h3⟩)
    (fun S σ1 x h1 h2 => ⟨by rw [lk_set, if_neg (by omega)]; exact h1.e, by unfold SetAt; rw [lk_set, if_neg (by omega)]; exact h1.s, h1.l.set (by omega) (by rw [h2]; simp) x⟩)
    (fun S h σ h1 h2 h3 h4 h5 h6 h7 => (dropf_ok h7 (by omega) (by omega) h6 (by omega) (by omega)).mono fun v σ2 ⟨d1, d2⟩ => ⟨⟨h3.gr (hp _ (by omega)) d2, (d2.2.2 _ h5 (by omega) (by rw [h4]; simp)).trans h4, Nat.lt_of_lt_of_le h5 d2.1, Nat.lt_of_lt_of_le h6 d2.1, d1⟩, d2⟩) (hp _ (by omega)) (by omega) x.ht r.h [] _ x x1 rfl (by have := (wf _ _ x1).2.2.1; simp; omega) hB
   refine hrec.mono ?_
   rintro v σ3 ⟨rfl, hB3, hL3⟩
   obtain ⟨tk, o1, o2⟩ := hB3.j.l
   simp (disch := first | exact dA | fail) only [↓V0, VV, reduceCtorEq, seval, a55, o1]
   exact ⟨by simp only [WE, er_uav, drp, hK, hR]; rw [if_neg (by omega), <- x2], hL3.toExt (hEx.trans (by exact eA))⟩
end Go.Proofs.YtekhblefchceaaaGreat.AM

/- rope.nodes: the walk over the nodes of a rope. -/
set_option maxRecDepth 20000
namespace Go.Proofs.YtekhblefchceaaaGreat.AM
open Go Go.Proofs
variable {σ : St}
noncomputable def nds (A : Ar) : Nat -> Nat -> List (Nat × Nd)
 | 0, h => [(h, (A.get h).getD ⟨0, [], []⟩)]
 | n + 1, h => (h, (A.get h).getD ⟨0, [], []⟩) :: ((A.get h).getD ⟨0, [], []⟩).ks.flatMap fun k => nds A n k.h
theorem nds_eq {A : Ar} (wf : A.WF) {n h : Nat} {x : Nd} (hg : A.get h = some x) (hn : x.ht = n) : nds A n h = (h, x) :: x.ks.flatMap fun k => nds A (n - 1) k.h := by
 cases n with
 | zero =>
  have : x.ks = [] := by
   rcases (wf _ _ hg).2.1 with ⟨_, _, _, e⟩ | ⟨e, _⟩
   ·exact e
   ·omega
  rw [this]
  simp [nds, hg]
 | succ n => simp [nds, hg]
theorem nds_in {A : Ar} (wf : A.WF) : ∀ (n h : Nat) (x : Nd), A.get h = some x -> x.ht = n -> ∀ e, e ∈ nds A n h -> A.get e.1 = some e.2 := by
 intro n
 induction n using Nat.strongRecOn with
 | ind n ih =>
  intro h x hg hn e he
  rw [nds_eq wf hg hn] at he
  rcases List.mem_cons.1 he with rfl | he
  ·exact hg
  ·obtain ⟨k, hk, hke⟩ := List.mem_flatMap.1 he
   obtain ⟨y, y1, y2, y3⟩ := (wf _ _ hg).2.2.2 k hk
   exact ih (n - 1) (by omega) k.h y y1 (by omega) e hke
def Hi (w0 : Nat) (σ σ' : St) : Prop := σ.n <= σ'.n /\ ∀ β, w0 <= β -> β < σ.n -> lk σ.H β ≠ some .tok -> lk σ'.H β = lk σ.H β
theorem Hi.trans {w0 : Nat} {σ σ1 σ2 : St} (h : Hi w0 σ σ1) (h' : Hi w0 σ1 σ2) : Hi w0 σ σ2 :=
 ⟨Nat.le_trans h.1 h'.1, fun β h1 h2 h3 => by
  have e := h.2 β h1 h2 h3
  rw [h'.2 β h1 (Nat.lt_of_lt_of_le h2 h.1) (by rw [e]; exact h3), e]⟩
theorem Hi.ext {w0 : Nat} {σ σ1 : St} (h : Ext σ σ1) : Hi w0 σ σ1 := ⟨h.1, fun β _ h2 _ => h.2 β h2⟩
def Nd.c4 (x : Nd) : List AV := [.int .i64 x.ht, .str x.tx, .vs (x.ks.map Kd.av) .no, .int .i64 0]
theorem nw_ok {p : Pa} {A : Ar} (wf : A.WF) {β bA w0 : Nat} {J : List (Nat × Nd) -> St -> Prop} {T : List (Nat × Nd)} (hJA : ∀ L σ, J L σ -> ArAt p σ A /\ lk σ.H bA = some (.arr [.ptr p.a 0]) /\ w0 <= σ.n /\ bA < w0)
  (hJe : ∀ L σ σ', J L σ -> Ext σ σ' -> J L σ')
  (hy : ∀ L h x σ, A.get h = some x -> L ++ [(h, x)] <+: T -> J L σ -> AYields Tryz.prog β [.int .u64 (h : Nat), .agg x.c4] σ (fun v σ' => v = .bool true /\ J (L ++ [(h, x)]) σ' /\ Hi w0 σ σ')) :
  ∀ (n h : Nat) (x : Nd) (L : List (Nat × Nd)) (σ : St) (by_ bf : Nat), A.get h = some x -> x.ht = n -> L ++ nds A n h <+: T -> J L σ -> lk σ.H by_ = some (.arr [.yld β]) -> lk σ.H bf = some (.arr [.fn 181 [.ptr bA 0, .ptr by_ 0, .ptr bf 0]]) -> w0 <= by_ -> w0 <= bf -> by_ < σ.n -> bf < σ.n ->
  ACalls Tryz.prog 181 [.int .u64 (h : Nat), .ptr bA 0, .ptr by_ 0, .ptr bf 0] σ (fun v σ' => v = .bool true /\ J (L ++ nds A n h) σ' /\ Hi w0 σ σ') := by
 intro n
 induction n using Nat.strongRecOn with
 | ind n ih =>
  intro h x L σ by_ bf hg hn hT0 hJ k1 k2 w1 w2 l1 l2
  obtain ⟨hA, kA, hw, hbA⟩ := hJA _ _ hJ
  have hks : x.ks.length <= 4 := by
   rcases (wf _ _ hg).2.1 with ⟨_, _, _, h⟩ | ⟨_, _, _, _, h, _⟩
   ·rw [h]; decide
   ·exact h
  refine FOk.calls ok181 (by simp [a181]) (wpc_sound hmix ?_)
  show wpc _ _ _ c181 _ _ _
  simp (disch := first | exact dA | fail) only [↓V0, VV, reduceCtorEq, seval, a181, kA, k1, k2]
  refine callQE (by first | rfl | simp only [WQ, treeCs, Ms.av, Ms.cs]) (get_ok hA hg (by omega)) ?_
  simp (disch := first | exact dA | fail) only [↓V0, VV, reduceCtorEq, seval, a181, Nd.av, Nd.cs, k1]
  have hE2 : Ext σ ((σ.new (.arr [.int .i64 0, .str [], .vs [] .ex])).set σ.n (.arr [.int .i64 x.ht, .str x.tx, .vs (x.ks.map Kd.av) .no])) := by exact eA
  have hv2 : lk ((σ.new (.arr [.int .i64 0, .str [], .vs [] .ex])).set σ.n (.arr [.int .i64 x.ht, .str x.tx, .vs (x.ks.map Kd.av) .no])).H σ.n = some (.arr [.int .i64 x.ht, .str x.tx, .vs (x.ks.map Kd.av) .no]) := by simp [lk_set, lk_new]
  have hn2 : ((σ.new (.arr [.int .i64 0, .str [], .vs [] .ex])).set σ.n (.arr [.int .i64 x.ht, .str x.tx, .vs (x.ks.map Kd.av) .no])).n = σ.n + 1 := rfl
  generalize (σ.new _).set σ.n _ = σ2 at *
  refine AYields.mono (hy L h x σ2 hg (List.IsPrefix.trans ⟨_, by rw [nds_eq wf hg hn]; simp; rfl⟩ hT0) (hJe _ _ _ hJ hE2)) ?_
  rintro v σ3 ⟨rfl, hJ3, hH3⟩
  have hv3 := (hH3.2 σ.n (by omega) (by omega) (by rw [hv2]; simp)).trans hv2
  have hH : Hi w0 σ σ3 := (Hi.ext hE2).trans hH3
  simp (disch := first | exact dA | fail) only [↓V0, VV, reduceCtorEq, seval, a181, hv3, List.length_map]
  refine AW.upto hmix (fun i ρ σ' => ρ 3 = .ptr bf 0 /\ ρ 28 = .vs (x.ks.map Kd.av) .no /\ ρ 29 = .int .i64 (x.ks.length : Nat) /\ ρ 30 = .int .i64 (i : Nat) /\ J (L ++ ((h, x) :: (x.ks.take i).flatMap fun k => nds A (n - 1) k.h)) σ' /\ Hi w0 σ σ') x.ks.length
   ⟨by exact wA, by exact wA, by exact wA, by exact wA, by simpa using hJ3, hH⟩ (fun i ρ σ' hi h => ?_) (fun ρ σ' h => ?_)
  ·obtain ⟨r3, r28, r29, r30, hT, hG⟩ := h
   have hgi : (x.ks.map Kd.av)[i]? = some x.ks[i].av := by simp [hi]
   have hmem := List.getElem_mem hi
   have htk : (x.ks.take (i + 1)).flatMap (fun k => nds A (n - 1) k.h) = (x.ks.take i).flatMap (fun k => nds A (n - 1) k.h) ++ nds A (n - 1) x.ks[i].h := by rw [List.take_succ_eq_append_getElem hi, List.flatMap_append]; simp
   have hpre : L ++ (h, x) :: (x.ks.take (i + 1)).flatMap (fun k => nds A (n - 1) k.h) <+: L ++ nds A n h := by
    rw [nds_eq wf hg hn]
    refine ⟨(x.ks.drop (i + 1)).flatMap fun k => nds A (n - 1) k.h, ?_⟩
    rw [List.append_assoc, List.cons_append, <- List.flatMap_append, List.take_append_drop]
   obtain ⟨y, y1, y2, y3⟩ := (wf _ _ hg).2.2.2 _ hmem
   have k1' := (hG.2 by_ w1 l1 (by rw [k1]; simp)).trans k1
   have k2' := (hG.2 bf w2 l2 (by rw [k2]; simp)).trans k2
   have hnG := hG.1
   generalize x.ks[i] = k at *
   have hE3 : Ext σ' ((σ'.new (.arr [.int .u64 0, .int .i64 0, .int .i64 0, .int .i64 0])).set σ'.n (.arr [.int .u64 k.h, .int .i64 k.m.b, .int .i64 k.m.r, .int .i64 k.m.l])) := by exact eA
   have hrec := ih (n - 1) (by omega) k.h y _ _ by_ bf y1 (by omega) (by rw [List.append_assoc, List.cons_append, <- htk]; exact List.IsPrefix.trans hpre hT0) (hJe _ _ _ hT hE3) ((hE3.2 _ (by omega)).trans k1') ((hE3.2 _ (by omega)).trans k2') w1 w2 (by simp only [↓W0, W, reduceCtorEq, seval] <;> omega) (by simp only [↓W0, W, reduceCtorEq, seval] <;> omega)
   simp (disch := first | exact dA | fail) only [↓V0, VV, reduceCtorEq, seval, a181, r3, r28, r29, r30, hgi, Kd.av, k2', eq_false (show ¬ σ'.n = bf by omega)]
   refine hrec.mono ?_
   rintro v σ4 ⟨rfl, hT4, hG4⟩
   simp (disch := first | exact dA | fail) only [↓V0, VV, reduceCtorEq, seval, a181, r3, r28, r29, r30]
   exact ⟨rfl, by rw [htk]; simpa using hT4, (hG.trans (Hi.ext hE3)).trans hG4⟩
  ·obtain ⟨r3, r28, r29, r30, hT, hG⟩ := h
   rw [List.take_of_length_le (Nat.le_refl _), <- nds_eq wf hg hn] at hT
   simp (disch := first | exact dA | fail) only [↓V0, VV, reduceCtorEq, seval, a181, r3, r28, r29, r30]
   exact ⟨hT, hG⟩
noncomputable def rns (A : Ar) (r : Rt) : List (Nat × Nd) := if r.h = 0 then [] else nds A r.ht r.h
theorem nseq_ok {p : Pa} {A : Ar} (wf : A.WF) {β bA b3 w0 : Nat} {J : List (Nat × Nd) -> St -> Prop} {r : Rt} (hJA : ∀ L σ, J L σ -> ArAt p σ A /\ lk σ.H bA = some (.arr [.ptr p.a 0]) /\ w0 <= σ.n /\ bA < w0)
  (hJe : ∀ L σ σ', J L σ -> Ext σ σ' -> J L σ')
  (hy : ∀ L h x σ, A.get h = some x -> L ++ [(h, x)] <+: rns A r -> J L σ -> AYields Tryz.prog β [.int .u64 (h : Nat), .agg x.c4] σ (fun v σ' => v = .bool true /\ J (L ++ [(h, x)]) σ' /\ Hi w0 σ σ'))
  (hr : RtOk A r) (h3 : lk σ.H b3 = some (.arr r.cs)) (l3 : b3 < σ.n) (hJ : J [] σ) :
  ACalls Tryz.prog 180 [.yld β, .ptr bA 0, .ptr b3 0] σ (fun _ σ' => J (rns A r) σ') := by
 obtain ⟨_, kA, hw, hbA⟩ := hJA _ _ hJ
 simp only [Rt.cs] at h3
 refine FOk.calls ok180 (by simp [a180]) (wpc_sound hmix ?_)
 show wpc _ _ _ c180 _ _ _
 simp (disch := first | exact dA | fail) only [↓V0, VV, reduceCtorEq, seval, a180, h3]
 rcases hr with rfl | ⟨x, x1, x2, x3⟩
 ·simp (disch := first | exact dA | fail) only [↓V0, VV, reduceCtorEq, seval, a180, Rt.z, h3, show (σ.n = b3) = False from eq_false (by omega), show (σ.n + 1 = b3) = False from eq_false (by omega)]
  exact hJe _ _ _ hJ (by exact eA)
 ·have hh := (wf _ _ x1).1.pos
  simp (disch := first | exact dA | fail) only [↓V0, VV, reduceCtorEq, seval, a180, h3, show (σ.n = b3) = False from eq_false (by omega), show (σ.n + 1 = b3) = False from eq_false (by omega), show ((r.h : Int) = 0) = False from eq_false (by omega)]
  have hE : Ext σ (((σ.new (.arr [.yld β])).new (.arr [.nilfn])).set (σ.n + 1) (.arr [.fn 181 [.ptr bA 0, .ptr σ.n 0, .ptr (σ.n + 1) 0]])) := by exact eA
  refine (nw_ok wf hJA hJe hy x.ht r.h x [] _ σ.n (σ.n + 1) x1 rfl (by rw [rns, if_neg (by omega), <- x2]; exact List.prefix_refl _) (hJe _ _ _ hJ hE) (by simp (disch := first | exact dA | fail) only [↓V0, VV, reduceCtorEq, seval, a180]) (by simp (disch := first | exact dA | fail) only [↓V0, VV, reduceCtorEq, seval, a180]) (by omega) (by omega) (by simp only [↓W0, W, reduceCtorEq, seval] <;> omega) (by simp only [↓W0, W, reduceCtorEq, seval])).mono ?_
  rintro v σ' ⟨rfl, h1, _⟩
  simp (disch := first | exact dA | fail) only [↓V0, VV, reduceCtorEq, seval, a180]
  rw [rns, if_neg (by omega), <- x2]
  simpa using h1
theorem nfn_ok {p : Pa} (r : Rt) : ACalls Tryz.prog 118 [.ptr p.a 0, r.av] σ (fun v σ' => v = .fn 180 [.ptr σ.n 0, .ptr (σ.n + 1) 0] /\ lk σ'.H σ.n = some (.arr [.ptr p.a 0]) /\ lk σ'.H (σ.n + 1) = some (.arr r.cs) /\ Ext σ σ' /\ σ'.n = σ.n + 2) := by
 refine FOk.calls ok118 (by simp [a118]) (wpc_sound hmix ?_)
 show wpc _ _ _ c118 _ _ _
 simp (disch := first | exact dA | fail) only [↓V0, VV, reduceCtorEq, seval, a118, Rt.av, Rt.cs]
 exact eA
end Go.Proofs.YtekhblefchceaaaGreat.AM

