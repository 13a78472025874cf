/- Joined: D17, D18, D19, D20. -/
import Derived.Test.YtekhblefchceaaaGreatDE
set_option linter.unusedVariables false
set_option linter.unusedSimpArgs false
/- Variables that closures fill; plan.Text. -/
set_option maxRecDepth 20000
namespace Go.Proofs.YtekhblefchceaaaGreat.AM
open Go Go.Proofs
variable {σ : St}
def GrX (n0 b : Nat) (σ σ' : St) : Prop := σ.n <= σ'.n /\ (∀ β, β < n0 -> lk σ'.H β = lk σ.H β) /\ ∀ β, β < σ.n -> β ≠ b -> lk σ.H β ≠ some .tok -> lk σ'.H β = lk σ.H β
theorem GrX.refl (n0 b : Nat) (σ : St) : GrX n0 b σ σ := ⟨Nat.le_refl _, fun _ _ => rfl, fun _ _ _ _ => rfl⟩
theorem GrX.ext {n0 b : Nat} {σ σ' : St} (h : Ext σ σ') (hn : n0 <= σ.n) : GrX n0 b σ σ' := ⟨h.1, fun β hβ => h.2 β (by omega), fun β hβ _ _ => h.2 β hβ⟩
theorem GrX.set {n0 b : Nat} {σ σ' : St} (h : GrX n0 b σ σ') (hb : n0 <= b) (x : Blk) : GrX n0 b σ (σ'.set b x) :=
 ⟨h.1, fun β hβ => by rw [lk_set, if_neg (by omega)]; exact h.2.1 β hβ, fun β hβ hne ht => by rw [lk_set, if_neg (Ne.symm hne)]; exact h.2.2 β hβ hne ht⟩
theorem GrX.rt {n0 b : Nat} {t : Tok} (ht : TokOk n0 σ t) (hn : n0 <= σ.n) : GrX n0 b σ (σ.rt t) := by
 refine ⟨by rw [rt_n]; omega, fun β hβ => ?_, fun β hβ _ hk => ?_⟩
 ·cases t with
  | no => exact ht.elim
  | ex => simp only [St.rt, lk_new]; rw [if_neg (by omega)]
  | id τ =>
   simp only [St.rt, lk_new]
   rw [if_neg (by show ¬ σ.n = β; omega), lk_del, if_neg (by have := ht.1; omega)]
 ·cases t with
  | no => exact ht.elim
  | ex => simp only [St.rt, lk_new]; rw [if_neg (by omega)]
  | id τ =>
   simp only [St.rt, lk_new]
   rw [if_neg (by show ¬ σ.n = β; omega), lk_del, if_neg (fun e => by subst e; exact hk ht.2.2)]
theorem ArAt.gr {p : Pa} {A : Ar} {n0 b : Nat} {σ' : St} (h : ArAt p σ A) (hb : ¬ p.has b) (hg : GrX n0 b σ σ') : ArAt p σ' A := by
 obtain ⟨t1, t2, t3, t4, t5, t6⟩ := h.lt
 have key : ∀ β x, p.has β -> lk σ.H β = some x -> x ≠ .tok -> β < σ.n -> lk σ'.H β = some x := fun β x hp hx hne hlt => by
  rw [hg.2.2 β hlt (fun e => hb (e ▸ hp)) (by rw [hx]; simpa using hne)]; exact hx
 exact ArAt.mk2 h hg.1 (key _ _ (.inl rfl) h.ba (by simp) t1) (key _ _ (.inr (.inl rfl)) h.bl (by simp) t2) (key _ _ (.inr (.inr (.inl rfl))) h.b1 (by simp) t3)
  (key _ _ (.inr (.inr (.inr (.inl rfl)))) h.b2 (by simp) t4) (key _ _ (.inr (.inr (.inr (.inr (.inl rfl))))) h.b3 (by simp) t5) (key _ _ (.inr (.inr (.inr (.inr (.inr rfl))))) h.bm (by simp) t6)
theorem TokOk.ext {n0 : Nat} {t : Tok} {σ' : St} (h : TokOk n0 σ t) (hE : Ext σ σ') : TokOk n0 σ' t :=
 tokok_mono h hE.1 fun τ e => by subst e; rw [hE.2 τ h.2.1]; exact h.2.2
theorem TokOk.g {n0 : Nat} {t : Tok} (h : TokOk n0 σ t) : TokG σ t := by
 cases t with
 | no => exact h
 | ex => trivial
 | id τ => exact ⟨h.2.1, h.2.2⟩
end Go.Proofs.YtekhblefchceaaaGreat.AM

/- rope.Pen: the noted nodes; the closures that write them. -/
set_option maxRecDepth 20000
namespace Go.Proofs.YtekhblefchceaaaGreat.AM
open Go Go.Proofs
variable {σ : St}
def clos (c1 c2 c3 : Nat) : AV := .fn 255 [.ptr c1 0, .ptr c2 0, .ptr c3 0]
mutual
def Pl.ms : Pl -> Ms
 | .emp => Ms.z
 | .kept _ _ m => m
 | .leaf s => msOf s
 | .inner _ ks => msSumL ks
def msSumL : List Pl -> Ms
 | [] => Ms.z
 | p :: l => p.ms.add (msSumL l)
end
theorem msSumL_eq : ∀ l, msSumL l = msSum (l.map Pl.ms)
 | [] => rfl
 | p :: l => by rw [msSumL, List.map_cons, msSum_cons, msSumL_eq l]
def Pl.rt (t : Pl) : Rt := ⟨t.old, t.ht, t.ms⟩
mutual
def JobP (pp : Nat) (σ : St) : Pl -> Nat -> Nat -> List AV -> Nat -> Prop
 | .emp, lo, hi, L, r => L = [] /\ lo <= r /\ r < hi /\ lk σ.H r = some (.arr Rt.z.cs)
 | .kept h ht m, lo, hi, L, r => L = [] /\ lo <= r /\ r < hi /\ lk σ.H r = some (.arr (Rt.mk h ht m).cs)
 | .leaf s, lo, hi, L, r => ∃ c1 c2 c3 n, L = [clos c1 c2 c3] /\ lo <= r /\ r < hi /\ lo <= c1 /\ c1 < hi /\ lo <= c2 /\ c2 < hi /\ lo <= c3 /\ c3 < hi /\ lo <= n /\ n < hi /\ lk σ.H r = some (.arr (Rt.mk 0 0 (msOf s)).cs) /\
   lk σ.H c1 = some (.arr [.ptr pp 0]) /\ lk σ.H c2 = some (.arr [.fn 222 [.ptr n 0]]) /\ lk σ.H c3 = some (.arr [.ptr r 0]) /\ lk σ.H n = some (.arr [.int .i64 0, .str s, .vs [] .ex])
 | .inner ht ks, lo, hi, L, r => ∃ c1 c2 c3 bt bk kl kh Lk rs tk, L = Lk ++ [clos c1 c2 c3] /\ lo <= r /\ r < kl /\ kh <= c1 /\ c1 < hi /\ kh <= c2 /\ c2 < hi /\ kh <= c3 /\ c3 < hi /\ lo <= bt /\ bt < kl /\ lo <= bk /\ bk < kl /\ kh <= hi /\ r ≠ bt /\ r ≠ bk /\
   lk σ.H r = some (.arr (Rt.mk 0 ht (msSumL ks)).cs) /\ lk σ.H c1 = some (.arr [.ptr pp 0]) /\ lk σ.H c2 = some (.arr [.fn 223 [.ptr bt 0, .ptr bk 0]]) /\ lk σ.H c3 = some (.arr [.ptr r 0]) /\
   lk σ.H bt = some (.arr (Pl.inner ht ks).cs) /\ lk σ.H bk = some (.arr [.vs (rs.map fun r => .ptr r 0) tk]) /\ JobsP pp σ ks kl kh Lk rs
def JobsP (pp : Nat) (σ : St) : List Pl -> Nat -> Nat -> List AV -> List Nat -> Prop
 | [], lo, hi, L, rs => L = [] /\ rs = [] /\ lo <= hi
 | p :: l, lo, hi, L, rs => ∃ mid L1 L2 r rs2, lo <= mid /\ mid <= hi /\ JobP pp σ p lo mid L1 r /\ JobsP pp σ l mid hi L2 rs2 /\ L = L1 ++ L2 /\ rs = r :: rs2
end
mutual
theorem JobP.fr {pp : Nat} {σ σ' : St} : ∀ (t : Pl) {lo hi : Nat} {L : List AV} {r : Nat}, JobP pp σ t lo hi L r -> (∀ β, lo <= β -> β < hi -> lk σ.H β ≠ some .tok -> lk σ'.H β = lk σ.H β) -> JobP pp σ' t lo hi L r
 | .emp, lo, hi, L, r, h, hf => by
  obtain ⟨h1, h2, h3, h4⟩ := h
  exact ⟨h1, h2, h3, by rw [hf r h2 h3 (by rw [h4]; simp)]; exact h4⟩
 | .kept _ _ _, lo, hi, L, r, h, hf => by
  obtain ⟨h1, h2, h3, h4⟩ := h
  exact ⟨h1, h2, h3, by rw [hf r h2 h3 (by rw [h4]; simp)]; exact h4⟩
 | .leaf s, lo, hi, L, r, h, hf => by
  obtain ⟨c1, c2, c3, n, h1, h2, h3, a1, a2, a3, a4, a5, a6, a7, a8, b1, b2, b3, b4, b5⟩ := h
  exact ⟨c1, c2, c3, n, h1, h2, h3, a1, a2, a3, a4, a5, a6, a7, a8, by rw [hf r h2 h3 (by rw [b1]; simp)]; exact b1, by rw [hf _ a1 a2 (by rw [b2]; simp)]; exact b2, by rw [hf _ a3 a4 (by rw [b3]; simp)]; exact b3, by rw [hf _ a5 a6 (by rw [b4]; simp)]; exact b4, by rw [hf _ a7 a8 (by rw [b5]; simp)]; exact b5⟩
 | .inner ht ks, lo, hi, L, r, h, hf => by
  obtain ⟨c1, c2, c3, bt, bk, kl, kh, Lk, rs, tk, h1, h2, h3, a1, a2, a3, a4, a5, a6, a7, a8, a9, a10, a11, n1, n2, b1, b2, b3, b4, b5, b6, hj⟩ := h
  have hkl : kl <= kh := JobsP.le ks hj
  exact ⟨c1, c2, c3, bt, bk, kl, kh, Lk, rs, tk, h1, h2, h3, a1, a2, a3, a4, a5, a6, a7, a8, a9, a10, a11, n1, n2, by rw [hf r h2 (by omega) (by rw [b1]; simp)]; exact b1, by rw [hf _ (by omega) a2 (by rw [b2]; simp)]; exact b2, by rw [hf _ (by omega) a4 (by rw [b3]; simp)]; exact b3, by rw [hf _ (by omega) a6 (by rw [b4]; simp)]; exact b4,
   by rw [hf _ a7 (by omega) (by rw [b5]; simp)]; exact b5, by rw [hf _ a9 (by omega) (by rw [b6]; simp)]; exact b6, JobsP.fr ks hj fun β l h => hf β (by omega) (by omega)⟩
theorem JobsP.fr {pp : Nat} {σ σ' : St} : ∀ (ts : List Pl) {lo hi : Nat} {L : List AV} {rs : List Nat}, JobsP pp σ ts lo hi L rs -> (∀ β, lo <= β -> β < hi -> lk σ.H β ≠ some .tok -> lk σ'.H β = lk σ.H β) -> JobsP pp σ' ts lo hi L rs
 | [], lo, hi, L, rs, h, hf => h
 | p :: l, lo, hi, L, rs, h, hf => by
  obtain ⟨mid, L1, L2, r, rs2, h1, h2, h3, h4, h5, h6⟩ := h
  exact ⟨mid, L1, L2, r, rs2, h1, h2, JobP.fr p h3 fun β l h => hf β l (by omega), JobsP.fr l h4 fun β l h => hf β (by omega) h, h5, h6⟩
theorem JobsP.le {pp : Nat} {σ : St} : ∀ (ts : List Pl) {lo hi : Nat} {L : List AV} {rs : List Nat}, JobsP pp σ ts lo hi L rs -> lo <= hi
 | [], lo, hi, L, rs, h => h.2.2
 | p :: l, lo, hi, L, rs, h => by
  obtain ⟨mid, L1, L2, r, rs2, h1, h2, h3, h4, h5, h6⟩ := h
  omega
end
theorem JobP.r {pp : Nat} {σ : St} {t : Pl} {lo hi : Nat} {L : List AV} {r : Nat} (h : JobP pp σ t lo hi L r) : lo <= r /\ r < hi /\ lk σ.H r = some (.arr t.rt.cs) := by
 cases t with
 | emp =>
  obtain ⟨h1, h2, h3, h4⟩ := h
  exact ⟨h2, h3, h4⟩
 | kept h0 ht m =>
  obtain ⟨h1, h2, h3, h4⟩ := h
  exact ⟨h2, h3, h4⟩
 | leaf s =>
  obtain ⟨c1, c2, c3, n, h1, h2, h3, a1, a2, a3, a4, a5, a6, a7, a8, b1, b2, b3, b4, b5⟩ := h
  exact ⟨h2, h3, b1⟩
 | inner ht ks =>
  obtain ⟨c1, c2, c3, bt, bk, kl, kh, Lk, rs, tk, h1, h2, h3, a1, a2, a3, a4, a5, a6, a7, a8, a9, a10, a11, n1, n2, b1, b2, b3, b4, b5, b6, hj⟩ := h
  have hkl : kl <= kh := JobsP.le ks hj
  exact ⟨h2, by omega, b1⟩
theorem JobP.fr' {pp : Nat} {σ : St} {t : Pl} {lo mid hi : Nat} {L : List AV} {r : Nat} (h : JobP pp σ t mid hi L r) (hl : lo <= mid) : JobP pp σ t lo hi L r := by
 cases t with
 | emp =>
  obtain ⟨h1, h2, h3, h4⟩ := h
  exact ⟨h1, by omega, h3, h4⟩
 | kept h0 ht m =>
  obtain ⟨h1, h2, h3, h4⟩ := h
  exact ⟨h1, by omega, h3, h4⟩
 | leaf s =>
  obtain ⟨c1, c2, c3, n, h1, h2, h3, a1, a2, a3, a4, a5, a6, a7, a8, b⟩ := h
  exact ⟨c1, c2, c3, n, h1, by omega, h3, by omega, a2, by omega, a4, by omega, a6, by omega, a8, b⟩
 | inner ht ks =>
  obtain ⟨c1, c2, c3, bt, bk, kl, kh, Lk, rs, tk, h1, h2, h3, a1, a2, a3, a4, a5, a6, a7, a8, a9, a10, a11, b⟩ := h
  exact ⟨c1, c2, c3, bt, bk, kl, kh, Lk, rs, tk, h1, by omega, h3, a1, a2, a3, a4, a5, a6, by omega, a8, by omega, a10, a11, b⟩
theorem JobsP.snoc {pp : Nat} {σ : St} : ∀ (ts : List Pl) {lo mid hi : Nat} {L L' : List AV} {rs : List Nat} {r : Nat} {t : Pl}, JobsP pp σ ts lo mid L rs -> JobP pp σ t mid hi L' r -> mid <= hi -> JobsP pp σ (ts ++ [t]) lo hi (L ++ L') (rs ++ [r])
 | [], lo, mid, hi, L, L', rs, r, t, h, h', hm => by
  obtain ⟨rfl, rfl, h3⟩ := h
  refine ⟨hi, L', [], r, [], by omega, Nat.le_refl _, JobP.fr' h' h3, ⟨rfl, rfl, Nat.le_refl _⟩, by simp, by simp⟩
 | p :: l, lo, mid, hi, L, L', rs, r, t, h, h', hm => by
  obtain ⟨m1, L1, L2, r1, rs2, h1, h2, h3, h4, h5, h6⟩ := h
  exact ⟨m1, L1, L2 ++ L', r1, rs2 ++ [r], h1, by omega, h3, JobsP.snoc l h4 h' hm, by rw [h5, List.append_assoc], by rw [h6]; rfl⟩
theorem TokOk.set {n0 : Nat} {t : Tok} (h : TokOk n0 σ t) {β : Nat} (hb : lk σ.H β ≠ some .tok) (x : Blk) : TokOk n0 (σ.set β x) t :=
 tokok_mono h (Nat.le_refl _) fun τ e => by
  subst e
  rw [lk_set, if_neg (fun e => by subst e; exact hb h.2.2)]
  exact h.2.2
theorem cont_leaf {n : Nat} {s : List UInt8} (hl : lk σ.H n = some (.arr [.int .i64 0, .str s, .vs [] .ex])) (hn : n < σ.n) : ACalls Tryz.prog 222 [.ptr n 0] σ (fun v σ' => v = (Nd.mk 0 s []).av /\ σ' = σ) := by
 refine ACalls.quietX ?_ rfl
 refine FOk.calls ok222 (by simp [a222]) (wpc_sound hmix ?_)
 show wpc _ _ _ c222 _ _ _
 simp (disch := first | exact dA | fail) only [↓V0, VV, reduceCtorEq, seval, a222, hl]
 exact ⟨by simp only [WE]; rfl, by exact eA⟩
theorem cont_inner {bt bk : Nat} {ht : Nat} {tcs : List Pl} {rts : List (Nat × Rt)} {tk : Tok} (hbt : lk σ.H bt = some (.arr (Pl.inner ht tcs).cs)) (hbk : lk σ.H bk = some (.arr [.vs (rts.map fun r => .ptr r.1 0) tk])) (h1 : bt < σ.n) (h2 : bk < σ.n) (hr : ∀ r, r ∈ rts -> r.1 < σ.n /\ lk σ.H r.1 = some (.arr r.2.cs)) (hl : rts.length <= 4) :
  ACalls Tryz.prog 223 [.ptr bt 0, .ptr bk 0] σ (fun v σ' => v = (Nd.mk ht [] (rts.map fun r => ⟨r.2.h, r.2.m⟩)).av /\ σ' = σ) := by
 refine ACalls.quietX ?_ (by have := pur_nd (Nd.mk ht [] (rts.map fun r => ⟨r.2.h, r.2.m⟩)); simp only [purL, Bool.and_true] at this; exact this)
 simp only [Pl.cs, treeCs] at hbt
 refine FOk.calls ok223 (by simp [a223]) (wpc_sound hmix ?_)
 show wpc _ _ _ c223 _ _ _
 simp (disch := first | exact dA | fail) only [↓V0, VV, reduceCtorEq, seval, a223, hbt, hbk, List.length_map]
 refine AW.upto hmix (fun i ρ σ' => ρ 2 = .ptr σ.n 0 /\ ρ 3 = .ptr (σ.n + 1) 0 /\ ρ 9 = .vs (rts.map fun r => .ptr r.1 0) tk /\ ρ 10 = .int .i64 (rts.length : Nat) /\ ρ 11 = .int .i64 (i : Nat) /\
  (∃ t, lk σ'.H (σ.n + 1) = some (.arr [.int .i64 ht, .str [], .vs (((rts.take i).map fun r => (⟨r.2.h, r.2.m⟩ : Kd)).map Kd.av) t]) /\ TokOk σ.n σ' t) /\ lk σ'.H σ.n = some (.arr [.int .i64 0, .str [], .vs [] .ex]) /\ Ext σ σ' /\ σ.n + 1 < σ'.n) rts.length
  ⟨by exact wA, by exact wA, by exact wA, by simp only [↓W0, W, reduceCtorEq, seval, List.length_map], by exact wA, ⟨.ex, by simp only [↓W0, W, reduceCtorEq, seval, Pl.ht], trivial⟩, by exact wA, by exact eA, by simp only [↓W0, W, reduceCtorEq, seval]⟩ (fun i ρ σ' hi h => ?_) (fun ρ σ' h => ?_)
 ·obtain ⟨r2, r3, r9, r10, r11, ⟨t, l1, ht1⟩, l0, hE, hlt⟩ := h
  have hgi : (rts.map fun r => AV.ptr r.1 0)[i]? = some (.ptr rts[i].1 0) := by simp [hi]
  obtain ⟨q1, q2⟩ := hr _ (List.getElem_mem hi)
  have q3 : lk σ'.H rts[i].1 = _ := (hE.2 _ q1).trans q2
  have htk : ((rts.take (i + 1)).map fun r => (⟨r.2.h, r.2.m⟩ : Kd)).map Kd.av = ((rts.take i).map fun r => (⟨r.2.h, r.2.m⟩ : Kd)).map Kd.av ++ [(⟨rts[i].2.h, rts[i].2.m⟩ : Kd).av] := by
   rw [take_succ_get (x := rts[i]) (by simp [hi]), List.map_append, List.map_append]; rfl
  have hf := fit_ks ((rts.take i).map fun r => (⟨r.2.h, r.2.m⟩ : Kd))
  have hfl : (((rts.take i).map fun r => (⟨r.2.h, r.2.m⟩ : Kd)).map Kd.av).length = i := by simp; omega
  generalize rts[i] = r at hgi q1 q3 htk
  have hle := hE.1
  have htg := ht1.g
  have hl1' := rt_lk (β := σ.n + 1) ht1 l1 (by simp) hlt
  have hl0' := rt_lk (β := σ.n) ht1 l0 (by simp) (by omega)
  simp only [Rt.cs] at q3
  generalize ((rts.take i).map fun r => (⟨r.2.h, r.2.m⟩ : Kd)).map Kd.av = KL at *
  simp (disch := first | exact dA | fail) only [↓V0, VV, reduceCtorEq, seval, a223, r2, r3, r9, r10, r11, hgi, q3, l1, ↓eval_app, appA_S, hl1']
  refine ⟨rfl, ⟨_, by rw [htk]; rfl, (rt_tok t hle).set (by rw [hl1']; simp) _⟩, hl0', (rt_ext ht1 hE).set (by omega) _, by rw [rt_n]; omega⟩
 ·obtain ⟨r2, r3, r9, r10, r11, ⟨t, l1, ht1⟩, l0, hE, hlt⟩ := h
  rw [List.take_of_length_le (Nat.le_refl _)] at l1
  simp (disch := first | exact dA | fail) only [↓V0, VV, reduceCtorEq, seval, a223, r2, r3, r9, r10, r11, l1, l0]
  exact ⟨by simp only [WE, er_kds]; rfl, by exact eA⟩
end Go.Proofs.YtekhblefchceaaaGreat.AM

/- rope.Pen: the closure that writes a node. -/
set_option maxRecDepth 20000
namespace Go.Proofs.YtekhblefchceaaaGreat.AM
open Go Go.Proofs
variable {σ : St}
theorem ACalls.arenaR {P : Program} {f : Nat} {args : List AV} {p : Pa} {r : Nat} {X : AV} {B : Ar} {c : List AV} (h : ACalls P f args σ (fun v σ' => v.er = X /\ ArAt p σ' B /\ lk σ'.H r = some (.arr c) /\ σ.n <= σ'.n /\ ∀ β, β < σ.n -> ¬p.has β -> β ≠ r -> lk σ'.H β = lk σ.H β)) (hp : p.lt σ.n) (hX : X.pur = true) (hc : purL c = true) (hr : r < σ.n) (hpr : ¬ p.has r) :
  ACalls P f args σ (fun v σ' => v = X /\ ArAt p σ' B /\ lk σ'.H r = some (.arr c) /\ σ'.n = σ.n /\ ∀ β, β < σ.n -> ¬p.has β -> β ≠ r -> lk σ'.H β = lk σ.H β) := by
 refine ACalls.tightW (ACalls.weak h (K' := fun v σ' => v = X /\ ArAt p σ' B /\ lk σ'.H r = some (.arr c) /\ σ.n <= σ'.n /\ ∀ β, β < σ.n -> ¬p.has β -> β ≠ r -> lk σ'.H β = lk σ.H β) fun v σ' ⟨h1, h2⟩ => ⟨v.er, σ', VW.er _ _, h1, h2⟩) fun v σ' ⟨h1, h2, h3, h4, h5⟩ => ?_
 have hl : ∀ β, β < σ.n -> lk (σ'.H.filter fun e => Nat.blt e.1 σ.n) β = lk σ'.H β := fun β hβ => by rw [lk_filter, if_pos hβ]
 refine ⟨σ'.H.filter fun e => Nat.blt e.1 σ.n, fun β b hb => ?_, bw_pur _ (by rw [h1]; exact hX), h1, ?_, ?_, rfl, fun β hβ hn hne => ?_⟩
 ·rw [lk_filter] at hb
  split at hb
  ·rename_i hlt
   by_cases hpb : p.has β
   ·exact .inr ⟨hlt, hb, h2.bw hp hpb hb⟩
   ·by_cases hbr : β = r
    ·subst hbr
     rw [h3, Option.some.injEq] at hb
     subst hb
     exact .inr ⟨hlt, h3, bwL_pur _ hc⟩
    ·exact .inl ⟨by rw [<- h5 β hlt hpb hbr]; exact hb, fun _ => hb⟩
  ·cases hb
 ·obtain ⟨a1, a2, a3, a4, a5, a6, a7, _⟩ := h2
  have hp' := hp
  obtain ⟨t1, t2, t3, t4, t5, t6⟩ := hp
  exact ⟨by rw [hl _ t1]; exact a1, by rw [hl _ t2]; exact a2, by rw [hl _ t3]; exact a3, by rw [hl _ t4]; exact a4, by rw [hl _ t5]; exact a5, by rw [hl _ t6]; exact a6, a7, hp'⟩
 ·rw [hl r hr]; exact h3
 ·rw [hl β hβ]; exact h5 β hβ hn hne
theorem put1_ok {p : Pa} {A : Ar} {x : Nd} {pp c1 c2 c3 r cf : Nat} {ccap td : List AV} {R : Rt} (hA : ArAt p σ A) (ok : A.ok) (hk : 0 < A.k) (hx : x.ok) (hb : x.ms.b <= 65536) (hks : ∀ k, k ∈ x.ks -> ∃ y, A.get k.h = some y /\ y.ok /\ y.ms.b <= 65536 /\ y.ht + 1 = x.ht /\ y.ms = k.m) (hf : A.get A.hd = none)
  (hpp : lk σ.H pp = some (.arr (.ptr p.a 0 :: td))) (h1 : lk σ.H c1 = some (.arr [.ptr pp 0])) (h2 : lk σ.H c2 = some (.arr [.fn cf ccap])) (h3 : lk σ.H c3 = some (.arr [.ptr r 0])) (hr : lk σ.H r = some (.arr R.cs)) (hr1 : r < σ.n) (hpr : ¬ p.has r)
  (l0 : pp < σ.n) (l1 : c1 < σ.n) (l2 : c2 < σ.n) (l3 : c3 < σ.n) (n0 : ¬ p.has pp) (n1 : ¬ p.has c1) (n2 : ¬ p.has c2) (n3 : ¬ p.has c3)
  (hcont : ACalls Tryz.prog cf ccap σ (fun v σ' => v = x.av /\ σ' = σ)) :
  ACalls Tryz.prog 255 [.ptr c1 0, .ptr c2 0, .ptr c3 0] σ (fun v σ' => v = .tup [.int .u64 A.hd, .int .i64 0] /\ ArAt p σ' (A.put x) /\ lk σ'.H r = some (.arr (Rt.mk A.hd R.ht R.m).cs) /\ σ'.n = σ.n /\ ∀ β, β < σ.n -> ¬p.has β -> β ≠ r -> lk σ'.H β = lk σ.H β) := by
 refine ACalls.arenaR ?_ hA.lt rfl rfl hr1 hpr
 refine FOk.calls ok255 (by simp [a255]) (wpc_sound hmix ?_)
 show wpc _ _ _ c255 _ _ _
 simp (disch := first | exact dA | fail) only [↓V0, VV, reduceCtorEq, seval, a255]
 refine AW.qx none (.p 0 (.p 1 (.p 2 (.p 3 (.p 4 (.a 5 (.a 6 (.p 7 (.p 8 (.p 9 (.p 10 (.p 11 .nil)))))))))))) [(c1, .arr [.ptr pp 0]), (pp, .arr (.ptr p.a 0 :: td)), (c2, .arr [.fn cf ccap])] hmix (by decide) (by decide) (SB.cons h1 (SB.cons hpp (SB.cons h2 (SB.nil _)))) ?_
 have e1 : (c1 = pp) = False := eq_false fun e => by subst e; rw [h1] at hpp; simp at hpp; exact n1 (.inl hpp.1)
 have e2 : (c1 = c2) = False := eq_false fun e => by subst e; rw [h1] at h2; simp at h2
 have e3 : (pp = c2) = False := eq_false fun e => by subst e; rw [hpp] at h2; simp at h2
 simp (disch := first | exact dA | fail) only [↓V0, VV, reduceCtorEq, seval, a255, e1, e2, e3]
 refine callQ hcont ?_
 simp (disch := first | exact dA | fail) only [↓V0, VV, reduceCtorEq, seval, a255, e1, e2, e3]
 refine ⟨SB.cons h1 (SB.cons hpp (SB.cons h2 (SB.nil _))), ?_⟩
 refine (alloc_ok hA ok hk hx hb hks hf).mono ?_
 rintro v σ2 ⟨rfl, hB, hF⟩
 have g1 : lk σ2.H c1 = some (.arr [.ptr pp 0]) := (hF.2 _ l1 n1).trans h1
 have g0 : lk σ2.H pp = some (.arr (.ptr p.a 0 :: td)) := (hF.2 _ l0 n0).trans hpp
 have g2 : lk σ2.H c2 = some (.arr [.fn cf ccap]) := (hF.2 _ l2 n2).trans h2
 have g3 : lk σ2.H c3 = some (.arr [.ptr r 0]) := (hF.2 _ l3 n3).trans h3
 have gr : lk σ2.H r = some (.arr R.cs) := (hF.2 _ hr1 hpr).trans hr
 simp only [Rt.cs] at gr
 simp (disch := first | exact dA | fail) only [↓V0, VV, reduceCtorEq, seval, a255, e1, e2, e3, g3, gr]
 refine ⟨SB.cons g1 (SB.cons g0 (SB.cons g2 (SB.nil _))), rfl, ?_, rfl, Nat.le_of_eq hF.1.symm, fun β hβ hp hne => ?_⟩
 ·have hn := Pa.nes hA.ne
  have q : ∀ β, p.has β -> (r = β) = False := fun β hβ => eq_false fun e => hpr (e ▸ hβ)
  have q1 := q p.a (.inl rfl)
  have q2 := q p.l (.inr (.inl rfl))
  have q3 := q p.b1 (.inr (.inr (.inl rfl)))
  have q4 := q p.b2 (.inr (.inr (.inr (.inl rfl))))
  have q5 := q p.b3 (.inr (.inr (.inr (.inr (.inl rfl)))))
  have q6 := q p.m (.inr (.inr (.inr (.inr (.inr rfl)))))
  refine ArAt.mk2 hB (by first | omega | (simp only [set_n, new_n] <;> omega)) ?_ ?_ ?_ ?_ ?_ ?_ <;> (simp (disch := omega) only [lk_set, lk_new, sn_ne, snk_ne, ne_sn, ne_snk, set_n, new_n, if_true, if_false, Option.map_some, hB.ba, hB.bl, hB.b1, hB.b2, hB.b3, hB.bm, hn, q1, q2, q3, q4, q5, q6] <;> first | done | rfl)
 ·rw [if_neg (Ne.symm hne)]; exact hF.2 β hβ hp
end Go.Proofs.YtekhblefchceaaaGreat.AM

/- rope.Pen: put, add. -/
set_option maxRecDepth 20000
namespace Go.Proofs.YtekhblefchceaaaGreat.AM
open Go Go.Proofs
variable {σ : St}
def Ad (pp : Nat) (t0 : Tok) (σ σ' : St) : Prop := σ.n <= σ'.n /\ ∀ β, β < σ.n -> β ≠ pp -> t0 ≠ .id β -> lk σ'.H β = lk σ.H β
theorem Ad.ext {pp : Nat} {t0 : Tok} {σ σ' : St} (h : Ext σ σ') : Ad pp t0 σ σ' := ⟨h.1, fun β hβ _ _ => h.2 β hβ⟩
def Tn (n : Nat) (t0 t1 : Tok) : Prop := t1 = t0 \/ ∃ τ, t1 = .id τ /\ n <= τ
theorem Tn.trans {n n' : Nat} {t0 t1 t2 : Tok} (h : Tn n t0 t1) (h' : Tn n' t1 t2) (hn : n <= n') : Tn n t0 t2 := by
 rcases h' with rfl | ⟨τ, rfl, h2⟩
 ·exact h
 ·exact .inr ⟨τ, rfl, by omega⟩
theorem Ad.trans {pp : Nat} {t0 t1 : Tok} {σ σ' σ'' : St} (h : Ad pp t0 σ σ') (ht : Tn σ.n t0 t1) (h' : Ad pp t1 σ' σ'') : Ad pp t0 σ σ'' :=
 ⟨Nat.le_trans h.1 h'.1, fun β hβ hp hn => by
  rw [h'.2 β (Nat.lt_of_lt_of_le hβ h.1) hp (fun e => by
   rcases ht with rfl | ⟨τ, rfl, h2⟩
   ·exact hn e
   ·cases e; omega)]
  exact h.2 β hβ hp hn⟩
theorem Ad.ne_tok {pp : Nat} {t0 : Tok} {n0 : Nat} {σ σ' : St} (h : Ad pp t0 σ σ') (ht : TokOk n0 σ t0) {β : Nat} (hβ : β < σ.n) (hp : β ≠ pp) (hk : lk σ.H β ≠ some .tok) : lk σ'.H β = lk σ.H β :=
 h.2 β hβ hp fun e => by subst e; exact hk ht.2.2
def penB (a : Nat) (L : List AV) (t : Tok) (rt : AV) : Blk := .arr [.ptr a 0, .vs L t, rt]
theorem put_ok {a pp r f n0 : Nat} {cap L0 : List AV} {t0 : Tok} {rt0 : AV} (hpp : lk σ.H pp = some (penB a L0 t0 rt0)) (ht : TokOk n0 σ t0) (hf : fitSz 1 L0 = true) (hl : L0.length <= 1000000) (hlt : pp < σ.n) (hn0 : n0 <= σ.n) :
  ACalls Tryz.prog 221 [.ptr pp 0, .ptr r 0, .fn f cap] σ (fun v σ' => ∃ τ, lk σ'.H pp = some (penB a (L0 ++ [clos σ.n (σ.n + 2) (σ.n + 1)]) (.id τ) rt0) /\ TokOk n0 σ' (.id τ) /\ σ.n <= τ /\
   lk σ'.H σ.n = some (.arr [.ptr pp 0]) /\ lk σ'.H (σ.n + 2) = some (.arr [.fn f cap]) /\ lk σ'.H (σ.n + 1) = some (.arr [.ptr r 0]) /\ Ad pp t0 σ σ' /\ σ.n + 3 <= σ'.n) := by
 have hE : Ext σ (((σ.new (.arr [.ptr pp 0])).new (.arr [.ptr r 0])).new (.arr [.fn f cap])) := by exact eA
 have hpp2 : lk ((((σ.new (.arr [.ptr pp 0])).new (.arr [.ptr r 0])).new (.arr [.fn f cap]))).H pp = some (.arr [.ptr a 0, .vs L0 t0, rt0]) := (hE.2 pp hlt).trans hpp
 have k1 : lk ((((σ.new (.arr [.ptr pp 0])).new (.arr [.ptr r 0])).new (.arr [.fn f cap]))).H σ.n = some (.arr [.ptr pp 0]) := by simp (disch := first | exact dA | fail) only [↓V0, VV, reduceCtorEq, seval, a221]
 have k2 : lk ((((σ.new (.arr [.ptr pp 0])).new (.arr [.ptr r 0])).new (.arr [.fn f cap]))).H (σ.n + 1) = some (.arr [.ptr r 0]) := by simp (disch := first | exact dA | fail) only [↓V0, VV, reduceCtorEq, seval, a221]
 have k3 : lk ((((σ.new (.arr [.ptr pp 0])).new (.arr [.ptr r 0])).new (.arr [.fn f cap]))).H (σ.n + 2) = some (.arr [.fn f cap]) := by simp (disch := first | exact dA | fail) only [↓V0, VV, reduceCtorEq, seval, a221]
 have ht2 : TokOk n0 ((((σ.new (.arr [.ptr pp 0])).new (.arr [.ptr r 0])).new (.arr [.fn f cap]))) t0 := ht.ext hE
 have htg := ht2.g
 have hn1 : (((σ.new (.arr [.ptr pp 0])).new (.arr [.ptr r 0])).new (.arr [.fn f cap])).n = σ.n + 3 := rfl
 refine FOk.calls ok221 (by simp [a221]) (wpc_sound hmix ?_)
 show wpc _ _ _ c221 _ _ _
 simp (disch := first | exact dA | fail) only [↓V0, VV, reduceCtorEq, seval, a221]
 refine AW.qx (some 10) (.p 0 (.p 1 (.p 2 (.p 3 (.p 4 (.p 5 (.p 6 (.a 7 (.p 8 (.p 9 (.z 10 .nil))))))))))) [(σ.n, .arr [.ptr pp 0]), (pp, .arr [.ptr a 0, .vs L0 t0, rt0])] hmix (by decide) (by decide) (SB.cons (by simp (disch := first | exact dA | fail) only [↓V0, VV, reduceCtorEq, seval, a221]) (SB.cons hpp2 (SB.nil _))) ?_
 simp (disch := first | exact dA | fail) only [↓V0, VV, reduceCtorEq, seval, a221, ↓eval_app, appA_S]
 generalize ((σ.new (.arr [.ptr pp 0])).new (.arr [.ptr r 0])).new (.arr [.fn f cap]) = σ1 at *
 have r1 := rt_lk ht2 k1 (by simp) (by omega)
 have r2 := rt_lk ht2 k2 (by simp) (by omega)
 have r3 := rt_lk ht2 k3 (by simp) (by omega)
 have r0 := rt_lk ht2 hpp2 (by simp) (by omega)
 have e1 : (pp = σ.n) = False := eq_false (by omega)
 have e2 : (pp = σ.n + 1) = False := eq_false (by omega)
 have e3 : (pp = σ.n + 2) = False := eq_false (by omega)
 refine ⟨SB.cons r1 (SB.cons r0 (SB.nil _)), ?_⟩
 simp (disch := first | exact dA | fail) only [↓V0, VV, reduceCtorEq, seval, a221, r0]
 refine ⟨σ.n + 3, by simp [penB, clos], ?_, by omega, by simp (disch := first | exact dA | fail) only [↓V0, VV, reduceCtorEq, seval, a221, e1, r1], by simp (disch := first | exact dA | fail) only [↓V0, VV, reduceCtorEq, seval, a221, e3, r3], by simp (disch := first | exact dA | fail) only [↓V0, VV, reduceCtorEq, seval, a221, e2, r2], ?_, by rw [rt_n]; omega⟩
 ·have := (rt_tok (σ := σ1) t0 (by omega : n0 <= σ1.n)).set (β := pp) (by rw [r0]; simp) (penB a (L0 ++ [clos σ.n (σ.n + 2) (σ.n + 1)]) (.id (σ.n + 3)) rt0)
  rw [hn1] at this
  exact this
 ·refine ⟨by rw [set_n, rt_n]; omega, fun β hβ hp hne => ?_⟩
  rw [lk_set, if_neg (Ne.symm hp)]
  have hb1 : lk σ1.H β = lk σ.H β := hE.2 β hβ
  cases t0 with
  | no => exact htg.elim
  | ex => simp only [St.rt, lk_new]; rw [if_neg (by omega)]; exact hb1
  | id τ =>
   simp only [St.rt, lk_new]
   rw [if_neg (by show ¬ σ1.n = β; omega), lk_del, if_neg (fun e => hne (by rw [e]))]
   exact hb1
theorem sub_ms {p k : Pl} (hk : k ∈ p.ks) : k.ms.b <= p.ms.b /\ k.ms.r <= p.ms.r /\ k.ms.l <= p.ms.l := by
 cases p with
 | inner ht ks =>
  simp only [Pl.ks] at hk
  simp only [Pl.ms]
  induction ks with
  | nil => simp at hk
  | cons a l ih =>
   simp only [msSumL, Ms.add]
   rcases List.mem_cons.1 hk with rfl | hk
   ·omega
   ·have := ih hk; omega
 | _ => simp [Pl.ks] at hk
theorem msSumL_append (a b : List Pl) : msSumL (a ++ b) = (msSumL a).add (msSumL b) := by
 induction a with
 | nil => simp [msSumL, Ms.add, Ms.z]
 | cons x a ih => simp only [List.cons_append, msSumL, ih, Ms.add, Ms.mk.injEq]; omega
theorem JobP.wid {pp : Nat} {σ : St} {t : Pl} {lo hi lo' hi' : Nat} {L : List AV} {r : Nat} (h : JobP pp σ t lo hi L r) (hl : lo' <= lo) (hh : hi <= hi') : JobP pp σ t lo' hi' L r := by
 cases t with
 | emp =>
  obtain ⟨h1, h2, h3, h4⟩ := h
  exact ⟨h1, by omega, by omega, h4⟩
 | kept h0 ht m =>
  obtain ⟨h1, h2, h3, h4⟩ := h
  exact ⟨h1, by omega, by omega, h4⟩
 | leaf s =>
  obtain ⟨c1, c2, c3, n, h1, h2, h3, a1, a2, a3, a4, a5, a6, a7, a8, b⟩ := h
  exact ⟨c1, c2, c3, n, h1, by omega, by omega, by omega, by omega, by omega, by omega, by omega, by omega, by omega, by omega, b⟩
 | inner ht ks =>
  obtain ⟨c1, c2, c3, bt, bk, kl, kh, Lk, rs, tk, h1, h2, h3, a1, a2, a3, a4, a5, a6, a7, a8, a9, a10, a11, b⟩ := h
  exact ⟨c1, c2, c3, bt, bk, kl, kh, Lk, rs, tk, h1, by omega, h3, a1, by omega, a3, by omega, a5, by omega, by omega, a8, by omega, a10, by omega, b⟩
theorem rt_ne {t : Tok} {n0 : Nat} (ht : TokOk n0 σ t) {β : Nat} (hβ : β < σ.n) (hk : t ≠ .id β) : lk (σ.rt t).H β = lk σ.H β := by
 cases t with
 | no => exact ht.elim
 | ex => simp only [St.rt, lk_new]; rw [if_neg (by omega)]
 | id τ =>
  simp only [St.rt, lk_new]
  rw [if_neg (by show ¬ σ.n = β; omega), lk_del, if_neg (fun e => hk (by rw [e]))]
theorem nnewL_append (a b : List Pl) : nnewL (a ++ b) = nnewL a + nnewL b := by simp [nnewL_eq]
def AddK (a pp n0 : Nat) (L0 : List AV) (t0 : Tok) (rt0 : AV) (σ : St) (t : Pl) (v : AV) (σ' : St) : Prop :=
 ∃ L r t1, v = .ptr r 0 /\ L.length = t.nnew /\ lk σ'.H pp = some (penB a (L0 ++ L) t1 rt0) /\ TokOk n0 σ' t1 /\ Tn σ.n t0 t1 /\ fitSz 1 (L0 ++ L) = true /\ JobP pp σ' t σ.n σ'.n L r /\ Ad pp t0 σ σ'
theorem fit_app {l r : List AV} (hl : fitSz 1 l = true) (hr : fitSz 1 r = true) : fitSz 1 (l ++ r) = true := by
 unfold fitSz at *
 rw [List.all_append, hl, hr]; rfl
def AddI (a pp n0 : Nat) (L0 : List AV) (t0 : Tok) (rt0 : AV) (σ : St) (ht : Nat) (ks : List Pl) (i : Nat) (σ' : St) : Prop :=
 ∃ Lk rs t1 tk, Lk.length = nnewL (ks.take i) /\ lk σ'.H pp = some (penB a (L0 ++ Lk) t1 rt0) /\ TokOk n0 σ' t1 /\ Tn σ.n t0 t1 /\ fitSz 1 (L0 ++ Lk) = true /\ JobsP pp σ' (ks.take i) (σ.n + 3) σ'.n Lk rs /\ Ad pp t0 σ σ' /\
  lk σ'.H σ.n = some (.arr (Pl.inner ht ks).cs) /\ lk σ'.H (σ.n + 1) = some (.arr (Rt.mk 0 ht (msSumL (ks.take i))).cs) /\ lk σ'.H (σ.n + 1 + 1) = some (.arr [.vs (rs.map fun r => .ptr r 0) tk]) /\ TokOk (σ.n + 3) σ' tk /\ (∀ τ, tk = .id τ -> t1 ≠ .id τ) /\ rs.length = i /\ σ.n + 3 <= σ'.n
theorem padd_ok (a pp n0 : Nat) (rt0 : AV) (t : Pl) : ∀ (L0 : List AV) (t0 : Tok) (σ : St), t.W0 -> t.ms.b <= 1099511627776 -> t.ms.r <= 1099511627776 -> t.ms.l <= 1099511627776 -> L0.length + t.nnew <= 1000000 -> lk σ.H pp = some (penB a L0 t0 rt0) -> TokOk n0 σ t0 -> fitSz 1 L0 = true -> pp < σ.n -> n0 <= σ.n ->
  ACalls Tryz.prog 175 [.ptr pp 0, t.av] σ (AddK a pp n0 L0 t0 rt0 σ t) := by
 refine Pl.ind (M := fun t => ∀ (L0 : List AV) (t0 : Tok) (σ : St), t.W0 -> t.ms.b <= 1099511627776 -> t.ms.r <= 1099511627776 -> t.ms.l <= 1099511627776 -> L0.length + t.nnew <= 1000000 -> lk σ.H pp = some (penB a L0 t0 rt0) -> TokOk n0 σ t0 -> fitSz 1 L0 = true -> pp < σ.n -> n0 <= σ.n ->
  ACalls Tryz.prog 175 [.ptr pp 0, t.av] σ (AddK a pp n0 L0 t0 rt0 σ t)) (fun t ih L0 t0 σ hw hmb hmr hml hnn hpp ht0 hf0 hlt hn0 => ?_) t
 cases t with
 | emp =>
  refine FOk.calls ok175 (by simp [a175]) (wpc_sound hmix ?_)
  show wpc _ _ _ c175 _ _ _
  simp (disch := first | exact dA | fail) only [↓V0, VV, reduceCtorEq, seval, a175, Pl.av, treeCs, Ms.z]
  have hE : Ext σ ((σ.new (.arr Pl.emp.cs)).new (.arr Rt.z.cs)) := by exact eA
  refine ⟨[], σ.n + 1, t0, rfl, rfl, ?_, ht0.ext hE, .inl rfl, ?_, ?_, Ad.ext hE⟩
  ·rw [List.append_nil]; exact (hE.2 _ hlt).trans hpp
  ·rw [List.append_nil]; exact hf0
  ·exact ⟨rfl, by omega, by simp only [↓W0, W, reduceCtorEq, seval], by simp only [↓W0, W, reduceCtorEq, seval] <;> rfl⟩
 | kept h ht m =>
  have h0 : 0 < h := hw.form
  refine FOk.calls ok175 (by simp [a175]) (wpc_sound hmix ?_)
  show wpc _ _ _ c175 _ _ _
  simp (disch := first | exact dA | fail) only [↓V0, VV, reduceCtorEq, seval, a175, Pl.av, treeCs]
  have hE : Ext σ ((σ.new (.arr (Pl.kept h ht m).cs)).new (.arr (Rt.mk h ht m).cs)) := by exact eA
  refine ⟨[], σ.n + 1, t0, rfl, rfl, ?_, ht0.ext hE, .inl rfl, ?_, ?_, Ad.ext hE⟩
  ·rw [List.append_nil]; exact (hE.2 _ hlt).trans hpp
  ·rw [List.append_nil]; exact hf0
  ·exact ⟨rfl, by omega, by simp only [↓W0, W, reduceCtorEq, seval], by simp only [↓W0, W, reduceCtorEq, seval] <;> rfl⟩
 | leaf s =>
  obtain ⟨s1, s2⟩ : 1 <= s.length /\ s.length <= 16 := hw.form
  have hs := beq_nil_f s1
  refine FOk.calls ok175 (by simp [a175]) (wpc_sound hmix ?_)
  show wpc _ _ _ c175 _ _ _
  simp (disch := first | exact dA | fail) only [↓V0, VV, reduceCtorEq, seval, a175, Pl.av, treeCs, Ms.z, hs]
  have hno : (Nd.mk 0 s []).ok := .inl ⟨rfl, s1, s2, rfl⟩
  have hnm : (Nd.mk 0 s []).ms = msOf s := rfl
  refine callQE (by simp only [WE]; rfl) (nmeasure_st (Nd.mk 0 s []) hno (by rw [hnm]; show s.length <= 65536; omega)) ?_
  rw [hnm]
  simp (disch := first | exact dA | fail) only [↓V0, VV, reduceCtorEq, seval, a175, Ms.av, Ms.cs]
  generalize hσ1 : St.set _ _ _ = σ1
  have hE : Ext σ σ1 := by rw [<- hσ1]; exact eA
  have hn1 : σ1.n = σ.n + 3 := by rw [<- hσ1]; rfl
  have k0 : lk σ1.H (σ.n + 1) = some (.arr (Rt.mk 0 0 (msOf s)).cs) := by rw [<- hσ1]; simp (disch := first | exact dA | fail) only [↓V0, VV, reduceCtorEq, seval, a175] <;> rfl
  have k1 : lk σ1.H (σ.n + 1 + 1) = some (.arr [.int .i64 0, .str s, .vs [] .ex]) := by rw [<- hσ1]; simp (disch := first | exact dA | fail) only [↓V0, VV, reduceCtorEq, seval, a175]
  simp only [Pl.nnew] at hnn
  refine (put_ok (σ := σ1) (r := σ.n + 1) (f := 222) (cap := [.ptr (σ.n + 1 + 1) 0]) ((hE.2 _ hlt).trans hpp) (ht0.ext hE) hf0 (by omega) (by omega) (by omega)).mono ?_
  rintro v σ2 ⟨τ, p1, p2, p3, p4, p5, p6, p7, p8⟩
  simp (disch := first | exact dA | fail) only [↓V0, VV, reduceCtorEq, seval, a175]
  refine ⟨[clos σ1.n (σ1.n + 2) (σ1.n + 1)], σ.n + 1, .id τ, rfl, rfl, p1, p2, .inr ⟨τ, rfl, by omega⟩, fit_app hf0 rfl, ?_, (Ad.ext hE).trans (.inl rfl) p7⟩
  have q0 := p7.ne_tok (ht0.ext hE) (β := σ.n + 1) (by omega) (by omega) (by rw [k0]; simp)
  have q1 := p7.ne_tok (ht0.ext hE) (β := σ.n + 1 + 1) (by omega) (by omega) (by rw [k1]; simp)
  exact ⟨σ1.n, σ1.n + 2, σ1.n + 1, σ.n + 1 + 1, rfl, by omega, by omega, by omega, by omega, by omega, by omega, by omega, by omega, by omega, by omega, q0.trans k0, p4, p5, p6, q1.trans k1⟩
 | inner ht ks =>
  obtain ⟨i1, i2, i3, i4⟩ : 1 <= ht /\ ht <= 16 /\ 2 <= ks.length /\ ks.length <= 4 := hw.form
  refine FOk.calls ok175 (by simp [a175]) (wpc_sound hmix ?_)
  show wpc _ _ _ c175 _ _ _
  simp (disch := first | exact dA | fail) only [↓V0, VV, reduceCtorEq, seval, a175, Pl.av_eq, treeCs, Pl.old, Pl.ht, Pl.m, Pl.tx, Pl.ks, Ms.z, List.length_map]
  generalize hσ1 : St.new _ _ = σ1
  have hE : Ext σ σ1 := by rw [<- hσ1]; exact eA
  have hn1 : σ1.n = σ.n + 3 := by rw [<- hσ1]; rfl
  have k0 : lk σ1.H σ.n = some (.arr (Pl.inner ht ks).cs) := by rw [<- hσ1]; simp (disch := first | exact dA | fail) only [↓V0, VV, reduceCtorEq, seval, a175] <;> rfl
  have k1 : lk σ1.H (σ.n + 1) = some (.arr (Rt.mk 0 ht Ms.z).cs) := by rw [<- hσ1]; simp (disch := first | exact dA | fail) only [↓V0, VV, reduceCtorEq, seval, a175] <;> rfl
  have k2 : lk σ1.H (σ.n + 1 + 1) = some (.arr [.vs [] .ex]) := by rw [<- hσ1]; simp (disch := first | exact dA | fail) only [↓V0, VV, reduceCtorEq, seval, a175]
  refine AW.upto hmix (fun i ρ σ' => ρ 0 = .ptr pp 0 /\ ρ 3 = .ptr σ.n 0 /\ ρ 5 = .ptr (σ.n + 1) 0 /\ ρ 7 = .ptr (σ.n + 1 + 1) 0 /\ ρ 20 = .vs (ks.map Pl.av) .no /\ ρ 21 = .int .i64 (ks.length : Nat) /\ ρ 22 = .int .i64 (i : Nat) /\
   AddI a pp n0 L0 t0 rt0 σ ht ks i σ') ks.length
   ⟨by exact wA, by exact wA, by exact wA, by exact wA, by exact wA, by simp only [↓W0, W, reduceCtorEq, seval, List.length_map], by exact wA, ⟨[], [], t0, .ex, rfl, by rw [List.append_nil]; exact (hE.2 _ hlt).trans hpp, ht0.ext hE, .inl rfl, by rw [List.append_nil]; exact hf0, ⟨rfl, rfl, by omega⟩, Ad.ext hE, k0, k1, k2, trivial, (fun τ e => by cases e), rfl, by omega⟩⟩ (fun i ρ σ' hi h => ?_) (fun ρ σ' h => ?_)
  ·obtain ⟨r0, r3, r5, r7, r20, r21, r22, ⟨Lk, rs, t1, tk, b1, b2, b3, b4, b5, b6, b7, b8, b9, b10, b11, b12, b13, b14⟩⟩ := h
   have hgi := pget ks hi
   have hmem : ks[i] ∈ (Pl.inner ht ks).ks := List.getElem_mem hi
   have hkw := hw.sub hmem
   obtain ⟨m1, m2, m3⟩ := sub_ms hmem
   have hgk : ks[i]? = some ks[i] := by simp [hi]
   have htk := take_succ_get hgk
   have hsum : msSumL (ks.take (i + 1)) = (msSumL (ks.take i)).add ks[i].ms := by rw [htk, msSumL_append]; simp [msSumL, Ms.add, Ms.z]
   have hnsum : nnewL (ks.take (i + 1)) = nnewL (ks.take i) + ks[i].nnew := by rw [htk, nnewL_append]; simp [nnewL]
   have hle1 : (msSumL (ks.take (i + 1))).b <= (msSumL ks).b /\ (msSumL (ks.take (i + 1))).r <= (msSumL ks).r /\ (msSumL (ks.take (i + 1))).l <= (msSumL ks).l := by
    have := msSumL_append (ks.take (i + 1)) (ks.drop (i + 1))
    rw [List.take_append_drop] at this
    rw [this]; simp only [Ms.add]; omega
   have hle2 : nnewL (ks.take (i + 1)) <= nnewL ks := by
    have := nnewL_append (ks.take (i + 1)) (ks.drop (i + 1))
    rw [List.take_append_drop] at this
    omega
   simp only [Pl.nnew] at hnn
   simp only [Pl.ms] at hmb hmr hml m1 m2 m3
   rw [hsum] at hle1
   simp only [Ms.add] at hle1
   have hrec := ih ks[i] hmem (L0 ++ Lk) t1
   generalize ks[i] = k at *
   generalize hσa : (σ'.new (.arr tz)).set σ'.n (.arr k.cs) = σa
   have hEa : Ext σ' σa := by rw [<- hσa]; exact eA
   have hna : σa.n = σ'.n + 1 := by rw [<- hσa]; rfl
   have hppa := (hEa.2 pp (by omega)).trans b2
   have hrec := hrec σa hkw (by omega) (by omega) (by omega) (by rw [List.length_append]; omega) hppa (b3.ext hEa) b5 (by omega) (by omega)
   rw [Pl.av_eq] at hgi
   simp only [Pl.cs, treeCs, tz] at hgi hσa
   simp (disch := first | exact dA | fail) only [↓V0, VV, reduceCtorEq, seval, a175, r0, r3, r5, r7, r20, r21, r22, hgi]
   rw [hσa]
   refine (by rw [Pl.av_eq] at hrec; exact hrec : ACalls _ _ _ _ _).mono ?_
   rintro v σb ⟨L', r', t2, rfl, c1, c2, c3, c4, c5, c6, c7⟩
   have hnb := c7.1
   have t1a := b3.ext hEa
   have d8 := (c7.ne_tok t1a (β := σ.n) (by omega) (by omega) (by rw [hEa.2 _ (by omega), b8]; simp)).trans ((hEa.2 _ (by omega)).trans b8)
   have d9 := (c7.ne_tok t1a (β := σ.n + 1) (by omega) (by omega) (by rw [hEa.2 _ (by omega), b9]; simp)).trans ((hEa.2 _ (by omega)).trans b9)
   have d10 := (c7.ne_tok t1a (β := σ.n + 1 + 1) (by omega) (by omega) (by rw [hEa.2 _ (by omega), b10]; simp)).trans ((hEa.2 _ (by omega)).trans b10)
   have tka : TokOk (σ.n + 3) σa tk := b11.ext hEa
   have tkb : TokOk (σ.n + 3) σb tk := tokok_mono tka hnb fun τ e => by
    subst e
    rw [c7.2 τ tka.2.1 (fun e => by have := tka.1; omega) (fun e => b12 τ rfl e)]
    exact tka.2.2
   have hne2 : ∀ τ, tk = .id τ -> t2 ≠ .id τ := fun τ e => by
    subst e
    rcases c4 with rfl | ⟨τ', rfl, h2⟩
    ·exact b12 τ rfl
    ·intro e; cases e; have := tka.2.1; omega
   obtain ⟨j1, j2, j3⟩ := c6.r
   have htg := tkb.g
   have hfr : fitSz 1 (rs.map fun r => AV.ptr r 0) = true := fit_all fun x hx => by
    obtain ⟨y, _, rfl⟩ := List.mem_map.1 hx
    exact ⟨rfl, rfl⟩
   have hrl : (rs.map fun r => AV.ptr r 0).length = i := by simp [b13]
   have e9 := rt_lk tkb d9 (by simp) (by omega)
   have e10 := rt_lk tkb d10 (by simp) (by omega)
   have ej := rt_lk tkb j3 (by simp) (by omega)
   simp only [Rt.cs, Pl.rt] at e9 ej
   have f1 : (σ.n + 1 + 1 = r') = False := eq_false (by omega)
   have f2 : (σ.n + 1 = r') = False := eq_false (by omega)
   simp (disch := first | exact dA | fail) only [↓V0, VV, reduceCtorEq, seval, a175, r0, r3, r5, r7, r20, r21, r22, d10, ↓eval_app, appA_S, e9, e10, ej, f1, f2]
   refine ⟨rfl, ?_⟩
   have hkb : k.ms = k.rt.m := rfl
   generalize hσd : St.set _ _ _ = σd
   have hnd : σd.n = σb.n + 1 := by rw [<- hσd]; simp only [set_n, rt_n]
   have Q : ∀ β, β < σb.n -> tk ≠ .id β -> β ≠ σ.n + 1 -> β ≠ σ.n + 1 + 1 -> lk σd.H β = lk σb.H β := fun β h1 h2 h3 h4 => by
    rw [<- hσd]
    simp only [lk_set, if_neg (Ne.symm h3), if_neg (Ne.symm h4)]
    exact rt_ne tkb h1 h2
   have Qt : ∀ β, β < σb.n -> lk σb.H β ≠ some .tok -> β ≠ σ.n + 1 -> β ≠ σ.n + 1 + 1 -> lk σd.H β = lk σb.H β := fun β h1 h2 h3 h4 => Q β h1 (fun e => by subst e; exact h2 tkb.2.2) h3 h4
   have g1 : lk σd.H (σ.n + 1) = some (.arr (Rt.mk 0 ht (msSumL (ks.take (i + 1)))).cs) := by
    rw [hsum, <- hσd]
    simp (disch := first | exact dA | fail) only [↓V0, VV, reduceCtorEq, seval, a175, e9]
    rfl
   have g2 : lk σd.H (σ.n + 1 + 1) = some (.arr [.vs ((rs ++ [r']).map fun r => .ptr r 0) (.id σb.n)]) := by
    rw [<- hσd]
    simp (disch := first | exact dA | fail) only [↓V0, VV, reduceCtorEq, seval, a175, e10]
    simp
   have tkc : TokOk (σ.n + 3) σd (.id σb.n) := by
    rw [<- hσd]
    refine TokOk.set (TokOk.set (TokOk.set (TokOk.set (rt_tok tk (by omega)) (by rw [e10]; simp) _) ?_ _) ?_ _) ?_ _
    ·simp (disch := first | exact dA | fail) only [↓V0, VV, reduceCtorEq, seval, a175, e9]
    ·simp (disch := first | exact dA | fail) only [↓V0, VV, reduceCtorEq, seval, a175, e9]
    ·simp (disch := first | exact dA | fail) only [↓V0, VV, reduceCtorEq, seval, a175, e9]
   have t2c : TokOk n0 σd t2 := by
    refine tokok_mono c3 (by omega) fun τ e => ?_
    subst e
    rw [Q τ c3.2.1 (fun e => hne2 τ e rfl) (fun e => by subst e; have := c3.2.2; rw [d9] at this; cases this) (fun e => by subst e; have := c3.2.2; rw [d10] at this; cases this)]
    exact c3.2.2
   refine ⟨Lk ++ L', rs ++ [r'], t2, .id σb.n, by rw [List.length_append, b1, c1, hnsum], ?_, t2c, b4.trans c4 (by omega), by rw [<- List.append_assoc]; exact c5, ?_, ?_, ?_, g1, g2, tkc, ?_, by simp [b13], by omega⟩
   ·rw [Qt pp (by omega) (by rw [c2]; simp [penB]) (by omega) (by omega), c2, List.append_assoc]
   ·rw [htk]
    refine JobsP.snoc _ (JobsP.fr _ b6 fun β h1 h2 h3 => ?_) ((JobP.fr _ c6 fun β h1 h2 h3 => Qt β h2 h3 (by omega) (by omega)).wid (lo' := σ'.n) (hi' := σd.n) (by omega) (by omega)) (by omega)
    have q1 : lk σa.H β = lk σ'.H β := hEa.2 β h2
    have q2 : lk σb.H β = lk σ'.H β := (c7.ne_tok t1a (by omega) (by omega) (by rw [q1]; exact h3)).trans q1
    rw [Qt β (by omega) (by rw [q2]; exact h3) (by omega) (by omega), q2]
   ·have A1 : Ad pp t0 σ σb := (b7.trans b4 (Ad.ext hEa)).trans b4 c7
    exact ⟨by omega, fun β h1 h2 h3 => by rw [Q β (by omega) (fun e => by subst e; have := tkb.1; omega) (by omega) (by omega)]; exact A1.2 β h1 h2 h3⟩
   ·rw [Qt σ.n (by omega) (by rw [d8]; simp) (by omega) (by omega)]; exact d8
   ·intro τ e e2
    cases e
    subst e2
    have := c3.2.1
    omega
  ·obtain ⟨r0, r3, r5, r7, r20, r21, r22, ⟨Lk, rs, t1, tk, b1, b2, b3, b4, b5, b6, b7, b8, b9, b10, b11, b12, b13, b14⟩⟩ := h
   rw [List.take_of_length_le (Nat.le_refl _)] at b1 b6 b9
   simp only [Pl.nnew] at hnn
   simp (disch := first | exact dA | fail) only [↓V0, VV, reduceCtorEq, seval, a175, r0, r3, r5, r7, r20, r21, r22]
   refine (put_ok (σ := σ') (r := σ.n + 1) (f := 223) (cap := [.ptr σ.n 0, .ptr (σ.n + 1 + 1) 0]) b2 b3 b5 (by rw [List.length_append]; omega) (by omega) (by omega)).mono ?_
   rintro v σ2 ⟨τ, p1, p2, p3, p4, p5, p6, p7, p8⟩
   simp (disch := first | exact dA | fail) only [↓V0, VV, reduceCtorEq, seval, a175, r5]
   have q8 := (p7.ne_tok b3 (β := σ.n) (by omega) (by omega) (by rw [b8]; simp)).trans b8
   have q9 := (p7.ne_tok b3 (β := σ.n + 1) (by omega) (by omega) (by rw [b9]; simp)).trans b9
   have q10 := (p7.ne_tok b3 (β := σ.n + 1 + 1) (by omega) (by omega) (by rw [b10]; simp)).trans b10
   refine ⟨Lk ++ [clos σ'.n (σ'.n + 2) (σ'.n + 1)], σ.n + 1, .id τ, rfl, by simp [Pl.nnew, b1]; omega, by rw [p1, List.append_assoc], p2, .inr ⟨τ, rfl, by omega⟩, by rw [<- List.append_assoc]; exact fit_app b5 rfl, ?_, b7.trans b4 p7⟩
   exact ⟨σ'.n, σ'.n + 2, σ'.n + 1, σ.n, σ.n + 1 + 1, σ.n + 3, σ'.n, Lk, rs, tk, rfl, by omega, by omega, by omega, by omega, by omega, by omega, by omega, by omega, by omega, by omega, by omega, by omega, by omega, by omega, by omega, q9, p4, p5, p6, q8, q10,
    JobsP.fr _ b6 fun β h1 h2 h3 => p7.ne_tok b3 h2 (by omega) h3⟩
end Go.Proofs.YtekhblefchceaaaGreat.AM

