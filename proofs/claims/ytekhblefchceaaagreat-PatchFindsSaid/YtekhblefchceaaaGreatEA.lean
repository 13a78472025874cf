/- Joined: E1, E2, E3. -/
import Derived.Test.YtekhblefchceaaaGreatNA
import Derived.Test.YtekhblefchceaaaGreatDL
set_option linter.unusedVariables false
set_option linter.unusedSimpArgs false
/- strings.Builder: contracts of copyCheck and String, whose operations the abstract machine lacks. -/
namespace Go.Proofs
open Go.Shelf Go.RowKit
section
variable {P : Program} {ρ : Ren}
set_option maxHeartbeats 1000000 in
set_option maxRecDepth 100000 in
theorem Any.Builder_String_exact (L : Lays.n169 P ρ) (X : Builder.Extra P ρ) (b g cap : Nat) (p : Value) (cur : Array Value) (fz : Nat × Nat) (l : List UInt8) (w : World)
  (hbk : w.heap[b]? = some (.cells #[p, .slice (some ⟨g, 0, none⟩) l.length cap] (ρ.t 72) (0, 0))) (hg : w.heap[g]? = some (.cells cur (ρ.t 5) fz)) (h0 : l ≠ []) (hc : l.length <= cap) (hn : l.length <= cur.size) (h63 : l.length <= 9223372036854775807)
  (hcell : ∀ (j : Nat) (x : UInt8), l[j]? = some x -> cur[j]? = some (.int .u8 x.toNat)) :
  Calls P (ρ.f 169) #[.pointer (some ⟨b, 0, none⟩)] w fun e w' => e = .returned (.string ⟨l.toArray⟩) /\ w' = w.drew.freeze ⟨g, 0, none⟩ l.length := by
 have hl0 : l.length ≠ 0 := by simpa using h0
 have c1 : w.drew.cell? ⟨b, 1, none⟩ = some (.slice (some ⟨g, 0, none⟩) l.length cap) := by
  have : w.drew.heap[b]? = some (.cells #[p, .slice (some ⟨g, 0, none⟩) l.length cap] (ρ.t 72) (0, 0)) := hbk
  rw [Lib.cell_of_heap this]; rfl
 have hSD : (Builtin.unsafeSliceData_ #[(ρ.t 37)] (ρ.t 127) #[.slice (some ⟨g, 0, none⟩) l.length cap]).run P w.drew = .ok (.pointer (some ⟨g, 0, none⟩)) w.drew :=
  Lib.run_unsafeSliceData_row _ _ _ _ _ _ (by omega)
 have hUS : (Builtin.unsafeString_ #[(ρ.t 127), (ρ.t 3)] (ρ.t 9) #[.pointer (some ⟨g, 0, none⟩), .int .i64 l.length]).run P w.drew = .ok (.string ⟨l.toArray⟩) (w.drew.freeze ⟨g, 0, none⟩ l.length) := by
  have hg' : w.drew.heap[g]? = some (.cells cur (ρ.t 5) fz) := hg
  refine Lib.run_unsafeString_row w.drew (ρ.t 127) (ρ.t 3) (ρ.t 9) (ρ.t 5) L.t127 X.cellsByte g cur.size (by simp [World.shape?, hg']) l h0 hn h63 ?_
  intro j x hx
  have e : ((⟨g, 0, none⟩ : Addr).add j) = ⟨g, j, none⟩ := by
   unfold Addr.add
   by_cases hj : j = 0
   ·subst hj; simp
   ·simp [hj]
  rw [e, Lib.cell_of_heap hg']
  exact hcell j x hx
 have mixed := L.mixed
 have t72 := L.t72; have a72 := L.a72; have z72 := L.z72; have v72 := L.v72; have u72 := run_underlying L.t72
 have t70 := L.t70; have a70 := L.a70; have z70 := L.z70; have v70 := L.v70; have u70 := run_underlying L.t70
 have t37 := L.t37; have a37 := L.a37; have z37 := L.z37; have v37 := L.v37; have u37 := run_underlying L.t37
 have t127 := L.t127; have a127 := L.a127; have z127 := L.z127; have v127 := L.v127; have u127 := run_underlying L.t127
 have t3 := L.t3; have a3 := L.a3; have z3 := L.z3; have v3 := L.v3; have u3 := run_underlying L.t3
 have t9 := L.t9; have a9 := L.a9; have z9 := L.z9; have v9 := L.v9; have u9 := run_underlying L.t9
 have t5 := X.t5; have a5 := X.a5; have z5 := X.z5; have v5 := X.v5; have u5 := run_underlying X.t5
 go_enter L.f169, Body.n169_ntmps ρ
 go_wp2
 go_region_o
 all_goals (go_wp2; go_ret; exact ⟨rfl, rfl⟩)
end
end Go.Proofs
namespace Go.Proofs.YtekhblefchceaaaGreat.AM
open Go Go.Proofs Go.RowKit
variable {P : Program} {σ : St}
theorem rel_freeze {g : Gh} {h : Heap} {τ : Nat} (r : Rel P g σ h) (hk : lk σ.H τ = some .tok) (h' : Heap) (hsz : h'.size = h.size)
  (hoth : ∀ b, b ≠ g.bl τ -> h'[b]? = h[b]?) (hcs : ∀ cs e z, h[g.bl τ]? = some (.cells cs e z) -> z.2 <= g.fr τ -> ∃ z', h'[g.bl τ]? = some (.cells cs e z') /\ z'.2 <= g.fr τ) :
  Rel P g σ h' /\ Evo g σ h g σ h' := by
 obtain ⟨cs, e, z, ho, h0, h1, h2, h3⟩ := r.blk _ _ hk
 obtain ⟨z', ho', hz'⟩ := hcs cs e z ho h3
 have hcc : ∀ b i, hc h' b i = hc h b i := fun b i => by
  unfold hc
  by_cases hb : b = g.bl τ
  ·subst hb; rw [ho, ho']
  ·rw [hoth b hb]
 have hic : ∀ b i v, IC g σ.H h b i v -> IC g σ.H h' b i v := fun b i v hi => ⟨by rw [hcc]; exact hi.1, hi.2⟩
 refine ⟨⟨r.lt, r.inj, fun β k hk' => ?_⟩, Nat.le_refl _, g.le_refl _, hic, fun b o hd => ⟨?_, hd.2⟩, by omega, fun b c e2 z2 hc => ?_⟩
 ·by_cases hb : g.bl β = g.bl τ
  ·have := r.inj β τ k .tok hk' hk hb
   subst this
   rw [hk'] at hk
   cases hk
   exact ⟨cs, e, z', ho', h0, h1, h2, hz'⟩
  ·rw [hoth _ hb]
   exact (r.blk β k hk').mono (Nat.le_refl _) (g.le_refl _) (r.lt β k hk') hic
 ·rw [hoth b (fun e => hd.2 τ _ hk e.symm)]; exact hd.1
 ·by_cases hb : b = g.bl τ
  ·subst hb
   rw [ho] at hc
   cases hc
   exact ⟨_, z', ho', rfl⟩
  ·exact ⟨c, z2, by rw [hoth b hb]; exact hc, rfl⟩
theorem arr2 {cs : Array Value} (h : cs.size = 2) : ∃ a b, cs = #[a, b] := by
 refine ⟨cs[0], cs[1], Array.ext (by simp [h]) fun i h1 h2 => ?_⟩
 have : i = 0 \/ i = 1 := by simp at h2; omega
 rcases this with rfl | rfl <;> rfl
theorem vrl_ptr {g : Gh} {w : World} {β : Nat} {cargs : List Value} (h : VRL g σ w [.ptr β 0] cargs) : cargs = [.pointer (some ⟨g.bl β, 0, none⟩)] := by
 obtain ⟨h1, h2⟩ := h
 match cargs, h1 with
 | [a], _ =>
  have ha := h2 0 _ a rfl rfl
  cases ha
  rfl
theorem typ2 {g : Gh} {w : World} {β : Nat} {a b : AV} (r : Rel P g σ w.heap) (hk : lk σ.H β = some (.typ 138 [a, b])) :
  ∃ p v, w.heap[g.bl β]? = some (.cells #[p, v] 138 (0, 0)) /\ VRs g σ w a p /\ VRs g σ w b v /\ (b.isVs = true -> v = .slice none 0 0) := by
 obtain ⟨cs, ho, hs, hv⟩ := rel_typ r hk
 obtain ⟨p, v, rfl⟩ := arr2 hs
 exact ⟨p, v, ho, (hv 0 _ _ rfl rfl).1, (hv 1 _ _ rfl rfl).1, (hv 1 _ _ rfl rfl).2⟩
theorem bstr_ok {β τ : Nat} {a : AV} {s : List UInt8} (hk : lk σ.H β = some (.typ 138 [a, .bs s (.id τ)])) (ht : lk σ.H τ = some .tok) (h0 : s ≠ []) (h63 : s.length <= 9223372036854775807) :
  ACalls Tryz.prog 66 [.ptr β 0] σ (fun v σ' => v = .str s /\ σ' = σ) :=
 ⟨⟨Tryz.f66, Tryz.func66, by kernel_rfl, by kernel_rfl⟩, ⟨_, _, rfl, rfl⟩, fun g w cargs r hl => by
  obtain rfl := vrl_ptr hl
  obtain ⟨p, v, ho, _, hv, _⟩ := typ2 r hk
  cases hv with
  | bs _ _ b off cap hcap hi hT =>
  obtain ⟨hb, rfl, hty, hfr⟩ := hT.2
  obtain ⟨cs, e, z, h1, h2, h3, h4, h5⟩ := r.blk _ _ ht
  subst hb
  have he : e = 5 := h2.trans hty
  subst he
  have hC := Any.Builder_String_exact { Tryz.lays105 with } Tryz.Builder_Extra_105 (g.bl β) (g.bl τ) cap p cs z s w ho h1 h0 hcap (by omega) h63 (fun j x hx => by
   have := (hi j x hx).1
   unfold hc at this
   rw [h1] at this
   simpa using this)
  have h1' := (callsIn_wide (n := 0)).2 hC
  refine CallsIn.mono h1' fun e' w' hp => ?_
  obtain ⟨rfl, rfl⟩ := hp
  have hl0 : s.length ≠ 0 := by simpa using h0
  have hheap : (w.drew.freeze ⟨g.bl τ, 0, none⟩ s.length).heap = w.heap.modify (g.bl τ) (fun
   | .cells c elem (lo, hi) => .cells c elem (if lo == hi then (0, 0 + s.length) else (min lo 0, max hi (0 + s.length)))
   | o => o) := by
   unfold World.freeze
   rw [if_neg hl0]
   rfl
  obtain ⟨r', e'⟩ := rel_freeze r ht (w.drew.freeze ⟨g.bl τ, 0, none⟩ s.length).heap (by rw [hheap]; simp) (fun b hb => by
    rw [hheap, Array.getElem?_modify, if_neg (fun e => hb e.symm)]) (fun cs2 e2 z2 hc2 hz2 => by
    rw [hheap, Array.getElem?_modify, if_pos rfl, hc2]
    obtain ⟨z21, z22⟩ := z2
    refine ⟨_, rfl, ?_⟩
    simp only at hz2
    split
    ·simp only; omega
    ·simp only; omega)
  exact ⟨.str s, σ, g, ⟨rfl, rfl⟩, r', .str s, ⟨e', by unfold World.freeze; split <;> rfl, by unfold World.freeze; split <;> rfl⟩⟩⟩
theorem bstr_nil {β : Nat} {a : AV} {t : Tok} (hk : lk σ.H β = some (.typ 138 [a, .vs [] t])) : ACalls Tryz.prog 66 [.ptr β 0] σ (fun v σ' => v = .str [] /\ σ' = σ) := by
 refine ACalls.of_below (cX := .string ⟨([] : List UInt8).toArray⟩) ⟨Tryz.f66, Tryz.func66, by kernel_rfl, by kernel_rfl⟩ (fun g w => .str _) fun g w cargs r hv => ?_
 obtain rfl := vrl_ptr hv
 obtain ⟨p, v, ho, _, _, hn⟩ := typ2 r hk
 obtain rfl := hn rfl
 exact Any.Builder_String_nil { Tryz.lays105 with } Tryz.Builder_Extra_105 w.heap.size (g.bl β) p w ho
theorem bchk_used {β : Nat} {v : AV} (hk : lk σ.H β = some (.typ 138 [.ptr β 0, v])) : ACalls Tryz.prog 126 [.ptr β 0] σ (fun v σ' => v = .tup [] /\ σ' = σ) :=
 ⟨⟨Tryz.f126, Tryz.func126, by kernel_rfl, by kernel_rfl⟩, ⟨_, _, rfl, rfl⟩, fun g w cargs r hl => by
  obtain rfl := vrl_ptr hl
  obtain ⟨p, u, ho, hp, _, _⟩ := typ2 r hk
  cases hp
  have hC := Any.Builder_copyCheck_used { Tryz.lays105 with } Tryz.Builder_Extra_105.toX72 (g.bl β) w (by rw [Lib.cell_of_heap ho]; rfl)
  refine CallsIn.mono ((callsIn_wide (n := 0)).2 hC) fun e' w' hp => ?_
  obtain ⟨rfl, rfl⟩ := hp
  exact ⟨.tup [], σ, g, ⟨rfl, rfl⟩, r, .tup [] #[] rfl (fun i x c h => by simp at h), EvoW.refl _ _ _⟩⟩
theorem bchk_fresh {β : Nat} {v : AV} (hk : lk σ.H β = some (.typ 138 [.nilp, v])) : ACalls Tryz.prog 126 [.ptr β 0] σ (fun x σ' => x = .tup [] /\ σ' = σ.set β (.typ 138 [.ptr β 0, v])) :=
 ⟨⟨Tryz.f126, Tryz.func126, by kernel_rfl, by kernel_rfl⟩, ⟨_, _, rfl, rfl⟩, fun g w cargs r hl => by
  obtain rfl := vrl_ptr hl
  obtain ⟨p, u, ho, hp, hu, hn⟩ := typ2 r hk
  cases hp
  have hC := Any.Builder_copyCheck_fresh { Tryz.lays105 with } Tryz.Builder_Extra_105.toX72 (g.bl β) w (by rw [Lib.cell_of_heap ho]; rfl) (by simp [World.shape?, ho]; rfl) (Lib.frozen_of_heap ho 0)
  refine CallsIn.mono ((callsIn_wide (n := 0)).2 hC) fun e' w' hp => ?_
  obtain ⟨rfl, rfl⟩ := hp
  have hw : ∀ b, (w.setCell ⟨g.bl β, 0, none⟩ (.pointer (some ⟨g.bl β, 0, none⟩))).heap[b]? = if g.bl β = b then some (.cells #[.pointer (some ⟨g.bl β, 0, none⟩), u] 138 (0, 0)) else w.heap[b]? := fun b => by
   unfold World.setCell
   rw [Array.getElem?_modify]
   split
   ·rename_i e; subst e; rw [ho]; rfl
   ·rfl
  obtain ⟨r', e'⟩ := rel_set r hk (by simp) (.typ 138 [.ptr β 0, v]) (by simp) (w.setCell ⟨g.bl β, 0, none⟩ (.pointer (some ⟨g.bl β, 0, none⟩))).heap (by simp [World.setCell]) (fun b hb => by rw [hw, if_neg (fun e => hb e.symm)])
   ⟨_, by rw [hw, if_pos rfl], rfl, fun i x c hx hc => by
    match i, hx, hc with
    | 0, hx, hc =>
     simp at hx hc; subst hx; subst hc
     exact ⟨.ptr β 0 (r.lt _ _ hk), fun h => by simp [AV.isVs] at h⟩
    | 1, hx, hc =>
     simp at hx hc; subst hx; subst hc
     exact ⟨hu, hn⟩
    | i + 2, hx, hc => simp at hx⟩
   (fun c e z hc => by rw [ho] at hc; cases hc; exact ⟨#[.pointer (some ⟨g.bl β, 0, none⟩), u], (0, 0), by rw [hw, if_pos rfl], rfl⟩)
  exact ⟨.tup [], _, g, ⟨rfl, rfl⟩, r', .tup [] #[] rfl (fun i x c h => by simp at h), ⟨e', rfl, rfl⟩⟩⟩
end Go.Proofs.YtekhblefchceaaaGreat.AM

/- strings.Builder: Len, Reset, WriteString. -/
set_option maxRecDepth 20000
namespace Go.Proofs.YtekhblefchceaaaGreat.AM
open Go Go.Proofs
variable {σ : St}
theorem nv1 (x : AV) (b : Bool) : (noVs [x] || b) = (!x.isVs || b) := by simp [noVs]
theorem blen_ok {β : Nat} {a v : AV} {s : List UInt8} {t : Tok} (hk : lk σ.H β = some (.typ 138 [a, v])) (hv : BA s t v) : ACalls Tryz.prog 65 [.ptr β 0] σ (fun x σ' => x = .int .i64 s.length /\ σ' = σ) := by
 refine ACalls.quietX ?_ rfl
 rcases hv with rfl | ⟨rfl, rfl⟩
 ·refine FOk.calls ok65 (by simp [a65]) (wpc_sound hmix ?_)
  show wpc _ _ _ c65 _ _ _
  simp (disch := first | exact dA | fail) only [↓V0, VV, reduceCtorEq, seval, a65, hk]
  exact ⟨rfl, by exact eA⟩
 ·refine FOk.calls ok65 (by simp [a65]) (wpc_sound hmix ?_)
  show wpc _ _ _ c65 _ _ _
  simp (disch := first | exact dA | fail) only [↓V0, VV, reduceCtorEq, seval, a65, hk]
  exact ⟨rfl, by exact eA⟩
theorem breset_ok {β : Nat} {a v : AV} (hk : lk σ.H β = some (.typ 138 [a, v])) : ACalls Tryz.prog 105 [.ptr β 0] σ (fun x σ' => x = .tup [] /\ σ' = (σ.set β (.typ 138 [.nilp, v])).set β (.typ 138 [.nilp, .vs [] .ex])) := by
 refine FOk.calls ok105 (by simp [a105]) (wpc_sound hmix ?_)
 show wpc _ _ _ c105 _ _ _
 simp (disch := first | exact dA | fail) only [↓V0, VV, reduceCtorEq, seval, a105, hk, nv1, AV.isVs, Opd.isNil, Bool.or_true, Bool.true_or, Bool.not_false, Bool.not_true, Bool.or_self]
 rfl
theorem appB_ne {s q : List UInt8} {t : Tok} {v : AV} (h : BA s t v) (ht : TokG σ t) (hq : q ≠ []) (hb : s.length + q.length <= 1099511627776) : appB v (.str q) σ = .v (.bs (s ++ q) (.id σ.n)) (σ.rt t) := by
 have hb2 : s.length + q.length <= maxBytes / 4 := by unfold maxBytes; omega
 rcases h with rfl | ⟨rfl, rfl⟩
 ·simp [appB, evalOp, Opd.ev, hq, hb2, retok_rt ht.ok]
 ·simp only [List.length_nil, Nat.zero_add] at hb2
  simp [appB, evalOp, Opd.ev, hq, hb2, retok_rt ht.ok]
structure BW (β : Nat) (u : Tok) (s : List UInt8) (σ σ' : St) : Prop where
 n : σ'.n = σ.n + 1
 b : lk σ'.H β = some (.typ 138 [.ptr β 0, .bs s (.id σ.n)])
 k : TokOk σ.n σ' (.id σ.n)
 o : ∀ γ, γ < σ.n -> γ ≠ β -> u ≠ .id γ -> lk σ'.H γ = lk σ.H γ
theorem bws_ok {n0 β : Nat} {a v : AV} {s q : List UInt8} {u : Tok} (hk : lk σ.H β = some (.typ 138 [a, v])) (ha : a = .nilp \/ a = .ptr β 0) (hv : BA s u v) (hu : TokOk n0 σ u) (hq : q ≠ []) (hb : s.length + q.length <= 1099511627776) (hlt : β < σ.n) :
  ACalls Tryz.prog 64 [.ptr β 0, .str q] σ (fun x σ' => x = .tup [.int .i64 q.length, .nilif] /\ BW β u (s ++ q) σ σ') := by
 have key : ∀ σ1 : St, σ1.n = σ.n -> lk σ1.H β = some (.typ 138 [.ptr β 0, v]) -> TokOk n0 σ1 u -> (∀ γ, γ ≠ β -> lk σ1.H γ = lk σ.H γ) -> 
   (lk (σ1.rt u).H β = some (.typ 138 [.ptr β 0, v]) /\ BW β u (s ++ q) σ ((σ1.rt u).set β (.typ 138 [.ptr β 0, .bs (s ++ q) (.id σ.n)]))) := by
  intro σ1 h1 h2 h3 h4
  have h5 := rt_lk h3 h2 (by simp) (by omega)
  refine ⟨h5, ⟨by simp only [set_n, rt_n, h1], by simp only [lk_set, if_true, h5, Option.map_some], ?_, fun γ g1 g2 g3 => ?_⟩⟩
  ·have := (rt_tok (σ := σ1) u (Nat.le_refl _)).set (β := β) (by rw [h5]; simp) (.typ 138 [.ptr β 0, .bs (s ++ q) (.id σ.n)])
   rw [h1] at this
   exact this
  ·rw [lk_set, if_neg (fun e => g2 e.symm), <- h4 γ g2]
   cases u with
   | no => exact h3.elim
   | ex => simp only [St.rt, lk_new]; rw [if_neg (by omega)]
   | id τ => 
    simp only [St.rt, lk_new]; rw [if_neg (by show ¬ σ1.n = γ; omega), lk_del, if_neg (fun e => g3 (by rw [e]))]
 rcases ha with rfl | rfl
 ·refine FOk.calls ok64 (by simp [a64]) (wpc_sound hmix ?_)
  show wpc _ _ _ c64 _ _ _
  simp (disch := first | exact dA | fail) only [↓V0, VV, reduceCtorEq, seval, a64]
  refine (bchk_fresh hk).mono ?_
  rintro _ _ ⟨rfl, rfl⟩
  have hu2 : TokOk n0 (σ.set β (.typ 138 [.ptr β 0, v])) u := hu.set (by rw [hk]; simp) _
  obtain ⟨k1, k2⟩ := key (σ.set β (.typ 138 [.ptr β 0, v])) rfl (by simp only [lk_set, if_true, hk, Option.map_some]) hu2 (fun γ h => by rw [lk_set, if_neg (fun e => h e.symm)])
  simp (disch := first | exact dA | fail) only [↓V0, VV, reduceCtorEq, seval, a64, hk, appB_ne hv hu2.g hq hb, k1, nv1, AV.isVs, Bool.or_true, Bool.true_or, Bool.not_false]
  exact k2
 ·refine FOk.calls ok64 (by simp [a64]) (wpc_sound hmix ?_)
  show wpc _ _ _ c64 _ _ _
  simp (disch := first | exact dA | fail) only [↓V0, VV, reduceCtorEq, seval, a64]
  refine callQ (bchk_used hk) ?_
  obtain ⟨k1, k2⟩ := key σ rfl hk hu (fun γ h => rfl)
  simp (disch := first | exact dA | fail) only [↓V0, VV, reduceCtorEq, seval, a64, hk, appB_ne hv hu.g hq hb, k1, nv1, AV.isVs, Bool.or_true, Bool.true_or, Bool.not_false]
  exact k2
end Go.Proofs.YtekhblefchceaaaGreat.AM

/- delta.form and delta.Normalize. -/
set_option maxRecDepth 20000
namespace Go.Proofs.YtekhblefchceaaaGreat.AM
open Go Go.Proofs
variable {σ : St}
theorem eval_allocT (ρ : Env) (σ : St) (t : Nat) (z : List AV) : evalOp ρ σ (.allocT t z) = .v (.ptr σ.n 0) (σ.new (.typ t z)) := rfl
def BB (tx : List UInt8) (u : Tok) (v : AV) : Prop := (tx = [] /\ v = .vs [] .ex /\ u = .ex) \/ (tx ≠ [] /\ v = .bs tx u /\ ∃ τ, u = .id τ)
theorem BB.ba {tx : List UInt8} {u : Tok} {v : AV} (h : BB tx u v) : BA tx u v := by
 rcases h with ⟨h1, h2, h3⟩ | ⟨_, h2, _⟩
 ·subst h3; exact .inr ⟨h1, h2⟩
 ·exact .inl h2
def BdAt (β : Nat) (tx : List UInt8) (u : Tok) (σ : St) : Prop := ∃ a v, lk σ.H β = some (.typ 138 [a, v]) /\ (a = .nilp \/ a = .ptr β 0) /\ BB tx u v
theorem BdAt.same {β : Nat} {tx : List UInt8} {u : Tok} {σ' : St} (h : BdAt β tx u σ) (e : lk σ'.H β = lk σ.H β) : BdAt β tx u σ' := by
 obtain ⟨a, v, h1, h2⟩ := h
 exact ⟨a, v, e.trans h1, h2⟩
theorem BW.bd {β : Nat} {u : Tok} {s : List UInt8} {σ' : St} (h : BW β u s σ σ') (hs : s ≠ []) : BdAt β s (.id σ.n) σ' :=
 ⟨_, _, h.b, .inr rfl, .inr ⟨hs, rfl, _, rfl⟩⟩
theorem bstring_ok {n0 β : Nat} {tx : List UInt8} {u : Tok} (h : BdAt β tx u σ) (hu : TokOk n0 σ u) (hb : tx.length <= 9223372036854775807) : ACalls Tryz.prog 66 [.ptr β 0] σ (fun v σ' => v = .str tx /\ σ' = σ) := by
 obtain ⟨a, v, h1, h2, h3⟩ := h
 rcases h3 with ⟨rfl, rfl, rfl⟩ | ⟨h4, rfl, τ, rfl⟩
 ·exact bstr_nil h1
 ·exact bstr_ok h1 hu.2.2 h4 hb
structure FS (σ0 : St) (b B G : Nat) (out : List Pc) (t : Tok) (tx : List UInt8) (u : Tok) (gn : Int) (σ : St) : Prop where
 e : Ext σ0 σ
 ib : σ0.n <= b /\ b < σ.n
 iB : σ0.n <= B /\ B < σ.n
 iG : σ0.n <= G /\ G < σ.n
 n1 : b ≠ B
 n2 : b ≠ G
 n3 : B ≠ G
 hb : lk σ.H b = some (.arr [.vs (out.map Pc.av) t])
 ht : TokOk σ0.n σ t
 hB : BdAt B tx u σ
 hu : TokOk σ0.n σ u
 hG : lk σ.H G = some (.arr [.int .i64 gn])
 tn : ∀ τ, t = .id τ -> u ≠ .id τ
 m1 : out.length <= 1000
 m2 : tx.length <= 1000000
 m3 : 0 <= gn /\ gn <= 1000000000
variable {σ0 : St} {b B G : Nat} {out : List Pc} {t u : Tok} {tx : List UInt8} {gn : Int}
theorem FS.ext (h : FS σ0 b B G out t tx u gn σ) {σ' : St} (hE : Ext σ σ') : FS σ0 b B G out t tx u gn σ' where
 e := h.e.trans hE
 ib := ⟨h.ib.1, Nat.lt_of_lt_of_le h.ib.2 hE.1⟩
 iB := ⟨h.iB.1, Nat.lt_of_lt_of_le h.iB.2 hE.1⟩
 iG := ⟨h.iG.1, Nat.lt_of_lt_of_le h.iG.2 hE.1⟩
 n1 := h.n1
 n2 := h.n2
 n3 := h.n3
 hb := (hE.2 b h.ib.2).trans h.hb
 ht := h.ht.ext hE
 hB := h.hB.same (hE.2 B h.iB.2)
 hu := h.hu.ext hE
 hG := (hE.2 G h.iG.2).trans h.hG
 tn := h.tn
 m1 := h.m1
 m2 := h.m2
 m3 := h.m3
theorem FS.app (h : FS σ0 b B G out t tx u gn σ) (p : Pc) (hl : out.length < 1000) : lk (σ.rt t).H b = some (.arr [.vs (out.map Pc.av) t]) /\ FS σ0 b B G (out ++ [p]) (.id σ.n) tx u gn ((σ.rt t).set b (.arr [.vs (out.map Pc.av ++ [p.av]) (.id σ.n)])) := by
 have hne : ∀ β, β < σ.n -> lk σ.H β ≠ some .tok -> t ≠ .id β := fun β h1 h2 e => by
  have := h.ht
  rw [e] at this
  exact h2 this.2.2
 have kb : lk (σ.rt t).H b = some (.arr [.vs (out.map Pc.av) t]) := (rt_ne h.ht h.ib.2 (hne b h.ib.2 (by rw [h.hb]; simp))).trans h.hb
 have hB2 : lk (σ.rt t).H B = lk σ.H B := rt_ne h.ht h.iB.2 (hne B h.iB.2 (by obtain ⟨a, v, h1, _⟩ := h.hB; rw [h1]; simp))
 have hG2 : lk (σ.rt t).H G = lk σ.H G := rt_ne h.ht h.iG.2 (hne G h.iG.2 (by rw [h.hG]; simp))
 have hn : b ≠ B /\ b ≠ G := ⟨h.n1, h.n2⟩
 have hE := rt_ext h.ht h.e
 have i1 := h.ib
 have i2 := h.iB
 have i3 := h.iG
 refine ⟨kb, ⟨?_, ⟨i1.1, ?_⟩, ⟨i2.1, ?_⟩, ⟨i3.1, ?_⟩, h.n1, h.n2, h.n3, ?_, ?_, ?_, ?_, ?_, ?_, by simp; omega, h.m2, h.m3⟩⟩
 ·exact hE.set i1.1 _
 ·simp only [set_n, rt_n]; omega
 ·simp only [set_n, rt_n]; omega
 ·simp only [set_n, rt_n]; omega
 ·rw [lk_set, if_pos rfl, kb]; simp
 ·exact (rt_tok t h.e.1).set (by rw [kb]; simp) _
 ·exact h.hB.same (by rw [lk_set, if_neg h.n1, hB2])
 ·exact (h.hu.rt h.ht fun τ e => h.tn τ e).set (by rw [kb]; simp) _
 ·rw [lk_set, if_neg h.n2, hG2]; exact h.hG
 ·intro τ e e2
  have := h.hu
  rw [e2] at this
  cases e
  exact absurd this.2.1 (Nat.lt_irrefl _)
theorem FS.gone (h : FS σ0 b B G out t tx u gn σ) (gn' : Int) (hg : 0 <= gn' /\ gn' <= 1000000000) : FS σ0 b B G out t tx u gn' (σ.set G (.arr [.int .i64 gn'])) where
 e := h.e.set h.iG.1 _
 ib := h.ib
 iB := h.iB
 iG := h.iG
 n1 := h.n1
 n2 := h.n2
 n3 := h.n3
 hb := by rw [lk_set, if_neg (fun e => h.n2 e.symm)]; exact h.hb
 ht := h.ht.set (by rw [h.hG]; simp) _
 hB := h.hB.same (by rw [lk_set, if_neg (fun e => h.n3 e.symm)])
 hu := h.hu.set (by rw [h.hG]; simp) _
 hG := by rw [lk_set, if_pos rfl, h.hG]; rfl
 tn := h.tn
 m1 := h.m1
 m2 := h.m2
 m3 := hg
theorem FS.wrote (h : FS σ0 b B G out t tx u gn σ) {σ' : St} {q : List UInt8} (hw : BW B u (tx ++ q) σ σ') (hq : q ≠ []) (hl : (tx ++ q).length <= 1000000) : FS σ0 b B G out t (tx ++ q) (.id σ.n) gn σ' := by
 have hn := hw.n
 have i1 := h.ib
 have i2 := h.iB
 have i3 := h.iG
 have hne : ∀ β, lk σ.H β ≠ some .tok -> u ≠ .id β := fun β h2 e => by
  have := h.hu
  rw [e] at this
  exact h2 this.2.2
 have hBt : lk σ.H B ≠ some .tok := by obtain ⟨a, v, h1, _⟩ := h.hB; rw [h1]; simp
 refine ⟨⟨by have := h.e.1; omega, fun β hβ => ?_⟩, ⟨i1.1, by omega⟩, ⟨i2.1, by omega⟩, ⟨i3.1, by omega⟩, h.n1, h.n2, h.n3, ?_, ?_, hw.bd (by simp [hq]), ?_, ?_, ?_, h.m1, hl, h.m3⟩
 ·rw [hw.o β (by have := h.e.1; omega) (by omega) (fun e => by have := h.hu; rw [e] at this; have := this.1; omega)]
  exact h.e.2 β hβ
 ·rw [hw.o b i1.2 h.n1 (hne b (by rw [h.hb]; simp))]; exact h.hb
 ·refine tokok_mono h.ht (by omega) fun τ e => ?_
  have h1 := h.ht
  rw [e] at h1
  rw [hw.o τ h1.2.1 (fun e2 => by subst e2; exact hBt h1.2.2) (h.tn τ e)]
  exact h1.2.2
 ·exact ⟨h.e.1, hw.k.2⟩
 ·rw [hw.o G i3.2 (fun e => h.n3 e.symm) (hne G (by rw [h.hG]; simp))]; exact h.hG
 ·intro τ e e2
  cases e2
  have h1 := h.ht
  rw [e] at h1
  exact absurd h1.2.1 (Nat.lt_irrefl _)
theorem FS.reset (h : FS σ0 b B G out t tx u gn σ) {x y : AV} : FS σ0 b B G out t [] .ex gn ((σ.set B (.typ 138 [x, y])).set B (.typ 138 [.nilp, .vs [] .ex])) := by
 obtain ⟨a, v, h1, _⟩ := h.hB
 have hBt : lk σ.H B ≠ some .tok := by rw [h1]; simp
 have hB2 : lk (σ.set B (.typ 138 [x, y])).H B = some (.typ 138 [x, y]) := by rw [lk_set, if_pos rfl, h1]; rfl
 refine ⟨(h.e.set h.iB.1 _).set h.iB.1 _, h.ib, h.iB, h.iG, h.n1, h.n2, h.n3, ?_, ?_, ⟨.nilp, .vs [] .ex, ?_, .inl rfl, .inl ⟨rfl, rfl, rfl⟩⟩, trivial, ?_, (fun τ _ e => by cases e), h.m1, by simp, h.m3⟩
 ·rw [lk_set, if_neg (fun e => h.n1 e.symm), lk_set, if_neg (fun e => h.n1 e.symm)]; exact h.hb
 ·exact (h.ht.set hBt _).set (by rw [hB2]; simp) _
 ·rw [lk_set, if_pos rfl, hB2]; rfl
 ·rw [lk_set, if_neg h.n3, lk_set, if_neg h.n3]; exact h.hG
def Kp (b B G : Nat) (σ σ' : St) : Prop := σ.n <= σ'.n /\ ∀ γ x, γ < σ.n -> γ ≠ b -> γ ≠ B -> γ ≠ G -> x ≠ .tok -> lk σ.H γ = some x -> lk σ'.H γ = some x
theorem Kp.refl (b B G : Nat) (σ : St) : Kp b B G σ σ := ⟨Nat.le_refl _, fun _ _ _ _ _ _ _ h => h⟩
theorem Kp.trans {σ1 σ2 : St} (h : Kp b B G σ σ1) (h' : Kp b B G σ1 σ2) : Kp b B G σ σ2 := ⟨Nat.le_trans h.1 h'.1, fun γ x h1 h2 h3 h4 h5 h6 => h'.2 γ x (Nat.lt_of_lt_of_le h1 h.1) h2 h3 h4 h5 (h.2 γ x h1 h2 h3 h4 h5 h6)⟩
theorem Kp.set {σ1 : St} (h : Kp b B G σ σ1) {c : Nat} (hc : c = b \/ c = B \/ c = G) (x : Blk) : Kp b B G σ (σ1.set c x) :=
 ⟨h.1, fun γ y h1 h2 h3 h4 h5 h6 => by rw [lk_set, if_neg (by omega)]; exact h.2 γ y h1 h2 h3 h4 h5 h6⟩
theorem Kp.rt {n0 : Nat} (ht : TokOk n0 σ t) : Kp b B G σ (σ.rt t) :=
 ⟨by rw [rt_n]; omega, fun γ x h1 _ _ _ h5 h6 => by
  rw [rt_ne ht h1 (fun e => by subst e; have := ht.2.2; rw [h6] at this; cases this; exact h5 rfl)]; exact h6⟩
def fl (out : List Pc) (tx : List UInt8) (gn : Int) : List Pc := out ++ (if tx ≠ [] then [⟨2, 0, tx⟩] else []) ++ (if 0 < gn then [⟨3, gn, []⟩] else [])
theorem flush_ok (h : FS σ0 b B G out t tx u gn σ) (hl : out.length <= 900) : ACalls Tryz.prog 104 [.ptr B 0, .ptr b 0, .ptr G 0] σ (fun _ σ' => Kp b B G σ σ' /\ ∃ t', FS σ0 b B G (fl out tx gn) t' [] .ex 0 σ') := by
 obtain ⟨a, v, h1, h2, h3⟩ := h.hB
 refine FOk.calls ok104 (by simp [a104]) (wpc_sound hmix ?_)
 show wpc _ _ _ c104 _ _ _
 simp (disch := first | exact dA | fail) only [↓V0, VV, reduceCtorEq, seval, a104]
 refine callQ (blen_ok h1 h3.ba) ?_
 simp (disch := first | exact dA | fail) only [↓V0, VV, reduceCtorEq, seval, a104]
 generalize hC : ((ACode.rg r104_3).seq ((ACode.cond (.t 12) ((ACode.rg r104_4).seq (.rg r104_5)) .skip))) = C
 have tail : ∀ (out : List Pc) (t : Tok) (σ1 : St) (ρ : Env), FS σ0 b B G out t [] .ex gn σ1 -> Kp b B G σ σ1 -> out.length <= 950 -> ρ 1 = .ptr b 0 -> ρ 2 = .ptr G 0 -> wpc Tryz.prog none 18 C (FPost [] fun _ σ' => Kp b B G σ σ' /\ ∃ t', FS σ0 b B G (out ++ (if 0 < gn then [⟨3, gn, []⟩] else [])) t' [] .ex 0 σ') ρ σ1 := by
  intro out t σ1 ρ h hK hl r1 r2
  subst hC
  have hb := h.hb
  have hG := h.hG
  have m3 := h.m3
  have hll : (out.map Pc.av).length = out.length := List.length_map _
  have hfp := fit_pcs out
  have htg := h.ht.g
  by_cases hg : 0 < gn
  ·obtain ⟨k1, k2⟩ := h.app ⟨3, gn, []⟩ (by omega)
   have k3 := k2.gone 0 (by omega)
   have hG2 := k2.hG
   simp only [Pc.av, Pc.cs] at k1 k2 k3 hG2
   rw [if_pos hg]
   simp (disch := first | exact dA | fail) only [↓V0, VV, reduceCtorEq, seval, a104, r1, r2, hG, hb, ↓eval_app, appA_S, k1, hG2, Pc.av, Pc.cs]
   exact ⟨((hK.trans (Kp.rt h.ht)).set (.inl rfl) _).set (.inr (.inr rfl)) _, _, k3⟩
  ·rw [if_neg hg, List.append_nil]
   have h0 : gn = 0 := by omega
   subst h0
   simp (disch := first | exact dA | fail) only [↓V0, VV, reduceCtorEq, seval, a104, r1, r2, hG, hb]
   exact ⟨hK, _, h⟩
 clear hC
 have m2 := h.m2
 rcases h3 with ⟨rfl, rfl, rfl⟩ | ⟨h4, rfl, τ, rfl⟩
 ·have e : fl out [] gn = out ++ (if 0 < gn then [⟨3, gn, []⟩] else []) := by simp [fl]
  rw [e]
  simp (disch := first | exact dA | fail) only [↓V0, VV, reduceCtorEq, seval, a104, List.length_nil]
  exact tail out t σ _ h (Kp.refl _ _ _ _) (by omega) (by exact wA) (by exact wA)
 ·have e : fl out tx gn = (out ++ [⟨2, 0, tx⟩]) ++ (if 0 < gn then [⟨3, gn, []⟩] else []) := by simp [fl, h4]
  rw [e]
  have hl0 : 0 < tx.length := List.length_pos_iff.2 h4
  have hll : (out.map Pc.av).length = out.length := List.length_map _
  have hfp := fit_pcs out
  have htg := h.ht.g
  have hb := h.hb
  obtain ⟨k1, k2⟩ := h.app ⟨2, 0, tx⟩ (by omega)
  simp only [Pc.av, Pc.cs] at k1 k2
  simp (disch := first | exact dA | fail) only [↓V0, VV, reduceCtorEq, seval, a104]
  refine AW.qx (some 5) (.p 0 (.a 1 (.p 2 (.p 3 (.a 4 (.z 5 .nil)))))) [(b, .arr [.vs (out.map Pc.av) t])] hmix (by decide) (by decide) (SB.cons hb (SB.nil _)) ?_
  simp (disch := first | exact dA | fail) only [↓V0, VV, reduceCtorEq, seval, a104]
  refine callQ (bstring_ok h.hB h.hu (by omega)) ?_
  simp (disch := first | exact dA | fail) only [↓V0, VV, reduceCtorEq, seval, a104]
  refine ⟨SB.cons hb (SB.nil _), ?_⟩
  simp (disch := first | exact dA | fail) only [↓V0, VV, reduceCtorEq, seval, a104, ↓eval_app, appA_S]
  refine ⟨SB.cons k1 (SB.nil _), ?_⟩
  simp (disch := first | exact dA | fail) only [↓V0, VV, reduceCtorEq, seval, a104, k1]
  obtain ⟨a5, v5, h5, _⟩ := k2.hB
  refine (breset_ok h5).mono ?_
  rintro _ _ ⟨_, rfl⟩
  simp (disch := first | exact dA | fail) only [↓V0, VV, reduceCtorEq, seval, a104]
  exact tail _ _ _ _ k2.reset ((((Kp.rt h.ht).set (.inl rfl) _).set (.inr (.inl rfl)) _).set (.inr (.inl rfl)) _) (by simp; omega) (by exact wA) (by exact wA)
def FR : List Pc -> List Pc -> List UInt8 -> Int -> List Pc -> Prop
 | [], out, tx, gn, fin => fl out tx gn = fin
 | p :: r, out, tx, gn, fin =>
  (p.k = 2 /\ p.tx ≠ [] /\ (tx ++ p.tx).length <= 1000000 /\ FR r out (tx ++ p.tx) gn fin) \/ (p.k = 3 /\ 0 <= p.n /\ gn + p.n <= 1000000000 /\ FR r out tx (gn + p.n) fin) \/
   (p.k = 1 /\ (∀ q, (fl out tx gn).getLast? = some q -> q.k ≠ 1) /\ FR r (fl out tx gn ++ [p]) [] 0 fin)
theorem fl_len (out : List Pc) (tx : List UInt8) (gn : Int) : (fl out tx gn).length <= out.length + 2 := by
 unfold fl
 split <;> split <;> simp
structure FI (σ : St) (d fin : List Pc) (i : Nat) (σ' : St) : Prop where
 ex : ∃ out t tx u gn, FS σ σ.n (σ.n + 1) (σ.n + 2) out t tx u gn σ' /\ out.length <= 3 * i /\ FR (d.drop i) out tx gn fin
theorem pcs_pur (l : List Pc) : purL (l.map Pc.av) = true := by
 induction l with
 | nil => rfl
 | cons p l ih => simp only [List.map_cons, purL, ih, Bool.and_true]; rfl
theorem last_of {out : List Pc} (h : out ≠ []) : (out.map Pc.av)[out.length - 1]? = some ((out.getLast h).av) := by
 rw [List.getElem?_map, <- List.getLast?_eq_getElem?, List.getLast?_eq_some_getLast h]; rfl
theorem form_ok (d fin : List Pc) (tk : Tok) (hd : d.length <= 100) (h : FR d [] [] 0 fin) : ACalls Tryz.prog 50 [.vs (d.map Pc.av) tk] σ (fun v σ' => v = .vs (fin.map Pc.av) .no /\ σ' = σ) := by
 refine ACalls.quietX ?_ (by simp only [AV.pur, Tok.pur, pcs_pur]; rfl)
 have hll : (d.map Pc.av).length = d.length := List.length_map _
 have hgs : ∀ i (h : i < d.length), (d.map Pc.av)[i]? = some (.agg [.int .u8 d[i].k, .int .i64 d[i].n, .str d[i].tx]) := fun i h => by simp [Pc.av, Pc.cs, h]
 refine FOk.calls ok50 (by simp [a50]) (wpc_sound hmix ?_)
 show wpc _ _ _ c50 _ _ _
 simp (disch := first | exact dA | fail) only [↓V0, VV, reduceCtorEq, seval, a50, hll, ↓eval_allocT]
 refine AW.upto hmix (fun i ρ σ' => FI σ d fin i σ' /\ ρ 3 = .ptr σ.n 0 /\ ρ 4 = .ptr (σ.n + 1) 0 /\ ρ 5 = .ptr (σ.n + 2) 0 /\
   ρ 6 = .fn 104 [.ptr (σ.n + 1) 0, .ptr σ.n 0, .ptr (σ.n + 2) 0] /\ ρ 11 = .vs (d.map Pc.av) tk /\ ρ 12 = .int .i64 (d.length : Nat) /\ ρ 13 = .int .i64 (i : Nat)) d.length ⟨⟨⟨[], .ex, [], .ex, 0, ?_, by simp, by simpa using h⟩⟩, by exact wA, by exact wA, by exact wA, by exact wA, by exact wA, by exact wA, by exact wA⟩ (fun i ρ σ' hi h => ?_) (fun ρ σ' h => ?_)
 ·exact ⟨by exact eA, ⟨by omega, by simp only [set_n, new_n]; omega⟩, ⟨by omega, by simp only [set_n, new_n]; omega⟩, ⟨by omega, by simp only [set_n, new_n]; omega⟩, by omega, by omega, by omega, by simp (disch := first | exact dA | fail) only [↓V0, VV, reduceCtorEq, seval, a50, List.map_nil], trivial, ⟨.nilp, .vs [] .ex, by simp (disch := first | exact dA | fail) only [↓V0, VV, reduceCtorEq, seval, a50], .inl rfl, .inl ⟨rfl, rfl, rfl⟩⟩, trivial, by simp (disch := first | exact dA | fail) only [↓V0, VV, reduceCtorEq, seval, a50], (fun τ e => by cases e), by simp, by simp, by omega⟩
 ·obtain ⟨⟨out, t, tx, u, gn, hF, hol, hR⟩, r3, r4, r5, r6, r11, r12, r13⟩ := h
  have hgi := hgs i hi
  rw [List.drop_eq_getElem_cons hi] at hR
  generalize d[i] = p at *
  obtain ⟨k, n, q⟩ := p
  simp only at hgi
  simp (disch := first | exact dA | fail) only [↓V0, VV, reduceCtorEq, seval, a50, r11, r12, r13, hgi]
  generalize hσ2 : St.set _ _ _ = σ2
  have hE : Ext σ' σ2 := by rw [<- hσ2]; exact eA
  have kp : lk σ2.H σ'.n = some (.arr [.int .u8 k, .int .i64 n, .str q]) := by rw [<- hσ2]; simp (disch := first | exact dA | fail) only [↓V0, VV, reduceCtorEq, seval, a50]
  have hF2 := hF.ext hE
  have hFn : σ'.n < σ2.n := by rw [<- hσ2]; simp only [set_n, new_n]; omega
  clear hσ2
  have hG := hF2.hG
  have m3 := hF2.m3
  rcases hR with ⟨rfl, hq, hl, hR⟩ | ⟨rfl, h0, hl, hR⟩ | ⟨rfl, hne, hR⟩
  ·obtain ⟨a, v, h1, h2, h3⟩ := hF2.hB
   simp only at hq hl hR
   have hl2 : tx.length + q.length <= 1099511627776 := by rw [List.length_append] at hl; omega
   simp (disch := first | exact dA | fail) only [↓V0, VV, reduceCtorEq, seval, a50, r4, kp]
   refine (bws_ok h1 h2 h3.ba hF2.hu hq hl2 hF2.iB.2).mono ?_
   rintro _ σ3 ⟨rfl, hw⟩
   have hF3 := hF2.wrote hw hq hl
   simp (disch := first | exact dA | fail) only [↓V0, VV, reduceCtorEq, seval, a50, r3, r4, r5, r6, r11, r12, r13]
   exact ⟨⟨⟨out, t, _, _, gn, hF3, by omega, hR⟩⟩, rfl⟩
  ·simp only at h0 hl hR
   have hF3 := hF2.gone (gn + n) (by omega)
   simp (disch := first | exact dA | fail) only [↓V0, VV, reduceCtorEq, seval, a50, r3, r4, r5, r6, r11, r12, r13, kp, hG]
   exact ⟨⟨⟨out, t, _, _, _, hF3, by omega, hR⟩⟩, rfl⟩
  ·simp (disch := first | exact dA | fail) only [↓V0, VV, reduceCtorEq, seval, a50, r3, r4, r5, r6, r11, r12, r13, kp]
   have i1 := hF.ib
   have i2 := hF.iB
   have i3 := hF.iG
   refine (flush_ok hF2 (by omega)).mono ?_
   rintro _ σ3 ⟨hK, t', hF3⟩
   have kp3 := hK.2 _ _ hFn (by omega) (by omega) (by omega) (by simp) kp
   have hfl := fl_len out tx gn
   generalize fl out tx gn = out' at *
   have hb3 := hF3.hb
   have hll' : (out'.map Pc.av).length = out'.length := List.length_map _
   have hfp := fit_pcs out'
   have htg := hF3.ht.g
   obtain ⟨k1, k2⟩ := hF3.app ⟨1, n, q⟩ (by omega)
   simp only [Pc.av, Pc.cs] at k1 k2
   by_cases h0 : out' = []
   ·subst h0
    simp only [List.map_nil, List.nil_append] at hb3 hfp k1 k2 hR
    simp (disch := first | exact dA | fail) only [↓V0, VV, reduceCtorEq, seval, a50, r3, r4, r5, r6, r11, r12, r13, hb3, kp3, ↓eval_app, appA_S, k1]
    exact ⟨⟨⟨_, _, _, _, _, k2, by simp only [List.length_singleton]; omega, hR⟩⟩, rfl⟩
   ·have hp := List.length_pos_iff.2 h0
    have hla := last_of h0
    have hne2 := hne _ (List.getLast?_eq_some_getLast h0)
    have hcast : ((out'.map Pc.av).length : Int) - 1 = ((out'.length - 1 : Nat) : Int) := by rw [hll']; omega
    generalize out'.getLast h0 = z at *
    simp (disch := first | exact dA | fail) only [↓V0, VV, reduceCtorEq, seval, a50, r3, r4, r5, r6, r11, r12, r13, hb3, kp3, hcast, hla, Pc.av, Pc.cs, ↓eval_app, appA_S, k1]
    exact ⟨⟨⟨_, _, _, _, _, k2, by simp only [List.length_append, List.length_singleton]; omega, hR⟩⟩, rfl⟩
 ·obtain ⟨⟨out, t, tx, u, gn, hF, hol, hR⟩, r3, r4, r5, r6, r11, r12, r13⟩ := h
  rw [List.drop_length] at hR
  simp (disch := first | exact dA | fail) only [↓V0, VV, reduceCtorEq, seval, a50, r11, r12, r13, r6]
  refine (flush_ok hF (by omega)).mono ?_
  rintro _ σ3 ⟨_, t', hF3⟩
  rw [show fl out tx gn = fin from hR] at hF3
  have hb3 := hF3.hb
  simp (disch := first | exact dA | fail) only [↓V0, VV, reduceCtorEq, seval, a50, r3, hb3]
  exact ⟨er_pcs _ _, hF3.e⟩
end Go.Proofs.YtekhblefchceaaaGreat.AM

