/- Joined: E1, E2, E3. -/
import Derived.Test.YtekhblefchceaaaGreatNA
import Derived.Test.YtekhblefchceaaaGreatDL
set_option linter.unusedVariables false
set_option linter.unusedSimpArgs false
/- strings.Builder: contracts of copyCheck and String, whose operations the abstract machine lacks. -/
namespace Go.Proofs
open Go.Shelf Go.RowKit
section
variable {P : Program} {ρ : Ren}
set_option maxHeartbeats 1000000 in
set_option maxRecDepth 100000 in
theorem Any.Builder_String_exact (L : Lays.n169 P ρ) (X : Builder.Extra P ρ) (b g cap : Nat) (p : Value) (cur : Array Value) (fz : Nat × Nat) (l : List UInt8) (w : World)
  (hbk : w.heap[b]? = some (.cells #[p, .slice (some ⟨g, 0, none⟩) l.length cap] (ρ.t 72) (0, 0))) (hg : w.heap[g]? = some (.cells cur (ρ.t 5) fz)) (h0 : l ≠ []) (hc : l.length <= cap) (hn : l.length <= cur.size) (h63 : l.length <= 9223372036854775807)
  (hcell : ∀ (j : Nat) (x : UInt8), l[j]? = some x -> cur[j]? = some (.int .u8 x.toNat)) :
  Calls P (ρ.f 169) #[.pointer (some ⟨b, 0, none⟩)] w fun e w' => e = .returned (.string ⟨l.toArray⟩) /\ w' = w.drew.freeze ⟨g, 0, none⟩ l.length := by
 have hl0 : l.length ≠ 0 := by simpa using h0
 have c1 : w.drew.cell? ⟨b, 1, none⟩ = some (.slice (some ⟨g, 0, none⟩) l.length cap) := by
  have : w.drew.heap[b]? = some (.cells #[p, .slice (some ⟨g, 0, none⟩) l.length cap] (ρ.t 72) (0, 0)) := hbk
  rw [Lib.cell_of_heap this]; rfl
 have hSD : (Builtin.unsafeSliceData_ #[(ρ.t 37)] (ρ.t 127) #[.slice (some ⟨g, 0, none⟩) l.length cap]).run P w.drew = .ok (.pointer (some ⟨g, 0, none⟩)) w.drew :=
  Lib.run_unsafeSliceData_row _ _ _ _ _ _ (by omega)
 have hUS : (Builtin.unsafeString_ #[(ρ.t 127), (ρ.t 3)] (ρ.t 9) #[.pointer (some ⟨g, 0, none⟩), .int .i64 l.length]).run P w.drew = .ok (.string ⟨l.toArray⟩) (w.drew.freeze ⟨g, 0, none⟩ l.length) := by
  have hg' : w.drew.heap[g]? = some (.cells cur (ρ.t 5) fz) := hg
  refine Lib.run_unsafeString_row w.drew (ρ.t 127) (ρ.t 3) (ρ.t 9) (ρ.t 5) L.t127 X.cellsByte g cur.size (by simp [World.shape?, hg']) l h0 hn h63 ?_
  intro j x hx
  have e : ((⟨g, 0, none⟩ : Addr).add j) = ⟨g, j, none⟩ := by
   unfold Addr.add
   by_cases hj : j = 0
   ·subst hj; simp
   ·simp [hj]
  rw [e, Lib.cell_of_heap hg']
  exact hcell j x hx
 have mixed := L.mixed
 have t72 := L.t72; have a72 := L.a72; have z72 := L.z72; have v72 := L.v72; have u72 := run_underlying L.t72
 have t70 := L.t70; have a70 := L.a70; have z70 := L.z70; have v70 := L.v70; have u70 := run_underlying L.t70
 have t37 := L.t37; have a37 := L.a37; have z37 := L.z37; have v37 := L.v37; have u37 := run_underlying L.t37
 have t127 := L.t127; have a127 := L.a127; have z127 := L.z127; have v127 := L.v127; have u127 := run_underlying L.t127
 have t3 := L.t3; have a3 := L.a3; have z3 := L.z3; have v3 := L.v3; have u3 := run_underlying L.t3
 have t9 := L.t9; have a9 := L.a9; have z9 := L.z9; have v9 := L.v9; have u9 := run_underlying L.t9
 have t5 := X.t5; have a5 := X.a5; have z5 := X.z5; have v5 := X.v5; have u5 := run_underlying X.t5
 go_enter L.f169, Body.n169_ntmps ρ
 go_wp2
 go_region_o
 all_goals (go_wp2; go_ret; exact ⟨rfl, rfl⟩)
end
end Go.Proofs
namespace Go.Proofs.YtekhblefchceaaaGreat.AM
open Go Go.Proofs Go.RowKit
variable {P : Program} {σ : St}
theorem rel_freeze {g : Gh} {h : Heap} {τ : Nat} (r : Rel P g σ h) (hk : lk σ.H τ = some .tok) (h' : Heap) (hsz : h'.size = h.size)
  (hoth : ∀ b, b ≠ g.bl τ -> h'[b]? = h[b]?) (hcs : ∀ cs e z, h[g.bl τ]? = some (.cells cs e z) -> z.2 <= g.fr τ -> ∃ z', h'[g.bl τ]? = some (.cells cs e z') /\ z'.2 <= g.fr τ) :
  Rel P g σ h' /\ Evo g σ h g σ h' := by
 obtain ⟨cs, e, z, ho, h0, h1, h2, h3⟩ := r.blk _ _ hk
 obtain ⟨z', ho', hz'⟩ := hcs cs e z ho h3
 have hcc : ∀ b i, hc h' b i = hc h b i := fun b i => by
  unfold hc
  by_cases hb : b = g.bl τ
  ·subst hb; rw [ho, ho']
  ·rw [hoth b hb]
 have hic : ∀ b i v, IC g σ.H h b i v -> IC g σ.H h' b i v := fun b i v hi => ⟨by rw [hcc]; exact hi.1, hi.2⟩
 refine ⟨⟨r.lt, r.inj, fun β k hk' => ?_⟩, Nat.le_refl _, g.le_refl _, hic, fun b o hd => ⟨?_, hd.2⟩, by omega, fun b c e2 z2 hc => ?_⟩
 ·by_cases hb : g.bl β = g.bl τ
  ·have := r.inj β τ k .tok hk' hk hb
   subst this
   rw [hk'] at hk
   cases hk
   exact ⟨cs, e, z', ho', h0, h1, h2, hz'⟩
  ·rw [hoth _ hb]
   exact (r.blk β k hk').mono (Nat.le_refl _) (g.le_refl _) (r.lt β k hk') hic
 ·rw [hoth b (fun e => hd.2 τ _ hk e.symm)]; exact hd.1
 ·by_cases hb : b = g.bl τ
  ·subst hb
   rw [ho] at hc
   cases hc
   exact ⟨_, z', ho', rfl⟩
  ·exact ⟨c, z2, by rw [hoth b hb]; exact hc, rfl⟩
theorem arr2 {cs : Array Value} (h : cs.size = 2) : ∃ a b, cs = #[a, b] := by
 refine ⟨cs[0], cs[1], Array.ext (by simp [h]) fun i h1 h2 => ?_⟩
 have : i = 0 \/ i = 1 := by simp at h2; omega
 rcases this with rfl | rfl <;> rfl
theorem vrl_ptr {g : Gh} {w : World} {β : Nat} {cargs : List Value} (h : VRL g σ w [.ptr β 0] cargs) : cargs = [.pointer (some ⟨g.bl β, 0, none⟩)] := by
 obtain ⟨h1, h2⟩ := h
 match cargs, h1 with
 | [a], _ =>
  have ha := h2 0 _ a rfl rfl
  cases ha
  rfl
theorem typ2 {g : Gh} {w : World} {β : Nat} {a b : AV} (r : Rel P g σ w.heap) (hk : lk σ.H β = some (.typ 138 [a, b])) :
  ∃ p v, w.heap[g.bl β]? = some (.cells #[p, v] 138 (0, 0)) /\ VRs g σ w a p /\ VRs g σ w b v /\ (b.isVs = true -> v = .slice none 0 0) := by
 obtain ⟨cs, ho, hs, hv⟩ := rel_typ r hk
 obtain ⟨p, v, rfl⟩ := arr2 hs
 exact ⟨p, v, ho, (hv 0 _ _ rfl rfl).1, (hv 1 _ _ rfl rfl).1, (hv 1 _ _ rfl rfl).2⟩
theorem bstr_ok {β τ : Nat} {a : AV} {s : List UInt8} (hk : lk σ.H β = some (.typ 138 [a, .bs s (.id τ)])) (ht : lk σ.H τ = some .tok) (h0 : s ≠ []) (h63 : s.length <= 9223372036854775807) :
  ACalls Tryz.prog 66 [.ptr β 0] σ (fun v σ' => v = .str s /\ σ' = σ) :=
 ⟨⟨Tryz.f66, Tryz.func66, by kernel_rfl, by kernel_rfl⟩, ⟨_, _, rfl, rfl⟩, fun g w cargs r hl => by
  obtain rfl := vrl_ptr hl
  obtain ⟨p, v, ho, _, hv, _⟩ := typ2 r hk
  cases hv with
  | bs _ _ b off cap hcap hi hT =>
  obtain ⟨hb, rfl, hty, hfr⟩ := hT.2
  obtain ⟨cs, e, z, h1, h2, h3, h4, h5⟩ := r.blk _ _ ht
  subst hb
  have he : e = 5 := h2.trans hty
  subst he
  have hC := Any.Builder_String_exact { Tryz.lays105 with } Tryz.Builder_Extra_105 (g.bl β) (g.bl τ) cap p cs z s w ho h1 h0 hcap (by omega) h63 (fun j x hx => by
   have := (hi j x hx).1
   unfold hc at this
   rw [h1] at this
   simpa using this)
  have h1' := (callsIn_wide (n := 0)).2 hC
  refine CallsIn.mono h1' fun e' w' hp => ?_
  obtain ⟨rfl, rfl⟩ := hp
  have hl0 : s.length ≠ 0 := by simpa using h0
  have hheap : (w.drew.freeze ⟨g.bl τ, 0, none⟩ s.length).heap = w.heap.modify (g.bl τ) (fun
   | .cells c elem (lo, hi) => .cells c elem (if lo == hi then (0, 0 + s.length) else (min lo 0, max hi (0 + s.length)))
   | o => o) := by
   unfold World.freeze
   rw [if_neg hl0]
   rfl
  obtain ⟨r', e'⟩ := rel_freeze r ht (w.drew.freeze ⟨g.bl τ, 0, none⟩ s.length).heap (by rw [hheap]; simp) (fun b hb => by
    rw [hheap, Array.getElem?_modify, if_neg (fun e => hb e.symm)]) (fun cs2 e2 z2 hc2 hz2 => by
    rw [hheap, Array.getElem?_modify, if_pos rfl, hc2]
    obtain ⟨z21, z22⟩ := z2
    refine ⟨_, rfl, ?_⟩
    simp only at hz2
    split
    ·simp only; omega
    ·simp only; omega)
  exact ⟨.str s, σ, g, ⟨rfl, rfl⟩, r', .str s, ⟨e', by unfold World.freeze; split <;> rfl, by unfold World.freeze; split <;> rfl⟩⟩⟩
theorem bstr_nil {β : Nat} {a : AV} {t : Tok} (hk : lk σ.H β = some (.typ 138 [a, .vs [] t])) : ACalls Tryz.prog 66 [.ptr β 0] σ (fun v σ' => v = .str [] /\ σ' = σ) := by
 refine ACalls.of_below (cX := .string ⟨([] : List UInt8).toArray⟩) ⟨Tryz.f66, Tryz.func66, by kernel_rfl, by kernel_rfl⟩ (fun g w => .str _) fun g w cargs r hv => ?_
 obtain rfl := vrl_ptr hv
 obtain ⟨p, v, ho, _, _, hn⟩ := typ2 r hk
 obtain rfl := hn rfl
 exact Any.Builder_String_nil { Tryz.lays105 with } Tryz.Builder_Extra_105 w.heap.size (g.bl β) p w ho
theorem bchk_used {β : Nat} {v : AV} (hk : lk σ.H β = some (.typ 138 [.ptr β 0, v])) : ACalls Tryz.prog 126 [.ptr β 0] σ (fun v σ' => v = .tup [] /\ σ' = σ) :=
 ⟨⟨Tryz.f126, Tryz.func126, by kernel_rfl, by kernel_rfl⟩, ⟨_, _, rfl, rfl⟩, fun g w cargs r hl => by
  obtain rfl := vrl_ptr hl
  obtain ⟨p, u, ho, hp, _, _⟩ := typ2 r hk
  cases hp
  have hC := Any.Builder_copyCheck_used { Tryz.lays105 with } Tryz.Builder_Extra_105.toX72 (g.bl β) w (by rw [Lib.cell_of_heap ho]; rfl)
  refine CallsIn.mono ((callsIn_wide (n := 0)).2 hC) fun e' w' hp => ?_
  obtain ⟨rfl, rfl⟩ := hp
  exact ⟨.tup [], σ, g, ⟨rfl, rfl⟩, r, .tup [] #[] rfl (fun i x c h => by simp at h), EvoW.refl _ _ _⟩⟩
theorem bchk_fresh {β : Nat} {v : AV} (hk : lk σ.H β = some (.typ 138 [.nilp, v])) : ACalls Tryz.prog 126 [.ptr β 0] σ (fun x σ' => x = .tup [] /\ σ' = σ.set β (.typ 138 [.ptr β 0, v])) :=
 ⟨⟨Tryz.f126, Tryz.func126, by kernel_rfl, by kernel_rfl⟩, ⟨_, _, rfl, rfl⟩, fun g w cargs r hl => by
  obtain rfl := vrl_ptr hl
  obtain ⟨p, u, ho, hp, hu, hn⟩ := typ2 r hk
  cases hp
  have hC := Any.Builder_copyCheck_fresh { Tryz.lays105 with } Tryz.Builder_Extra_105.toX72 (g.bl β) w (by rw [Lib.cell_of_heap ho]; rfl) (by simp [World.shape?, ho]; rfl) (Lib.frozen_of_heap ho 0)
  refine CallsIn.mono ((callsIn_wide (n := 0)).2 hC) fun e' w' hp => ?_
  obtain ⟨rfl, rfl⟩ := hp
  have hw : ∀ b, (w.setCell ⟨g.bl β, 0, none⟩ (.pointer (some ⟨g.bl β, 0, none⟩))).heap[b]? = if g.bl β = b then some (.cells #[.pointer (some ⟨g.bl β, 0, none⟩), u] 138 (0, 0)) else w.heap[b]? := fun b => by
   unfold World.setCell
   rw [Array.getElem?_modify]
   split
   ·rename_i e; subst e; rw [ho]; rfl
   ·rfl
  obtain ⟨r', e'⟩ := rel_set r hk (by simp) (.typ 138 [.ptr β 0, v]) (by simp) (w.setCell ⟨g.bl β, 0, none⟩ (.pointer (some ⟨g.bl β, 0, none⟩))).heap (by simp [World.setCell]) (fun b hb => by rw [hw, if_neg (fun e => hb e.symm)])
   ⟨_, by rw [hw, if_pos rfl], rfl, fun i x c hx hc => by
    match i, hx, hc with
    | 0, hx, hc =>
     simp at hx hc; subst hx; subst hc
     exact ⟨.ptr β 0 (r.lt _ _ hk), fun h => by simp [AV.isVs] at h⟩
    | 1, hx, hc =>
     simp at hx hc; subst hx; subst hc
     exact ⟨hu, hn⟩
    | i + 2, hx, hc => simp at hx⟩
   (fun c e z hc => by rw [ho] at hc; cases hc; exact ⟨#[.pointer (some ⟨g.bl β, 0, none⟩), u], (0, 0), by rw [hw, if_pos rfl], rfl⟩)
  exact ⟨.tup [], _, g, ⟨rfl, rfl⟩, r', .tup [] #[] rfl (fun i x c h => by simp at h), ⟨e', rfl, rfl⟩⟩⟩
end Go.Proofs.YtekhblefchceaaaGreat.AM

/- strings.Builder: Len, Reset, WriteString. -/
set_option maxRecDepth 20000
namespace Go.Proofs.YtekhblefchceaaaGreat.AM
open Go Go.Proofs
variable {σ : St}
theorem nv1 (x : AV) (b : Bool) : (noVs [x] || b) = (!x.isVs || b) := by simp [noVs]
theorem appB_ne {s q : List UInt8} {t : Tok} {v : AV} (h : BA s t v) (ht : TokG σ t) (hq : q ≠ []) (hb : s.length + q.length <= 1099511627776) : appB v (.str q) σ = .v (.bs (s ++ q) (.id σ.n)) (σ.rt t) := by
 have hb2 : s.length + q.length <= maxBytes / 4 := by unfold maxBytes; omega
 rcases h with rfl | ⟨rfl, rfl⟩
 ·simp [appB, evalOp, Opd.ev, hq, hb2, retok_rt ht.ok]
 ·simp only [List.length_nil, Nat.zero_add] at hb2
  simp [appB, evalOp, Opd.ev, hq, hb2, retok_rt ht.ok]
structure BW (β : Nat) (u : Tok) (s : List UInt8) (σ σ' : St) : Prop where
 n : σ'.n = σ.n + 1
 b : lk σ'.H β = some (.typ 138 [.ptr β 0, .bs s (.id σ.n)])
 k : TokOk σ.n σ' (.id σ.n)
 o : ∀ γ, γ < σ.n -> γ ≠ β -> u ≠ .id γ -> lk σ'.H γ = lk σ.H γ
theorem bws_ok {n0 β : Nat} {a v : AV} {s q : List UInt8} {u : Tok} (hk : lk σ.H β = some (.typ 138 [a, v])) (ha : a = .nilp \/ a = .ptr β 0) (hv : BA s u v) (hu : TokOk n0 σ u) (hq : q ≠ []) (hb : s.length + q.length <= 1099511627776) (hlt : β < σ.n) :
  ACalls Tryz.prog 64 [.ptr β 0, .str q] σ (fun x σ' => x = .tup [.int .i64 q.length, .nilif] /\ BW β u (s ++ q) σ σ') := by
 have key : ∀ σ1 : St, σ1.n = σ.n -> lk σ1.H β = some (.typ 138 [.ptr β 0, v]) -> TokOk n0 σ1 u -> (∀ γ, γ ≠ β -> lk σ1.H γ = lk σ.H γ) -> 
   (lk (σ1.rt u).H β = some (.typ 138 [.ptr β 0, v]) /\ BW β u (s ++ q) σ ((σ1.rt u).set β (.typ 138 [.ptr β 0, .bs (s ++ q) (.id σ.n)]))) := by
  intro σ1 h1 h2 h3 h4
  have h5 := rt_lk h3 h2 (by simp) (by omega)
  refine ⟨h5, ⟨by simp only [set_n, rt_n, h1], by simp only [lk_set, if_true, h5, Option.map_some], ?_, fun γ g1 g2 g3 => ?_⟩⟩
  ·have := (rt_tok (σ := σ1) u (Nat.le_refl _)).set (β := β) (by rw [h5]; simp) (.typ 138 [.ptr β 0, .bs (s ++ q) (.id σ.n)])
   rw [h1] at this
   exact this
  ·rw [lk_set, if_neg (fun e => g2 e.symm), <- h4 γ g2]
   cases u with
   | no => exact h3.elim
   | ex => simp only [St.rt, lk_new]; rw [if_neg (by omega)]
   | id τ => 
    simp only [St.rt, lk_new]; rw [if_neg (by show ¬ σ1.n = γ; omega), lk_del, if_neg (fun e => g3 (by rw [e]))]
 rcases ha with rfl | rfl
 ·refine FOk.calls ok64 (by simp [a64]) (wpc_sound hmix ?_)
  show wpc _ _ _ c64 _ _ _
  simp (disch := first | exact dA | fail) only [↓V0, VV, reduceCtorEq, seval, a64]
  refine (bchk_fresh hk).mono ?_
  rintro _ _ ⟨rfl, rfl⟩
  have hu2 : TokOk n0 (σ.set β (.typ 138 [.ptr β 0, v])) u := hu.set (by rw [hk]; simp) _
  obtain ⟨k1, k2⟩ := key (σ.set β (.typ 138 [.ptr β 0, v])) rfl (by simp only [lk_set, if_true, hk, Option.map_some]) hu2 (fun γ h => by rw [lk_set, if_neg (fun e => h e.symm)])
  simp (disch := first | exact dA | fail) only [↓V0, VV, reduceCtorEq, seval, a64, hk, appB_ne hv hu2.g hq hb, k1, nv1, AV.isVs, Bool.or_true, Bool.true_or, Bool.not_false]
  exact k2
 ·refine FOk.calls ok64 (by simp [a64]) (wpc_sound hmix ?_)
  show wpc _ _ _ c64 _ _ _
  simp (disch := first | exact dA | fail) only [↓V0, VV, reduceCtorEq, seval, a64]
  refine callQ (bchk_used hk) ?_
  obtain ⟨k1, k2⟩ := key σ rfl hk hu (fun γ h => rfl)
  simp (disch := first | exact dA | fail) only [↓V0, VV, reduceCtorEq, seval, a64, hk, appB_ne hv hu.g hq hb, k1, nv1, AV.isVs, Bool.or_true, Bool.true_or, Bool.not_false]
  exact k2
end Go.Proofs.YtekhblefchceaaaGreat.AM

/- delta.form and delta.Normalize. -/
set_option maxRecDepth 20000
namespace Go.Proofs.YtekhblefchceaaaGreat.AM
open Go Go.Proofs
variable {σ : St}
theorem eval_allocT (ρ : Env) (σ : St) (t : Nat) (z : List AV) : evalOp ρ σ (.allocT t z) = .v (.ptr σ.n 0) (σ.new (.typ t z)) := rfl
def BB (tx : List UInt8) (u : Tok) (v : AV) : Prop := (tx = [] /\ v = .vs [] .ex /\ u = .ex) \/ (tx ≠ [] /\ v = .bs tx u /\ ∃ τ, u = .id τ)
theorem BB.ba {tx : List UInt8} {u : Tok} {v : AV} (h : BB tx u v) : BA tx u v := by
 rcases h with ⟨h1, h2, h3⟩ | ⟨_, h2, _⟩
 ·subst h3; exact .inr ⟨h1, h2⟩
 ·exact .inl h2
def BdAt (β : Nat) (tx : List UInt8) (u : Tok) (σ : St) : Prop := ∃ a v, lk σ.H β = some (.typ 138 [a, v]) /\ (a = .nilp \/ a = .ptr β 0) /\ BB tx u v
theorem BdAt.same {β : Nat} {tx : List UInt8} {u : Tok} {σ' : St} (h : BdAt β tx u σ) (e : lk σ'.H β = lk σ.H β) : BdAt β tx u σ' := by
 obtain ⟨a, v, h1, h2⟩ := h
 exact ⟨a, v, e.trans h1, h2⟩
theorem BW.bd {β : Nat} {u : Tok} {s : List UInt8} {σ' : St} (h : BW β u s σ σ') (hs : s ≠ []) : BdAt β s (.id σ.n) σ' :=
 ⟨_, _, h.b, .inr rfl, .inr ⟨hs, rfl, _, rfl⟩⟩
theorem bstring_ok {n0 β : Nat} {tx : List UInt8} {u : Tok} (h : BdAt β tx u σ) (hu : TokOk n0 σ u) (hb : tx.length <= 9223372036854775807) : ACalls Tryz.prog 66 [.ptr β 0] σ (fun v σ' => v = .str tx /\ σ' = σ) := by
 obtain ⟨a, v, h1, h2, h3⟩ := h
 rcases h3 with ⟨rfl, rfl, rfl⟩ | ⟨h4, rfl, τ, rfl⟩
 ·exact bstr_nil h1
 ·exact bstr_ok h1 hu.2.2 h4 hb
variable {σ0 : St} {b B G : Nat} {out : List Pc} {t u : Tok} {tx : List UInt8} {gn : Int}
def fl (out : List Pc) (tx : List UInt8) (gn : Int) : List Pc := out ++ (if tx ≠ [] then [⟨2, 0, tx⟩] else []) ++ (if 0 < gn then [⟨3, gn, []⟩] else [])
end Go.Proofs.YtekhblefchceaaaGreat.AM

