/- Joined: E4, E5, E6. -/
import Derived.Test.YtekhblefchceaaaGreatEA
import Derived.Test.YtekhblefchceaaaGreatDL
set_option linter.unusedVariables false
set_option linter.unusedSimpArgs false
/- delta.Normalize of a delta of patch.Between's. -/
set_option maxRecDepth 20000
namespace Go.Proofs.YtekhblefchceaaaGreat.AM
open Go Go.Proofs
variable {σ : St}
end Go.Proofs.YtekhblefchceaaaGreat.AM

/- apply.parts and apply.Apply. -/
set_option maxRecDepth 20000
namespace Go.Proofs.YtekhblefchceaaaGreat.AM
open Go Go.Proofs
variable {σ : St}
theorem BW.other {β : Nat} {u : Tok} {s : List UInt8} {σ' : St} {n0 : Nat} (hw : BW β u s σ σ') (hu : TokOk n0 σ u) {γ : Nat} {x : Blk} (hγ : lk σ.H γ = some x) (hx : x ≠ .tok) (lt : γ < σ.n) (ne : γ ≠ β) : lk σ'.H γ = some x := by
 rw [hw.o γ lt ne (fun e => by subst e; have := hu.2.2; rw [hγ] at this; cases this; exact hx rfl)]; exact hγ
theorem BW.otok {β : Nat} {u u2 : Tok} {s : List UInt8} {σ' : St} {n0 : Nat} (hw : BW β u s σ σ') (hk : lk σ.H β ≠ some .tok) (h2 : TokOk n0 σ u2) (hd : ∀ τ, u = .id τ -> u2 ≠ .id τ) : TokOk n0 σ' u2 /\ ∀ τ, Tok.id σ.n = .id τ -> u2 ≠ .id τ := by
 refine ⟨tokok_mono h2 (by have := hw.n; omega) fun τ e => ?_, fun τ e e2 => ?_⟩
 ·rw [e] at h2
  rw [hw.o τ h2.2.1 (fun e2 => by subst e2; exact hk h2.2.2) (fun e3 => hd τ e3 e)]
  exact h2.2.2
 ·cases e
  rw [e2] at h2
  exact absurd h2.2.1 (Nat.lt_irrefl _)
theorem BdAt.nt {β : Nat} {tx : List UInt8} {u : Tok} (h : BdAt β tx u σ) : lk σ.H β ≠ some .tok := by
 obtain ⟨a, v, h1, _⟩ := h
 rw [h1]; simp
theorem BdAt.keep {β γ : Nat} {tx s : List UInt8} {u u2 : Tok} {n0 : Nat} {σ' : St} (h : BdAt γ tx u2 σ) (hw : BW β u s σ σ') (hu : TokOk n0 σ u) (lt : γ < σ.n) (ne : γ ≠ β) : BdAt γ tx u2 σ' := by
 obtain ⟨a, v, h1, h2⟩ := h
 exact ⟨a, v, hw.other hu h1 (by simp) lt ne, h2⟩
def pmap (n : Nat) : Blk := .map [⟨.int .u8 1, .fn 107 [.ptr (n + 1) 0, .ptr (n + 4) 0], 0⟩, ⟨.int .u8 3, .fn 108 [.ptr (n + 2) 0, .ptr (n + 4) 0], 1⟩, ⟨.int .u8 2, .fn 109 [.ptr (n + 1) 0, .ptr (n + 3) 0], 2⟩] 3
structure PS (σ0 : St) (r o g p : List UInt8) (u1 u2 u3 : Tok) (σ : St) : Prop where
 e : Ext σ0 σ
 n : σ0.n + 6 <= σ.n
 kc : lk σ.H σ0.n = some (.arr [.str r])
 b1 : BdAt (σ0.n + 1) o u1 σ
 b2 : BdAt (σ0.n + 2) g u2 σ
 b3 : BdAt (σ0.n + 3) p u3 σ
 t1 : TokOk σ0.n σ u1
 t2 : TokOk σ0.n σ u2
 t3 : TokOk σ0.n σ u3
 d12 : ∀ τ, u1 = .id τ -> u2 ≠ .id τ
 d13 : ∀ τ, u1 = .id τ -> u3 ≠ .id τ
 d23 : ∀ τ, u2 = .id τ -> u3 ≠ .id τ
 kt : lk σ.H (σ0.n + 4) = some (.arr [.fn 106 [.ptr σ0.n 0]])
 km : lk σ.H (σ0.n + 5) = some (pmap σ0.n)
variable {σ0 : St} {r o g p : List UInt8} {u1 u2 u3 : Tok}
theorem PS.ext (h : PS σ0 r o g p u1 u2 u3 σ) {σ' : St} (hE : Ext σ σ') : PS σ0 r o g p u1 u2 u3 σ' :=
 have hn := h.n
 ⟨h.e.trans hE, Nat.le_trans h.n hE.1, (hE.2 _ (by omega)).trans h.kc, h.b1.same (hE.2 _ (by omega)), h.b2.same (hE.2 _ (by omega)), h.b3.same (hE.2 _ (by omega)), h.t1.ext hE, h.t2.ext hE, h.t3.ext hE, h.d12, h.d13, h.d23, (hE.2 _ (by omega)).trans h.kt, (hE.2 _ (by omega)).trans h.km⟩
theorem PS.take (h : PS σ0 r o g p u1 u2 u3 σ) (r' : List UInt8) : PS σ0 r' o g p u1 u2 u3 (σ.set σ0.n (.arr [.str r'])) := by
 have hk : lk σ.H σ0.n ≠ some .tok := by rw [h.kc]; simp
 refine ⟨h.e.set (Nat.le_refl _) _, h.n, by rw [lk_set, if_pos rfl, h.kc]; rfl, h.b1.same (by rw [lk_set, if_neg (by omega)]), h.b2.same (by rw [lk_set, if_neg (by omega)]), h.b3.same (by rw [lk_set, if_neg (by omega)]),
  h.t1.set hk _, h.t2.set hk _, h.t3.set hk _, h.d12, h.d13, h.d23, by rw [lk_set, if_neg (by omega)]; exact h.kt, by rw [lk_set, if_neg (by omega)]; exact h.km⟩
theorem neSymm {a b : Tok} (h : ∀ τ, a = .id τ -> b ≠ .id τ) : ∀ τ, b = .id τ -> a ≠ .id τ := fun τ e e2 => h τ e2 e
theorem ext_bw {β : Nat} {u : Tok} {s : List UInt8} {σ' : St} (hw : BW β u s σ σ') (hE : Ext σ0 σ) (hu : TokOk σ0.n σ u) (hβ : σ0.n <= β) : Ext σ0 σ' :=
 ⟨by have := hw.n; have := hE.1; omega, fun γ hγ => by
  rw [hw.o γ (by have := hE.1; omega) (by omega) (fun e => by rw [e] at hu; have := hu.1; omega)]
  exact hE.2 γ hγ⟩
theorem PS.w1 (h : PS σ0 r o g p u1 u2 u3 σ) {q : List UInt8} {σ' : St} (hw : BW (σ0.n + 1) u1 (o ++ q) σ σ') (hq : q ≠ []) : PS σ0 r (o ++ q) g p (.id σ.n) u2 u3 σ' := by
 have hn := h.n
 have hn2 := hw.n
 have a2 := hw.otok h.b1.nt h.t2 h.d12
 have a3 := hw.otok h.b1.nt h.t3 h.d13
 exact ⟨ext_bw hw h.e h.t1 (by omega), by omega, hw.other h.t1 h.kc (by simp) (by omega) (by omega), hw.bd (by simp [hq]), h.b2.keep hw h.t1 (by omega) (by omega), h.b3.keep hw h.t1 (by omega) (by omega),
  ⟨h.e.1, hw.k.2⟩, a2.1, a3.1, a2.2, a3.2, h.d23, hw.other h.t1 h.kt (by simp) (by omega) (by omega), hw.other h.t1 h.km (by simp [pmap]) (by omega) (by omega)⟩
theorem PS.w2 (h : PS σ0 r o g p u1 u2 u3 σ) {q : List UInt8} {σ' : St} (hw : BW (σ0.n + 2) u2 (g ++ q) σ σ') (hq : q ≠ []) : PS σ0 r o (g ++ q) p u1 (.id σ.n) u3 σ' := by
 have hn := h.n
 have hn2 := hw.n
 have a1 := hw.otok h.b2.nt h.t1 (neSymm h.d12)
 have a3 := hw.otok h.b2.nt h.t3 h.d23
 exact ⟨ext_bw hw h.e h.t2 (by omega), by omega, hw.other h.t2 h.kc (by simp) (by omega) (by omega), h.b1.keep hw h.t2 (by omega) (by omega), hw.bd (by simp [hq]), h.b3.keep hw h.t2 (by omega) (by omega),
  a1.1, ⟨h.e.1, hw.k.2⟩, a3.1, neSymm a1.2, h.d13, a3.2, hw.other h.t2 h.kt (by simp) (by omega) (by omega), hw.other h.t2 h.km (by simp [pmap]) (by omega) (by omega)⟩
theorem PS.w3 (h : PS σ0 r o g p u1 u2 u3 σ) {q : List UInt8} {σ' : St} (hw : BW (σ0.n + 3) u3 (p ++ q) σ σ') (hq : q ≠ []) : PS σ0 r o g (p ++ q) u1 u2 (.id σ.n) σ' := by
 have hn := h.n
 have hn2 := hw.n
 have a1 := hw.otok h.b3.nt h.t1 (neSymm h.d13)
 have a2 := hw.otok h.b3.nt h.t2 (neSymm h.d23)
 exact ⟨ext_bw hw h.e h.t3 (by omega), by omega, hw.other h.t3 h.kc (by simp) (by omega) (by omega), h.b1.keep hw h.t3 (by omega) (by omega), h.b2.keep hw h.t3 (by omega) (by omega), hw.bd (by simp [hq]),
  a1.1, a2.1, ⟨h.e.1, hw.k.2⟩, h.d12, neSymm a1.2, neSymm a2.2, hw.other h.t3 h.kt (by simp) (by omega) (by omega), hw.other h.t3 h.km (by simp [pmap]) (by omega) (by omega)⟩
theorem bwrite_ok {n0 β : Nat} {tx q : List UInt8} {u : Tok} (h : BdAt β tx u σ) (hu : TokOk n0 σ u) (hq : q ≠ []) (hb : tx.length + q.length <= 1099511627776) (hlt : β < σ.n) :
  ACalls Tryz.prog 64 [.ptr β 0, .str q] σ (fun x σ' => x = .tup [.int .i64 q.length, .nilif] /\ BW β u (tx ++ q) σ σ') := by
 obtain ⟨a, v, h1, h2, h3⟩ := h
 exact bws_ok h1 h2 h3.ba hu hq hb hlt
theorem ptake_ok {c : Nat} {n : Int} (hk : lk σ.H c = some (.arr [.str r])) (h0 : 0 <= n) (hn : n <= r.length) : ACalls Tryz.prog 106 [.int .i64 n, .ptr c 0] σ (fun v σ' => v = .str (r.take n.toNat) /\ σ' = σ.set c (.arr [.str (r.drop n.toNat)])) := by
 obtain ⟨m, rfl⟩ : ∃ m : Nat, n = m := ⟨n.toNat, by omega⟩
 refine FOk.calls ok106 (by simp [a106]) (wpc_sound hmix ?_)
 show wpc _ _ _ c106 _ _ _
 simp (disch := first | exact dA | fail) only [↓V0, VV, reduceCtorEq, seval, a106, hk]
theorem keep107 (h : PS σ0 r o g p u1 u2 u3 σ) (n : Int) (q : List UInt8) (k : Int) (h0 : 1 <= n) (hn : n <= r.length) (hb : o.length + r.length <= 1000000) :
  ACalls Tryz.prog 107 [.agg [.int .u8 k, .int .i64 n, .str q], .ptr (σ0.n + 1) 0, .ptr (σ0.n + 4) 0] σ (fun _ σ' => ∃ u1', PS σ0 (r.drop n.toNat) (o ++ r.take n.toNat) g p u1' u2 u3 σ') := by
 have hn6 := h.n
 have hE : Ext σ (σ.new (.arr [.int .u8 k, .int .i64 n, .str q])) := by exact eA
 have h2 := h.ext hE
 have kt := h2.kt
 have kp : lk (σ.new (.arr [.int .u8 k, .int .i64 n, .str q])).H σ.n = some (.arr [.int .u8 k, .int .i64 n, .str q]) := by simp (disch := first | exact dA | fail) only [↓V0, VV, reduceCtorEq, seval, a107]
 have kt0 := h.kt
 refine FOk.calls ok107 (by simp [a107]) (wpc_sound hmix ?_)
 show wpc _ _ _ c107 _ _ _
 simp (disch := first | exact dA | fail) only [↓V0, VV, reduceCtorEq, seval, a107, kt0]
 refine (ptake_ok h2.kc (by omega) hn).mono ?_
 rintro _ σ2 ⟨rfl, rfl⟩
 have h3 := h2.take (r.drop n.toNat)
 have hne : r.take n.toNat ≠ [] := by
  intro e
  have := congrArg List.length e
  rw [List.length_take, List.length_nil] at this
  omega
 have hl := List.length_take_le n.toNat r
 have hl2 := List.length_take_le' n.toNat r
 simp (disch := first | exact dA | fail) only [↓V0, VV, reduceCtorEq, seval, a107]
 refine (bwrite_ok h3.b1 h3.t1 hne (by omega) (by have := h3.n; omega)).mono ?_
 rintro _ σ3 ⟨rfl, hw⟩
 simp (disch := first | exact dA | fail) only [↓V0, VV, reduceCtorEq, seval, a107]
 exact ⟨_, h3.w1 hw hne⟩
theorem keep108 (h : PS σ0 r o g p u1 u2 u3 σ) (n : Int) (q : List UInt8) (k : Int) (h0 : 1 <= n) (hn : n <= r.length) (hb : g.length + r.length <= 1000000) :
  ACalls Tryz.prog 108 [.agg [.int .u8 k, .int .i64 n, .str q], .ptr (σ0.n + 2) 0, .ptr (σ0.n + 4) 0] σ (fun _ σ' => ∃ u2', PS σ0 (r.drop n.toNat) o (g ++ r.take n.toNat) p u1 u2' u3 σ') := by
 have hn6 := h.n
 have hE : Ext σ (σ.new (.arr [.int .u8 k, .int .i64 n, .str q])) := by exact eA
 have h2 := h.ext hE
 have kt := h2.kt
 have kp : lk (σ.new (.arr [.int .u8 k, .int .i64 n, .str q])).H σ.n = some (.arr [.int .u8 k, .int .i64 n, .str q]) := by simp (disch := first | exact dA | fail) only [↓V0, VV, reduceCtorEq, seval, a108]
 have kt0 := h.kt
 refine FOk.calls ok108 (by simp [a108]) (wpc_sound hmix ?_)
 show wpc _ _ _ c108 _ _ _
 simp (disch := first | exact dA | fail) only [↓V0, VV, reduceCtorEq, seval, a108, kt0]
 refine (ptake_ok h2.kc (by omega) hn).mono ?_
 rintro _ σ2 ⟨rfl, rfl⟩
 have h3 := h2.take (r.drop n.toNat)
 have hne : r.take n.toNat ≠ [] := by
  intro e
  have := congrArg List.length e
  rw [List.length_take, List.length_nil] at this
  omega
 have hl := List.length_take_le n.toNat r
 have hl2 := List.length_take_le' n.toNat r
 simp (disch := first | exact dA | fail) only [↓V0, VV, reduceCtorEq, seval, a108]
 refine (bwrite_ok h3.b2 h3.t2 hne (by omega) (by have := h3.n; omega)).mono ?_
 rintro _ σ3 ⟨rfl, hw⟩
 simp (disch := first | exact dA | fail) only [↓V0, VV, reduceCtorEq, seval, a108]
 exact ⟨_, h3.w2 hw hne⟩
theorem keep109 (h : PS σ0 r o g p u1 u2 u3 σ) (n : Int) (q : List UInt8) (k : Int) (hq : q ≠ []) (ho : o.length + q.length <= 1000000) (hp : p.length + q.length <= 1000000) :
  ACalls Tryz.prog 109 [.agg [.int .u8 k, .int .i64 n, .str q], .ptr (σ0.n + 1) 0, .ptr (σ0.n + 3) 0] σ (fun _ σ' => ∃ u1' u3', PS σ0 r (o ++ q) g (p ++ q) u1' u2 u3' σ') := by
 have hn6 := h.n
 have hE : Ext σ (σ.new (.arr [.int .u8 k, .int .i64 n, .str q])) := by exact eA
 have h2 := h.ext hE
 have kp : lk (σ.new (.arr [.int .u8 k, .int .i64 n, .str q])).H σ.n = some (.arr [.int .u8 k, .int .i64 n, .str q]) := by simp (disch := first | exact dA | fail) only [↓V0, VV, reduceCtorEq, seval, a109]
 have hlt : σ.n < (σ.new (.arr [.int .u8 k, .int .i64 n, .str q])).n := Nat.lt_succ_self _
 refine FOk.calls ok109 (by simp [a109]) (wpc_sound hmix ?_)
 show wpc _ _ _ c109 _ _ _
 simp (disch := first | exact dA | fail) only [↓V0, VV, reduceCtorEq, seval, a109]
 refine (bwrite_ok h2.b1 h2.t1 hq (by omega) (by have := h2.n; omega)).mono ?_
 rintro _ σ2 ⟨rfl, hw⟩
 have h3 := h2.w1 hw hq
 have kp2 := hw.other h2.t1 kp (by simp) hlt (by omega)
 simp (disch := first | exact dA | fail) only [↓V0, VV, reduceCtorEq, seval, a109, kp2]
 refine (bwrite_ok h3.b3 h3.t3 hq (by omega) (by have := h3.n; omega)).mono ?_
 rintro _ σ3 ⟨rfl, hw2⟩
 simp (disch := first | exact dA | fail) only [↓V0, VV, reduceCtorEq, seval, a109]
 exact ⟨_, _, h3.w3 hw2 hq⟩
def AP : List Pc -> List UInt8 -> Prop
 | [], r => r = []
 | q :: d, r => (q.k = 2 /\ q.tx ≠ [] /\ AP d r) \/ ((q.k = 1 \/ q.k = 3) /\ 1 <= q.n /\ q.n <= r.length /\ AP d (r.drop q.n.toNat))
structure PI (σ : St) (d : List Pc) (T : List UInt8) (i : Nat) (σ' : St) : Prop where
 ex : ∃ r o g p u1 u2 u3, PS σ r o g p u1 u2 u3 σ' /\ AP (d.drop i) r /\ o ++ apl (d.drop i) r = T /\ g.length + r.length <= 65536 /\ p.length <= o.length
theorem aparts_ok (d : List Pc) (s : List UInt8) (tk : Tok) (hd : d.length <= 100) (hs : s.length <= 65536) (hT : (apl d s).length <= 65536) (h : AP d s) :
  ACalls Tryz.prog 52 [.str s, .vs (d.map Pc.av) tk] σ (fun v σ' => (∃ g p, v = .tup [.str (apl d s), .str g, .str p]) /\ Ext σ σ') := by
 have hll : (d.map Pc.av).length = d.length := List.length_map _
 have hgs : ∀ i (h : i < d.length), (d.map Pc.av)[i]? = some (.agg [.int .u8 d[i].k, .int .i64 d[i].n, .str d[i].tx]) := fun i h => by simp [Pc.av, Pc.cs, h]
 refine FOk.calls ok52 (by simp [a52]) (wpc_sound hmix ?_)
 show wpc _ _ _ c52 _ _ _
 simp (disch := first | exact dA | fail) only [↓V0, VV, reduceCtorEq, seval, a52, hll, ↓eval_allocT, findKeyA, eqSc, decide_false, decide_true, List.cons_append, List.nil_append]
 refine AW.upto hmix (fun i ρ σ' => PI σ d (apl d s) i σ' /\ ρ 7 = .ptr (σ.n + 1) 0 /\ ρ 8 = .ptr (σ.n + 2) 0 /\ ρ 9 = .ptr (σ.n + 3) 0 /\ ρ 11 = .map (σ.n + 5) /\ ρ 20 = .vs (d.map Pc.av) tk /\ ρ 21 = .int .i64 (d.length : Nat) /\ ρ 22 = .int .i64 (i : Nat)) d.length
  ⟨⟨⟨s, [], [], [], .ex, .ex, .ex, ?_, by simpa using h, by simp, by simpa using hs, by simp⟩⟩, by exact wA, by exact wA, by exact wA, by exact wA, by exact wA, by exact wA, by exact wA⟩ (fun i ρ σ' hi h => ?_) (fun ρ σ' h => ?_)
 ·exact ⟨by exact eA, by simp only [set_n, new_n]; omega, by simp (disch := first | exact dA | fail) only [↓V0, VV, reduceCtorEq, seval, a52], ⟨.nilp, .vs [] .ex, by simp (disch := first | exact dA | fail) only [↓V0, VV, reduceCtorEq, seval, a52], .inl rfl, .inl ⟨rfl, rfl, rfl⟩⟩, ⟨.nilp, .vs [] .ex, by simp (disch := first | exact dA | fail) only [↓V0, VV, reduceCtorEq, seval, a52], .inl rfl, .inl ⟨rfl, rfl, rfl⟩⟩, ⟨.nilp, .vs [] .ex, by simp (disch := first | exact dA | fail) only [↓V0, VV, reduceCtorEq, seval, a52], .inl rfl, .inl ⟨rfl, rfl, rfl⟩⟩,
   trivial, trivial, trivial, (fun τ e => by cases e), (fun τ e => by cases e), (fun τ e => by cases e), by simp (disch := first | exact dA | fail) only [↓V0, VV, reduceCtorEq, seval, a52], by simp (disch := first | exact dA | fail) only [↓V0, VV, reduceCtorEq, seval, a52, pmap]⟩
 ·obtain ⟨⟨r, o, g, p, u1, u2, u3, hP, hA, ho, hg, hp⟩, r7, r8, r9, r11, r20, r21, r22⟩ := h
  have hgi := hgs i hi
  rw [List.drop_eq_getElem_cons hi] at hA ho
  generalize d[i] = q at *
  obtain ⟨k, n, q⟩ := q
  simp only at hgi
  have hn6 := hP.n
  have hE : Ext σ' ((σ'.new (.arr [.int .u8 0, .int .i64 0, .str []])).set σ'.n (.arr [.int .u8 k, .int .i64 n, .str q])) := by exact eA
  have hP2 := hP.ext hE
  have km := hP.km
  simp only [pmap] at km
  rcases hA with ⟨rfl, hq, hA⟩ | ⟨hk, h1, h2, hA⟩
  ·simp only [apl, if_true] at ho hq hA
   have hol := congrArg List.length ho
   simp only [List.length_append] at hol
   simp (disch := first | exact dA | fail) only [↓V0, VV, reduceCtorEq, seval, a52, r20, r21, r22, hgi, r11, km, findKeyA, eqSc, decide_false, decide_true]
   refine (keep109 hP2 n q 2 hq (by omega) (by omega)).mono ?_
   rintro _ σ3 ⟨u1', u3', hP3⟩
   simp (disch := first | exact dA | fail) only [↓V0, VV, reduceCtorEq, seval, a52, r7, r8, r9, r11, r20, r21, r22]
   exact ⟨⟨⟨r, _, _, _, _, _, _, hP3, hA, by rw [List.append_assoc]; exact ho, hg, by simp only [List.length_append]; omega⟩⟩, rfl⟩
  ·simp only at h1 h2 hA
   have hk2 : ¬ k = 2 := by rcases hk with h | h <;> simp only at h <;> omega
   simp only [apl, if_neg hk2] at ho
   have hl := List.length_take_le n.toNat r
   have hld : (r.drop n.toNat).length = r.length - n.toNat := List.length_drop
   have hlt : (r.take n.toNat).length = n.toNat := by rw [List.length_take]; omega
   have hol := congrArg List.length ho
   rcases hk with rfl | rfl
   ·rw [if_neg (by decide)] at ho hol
    simp only [List.length_append] at hol
    simp (disch := first | exact dA | fail) only [↓V0, VV, reduceCtorEq, seval, a52, r20, r21, r22, hgi, r11, km, findKeyA, eqSc, decide_false, decide_true]
    refine (keep107 hP2 n q 1 h1 h2 (by omega)).mono ?_
    rintro _ σ3 ⟨u1', hP3⟩
    simp (disch := first | exact dA | fail) only [↓V0, VV, reduceCtorEq, seval, a52, r7, r8, r9, r11, r20, r21, r22]
    exact ⟨⟨⟨_, _, _, _, _, _, _, hP3, hA, by rw [List.append_assoc]; exact ho, by omega, by simp only [List.length_append]; omega⟩⟩, rfl⟩
   ·rw [if_pos rfl] at ho hol
    simp (disch := first | exact dA | fail) only [↓V0, VV, reduceCtorEq, seval, a52, r20, r21, r22, hgi, r11, km, findKeyA, eqSc, decide_false, decide_true]
    refine (keep108 hP2 n q 3 h1 h2 (by omega)).mono ?_
    rintro _ σ3 ⟨u1', hP3⟩
    simp (disch := first | exact dA | fail) only [↓V0, VV, reduceCtorEq, seval, a52, r7, r8, r9, r11, r20, r21, r22]
    exact ⟨⟨⟨_, _, _, _, _, _, _, hP3, hA, ho, by simp only [List.length_append]; omega, hp⟩⟩, rfl⟩
 ·obtain ⟨⟨r, o, g, p, u1, u2, u3, hP, hA, ho, hg, hp⟩, r7, r8, r9, r11, r20, r21, r22⟩ := h
  rw [List.drop_length] at hA ho
  simp only [apl, List.append_nil] at ho
  subst ho
  simp (disch := first | exact dA | fail) only [↓V0, VV, reduceCtorEq, seval, a52, r20, r21, r22, r7]
  refine callQ (bstring_ok hP.b1 hP.t1 (by omega)) ?_
  simp (disch := first | exact dA | fail) only [↓V0, VV, reduceCtorEq, seval, a52, r8]
  refine callQ (bstring_ok hP.b2 hP.t2 (by omega)) ?_
  simp (disch := first | exact dA | fail) only [↓V0, VV, reduceCtorEq, seval, a52, r9]
  refine callQ (bstring_ok hP.b3 hP.t3 (by omega)) ?_
  simp (disch := first | exact dA | fail) only [↓V0, VV, reduceCtorEq, seval, a52]
  exact ⟨⟨_, _, rfl⟩, hP.e⟩
end Go.Proofs.YtekhblefchceaaaGreat.AM

/- apply.Apply; quartolaw20.PatchFinds. -/
set_option maxRecDepth 20000
namespace Go.Proofs.YtekhblefchceaaaGreat.AM
open Go Go.Proofs
variable {σ : St}
theorem ap_of : ∀ (d : List Pc) (s : List UInt8), (∀ q, q ∈ d -> validP q = true) -> (d.map fun q => (sizesP q).1).sum = s.length -> AP d s /\ ((apl d s).length : Int) = (d.map fun q => (sizesP q).2).sum
 | [], s, _, h => by
  simp only [List.map_nil, List.sum_nil] at h
  have : s = [] := List.length_eq_zero_iff.1 (by omega)
  exact ⟨this, by simp [apl]⟩
 | q :: d, s, hv, h => by
  have h1 := hv q (by simp)
  have h2 : ∀ x, x ∈ d -> validP x = true := fun x hx => hv x (by simp [hx])
  have h3 := (sum_nn h2).1
  simp only [List.map_cons, List.sum_cons] at h ⊢
  by_cases hk : q.k = 2
  ·have hs : sizesP q = (0, (q.tx.length : Int)) := by simp [sizesP, hk]
   rw [hs] at h ⊢
   obtain ⟨a1, a2⟩ := ap_of d s h2 (by simpa using h)
   refine ⟨.inl ⟨hk, ?_, a1⟩, ?_⟩
   ·simp [validP, hk] at h1
    exact h1.2
   ·simp only [apl, if_pos hk, List.length_append]
    omega
  ·by_cases hk1 : q.k = 1 \/ q.k = 3
   ·have h4 : 1 <= q.n := by
     unfold validP at h1
     rw [if_pos hk1] at h1
     simp at h1
     exact h1.1
    have hs1 : (sizesP q).1 = q.n := by rcases hk1 with e | e <;> simp [sizesP, e]
    rw [hs1] at h
    have hl : q.n <= s.length := by omega
    obtain ⟨a1, a2⟩ := ap_of d (s.drop q.n.toNat) h2 (by rw [List.length_drop]; omega)
    refine ⟨.inr ⟨hk1, h4, hl, a1⟩, ?_⟩
    rcases hk1 with e | e
    ·have hs2 : (sizesP q).2 = q.n := by simp [sizesP, e]
     rw [hs2]
     rw [apl, if_neg hk, if_neg (by rw [e]; decide), List.length_append, List.length_take]
     omega
    ·have hs2 : (sizesP q).2 = 0 := by simp [sizesP, e]
     rw [hs2]
     rw [apl, if_neg hk, if_pos e]
     omega
   ·exfalso
    unfold validP at h1
    rw [if_neg hk1, if_neg hk] at h1
    cases h1
theorem aapply_ok (d : List Pc) (s : List UInt8) (σ : St) (hd : d.length <= 4) (hs : s.length <= 65536) (hsm : ∀ q, q ∈ d -> q.small) (hl : lengthsP d = ((s.length : Int), (lengthsP d).2.1, (0 : Int))) (ho : (lengthsP d).2.1 <= 65536) :
  ACalls Tryz.prog 14 [.str s, .vs (d.map Pc.av) .no] σ (fun v σ' => v = .tup [.str (apl d s), .int .i64 0] /\ σ' = σ) := by
 refine ACalls.quietX ?_ rfl
 have h1 : (lengthsP d).1 = (s.length : Nat) := by rw [hl]
 have h2 : (lengthsP d).2.2 = 0 := by rw [hl]
 have hL : lengthsP d = lenLoop d 0 0 := if_neg (by omega)
 obtain ⟨v1, v2, v3⟩ := lenLoop_in d 0 0 (by rw [<- hL]; exact h2)
 rw [<- hL] at v2 v3
 obtain ⟨a1, a2⟩ := ap_of d s v1 (by omega)
 refine FOk.calls ok14 (by simp [a14]) (wpc_sound hmix ?_)
 show wpc _ _ _ c14 _ _ _
 simp (disch := first | exact dA | fail) only [↓V0, VV, reduceCtorEq, seval, a14]
 refine callQ (fits_ok s d (by omega) hsm h2 h1) ?_
 simp (disch := first | exact dA | fail) only [↓V0, VV, reduceCtorEq, seval, a14]
 refine (aparts_ok d s .no (by omega) hs (by omega) a1).mono ?_
 rintro _ σ2 ⟨⟨g, p, rfl⟩, hE⟩
 simp (disch := first | exact dA | fail) only [↓V0, VV, reduceCtorEq, seval, a14, List.getElem?_cons_zero]
 exact ⟨rfl, hE⟩
end Go.Proofs.YtekhblefchceaaaGreat.AM

