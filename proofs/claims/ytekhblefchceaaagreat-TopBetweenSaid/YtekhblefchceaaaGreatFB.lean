/- Joined: F5, F6, F7, F8. -/
import Derived.Test.YtekhblefchceaaaGreatFA
import Derived.Test.YtekhblefchceaaaGreatDJ
set_option linter.unusedVariables false
set_option linter.unusedSimpArgs false
/- Contracts: node.Child; seek.check. -/
set_option maxRecDepth 20000
namespace Go.Proofs.YtekhblefchceaaaGreat.AM
open Go Go.Proofs
variable {σ : St}
theorem cbytes_ok (m : Ms) : ACalls Tryz.prog 284 [m.av] σ (fun v σ' => v = .int .i64 m.b /\ σ' = σ) := by
 refine ACalls.quietX ?_ rfl
 refine FOk.calls ok284 (by simp [a284]) (wpc_sound hmix ?_)
 show wpc _ _ _ c284 _ _ _
 simp (disch := first | exact dA | fail) only [↓V0, VV, reduceCtorEq, seval, a284, Ms.av, Ms.cs]
 exact ⟨rfl, by exact eA⟩
def chs : List Kd -> Nat -> Nat -> Nat × Nat
 | [], i, n => (i, n)
 | k :: l, i, n => if n < k.m.b then (i, n) else chs l (i + 1) (n - k.m.b)
def sumB (l : List Kd) : Nat := (l.map fun k => k.m.b).sum
theorem sumB_ms : ∀ (l : List Kd), (msSum (l.map (·.m))).b = sumB l := by
 intro l
 have key : ∀ (l : List Ms) (z : Ms), (l.foldl Ms.add z).b = z.b + (l.map fun m => m.b).sum := by
  intro l
  induction l with
  | nil => intro z; simp
  | cons a l ih => intro z; simp only [List.foldl_cons, ih, List.map_cons, List.sum_cons]; simp [Ms.add]; omega
 unfold msSum sumB
 rw [key]
 simp [List.map_map, Function.comp_def]
theorem mem_sumB {k : Kd} : ∀ {l : List Kd}, k ∈ l -> k.m.b <= sumB l
 | a :: l, h => by
  simp only [sumB, List.map_cons, List.sum_cons]
  rcases List.mem_cons.1 h with rfl | h
  ·omega
  ·have := mem_sumB h
   simp only [sumB] at this
   omega
structure CI (ks : List Kd) (n i : Nat) (ρ : Env) : Prop where
 ex : ∃ m : Nat, chs ks 0 n = chs (ks.drop i) i m /\ m < sumB (ks.drop i) /\ m <= n /\ ρ 1 = .int .i64 (m : Nat)
theorem choose_ok (x : Nd) (hx : x.ok) (hb : x.ms.b <= 65536) (h1 : 1 <= x.ht) (n : Nat) (hn : n < x.ms.b) : ACalls Tryz.prog 283 [x.av, .int .i64 n, .fn 284 []] σ (fun v σ' => v = .tup [.int .i64 (chs x.ks 0 n).1, .int .i64 (chs x.ks 0 n).2, .int .i64 0] /\ σ' = σ) := by
 refine ACalls.quietX ?_ rfl
 have hnc := fun σ => ncheck_st (σ := σ) x hx hb
 have hs : x.ms.b = sumB x.ks := by
  unfold Nd.ms
  rw [if_neg (by omega), sumB_ms]
 rw [hs] at hn hb
 have hkl : x.ks.length <= 4 := by
  rcases hx with ⟨a, _⟩ | ⟨_, _, _, _, a, _⟩
  ·omega
  ·exact a
 obtain ⟨ht, tx, ks⟩ := x
 simp only at hkl
 simp only [Nd.av, Nd.cs] at hnc hn hb h1 ⊢
 have hll : (ks.map Kd.av).length = ks.length := List.length_map _
 have hgs : ∀ i (h : i < ks.length), (ks.map Kd.av)[i]? = some (.agg [.int .u64 ks[i].h, .int .i64 ks[i].m.b, .int .i64 ks[i].m.r, .int .i64 ks[i].m.l]) := fun i h => by simp [Kd.av, h]
 refine FOk.calls ok283 (by simp [a283]) (wpc_sound hmix ?_)
 show wpc _ _ _ c283 _ _ _
 simp (disch := first | exact dA | fail) only [↓V0, VV, reduceCtorEq, seval, a283]
 refine callQ (hnc _) ?_
 simp (disch := first | exact dA | fail) only [↓V0, VV, reduceCtorEq, seval, a283, eq_false (show ¬ (ht : Int) = 0 by omega), eq_false (show ¬ (n : Int) < 0 by omega)]
 refine AW.upto hmix (fun i ρ σ' => CI ks n i ρ /\ Ext σ σ' /\ ρ 2 = .fn 284 [] /\ ρ 23 = .vs (ks.map Kd.av) .no /\ ρ 24 = .int .i64 (ks.length : Nat) /\ ρ 25 = .int .i64 (i : Nat)) ks.length ⟨⟨n, by simp, hn, Nat.le_refl _, by exact wA⟩, by exact eA, by exact wA, by exact wA, by (simp only [↓W0, W, reduceCtorEq, seval, hll]; first | done | rfl | omega | simp), by exact wA⟩ (fun i ρ σ' hi hJ => ?_) (fun ρ σ' hJ => ?_)
 ·obtain ⟨⟨m, c1, c2, c3, r1⟩, hE, r2, r23, r24, r25⟩ := hJ
  have hE1 := hE.1
  have hgi := hgs i hi
  rw [List.drop_eq_getElem_cons hi] at c1 c2
  have hkb : ks[i].m.b <= 65536 := Nat.le_trans (mem_sumB (List.getElem_mem hi)) hb
  generalize ks[i] = k at *
  have hcb := fun σ => cbytes_ok (σ := σ) k.m
  simp only [Ms.av, Ms.cs] at hcb
  simp (disch := first | exact dA | fail) only [↓V0, VV, reduceCtorEq, seval, a283, r2, r23, r24, r25, hgi]
  refine callQ (hcb _) ?_
  by_cases hlt : m < k.m.b
  ·simp (disch := first | exact dA | fail) only [↓V0, VV, reduceCtorEq, seval, a283, r1, r2, r23, r24, r25, eq_true (show (m : Int) < (k.m.b : Int) by omega)]
   have e : chs ks 0 n = (i, m) := by rw [c1]; simp only [chs, if_pos hlt]
   rw [e]
   exact ⟨rfl, by exact eA⟩
  ·simp (disch := first | exact dA | fail) only [↓V0, VV, reduceCtorEq, seval, a283, r1, r2, r23, r24, r25, eq_false (show ¬ (m : Int) < (k.m.b : Int) by omega)]
   refine callQ (hcb _) ?_
   simp (disch := first | exact dA | fail) only [↓V0, VV, reduceCtorEq, seval, a283, r1, r2, r23, r24, r25]
   have c4 : m - k.m.b < sumB (ks.drop (i + 1)) := by
    simp only [sumB, List.map_cons, List.sum_cons] at c2 ⊢
    omega
   refine ⟨⟨m - k.m.b, ?_, c4, by omega, ?_⟩, by exact eA, rfl⟩
   ·rw [c1]; simp only [chs, if_neg hlt]
   ·simp only [↓W0, W, reduceCtorEq, seval]
    congr 1; omega
 ·obtain ⟨⟨m, c1, c2, c3, r1⟩, hE, r2, r23, r24, r25⟩ := hJ
  rw [List.drop_length] at c2
  exact absurd c2 (Nat.not_lt_zero _)
theorem child_ok (x : Nd) (hx : x.ok) (hb : x.ms.b <= 65536) (h1 : 1 <= x.ht) (n : Nat) (hn : n < x.ms.b) : ACalls Tryz.prog 271 [x.av, .int .i64 n] σ (fun v σ' => v = .tup [.int .i64 (chs x.ks 0 n).1, .int .i64 (chs x.ks 0 n).2, .int .i64 0] /\ σ' = σ) := by
 refine ACalls.quietX ?_ rfl
 have hc := fun σ => choose_ok (σ := σ) x hx hb h1 n hn
 simp only [Nd.av, Nd.cs] at hc ⊢
 refine FOk.calls ok271 (by simp [a271]) (wpc_sound hmix ?_)
 show wpc _ _ _ c271 _ _ _
 simp (disch := first | exact dA | fail) only [↓V0, VV, reduceCtorEq, seval, a271]
 refine callQ (hc _) ?_
 simp (disch := first | exact dA | fail) only [↓V0, VV, reduceCtorEq, seval, a271]
 exact ⟨rfl, by exact eA⟩
end Go.Proofs.YtekhblefchceaaaGreat.AM

/- Contracts: seek.check, seek.walk, seek.Leaf. -/
set_option maxRecDepth 20000
namespace Go.Proofs.YtekhblefchceaaaGreat.AM
open Go Go.Proofs
variable {σ : St}
def wkA (A : Ar) : Nat -> Nat -> Nat -> List UInt8 × Nat × List Nat
 | 0, h, n => (match A.get h with | some x => x.tx | none => [], n, [h])
 | k + 1, h, n => match A.get h with
  | some x => let c := chs x.ks 0 n; let w := wkA A k (x.ks.getD c.1 ⟨0, Ms.z⟩).h c.2; (w.1, w.2.1, h :: w.2.2)
  | none => ([], 0, [])
theorem chsk_spec : ∀ (ks : List Kd) (i n : Nat), n < sumB ks -> ∃ j, j < ks.length /\ (chs ks i n).1 = i + j /\ ∃ k, ks[j]? = some k /\ (chs ks i n).2 < k.m.b /\ sumB (ks.take j) + (chs ks i n).2 = n
 | [], i, n, h => absurd h (Nat.not_lt_zero _)
 | k :: l, i, n, h => by
  by_cases hk : n < k.m.b
  ·exact ⟨0, by simp, by simp [chs, hk], k, rfl, by simp [chs, hk], by simp [chs, hk, sumB]⟩
  ·have h2 : n - k.m.b < sumB l := by
    simp only [sumB, List.map_cons, List.sum_cons] at h ⊢
    omega
   obtain ⟨j, j1, j2, k', j3, j4, j5⟩ := chsk_spec l (i + 1) (n - k.m.b) h2
   refine ⟨j + 1, by simp; exact j1, ?_, k', by simp [j3], ?_, ?_⟩
   ·simp only [chs, if_neg hk]; omega
   ·simp only [chs, if_neg hk]; exact j4
   ·simp only [chs, if_neg hk, List.take_succ_cons, sumB, List.map_cons, List.sum_cons] at j5 ⊢
    omega
theorem scheck_ok {p : Pa} {A : Ar} (wf : A.WF) (r : Rt) (hr : RtOk A r) (hA : ArAt p σ A) : ACalls Tryz.prog 269 [.ptr p.a 0, r.av] σ (fun v σ' => v = .int .i64 0 /\ σ' = σ) := by
 refine ACalls.quietX ?_ rfl
 rcases hr with rfl | ⟨x, x1, x2, x3⟩
 ·refine FOk.calls ok269 (by simp [a269]) (wpc_sound hmix ?_)
  show wpc _ _ _ c269 _ _ _
  simp (disch := first | exact dA | fail) only [↓V0, VV, reduceCtorEq, seval, a269, Rt.av, Rt.cs, Rt.z, Ms.z, eq5]
  exact ⟨rfl, by exact eA⟩
 ·have hp := (wf _ _ x1).1.pos
  have hk : x.ks.length <= 1000 := by
   rcases (wf _ _ x1).2.1 with ⟨_, _, _, e⟩ | ⟨_, _, _, _, e, _⟩
   ·rw [e]; simp
   ·omega
  have hg := fun (σ : St) (hA : ArAt p σ A) => get_ok hA x1 hk
  have hm := fun (σ : St) => nmeasure_st (σ := σ) x (wf _ _ x1).2.1 (wf _ _ x1).2.2.1
  simp only [Nd.av, Nd.cs, x3, Ms.av, Ms.cs] at hg hm
  rw [x2] at hm
  refine FOk.calls ok269 (by simp [a269]) (wpc_sound hmix ?_)
  show wpc _ _ _ c269 _ _ _
  simp (disch := first | exact dA | fail) only [↓V0, VV, reduceCtorEq, seval, a269, Rt.av, Rt.cs, eq5, eq_false (show ¬ ((r.h : Int) = 0) by omega), false_and, decide_false]
  refine callQ (hg _ (hA.ext (by exact eA))) ?_
  simp (disch := first | exact dA | fail) only [↓V0, VV, reduceCtorEq, seval, a269, x2]
  refine callQ (hm _) ?_
  simp (disch := first | exact dA | fail) only [↓V0, VV, reduceCtorEq, seval, a269, x2, eq3, and_self, decide_true]
  exact ⟨rfl, by exact eA⟩
theorem spass_ok (m : Ms) : ACalls Tryz.prog 272 [m.av] σ (fun v σ' => v = .tup [] /\ σ' = σ) := by
 refine ACalls.quietX ?_ rfl
 refine FOk.calls ok272 (by simp [a272]) (wpc_sound hmix ?_)
 show wpc _ _ _ c272 _ _ _
 simp (disch := first | exact dA | fail) only [↓V0, VV, reduceCtorEq, seval, a272, Ms.av, Ms.cs]
 exact ⟨rfl, by exact eA⟩
structure WI (A : Ar) (r : Rt) (n : Nat) (σ : St) (k : Nat) (ρ : Env) (σ' : St) : Prop where
 ex : ∃ h m L t x, A.get h = some x /\ x.ht = k /\ m < x.ms.b /\ L.length <= 20 - k /\ k <= 16 /\ wkA A r.ht r.h n = ((wkA A k h m).1, (wkA A k h m).2.1, L ++ (wkA A k h m).2.2) /\
  lk σ'.H (σ.n + 2) = some (.arr [.str [], .int .i64 (m : Nat), .vs (uav .u64 L) t]) /\ Own σ σ' t /\ ρ 13 = .int .u64 (h : Nat) /\ σ.n + 3 <= σ'.n /\ ∃ c, lk σ'.H (σ.n + 1) = some (.arr c) /\ c.length = 3
theorem swalk_ok {p : Pa} {A : Ar} (wf : A.WF) (r : Rt) {x0 : Nd} (x1 : A.get r.h = some x0) (x2 : x0.ht = r.ht) (x3 : x0.ms = r.m) (n : Nat) (hn : n < r.m.b) (hA : ArAt p σ A) :
  ACalls Tryz.prog 270 [.ptr p.a 0, r.av, .int .i64 n, .fn 271 [], .fn 272 []] σ (fun v σ' => v = .tup [.agg [.str (wkA A r.ht r.h n).1, .int .i64 (wkA A r.ht r.h n).2.1, .vs (uav .u64 (wkA A r.ht r.h n).2.2) .no], .int .i64 0] /\ σ' = σ) := by
 refine ACalls.quietX ?_ (by simp only [AV.pur, purL, pur_uav, Tok.pur, Bool.and_self])
 have hht : r.ht <= 16 := by
  rw [<- x2]
  rcases (wf _ _ x1).2.1 with ⟨e, _⟩ | ⟨_, e, _⟩ <;> omega
 refine FOk.calls ok270 (by simp [a270]) (wpc_sound hmix ?_)
 show wpc _ _ _ c270 _ _ _
 simp (disch := first | exact dA | fail) only [↓V0, VV, reduceCtorEq, seval, a270, Rt.av, Rt.cs]
 generalize hσ1 : St.set _ _ _ = σ1
 have hE1 : Ext σ σ1 := by rw [<- hσ1]; exact eA
 have k1 : lk σ1.H (σ.n + 1) = some (.arr [.str [], .int .i64 0, .vs [] .ex]) := by rw [<- hσ1]; simp (disch := first | exact dA | fail) only [↓V0, VV, reduceCtorEq, seval, a270]
 have k2 : lk σ1.H (σ.n + 2) = some (.arr [.str [], .int .i64 (n : Nat), .vs (uav .u64 []) .ex]) := by rw [<- hσ1]; simp (disch := first | exact dA | fail) only [↓V0, VV, reduceCtorEq, seval, a270, uav, List.map_nil]
 have hn1 : σ.n + 3 <= σ1.n := by rw [<- hσ1]; simp only [set_n, new_n]; omega
 clear hσ1
 refine AW.lp hmix (fun k ρ σ' => WI A r n σ k ρ σ' /\ ρ 0 = .ptr p.a 0 /\ ρ 3 = .fn 271 [] /\ ρ 4 = .fn 272 [] /\ ρ 10 = .ptr (σ.n + 1) 0 /\ ρ 12 = .ptr (σ.n + 2) 0) r.ht
  ⟨⟨r.h, n, [], .ex, x0, x1, x2, by rw [x3]; exact hn, by simp, hht, by simp, k2, .ex hE1, by exact wA, hn1, _, k1, rfl⟩, by exact wA, by exact wA, by exact wA, by exact wA, by exact wA⟩ (fun k ρ σ' hJ => ?_)
 obtain ⟨⟨h, m, L, t, x, g1, g2, g3, g4, g5, g6, b12, hO, r13, hn3, c, b10, hc⟩, r0, r3, r4, r10, r12⟩ := hJ
 have hE := hO.ext
 have hk : x.ks.length <= 1000 := by
  rcases (wf _ _ g1).2.1 with ⟨_, _, _, e⟩ | ⟨_, _, _, _, e, _⟩
  ·rw [e]; simp
  ·omega
 have hg := fun (σ : St) (hA : ArAt p σ A) => get_ok hA g1 hk
 simp only [Nd.av, Nd.cs] at hg
 have ha' := hA.ext hE
 simp (disch := first | exact dA | fail) only [↓V0, VV, reduceCtorEq, seval, a270, r0, r13]
 refine callQ (hg _ ha') ?_
 have hE1 := hE.1
 have hll : (uav .u64 L).length = L.length := len_uav _ _
 have hfL : fitSz 1 (uav .u64 L) = true := fit_all fun e he => by
  obtain ⟨y, _, rfl⟩ := List.mem_map.1 he
  exact ⟨rfl, rfl⟩
 have hO2 : Own σ ((σ'.new (.arr [.int .i64 0, .str [], .vs [] .ex])).set σ'.n (.arr [.int .i64 x.ht, .str x.tx, .vs (x.ks.map Kd.av) .no])) t := hO.ext2 (by exact eA)
 have htg := hO2.ok.g
 have rb2 := rt_lk (β := σ.n + 2) (b := .arr [.str [], .int .i64 (m : Nat), .vs (uav .u64 L) t]) hO2.ok (by simp (disch := first | exact dA | fail) only [↓V0, VV, reduceCtorEq, seval, a270, b12]) (by simp) (by simp only [set_n, new_n]; omega)
 have rb1 := rt_lk (β := σ.n + 1) (b := .arr c) hO2.ok (by simp (disch := first | exact dA | fail) only [↓V0, VV, reduceCtorEq, seval, a270, b10]) (by simp) (by simp only [set_n, new_n]; omega)
 have rbn := rt_lk (β := σ'.n) (b := .arr [.int .i64 x.ht, .str x.tx, .vs (x.ks.map Kd.av) .no]) hO2.ok (by simp (disch := first | exact dA | fail) only [↓V0, VV, reduceCtorEq, seval, a270]) (by simp) (by simp only [set_n, new_n]; omega)
 have hua : uav .u64 L ++ [.int .u64 (h : Nat)] = uav .u64 (L ++ [h]) := by simp [uav]
 have hO3 := (hO2.app).set (β := σ.n + 2) (by omega) (by rw [rb2]; simp) (.arr [.str [], .int .i64 (m : Nat), .vs (uav .u64 (L ++ [h])) (.id (σ'.n + 1))])
 rw [show ((σ'.new (.arr [.int .i64 0, .str [], .vs [] .ex])).set σ'.n (.arr [.int .i64 x.ht, .str x.tx, .vs (x.ks.map Kd.av) .no])).n = σ'.n + 1 from rfl] at hO3
 by_cases h0 : x.ht = 0
 ·have hk0 : k = 0 := by omega
  subst hk0
  simp only [wkA, g1] at g6
  rw [g6]
  simp (disch := first | exact dA | fail) only [↓V0, VV, reduceCtorEq, seval, a270, r0, r3, r4, r10, r12, r13, b12, ↓eval_app, appA_S, rb2, rbn, rb1, hc, hua, eq_true (show (x.ht : Int) = 0 by omega)]
  exact ⟨by simp only [WE, er_uav] <;> rfl, (hO3.ext.set (by omega) _).set (by omega) _⟩
 ·simp (disch := first | exact dA | fail) only [↓V0, VV, reduceCtorEq, seval, a270, r0, r3, r4, r10, r12, r13, b12, ↓eval_app, appA_S, rb2, rbn, rb1, hua, eq_false (show ¬ (x.ht : Int) = 0 by omega)]
  have hxo := (wf _ _ g1).2.1
  have hxb := (wf _ _ g1).2.2.1
  have hco := fun (σ : St) => child_ok (σ := σ) x hxo hxb (by omega) m g3
  simp only [Nd.av, Nd.cs] at hco
  refine callQ (hco _) ?_
  have hsb : x.ms.b = sumB x.ks := by
   unfold Nd.ms
   rw [if_neg h0, sumB_ms]
  obtain ⟨j, j1, j2, kd, j3, j4, j5⟩ := chsk_spec x.ks 0 m (by rw [<- hsb]; exact g3)
  rw [Nat.zero_add] at j2
  rw [j2]
  generalize hrest : (chs x.ks 0 m).2 = rest at *
  have hkl : (x.ks.map Kd.av).length = x.ks.length := List.length_map _
  have hfk : fitSz 4 (x.ks.map Kd.av) = true := fit_all fun e he => by
   obtain ⟨y, _, rfl⟩ := List.mem_map.1 he
   exact ⟨rfl, rfl⟩
  have kb2 : lk ((((σ'.new (.arr [.int .i64 0, .str [], .vs [] .ex])).set σ'.n (.arr [.int .i64 x.ht, .str x.tx, .vs (x.ks.map Kd.av) .no])).rt t).set (σ.n + 2) (.arr [.str [], .int .i64 (m : Nat), .vs (uav .u64 (L ++ [h])) (.id (σ'.n + 1))])).H (σ.n + 2) = some (.arr [.str [], .int .i64 (m : Nat), .vs (uav .u64 (L ++ [h])) (.id (σ'.n + 1))]) := by rw [lk_set, if_pos rfl, rb2]; rfl
  have kb1 : lk ((((σ'.new (.arr [.int .i64 0, .str [], .vs [] .ex])).set σ'.n (.arr [.int .i64 x.ht, .str x.tx, .vs (x.ks.map Kd.av) .no])).rt t).set (σ.n + 2) (.arr [.str [], .int .i64 (m : Nat), .vs (uav .u64 (L ++ [h])) (.id (σ'.n + 1))])).H (σ.n + 1) = some (.arr c) := by rw [lk_set, if_neg (by omega)]; exact rb1
  have kbn : lk ((((σ'.new (.arr [.int .i64 0, .str [], .vs [] .ex])).set σ'.n (.arr [.int .i64 x.ht, .str x.tx, .vs (x.ks.map Kd.av) .no])).rt t).set (σ.n + 2) (.arr [.str [], .int .i64 (m : Nat), .vs (uav .u64 (L ++ [h])) (.id (σ'.n + 1))])).H σ'.n = some (.arr [.int .i64 x.ht, .str x.tx, .vs (x.ks.map Kd.av) .no]) := by rw [lk_set, if_neg (by omega)]; exact rbn
  have kn3 : σ'.n + 2 = ((((σ'.new (.arr [.int .i64 0, .str [], .vs [] .ex])).set σ'.n (.arr [.int .i64 x.ht, .str x.tx, .vs (x.ks.map Kd.av) .no])).rt t).set (σ.n + 2) (.arr [.str [], .int .i64 (m : Nat), .vs (uav .u64 (L ++ [h])) (.id (σ'.n + 1))])).n := by simp only [set_n, rt_n, new_n]
  generalize ((((σ'.new (.arr [.int .i64 0, .str [], .vs [] .ex])).set σ'.n (.arr [.int .i64 x.ht, .str x.tx, .vs (x.ks.map Kd.av) .no])).rt t).set (σ.n + 2) (.arr [.str [], .int .i64 (m : Nat), .vs (uav .u64 (L ++ [h])) (.id (σ'.n + 1))])) = σ3 at *
  clear rb1 rb2 rbn hO2 htg
  simp (disch := first | exact dA | fail) only [↓V0, VV, reduceCtorEq, seval, a270, r0, r3, r4, r10, r12, r13, kb2, kbn, kb1, hkl, hfk, eq_true (show j <= x.ks.length by omega), eq_false (show ¬ j = x.ks.length by omega), and_self, if_true, if_false]
  have hgs : ∀ i (hi : i < j), (List.take j (x.ks.map Kd.av))[i]? = some (.agg [.int .u64 (x.ks[i]'(by omega)).h, .int .i64 (x.ks[i]'(by omega)).m.b, .int .i64 (x.ks[i]'(by omega)).m.r, .int .i64 (x.ks[i]'(by omega)).m.l]) := fun i hi => by
   rw [List.getElem?_take, if_pos hi, List.getElem?_map, List.getElem?_eq_getElem (by omega)]; rfl
  have hlj : (List.take j (x.ks.map Kd.av)).length = j := by rw [List.length_take, hkl]; omega
  have hE3 := hO3.ext
  have hE31 := hE3.1
  refine AW.upto hmix (fun i ρ σ4 => Ext σ3 σ4 /\ ρ 0 = .ptr p.a 0 /\ ρ 3 = .fn 271 [] /\ ρ 4 = .fn 272 [] /\ ρ 10 = .ptr (σ.n + 1) 0 /\ ρ 12 = .ptr (σ.n + 2) 0 /\ ρ 14 = .ptr σ'.n 0 /\ ρ 16 = .int .i64 (j : Nat) /\ ρ 17 = .int .i64 (rest : Nat) /\ ρ 63 = .vs (List.take j (x.ks.map Kd.av)) .no /\ ρ 64 = .int .i64 (j : Nat) /\ ρ 65 = .int .i64 (i : Nat)) j
   ⟨Ext.refl _, by (simp only [↓W0, W, reduceCtorEq, seval, r0]; first | done | rfl | omega | simp), by (simp only [↓W0, W, reduceCtorEq, seval, r3]; first | done | rfl | omega | simp), by (simp only [↓W0, W, reduceCtorEq, seval, r4]; first | done | rfl | omega | simp), by (simp only [↓W0, W, reduceCtorEq, seval, r10]; first | done | rfl | omega | simp), by (simp only [↓W0, W, reduceCtorEq, seval, r12]; first | done | rfl | omega | simp), by exact wA, by exact wA, by exact wA, by exact wA, by (simp only [↓W0, W, reduceCtorEq, seval, hlj]; first | done | rfl | omega | simp), by exact wA⟩ (fun i ρ σ4 hi hJ => ?_) (fun ρ σ4 hJ => ?_)
  ·obtain ⟨hE4, s0, s3, s4, s10, s12, s14, s16, s17, s63, s64, s65⟩ := hJ
   have hgi := hgs i hi
   have hpm := fun (σ : St) => spass_ok (σ := σ) (x.ks[i]'(by omega)).m
   simp only [Ms.av, Ms.cs] at hpm
   generalize x.ks[i]'(by omega) = kk at *
   have hE41 := hE4.1
   simp (disch := first | exact dA | fail) only [↓V0, VV, reduceCtorEq, seval, a270, s0, s3, s4, s10, s12, s14, s16, s17, s63, s64, s65, hgi]
   refine callQ (hpm _) ?_
   simp (disch := first | exact dA | fail) only [↓V0, VV, reduceCtorEq, seval, a270, s0, s3, s4, s10, s12, s14, s16, s17, s63, s64, s65]
   exact ⟨by exact eA, rfl⟩
  ·obtain ⟨hE4, s0, s3, s4, s10, s12, s14, s16, s17, s63, s64, s65⟩ := hJ
   have hE41 := hE4.1
   have b2 := (hE4.2 (σ.n + 2) (by omega)).trans kb2
   have b1 := (hE4.2 (σ.n + 1) (by omega)).trans kb1
   have bn := (hE4.2 σ'.n (by omega)).trans kbn
   have hO4 := hO3.ext2 hE4
   have hgj : (x.ks.map Kd.av)[j]? = some (.agg [.int .u64 kd.h, .int .i64 kd.m.b, .int .i64 kd.m.r, .int .i64 kd.m.l]) := by rw [List.getElem?_map, j3]; rfl
   simp (disch := first | exact dA | fail) only [↓V0, VV, reduceCtorEq, seval, a270, s64, s65]
   refine AW.qx none (.p 0 (.p 1 (.p 2 (.p 3 (.p 4 (.p 5 (.p 6 (.p 7 (.a 8 (.p 9 .nil)))))))))) [(σ'.n, .arr [.int .i64 x.ht, .str x.tx, .vs (x.ks.map Kd.av) .no])] hmix (by decide) (by decide) (SB.cons bn (SB.nil _)) ?_
   simp (disch := first | exact dA | fail) only [↓V0, VV, reduceCtorEq, seval, a270, s0, s3, s4, s10, s12, s14, s16, s17, hgj, b2]
   obtain ⟨y, y1, y2, y3⟩ := (wf _ _ g1).2.2.2 kd (List.mem_of_getElem? j3)
   obtain ⟨k', rfl⟩ : ∃ k', k = k' + 1 := ⟨k - 1, by omega⟩
   refine ⟨SB.cons (by rw [lk_set, if_neg (by omega)]; exact bn) (SB.nil _), k', by omega, ⟨kd.h, rest, L ++ [h], .id (σ'.n + 1), y, y1, by omega, by rw [y3]; exact j4, by rw [List.length_append, List.length_singleton]; omega, by omega, ?_, ?_, hO4.set (by omega) (by rw [b2]; simp) _, by simp only [↓W0, W, reduceCtorEq, seval], by simp only [set_n]; omega, c, ?_, hc⟩⟩
   ·rw [g6]
    have e : x.ks.getD j ⟨0, Ms.z⟩ = kd := by rw [List.getD_eq_getElem?_getD, j3]; rfl
    simp only [wkA, g1, hrest, j2, e, List.append_assoc, List.singleton_append]
   ·rw [lk_set, if_pos rfl, b2]; rfl
   ·rw [lk_set, if_neg (by omega)]; exact b1
end Go.Proofs.YtekhblefchceaaaGreat.AM

/- Contract: seek.Leaf; what the walk finds. -/
set_option maxRecDepth 20000
namespace Go.Proofs.YtekhblefchceaaaGreat.AM
open Go Go.Proofs
variable {σ : St}
theorem sleaf_ok {p : Pa} {A : Ar} (wf : A.WF) (r : Rt) (hr : RtOk A r) (n : Nat) (hn : n < r.m.b) (hA : ArAt p σ A) :
  ACalls Tryz.prog 248 [.ptr p.a 0, r.av, .int .i64 n] σ (fun v σ' => v = .tup [.str (wkA A r.ht r.h n).1, .int .i64 (wkA A r.ht r.h n).2.1, .vs (uav .u64 (wkA A r.ht r.h n).2.2) .no, .int .i64 0] /\ σ' = σ) := by
 rcases id hr with e | ⟨x, x1, x2, x3⟩
 ·subst e; exact absurd hn (Nat.not_lt_zero _)
 refine ACalls.quietX ?_ (by simp only [AV.pur, purL, pur_uav, Tok.pur, Bool.and_self])
 have hc := fun (σ : St) (hA : ArAt p σ A) => scheck_ok (σ := σ) wf r hr hA
 have hw := fun (σ : St) (hA : ArAt p σ A) => swalk_ok (σ := σ) wf r x1 x2 x3 n hn hA
 simp only [Rt.av, Rt.cs] at hc hw
 have hb : r.m.b <= 65536 := by rw [<- x3]; exact (wf _ _ x1).2.2.1
 refine FOk.calls ok248 (by simp [a248]) (wpc_sound hmix ?_)
 show wpc _ _ _ c248 _ _ _
 simp (disch := first | exact dA | fail) only [↓V0, VV, reduceCtorEq, seval, a248, Rt.av, Rt.cs]
 refine callQ (hc _ (hA.ext (by exact eA))) ?_
 simp (disch := first | exact dA | fail) only [↓V0, VV, reduceCtorEq, seval, a248]
 refine callQ (hw _ (hA.ext (by exact eA))) ?_
 simp (disch := first | exact dA | fail) only [↓V0, VV, reduceCtorEq, seval, a248]
 exact ⟨by simp only [WE, er_uav] <;> rfl, by exact eA⟩
theorem ntx_len {A : Ar} (wf : A.WF) {h : Nat} {x : Nd} (hg : A.get h = some x) : (A.ntx x.ht h).length = x.ms.b := by
 have := wf.ms _ _ _ hg rfl
 rw [this]; rfl
theorem flat_len {A : Ar} (wf : A.WF) (n : Nat) : ∀ (ks : List Kd), (∀ k, k ∈ ks -> ∃ y, A.get k.h = some y /\ y.ht = n /\ y.ms = k.m) -> ((ks.map fun k => A.ntx n k.h).flatten).length = sumB ks
 | [], _ => rfl
 | k :: ks, hk => by
  obtain ⟨y, y1, y2, y3⟩ := hk k (by simp)
  have ih := flat_len wf n ks fun k hk' => hk k (by simp [hk'])
  have hl := ntx_len wf y1
  rw [y2, y3] at hl
  simp only [List.map_cons, List.flatten_cons, List.length_append, ih, hl, sumB, List.sum_cons]
theorem wkA_spec {A : Ar} (wf : A.WF) : ∀ (k h m : Nat) (x : Nd), A.get h = some x -> x.ht = k -> m < x.ms.b -> ∃ pre suf, A.ntx k h = pre ++ (wkA A k h m).1 ++ suf /\ pre.length + (wkA A k h m).2.1 = m /\ (wkA A k h m).2.1 < (wkA A k h m).1.length
 | 0, h, m, x, hg, hk, hm => by
  refine ⟨[], [], by simp [wkA, Ar.ntx, hg], by simp [wkA], ?_⟩
  have := ntx_len wf hg
  rw [hk] at this
  simp only [Ar.ntx, hg] at this
  simp only [wkA, hg]
  omega
 | k + 1, h, m, x, hg, hk, hm => by
  have hsb : x.ms.b = sumB x.ks := by
   unfold Nd.ms
   rw [if_neg (by omega), sumB_ms]
  obtain ⟨j, j1, j2, kd, j3, j4, j5⟩ := chsk_spec x.ks 0 m (by rw [<- hsb]; exact hm)
  rw [Nat.zero_add] at j2
  obtain ⟨y, y1, y2, y3⟩ := (wf _ _ hg).2.2.2 kd (List.mem_of_getElem? j3)
  obtain ⟨pre, suf, i1, i2, i3⟩ := wkA_spec wf k kd.h (chs x.ks 0 m).2 y y1 (by omega) (by rw [y3]; exact j4)
  have e : x.ks.getD j ⟨0, Ms.z⟩ = kd := by rw [List.getD_eq_getElem?_getD, j3]; rfl
  have hlt : j < x.ks.length := j1
  have hkj : x.ks[j] = kd := by rw [List.getElem?_eq_getElem hlt] at j3; exact Option.some.inj j3
  have hks : x.ks = x.ks.take j ++ kd :: x.ks.drop (j + 1) := by
   rw [<- hkj, <- List.drop_eq_getElem_cons hlt, List.take_append_drop]
  have hfl := flat_len wf k (x.ks.take j) fun q hq => by
   obtain ⟨z, z1, z2, z3⟩ := (wf _ _ hg).2.2.2 q (List.mem_of_mem_take hq)
   exact ⟨z, z1, by omega, z3⟩
  refine ⟨((x.ks.take j).map fun q => A.ntx k q.h).flatten ++ pre, suf ++ ((x.ks.drop (j + 1)).map fun q => A.ntx k q.h).flatten, ?_, ?_, ?_⟩
  ·simp only [wkA, hg, j2, e, Ar.ntx]
   conv => lhs; rw [hks]
   simp only [List.map_append, List.map_cons, List.flatten_append, List.flatten_cons, i1, List.append_assoc]
  ·simp only [wkA, hg, j2, e, List.length_append, hfl]
   omega
  ·simp only [wkA, hg, j2, e]
   exact i3
end Go.Proofs.YtekhblefchceaaaGreat.AM

/- Contract: slice.parts, the iterator over the parts of leaves, from a rope's beginning to its end. -/
set_option maxRecDepth 20000
namespace Go.Proofs.YtekhblefchceaaaGreat.AM
open Go Go.Proofs
variable {σ : St}
structure PI2 (A : Ar) (r : Rt) (b1 b6 : Nat) (J : List (List UInt8) -> St -> Prop) (k : Nat) (σ : St) : Prop where
 ex : ∃ L a, J L σ /\ L.flatten = (r.txt A).take a /\ a + k = (r.txt A).length /\ lk σ.H b1 = some (.arr [.int .i64 (k : Nat)]) /\ lk σ.H b6 = some (.arr [.int .i64 (a : Nat)])
theorem parts_it {p : Pa} {A : Ar} (wf : A.WF) (r : Rt) (hr : RtOk A r) {β b1 b4 b5 b6 : Nat} {J : List (List UInt8) -> St -> Prop}
  (hJA : ∀ L σ, J L σ -> ArAt p σ A /\ lk σ.H b4 = some (.arr [.ptr p.a 0]) /\ lk σ.H b5 = some (.arr r.cs))
  (hJs : ∀ L σ c x, J L σ -> c = b1 \/ c = b6 -> J L (σ.set c (.arr x)))
  (hy : ∀ L s σ, s ≠ [] -> (L.flatten ++ s).length <= 65536 -> J L σ -> AYields Tryz.prog β [.str s, .int .i64 0] σ (fun v σ' => v = .bool true /\ J (L ++ [s]) σ' /\ lk σ'.H b1 = lk σ.H b1 /\ lk σ'.H b6 = lk σ.H b6))
  (hne : b1 ≠ b6) (h1 : lk σ.H b1 = some (.arr [.int .i64 r.m.b])) (h6 : lk σ.H b6 = some (.arr [.int .i64 0])) (hJ : J [] σ) :
  ACalls Tryz.prog 247 [.yld β, .ptr b1 0, .ptr b4 0, .ptr b5 0, .ptr b6 0] σ (fun _ σ' => ∃ L, J L σ' /\ L.flatten = r.txt A) := by
 have hrb := (rt_bytes wf hr).2
 have hrm : r.m.b = (r.txt A).length := by omega
 have hl6 := rtxt_len wf hr
 refine FOk.calls ok247 (by simp [a247]) (wpc_sound hmix ?_)
 show wpc _ _ _ c247 _ _ _
 simp (disch := first | exact dA | fail) only [↓V0, VV, reduceCtorEq, seval, a247]
 refine AW.lp hmix (fun k ρ σ' => PI2 A r b1 b6 J k σ' /\ ρ 0 = .yld β /\ ρ 1 = .ptr b1 0 /\ ρ 2 = .ptr b4 0 /\ ρ 3 = .ptr b5 0 /\ ρ 4 = .ptr b6 0) r.m.b
  ⟨⟨[], 0, hJ, by simp, by omega, h1, h6⟩, by exact wA, by exact wA, by exact wA, by exact wA, by exact wA⟩ (fun k ρ σ' hI => ?_)
 obtain ⟨⟨L, a, j1, j2, j3, j4, j5⟩, r0, r1, r2, r3, r4⟩ := hI
 cases k with
 | zero =>
  simp (disch := first | exact dA | fail) only [↓V0, VV, reduceCtorEq, seval, a247, r0, r1, r2, r3, r4, j4]
  refine ⟨L, j1, ?_⟩
  rw [j2, List.take_of_length_le (by omega)]
 | succ k =>
  obtain ⟨k1, k2, k3⟩ := hJA L σ' j1
  have hlf := sleaf_ok wf r hr a (by omega) k1
  simp only [Rt.av, Rt.cs] at hlf k3
  have hsp : ∃ pre suf, r.txt A = pre ++ (wkA A r.ht r.h a).1 ++ suf /\ pre.length + (wkA A r.ht r.h a).2.1 = a /\ (wkA A r.ht r.h a).2.1 < (wkA A r.ht r.h a).1.length := by
   rcases id hr with e | ⟨x, x1, x2, x3⟩
   ·subst e
    have h0 : Rt.z.m.b = 0 := rfl
    omega
   ·have hp := (wf _ _ x1).1.pos
    have := wkA_spec wf r.ht r.h a x x1 x2 (by rw [x3]; omega)
    unfold Rt.txt Rt.pl
    rw [if_neg (by omega)]
    exact this
  obtain ⟨pre, suf, e1, e2, e3⟩ := hsp
  generalize (wkA A r.ht r.h a).1 = tx at *
  generalize (wkA A r.ht r.h a).2.1 = rest at *
  generalize (wkA A r.ht r.h a).2.2 = path at *
  have hlen := congrArg List.length e1
  simp only [List.length_append] at hlen
  simp (disch := first | exact dA | fail) only [↓V0, VV, reduceCtorEq, seval, a247, r0, r1, r2, r3, r4, j4, k2, k3, j5]
  refine callQ hlf ?_
  simp (disch := first | exact dA | fail) only [↓V0, VV, reduceCtorEq, seval, a247, r0, r1, r2, r3, r4, j4, k2, k3, j5, eq_false (show ¬ (tx.length : Int) <= (rest : Int) by omega), eq_false (show ¬ ((rest : Int) + ((k + 1 : Nat) : Int) < (tx.length : Int)) by omega)]
  have hld : (tx.drop rest).length = tx.length - rest := List.length_drop
  have hfl : L.flatten ++ tx.drop rest = (r.txt A).take (a + (tx.length - rest)) := by
   rw [j2, List.take_add, List.append_cancel_left_eq, e1]
   have e4 : (pre ++ tx ++ suf).drop a = tx.drop rest ++ suf := by
    rw [List.append_assoc, <- e2, <- List.drop_drop, List.drop_left, List.drop_append_of_le_length (by omega)]
   rw [e4, <- hld, List.take_left]
  have hlL : L.flatten.length = a := by rw [j2, List.length_take]; omega
  refine AYields.mono (hy L (tx.drop rest) σ' (fun e => by have := congrArg List.length e; rw [hld] at this; simp at this; omega) (by rw [List.length_append, hlL, hld]; omega) j1) ?_
  rintro v σ2 ⟨rfl, q1, q2, q3⟩
  have j4' := q2.trans j4
  have j5' := q3.trans j5
  simp (disch := first | exact dA | fail) only [↓V0, VV, reduceCtorEq, seval, a247, r0, r1, r2, r3, r4, j4', j5']
  refine AW.qx (some 9) (.p 4 (.p 5 (.p 6 (.p 7 (.p 1 (.p 2 (.a 0 (.p 3 (.a 8 (.z 9 .nil)))))))))) [(b1, .arr [.int .i64 ((k + 1 : Nat) : Nat)])] hmix (by decide) (by decide) (SB.cons j4' (SB.nil _)) ?_
  simp (disch := first | exact dA | fail) only [↓V0, VV, reduceCtorEq, seval, a247, r0, r1, r2, r3, r4, j4', j5', hne, eq_false (Ne.symm hne), eq_false hne]
  have hb : SB [(b1, Blk.arr [AV.int IntKind.i64 ((k + 1 : Nat) : Nat)])] σ2 := SB.cons j4' (SB.nil _)
  refine ⟨hb, ?_, k + 1 - (tx.drop rest).length, by omega, ⟨L ++ [tx.drop rest], a + (tx.length - rest), hJs _ _ _ _ (hJs _ _ _ _ q1 (.inr rfl)) (.inl rfl), ?_, ?_, ?_, ?_⟩⟩
  ·exact SB.cons (by rw [lk_set, if_neg (Ne.symm hne)]; exact j4') (SB.nil _)
  ·rw [List.flatten_append]; simpa using hfl
  ·omega
  ·rw [lk_set, if_pos rfl, lk_set, if_neg (Ne.symm hne), j4']
   simp only [Option.map_some, Option.some.injEq, Blk.arr.injEq, List.cons.injEq, AV.int.injEq, and_true, true_and]
   omega
  ·rw [lk_set, if_neg hne, lk_set, if_pos rfl, j5']
   simp only [Option.map_some, Option.some.injEq, Blk.arr.injEq, List.cons.injEq, AV.int.injEq, and_true, true_and]
   omega
end Go.Proofs.YtekhblefchceaaaGreat.AM

