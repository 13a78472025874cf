/- Joined: D39, D40, D41, D42. -/
import Derived.Test.YtekhblefchceaaaGreatDK
import Derived.Test.YtekhblefchceaaaGreatNB
set_option linter.unusedVariables false
set_option linter.unusedSimpArgs false
/- What patch.Between's delta means. -/
set_option maxRecDepth 20000
namespace Go.Proofs.YtekhblefchceaaaGreat.AM
open Go Go.Proofs
variable {σ : St}
def Agr (X Y : List (Nat × List UInt8)) : Prop := ∀ a, a ∈ X -> ∀ b, b ∈ Y -> a.1 = b.1 -> a.2 = b.2
theorem cpre_take : ∀ (X Y : List (Nat × List UInt8)), Agr X Y -> X.take (cpre X Y) = Y.take (cpre X Y) /\ cpre X Y <= X.length /\ cpre X Y <= Y.length
 | [], _, _ => by simp [cpre]
 | _ :: _, [], _ => by simp [cpre]
 | a :: X, b :: Y, h => by
  by_cases hh : a.1 = b.1
  ·obtain ⟨h1, h2, h3⟩ := cpre_take X Y fun x hx y hy => h x (by simp [hx]) y (by simp [hy])
   have e : cpre (a :: X) (b :: Y) = cpre X Y + 1 := if_pos hh
   have e2 : a = b := Prod.ext hh (h a (by simp) b (by simp) hh)
   rw [e, e2, List.take_succ_cons, List.take_succ_cons, h1]
   exact ⟨rfl, by simp [h2], by simp [h3]⟩
  ·have e : cpre (a :: X) (b :: Y) = 0 := if_neg hh
   rw [e]; simp
theorem csuf_drop (X Y : List (Nat × List UInt8)) (h : Agr X Y) : X.drop (X.length - csuf X Y) = Y.drop (Y.length - csuf X Y) /\ csuf X Y <= X.length /\ csuf X Y <= Y.length := by
 obtain ⟨h1, h2, h3⟩ := cpre_take X.reverse Y.reverse fun x hx y hy => h x (by simpa using hx) y (by simpa using hy)
 simp only [List.length_reverse] at h2 h3
 have e1 := congrArg List.reverse h1
 rw [List.reverse_take, List.reverse_take] at e1
 simp only [List.length_reverse, List.reverse_reverse] at e1
 exact ⟨e1, h2, h3⟩
theorem ftx_app (X Y : List (Nat × List UInt8)) : ftx (X ++ Y) = ftx X ++ ftx Y := by simp [ftx]
theorem btw_parts (X Y : List (Nat × List UInt8)) (h : Agr X Y) : ∃ P S M N, X = P ++ M ++ S /\ Y = P ++ N ++ S /\
  btw X Y = pc1 ⟨1, (ftx P).length, []⟩ ++ pc1 ⟨2, 0, ftx N⟩ ++ pc1 ⟨3, (ftx M).length, []⟩ ++ pc1 ⟨1, (ftx S).length, []⟩ /\ (M = [] -> N = [] -> S = []) := by
 obtain ⟨h1, h2, h3⟩ := cpre_take X Y h
 have hA : Agr (X.drop (cpre X Y)) (Y.drop (cpre X Y)) := fun a ha b hb => h a (List.mem_of_mem_drop ha) b (List.mem_of_mem_drop hb)
 obtain ⟨g1, g2, g3⟩ := csuf_drop _ _ hA
 have hk : ∀ a X' b Y', X.drop (cpre X Y) = a :: X' -> Y.drop (cpre X Y) = b :: Y' -> a.1 ≠ b.1 := by
  have key : ∀ (X Y : List (Nat × List UInt8)) a X' b Y', X.drop (cpre X Y) = a :: X' -> Y.drop (cpre X Y) = b :: Y' -> a.1 ≠ b.1 := by
   intro X
   induction X with
   | nil => intro Y a X' b Y' e; simp at e
   | cons x X ih =>
    intro Y a X' b Y' e1 e2
    cases Y with
    | nil => simp at e2
    | cons y Y =>
     by_cases hh : x.1 = y.1
     ·have e : cpre (x :: X) (y :: Y) = cpre X Y + 1 := if_pos hh
      rw [e, List.drop_succ_cons] at e1 e2
      exact ih Y a X' b Y' e1 e2
     ·have e : cpre (x :: X) (y :: Y) = 0 := if_neg hh
      rw [e, List.drop_zero] at e1 e2
      cases e1; cases e2
      exact hh
  exact key X Y
 unfold btw btwT
 generalize cpre X Y = k at *
 generalize hX : X.drop k = X' at *
 generalize hY : Y.drop k = Y' at *
 generalize csuf X' Y' = j at *
 refine ⟨X.take k, X'.drop (X'.length - j), X'.take (X'.length - j), Y'.take (Y'.length - j), ?_, ?_, rfl, fun e1 e2 => ?_⟩
 ·rw [List.append_assoc, List.take_append_drop, <- hX, List.take_append_drop]
 ·rw [g1, h1, List.append_assoc, List.take_append_drop, <- hY, List.take_append_drop]
 ·have a1 : X'.length - j = 0 := by
   have := congrArg List.length e1
   rw [List.length_take, List.length_nil] at this; omega
  have a2 : Y'.length - j = 0 := by
   have := congrArg List.length e2
   rw [List.length_take, List.length_nil] at this; omega
  rw [a1, a2, List.drop_zero, List.drop_zero] at g1
  rw [a1, List.drop_zero]
  cases hx : X' with
  | nil => rfl
  | cons a A => exact absurd rfl (hk a A a A hx (g1 ▸ hx))
theorem apl_pc1 (q : Pc) (d : List Pc) (s : List UInt8) (hk : q.k = 1 \/ q.k = 2 \/ q.k = 3) (h0 : q.k = 2 -> q.n = 0) (h1 : q.k ≠ 2 -> 0 <= q.n /\ q.tx = []) : apl (pc1 q ++ d) s = if q.k = 2 then q.tx ++ apl d s else if q.k = 3 then apl d (s.drop q.n.toNat) else s.take q.n.toNat ++ apl d (s.drop q.n.toNat) := by
 unfold pc1
 by_cases h : 0 < q.n \/ q.tx ≠ []
 ·rw [if_pos h]; rfl
 ·rw [if_neg h, List.nil_append]
  have hn : ¬ 0 < q.n := fun e => h (.inl e)
  have ht : q.tx = [] := Decidable.byContradiction fun e => h (.inr e)
  by_cases h2 : q.k = 2
  ·rw [if_pos h2, ht]; rfl
  ·have := (h1 h2).1
   have e : q.n = 0 := by omega
   rw [if_neg h2, e]
   simp
theorem apl_k1 (n : Nat) (d : List Pc) (s : List UInt8) : apl (pc1 ⟨1, (n : Nat), []⟩ ++ d) s = s.take n ++ apl d (s.drop n) := by
 rw [apl_pc1 _ _ _ (by simp) (by simp) (by simp)]
 simp only [show ((1 : Int) = 2) = False from by simp, show ((1 : Int) = 3) = False from by simp, if_false, Int.toNat_natCast]
theorem apl_k2 (t : List UInt8) (d : List Pc) (s : List UInt8) : apl (pc1 ⟨2, 0, t⟩ ++ d) s = t ++ apl d s := by
 rw [apl_pc1 _ _ _ (by simp) (by simp) (by simp)]
 simp only [if_true]
theorem apl_k3 (n : Nat) (d : List Pc) (s : List UInt8) : apl (pc1 ⟨3, (n : Nat), []⟩ ++ d) s = apl d (s.drop n) := by
 rw [apl_pc1 _ _ _ (by simp) (by simp) (by simp)]
 simp only [show ((3 : Int) = 2) = False from by simp, if_false, if_true, Int.toNat_natCast]
theorem apl_btw (X Y : List (Nat × List UInt8)) (h : Agr X Y) : apl (btw X Y) (ftx X) = ftx Y := by
 obtain ⟨P, S, M, N, hX, hY, hb, _⟩ := btw_parts X Y h
 have e : pc1 ⟨1, (ftx S).length, []⟩ = pc1 ⟨1, (ftx S).length, []⟩ ++ [] := (List.append_nil _).symm
 rw [hb, hX, hY, List.append_assoc (pc1 _ ++ pc1 _), List.append_assoc (pc1 _), e, apl_k1, apl_k2, apl_k3, apl_k1]
 simp only [ftx_app, apl, List.append_nil]
 simp [List.append_assoc]
theorem pc1_mem {q p : Pc} (h : p ∈ pc1 q) : p = q /\ (0 < q.n \/ q.tx ≠ []) := by
 unfold pc1 at h
 split at h
 ·rw [List.mem_singleton] at h; exact ⟨h, by assumption⟩
 ·simp at h
theorem btw_valid (X Y : List (Nat × List UInt8)) (h : Agr X Y) : ∀ q, q ∈ btw X Y -> validP q = true := by
 obtain ⟨P, S, M, N, hX, hY, hb, _⟩ := btw_parts X Y h
 intro q hq
 rw [hb] at hq
 simp only [List.mem_append] at hq
 rcases hq with ((hq | hq) | hq) | hq
 ·obtain ⟨rfl, h⟩ := pc1_mem hq
  simp only [ne_eq, not_true, or_false] at h
  simp [validP]; omega
 ·obtain ⟨rfl, h⟩ := pc1_mem hq
  simp only [Int.lt_irrefl, false_or] at h
  simpa [validP] using h
 ·obtain ⟨rfl, h⟩ := pc1_mem hq
  simp only [ne_eq, not_true, or_false] at h
  simp [validP]; omega
 ·obtain ⟨rfl, h⟩ := pc1_mem hq
  simp only [ne_eq, not_true, or_false] at h
  simp [validP]; omega
theorem pc1_sum (q : Pc) (f : Pc -> Int) (h0 : ¬ (0 < q.n \/ q.tx ≠ []) -> f q = 0) : ((pc1 q).map f).sum = f q := by
 unfold pc1
 split
 ·simp
 ·rename_i h; rw [h0 h]; rfl
theorem btw_sums (X Y : List (Nat × List UInt8)) (h : Agr X Y) : ((btw X Y).map fun q => (sizesP q).1).sum = ((ftx X).length : Nat) /\ ((btw X Y).map fun q => (sizesP q).2).sum = ((ftx Y).length : Nat) /\ (btw X Y).length <= 4 := by
 obtain ⟨P, S, M, N, hX, hY, hb, _⟩ := btw_parts X Y h
 have s1 : ∀ (n : Nat), ((pc1 ⟨1, (n : Nat), []⟩).map fun q => (sizesP q).1).sum = n /\ ((pc1 ⟨1, (n : Nat), []⟩).map fun q => (sizesP q).2).sum = n := fun n =>
  ⟨pc1_sum _ _ (fun h => by simp at h; simp [sizesP]; omega), pc1_sum _ _ (fun h => by simp at h; simp [sizesP]; omega)⟩
 have s2 : ∀ (t : List UInt8), ((pc1 ⟨2, 0, t⟩).map fun q => (sizesP q).1).sum = 0 /\ ((pc1 ⟨2, 0, t⟩).map fun q => (sizesP q).2).sum = t.length := fun t =>
  ⟨pc1_sum _ _ (fun h => by simp [sizesP]), pc1_sum _ _ (fun h => by simp at h; simp [sizesP, h])⟩
 have s3 : ∀ (n : Nat), ((pc1 ⟨3, (n : Nat), []⟩).map fun q => (sizesP q).1).sum = n /\ ((pc1 ⟨3, (n : Nat), []⟩).map fun q => (sizesP q).2).sum = 0 := fun n =>
  ⟨pc1_sum _ _ (fun h => by simp at h; simp [sizesP]; omega), pc1_sum _ _ (fun h => by simp [sizesP])⟩
 have pl : ∀ q : Pc, (pc1 q).length <= 1 := fun q => by unfold pc1; split <;> simp
 rw [hb, hX, hY]
 simp only [List.map_append, List.sum_append, (s1 _).1, (s1 _).2, (s2 _).1, (s2 _).2, (s3 _).1, (s3 _).2, ftx_app, List.length_append]
 refine ⟨by omega, by omega, ?_⟩
 have p1 := pl ⟨1, (ftx P).length, []⟩
 have p2 := pl ⟨2, 0, ftx N⟩
 have p3 := pl ⟨3, (ftx M).length, []⟩
 have p4 := pl ⟨1, (ftx S).length, []⟩
 exact Nat.le_trans (Nat.add_le_add (Nat.add_le_add (Nat.add_le_add p1 p2) p3) p4) (by decide)
theorem lenLoop_ok : ∀ (d : List Pc) (i o : Int), (∀ q, q ∈ d -> validP q = true) -> i + (d.map fun q => (sizesP q).1).sum <= 1048576 -> o + (d.map fun q => (sizesP q).2).sum <= 1048576 -> lenLoop d i o = (i + (d.map fun q => (sizesP q).1).sum, o + (d.map fun q => (sizesP q).2).sum, 0)
 | [], i, o, _, _, _ => by simp [lenLoop]
 | q :: d, i, o, hv, h1, h2 => by
  have hs := sum_nn fun x hx => hv x (List.mem_cons_of_mem q hx)
  simp only [List.map_cons, List.sum_cons] at h1 h2 ⊢
  unfold lenLoop
  rw [if_pos (hv q (by simp)), if_neg (by omega), lenLoop_ok d _ _ (fun x hx => hv x (by simp [hx])) (by omega) (by omega)]
  simp only [Int.add_assoc]
theorem btw_lengths (X Y : List (Nat × List UInt8)) (h : Agr X Y) (h1 : (ftx X).length <= 65536) (h2 : (ftx Y).length <= 65536) : lengthsP (btw X Y) = (((ftx X).length : Int), ((ftx Y).length : Int), (0 : Int)) := by
 obtain ⟨s1, s2, s3⟩ := btw_sums X Y h
 unfold lengthsP
 rw [if_neg (by omega), lenLoop_ok _ 0 0 (btw_valid X Y h) (by rw [s1]; omega) (by rw [s2]; omega), s1, s2]
 simp
theorem btw_small (X Y : List (Nat × List UInt8)) (h : Agr X Y) (h1 : (ftx X).length <= 65536) (h2 : (ftx Y).length <= 65536) : ∀ q, q ∈ btw X Y -> q.small := by
 obtain ⟨P, S, M, N, hX, hY, hb, _⟩ := btw_parts X Y h
 rw [hX, ftx_app, ftx_app, List.length_append, List.length_append] at h1
 rw [hY, ftx_app, ftx_app, List.length_append, List.length_append] at h2
 intro q hq
 rw [hb] at hq
 simp only [List.mem_append] at hq
 rcases hq with ((hq | hq) | hq) | hq <;> obtain ⟨rfl, _⟩ := pc1_mem hq <;> simp only [Pc.small, List.length_nil] <;> omega
theorem agr_prs {A : Ar} (wf : A.WF) {r r' : Rt} (hr : RtOk A r) (hr' : RtOk A r') : Agr (prs A r) (prs A r') := by
 have key : ∀ (r : Rt), RtOk A r -> ∀ a, a ∈ prs A r -> ∃ x, A.get a.1 = some x /\ a.2 = x.tx := by
  intro r hr a ha
  unfold prs lvp at ha
  obtain ⟨e, he, rfl⟩ := List.mem_map.1 ha
  have he := (List.mem_filter.1 he).1
  unfold rns at he
  split at he
  ·simp at he
  ·rename_i h0
   rcases hr with rfl | ⟨x, x1, x2, x3⟩
   ·exact absurd rfl h0
   ·exact ⟨e.2, nds_in wf r.ht r.h x x1 x2 e he, rfl⟩
 intro a ha b hb hab
 obtain ⟨x, x1, x2⟩ := key r hr a ha
 obtain ⟨y, y1, y2⟩ := key r' hr' b hb
 rw [hab, y1] at x1
 cases x1
 rw [x2, y2]
theorem btw_self (X : List (Nat × List UInt8)) : btw X X = pc1 ⟨1, (ftx X).length, []⟩ := by
 have hk : ∀ X : List (Nat × List UInt8), cpre X X = X.length := by
  intro X
  induction X with
  | nil => rfl
  | cons a X ih =>
   have e : cpre (a :: X) (a :: X) = cpre X X + 1 := if_pos rfl
   rw [e, ih, List.length_cons]
 unfold btw btwT
 rw [hk, List.take_length, List.drop_length]
 have e : csuf ([] : List (Nat × List UInt8)) [] = 0 := rfl
 rw [e]
 simp [ftx, pc1]
end Go.Proofs.YtekhblefchceaaaGreat.AM

/- Contracts: apply.fits, quartokit.EqualPieces. -/
set_option maxRecDepth 20000
namespace Go.Proofs.YtekhblefchceaaaGreat.AM
open Go Go.Proofs
variable {σ : St}
theorem fits_ok (s : List UInt8) (d : List Pc) (hd : d.length <= 1099511627776) (hs : ∀ q, q ∈ d -> q.small) (hl : (lengthsP d).2.2 = 0) (hin : (lengthsP d).1 = (s.length : Nat)) : ACalls Tryz.prog 51 [.str s, .vs (d.map Pc.av) .no] σ (fun v σ' => v = .int .i64 0 /\ σ' = σ) := by
 refine ACalls.quietX ?_ rfl
 refine FOk.calls ok51 (by simp [a51]) (wpc_sound hmix ?_)
 show wpc _ _ _ c51 _ _ _
 simp (disch := first | exact dA | fail) only [↓V0, VV, reduceCtorEq, seval, a51]
 refine callQ (lengths_st d hd hs) ?_
 simp (disch := first | exact dA | fail) only [↓V0, VV, reduceCtorEq, seval, a51, tup3, hl, hin]
 exact ⟨rfl, Ext.refl _⟩
theorem eqp_ok (d : List Pc) (hd : d.length <= 1099511627776) (t t' : Tok) : ACalls Tryz.prog 15 [.vs (d.map Pc.av) t, .vs (d.map Pc.av) t'] σ (fun v σ' => v = .bool true /\ σ' = σ) := by
 refine ACalls.quietX ?_ rfl
 have hll : (d.map Pc.av).length = d.length := List.length_map _
 refine FOk.calls ok15 (by simp [a15]) (wpc_sound hmix ?_)
 show wpc _ _ _ c15 _ _ _
 simp (disch := first | exact dA | fail) only [↓V0, VV, reduceCtorEq, seval, a15]
 refine AW.upto hmix (fun i ρ σ' => ρ 0 = .vs (d.map Pc.av) t /\ ρ 1 = .vs (d.map Pc.av) t' /\ ρ 5 = .int .i64 (i : Nat) /\ Ext σ σ') d.length
  ⟨by exact wA, by exact wA, by exact wA, by exact eA⟩ (fun i ρ σ' hi h => ?_) (fun ρ σ' h => ?_)
 ·obtain ⟨r0, r1, r5, hE⟩ := h
  have hgi : (d.map Pc.av)[i]? = some d[i].av := by simp [hi]
  generalize d[i] = q at *
  have heq : eqList [.i, .i, .s] [.int .u8 q.k, .int .i64 q.n, .str q.tx] [.int .u8 q.k, .int .i64 q.n, .str q.tx] = some true := by simp [eqList, eqSc]
  simp (disch := first | exact dA | fail) only [↓V0, VV, reduceCtorEq, seval, a15, r0, r1, r5, hll, hgi, Pc.av, Pc.cs, heq]
  exact ⟨by congr 1, hE⟩
 ·obtain ⟨r0, r1, r5, hE⟩ := h
  simp (disch := first | exact dA | fail) only [↓V0, VV, reduceCtorEq, seval, a15, r0, r1, r5, hll]
  exact ⟨rfl, hE⟩
end Go.Proofs.YtekhblefchceaaaGreat.AM

/- quartolaw20.PatchFinds, but for the builder. -/
set_option maxRecDepth 20000
namespace Go.Proofs.YtekhblefchceaaaGreat.AM
open Go Go.Proofs
variable {σ : St}
theorem ne_prs {A : Ar} (wf : A.WF) {r : Rt} (hr : RtOk A r) : ∀ a, a ∈ prs A r -> a.2 ≠ [] := by
 intro a ha
 unfold prs lvp at ha
 obtain ⟨e, he, rfl⟩ := List.mem_map.1 ha
 obtain ⟨he, h0⟩ := List.mem_filter.1 he
 unfold rns at he
 split at he
 ·simp at he
 ·rename_i h1
  rcases hr with rfl | ⟨x, x1, x2, x3⟩
  ·exact absurd rfl h1
  ·have hg := nds_in wf r.ht r.h x x1 x2 e he
   have hk := (wf _ _ hg).2.1
   have h2 : e.2.ht = 0 := by simpa using h0
   intro h3
   have h3 : e.2.tx = [] := h3
   unfold Nd.ok at hk
   simp [h2, h3] at hk
structure Wanted : Prop where
 works : ∀ σ, ACalls Tryz.prog 8 [] σ (fun v σ' => v = .bool true /\ σ' = σ)
 norm : ∀ (X Y : List (Nat × List UInt8)) (σ : St), Agr X Y -> (∀ a, a ∈ X -> a.2 ≠ []) -> (∀ a, a ∈ Y -> a.2 ≠ []) -> (ftx X).length <= 65536 -> (ftx Y).length <= 65536 -> ACalls Tryz.prog 13 [.vs ((btw X Y).map Pc.av) .no] σ (fun v σ' => v = .tup [.vs ((btw X Y).map Pc.av) .no, .int .i64 0] /\ σ' = σ)
 app : ∀ (d : List Pc) (s : List UInt8) (σ : St), d.length <= 4 -> s.length <= 65536 -> (∀ q, q ∈ d -> q.small) -> lengthsP d = ((s.length : Int), (lengthsP d).2.1, (0 : Int)) -> (lengthsP d).2.1 <= 65536 -> ACalls Tryz.prog 14 [.str s, .vs (d.map Pc.av) .no] σ (fun v σ' => v = .tup [.str (apl d s), .int .i64 0] /\ σ' = σ)
theorem finds_ok (W : Wanted) (ts : List (List UInt8)) (ops : List Op6) (which other : Int) (hl : ts.length <= 9223372036854775807) (hs : ∀ t, t ∈ ts -> t.length <= 9223372036854775807) (hol : ops.length <= 9223372036854775807) (hos : ∀ o, o ∈ ops -> opS o) :
  ACalls Tryz.prog 3 [.vs (sav ts) .no, .vs (ops.map Op6.av) .no, .int .i64 which, .int .i64 other] σ (fun v σ' => v = .bool true /\ σ' = σ) := by
 refine ACalls.quietX ?_ rfl
 refine FOk.calls ok3 (by simp [a3]) (wpc_sound hmix ?_)
 show wpc _ _ _ c3 _ _ _
 simp (disch := first | exact dA | fail) only [↓V0, VV, reduceCtorEq, seval, a3]
 refine (beyond_ok ts ops hl hs hol hos).mono ?_
 rintro v σ' ⟨⟨b, rfl, hb⟩, rfl⟩
 cases b with
 | true =>
  simp (disch := first | exact dA | fail) only [↓V0, VV, reduceCtorEq, seval, a3]
  refine callQ (W.works _) ?_
  simp (disch := first | exact dA | fail) only [↓V0, VV, reduceCtorEq, seval, a3]
  exact ⟨rfl, Ext.refl _⟩
 | false =>
  obtain ⟨⟨b1, b2⟩, b3, b4⟩ := hb rfl
  simp (disch := first | exact dA | fail) only [↓V0, VV, reduceCtorEq, seval, a3]
  refine (qmake_ok ts ops b1 b2 b3 fun o ho => ⟨(hos o ho).1, b4 o ho⟩).mono ?_
  rintro v σ1 ⟨p, A, rs, ts', tk, tk', rfl, hM, hp⟩
  obtain ⟨hG, hR, hB, hL, hA, hO, hO', hTw⟩ := hM
  have wf := hG.wf
  have hlr : (rs.map Rt.av).length = rs.length := List.length_map _
  have hE := hO.ext
  simp (disch := first | exact dA | fail) only [↓V0, VV, reduceCtorEq, seval, a3]
  by_cases hrs : rs = []
  ·subst hrs
   simp (disch := first | exact dA | fail) only [↓V0, VV, reduceCtorEq, seval, a3]
   refine callQ (W.works _) ?_
   simp (disch := first | exact dA | fail) only [↓V0, VV, reduceCtorEq, seval, a3]
   exact ⟨rfl, hE⟩
  ·have hlt1 := getD_ne hrs which Rt.z
   have hlt2 := getD_ne hrs other Rt.z
   have hlp : 0 < rs.length := List.length_pos_iff.2 hrs
   have hlr0 : (((rs.map Rt.av).length : Int) = 0) = False := eq_false (by rw [hlr]; omega)
   have hlr1 : ((rs.map Rt.av).length : Int) - 1 = ((rs.length - 1 : Nat) : Int) := by rw [hlr]; omega
   obtain ⟨r1, r2⟩ := hR.2 _ hlt1
   obtain ⟨r3, r4⟩ := hR.2 _ hlt2
   have hg1 : (rs.map Rt.av)[pk which (rs.length - 1)]? = some (rs.getD (pk which (rs.length - 1)) Rt.z).av := by simp [List.getD_eq_getElem?_getD, hlt1]
   have hg2 : (rs.map Rt.av)[pk other (rs.length - 1)]? = some (rs.getD (pk other (rs.length - 1)) Rt.z).av := by simp [List.getD_eq_getElem?_getD, hlt2]
   have hh1 : (sav ts')[pk which (rs.length - 1)]? = some (.str (ts'.getD (pk which (rs.length - 1)) [])) := by
    have : pk which (rs.length - 1) < ts'.length := by rw [<- hR.1]; exact hlt1
    simp [sav, List.getD_eq_getElem?_getD, this]
   have hh2 : (sav ts')[pk other (rs.length - 1)]? = some (.str (ts'.getD (pk other (rs.length - 1)) [])) := by
    have : pk other (rs.length - 1) < ts'.length := by rw [<- hR.1]; exact hlt2
    simp [sav, List.getD_eq_getElem?_getD, this]
   have hm2 : (ts'.getD (pk other (rs.length - 1)) []).length <= 900 + 200 * ops.length := hB _ (List.mem_of_getElem? (i := pk other (rs.length - 1)) (by
    have : pk other (rs.length - 1) < ts'.length := by rw [<- hR.1]; exact hlt2
    simp [List.getD_eq_getElem?_getD, this]))
   have hpe : pk which (rs.length - 1) = pk other (rs.length - 1) -> rs.getD (pk which (rs.length - 1)) Rt.z = rs.getD (pk other (rs.length - 1)) Rt.z := fun e => by rw [e]
   simp (disch := first | exact dA | fail) only [↓V0, VV, reduceCtorEq, seval, a3, hlr0, hlr1]
   refine callQ (pick_ok which (rs.length - 1) (by omega)) ?_
   simp (disch := first | exact dA | fail) only [↓V0, VV, reduceCtorEq, seval, a3, hlr1]
   refine callQ (pick_ok other (rs.length - 1) (by omega)) ?_
   generalize pk which (rs.length - 1) = i at *
   generalize pk other (rs.length - 1) = j at *
   generalize rs.getD i Rt.z = R1 at *
   generalize rs.getD j Rt.z = R2 at *
   generalize ts'.getD i [] = T1 at *
   generalize ts'.getD j [] = T2 at *
   simp (disch := first | exact dA | fail) only [↓V0, VV, reduceCtorEq, seval, a3, hg1, hg2, Rt.av, Rt.cs]
   have hbt := between_ok wf R1 R2 r1 r3 hA
   simp only [Rt.av, Rt.cs] at hbt
   refine callQ hbt ?_
   clear hbt
   have hagr := agr_prs wf r1 r3
   have hX : ftx (prs A R1) = T1 := by unfold ftx; rw [prs_txt wf r1, r2]
   have hY : ftx (prs A R2) = T2 := by unfold ftx; rw [prs_txt wf r3, r4]
   have hX6 : T1.length <= 65536 := by rw [<- r2]; exact rtxt_len wf r1
   have hY6 : T2.length <= 65536 := by rw [<- r4]; exact rtxt_len wf r3
   have hlen := btw_lengths _ _ hagr (by rw [hX]; exact hX6) (by rw [hY]; exact hY6)
   have hsm := btw_small _ _ hagr (by rw [hX]; exact hX6) (by rw [hY]; exact hY6)
   have hap := apl_btw _ _ hagr
   have hd4 := (btw_sums _ _ hagr).2.2
   have hno := fun σ => W.norm _ _ σ hagr (ne_prs wf r1) (ne_prs wf r3) (by rw [hX]; exact hX6) (by rw [hY]; exact hY6)
   have hse : i = j -> btw (prs A R1) (prs A R2) = pc1 ⟨1, (T1.length : Nat), []⟩ := fun e => by rw [<- hX, <- hpe e]; exact btw_self _
   rw [hX, hY] at hlen
   rw [hX, hY] at hap
   generalize btw (prs A R1) (prs A R2) = d at *
   have hl2 : (lengthsP d).2.2 = 0 := by rw [hlen]
   have hl1 : (lengthsP d).1 = (T1.length : Nat) := by rw [hlen]
   have hl3 : (lengthsP d).2.1 = (T2.length : Nat) := by rw [hlen]
   have happ := fun σ => W.app d T1 σ hd4 hX6 hsm (by rw [hlen]) (by rw [hl3]; omega)
   rw [hap] at happ
   simp (disch := first | exact dA | fail) only [↓V0, VV, reduceCtorEq, seval, a3]
   refine callQ (dcheck_st d (by omega) hsm) ?_
   simp (disch := first | exact dA | fail) only [↓V0, VV, reduceCtorEq, seval, a3, hl2]
   refine callQ (hno _) ?_
   simp (disch := first | exact dA | fail) only [↓V0, VV, reduceCtorEq, seval, a3, hh1]
   refine callQ (happ _) ?_
   simp (disch := first | exact dA | fail) only [↓V0, VV, reduceCtorEq, seval, a3]
   refine callQ (eqp_ok d (by omega) .no .no) ?_
   simp (disch := first | exact dA | fail) only [↓V0, VV, reduceCtorEq, seval, a3, hh2]
   generalize hC : ((ACode.rg r3_18).seq (((ACode.rg r3_19).seq (ACode.cond (Opd.t 141) ((ACode.rg r3_20).seq ACode.ret) ACode.skip)).seq ((ACode.rg r3_21).seq ((ACode.rg r3_22).seq ACode.ret)))) = C
   have next : ∀ ρ : Env, ρ 9 = .ptr p.a 0 -> ρ 10 = .vs (rs.map Rt.av) tk -> ρ 11 = .vs (sav ts') tk' -> ρ 13 = .int .i64 (i : Nat) -> ρ 14 = .int .i64 (j : Nat) -> ρ 15 = .vs (d.map Pc.av) .no -> wpc Tryz.prog none 167 C (FPost [RV.tmp 8] fun v σ'_1 => v.er = AV.bool true /\ Ext σ' σ'_1) ρ σ1 := by
    intro ρ r9 r10 r11 r13 r14 r15
    subst hC
    have hmb : (R1.m.b : Int) = (T1.length : Nat) := by rw [(rt_bytes wf r1).2, r2]
    have hao := apply_ok hG R1 r1 d (by omega) hsm hl2 (by rw [hl1, hmb]) (by rw [hl3]; omega) hA
    simp only [Rt.av, Rt.cs] at hao
    simp (disch := first | exact dA | fail) only [↓V0, VV, reduceCtorEq, seval, a3, r9, r10, r13, r15, hg1, Rt.av, Rt.cs]
    refine hao.mono ?_
    rintro v σ2 ⟨B, ⟨r', hs', dr, e, T, rfl, hT1, hT2, hW⟩, hA2, hF⟩
    have hE2 : Ext σ' σ2 := ⟨by have := hE.1; rw [hF.1]; exact this, fun β hβ => (hF.2 β (by have := hE.1; omega) (fun hh => by have := hp β hh; omega)).trans (hE.2 β hβ)⟩
    rcases hW.alt with ⟨rfl, w1, w2, w3⟩ | ⟨rfl, rfl, rfl, _⟩
    ·rw [r2, hap] at hT2
     simp (disch := first | exact dA | fail) only [↓V0, VV, reduceCtorEq, seval, a3, List.cons_append, List.nil_append]
     have hrt := fun (σ : St) (hA : ArAt p σ B) => rtext_ok (σ := σ) hW.g.wf r' w1 hA
     simp only [Rt.av, Rt.cs] at hrt
     simp (disch := first | exact dA | fail) only [↓V0, VV, reduceCtorEq, seval, a3, r9]
     refine callQ (hrt _ (hA2.ext (by exact eA))) ?_
     have hrT : r'.txt B = T2 := w2.trans hT2
     simp (disch := first | exact dA | fail) only [↓V0, VV, reduceCtorEq, seval, a3, r11, r14, hh2, hrT]
     refine callQ (W.works _) ?_
     simp (disch := first | exact dA | fail) only [↓V0, VV, reduceCtorEq, seval, a3]
     exact ⟨rfl, hE2.trans (by exact eA)⟩
    ·simp (disch := first | exact dA | fail) only [↓V0, VV, reduceCtorEq, seval, a3, List.cons_append, List.nil_append, Rt.z]
     refine callQ (W.works _) ?_
     simp (disch := first | exact dA | fail) only [↓V0, VV, reduceCtorEq, seval, a3]
     exact ⟨rfl, hE2.trans (by exact eA)⟩
   clear hC
   by_cases hij : i = j
   ·have hd := hse hij
    subst hij
    by_cases ht : 0 < T1.length
    ·have hd1 : d = [⟨1, (T1.length : Nat), []⟩] := by rw [hd]; exact if_pos (.inl (by simp only; omega))
     subst hd1
     have heq : eqList [.i, .i, .s] [.int .u8 1, .int .i64 (T1.length : Nat), .str []] [.int .u8 1, .int .i64 (T1.length : Nat), .str []] = some true := by simp [eqList, eqSc]
     refine AW.qx none (.p 0 (.p 1 (.p 2 (.p 3 (.p 4 (.p 5 (.p 6 (.p 7 (.p 8 (.p 9 (.p 10 (.p 11 (.p 12 (.p 13 (.p 14 (.p 15 (.p 16 (.p 17 (.p 18 (.p 19 (.a 20 (.p 21 (.p 22 (.p 23 (.p 24 .nil))))))))))))))))))))))))) [] hmix (by decide) (by decide) (SB.nil _) ?_
     simp (disch := first | exact dA | fail) only [↓V0, VV, reduceCtorEq, seval, a3, Pc.av, Pc.cs, hh1]
     refine callQ (keep_st _) ?_
     simp (disch := first | exact dA | fail) only [↓V0, VV, reduceCtorEq, seval, a3, Pc.av, Pc.cs, heq]
     exact next _ (by exact wA) (by exact wA) (by exact wA) (by exact wA) (by exact wA) (by (simp only [↓W0, W, reduceCtorEq, seval, Pc.av, Pc.cs]; first | done | rfl | omega | simp))
    ·have hd0 : d = [] := by
      rw [hd]
      refine if_neg fun h => ?_
      rcases h with h | h
      ·simp only at h; omega
      ·exact h rfl
     subst hd0
     refine AW.qx none (.p 0 (.p 1 (.p 2 (.p 3 (.p 4 (.p 5 (.p 6 (.p 7 (.p 8 (.p 9 (.p 10 (.p 11 (.p 12 (.p 13 (.p 14 (.p 15 (.p 16 (.p 17 (.p 18 (.p 19 (.a 20 (.p 21 (.p 22 (.p 23 (.p 24 .nil))))))))))))))))))))))))) [] hmix (by decide) (by decide) (SB.nil _) ?_
     simp (disch := first | exact dA | fail) only [↓V0, VV, reduceCtorEq, seval, a3]
     exact next _ (by exact wA) (by exact wA) (by exact wA) (by exact wA) (by exact wA) (by exact wA)
   ·refine AW.qx none (.p 0 (.p 1 (.p 2 (.p 3 (.p 4 (.p 5 (.p 6 (.p 7 (.p 8 (.p 9 (.p 10 (.p 11 (.p 12 (.p 13 (.p 14 (.p 15 (.p 16 (.p 17 (.p 18 (.p 19 (.a 20 (.p 21 (.p 22 (.p 23 (.p 24 .nil))))))))))))))))))))))))) [] hmix (by decide) (by decide) (SB.nil _) ?_
    simp (disch := first | exact dA | fail) only [↓V0, VV, reduceCtorEq, seval, a3, eq_false (show ¬ (i : Int) = (j : Int) by omega)]
    exact next _ (by exact wA) (by exact wA) (by exact wA) (by exact wA) (by exact wA) (by exact wA)
end Go.Proofs.YtekhblefchceaaaGreat.AM

/- Tests that the two branches go together. -/
namespace Go.Proofs.YtekhblefchceaaaGreat.AM
open Go Go.Proofs
theorem works_wanted : ∀ σ : St, ACalls Tryz.prog 8 [] σ (fun v σ' => v = .bool true /\ σ' = σ) := fun _ => works_ok
end Go.Proofs.YtekhblefchceaaaGreat.AM

