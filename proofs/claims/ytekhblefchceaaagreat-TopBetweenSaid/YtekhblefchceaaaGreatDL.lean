/- Joined: D39, D40, D41, D42. -/
import Derived.Test.YtekhblefchceaaaGreatDK
import Derived.Test.YtekhblefchceaaaGreatNB
set_option linter.unusedVariables false
set_option linter.unusedSimpArgs false
/- What patch.Between's delta means. -/
set_option maxRecDepth 20000
namespace Go.Proofs.YtekhblefchceaaaGreat.AM
open Go Go.Proofs
variable {σ : St}
def Agr (X Y : List (Nat × List UInt8)) : Prop := ∀ a, a ∈ X -> ∀ b, b ∈ Y -> a.1 = b.1 -> a.2 = b.2
theorem cpre_take : ∀ (X Y : List (Nat × List UInt8)), Agr X Y -> X.take (cpre X Y) = Y.take (cpre X Y) /\ cpre X Y <= X.length /\ cpre X Y <= Y.length
 | [], _, _ => by simp [cpre]
 | _ :: _, [], _ => by simp [cpre]
 | a :: X, b :: Y, h => by
  by_cases hh : a.1 = b.1
  ·obtain ⟨h1, h2, h3⟩ := cpre_take X Y fun x hx y hy => h x (by simp [hx]) y (by simp [hy])
   have e : cpre (a :: X) (b :: Y) = cpre X Y + 1 := if_pos hh
   have e2 : a = b := Prod.ext hh (h a (by simp) b (by simp) hh)
   rw [e, e2, List.take_succ_cons, List.take_succ_cons, h1]
   exact ⟨rfl, by simp [h2], by simp [h3]⟩
  ·have e : cpre (a :: X) (b :: Y) = 0 := if_neg hh
   rw [e]; simp
theorem csuf_drop (X Y : List (Nat × List UInt8)) (h : Agr X Y) : X.drop (X.length - csuf X Y) = Y.drop (Y.length - csuf X Y) /\ csuf X Y <= X.length /\ csuf X Y <= Y.length := by
 obtain ⟨h1, h2, h3⟩ := cpre_take X.reverse Y.reverse fun x hx y hy => h x (by simpa using hx) y (by simpa using hy)
 simp only [List.length_reverse] at h2 h3
 have e1 := congrArg List.reverse h1
 rw [List.reverse_take, List.reverse_take] at e1
 simp only [List.length_reverse, List.reverse_reverse] at e1
 exact ⟨e1, h2, h3⟩
theorem ftx_app (X Y : List (Nat × List UInt8)) : ftx (X ++ Y) = ftx X ++ ftx Y := by simp [ftx]
theorem btw_parts (X Y : List (Nat × List UInt8)) (h : Agr X Y) : ∃ P S M N, X = P ++ M ++ S /\ Y = P ++ N ++ S /\
  btw X Y = pc1 ⟨1, (ftx P).length, []⟩ ++ pc1 ⟨2, 0, ftx N⟩ ++ pc1 ⟨3, (ftx M).length, []⟩ ++ pc1 ⟨1, (ftx S).length, []⟩ /\ (M = [] -> N = [] -> S = []) := by
 obtain ⟨h1, h2, h3⟩ := cpre_take X Y h
 have hA : Agr (X.drop (cpre X Y)) (Y.drop (cpre X Y)) := fun a ha b hb => h a (List.mem_of_mem_drop ha) b (List.mem_of_mem_drop hb)
 obtain ⟨g1, g2, g3⟩ := csuf_drop _ _ hA
 have hk : ∀ a X' b Y', X.drop (cpre X Y) = a :: X' -> Y.drop (cpre X Y) = b :: Y' -> a.1 ≠ b.1 := by
  have key : ∀ (X Y : List (Nat × List UInt8)) a X' b Y', X.drop (cpre X Y) = a :: X' -> Y.drop (cpre X Y) = b :: Y' -> a.1 ≠ b.1 := by
   intro X
   induction X with
   | nil => intro Y a X' b Y' e; simp at e
   | cons x X ih =>
    intro Y a X' b Y' e1 e2
    cases Y with
    | nil => simp at e2
    | cons y Y =>
     by_cases hh : x.1 = y.1
     ·have e : cpre (x :: X) (y :: Y) = cpre X Y + 1 := if_pos hh
      rw [e, List.drop_succ_cons] at e1 e2
      exact ih Y a X' b Y' e1 e2
     ·have e : cpre (x :: X) (y :: Y) = 0 := if_neg hh
      rw [e, List.drop_zero] at e1 e2
      cases e1; cases e2
      exact hh
  exact key X Y
 unfold btw btwT
 generalize cpre X Y = k at *
 generalize hX : X.drop k = X' at *
 generalize hY : Y.drop k = Y' at *
 generalize csuf X' Y' = j at *
 refine ⟨X.take k, X'.drop (X'.length - j), X'.take (X'.length - j), Y'.take (Y'.length - j), ?_, ?_, rfl, fun e1 e2 => ?_⟩
 ·rw [List.append_assoc, List.take_append_drop, <- hX, List.take_append_drop]
 ·rw [g1, h1, List.append_assoc, List.take_append_drop, <- hY, List.take_append_drop]
 ·have a1 : X'.length - j = 0 := by
   have := congrArg List.length e1
   rw [List.length_take, List.length_nil] at this; omega
  have a2 : Y'.length - j = 0 := by
   have := congrArg List.length e2
   rw [List.length_take, List.length_nil] at this; omega
  rw [a1, a2, List.drop_zero, List.drop_zero] at g1
  rw [a1, List.drop_zero]
  cases hx : X' with
  | nil => rfl
  | cons a A => exact absurd rfl (hk a A a A hx (g1 ▸ hx))
theorem apl_pc1 (q : Pc) (d : List Pc) (s : List UInt8) (hk : q.k = 1 \/ q.k = 2 \/ q.k = 3) (h0 : q.k = 2 -> q.n = 0) (h1 : q.k ≠ 2 -> 0 <= q.n /\ q.tx = []) : apl (pc1 q ++ d) s = if q.k = 2 then q.tx ++ apl d s else if q.k = 3 then apl d (s.drop q.n.toNat) else s.take q.n.toNat ++ apl d (s.drop q.n.toNat) := by
 unfold pc1
 by_cases h : 0 < q.n \/ q.tx ≠ []
 ·rw [if_pos h]; rfl
 ·rw [if_neg h, List.nil_append]
  have hn : ¬ 0 < q.n := fun e => h (.inl e)
  have ht : q.tx = [] := Decidable.byContradiction fun e => h (.inr e)
  by_cases h2 : q.k = 2
  ·rw [if_pos h2, ht]; rfl
  ·have := (h1 h2).1
   have e : q.n = 0 := by omega
   rw [if_neg h2, e]
   simp
theorem apl_k1 (n : Nat) (d : List Pc) (s : List UInt8) : apl (pc1 ⟨1, (n : Nat), []⟩ ++ d) s = s.take n ++ apl d (s.drop n) := by
 rw [apl_pc1 _ _ _ (by simp) (by simp) (by simp)]
 simp only [show ((1 : Int) = 2) = False from by simp, show ((1 : Int) = 3) = False from by simp, if_false, Int.toNat_natCast]
theorem apl_k2 (t : List UInt8) (d : List Pc) (s : List UInt8) : apl (pc1 ⟨2, 0, t⟩ ++ d) s = t ++ apl d s := by
 rw [apl_pc1 _ _ _ (by simp) (by simp) (by simp)]
 simp only [if_true]
theorem apl_k3 (n : Nat) (d : List Pc) (s : List UInt8) : apl (pc1 ⟨3, (n : Nat), []⟩ ++ d) s = apl d (s.drop n) := by
 rw [apl_pc1 _ _ _ (by simp) (by simp) (by simp)]
 simp only [show ((3 : Int) = 2) = False from by simp, if_false, if_true, Int.toNat_natCast]
theorem apl_btw (X Y : List (Nat × List UInt8)) (h : Agr X Y) : apl (btw X Y) (ftx X) = ftx Y := by
 obtain ⟨P, S, M, N, hX, hY, hb, _⟩ := btw_parts X Y h
 have e : pc1 ⟨1, (ftx S).length, []⟩ = pc1 ⟨1, (ftx S).length, []⟩ ++ [] := (List.append_nil _).symm
 rw [hb, hX, hY, List.append_assoc (pc1 _ ++ pc1 _), List.append_assoc (pc1 _), e, apl_k1, apl_k2, apl_k3, apl_k1]
 simp only [ftx_app, apl, List.append_nil]
 simp [List.append_assoc]
theorem pc1_mem {q p : Pc} (h : p ∈ pc1 q) : p = q /\ (0 < q.n \/ q.tx ≠ []) := by
 unfold pc1 at h
 split at h
 ·rw [List.mem_singleton] at h; exact ⟨h, by assumption⟩
 ·simp at h
theorem btw_valid (X Y : List (Nat × List UInt8)) (h : Agr X Y) : ∀ q, q ∈ btw X Y -> validP q = true := by
 obtain ⟨P, S, M, N, hX, hY, hb, _⟩ := btw_parts X Y h
 intro q hq
 rw [hb] at hq
 simp only [List.mem_append] at hq
 rcases hq with ((hq | hq) | hq) | hq
 ·obtain ⟨rfl, h⟩ := pc1_mem hq
  simp only [ne_eq, not_true, or_false] at h
  simp [validP]; omega
 ·obtain ⟨rfl, h⟩ := pc1_mem hq
  simp only [Int.lt_irrefl, false_or] at h
  simpa [validP] using h
 ·obtain ⟨rfl, h⟩ := pc1_mem hq
  simp only [ne_eq, not_true, or_false] at h
  simp [validP]; omega
 ·obtain ⟨rfl, h⟩ := pc1_mem hq
  simp only [ne_eq, not_true, or_false] at h
  simp [validP]; omega
theorem pc1_sum (q : Pc) (f : Pc -> Int) (h0 : ¬ (0 < q.n \/ q.tx ≠ []) -> f q = 0) : ((pc1 q).map f).sum = f q := by
 unfold pc1
 split
 ·simp
 ·rename_i h; rw [h0 h]; rfl
theorem btw_sums (X Y : List (Nat × List UInt8)) (h : Agr X Y) : ((btw X Y).map fun q => (sizesP q).1).sum = ((ftx X).length : Nat) /\ ((btw X Y).map fun q => (sizesP q).2).sum = ((ftx Y).length : Nat) /\ (btw X Y).length <= 4 := by
 obtain ⟨P, S, M, N, hX, hY, hb, _⟩ := btw_parts X Y h
 have s1 : ∀ (n : Nat), ((pc1 ⟨1, (n : Nat), []⟩).map fun q => (sizesP q).1).sum = n /\ ((pc1 ⟨1, (n : Nat), []⟩).map fun q => (sizesP q).2).sum = n := fun n =>
  ⟨pc1_sum _ _ (fun h => by simp at h; simp [sizesP]; omega), pc1_sum _ _ (fun h => by simp at h; simp [sizesP]; omega)⟩
 have s2 : ∀ (t : List UInt8), ((pc1 ⟨2, 0, t⟩).map fun q => (sizesP q).1).sum = 0 /\ ((pc1 ⟨2, 0, t⟩).map fun q => (sizesP q).2).sum = t.length := fun t =>
  ⟨pc1_sum _ _ (fun h => by simp [sizesP]), pc1_sum _ _ (fun h => by simp at h; simp [sizesP, h])⟩
 have s3 : ∀ (n : Nat), ((pc1 ⟨3, (n : Nat), []⟩).map fun q => (sizesP q).1).sum = n /\ ((pc1 ⟨3, (n : Nat), []⟩).map fun q => (sizesP q).2).sum = 0 := fun n =>
  ⟨pc1_sum _ _ (fun h => by simp at h; simp [sizesP]; omega), pc1_sum _ _ (fun h => by simp [sizesP])⟩
 have pl : ∀ q : Pc, (pc1 q).length <= 1 := fun q => by unfold pc1; split <;> simp
 rw [hb, hX, hY]
 simp only [List.map_append, List.sum_append, (s1 _).1, (s1 _).2, (s2 _).1, (s2 _).2, (s3 _).1, (s3 _).2, ftx_app, List.length_append]
 refine ⟨by omega, by omega, ?_⟩
 have p1 := pl ⟨1, (ftx P).length, []⟩
 have p2 := pl ⟨2, 0, ftx N⟩
 have p3 := pl ⟨3, (ftx M).length, []⟩
 have p4 := pl ⟨1, (ftx S).length, []⟩
 exact Nat.le_trans (Nat.add_le_add (Nat.add_le_add (Nat.add_le_add p1 p2) p3) p4) (by decide)
theorem lenLoop_ok : ∀ (d : List Pc) (i o : Int), (∀ q, q ∈ d -> validP q = true) -> i + (d.map fun q => (sizesP q).1).sum <= 1048576 -> o + (d.map fun q => (sizesP q).2).sum <= 1048576 -> lenLoop d i o = (i + (d.map fun q => (sizesP q).1).sum, o + (d.map fun q => (sizesP q).2).sum, 0)
 | [], i, o, _, _, _ => by simp [lenLoop]
 | q :: d, i, o, hv, h1, h2 => by
  have hs := sum_nn fun x hx => hv x (List.mem_cons_of_mem q hx)
  simp only [List.map_cons, List.sum_cons] at h1 h2 ⊢
  unfold lenLoop
  rw [if_pos (hv q (by simp)), if_neg (by omega), lenLoop_ok d _ _ (fun x hx => hv x (by simp [hx])) (by omega) (by omega)]
  simp only [Int.add_assoc]
theorem btw_lengths (X Y : List (Nat × List UInt8)) (h : Agr X Y) (h1 : (ftx X).length <= 65536) (h2 : (ftx Y).length <= 65536) : lengthsP (btw X Y) = (((ftx X).length : Int), ((ftx Y).length : Int), (0 : Int)) := by
 obtain ⟨s1, s2, s3⟩ := btw_sums X Y h
 unfold lengthsP
 rw [if_neg (by omega), lenLoop_ok _ 0 0 (btw_valid X Y h) (by rw [s1]; omega) (by rw [s2]; omega), s1, s2]
 simp
theorem btw_small (X Y : List (Nat × List UInt8)) (h : Agr X Y) (h1 : (ftx X).length <= 65536) (h2 : (ftx Y).length <= 65536) : ∀ q, q ∈ btw X Y -> q.small := by
 obtain ⟨P, S, M, N, hX, hY, hb, _⟩ := btw_parts X Y h
 rw [hX, ftx_app, ftx_app, List.length_append, List.length_append] at h1
 rw [hY, ftx_app, ftx_app, List.length_append, List.length_append] at h2
 intro q hq
 rw [hb] at hq
 simp only [List.mem_append] at hq
 rcases hq with ((hq | hq) | hq) | hq <;> obtain ⟨rfl, _⟩ := pc1_mem hq <;> simp only [Pc.small, List.length_nil] <;> omega
theorem agr_prs {A : Ar} (wf : A.WF) {r r' : Rt} (hr : RtOk A r) (hr' : RtOk A r') : Agr (prs A r) (prs A r') := by
 have key : ∀ (r : Rt), RtOk A r -> ∀ a, a ∈ prs A r -> ∃ x, A.get a.1 = some x /\ a.2 = x.tx := by
  intro r hr a ha
  unfold prs lvp at ha
  obtain ⟨e, he, rfl⟩ := List.mem_map.1 ha
  have he := (List.mem_filter.1 he).1
  unfold rns at he
  split at he
  ·simp at he
  ·rename_i h0
   rcases hr with rfl | ⟨x, x1, x2, x3⟩
   ·exact absurd rfl h0
   ·exact ⟨e.2, nds_in wf r.ht r.h x x1 x2 e he, rfl⟩
 intro a ha b hb hab
 obtain ⟨x, x1, x2⟩ := key r hr a ha
 obtain ⟨y, y1, y2⟩ := key r' hr' b hb
 rw [hab, y1] at x1
 cases x1
 rw [x2, y2]
end Go.Proofs.YtekhblefchceaaaGreat.AM

/- Contracts: apply.fits, quartokit.EqualPieces. -/
set_option maxRecDepth 20000
namespace Go.Proofs.YtekhblefchceaaaGreat.AM
open Go Go.Proofs
variable {σ : St}
theorem fits_ok (s : List UInt8) (d : List Pc) (hd : d.length <= 1099511627776) (hs : ∀ q, q ∈ d -> q.small) (hl : (lengthsP d).2.2 = 0) (hin : (lengthsP d).1 = (s.length : Nat)) : ACalls Tryz.prog 51 [.str s, .vs (d.map Pc.av) .no] σ (fun v σ' => v = .int .i64 0 /\ σ' = σ) := by
 refine ACalls.quietX ?_ rfl
 refine FOk.calls ok51 (by simp [a51]) (wpc_sound hmix ?_)
 show wpc _ _ _ c51 _ _ _
 simp (disch := first | exact dA | fail) only [↓V0, VV, reduceCtorEq, seval, a51]
 refine callQ (lengths_st d hd hs) ?_
 simp (disch := first | exact dA | fail) only [↓V0, VV, reduceCtorEq, seval, a51, tup3, hl, hin]
 exact ⟨rfl, Ext.refl _⟩
end Go.Proofs.YtekhblefchceaaaGreat.AM

/- quartolaw20.PatchFinds, but for the builder. -/
set_option maxRecDepth 20000
namespace Go.Proofs.YtekhblefchceaaaGreat.AM
open Go Go.Proofs
variable {σ : St}
end Go.Proofs.YtekhblefchceaaaGreat.AM

/- Tests that the two branches go together. -/
namespace Go.Proofs.YtekhblefchceaaaGreat.AM
open Go Go.Proofs
end Go.Proofs.YtekhblefchceaaaGreat.AM

