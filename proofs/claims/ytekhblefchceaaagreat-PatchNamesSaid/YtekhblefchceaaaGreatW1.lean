/- From the abstract machine to the rows: a function without arguments that returns true. -/
import Derived.Test.YtekhblefchceaaaGreatMD
import Derived.RowKit
import Derived.RowKit3
set_option linter.unusedVariables false
set_option linter.unusedSimpArgs false
set_option linter.unusedVariables false
namespace Go.Proofs.YtekhblefchceaaaGreat.AM
open Go Go.ChangeShapes Go.WideShapes
variable {P : Program}

theorem row_calls {f : Nat} (h : ACalls P f [] ⟨[], 0⟩ (fun v _ => v = .bool true)) (w : World) : Calls P f #[] w fun e w' => e = .returned (.bool true) ∧ w.keptBut w' (fun _ => False) := by
  have h1 := h.2.2 ⟨fun _ => 0, fun _ => 0, fun _ => 0⟩ w [] (rel_none _ 0 w.heap) ⟨rfl, fun i x c hx hc => by simp at hx⟩
  refine callsIn_wide.1 (CallsIn.mono h1 fun e w' hp => ?_)
  cases e with
  | panicked _ => exact hp.elim
  | outgrown => exact hp.elim
  | returned cv =>
    obtain ⟨v, σ', g', rfl, h2, h3, h4⟩ := hp
    cases h3
    refine ⟨rfl, h4.os, h4.out, fun i hi => ?_⟩
    have ho : w.heap[i]? = some w.heap[i] := Array.getElem?_eq_getElem hi
    rw [kept_all h4.toEvo i _ ho, ho]
    cases w.heap[i] <;> simp

section
variable {H : Type} {enc : TypeId × Value → H}
theorem post_none {f : Func} {s : ChangeSpec} {apart fresh handsOn again : Bool} {W W' : World} {args : Array Value} {v : Value} {ds gs : List (DataW H)}
    (hW : DataW.Whole enc P f.params.toList s.vars apart W args.toList ds gs [])
    (hres : ∀ (b : Nat) (sp : Nat → Bool) (hd : Bool), DataW.TrodAll enc P W' b sp hd f.resultTypes.toList (v.resultList f.resultTypes.size) (s.fn H (ds ++ gs)).results [])
    (hargs : ∀ sp : Nat → Bool, DataW.TrodAll enc P W' 0 sp true f.params.toList args.toList (s.fn H (ds ++ gs)).args [])
    (hvars : ∀ sp : Nat → Bool, DataW.TrodVars enc P W' sp s.vars (s.fn H (ds ++ gs)).vars [])
    (hk : W.keptBut W' (fun _ => False))
    (hok : ∀ (j : Nat) (t : TypeId) (r : Value), f.resultTypes[j]? = some t → (v.resultList f.resultTypes.size)[j]? = some r → Value.okWide P W' .any 0 t r) :
    s.post enc P f apart fresh handsOn again W args v W' := by
  refine ⟨ds, gs, [], [], [], [], hW, hres _ _ _, hargs _, hvars _, World.keptBut_mono (fun p hp => hp.elim) hk, fun _ => ?_⟩
  obtain ⟨_, _, _, _, _, hz, hn⟩ := hW
  refine ⟨hok, _, _, ([] ++ []) ++ [], ⟨[] ++ [], [], trodAll_append (hargs _) (hres _ _ _), hvars _, rfl, ?_, ?_⟩, ?_⟩
  · intro b off hp
    simp at hp
  · intro ha
    simp
  · intro p hp _
    simp at hp
end

end Go.Proofs.YtekhblefchceaaaGreat.AM
