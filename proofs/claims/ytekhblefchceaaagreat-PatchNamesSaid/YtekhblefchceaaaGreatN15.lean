/- PatchNames returns true. -/
import Derived.Test.YtekhblefchceaaaGreatN11
import Derived.Test.YtekhblefchceaaaGreatN12
import Derived.Test.YtekhblefchceaaaGreatN13
import Derived.Test.YtekhblefchceaaaGreatN14
set_option linter.unusedVariables false
set_option linter.unusedSimpArgs false
set_option linter.unusedVariables false
set_option maxRecDepth 100000
namespace Go.Proofs.YtekhblefchceaaaGreat.AM
open Go Go.Proofs
variable {σ : St}

theorem nk4_a : (orcK nS4_20).ok := orc_go primN_all (by kernel_rfl : orcB (goP primN) (orcK nS4_20) = true)
theorem nk4_b : (orcK (nS4_20.new (.arr ch0))).ok := orc_go primN_all (by kernel_rfl : orcB (goP primN) (orcK (nS4_20.new (.arr ch0))) = true)
theorem nseg4_20 {Q : Ex → Env → St → Prop} {y : ACode} (hr : AW Tryz.prog none 309 y Q (vget nL4_21) nS4_21) :
    AW Tryz.prog none 309 (.seq (.qrg r4_25 [[], [], [], [2, 2], [3], [3, 4], [0, 1, 5, 4], [6], [7], [7], [], [10, 8, 6, 0, 1, 2, 3, 4, 5, 6, 7, 8, 10], [9, 11, 0, 1, 2, 3, 4, 5, 6, 7, 8, 9, 10, 11]]) y) Q (vget nL4_20) nS4_20 := by
  refine reg25_go (by kernel_rfl) (by kernel_rfl) (by kernel_rfl) (by kernel_rfl) nk4_a nk4_b (by kernel_rfl) ?_
  have e1 : env25 nL4_20 nS4_20.n = nL4_21 := beqL_eq (by kernel_rfl)
  have e2 : nS4_20.new (.arr ch0) = nS4_21 := by
    have h1 := beqH_eq (by kernel_rfl : beqH (nS4_20.new (.arr ch0)).H nS4_21.H = true)
    have h2 := Nat.eq_of_beq_eq_true (by kernel_rfl : Nat.beq (nS4_20.new (.arr ch0)).n nS4_21.n = true)
    generalize nS4_20.new (.arr ch0) = X at h1 h2
    generalize nS4_21 = Y at h1 h2
    obtain ⟨H, n⟩ := X
    obtain ⟨H', n'⟩ := Y
    simp only at h1 h2
    rw [h1, h2]
  rw [e1, e2]
  exact hr

theorem names_0 : ACalls Tryz.prog 4 [] ⟨[], 0⟩ (fun v _ => v = .bool true) := by
  refine FOk.calls ok4 (by simp [a4]) ?_
  show AW _ _ _ c4 _ _ _
  unfold c4
  rw [← vget_args]
  exact seg_go goQ_cs nseg4_0 <| seg_go goQ_cs nseg4_1 <| seg_go goQ_cs nseg4_2 <| seg_go goQ_cs nseg4_3 <| seg_go goQ_cs nseg4_4 <| seg_go goQ_cs nseg4_5 <| seg_go goQ_cs nseg4_6 <| seg_go goQ_cs nseg4_7 <| seg_go goQ_cs nseg4_8 <| seg_go goQ_cs nseg4_9 <| seg_go goQ_cs nseg4_10 <| seg_go goQ_cs nseg4_11 <| seg_go goQ_cs nseg4_12 <| seg_go goQ_cs nseg4_13 <| seg_go goQ_cs nseg4_14 <| seg_go goQ_cs nseg4_15 <| seg_go goQ_cs nseg4_16 <| seg_go goQ_cs nseg4_17 <| seg_go goQ_cs nseg4_18 <| seg_go goQ_cs nseg4_19 <| nseg4_20 <| seg_go goQ_cs nseg4_21 <| seg_go goQ_cs nseg4_22 <| seg_go goQ_cs nseg4_23 <| seg_go goQ_cs nseg4_24 <| end_go goQ_cs nend4

end Go.Proofs.YtekhblefchceaaaGreat.AM
