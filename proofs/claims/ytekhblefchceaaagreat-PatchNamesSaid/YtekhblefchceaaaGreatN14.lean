/- PatchNames in pieces. -/
import Derived.Test.YtekhblefchceaaaGreatN10
set_option linter.unusedVariables false
set_option linter.unusedSimpArgs false
set_option linter.unusedVariables false
set_option maxRecDepth 100000
namespace Go.Proofs.YtekhblefchceaaaGreat.AM
open Go Go.Proofs
variable {σ : St}

theorem nseg4_11 : segB goQ 309 (.rg r4_14) nL4_11 nS4_11 nL4_12 nS4_12 = true := by kernel_rfl
theorem nseg4_12 : segB goQ 309 (.seq (.rg r4_15) (.cond (.t 179) (.seq (.rg r4_16) (.ret)) (.skip))) nL4_12 nS4_12 nL4_13 nS4_13 = true := by kernel_rfl
theorem nseg4_13 : segB goQ 309 (.qrg r4_17 [[], [], [], [2], [0, 1, 3, 2], [4], [5], [5], [6, 4, 0, 1, 2, 3, 4, 5, 6], [7, 8, 0, 1, 2, 3, 4, 5, 6, 7, 8]]) nL4_13 nS4_13 nL4_14 nS4_14 = true := by kernel_rfl
theorem nseg4_14 : segB goQ 309 (.qrg r4_18 [[], [], [], [2], [0, 1, 3, 2], [4], [5], [5], [7, 4, 0, 1, 2, 3, 4, 5, 6, 7]]) nL4_14 nS4_14 nL4_15 nS4_15 = true := by kernel_rfl
theorem nseg4_15 : segB goQ 309 (.seq (.rg r4_19) (.cond (.t 208) (.seq (.rg r4_20) (.ret)) (.skip))) nL4_15 nS4_15 nL4_16 nS4_16 = true := by kernel_rfl
theorem nseg4_16 : segB goQ 309 (.rg r4_21) nL4_16 nS4_16 nL4_17 nS4_17 = true := by kernel_rfl
theorem nseg4_17 : segB goQ 309 (.rg r4_22) nL4_17 nS4_17 nL4_18 nS4_18 = true := by kernel_rfl
theorem nseg4_18 : segB goQ 309 (.rg r4_23) nL4_18 nS4_18 nL4_19 nS4_19 = true := by kernel_rfl
theorem nseg4_19 : segB goQ 309 (.rg r4_24) nL4_19 nS4_19 nL4_20 nS4_20 = true := by kernel_rfl
theorem nseg4_21 : segB goQ 309 (.qrg r4_26 [[], [], [], [2, 2], [3], [3, 4], [0, 1, 5, 4], [6], [7], [7], [], [10, 8, 6, 0, 1, 2, 3, 4, 5, 6, 7, 8, 10], [9, 11, 0, 1, 2, 3, 4, 5, 6, 7, 8, 9, 10, 11]]) nL4_21 nS4_21 nL4_22 nS4_22 = true := by kernel_rfl
theorem nseg4_22 : segB goQ 309 (.rg r4_27) nL4_22 nS4_22 nL4_23 nS4_23 = true := by kernel_rfl
theorem nseg4_23 : segB goQ 309 (.rg r4_28) nL4_23 nS4_23 nL4_24 nS4_24 = true := by kernel_rfl
theorem nseg4_24 : segB goQ 309 (.rg r4_29) nL4_24 nS4_24 nL4_25 nS4_25 = true := by kernel_rfl
theorem nend4 : endB goQ 309 [.tmp 0] (.seq (.rg r4_30) (.ret)) nL4_25 nS4_25 = true := by kernel_rfl

end Go.Proofs.YtekhblefchceaaaGreat.AM
