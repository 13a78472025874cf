/- PatchNames in pieces. -/
import Derived.Test.YtekhblefchceaaaGreatN10
set_option linter.unusedVariables false
set_option linter.unusedSimpArgs false
set_option linter.unusedVariables false
set_option maxRecDepth 100000
namespace Go.Proofs.YtekhblefchceaaaGreat.AM
open Go Go.Proofs
variable {σ : St}

theorem nseg4_0 : segB goQ 309 (.rg r4_0) nL4_0 nS4_0 nL4_1 nS4_1 = true := by kernel_rfl
theorem nseg4_1 : segB goQ 309 (.rg r4_1) nL4_1 nS4_1 nL4_2 nS4_2 = true := by kernel_rfl
theorem nseg4_2 : segB goQ 309 (.seq (.rg r4_2) (.cond (.t 45) (.seq (.rg r4_3) (.ret)) (.skip))) nL4_2 nS4_2 nL4_3 nS4_3 = true := by kernel_rfl
theorem nseg4_3 : segB goQ 309 (.qrg r4_4 [[], [], [], [2], [3], [2, 3, 4], [0, 1, 5, 4], [6], [7], [7], [], [10, 8, 6, 0, 1, 2, 3, 4, 5, 6, 7, 8, 10], [9, 11, 0, 1, 2, 3, 4, 5, 6, 7, 8, 9, 10, 11]]) nL4_3 nS4_3 nL4_4 nS4_4 = true := by kernel_rfl
theorem nseg4_4 : segB goQ 309 (.rg r4_5) nL4_4 nS4_4 nL4_5 nS4_5 = true := by kernel_rfl
theorem nseg4_5 : segB goQ 309 (.seq (.rg r4_6) (.cond (.t 68) (.seq (.rg r4_7) (.ret)) (.skip))) nL4_5 nS4_5 nL4_6 nS4_6 = true := by kernel_rfl
theorem nseg4_6 : segB goQ 309 (.rg r4_8) nL4_6 nS4_6 nL4_7 nS4_7 = true := by kernel_rfl
theorem nseg4_7 : segB goQ 309 (.rg r4_9) nL4_7 nS4_7 nL4_8 nS4_8 = true := by kernel_rfl

end Go.Proofs.YtekhblefchceaaaGreat.AM
