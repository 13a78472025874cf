/- PatchNames in pieces. -/
import Derived.Test.YtekhblefchceaaaGreatN10
set_option linter.unusedVariables false
set_option linter.unusedSimpArgs false
set_option linter.unusedVariables false
set_option maxRecDepth 100000
namespace Go.Proofs.YtekhblefchceaaaGreat.AM
open Go Go.Proofs
variable {σ : St}

theorem nseg4_8 : segB goQ 309 (.seq (.rg r4_10) (.cond (.t 134) (.seq (.rg r4_11) (.ret)) (.skip))) nL4_8 nS4_8 nL4_9 nS4_9 = true := by kernel_rfl
theorem nseg4_10 : segB goQ 309 (.rg r4_13) nL4_10 nS4_10 nL4_11 nS4_11 = true := by kernel_rfl

end Go.Proofs.YtekhblefchceaaaGreat.AM
