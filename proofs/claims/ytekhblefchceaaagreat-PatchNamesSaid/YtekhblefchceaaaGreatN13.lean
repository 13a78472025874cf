/- PatchNames in pieces. -/
import Derived.Test.YtekhblefchceaaaGreatN10
set_option linter.unusedVariables false
set_option linter.unusedSimpArgs false
set_option linter.unusedVariables false
set_option maxRecDepth 100000
namespace Go.Proofs.YtekhblefchceaaaGreat.AM
open Go Go.Proofs
variable {σ : St}

theorem nseg4_9 : segB goQ 309 (.rg r4_12) nL4_9 nS4_9 nL4_10 nS4_10 = true := by kernel_rfl

end Go.Proofs.YtekhblefchceaaaGreat.AM
