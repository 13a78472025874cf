/- Joined: N51, N52, N53, N5. -/
import Derived.Test.YtekhblefchceaaaGreatNA
set_option linter.unusedVariables false
set_option linter.unusedSimpArgs false
/- The answer of small(). -/
set_option maxRecDepth 100000
namespace Go.Proofs.YtekhblefchceaaaGreat.AM
open Go Go.Proofs
variable {σ : St}
end Go.Proofs.YtekhblefchceaaaGreat.AM

/- An answer of patch.Apply. -/
set_option maxRecDepth 100000
namespace Go.Proofs.YtekhblefchceaaaGreat.AM
open Go Go.Proofs
variable {σ : St}
end Go.Proofs.YtekhblefchceaaaGreat.AM

/- An answer of patch.Apply. -/
set_option maxRecDepth 100000
namespace Go.Proofs.YtekhblefchceaaaGreat.AM
open Go Go.Proofs
variable {σ : St}
end Go.Proofs.YtekhblefchceaaaGreat.AM

/- works(), run by the interpreter. -/
set_option maxRecDepth 100000
namespace Go.Proofs.YtekhblefchceaaaGreat.AM
open Go Go.Proofs
variable {σ : St}
end Go.Proofs.YtekhblefchceaaaGreat.AM

