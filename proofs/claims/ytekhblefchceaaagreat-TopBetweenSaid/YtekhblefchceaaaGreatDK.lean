/- Joined: D36, D37, D38. -/
import Derived.Test.YtekhblefchceaaaGreatDJ
set_option linter.unusedVariables false
set_option linter.unusedSimpArgs false
/- Contracts: quartolaw16.plans of one operation. -/
set_option maxRecDepth 20000
namespace Go.Proofs.YtekhblefchceaaaGreat.AM
open Go Go.Proofs
variable {σ : St}
end Go.Proofs.YtekhblefchceaaaGreat.AM

/- Contracts: quartolaw16.Make. -/
set_option maxRecDepth 20000
namespace Go.Proofs.YtekhblefchceaaaGreat.AM
open Go Go.Proofs
variable {σ : St}
end Go.Proofs.YtekhblefchceaaaGreat.AM

/- Contracts: quartolaw16.Beyond. -/
set_option maxRecDepth 20000
namespace Go.Proofs.YtekhblefchceaaaGreat.AM
open Go Go.Proofs
variable {σ : St}
end Go.Proofs.YtekhblefchceaaaGreat.AM

