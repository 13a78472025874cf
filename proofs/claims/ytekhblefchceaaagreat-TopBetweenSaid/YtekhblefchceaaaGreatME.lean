/- Joined: M24, M30, M25. -/
import Derived.Test.YtekhblefchceaaaGreatMD
set_option linter.unusedVariables false
set_option linter.unusedSimpArgs false
/- An interpreter of the abstract machine: every way that a closed call can go. What it answers, the machine does. -/
namespace Go.Proofs.YtekhblefchceaaaGreat.AM
open Go
variable {P : Program} {σ : St}
end Go.Proofs.YtekhblefchceaaaGreat.AM

/- The operations once more, in a form that the kernel reckons quickly. -/
namespace Go.Proofs.YtekhblefchceaaaGreat.AM
open Go
variable {P : Program} {σ : St}
end Go.Proofs.YtekhblefchceaaaGreat.AM

/- An interpreter of the abstract machine, its rules. What it answers, the machine does. -/
namespace Go.Proofs.YtekhblefchceaaaGreat.AM
open Go
variable {P : Program} {σ : St}
end Go.Proofs.YtekhblefchceaaaGreat.AM

