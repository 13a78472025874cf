/- Short names of values, for long states. -/
import Derived.Test.YtekhblefchceaaaGreatMA
set_option linter.unusedVariables false
set_option linter.unusedSimpArgs false
namespace Go.Proofs.YtekhblefchceaaaGreat.AM
open Go
abbrev vI (n : Nat) : AV := .int .i64 (.ofNat n)
abbrev vU (n : Nat) : AV := .int .u64 (.ofNat n)
abbrev vB (n : Nat) : AV := .int .u8 (.ofNat n)
abbrev vT : AV := .tup []
abbrev vF : AV := .bool .false
abbrev vR : AV := .bool .true
end Go.Proofs.YtekhblefchceaaaGreat.AM
