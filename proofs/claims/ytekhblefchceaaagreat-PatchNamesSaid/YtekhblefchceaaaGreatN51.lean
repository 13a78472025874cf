/- The answer of small(). -/
import Derived.Test.YtekhblefchceaaaGreatNA
set_option linter.unusedVariables false
set_option linter.unusedSimpArgs false
set_option linter.unusedVariables false
set_option maxRecDepth 100000
namespace Go.Proofs.YtekhblefchceaaaGreat.AM
open Go Go.Proofs
variable {σ : St}

def orcS : Orc := ⟨19, [], ⟨[], 0⟩, (.tup [(.ptr 6 0), (.agg [(.int .u64 (.ofNat 65538)), (.int .i64 (.ofNat 1)), (.int .i64 (.ofNat 17)), (.int .i64 (.ofNat 17)), (.int .i64 (.ofNat 0))]), (.bool .true)]), ⟨[(7, (.arr [(.int .u64 (.ofNat 65538)), (.int .i64 (.ofNat 1)), (.int .i64 (.ofNat 17)), (.int .i64 (.ofNat 17)), (.int .i64 (.ofNat 0))])), (6, (.arr [(.int .i64 (.ofNat 8)), (.ptr 4 0), (.map 5), (.int .i64 (.ofNat 3)), (.int .i64 (.ofNat 0)), (.int .i64 (.ofNat 0))])), (5, (.map [⟨(.int .u64 (.ofNat 65536)), (.agg [(.int .i64 (.ofNat 0)), (.str [97, 98, 99, 100, 101, 102, 103, 104, 105]), (.vs [] .no)]), 0⟩, ⟨(.int .u64 (.ofNat 65537)), (.agg [(.int .i64 (.ofNat 0)), (.str [106, 107, 108, 109, 110, 111, 112, 113]), (.vs [] .no)]), 1⟩, ⟨(.int .u64 (.ofNat 65538)), (.agg [(.int .i64 (.ofNat 1)), (.str []), (.vs [(.agg [(.int .u64 (.ofNat 65536)), (.int .i64 (.ofNat 9)), (.int .i64 (.ofNat 9)), (.int .i64 (.ofNat 0))]), (.agg [(.int .u64 (.ofNat 65537)), (.int .i64 (.ofNat 8)), (.int .i64 (.ofNat 8)), (.int .i64 (.ofNat 0))])] .no)]), 2⟩] 3)), (4, (.arr [(.hs 1 0 5 8), (.hs 2 0 8 8), (.hs 3 0 8 8), (.int .u64 (.ofNat 4))])), (3, (.arr [(.int .u64 (.ofNat 1)), (.int .u64 (.ofNat 1)), (.int .u64 (.ofNat 1)), (.int .u64 (.ofNat 1)), (.int .u64 (.ofNat 1)), (.int .u64 (.ofNat 1)), (.int .u64 (.ofNat 1)), (.int .u64 (.ofNat 1))])), (2, (.arr [(.int .u8 (.ofNat 1)), (.int .u8 (.ofNat 1)), (.int .u8 (.ofNat 1)), (.int .u8 (.ofNat 0)), (.int .u8 (.ofNat 0)), (.int .u8 (.ofNat 0)), (.int .u8 (.ofNat 0)), (.int .u8 (.ofNat 0))])), (1, (.arr [(.int .i64 (.ofNat 7)), (.int .i64 (.ofNat 6)), (.int .i64 (.ofNat 5)), (.int .i64 (.ofNat 4)), (.int .i64 (.ofNat 3)), (.int .i64 (.ofNat 2)), (.int .i64 (.ofNat 1)), (.int .i64 (.ofNat 0))])), (0, (.arr [(.int .u64 (.ofNat 65538)), (.int .i64 (.ofNat 1)), (.int .i64 (.ofNat 17)), (.int .i64 (.ofNat 17)), (.int .i64 (.ofNat 0))]))], 8⟩⟩
theorem primN_all : PrimsOk primN := primN_ok
theorem orcS_ok : orcS.ok := orc_go primN_all (by kernel_rfl : orcB (goP primN) orcS = true)

end Go.Proofs.YtekhblefchceaaaGreat.AM
