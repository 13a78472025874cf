/-
  No cell of these rows narrows 'for every input' (looked for: loops, veiled, ifaces, maps, wideKeys, modest, calm, conditions, laid).
  DERIVED. THE GIVEN ROWS OF THIS SEAT. 4 by the template 'for every input the law returns true; each argument reads behind the call as it read before'; 0 by the template 'total and deterministic' (their statements: YtekhblefchceaaaGreatTotals.lean).
  GIVEN WITH THE SEED: the statements are not yours to turn. If you find one false, say at which input.
  Laid BY PROGRAM, IN A SANDBOX (cutbox-rows.mjs): the forced cells as the released guide's own fill.sh prints them over the translation 11c9941e9a2f613b… (all of the seat's roots in one cut). By AI agents, Wed Nov 11 2026. No macro, syntax, notation, axiom, sorry.
-/
import Derived.Test.YtekhblefchceaaaGreatChecked
import GoSem.Claim
import GoSem.ClaimJoined
import GoSem.ClaimMapViews
import Derived.JoinedTies
import Derived.KernelRfl
namespace Go.Proofs.YtekhblefchceaaaGreat
/- THE CELL 'sum', in the pinned program and in every row, IS THE sha256 OF THE DUMP (.gsa) THAT YtekhblefchceaaaGreatProg.lean LOADS. Nothing in Lean hashes anything: it is a label: what it is worth is what the hold of that sum in a sandbox is worth. -/
noncomputable def Tryz.pinned : Pinned := { name := "ytekhblefchceaaagreat", sum := "11c9941e9a2f613b781d5ac2c4754743867d6a59f0891bbec0f38c7bd88313a6", checked := Tryz.checked }
namespace Rows
def none {H : Type} : Left H := { results := [], args := [] }

/-- 'quartolaw20.PatchFinds': WHATEVER THE INPUT: true; the input reads as it did. -/
def patchFindsSpec : ChangeSpec := { name := "patchFinds", fn := fun _ => fun
  | [d1, d2, d3, d4] => { results := [.lit (.bool true)], args := [d1, d2, d3, d4] }
  | _ => none }
def patchFindsRow : OpenClaim := { program := "ytekhblefchceaaagreat", sum := "11c9941e9a2f613b781d5ac2c4754743867d6a59f0891bbec0f38c7bd88313a6", func := "quarto/quartolaw20.PatchFinds", spec := "patchFinds", inPlace := ["internal/abi.NoEscape"], unfollowed := true, recurses := true, apart := false }
def PatchFindsSaid : Prop := patchFindsRow.holds Tryz.pinned (OpenSpec.ofChange patchFindsSpec)

/-- ITS FALSE NEIGHBOUR: 'it returns false'. Refute it at one input. -/
def patchFindsWrong : ChangeSpec := { name := "patchFinds", fn := fun _ => fun
  | [d1, d2, d3, d4] => { results := [.lit (.bool false)], args := [d1, d2, d3, d4] }
  | _ => none }
def PatchFindsWrongFalsely : Prop := patchFindsRow.holds Tryz.pinned (OpenSpec.ofChange patchFindsWrong)

/-- 'quartolaw20.PatchNames': WHATEVER THE INPUT: true; the input reads as it did. -/
def patchNamesSpec : ChangeSpec := { name := "patchNames", fn := fun _ => fun
  | [] => { results := [.lit (.bool true)], args := [] }
  | _ => none }
def patchNamesRow : OpenClaim := { program := "ytekhblefchceaaagreat", sum := "11c9941e9a2f613b781d5ac2c4754743867d6a59f0891bbec0f38c7bd88313a6", func := "quarto/quartolaw20.PatchNames", spec := "patchNames", inPlace := ["internal/abi.NoEscape", "internal/bytealg.MakeNoZero"], unfollowed := true, recurses := true, apart := false }
def PatchNamesSaid : Prop := patchNamesRow.holds Tryz.pinned (OpenSpec.ofChange patchNamesSpec)

/-- ITS FALSE NEIGHBOUR: 'it returns false'. Refute it at one input. -/
def patchNamesWrong : ChangeSpec := { name := "patchNames", fn := fun _ => fun
  | [] => { results := [.lit (.bool false)], args := [] }
  | _ => none }
def PatchNamesWrongFalsely : Prop := patchNamesRow.holds Tryz.pinned (OpenSpec.ofChange patchNamesWrong)

/-- 'quartolaw20.PatchLooks': WHATEVER THE INPUT: true; the input reads as it did. -/
def patchLooksSpec : ChangeSpec := { name := "patchLooks", fn := fun _ => fun
  | [d1, d2, d3, d4] => { results := [.lit (.bool true)], args := [d1, d2, d3, d4] }
  | _ => none }
def patchLooksRow : OpenClaim := { program := "ytekhblefchceaaagreat", sum := "11c9941e9a2f613b781d5ac2c4754743867d6a59f0891bbec0f38c7bd88313a6", func := "quarto/quartolaw20.PatchLooks", spec := "patchLooks", unfollowed := true, recurses := true, apart := false }
def PatchLooksSaid : Prop := patchLooksRow.holds Tryz.pinned (OpenSpec.ofChange patchLooksSpec)

/-- ITS FALSE NEIGHBOUR: 'it returns false'. Refute it at one input. -/
def patchLooksWrong : ChangeSpec := { name := "patchLooks", fn := fun _ => fun
  | [d1, d2, d3, d4] => { results := [.lit (.bool false)], args := [d1, d2, d3, d4] }
  | _ => none }
def PatchLooksWrongFalsely : Prop := patchLooksRow.holds Tryz.pinned (OpenSpec.ofChange patchLooksWrong)

/-- 'quartotop.TopBetween': WHATEVER THE INPUT: true; the input reads as it did. -/
def topBetweenSpec : ChangeSpec := { name := "topBetween", fn := fun _ => fun
  | [d1, d2] => { results := [.lit (.bool true)], args := [d1, d2] }
  | _ => none }
def topBetweenRow : OpenClaim := { program := "ytekhblefchceaaagreat", sum := "11c9941e9a2f613b781d5ac2c4754743867d6a59f0891bbec0f38c7bd88313a6", func := "quarto/quartotop.TopBetween", spec := "topBetween", inPlace := ["internal/abi.NoEscape", "internal/bytealg.MakeNoZero", "internal/bytealg.abigen_runtime_cmpstring"], unfollowed := true, recurses := true, apart := false }
def TopBetweenSaid : Prop := topBetweenRow.holds Tryz.pinned (OpenSpec.ofChange topBetweenSpec)

/-- ITS FALSE NEIGHBOUR: 'it returns false'. Refute it at one input. -/
def topBetweenWrong : ChangeSpec := { name := "topBetween", fn := fun _ => fun
  | [d1, d2] => { results := [.lit (.bool false)], args := [d1, d2] }
  | _ => none }
def TopBetweenWrongFalsely : Prop := topBetweenRow.holds Tryz.pinned (OpenSpec.ofChange topBetweenWrong)

/- THE SECOND FORM. 'bulk': how many values and letters a reading holds, each counted each time it is reached (what is shared counts as often as it is met; a slice's spare places count too). A statement '..UptoSaid' is the law's where the arguments, and the package variables that the reading takes, are together of bulk at most 1048576: NARROWER than '..Said'. Prove '..Said' where nothing that the law and all that it calls make is longer than what came in: it says more and counts as full. Else prove '..UptoSaid'. A law counts once. -/
mutual
def uptoBulk {H : Type} : DataW H → Nat
  | .lit (.string bytes) => bytes.length + 1
  | .lit _ => 1
  | .nil => 1
  | .ptr d => uptoBulk d + 1
  | .slice elems spare => uptoBulkAll elems + uptoBulkAll spare + 1
  | .agg parts => uptoBulkAll parts + 1
  | .iface _ d => uptoBulk d + 1
  | .map entries => uptoBulkEntries entries + 1
  | .held _ => 1
def uptoBulkAll {H : Type} : List (DataW H) → Nat
  | [] => 0
  | d :: r => uptoBulk d + uptoBulkAll r
def uptoBulkEntries {H : Type} : List (Lit × DataW H) → Nat
  | [] => 0
  | x :: r => uptoBulkEntry x + uptoBulkEntries r
def uptoBulkEntry {H : Type} : Lit × DataW H → Nat
  | (.string bytes, d) => bytes.length + uptoBulk d + 1
  | (_, d) => uptoBulk d + 1
 end
def uptoSmall : (H : Type) → List (DataW H) → Bool := fun _ ds => decide (uptoBulkAll ds ≤ 1048576)
def OpenSpec.upto (s : _root_.Go.ChangeSpec) : _root_.Go.OpenSpec := { _root_.Go.OpenSpec.ofChange s with cond := some uptoSmall }

/-- 'quartolaw20.PatchFinds', WHERE WHAT IT READS IS OF BULK AT MOST 1048576: true; the input reads as it did. -/
def patchFindsUptoRow : OpenClaim := { program := "ytekhblefchceaaagreat", sum := "11c9941e9a2f613b781d5ac2c4754743867d6a59f0891bbec0f38c7bd88313a6", func := "quarto/quartolaw20.PatchFinds", spec := "patchFinds", inPlace := ["internal/abi.NoEscape"], unfollowed := true, recurses := true, apart := false, narrowed := true }
def PatchFindsUptoSaid : Prop := patchFindsUptoRow.holds Tryz.pinned (OpenSpec.upto patchFindsSpec)

/-- 'quartolaw20.PatchNames', WHERE WHAT IT READS IS OF BULK AT MOST 1048576: true; the input reads as it did. -/
def patchNamesUptoRow : OpenClaim := { program := "ytekhblefchceaaagreat", sum := "11c9941e9a2f613b781d5ac2c4754743867d6a59f0891bbec0f38c7bd88313a6", func := "quarto/quartolaw20.PatchNames", spec := "patchNames", inPlace := ["internal/abi.NoEscape", "internal/bytealg.MakeNoZero"], unfollowed := true, recurses := true, apart := false, narrowed := true }
def PatchNamesUptoSaid : Prop := patchNamesUptoRow.holds Tryz.pinned (OpenSpec.upto patchNamesSpec)

/-- 'quartolaw20.PatchLooks', WHERE WHAT IT READS IS OF BULK AT MOST 1048576: true; the input reads as it did. -/
def patchLooksUptoRow : OpenClaim := { program := "ytekhblefchceaaagreat", sum := "11c9941e9a2f613b781d5ac2c4754743867d6a59f0891bbec0f38c7bd88313a6", func := "quarto/quartolaw20.PatchLooks", spec := "patchLooks", unfollowed := true, recurses := true, apart := false, narrowed := true }
def PatchLooksUptoSaid : Prop := patchLooksUptoRow.holds Tryz.pinned (OpenSpec.upto patchLooksSpec)

/-- 'quartotop.TopBetween', WHERE WHAT IT READS IS OF BULK AT MOST 1048576: true; the input reads as it did. -/
def topBetweenUptoRow : OpenClaim := { program := "ytekhblefchceaaagreat", sum := "11c9941e9a2f613b781d5ac2c4754743867d6a59f0891bbec0f38c7bd88313a6", func := "quarto/quartotop.TopBetween", spec := "topBetween", inPlace := ["internal/abi.NoEscape", "internal/bytealg.MakeNoZero", "internal/bytealg.abigen_runtime_cmpstring"], unfollowed := true, recurses := true, apart := false, narrowed := true }
def TopBetweenUptoSaid : Prop := topBetweenUptoRow.holds Tryz.pinned (OpenSpec.upto topBetweenSpec)

end Rows
end Go.Proofs.YtekhblefchceaaaGreat
