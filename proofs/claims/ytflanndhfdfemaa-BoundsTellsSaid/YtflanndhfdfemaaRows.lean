/-
  NARROWER THAN 'FOR EVERY INPUT', by the rows' own cells (each row's printed sentence says how): BoundsPaths: loops · BoundsGrow: loops · BoundsRefuse: loops · BoundsTells: loops.
  DERIVED. THE GIVEN ROWS OF THIS SEAT. 4 by the template 'for every input the law returns true; each argument reads behind the call as it read before'; 0 by the template 'total and deterministic' (their statements: YtflanndhfdfemaaTotals.lean).
  GIVEN WITH THE SEED: the statements are not yours to turn. If you find one false, say at which input.
  Laid BY PROGRAM, IN A SANDBOX (cutbox-rows.mjs): the forced cells as the released guide's own fill.sh prints them over the translation b5298d53b2a16b54… (all of the seat's roots in one cut). By AI agents, Wed Nov 11 2026. No macro, syntax, notation, axiom, sorry.
-/
import Derived.Test.YtflanndhfdfemaaChecked
import GoSem.Claim
import GoSem.ClaimJoined
import GoSem.ClaimMapViews
import Derived.JoinedTies
import Derived.KernelRfl
namespace Go.Proofs.Ytflanndhfdfemaa
/- THE CELL 'sum', in the pinned program and in every row, IS THE sha256 OF THE DUMP (.gsa) THAT YtflanndhfdfemaaProg.lean LOADS. Nothing in Lean hashes anything: it is a label: what it is worth is what the hold of that sum in a sandbox is worth. -/
noncomputable def Try.pinned : Pinned := { name := "ytflanndhfdfemaa", sum := "b5298d53b2a16b548e20ea940c36cb4ec7576b2e5319b62aaf079add3c3585f7", checked := Try.checked }
namespace Rows
def none {H : Type} : Left H := { results := [], args := [] }

/-- 'erratalaw20.BoundsPaths': WHATEVER THE INPUT: true; the input reads as it did. -/
def boundsPathsSpec : ChangeSpec := { name := "boundsPaths", fn := fun _ => fun
  | [d1, d2] => { results := [.lit (.bool true)], args := [d1, d2] }
  | _ => none }
def boundsPathsRow : OpenClaim := { program := "ytflanndhfdfemaa", sum := "b5298d53b2a16b548e20ea940c36cb4ec7576b2e5319b62aaf079add3c3585f7", func := "errata/erratalaw20.BoundsPaths", spec := "boundsPaths", unfollowed := true, recurses := true, loops := true, apart := false }
def BoundsPathsSaid : Prop := boundsPathsRow.holds Try.pinned (OpenSpec.ofChange boundsPathsSpec)

/-- ITS FALSE NEIGHBOUR: 'it returns false'. Refute it at one input. -/
def boundsPathsWrong : ChangeSpec := { name := "boundsPaths", fn := fun _ => fun
  | [d1, d2] => { results := [.lit (.bool false)], args := [d1, d2] }
  | _ => none }
def BoundsPathsWrongFalsely : Prop := boundsPathsRow.holds Try.pinned (OpenSpec.ofChange boundsPathsWrong)

/-- 'erratalaw20.BoundsGrow': WHATEVER THE INPUT: true; the input reads as it did. -/
def boundsGrowSpec : ChangeSpec := { name := "boundsGrow", fn := fun _ => fun
  | [d1, d2, d3, d4, d5] => { results := [.lit (.bool true)], args := [d1, d2, d3, d4, d5] }
  | _ => none }
def boundsGrowRow : OpenClaim := { program := "ytflanndhfdfemaa", sum := "b5298d53b2a16b548e20ea940c36cb4ec7576b2e5319b62aaf079add3c3585f7", func := "errata/erratalaw20.BoundsGrow", spec := "boundsGrow", unfollowed := true, recurses := true, loops := true, apart := false }
def BoundsGrowSaid : Prop := boundsGrowRow.holds Try.pinned (OpenSpec.ofChange boundsGrowSpec)

/-- ITS FALSE NEIGHBOUR: 'it returns false'. Refute it at one input. -/
def boundsGrowWrong : ChangeSpec := { name := "boundsGrow", fn := fun _ => fun
  | [d1, d2, d3, d4, d5] => { results := [.lit (.bool false)], args := [d1, d2, d3, d4, d5] }
  | _ => none }
def BoundsGrowWrongFalsely : Prop := boundsGrowRow.holds Try.pinned (OpenSpec.ofChange boundsGrowWrong)

/-- 'erratalaw20.BoundsRefuse': WHATEVER THE INPUT: true; the input reads as it did. -/
def boundsRefuseSpec : ChangeSpec := { name := "boundsRefuse", fn := fun _ => fun
  | [d1, d2, d3, d4] => { results := [.lit (.bool true)], args := [d1, d2, d3, d4] }
  | _ => none }
def boundsRefuseRow : OpenClaim := { program := "ytflanndhfdfemaa", sum := "b5298d53b2a16b548e20ea940c36cb4ec7576b2e5319b62aaf079add3c3585f7", func := "errata/erratalaw20.BoundsRefuse", spec := "boundsRefuse", unfollowed := true, recurses := true, loops := true, apart := false }
def BoundsRefuseSaid : Prop := boundsRefuseRow.holds Try.pinned (OpenSpec.ofChange boundsRefuseSpec)

/-- ITS FALSE NEIGHBOUR: 'it returns false'. Refute it at one input. -/
def boundsRefuseWrong : ChangeSpec := { name := "boundsRefuse", fn := fun _ => fun
  | [d1, d2, d3, d4] => { results := [.lit (.bool false)], args := [d1, d2, d3, d4] }
  | _ => none }
def BoundsRefuseWrongFalsely : Prop := boundsRefuseRow.holds Try.pinned (OpenSpec.ofChange boundsRefuseWrong)

/-- 'erratalaw20.BoundsTells': WHATEVER THE INPUT: true; the input reads as it did. -/
def boundsTellsSpec : ChangeSpec := { name := "boundsTells", fn := fun _ => fun
  | [d1, d2, d3, d4, d5] => { results := [.lit (.bool true)], args := [d1, d2, d3, d4, d5] }
  | _ => none }
def boundsTellsRow : OpenClaim := { program := "ytflanndhfdfemaa", sum := "b5298d53b2a16b548e20ea940c36cb4ec7576b2e5319b62aaf079add3c3585f7", func := "errata/erratalaw20.BoundsTells", spec := "boundsTells", unfollowed := true, recurses := true, loops := true, apart := false }
def BoundsTellsSaid : Prop := boundsTellsRow.holds Try.pinned (OpenSpec.ofChange boundsTellsSpec)

/-- ITS FALSE NEIGHBOUR: 'it returns false'. Refute it at one input. -/
def boundsTellsWrong : ChangeSpec := { name := "boundsTells", fn := fun _ => fun
  | [d1, d2, d3, d4, d5] => { results := [.lit (.bool false)], args := [d1, d2, d3, d4, d5] }
  | _ => none }
def BoundsTellsWrongFalsely : Prop := boundsTellsRow.holds Try.pinned (OpenSpec.ofChange boundsTellsWrong)

/- THE SECOND FORM. 'bulk': how many values and letters a reading holds, each counted each time it is reached (what is shared counts as often as it is met; a slice's spare places count too). A statement '..UptoSaid' is the law's where the arguments, and the package variables that the reading takes, are together of bulk at most 1048576: NARROWER than '..Said'. Prove '..Said' where nothing that the law and all that it calls make is longer than what came in: it says more and counts as full. Else prove '..UptoSaid'. A law counts once. -/
mutual
def uptoBulk {H : Type} : DataW H → Nat
  | .lit (.string bytes) => bytes.length + 1
  | .lit _ => 1
  | .nil => 1
  | .ptr d => uptoBulk d + 1
  | .slice elems spare => uptoBulkAll elems + uptoBulkAll spare + 1
  | .agg parts => uptoBulkAll parts + 1
  | .iface _ d => uptoBulk d + 1
  | .map entries => uptoBulkEntries entries + 1
  | .held _ => 1
def uptoBulkAll {H : Type} : List (DataW H) → Nat
  | [] => 0
  | d :: r => uptoBulk d + uptoBulkAll r
def uptoBulkEntries {H : Type} : List (Lit × DataW H) → Nat
  | [] => 0
  | x :: r => uptoBulkEntry x + uptoBulkEntries r
def uptoBulkEntry {H : Type} : Lit × DataW H → Nat
  | (.string bytes, d) => bytes.length + uptoBulk d + 1
  | (_, d) => uptoBulk d + 1
 end
def uptoSmall : (H : Type) → List (DataW H) → Bool := fun _ ds => decide (uptoBulkAll ds ≤ 1048576)
def OpenSpec.upto (s : _root_.Go.ChangeSpec) : _root_.Go.OpenSpec := { _root_.Go.OpenSpec.ofChange s with cond := some uptoSmall }

/-- 'erratalaw20.BoundsPaths', WHERE WHAT IT READS IS OF BULK AT MOST 1048576: true; the input reads as it did. -/
def boundsPathsUptoRow : OpenClaim := { program := "ytflanndhfdfemaa", sum := "b5298d53b2a16b548e20ea940c36cb4ec7576b2e5319b62aaf079add3c3585f7", func := "errata/erratalaw20.BoundsPaths", spec := "boundsPaths", unfollowed := true, recurses := true, loops := true, apart := false, narrowed := true }
def BoundsPathsUptoSaid : Prop := boundsPathsUptoRow.holds Try.pinned (OpenSpec.upto boundsPathsSpec)

/-- 'erratalaw20.BoundsGrow', WHERE WHAT IT READS IS OF BULK AT MOST 1048576: true; the input reads as it did. -/
def boundsGrowUptoRow : OpenClaim := { program := "ytflanndhfdfemaa", sum := "b5298d53b2a16b548e20ea940c36cb4ec7576b2e5319b62aaf079add3c3585f7", func := "errata/erratalaw20.BoundsGrow", spec := "boundsGrow", unfollowed := true, recurses := true, loops := true, apart := false, narrowed := true }
def BoundsGrowUptoSaid : Prop := boundsGrowUptoRow.holds Try.pinned (OpenSpec.upto boundsGrowSpec)

/-- 'erratalaw20.BoundsRefuse', WHERE WHAT IT READS IS OF BULK AT MOST 1048576: true; the input reads as it did. -/
def boundsRefuseUptoRow : OpenClaim := { program := "ytflanndhfdfemaa", sum := "b5298d53b2a16b548e20ea940c36cb4ec7576b2e5319b62aaf079add3c3585f7", func := "errata/erratalaw20.BoundsRefuse", spec := "boundsRefuse", unfollowed := true, recurses := true, loops := true, apart := false, narrowed := true }
def BoundsRefuseUptoSaid : Prop := boundsRefuseUptoRow.holds Try.pinned (OpenSpec.upto boundsRefuseSpec)

/-- 'erratalaw20.BoundsTells', WHERE WHAT IT READS IS OF BULK AT MOST 1048576: true; the input reads as it did. -/
def boundsTellsUptoRow : OpenClaim := { program := "ytflanndhfdfemaa", sum := "b5298d53b2a16b548e20ea940c36cb4ec7576b2e5319b62aaf079add3c3585f7", func := "errata/erratalaw20.BoundsTells", spec := "boundsTells", unfollowed := true, recurses := true, loops := true, apart := false, narrowed := true }
def BoundsTellsUptoSaid : Prop := boundsTellsUptoRow.holds Try.pinned (OpenSpec.upto boundsTellsSpec)

end Rows
end Go.Proofs.Ytflanndhfdfemaa
