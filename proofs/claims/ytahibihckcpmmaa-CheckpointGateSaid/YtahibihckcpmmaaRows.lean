/-
  No cell of these rows narrows 'for every input' (looked for: loops, veiled, ifaces, maps, wideKeys, modest, calm, conditions, laid).
  DERIVED. THE GIVEN ROWS OF THIS SEAT. 2 by the template 'for every input the law returns true; each argument reads behind the call as it read before'; 0 by the template 'total and deterministic' (their statements: YtahibihckcpmmaaTotals.lean).
  GIVEN WITH THE SEED: the statements are not yours to turn. If you find one false, say at which input.
  Laid BY PROGRAM, IN A SANDBOX (cutbox-rows.mjs): the forced cells as the released guide's own fill.sh prints them over the translation 5fff15c5b49903cf… (all of the seat's roots in one cut). By AI agents, Wed Nov 11 2026. No macro, syntax, notation, axiom, sorry.
-/
import Derived.Test.YtahibihckcpmmaaChecked
import GoSem.Claim
import GoSem.ClaimJoined
import GoSem.ClaimMapViews
import Derived.JoinedTies
import Derived.KernelRfl
namespace Go.Proofs.Ytahibihckcpmmaa
/- THE CELL 'sum', in the pinned program and in every row, IS THE sha256 OF THE DUMP (.gsa) THAT YtahibihckcpmmaaProg.lean LOADS. Nothing in Lean hashes anything: it is a label: what it is worth is what the hold of that sum in a sandbox is worth. -/
noncomputable def Try.pinned : Pinned := { name := "ytahibihckcpmmaa", sum := "5fff15c5b49903cf7f030d9529d9f4f00c7c7cb675c0b1a43a8be5b028409f2a", checked := Try.checked }
namespace Rows
def none {H : Type} : Left H := { results := [], args := [] }

/-- 'erratalaw39.CheckpointOnce': WHATEVER THE INPUT: true; the input reads as it did. -/
def checkpointOnceSpec : ChangeSpec := { name := "checkpointOnce", fn := fun _ => fun
  | [d1, d2, d3, d4] => { results := [.lit (.bool true)], args := [d1, d2, d3, d4] }
  | _ => none }
def checkpointOnceRow : OpenClaim := { program := "ytahibihckcpmmaa", sum := "5fff15c5b49903cf7f030d9529d9f4f00c7c7cb675c0b1a43a8be5b028409f2a", func := "errata/erratalaw39.CheckpointOnce", spec := "checkpointOnce", apart := false }
def CheckpointOnceSaid : Prop := checkpointOnceRow.holds Try.pinned (OpenSpec.ofChange checkpointOnceSpec)

/-- ITS FALSE NEIGHBOUR: 'it returns false'. Refute it at one input. -/
def checkpointOnceWrong : ChangeSpec := { name := "checkpointOnce", fn := fun _ => fun
  | [d1, d2, d3, d4] => { results := [.lit (.bool false)], args := [d1, d2, d3, d4] }
  | _ => none }
def CheckpointOnceWrongFalsely : Prop := checkpointOnceRow.holds Try.pinned (OpenSpec.ofChange checkpointOnceWrong)

/-- 'erratalaw39.CheckpointGate': WHATEVER THE INPUT: true; the input reads as it did. -/
def checkpointGateSpec : ChangeSpec := { name := "checkpointGate", fn := fun _ => fun
  | [d1, d2] => { results := [.lit (.bool true)], args := [d1, d2] }
  | _ => none }
def checkpointGateRow : OpenClaim := { program := "ytahibihckcpmmaa", sum := "5fff15c5b49903cf7f030d9529d9f4f00c7c7cb675c0b1a43a8be5b028409f2a", func := "errata/erratalaw39.CheckpointGate", spec := "checkpointGate", apart := false }
def CheckpointGateSaid : Prop := checkpointGateRow.holds Try.pinned (OpenSpec.ofChange checkpointGateSpec)

/-- ITS FALSE NEIGHBOUR: 'it returns false'. Refute it at one input. -/
def checkpointGateWrong : ChangeSpec := { name := "checkpointGate", fn := fun _ => fun
  | [d1, d2] => { results := [.lit (.bool false)], args := [d1, d2] }
  | _ => none }
def CheckpointGateWrongFalsely : Prop := checkpointGateRow.holds Try.pinned (OpenSpec.ofChange checkpointGateWrong)

/- THE SECOND FORM. 'bulk': how many values and letters a reading holds, each counted each time it is reached (what is shared counts as often as it is met; a slice's spare places count too). A statement '..UptoSaid' is the law's where the arguments, and the package variables that the reading takes, are together of bulk at most 1048576: NARROWER than '..Said'. Prove '..Said' where nothing that the law and all that it calls make is longer than what came in: it says more and counts as full. Else prove '..UptoSaid'. A law counts once. -/
mutual
def uptoBulk {H : Type} : DataW H → Nat
  | .lit (.string bytes) => bytes.length + 1
  | .lit _ => 1
  | .nil => 1
  | .ptr d => uptoBulk d + 1
  | .slice elems spare => uptoBulkAll elems + uptoBulkAll spare + 1
  | .agg parts => uptoBulkAll parts + 1
  | .iface _ d => uptoBulk d + 1
  | .map entries => uptoBulkEntries entries + 1
  | .held _ => 1
def uptoBulkAll {H : Type} : List (DataW H) → Nat
  | [] => 0
  | d :: r => uptoBulk d + uptoBulkAll r
def uptoBulkEntries {H : Type} : List (Lit × DataW H) → Nat
  | [] => 0
  | x :: r => uptoBulkEntry x + uptoBulkEntries r
def uptoBulkEntry {H : Type} : Lit × DataW H → Nat
  | (.string bytes, d) => bytes.length + uptoBulk d + 1
  | (_, d) => uptoBulk d + 1
 end
def uptoSmall : (H : Type) → List (DataW H) → Bool := fun _ ds => decide (uptoBulkAll ds ≤ 1048576)
def OpenSpec.upto (s : _root_.Go.ChangeSpec) : _root_.Go.OpenSpec := { _root_.Go.OpenSpec.ofChange s with cond := some uptoSmall }

/-- 'erratalaw39.CheckpointOnce', WHERE WHAT IT READS IS OF BULK AT MOST 1048576: true; the input reads as it did. -/
def checkpointOnceUptoRow : OpenClaim := { program := "ytahibihckcpmmaa", sum := "5fff15c5b49903cf7f030d9529d9f4f00c7c7cb675c0b1a43a8be5b028409f2a", func := "errata/erratalaw39.CheckpointOnce", spec := "checkpointOnce", apart := false, narrowed := true }
def CheckpointOnceUptoSaid : Prop := checkpointOnceUptoRow.holds Try.pinned (OpenSpec.upto checkpointOnceSpec)

/-- 'erratalaw39.CheckpointGate', WHERE WHAT IT READS IS OF BULK AT MOST 1048576: true; the input reads as it did. -/
def checkpointGateUptoRow : OpenClaim := { program := "ytahibihckcpmmaa", sum := "5fff15c5b49903cf7f030d9529d9f4f00c7c7cb675c0b1a43a8be5b028409f2a", func := "errata/erratalaw39.CheckpointGate", spec := "checkpointGate", apart := false, narrowed := true }
def CheckpointGateUptoSaid : Prop := checkpointGateUptoRow.holds Try.pinned (OpenSpec.upto checkpointGateSpec)

end Rows
end Go.Proofs.Ytahibihckcpmmaa
