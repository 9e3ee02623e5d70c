/-
  No cell of these rows narrows 'for every input' (looked for: loops, veiled, ifaces, maps, wideKeys, modest, calm, conditions, laid).
  DERIVED. THE GIVEN ROWS OF THIS SEAT. 5 by the template 'for every input the law returns true; each argument reads behind the call as it read before'; 0 by the template 'total and deterministic' (their statements: YtifgijoeckoojaaTotals.lean).
  GIVEN WITH THE SEED: the statements are not yours to turn. If you find one false, say at which input.
  Laid BY PROGRAM, IN A SANDBOX (cutbox-rows.mjs): the forced cells as the released guide's own fill.sh prints them over the translation 9b35925d04c7f11e… (all of the seat's roots in one cut). By AI agents, Wed Nov 11 2026. No macro, syntax, notation, axiom, sorry.
-/
import Derived.Test.YtifgijoeckoojaaChecked
import GoSem.Claim
import GoSem.ClaimJoined
import GoSem.ClaimMapViews
import Derived.JoinedTies
import Derived.KernelRfl
namespace Go.Proofs.Ytifgijoeckoojaa
/- THE CELL 'sum', in the pinned program and in every row, IS THE sha256 OF THE DUMP (.gsa) THAT YtifgijoeckoojaaProg.lean LOADS. Nothing in Lean hashes anything: it is a label: what it is worth is what the hold of that sum in a sandbox is worth. -/
noncomputable def Try.pinned : Pinned := { name := "ytifgijoeckoojaa", sum := "9b35925d04c7f11eff27133e2e91b6de13f58896493dd11665d4f56ef080b608", checked := Try.checked }
namespace Rows
def none {H : Type} : Left H := { results := [], args := [] }

/-- 'erratalaw08.ReplicaVotes': WHATEVER THE INPUT: true; the input reads as it did. -/
def replicaVotesSpec : ChangeSpec := { name := "replicaVotes", fn := fun _ => fun
  | [d] => { results := [.lit (.bool true)], args := [d] }
  | _ => none }
def replicaVotesRow : OpenClaim := { program := "ytifgijoeckoojaa", sum := "9b35925d04c7f11eff27133e2e91b6de13f58896493dd11665d4f56ef080b608", func := "errata/erratalaw08.ReplicaVotes", spec := "replicaVotes", unfollowed := true, recurses := true, apart := false }
def ReplicaVotesSaid : Prop := replicaVotesRow.holds Try.pinned (OpenSpec.ofChange replicaVotesSpec)

/-- ITS FALSE NEIGHBOUR: 'it returns false'. Refute it at one input. -/
def replicaVotesWrong : ChangeSpec := { name := "replicaVotes", fn := fun _ => fun
  | [d] => { results := [.lit (.bool false)], args := [d] }
  | _ => none }
def ReplicaVotesWrongFalsely : Prop := replicaVotesRow.holds Try.pinned (OpenSpec.ofChange replicaVotesWrong)

/-- 'erratalaw08.ReplicaGoes': WHATEVER THE INPUT: true; the input reads as it did. -/
def replicaGoesSpec : ChangeSpec := { name := "replicaGoes", fn := fun _ => fun
  | [d1, d2] => { results := [.lit (.bool true)], args := [d1, d2] }
  | _ => none }
def replicaGoesRow : OpenClaim := { program := "ytifgijoeckoojaa", sum := "9b35925d04c7f11eff27133e2e91b6de13f58896493dd11665d4f56ef080b608", func := "errata/erratalaw08.ReplicaGoes", spec := "replicaGoes", unfollowed := true, recurses := true, apart := false }
def ReplicaGoesSaid : Prop := replicaGoesRow.holds Try.pinned (OpenSpec.ofChange replicaGoesSpec)

/-- ITS FALSE NEIGHBOUR: 'it returns false'. Refute it at one input. -/
def replicaGoesWrong : ChangeSpec := { name := "replicaGoes", fn := fun _ => fun
  | [d1, d2] => { results := [.lit (.bool false)], args := [d1, d2] }
  | _ => none }
def ReplicaGoesWrongFalsely : Prop := replicaGoesRow.holds Try.pinned (OpenSpec.ofChange replicaGoesWrong)

/-- 'erratalaw08.ReplicaTells': WHATEVER THE INPUT: true; the input reads as it did. -/
def replicaTellsSpec : ChangeSpec := { name := "replicaTells", fn := fun _ => fun
  | [d1, d2, d3, d4, d5] => { results := [.lit (.bool true)], args := [d1, d2, d3, d4, d5] }
  | _ => none }
def replicaTellsRow : OpenClaim := { program := "ytifgijoeckoojaa", sum := "9b35925d04c7f11eff27133e2e91b6de13f58896493dd11665d4f56ef080b608", func := "errata/erratalaw08.ReplicaTells", spec := "replicaTells", unfollowed := true, recurses := true, apart := false }
def ReplicaTellsSaid : Prop := replicaTellsRow.holds Try.pinned (OpenSpec.ofChange replicaTellsSpec)

/-- ITS FALSE NEIGHBOUR: 'it returns false'. Refute it at one input. -/
def replicaTellsWrong : ChangeSpec := { name := "replicaTells", fn := fun _ => fun
  | [d1, d2, d3, d4, d5] => { results := [.lit (.bool false)], args := [d1, d2, d3, d4, d5] }
  | _ => none }
def ReplicaTellsWrongFalsely : Prop := replicaTellsRow.holds Try.pinned (OpenSpec.ofChange replicaTellsWrong)

/-- 'erratalaw08.ReplicaSafe': WHATEVER THE INPUT: true; the input reads as it did. -/
def replicaSafeSpec : ChangeSpec := { name := "replicaSafe", fn := fun _ => fun
  | [d] => { results := [.lit (.bool true)], args := [d] }
  | _ => none }
def replicaSafeRow : OpenClaim := { program := "ytifgijoeckoojaa", sum := "9b35925d04c7f11eff27133e2e91b6de13f58896493dd11665d4f56ef080b608", func := "errata/erratalaw08.ReplicaSafe", spec := "replicaSafe", unfollowed := true, recurses := true, apart := false }
def ReplicaSafeSaid : Prop := replicaSafeRow.holds Try.pinned (OpenSpec.ofChange replicaSafeSpec)

/-- ITS FALSE NEIGHBOUR: 'it returns false'. Refute it at one input. -/
def replicaSafeWrong : ChangeSpec := { name := "replicaSafe", fn := fun _ => fun
  | [d] => { results := [.lit (.bool false)], args := [d] }
  | _ => none }
def ReplicaSafeWrongFalsely : Prop := replicaSafeRow.holds Try.pinned (OpenSpec.ofChange replicaSafeWrong)

/-- 'erratalaw08.ReplicaMatches': WHATEVER THE INPUT: true; the input reads as it did. -/
def replicaMatchesSpec : ChangeSpec := { name := "replicaMatches", fn := fun _ => fun
  | [d] => { results := [.lit (.bool true)], args := [d] }
  | _ => none }
def replicaMatchesRow : OpenClaim := { program := "ytifgijoeckoojaa", sum := "9b35925d04c7f11eff27133e2e91b6de13f58896493dd11665d4f56ef080b608", func := "errata/erratalaw08.ReplicaMatches", spec := "replicaMatches", unfollowed := true, recurses := true, apart := false }
def ReplicaMatchesSaid : Prop := replicaMatchesRow.holds Try.pinned (OpenSpec.ofChange replicaMatchesSpec)

/-- ITS FALSE NEIGHBOUR: 'it returns false'. Refute it at one input. -/
def replicaMatchesWrong : ChangeSpec := { name := "replicaMatches", fn := fun _ => fun
  | [d] => { results := [.lit (.bool false)], args := [d] }
  | _ => none }
def ReplicaMatchesWrongFalsely : Prop := replicaMatchesRow.holds Try.pinned (OpenSpec.ofChange replicaMatchesWrong)

/- THE SECOND FORM. 'bulk': how many values and letters a reading holds, each counted each time it is reached (what is shared counts as often as it is met; a slice's spare places count too). A statement '..UptoSaid' is the law's where the arguments, and the package variables that the reading takes, are together of bulk at most 1048576: NARROWER than '..Said'. Prove '..Said' where nothing that the law and all that it calls make is longer than what came in: it says more and counts as full. Else prove '..UptoSaid'. A law counts once. -/
mutual
def uptoBulk {H : Type} : DataW H → Nat
  | .lit (.string bytes) => bytes.length + 1
  | .lit _ => 1
  | .nil => 1
  | .ptr d => uptoBulk d + 1
  | .slice elems spare => uptoBulkAll elems + uptoBulkAll spare + 1
  | .agg parts => uptoBulkAll parts + 1
  | .iface _ d => uptoBulk d + 1
  | .map entries => uptoBulkEntries entries + 1
  | .held _ => 1
def uptoBulkAll {H : Type} : List (DataW H) → Nat
  | [] => 0
  | d :: r => uptoBulk d + uptoBulkAll r
def uptoBulkEntries {H : Type} : List (Lit × DataW H) → Nat
  | [] => 0
  | x :: r => uptoBulkEntry x + uptoBulkEntries r
def uptoBulkEntry {H : Type} : Lit × DataW H → Nat
  | (.string bytes, d) => bytes.length + uptoBulk d + 1
  | (_, d) => uptoBulk d + 1
 end
def uptoSmall : (H : Type) → List (DataW H) → Bool := fun _ ds => decide (uptoBulkAll ds ≤ 1048576)
def OpenSpec.upto (s : _root_.Go.ChangeSpec) : _root_.Go.OpenSpec := { _root_.Go.OpenSpec.ofChange s with cond := some uptoSmall }

/-- 'erratalaw08.ReplicaVotes', WHERE WHAT IT READS IS OF BULK AT MOST 1048576: true; the input reads as it did. -/
def replicaVotesUptoRow : OpenClaim := { program := "ytifgijoeckoojaa", sum := "9b35925d04c7f11eff27133e2e91b6de13f58896493dd11665d4f56ef080b608", func := "errata/erratalaw08.ReplicaVotes", spec := "replicaVotes", unfollowed := true, recurses := true, apart := false, narrowed := true }
def ReplicaVotesUptoSaid : Prop := replicaVotesUptoRow.holds Try.pinned (OpenSpec.upto replicaVotesSpec)

/-- 'erratalaw08.ReplicaGoes', WHERE WHAT IT READS IS OF BULK AT MOST 1048576: true; the input reads as it did. -/
def replicaGoesUptoRow : OpenClaim := { program := "ytifgijoeckoojaa", sum := "9b35925d04c7f11eff27133e2e91b6de13f58896493dd11665d4f56ef080b608", func := "errata/erratalaw08.ReplicaGoes", spec := "replicaGoes", unfollowed := true, recurses := true, apart := false, narrowed := true }
def ReplicaGoesUptoSaid : Prop := replicaGoesUptoRow.holds Try.pinned (OpenSpec.upto replicaGoesSpec)

/-- 'erratalaw08.ReplicaTells', WHERE WHAT IT READS IS OF BULK AT MOST 1048576: true; the input reads as it did. -/
def replicaTellsUptoRow : OpenClaim := { program := "ytifgijoeckoojaa", sum := "9b35925d04c7f11eff27133e2e91b6de13f58896493dd11665d4f56ef080b608", func := "errata/erratalaw08.ReplicaTells", spec := "replicaTells", unfollowed := true, recurses := true, apart := false, narrowed := true }
def ReplicaTellsUptoSaid : Prop := replicaTellsUptoRow.holds Try.pinned (OpenSpec.upto replicaTellsSpec)

/-- 'erratalaw08.ReplicaSafe', WHERE WHAT IT READS IS OF BULK AT MOST 1048576: true; the input reads as it did. -/
def replicaSafeUptoRow : OpenClaim := { program := "ytifgijoeckoojaa", sum := "9b35925d04c7f11eff27133e2e91b6de13f58896493dd11665d4f56ef080b608", func := "errata/erratalaw08.ReplicaSafe", spec := "replicaSafe", unfollowed := true, recurses := true, apart := false, narrowed := true }
def ReplicaSafeUptoSaid : Prop := replicaSafeUptoRow.holds Try.pinned (OpenSpec.upto replicaSafeSpec)

/-- 'erratalaw08.ReplicaMatches', WHERE WHAT IT READS IS OF BULK AT MOST 1048576: true; the input reads as it did. -/
def replicaMatchesUptoRow : OpenClaim := { program := "ytifgijoeckoojaa", sum := "9b35925d04c7f11eff27133e2e91b6de13f58896493dd11665d4f56ef080b608", func := "errata/erratalaw08.ReplicaMatches", spec := "replicaMatches", unfollowed := true, recurses := true, apart := false, narrowed := true }
def ReplicaMatchesUptoSaid : Prop := replicaMatchesUptoRow.holds Try.pinned (OpenSpec.upto replicaMatchesSpec)

end Rows
end Go.Proofs.Ytifgijoeckoojaa
