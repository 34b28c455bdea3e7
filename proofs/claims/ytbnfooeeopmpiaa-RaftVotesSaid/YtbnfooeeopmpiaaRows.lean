/-
  No cell of these rows narrows 'for every input' (looked for: loops, veiled, ifaces, maps, wideKeys, modest, calm, conditions, laid).
  DERIVED. THE GIVEN ROWS OF THIS SEAT. 5 by the template 'for every input the law returns true; each argument reads behind the call as it read before'; 0 by the template 'total and deterministic' (their statements: YtbnfooeeopmpiaaTotals.lean).
  GIVEN WITH THE SEED: the statements are not yours to turn. If you find one false, say at which input.
  Laid BY PROGRAM, IN A SANDBOX (cutbox-rows.mjs): the forced cells as the released guide's own fill.sh prints them over the translation 5f931647068b1270… (all of the seat's roots in one cut). By AI agents, Wed Nov 11 2026. No macro, syntax, notation, axiom, sorry.
-/
import Derived.Test.YtbnfooeeopmpiaaChecked
import GoSem.Claim
import GoSem.ClaimJoined
import GoSem.ClaimMapViews
import Derived.JoinedTies
import Derived.KernelRfl
namespace Go.Proofs.Ytbnfooeeopmpiaa
/- THE CELL 'sum', in the pinned program and in every row, IS THE sha256 OF THE DUMP (.gsa) THAT YtbnfooeeopmpiaaProg.lean LOADS. Nothing in Lean hashes anything: it is a label: what it is worth is what the hold of that sum in a sandbox is worth. -/
noncomputable def Try.pinned : Pinned := { name := "ytbnfooeeopmpiaa", sum := "5f931647068b1270a1c5a90d7f447560c2225d05e90b863ca2de46de2a29cbc7", checked := Try.checked }
namespace Rows
def none {H : Type} : Left H := { results := [], args := [] }

/-- 'stowagelaw10.RaftBytes': WHATEVER THE INPUT: true; the input reads as it did. -/
def raftBytesSpec : ChangeSpec := { name := "raftBytes", fn := fun _ => fun
  | [d1, d2] => { results := [.lit (.bool true)], args := [d1, d2] }
  | _ => none }
def raftBytesRow : OpenClaim := { program := "ytbnfooeeopmpiaa", sum := "5f931647068b1270a1c5a90d7f447560c2225d05e90b863ca2de46de2a29cbc7", func := "stowage/stowagelaw10.RaftBytes", spec := "raftBytes", unfollowed := true, recurses := true, plainKeys := false, apart := false }
def RaftBytesSaid : Prop := raftBytesRow.holds Try.pinned (OpenSpec.ofChange raftBytesSpec)

/-- ITS FALSE NEIGHBOUR: 'it returns false'. Refute it at one input. -/
def raftBytesWrong : ChangeSpec := { name := "raftBytes", fn := fun _ => fun
  | [d1, d2] => { results := [.lit (.bool false)], args := [d1, d2] }
  | _ => none }
def RaftBytesWrongFalsely : Prop := raftBytesRow.holds Try.pinned (OpenSpec.ofChange raftBytesWrong)

/-- 'stowagelaw10.RaftBack': WHATEVER THE INPUT: true; the input reads as it did. -/
def raftBackSpec : ChangeSpec := { name := "raftBack", fn := fun _ => fun
  | [d1, d2] => { results := [.lit (.bool true)], args := [d1, d2] }
  | _ => none }
def raftBackRow : OpenClaim := { program := "ytbnfooeeopmpiaa", sum := "5f931647068b1270a1c5a90d7f447560c2225d05e90b863ca2de46de2a29cbc7", func := "stowage/stowagelaw10.RaftBack", spec := "raftBack", unfollowed := true, recurses := true, plainKeys := false, apart := false }
def RaftBackSaid : Prop := raftBackRow.holds Try.pinned (OpenSpec.ofChange raftBackSpec)

/-- ITS FALSE NEIGHBOUR: 'it returns false'. Refute it at one input. -/
def raftBackWrong : ChangeSpec := { name := "raftBack", fn := fun _ => fun
  | [d1, d2] => { results := [.lit (.bool false)], args := [d1, d2] }
  | _ => none }
def RaftBackWrongFalsely : Prop := raftBackRow.holds Try.pinned (OpenSpec.ofChange raftBackWrong)

/-- 'stowagelaw10.RaftVotes': WHATEVER THE INPUT: true; the input reads as it did. -/
def raftVotesSpec : ChangeSpec := { name := "raftVotes", fn := fun _ => fun
  | [d1, d2, d3] => { results := [.lit (.bool true)], args := [d1, d2, d3] }
  | _ => none }
def raftVotesRow : OpenClaim := { program := "ytbnfooeeopmpiaa", sum := "5f931647068b1270a1c5a90d7f447560c2225d05e90b863ca2de46de2a29cbc7", func := "stowage/stowagelaw10.RaftVotes", spec := "raftVotes", unfollowed := true, recurses := true, plainKeys := false, apart := false }
def RaftVotesSaid : Prop := raftVotesRow.holds Try.pinned (OpenSpec.ofChange raftVotesSpec)

/-- ITS FALSE NEIGHBOUR: 'it returns false'. Refute it at one input. -/
def raftVotesWrong : ChangeSpec := { name := "raftVotes", fn := fun _ => fun
  | [d1, d2, d3] => { results := [.lit (.bool false)], args := [d1, d2, d3] }
  | _ => none }
def RaftVotesWrongFalsely : Prop := raftVotesRow.holds Try.pinned (OpenSpec.ofChange raftVotesWrong)

/-- 'stowagelaw10.RaftShots': WHATEVER THE INPUT: true; the input reads as it did. -/
def raftShotsSpec : ChangeSpec := { name := "raftShots", fn := fun _ => fun
  | [d1, d2] => { results := [.lit (.bool true)], args := [d1, d2] }
  | _ => none }
def raftShotsRow : OpenClaim := { program := "ytbnfooeeopmpiaa", sum := "5f931647068b1270a1c5a90d7f447560c2225d05e90b863ca2de46de2a29cbc7", func := "stowage/stowagelaw10.RaftShots", spec := "raftShots", unfollowed := true, recurses := true, plainKeys := false, apart := false }
def RaftShotsSaid : Prop := raftShotsRow.holds Try.pinned (OpenSpec.ofChange raftShotsSpec)

/-- ITS FALSE NEIGHBOUR: 'it returns false'. Refute it at one input. -/
def raftShotsWrong : ChangeSpec := { name := "raftShots", fn := fun _ => fun
  | [d1, d2] => { results := [.lit (.bool false)], args := [d1, d2] }
  | _ => none }
def RaftShotsWrongFalsely : Prop := raftShotsRow.holds Try.pinned (OpenSpec.ofChange raftShotsWrong)

/-- 'stowagelaw10.RaftNew': WHATEVER THE INPUT: true; the input reads as it did. -/
def raftNewSpec : ChangeSpec := { name := "raftNew", fn := fun _ => fun
  | [d1, d2, d3] => { results := [.lit (.bool true)], args := [d1, d2, d3] }
  | _ => none }
def raftNewRow : OpenClaim := { program := "ytbnfooeeopmpiaa", sum := "5f931647068b1270a1c5a90d7f447560c2225d05e90b863ca2de46de2a29cbc7", func := "stowage/stowagelaw10.RaftNew", spec := "raftNew", unfollowed := true, recurses := true, plainKeys := false, apart := false }
def RaftNewSaid : Prop := raftNewRow.holds Try.pinned (OpenSpec.ofChange raftNewSpec)

/-- ITS FALSE NEIGHBOUR: 'it returns false'. Refute it at one input. -/
def raftNewWrong : ChangeSpec := { name := "raftNew", fn := fun _ => fun
  | [d1, d2, d3] => { results := [.lit (.bool false)], args := [d1, d2, d3] }
  | _ => none }
def RaftNewWrongFalsely : Prop := raftNewRow.holds Try.pinned (OpenSpec.ofChange raftNewWrong)

/- THE SECOND FORM. 'bulk': how many values and letters a reading holds, each counted each time it is reached (what is shared counts as often as it is met; a slice's spare places count too). A statement '..UptoSaid' is the law's where the arguments, and the package variables that the reading takes, are together of bulk at most 1048576: NARROWER than '..Said'. Prove '..Said' where nothing that the law and all that it calls make is longer than what came in: it says more and counts as full. Else prove '..UptoSaid'. A law counts once. -/
mutual
def uptoBulk {H : Type} : DataW H → Nat
  | .lit (.string bytes) => bytes.length + 1
  | .lit _ => 1
  | .nil => 1
  | .ptr d => uptoBulk d + 1
  | .slice elems spare => uptoBulkAll elems + uptoBulkAll spare + 1
  | .agg parts => uptoBulkAll parts + 1
  | .iface _ d => uptoBulk d + 1
  | .map entries => uptoBulkEntries entries + 1
  | .held _ => 1
def uptoBulkAll {H : Type} : List (DataW H) → Nat
  | [] => 0
  | d :: r => uptoBulk d + uptoBulkAll r
def uptoBulkEntries {H : Type} : List (Lit × DataW H) → Nat
  | [] => 0
  | x :: r => uptoBulkEntry x + uptoBulkEntries r
def uptoBulkEntry {H : Type} : Lit × DataW H → Nat
  | (.string bytes, d) => bytes.length + uptoBulk d + 1
  | (_, d) => uptoBulk d + 1
 end
def uptoSmall : (H : Type) → List (DataW H) → Bool := fun _ ds => decide (uptoBulkAll ds ≤ 1048576)
def OpenSpec.upto (s : _root_.Go.ChangeSpec) : _root_.Go.OpenSpec := { _root_.Go.OpenSpec.ofChange s with cond := some uptoSmall }

/-- 'stowagelaw10.RaftBytes', WHERE WHAT IT READS IS OF BULK AT MOST 1048576: true; the input reads as it did. -/
def raftBytesUptoRow : OpenClaim := { program := "ytbnfooeeopmpiaa", sum := "5f931647068b1270a1c5a90d7f447560c2225d05e90b863ca2de46de2a29cbc7", func := "stowage/stowagelaw10.RaftBytes", spec := "raftBytes", unfollowed := true, recurses := true, plainKeys := false, apart := false, narrowed := true }
def RaftBytesUptoSaid : Prop := raftBytesUptoRow.holds Try.pinned (OpenSpec.upto raftBytesSpec)

/-- 'stowagelaw10.RaftBack', WHERE WHAT IT READS IS OF BULK AT MOST 1048576: true; the input reads as it did. -/
def raftBackUptoRow : OpenClaim := { program := "ytbnfooeeopmpiaa", sum := "5f931647068b1270a1c5a90d7f447560c2225d05e90b863ca2de46de2a29cbc7", func := "stowage/stowagelaw10.RaftBack", spec := "raftBack", unfollowed := true, recurses := true, plainKeys := false, apart := false, narrowed := true }
def RaftBackUptoSaid : Prop := raftBackUptoRow.holds Try.pinned (OpenSpec.upto raftBackSpec)

/-- 'stowagelaw10.RaftVotes', WHERE WHAT IT READS IS OF BULK AT MOST 1048576: true; the input reads as it did. -/
def raftVotesUptoRow : OpenClaim := { program := "ytbnfooeeopmpiaa", sum := "5f931647068b1270a1c5a90d7f447560c2225d05e90b863ca2de46de2a29cbc7", func := "stowage/stowagelaw10.RaftVotes", spec := "raftVotes", unfollowed := true, recurses := true, plainKeys := false, apart := false, narrowed := true }
def RaftVotesUptoSaid : Prop := raftVotesUptoRow.holds Try.pinned (OpenSpec.upto raftVotesSpec)

/-- 'stowagelaw10.RaftShots', WHERE WHAT IT READS IS OF BULK AT MOST 1048576: true; the input reads as it did. -/
def raftShotsUptoRow : OpenClaim := { program := "ytbnfooeeopmpiaa", sum := "5f931647068b1270a1c5a90d7f447560c2225d05e90b863ca2de46de2a29cbc7", func := "stowage/stowagelaw10.RaftShots", spec := "raftShots", unfollowed := true, recurses := true, plainKeys := false, apart := false, narrowed := true }
def RaftShotsUptoSaid : Prop := raftShotsUptoRow.holds Try.pinned (OpenSpec.upto raftShotsSpec)

/-- 'stowagelaw10.RaftNew', WHERE WHAT IT READS IS OF BULK AT MOST 1048576: true; the input reads as it did. -/
def raftNewUptoRow : OpenClaim := { program := "ytbnfooeeopmpiaa", sum := "5f931647068b1270a1c5a90d7f447560c2225d05e90b863ca2de46de2a29cbc7", func := "stowage/stowagelaw10.RaftNew", spec := "raftNew", unfollowed := true, recurses := true, plainKeys := false, apart := false, narrowed := true }
def RaftNewUptoSaid : Prop := raftNewUptoRow.holds Try.pinned (OpenSpec.upto raftNewSpec)

end Rows
end Go.Proofs.Ytbnfooeeopmpiaa
