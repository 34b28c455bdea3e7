/-
  No cell of these rows narrows 'for every input' (looked for: loops, veiled, ifaces, maps, wideKeys, modest, calm, conditions, laid).
  DERIVED. THE GIVEN ROWS OF THIS SEAT. 7 by the template 'for every input the law returns true; each argument reads behind the call as it read before'; 0 by the template 'total and deterministic' (their statements: YtdilnplffhncmaaTotals.lean).
  GIVEN WITH THE SEED: the statements are not yours to turn. If you find one false, say at which input.
  Laid BY PROGRAM, IN A SANDBOX (cutbox-rows.mjs): the forced cells as the released guide's own fill.sh prints them over the translation bf2704b9e4b8a100… (all of the seat's roots in one cut). By AI agents, Wed Nov 11 2026. No macro, syntax, notation, axiom, sorry.
-/
import Derived.Test.YtdilnplffhncmaaChecked
import GoSem.Claim
import GoSem.ClaimJoined
import GoSem.ClaimMapViews
import Derived.JoinedTies
import Derived.KernelRfl
namespace Go.Proofs.Ytdilnplffhncmaa
/- THE CELL 'sum', in the pinned program and in every row, IS THE sha256 OF THE DUMP (.gsa) THAT YtdilnplffhncmaaProg.lean LOADS. Nothing in Lean hashes anything: it is a label: what it is worth is what the hold of that sum in a sandbox is worth. -/
noncomputable def Try.pinned : Pinned := { name := "ytdilnplffhncmaa", sum := "bf2704b9e4b8a100839d3355cd1b558651ba53bb2b3c5608ed83c27fa97fa412", checked := Try.checked }
namespace Rows
def none {H : Type} : Left H := { results := [], args := [] }

/-- 'stowagelaw09.ConfChecks': WHATEVER THE INPUT: true; the input reads as it did. -/
def confChecksSpec : ChangeSpec := { name := "confChecks", fn := fun _ => fun
  | [d1, d2, d3] => { results := [.lit (.bool true)], args := [d1, d2, d3] }
  | _ => none }
def confChecksRow : OpenClaim := { program := "ytdilnplffhncmaa", sum := "bf2704b9e4b8a100839d3355cd1b558651ba53bb2b3c5608ed83c27fa97fa412", func := "stowage/stowagelaw09.ConfChecks", spec := "confChecks", recurses := true, apart := false }
def ConfChecksSaid : Prop := confChecksRow.holds Try.pinned (OpenSpec.ofChange confChecksSpec)

/-- ITS FALSE NEIGHBOUR: 'it returns false'. Refute it at one input. -/
def confChecksWrong : ChangeSpec := { name := "confChecks", fn := fun _ => fun
  | [d1, d2, d3] => { results := [.lit (.bool false)], args := [d1, d2, d3] }
  | _ => none }
def ConfChecksWrongFalsely : Prop := confChecksRow.holds Try.pinned (OpenSpec.ofChange confChecksWrong)

/-- 'stowagelaw09.ConfReached': WHATEVER THE INPUT: true; the input reads as it did. -/
def confReachedSpec : ChangeSpec := { name := "confReached", fn := fun _ => fun
  | [d1, d2, d3] => { results := [.lit (.bool true)], args := [d1, d2, d3] }
  | _ => none }
def confReachedRow : OpenClaim := { program := "ytdilnplffhncmaa", sum := "bf2704b9e4b8a100839d3355cd1b558651ba53bb2b3c5608ed83c27fa97fa412", func := "stowage/stowagelaw09.ConfReached", spec := "confReached", recurses := true, apart := false }
def ConfReachedSaid : Prop := confReachedRow.holds Try.pinned (OpenSpec.ofChange confReachedSpec)

/-- ITS FALSE NEIGHBOUR: 'it returns false'. Refute it at one input. -/
def confReachedWrong : ChangeSpec := { name := "confReached", fn := fun _ => fun
  | [d1, d2, d3] => { results := [.lit (.bool false)], args := [d1, d2, d3] }
  | _ => none }
def ConfReachedWrongFalsely : Prop := confReachedRow.holds Try.pinned (OpenSpec.ofChange confReachedWrong)

/-- 'stowagelaw09.ConfChanges': WHATEVER THE INPUT: true; the input reads as it did. -/
def confChangesSpec : ChangeSpec := { name := "confChanges", fn := fun _ => fun
  | [d1, d2, d3] => { results := [.lit (.bool true)], args := [d1, d2, d3] }
  | _ => none }
def confChangesRow : OpenClaim := { program := "ytdilnplffhncmaa", sum := "bf2704b9e4b8a100839d3355cd1b558651ba53bb2b3c5608ed83c27fa97fa412", func := "stowage/stowagelaw09.ConfChanges", spec := "confChanges", unfollowed := true, recurses := true, apart := false }
def ConfChangesSaid : Prop := confChangesRow.holds Try.pinned (OpenSpec.ofChange confChangesSpec)

/-- ITS FALSE NEIGHBOUR: 'it returns false'. Refute it at one input. -/
def confChangesWrong : ChangeSpec := { name := "confChanges", fn := fun _ => fun
  | [d1, d2, d3] => { results := [.lit (.bool false)], args := [d1, d2, d3] }
  | _ => none }
def ConfChangesWrongFalsely : Prop := confChangesRow.holds Try.pinned (OpenSpec.ofChange confChangesWrong)

/-- 'stowagelaw09.ConfReach': WHATEVER THE INPUT: true; the input reads as it did. -/
def confReachSpec : ChangeSpec := { name := "confReach", fn := fun _ => fun
  | [d1, d2] => { results := [.lit (.bool true)], args := [d1, d2] }
  | _ => none }
def confReachRow : OpenClaim := { program := "ytdilnplffhncmaa", sum := "bf2704b9e4b8a100839d3355cd1b558651ba53bb2b3c5608ed83c27fa97fa412", func := "stowage/stowagelaw09.ConfReach", spec := "confReach", unfollowed := true, recurses := true, apart := false }
def ConfReachSaid : Prop := confReachRow.holds Try.pinned (OpenSpec.ofChange confReachSpec)

/-- ITS FALSE NEIGHBOUR: 'it returns false'. Refute it at one input. -/
def confReachWrong : ChangeSpec := { name := "confReach", fn := fun _ => fun
  | [d1, d2] => { results := [.lit (.bool false)], args := [d1, d2] }
  | _ => none }
def ConfReachWrongFalsely : Prop := confReachRow.holds Try.pinned (OpenSpec.ofChange confReachWrong)

/-- 'stowagelaw09.ConfBytes': WHATEVER THE INPUT: true; the input reads as it did. -/
def confBytesSpec : ChangeSpec := { name := "confBytes", fn := fun _ => fun
  | [d1, d2] => { results := [.lit (.bool true)], args := [d1, d2] }
  | _ => none }
def confBytesRow : OpenClaim := { program := "ytdilnplffhncmaa", sum := "bf2704b9e4b8a100839d3355cd1b558651ba53bb2b3c5608ed83c27fa97fa412", func := "stowage/stowagelaw09.ConfBytes", spec := "confBytes", recurses := true, apart := false }
def ConfBytesSaid : Prop := confBytesRow.holds Try.pinned (OpenSpec.ofChange confBytesSpec)

/-- ITS FALSE NEIGHBOUR: 'it returns false'. Refute it at one input. -/
def confBytesWrong : ChangeSpec := { name := "confBytes", fn := fun _ => fun
  | [d1, d2] => { results := [.lit (.bool false)], args := [d1, d2] }
  | _ => none }
def ConfBytesWrongFalsely : Prop := confBytesRow.holds Try.pinned (OpenSpec.ofChange confBytesWrong)

/-- 'stowagelaw09.ConfBack': WHATEVER THE INPUT: true; the input reads as it did. -/
def confBackSpec : ChangeSpec := { name := "confBack", fn := fun _ => fun
  | [d1, d2] => { results := [.lit (.bool true)], args := [d1, d2] }
  | _ => none }
def confBackRow : OpenClaim := { program := "ytdilnplffhncmaa", sum := "bf2704b9e4b8a100839d3355cd1b558651ba53bb2b3c5608ed83c27fa97fa412", func := "stowage/stowagelaw09.ConfBack", spec := "confBack", recurses := true, apart := false }
def ConfBackSaid : Prop := confBackRow.holds Try.pinned (OpenSpec.ofChange confBackSpec)

/-- ITS FALSE NEIGHBOUR: 'it returns false'. Refute it at one input. -/
def confBackWrong : ChangeSpec := { name := "confBack", fn := fun _ => fun
  | [d1, d2] => { results := [.lit (.bool false)], args := [d1, d2] }
  | _ => none }
def ConfBackWrongFalsely : Prop := confBackRow.holds Try.pinned (OpenSpec.ofChange confBackWrong)

/-- 'stowagelaw09.ConfLatest': WHATEVER THE INPUT: true; the input reads as it did. -/
def confLatestSpec : ChangeSpec := { name := "confLatest", fn := fun _ => fun
  | [d1, d2] => { results := [.lit (.bool true)], args := [d1, d2] }
  | _ => none }
def confLatestRow : OpenClaim := { program := "ytdilnplffhncmaa", sum := "bf2704b9e4b8a100839d3355cd1b558651ba53bb2b3c5608ed83c27fa97fa412", func := "stowage/stowagelaw09.ConfLatest", spec := "confLatest", recurses := true, apart := false }
def ConfLatestSaid : Prop := confLatestRow.holds Try.pinned (OpenSpec.ofChange confLatestSpec)

/-- ITS FALSE NEIGHBOUR: 'it returns false'. Refute it at one input. -/
def confLatestWrong : ChangeSpec := { name := "confLatest", fn := fun _ => fun
  | [d1, d2] => { results := [.lit (.bool false)], args := [d1, d2] }
  | _ => none }
def ConfLatestWrongFalsely : Prop := confLatestRow.holds Try.pinned (OpenSpec.ofChange confLatestWrong)

/- THE SECOND FORM. 'bulk': how many values and letters a reading holds, each counted each time it is reached (what is shared counts as often as it is met; a slice's spare places count too). A statement '..UptoSaid' is the law's where the arguments, and the package variables that the reading takes, are together of bulk at most 1048576: NARROWER than '..Said'. Prove '..Said' where nothing that the law and all that it calls make is longer than what came in: it says more and counts as full. Else prove '..UptoSaid'. A law counts once. -/
mutual
def uptoBulk {H : Type} : DataW H → Nat
  | .lit (.string bytes) => bytes.length + 1
  | .lit _ => 1
  | .nil => 1
  | .ptr d => uptoBulk d + 1
  | .slice elems spare => uptoBulkAll elems + uptoBulkAll spare + 1
  | .agg parts => uptoBulkAll parts + 1
  | .iface _ d => uptoBulk d + 1
  | .map entries => uptoBulkEntries entries + 1
  | .held _ => 1
def uptoBulkAll {H : Type} : List (DataW H) → Nat
  | [] => 0
  | d :: r => uptoBulk d + uptoBulkAll r
def uptoBulkEntries {H : Type} : List (Lit × DataW H) → Nat
  | [] => 0
  | x :: r => uptoBulkEntry x + uptoBulkEntries r
def uptoBulkEntry {H : Type} : Lit × DataW H → Nat
  | (.string bytes, d) => bytes.length + uptoBulk d + 1
  | (_, d) => uptoBulk d + 1
 end
def uptoSmall : (H : Type) → List (DataW H) → Bool := fun _ ds => decide (uptoBulkAll ds ≤ 1048576)
def OpenSpec.upto (s : _root_.Go.ChangeSpec) : _root_.Go.OpenSpec := { _root_.Go.OpenSpec.ofChange s with cond := some uptoSmall }

/-- 'stowagelaw09.ConfChecks', WHERE WHAT IT READS IS OF BULK AT MOST 1048576: true; the input reads as it did. -/
def confChecksUptoRow : OpenClaim := { program := "ytdilnplffhncmaa", sum := "bf2704b9e4b8a100839d3355cd1b558651ba53bb2b3c5608ed83c27fa97fa412", func := "stowage/stowagelaw09.ConfChecks", spec := "confChecks", recurses := true, apart := false, narrowed := true }
def ConfChecksUptoSaid : Prop := confChecksUptoRow.holds Try.pinned (OpenSpec.upto confChecksSpec)

/-- 'stowagelaw09.ConfReached', WHERE WHAT IT READS IS OF BULK AT MOST 1048576: true; the input reads as it did. -/
def confReachedUptoRow : OpenClaim := { program := "ytdilnplffhncmaa", sum := "bf2704b9e4b8a100839d3355cd1b558651ba53bb2b3c5608ed83c27fa97fa412", func := "stowage/stowagelaw09.ConfReached", spec := "confReached", recurses := true, apart := false, narrowed := true }
def ConfReachedUptoSaid : Prop := confReachedUptoRow.holds Try.pinned (OpenSpec.upto confReachedSpec)

/-- 'stowagelaw09.ConfChanges', WHERE WHAT IT READS IS OF BULK AT MOST 1048576: true; the input reads as it did. -/
def confChangesUptoRow : OpenClaim := { program := "ytdilnplffhncmaa", sum := "bf2704b9e4b8a100839d3355cd1b558651ba53bb2b3c5608ed83c27fa97fa412", func := "stowage/stowagelaw09.ConfChanges", spec := "confChanges", unfollowed := true, recurses := true, apart := false, narrowed := true }
def ConfChangesUptoSaid : Prop := confChangesUptoRow.holds Try.pinned (OpenSpec.upto confChangesSpec)

/-- 'stowagelaw09.ConfReach', WHERE WHAT IT READS IS OF BULK AT MOST 1048576: true; the input reads as it did. -/
def confReachUptoRow : OpenClaim := { program := "ytdilnplffhncmaa", sum := "bf2704b9e4b8a100839d3355cd1b558651ba53bb2b3c5608ed83c27fa97fa412", func := "stowage/stowagelaw09.ConfReach", spec := "confReach", unfollowed := true, recurses := true, apart := false, narrowed := true }
def ConfReachUptoSaid : Prop := confReachUptoRow.holds Try.pinned (OpenSpec.upto confReachSpec)

/-- 'stowagelaw09.ConfBytes', WHERE WHAT IT READS IS OF BULK AT MOST 1048576: true; the input reads as it did. -/
def confBytesUptoRow : OpenClaim := { program := "ytdilnplffhncmaa", sum := "bf2704b9e4b8a100839d3355cd1b558651ba53bb2b3c5608ed83c27fa97fa412", func := "stowage/stowagelaw09.ConfBytes", spec := "confBytes", recurses := true, apart := false, narrowed := true }
def ConfBytesUptoSaid : Prop := confBytesUptoRow.holds Try.pinned (OpenSpec.upto confBytesSpec)

/-- 'stowagelaw09.ConfBack', WHERE WHAT IT READS IS OF BULK AT MOST 1048576: true; the input reads as it did. -/
def confBackUptoRow : OpenClaim := { program := "ytdilnplffhncmaa", sum := "bf2704b9e4b8a100839d3355cd1b558651ba53bb2b3c5608ed83c27fa97fa412", func := "stowage/stowagelaw09.ConfBack", spec := "confBack", recurses := true, apart := false, narrowed := true }
def ConfBackUptoSaid : Prop := confBackUptoRow.holds Try.pinned (OpenSpec.upto confBackSpec)

/-- 'stowagelaw09.ConfLatest', WHERE WHAT IT READS IS OF BULK AT MOST 1048576: true; the input reads as it did. -/
def confLatestUptoRow : OpenClaim := { program := "ytdilnplffhncmaa", sum := "bf2704b9e4b8a100839d3355cd1b558651ba53bb2b3c5608ed83c27fa97fa412", func := "stowage/stowagelaw09.ConfLatest", spec := "confLatest", recurses := true, apart := false, narrowed := true }
def ConfLatestUptoSaid : Prop := confLatestUptoRow.holds Try.pinned (OpenSpec.upto confLatestSpec)

end Rows
end Go.Proofs.Ytdilnplffhncmaa
