/-
  RaftVotes: for every input the law answers true.
-/
import Derived.Test.YtbnfooeeopmpiaaDVoteP
import Derived.Test.YtbnfooeeopmpiaaTVArgs
import Derived.Test.YtbnfooeeopmpiaaRows
namespace Go.Proofs.Ytbnfooeeopmpiaa
open Go.ChangeShapes Go.WideShapes Go.ChangeAt Go.RowKit Go.Proofs.Ytbnfooeeopmpiaa.TV

theorem own : ownKnob Try.prog.godebug = none := by kernel_rfl
theorem laidOut : laidOutB Try.prog = true := by kernel_rfl
theorem raftVotes_spec : LawSpec Rows.raftVotesSpec 3 := ⟨rfl, fun H ds h => by
  match ds, h with
  | [_, _, _], _ => rfl⟩

set_option maxRecDepth 100000 in
theorem raftVotes_lifted (os : Os) (started : os.Started) (H : Type) (enc : TypeId × Value → H) :
    ReturnsInHanded {} Try.checked os 5 .any (Rows.raftVotesSpec.pre6 enc Try.prog Try.f5 Rows.raftVotesRow.domain false) (Rows.raftVotesSpec.post enc Try.prog Try.f5 false true false false) :=
  law_lifted (C := Try.checked) (F := 6) (bt := 4) os started own (by kernel_rfl) Try.func5 laidOut (by kernel_rfl) (by kernel_rfl) rfl Try.underlying4 raftVotes_spec
    (ChangeSpec.witness6 (enc := enc) (C := Try.checked) false ⟨#[], #[.agg #[.int .i64 0, .int .i64 0], .slice none 0 0, .slice none 0 0], []⟩ 8 (by kernel_rfl) (by kernel_rfl) (by kernel_rfl) (by kernel_rfl))
    fun xs hxs0 => by
      have hxs : ArgsOk Try.prog 6 [43, 44, 45] xs := hxs0
      clear hxs0
      exact law_simW lRaftVotes_ok (F := 6) (ts := [43, 44, 45]) (by kernel_rfl) (fun d h => by
        have hr : reachBytes = 140737488351232 := rfl
        obtain ⟨⟨a0, a1⟩, asks, again, u⟩ := d
        exact lRaftVotes_eq' a0 a1 asks again) hxs

theorem raftVotes_holds : Rows.RaftVotesSaid :=
  OpenClaim.holds_of_wide 5 Try.f5 rfl rfl rfl rfl rfl rfl rfl ⟨rfl, rfl, rfl, rfl, rfl⟩ rfl rfl rfl rfl rfl (by kernel_rfl) Try.func5 (by kernel_rfl)
    (of_decide_eq_true (by kernel_rfl)) (by unfold Func.isWrapper; first | (rw [if_pos (by decide +kernel)]; kernel_rfl) | (rw [if_neg (by decide +kernel)]; exact ⟨rfl, rfl⟩))
    (fun os started H enc _ => raftVotes_lifted os started H enc)
end Go.Proofs.Ytbnfooeeopmpiaa
