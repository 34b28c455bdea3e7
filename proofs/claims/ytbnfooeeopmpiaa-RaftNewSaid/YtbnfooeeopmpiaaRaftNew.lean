/-
  RaftNew: for every input the law answers true.
-/
import Derived.Test.YtbnfooeeopmpiaaDNodeP
import Derived.Test.YtbnfooeeopmpiaaTVArgs
import Derived.Test.YtbnfooeeopmpiaaRows
namespace Go.Proofs.Ytbnfooeeopmpiaa
open Go.ChangeShapes Go.WideShapes Go.ChangeAt Go.RowKit Go.Proofs.Ytbnfooeeopmpiaa.TV

theorem own : ownKnob Try.prog.godebug = none := by kernel_rfl
theorem laidOut : laidOutB Try.prog = true := by kernel_rfl
theorem raftNew_spec : LawSpec Rows.raftNewSpec 3 := ⟨rfl, fun H ds h => by
  match ds, h with
  | [_, _, _], _ => rfl⟩

set_option maxRecDepth 100000 in
theorem raftNew_lifted (os : Os) (started : os.Started) (H : Type) (enc : TypeId × Value → H) :
    ReturnsInHanded {} Try.checked os 7 .any (Rows.raftNewSpec.pre6 enc Try.prog Try.f7 Rows.raftNewRow.domain false) (Rows.raftNewSpec.post enc Try.prog Try.f7 false true false false) :=
  law_lifted (C := Try.checked) (F := 6) (bt := 4) os started own (by kernel_rfl) Try.func7 laidOut (by kernel_rfl) (by kernel_rfl) rfl Try.underlying4 raftNew_spec
    (ChangeSpec.witness6 (enc := enc) (C := Try.checked) false ⟨#[], #[.int .i64 0, .agg #[.int .i64 0, .int .i64 0], .slice none 0 0], []⟩ 8 (by kernel_rfl) (by kernel_rfl) (by kernel_rfl) (by kernel_rfl))
    fun xs hxs0 => by
      have hxs : ArgsOk Try.prog 6 [3, 43, 22] xs := hxs0
      clear hxs0
      exact law_sim lRaftNew_ok (F := 6) (ts := [3, 43, 22]) (by kernel_rfl) (fun d h => by
        have hr : reachBytes = 140737488351232 := rfl
        obtain ⟨me, ⟨a0, a1⟩, l, u⟩ := d
        obtain ⟨_, _, ⟨h1, h2, _⟩, _⟩ := h
        simp only [sizeT, IntKind.bits, hr] at h1 h2
        exact lRaftNew_eq' me a0 a1 l (by omega)) hxs

theorem raftNew_holds : Rows.RaftNewSaid :=
  OpenClaim.holds_of_wide 7 Try.f7 rfl rfl rfl rfl rfl rfl rfl ⟨rfl, rfl, rfl, rfl, rfl⟩ rfl rfl rfl rfl rfl (by kernel_rfl) Try.func7 (by kernel_rfl)
    (of_decide_eq_true (by kernel_rfl)) (by unfold Func.isWrapper; first | (rw [if_pos (by decide +kernel)]; kernel_rfl) | (rw [if_neg (by decide +kernel)]; exact ⟨rfl, rfl⟩))
    (fun os started H enc _ => raftNew_lifted os started H enc)
end Go.Proofs.Ytbnfooeeopmpiaa
