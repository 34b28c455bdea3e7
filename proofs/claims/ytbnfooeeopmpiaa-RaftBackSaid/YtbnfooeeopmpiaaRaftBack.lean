/-
  RaftBack: for every input the law answers true.
-/
import Derived.Test.YtbnfooeeopmpiaaDRaftS
import Derived.Test.YtbnfooeeopmpiaaTVArgs
import Derived.Test.YtbnfooeeopmpiaaRows
namespace Go.Proofs.Ytbnfooeeopmpiaa
open Go.ChangeShapes Go.WideShapes Go.ChangeAt Go.RowKit Go.Proofs.Ytbnfooeeopmpiaa.TV

theorem own : ownKnob Try.prog.godebug = none := by kernel_rfl
theorem laidOut : laidOutB Try.prog = true := by kernel_rfl
theorem raftBack_spec : LawSpec Rows.raftBackSpec 2 := ⟨rfl, fun H ds h => by
  match ds, h with
  | [_, _], _ => rfl⟩

set_option maxRecDepth 100000 in
theorem raftBack_lifted (os : Os) (started : os.Started) (H : Type) (enc : TypeId × Value → H) :
    ReturnsInHanded {} Try.checked os 4 .any (Rows.raftBackSpec.pre6 enc Try.prog Try.f4 Rows.raftBackRow.domain false) (Rows.raftBackSpec.post enc Try.prog Try.f4 false true false false) :=
  law_lifted (C := Try.checked) (F := 6) (bt := 4) os started own (by kernel_rfl) Try.func4 laidOut (by kernel_rfl) (by kernel_rfl) rfl Try.underlying4 raftBack_spec
    (ChangeSpec.witness6 (enc := enc) (C := Try.checked) false ⟨#[], #[.agg #[.int .i64 0, .int .i64 0, .int .i64 0, .int .i64 0, .int .i64 0, .int .i64 0, .int .i64 0, .int .i64 0, .int .i64 0, .bool false, .slice none 0 0, .string ⟨#[]⟩], .string ⟨#[]⟩], []⟩ 8 (by kernel_rfl) (by kernel_rfl) (by kernel_rfl) (by kernel_rfl))
    fun xs hxs0 => by
      have hxs : ArgsOk Try.prog 6 [24, 9] xs := hxs0
      clear hxs0
      exact law_sim lRaftBack_ok (F := 6) (ts := [24, 9]) (by kernel_rfl) (fun d h => by
        have hr : reachBytes = 140737488351232 := rfl
        obtain ⟨⟨k, f, t, term, ix, lt, cm, rd, at_, y, es, dd⟩, s, u⟩ := d
        obtain ⟨⟨_, _, _, _, _, _, _, _, _, _, ⟨h1, h2, _⟩, _⟩, h3, _⟩ := h
        simp only [sizeT, IntKind.bits, hr] at h1 h2
        have h4 : List.length s ≤ reachBytes := h3
        exact lRaftBack_eq' ⟨k, f, t, term, ix, lt, cm, rd, at_, y, es, dd⟩ s (by simp only; omega) (by omega)) hxs

theorem raftBack_holds : Rows.RaftBackSaid :=
  OpenClaim.holds_of_wide 4 Try.f4 rfl rfl rfl rfl rfl rfl rfl ⟨rfl, rfl, rfl, rfl, rfl⟩ rfl rfl rfl rfl rfl (by kernel_rfl) Try.func4 (by kernel_rfl)
    (of_decide_eq_true (by kernel_rfl)) (by unfold Func.isWrapper; first | (rw [if_pos (by decide +kernel)]; kernel_rfl) | (rw [if_neg (by decide +kernel)]; exact ⟨rfl, rfl⟩))
    (fun os started H enc _ => raftBack_lifted os started H enc)
end Go.Proofs.Ytbnfooeeopmpiaa
