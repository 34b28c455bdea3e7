/-
  ConfReach: from each configuration to each other one there is a way, node by node, each step a neighbour, for every input.
-/
import Derived.Test.YtdilnplffhncmaaConfX
import Derived.Test.YtdilnplffhncmaaTVArgs
import Derived.Test.YtdilnplffhncmaaRows
namespace Go.Proofs.Ytdilnplffhncmaa
open Go.ChangeShapes Go.WideShapes Go.ChangeAt Go.RowKit Go.Proofs.Ytdilnplffhncmaa.TV

theorem own : ownKnob Try.prog.godebug = none := by kernel_rfl
theorem laidOut : laidOutB Try.prog = true := by kernel_rfl
theorem bytes_int : Try.prog.bytesOf 3 = 8 := by kernel_rfl
theorem confReach_spec : LawSpec Rows.confReachSpec 2 := ⟨rfl, fun H ds h => by
  match ds, h with
  | [_, _], _ => rfl⟩

set_option maxRecDepth 100000 in
theorem confReach_lifted (os : Os) (started : os.Started) (H : Type) (enc : TypeId × Value → H) :
    ReturnsInHanded {} Try.checked os 6 .any (Rows.confReachSpec.pre6 enc Try.prog Try.f6 Rows.confReachRow.domain false) (Rows.confReachSpec.post enc Try.prog Try.f6 false true false false) :=
  law_lifted (C := Try.checked) (F := 6) (bt := 4) os started own (by kernel_rfl) Try.func6 laidOut (by kernel_rfl) (by kernel_rfl) rfl Try.underlying4 confReach_spec
    (ChangeSpec.witness6 (enc := enc) (C := Try.checked) false ⟨#[], #[.int .i64 0, .int .i64 0], []⟩ 8 (by kernel_rfl) (by kernel_rfl) (by kernel_rfl) (by kernel_rfl))
    fun xs hxs0 => by
      have hxs : ArgsOk Try.prog 6 [3, 3] xs := hxs0
      clear hxs0
      have hr : reachBytes < 2 ^ 47 := reachBytes_lt
      obtain ⟨x0, xs, rfl, ⟨c0, o0, e0⟩, hxs⟩ := hxs.cons
      obtain ⟨x1, xs, rfl, ⟨c1, o1, e1⟩, hxs⟩ := hxs.cons
      have hn := hxs.nil
      subst hn
      obtain ⟨n0, q0, w0⟩ := okT_int (f := 5) Try.underlying3 o0
      rw [q0] at e0
      subst e0
      obtain ⟨n1, q1, w1⟩ := okT_int (f := 5) Try.underlying3 o1
      rw [q1] at e1
      subst e1
      exact ⟨_, reach_ok n0 n1 St.none⟩

theorem confReach_holds : Rows.ConfReachSaid :=
  OpenClaim.holds_of_wide 6 Try.f6 rfl rfl rfl rfl rfl rfl rfl ⟨rfl, rfl, rfl, rfl, rfl⟩ rfl rfl rfl rfl rfl (by kernel_rfl) Try.func6 (by kernel_rfl)
    (of_decide_eq_true (by kernel_rfl)) (by unfold Func.isWrapper; first | (rw [if_pos (by decide +kernel)]; kernel_rfl) | (rw [if_neg (by decide +kernel)]; exact ⟨rfl, rfl⟩))
    (fun os started H enc _ => confReach_lifted os started H enc)
end Go.Proofs.Ytdilnplffhncmaa
