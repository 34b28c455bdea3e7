/-
  ConfChanges: a configuration with a node more, and with one less, and which are neighbours: as the document says, for every input.
-/
import Derived.Test.YtdilnplffhncmaaConfV
import Derived.Test.YtdilnplffhncmaaTVArgs
import Derived.Test.YtdilnplffhncmaaRows
namespace Go.Proofs.Ytdilnplffhncmaa
open Go.ChangeShapes Go.WideShapes Go.ChangeAt Go.RowKit Go.Proofs.Ytdilnplffhncmaa.TV

theorem own : ownKnob Try.prog.godebug = none := by kernel_rfl
theorem laidOut : laidOutB Try.prog = true := by kernel_rfl
theorem bytes_int : Try.prog.bytesOf 3 = 8 := by kernel_rfl
theorem confChanges_spec : LawSpec Rows.confChangesSpec 3 := ⟨rfl, fun H ds h => by
  match ds, h with
  | [_, _, _], _ => rfl⟩

set_option maxRecDepth 100000 in
theorem confChanges_lifted (os : Os) (started : os.Started) (H : Type) (enc : TypeId × Value → H) :
    ReturnsInHanded {} Try.checked os 5 .any (Rows.confChangesSpec.pre6 enc Try.prog Try.f5 Rows.confChangesRow.domain false) (Rows.confChangesSpec.post enc Try.prog Try.f5 false true false false) :=
  law_lifted (C := Try.checked) (F := 6) (bt := 4) os started own (by kernel_rfl) Try.func5 laidOut (by kernel_rfl) (by kernel_rfl) rfl Try.underlying4 confChanges_spec
    (ChangeSpec.witness6 (enc := enc) (C := Try.checked) false ⟨#[], #[.slice none 0 0, .slice none 0 0, .int .i64 0], []⟩ 8 (by kernel_rfl) (by kernel_rfl) (by kernel_rfl) (by kernel_rfl))
    fun xs hxs0 => by
      have hxs : ArgsOk Try.prog 6 [22, 22, 3] xs := hxs0
      clear hxs0
      have hr : reachBytes < 2 ^ 47 := reachBytes_lt
      obtain ⟨x0, xs, rfl, ⟨c0, o0, e0⟩, hxs⟩ := hxs.cons
      obtain ⟨x1, xs, rfl, ⟨c1, o1, e1⟩, hxs⟩ := hxs.cons
      obtain ⟨x2, xs, rfl, ⟨c2, o2, e2⟩, hxs⟩ := hxs.cons
      have hn := hxs.nil
      subst hn
      obtain ⟨b0, z0, q0, l0, w0⟩ := okT_ints (f := 4) Try.underlying22 Try.underlying3 o0
      rw [bytes_int] at l0
      rw [q0] at e0
      subst e0
      obtain ⟨b1, z1, q1, l1, w1⟩ := okT_ints (f := 4) Try.underlying22 Try.underlying3 o1
      rw [bytes_int] at l1
      rw [q1] at e1
      subst e1
      obtain ⟨n2, q2, w2⟩ := okT_int (f := 5) Try.underlying3 o2
      rw [q2] at e2
      subst e2
      exact ⟨_, changes_ok b0 z0 b1 z1 n2 (fun h => okT_nil (f := 5) Try.underlying22 o0 (by rw [← h]; exact q0)) (by omega) (by omega) St.none⟩

theorem confChanges_holds : Rows.ConfChangesSaid :=
  OpenClaim.holds_of_wide 5 Try.f5 rfl rfl rfl rfl rfl rfl rfl ⟨rfl, rfl, rfl, rfl, rfl⟩ rfl rfl rfl rfl rfl (by kernel_rfl) Try.func5 (by kernel_rfl)
    (of_decide_eq_true (by kernel_rfl)) (by unfold Func.isWrapper; first | (rw [if_pos (by decide +kernel)]; kernel_rfl) | (rw [if_neg (by decide +kernel)]; exact ⟨rfl, rfl⟩))
    (fun os started H enc _ => confChanges_lifted os started H enc)
end Go.Proofs.Ytdilnplffhncmaa
