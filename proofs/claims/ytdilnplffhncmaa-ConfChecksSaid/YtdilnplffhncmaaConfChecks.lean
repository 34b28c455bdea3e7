/-
  ConfChecks: which configurations may be, who is a member, what a majority is, and whether some nodes are one: as the document says, for every input.
-/
import Derived.Test.YtdilnplffhncmaaConfD
import Derived.Test.YtdilnplffhncmaaTVArgs
import Derived.Test.YtdilnplffhncmaaRows
namespace Go.Proofs.Ytdilnplffhncmaa
open Go.ChangeShapes Go.WideShapes Go.ChangeAt Go.RowKit Go.Proofs.Ytdilnplffhncmaa.TV

theorem own : ownKnob Try.prog.godebug = none := by kernel_rfl
theorem laidOut : laidOutB Try.prog = true := by kernel_rfl
theorem bytes_int : Try.prog.bytesOf 3 = 8 := by kernel_rfl

theorem confChecks_spec : LawSpec Rows.confChecksSpec 3 := ⟨rfl, fun H ds h => by
  match ds, h with
  | [_, _, _], _ => rfl⟩

set_option maxRecDepth 100000 in
theorem confChecks_lifted (os : Os) (started : os.Started) (H : Type) (enc : TypeId × Value → H) :
    ReturnsInHanded {} Try.checked os 3 .any (Rows.confChecksSpec.pre6 enc Try.prog Try.f3 Rows.confChecksRow.domain false) (Rows.confChecksSpec.post enc Try.prog Try.f3 false true false false) :=
  law_lifted (C := Try.checked) (F := 4) (bt := 4) os started own (by kernel_rfl) Try.func3 laidOut (by kernel_rfl) (by kernel_rfl) rfl Try.underlying4 confChecks_spec
    (ChangeSpec.witness6 (enc := enc) (C := Try.checked) false ⟨#[], #[.slice none 0 0, .slice none 0 0, .int .i64 0], []⟩ 8 (by kernel_rfl) (by kernel_rfl) (by kernel_rfl) (by kernel_rfl))
    fun xs hxs0 => by
      have hxs : ArgsOk Try.prog 4 [22, 22, 3] xs := hxs0
      clear hxs0
      obtain ⟨x, xs, rfl, ⟨c1, o1, e1⟩, hxs⟩ := hxs.cons
      obtain ⟨y, xs, rfl, ⟨c2, o2, e2⟩, hxs⟩ := hxs.cons
      obtain ⟨z, xs, rfl, ⟨c3, o3, e3⟩, hxs⟩ := hxs.cons
      have hn := hxs.nil
      subst hn
      obtain ⟨b, zs, q1, l1, _⟩ := okT_ints (f := 2) Try.underlying22 Try.underlying3 o1
      obtain ⟨b', ws, q2, l2, _⟩ := okT_ints (f := 2) Try.underlying22 Try.underlying3 o2
      obtain ⟨n, q3, _⟩ := okT_int (f := 3) Try.underlying3 o3
      have e1' : x = intsV b zs .unk := e1.trans q1
      have e2' : y = intsV b' ws .unk := e2.trans q2
      have e3' : z = .int .i64 n := e3.trans q3
      have l1' : zs.length * 8 ≤ reachBytes := by have := l1; rw [bytes_int] at this; exact this
      have l2' : ws.length * 8 ≤ reachBytes := by have := l2; rw [bytes_int] at this; exact this
      have hr : reachBytes < 2 ^ 47 := reachBytes_lt
      subst e1' e2' e3'
      exact ⟨_, checks_ok b zs .unk b' ws .unk n (by omega) (by omega) St.none⟩

theorem confChecks_holds : Rows.ConfChecksSaid :=
  OpenClaim.holds_of_wide 3 Try.f3 rfl rfl rfl rfl rfl rfl rfl ⟨rfl, rfl, rfl, rfl, rfl⟩ rfl rfl rfl rfl rfl (by kernel_rfl) Try.func3 (by kernel_rfl)
    (of_decide_eq_true (by kernel_rfl)) (by unfold Func.isWrapper; first | (rw [if_pos (by decide +kernel)]; kernel_rfl) | (rw [if_neg (by decide +kernel)]; exact ⟨rfl, rfl⟩))
    (fun os started H enc _ => confChecks_lifted os started H enc)
end Go.Proofs.Ytdilnplffhncmaa
