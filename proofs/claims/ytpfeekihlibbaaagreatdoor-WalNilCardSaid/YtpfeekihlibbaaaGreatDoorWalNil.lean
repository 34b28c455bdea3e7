/-
  WalNil: for every input the law answers true (the package's variables as the program's text lays them; tied).
-/
import Derived.Test.YtpfeekihlibbaaaGreatDoorWGiv
import Derived.Test.YtpfeekihlibbaaaGreatDoorWRun
import Derived.Test.YtpfeekihlibbaaaGreatDoorWMore
import Derived.Test.YtpfeekihlibbaaaGreatDoorTVLaw
import Derived.Test.YtpfeekihlibbaaaGreatDoorRows
import Derived.Test.YtpfeekihlibbaaaGreatDoorTie
import Derived.Test.YtpfeekihlibbaaaGreatDoorCards
import Derived.LaidMore
import Derived.OpenShut
import Derived.Stop.Joined
import Derived.Stop.JoinedAt
import Derived.Stop.LaidErr
import Derived.SevenTiedAt
import Derived.Plain9
namespace Go.Proofs.YtpfeekihlibbaaaGreatDoor
open Go Go.ChangeShapes Go.WideShapes Go.ChangeAt Go.RowKit Go.Proofs.YtpfeekihlibbaaaGreatDoor.TV
set_option maxRecDepth 100000

theorem own : ownKnob Tryz.prog.godebug = none := by kernel_rfl
theorem laidOut : laidOutB Tryz.prog = true := by kernel_rfl
theorem follows : Tryz.prog.follows .mixedOrders = true := by kernel_rfl
theorem named : Named Tryz.prog := by
  have h : Tryz.prog.funcs.toList.all (fun fn => !(fn.name == "runtime.NumGoroutine")) = true := by kernel_rfl
  intro f fn hf
  have := List.all_eq_true.1 h fn (Array.mem_toList_iff.2 (Array.mem_of_getElem? hf))
  simpa using this
theorem given_ok : GivenOk Tryz.prog givenW := by
  intro f args s v s' h
  unfold givenW at h
  split at h
  · rename_i e; subst e; exact cloned_ok h
  · split at h
    · rename_i e; subst e; exact sorted_ok h
    · split at h
      · rename_i e; subst e; exact atoi_ok h
      · split at h
        · rename_i e; subst e; exact more_ok h
        · cases h
theorem walNil_sim : ∃ s', Sim Tryz.prog 3 (List.replicate 2 .junk) St.none (.bool true) s' := by
  obtain ⟨s', h⟩ := says_true walNil_run
  exact ⟨s', runG_ok follows named given_ok h⟩

/-! ### What is laid -/
def laidL : List (String × DataW Unit) := [("math/bits.deBruijn32tab", Rows.laid_math_bits_deBruijn32tab), ("math/bits.deBruijn64tab", Rows.laid_math_bits_deBruijn64tab), ("internal/strconv.uint64pow10", Rows.laid_internal_strconv_uint64pow10), ("strconv.ErrRange", Rows.laid_strconv_ErrRange), ("strconv.ErrSyntax", Rows.laid_strconv_ErrSyntax)]
theorem gS : Tryz.prog.globalNamed "strconv.ErrSyntax" = some 0 := by kernel_rfl
theorem tS : (Tryz.prog.globals[0]?).map (·.type) = some 111 := by kernel_rfl
theorem star : "*" ++ "errors.errorString" = "*errors.errorString" := by decide
theorem rowE (u : TypeId) (h : Tryz.prog.typeName? 3 u = some "*errors.errorString") : u = 175 :=
  typeName_ptr_named (nm := "errors.errorString") (by rw [star]; kernel_rfl) (by kernel_rfl) (by decide) u (by rw [star]; exact h)
theorem cE : Tryz.prog.cellsOf 177 = 1 := by kernel_rfl
theorem c9 : Tryz.prog.cellsOf 9 = 1 := by kernel_rfl
theorem vars_ok (W : World) (h : laidMetH Tryz.prog laidL W) : VarsOk W.heap.size W := by
  rw [MakeChecks.laidMetH_plain _ _ _ (by kernel_rfl)] at h
  have h4 := h.tail.tail.tail.tail
  obtain ⟨a, s, hv, _, _, _⟩ := laid_sentinel h4 gS tS Tryz.underlying111 rowE Tryz.underlying175 Tryz.underlying177 rfl rfl Tryz.underlying9 cE c9
  have hc := World.var?_cell gS hv 0
  have hc' : W.cell? ⟨0, 0, none⟩ = some (.iface 175 (.pointer (some a))) := by simpa using hc
  exact ⟨by
    have := World.block_lt_of_cell? W ⟨0, 0, none⟩ hc'
    exact this, _, _, hc'⟩
theorem door_met (os : Os) (args : Array Value) : laidMetH Tryz.prog laidL ((World.doorLaid Tryz.prog 400 os).forCall (fun _ _ => 0) ⟨#[], args, []⟩).memory :=
  laidMetH_of_parts3 (fuel := 8) (laidMet_of_run' 8 (by kernel_rfl) (by kernel_rfl)) (by kernel_rfl) (by kernel_rfl)
theorem walNil_spec : LawSpec Rows.walNilSpec 2 := ⟨rfl, fun H ds h => by
  match ds, h with
  | [_, _], _ => rfl⟩
theorem walNil_lifted (os : Os) (started : os.Started) (H : Type) (enc : TypeId × Value → H) :
    ReturnsInHanded {} Tryz.checked os 3 .any (fun w args => (Rows.walNilSpec.pre enc Tryz.prog Tryz.f3 [] false w args ∧ laidMetH Tryz.prog laidL w) ∧ sizedMet enc Tryz.prog Tryz.f3 (OpenSpec.ofChange Rows.walNilSpec) false w args)
      (Rows.walNilSpec.post enc Tryz.prog Tryz.f3 false true false false) :=
  law_laid (C := Tryz.checked) (bt := 4) (X := fun w => laidMetH Tryz.prog laidL w) os started (fun _ _ hh h => h.of_heap hh) own (by kernel_rfl) Tryz.func3 laidOut (by kernel_rfl) rfl Tryz.underlying4 walNil_spec
    (ChangeSpec.witness_shaped (enc := enc) (C := Tryz.checked) (os := os) (X := fun w _ => laidMetH Tryz.prog laidL w) false (World.doorLaid Tryz.prog 400 os) #[.int .i64 0, .slice none 0 0] 8 rfl (World.shaped_of_RefB (by kernel_rfl) (by kernel_rfl)) (by kernel_rfl) (by kernel_rfl) (by kernel_rfl) (door_met os _))
    vars_ok walNil_sim
theorem walNil_row : Rows.WalNilSaid :=
  OpenClaim.holds_of_wide 3 Tryz.f3 rfl rfl rfl rfl rfl rfl rfl ⟨rfl, rfl, rfl, rfl, rfl⟩ rfl rfl rfl rfl rfl (by kernel_rfl) Tryz.func3 (by kernel_rfl)
    (of_decide_eq_true (by kernel_rfl)) (by unfold Func.isWrapper; first | (rw [if_pos (by decide +kernel)]; kernel_rfl) | (rw [if_neg (by decide +kernel)]; exact ⟨rfl, rfl⟩))
    (fun os started H enc _ => walNil_lifted os started H enc)
theorem walNil_holds : Rows.WalNilCardSaid :=
  Claim7.holds_tied_plain_at .later [] [.data, .data, .data, .sentinel, .sentinel] true (true, "1b291a504c31f4c18ca3f631a32c35a37970091e91ca4bafed82e1d8f9715970") true
    walNil_row (fun _ h => by cases h) (by kernel_rfl) (fun _ h => by cases h) walNil_row_tie rfl ⟨rfl, rfl⟩ (by kernel_rfl) rfl
    (fun f fn hf hfn => by
      obtain rfl : f = 3 := Option.some.inj ((show Tryz.prog.funcNamed "stowage/stowagelaw05.WalNil" = some 3 by kernel_rfl).symm.trans hf) |>.symm
      obtain rfl : fn = Tryz.f3 := (Option.some.inj (Tryz.func3.symm.trans hfn)).symm
      exact ⟨by kernel_rfl, fun j t ht => by
        rw [Tryz.params3] at ht
        have hm : t ∈ [3, 22] := by simpa using Array.mem_of_getElem? ht
        have hall : ([3, 22].all fun u => !Tryz.prog.wantsStandIn u) = true := by kernel_rfl
        exact (show Tryz.prog.wantsStandIn t = false by simpa using List.all_eq_true.1 hall t hm)⟩)
    (by kernel_rfl)
end Go.Proofs.YtpfeekihlibbaaaGreatDoor
