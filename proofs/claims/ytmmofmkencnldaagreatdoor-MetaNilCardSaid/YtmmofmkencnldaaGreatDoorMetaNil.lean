/-
  MetaNil: for every input the law answers true (the package's variables as the program's text lays them; tied).
-/
import Derived.Test.YtmmofmkencnldaaGreatDoorMGiv
import Derived.Test.YtmmofmkencnldaaGreatDoorMLaw
import Derived.Test.YtmmofmkencnldaaGreatDoorRows
import Derived.Test.YtmmofmkencnldaaGreatDoorTie
import Derived.Test.YtmmofmkencnldaaGreatDoorCards
import Derived.LaidMore
import Derived.OpenShut
import Derived.Stop.Joined
import Derived.Stop.JoinedAt
import Derived.Stop.LaidErr
import Derived.SevenTiedAt
import Derived.Plain9
import Derived.Lay
import Derived.Shelf.Vars
namespace Go.Proofs.YtmmofmkencnldaaGreatDoor
open Go Go.ChangeShapes Go.WideShapes Go.ChangeAt Go.RowKit Go.Proofs.YtmmofmkencnldaaGreatDoor.TV
set_option maxRecDepth 100000

theorem own : ownKnob Tryz.prog.godebug = none := by kernel_rfl
theorem laidOut : laidOutB Tryz.prog = true := by kernel_rfl
theorem metaNil_args : Tryz.f3.params.toList.map (shapeArg Tryz.prog) = [.junk, .agg (List.replicate 9 .junk), .agg (List.replicate 7 .junk)] := by kernel_rfl
theorem metaNil_sim : ∃ s', Sim Tryz.prog 3 (Tryz.f3.params.toList.map (shapeArg Tryz.prog)) St.none (.bool true) s' := by
  obtain ⟨s', h⟩ := says_true metaNil_run
  rw [metaNil_args]
  exact ⟨s', runG_ok follows' named' givenL_ok h⟩

/-! ### What is laid -/
def laidL : List (String × DataW Unit) := [("stowage/digest.rounds", Rows.laid_stowage_digest_rounds), ("unicode/utf8.acceptRanges", Rows.laid_unicode_utf8_acceptRanges), ("unicode/utf8.first", Rows.laid_unicode_utf8_first)]
theorem gR : Tryz.prog.globalNamed "stowage/digest.rounds" = some 1 := by kernel_rfl
theorem tR : (Tryz.prog.globals[1]?).map (·.type) = some 291 := by kernel_rfl
theorem cU : Tryz.prog.cellsOf 241 = 1 := by kernel_rfl
theorem laid_cells {P : Program} {n : String} {zs : List Int} {r : List (String × DataW Unit)} {W : World} {g N : Nat} {k : IntKind} {ti te : TypeId}
    (h : laidMet P ((n, .agg (zs.map fun z => .lit (.int k z))) :: r) W) (hg : P.globalNamed n = some g) (ht : (P.globals[g]?).map (·.type) = some ti) (hi : P.underlying ti = some (.array N te)) (he : P.underlying te = some (.int k)) (hc : P.cellsOf te = 1) :
    zs.length = N ∧ ∀ (i : Nat) (z : Int), zs[i]? = some z → W.cell? ⟨g, i, none⟩ = some (.int k z) := by
  obtain ⟨ps, ⟨g0, t0, cs0, f0, p0, q0, hg0, ht0, hv0, hd0, _, e0⟩, _, _⟩ := h
  obtain rfl := Option.some.inj (hg.symm.trans hg0)
  obtain rfl := Option.some.inj (ht.symm.trans ht0)
  obtain ⟨xs, m, rfl, hx, hl, hn, hall⟩ := DataW.trod_array hi hd0
  simp only [Prod.mk.injEq, DataW.agg.injEq] at hx
  obtain ⟨hx1, _⟩ := hx
  have hzl : zs.length = N := by
    have := congrArg List.length hx1
    simp only [List.length_map] at this
    omega
  refine ⟨hzl, fun i z hz => ?_⟩
  have hi' : i < N := by
    rw [← hzl]
    exact (List.getElem?_eq_some_iff.1 hz).1
  have hd := hall i hi'
  rw [hc, Nat.mul_one] at hd
  have hxi : (xs.map (·.1))[i]? = some (.lit (.int k z)) := by
    rw [← hx1, List.getElem?_map, hz]
    rfl
  rw [List.getElem?_map] at hxi
  obtain ⟨y, hy, hy1⟩ := Option.map_eq_some_iff.1 hxi
  rw [hy] at hd
  obtain ⟨n', hcs, rfl, _⟩ := DataW.trod_int he hd
  simp only [DataW.lit.injEq, Lit.int.injEq, true_and] at hy1
  subst hy1
  have h0 : (cs0.toList.drop i)[0]? = some (.int k n') := by
    have h1 : ((cs0.toList.drop i).take 1)[0]? = some (.int k n') := by rw [hcs]; rfl
    rw [List.getElem?_take_of_lt (by omega)] at h1
    exact h1
  rw [List.getElem?_drop, Nat.add_zero] at h0
  rw [World.var?_cell hg hv0 i]
  simpa using h0
theorem rounds_form : (Rows.laid_stowage_digest_rounds : DataW Unit) = .agg (((globC 1).map (·.2)).map fun z => .lit (.int .u32 z)) := by kernel_rfl
theorem rounds_kind : (globC 1).map (·.1) = List.replicate 64 IntKind.u32 := by kernel_rfl
theorem vars_ok (W : World) (h : laidMetH Tryz.prog laidL W) (hs : W.ShapedOpen Tryz.prog) : VarsOk W.heap.size W := by
  rw [MakeChecks.laidMetH_plain _ _ _ (by kernel_rfl)] at h
  unfold laidL at h
  rw [rounds_form] at h
  obtain ⟨hl, hc⟩ := laid_cells h gR tR Tryz.underlying291 Tryz.underlying241 cU
  have hcell : ∀ (i : Nat) (k : IntKind) (z : Int), (globC 1)[i]? = some (k, z) → W.cell? ⟨1, i, none⟩ = some (.int k z) := by
    intro i k z e
    have h1 : ((globC 1).map (·.1))[i]? = some k := by rw [List.getElem?_map, e]; rfl
    have h2 : ((globC 1).map (·.2))[i]? = some z := by rw [List.getElem?_map, e]; rfl
    rw [rounds_kind, List.getElem?_replicate] at h1
    split at h1
    · cases h1
      exact hc i z h2
    · cases h1
  have h0 : W.cell? ⟨1, 0, none⟩ = some (.int .u32 1116352408) := hcell 0 .u32 1116352408 rfl
  exact ⟨World.block_lt_of_cell? W ⟨1, 0, none⟩ h0, hcell, cell_of_shapedOpen_int (P := Tryz.prog) (g := 0) (t := 3) (zero := #[.int .i64 0]) hs (of_decide_eq_true (by kernel_rfl)) (by kernel_rfl) rfl (by kernel_rfl) (by kernel_rfl) Tryz.underlying3⟩
theorem metaNil_spec : LawSpec Rows.metaNilSpec 3 := ⟨rfl, fun H ds h => by
  match ds, h with
  | [_, _, _], _ => rfl⟩
theorem metaNil_lifted (os : Os) (started : os.Started) (H : Type) (enc : TypeId × Value → H) :
    ReturnsInHanded {} Tryz.checked os 3 .any (fun w args => (Rows.metaNilSpec.pre enc Tryz.prog Tryz.f3 [] false w args ∧ laidMetH Tryz.prog laidL w) ∧ sizedMet enc Tryz.prog Tryz.f3 (OpenSpec.ofChange Rows.metaNilSpec) false w args)
      (Rows.metaNilSpec.post enc Tryz.prog Tryz.f3 false true false false) :=
  law_shut (C := Tryz.checked) (bt := 4) (X := fun w => laidMetH Tryz.prog laidL w) os started (fun _ _ hh h => h.of_heap hh) own (by kernel_rfl) Tryz.func3 laidOut (by kernel_rfl) rfl Tryz.underlying4 metaNil_spec
    (ChangeSpec.witness_shaped (enc := enc) (C := Tryz.checked) (os := os) (X := fun w _ => laidMetH Tryz.prog laidL w) false (World.laidAll Tryz.prog os laidL) #[.int .i64 0, .agg #[.int .i64 0, .string ⟨#[]⟩, .string ⟨#[]⟩, .string ⟨#[]⟩, .int .i64 0, .int .i64 0, .string ⟨#[]⟩, .slice none 0 0, .slice none 0 0], .agg #[.string ⟨#[]⟩, .string ⟨#[]⟩, .int .i64 0, .string ⟨#[]⟩, .string ⟨#[]⟩, .string ⟨#[]⟩, .int .i64 0]] 8 (World.laidAll_os _ _ _) (World.shaped_of_ZipB (by kernel_rfl) (by kernel_rfl)) (by kernel_rfl) (by kernel_rfl) (by kernel_rfl)
      (by rw [MakeChecks.laidMetH_plain _ _ _ (by kernel_rfl)]; exact laidMet_laidAll _ (by kernel_rfl) (by kernel_rfl)))
    vars_ok metaNil_sim
theorem metaNil_row : Rows.MetaNilSaid :=
  OpenClaim.holds_of_wide 3 Tryz.f3 rfl rfl rfl rfl rfl rfl rfl ⟨rfl, rfl, rfl, rfl, rfl⟩ rfl rfl rfl rfl rfl (by kernel_rfl) Tryz.func3 (by kernel_rfl)
    (of_decide_eq_true (by kernel_rfl)) (by unfold Func.isWrapper; first | (rw [if_pos (by decide +kernel)]; kernel_rfl) | (rw [if_neg (by decide +kernel)]; exact ⟨rfl, rfl⟩))
    (fun os started H enc _ => metaNil_lifted os started H enc)
theorem metaNil_holds : Rows.MetaNilCardSaid :=
  Claim7.holds_tied_plain_at .later [] [.data, .data, .pinned] true (true, "a0025845733e2024e0e0f11db52a33e7a6a17322d961bb1d63f02577610fc447") false
    metaNil_row (fun _ h => by cases h) (by kernel_rfl) (fun _ h => by cases h) metaNil_row_tie rfl ⟨rfl, rfl⟩ (by kernel_rfl) rfl
    (fun f fn hf hfn => by
      obtain rfl : f = 3 := Option.some.inj ((show Tryz.prog.funcNamed "stowage/stowagelaw17.MetaNil" = some 3 by kernel_rfl).symm.trans hf) |>.symm
      obtain rfl : fn = Tryz.f3 := (Option.some.inj (Tryz.func3.symm.trans hfn)).symm
      exact ⟨by kernel_rfl, fun j t ht => by
        rw [Tryz.params3] at ht
        have hm : t ∈ [3, 25, 27] := by simpa using Array.mem_of_getElem? ht
        have hall : ([3, 25, 27].all fun u => !Tryz.prog.wantsStandIn u) = true := by kernel_rfl
        exact (show Tryz.prog.wantsStandIn t = false by simpa using List.all_eq_true.1 hall t hm)⟩)
    (by kernel_rfl)
end Go.Proofs.YtmmofmkencnldaaGreatDoor
