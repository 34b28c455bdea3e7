/-
  META: what is given to the evaluator is so: sums of blocks and a text of zeros by the evaluator itself, comparisons of texts by the kit's contracts.
-/
import Derived.Test.YtmmofmkencnldaaGreatDoorMBlk0
import Derived.Test.YtmmofmkencnldaaGreatDoorMBlk1
import Derived.Test.YtmmofmkencnldaaGreatDoorMBlk2
import Derived.Test.YtmmofmkencnldaaGreatDoorMBlk3
import Derived.Test.YtmmofmkencnldaaGreatDoorMBlk4
import Derived.Test.YtmmofmkencnldaaGreatDoorMBlk5
import Derived.Test.YtmmofmkencnldaaGreatDoorMRun
import Derived.Shelf.Strings.Search3
import Derived.Shelf.Small.Strs
namespace Go.Proofs.YtmmofmkencnldaaGreatDoor
open Go.Shelf Go.RowKit Go.Proofs
def Tryz.containsA_ren : Go.Shelf.Ren := ⟨fun | 144 => 162 | 143 => 193 | 219 => 189 | 217 => 212 | 225 => 213 | 224 => 214 | 267 => 215 | 266 => 227 | 314 => 228 | n => n, fun | 9 => 9 | 4 => 4 | 3 => 3 | 5 => 5 | 46 => 177 | 146 => 318 | 51 => 241 | n => n, fun | 1 => 0 | n => n⟩
theorem Tryz.containsA : Go.Proofs.Lays.n144 Tryz.prog Tryz.containsA_ren := {
  mixed := by kernel_rfl,
  f143 := Tryz.func193.trans (congrArg some (by kernel_rfl)),
  f144 := Tryz.func162.trans (congrArg some (by kernel_rfl)),
  f217 := Tryz.func212.trans (congrArg some (by kernel_rfl)),
  f219 := Tryz.func189.trans (congrArg some (by kernel_rfl)),
  f224 := Tryz.func214.trans (congrArg some (by kernel_rfl)),
  f225 := Tryz.func213.trans (congrArg some (by kernel_rfl)),
  f266 := Tryz.func227.trans (congrArg some (by kernel_rfl)),
  f267 := Tryz.func215.trans (congrArg some (by kernel_rfl)),
  f314 := Tryz.func228.trans (congrArg some (by kernel_rfl)),
  t3 := Tryz.underlying3,
  a3 := Tryz.isAgg3,
  z3 := Tryz.sizeOf3,
  v3 := Tryz.zeroValue3,
  t4 := Tryz.underlying4,
  a4 := Tryz.isAgg4,
  z4 := Tryz.sizeOf4,
  v4 := Tryz.zeroValue4,
  t5 := Tryz.underlying5,
  a5 := Tryz.isAgg5,
  z5 := Tryz.sizeOf5,
  v5 := Tryz.zeroValue5,
  t9 := Tryz.underlying9,
  a9 := Tryz.isAgg9,
  z9 := Tryz.sizeOf9,
  v9 := Tryz.zeroValue9,
  t46 := Tryz.underlying177,
  a46 := Tryz.isAgg177,
  z46 := Tryz.sizeOf177,
  v46 := Tryz.zeroValue177,
  t51 := Tryz.underlying241,
  a51 := Tryz.isAgg241,
  z51 := Tryz.sizeOf241,
  v51 := Tryz.zeroValue241,
  t146 := Tryz.underlying318,
  a146 := Tryz.isAgg318,
  z146 := Tryz.sizeOf318,
  v146 := Tryz.zeroValue318,
  g1 := by kernel_rfl }
def Tryz.compareA_ren : Go.Shelf.Ren := ⟨fun | 106 => 63 | 213 => 98 | 265 => 147 | n => n, fun | 9 => 9 | 3 => 3 | n => n, fun | n => n⟩
theorem Tryz.compareA : Go.Proofs.Lays.n106 Tryz.prog Tryz.compareA_ren := {
  mixed := by kernel_rfl,
  f106 := Tryz.func63.trans (congrArg some (by kernel_rfl)),
  f213 := Tryz.func98.trans (congrArg some (by kernel_rfl)),
  f265 := Tryz.func147.trans (congrArg some (by kernel_rfl)),
  t3 := Tryz.underlying3,
  a3 := Tryz.isAgg3,
  z3 := Tryz.sizeOf3,
  v3 := Tryz.zeroValue3,
  t9 := Tryz.underlying9,
  a9 := Tryz.isAgg9,
  z9 := Tryz.sizeOf9,
  v9 := Tryz.zeroValue9 }
end Go.Proofs.YtmmofmkencnldaaGreatDoor
namespace Go.Proofs.YtmmofmkencnldaaGreatDoor.TV
open Go Go.RowKit
set_option maxRecDepth 100000
set_option linter.unusedVariables false
set_option linter.unusedSimpArgs false

theorem follows' : Tryz.prog.follows .mixedOrders = true := by kernel_rfl
theorem named' : Named Tryz.prog := by
  have h : Tryz.prog.funcs.toList.all (fun fn => !(fn.name == "runtime.NumGoroutine")) = true := by kernel_rfl
  intro f fn hf
  have := List.all_eq_true.1 h fn (Array.mem_toList_iff.2 (Array.mem_of_getElem? hf))
  simpa using this

/-! ### Numbers are plain -/
theorem plains_ints (k : IntKind) : ∀ l : List Int, plains (l.map (.int k)) = true
  | [] => rfl
  | n :: l => by
    show plains (.int k n :: l.map (.int k)) = true
    unfold plains
    rw [plains_ints k l]
    rfl
theorem settles_ints (k : IntKind) (l : List Int) : settles (l.map (.int k)) = l.map (.int k) := (plains_settle _ (plains_ints k l)).1
theorem noObjs_ints (k : IntKind) (l : List Int) : noObjs (l.map (.int k)) = true := (plains_settle _ (plains_ints k l)).2

/-! ### A block -/
theorem sums_pure {e : List Int × List Int × List Int} (h : Sums e) : Pure Tryz.prog 164 (argsOf e) (.agg (e.2.2.map (.int .u32))) := by
  obtain ⟨s', hr⟩ := says_ints h
  refine Pure.of (runG_ok follows' named' givenR_ok hr) ?_ ?_ ?_
  · simp [argsOf, plains, plain, plains_ints]
  · simp [noObj, noObjs_ints]
  · simp [settle, settles_ints]
theorem blockOf_mem {a b c : List Int} : ∀ {t : List (List Int × List Int × List Int)}, blockOf a b t = some c → (a, b, c) ∈ t
  | e :: t, h => by
    unfold blockOf at h
    split at h
    · rename_i he
      obtain ⟨x, y, z⟩ := e
      obtain ⟨h1, h2⟩ := he
      cases h
      simp only at h1 h2
      subst h1 h2
      exact List.mem_cons_self
    · exact List.mem_cons_of_mem _ (blockOf_mem h)
  | [], h => by cases h
theorem blocks_pure : ∀ e ∈ blocks, Pure Tryz.prog 164 (argsOf e) (.agg (e.2.2.map (.int .u32))) := by
  intro e he
  unfold blocks at he
  rcases List.mem_cons.1 he with rfl | he
  · exact sums_pure sums0
  rcases List.mem_cons.1 he with rfl | he
  · exact sums_pure sums1
  rcases List.mem_cons.1 he with rfl | he
  · exact sums_pure sums2
  rcases List.mem_cons.1 he with rfl | he
  · exact sums_pure sums3
  rcases List.mem_cons.1 he with rfl | he
  · exact sums_pure sums4
  rcases List.mem_cons.1 he with rfl | he
  · exact sums_pure sums5
  · cases he
/-- A slice's right to grow is forgotten. -/
theorem VRel.anyTok {g : G} {v : Value} {b : Bool} {es : List TV} {tok : Tok} (h : VRel g v (.slice b es tok)) : VRel g v (.slice b es .unk) := by
  cases h with
  | nils _ _ => exact .nils _ (fun _ e => by cases e)
  | empty a cap _ _ _ => exact .empty _ _ _ (fun _ e => by cases e) (fun e => by cases e)
  | slice bl off n cap size vs _ _ hne hn' hcap hs0 hse hsol hrel _ => exact .slice bl off n cap size vs _ _ hne hn' hcap hs0 hse hsol hrel trivial
theorem block_ok {args : List TV} {s : St} {v : TV} (h : blockT args = some v) : Sim Tryz.prog 164 args s v s := by
  unfold blockT at h
  split at h
  · rename_i st es tok
    split at h
    · rename_i a b ha hb
      split at h
      · rename_i c hc
        cases h
        have hp := blocks_pure _ (blockOf_mem hc) s
        rw [intsOf_eq ha, intsOf_eq hb]
        simp only [argsOf] at hp
        have hp' : Sim Tryz.prog 164 [.agg (a.map (.int .u32)), .slice false (b.map (.int .u8)) tok] s (.agg (c.map (.int .u32))) s := by
          refine ⟨hp.1, fun g w rargs hR hA => hp.2 g w rargs hR ?_⟩
          cases hA with
          | cons _ _ _ _ r1 rs =>
            cases rs with
            | cons _ _ _ _ r2 rs' =>
              exact .cons _ _ _ _ r1 (.cons _ _ _ _ r2.anyTok rs')
        exact hp'
      · cases h
    · cases h
  · cases h
theorem digits_ok {args : List TV} {s : St} {v : TV} (h : digitsT args = some v) : Sim Tryz.prog 146 args s v s := by
  unfold digitsT at h
  split at h
  · split at h
    · rename_i hl
      cases h
      subst hl
      exact Pure.of_run follows' named' digits_run rfl s
    · cases h
  · cases h
theorem compareBytes_refl : ∀ l : List UInt8, Lib.compareBytes l l = 0
  | [] => rfl
  | a :: l => by
    unfold Lib.compareBytes
    have h : ¬ a < a := by simp
    rw [if_neg h, if_neg h]
    exact compareBytes_refl l
theorem compare_ok {args : List TV} {s : St} {v : TV} (h : compareT args = some v) : Sim Tryz.prog 63 args s v s := by
  unfold compareT at h
  split at h
  · rename_i a b
    split at h
    · rename_i hab
      cases h
      subst hab
      refine ⟨⟨_, _, Tryz.func63, rfl⟩, fun g w rargs hR hA => ?_⟩
      cases hA with
      | cons _ _ _ _ r rs =>
        cases rs with
        | cons _ _ _ _ r' rs' =>
          cases rs'
          cases r with
          | str sa _ e =>
            cases r' with
            | str sb _ e' =>
              have hc := Any.strings_Compare Tryz.compareA sa sb w
              refine Calls.mono hc fun x w' ⟨hx, hw⟩ => ?_
              subst hw
              refine ⟨_, g, hx, .refl g, hR, ?_⟩
              rw [e, e', compareBytes_refl]
              exact .int _ _
    · cases h
  · cases h
theorem contains_one : Lib.contains [111, 110, 101] [46, 46] = false := by decide
theorem contains_two : Lib.contains [107] [0] = false := by decide
theorem contains_ok {args : List TV} {s : St} {v : TV} (h : containsT args = some v) : Sim Tryz.prog 162 args s v s := by
  unfold containsT at h
  split at h
  · rename_i a b
    split at h
    · rename_i hab
      cases h
      have hab' : Lib.contains a b = false ∧ a.length ≤ 3 := by
        rcases hab with ⟨rfl, rfl⟩ | ⟨rfl, rfl⟩
        · exact ⟨contains_one, by decide⟩
        · exact ⟨contains_two, by decide⟩
      refine ⟨⟨_, _, Tryz.func162, rfl⟩, fun g w rargs hR hA => ?_⟩
      cases hA with
      | cons _ _ _ _ r rs =>
        cases rs with
        | cons _ _ _ _ r' rs' =>
          cases rs'
          cases r with
          | str sa _ e =>
            cases r' with
            | str sb _ e' =>
              obtain ⟨h0, _, m, hm⟩ := g.hV
              have hm' : w.cell? ⟨0, 0, none⟩ = some (.int .i64 m) := (hR.below.cell (p := ⟨0, 0, none⟩) (by show 0 < g.base; omega)).trans hm
              have hsz : sa.size ≤ 3 := by
                have h3 : sa.data.toList.length ≤ 3 := by rw [e]; exact hab'.2
                simpa using h3
              have hc := Any.strings_Contains Tryz.containsA sa sb m w (by omega) hm'
              refine Calls.mono hc fun x w' ⟨hx, hw⟩ => ?_
              subst hw
              refine ⟨_, g, hx, .refl g, hR, ?_⟩
              rw [e, e', hab'.1]
              exact .bool _
    · cases h
  · cases h
theorem given_ok : GivenOk Tryz.prog givenM := by
  intro f args s v s' h
  unfold givenM at h
  split at h
  · rename_i e; subst e; obtain ⟨h1, rfl⟩ := withS_some h; exact block_ok h1
  · split at h
    · rename_i e; subst e; obtain ⟨h1, rfl⟩ := withS_some h; exact digits_ok h1
    · split at h
      · rename_i e; subst e; obtain ⟨h1, rfl⟩ := withS_some h; exact compare_ok h1
      · split at h
        · rename_i e; subst e; obtain ⟨h1, rfl⟩ := withS_some h; exact contains_ok h1
        · cases h
theorem awake_pure : Pure Tryz.prog 10 [] (.bool true) := by
  obtain ⟨s', h⟩ := says_true awake_run
  exact Pure.of (runG_ok follows' named' given_ok h) rfl rfl rfl
theorem givenL_ok : GivenOk Tryz.prog givenL := by
  intro f args s v s' h
  unfold givenL at h
  split at h
  · rename_i e
    subst e
    split at h
    · cases h
      exact awake_pure s
    · cases h
  · cases h
end Go.Proofs.YtmmofmkencnldaaGreatDoor.TV
