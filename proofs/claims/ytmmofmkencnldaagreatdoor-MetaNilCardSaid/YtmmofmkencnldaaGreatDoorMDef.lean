/-
  META: what is given to the evaluator: sums of blocks, a text of zeros, comparisons of texts.
-/
import Derived.Test.YtmmofmkencnldaaGreatDoorMRot
namespace Go.Proofs.YtmmofmkencnldaaGreatDoor.TV
open Go Go.RowKit
set_option linter.unusedVariables false

/-- Numbers of a kind. -/
def intsOf (k : IntKind) : List TV → Option (List Int)
  | [] => some []
  | .int k' n :: l => if k' = k then (match intsOf k l with
    | some r => some (n :: r)
    | none => none) else none
  | _ => none
theorem intsOf_eq {k : IntKind} : ∀ {l : List TV} {r : List Int}, intsOf k l = some r → l = r.map (.int k)
  | [], r, h => by
    unfold intsOf at h
    cases h
    rfl
  | x :: l, r, h => by
    unfold intsOf at h
    split at h
    · rename_i e; cases e
    · rename_i k' n l' e
      cases e
      split at h
      · rename_i hk
        subst hk
        split at h
        · rename_i r' hr
          cases h
          rw [intsOf_eq hr]
          rfl
        · cases h
      · cases h
    · cases h
/-- A digest's sum so far, a block, the sum behind it. -/
def blk0 : List Int × List Int × List Int := ([1779033703, 3144134277, 1013904242, 2773480762, 1359893119, 2600822924, 528734635, 1541459225], [67, 0, 0, 0, 0, 0, 0, 0, 6, 1, 0, 3, 111, 110, 101, 128, 0, 0, 0, 0, 0, 0, 0, 0, 0, 0, 0, 0, 0, 0, 0, 0, 0, 0, 0, 0, 0, 0, 0, 0, 0, 0, 0, 0, 0, 0, 0, 0, 0, 0, 0, 0, 0, 0, 0, 0, 0, 0, 0, 0, 0, 0, 0, 120], [3436136405, 1845149106, 3738034780, 1784132729, 2973071889, 3686193836, 2230098445, 2492435805])
def blk1 : List Int × List Int × List Int := ([1779033703, 3144134277, 1013904242, 2773480762, 1359893119, 2600822924, 528734635, 1541459225], [67, 0, 0, 0, 0, 0, 0, 0, 140, 3, 0, 3, 111, 110, 101, 1, 107, 64, 48, 48, 48, 48, 48, 48, 48, 48, 48, 48, 48, 48, 48, 48, 48, 48, 48, 48, 48, 48, 48, 48, 48, 48, 48, 48, 48, 48, 48, 48, 48, 48, 48, 48, 48, 48, 48, 48, 48, 48, 48, 48, 48, 48, 48, 48], [3728039220, 2857631566, 1827744288, 565868234, 2480272332, 779050922, 695647143, 2159370767])
def blk2 : List Int × List Int × List Int := ([3728039220, 2857631566, 1827744288, 565868234, 2480272332, 779050922, 695647143, 2159370767], [48, 48, 48, 48, 48, 48, 48, 48, 48, 48, 48, 48, 48, 48, 48, 48, 48, 48, 1, 64, 48, 48, 48, 48, 48, 48, 48, 48, 48, 48, 48, 48, 48, 48, 48, 48, 48, 48, 48, 48, 48, 48, 48, 48, 48, 48, 48, 48, 48, 48, 48, 48, 48, 48, 48, 48, 48, 48, 48, 48, 48, 48, 48, 48], [79947331, 1549102395, 1739171350, 1311565964, 2935990610, 2382220702, 2245250620, 3132835168])
def blk3 : List Int × List Int × List Int := ([79947331, 1549102395, 1739171350, 1311565964, 2935990610, 2382220702, 2245250620, 3132835168], [48, 48, 48, 48, 48, 48, 48, 48, 48, 48, 48, 48, 48, 48, 48, 48, 48, 48, 48, 48, 7, 128, 0, 0, 0, 0, 0, 0, 0, 0, 0, 0, 0, 0, 0, 0, 0, 0, 0, 0, 0, 0, 0, 0, 0, 0, 0, 0, 0, 0, 0, 0, 0, 0, 0, 0, 0, 0, 0, 0, 0, 0, 4, 168], [3876628049, 1818073373, 607040223, 3900819652, 3942116717, 2025006084, 4651945, 1197660280])
def blk4 : List Int × List Int × List Int := ([1779033703, 3144134277, 1013904242, 2773480762, 1359893119, 2600822924, 528734635, 1541459225], [67, 0, 0, 0, 0, 0, 0, 0, 8, 4, 0, 3, 111, 110, 101, 1, 107, 128, 0, 0, 0, 0, 0, 0, 0, 0, 0, 0, 0, 0, 0, 0, 0, 0, 0, 0, 0, 0, 0, 0, 0, 0, 0, 0, 0, 0, 0, 0, 0, 0, 0, 0, 0, 0, 0, 0, 0, 0, 0, 0, 0, 0, 0, 136], [1994931230, 3852928496, 1931416298, 2085183335, 1460905846, 2860623247, 1242854159, 1522885570])
def blk5 : List Int × List Int × List Int := ([1779033703, 3144134277, 1013904242, 2773480762, 1359893119, 2600822924, 528734635, 1541459225], [67, 0, 0, 0, 0, 0, 0, 0, 6, 2, 0, 3, 111, 110, 101, 128, 0, 0, 0, 0, 0, 0, 0, 0, 0, 0, 0, 0, 0, 0, 0, 0, 0, 0, 0, 0, 0, 0, 0, 0, 0, 0, 0, 0, 0, 0, 0, 0, 0, 0, 0, 0, 0, 0, 0, 0, 0, 0, 0, 0, 0, 0, 0, 120], [533812601, 1139500963, 1876669452, 1431702021, 1712663563, 1261381941, 730301155, 505304900])
def blocks : List (List Int × List Int × List Int) := [blk0, blk1, blk2, blk3, blk4, blk5]
def blockOf (a b : List Int) : List (List Int × List Int × List Int) → Option (List Int)
  | [] => none
  | e :: t => if e.1 = a ∧ e.2.1 = b then some e.2.2 else blockOf a b t
def blockT : List TV → Option TV
  | [.agg st, .slice false es _] => match intsOf .u32 st, intsOf .u8 es with
    | some a, some b => (match blockOf a b blocks with
      | some c => some (.agg (c.map (.int .u32)))
      | none => none)
    | _, _ => none
  | _ => none
def z64 : List UInt8 := [48, 48, 48, 48, 48, 48, 48, 48, 48, 48, 48, 48, 48, 48, 48, 48, 48, 48, 48, 48, 48, 48, 48, 48, 48, 48, 48, 48, 48, 48, 48, 48, 48, 48, 48, 48, 48, 48, 48, 48, 48, 48, 48, 48, 48, 48, 48, 48, 48, 48, 48, 48, 48, 48, 48, 48, 48, 48, 48, 48, 48, 48, 48, 48]
def digitsT : List TV → Option TV
  | [.str l] => if l = z64 then some (.bool true) else none
  | _ => none
def compareT : List TV → Option TV
  | [.str a, .str b] => if a = b then some (.int .i64 0) else none
  | _ => none
def containsT : List TV → Option TV
  | [.str a, .str b] => if (a = [111, 110, 101] ∧ b = [46, 46]) ∨ (a = [107] ∧ b = [0]) then some (.bool false) else none
  | _ => none
def withS (s : St) : Option TV → Option (TV × St)
  | some v => some (v, s)
  | none => none
def givenM : GivenT := fun f args s =>
  if f = 164 then withS s (blockT args)
  else if f = 146 then withS s (digitsT args)
  else if f = 63 then withS s (compareT args)
  else if f = 162 then withS s (containsT args)
  else none
def givenL : GivenT := fun f args s => if f = 10 then (match args with
    | [] => some (.bool true, s)
    | _ => none) else none
def saysTrue : Option (TV × St) → Bool
  | some (.bool true, _) => true
  | _ => false
theorem says_true {x : Option (TV × St)} (h : saysTrue x = true) : ∃ s', x = some (.bool true, s') := by
  unfold saysTrue at h
  split at h
  · exact ⟨_, rfl⟩
  · cases h
def saysInts (c : List Int) : Option (TV × St) → Bool
  | some (.agg cs, _) => match intsOf .u32 cs with
    | some r => decide (r = c)
    | none => false
  | _ => false
theorem says_ints {c : List Int} {x : Option (TV × St)} (h : saysInts c x = true) : ∃ s', x = some (.agg (c.map (.int .u32)), s') := by
  unfold saysInts at h
  split at h
  · split at h
    · rename_i hr
      have e := of_decide_eq_true h
      subst e
      rw [intsOf_eq hr]
      exact ⟨_, rfl⟩
    · cases h
  · cases h
def argsOf (e : List Int × List Int × List Int) : List TV := [.agg (e.1.map (.int .u32)), .slice false (e.2.1.map (.int .u8)) .unk]
def rotT : List TV → Option TV
  | [.int .u32 x, .int .i64 k] => some (.int .u32 (rotV x k))
  | _ => none
def givenR : GivenT := fun f args s => if f = 195 then withS s (rotT args) else none
theorem withS_some {s s' : St} {v : TV} {o : Option TV} (h : withS s o = some (v, s')) : o = some v ∧ s' = s := by
  cases o with
  | none => cases h
  | some x => cases h; exact ⟨rfl, rfl⟩
theorem givenR_ok : GivenOk Tryz.prog givenR := by
  intro f args s v s' h
  unfold givenR at h
  split at h
  · rename_i e
    subst e
    obtain ⟨h1, rfl⟩ := withS_some h
    unfold rotT at h1
    split at h1
    · cases h1
      exact rot_ok _ _ _
    · cases h1
  · cases h
/-- The block is summed up so. -/
def Sums (e : List Int × List Int × List Int) : Prop := saysInts e.2.2 (runG Tryz.prog givenR 1000 164 (argsOf e) .none) = true
end Go.Proofs.YtmmofmkencnldaaGreatDoor.TV
