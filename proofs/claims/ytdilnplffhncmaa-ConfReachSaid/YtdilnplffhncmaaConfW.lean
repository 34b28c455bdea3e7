/-
  CONF: from each configuration to each other one there is a way: the statement ConfReach on plain data.
-/
import Derived.Test.YtdilnplffhncmaaConfV
namespace Go.Proofs.Ytdilnplffhncmaa.TV
open Go Go.RowKit
set_option linter.unusedSimpArgs false
set_option linter.unusedVariables false
set_option maxRecDepth 100000

/-- The configuration of the bits of a number. -/
def allL (m : Nat) : List Int := cfL.filter fun n => m.testBit n.toNat
def allV (m : Nat) : TV := if (allL m).isEmpty then intsV true [] .exact else intsV false (allL m) .unk
noncomputable def allCheck (m : Nat) : Bool := match run Try.prog 20 28 [.int .i64 m] St.none with
  | some (v, _) => noObj v && TV.beq (settle v) (allV m)
  | none => false
theorem all_checks : ((List.range 128).all allCheck) = true := by decide +kernel
theorem all_ok (m : Nat) (h : m < 128) : Pure Try.prog 28 [.int .i64 m] (allV m) := by
  have h1 := List.all_eq_true.1 all_checks m (List.mem_range.2 h)
  unfold allCheck at h1
  split at h1
  · rename_i v s' hr
    simp only [Bool.and_eq_true] at h1
    exact .of (run_ok follows named hr) rfl h1.1 (TV.beq_sound _ _ h1.2)
  · cases h1
theorem and127 (a : Int) : ∃ m : Nat, m < 128 ∧ binT Try.prog .and 3 (.int .i64 a) (.int .i64 127) = some (.int .i64 m) := by
  refine ⟨(BitVec.ofInt 64 a &&& BitVec.ofInt 64 127).toNat, ?_, ?_⟩
  · rw [BitVec.toNat_and]
    have : (BitVec.ofInt 64 127).toNat = 127 := by decide
    rw [this]
    exact Nat.lt_succ_of_le Nat.and_le_right
  · have h1 : (BitVec.ofInt 64 a &&& BitVec.ofInt 64 127).toNat < 128 := by
      rw [BitVec.toNat_and]
      have : (BitVec.ofInt 64 127).toNat = 127 := by decide
      rw [this]
      exact Nat.lt_succ_of_le Nat.and_le_right
    have h2 : IntKind.i64.wrap ((BitVec.ofInt IntKind.i64.bits a &&& BitVec.ofInt IntKind.i64.bits 127).toNat : Int) = ((BitVec.ofInt 64 a &&& BitVec.ofInt 64 127).toNat : Int) := wrap_small (by
      have : (BitVec.ofInt IntKind.i64.bits a &&& BitVec.ofInt IntKind.i64.bits 127).toNat < 128 := h1
      omega)
    simp only [binT]
    rw [h2]
    rfl
theorem may_all : ((subs cfL).all fun zs => zs.isEmpty || may zs) = true := by decide +kernel
theorem self_all : ((subs cfL).all fun zs => cfL.filter (fun n => zs.contains n) == zs) = true := by decide +kernel
theorem nmore_all : ((subs cfL).all fun zs => cfL.all fun x => zs.isEmpty || zs.contains x || nearI zs (moreL zs x)) = true := by decide +kernel
theorem nless_all : ((subs cfL).all fun zs => cfL.all fun x => !zs.contains x || zs.length == 1 || nearI (zs.filter fun z => z != x) zs) = true := by decide +kernel
theorem near_self (zs : List Int) : nearI zs zs = false := by
  unfold nearI nearO
  rw [if_neg (by omega)]
  have : (zs.length == zs.length + 1) = false := by simp
  rw [this]
  simp
theorem filter_subs (p : Int → Bool) : cfL.filter p ∈ subs cfL := mem_subs List.filter_sublist
theorem may_filter {p : Int → Bool} (h : cfL.filter p ≠ []) : may (cfL.filter p) = true := by
  have := List.all_eq_true.1 may_all _ (filter_subs p)
  simp only [Bool.or_eq_true, List.isEmpty_iff] at this
  exact this.resolve_left h
theorem contains_filter {p : Int → Bool} {x : Int} (hx : x ∈ cfL) : (cfL.filter p).contains x = p x := by
  rw [Bool.eq_iff_iff]
  simp only [List.contains_iff_mem, List.mem_filter]
  exact ⟨fun h => h.2, fun h => ⟨hx, h⟩⟩
theorem cfL_mem {x : Int} (h : x ∈ cfL) : 0 ≤ x ∧ x < 7 := by
  simp only [cfL, List.mem_cons, List.not_mem_nil, or_false] at h
  omega

/-- On the way up: what is added so far. -/
def up (a b : List Int) (i : Nat) : List Int := cfL.filter fun z => a.contains z || (b.contains z && decide (z < (i : Int)))
/-- On the way down: what is taken away so far. -/
def dn (a b : List Int) (i : Nat) : List Int := cfL.filter fun z => if z < (i : Int) then b.contains z else (a.contains z || b.contains z)
theorem up_zero {a : List Int} (b : List Int) (ha : a ∈ subs cfL) : up a b 0 = a := by
  have h := List.all_eq_true.1 self_all a ha
  have h' : cfL.filter (fun n => a.contains n) = a := by simpa using h
  conv => rhs; rw [← h']
  refine List.filter_congr fun z hz => ?_
  have := cfL_mem hz
  have e : decide (z < ((0 : Nat) : Int)) = false := by simp; omega
  rw [e, Bool.and_false, Bool.or_false]
theorem up_dn (a b : List Int) : dn a b 0 = up a b 7 := by
  refine List.filter_congr fun z hz => ?_
  have := cfL_mem hz
  have e : decide (z < ((7 : Nat) : Int)) = true := by simp; omega
  rw [if_neg (by omega), e, Bool.and_true]
theorem dn_seven {a b : List Int} (hb : b ∈ subs cfL) : dn a b 7 = b := by
  have h := List.all_eq_true.1 self_all b hb
  have h' : cfL.filter (fun n => b.contains n) = b := by simpa using h
  conv => rhs; rw [← h']
  refine List.filter_congr fun z hz => ?_
  have := cfL_mem hz
  rw [if_pos (by omega)]
theorem up_same {a b : List Int} {i : Nat} (h : (b.contains (i : Int) && !a.contains (i : Int)) = false) : up a b (i + 1) = up a b i := by
  refine List.filter_congr fun z hz => ?_
  by_cases hzi : z = (i : Int)
  · subst hzi
    have e1 : decide ((i : Int) < ((i + 1 : Nat) : Int)) = true := by simp; omega
    have e2 : decide ((i : Int) < (i : Int)) = false := by simp
    rw [e1, e2]
    revert h
    cases a.contains (i : Int) <;> cases b.contains (i : Int) <;> simp
  · have e1 : decide (z < ((i + 1 : Nat) : Int)) = decide (z < (i : Int)) := by rw [decide_eq_decide]; omega
    rw [e1]
theorem up_more {a b : List Int} {i : Nat} (h : b.contains (i : Int) = true) : moreL (up a b i) (i : Int) = up a b (i + 1) := by
  refine List.filter_congr fun z hz => ?_
  show (z == (i : Int) || (up a b i).contains z) = _
  rw [show (up a b i).contains z = _ from contains_filter hz]
  by_cases hzi : z = (i : Int)
  · subst hzi
    have e1 : decide ((i : Int) < ((i + 1 : Nat) : Int)) = true := by simp; omega
    rw [e1, h]
    simp
  · have e1 : decide (z < ((i + 1 : Nat) : Int)) = decide (z < (i : Int)) := by rw [decide_eq_decide]; omega
    have e2 : (z == (i : Int)) = false := by simpa using hzi
    rw [e1, e2, Bool.false_or]
theorem dn_same {a b : List Int} {i : Nat} (h : (!b.contains (i : Int) && a.contains (i : Int)) = false) : dn a b (i + 1) = dn a b i := by
  refine List.filter_congr fun z hz => ?_
  by_cases hzi : z = (i : Int)
  · subst hzi
    rw [if_pos (by omega), if_neg (by omega)]
    revert h
    cases a.contains (i : Int) <;> cases b.contains (i : Int) <;> simp
  · by_cases hlt : z < (i : Int)
    · rw [if_pos (by omega), if_pos hlt]
    · rw [if_neg (by omega), if_neg hlt]
theorem dn_less {a b : List Int} {i : Nat} (h : b.contains (i : Int) = false) : (dn a b i).filter (fun z => z != (i : Int)) = dn a b (i + 1) := by
  unfold dn
  rw [List.filter_filter]
  refine List.filter_congr fun z hz => ?_
  by_cases hzi : z = (i : Int)
  · subst hzi
    rw [if_neg (by omega), if_pos (by omega), h]
    simp
  · have e : (z != (i : Int)) = true := by simpa using hzi
    rw [e, Bool.true_and]
    by_cases hlt : z < (i : Int)
    · have h2 : z < ((i + 1 : Nat) : Int) := by omega
      simp only [hlt, h2, if_true]
    · have h2 : ¬ z < ((i + 1 : Nat) : Int) := by omega
      simp only [hlt, h2, if_false]
end Go.Proofs.Ytdilnplffhncmaa.TV
