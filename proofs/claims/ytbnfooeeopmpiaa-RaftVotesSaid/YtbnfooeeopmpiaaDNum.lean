/-
  Numbers and texts as bytes: in plain words.
-/
import Derived.Test.YtbnfooeeopmpiaaDXp
namespace Go.Proofs.Ytbnfooeeopmpiaa.TV
open Go Go.RowKit
set_option linter.unusedSimpArgs false
set_option linter.unusedVariables false
set_option maxRecDepth 100000

/-- A number's bytes, seven bits each, the lowest first. -/
def num (n : Nat) : List UInt8 := if h : n < 128 then [UInt8.ofNat n] else UInt8.ofNat (n % 128 + 128) :: num (n / 128)
termination_by n
decreasing_by omega
theorem num_small {n : Nat} (h : n < 128) : num n = [UInt8.ofNat n] := by rw [num, dif_pos h]
theorem num_big {n : Nat} (h : ¬ n < 128) : num n = UInt8.ofNat (n % 128 + 128) :: num (n / 128) := by rw [num, dif_neg h]
theorem or_byte : ∀ m : Nat, m < 256 → IntKind.u8.wrap ((BitVec.ofInt IntKind.u8.bits (m : Int) ||| BitVec.ofInt IntKind.u8.bits 128).toNat) = ((m % 128 + 128 : Nat) : Int) := by decide +kernel
theorem wrap_u8 (n : Nat) : IntKind.u8.wrap (n : Int) = ((n % 256 : Nat) : Int) := by
  unfold IntKind.wrap
  simp [IntKind.min, IntKind.max, IntKind.bits, IntKind.signed]
theorem num_len : ∀ (k n : Nat), n < 128 ^ (k + 1) → (num n).length ≤ k + 1
  | k, n, h => by
    by_cases hn : n < 128
    · rw [num_small hn]; simp
    · rw [num_big hn]
      cases k with
      | zero => simp at h; omega
      | succ k =>
        have := num_len k (n / 128) (by rw [Nat.pow_succ] at h; exact Nat.div_lt_of_lt_mul (by rw [Nat.mul_comm]; exact h))
        simp; omega
theorem num_len10 {n : Nat} (h : n < 18446744073709551616) : (num n).length ≤ 10 := num_len 9 n (by omega)
theorem wrap_u64 {n : Nat} (h : n < 18446744073709551616) : IntKind.u64.wrap (n : Int) = (n : Int) := by
  unfold IntKind.wrap
  simp [IntKind.min, IntKind.max, IntKind.bits, IntKind.signed]
  omega
theorem rem128 (n : Nat) : Int.tmod (n : Int) 128 = ((n % 128 : Nat) : Int) := by
  rw [Int.tmod_eq_emod_of_nonneg (by omega)]
  omega
theorem quo128 (n : Nat) : Int.tdiv (n : Int) 128 = ((n / 128 : Nat) : Int) := by
  rw [Int.tdiv_eq_ediv_of_nonneg (by omega)]
  omega
/-- A number out of bytes: the i-th of its bytes is next, at place pos; what was read makes acc. Value, next place, error. -/
def rdN : List UInt8 → Nat → Nat → Nat → Nat × Nat × Nat
  | [], _, _, _ => (0, 0, 5)
  | b :: l, i, pos, acc =>
    if (i = 9 ∧ 1 < b.toNat) ∨ (0 < i ∧ b.toNat = 0) then (0, 0, 3) else
    if b.toNat < 128 then (acc + b.toNat % 128 * 128 ^ i, pos + 1, 0) else rdN l (i + 1) (pos + 1) (acc + b.toNat % 128 * 128 ^ i)
def rdAt (s : List UInt8) (a : Int) : Nat × Nat × Nat := if a < 0 ∨ (s.length : Int) < a then (0, 0, 1) else rdN (s.drop a.toNat) 0 a.toNat 0
theorem and_byte : ∀ m : Nat, m < 256 → IntKind.u8.wrap ((BitVec.ofInt IntKind.u8.bits (m : Int) &&& BitVec.ofInt IntKind.u8.bits 127).toNat) = ((m % 128 : Nat) : Int) := by decide +kernel
theorem pow128 (i : Nat) : 128 ^ i = 2 ^ (7 * i) := by rw [Nat.pow_mul]
/-- A number is taken. -/
def rdNum (S : List UInt8) (r : Nat × Nat) (most : Nat) : (Nat × Nat) × Nat :=
  if r.2 ≠ 0 then (r, 0) else
  let x := rdAt S r.1
  if x.2.2 ≠ 0 then ((r.1, x.2.2), 0) else if most < x.1 then ((r.1, 2), 0) else ((x.2.1, 0), x.1)
/-- The end. -/
def rdEnd (S : List UInt8) (r : Nat × Nat) : Nat × Nat := if r.2 = 0 ∧ r.1 < S.length then (r.1, 2) else r
theorem rdN_lt : ∀ (l : List UInt8) (i pos acc : Nat), i ≤ 9 → acc < 128 ^ i → (rdN l i pos acc).1 < 18446744073709551616 ∧ (rdN l i pos acc).2.1 ≤ pos + l.length ∧ (rdN l i pos acc).2.2 ≤ 5
  | [], i, pos, acc, _, _ => by simp [rdN]
  | b :: l, i, pos, acc, hi, ha => by
    rw [rdN]
    split
    · simp
    · rename_i hC
      have h128 : b.toNat % 128 < 128 := Nat.mod_lt _ (by omega)
      have hb := b.toNat_lt
      have hlt : acc + b.toNat % 128 * 128 ^ i < 128 ^ (i + 1) := by
        have h8 : b.toNat % 128 * 128 ^ i ≤ 127 * 128 ^ i := Nat.mul_le_mul_right _ (by omega)
        rw [Nat.pow_succ]
        omega
      split
      · refine ⟨?_, by simp only [List.length_cons]; omega, by simp⟩
        simp only
        by_cases h9 : i = 9
        · subst h9
          have h1 : b.toNat ≤ 1 := by omega
          have h2 : b.toNat % 128 * 128 ^ 9 ≤ 1 * 128 ^ 9 := Nat.mul_le_mul_right _ (by omega)
          omega
        · have h6 : 128 ^ (i + 1) ≤ 128 ^ 9 := Nat.pow_le_pow_right (by omega) (by omega)
          omega
      · rename_i hb'
        have h9 : i ≠ 9 := fun h => by omega
        have := rdN_lt l (i + 1) (pos + 1) _ (by omega) hlt
        simp only [List.length_cons]
        omega
theorem rdAt_lt (S : List UInt8) (a : Nat) : (rdAt S a).1 < 18446744073709551616 ∧ (rdAt S a).2.1 ≤ S.length ∧ (rdAt S a).2.2 ≤ 5 := by
  unfold rdAt
  split
  · simp
  · rename_i h
    have := rdN_lt (S.drop a) 0 a 0 (by omega) (by decide)
    rw [List.length_drop] at this
    simp only [Int.toNat_natCast]
    omega

-- RULES
theorem rdNum_le (S : List UInt8) (r : Nat × Nat) (most : Nat) : (rdNum S r most).2 ≤ most := by
  unfold rdNum
  split
  · simp
  · simp only
    split
    · simp
    · split
      · simp
      · simp only; omega
theorem rdNum_at (S : List UInt8) (r : Nat × Nat) (most : Nat) (h : r.1 ≤ S.length) (h' : r.2 ≤ 5) : (rdNum S r most).1.1 ≤ S.length ∧ (rdNum S r most).1.2 ≤ 5 := by
  unfold rdNum
  have := rdAt_lt S r.1
  split
  · exact ⟨h, h'⟩
  · simp only
    split
    · simp only; omega
    · split
      · simp only; omega
      · simp only; omega
theorem u8_ofNat {n : Nat} (h : n < 256) : (UInt8.ofNat n).toNat = n := by
  simp only [UInt8.toNat_ofNat']
  omega
theorem num_pos (n : Nat) : 0 < (num n).length := by
  by_cases h : n < 128
  · rw [num_small h]; simp
  · rw [num_big h]; simp
theorem rdN_num : ∀ (k : Nat) (rest : List UInt8) (i pos acc : Nat), i ≤ 9 → (i = 0 ∨ 0 < k) → acc + k * 128 ^ i < 18446744073709551616 → rdN (num k ++ rest) i pos acc = (acc + k * 128 ^ i, pos + (num k).length, 0) := by
  intro k
  induction k using Nat.strongRecOn with
  | _ k ih =>
    intro rest i pos acc hi hk hb
    by_cases h : k < 128
    · rw [num_small h, List.cons_append, List.nil_append, rdN, u8_ofNat (by omega)]
      have hC : ¬ ((i = 9 ∧ 1 < k) ∨ (0 < i ∧ k = 0)) := by
        intro hC
        rcases hC with ⟨h1, h2⟩ | ⟨h1, h2⟩
        · subst h1
          have : 2 * 128 ^ 9 ≤ k * 128 ^ 9 := Nat.mul_le_mul_right _ (by omega)
          omega
        · omega
      rw [if_neg hC, if_pos h, Nat.mod_eq_of_lt h]
      rfl
    · have hi9 : i ≠ 9 := fun h9 => by
        subst h9
        have : 128 * 128 ^ 9 ≤ k * 128 ^ 9 := Nat.mul_le_mul_right _ (by omega)
        omega
      rw [num_big h, List.cons_append, rdN, u8_ofNat (by omega)]
      rw [if_neg (by omega), if_neg (by omega)]
      have hm : (k % 128 + 128) % 128 = k % 128 := by omega
      rw [hm]
      have hk : acc + k % 128 * 128 ^ i + k / 128 * 128 ^ (i + 1) = acc + k * 128 ^ i := by
        have h1 : k = k % 128 + 128 * (k / 128) := by omega
        have h2 : k * 128 ^ i = k % 128 * 128 ^ i + k / 128 * 128 ^ (i + 1) := by
          conv => lhs; rw [h1]
          rw [Nat.add_mul, Nat.pow_succ, Nat.mul_comm 128 (k / 128), Nat.mul_assoc, Nat.mul_comm 128 (128 ^ i)]
        omega
      rw [ih (k / 128) (by omega) rest (i + 1) (pos + 1) _ (by omega) (Or.inr (by omega)) (by omega), hk, List.length_cons]
      have : pos + 1 + (num (k / 128)).length = pos + ((num (k / 128)).length + 1) := by omega
      rw [this]
theorem rdN_inv : ∀ (l : List UInt8) (i pos acc n p : Nat), i ≤ 9 → rdN l i pos acc = (n, p, 0) → ∃ k, (i = 0 ∨ 0 < k) ∧ n = acc + k * 128 ^ i ∧ p = pos + (num k).length ∧ l = num k ++ l.drop (num k).length
  | [], i, pos, acc, n, p, _, h => by simp [rdN] at h
  | b :: l, i, pos, acc, n, p, hi, h => by
    rw [rdN] at h
    have hb := b.toNat_lt
    have hbb : UInt8.ofNat b.toNat = b := by simp
    split at h
    · simp at h
    · rename_i hC
      split at h
      · rename_i h128
        simp only [Prod.mk.injEq, and_true] at h
        have hm : b.toNat % 128 = b.toNat := Nat.mod_eq_of_lt h128
        refine ⟨b.toNat, by omega, by rw [← hm]; exact h.1.symm, ?_, ?_⟩
        · rw [num_small h128]; exact h.2.symm
        · rw [num_small h128, hbb]; rfl
      · rename_i h128
        have hi9 : i ≠ 9 := by omega
        obtain ⟨k, h1, h2, h3, h4⟩ := rdN_inv l (i + 1) (pos + 1) _ n p (by omega) h
        have hk0 : 0 < k := by omega
        have hn : num (b.toNat % 128 + 128 * k) = b :: num k := by
          rw [num_big (by omega)]
          have e1 : (b.toNat % 128 + 128 * k) % 128 + 128 = b.toNat := by omega
          have e2 : (b.toNat % 128 + 128 * k) / 128 = k := by omega
          rw [e1, e2, hbb]
        refine ⟨b.toNat % 128 + 128 * k, Or.inr (by omega), ?_, ?_, ?_⟩
        · rw [h2, Nat.add_mul, Nat.pow_succ, Nat.mul_comm 128 k, Nat.mul_assoc, Nat.mul_comm 128 (128 ^ i)]
          omega
        · rw [hn, List.length_cons, h3]; omega
        · rw [hn, List.length_cons, List.drop_succ_cons, List.cons_append, ← h4]
theorem rdAt_num {S rest : List UInt8} {a n : Nat} (h : S.drop a = num n ++ rest) (hn : n < 18446744073709551616) : rdAt S a = (n, a + (num n).length, 0) := by
  have hp := num_pos n
  have hl : (S.drop a).length = (num n).length + rest.length := by rw [h, List.length_append]
  rw [List.length_drop] at hl
  unfold rdAt
  rw [if_neg (by omega)]
  simp only [Int.toNat_natCast]
  rw [h, rdN_num n rest 0 a 0 (by omega) (Or.inl rfl) (by omega)]
  simp
theorem rdAt_inv {S : List UInt8} {a n k : Nat} (h : rdAt S a = (n, k, 0)) : k = a + (num n).length ∧ S.drop a = num n ++ S.drop k ∧ k ≤ S.length ∧ n < 18446744073709551616 := by
  have hlt := rdAt_lt S a
  rw [h] at hlt
  unfold rdAt at h
  split at h
  · simp at h
  · rename_i hs
    simp only [Int.toNat_natCast] at h
    obtain ⟨m, _, h2, h3, h4⟩ := rdN_inv _ _ _ _ _ _ (by omega) h
    have : n = m := by simpa using h2
    subst this
    refine ⟨h3, ?_, hlt.2.1, hlt.1⟩
    rw [h3, ← List.drop_drop]
    exact h4
/-- A number that may be is read. -/
theorem rdNum_num {S rest : List UInt8} {a n most : Nat} (h : S.drop a = num n ++ rest) (hn : n ≤ most) (hm : most < 18446744073709551616) : rdNum S (a, 0) most = ((a + (num n).length, 0), n) := by
  unfold rdNum
  rw [if_neg (by simp)]
  simp only
  rw [rdAt_num h (by omega)]
  simp only
  rw [if_neg (by simp), if_neg (by omega)]
/-- A number that was read stands there. -/
theorem rdNum_inv {S : List UInt8} {r : Nat × Nat} {most : Nat} (h : (rdNum S r most).1.2 = 0) :
    r.2 = 0 ∧ (rdNum S r most).1.1 = r.1 + (num (rdNum S r most).2).length ∧ S.drop r.1 = num (rdNum S r most).2 ++ S.drop (rdNum S r most).1.1 ∧ (rdNum S r most).2 ≤ most := by
  have hle := rdNum_le S r most
  revert h hle
  unfold rdNum
  split
  · intro h; simp only at h; contradiction
  · rename_i h0
    simp only
    rcases hx : rdAt S r.1 with ⟨n, k, e⟩
    simp only
    split
    · intro h; simp only at h; contradiction
    · rename_i he
      split
      · intro h; simp at h
      · intro _ hle
        have he0 : e = 0 := by omega
        subst he0
        obtain ⟨h1, h2, _, _⟩ := rdAt_inv hx
        exact ⟨by omega, h1, h2, hle⟩
/-- A text's bytes. -/
def txt (l : List UInt8) : List UInt8 := num l.length ++ l
/-- A text that stands at a place. -/
def rdT (S : List UInt8) (a : Nat) : List UInt8 × Nat × Nat :=
  let x := rdAt S a
  if x.2.2 ≠ 0 then ([], 0, x.2.2) else if S.length - x.2.1 < x.1 then ([], 0, 5) else ((S.take (x.2.1 + x.1)).drop x.2.1, x.2.1 + x.1, 0)
/-- A text is taken. -/
def rdTxt (S : List UInt8) (r : Nat × Nat) (most : Nat) : (Nat × Nat) × List UInt8 :=
  if r.2 ≠ 0 then (r, []) else
  let x := rdT S r.1
  if x.2.2 ≠ 0 then ((r.1, x.2.2), []) else if most < x.1.length then ((r.1, 2), []) else ((x.2.1, 0), x.1)
/-- Yes or no is taken. -/
def rdBool (S : List UInt8) (r : Nat × Nat) : (Nat × Nat) × Bool :=
  if r.2 ≠ 0 then (r, false) else (((rdNum S r 1).1.1, if (rdNum S r 1).1.2 = 2 then 3 else (rdNum S r 1).1.2), (rdNum S r 1).2 == 1)
theorem rdT_len {S : List UInt8} {a : Nat} : (rdT S a).1.length ≤ S.length := by
  unfold rdT
  simp only
  split
  · simp
  · split
    · simp
    · simp; omega
theorem rdT_at {S : List UInt8} {a : Nat} : (rdT S a).2.1 ≤ S.length ∧ (rdT S a).2.2 ≤ 5 := by
  have := rdAt_lt S a
  unfold rdT
  simp only
  split
  · simp only; omega
  · split
    · simp
    · simp only; omega
theorem rdTxt_at (S : List UInt8) (r : Nat × Nat) (most : Nat) (h : r.1 ≤ S.length) : (rdTxt S r most).1.1 ≤ S.length := by
  unfold rdTxt
  have := rdT_at (S := S) (a := r.1)
  split
  · exact h
  · simp only
    split
    · exact h
    · split
      · exact h
      · exact this.1
theorem rdTxt_len (S : List UInt8) (r : Nat × Nat) (most : Nat) : (rdTxt S r most).2.length ≤ S.length := by
  unfold rdTxt
  split
  · simp
  · simp only
    split
    · simp
    · split
      · simp
      · exact rdT_len
theorem rdNum1 (S : List UInt8) (r : Nat × Nat) : (((rdNum S r 1).2 : Int) == 1) = ((rdNum S r 1).2 == 1) := by
  rw [Bool.eq_iff_iff]; simp; omega

-- RULES
-- RULES2
end Go.Proofs.Ytbnfooeeopmpiaa.TV
