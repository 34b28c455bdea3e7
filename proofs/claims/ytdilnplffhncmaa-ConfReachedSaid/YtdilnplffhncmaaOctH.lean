/-
  OCTET: a number's bytes and what is read of bytes: there and back, in one form alone.
-/
import Derived.Test.YtdilnplffhncmaaOctG
namespace Go.Proofs.Ytdilnplffhncmaa.TV
open Go Go.RowKit
set_option linter.unusedSimpArgs false
set_option linter.unusedVariables false
set_option maxRecDepth 100000

theorem u8_ofNat {n : Nat} (h : n < 256) : (UInt8.ofNat n).toNat = n := by
  simp only [UInt8.toNat_ofNat']
  omega
theorem num_pos (n : Nat) : 0 < (num n).length := by
  by_cases h : n < 128
  · rw [num_small h]; simp
  · rw [num_big h]; simp
theorem rdN_num : ∀ (k : Nat) (rest : List UInt8) (i pos acc : Nat), i ≤ 9 → (i = 0 ∨ 0 < k) → acc + k * 128 ^ i < 18446744073709551616 → rdN (num k ++ rest) i pos acc = (acc + k * 128 ^ i, pos + (num k).length, 0) := by
  intro k
  induction k using Nat.strongRecOn with
  | _ k ih =>
    intro rest i pos acc hi hk hb
    by_cases h : k < 128
    · rw [num_small h, List.cons_append, List.nil_append, rdN, u8_ofNat (by omega)]
      have hC : ¬ ((i = 9 ∧ 1 < k) ∨ (0 < i ∧ k = 0)) := by
        intro hC
        rcases hC with ⟨h1, h2⟩ | ⟨h1, h2⟩
        · subst h1
          have : 2 * 128 ^ 9 ≤ k * 128 ^ 9 := Nat.mul_le_mul_right _ (by omega)
          omega
        · omega
      rw [if_neg hC, if_pos h, Nat.mod_eq_of_lt h]
      rfl
    · have hi9 : i ≠ 9 := fun h9 => by
        subst h9
        have : 128 * 128 ^ 9 ≤ k * 128 ^ 9 := Nat.mul_le_mul_right _ (by omega)
        omega
      rw [num_big h, List.cons_append, rdN, u8_ofNat (by omega)]
      rw [if_neg (by omega), if_neg (by omega)]
      have hm : (k % 128 + 128) % 128 = k % 128 := by omega
      rw [hm]
      have hk : acc + k % 128 * 128 ^ i + k / 128 * 128 ^ (i + 1) = acc + k * 128 ^ i := by
        have h1 : k = k % 128 + 128 * (k / 128) := by omega
        have h2 : k * 128 ^ i = k % 128 * 128 ^ i + k / 128 * 128 ^ (i + 1) := by
          conv => lhs; rw [h1]
          rw [Nat.add_mul, Nat.pow_succ, Nat.mul_comm 128 (k / 128), Nat.mul_assoc, Nat.mul_comm 128 (128 ^ i)]
        omega
      rw [ih (k / 128) (by omega) rest (i + 1) (pos + 1) _ (by omega) (Or.inr (by omega)) (by omega), hk, List.length_cons]
      have : pos + 1 + (num (k / 128)).length = pos + ((num (k / 128)).length + 1) := by omega
      rw [this]
theorem rdN_inv : ∀ (l : List UInt8) (i pos acc n p : Nat), i ≤ 9 → rdN l i pos acc = (n, p, 0) → ∃ k, (i = 0 ∨ 0 < k) ∧ n = acc + k * 128 ^ i ∧ p = pos + (num k).length ∧ l = num k ++ l.drop (num k).length
  | [], i, pos, acc, n, p, _, h => by simp [rdN] at h
  | b :: l, i, pos, acc, n, p, hi, h => by
    rw [rdN] at h
    have hb := b.toNat_lt
    have hbb : UInt8.ofNat b.toNat = b := by simp
    split at h
    · simp at h
    · rename_i hC
      split at h
      · rename_i h128
        simp only [Prod.mk.injEq, and_true] at h
        have hm : b.toNat % 128 = b.toNat := Nat.mod_eq_of_lt h128
        refine ⟨b.toNat, by omega, by rw [← hm]; exact h.1.symm, ?_, ?_⟩
        · rw [num_small h128]; exact h.2.symm
        · rw [num_small h128, hbb]; rfl
      · rename_i h128
        have hi9 : i ≠ 9 := by omega
        obtain ⟨k, h1, h2, h3, h4⟩ := rdN_inv l (i + 1) (pos + 1) _ n p (by omega) h
        have hk0 : 0 < k := by omega
        have hn : num (b.toNat % 128 + 128 * k) = b :: num k := by
          rw [num_big (by omega)]
          have e1 : (b.toNat % 128 + 128 * k) % 128 + 128 = b.toNat := by omega
          have e2 : (b.toNat % 128 + 128 * k) / 128 = k := by omega
          rw [e1, e2, hbb]
        refine ⟨b.toNat % 128 + 128 * k, Or.inr (by omega), ?_, ?_, ?_⟩
        · rw [h2, Nat.add_mul, Nat.pow_succ, Nat.mul_comm 128 k, Nat.mul_assoc, Nat.mul_comm 128 (128 ^ i)]
          omega
        · rw [hn, List.length_cons, h3]; omega
        · rw [hn, List.length_cons, List.drop_succ_cons, List.cons_append, ← h4]
theorem rdAt_num {S rest : List UInt8} {a n : Nat} (h : S.drop a = num n ++ rest) (hn : n < 18446744073709551616) : rdAt S a = (n, a + (num n).length, 0) := by
  have hp := num_pos n
  have hl : (S.drop a).length = (num n).length + rest.length := by rw [h, List.length_append]
  rw [List.length_drop] at hl
  unfold rdAt
  rw [if_neg (by omega)]
  simp only [Int.toNat_natCast]
  rw [h, rdN_num n rest 0 a 0 (by omega) (Or.inl rfl) (by omega)]
  simp
theorem rdAt_inv {S : List UInt8} {a n k : Nat} (h : rdAt S a = (n, k, 0)) : k = a + (num n).length ∧ S.drop a = num n ++ S.drop k ∧ k ≤ S.length ∧ n < 18446744073709551616 := by
  have hlt := rdAt_lt S a
  rw [h] at hlt
  unfold rdAt at h
  split at h
  · simp at h
  · rename_i hs
    simp only [Int.toNat_natCast] at h
    obtain ⟨m, _, h2, h3, h4⟩ := rdN_inv _ _ _ _ _ _ (by omega) h
    have : n = m := by simpa using h2
    subst this
    refine ⟨h3, ?_, hlt.2.1, hlt.1⟩
    rw [h3, ← List.drop_drop]
    exact h4
/-- A number that may be is read. -/
theorem rdNum_num {S rest : List UInt8} {a n most : Nat} (h : S.drop a = num n ++ rest) (hn : n ≤ most) (hm : most < 18446744073709551616) : rdNum S (a, 0) most = ((a + (num n).length, 0), n) := by
  unfold rdNum
  rw [if_neg (by simp)]
  simp only
  rw [rdAt_num h (by omega)]
  simp only
  rw [if_neg (by simp), if_neg (by omega)]
/-- A number that was read stands there. -/
theorem rdNum_inv {S : List UInt8} {r : Nat × Nat} {most : Nat} (h : (rdNum S r most).1.2 = 0) :
    r.2 = 0 ∧ (rdNum S r most).1.1 = r.1 + (num (rdNum S r most).2).length ∧ S.drop r.1 = num (rdNum S r most).2 ++ S.drop (rdNum S r most).1.1 ∧ (rdNum S r most).2 ≤ most := by
  have hle := rdNum_le S r most
  revert h hle
  unfold rdNum
  split
  · intro h; simp only at h; contradiction
  · rename_i h0
    simp only
    rcases hx : rdAt S r.1 with ⟨n, k, e⟩
    simp only
    split
    · intro h; simp only at h; contradiction
    · rename_i he
      split
      · intro h; simp at h
      · intro _ hle
        have he0 : e = 0 := by omega
        subst he0
        obtain ⟨h1, h2, _, _⟩ := rdAt_inv hx
        exact ⟨by omega, h1, h2, hle⟩
end Go.Proofs.Ytdilnplffhncmaa.TV
