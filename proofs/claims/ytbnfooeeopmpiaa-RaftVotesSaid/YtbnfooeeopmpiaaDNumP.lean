/-
  Numbers and texts: what is printed of the program's and the document's is what they are in plain words.
-/
import Derived.Test.YtbnfooeeopmpiaaDOct
import Derived.Test.YtbnfooeeopmpiaaDRef01
namespace Go.Proofs.Ytbnfooeeopmpiaa.TV
open Go Go.RowKit
set_option linter.unusedSimpArgs false
set_option linter.unusedVariables false
set_option maxRecDepth 100000

theorem two_inl {β γ δ : Type} (b : β) (f : β → Option δ) (g : γ → Option δ) : two (some (.inl b)) f g = f b := rfl
theorem two_inr {β γ δ : Type} (c : γ) (f : β → Option δ) (g : γ → Option δ) : two (some (.inr c)) f g = g c := rfl
theorem w64 {a : Int} (h : -9223372036854775808 ≤ a ∧ a ≤ 9223372036854775807) : IntKind.wrap .i64 a = a := wrap_small h
theorem wu64 {a : Int} (h : 0 ≤ a ∧ a < 18446744073709551616) : IntKind.wrap .u64 a = a := by
  have := wrap_u64 (n := a.toNat) (by omega)
  rw [show ((a.toNat : Nat) : Int) = a by omega] at this
  exact this
theorem or_byte' {m : Nat} : IntKind.wrap .u8 ((BitVec.toNat (BitVec.ofInt 8 (IntKind.wrap .u8 (m : Int)) ||| BitVec.ofInt 8 128) : Nat) : Int) = ((m % 128 + 128 : Nat) : Int) := by
  rw [wrap_u8]
  have := or_byte (m % 256) (by omega)
  rw [show m % 256 % 128 = m % 128 by omega] at this
  exact this
theorem bytesUV_append (a b : List Int) : bytesUV (a ++ b) = bytesUV a ++ bytesUV b := by simp [bytesUV]

theorem oNumber_loop : ∀ (k n : Nat) (acc : List Int), n < 128 ^ (k + 1) → n < 18446744073709551616 → acc.length + k < 1000000 →
    ∃ (m : Nat) (acc' : List Int), loop oNumber_l0 ((n : Int), (acc, ())) = some (.inl ((m : Int), (acc', ()))) ∧ m < 128 ∧ acc'.length ≤ acc.length + k ∧ bytesUV acc' ++ [UInt8.ofNat m] = bytesUV acc ++ num n
  | k, n, acc, h, h64, hl => by
    by_cases hn : n < 128
    · have h1 : ¬ (128 : Int) ≤ (n : Int) := by omega
      refine ⟨n, acc, ?_, hn, by omega, by rw [num_small hn]⟩
      rw [loop_eq]
      simp only [oNumber_l0, cond_if, if_neg h1]
    · have h1 : (128 : Int) ≤ (n : Int) := by omega
      cases k with
      | zero => simp at h; omega
      | succ k =>
        obtain ⟨m, acc', h2, h3, h4, h5⟩ := oNumber_loop k (n / 128) (acc ++ [((n % 128 + 128 : Nat) : Int)]) (by rw [Nat.pow_succ] at h; exact Nat.div_lt_of_lt_mul (by rw [Nat.mul_comm]; exact h)) (by omega) (by simp; omega)
        refine ⟨m, acc', ?_, h3, by simp at h4; omega, ?_⟩
        · rw [loop_eq]
          have h6 : (List.length acc + List.length [((n % 128 + 128 : Nat) : Int)]) * 1 ≤ 140737488355328 := by simp; omega
          have h7 : Int.fdiv (n : Int) 128 = ((n / 128 : Nat) : Int) := by rw [Int.fdiv_eq_ediv_of_nonneg _ (by decide)]; omega
          simp only [oNumber_l0, cond_if, if_pos h1, or_byte', if_pos h6, h7, h2]
        · have h8 : bytesUV [((n % 128 + 128 : Nat) : Int)] = [UInt8.ofNat (n % 128 + 128)] := rfl
          rw [h5, num_big hn, bytesUV_append, h8, List.append_assoc]
          rfl
theorem oNumber_eq' {n : Nat} (h : n < 18446744073709551616) : oNumber (n : Int) = some (num n, ()) := by
  obtain ⟨m, acc', h1, h2, h3, h4⟩ := oNumber_loop 9 n [] (by omega) h (by simp)
  have h5 : (List.length acc' + List.length [((m % 256 : Nat) : Int)]) * 1 ≤ 140737488355328 := by simp at h3 ⊢; omega
  have h6 : m % 256 = m := by omega
  simp only [oNumber_un, oNumber_b, h1, two_inl, cond_if, wrap_u8, if_pos h5]
  rw [bytesUV_append, h6]
  have : bytesUV [((m : Nat) : Int)] = [UInt8.ofNat m] := rfl
  rw [this, h4]
  rfl
theorem oText_eq' {s : List UInt8} (h : s.length < 4611686018427387904) : oText s = some (txt s, ()) := by
  have hl := num_len10 (n := s.length) (by omega)
  simp only [oText_un, oText_b, wrap_u64 (n := s.length) (by omega), oNumber_eq' (n := s.length) (by omega), Option.bind_some, cond_if]
  rw [if_pos (by omega)]
  rfl
theorem fNumber_eq' {n : Nat} (h : n < 18446744073709551616) : fNumber (n : Int) = some (num n, ()) := by
  rw [fNumber_un, fNumber_b, if_pos (by omega)]
  rfl
theorem fText_eq' {s : List UInt8} (h : s.length < 4611686018427387904) : fText s = some (txt s, ()) := by
  have hl := num_len10 (n := s.length) (by omega)
  simp only [fText_un, fText_b, wrap_u64 (n := s.length) (by omega), fNumber_eq' (n := s.length) (by omega), Option.bind_some, cond_if]
  rw [if_pos (by omega)]
  rfl

theorem and_byte' {c : UInt8} : IntKind.wrap .u8 ((BitVec.toNat (BitVec.ofInt 8 ((c.toNat : Nat) : Int) &&& BitVec.ofInt 8 127) : Nat) : Int) = ((c.toNat % 128 : Nat) : Int) := and_byte c.toNat c.toNat_lt
theorem or64 {a x j : Nat} (ha : a < 2 ^ j) (hs : a + x * 2 ^ j < 18446744073709551616) : IntKind.wrap .u64 ((BitVec.toNat (BitVec.ofInt 64 (a : Int) ||| BitVec.ofInt 64 ((x * 2 ^ j : Nat) : Int)) : Nat) : Int) = ((a + x * 2 ^ j : Nat) : Int) := by
  have h2 : (BitVec.ofInt 64 (a : Int) ||| BitVec.ofInt 64 ((x * 2 ^ j : Nat) : Int)).toNat = a + x * 2 ^ j := by
    rw [BitVec.toNat_or, BitVec.toNat_ofInt, BitVec.toNat_ofInt]
    have e1 : ((a : Int) % ((2 ^ 64 : Nat) : Int)).toNat = a := by omega
    have e2 : (((x * 2 ^ j : Nat) : Int) % ((2 ^ 64 : Nat) : Int)).toNat = x * 2 ^ j := by omega
    rw [e1, e2]
    have := Nat.shiftLeft_add_eq_or_of_lt ha x
    rw [Nat.shiftLeft_eq] at this
    rw [Nat.or_comm, ← this, Nat.add_comm]
  rw [h2, wrap_u64 hs]
/-- What a number's reading answers, as it is told. -/
def trip3 (r : Nat × Nat × Nat) : Int × Int × Int × Unit := ((r.1 : Int), (r.2.1 : Int), (r.2.2 : Int), ())
theorem oReadNumber_loop (S : List UInt8) (a : Nat) (hl : S.length < 4611686018427387904) (ha : a ≤ S.length) : ∀ (n i acc : Nat), i + n = 10 → i ≤ 9 → acc < 128 ^ i →
    two (β := Int × Int × Unit) (γ := Int × Int × Int × Unit) (loop (oReadNumber_l0 S (a : Int)) ((acc : Int), ((i : Int), ()))) (fun _ => some (0, (0, (3, ())))) (fun x => some x) = some (trip3 (rdN (S.drop (a + i)) i (a + i) acc))
  | 0, i, acc, h, hi, _ => by omega
  | n + 1, i, acc, h, hi, hacc => by
    rw [loop_eq]
    have e1 : IntKind.wrap .i64 ((a : Int) + (i : Int)) = ((a + i : Nat) : Int) := by rw [w64 (by omega)]; omega
    have h0 : (i : Int) < 10 := by omega
    by_cases hlen : S.length ≤ a + i
    · have h1 : (S.length : Int) ≤ ((a + i : Nat) : Int) := by omega
      have h2 : S.drop (a + i) = [] := List.drop_of_length_le hlen
      simp only [oReadNumber_l0, cond_if, if_pos h0, e1, if_pos h1, h2, rdN, two_inr]
      rfl
    · have h1 : ¬ (S.length : Int) ≤ ((a + i : Nat) : Int) := by omega
      have h2 : (0 : Int) ≤ ((a + i : Nat) : Int) := by omega
      have hc : S[a + i]? = some S[a + i] := List.getElem?_eq_getElem (by omega)
      have hdrop : S.drop (a + i) = S[a + i] :: S.drop (a + i + 1) := List.drop_eq_getElem_cons (by omega)
      generalize S[a + i] = c at hc hdrop
      have hcb := c.toNat_lt
      have e2 : IntKind.wrap .i64 (7 * (i : Int)) = ((7 * i : Nat) : Int) := by rw [w64 (by omega)]; omega
      have e3 : ¬ ((7 * i : Nat) : Int) < 0 := by omega
      have e4 : Min.min (Int.toNat ((7 * i : Nat) : Int)) 64 = 7 * i := by rw [Int.toNat_natCast]; omega
      have e5 : IntKind.wrap .i64 ((i : Int) + 1) = ((i + 1 : Nat) : Int) := by rw [w64 (by omega)]; omega
      have e6 : IntKind.wrap .i64 (((a + i : Nat) : Int) + 1) = ((a + i + 1 : Nat) : Int) := by rw [w64 (by omega)]; omega
      rw [hdrop]
      -- is the byte refused?
      have hbad : (bif decide ((i : Int) = 9) then (bif decide (1 < ((c.toNat : Nat) : Int)) then some (.inl (true, ())) else (bif decide (0 < (i : Int)) then some (.inl (decide (((c.toNat : Nat) : Int) = 0), ())) else some (.inl (false, ())))) else (bif decide (0 < (i : Int)) then some (.inl (decide (((c.toNat : Nat) : Int) = 0), ())) else some (.inl (false, ()))) : Option ((Bool × Unit) ⊕ Unit)) = some (.inl (decide ((i = 9 ∧ 1 < c.toNat) ∨ (0 < i ∧ c.toNat = 0)), ())) := by
        simp only [cond_if]
        by_cases k1 : i = 9
        · by_cases k2 : 1 < c.toNat
          · have k3 : (1 : Int) < ((c.toNat : Nat) : Int) := by omega
            simp [k1, k2, k3]
          · have k3 : ¬ (1 : Int) < ((c.toNat : Nat) : Int) := by omega
            have k4 : (((c.toNat : Nat) : Int) = 0) ↔ c.toNat = 0 := by omega
            simp [k1, k2, k3, k4]
        · have k3 : ¬ (i : Int) = 9 := by omega
          by_cases k5 : 0 < i
          · have k6 : (0 : Int) < (i : Int) := by omega
            have k4 : (((c.toNat : Nat) : Int) = 0) ↔ c.toNat = 0 := by omega
            simp [k1, k3, k5, k6, k4]
          · have k6 : ¬ (0 : Int) < (i : Int) := by omega
            simp [k1, k3, k5, k6]
      simp only [oReadNumber_l0, cond_if, if_pos h0, e1, if_neg h1, if_pos h2, Int.toNat_natCast, hc, Option.bind_some]
      simp only [← cond_if (p := (i : Int) = 9), ← cond_if (p := (1 : Int) < ((c.toNat : Nat) : Int)), ← cond_if (p := (0 : Int) < (i : Int))]
      rw [hbad]
      simp only [two_inl]
      by_cases hb : (i = 9 ∧ 1 < c.toNat) ∨ (0 < i ∧ c.toNat = 0)
      · simp only [decide_eq_true hb, cond_true, two_inr]
        rw [rdN, if_pos hb]
        rfl
      · simp only [decide_eq_false hb, cond_false, e2, if_neg e3, and_byte', e4, e5, e6]
        have hx : c.toNat % 128 * 2 ^ (7 * i) < 18446744073709551616 ∧ acc + c.toNat % 128 * 2 ^ (7 * i) < 18446744073709551616 ∧ acc + c.toNat % 128 * 128 ^ i < 128 ^ (i + 1) := by
          rw [← pow128]
          have hm : c.toNat % 128 ≤ 127 := by omega
          have h3 : c.toNat % 128 * 128 ^ i ≤ 127 * 128 ^ i := Nat.mul_le_mul_right _ hm
          have h4 : 128 ^ (i + 1) = 128 ^ i * 128 := Nat.pow_succ ..
          by_cases k1 : i = 9
          · subst k1
            have : ¬ 1 < c.toNat := fun k => hb (.inl ⟨rfl, k⟩)
            have : c.toNat % 128 ≤ 1 := by omega
            have h5 : c.toNat % 128 * 128 ^ 9 ≤ 1 * 128 ^ 9 := Nat.mul_le_mul_right _ this
            omega
          · have h5 : 128 ^ (i + 1) ≤ 128 ^ 9 := Nat.pow_le_pow_right (by decide) (by omega)
            omega
        obtain ⟨hx1, hx2, hx3⟩ := hx
        have e7 : ((c.toNat % 128 : Nat) : Int) * 2 ^ (7 * i) = ((c.toNat % 128 * 2 ^ (7 * i) : Nat) : Int) := by simp
        have e8 : IntKind.wrap .u64 ((c.toNat % 128 : Nat) : Int) = ((c.toNat % 128 : Nat) : Int) := wrap_u64 (by omega)
        rw [e8, e7, wrap_u64 hx1, or64 (by rw [← pow128]; exact hacc) hx2]
        rw [rdN, if_neg hb]
        by_cases hc8 : c.toNat < 128
        · have k : ((c.toNat : Nat) : Int) < 128 := by omega
          simp only [if_pos k, two_inr, if_pos hc8]
          rw [pow128]
          rfl
        · have k : ¬ ((c.toNat : Nat) : Int) < 128 := by omega
          simp only [if_neg k, if_neg hc8]
          have hi8 : i + 1 ≤ 9 := by
            by_cases k1 : i = 9
            · have : ¬ 1 < c.toNat := fun k => hb (.inl ⟨k1, k⟩)
              omega
            · omega
          have := oReadNumber_loop S a hl ha n (i + 1) (acc + c.toNat % 128 * 2 ^ (7 * i)) (by omega) hi8 (by rw [← pow128]; exact hx3)
          rw [this, pow128]
          rfl
theorem oReadNumber_eq' {S : List UInt8} {a : Nat} (hl : S.length < 4611686018427387904) : oReadNumber S (a : Int) = some (trip3 (rdAt S a)) := by
  rw [oReadNumber_un, oReadNumber_b, rdAt]
  simp only [cond_if]
  rw [if_neg (by omega)]
  by_cases ha : S.length < a
  · rw [if_pos (by omega), if_pos (by omega)]
    rfl
  · rw [if_neg (by omega), if_neg (by omega)]
    have := oReadNumber_loop S a hl (by omega) 10 0 0 (by omega) (by omega) (by simp)
    exact this

/-! ### The document's -/
theorem fReadNumber_loop (S : List UInt8) (a : Nat) (hl : S.length < 4611686018427387904) (ha : a ≤ S.length) : ∀ (n i acc : Nat) (x y z : Int), i + n = 10 → i ≤ 9 → acc < 128 ^ i →
    two (β := Int × Int × Int × Int × Int × Int × Unit) (γ := Int × Int × Int × Unit) (loop (fReadNumber_l0 S (a : Int)) (x, (y, (z, ((acc : Int), (((128 ^ i : Nat) : Int), (((a + i : Nat) : Int), ()))))))) (fun (p, (q, (r, _))) => some (p, (q, (r, ())))) (fun (p, (q, (r, _))) => some (p, (q, (r, ())))) = some (trip3 (rdN (S.drop (a + i)) i (a + i) acc))
  | 0, i, acc, _, _, _, h, hi, _ => by omega
  | n + 1, i, acc, x, y, z, h, hi, hacc => by
    rw [loop_eq]
    by_cases hlen : S.length ≤ a + i
    · have h1 : (S.length : Int) ≤ ((a + i : Nat) : Int) := by omega
      have h2 : S.drop (a + i) = [] := List.drop_of_length_le hlen
      simp only [fReadNumber_l0, cond_if, if_pos h1, h2, rdN, two_inr]
      rfl
    · have h1 : ¬ (S.length : Int) ≤ ((a + i : Nat) : Int) := by omega
      have h2 : (0 : Int) ≤ ((a + i : Nat) : Int) := by omega
      have hc : S[a + i]? = some S[a + i] := List.getElem?_eq_getElem (by omega)
      have hdrop : S.drop (a + i) = S[a + i] :: S.drop (a + i + 1) := List.drop_eq_getElem_cons (by omega)
      generalize S[a + i] = c at hc hdrop
      have hcb := c.toNat_lt
      have e1 : IntKind.wrap .i64 (((a + i : Nat) : Int) - (a : Int)) = (i : Int) := by rw [w64 (by omega)]; omega
      have e5 : IntKind.wrap .u64 ((c.toNat : Nat) : Int) = ((c.toNat : Nat) : Int) := wrap_u64 (by omega)
      have e6 : IntKind.wrap .i64 (((a + i : Nat) : Int) + 1) = ((a + (i + 1) : Nat) : Int) := by rw [w64 (by omega)]; omega
      have e9 : ((a : Int) < ((a + i : Nat) : Int)) ↔ 0 < i := by omega
      rw [hdrop]
      -- is the byte refused?
      have hbad : (bif decide ((i : Int) = 9) then (bif decide (1 < ((c.toNat : Nat) : Int)) then some (.inl (true, ())) else (bif decide ((a : Int) < ((a + i : Nat) : Int)) then some (.inl (decide (((c.toNat : Nat) : Int) = 0), ())) else some (.inl (false, ())))) else (bif decide ((a : Int) < ((a + i : Nat) : Int)) then some (.inl (decide (((c.toNat : Nat) : Int) = 0), ())) else some (.inl (false, ()))) : Option ((Bool × Unit) ⊕ Unit)) = some (.inl (decide ((i = 9 ∧ 1 < c.toNat) ∨ (0 < i ∧ c.toNat = 0)), ())) := by
        simp only [cond_if, e9]
        by_cases k1 : i = 9
        · by_cases k2 : 1 < c.toNat
          · have k3 : (1 : Int) < ((c.toNat : Nat) : Int) := by omega
            simp [k1, k2, k3]
          · have k3 : ¬ (1 : Int) < ((c.toNat : Nat) : Int) := by omega
            have k4 : (((c.toNat : Nat) : Int) = 0) ↔ c.toNat = 0 := by omega
            simp [k1, k2, k3, k4]
        · have k3 : ¬ (i : Int) = 9 := by omega
          by_cases k5 : 0 < i
          · have k4 : (((c.toNat : Nat) : Int) = 0) ↔ c.toNat = 0 := by omega
            simp [k1, k3, k5, k4]
          · simp [k1, k3, k5]
      simp only [fReadNumber_l0, cond_if, if_neg h1, if_pos h2, Int.toNat_natCast, hc, Option.bind_some, e1, e5]
      simp only [← cond_if (p := (i : Int) = 9), ← cond_if (p := (1 : Int) < ((c.toNat : Nat) : Int)), ← cond_if (p := (a : Int) < ((a + i : Nat) : Int))]
      rw [hbad]
      simp only [two_inl]
      by_cases hb : (i = 9 ∧ 1 < c.toNat) ∨ (0 < i ∧ c.toNat = 0)
      · simp only [decide_eq_true hb, cond_true, two_inr]
        rw [rdN, if_pos hb]
        rfl
      · simp only [decide_eq_false hb, cond_false, e6]
        have hx : c.toNat % 128 * 128 ^ i < 18446744073709551616 ∧ acc + c.toNat % 128 * 128 ^ i < 18446744073709551616 ∧ acc + c.toNat % 128 * 128 ^ i < 128 ^ (i + 1) := by
          have hm : c.toNat % 128 ≤ 127 := by omega
          have h3 : c.toNat % 128 * 128 ^ i ≤ 127 * 128 ^ i := Nat.mul_le_mul_right _ hm
          have h4 : 128 ^ (i + 1) = 128 ^ i * 128 := Nat.pow_succ ..
          by_cases k1 : i = 9
          · subst k1
            have : ¬ 1 < c.toNat := fun k => hb (.inl ⟨rfl, k⟩)
            have : c.toNat % 128 ≤ 1 := by omega
            have h5 : c.toNat % 128 * 128 ^ 9 ≤ 1 * 128 ^ 9 := Nat.mul_le_mul_right _ this
            omega
          · have h5 : 128 ^ (i + 1) ≤ 128 ^ 9 := Nat.pow_le_pow_right (by decide) (by omega)
            omega
        obtain ⟨hx1, hx2, hx3⟩ := hx
        have e7 : Int.tmod ((c.toNat : Nat) : Int) 128 * ((128 ^ i : Nat) : Int) = ((c.toNat % 128 * 128 ^ i : Nat) : Int) := by rw [rem128]; simp
        have e8 : IntKind.wrap .u64 ((acc : Int) + ((c.toNat % 128 * 128 ^ i : Nat) : Int)) = ((acc + c.toNat % 128 * 128 ^ i : Nat) : Int) := by
          rw [show (acc : Int) + ((c.toNat % 128 * 128 ^ i : Nat) : Int) = ((acc + c.toNat % 128 * 128 ^ i : Nat) : Int) by omega, wrap_u64 hx2]
        rw [e7, wrap_u64 hx1, e8]
        rw [rdN, if_neg hb]
        by_cases hc8 : c.toNat < 128
        · have k : ((c.toNat : Nat) : Int) < 128 := by omega
          simp only [if_pos k, two_inr, if_pos hc8]
          rfl
        · have k : ¬ ((c.toNat : Nat) : Int) < 128 := by omega
          simp only [if_neg k, if_neg hc8]
          have hi8 : i + 1 ≤ 9 := by
            by_cases k1 : i = 9
            · have : ¬ 1 < c.toNat := fun k => hb (.inl ⟨k1, k⟩)
              omega
            · omega
          have e10 : IntKind.wrap .u64 (((128 ^ i : Nat) : Int) * 128) = ((128 ^ (i + 1) : Nat) : Int) := by
            have h5 : 128 ^ (i + 1) ≤ 128 ^ 9 := Nat.pow_le_pow_right (by decide) (by omega)
            have h4 : 128 ^ (i + 1) = 128 ^ i * 128 := Nat.pow_succ ..
            rw [show ((128 ^ i : Nat) : Int) * 128 = ((128 ^ i * 128 : Nat) : Int) by simp, ← h4, wrap_u64 (by omega)]
          rw [e10]
          exact fReadNumber_loop S a hl ha n (i + 1) (acc + c.toNat % 128 * 128 ^ i) x y z (by omega) hi8 hx3
theorem fReadNumber_eq' {S : List UInt8} {a : Nat} (hl : S.length < 4611686018427387904) : fReadNumber S (a : Int) = some (trip3 (rdAt S a)) := by
  rw [fReadNumber_un, fReadNumber_b, rdAt]
  simp only [cond_if]
  rw [if_neg (by omega)]
  by_cases ha : S.length < a
  · rw [if_pos (by omega), if_pos (by omega)]
    rfl
  · rw [if_neg (by omega), if_neg (by omega)]
    have := fReadNumber_loop S a hl (by omega) 10 0 0 0 0 0 (by omega) (by omega) (by simp)
    simpa using this

/-! ### Texts -/
def trip4 (r : List UInt8 × Nat × Nat) : List UInt8 × Int × Int × Unit := (r.1, (r.2.1 : Int), (r.2.2 : Int), ())
theorem oReadText_eq' {S : List UInt8} {a : Nat} (hl : S.length < 4611686018427387904) : oReadText S (a : Int) = some (trip4 (rdT S a)) := by
  rw [oReadText_un, oReadText_b, oReadNumber_eq' hl]
  obtain ⟨hn, hk, he⟩ := rdAt_lt S a
  simp only [rdT, trip3, Option.bind_some]
  generalize rdAt S (a : Int) = x at hn hk he ⊢
  obtain ⟨n, k, e⟩ := x
  simp only at hn hk he ⊢
  by_cases h0 : e = 0
  · have h1 : ((e : Nat) : Int) = 0 := by omega
    have h2 : IntKind.wrap .u64 (IntKind.wrap .i64 ((S.length : Int) - (k : Int))) = ((S.length - k : Nat) : Int) := by
      rw [w64 (by omega), show (S.length : Int) - (k : Int) = ((S.length - k : Nat) : Int) by omega, wrap_u64 (by omega)]
    simp only [h1, decide_true, Bool.not_true, cond_false, h2, h0, ne_eq, not_true_eq_false, if_false]
    by_cases h3 : S.length - k < n
    · have h4 : ((S.length - k : Nat) : Int) < (n : Int) := by omega
      simp only [decide_eq_true h4, cond_true, if_pos h3]
      rfl
    · have h4 : ¬ ((S.length - k : Nat) : Int) < (n : Int) := by omega
      have h5 : IntKind.wrap .i64 ((k : Int) + IntKind.wrap .i64 (n : Int)) = ((k + n : Nat) : Int) := by
        rw [w64 (a := (n : Int)) (by omega), w64 (by omega)]; omega
      have h6 : within S.length (some (k : Int)) (some ((k + n : Nat) : Int)) = true := by
        simp only [within, decide_eq_true_eq]; omega
      simp only [decide_eq_false h4, cond_false, h5, h6, cond_true, if_neg h3, cut, Int.toNat_natCast]
      rfl
  · have h1 : ¬ ((e : Nat) : Int) = 0 := by omega
    simp only [decide_eq_false h1, Bool.not_false, cond_true, ne_eq, h0, not_false_eq_true, if_true]
    rfl
theorem fReadText_eq' {S : List UInt8} {a : Nat} (hl : S.length < 4611686018427387904) : fReadText S (a : Int) = some (trip4 (rdT S a)) := by
  rw [fReadText_un, fReadText_b, fReadNumber_eq' hl]
  obtain ⟨hn, hk, he⟩ := rdAt_lt S a
  simp only [rdT, trip3, Option.bind_some]
  generalize rdAt S (a : Int) = x at hn hk he ⊢
  obtain ⟨n, k, e⟩ := x
  simp only at hn hk he ⊢
  by_cases h0 : e = 0
  · have h1 : ((e : Nat) : Int) = 0 := by omega
    simp only [h1, decide_true, Bool.not_true, cond_false, h0, ne_eq, not_true_eq_false, if_false, wrap_u64 (n := S.length) (by omega)]
    by_cases h7 : S.length < n
    · have h8 : (S.length : Int) < (n : Int) := by omega
      simp only [decide_eq_true h8, cond_true]
      rw [if_pos (by omega)]
      rfl
    · have h8 : ¬ (S.length : Int) < (n : Int) := by omega
      have h2 : IntKind.wrap .i64 ((S.length : Int) - (k : Int)) = ((S.length - k : Nat) : Int) := by rw [w64 (by omega)]; omega
      have h9 : IntKind.wrap .i64 (n : Int) = (n : Int) := w64 (by omega)
      simp only [decide_eq_false h8, cond_false, h2, h9]
      by_cases h3 : S.length - k < n
      · have h4 : ((S.length - k : Nat) : Int) < (n : Int) := by omega
        simp only [decide_eq_true h4, cond_true, if_pos h3]
        rfl
      · have h4 : ¬ ((S.length - k : Nat) : Int) < (n : Int) := by omega
        have h5 : IntKind.wrap .i64 ((k : Int) + (n : Int)) = ((k + n : Nat) : Int) := by rw [w64 (by omega)]; omega
        have h6 : within S.length (some (k : Int)) (some ((k + n : Nat) : Int)) = true := by
          simp only [within, decide_eq_true_eq]; omega
        simp only [decide_eq_false h4, cond_false, h5, h6, cond_true, if_neg h3, cut, Int.toNat_natCast]
        rfl
  · have h1 : ¬ ((e : Nat) : Int) = 0 := by omega
    simp only [decide_eq_false h1, Bool.not_false, cond_true, ne_eq, h0, not_false_eq_true, if_true]
    rfl

/-! ### Readers -/
theorem oErr_eq' {e : Int} : oErr e = some (e, ()) := oErr_un e
theorem oRdNumber_eq' {S : List UInt8} {r : Nat × Nat} {most : Nat} (hl : S.length < 4611686018427387904) : oRdNumber (most : Int) S (r.1 : Int) (r.2 : Int) = some (((rdNum S r most).2 : Int), (((rdNum S r most).1.1 : Int), (((rdNum S r most).1.2 : Int), ()))) := by
  rw [oRdNumber_un, oRdNumber_b, oErr_eq', Option.bind_some, oReadNumber_eq' hl, rdNum]
  by_cases h0 : r.2 = 0
  · have h1 : ((r.2 : Nat) : Int) = 0 := by omega
    simp only [h1, decide_true, Bool.not_true, cond_false, h0, ne_eq, not_true_eq_false, if_false, trip3, Option.bind_some]
    generalize rdAt S (r.1 : Int) = x
    obtain ⟨n, k, e⟩ := x
    simp only
    by_cases h2 : e = 0
    · have h3 : ((e : Nat) : Int) = 0 := by omega
      simp only [h3, decide_true, Bool.not_true, cond_false, cond_true, h2, not_true_eq_false, if_false]
      by_cases h4 : most < n
      · have h5 : (most : Int) < (n : Int) := by omega
        simp only [decide_eq_true h5, cond_true, if_pos h4]
        rfl
      · have h5 : ¬ (most : Int) < (n : Int) := by omega
        simp only [decide_eq_false h5, cond_false, if_neg h4]
        rfl
    · have h3 : ¬ ((e : Nat) : Int) = 0 := by omega
      simp only [decide_eq_false h3, Bool.not_false, cond_false, cond_true, h2, not_false_eq_true, if_true]
      rfl
  · have h1 : ¬ ((r.2 : Nat) : Int) = 0 := by omega
    simp only [decide_eq_false h1, Bool.not_false, cond_true, ne_eq, h0, not_false_eq_true, if_true]
    rfl
theorem oRdInt_eq' {S : List UInt8} {r : Nat × Nat} {most : Nat} (hl : S.length < 4611686018427387904) (hm : most < 9223372036854775808) : oRdInt (most : Int) S (r.1 : Int) (r.2 : Int) = some (((rdNum S r most).2 : Int), (((rdNum S r most).1.1 : Int), (((rdNum S r most).1.2 : Int), ()))) := by
  have h1 : ¬ (most : Int) < 0 := by omega
  have h2 := rdNum_le S r most
  rw [oRdInt_un, oRdInt_b]
  simp only [decide_eq_false h1, cond_false, wrap_u64 (n := most) (by omega), oRdNumber_eq' hl, Option.bind_some]
  rw [w64 (by omega)]
theorem oRdBool_eq' {S : List UInt8} {r : Nat × Nat} (hl : S.length < 4611686018427387904) : oRdBool S (r.1 : Int) (r.2 : Int) = some ((rdBool S r).2, (((rdBool S r).1.1 : Int), (((rdBool S r).1.2 : Int), ()))) := by
  have h5 := oRdNumber_eq' (S := S) (r := r) (most := 1) hl
  rw [show ((1 : Nat) : Int) = 1 from rfl] at h5
  rw [oRdBool_un, oRdBool_b, oErr_eq', Option.bind_some, rdBool, h5]
  have h6 := rdNum1 S r
  by_cases h0 : r.2 = 0
  · have h1 : ((r.2 : Nat) : Int) = 0 := by omega
    simp only [h1, decide_true, Bool.not_true, cond_false, h0, ne_eq, not_true_eq_false, if_false, Option.bind_some]
    have h7 : decide (((rdNum S r 1).2 : Int) = 1) = ((rdNum S r 1).2 == 1) := h6
    rw [h7]
    by_cases h2 : (rdNum S r 1).1.2 = 2
    · have h3 : (((rdNum S r 1).1.2 : Nat) : Int) = 2 := by omega
      simp only [h3, decide_true, cond_true, if_pos h2]
      rfl
    · have h3 : ¬ (((rdNum S r 1).1.2 : Nat) : Int) = 2 := by omega
      simp only [decide_eq_false h3, cond_false, if_neg h2]
      rfl
  · have h1 : ¬ ((r.2 : Nat) : Int) = 0 := by omega
    simp only [decide_eq_false h1, Bool.not_false, cond_true, ne_eq, h0, not_false_eq_true, if_true]
theorem oRdText_eq' {S : List UInt8} {r : Nat × Nat} {most : Nat} (hl : S.length < 4611686018427387904) : oRdText (most : Int) S (r.1 : Int) (r.2 : Int) = some ((rdTxt S r most).2, (((rdTxt S r most).1.1 : Int), (((rdTxt S r most).1.2 : Int), ()))) := by
  rw [oRdText_un, oRdText_b, oErr_eq', Option.bind_some, oReadText_eq' hl, rdTxt]
  by_cases h0 : r.2 = 0
  · have h1 : ((r.2 : Nat) : Int) = 0 := by omega
    simp only [h1, decide_true, Bool.not_true, cond_false, h0, ne_eq, not_true_eq_false, if_false, trip4, Option.bind_some]
    generalize rdT S r.1 = x
    obtain ⟨n, k, e⟩ := x
    simp only
    by_cases h2 : e = 0
    · have h3 : ((e : Nat) : Int) = 0 := by omega
      simp only [h3, decide_true, Bool.not_true, cond_false, cond_true, h2, not_true_eq_false, if_false]
      by_cases h4 : most < n.length
      · have h5 : (most : Int) < (n.length : Int) := by omega
        simp only [decide_eq_true h5, cond_true, if_pos h4]
        rfl
      · have h5 : ¬ (most : Int) < (n.length : Int) := by omega
        simp only [decide_eq_false h5, cond_false, if_neg h4]
        rfl
    · have h3 : ¬ ((e : Nat) : Int) = 0 := by omega
      simp only [decide_eq_false h3, Bool.not_false, cond_false, cond_true, h2, not_false_eq_true, if_true]
      rfl
  · have h1 : ¬ ((r.2 : Nat) : Int) = 0 := by omega
    simp only [decide_eq_false h1, Bool.not_false, cond_true, ne_eq, h0, not_false_eq_true, if_true]
theorem oRdEnd_eq' {S : List UInt8} {r : Nat × Nat} : oRdEnd S (r.1 : Int) (r.2 : Int) = some (((rdEnd S r).2 : Int), (((rdEnd S r).2 : Int), ())) := by
  rw [oRdEnd_un, oRdEnd_b, oErr_eq', Option.bind_some, rdEnd]
  simp only [oErr_eq', Option.bind_some]
  by_cases h0 : r.2 = 0
  · have h1 : ((r.2 : Nat) : Int) = 0 := by omega
    by_cases h2 : r.1 < S.length
    · have h3 : ((r.1 : Nat) : Int) < (S.length : Int) := by omega
      simp only [h1, decide_true, cond_true, decide_eq_true h3, if_pos (And.intro h0 h2)]
      rfl
    · have h3 : ¬ ((r.1 : Nat) : Int) < (S.length : Int) := by omega
      rw [if_neg (fun h => h2 h.2)]
      simp only [h1, decide_true, cond_true, decide_eq_false h3, cond_false]
  · have h1 : ¬ ((r.2 : Nat) : Int) = 0 := by omega
    rw [if_neg (fun h => h0 h.1)]
    simp only [decide_eq_false h1, cond_false]

/-- The document's reader, as it is told. -/
def rd3 (S : List UInt8) (r : Nat × Nat) : List UInt8 × Int × Int := (S, ((r.1 : Int), (r.2 : Int)))
theorem fRdNumber_eq' {S : List UInt8} {r : Nat × Nat} {most : Nat} (hl : S.length < 4611686018427387904) : fRdNumber S (r.1 : Int) (r.2 : Int) (most : Int) = some (rd3 S (rdNum S r most).1, (((rdNum S r most).2 : Int), ())) := by
  rw [fRdNumber_un, fRdNumber_b, fReadNumber_eq' hl, rdNum]
  by_cases h0 : r.2 = 0
  · have h1 : ((r.2 : Nat) : Int) = 0 := by omega
    simp only [h1, decide_true, Bool.not_true, cond_false, h0, ne_eq, not_true_eq_false, if_false, trip3, Option.bind_some]
    generalize rdAt S (r.1 : Int) = x
    obtain ⟨n, k, e⟩ := x
    simp only
    by_cases h2 : e = 0
    · have h3 : ((e : Nat) : Int) = 0 := by omega
      simp only [h3, decide_true, Bool.not_true, cond_false, cond_true, h2, not_true_eq_false, if_false]
      by_cases h4 : most < n
      · have h5 : (most : Int) < (n : Int) := by omega
        simp only [decide_eq_true h5, cond_true, if_pos h4]
        rfl
      · have h5 : ¬ (most : Int) < (n : Int) := by omega
        simp only [decide_eq_false h5, cond_false, if_neg h4]
        rfl
    · have h3 : ¬ ((e : Nat) : Int) = 0 := by omega
      simp only [decide_eq_false h3, Bool.not_false, cond_false, cond_true, h2, not_false_eq_true, if_true]
      rfl
  · have h1 : ¬ ((r.2 : Nat) : Int) = 0 := by omega
    simp only [decide_eq_false h1, Bool.not_false, cond_true, ne_eq, h0, not_false_eq_true, if_true]
    rfl
theorem fRdInt_eq' {S : List UInt8} {r : Nat × Nat} {most : Nat} (hl : S.length < 4611686018427387904) (hm : most < 9223372036854775808) : fRdInt S (r.1 : Int) (r.2 : Int) (most : Int) = some (rd3 S (rdNum S r most).1, (((rdNum S r most).2 : Int), ())) := by
  have h1 : (0 : Int) ≤ (most : Int) := by omega
  have h2 := rdNum_le S r most
  rw [fRdInt_un, fRdInt_b]
  simp only [decide_eq_true h1, cond_true, wrap_u64 (n := most) (by omega), fRdNumber_eq' hl, Option.bind_some, rd3]
  rw [w64 (by omega)]
theorem fRdBool_eq' {S : List UInt8} {r : Nat × Nat} (hl : S.length < 4611686018427387904) : fRdBool S (r.1 : Int) (r.2 : Int) = some (rd3 S (rdBool S r).1, ((rdBool S r).2, ())) := by
  have h5 := fRdNumber_eq' (S := S) (r := r) (most := 1) hl
  rw [show ((1 : Nat) : Int) = 1 from rfl] at h5
  rw [fRdBool_un, fRdBool_b, rdBool, h5]
  have h6 := rdNum1 S r
  by_cases h0 : r.2 = 0
  · have h1 : ((r.2 : Nat) : Int) = 0 := by omega
    simp only [h1, decide_true, Bool.not_true, cond_false, h0, ne_eq, not_true_eq_false, if_false, Option.bind_some, rd3]
    have h7 : decide (((rdNum S r 1).2 : Int) = 1) = ((rdNum S r 1).2 == 1) := h6
    rw [h7]
    by_cases h2 : (rdNum S r 1).1.2 = 2
    · have h3 : (((rdNum S r 1).1.2 : Nat) : Int) = 2 := by omega
      simp only [h3, decide_true, cond_true, if_pos h2]
      rfl
    · have h3 : ¬ (((rdNum S r 1).1.2 : Nat) : Int) = 2 := by omega
      simp only [decide_eq_false h3, cond_false, if_neg h2]
      rfl
  · have h1 : ¬ ((r.2 : Nat) : Int) = 0 := by omega
    simp only [decide_eq_false h1, Bool.not_false, cond_true, ne_eq, h0, not_false_eq_true, if_true]
    rfl
theorem fRdText_eq' {S : List UInt8} {r : Nat × Nat} {most : Nat} (hl : S.length < 4611686018427387904) : fRdText S (r.1 : Int) (r.2 : Int) (most : Int) = some (rd3 S (rdTxt S r most).1, ((rdTxt S r most).2, ())) := by
  rw [fRdText_un, fRdText_b, fReadText_eq' hl, rdTxt]
  by_cases h0 : r.2 = 0
  · have h1 : ((r.2 : Nat) : Int) = 0 := by omega
    simp only [h1, decide_true, Bool.not_true, cond_false, h0, ne_eq, not_true_eq_false, if_false, trip4, Option.bind_some]
    generalize rdT S r.1 = x
    obtain ⟨n, k, e⟩ := x
    simp only
    by_cases h2 : e = 0
    · have h3 : ((e : Nat) : Int) = 0 := by omega
      simp only [h3, decide_true, Bool.not_true, cond_false, cond_true, h2, not_true_eq_false, if_false]
      by_cases h4 : most < n.length
      · have h5 : (most : Int) < (n.length : Int) := by omega
        simp only [decide_eq_true h5, cond_true, if_pos h4]
        rfl
      · have h5 : ¬ (most : Int) < (n.length : Int) := by omega
        simp only [decide_eq_false h5, cond_false, if_neg h4]
        rfl
    · have h3 : ¬ ((e : Nat) : Int) = 0 := by omega
      simp only [decide_eq_false h3, Bool.not_false, cond_false, cond_true, h2, not_false_eq_true, if_true]
      rfl
  · have h1 : ¬ ((r.2 : Nat) : Int) = 0 := by omega
    simp only [decide_eq_false h1, Bool.not_false, cond_true, ne_eq, h0, not_false_eq_true, if_true]
    rfl
theorem fRdEnd_eq' {S : List UInt8} {r : Nat × Nat} : fRdEnd S (r.1 : Int) (r.2 : Int) = some (rd3 S (rdEnd S r), ()) := by
  rw [fRdEnd_un, fRdEnd_b, rdEnd]
  by_cases h0 : r.2 = 0
  · have h1 : ((r.2 : Nat) : Int) = 0 := by omega
    by_cases h2 : r.1 < S.length
    · have h3 : ((r.1 : Nat) : Int) < (S.length : Int) := by omega
      simp only [h1, decide_true, cond_true, decide_eq_true h3, if_pos (And.intro h0 h2)]
      rfl
    · have h3 : ¬ ((r.1 : Nat) : Int) < (S.length : Int) := by omega
      rw [if_neg (fun h => h2 h.2)]
      simp only [h1, decide_true, cond_true, decide_eq_false h3, cond_false, rd3]
  · have h1 : ¬ ((r.2 : Nat) : Int) = 0 := by omega
    rw [if_neg (fun h => h0 h.1)]
    simp only [decide_eq_false h1, cond_false]
    rfl
end Go.Proofs.Ytbnfooeeopmpiaa.TV
