/-
  Numbers and texts: what is told is read again.
-/
import Derived.Test.YtbnfooeeopmpiaaDNum
namespace Go.Proofs.Ytbnfooeeopmpiaa.TV
open Go Go.RowKit
set_option linter.unusedSimpArgs false
set_option linter.unusedVariables false
set_option maxRecDepth 100000

theorem rdT_txt {S rest d : List UInt8} {a : Nat} (h : S.drop a = txt d ++ rest) (hd : d.length < 18446744073709551616) : rdT S a = (d, a + (txt d).length, 0) := by
  have h1 : S.drop a = num d.length ++ (d ++ rest) := by rw [h, txt, List.append_assoc]
  have h2 := rdAt_num h1 hd
  have hlen : S.length - a = (txt d).length + rest.length := by rw [← List.length_drop, h, List.length_append]
  have htl : (txt d).length = (num d.length).length + d.length := by simp [txt]
  have hp := num_pos d.length
  have h4 : S.drop (a + (num d.length).length) = d ++ rest := by rw [← List.drop_drop, h1, List.drop_left]
  unfold rdT
  simp only [h2, ne_eq, not_true_eq_false, if_false]
  rw [if_neg (by omega), List.drop_take, h4, show a + (num d.length).length + d.length - (a + (num d.length).length) = d.length by omega, List.take_left, htl, Nat.add_assoc]
theorem rdT_inv {S : List UInt8} {a : Nat} (h : (rdT S a).2.2 = 0) : (rdT S a).2.1 = a + (txt (rdT S a).1).length ∧ S.drop a = txt (rdT S a).1 ++ S.drop (rdT S a).2.1 ∧ (rdT S a).2.1 ≤ S.length := by
  revert h
  unfold rdT
  rcases hx : rdAt S a with ⟨n, k, e⟩
  simp only
  split
  · intro h; simp only at h; contradiction
  · rename_i h0
    split
    · intro h; cases h
    · rename_i h1
      intro _
      simp only
      have h0 : e = 0 := by omega
      subst h0
      obtain ⟨h2, h3, h4, h5⟩ := rdAt_inv hx
      have h6 : ((S.take (k + n)).drop k).length = n := by simp; omega
      have h7 : (S.take (k + n)).drop k = (S.drop k).take n := by rw [List.drop_take, show k + n - k = n by omega]
      refine ⟨?_, ?_, by omega⟩
      · rw [txt, List.length_append, h6]; omega
      · rw [txt, h6, h3, h7, List.append_assoc]
        congr 1
        rw [← List.drop_drop, List.take_append_drop]
theorem rdTxt_txt {S rest d : List UInt8} {a most : Nat} (h : S.drop a = txt d ++ rest) (hm : d.length ≤ most) (hd : most < 18446744073709551616) : rdTxt S (a, 0) most = ((a + (txt d).length, 0), d) := by
  have h1 := rdT_txt h (by omega)
  simp only [rdTxt, h1, ne_eq, not_true_eq_false, if_false]
  rw [if_neg (by omega)]
theorem rdTxt_inv {S : List UInt8} {r : Nat × Nat} {most : Nat} (h : (rdTxt S r most).1.2 = 0) :
    r.2 = 0 ∧ (rdTxt S r most).1.1 = r.1 + (txt (rdTxt S r most).2).length ∧ S.drop r.1 = txt (rdTxt S r most).2 ++ S.drop (rdTxt S r most).1.1 ∧ (rdTxt S r most).2.length ≤ most ∧ (rdTxt S r most).1.1 ≤ S.length := by
  revert h
  unfold rdTxt
  split
  · intro h; simp only at h; contradiction
  · rename_i h0
    simp only
    have hi := @rdT_inv S r.1
    generalize rdT S r.1 = x at hi
    obtain ⟨d, k, e⟩ := x
    simp only at hi ⊢
    split
    · intro h; simp only at h; contradiction
    · rename_i he
      split
      · intro h; cases h
      · rename_i h1
        intro _
        simp only
        obtain ⟨h2, h3, h4⟩ := hi (by omega)
        exact ⟨by omega, h2, h3, by omega, h4⟩
def yesN (b : Bool) : Nat := if b then 1 else 0
theorem rdBool_num {S rest : List UInt8} {a : Nat} {b : Bool} (h : S.drop a = num (yesN b) ++ rest) : rdBool S (a, 0) = ((a + (num (yesN b)).length, 0), b) := by
  have h1 := rdNum_num (most := 1) h (by cases b <;> simp [yesN]) (by omega)
  simp only [rdBool, h1, ne_eq, not_true_eq_false, if_false]
  cases b <;> simp [yesN]
theorem rdBool_inv {S : List UInt8} {r : Nat × Nat} (h : (rdBool S r).1.2 = 0) :
    r.2 = 0 ∧ (rdBool S r).1.1 = r.1 + (num (yesN (rdBool S r).2)).length ∧ S.drop r.1 = num (yesN (rdBool S r).2) ++ S.drop (rdBool S r).1.1 := by
  revert h
  unfold rdBool
  split
  · intro h; simp only at h; contradiction
  · rename_i h0
    simp only
    intro h
    have h1 : (rdNum S r 1).1.2 = 0 := by
      split at h
      · cases h
      · exact h
    obtain ⟨h2, h3, h4, h5⟩ := rdNum_inv h1
    have h6 : yesN ((rdNum S r 1).2 == 1) = (rdNum S r 1).2 := by
      have : (rdNum S r 1).2 = 0 ∨ (rdNum S r 1).2 = 1 := by omega
      rcases this with h7 | h7 <;> rw [h7] <;> rfl
    rw [h6]
    exact ⟨h2, h3, h4⟩
theorem rdEnd_inv {S : List UInt8} {r : Nat × Nat} (h : (rdEnd S r).2 = 0) : r.2 = 0 ∧ S.length ≤ r.1 := by
  revert h
  unfold rdEnd
  split
  · intro h; cases h
  · rename_i h0
    intro h
    exact ⟨h, by omega⟩

/-! ### Rows of numbers -/
/-- Numbers are taken, each of them up to the same. -/
def rdMany (S : List UInt8) (most : Nat) : Nat → Nat × Nat → (Nat × Nat) × List Int
  | 0, r => (r, [])
  | n + 1, r => let x := rdMany S most n (rdNum S r most).1; (x.1, ((rdNum S r most).2 : Int) :: x.2)
def numsB (l : List Int) : List UInt8 := l.flatMap fun z => num z.toNat
theorem rdMany_nums {S : List UInt8} {most : Nat} (hm : most < 18446744073709551616) : ∀ {l : List Int} {rest : List UInt8} {a : Nat}, S.drop a = numsB l ++ rest → (∀ z ∈ l, 0 ≤ z ∧ z ≤ most) → rdMany S most l.length (a, 0) = ((a + (numsB l).length, 0), l)
  | [], rest, a, _, _ => by simp [rdMany, numsB]
  | z :: l, rest, a, h, hz => by
    have h0 := hz z (by simp)
    have h1 : S.drop a = num z.toNat ++ (numsB l ++ rest) := by rw [h]; simp [numsB]
    have h2 := rdNum_num (most := most) h1 (by omega) hm
    have h3 : S.drop (a + (num z.toNat).length) = numsB l ++ rest := by rw [← List.drop_drop, h1, List.drop_left]
    have h4 := rdMany_nums hm h3 fun y hy => hz y (by simp [hy])
    simp only [rdMany, List.length_cons, h2, h4]
    have h5 : ((z.toNat : Nat) : Int) = z := by omega
    rw [h5]
    simp [numsB, Nat.add_assoc]
theorem rdMany_inv {S : List UInt8} {most : Nat} : ∀ {n : Nat} {r : Nat × Nat}, (rdMany S most n r).1.2 = 0 → r.2 = 0 ∧ (rdMany S most n r).1.1 = r.1 + (numsB (rdMany S most n r).2).length ∧ S.drop r.1 = numsB (rdMany S most n r).2 ++ S.drop (rdMany S most n r).1.1 ∧ ∀ z ∈ (rdMany S most n r).2, 0 ≤ z ∧ z ≤ most
  | 0, r, h => ⟨h, by simp [rdMany, numsB], by simp [rdMany, numsB], fun z hz => by simp [rdMany] at hz⟩
  | n + 1, r, h => by
    simp only [rdMany] at h ⊢
    obtain ⟨h1, h2, h3, h4⟩ := rdMany_inv h
    obtain ⟨h5, h6, h7, h8⟩ := rdNum_inv h1
    refine ⟨h5, ?_, ?_, fun z hz => ?_⟩
    · rw [h2, h6]; simp [numsB]; omega
    · rw [h7, h3]; simp [numsB]
    · rcases List.mem_cons.1 hz with rfl | hz
      · omega
      · exact h4 z hz
theorem rdMany_length {S : List UInt8} {most : Nat} : ∀ (n : Nat) (r : Nat × Nat), (rdMany S most n r).2.length = n
  | 0, r => rfl
  | n + 1, r => by simp [rdMany, rdMany_length n]
end Go.Proofs.Ytbnfooeeopmpiaa.TV
