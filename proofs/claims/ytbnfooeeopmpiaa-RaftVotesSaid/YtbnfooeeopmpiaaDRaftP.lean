/-
  RAFT: messages: what is printed of the program's and the document's is what they are in plain words.
-/
import Derived.Test.YtbnfooeeopmpiaaDRaftM
import Derived.Test.YtbnfooeeopmpiaaDNumP
import Derived.Test.YtbnfooeeopmpiaaDNumQ
namespace Go.Proofs.Ytbnfooeeopmpiaa.TV
open Go Go.RowKit
set_option linter.unusedSimpArgs false
set_option linter.unusedVariables false
set_option maxRecDepth 100000

abbrev En := Int × Int × List UInt8
structure Ms where
  k : Int
  f : Int
  t : Int
  term : Int
  ix : Int
  lt : Int
  cm : Int
  rd : Int
  at_ : Int
  yes : Bool
  es : List En
  d : List UInt8
def rightB (term : Int) : List En → Int → Bool
  | [], _ => true
  | x :: es, ahead => !(decide (x.1 < ahead) || (decide (term < x.1) || (decide (x.2.1 < 0) || (decide (255 < x.2.1) || decide ((65536 : Int) < (x.2.2.length : Int)))))) && rightB term es x.1
def OkNums (m : Ms) : Prop := 1 ≤ m.k ∧ m.k ≤ 6 ∧ 0 ≤ m.f ∧ m.f ≤ 6 ∧ 0 ≤ m.t ∧ m.t ≤ 6 ∧ m.f ≠ m.t ∧ (m.k = 5 → m.ix ≤ 549755813888) ∧ 0 ≤ m.term ∧ m.term ≤ 1099511627776 ∧ 0 ≤ m.ix ∧ m.ix ≤ 1099511627776 ∧ 0 ≤ m.lt ∧ m.lt ≤ 1099511627776 ∧
  0 ≤ m.cm ∧ m.cm ≤ 1099511627776 ∧ 0 ≤ m.rd ∧ m.rd ≤ 1099511627776 ∧ 0 ≤ m.at_ ∧ m.at_ ≤ 1099511627776 ∧ m.lt ≤ m.term ∧ m.es.length ≤ 16 ∧ m.d.length ≤ 4096
instance (m : Ms) : Decidable (OkNums m) := by unfold OkNums; infer_instance
/-- Which messages may be. -/
def okMsg (m : Ms) : Bool := decide (OkNums m) && rightB m.term m.es m.lt

/-! ### Conditions, one behind the other -/
theorem jo {a b : Bool} : (bif a then some (.inl (true, ())) else some (.inl (b, ())) : Option ((Bool × Unit) ⊕ Unit)) = some (.inl (a || b, ())) := by cases a <;> rfl
theorem ja {a b : Bool} : (bif a then some (.inl (b, ())) else some (.inl (false, ())) : Option ((Bool × Unit) ⊕ Unit)) = some (.inl (a && b, ())) := by cases a <;> rfl
theorem jc {a b c : Bool} : (bif a then some (.inl (b, ())) else some (.inl (c, ())) : Option ((Bool × Unit) ⊕ Unit)) = some (.inl ((bif a then b else c), ())) := by cases a <;> rfl
theorem ct {a b : Bool} : (bif a then true else b) = (a || b) := by cases a <;> rfl
theorem ko {a b : Bool} : (bif a then some (false, ()) else some (b, ()) : Option (Bool × Unit)) = some (!a && b, ()) := by cases a <;> rfl

section
variable {l : List En} {term : Int}
theorem rRight_loop (hl : l.length < 4611686018427387904) : ∀ (n i : Nat) (a : Int), i + n = l.length →
    two (β := Int × Int × Unit) (γ := Bool × Unit) (loop (rRight_l0 l term) (a, ((i : Int), ()))) (fun _ => some (true, ())) (fun (x, _) => some (x, ())) = some (rightB term (l.drop i) a, ())
  | 0, i, a, h => by
    have h1 : ¬ (i : Int) < (l.length : Int) := by omega
    rw [loop_eq]
    simp only [rRight_l0, cond_if, if_neg h1, two_inl, List.drop_of_length_le (show l.length ≤ i by omega), rightB]
  | n + 1, i, a, h => by
    have h1 : (i : Int) < (l.length : Int) := by omega
    have h2 : (0 : Int) ≤ (i : Int) := by omega
    have hc : l[i]? = some l[i] := List.getElem?_eq_getElem (by omega)
    have hdrop : l.drop i = l[i] :: l.drop (i + 1) := List.drop_eq_getElem_cons (by omega)
    rw [loop_eq, hdrop]
    generalize l[i] = x at hc
    obtain ⟨x1, x2, x3⟩ := x
    have e5 : IntKind.wrap .i64 ((i : Int) + 1) = ((i + 1 : Nat) : Int) := by rw [w64 (by omega)]; omega
    simp only [rRight_l0, decide_eq_true h1, decide_eq_true h2, cond_true, Int.toNat_natCast, hc, Option.bind_some, jo, two_inl, e5, rightB]
    cases hb : (decide (x1 < a) || (decide (term < x1) || (decide (x2 < 0) || (decide (255 < x2) || decide ((65536 : Int) < (x3.length : Int))))))
    · simp only [cond_false, Bool.not_false, Bool.true_and]
      exact rRight_loop hl n (i + 1) x1 (by omega)
    · simp only [cond_true, two_inr, Bool.not_true, Bool.false_and]
theorem rRight_eq' (hl : l.length < 4611686018427387904) (a : Int) : rRight l a term = some (rightB term l a, ()) := by
  rw [rRight_un, rRight_b]
  exact rRight_loop hl l.length 0 a (by omega)
theorem fRight_loop (hl : l.length < 4611686018427387904) : ∀ (n i : Nat) (a : Int), i + n = l.length →
    two (β := Int × Int × Unit) (γ := Bool × Unit) (loop (fCheck_l0 term l) (a, ((i : Int), ()))) (fun _ => some (true, ())) (fun (x, _) => some (x, ())) = some (rightB term (l.drop i) a, ())
  | 0, i, a, h => by
    have h1 : ¬ (i : Int) < (l.length : Int) := by omega
    rw [loop_eq]
    simp only [fCheck_l0, cond_if, if_neg h1, two_inl, List.drop_of_length_le (show l.length ≤ i by omega), rightB]
  | n + 1, i, a, h => by
    have h1 : (i : Int) < (l.length : Int) := by omega
    have h2 : (0 : Int) ≤ (i : Int) := by omega
    have hc : l[i]? = some l[i] := List.getElem?_eq_getElem (by omega)
    have hdrop : l.drop i = l[i] :: l.drop (i + 1) := List.drop_eq_getElem_cons (by omega)
    rw [loop_eq, hdrop]
    generalize l[i] = x at hc
    obtain ⟨x1, x2, x3⟩ := x
    have e5 : IntKind.wrap .i64 ((i : Int) + 1) = ((i + 1 : Nat) : Int) := by rw [w64 (by omega)]; omega
    simp only [fCheck_l0, decide_eq_true h1, decide_eq_true h2, cond_true, Int.toNat_natCast, hc, Option.bind_some, jo, two_inl, e5, rightB]
    cases hb : (decide (x1 < a) || (decide (term < x1) || (decide (x2 < 0) || (decide (255 < x2) || decide ((65536 : Int) < (x3.length : Int))))))
    · simp only [cond_false, Bool.not_false, Bool.true_and]
      exact fRight_loop hl n (i + 1) x1 (by omega)
    · simp only [cond_true, two_inr, Bool.not_true, Bool.false_and]
end
section
variable (m : Ms)
theorem rCheck_eq' (hl : m.es.length < 4611686018427387904) : rCheck m.k m.f m.t m.term m.ix m.lt m.cm m.rd m.at_ m.yes m.es m.d = some (okMsg m, ()) := by
  rw [rCheck_un, rCheck_b]
  simp only [rRight_eq' hl, Option.bind_some, jo, ja, two_inl, ko, Option.some.injEq, Prod.mk.injEq, and_true, okMsg]
  generalize rightB m.term m.es m.lt = B
  rw [Bool.eq_iff_iff]
  simp only [Bool.and_eq_true, Bool.or_eq_true, Bool.not_eq_true', decide_eq_true_eq, decide_eq_false_iff_not, Bool.or_eq_false_iff, Bool.and_eq_false_iff]
  unfold OkNums
  cases B
  · simp
  · simp only [and_true]
    omega
theorem fCheck_eq' (hl : m.es.length < 4611686018427387904) : fCheck m.k m.f m.t m.term m.ix m.lt m.cm m.rd m.at_ m.yes m.es m.d = some (okMsg m, ()) := by
  have hr := fRight_loop (term := m.term) hl m.es.length 0 m.lt (by omega)
  rw [fCheck_un, fCheck_b, fNumbers_un, fNumbers_b]
  simp only [Option.bind_some, jo, jc, ct, two_inl]
  rw [show ((0 : Nat) : Int) = 0 from rfl] at hr
  rw [List.drop_zero] at hr
  rw [hr]
  simp only [ko, Option.some.injEq, Prod.mk.injEq, and_true, okMsg]
  generalize rightB m.term m.es m.lt = B
  rw [Bool.eq_iff_iff]
  by_cases h5 : m.k = 5
  · simp only [decide_eq_true h5, cond_true, Bool.and_eq_true, Bool.or_eq_true, Bool.not_eq_true', decide_eq_true_eq, decide_eq_false_iff_not, Bool.or_eq_false_iff, Bool.and_eq_false_iff]
    unfold OkNums
    cases B
    · simp
    · simp only [and_true]
      omega
  · simp only [decide_eq_false h5, cond_false, Bool.and_eq_true, Bool.or_eq_true, Bool.not_eq_true', decide_eq_true_eq, decide_eq_false_iff_not, Bool.or_eq_false_iff, Bool.and_eq_false_iff]
    unfold OkNums
    cases B
    · simp
    · simp only [and_true]
      omega
end
end Go.Proofs.Ytbnfooeeopmpiaa.TV
