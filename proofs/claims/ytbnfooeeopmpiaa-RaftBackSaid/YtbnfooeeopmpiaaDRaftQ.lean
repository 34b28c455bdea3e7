/-
  RAFT: messages: their texts; messages as the document has them; are two the same?
-/
import Derived.Test.YtbnfooeeopmpiaaDRaftP
namespace Go.Proofs.Ytbnfooeeopmpiaa.TV
open Go Go.RowKit
set_option linter.unusedSimpArgs false
set_option linter.unusedVariables false
set_option maxRecDepth 100000

def nine (m : Ms) : List Int := [m.k, m.f, m.t, m.term, m.ix, m.lt, m.cm, m.rd, m.at_]
def entB (x : En) : List UInt8 := num x.1.toNat ++ num x.2.1.toNat ++ txt x.2.2
def encB (m : Ms) : List UInt8 := numsB (nine m) ++ (num (yesN m.yes) ++ num m.es.length) ++ m.es.flatMap entB ++ txt m.d
def okEn (x : En) : Prop := 0 ≤ x.1 ∧ x.1 ≤ 1099511627776 ∧ 0 ≤ x.2.1 ∧ x.2.1 ≤ 255 ∧ x.2.2.length ≤ 65536
theorem ok_nums {m : Ms} (h : okMsg m = true) : OkNums m ∧ rightB m.term m.es m.lt = true := by simpa [okMsg] using h
theorem right_in {term : Int} : ∀ {es : List En} {a : Int}, rightB term es a = true → ∀ x ∈ es, a ≤ x.1 ∧ x.1 ≤ term ∧ 0 ≤ x.2.1 ∧ x.2.1 ≤ 255 ∧ x.2.2.length ≤ 65536
  | [], _, _, x, hx => by cases hx
  | y :: es, a, h, x, hx => by
    simp only [rightB, Bool.and_eq_true, Bool.not_eq_true', Bool.or_eq_false_iff, decide_eq_false_iff_not] at h
    obtain ⟨⟨h1, h2, h3, h4, h5⟩, h6⟩ := h
    rcases List.mem_cons.1 hx with rfl | hx
    · omega
    · have := right_in h6 x hx
      omega
theorem ents_in {m : Ms} (h : okMsg m = true) : ∀ x ∈ m.es, okEn x := by
  obtain ⟨h1, h2⟩ := ok_nums h
  unfold OkNums at h1
  intro x hx
  have := right_in h2 x hx
  unfold okEn
  omega
theorem nine_in {m : Ms} (h : okMsg m = true) : ∀ z ∈ nine m, 0 ≤ z ∧ z ≤ 1099511627776 := by
  obtain ⟨h1, _⟩ := ok_nums h
  unfold OkNums at h1
  intro z hz
  simp only [nine, List.mem_cons, List.not_mem_nil, or_false] at hz
  omega
theorem onum {z : Int} (h : 0 ≤ z ∧ z ≤ 1099511627776) : oNumber (IntKind.wrap .u64 z) = some (num z.toNat, ()) := by
  rw [wu64 (by omega)]
  have := oNumber_eq' (n := z.toNat) (by omega)
  rw [show ((z.toNat : Nat) : Int) = z by omega] at this
  exact this
theorem fnum {z : Int} (h : 0 ≤ z ∧ z ≤ 1099511627776) : fNumber (IntKind.wrap .u64 z) = some (num z.toNat, ()) := by
  rw [wu64 (by omega)]
  have := fNumber_eq' (n := z.toNat) (by omega)
  rw [show ((z.toNat : Nat) : Int) = z by omega] at this
  exact this
theorem nl {z : Int} (h : 0 ≤ z ∧ z ≤ 1099511627776) : (num z.toNat).length ≤ 10 := num_len10 (by omega)
theorem entB_len {x : En} (h : okEn x) : (num x.1.toNat).length ≤ 10 ∧ (num x.2.1.toNat).length ≤ 10 ∧ (txt x.2.2).length ≤ 65546 := by
  unfold okEn at h
  have := num_len10 (n := x.2.2.length) (by omega)
  exact ⟨nl (by omega), nl (by omega), by simp [txt]; omega⟩
theorem flat_len : ∀ {l : List En}, (∀ x ∈ l, okEn x) → (l.flatMap entB).length ≤ 70000 * l.length
  | [], _ => by simp
  | x :: l, hx => by
    have h3 := flat_len fun y hy => hx y (List.mem_cons_of_mem _ hy)
    have h4 := entB_len (hx x (by simp))
    simp only [List.flatMap_cons, List.length_append, List.length_cons, entB]
    omega
section
variable {l : List En}
theorem rEncode_loop (hok : ∀ x ∈ l, okEn x) (hl : l.length ≤ 16) : ∀ (n i : Nat) (acc : List UInt8), i + n = l.length → acc.length + 70000 * n ≤ 1000000000 →
    loop (rEncode_l0 l) (acc, ((i : Int), ())) = some (.inl (acc ++ (l.drop i).flatMap entB, ((l.length : Int), ())))
  | 0, i, acc, h, _ => by
    have h1 : ¬ (i : Int) < (l.length : Int) := by omega
    rw [loop_eq]
    simp only [rEncode_l0, decide_eq_false h1, cond_false, List.drop_of_length_le (show l.length ≤ i by omega), List.flatMap_nil, List.append_nil]
    rw [show (i : Int) = (l.length : Int) by omega]
  | n + 1, i, acc, h, hacc => by
    have h1 : (i : Int) < (l.length : Int) := by omega
    have h2 : (0 : Int) ≤ (i : Int) := by omega
    have hc : l[i]? = some l[i] := List.getElem?_eq_getElem (by omega)
    have hdrop : l.drop i = l[i] :: l.drop (i + 1) := List.drop_eq_getElem_cons (by omega)
    have hx := hok l[i] (List.getElem_mem _)
    rw [loop_eq, hdrop]
    generalize l[i] = x at hc hx
    obtain ⟨l1, l2, l3⟩ := entB_len hx
    obtain ⟨x1, x2, x3⟩ := x
    unfold okEn at hx
    simp only at l1 l2 l3 hx
    have e5 : IntKind.wrap .i64 ((i : Int) + 1) = ((i + 1 : Nat) : Int) := by rw [w64 (by omega)]; omega
    have k1 : (num x1.toNat).length + (num x2.toNat).length ≤ 9223372036854775807 := by omega
    have k2 : (num x1.toNat ++ num x2.toNat).length + (txt x3).length ≤ 9223372036854775807 := by simp only [List.length_append]; omega
    have k3 : acc.length + (num x1.toNat ++ num x2.toNat ++ txt x3).length ≤ 9223372036854775807 := by simp only [List.length_append]; omega
    simp only [rEncode_l0, decide_eq_true h1, decide_eq_true h2, cond_true, Int.toNat_natCast, hc, Option.bind_some, onum (z := x1) (by omega), onum (z := x2) (by omega), oText_eq' (s := x3) (by omega), decide_eq_true k1, decide_eq_true k2, decide_eq_true k3, e5]
    rw [rEncode_loop hok hl n (i + 1) _ (by omega) (by simp only [List.length_append]; omega)]
    simp [entB]
theorem fEncode_loop (hok : ∀ x ∈ l, okEn x) (hl : l.length ≤ 16) : ∀ (n i : Nat) (acc : List UInt8), i + n = l.length → acc.length + 70000 * n ≤ 1000000000 →
    loop (fEncode_l0 l) (acc, ((i : Int), ())) = some (.inl (acc ++ (l.drop i).flatMap entB, ((l.length : Int), ())))
  | 0, i, acc, h, _ => by
    have h1 : ¬ (i : Int) < (l.length : Int) := by omega
    rw [loop_eq]
    simp only [fEncode_l0, decide_eq_false h1, cond_false, List.drop_of_length_le (show l.length ≤ i by omega), List.flatMap_nil, List.append_nil]
    rw [show (i : Int) = (l.length : Int) by omega]
  | n + 1, i, acc, h, hacc => by
    have h1 : (i : Int) < (l.length : Int) := by omega
    have h2 : (0 : Int) ≤ (i : Int) := by omega
    have hc : l[i]? = some l[i] := List.getElem?_eq_getElem (by omega)
    have hdrop : l.drop i = l[i] :: l.drop (i + 1) := List.drop_eq_getElem_cons (by omega)
    have hx := hok l[i] (List.getElem_mem _)
    rw [loop_eq, hdrop]
    generalize l[i] = x at hc hx
    obtain ⟨l1, l2, l3⟩ := entB_len hx
    obtain ⟨x1, x2, x3⟩ := x
    unfold okEn at hx
    simp only at l1 l2 l3 hx
    have e5 : IntKind.wrap .i64 ((i : Int) + 1) = ((i + 1 : Nat) : Int) := by rw [w64 (by omega)]; omega
    have k1 : acc.length + (num x1.toNat).length ≤ 9223372036854775807 := by omega
    have k2 : (acc ++ num x1.toNat).length + (num x2.toNat).length ≤ 9223372036854775807 := by simp only [List.length_append]; omega
    have k3 : (acc ++ num x1.toNat ++ num x2.toNat).length + (txt x3).length ≤ 9223372036854775807 := by simp only [List.length_append]; omega
    simp only [fEncode_l0, decide_eq_true h1, decide_eq_true h2, cond_true, Int.toNat_natCast, hc, Option.bind_some, fnum (z := x1) (by omega), fnum (z := x2) (by omega), fText_eq' (s := x3) (by omega), decide_eq_true k1, decide_eq_true k2, decide_eq_true k3, e5]
    rw [fEncode_loop hok hl n (i + 1) _ (by omega) (by simp only [List.length_append]; omega)]
    simp [entB]
end
def encR (m : Ms) : List UInt8 × Int × Unit := if okMsg m then (encB m, (0, ())) else ([], (1, ()))
section
variable (m : Ms)
theorem rEncode_eq' (hl : m.es.length < 4611686018427387904) : rEncode m.k m.f m.t m.term m.ix m.lt m.cm m.rd m.at_ m.yes m.es m.d = some (encR m) := by
  rw [rEncode_un, rEncode_b, rCheck_eq' m hl]
  simp only [Option.bind_some, encR]
  cases hok : okMsg m with
  | false => rfl
  | true =>
    obtain ⟨h1, h2⟩ := ok_nums hok
    unfold OkNums at h1
    have b1 := nl (z := m.k) (by omega)
    have b2 := nl (z := m.f) (by omega)
    have b3 := nl (z := m.t) (by omega)
    have b4 := nl (z := m.term) (by omega)
    have b5 := nl (z := m.ix) (by omega)
    have b6 := nl (z := m.lt) (by omega)
    have b7 := nl (z := m.cm) (by omega)
    have b8 := nl (z := m.rd) (by omega)
    have b9 := nl (z := m.at_) (by omega)
    have b10 := num_len10 (n := m.es.length) (by omega)
    have b11 := num_len10 (n := m.d.length) (by omega)
    have b12 : (num (yesN m.yes)).length ≤ 10 := num_len10 (by cases m.yes <;> simp [yesN])
    have e10 : oNumber (IntKind.wrap .u64 (m.es.length : Int)) = some (num m.es.length, ()) := by
      have := onum (z := (m.es.length : Int)) (by omega)
      rwa [Int.toNat_natCast] at this
    have e12 : (bif m.yes then (some (.inl (1, ())) : Option ((Int × Unit) ⊕ Unit)) else some (.inl (0, ()))) = some (.inl (((yesN m.yes : Nat) : Int), ())) := by cases m.yes <;> rfl
    have e13 : oNumber ((yesN m.yes : Nat) : Int) = some (num (yesN m.yes), ()) := oNumber_eq' (by cases m.yes <;> simp [yesN])
    simp only [Bool.not_true, cond_false, Option.bind_some, onum (z := m.k) (by omega), onum (z := m.f) (by omega), onum (z := m.t) (by omega), onum (z := m.term) (by omega), onum (z := m.ix) (by omega), onum (z := m.lt) (by omega), onum (z := m.cm) (by omega), onum (z := m.rd) (by omega), onum (z := m.at_) (by omega), e10, e12, e13, two_inl, List.nil_append, cond_if, if_true]
    simp (disch := simp only [List.length_append]; omega) only [if_pos]
    rw [show ((0 : Int), ()) = (((0 : Nat) : Int), ()) from rfl, rEncode_loop (ents_in hok) (by omega) m.es.length 0 _ (by omega) (by simp only [List.length_append]; omega)]
    simp only [two_inl, List.drop_zero, oText_eq' (s := m.d) (by omega), Option.bind_some]
    have b13 := flat_len (ents_in hok)
    have b14 : (txt m.d).length ≤ 5000 := by simp [txt]; omega
    simp (disch := simp only [List.length_append, List.length_cons, List.length_nil]; omega) only [if_pos]
    simp [encB, nine, numsB]
    omega
theorem fEncode_eq' (hl : m.es.length < 4611686018427387904) : fEncode m.k m.f m.t m.term m.ix m.lt m.cm m.rd m.at_ m.yes m.es m.d = some (encR m) := by
  rw [fEncode_un, fEncode_b, fCheck_eq' m hl, fNumbers_un, fNumbers_b]
  simp only [Option.bind_some, encR]
  cases hok : okMsg m with
  | false => rfl
  | true =>
    obtain ⟨h1, h2⟩ := ok_nums hok
    unfold OkNums at h1
    have b1 := nl (z := m.k) (by omega)
    have b2 := nl (z := m.f) (by omega)
    have b3 := nl (z := m.t) (by omega)
    have b4 := nl (z := m.term) (by omega)
    have b5 := nl (z := m.ix) (by omega)
    have b6 := nl (z := m.lt) (by omega)
    have b7 := nl (z := m.cm) (by omega)
    have b8 := nl (z := m.rd) (by omega)
    have b9 := nl (z := m.at_) (by omega)
    have b10 := num_len10 (n := m.es.length) (by omega)
    have b11 := num_len10 (n := m.d.length) (by omega)
    have b12 : (num (yesN m.yes)).length ≤ 10 := num_len10 (by cases m.yes <;> simp [yesN])
    have e10 : fNumber (IntKind.wrap .u64 (m.es.length : Int)) = some (num m.es.length, ()) := by
      have := fnum (z := (m.es.length : Int)) (by omega)
      rwa [Int.toNat_natCast] at this
    have e14 : num (yesN m.yes) = if m.yes = true then [1] else [0] := by
      cases m.yes
      · exact num_small (by decide)
      · exact num_small (by decide)
    simp only [Bool.not_true, cond_false, Option.bind_some, fnum (z := m.k) (by omega), fnum (z := m.f) (by omega), fnum (z := m.t) (by omega), fnum (z := m.term) (by omega), fnum (z := m.ix) (by omega), fnum (z := m.lt) (by omega), fnum (z := m.cm) (by omega), fnum (z := m.rd) (by omega), fnum (z := m.at_) (by omega), e10, List.nil_append, cond_if, if_true]
    simp (disch := simp only [List.length_append]; omega) only [if_pos]
    have e15 : ∀ X : List UInt8, (bif m.yes then (some (.inl (X ++ [1], ())) : Option ((List UInt8 × Unit) ⊕ Unit)) else some (.inl (X ++ [0], ()))) = some (.inl (X ++ num (yesN m.yes), ())) := by
      intro X
      rw [e14]
      cases m.yes <;> rfl
    rw [e15]
    simp only [two_inl]
    simp (disch := simp only [List.length_append, List.length_cons, List.length_nil]; omega) only [if_pos]
    rw [show ((0 : Int), ()) = (((0 : Nat) : Int), ()) from rfl, fEncode_loop (ents_in hok) (by omega) m.es.length 0 _ (by omega) (by simp only [List.length_append]; omega)]
    simp only [two_inl, List.drop_zero, fText_eq' (s := m.d) (by omega), Option.bind_some]
    have b13 := flat_len (ents_in hok)
    have b14 : (txt m.d).length ≤ 5000 := by simp [txt]; omega
    simp (disch := simp only [List.length_append, List.length_cons, List.length_nil]; omega) only [if_pos]
    simp [encB, nine, numsB]
    omega
end

/-! ### Messages as the document has them; are two the same? -/
def msgT (m : Ms) : Int × Int × Int × Int × Int × Int × Int × Int × Int × Bool × List En × List UInt8 := (m.k, m.f, m.t, m.term, m.ix, m.lt, m.cm, m.rd, m.at_, m.yes, m.es, m.d)
theorem lRef_loop {l : List En} (hl : l.length ≤ 4398046511104) : ∀ (n i : Nat), i + n = l.length → loop (lRef_l0 l) (l.take i, ((i : Int), ())) = some (.inl (l, ((l.length : Int), ())))
  | 0, i, h => by
    have h1 : ¬ (i : Int) < (l.length : Int) := by omega
    rw [loop_eq]
    simp only [lRef_l0, decide_eq_false h1, cond_false, List.take_of_length_le (show l.length ≤ i by omega)]
    rw [show (i : Int) = (l.length : Int) by omega]
  | n + 1, i, h => by
    have h1 : (i : Int) < (l.length : Int) := by omega
    have h2 : (0 : Int) ≤ (i : Int) := by omega
    have hc : l[i]? = some l[i] := List.getElem?_eq_getElem (by omega)
    have htake : l.take (i + 1) = l.take i ++ [l[i]] := by rw [List.take_add_one, hc]; rfl
    have ih := lRef_loop hl n (i + 1) (by omega)
    rw [loop_eq]
    rw [htake] at ih
    generalize l[i] = x at hc ih
    obtain ⟨x1, x2, x3⟩ := x
    have e5 : IntKind.wrap .i64 ((i : Int) + 1) = ((i + 1 : Nat) : Int) := by rw [w64 (by omega)]; omega
    have k1 : ((l.take i).length + List.length [(x1, x2, x3)]) * 32 ≤ 140737488355328 := by simp; omega
    simp only [lRef_l0, decide_eq_true h1, decide_eq_true h2, cond_true, Int.toNat_natCast, hc, Option.bind_some, decide_eq_true k1, e5, ih]
theorem lRef_eq' (m : Ms) (hl : m.es.length ≤ 4398046511104) : lRef m.k m.f m.t m.term m.ix m.lt m.cm m.rd m.at_ m.yes m.es m.d = some (msgT m, ()) := by
  have := lRef_loop hl m.es.length 0 (by omega)
  rw [show ((0 : Nat) : Int) = 0 from rfl, List.take_zero] at this
  rw [lRef_un, lRef_b, this]
  rfl
theorem fSame_loop {l : List En} (hl : l.length < 4611686018427387904) : ∀ (n i : Nat), i + n = l.length → loop (fSame_l0 l l) ((i : Int), ()) = some (.inl ((l.length : Int), ()))
  | 0, i, h => by
    have h1 : ¬ (i : Int) < (l.length : Int) := by omega
    rw [loop_eq]
    simp only [fSame_l0, decide_eq_false h1, cond_false]
    rw [show (i : Int) = (l.length : Int) by omega]
  | n + 1, i, h => by
    have h1 : (i : Int) < (l.length : Int) := by omega
    have h2 : (0 : Int) ≤ (i : Int) := by omega
    have hc : l[i]? = some l[i] := List.getElem?_eq_getElem (by omega)
    rw [loop_eq]
    generalize l[i] = x at hc
    obtain ⟨x1, x2, x3⟩ := x
    have e5 : IntKind.wrap .i64 ((i : Int) + 1) = ((i + 1 : Nat) : Int) := by rw [w64 (by omega)]; omega
    simp only [fSame_l0, decide_eq_true h1, decide_eq_true h2, cond_true, Int.toNat_natCast, hc, Option.bind_some, decide_true, Bool.and_self, Bool.not_true, cond_false, e5, fSame_loop hl n (i + 1) (by omega)]
theorem fSame_eq' (m : Ms) (hl : m.es.length < 4611686018427387904) : fSame m.k m.f m.t m.term m.ix m.lt m.cm m.rd m.at_ m.yes m.es m.d m.k m.f m.t m.term m.ix m.lt m.cm m.rd m.at_ m.yes m.es m.d = some (true, ()) := by
  have := fSame_loop hl m.es.length 0 (by omega)
  rw [show ((0 : Nat) : Int) = 0 from rfl] at this
  rw [fSame_un, fSame_b, fNumbers_un, fNumbers_b]
  simp only [Option.bind_some, decide_true, Bool.and_self, Bool.not_true, cond_false, beq_self_eq_true, two_inl, this]
end Go.Proofs.Ytbnfooeeopmpiaa.TV
