/-
  WAL: a segment's file in plain words: what was laid is read again, up to what was cut off. (8 texts, one behind the other)
-/
import Derived.Test.YthnhbejjikgifaaGreatDoorM13

namespace Go.Proofs.YthnhbejjikgifaaGreatDoor.TV
open Go Go.RowKit
set_option linter.unusedSimpArgs false
set_option linter.unusedVariables false
set_option maxRecDepth 100000

abbrev Ent := Int × Int × List UInt8
def GoodE (e : Ent) : Prop := (0 ≤ e.1 ∧ e.1 ≤ 1099511627776) ∧ (0 ≤ e.2.1 ∧ e.2.1 ≤ 255) ∧ e.2.2.length ≤ 65536
def entBody (e : Ent) : List UInt8 := num e.1.toNat ++ num e.2.1.toNat ++ txt e.2.2
noncomputable def entB (e : Ent) : List UInt8 := frm (entBody e)
def baseBody (i t : Nat) : List UInt8 := num i ++ num t
noncomputable def baseB (i t : Nat) : List UInt8 := frm (baseBody i t)
theorem entBody_length {e : Ent} (h : GoodE e) : (entBody e).length ≤ 65600 := by
  obtain ⟨h1, h2, h3⟩ := h
  have l1 := num_len10 (n := e.1.toNat) (by omega)
  have l2 := num_len10 (n := e.2.1.toNat) (by omega)
  have l3 := num_len10 (n := e.2.2.length) (by omega)
  simp only [entBody, txt, List.length_append]
  omega
theorem entB_length {e : Ent} (h : GoodE e) : (entB e).length ≤ 65608 ∧ 8 ≤ (entB e).length := by
  have := entBody_length h
  unfold entB
  rw [frm_length]
  omega
theorem baseBody_length {i t : Nat} (hi : i < 18446744073709551616) (ht : t < 18446744073709551616) : (baseBody i t).length ≤ 20 := by
  have l1 := num_len10 hi
  have l2 := num_len10 ht
  simp only [baseBody, List.length_append]
  omega
theorem baseB_length {i t : Nat} (hi : i < 18446744073709551616) (ht : t < 18446744073709551616) : (baseB i t).length ≤ 28 ∧ 8 ≤ (baseB i t).length := by
  have := baseBody_length hi ht
  unfold baseB
  rw [frm_length]
  omega
theorem laid_eq {e : Ent} (h : GoodE e) : wLaid e.1 e.2.1 e.2.2 = some (entB e, ()) := by
  have hl := entBody_length h
  obtain ⟨h1, h2, h3⟩ := h
  have e1 : oNumber (IntKind.wrap .u64 e.1) = some (num e.1.toNat, ()) := by
    rw [wu64 (by omega)]
    have := oNumber_eq' (n := e.1.toNat) (by omega)
    rwa [Int.toNat_of_nonneg h1.1] at this
  have e2 : oNumber (IntKind.wrap .u64 e.2.1) = some (num e.2.1.toNat, ()) := by
    rw [wu64 (by omega)]
    have := oNumber_eq' (n := e.2.1.toNat) (by omega)
    rwa [Int.toNat_of_nonneg h2.1] at this
  have e3 := oText_eq' (s := e.2.2) (by omega)
  have l0 : (entBody e).length = (num e.1.toNat).length + (num e.2.1.toNat).length + (txt e.2.2).length := by simp [entBody, Nat.add_assoc]
  have e4 : mFrame (num e.1.toNat ++ num e.2.1.toNat ++ txt e.2.2) = some (entB e, (0, ())) := frame_eq (body := entBody e) (by omega)
  rw [wLaid_un, wLaid_b]
  simp only [e1, e2, e3, Option.bind_some, cond_if]
  rw [if_pos (by omega), if_pos (by rw [List.length_append]; omega), e4]
  rfl
theorem base_eq {i t : Nat} (hi : i < 9223372036854775808) (ht : t < 9223372036854775808) : wBase0 (i : Int) (t : Int) = some (baseB i t, ()) := by
  have hl := baseBody_length (i := i) (t := t) (by omega) (by omega)
  have e1 : oNumber (IntKind.wrap .u64 (i : Int)) = some (num i, ()) := by rw [wu64 (by omega)]; exact oNumber_eq' (by omega)
  have e2 : oNumber (IntKind.wrap .u64 (t : Int)) = some (num t, ()) := by rw [wu64 (by omega)]; exact oNumber_eq' (by omega)
  have l0 : (baseBody i t).length = (num i).length + (num t).length := by simp [baseBody]
  have e4 : mFrame (num i ++ num t) = some (baseB i t, (0, ())) := frame_eq (body := baseBody i t) (by omega)
  rw [wBase0_un, wBase0_b]
  simp only [e1, e2, Option.bind_some, cond_if]
  rw [if_pos (by omega), e4]
  rfl
theorem entry_eq {e : Ent} (h : GoodE e) : wEntry0 (entBody e) = some (e, (true, ())) := by
  have hl := entBody_length h
  obtain ⟨a, b, c⟩ := e
  obtain ⟨h1, h2, h3⟩ := h
  simp only at h1 h2 h3
  have d1 : (entBody (a, b, c)).drop 0 = num a.toNat ++ (num b.toNat ++ txt c) := by simp [entBody]
  have r1 := rdNum_num (most := 1099511627776) d1 (by omega) (by omega)
  have d2 : (entBody (a, b, c)).drop (0 + (num a.toNat).length) = num b.toNat ++ txt c := by rw [← List.drop_drop, d1]; simp
  have r2 := rdNum_num (most := 255) d2 (by omega) (by omega)
  have d3 : (entBody (a, b, c)).drop (0 + (num a.toNat).length + (num b.toNat).length) = txt c ++ [] := by rw [← List.drop_drop, d2]; simp
  have r3 := rdTxt_txt (most := 65536) d3 (by omega) (by omega)
  have hlen : 0 + (num a.toNat).length + (num b.toNat).length + (txt c).length = (entBody (a, b, c)).length := by simp [entBody, Nat.add_assoc]
  have r4 : rdEnd (entBody (a, b, c)) (0 + (num a.toNat).length + (num b.toNat).length + (txt c).length, 0) = (0 + (num a.toNat).length + (num b.toNat).length + (txt c).length, 0) := by
    unfold rdEnd
    rw [if_neg (by simp only [true_and]; omega)]
  have q1 := oRdInt_eq' (S := entBody (a, b, c)) (r := (0, 0)) (most := 1099511627776) (by omega) (by omega)
  rw [r1] at q1
  have q2 := oRdInt_eq' (S := entBody (a, b, c)) (r := (0 + (num a.toNat).length, 0)) (most := 255) (by omega) (by omega)
  rw [r2] at q2
  have q3 := oRdText_eq' (S := entBody (a, b, c)) (r := (0 + (num a.toNat).length + (num b.toNat).length, 0)) (most := 65536) (by omega)
  rw [r3] at q3
  have q4 := oRdEnd_eq' (S := entBody (a, b, c)) (r := (0 + (num a.toNat).length + (num b.toNat).length + (txt c).length, 0))
  rw [r4] at q4
  have z : ((0 : Nat) : Int) = 0 := rfl
  have m1 : ((1099511627776 : Nat) : Int) = 1099511627776 := rfl
  have m2 : ((255 : Nat) : Int) = 255 := rfl
  have m3 : ((65536 : Nat) : Int) = 65536 := rfl
  simp only [z, m1] at q1
  simp only [z, m2] at q2
  simp only [z, m3] at q3
  simp only [z] at q4
  rw [wEntry0_un, wEntry0_b, oNewReader_un, oNewReader_b]
  simp only [Option.bind_some, q1, q2, q3, q4, decide_true]
  rw [Int.toNat_of_nonneg h1.1, Int.toNat_of_nonneg h2.1]

/-! ### How long a segment's file is -/
abbrev Seg := Int × Int × Int × List Ent × List Int
def SegL (n i t : Int) (es : List Ent) (ed : List Int) (L : Nat) : Prop := ed.length = es.length ∧ wLong n i t es ed = some ((L : Int), ())
theorem segL_new {n : Int} {i t : Nat} (hi : i < 9223372036854775808) (ht : t < 9223372036854775808) : SegL n i t [] [] (baseB i t).length := by
  refine ⟨rfl, ?_⟩
  rw [wLong_un, wLong_b]
  have : ¬ (0 : Int) < (([] : List Int).length : Int) := by simp
  simp only [cond_if, if_neg this, base_eq hi ht, Option.bind_some]
theorem long_last {n i t : Int} {es : List Ent} {ed : List Int} {v : Int} (h : ed.length < 1000000) : wLong n i t es (ed ++ [v]) = some (v, ()) := by
  rw [wLong_un, wLong_b]
  have h0 : (0 : Int) < ((ed ++ [v]).length : Int) := by rw [List.length_append, List.length_singleton]; omega
  have h1 : IntKind.wrap .i64 (((ed ++ [v]).length : Int) - 1) = (ed.length : Int) := by rw [w64 (by simp; omega)]; simp
  have h2 : (0 : Int) ≤ (ed.length : Int) := by omega
  simp only [cond_if, if_pos h0, h1, if_pos h2, nat_at]
  rw [List.getElem?_append_right (Nat.le_refl _)]
  simp
theorem lay_step {n i t : Int} {es : List Ent} {ed : List Int} {L : Nat} {e : Ent} (h : SegL n i t es ed L) (he : GoodE e) (hn : es.length < 1000) (hL : L + (entB e).length < 4611686018427387904) :
    ∃ ed', wLay e.1 e.2.1 e.2.2 n i t es ed = some (entB e, (es ++ [e], (ed', ()))) ∧ SegL n i t (es ++ [e]) ed' (L + (entB e).length) := by
  obtain ⟨h1, h2⟩ := h
  have hw : IntKind.wrap .i64 ((L : Int) + ((entB e).length : Int)) = ((L + (entB e).length : Nat) : Int) := by rw [w64 (by omega)]; omega
  refine ⟨ed ++ [((L + (entB e).length : Nat) : Int)], ?_, by simp [h1], long_last (by omega)⟩
  rw [wLay_un, wLay_b]
  simp only [laid_eq he, Option.bind_some, h2, cond_if]
  rw [if_pos (by omega), if_pos (by omega), hw]

/-! ### Reading a segment's file -/
/-- What was cut off: nothing, or a beginning of an entry's frame. -/
def Tail (q : List UInt8) : Prop := q = [] ∨ ∃ e r, GoodE e ∧ q ++ r = entB e ∧ r ≠ [] ∧ q ≠ []
theorem parse_loop {s : List UInt8} {n i t : Int} {q : List UInt8} (hq : Tail q) (hl : s.length < 4611686018427387904) : ∀ (es ac : List Ent) (ed : List Int) (a : Nat), (∀ e ∈ es, GoodE e) → s.drop a = es.flatMap entB ++ q → a ≤ s.length → ac.length + es.length ≤ 8 → SegL n i t ac ed a →
    ∃ ed', SegL n i t (ac ++ es) ed' (s.length - q.length) ∧ loop (wParse_l0 s) ((a : Int), (n, (i, (t, (ac, (ed, ())))))) = some (if q = [] then .inl (((s.length : Nat) : Int), (n, (i, (t, (ac ++ es, (ed', ())))))) else .inr (true, (true, (0, (n, (i, (t, (ac ++ es, (ed', ()))))))))) := by
  intro es
  induction es with
  | nil =>
    intro ac ed a _ hd ha hn hs
    have hd : s.drop a = q := by simpa using hd
    have hlen := congrArg List.length hd
    rw [List.length_drop] at hlen
    refine ⟨ed, by rw [List.append_nil, ← hlen, show s.length - (s.length - a) = a by omega]; exact hs, ?_⟩
    rw [loop_eq]
    rcases hq with rfl | ⟨e, r, he, hqr, hr, hqn⟩
    · have : a = s.length := by simp at hlen; omega
      subst this
      have h0 : ¬ (s.length : Int) < (s.length : Int) := by omega
      simp only [wParse_l0, cond_if, if_neg h0, List.append_nil, if_true]
    · have hql : 0 < q.length := List.length_pos_iff.2 hqn
      have h0 : (a : Int) < (s.length : Int) := by omega
      have hb := entBody_length he
      have hu := unframe_short hd hqr hr ha (by omega) hl
      have c5 : (!decide ((5 : Int) = 0)) = true := rfl
      simp only [wParse_l0, cond_if, if_pos h0, hu, Option.bind_some, c5, if_true, if_neg hqn, List.append_nil]
      rfl
  | cons e es ih =>
    intro ac ed a hg hd ha hn hs
    have he := hg e (by simp)
    have hb := entBody_length he
    have hd' : s.drop a = entB e ++ (es.flatMap entB ++ q) := by rw [hd]; simp
    have hlen := congrArg List.length hd'
    rw [List.length_drop, List.length_append] at hlen
    have h8 := (entB_length he).2
    have hu := unframe_eq hd' (by omega) hl
    rw [show frm (entBody e) = entB e from rfl] at hu
    have h0 : (a : Int) < (s.length : Int) := by omega
    simp only [List.length_cons] at hn
    obtain ⟨ed1, hl1, hl2⟩ := lay_step hs he (by omega) (by omega)
    have hd2 : s.drop (a + (entB e).length) = es.flatMap entB ++ q := by rw [← List.drop_drop, hd']; simp
    obtain ⟨ed', k1, k2⟩ := ih (ac ++ [e]) ed1 (a + (entB e).length) (fun x hx => hg x (by simp [hx])) hd2 (by omega) (by simp; omega) hl2
    rw [List.append_assoc] at k1 k2
    refine ⟨ed', k1, ?_⟩
    rw [loop_eq]
    have c0 : (!decide ((0 : Int) = 0)) = false := rfl
    have c1 : ¬ (ac.length : Int) = 8 := by omega
    simp only [wParse_l0, cond_if, if_pos h0, hu, Option.bind_some, c0, Bool.false_eq_true, if_false, entry_eq he, Bool.not_true, decide_eq_true_eq, if_neg c1, hl1]
    exact k2
theorem parse_ok {n : Int} {i t : Nat} {es : List Ent} {q s : List UInt8} (hi : i ≤ 4611686018427387903) (ht : t ≤ 1099511627776) (hg : ∀ e ∈ es, GoodE e) (hn : es.length ≤ 8) (hq : Tail q) (hs : s = baseB i t ++ (es.flatMap entB ++ q)) (hl : s.length < 4611686018427387904) :
    ∃ ed, wParse n s = some ((n, ((i : Int), ((t : Int), (es, ed)))), (true, (!q.isEmpty, (0, ())))) ∧ SegL n i t es ed (s.length - q.length) := by
  have hb := baseBody_length (i := i) (t := t) (by omega) (by omega)
  have hd0 : s.drop 0 = baseB i t ++ (es.flatMap entB ++ q) := hs
  have hu := unframe_eq (a := 0) hd0 (by omega) hl
  rw [show frm (baseBody i t) = baseB i t from rfl, Nat.zero_add] at hu
  have d1 : (baseBody i t).drop 0 = num i ++ num t := rfl
  have r1 := rdNum_num (most := 4611686018427387903) d1 (by omega) (by omega)
  have d2 : (baseBody i t).drop (0 + (num i).length) = num t ++ [] := by rw [← List.drop_drop, d1]; simp
  have r2 := rdNum_num (most := 1099511627776) d2 (by omega) (by omega)
  have hlen : 0 + (num i).length + (num t).length = (baseBody i t).length := by simp [baseBody]
  have r4 : rdEnd (baseBody i t) (0 + (num i).length + (num t).length, 0) = (0 + (num i).length + (num t).length, 0) := by
    unfold rdEnd
    rw [if_neg (by simp only [true_and]; omega)]
  have q1 := oRdInt_eq' (S := baseBody i t) (r := (0, 0)) (most := 4611686018427387903) (by omega) (by omega)
  rw [r1] at q1
  have q2 := oRdInt_eq' (S := baseBody i t) (r := (0 + (num i).length, 0)) (most := 1099511627776) (by omega) (by omega)
  rw [r2] at q2
  have q4 := oRdEnd_eq' (S := baseBody i t) (r := (0 + (num i).length + (num t).length, 0))
  rw [r4] at q4
  have z : ((0 : Nat) : Int) = 0 := rfl
  have m1 : ((4611686018427387903 : Nat) : Int) = 4611686018427387903 := rfl
  have m2 : ((1099511627776 : Nat) : Int) = 1099511627776 := rfl
  simp only [z, m1] at q1
  simp only [z, m2] at q2
  simp only [z] at q4
  have hsl := congrArg List.length hs
  rw [List.length_append] at hsl
  have hd2 : s.drop (baseB i t).length = es.flatMap entB ++ q := by rw [hs]; simp
  obtain ⟨ed, k1, k2⟩ := parse_loop (n := n) (i := i) (t := t) hq hl es [] [] (baseB i t).length hg hd2 (by omega) (by simpa using hn) (segL_new (by omega) (by omega))
  rw [List.nil_append] at k1 k2
  refine ⟨ed, ?_, k1⟩
  have c0 : (!decide ((0 : Int) = 0)) = false := rfl
  rw [wParse_un, wParse_b]
  simp only [z] at hu
  simp only [hu, Option.bind_some, c0, cond_false, oNewReader_un, oNewReader_b, q1, q2, q4, k2]
  by_cases hq0 : q = []
  · subst hq0
    simp only [if_true, two_inl]
    rfl
  · have : q.isEmpty = false := by cases q with | nil => exact (hq0 rfl).elim | cons _ _ => rfl
    simp only [if_neg hq0, two_inr, this, Bool.not_false]
    rfl
/-- A file in which not even the base is whole. -/
theorem parse_not {n : Int} {i t : Nat} {s r : List UInt8} (hi : i ≤ 4611686018427387903) (ht : t ≤ 1099511627776) (hs : s ++ r = baseB i t) (hr : r ≠ []) :
    wParse n s = some ((n, (0, (0, ([], [])))), (false, (true, (0, ())))) := by
  have hb := baseBody_length (i := i) (t := t) (by omega) (by omega)
  have hlen := congrArg List.length hs
  have h28 := baseB_length (i := i) (t := t) (by omega) (by omega)
  rw [List.length_append] at hlen
  have hu := unframe_short (s := s) (a := 0) (q := s) rfl hs hr (by omega) (by omega) (by omega)
  have z : ((0 : Nat) : Int) = 0 := rfl
  simp only [z] at hu
  have c5 : (!decide ((5 : Int) = 0)) = true := rfl
  rw [wParse_un, wParse_b]
  simp only [hu, Option.bind_some, c5, cond_true]
end Go.Proofs.YthnhbejjikgifaaGreatDoor.TV

/-
  WAL: names of segments' files; a disk in plain words.
-/
namespace Go.Proofs.YthnhbejjikgifaaGreatDoor.TV
open Go Go.RowKit
set_option linter.unusedSimpArgs false
set_option linter.unusedVariables false
set_option maxRecDepth 100000

/-! ### Names -/
def wn (k : Nat) : List UInt8 := [119, 46] ++ Go.Lib.itoa (k : Int)
def okChar (c : UInt8) : Bool := (97 ≤ c.toNat && c.toNat ≤ 122) || (48 ≤ c.toNat && c.toNat ≤ 57) || c.toNat == 46 || c.toNat == 45
theorem wn_facts : ∀ k : Fin 41, (Go.Lib.itoa ((k : Nat) : Int)).length ≤ 20 ∧ (wn k).all okChar = true := by decide +kernel
theorem wn_number : ∀ k : Fin 41, 0 < (k : Nat) → wNumber_b (wn k) = some (((k : Nat) : Int), (true, ())) := by decide +kernel
theorem wn_inj' : ∀ i j : Fin 41, wn i = wn j → i = j := by decide +kernel
theorem wn_inj {i j : Nat} (hi : i < 41) (hj : j < 41) (h : wn i = wn j) : i = j := by
  have := wn_inj' ⟨i, hi⟩ ⟨j, hj⟩ h
  exact congrArg Fin.val this
theorem wn_hard : ∀ k : Fin 41, wn k ≠ [104, 97, 114, 100] ∧ wn k ≠ [104, 97, 114, 100, 46, 110, 101, 119] := by decide +kernel
theorem name_eq {k : Nat} (h : k < 41) : wName (k : Int) = some (wn k, ()) := by
  have hl := (wn_facts ⟨k, h⟩).1
  simp only at hl
  rw [wName_un, wName_b]
  simp only [cond_if]
  rw [if_pos (by omega), if_pos (by omega), if_pos (by omega)]
  rfl
theorem number_eq {k : Nat} (h : k < 41) (h0 : 0 < k) : wNumber (wn k) = some ((k : Int), (true, ())) := by
  rw [wNumber_un]
  exact wn_number ⟨k, h⟩ h0
theorem wn_length {k : Nat} (h : k < 41) : 0 < (wn k).length ∧ (wn k).length ≤ 22 := by
  have hl := (wn_facts ⟨k, h⟩).1
  simp only at hl
  simp only [wn, List.length_append, List.length_cons, List.length_nil]
  omega
theorem dName_valid {s : List UInt8} (h : s.all okChar = true) (h0 : 0 < s.length) (h1 : s.length ≤ 80) : dName s = some (true, ()) := by
  obtain ⟨r, h2, i, h3⟩ := loop_spec (dName_l0 s) (fun st => ∃ i : Nat, st = ((i : Int), ()) ∧ i ≤ s.length) (fun st => s.length - st.1.toNat) (fun r => ∃ i, r = .inl (i, ())) (fun st hst => by
    obtain ⟨i, rfl, hi⟩ := hst
    by_cases hlt : i < s.length
    · left
      have g0 : (i : Int) < (s.length : Int) := by omega
      have g1 : (0 : Int) ≤ (i : Int) := by omega
      have hc : okChar s[i] = true := List.all_eq_true.1 h _ (List.getElem_mem hlt)
      refine ⟨(((i + 1 : Nat) : Int), ()), ?_, ⟨i + 1, rfl, by omega⟩, ?_⟩
      · have hs : s[i]? = some s[i] := List.getElem?_eq_getElem hlt
        generalize s[i] = c at hs hc
        simp only [dName_l0, cond_if, if_pos g0, if_pos g1, nat_at, hs, Option.bind_some, wsucc (i := i) (by omega)]
        generalize hn : (c.toNat : Nat) = n at hc
        have hcc : (97 ≤ n ∧ n ≤ 122) ∨ (48 ≤ n ∧ n ≤ 57) ∨ n = 46 ∨ n = 45 := by simpa [okChar, hn, or_assoc] using hc
        by_cases a1 : (n : Int) < 97 <;> by_cases a2 : (n : Int) < 48 <;> by_cases a3 : (57 : Int) < (n : Int) <;> by_cases a4 : (122 : Int) < (n : Int) <;> by_cases a5 : (n : Int) = 46 <;> by_cases a6 : (n : Int) = 45 <;> first | (exfalso; omega) | (simp [a1, a2, a3, a4, a5, a6, two_inl]; done)
      · simp only [Int.toNat_natCast]
        omega
    · right; left
      have g0 : ¬ (i : Int) < (s.length : Int) := by omega
      exact ⟨_, by simp only [dName_l0, cond_if, if_neg g0]; rfl, _, rfl⟩) (0, ()) ⟨0, rfl, by omega⟩
  subst h3
  rw [dName_un, dName_b, h2]
  simp only [two_inl, cond_if]
  rw [if_pos (by omega)]
  simp
  omega
end Go.Proofs.YthnhbejjikgifaaGreatDoor.TV

/-
  WAL: a disk's calls in plain words.
-/
namespace Go.Proofs.YthnhbejjikgifaaGreatDoor.TV
open Go Go.RowKit
set_option linter.unusedSimpArgs false
set_option linter.unusedVariables false
set_option maxRecDepth 100000

abbrev MapB := List (List UInt8 × List UInt8)
abbrev Chg := Int × List UInt8 × List UInt8 × List UInt8 × Int
abbrev Fall := Int × Int × Int
theorem ask_nil : dAsk [] false = some (0, ()) := by
  rw [dAsk_un, dAsk_b, loop_eq]
  rfl
theorem ask_one {s : List UInt8} (h : dName s = some (true, ())) : dAsk [s] false = some (0, ()) := by
  rw [dAsk_un, dAsk_b, loop_eq]
  have h0 : (0 : Int) < (([s] : List (List UInt8)).length : Int) := by simp
  have e : dAsk_l0 [s] (0, ()) = some (.next (1, ())) := by
    simp only [dAsk_l0, cond_if, if_pos h0]
    rw [if_pos (by decide)]
    simp only [Int.toNat_zero, List.getElem?_cons_zero, Option.bind_some, h]
    rfl
  rw [e]
  simp only [cond_false]
  rw [loop_eq]
  rfl
theorem ask_down (l : List (List UInt8)) : dAsk l true = some (21, ()) := by rw [dAsk_un, dAsk_b]; rfl
theorem name_ok {k : Nat} (h : k < 41) : dName (wn k) = some (true, ()) := dName_valid (wn_facts ⟨k, h⟩).2 (wn_length h).1 (by have := (wn_length h).2; omega)
theorem ask_wn {k : Nat} (h : k < 41) : dAsk [wn k] false = some (0, ()) := ask_one (name_ok h)
theorem ask_hard : dAsk [[104, 97, 114, 100]] false = some (0, ()) := ask_one (dName_valid (by decide) (by decide) (by decide))
theorem ask_hardnew : dAsk [[104, 97, 114, 100, 46, 110, 101, 119]] false = some (0, ()) := ask_one (dName_valid (by decide) (by decide) (by decide))

/-- Falls that are not hit by the change that comes. -/
def NoHit (falls : List Fall) (count : Int) : Prop := falls = [] ∨ ∃ f, falls = [f] ∧ f.1 ≠ count
theorem chg_none {c : Chg} {count : Int} {falls : List Fall} {sure now : MapB} {wait : List Chg} {down : Bool} (h : NoHit falls count) :
    ∃ j, loop (dChange_l0 c.1 c.2.1 c.2.2.1 c.2.2.2.1 c.2.2.2.2 count falls) (0, (sure, (now, (wait, (down, (falls, ())))))) = some (.inl (j, (sure, (now, (wait, (down, (falls, ()))))))) := by
  rcases h with rfl | ⟨f, rfl, hf⟩
  · exact ⟨0, by rw [loop_eq]; rfl⟩
  · obtain ⟨a, b, d⟩ := f
    simp only at hf
    refine ⟨1, ?_⟩
    have e : dChange_l0 c.1 c.2.1 c.2.2.1 c.2.2.2.1 c.2.2.2.2 count [(a, b, d)] (0, (sure, (now, (wait, (down, ([(a, b, d)], ())))))) = some (.next (1, (sure, (now, (wait, (down, ([(a, b, d)], ()))))))) := by
      have h0 : (0 : Int) < (([(a, b, d)] : List Fall).length : Int) := by simp
      simp only [dChange_l0, cond_if, if_pos h0]
      rw [if_pos (by decide)]
      simp only [Int.toNat_zero, List.getElem?_cons_zero, Option.bind_some, if_neg hf]
      rfl
    rw [loop_eq, e]
    simp only
    rw [loop_eq]
    rfl
theorem chg_hit {c : Chg} {count K T : Int} {sure now : MapB} {wait : List Chg} {down : Bool} (hw : wait.length < 1000000) {m m' : MapB} {ws : List Chg} {dn : Bool} (hf : dFail K T sure now (wait ++ [c]) down = some (m, (m', (ws, (dn, ()))))) :
    loop (dChange_l0 c.1 c.2.1 c.2.2.1 c.2.2.2.1 c.2.2.2.2 count [(count, K, T)]) (0, (sure, (now, (wait, (down, ([(count, K, T)], ())))))) = some (.inr (21, (m, (m', (ws, (dn, ([], ()))))))) := by
  have h0 : (0 : Int) < (([(count, K, T)] : List Fall).length : Int) := by simp
  have h1 : ([(count, K, T)] : List Fall).length = 1 := rfl
  have e1 : IntKind.wrap .i64 (0 + 1) = 1 := by decide
  have h2 : (wait.length + 1) * 64 ≤ 140737488355328 := by omega
  obtain ⟨c1, c2, c3, c4, c5⟩ := c
  rw [loop_eq]
  have e : dChange_l0 c1 c2 c3 c4 c5 count [(count, K, T)] (0, (sure, (now, (wait, (down, ([(count, K, T)], ())))))) = some (.ret (21, (m, (m', (ws, (dn, ([], ()))))))) := by
    simp only [dChange_l0, cond_if, if_pos h0]
    rw [if_pos (by decide)]
    simp only [Int.toNat_zero, List.getElem?_cons_zero, Option.bind_some, decide_true, if_true, h1, e1, if_pos h2, hf]
  simp only [e]

/-! ### Calls that no fall hits -/
theorem write_no {k : Nat} {s : List UInt8} {sure now : MapB} {wait : List Chg} {count : Nat} {falls : List Fall} (hk : k < 41) (hn : NoHit falls count) (hw : wait.length < 1000000) (hc : count < 1000000) :
    dWrite (wn k) s sure now wait (count : Int) false falls = some (0, (sure, (mset (wn k) s now, (wait ++ [(1, wn k, [], s, 0)], (((count + 1 : Nat) : Int), (false, (falls, ()))))))) := by
  obtain ⟨j, hl⟩ := chg_none (c := (1, wn k, [], s, 0)) (sure := sure) (now := now) (wait := wait) (down := false) hn
  have h2 : (wait.length + 1) * 64 ≤ 140737488355328 := by omega
  have e : dChange 1 (wn k) [] s 0 sure now wait (count : Int) false falls = some (0, (sure, (mset (wn k) s now, (wait ++ [(1, wn k, [], s, 0)], (((count + 1 : Nat) : Int), (false, (falls, ()))))))) := by
    rw [dChange_un, dChange_b, hl]
    simp only [two_inl, cond_if, if_pos h2]
    rw [if_neg (by decide), if_pos (by decide), wsucc (by omega)]
  rw [dWrite_un, dWrite_b, ask_wn hk]
  simp only [Option.bind_some, e]
  rfl
theorem append_no {k : Nat} {s : List UInt8} {sure now : MapB} {wait : List Chg} {count : Nat} {falls : List Fall} (hk : k < 41) (hn : NoHit falls count) (hw : wait.length < 1000000) (hc : count < 1000000) (hs : ((mget (wn k) now).getD []).length + s.length ≤ 9223372036854775807) :
    dAppend (wn k) s sure now wait (count : Int) false falls = some (0, (sure, (mset (wn k) ((mget (wn k) now).getD [] ++ s) now, (wait ++ [(0, wn k, [], s, 0)], (((count + 1 : Nat) : Int), (false, (falls, ()))))))) := by
  obtain ⟨j, hl⟩ := chg_none (c := (0, wn k, [], s, 0)) (sure := sure) (now := now) (wait := wait) (down := false) hn
  have h2 : (wait.length + 1) * 64 ≤ 140737488355328 := by omega
  have e : dChange 0 (wn k) [] s 0 sure now wait (count : Int) false falls = some (0, (sure, (mset (wn k) ((mget (wn k) now).getD [] ++ s) now, (wait ++ [(0, wn k, [], s, 0)], (((count + 1 : Nat) : Int), (false, (falls, ()))))))) := by
    rw [dChange_un, dChange_b, hl]
    simp only [two_inl, cond_if, if_pos h2]
    rw [if_pos (by decide), if_pos hs, wsucc (by omega)]
  rw [dAppend_un, dAppend_b, ask_wn hk]
  simp only [Option.bind_some, e]
  by_cases hs0 : s = [] <;> simp [hs0, two_inl]
theorem remove_no {k : Nat} {sure now : MapB} {wait : List Chg} {count : Nat} {falls : List Fall} (hk : k < 41) (hn : NoHit falls count) (hw : wait.length < 1000000) (hc : count < 1000000) (hs : (mget (wn k) now).isSome = true) :
    dRemove (wn k) sure now wait (count : Int) false falls = some (0, (sure, (mdel (wn k) now, (wait ++ [(3, wn k, [], [], 0)], (((count + 1 : Nat) : Int), (false, (falls, ()))))))) := by
  obtain ⟨j, hl⟩ := chg_none (c := (3, wn k, [], [], 0)) (sure := sure) (now := now) (wait := wait) (down := false) hn
  have h2 : (wait.length + 1) * 64 ≤ 140737488355328 := by omega
  have e : dChange 3 (wn k) [] [] 0 sure now wait (count : Int) false falls = some (0, (sure, (mdel (wn k) now, (wait ++ [(3, wn k, [], [], 0)], (((count + 1 : Nat) : Int), (false, (falls, ()))))))) := by
    rw [dChange_un, dChange_b, hl]
    simp only [two_inl, cond_if, if_pos h2]
    rw [if_neg (by decide), if_neg (by decide), if_neg (by decide), if_pos (by decide), wsucc (by omega)]
  rw [dRemove_un, dRemove_b, ask_wn hk]
  simp only [Option.bind_some, e, hs]
  rfl
theorem cut_no {k L : Nat} {sure now : MapB} {wait : List Chg} {count : Nat} {falls : List Fall} {s : List UInt8} (hk : k < 41) (hn : NoHit falls count) (hw : wait.length < 1000000) (hc : count < 1000000) (hs : mget (wn k) now = some s) (hL : L ≤ s.length) (hsl : s.length < 4611686018427387904) :
    dCut (wn k) (L : Int) sure now wait (count : Int) false falls = some (0, (sure, (mset (wn k) (s.take L) now, (wait ++ [(4, wn k, [], [], (L : Int))], (((count + 1 : Nat) : Int), (false, (falls, ()))))))) := by
  obtain ⟨j, hl⟩ := chg_none (c := (4, wn k, [], [], (L : Int))) (sure := sure) (now := now) (wait := wait) (down := false) hn
  have h2 : (wait.length + 1) * 64 ≤ 140737488355328 := by omega
  have h3 : ¬ (L : Int) < 0 := by omega
  have h4 : ¬ (s.length : Int) < (L : Int) := by omega
  have h5 : within s.length none (some (L : Int)) = true := by simp only [within, decide_eq_true_eq]; omega
  have e : dChange 4 (wn k) [] [] (L : Int) sure now wait (count : Int) false falls = some (0, (sure, (mset (wn k) (s.take L) now, (wait ++ [(4, wn k, [], [], (L : Int))], (((count + 1 : Nat) : Int), (false, (falls, ()))))))) := by
    rw [dChange_un, dChange_b, hl]
    simp only [two_inl, cond_if, if_pos h2, hs, Option.getD_some, h5, cut, Int.toNat_natCast]
    rw [if_neg (by decide), if_neg (by decide), if_neg (by decide), if_neg (by decide), if_pos (by decide), wsucc (by omega)]
    rfl
  rw [dCut_un, dCut_b, ask_wn hk]
  simp only [Option.bind_some, e, hs, Option.isSome_some, Bool.not_true, cond_false, cond_if, if_neg h3, Option.getD_some, if_neg h4]
  rfl
theorem sync_eq {sure now : MapB} {wait : List Chg} : dSync sure now wait false = some (0, (now, (now, ([], ())))) := by
  rw [dSync_un, dSync_b, ask_nil]
  rfl
theorem read_some {k : Nat} {now : MapB} {s : List UInt8} (hk : k < 41) (h : mget (wn k) now = some s) : dRead (wn k) now false = some (s, (0, (now, ()))) := by
  rw [dRead_un, dRead_b, ask_wn hk]
  simp only [Option.bind_some, h]
  rfl
theorem read_hard {now : MapB} (h : mget [104, 97, 114, 100] now = none) : dRead [104, 97, 114, 100] now false = some ([], (4, (now, ()))) := by
  rw [dRead_un, dRead_b, ask_hard]
  simp only [Option.bind_some, h]
  rfl
theorem read_hardnew {now : MapB} (h : mget [104, 97, 114, 100, 46, 110, 101, 119] now = none) : dRead [104, 97, 114, 100, 46, 110, 101, 119] now false = some ([], (4, (now, ()))) := by
  rw [dRead_un, dRead_b, ask_hardnew]
  simp only [Option.bind_some, h]
  rfl

/-! ### Calls that a fall hits -/
theorem write_hit {k : Nat} {s : List UInt8} {sure now : MapB} {wait : List Chg} {count K T : Int} (hk : k < 41) (hw : wait.length < 1000000) {m m' : MapB} {ws : List Chg} {dn : Bool} (hf : dFail K T sure now (wait ++ [(1, wn k, [], s, 0)]) false = some (m, (m', (ws, (dn, ()))))) :
    dWrite (wn k) s sure now wait count false [(count, K, T)] = some (21, (m, (m', (ws, (count, (dn, ([], ()))))))) := by
  have hl := chg_hit (c := (1, wn k, [], s, 0)) (count := count) hw hf
  have e : dChange 1 (wn k) [] s 0 sure now wait count false [(count, K, T)] = some (21, (m, (m', (ws, (count, (dn, ([], ()))))))) := by
    rw [dChange_un, dChange_b, hl]
    simp only [two_inr]
  rw [dWrite_un, dWrite_b, ask_wn hk]
  simp only [Option.bind_some, e]
  rfl
theorem append_hit {k : Nat} {s : List UInt8} {sure now : MapB} {wait : List Chg} {count K T : Int} (hk : k < 41) (hw : wait.length < 1000000) {m m' : MapB} {ws : List Chg} {dn : Bool} (hf : dFail K T sure now (wait ++ [(0, wn k, [], s, 0)]) false = some (m, (m', (ws, (dn, ()))))) :
    dAppend (wn k) s sure now wait count false [(count, K, T)] = some (21, (m, (m', (ws, (count, (dn, ([], ()))))))) := by
  have hl := chg_hit (c := (0, wn k, [], s, 0)) (count := count) hw hf
  have e : dChange 0 (wn k) [] s 0 sure now wait count false [(count, K, T)] = some (21, (m, (m', (ws, (count, (dn, ([], ()))))))) := by
    rw [dChange_un, dChange_b, hl]
    simp only [two_inr]
  rw [dAppend_un, dAppend_b, ask_wn hk]
  simp only [Option.bind_some, e]
  by_cases hs0 : s = [] <;> simp [hs0, two_inl]
end Go.Proofs.YthnhbejjikgifaaGreatDoor.TV

/-
  WAL: the files of a log, how they come to be, and what is left of them behind a fall.
-/
namespace Go.Proofs.YthnhbejjikgifaaGreatDoor.TV
open Go Go.RowKit
set_option linter.unusedSimpArgs false
set_option linter.unusedVariables false
set_option maxRecDepth 100000

/-! ### Maps -/
theorem mget_skip {k : List UInt8} {l m : MapB} (h : ∀ e ∈ l, e.1 ≠ k) : mget k (l ++ m) = mget k m := by
  induction l with
  | nil => rfl
  | cons e l ih =>
    have h1 : ¬ k = e.1 := fun he => h e (by simp) he.symm
    simp only [List.cons_append, mget, if_neg h1]
    exact ih fun x hx => h x (by simp [hx])
theorem mset_skip {k v : List UInt8} {l m : MapB} (h : ∀ e ∈ l, e.1 ≠ k) : mset k v (l ++ m) = l ++ mset k v m := by
  induction l with
  | nil => rfl
  | cons e l ih =>
    have h1 : ¬ k = e.1 := fun he => h e (by simp) he.symm
    simp only [List.cons_append, mset, if_neg h1]
    rw [ih fun x hx => h x (by simp [hx])]
theorem mdel_skip {k : List UInt8} {l m : MapB} (h : ∀ e ∈ l, e.1 ≠ k) : mdel k (l ++ m) = l ++ mdel k m := by
  induction l with
  | nil => rfl
  | cons e l ih =>
    have h1 : ¬ k = e.1 := fun he => h e (by simp) he.symm
    simp only [List.cons_append, mdel, if_neg h1]
    rw [ih fun x hx => h x (by simp [hx])]
theorem mget_none {k : List UInt8} {l : MapB} (h : ∀ e ∈ l, e.1 ≠ k) : mget k l = none := by
  have := mget_skip (m := []) h
  rwa [List.append_nil] at this

/-! ### Files -/
abbrev CL := List (List Ent)
def lastT (t : Nat) (c : List Ent) : Nat := match c.getLast? with
  | some e => e.1.toNat
  | none => t
theorem lastT_append (t : Nat) (a b : List Ent) : lastT t (a ++ b) = lastT (lastT t a) b := by
  unfold lastT
  rw [List.getLast?_append]
  cases b.getLast? <;> rfl
theorem lastT_le {t : Nat} {c : List Ent} (h : ∀ e ∈ c, GoodE e) (ht : t ≤ 1099511627776) : lastT t c ≤ 1099511627776 := by
  unfold lastT
  split
  · rename_i e he
    have := (h e (List.mem_of_getLast? he)).1
    omega
  · exact ht
noncomputable def filesFrom : Nat → Nat → Nat → CL → MapB
  | _, _, _, [] => []
  | k, i, t, c :: cs => (wn k, baseB i t ++ c.flatMap entB) :: filesFrom (k + 1) (i + c.length) (lastT t c) cs
theorem filesFrom_append : ∀ (a : CL) (k i t : Nat) (b : CL), filesFrom k i t (a ++ b) = filesFrom k i t a ++ filesFrom (k + a.length) (i + a.flatten.length) (lastT t a.flatten) b
  | [], k, i, t, b => by simp [filesFrom, lastT]
  | c :: a, k, i, t, b => by
    simp only [List.cons_append, filesFrom]
    rw [filesFrom_append a]
    have e1 : k + 1 + a.length = k + (c :: a).length := by rw [List.length_cons]; omega
    have e2 : i + c.length + a.flatten.length = i + (c :: a).flatten.length := by rw [List.flatten_cons, List.length_append]; omega
    have e3 : lastT (lastT t c) a.flatten = lastT t (c :: a).flatten := by rw [List.flatten_cons, lastT_append]
    rw [e1, e2, e3]
noncomputable def F (cs : CL) : MapB := filesFrom 1 0 0 cs
/-- The base of the segment behind these. -/
noncomputable def bse (cs : CL) : List UInt8 := baseB cs.flatten.length (lastT 0 cs.flatten)
theorem F_snoc (pre : CL) (c : List Ent) : F (pre ++ [c]) = F pre ++ [(wn (pre.length + 1), bse pre ++ c.flatMap entB)] := by
  unfold F bse
  rw [filesFrom_append, Nat.add_comm 1 pre.length, Nat.zero_add]
  rfl
theorem filesFrom_key : ∀ (cs : CL) (k i t : Nat), ∀ e ∈ filesFrom k i t cs, ∃ j, k ≤ j ∧ j < k + cs.length ∧ e.1 = wn j
  | [], _, _, _, e, h => by simp [filesFrom] at h
  | c :: cs, k, i, t, e, h => by
    simp only [filesFrom, List.mem_cons] at h
    rcases h with rfl | h
    · exact ⟨k, Nat.le_refl _, by simp, rfl⟩
    · obtain ⟨j, h1, h2, h3⟩ := filesFrom_key cs _ _ _ e h
      exact ⟨j, by omega, by rw [List.length_cons]; omega, h3⟩
theorem F_fresh {cs : CL} (h : cs.length ≤ 36) : ∀ e ∈ F cs, e.1 ≠ wn (cs.length + 1) := fun e he heq => by
  obtain ⟨j, h1, h2, h3⟩ := filesFrom_key cs 1 0 0 e he
  rw [h3] at heq
  have := wn_inj (by omega) (by omega) heq
  omega
def OkC (cs : CL) : Prop := cs.length ≤ 35 ∧ ∀ c ∈ cs, c.length ≤ 8 ∧ ∀ e ∈ c, GoodE e
theorem OkC.good {cs : CL} (h : OkC cs) : ∀ e ∈ cs.flatten, GoodE e := fun e he => by
  obtain ⟨c, hc, hec⟩ := List.mem_flatten.1 he
  exact (h.2 c hc).2 e hec
theorem flatten_le : ∀ {cs : CL}, (∀ c ∈ cs, c.length ≤ 8) → cs.flatten.length ≤ 8 * cs.length
  | [], _ => by simp
  | c :: cs, h => by
    have := flatten_le fun x hx => h x (List.mem_cons_of_mem _ hx)
    have := h c (by simp)
    rw [List.flatten_cons, List.length_append, List.length_cons]
    omega
theorem OkC.len {cs : CL} (h : OkC cs) : cs.flatten.length ≤ 280 := by
  have := flatten_le fun c hc => (h.2 c hc).1
  have := h.1
  omega
theorem OkC.term {cs : CL} (h : OkC cs) : lastT 0 cs.flatten ≤ 1099511627776 := lastT_le h.good (by omega)
theorem OkC.pre {a b : CL} (h : OkC (a ++ b)) : OkC a := ⟨by have := h.1; rw [List.length_append] at this; omega, fun c hc => h.2 c (List.mem_append_left _ hc)⟩
theorem OkC.last {pre : CL} {c : List Ent} (h : OkC (pre ++ [c])) : c.length ≤ 8 ∧ ∀ e ∈ c, GoodE e := h.2 c (by simp)
theorem OkC.cut {pre : CL} {c c' : List Ent} (h : OkC (pre ++ [c])) (hl : c'.length ≤ c.length) (hm : ∀ e ∈ c', e ∈ c) : OkC (pre ++ [c']) :=
  ⟨by have := h.1; simpa using this, fun x hx => by
    rcases List.mem_append.1 hx with hx | hx
    · exact h.2 x (List.mem_append_left _ hx)
    · rw [List.mem_singleton] at hx
      subst hx
      exact ⟨Nat.le_trans hl h.last.1, fun e he => h.last.2 e (hm e he)⟩⟩
theorem ents_length : ∀ {c : List Ent}, (∀ e ∈ c, GoodE e) → (c.flatMap entB).length ≤ 65608 * c.length
  | [], _ => by simp
  | e :: c, h => by
    have h1 := ents_length fun x hx => h x (List.mem_cons_of_mem _ hx)
    have h2 := (entB_length (h e (by simp))).1
    rw [List.flatMap_cons, List.length_append, List.length_cons]
    omega
theorem bse_length {cs : CL} (h : OkC cs) : (bse cs).length ≤ 28 := (baseB_length (by have := h.len; omega) (by have := h.term; omega)).1

/-! ### Steps -/
def LayStep (cs : CL) (c : Chg) (cs' : CL) : Prop := OkC cs' ∧ ((∃ pre a xs, cs = pre ++ [a] ∧ cs' = pre ++ [a ++ xs] ∧ c = (0, wn (pre.length + 1), [], xs.flatMap entB, 0)) ∨ (∃ xs, cs' = cs ++ [xs] ∧ c = (1, wn (cs.length + 1), [], bse cs ++ xs.flatMap entB, 0)))
theorem LayStep.ok {cs cs' : CL} {c : Chg} (h : LayStep cs c cs') : OkC cs := by
  obtain ⟨h0, ⟨pre, a, xs, rfl, rfl, _⟩ | ⟨xs, rfl, _⟩⟩ := h
  · exact h0.cut (by simp) (fun e he => by simp [he])
  · exact h0.pre
theorem LayStep.pfx {cs cs' : CL} {c : Chg} (h : LayStep cs c cs') : cs.flatten <+: cs'.flatten := by
  obtain ⟨h0, ⟨pre, a, xs, rfl, rfl, _⟩ | ⟨xs, rfl, _⟩⟩ := h
  · exact ⟨xs, by simp⟩
  · exact ⟨xs, by simp⟩
theorem get_last {pre : CL} {v : List UInt8} (h : pre.length ≤ 36) : mget (wn (pre.length + 1)) (F pre ++ [(wn (pre.length + 1), v)]) = some v := by
  rw [mget_skip (F_fresh h)]
  simp [mget]
theorem set_last {pre : CL} {v w : List UInt8} (h : pre.length ≤ 36) : mset (wn (pre.length + 1)) w (F pre ++ [(wn (pre.length + 1), v)]) = F pre ++ [(wn (pre.length + 1), w)] := by
  rw [mset_skip (F_fresh h)]
  simp [mset]
theorem set_new {cs : CL} {w : List UInt8} (h : cs.length ≤ 36) : mset (wn (cs.length + 1)) w (F cs) = F cs ++ [(wn (cs.length + 1), w)] := by
  have := mset_skip (v := w) (m := []) (F_fresh h)
  rw [List.append_nil] at this
  rw [this]
  rfl
theorem del_last {cs : CL} {v : List UInt8} (h : cs.length ≤ 36) : mdel (wn (cs.length + 1)) (F cs ++ [(wn (cs.length + 1), v)]) = F cs := by
  rw [mdel_skip (F_fresh h)]
  simp [mdel]
def TraceL : List Chg → CL → CL → Prop
  | [], a, d => a = d
  | c :: ws, a, d => ∃ b, LayStep a c b ∧ TraceL ws b d
theorem TraceL.append : ∀ {u v : List Chg} {a b d : CL}, TraceL u a b → TraceL v b d → TraceL (u ++ v) a d
  | [], _, _, _, _, h, h' => by
    have h : _ = _ := h
    subst h
    exact h'
  | c :: u, v, a, b, d, ⟨x, h1, h2⟩, h' => ⟨x, h1, h2.append h'⟩
theorem TraceL.split : ∀ {u v : List Chg} {a d : CL}, TraceL (u ++ v) a d → ∃ b, TraceL u a b ∧ TraceL v b d
  | [], v, a, d, h => ⟨a, rfl, h⟩
  | c :: u, v, a, d, ⟨x, h1, h2⟩ => by
    obtain ⟨b, h3, h4⟩ := TraceL.split h2
    exact ⟨b, ⟨x, h1, h3⟩, h4⟩
theorem TraceL.pfx : ∀ {ws : List Chg} {a d : CL}, TraceL ws a d → a.flatten <+: d.flatten
  | [], _, _, h => by
    have h : _ = _ := h
    subst h
    exact List.prefix_rfl
  | c :: ws, a, d, ⟨x, h1, h2⟩ => h1.pfx.trans h2.pfx

/-! ### What is cut off -/
theorem take_ents : ∀ (n : Nat) (xs : List Ent), (∀ e ∈ xs, GoodE e) → ∃ j q, j ≤ xs.length ∧ (xs.flatMap entB).take n = (xs.take j).flatMap entB ++ q ∧ Tail q
  | n, [], _ => ⟨0, [], by simp, by simp, .inl rfl⟩
  | n, e :: xs, h => by
    by_cases hn : (entB e).length ≤ n
    · obtain ⟨j, q, h1, h2, h3⟩ := take_ents (n - (entB e).length) xs fun x hx => h x (List.mem_cons_of_mem _ hx)
      refine ⟨j + 1, q, by rw [List.length_cons]; omega, ?_, h3⟩
      rw [List.flatMap_cons, List.take_append, List.take_of_length_le hn, h2, List.take_succ_cons, List.flatMap_cons, List.append_assoc]
    · refine ⟨0, (entB e).take n, by omega, ?_, ?_⟩
      · rw [List.flatMap_cons, List.take_append_of_le_length (by omega)]
        rfl
      · by_cases h0 : (entB e).take n = []
        · exact .inl h0
        · refine .inr ⟨e, (entB e).drop n, h e (by simp), List.take_append_drop _ _, ?_, h0⟩
          intro h1
          have := congrArg List.length h1
          rw [List.length_drop, List.length_nil] at this
          omega
/-- What is left of the files behind a fall between a and d. -/
def Rec (m : MapB) (a d : CL) : Prop := ∃ cs : CL, a.flatten <+: cs.flatten ∧ cs.flatten <+: d.flatten ∧ OkC cs ∧ cs ≠ [] ∧
  ((∃ pre c q, cs = pre ++ [c] ∧ Tail q ∧ m = F pre ++ [(wn (pre.length + 1), bse pre ++ (c.flatMap entB ++ q))]) ∨ (∃ p r, p ++ r = bse cs ∧ r ≠ [] ∧ m = F cs ++ [(wn (cs.length + 1), p)]))
theorem Rec.whole {a cs d : CL} (h1 : a.flatten <+: cs.flatten) (h2 : cs.flatten <+: d.flatten) (h3 : OkC cs) (h4 : cs ≠ []) : Rec (F cs) a d := by
  refine ⟨cs, h1, h2, h3, h4, .inl ?_⟩
  have hs : cs = cs.dropLast ++ [cs.getLast h4] := (List.dropLast_concat_getLast h4).symm
  refine ⟨cs.dropLast, cs.getLast h4, [], hs, .inl rfl, ?_⟩
  rw [List.append_nil, ← F_snoc, ← hs]
theorem LayStep.ne {cs cs' : CL} {c : Chg} (h : LayStep cs c cs') : cs' ≠ [] := by
  obtain ⟨h0, ⟨pre, a, xs, rfl, rfl, _⟩ | ⟨xs, rfl, _⟩⟩ := h <;> simp

/-! ### The power fails -/
theorem fail_round {K : Int} {ws : List Chg} {kn i : Nat} {cs cs' : CL} {c : Chg} (hkk : (if ((ws.length : Int)) < (if 0 > K then 0 else K) then (ws.length : Int) else (if 0 > K then 0 else K)) = (kn : Int)) (hk : kn ≤ ws.length) (hws : ws.length < 1000000) (hi : i < kn) (hc : ws[i]? = some c) (hs : LayStep cs c cs') :
    dFail_l0 K ws ((i : Int), (F cs, ())) = some (.next (((i + 1 : Nat) : Int), (F cs', ()))) := by
  have hcl : (cut ws none (some (kn : Int))).length = kn := by
    simp only [cut, Int.toNat_natCast, List.length_take]
    omega
  have h0 : (i : Int) < (kn : Int) := by omega
  have h1 : (0 : Int) ≤ (i : Int) := by omega
  have hg : (cut ws none (some (kn : Int)))[i]? = some c := by
    simp only [cut, Int.toNat_natCast]
    rw [List.getElem?_take_of_lt hi, hc]
  have hok := hs.1
  obtain ⟨_, ⟨pre, a, xs, rfl, rfl, rfl⟩ | ⟨xs, rfl, rfl⟩⟩ := hs
  · have hp : pre.length ≤ 36 := by have := hok.1; rw [List.length_append, List.length_singleton] at this; omega
    have hlast := hok.last
    have hl : (bse pre ++ a.flatMap entB).length + (xs.flatMap entB).length ≤ 9223372036854775807 := by
      have h2 := bse_length hok.pre
      have h3 := ents_length hlast.2
      rw [List.flatMap_append, List.length_append] at h3
      rw [List.length_append]
      have := hlast.1
      omega
    simp only [dFail_l0, hkk, cond_if, hcl, if_pos h0, if_pos h1, nat_at, hg, Option.bind_some]
    rw [if_pos (by decide), F_snoc, get_last hp, Option.getD_some, if_pos hl, set_last hp, wsucc (by omega), F_snoc, List.flatMap_append, List.append_assoc]
  · have hp : cs.length ≤ 36 := by have := hok.1; rw [List.length_append, List.length_singleton] at this; omega
    simp only [dFail_l0, hkk, cond_if, hcl, if_pos h0, if_pos h1, nat_at, hg, Option.bind_some]
    rw [if_neg (by decide), if_pos (by decide), set_new hp, wsucc (by omega), F_snoc]
theorem fail_loop {K : Int} {ws : List Chg} {kn : Nat} (hkk : (if ((ws.length : Int)) < (if 0 > K then 0 else K) then (ws.length : Int) else (if 0 > K then 0 else K)) = (kn : Int)) (hk : kn ≤ ws.length) (hws : ws.length < 1000000) :
    ∀ (rest : List Chg) (i : Nat) (cs d : CL), (ws.take kn).drop i = rest → i ≤ kn → TraceL rest cs d → loop (dFail_l0 K ws) ((i : Int), (F cs, ())) = some (.inl ((kn : Int), (F d, ())))
  | [], i, cs, d, hr, hi, ht => by
    have ht : cs = d := ht
    subst ht
    have hcl : (cut ws none (some (kn : Int))).length = kn := by
      simp only [cut, Int.toNat_natCast, List.length_take]
      omega
    have hik : i = kn := by
      have := congrArg List.length hr
      rw [List.length_drop, List.length_take, List.length_nil] at this
      omega
    subst hik
    have h0 : ¬ (i : Int) < (i : Int) := by omega
    rw [loop_eq]
    simp only [dFail_l0, hkk, cond_if, hcl, if_neg h0]
  | c :: rest, i, cs, d, hr, hi, ⟨b, h1, h2⟩ => by
    have hlen := congrArg List.length hr
    rw [List.length_drop, List.length_take, List.length_cons] at hlen
    have hc : ws[i]? = some c := by
      have : ((ws.take kn).drop i)[0]? = some c := by rw [hr]; rfl
      rw [List.getElem?_drop, Nat.add_zero, List.getElem?_take_of_lt (by omega)] at this
      exact this
    have hr' : (ws.take kn).drop (i + 1) = rest := by
      rw [← List.drop_drop, hr]
      rfl
    rw [loop_eq, fail_round hkk hk hws (by omega) hc h1]
    exact fail_loop hkk hk hws rest (i + 1) b d hr' (by omega) h2
theorem clamp (K : Int) (n : Nat) : ∃ kn : Nat, (if (n : Int) < (if 0 > K then 0 else K) then (n : Int) else (if 0 > K then 0 else K)) = (kn : Int) ∧ kn ≤ n := by
  by_cases h : 0 > K
  · rw [if_pos h, if_neg (by omega)]
    exact ⟨0, rfl, by omega⟩
  · rw [if_neg h]
    by_cases h2 : (n : Int) < K
    · rw [if_pos h2]
      exact ⟨n, rfl, Nat.le_refl _⟩
    · rw [if_neg h2]
      exact ⟨K.toNat, by omega, by omega⟩
theorem fail_eq {K T : Int} {a d : CL} {ws : List Chg} {now : MapB} (ht : TraceL ws a d) (ha : OkC a) (hd : OkC d) (hne : a ≠ []) (hws : ws.length < 1000000) :
    ∃ m, dFail K T (F a) now ws false = some (m, (m, ([], (true, ())))) ∧ Rec m a d := by
  obtain ⟨kn, hkk, hk⟩ := clamp K ws.length
  have hsp : ws = ws.take kn ++ ws.drop kn := (List.take_append_drop _ _).symm
  rw [hsp] at ht
  obtain ⟨b, h1, h2⟩ := ht.split
  have hl := fail_loop hkk hk hws (ws.take kn) 0 a b rfl (by omega) h1
  have z : ((0 : Nat) : Int) = 0 := rfl
  rw [z] at hl
  have hpa := h1.pfx
  have hpd := h2.pfx
  have hb : OkC b ∧ b ≠ [] := by
    clear hl h2 hpa hpd
    have key : ∀ (ws : List Chg) (a b : CL), TraceL ws a b → OkC a → a ≠ [] → OkC b ∧ b ≠ [] := by
      intro ws
      induction ws with
      | nil => intro a b h h0 h1; have h : a = b := h; subst h; exact ⟨h0, h1⟩
      | cons c ws ih => intro a b ⟨x, g1, g2⟩ _ _; exact ih x b g2 g1.1 g1.ne
    exact key _ _ _ h1 ha hne
  have hin : within ws.length none (some (kn : Int)) = true := by simp only [within, decide_eq_true_eq]; omega
  have hwhole := Rec.whole hpa hpd hb.1 hb.2
  by_cases hlt : kn < ws.length
  · have h3 : (kn : Int) < (ws.length : Int) := by omega
    by_cases hT : 0 < T
    · have hc : ws[kn]? = some ws[kn] := List.getElem?_eq_getElem hlt
      have hdrop : ws.drop kn = ws[kn] :: ws.drop (kn + 1) := List.drop_eq_getElem_cons hlt
      rw [hdrop] at h2
      obtain ⟨x, hs, h4⟩ := h2
      generalize ws[kn] = c at hc hs
      have hpx := h4.pfx
      have h0k : (0 : Int) ≤ (kn : Int) := by omega
      have hok := hs.1
      obtain ⟨_, ⟨pre, e, xs, rfl, rfl, rfl⟩ | ⟨xs, rfl, rfl⟩⟩ := hs
      · obtain ⟨n, hn1, hn2⟩ : ∃ n : Nat, (if (((xs.flatMap entB).length : Nat) : Int) < T then (((xs.flatMap entB).length : Nat) : Int) else T) = (n : Int) ∧ n ≤ (xs.flatMap entB).length := by
          split
          · exact ⟨_, rfl, Nat.le_refl _⟩
          · exact ⟨T.toNat, by omega, by omega⟩
        have hin2 : within (xs.flatMap entB).length none (some (n : Int)) = true := by simp only [within, decide_eq_true_eq]; omega
        have hp : pre.length ≤ 36 := by have := hok.1; rw [List.length_append, List.length_singleton] at this; omega
        have hlast := hok.last
        have hgx : ∀ y ∈ xs, GoodE y := fun y hy => hlast.2 y (by simp [hy])
        have hl2 : (bse pre ++ e.flatMap entB).length + ((xs.flatMap entB).take n).length ≤ 9223372036854775807 := by
          have h2 := bse_length hok.pre
          have h3 := ents_length hlast.2
          rw [List.flatMap_append, List.length_append] at h3
          rw [List.length_append, List.length_take]
          have := hlast.1
          omega
        obtain ⟨j, q, hj, htk, hq⟩ := take_ents n xs hgx
        refine ⟨F pre ++ [(wn (pre.length + 1), bse pre ++ e.flatMap entB ++ (xs.flatMap entB).take n)], ?_, ?_⟩
        · rw [dFail_un, dFail_b, dDown_un, dDown_b]
          simp only [Option.bind_some, cond_false, hkk, hin, cond_true, hl, two_inl, cond_if, if_pos h3, if_pos hT, if_pos h0k, nat_at, hc]
          simp only [decide_true, if_true, hn1, hin2, cut, Int.toNat_natCast]
          rw [F_snoc, get_last hp, Option.getD_some, if_pos hl2, set_last hp]
          rfl
        · refine ⟨pre ++ [e ++ xs.take j], ?_, ?_, hok.cut (by simp [List.length_take]; omega) (fun y hy => ?_), by simp, .inl ⟨pre, e ++ xs.take j, q, rfl, hq, ?_⟩⟩
          · exact hpa.trans ⟨xs.take j, by simp⟩
          · refine List.IsPrefix.trans ?_ hpx
            exact ⟨xs.drop j, by simp⟩
          · rcases List.mem_append.1 hy with hy | hy
            · simp [hy]
            · simp [List.mem_of_mem_take hy]
          · rw [htk, List.flatMap_append]
            simp
      · obtain ⟨n, hn1, hn2⟩ : ∃ n : Nat, (if (((bse b ++ xs.flatMap entB).length : Nat) : Int) < T then (((bse b ++ xs.flatMap entB).length : Nat) : Int) else T) = (n : Int) ∧ n ≤ (bse b ++ xs.flatMap entB).length := by
          split
          · exact ⟨_, rfl, Nat.le_refl _⟩
          · exact ⟨T.toNat, by omega, by omega⟩
        have hin2 : within (bse b ++ xs.flatMap entB).length none (some (n : Int)) = true := by simp only [within, decide_eq_true_eq]; omega
        have hp : b.length ≤ 36 := by have := hok.1; rw [List.length_append, List.length_singleton] at this; omega
        have hlast := hok.last
        refine ⟨F b ++ [(wn (b.length + 1), (bse b ++ xs.flatMap entB).take n)], ?_, ?_⟩
        · have n10 : ¬ (1 : Int) = 0 := by decide
          rw [dFail_un, dFail_b, dDown_un, dDown_b]
          simp only [Option.bind_some, cond_false, hkk, hin, cond_true, hl, two_inl, cond_if, if_pos h3, if_pos hT, if_pos h0k, nat_at, hc]
          simp only [decide_true, if_true, hn1, hin2, cut, Int.toNat_natCast, if_neg n10]
          rw [set_new hp]
          rfl
        · by_cases hnb : n < (bse b).length
          · refine ⟨b, hpa, List.IsPrefix.trans ⟨xs, by simp⟩ hpx, hb.1, hb.2, .inr ⟨(bse b).take n, (bse b).drop n, List.take_append_drop _ _, ?_, ?_⟩⟩
            · intro h1
              have := congrArg List.length h1
              rw [List.length_drop, List.length_nil] at this
              omega
            · rw [List.take_append_of_le_length (by omega)]
          · obtain ⟨j, q, hj, htk, hq⟩ := take_ents (n - (bse b).length) xs hlast.2
            refine ⟨b ++ [xs.take j], ?_, ?_, hok.cut (by simp [List.length_take]; omega) (fun y hy => List.mem_of_mem_take hy), by simp, .inl ⟨b, xs.take j, q, rfl, hq, ?_⟩⟩
            · exact hpa.trans ⟨xs.take j, by simp⟩
            · refine List.IsPrefix.trans ?_ hpx
              exact ⟨xs.drop j, by simp⟩
            · rw [List.take_append, List.take_of_length_le (by omega), htk]
    · refine ⟨F b, ?_, hwhole⟩
      rw [dFail_un, dFail_b, dDown_un, dDown_b]
      simp only [Option.bind_some, cond_false, hkk, hin, cond_true, hl, two_inl, cond_if, if_pos h3, if_neg hT]
  · have h3 : ¬ (kn : Int) < (ws.length : Int) := by omega
    refine ⟨F b, ?_, hwhole⟩
    rw [dFail_un, dFail_b, dDown_un, dDown_b]
    simp only [Option.bind_some, cond_false, hkk, hin, cond_true, hl, two_inl, cond_if, if_neg h3]
end Go.Proofs.YthnhbejjikgifaaGreatDoor.TV

/-
  WAL: laying entries in plain words.
-/
namespace Go.Proofs.YthnhbejjikgifaaGreatDoor.TV
open Go Go.RowKit
set_option linter.unusedSimpArgs false
set_option linter.unusedVariables false
set_option maxRecDepth 100000

/-! ### Segments -/
def SegR (n i t : Nat) (c : List Ent) (s : Seg) : Prop := s.1 = (n : Int) ∧ s.2.1 = (i : Int) ∧ s.2.2.1 = (t : Int) ∧ s.2.2.2.1 = c ∧ SegL n i t c s.2.2.2.2 (baseB i t ++ c.flatMap entB).length
def SegsR : Nat → Nat → Nat → CL → List Seg → Prop
  | _, _, _, [], [] => True
  | k, i, t, c :: cs, s :: sg => SegR k i t c s ∧ SegsR (k + 1) (i + c.length) (lastT t c) cs sg
  | _, _, _, _, _ => False
theorem SegsR.length : ∀ {k i t : Nat} {cs : CL} {sg : List Seg}, SegsR k i t cs sg → sg.length = cs.length
  | _, _, _, [], [], _ => rfl
  | _, _, _, c :: cs, s :: sg, h => by simp [SegsR.length h.2]
  | _, _, _, [], _ :: _, h => h.elim
  | _, _, _, _ :: _, [], h => h.elim
theorem SegsR.append : ∀ {a : CL} {sa : List Seg} {k i t : Nat} {b : CL} {sb : List Seg}, SegsR k i t a sa → SegsR (k + a.length) (i + a.flatten.length) (lastT t a.flatten) b sb → SegsR k i t (a ++ b) (sa ++ sb)
  | [], [], _, _, _, _, _, _, h => by simpa [lastT] using h
  | c :: a, s :: sa, k, i, t, b, sb, h, h' => by
    refine ⟨h.1, SegsR.append h.2 ?_⟩
    have e1 : k + 1 + a.length = k + (c :: a).length := by rw [List.length_cons]; omega
    have e2 : i + c.length + a.flatten.length = i + (c :: a).flatten.length := by rw [List.flatten_cons, List.length_append]; omega
    have e3 : lastT (lastT t c) a.flatten = lastT t (c :: a).flatten := by rw [List.flatten_cons, lastT_append]
    rw [e1, e2, e3]
    exact h'
  | [], _ :: _, _, _, _, _, _, h, _ => h.elim
  | _ :: _, [], _, _, _, _, _, h, _ => h.elim
theorem SegsR.snoc_inv : ∀ {pre : CL} {k i t : Nat} {c : List Ent} {sg : List Seg}, SegsR k i t (pre ++ [c]) sg → ∃ sp s, sg = sp ++ [s] ∧ SegsR k i t pre sp ∧ SegR (k + pre.length) (i + pre.flatten.length) (lastT t pre.flatten) c s
  | [], k, i, t, c, [s], h => ⟨[], s, rfl, trivial, by simpa [lastT] using h.1⟩
  | [], _, _, _, _, [], h => h.elim
  | [], _, _, _, _, _ :: _ :: _, h => h.2.elim
  | x :: pre, k, i, t, c, s :: sg, h => by
    obtain ⟨sp, s', rfl, h2, h3⟩ := SegsR.snoc_inv h.2
    refine ⟨s :: sp, s', rfl, ⟨h.1, h2⟩, ?_⟩
    have e1 : k + 1 + pre.length = k + (x :: pre).length := by rw [List.length_cons]; omega
    have e2 : i + x.length + pre.flatten.length = i + (x :: pre).flatten.length := by rw [List.flatten_cons, List.length_append]; omega
    have e3 : lastT (lastT t x) pre.flatten = lastT t (x :: pre).flatten := by rw [List.flatten_cons, lastT_append]
    rw [e1, e2, e3] at h3
    exact h3
  | _ :: _, _, _, _, _, [], h => h.elim
def SR (cs : CL) (sg : List Seg) : Prop := SegsR 1 0 0 cs sg
theorem SR.snoc {pre : CL} {sp : List Seg} {c : List Ent} {s : Seg} (h : SR pre sp) (h2 : SegR (pre.length + 1) pre.flatten.length (lastT 0 pre.flatten) c s) : SR (pre ++ [c]) (sp ++ [s]) := by
  refine SegsR.append h ⟨?_, trivial⟩
  rw [Nat.add_comm 1, Nat.zero_add]
  exact h2
theorem SR.last {pre : CL} {sg : List Seg} {c : List Ent} (h : SR (pre ++ [c]) sg) : ∃ sp s, sg = sp ++ [s] ∧ SR pre sp ∧ sp.length = pre.length ∧ SegR (pre.length + 1) pre.flatten.length (lastT 0 pre.flatten) c s := by
  obtain ⟨sp, s, h1, h2, h3⟩ := SegsR.snoc_inv h
  rw [Nat.add_comm 1, Nat.zero_add] at h3
  exact ⟨sp, s, h1, h2, h2.length, h3⟩
/-- All segments but the last are full; the last is empty only if it is the only one. -/
def Shape (cs : CL) : Prop := ∃ pre c, cs = pre ++ [c] ∧ (∀ x ∈ pre, x.length = 8) ∧ c.length ≤ 8 ∧ (pre ≠ [] → c ≠ [])
theorem full_length : ∀ {pre : CL}, (∀ x ∈ pre, x.length = 8) → pre.flatten.length = 8 * pre.length
  | [], _ => rfl
  | x :: pre, h => by
    rw [List.flatten_cons, List.length_append, h x (by simp), full_length fun y hy => h y (List.mem_cons_of_mem _ hy), List.length_cons]
    omega
theorem shape_ok {cs : CL} (h : Shape cs) (hg : ∀ e ∈ cs.flatten, GoodE e) (hl : cs.flatten.length ≤ 240) : OkC cs := by
  obtain ⟨pre, c, rfl, h1, h2, h3⟩ := h
  have hf := full_length h1
  rw [List.flatten_append, List.length_append] at hl
  refine ⟨by rw [List.length_append, List.length_singleton]; omega, fun x hx => ⟨?_, fun e he => hg e (List.mem_flatten.2 ⟨x, hx, he⟩)⟩⟩
  rcases List.mem_append.1 hx with hx | hx
  · rw [h1 x hx]; omega
  · rw [List.mem_singleton] at hx; subst hx; exact h2

/-! ### The end, the base -/
theorem last_some {α : Type} {c : List α} (h : c ≠ []) : c.getLast? = some (c.getLast h) := by
  rw [List.getLast?_eq_getElem?, List.getLast_eq_getElem]
  exact List.getElem?_eq_getElem _
theorem segEnd_eq {n i t : Nat} {c : List Ent} {ed : List Int} (hg : ∀ e ∈ c, GoodE e) (hi : i + c.length < 1000000) (hn : n < 1000000) : wSegEnd (n : Int) (i : Int) (t : Int) c ed = some (((i + c.length : Nat) : Int), (((lastT t c : Nat) : Int), ())) := by
  rw [wSegEnd_un, wSegEnd_b]
  by_cases h : c = []
  · subst h
    have h0 : ¬ (0 : Int) < (([] : List Ent).length : Int) := by simp
    simp only [cond_if, if_neg h0]
    rfl
  · have hl : 0 < c.length := List.length_pos_iff.2 h
    have h0 : (0 : Int) < (c.length : Int) := by omega
    have e1 : IntKind.wrap .i64 ((c.length : Int) - 1) = ((c.length - 1 : Nat) : Int) := by rw [w64 (by omega)]; omega
    have h1 : (0 : Int) ≤ ((c.length - 1 : Nat) : Int) := by omega
    have e2 : IntKind.wrap .i64 ((i : Int) + (c.length : Int)) = ((i + c.length : Nat) : Int) := by rw [w64 (by omega)]; omega
    have hge : c[c.length - 1]? = some (c.getLast h) := by rw [← List.getLast?_eq_getElem?, last_some h]
    have hgl := (hg _ (List.getLast_mem h)).1
    simp only [cond_if, if_pos h0, e1, if_pos h1, nat_at, hge, Option.bind_some, e2]
    have e3 : lastT t c = (c.getLast h).1.toNat := by simp [lastT, last_some h]
    rw [e3, Int.toNat_of_nonneg hgl.1]
theorem last_at {α : Type} {sp : List α} {s : α} : (sp ++ [s])[sp.length]? = some s := by rw [List.getElem?_append_right (Nat.le_refl _)]; simp
theorem last_ix {α : Type} {sp : List α} {s : α} (h : sp.length < 1000000) : IntKind.wrap .i64 (((sp ++ [s]).length : Int) - 1) = (sp.length : Int) := by
  rw [w64 (by simp; omega)]
  simp
theorem end_eq {cs : CL} {sg : List Seg} (h : SR cs sg) (hne : cs ≠ []) (hok : OkC cs) : wEnd sg = some (((cs.flatten.length : Nat) : Int), (((lastT 0 cs.flatten : Nat) : Int), (sg, ()))) := by
  have hs : cs = cs.dropLast ++ [cs.getLast hne] := (List.dropLast_concat_getLast hne).symm
  generalize cs.dropLast = pre at hs
  generalize cs.getLast hne = c at hs
  subst hs
  obtain ⟨sp, s, rfl, h1, hsl, h2, h3, h4, h5, h6⟩ := h.last
  have hl := hok.len
  have hle := hok.1
  rw [List.length_append, List.length_singleton] at hle
  rw [List.flatten_append, List.flatten_cons, List.flatten_nil, List.append_nil, List.length_append] at hl ⊢
  have hg := hok.last.2
  obtain ⟨n, i, t, es, ed⟩ := s
  simp only at h2 h3 h4 h5 h6
  subst h2 h3 h4 h5
  have c1 : (0 : Int) ≤ (sp.length : Int) := by omega
  have c2 : (sp.length : Int) < ((sp ++ [(((pre.length + 1 : Nat) : Int), ((pre.flatten.length : Nat) : Int), ((lastT 0 pre.flatten : Nat) : Int), es, ed)]).length : Int) := by rw [List.length_append, List.length_singleton]; omega
  rw [wEnd_un, wEnd_b]
  simp only [last_ix (show sp.length < 1000000 by omega), cond_if, if_pos c1, if_pos c2, nat_at, last_at, Option.bind_some, segEnd_eq hg (show pre.flatten.length + es.length < 1000000 by omega) (show pre.length + 1 < 1000000 by omega)]
  rw [lastT_append]
theorem base_seg {c : List Ent} {cs : CL} {sg : List Seg} (h : SR (c :: cs) sg) : wBase sg = some (0, (0, (sg, ()))) := by
  cases sg with
  | nil => exact h.elim
  | cons s sg =>
    obtain ⟨⟨h2, h3, h4, h5, h6⟩, _⟩ := h
    obtain ⟨n, i, t, es, ed⟩ := s
    simp only at h2 h3 h4 h5 h6
    subst h2 h3 h4 h5
    have c1 : (0 : Int) < (((((1 : Nat) : Int), ((0 : Nat) : Int), ((0 : Nat) : Int), es, ed) :: sg).length : Int) := by rw [List.length_cons]; omega
    rw [wBase_un, wBase_b]
    simp only [cond_if, if_pos c1, List.getElem?_cons_zero, Option.bind_some]
    rfl

/-! ### Nothing is cut where entries are laid at the end -/
theorem cut_none {cs : CL} {sg : List Seg} {sure now : MapB} {wait : List Chg} {count : Int} {down : Bool} {falls : List Fall} (h : SR cs sg) (hsh : Shape cs) (hok : OkC cs) :
    wCutAll (((cs.flatten.length + 1 : Nat) : Int)) sg sure now wait count down falls = some (0, (sg, (sure, (now, (wait, (count, (down, (falls, ()))))))))  := by
  obtain ⟨pre, c, rfl, hf, hc8, hcn⟩ := hsh
  obtain ⟨sp, s, rfl, h1, hsl, h2, h3, h4, h5, h6⟩ := h.last
  have hl := hok.len
  have hle := hok.1
  rw [List.length_append, List.length_singleton] at hle
  have hfl : (pre ++ [c]).flatten.length = pre.flatten.length + c.length := by simp
  rw [hfl] at hl ⊢
  obtain ⟨n, i, t, es, ed⟩ := s
  simp only at h2 h3 h4 h5 h6
  subst h2 h3 h4 h5
  have hx := last_ix (s := (((pre.length + 1 : Nat) : Int), ((pre.flatten.length : Nat) : Int), ((lastT 0 pre.flatten : Nat) : Int), es, ed)) (show sp.length < 1000000 by omega)
  have c1 : (0 : Int) ≤ (sp.length : Int) := by omega
  have c2 : (sp.length : Int) < ((sp ++ [(((pre.length + 1 : Nat) : Int), ((pre.flatten.length : Nat) : Int), ((lastT 0 pre.flatten : Nat) : Int), es, ed)]).length : Int) := by rw [List.length_append, List.length_singleton]; omega
  have w1 : IntKind.wrap .i64 (((pre.flatten.length + es.length + 1 : Nat) : Int) - 1) = ((pre.flatten.length + es.length : Nat) : Int) := by rw [w64 (by omega)]; omega
  have w2 : IntKind.wrap .i64 (((pre.flatten.length + es.length : Nat) : Int) - ((pre.flatten.length : Nat) : Int)) = (es.length : Int) := by rw [w64 (by omega)]; omega
  have c4 : ¬ (es.length : Int) < (es.length : Int) := by omega
  rw [wCutAll_un, wCutAll_b]
  simp only [hx, w1]
  by_cases h0 : (0 : Int) < (sp.length : Int)
  · have hpn : pre ≠ [] := by
      intro hp
      rw [hp] at hsl
      simp only [List.length_nil] at hsl
      omega
    have hen := List.length_pos_iff.2 (hcn hpn)
    have c3 : ¬ ((pre.flatten.length + es.length : Nat) : Int) ≤ ((pre.flatten.length : Nat) : Int) := by omega
    simp only [cond_if, if_pos h0, if_pos c1, if_pos c2, nat_at, last_at, Option.bind_some, if_neg c3, w2, if_neg c4]
  · simp only [cond_if, if_neg h0, if_pos c1, if_pos c2, nat_at, last_at, Option.bind_some, w2, if_neg c4]

/-! ### Laying -/
theorem cloneU_eq {α : Type} {sz : Nat} {l : List α} (hs : sz ≤ 100) (h : l.length ≤ 1000000) : cloneU sz l = some (l, ()) := by
  unfold cloneU
  cases l with
  | nil => rfl
  | cons x l =>
    simp only [List.isEmpty_cons, cond_false, cond_if]
    rw [if_pos]
    have : (0 + (x :: l).length) * sz ≤ 1000000 * 100 := Nat.mul_le_mul (by omega) hs
    omega
theorem inner_lay {n i t : Int} : ∀ (rest : List Ent) (ac : List Ent) (ed : List Int) (text : List UInt8) (L : Nat), (∀ e ∈ rest, GoodE e) → ac.length ≤ 8 → SegL n i t ac ed L → L + 65608 * (8 - ac.length) < 100000000 → text.length + 65608 * (8 - ac.length) < 100000000 →
    ∃ ed', SegL n i t (ac ++ rest.take (8 - ac.length)) ed' (L + ((rest.take (8 - ac.length)).flatMap entB).length) ∧ loop (wLayAll_l1 n i t) (rest, (text, (ac, (ed, ())))) = some (.inl (rest.drop (8 - ac.length), (text ++ (rest.take (8 - ac.length)).flatMap entB, (ac ++ rest.take (8 - ac.length), (ed', ())))))
  | [], ac, ed, text, L, _, h8, hs, _, _ => by
    refine ⟨ed, by simpa using hs, ?_⟩
    have h0 : ¬ (0 : Int) < (([] : List Ent).length : Int) := by simp
    rw [loop_eq]
    simp only [wLayAll_l1, cond_if, if_neg h0, List.take_nil, List.drop_nil, List.flatMap_nil, List.append_nil]
  | e :: rest, ac, ed, text, L, hg, h8, hs, hL, hT => by
    have h0 : (0 : Int) < ((e :: rest).length : Int) := by rw [List.length_cons]; omega
    by_cases hlt : ac.length < 8
    · have h1 : (ac.length : Int) < 8 := by omega
      have hel := entB_length (hg e (by simp))
      obtain ⟨ed1, k1, k2⟩ := lay_step hs (hg e (by simp)) (by omega) (by omega)
      obtain ⟨ed', k3, k4⟩ := inner_lay rest (ac ++ [e]) ed1 (text ++ entB e) (L + (entB e).length) (fun x hx => hg x (List.mem_cons_of_mem _ hx)) (by simp; omega) k2 (by simp; omega) (by rw [List.length_append, List.length_append, List.length_singleton]; omega)
      have e1 : 8 - ac.length = (8 - (ac ++ [e]).length) + 1 := by simp; omega
      rw [e1, List.take_succ_cons, List.drop_succ_cons, List.flatMap_cons]
      refine ⟨ed', ?_, ?_⟩
      · rw [List.append_assoc] at k3
        have e2 : L + (entB e ++ (rest.take (8 - (ac ++ [e]).length)).flatMap entB).length = L + (entB e).length + ((rest.take (8 - (ac ++ [e]).length)).flatMap entB).length := by rw [List.length_append]; omega
        rw [e2]
        exact k3
      · have h2 : text.length + (entB e).length ≤ 9223372036854775807 := by omega
        have h3 : within (e :: rest).length (some 1) none = true := by simp only [within, decide_eq_true_eq, List.length_cons]; omega
        rw [loop_eq]
        obtain ⟨a, b, c⟩ := e
        simp only [wLayAll_l1, cond_if, if_pos h0, if_pos h1, List.getElem?_cons_zero, Option.bind_some, k1, if_pos h2, h3, cut, Int.reduceToNat, List.drop_succ_cons, List.drop_zero, if_true, cond_true]
        rw [k4, List.append_assoc, List.append_assoc]
        rfl
    · have h1 : ¬ (ac.length : Int) < 8 := by omega
      have h2 : 8 - ac.length = 0 := by omega
      rw [h2]
      refine ⟨ed, by simpa using hs, ?_⟩
      rw [loop_eq]
      simp only [wLayAll_l1, cond_if, if_pos h0, if_neg h1, List.take_zero, List.drop_zero, List.flatMap_nil, List.append_nil]
theorem hit_cases {falls : List Fall} (h : falls.length ≤ 1) (count : Int) : NoHit falls count ∨ ∃ K T, falls = [(count, K, T)] := by
  match falls, h with
  | [], _ => exact .inl (.inl rfl)
  | [(a, K, T)], _ =>
    by_cases hc : a = count
    · subst hc; exact .inr ⟨K, T, rfl⟩
    · exact .inl (.inr ⟨_, rfl, hc⟩)
/-- What stands in a round of laying. -/
structure Laying (a : CL) (all : List Ent) (W : Nat) (falls : List Fall) (rest : List Ent) (sg : List Seg) (now : MapB) (wait : List Chg) (count : Nat) (cs : CL) : Prop where
  now_ : now = F cs
  tr : TraceL wait a cs
  sr : SR cs sg
  sh : Shape cs
  all_ : cs.flatten ++ rest = all
  cnt : count + rest.length ≤ W
  wt : wait.length + rest.length ≤ W
abbrev LaySt := List Ent × List Seg × MapB × MapB × List Chg × Int × Bool × List Fall × Unit
abbrev LayRt := Int × List Seg × MapB × MapB × List Chg × Int × Bool × List Fall × Unit
def LayQ (a : CL) (all : List Ent) (W : Nat) (falls : List Fall) : LaySt ⊕ LayRt → Prop
  | .inl (rest, (sg, (sure, (now, (wait, (count, (down, (fl, _)))))))) => ∃ cs c, rest = [] ∧ sure = F a ∧ count = ((c : Nat) : Int) ∧ down = false ∧ fl = falls ∧ Laying a all W falls [] sg now wait c cs
  | .inr (e, (sg, (sure, (now, (wait, (count, (down, (fl, _)))))))) => e = 21 ∧ now = sure ∧ wait = [] ∧ down = true ∧ fl = [] ∧ (∃ c : Nat, c ≤ W ∧ count = (c : Int)) ∧ ∃ d : CL, Rec sure a d ∧ d.flatten <+: all
end Go.Proofs.YthnhbejjikgifaaGreatDoor.TV

/-
  WAL: laying a list of entries in plain words.
-/
namespace Go.Proofs.YthnhbejjikgifaaGreatDoor.TV
open Go Go.RowKit
set_option linter.unusedSimpArgs false
set_option linter.unusedVariables false
set_option maxRecDepth 100000

theorem set_last' {α : Type} {sp : List α} {s s' : α} : (sp ++ [s]).set sp.length s' = sp ++ [s'] := by
  rw [List.set_append_right _ _ (Nat.le_refl _)]
  simp
theorem take_pos {α : Type} {l : List α} {n : Nat} (h : l ≠ []) (hn : 0 < n) : l.take n ≠ [] := by
  cases l with
  | nil => exact (h rfl).elim
  | cons x l => cases n with
    | zero => omega
    | succ n => simp
section
variable {a : CL} {all : List Ent} {W : Nat} {falls : List Fall} {rest : List Ent} {sg : List Seg} {now : MapB} {wait : List Chg} {count : Nat} {cs : CL}
theorem lay_app (h : Laying a all W falls rest sg now wait count cs) (hr : rest ≠ []) (hga : ∀ e ∈ all, GoodE e) (hla : all.length ≤ 240) (hW : W ≤ 100000) (hf1 : falls.length ≤ 1) (ha : OkC a) (hane : a ≠ [])
    {pre : CL} {c : List Ent} (hcs : cs = pre ++ [c]) (hfull : ∀ x ∈ pre, x.length = 8) (hc8 : c.length < 8) :
    (∃ sg' now' wait' cs', wLayAll_l0 (rest, (sg, (F a, (now, (wait, ((count : Int), (false, (falls, ())))))))) = some (.next (rest.drop (8 - c.length), (sg', (F a, (now', (wait', (((count + 1 : Nat) : Int), (false, (falls, ()))))))))) ∧ Laying a all W falls (rest.drop (8 - c.length)) sg' now' wait' (count + 1) cs') ∨
    (∃ r, wLayAll_l0 (rest, (sg, (F a, (now, (wait, ((count : Int), (false, (falls, ())))))))) = some (.ret r) ∧ LayQ a all W falls (.inr r)) := by
  subst hcs
  have hxs : rest.take (8 - c.length) ≠ [] := take_pos hr (by omega)
  have hxl : 0 < (rest.take (8 - c.length)).length := List.length_pos_iff.2 hxs
  have hsplit : rest.take (8 - c.length) ++ rest.drop (8 - c.length) = rest := List.take_append_drop _ _
  have hrl : (rest.take (8 - c.length)).length + (rest.drop (8 - c.length)).length = rest.length := by rw [← List.length_append, hsplit]
  have hx8 : (rest.take (8 - c.length)).length ≤ 8 - c.length := List.length_take_le _ _
  have hall : (pre ++ [c ++ rest.take (8 - c.length)]).flatten ++ rest.drop (8 - c.length) = all := by
    rw [← h.all_]
    simp [hsplit]
  have hgr : ∀ e ∈ rest, GoodE e := fun e he => hga e (by rw [← h.all_]; exact List.mem_append_right _ he)
  have hsh : Shape (pre ++ [c ++ rest.take (8 - c.length)]) := ⟨pre, _, rfl, hfull, by rw [List.length_append]; omega, fun _ => by simp [hxs]⟩
  have hok : OkC (pre ++ [c ++ rest.take (8 - c.length)]) := shape_ok hsh (fun e he => hga e (by rw [← hall]; exact List.mem_append_left _ he)) (by
    have := congrArg List.length hall
    rw [List.length_append] at this
    omega)
  generalize hxe : rest.take (8 - c.length) = xs at *
  generalize hre : rest.drop (8 - c.length) = rest' at *
  have hok0 : OkC (pre ++ [c]) := hok.cut (by simp) (fun e he => by simp [he])
  have hpl : pre.length ≤ 34 := by have := hok.1; rw [List.length_append, List.length_singleton] at this; omega
  have hstep : LayStep (pre ++ [c]) (0, wn (pre.length + 1), [], xs.flatMap entB, 0) (pre ++ [c ++ xs]) := ⟨hok, .inl ⟨pre, c, xs, rfl, rfl, rfl⟩⟩
  have htr : TraceL (wait ++ [(0, wn (pre.length + 1), [], xs.flatMap entB, 0)]) a (pre ++ [c ++ xs]) := h.tr.append ⟨_, hstep, rfl⟩
  obtain ⟨sp, s, rfl, h1, hsl, g2, g3, g4, g5, g6⟩ := h.sr.last
  obtain ⟨n, i, t, es, ed⟩ := s
  simp only at g2 g3 g4 g5 g6
  subst g2 g3 g4 g5
  have hL : (baseB pre.flatten.length (lastT 0 pre.flatten) ++ es.flatMap entB).length + 65608 * (8 - es.length) < 100000000 := by
    have e1 := bse_length hok0.pre
    have e2 := ents_length hok0.last.2
    rw [List.length_append]
    have : (baseB pre.flatten.length (lastT 0 pre.flatten)).length ≤ 28 := e1
    omega
  obtain ⟨ed', k1, k2⟩ := inner_lay rest es ed [] _ hgr (by omega) g6 hL (by simp; omega)
  rw [hxe, hre] at k2
  rw [hxe] at k1
  have hr0 : (0 : Int) < (rest.length : Int) := by have := List.length_pos_iff.2 hr; omega
  have hx := last_ix (s := (((pre.length + 1 : Nat) : Int), ((pre.flatten.length : Nat) : Int), ((lastT 0 pre.flatten : Nat) : Int), es, ed)) (show sp.length < 1000000 by omega)
  have c1 : (0 : Int) ≤ (sp.length : Int) := by omega
  have c2 : (sp.length : Int) < ((sp ++ [(((pre.length + 1 : Nat) : Int), ((pre.flatten.length : Nat) : Int), ((lastT 0 pre.flatten : Nat) : Int), es, ed)]).length : Int) := by rw [List.length_append, List.length_singleton]; omega
  have c8 : ¬ (es.length : Int) = 8 := by omega
  have hedl : ed.length ≤ 1000000 := by have := g6.1; omega
  have hname := name_eq (k := pre.length + 1) (by omega)
  have hnow := h.now_
  subst hnow
  have hget : (mget (wn (pre.length + 1)) (F (pre ++ [es]))).getD [] = bse pre ++ es.flatMap entB := by rw [F_snoc, get_last (by omega)]; rfl
  have hw := h.wt
  have hcn := h.cnt
  rcases hit_cases hf1 (count : Int) with hno | ⟨K, T, hhit⟩
  · left
    have hap := append_no (k := pre.length + 1) (s := xs.flatMap entB) (sure := F a) (now := F (pre ++ [es])) (wait := wait) (count := count) (by omega) hno (by omega) (by omega) (by
      rw [hget]
      have e1 := bse_length hok.pre
      have e3 := ents_length hok.last.2
      rw [List.flatMap_append, List.length_append] at e3
      rw [List.length_append]
      have := hok.last.1
      omega)
    rw [hget] at hap
    have hset : mset (wn (pre.length + 1)) (bse pre ++ es.flatMap entB ++ xs.flatMap entB) (F (pre ++ [es])) = F (pre ++ [es ++ xs]) := by
      rw [F_snoc, set_last (by omega), F_snoc, List.flatMap_append, List.append_assoc]
    rw [hset] at hap
    refine ⟨sp ++ [(((pre.length + 1 : Nat) : Int), ((pre.flatten.length : Nat) : Int), ((lastT 0 pre.flatten : Nat) : Int), es ++ xs, ed')], F (pre ++ [es ++ xs]), wait ++ [(0, wn (pre.length + 1), [], xs.flatMap entB, 0)], pre ++ [es ++ xs], ?_, ⟨rfl, htr, ?_, hsh, hall, by omega, by rw [List.length_append, List.length_singleton]; omega⟩⟩
    · simp only [wLayAll_l0, cond_if, if_pos hr0, hx, if_pos c1, if_pos c2, nat_at, last_at, Option.bind_some, if_neg c8, two_inl, cloneU_eq (sz := 32) (l := es) (by omega) (by omega), cloneU_eq (sz := 8) (l := ed) (by omega) hedl, k2, hname, List.nil_append, hap]
      have z0 : (!decide ((0 : Int) = 0)) = false := rfl
      rw [Int.toNat_natCast]
      simp only [z0, Bool.false_eq_true, if_false, set_last']
      rfl
    · refine SR.snoc h1 ⟨rfl, rfl, rfl, rfl, ?_⟩
      have e : (baseB pre.flatten.length (lastT 0 pre.flatten) ++ (es ++ xs).flatMap entB).length = (baseB pre.flatten.length (lastT 0 pre.flatten) ++ es.flatMap entB).length + (xs.flatMap entB).length := by simp [Nat.add_assoc]
      rw [e]
      exact k1
  · right
    subst hhit
    obtain ⟨m, hm1, hm2⟩ := fail_eq (K := K) (T := T) (now := F (pre ++ [es])) htr ha hok hane (by rw [List.length_append, List.length_singleton]; omega)
    have hap := append_hit (k := pre.length + 1) (s := xs.flatMap entB) (count := (count : Int)) (by omega) (by omega) hm1
    refine ⟨(21, (sp ++ [(((pre.length + 1 : Nat) : Int), ((pre.flatten.length : Nat) : Int), ((lastT 0 pre.flatten : Nat) : Int), es, ed)], (m, (m, ([], ((count : Int), (true, ([], ())))))))), ?_, ?_⟩
    · have z1 : (!decide ((21 : Int) = 0)) = true := rfl
      simp only [wLayAll_l0, cond_if, if_pos hr0, hx, if_pos c1, if_pos c2, nat_at, last_at, Option.bind_some, if_neg c8, two_inl, cloneU_eq (sz := 32) (l := es) (by omega) (by omega), cloneU_eq (sz := 8) (l := ed) (by omega) hedl, k2, hname, List.nil_append, hap, z1, if_true]
      rfl
    · exact ⟨rfl, rfl, rfl, rfl, rfl, ⟨count, by omega, rfl⟩, pre ++ [es ++ xs], hm2, ⟨rest', hall⟩⟩
theorem lay_new (h : Laying a all W falls rest sg now wait count cs) (hr : rest ≠ []) (hga : ∀ e ∈ all, GoodE e) (hla : all.length ≤ 240) (hW : W ≤ 100000) (hf1 : falls.length ≤ 1) (ha : OkC a) (hane : a ≠ [])
    {pre : CL} {c : List Ent} (hcs : cs = pre ++ [c]) (hfull : ∀ x ∈ pre, x.length = 8) (hc8 : c.length = 8) :
    (∃ sg' now' wait' cs', wLayAll_l0 (rest, (sg, (F a, (now, (wait, ((count : Int), (false, (falls, ())))))))) = some (.next (rest.drop 8, (sg', (F a, (now', (wait', (((count + 1 : Nat) : Int), (false, (falls, ()))))))))) ∧ Laying a all W falls (rest.drop 8) sg' now' wait' (count + 1) cs') ∨
    (∃ r, wLayAll_l0 (rest, (sg, (F a, (now, (wait, ((count : Int), (false, (falls, ())))))))) = some (.ret r) ∧ LayQ a all W falls (.inr r)) := by
  have hxs : rest.take 8 ≠ [] := take_pos hr (by omega)
  have hxl : 0 < (rest.take 8).length := List.length_pos_iff.2 hxs
  have hsplit : rest.take 8 ++ rest.drop 8 = rest := List.take_append_drop _ _
  have hrl : (rest.take 8).length + (rest.drop 8).length = rest.length := by rw [← List.length_append, hsplit]
  have hx8 : (rest.take 8).length ≤ 8 := List.length_take_le _ _
  have hall : (cs ++ [rest.take 8]).flatten ++ rest.drop 8 = all := by
    rw [← h.all_]
    simp [hsplit]
  have hgr : ∀ e ∈ rest, GoodE e := fun e he => hga e (by rw [← h.all_]; exact List.mem_append_right _ he)
  have hfull' : ∀ x ∈ cs, x.length = 8 := fun x hx => by
    rw [hcs] at hx
    rcases List.mem_append.1 hx with hx | hx
    · exact hfull x hx
    · rw [List.mem_singleton] at hx; rw [hx, hc8]
  have hsh : Shape (cs ++ [rest.take 8]) := ⟨cs, _, rfl, hfull', hx8, fun _ => hxs⟩
  have hok : OkC (cs ++ [rest.take 8]) := shape_ok hsh (fun e he => hga e (by rw [← hall]; exact List.mem_append_left _ he)) (by
    have := congrArg List.length hall
    rw [List.length_append] at this
    omega)
  generalize hxe : rest.take 8 = xs at *
  generalize hre : rest.drop 8 = rest' at *
  have hok0 : OkC cs := hok.pre
  have hpl : cs.length ≤ 34 := by have := hok.1; rw [List.length_append, List.length_singleton] at this; omega
  have hcl : cs.flatten.length ≤ 280 := hok0.len
  have hterm := hok0.term
  have hstep : LayStep cs (1, wn (cs.length + 1), [], bse cs ++ xs.flatMap entB, 0) (cs ++ [xs]) := ⟨hok, .inr ⟨xs, rfl, rfl⟩⟩
  have htr : TraceL (wait ++ [(1, wn (cs.length + 1), [], bse cs ++ xs.flatMap entB, 0)]) a (cs ++ [xs]) := h.tr.append ⟨_, hstep, rfl⟩
  have hsr := h.sr
  rw [hcs] at hsr
  obtain ⟨sp, s, hsg, h1, hsl, g2, g3, g4, g5, g6⟩ := hsr.last
  obtain ⟨n, i, t, es, ed⟩ := s
  simp only at g2 g3 g4 g5 g6
  subst g2 g3 g4 g5
  have hcsl : cs.length = pre.length + 1 := by rw [hcs]; simp
  have hfl : pre.flatten.length + es.length = cs.flatten.length := by rw [hcs]; simp
  have hlt : lastT (lastT 0 pre.flatten) es = lastT 0 cs.flatten := by rw [hcs, List.flatten_append, lastT_append]; simp
  have hges : ∀ e ∈ es, GoodE e := by
    have := hok0
    rw [hcs] at this
    exact this.last.2
  have hend := segEnd_eq (n := pre.length + 1) (i := pre.flatten.length) (t := lastT 0 pre.flatten) (ed := ed) hges (by omega) (by omega)
  rw [hfl, hlt] at hend
  have hbase := base_eq (i := cs.flatten.length) (t := lastT 0 cs.flatten) (by omega) (by omega)
  have hbl : (baseB cs.flatten.length (lastT 0 cs.flatten)).length ≤ 28 := bse_length hok0
  obtain ⟨ed', k1, k2⟩ := inner_lay (n := ((cs.length + 1 : Nat) : Int)) (i := ((cs.flatten.length : Nat) : Int)) (t := ((lastT 0 cs.flatten : Nat) : Int)) rest [] [] (baseB cs.flatten.length (lastT 0 cs.flatten)) _ hgr (by simp) (segL_new (by omega) (by omega)) (by rw [List.length_nil]; omega) (by rw [List.length_nil]; omega)
  simp only [List.length_nil, Nat.sub_zero, List.nil_append] at k1 k2
  rw [hxe, hre] at k2
  rw [hxe] at k1
  have hr0 : (0 : Int) < (rest.length : Int) := by have := List.length_pos_iff.2 hr; omega
  have hx := last_ix (s := (((pre.length + 1 : Nat) : Int), ((pre.flatten.length : Nat) : Int), ((lastT 0 pre.flatten : Nat) : Int), es, ed)) (show sp.length < 1000000 by omega)
  have c1 : (0 : Int) ≤ (sp.length : Int) := by omega
  have c2 : (sp.length : Int) < ((sp ++ [(((pre.length + 1 : Nat) : Int), ((pre.flatten.length : Nat) : Int), ((lastT 0 pre.flatten : Nat) : Int), es, ed)]).length : Int) := by rw [List.length_append, List.length_singleton]; omega
  have c8 : (es.length : Int) = 8 := by omega
  have wN : IntKind.wrap .i64 (((pre.length + 1 : Nat) : Int) + 1) = ((cs.length + 1 : Nat) : Int) := by rw [wsucc (by omega), hcsl]
  have hname := name_eq (k := cs.length + 1) (by omega)
  have hnow := h.now_
  have hw := h.wt
  have hcn := h.cnt
  have hsp72 : ((sp ++ [(((pre.length + 1 : Nat) : Int), ((pre.flatten.length : Nat) : Int), ((lastT 0 pre.flatten : Nat) : Int), es, ed)]).length + 1) * 72 ≤ 140737488355328 := by rw [List.length_append, List.length_singleton]; omega
  rcases hit_cases hf1 (count : Int) with hno | ⟨K, T, hhit⟩
  · left
    have hap := write_no (k := cs.length + 1) (s := bse cs ++ xs.flatMap entB) (sure := F a) (now := now) (wait := wait) (count := count) (by omega) hno (by omega) (by omega)
    have hset : mset (wn (cs.length + 1)) (bse cs ++ xs.flatMap entB) now = F (cs ++ [xs]) := by
      rw [hnow, set_new (by omega), F_snoc]
    rw [hset] at hap
    refine ⟨sg ++ [(((cs.length + 1 : Nat) : Int), ((cs.flatten.length : Nat) : Int), ((lastT 0 cs.flatten : Nat) : Int), xs, ed')], F (cs ++ [xs]), wait ++ [(1, wn (cs.length + 1), [], bse cs ++ xs.flatMap entB, 0)], cs ++ [xs], ?_, ⟨rfl, htr, ?_, hsh, hall, by omega, by rw [List.length_append, List.length_singleton]; omega⟩⟩
    · have z0 : (!decide ((0 : Int) = 0)) = false := rfl
      have hap' : dWrite (wn (cs.length + 1)) (baseB cs.flatten.length (lastT 0 cs.flatten) ++ xs.flatMap entB) (F a) now wait (count : Int) false falls = _ := hap
      rw [hsg]
      simp only [wLayAll_l0, cond_if, if_pos hr0, hx, if_pos c1, if_pos c2, nat_at, last_at, Option.bind_some, if_pos c8, hend, hbase, two_inl, cloneU_eq (sz := 32) (l := ([] : List Ent)) (by omega) (by simp), cloneU_eq (sz := 8) (l := ([] : List Int)) (by omega) (by simp), wN, k2, hname, hap', z0, Bool.false_eq_true, if_false, if_pos hsp72]
      rfl
    · refine SR.snoc h.sr ⟨rfl, rfl, rfl, rfl, ?_⟩
      rw [List.length_append]
      exact k1
  · right
    subst hhit
    obtain ⟨m, hm1, hm2⟩ := fail_eq (K := K) (T := T) (now := now) htr ha hok hane (by rw [List.length_append, List.length_singleton]; omega)
    have hap := write_hit (k := cs.length + 1) (s := bse cs ++ xs.flatMap entB) (count := (count : Int)) (by omega) (by omega) hm1
    refine ⟨(21, (sg, (m, (m, ([], ((count : Int), (true, ([], ())))))))), ?_, ?_⟩
    · have z1 : (!decide ((21 : Int) = 0)) = true := rfl
      have hap' : dWrite (wn (cs.length + 1)) (baseB cs.flatten.length (lastT 0 cs.flatten) ++ xs.flatMap entB) (F a) now wait (count : Int) false [((count : Int), K, T)] = _ := hap
      rw [hsg]
      simp only [wLayAll_l0, cond_if, if_pos hr0, hx, if_pos c1, if_pos c2, nat_at, last_at, Option.bind_some, if_pos c8, hend, hbase, two_inl, cloneU_eq (sz := 32) (l := ([] : List Ent)) (by omega) (by simp), cloneU_eq (sz := 8) (l := ([] : List Int)) (by omega) (by simp), wN, k2, hname, hap', z1, if_true]
      rfl
    · exact ⟨rfl, rfl, rfl, rfl, rfl, ⟨count, by omega, rfl⟩, cs ++ [xs], hm2, ⟨rest', hall⟩⟩
theorem lay_loop (hga : ∀ e ∈ all, GoodE e) (hla : all.length ≤ 240) (hW : W ≤ 100000) (hf1 : falls.length ≤ 1) (ha : OkC a) (hane : a ≠ []) (h : Laying a all W falls rest sg now wait count cs) :
    ∃ r, loop wLayAll_l0 (rest, (sg, (F a, (now, (wait, ((count : Int), (false, (falls, ())))))))) = some r ∧ LayQ a all W falls r := by
  refine loop_spec wLayAll_l0 (fun st => ∃ rest sg now wait count cs, st = (rest, (sg, (F a, (now, (wait, (((count : Nat) : Int), (false, (falls, ())))))))) ∧ Laying a all W falls rest sg now wait count cs) (fun st => st.1.length) (LayQ a all W falls) (fun st hst => ?_) _ ⟨rest, sg, now, wait, count, cs, rfl, h⟩
  obtain ⟨rest, sg, now, wait, count, cs, rfl, h⟩ := hst
  by_cases hr : rest = []
  · subst hr
    right; left
    have h0 : ¬ (0 : Int) < (([] : List Ent).length : Int) := by simp
    exact ⟨_, by simp only [wLayAll_l0, cond_if, if_neg h0]; rfl, cs, count, rfl, rfl, rfl, rfl, rfl, h⟩
  · obtain ⟨pre, c, hcs, hfull, hc8, hcn⟩ := h.sh
    have hpos := List.length_pos_iff.2 hr
    by_cases hlt : c.length < 8
    · rcases lay_app h hr hga hla hW hf1 ha hane hcs hfull hlt with ⟨sg', now', wait', cs', h1, h2⟩ | ⟨r, h1, h2⟩
      · exact .inl ⟨_, h1, ⟨_, sg', now', wait', count + 1, cs', rfl, h2⟩, by simp only [List.length_drop]; omega⟩
      · exact .inr (.inr ⟨r, h1, h2⟩)
    · rcases lay_new h hr hga hla hW hf1 ha hane hcs hfull (by omega) with ⟨sg', now', wait', cs', h1, h2⟩ | ⟨r, h1, h2⟩
      · exact .inl ⟨_, h1, ⟨_, sg', now', wait', count + 1, cs', rfl, h2⟩, by simp only [List.length_drop]; omega⟩
      · exact .inr (.inr ⟨r, h1, h2⟩)
end
end Go.Proofs.YthnhbejjikgifaaGreatDoor.TV

/-
  WAL: Append in plain words.
-/
namespace Go.Proofs.YthnhbejjikgifaaGreatDoor.TV
open Go Go.RowKit
set_option linter.unusedSimpArgs false
set_option linter.unusedVariables false
set_option maxRecDepth 100000

theorem check_loop (es : List Ent) (hl : es.length < 1000000) : (loop (wAppend_l0 es) (0, ()) = some (.inl (((es.length : Nat) : Int), ())) ∧ ∀ e ∈ es, GoodE e) ∨ ∃ x, (x = 1 ∨ x = 2) ∧ loop (wAppend_l0 es) (0, ()) = some (.inr (x, ())) := by
  obtain ⟨r, h1, h2⟩ := loop_spec (wAppend_l0 es) (fun st => ∃ i : Nat, st = ((i : Int), ()) ∧ i ≤ es.length ∧ ∀ e ∈ es.take i, GoodE e) (fun st => es.length - st.1.toNat) (fun r => (r = .inl (((es.length : Nat) : Int), ()) ∧ ∀ e ∈ es, GoodE e) ∨ ∃ x, (x = 1 ∨ x = 2) ∧ r = .inr (x, ())) (fun st hst => by
    obtain ⟨i, rfl, hi, hg⟩ := hst
    by_cases hlt : i < es.length
    · have h0 : (i : Int) < (es.length : Int) := by omega
      have h1 : (0 : Int) ≤ (i : Int) := by omega
      have hs : es[i]? = some es[i] := List.getElem?_eq_getElem hlt
      have htk : es.take (i + 1) = es.take i ++ [es[i]] := by rw [List.take_add_one, hs]; rfl
      generalize es[i] = e at hs htk
      obtain ⟨a, b, c⟩ := e
      by_cases k1 : a < 0
      · right; right
        exact ⟨_, by simp only [wAppend_l0, cond_if, if_pos h0, if_pos h1, nat_at, hs, Option.bind_some, if_pos k1, two_inl, if_true]; rfl, .inr ⟨1, .inl rfl, rfl⟩⟩
      · by_cases k2 : 1099511627776 < a
        · right; right
          exact ⟨_, by simp only [wAppend_l0, cond_if, if_pos h0, if_pos h1, nat_at, hs, Option.bind_some, if_neg k1, if_pos k2, two_inl, if_true]; rfl, .inr ⟨1, .inl rfl, rfl⟩⟩
        · by_cases k3 : b < 0
          · right; right
            exact ⟨_, by simp only [wAppend_l0, cond_if, if_pos h0, if_pos h1, nat_at, hs, Option.bind_some, if_neg k1, if_neg k2, if_pos k3, two_inl, if_true]; rfl, .inr ⟨1, .inl rfl, rfl⟩⟩
          · by_cases k4 : 255 < b
            · right; right
              exact ⟨_, by simp only [wAppend_l0, cond_if, if_pos h0, if_pos h1, nat_at, hs, Option.bind_some, if_neg k1, if_neg k2, if_neg k3, two_inl, k4, decide_true, if_true]; rfl, .inr ⟨1, .inl rfl, rfl⟩⟩
            · by_cases k5 : (65536 : Int) < (c.length : Int)
              · right; right
                exact ⟨_, by simp only [wAppend_l0, cond_if, if_pos h0, if_pos h1, nat_at, hs, Option.bind_some, if_neg k1, if_neg k2, if_neg k3, two_inl, k4, decide_false, Bool.false_eq_true, if_false, if_pos k5]; rfl, .inr ⟨2, .inr rfl, rfl⟩⟩
              · left
                refine ⟨_, by simp only [wAppend_l0, cond_if, if_pos h0, if_pos h1, nat_at, hs, Option.bind_some, if_neg k1, if_neg k2, if_neg k3, two_inl, k4, decide_false, Bool.false_eq_true, if_false, if_neg k5]; rfl, ⟨i + 1, by rw [wsucc (by omega)], by omega, fun e he => ?_⟩, by simp only [wsucc (i := i) (by omega), Int.toNat_natCast]; omega⟩
                rw [htk] at he
                rcases List.mem_append.1 he with he | he
                · exact hg e he
                · rw [List.mem_singleton] at he
                  subst he
                  show (0 ≤ a ∧ a ≤ 1099511627776) ∧ (0 ≤ b ∧ b ≤ 255) ∧ c.length ≤ 65536
                  omega
    · right; left
      have : i = es.length := by omega
      subst this
      have h0 : ¬ ((es.length : Nat) : Int) < (es.length : Int) := by omega
      exact ⟨_, by simp only [wAppend_l0, cond_if, if_neg h0], .inl ⟨rfl, by rwa [List.take_length] at hg⟩⟩) (0, ()) ⟨0, rfl, by omega, by simp⟩
  rcases h2 with ⟨rfl, h2⟩ | ⟨x, hx, rfl⟩
  · exact .inl ⟨h1, h2⟩
  · exact .inr ⟨x, hx, h1⟩
/-- A log whose files are all sure. -/
structure Live (cs : CL) (sg : List Seg) : Prop where
  sr : SR cs sg
  sh : Shape cs
  good : ∀ e ∈ cs.flatten, GoodE e
theorem Shape.ne {cs : CL} (h : Shape cs) : cs ≠ [] := by
  obtain ⟨pre, c, rfl, _⟩ := h
  simp
theorem append_eq {cs : CL} {sg : List Seg} {es : List Ent} {count : Nat} {falls : List Fall} (h : Live cs sg) (hl : cs.flatten.length + es.length ≤ 240) (hc : count ≤ 10000) (hf : falls.length ≤ 1) :
    (∃ x, (x = 1 ∨ x = 2) ∧ wAppend (((cs.flatten.length + 1 : Nat) : Int)) es sg false (F cs) (F cs) [] (count : Int) false falls = some (x, (sg, (false, (F cs, (F cs, ([], ((count : Int), (false, (falls, ()))))))))))
    ∨ ((∀ e ∈ es, GoodE e) ∧ ∃ sg' cs' count', wAppend (((cs.flatten.length + 1 : Nat) : Int)) es sg false (F cs) (F cs) [] (count : Int) false falls = some (0, (sg', (false, (F cs', (F cs', ([], (((count' : Nat) : Int), (false, (falls, ()))))))))) ∧ Live cs' sg' ∧ cs'.flatten = cs.flatten ++ es ∧ count' ≤ count + es.length)
    ∨ ((∀ e ∈ es, GoodE e) ∧ ∃ sg' m d, ∃ count' : Nat, wAppend (((cs.flatten.length + 1 : Nat) : Int)) es sg false (F cs) (F cs) [] (count : Int) false falls = some (21, (sg', (true, (m, (m, ([], ((count' : Int), (true, ([], ()))))))))) ∧ Rec m cs d ∧ d.flatten <+: cs.flatten ++ es ∧ count' ≤ count + es.length) := by
  have hok : OkC cs := shape_ok h.sh h.good (by omega)
  have hne := h.sh.ne
  have hask : wAsk false = some (0, ()) := by rw [wAsk_un, wAsk_b]; rfl
  have hbase : wBase sg = some (0, (0, (sg, ()))) := by
    cases cs with
    | nil => exact (hne rfl).elim
    | cons c cs => exact base_seg h.sr
  have hend := end_eq h.sr hne hok
  have hcut := cut_none (sure := F cs) (now := F cs) (wait := []) (count := (count : Int)) (down := false) (falls := falls) h.sr h.sh hok
  have z0 : (!decide ((0 : Int) = 0)) = false := rfl
  have c1 : ¬ ((cs.flatten.length + 1 : Nat) : Int) ≤ 0 := by omega
  have w1 : IntKind.wrap .i64 (((cs.flatten.length : Nat) : Int) + 1) = ((cs.flatten.length + 1 : Nat) : Int) := wsucc (by omega)
  have c2 : ¬ ((cs.flatten.length + 1 : Nat) : Int) < ((cs.flatten.length + 1 : Nat) : Int) := by omega
  have n22 : ¬ (0 : Int) = 22 := by decide
  have n2122 : ¬ (21 : Int) = 22 := by decide
  have n210 : ¬ (21 : Int) = 0 := by decide
  rcases check_loop es (by omega) with ⟨hloop, hgood⟩ | ⟨x, hx, hloop⟩
  · right
    have hall : ∀ e ∈ cs.flatten ++ es, GoodE e := fun e he => by
      rcases List.mem_append.1 he with he | he
      · exact h.good e he
      · exact hgood e he
    obtain ⟨r, hr1, hr2⟩ := lay_loop (a := cs) (all := cs.flatten ++ es) (W := count + es.length) (falls := falls) (rest := es) (sg := sg) (now := F cs) (wait := []) (count := count) (cs := cs) hall (by rw [List.length_append]; omega) (by omega) hf hok hne ⟨rfl, rfl, h.sr, h.sh, rfl, by omega, by simp⟩
    match r, hr2 with
    | .inl (rest', sg', sure', now', wait', count', down', fl', ()), ⟨cs', c, hrest, hsure, hcount, hdown, hfl, hlay⟩ =>
      subst hrest hsure hcount hdown hfl
      left
      have hlayall : wLayAll es sg (F cs) (F cs) [] (count : Int) false fl' = some (0, (sg', (F cs, (now', (wait', ((c : Int), (false, (fl', ())))))))) := by
        rw [wLayAll_un, wLayAll_b, hr1]
        rfl
      have hn := hlay.now_
      subst hn
      have htold : wTold 0 false = some (0, (false, ())) := by rw [wTold_un, wTold_b]; rfl
      have hfl : cs'.flatten = cs.flatten ++ es := by have := hlay.all_; rwa [List.append_nil] at this
      refine ⟨hgood, sg', cs', c, ?_, ⟨hlay.sr, hlay.sh, by rw [hfl]; exact hall⟩, hfl, by have := hlay.cnt; simpa using this⟩
      rw [wAppend_un, wAppend_b]
      simp only [hask, Option.bind_some, z0, cond_false, hbase, hend, cond_if, if_neg c1, w1, if_neg c2, hloop, two_inl, hcut, hlayall, if_neg n22, if_true, decide_true, sync_eq, htold, Bool.not_true, cond_false]
    | .inr (e, sg', sure', now', wait', count', down', fl', ()), ⟨he, hnow, hw, hdown, hfl, ⟨c, hcle, hcount⟩, d, hrec, hpre⟩ =>
      subst he hnow hw hdown hfl hcount
      right
      have hlayall : wLayAll es sg (F cs) (F cs) [] (count : Int) false falls = some (21, (sg', (now', (now', ([], ((c : Int), (true, ([], ())))))))) := by
        rw [wLayAll_un, wLayAll_b, hr1]
        rfl
      have htold : wTold 21 false = some (21, (true, ())) := by rw [wTold_un, wTold_b]; rfl
      refine ⟨hgood, sg', now', d, c, ?_, hrec, hpre, hcle⟩
      rw [wAppend_un, wAppend_b]
      simp only [hask, Option.bind_some, z0, cond_false, hbase, hend, cond_if, if_neg c1, w1, if_neg c2, hloop, two_inl, hcut, hlayall, if_neg n2122, if_neg n210, if_true, decide_true, htold, Bool.not_true, cond_false]
  · left
    refine ⟨x, hx, ?_⟩
    rw [wAppend_un, wAppend_b]
    simp only [hask, Option.bind_some, z0, cond_false, hbase, hend, cond_if, if_neg c1, w1, if_neg c2, hloop, two_inr, decide_true, Bool.not_true, cond_false]
end Go.Proofs.YthnhbejjikgifaaGreatDoor.TV

/-
  WAL: reading the files in plain words.
-/
namespace Go.Proofs.YthnhbejjikgifaaGreatDoor.TV
open Go Go.RowKit
set_option linter.unusedSimpArgs false
set_option linter.unusedVariables false
set_option maxRecDepth 100000

/-! ### Names and numbers -/
noncomputable def numOf (x : List UInt8) : Nat := (match wNumber_b x with
  | some (n, _) => n
  | none => 0).toNat
theorem numOf_wn {k : Nat} (h : k < 41) (h0 : 0 < k) : numOf (wn k) = k := by
  unfold numOf
  rw [wn_number ⟨k, h⟩ h0]
  exact Int.toNat_natCast k
theorem files_keys : ∀ (cs : CL) (k i t : Nat), (filesFrom k i t cs).map (·.1) = (List.range' k cs.length).map wn
  | [], _, _, _ => rfl
  | c :: cs, k, i, t => by
    simp only [filesFrom, List.map_cons, List.length_cons, List.range'_succ]
    rw [files_keys cs]
theorem names_list {names : List (List UInt8)} {K : Nat} (h : names.Perm ((List.range' 1 K).map wn)) (hK : K ≤ 40) : ∃ ks : List Nat, names = ks.map wn ∧ ks.Perm (List.range' 1 K) := by
  refine ⟨names.map numOf, ?_, ?_⟩
  · rw [List.map_map]
    have : ∀ x ∈ names, (wn ∘ numOf) x = x := fun x hx => by
      obtain ⟨k, hk, rfl⟩ := List.mem_map.1 (h.mem_iff.1 hx)
      have := List.mem_range'_1.1 hk
      simp only [Function.comp]
      rw [numOf_wn (by omega) (by omega)]
    rw [List.map_congr_left this]
    simp
  · have h2 := h.map numOf
    rw [List.map_map] at h2
    have : ∀ k ∈ List.range' 1 K, (numOf ∘ wn) k = k := fun k hk => by
      have := List.mem_range'_1.1 hk
      exact numOf_wn (by omega) (by omega)
    rw [List.map_congr_left this] at h2
    simpa using h2
theorem names_loop {m : MapB} : ∀ (rest : List Nat) (done : List Nat) (names : List (List UInt8)), names = (done ++ rest).map wn → names.length ≤ 1000 → (∀ k ∈ rest, 0 < k ∧ k < 41) →
    loop (wRead_l0 names) ((done.length : Int), (done.map (fun k : Nat => (k : Int)), (m, ()))) = some (.inl ((names.length : Int), ((done ++ rest).map (fun k : Nat => (k : Int)), (m, ()))))
  | [], done, names, hn, hl, _ => by
    have hlen : names.length = done.length := by rw [hn]; simp
    have h0 : ¬ (done.length : Int) < (done.length : Int) := by omega
    rw [loop_eq]
    simp only [wRead_l0, cond_if, hlen, if_neg h0, List.append_nil]
  | k :: rest, done, names, hn, hl, hk => by
    have hlen : names.length = done.length + (rest.length + 1) := by rw [hn]; simp
    have h0 : (done.length : Int) < (names.length : Int) := by omega
    have h1 : (0 : Int) ≤ (done.length : Int) := by omega
    have hg : names[done.length]? = some (wn k) := by rw [hn, List.getElem?_map, List.getElem?_append_right (Nat.le_refl _)]; simp
    have hkk := hk k (by simp)
    have hb : ((done.map (fun k : Nat => (k : Int))).length + 1) * 8 ≤ 140737488355328 := by rw [List.length_map]; omega
    have ih := names_loop (m := m) rest (done ++ [k]) names (by rw [hn]; simp) hl fun x hx => hk x (by simp [hx])
    rw [loop_eq]
    simp only [wRead_l0, cond_if, if_pos h0, if_pos h1, nat_at, hg, Option.bind_some, number_eq hkk.2 hkk.1, if_true, if_pos hb, wsucc (i := done.length) (by omega)]
    have e1 : (done ++ [k]).length = done.length + 1 := by simp
    rw [e1, List.map_append, List.append_assoc] at ih
    exact ih
theorem range_sorted : ∀ (K k : Nat), ((List.range' k K).map (fun k : Nat => (k : Int))).Pairwise (· ≤ ·)
  | 0, _ => by simp
  | K + 1, k => by
    rw [List.range'_succ, List.map_cons, List.pairwise_cons]
    refine ⟨fun z hz => ?_, range_sorted K (k + 1)⟩
    obtain ⟨x, hx, rfl⟩ := List.mem_map.1 hz
    have := List.mem_range'_1.1 hx
    omega
theorem sort_range {ks : List Nat} {K : Nat} (h : ks.Perm (List.range' 1 K)) : sortI (ks.map (fun k : Nat => (k : Int))) = (List.range' 1 K).map (fun k : Nat => (k : Int)) :=
  sorted_unique ((sortI_perm _).trans (h.map _)) (sortI_sorted _) (range_sorted _ _)
theorem range_at {K i : Nat} (h : i < K) : ((List.range' 1 K).map (fun k : Nat => (k : Int)))[i]? = some ((i + 1 : Nat) : Int) := by
  rw [List.getElem?_map, List.getElem?_range' h]
  simp only [Option.map_some]
  congr 1
  omega

/-! ### A file behind the other -/
/-- A file of which all but perhaps a tail is whole. -/
theorem read_whole {a : CL} {c : List Ent} {q : List UInt8} {m : MapB} {sga : List Seg} {x11 : List Int} {K : Nat} {tn : Bool} (hx : sortI x11 = (List.range' 1 K).map (fun k : Nat => (k : Int))) (hK : a.length < K) (hK40 : K ≤ 40)
    (hget : mget (wn (a.length + 1)) m = some (bse a ++ (c.flatMap entB ++ q))) (hok : OkC (a ++ [c])) (hq : Tail q) (hql : q = [] ∨ a.length + 1 = K) (hsr : SR a sga) :
    ∃ s, SR (a ++ [c]) (sga ++ [s]) ∧ wRead_l1 false x11 ((a.length : Int), ([], (tn, (sga, (m, ()))))) = some (.next (((a.length + 1 : Nat) : Int), ([], (!q.isEmpty, (sga ++ [s], (m, ())))))) := by
  have hlast := hok.last
  have hlen := hok.pre.len
  have hterm := hok.pre.term
  have hle := hok.1
  rw [List.length_append, List.length_singleton] at hle
  have hqlen : q.length < 100000 := by
    rcases hq with rfl | ⟨e, r, he, hqr, _, _⟩
    · simp
    · have := congrArg List.length hqr
      rw [List.length_append] at this
      have := (entB_length he).1
      omega
  have hsl : (bse a ++ (c.flatMap entB ++ q)).length < 4611686018427387904 := by
    have e1 := bse_length hok.pre
    have e2 := ents_length hlast.2
    have := hlast.1
    rw [List.length_append, List.length_append]
    omega
  obtain ⟨ed, hp, hL⟩ := parse_ok (n := ((a.length + 1 : Nat) : Int)) (i := a.flatten.length) (t := lastT 0 a.flatten) (es := c) (q := q) (s := bse a ++ (c.flatMap entB ++ q)) (by omega) hterm hlast.2 hlast.1 hq rfl hsl
  have hseg : SegR (a.length + 1) a.flatten.length (lastT 0 a.flatten) c (((a.length + 1 : Nat) : Int), ((a.flatten.length : Nat) : Int), ((lastT 0 a.flatten : Nat) : Int), c, ed) := by
    refine ⟨rfl, rfl, rfl, rfl, ?_⟩
    have e : (bse a ++ (c.flatMap entB ++ q)).length - q.length = (baseB a.flatten.length (lastT 0 a.flatten) ++ c.flatMap entB).length := by
      simp only [bse, List.length_append]
      omega
    rw [← e]
    exact hL
  refine ⟨_, SR.snoc hsr hseg, ?_⟩
  have hsgl : sga.length = a.length := hsr.length
  have h0 : (a.length : Int) < ((((List.range' 1 K).map (fun k : Nat => (k : Int))).length : Nat) : Int) := by simp; omega
  have h1 : (0 : Int) ≤ (a.length : Int) := by omega
  have hname := name_eq (k := a.length + 1) (by omega)
  have hread := read_some (now := m) (by omega) hget
  have w1 : IntKind.wrap .i64 (((((List.range' 1 K).map (fun k : Nat => (k : Int))).length : Nat) : Int) - 1) = ((K - 1 : Nat) : Int) := by
    rw [List.length_map, List.length_range', w64 (by omega)]
    omega
  have h72 : (sga.length + 1) * 72 ≤ 140737488355328 := by omega
  have z0 : (!decide ((0 : Int) = 0)) = false := rfl
  -- what is asked of a file that is not whole
  have hcond : (bif !q.isEmpty then some (Sum.inl (decide ((a.length : Int) < ((K - 1 : Nat) : Int)), ())) else some (Sum.inl (false, ())) : Option ((Bool × Unit) ⊕ Unit)) = some (.inl (false, ())) := by
    rcases hql with rfl | hl
    · rfl
    · have : ¬ (a.length : Int) < ((K - 1 : Nat) : Int) := by omega
      cases q.isEmpty <;> simp [this]
  by_cases ha : a = []
  · subst ha
    have hs0 : sga = [] := List.length_eq_zero_iff.1 hsgl
    subst hs0
    have n0 : ¬ (0 : Int) < (([] : List Seg).length : Int) := by simp
    simp only [wRead_l1, hx, cond_if, if_pos h0, if_pos h1, nat_at, range_at hK, Option.bind_some, hname, hread, hp, decide_true, Bool.not_true, cond_false, Bool.false_eq_true, if_false, w1, hcond, two_inl, if_neg n0, if_pos h72, wsucc (i := ([] : CL).length) (by simp)]
  · have hspl : a = a.dropLast ++ [a.getLast ha] := (List.dropLast_concat_getLast ha).symm
    generalize a.dropLast = pre at hspl
    generalize a.getLast ha = cl at hspl
    subst hspl
    obtain ⟨sp, s', hsp, h2, hspl2, g2, g3, g4, g5, g6⟩ := hsr.last
    obtain ⟨n, i, t, es, ed'⟩ := s'
    simp only at g2 g3 g4 g5 g6
    subst g2 g3 g4 g5
    subst hsp
    have hgl := hok.pre.last.2
    have hplen : sp.length ≤ 34 := by
      rw [hspl2]
      rw [List.length_append, List.length_singleton] at hle
      omega
    have hpl : (pre ++ [es]).flatten.length = pre.flatten.length + es.length := by simp
    have hpt : lastT 0 (pre ++ [es]).flatten = lastT (lastT 0 pre.flatten) es := by rw [List.flatten_append, lastT_append]; simp
    have hend := segEnd_eq (n := pre.length + 1) (i := pre.flatten.length) (t := lastT 0 pre.flatten) (ed := ed') hgl (by omega) (by
      have := hok.1
      rw [List.length_append, List.length_append, List.length_singleton, List.length_singleton] at this
      omega)
    rw [← hpl, ← hpt] at hend
    have hlx := last_ix (s := (((pre.length + 1 : Nat) : Int), ((pre.flatten.length : Nat) : Int), ((lastT 0 pre.flatten : Nat) : Int), es, ed')) (show sp.length < 1000000 by omega)
    have c0 : (0 : Int) < ((sp ++ [(((pre.length + 1 : Nat) : Int), ((pre.flatten.length : Nat) : Int), ((lastT 0 pre.flatten : Nat) : Int), es, ed')]).length : Int) := by rw [List.length_append, List.length_singleton]; omega
    have c1 : (0 : Int) ≤ (sp.length : Int) := by omega
    have c2 : (sp.length : Int) < ((sp ++ [(((pre.length + 1 : Nat) : Int), ((pre.flatten.length : Nat) : Int), ((lastT 0 pre.flatten : Nat) : Int), es, ed')]).length : Int) := by rw [List.length_append, List.length_singleton]; omega
    simp only [wRead_l1, hx, cond_if, if_pos h0, if_pos h1, nat_at, range_at hK, Option.bind_some, hname, hread, hp, decide_true, Bool.not_true, cond_false, Bool.false_eq_true, if_false, w1, hcond, two_inl, if_pos c0, hlx, if_pos c1, if_pos c2, last_at, hend, decide_true, if_pos h72, wsucc (i := (pre ++ [es]).length) (by omega)]
/-- A file of which not even the base is whole, the last. -/
theorem read_torn {a : CL} {p r : List UInt8} {m : MapB} {sga : List Seg} {x11 : List Int} {tn : Bool} (hx : sortI x11 = (List.range' 1 (a.length + 1)).map (fun k : Nat => (k : Int))) (hok : OkC a)
    (hget : mget (wn (a.length + 1)) m = some p) (hpr : p ++ r = bse a) (hr : r ≠ []) :
    wRead_l1 false x11 ((a.length : Int), ([], (tn, (sga, (m, ()))))) = some (.ret ([((a.length + 1 : Nat) : Int)], (false, (0, (sga, (m, ())))))) := by
  have hlen := hok.len
  have hterm := hok.term
  have hle := hok.1
  have hp := parse_not (n := ((a.length + 1 : Nat) : Int)) (i := a.flatten.length) (t := lastT 0 a.flatten) (by omega) hterm hpr hr
  have h0 : (a.length : Int) < ((((List.range' 1 (a.length + 1)).map (fun k : Nat => (k : Int))).length : Nat) : Int) := by simp; omega
  have h1 : (0 : Int) ≤ (a.length : Int) := by omega
  have hname := name_eq (k := a.length + 1) (by omega)
  have hread := read_some (now := m) (by omega) hget
  have w1 : IntKind.wrap .i64 (((((List.range' 1 (a.length + 1)).map (fun k : Nat => (k : Int))).length : Nat) : Int) - 1) = (a.length : Int) := by
    rw [List.length_map, List.length_range', w64 (by omega)]
    omega
  have z0 : (!decide ((0 : Int) = 0)) = false := rfl
  have n0 : ¬ (a.length : Int) < (a.length : Int) := by omega
  have h8 : (([] : List Int).length + 1) * 8 ≤ 140737488355328 := by simp
  simp only [wRead_l1, hx, cond_if, if_pos h0, if_pos h1, nat_at, range_at (show a.length < a.length + 1 by omega), Option.bind_some, hname, hread, hp, decide_true, Bool.not_true, cond_false, cond_true, Bool.false_eq_true, if_false, if_true, w1, n0, decide_false, two_inl, Bool.not_false, if_pos h8, List.nil_append]
/-- All files but the last. -/
theorem read_many {m : MapB} {x11 : List Int} {K : Nat} (hx : sortI x11 = (List.range' 1 K).map (fun k : Nat => (k : Int))) (hK40 : K ≤ 40) : ∀ (b a : CL) (sga : List Seg), OkC (a ++ b) → a.length + b.length ≤ K → SR a sga →
    (∀ (u : CL) (c : List Ent) (v : CL), a ++ b = u ++ c :: v → mget (wn (u.length + 1)) m = some (bse u ++ c.flatMap entB)) →
    ∃ sgb, SR (a ++ b) sgb ∧ loop (wRead_l1 false x11) ((a.length : Int), ([], (false, (sga, (m, ()))))) = loop (wRead_l1 false x11) (((a ++ b).length : Int), ([], (false, (sgb, (m, ())))))
  | [], a, sga, _, _, hsr, _ => ⟨sga, by simpa using hsr, by simp⟩
  | c :: b, a, sga, hok, hl, hsr, hget => by
    have hok1 : OkC (a ++ [c]) := by
      have : a ++ c :: b = (a ++ [c]) ++ b := by simp
      rw [this] at hok
      exact hok.pre
    rw [List.length_cons] at hl
    obtain ⟨s, h1, h2⟩ := read_whole (q := []) (tn := false) hx (by omega) hK40 (by rw [List.append_nil]; exact hget a c b rfl) hok1 (.inl rfl) (.inl rfl) hsr
    obtain ⟨sgb, h3, h4⟩ := read_many hx hK40 b (a ++ [c]) (sga ++ [s]) (by simpa using hok) (by rw [List.length_append, List.length_singleton]; omega) h1 (fun u c' v huv => hget u c' v (by rw [← huv]; simp))
    have e : (a ++ [c]) ++ b = a ++ c :: b := by simp
    rw [e] at h3 h4
    refine ⟨sgb, h3, ?_⟩
    rw [loop_eq, h2]
    have e1 : (a ++ [c]).length = a.length + 1 := by simp
    rw [e1] at h4
    exact h4
theorem F_get {u v : CL} {c : List Ent} {m : MapB} (h : u.length ≤ 36) : mget (wn (u.length + 1)) (F (u ++ c :: v) ++ m) = some (bse u ++ c.flatMap entB) := by
  have e : F (u ++ c :: v) = F u ++ (wn (u.length + 1), bse u ++ c.flatMap entB) :: filesFrom (1 + u.length + 1) (0 + u.flatten.length + c.length) (lastT (lastT 0 u.flatten) c) v := by
    unfold F bse
    rw [filesFrom_append]
    simp only [filesFrom]
    rw [Nat.add_comm 1 u.length, Nat.zero_add]
  rw [e, List.append_assoc, mget_skip (F_fresh h)]
  simp [mget]
end Go.Proofs.YthnhbejjikgifaaGreatDoor.TV
