/-
  RAFT: messages: what is read of a text; there and back; the laws on messages, in plain words.
-/
import Derived.Test.YtbnfooeeopmpiaaDRaftQ
import Derived.Test.YtbnfooeeopmpiaaDRaftL
namespace Go.Proofs.Ytbnfooeeopmpiaa.TV
open Go Go.RowKit
set_option linter.unusedSimpArgs false
set_option linter.unusedVariables false
set_option maxRecDepth 100000

def rdEnts (S : List UInt8) : Nat → Nat × Nat → (Nat × Nat) × List En
  | 0, r => (r, [])
  | n + 1, r =>
    let a := rdNum S r 1099511627776
    let b := rdNum S a.1 255
    let t := rdTxt S b.1 65536
    let x := rdEnts S n t.1
    (x.1, ((a.2 : Int), (b.2 : Int), t.2) :: x.2)
theorem rdEnts_len (S : List UInt8) : ∀ (n : Nat) (r : Nat × Nat), (rdEnts S n r).2.length = n
  | 0, _ => rfl
  | n + 1, r => by simp [rdEnts, rdEnts_len S n]
def msOf (l : List Int) (y : Bool) (es : List En) (d : List UInt8) : Ms := ⟨l.getD 0 0, l.getD 1 0, l.getD 2 0, l.getD 3 0, l.getD 4 0, l.getD 5 0, l.getD 6 0, l.getD 7 0, l.getD 8 0, y, es, d⟩
theorem nine_msOf {l : List Int} {y : Bool} {es : List En} {d : List UInt8} (h : l.length = 9) : nine (msOf l y es d) = l := by
  match l, h with
  | [_, _, _, _, _, _, _, _, _], _ => rfl
theorem msOf_nine (m : Ms) : msOf (nine m) m.yes m.es m.d = m := rfl
def ms0 : Ms := ⟨0, 0, 0, 0, 0, 0, 0, 0, 0, false, [], []⟩
/-- What is read: where the reading ends, and the message. -/
def rdMsg (S : List UInt8) : Ms × Nat × Nat :=
  let x := rdMany S 1099511627776 9 (0, 0)
  let y := rdBool S x.1
  let c := rdNum S y.1 16
  let es := rdEnts S c.2 c.1
  let t := rdTxt S es.1 4096
  (msOf x.2 y.2 es.2 t.2, rdEnd S t.1)
def decM (S : List UInt8) : Ms × Int := if (rdMsg S).2.2 = 0 ∧ okMsg (rdMsg S).1 = true then ((rdMsg S).1, 0) else (ms0, 3)

section
variable {S : List UInt8} (hl : S.length < 4611686018427387904)
include hl
theorem oI40 {r : Nat × Nat} : oRdInt 1099511627776 S (r.1 : Int) (r.2 : Int) = some (((rdNum S r 1099511627776).2 : Int), (((rdNum S r 1099511627776).1.1 : Int), (((rdNum S r 1099511627776).1.2 : Int), ()))) := oRdInt_eq' (most := 1099511627776) hl (by omega)
theorem oI40' : oRdInt 1099511627776 S 0 0 = some (((rdNum S (0, 0) 1099511627776).2 : Int), (((rdNum S (0, 0) 1099511627776).1.1 : Int), (((rdNum S (0, 0) 1099511627776).1.2 : Int), ()))) := oI40 hl (r := (0, 0))
theorem oI16 {r : Nat × Nat} : oRdInt 16 S (r.1 : Int) (r.2 : Int) = some (((rdNum S r 16).2 : Int), (((rdNum S r 16).1.1 : Int), (((rdNum S r 16).1.2 : Int), ()))) := oRdInt_eq' (most := 16) hl (by omega)
theorem oI255 {r : Nat × Nat} : oRdInt 255 S (r.1 : Int) (r.2 : Int) = some (((rdNum S r 255).2 : Int), (((rdNum S r 255).1.1 : Int), (((rdNum S r 255).1.2 : Int), ()))) := oRdInt_eq' (most := 255) hl (by omega)
theorem oT16 {r : Nat × Nat} : oRdText 65536 S (r.1 : Int) (r.2 : Int) = some ((rdTxt S r 65536).2, (((rdTxt S r 65536).1.1 : Int), (((rdTxt S r 65536).1.2 : Int), ()))) := oRdText_eq' (most := 65536) hl
theorem oT12 {r : Nat × Nat} : oRdText 4096 S (r.1 : Int) (r.2 : Int) = some ((rdTxt S r 4096).2, (((rdTxt S r 4096).1.1 : Int), (((rdTxt S r 4096).1.2 : Int), ()))) := oRdText_eq' (most := 4096) hl
theorem fI40 {r : Nat × Nat} : fRdInt S (r.1 : Int) (r.2 : Int) 1099511627776 = some (rd3 S (rdNum S r 1099511627776).1, (((rdNum S r 1099511627776).2 : Int), ())) := fRdInt_eq' (most := 1099511627776) hl (by omega)
theorem fI40' : fRdInt S 0 0 1099511627776 = some (rd3 S (rdNum S (0, 0) 1099511627776).1, (((rdNum S (0, 0) 1099511627776).2 : Int), ())) := fI40 hl (r := (0, 0))
theorem fI16 {r : Nat × Nat} : fRdInt S (r.1 : Int) (r.2 : Int) 16 = some (rd3 S (rdNum S r 16).1, (((rdNum S r 16).2 : Int), ())) := fRdInt_eq' (most := 16) hl (by omega)
theorem fI255 {r : Nat × Nat} : fRdInt S (r.1 : Int) (r.2 : Int) 255 = some (rd3 S (rdNum S r 255).1, (((rdNum S r 255).2 : Int), ())) := fRdInt_eq' (most := 255) hl (by omega)
theorem fT16 {r : Nat × Nat} : fRdText S (r.1 : Int) (r.2 : Int) 65536 = some (rd3 S (rdTxt S r 65536).1, ((rdTxt S r 65536).2, ())) := fRdText_eq' (most := 65536) hl
theorem fT12 {r : Nat × Nat} : fRdText S (r.1 : Int) (r.2 : Int) 4096 = some (rd3 S (rdTxt S r 4096).1, ((rdTxt S r 4096).2, ())) := fRdText_eq' (most := 4096) hl
theorem rDecode_loop {c : Nat} (hc : c ≤ 16) : ∀ (n i : Nat) (r : Nat × Nat) (acc : List En), i + n = c → acc.length = i →
    loop (rDecode_l0 S (c : Int)) ((i : Int), ((r.1 : Int), ((r.2 : Int), (acc, ())))) = some (.inl ((c : Int), (((rdEnts S n r).1.1 : Int), (((rdEnts S n r).1.2 : Int), (acc ++ (rdEnts S n r).2, ())))))
  | 0, i, r, acc, h, ha => by
    have h1 : ¬ (i : Int) < (c : Int) := by omega
    rw [loop_eq]
    simp only [rDecode_l0, decide_eq_false h1, cond_false, rdEnts, List.append_nil]
    rw [show (i : Int) = (c : Int) by omega]
  | n + 1, i, r, acc, h, ha => by
    have h1 : (i : Int) < (c : Int) := by omega
    have e5 : IntKind.wrap .i64 ((i : Int) + 1) = ((i + 1 : Nat) : Int) := by rw [w64 (by omega)]; omega
    have k1 : ∀ x : En, (acc.length + List.length [x]) * 32 ≤ 140737488355328 := by intro x; simp; omega
    rw [loop_eq]
    simp only [rDecode_l0, decide_eq_true h1, cond_true, oI40 hl, oI255 hl, oT16 hl, Option.bind_some, decide_eq_true (k1 _), e5]
    rw [rDecode_loop hc n (i + 1) _ _ (by omega) (by simp; omega)]
    simp [rdEnts]
theorem fDecode_loop {c : Nat} (hc : c ≤ 16) : ∀ (n i : Nat) (r : Nat × Nat) (acc : List En), i + n = c → acc.length = i →
    loop (fDecode_l0 (c : Int)) ((i : Int), (S, ((r.1 : Int), ((r.2 : Int), (acc, ()))))) = some (.inl ((c : Int), (S, (((rdEnts S n r).1.1 : Int), (((rdEnts S n r).1.2 : Int), (acc ++ (rdEnts S n r).2, ()))))))
  | 0, i, r, acc, h, ha => by
    have h1 : ¬ (i : Int) < (c : Int) := by omega
    rw [loop_eq]
    simp only [fDecode_l0, decide_eq_false h1, cond_false, rdEnts, List.append_nil]
    rw [show (i : Int) = (c : Int) by omega]
  | n + 1, i, r, acc, h, ha => by
    have h1 : (i : Int) < (c : Int) := by omega
    have e5 : IntKind.wrap .i64 ((i : Int) + 1) = ((i + 1 : Nat) : Int) := by rw [w64 (by omega)]; omega
    have k1 : ∀ x : En, (acc.length + List.length [x]) * 32 ≤ 140737488355328 := by intro x; simp; omega
    rw [loop_eq]
    simp only [fDecode_l0, decide_eq_true h1, cond_true, fI40 hl, fI255 hl, fT16 hl, Option.bind_some, rd3, decide_eq_true (k1 _), e5]
    rw [fDecode_loop hc n (i + 1) _ _ (by omega) (by simp; omega)]
    simp [rdEnts]
theorem rDecode_eq' : rDecode S = some (msgT (decM S).1, ((decM S).2, ())) := by
  have hn : oNewReader S = some ((), (S, (0, (0, ())))) := by rw [oNewReader_un]; rfl
  rw [rDecode_un, rDecode_b, hn]
  simp only [Option.bind_some, oI40' hl, oI40 hl, oRdBool_eq' hl, oI16 hl]
  generalize hx1 : rdNum S (0, 0) 1099511627776 = x1
  generalize hx2 : rdNum S x1.1 1099511627776 = x2
  generalize hx3 : rdNum S x2.1 1099511627776 = x3
  generalize hx4 : rdNum S x3.1 1099511627776 = x4
  generalize hx5 : rdNum S x4.1 1099511627776 = x5
  generalize hx6 : rdNum S x5.1 1099511627776 = x6
  generalize hx7 : rdNum S x6.1 1099511627776 = x7
  generalize hx8 : rdNum S x7.1 1099511627776 = x8
  generalize hx9 : rdNum S x8.1 1099511627776 = x9
  generalize hy : rdBool S x9.1 = y
  have hc : (rdNum S y.1 16).2 ≤ 16 := rdNum_le S y.1 16
  generalize hcc : rdNum S y.1 16 = c at hc
  rw [show ((0 : Int), (((c.1.1 : Nat) : Int), (((c.1.2 : Nat) : Int), (([] : List En), ())))) = (((0 : Nat) : Int), (((c.1.1 : Nat) : Int), (((c.1.2 : Nat) : Int), (([] : List En), ())))) from rfl, rDecode_loop hl hc c.2 0 c.1 [] (by omega) rfl]
  simp only [two_inl, List.nil_append, oT12 hl, Option.bind_some, oRdEnd_eq']
  have hlen := rdEnts_len S c.2 c.1
  generalize hes : rdEnts S c.2 c.1 = es at hlen
  generalize ht : rdTxt S es.1 4096 = t
  have hM : (rdMsg S) = (⟨x1.2, x2.2, x3.2, x4.2, x5.2, x6.2, x7.2, x8.2, x9.2, y.2, es.2, t.2⟩, rdEnd S t.1) := by
    simp only [rdMsg, rdMany, hx1, hx2, hx3, hx4, hx5, hx6, hx7, hx8, hx9, hy, hcc, hes, ht]
    rfl
  have hC := rCheck_eq' (rdMsg S).1 (by rw [hM]; simp only; omega)
  rw [hM] at hC
  simp only at hC
  rw [hC, decM, hM]
  simp only [Option.bind_some, cond_if]
  generalize okMsg _ = B
  by_cases he : (rdEnd S t.1).2 = 0
  · cases B
    · simp [he, ms0, msgT]
    · simp [he, msgT]
  · have he' : ¬ (((rdEnd S t.1).2 : Nat) : Int) = 0 := by omega
    cases B <;> simp [he, he', ms0, msgT]
theorem fDecode_eq' : fDecode S = some (msgT (decM S).1, ((decM S).2, ())) := by
  rw [fDecode_un, fDecode_b]
  simp only [Option.bind_some, fI40' hl, fI40 hl, fRdBool_eq' hl, fI16 hl, rd3]
  generalize hx1 : rdNum S (0, 0) 1099511627776 = x1
  generalize hx2 : rdNum S x1.1 1099511627776 = x2
  generalize hx3 : rdNum S x2.1 1099511627776 = x3
  generalize hx4 : rdNum S x3.1 1099511627776 = x4
  generalize hx5 : rdNum S x4.1 1099511627776 = x5
  generalize hx6 : rdNum S x5.1 1099511627776 = x6
  generalize hx7 : rdNum S x6.1 1099511627776 = x7
  generalize hx8 : rdNum S x7.1 1099511627776 = x8
  generalize hx9 : rdNum S x8.1 1099511627776 = x9
  generalize hy : rdBool S x9.1 = y
  have hc : (rdNum S y.1 16).2 ≤ 16 := rdNum_le S y.1 16
  generalize hcc : rdNum S y.1 16 = c at hc
  rw [show ((0 : Int), (S, (((c.1.1 : Nat) : Int), (((c.1.2 : Nat) : Int), (([] : List En), ()))))) = (((0 : Nat) : Int), (S, (((c.1.1 : Nat) : Int), (((c.1.2 : Nat) : Int), (([] : List En), ()))))) from rfl, fDecode_loop hl hc c.2 0 c.1 [] (by omega) rfl]
  simp only [two_inl, List.nil_append, fT12 hl, Option.bind_some, rd3, fRdEnd_eq']
  have hlen := rdEnts_len S c.2 c.1
  generalize hes : rdEnts S c.2 c.1 = es at hlen
  generalize ht : rdTxt S es.1 4096 = t
  have hM : (rdMsg S) = (⟨x1.2, x2.2, x3.2, x4.2, x5.2, x6.2, x7.2, x8.2, x9.2, y.2, es.2, t.2⟩, rdEnd S t.1) := by
    simp only [rdMsg, rdMany, hx1, hx2, hx3, hx4, hx5, hx6, hx7, hx8, hx9, hy, hcc, hes, ht]
    rfl
  have hC := fCheck_eq' (rdMsg S).1 (by rw [hM]; simp only; omega)
  rw [hM] at hC
  simp only at hC
  rw [hC, decM, hM]
  simp only [Option.bind_some, cond_if]
  generalize okMsg _ = B
  by_cases he : (rdEnd S t.1).2 = 0
  · cases B
    · simp [he, ms0, msgT]
    · simp [he, msgT]
  · have he' : ¬ (((rdEnd S t.1).2 : Nat) : Int) = 0 := by omega
    cases B <;> simp [he, he', ms0, msgT]
end

/-! ### There and back -/
theorem rdEnts_ents {S : List UInt8} : ∀ {l : List En} {rest : List UInt8} {a : Nat}, S.drop a = l.flatMap entB ++ rest → (∀ x ∈ l, okEn x) → rdEnts S l.length (a, 0) = ((a + (l.flatMap entB).length, 0), l)
  | [], _, a, _, _ => by simp [rdEnts]
  | (x1, x2, x3) :: l, rest, a, h, hok => by
    have hx := hok (x1, x2, x3) (by simp)
    unfold okEn at hx
    simp only at hx
    have e1 : ((x1.toNat : Nat) : Int) = x1 := by omega
    have e2 : ((x2.toNat : Nat) : Int) = x2 := by omega
    have h1 : S.drop a = num x1.toNat ++ (num x2.toNat ++ (txt x3 ++ (l.flatMap entB ++ rest))) := by rw [h]; simp [entB]
    have h2 : S.drop (a + (num x1.toNat).length) = num x2.toNat ++ (txt x3 ++ (l.flatMap entB ++ rest)) := by rw [← List.drop_drop, h1, List.drop_left]
    have h3 : S.drop (a + (num x1.toNat).length + (num x2.toNat).length) = txt x3 ++ (l.flatMap entB ++ rest) := by rw [← List.drop_drop, h2, List.drop_left]
    have h4 : S.drop (a + (num x1.toNat).length + (num x2.toNat).length + (txt x3).length) = l.flatMap entB ++ rest := by rw [← List.drop_drop, h3, List.drop_left]
    have n1 := rdNum_num (most := 1099511627776) h1 (by omega) (by omega)
    have n2 := rdNum_num (most := 255) h2 (by omega) (by omega)
    have n3 := rdTxt_txt (most := 65536) h3 (by omega) (by omega)
    have n4 := rdEnts_ents h4 fun y hy => hok y (by simp [hy])
    simp only [rdEnts, List.length_cons, n1, n2, n3, n4, e1, e2]
    simp [entB, Nat.add_assoc]
theorem rdEnts_inv {S : List UInt8} : ∀ {n : Nat} {r : Nat × Nat}, (rdEnts S n r).1.2 = 0 → r.2 = 0 ∧ S.drop r.1 = (rdEnts S n r).2.flatMap entB ++ S.drop (rdEnts S n r).1.1
  | 0, r, h => ⟨h, by simp [rdEnts]⟩
  | n + 1, r, h => by
    simp only [rdEnts] at h ⊢
    obtain ⟨h1, h2⟩ := rdEnts_inv h
    obtain ⟨h3, h4, h5, _⟩ := rdTxt_inv h1
    obtain ⟨h6, h7, h8, _⟩ := rdNum_inv h3
    obtain ⟨h9, h10, h11, _⟩ := rdNum_inv h6
    refine ⟨h9, ?_⟩
    rw [h11, h8, h5, h2]
    simp [entB]
theorem rdMsg_enc {m : Ms} (hm : okMsg m = true) : rdMsg (encB m) = (m, ((encB m).length, 0)) := by
  have h0 : (encB m).drop 0 = numsB (nine m) ++ (num (yesN m.yes) ++ (num m.es.length ++ (m.es.flatMap entB ++ (txt m.d ++ [])))) := by simp [encB]
  have ⟨hn, _⟩ := ok_nums hm
  unfold OkNums at hn
  have h1 : (encB m).drop (0 + (numsB (nine m)).length) = num (yesN m.yes) ++ (num m.es.length ++ (m.es.flatMap entB ++ (txt m.d ++ []))) := by rw [← List.drop_drop, h0, List.drop_left]
  have h2 : (encB m).drop (0 + (numsB (nine m)).length + (num (yesN m.yes)).length) = num m.es.length ++ (m.es.flatMap entB ++ (txt m.d ++ [])) := by rw [← List.drop_drop, h1, List.drop_left]
  have h3 : (encB m).drop (0 + (numsB (nine m)).length + (num (yesN m.yes)).length + (num m.es.length).length) = m.es.flatMap entB ++ (txt m.d ++ []) := by rw [← List.drop_drop, h2, List.drop_left]
  have h4 : (encB m).drop (0 + (numsB (nine m)).length + (num (yesN m.yes)).length + (num m.es.length).length + (m.es.flatMap entB).length) = txt m.d ++ [] := by rw [← List.drop_drop, h3, List.drop_left]
  have n1 := rdMany_nums (most := 1099511627776) (by omega) h0 (nine_in hm)
  rw [show (nine m).length = 9 from rfl] at n1
  have n2 := rdBool_num h1
  have n3 := rdNum_num (most := 16) h2 (by omega) (by omega)
  have n4 := rdEnts_ents h3 (ents_in hm)
  have n5 := rdTxt_txt (most := 4096) h4 (by omega) (by omega)
  have hlen : (encB m).length = 0 + (numsB (nine m)).length + (num (yesN m.yes)).length + (num m.es.length).length + (m.es.flatMap entB).length + (txt m.d).length := by simp [encB]; omega
  simp only [rdMsg, n1, n2, n3, n4, n5, rdEnd]
  rw [if_neg (by omega), hlen, msOf_nine]
theorem decM_enc {m : Ms} (hm : okMsg m = true) : decM (encB m) = (m, 0) := by
  rw [decM, rdMsg_enc hm, if_pos ⟨rfl, hm⟩]
theorem decM_inv {S : List UInt8} (h : (decM S).2 = 0) : okMsg (decM S).1 = true ∧ encB (decM S).1 = S := by
  by_cases hc : (rdMsg S).2.2 = 0 ∧ okMsg (rdMsg S).1 = true
  · rw [decM, if_pos hc]
    refine ⟨hc.2, ?_⟩
    have h1 := hc.1
    have hk := hc.2
    simp only [rdMsg] at h1
    obtain ⟨h2, h3⟩ := rdEnd_inv h1
    obtain ⟨h4, h5, h6, _⟩ := rdTxt_inv h2
    obtain ⟨h7, h8⟩ := rdEnts_inv h4
    obtain ⟨h9, h10, h11, _⟩ := rdNum_inv h7
    obtain ⟨h12, h13, h14⟩ := rdBool_inv h9
    obtain ⟨h15, h16, h17, _⟩ := rdMany_inv h12
    have hz : S.drop (rdTxt S (rdEnts S (rdNum S (rdBool S (rdMany S 1099511627776 9 (0, 0)).1).1 16).2 (rdNum S (rdBool S (rdMany S 1099511627776 9 (0, 0)).1).1 16).1).1 4096).1.1 = [] := List.drop_of_length_le h3
    have hl := rdEnts_len S (rdNum S (rdBool S (rdMany S 1099511627776 9 (0, 0)).1).1 16).2 (rdNum S (rdBool S (rdMany S 1099511627776 9 (0, 0)).1).1 16).1
    have e : encB (rdMsg S).1 = numsB (rdMany S 1099511627776 9 (0, 0)).2 ++ (num (yesN (rdBool S (rdMany S 1099511627776 9 (0, 0)).1).2) ++ num (rdNum S (rdBool S (rdMany S 1099511627776 9 (0, 0)).1).1 16).2) ++ (rdEnts S (rdNum S (rdBool S (rdMany S 1099511627776 9 (0, 0)).1).1 16).2 (rdNum S (rdBool S (rdMany S 1099511627776 9 (0, 0)).1).1 16).1).2.flatMap entB ++ txt (rdTxt S (rdEnts S (rdNum S (rdBool S (rdMany S 1099511627776 9 (0, 0)).1).1 16).2 (rdNum S (rdBool S (rdMany S 1099511627776 9 (0, 0)).1).1 16).1).1 4096).2 := by
      rw [encB]
      simp only [rdMsg]
      rw [nine_msOf (rdMany_length 9 (0, 0))]
      simp only [msOf, hl]
    rw [e]
    simp only at h17
    rw [List.drop_zero] at h17
    conv => rhs; rw [h17, h14, h11, h8, h6, hz]
    simp
  · rw [decM, if_neg hc] at h
    cases h
theorem decM_ms0 {S : List UInt8} (h : (decM S).2 ≠ 0) : decM S = (ms0, 3) := by
  rw [decM] at h ⊢
  split
  · rename_i hc; rw [if_pos hc] at h; exact absurd rfl h
  · rfl
end Go.Proofs.Ytbnfooeeopmpiaa.TV
