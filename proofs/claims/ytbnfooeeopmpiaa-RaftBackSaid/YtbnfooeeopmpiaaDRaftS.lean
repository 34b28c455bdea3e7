/-
  RAFT: the laws on messages answer true.
-/
import Derived.Test.YtbnfooeeopmpiaaDRaftR
namespace Go.Proofs.Ytbnfooeeopmpiaa.TV
open Go Go.RowKit
set_option linter.unusedSimpArgs false
set_option linter.unusedVariables false
set_option maxRecDepth 100000

theorem decM_es (S : List UInt8) : (decM S).1.es.length ≤ 16 := by
  by_cases h : (decM S).2 = 0
  · obtain ⟨h1, _⟩ := decM_inv h
    have := (ok_nums h1).1
    unfold OkNums at this
    omega
  · rw [decM_ms0 h]
    simp [ms0]
theorem encB_len {m : Ms} (hm : okMsg m = true) : (encB m).length < 4611686018427387904 := by
  obtain ⟨h1, _⟩ := ok_nums hm
  unfold OkNums at h1
  have a1 := flat_len (ents_in hm)
  have a2 := num_len10 (n := m.es.length) (by omega)
  have a3 := num_len10 (n := m.d.length) (by omega)
  have a4 : (num (yesN m.yes)).length ≤ 10 := num_len10 (by cases m.yes <;> simp [yesN])
  have a5 : (numsB (nine m)).length ≤ 90 := by
    have : ∀ l : List Int, (∀ z ∈ l, 0 ≤ z ∧ z ≤ 1099511627776) → (numsB l).length ≤ 10 * l.length := by
      intro l
      induction l with
      | nil => simp [numsB]
      | cons z l ih =>
        intro h
        have h1 := ih fun y hy => h y (List.mem_cons_of_mem _ hy)
        have h2 := nl (h z (by simp))
        have h3 : (numsB (z :: l)).length = (num z.toNat).length + (numsB l).length := by simp [numsB]
        rw [h3, List.length_cons]
        omega
    exact this (nine m) (nine_in hm)
  simp only [encB, txt, List.length_append]
  omega
theorem encR_ok {m : Ms} (hm : okMsg m = true) : encR m = (encB m, (0, ())) := if_pos hm
theorem encR_no {m : Ms} (hm : ¬ okMsg m = true) : encR m = ([], (1, ())) := if_neg hm
theorem back_tail {s : List UInt8} (h2 : s.length < 4611686018427387904) : ((rDecode s).bind fun ((x3, (x4, (x5, (x6, (x7, (x8, (x9, (x10, (x11, (x12, (x13, x14))))))))))), (x15, _)) => (bif !decide (x15 = 0) then some (true, ()) else ((rEncode x3 x4 x5 x6 x7 x8 x9 x10 x11 x12 x13 x14).bind fun (x16, (x17, _)) => (two (β := (Bool × Unit)) (γ := Unit) (bif decide (x17 = 0) then some (.inl (decide (x16 = s), ())) else some (.inl (false, ()))) (fun (x19, _) => some (x19, ())) (fun _ => none))))) = some (true, ()) := by
  have hd := decM_es s
  have hi := @decM_inv s
  rw [rDecode_eq' h2]
  generalize decM s = D at hd hi
  simp only [Option.bind_some, msgT]
  by_cases h : D.2 = 0
  · obtain ⟨h3, h4⟩ := hi h
    rw [h, rEncode_eq' D.1 (by omega), encR_ok h3, h4]
    simp only [Option.bind_some, two_inl, eq_self, decide_true, Bool.not_true, cond_false, cond_true]
  · rw [decide_eq_false h]
    rfl
section
variable (m : Ms) (s : List UInt8) (h1 : m.es.length ≤ 4398046511104) (h2 : s.length < 4611686018427387904)
include h1 h2
theorem lRaftBytes_eq' : lRaftBytes m.k m.f m.t m.term m.ix m.lt m.cm m.rd m.at_ m.yes m.es m.d s = some (true, ()) := by
  have hd := decM_es s
  rw [lRaftBytes_un, lRaftBytes_b, rEncode_eq' m (by omega), lRef_eq' m h1]
  simp only [Option.bind_some, msgT, fEncode_eq' m (by omega), rDecode_eq' h2, fDecode_eq' h2, rCheck_eq' m (by omega), fCheck_eq' m (by omega), lRef_eq' (decM s).1 (by omega), fSame_eq' (decM s).1 (by omega), beq_self_eq_true, decide_true, cond_true, two_inl]
theorem lRaftBack_eq' : lRaftBack m.k m.f m.t m.term m.ix m.lt m.cm m.rd m.at_ m.yes m.es m.d s = some (true, ()) := by
  have ht := back_tail h2
  rw [lRaftBack_un, lRaftBack_b, rEncode_eq' m (by omega)]
  simp only [Option.bind_some]
  by_cases hm : okMsg m = true
  · rw [encR_ok hm]
    simp only [decide_true, cond_true, rDecode_eq' (encB_len hm), decM_enc hm, Option.bind_some, msgT, Bool.not_true, cond_false, lRef_eq' m h1, fSame_eq' m (by omega)]
    exact ht
  · rw [encR_no hm]
    simp only [show ¬ (1 : Int) = 0 by decide, decide_false, cond_false]
    exact ht
end
end Go.Proofs.Ytbnfooeeopmpiaa.TV
