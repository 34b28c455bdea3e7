/-
  RAFT: the law about votes: its printed form answers true.
-/
import Derived.Test.YtbnfooeeopmpiaaDRaftP
import Derived.Test.YtbnfooeeopmpiaaDVoteL
namespace Go.Proofs.Ytbnfooeeopmpiaa.TV
open Go Go.RowKit
set_option linter.unusedVariables false
set_option linter.unusedSimpArgs false

abbrev VSt : Type := ((List (Int × (Int × Int))) × ((List Bool) × (Int × (Unit × (Unit × (Int × (Int × (Int × (Int × (Unit × (Unit × (Unit × (Int × (Int × (Int × (Int × ((List Int) × ((List UInt8) × ((List (Int × (Int × (List UInt8)))) × (Unit × (Unit × (Unit × (Int × (Unit × (Unit × (Unit × (Unit × (Unit × (Unit × (Unit × (Unit × (Unit × (Unit × (Unit × (Unit × (Unit × (Unit × (Unit × (Unit × (Unit × (Unit × (Unit × (Unit × (Unit × (Unit × (Unit × (Unit × (Unit × (Unit × (Unit × (Unit × (Unit × (Unit × (Unit × (Unit × (Unit × (Unit × (Unit × (Unit × (Unit × (Unit × (Unit × (Unit × (Unit × (Unit × (Unit × (Unit × (Unit × (Unit × (Unit × Unit))))))))))))))))))))))))))))))))))))))))))))))))))))))))))))))))))))))
/-- The law's state ahead of a round. -/
def VS (asks : List (Int × Int × Int)) (again : List Bool) (idx t0 term vote draw i : Int) : VSt := (asks, (again, (term, ((), ((), (vote, (i, (idx, (t0, ((), ((), ((), (term, (vote, (idx, (t0, ([0, 1, 2, 3, 4, 5, 6], ([], ([], ((), ((), ((), (draw, ((), ((), ((), ((), ((), ((), ((), ((), ((), ((), ((), ((), ((), ((), ((), ((), ((), ((), ((), ((), ((), ((), ((), ((), ((), ((), ((), ((), ((), ((), ((), ((), ((), ((), ((), ((), ((), ((), ((), ((), ((), ((), ((), ((), ((), ((), ((), ()))))))))))))))))))))))))))))))))))))))))))))))))))))))))))))))))))))))
theorem among_ok {x n : Int} (hn : 0 < n) (hm : n < 1000) : ∃ r : Int, lAmong x n = some (r, ()) ∧ 0 ≤ r ∧ r < n := by
  have h1 : ¬ n = 0 := by omega
  have h2 := Int.tmod_lt_of_pos x hn
  have h3 : -n < Int.tmod x n := by
    have := Int.tmod_lt_of_pos (-x) hn
    rw [Int.neg_tmod] at this
    omega
  refine ⟨Int.tmod (IntKind.wrap .i64 (Int.tmod x n + n)) n, ?_, ?_, ?_⟩
  · rw [lAmong_un, lAmong_b]
    simp only [decide_eq_false h1, cond_false]
  · exact Int.tmod_nonneg n (by rw [w64 (by omega)]; omega)
  · exact Int.tmod_lt_of_pos _ hn
theorem nLast_0 {idx t0 : Int} (h : 0 ≤ idx ∧ idx ≤ 1000) : nLast idx t0 [] = some (idx, (t0, ())) := by
  have w1 : IntKind.wrap .i64 (idx + ((List.length ([] : List (Int × Int × List UInt8)) : Nat) : Int)) = idx := by rw [w64 (by simp; omega)]; simp
  have w2 : IntKind.wrap .i64 (idx - idx) = 0 := by rw [w64 (by omega)]; omega
  rw [nLast_un, nLast_b, nAt__un, nAt__b]
  simp only [w1, w2, decide_true, cond_true, Option.bind_some]
theorem sCheck_7 {idx t0 : Int} (h : 0 ≤ idx ∧ idx ≤ 1000) (h' : 0 ≤ t0 ∧ t0 ≤ 1000) : sCheck idx t0 [0, 1, 2, 3, 4, 5, 6] [] = some (0, ()) := by
  rw [sCheck_un, sCheck_b]
  have hl : loop (sCheck_l0 [0, 1, 2, 3, 4, 5, 6]) (-1, (0, ())) = some (.inl (6, (7, ()))) := by
    rw [loop_eq]
    show loop (sCheck_l0 [0, 1, 2, 3, 4, 5, 6]) (0, (1, ())) = _
    rw [loop_eq]
    show loop (sCheck_l0 [0, 1, 2, 3, 4, 5, 6]) (1, (2, ())) = _
    rw [loop_eq]
    show loop (sCheck_l0 [0, 1, 2, 3, 4, 5, 6]) (2, (3, ())) = _
    rw [loop_eq]
    show loop (sCheck_l0 [0, 1, 2, 3, 4, 5, 6]) (3, (4, ())) = _
    rw [loop_eq]
    show loop (sCheck_l0 [0, 1, 2, 3, 4, 5, 6]) (4, (5, ())) = _
    rw [loop_eq]
    show loop (sCheck_l0 [0, 1, 2, 3, 4, 5, 6]) (5, (6, ())) = _
    rw [loop_eq]
    show loop (sCheck_l0 [0, 1, 2, 3, 4, 5, 6]) (6, (7, ())) = _
    rw [loop_eq]
    rfl
  have c1 : ¬ idx < 0 := by omega
  have c2 : ¬ 1099511627776 < idx := by omega
  have c3 : ¬ t0 < 0 := by omega
  have c4 : ¬ 1099511627776 < t0 := by omega
  simp only [decide_eq_false c1, decide_eq_false c2, decide_eq_false c3, decide_eq_false c4, cond_false]
  show two (loop (sCheck_l0 [0, 1, 2, 3, 4, 5, 6]) (-1, (0, ()))) _ _ = _
  rw [hl]
  rfl
theorem nBase_7 {idx t0 : Int} : nBase idx t0 [0, 1, 2, 3, 4, 5, 6] [] = some ((idx, (t0, ([0, 1, 2, 3, 4, 5, 6], []))), ()) := by rw [nBase_un, nBase_b]; rfl
theorem clone_7 : cloneU 8 [0, 1, 2, 3, 4, 5, 6] = some (([0, 1, 2, 3, 4, 5, 6] : List Int), ()) := rfl
theorem rRight_0 {a term : Int} : rRight [] a term = some (true, ()) := rRight_eq' (l := []) (by simp) a
theorem rCheck_v {f t at_ of : Int} (hf : 1 ≤ f ∧ f ≤ 6) (ht : 1 ≤ t ∧ t ≤ 1000) (ha : 1 ≤ at_ ∧ at_ ≤ 1000) (ho : 1 ≤ of ∧ of ≤ t) : rCheck 1 f 0 t at_ of 0 0 0 false [] [] = some (true, ()) := by
  have h := rCheck_eq' (m := ⟨1, f, 0, t, at_, of, 0, 0, 0, false, [], []⟩) (by simp)
  refine h.trans ?_
  have : okMsg ⟨1, f, 0, t, at_, of, 0, 0, 0, false, [], []⟩ = true := by
    simp [okMsg, rightB, OkNums]
    omega
  rw [this]
def yesB (W f of t0 at_ idx : Int) : Bool := (decide (W = -1) || decide (W = f)) && (decide (t0 < of) || (decide (of = t0) && decide (idx ≤ at_)))
theorem voted_v {f t at_ of W idx t0 draw : Int} (h : 0 ≤ idx ∧ idx ≤ 1000) : vVoted 1 f 0 t at_ of 0 0 0 false [] [] t W idx t0 [] draw = some (yesB W f of t0 at_ idx, (bif yesB W f of t0 at_ idx then f else W, ((), ()))) := by
  rw [vVoted_un, vVoted_b, nLast_0 h]
  have c : ¬ t < t := by omega
  simp only [Option.bind_some, decide_eq_false c, cond_false]
  unfold yesB
  by_cases h3 : t0 < of
  · have h4 : ¬ of = t0 := by omega
    have h5 : ¬ of < t0 := by omega
    simp only [decide_eq_true h3, decide_eq_false h4, decide_eq_false h5]
    cases decide (W = -1) <;> cases decide (W = f) <;> rfl
  · by_cases h4 : of = t0
    · have h5 : ¬ of < t0 := by omega
      have q : decide (at_ < idx) = !decide (idx ≤ at_) := by
        by_cases h6 : idx ≤ at_
        · rw [decide_eq_true h6, decide_eq_false (by omega)]; rfl
        · rw [decide_eq_false h6, decide_eq_true (by omega)]; rfl
      simp only [decide_eq_false h3, decide_eq_true h4, decide_eq_false h5, q]
      cases decide (W = -1) <;> cases decide (W = f) <;> cases decide (idx ≤ at_) <;> rfl
    · have h5 : of < t0 := by omega
      simp only [decide_eq_false h3, decide_eq_false h4, decide_eq_true h5]
      cases decide (W = -1) <;> cases decide (W = f) <;> rfl
theorem said_v {a b c d e : Bool} : (bif decide True then (bif a then (bif c then some (.inl (true, ())) else (bif d then some (.inl (e, ())) else some (.inl (false, ())))) else (bif b then (bif c then some (.inl (true, ())) else (bif d then some (.inl (e, ())) else some (.inl (false, ())))) else some (.inl (false, ())))) else some (.inl (false, ())) : Option ((Bool × Unit) ⊕ Unit)) = some (.inl ((a || b) && (c || (d && e)), ())) := by
  simp only [decide_true, cond_true]
  cases a <;> cases b <;> cases c <;> cases d <;> rfl
theorem pick_v {Y : Bool} {f W : Int} : (bif Y then some (.inl (f, ())) else some (.inl (W, ())) : Option ((Int × Unit) ⊕ Unit)) = some (.inl (bif Y then f else W, ())) := by cases Y <;> rfl
structure VInv (term vote : Int) (n : Nat) : Prop where
  t : 1 ≤ term ∧ term ≤ 10 + 4 * (n : Int)
  v : -1 ≤ vote ∧ vote < 7
theorem vote_step {asks : List (Int × Int × Int)} {again : List Bool} {idx t0 term vote draw : Int} {n : Nat} {ask : Int × Int × Int} (hi : 1 ≤ idx ∧ idx ≤ 9) (h0 : 1 ≤ t0 ∧ t0 ≤ term) (hI : VInv term vote n) (hn : n < 30) (ha : asks[n]? = some ask) :
    ∃ term' vote' draw', lRaftVotes_l0 (VS asks again idx t0 term vote draw n) = some (.next (VS asks again idx t0 term' vote' draw' ((n + 1 : Nat) : Int))) ∧ t0 ≤ term' ∧ VInv term' vote' (n + 1) := by
  obtain ⟨a0, a1, a2⟩ := ask
  obtain ⟨r1, e1, l1, u1⟩ := among_ok (x := a0) (n := 6) (by omega) (by omega)
  obtain ⟨r2, e2, l2, u2⟩ := among_ok (x := a1) (n := 4) (by omega) (by omega)
  obtain ⟨r3, e3, l3, u3⟩ := among_ok (x := a2) (n := 12) (by omega) (by omega)
  obtain ⟨r4, e4, l4, u4⟩ := among_ok (x := Int.fdiv a2 256) (n := 12) (by omega) (by omega)
  have hlen : n < asks.length := (List.getElem?_eq_some_iff.1 ha).1
  have bt := hI.t
  have bv := hI.v
  have w1 : IntKind.wrap .i64 (1 + r1) = 1 + r1 := w64 (by omega)
  have w2 : IntKind.wrap .i64 (term + r2) = term + r2 := w64 (by omega)
  have w3 : IntKind.wrap .i64 (1 + r3) = 1 + r3 := w64 (by omega)
  have w4 : IntKind.wrap .i64 (1 + r4) = 1 + r4 := w64 (by omega)
  have w5 : IntKind.wrap .i64 ((n : Int) + 1) = ((n + 1 : Nat) : Int) := by rw [w64 (by omega)]; omega
  have c1 : (n : Int) < (asks.length : Int) := by omega
  have c2 : (n : Int) < 30 := by omega
  have c3 : (0 : Int) ≤ (n : Int) := by omega
  unfold VS lRaftVotes_l0
  dsimp only
  simp only [decide_eq_true c1, decide_eq_true c2, decide_eq_true c3, cond_true, Int.toNat_natCast, ha, Option.bind_some, e1, e2, e3, e4, w1, w2, w3, w4, w5]
  generalize hf : 1 + r1 = f
  generalize ht : term + r2 = t
  generalize hat : 1 + r3 = at_
  generalize hof : (if t < 1 + r4 then t else 1 + r4) = of
  have bo : 1 ≤ of ∧ of ≤ t := by
    rw [← hof]
    split <;> omega
  simp only [rCheck_v (f := f) (t := t) (at_ := at_) (of := of) (by omega) (by omega) (by omega) bo, Option.bind_some, Bool.not_true, cond_false, two_inl]
  have tail : ∀ (W : Int), -1 ≤ W ∧ W < 7 → -1 ≤ (bif yesB W f of t0 at_ idx then f else W) ∧ (bif yesB W f of t0 at_ idx then f else W) < 7 := fun W hW => by
    cases yesB W f of t0 at_ idx
    · exact hW
    · show -1 ≤ f ∧ f < 7
      omega
  have d1 : ¬ t < t0 := by omega
  have d2 : ¬ 1099511627776 < t := by omega
  by_cases hlt : term < t
  · have b := tail (-1) (by omega)
    have vf : vFollow t term vote = some (t, (-1, ((), ((), ())))) := by
      rw [vFollow_un, vFollow_b]
      simp only [decide_eq_true hlt, cond_true]
    simp only [decide_eq_true hlt, cond_true, vf, Option.bind_some, voted_v (f := f) (t := t) (at_ := at_) (of := of) (W := -1) (idx := idx) (t0 := t0) (by omega), two_inl, said_v]
    have hYs : ((decide True || decide (-1 = f)) && (decide (t0 < of) || decide (of = t0) && decide (idx ≤ at_))) = yesB (-1) f of t0 at_ idx := rfl
    rw [hYs]
    generalize hY : yesB (-1) f of t0 at_ idx = Y at b
    rw [pick_v]
    generalize hV : (bif Y then f else -1) = V at b
    have d3 : ¬ V < -1 := by omega
    have d4 : ¬ 7 ≤ V := by omega
    simp only [two_inl, decide_true, Bool.not_true, cond_false, beq_self_eq_true, nBase_7, decide_eq_false d1, decide_eq_false d2, decide_eq_false d3, decide_eq_false d4, sCheck_7 (idx := idx) (t0 := t0) (by omega) (by omega), rRight_0, Option.bind_some, clone_7, gNew_un, gNew_b]
    by_cases hag : (n : Int) < (again.length : Int)
    · have hx : again[n]? = some again[n] := List.getElem?_eq_getElem (by omega)
      simp only [decide_eq_true hag, cond_true, hx, Option.bind_some]
      cases again[n]
      · exact ⟨t, V, draw, rfl, by omega, ⟨by omega, b⟩⟩
      · exact ⟨t, V, (n : Int), rfl, by omega, ⟨by omega, b⟩⟩
    · simp only [decide_eq_false hag, cond_false]
      exact ⟨t, V, draw, rfl, by omega, ⟨by omega, b⟩⟩
  · have hte : t = term := by omega
    clear ht hlt
    subst hte
    have hlt : ¬ t < t := by omega
    have b := tail vote (by omega)
    simp only [Int.lt_irrefl, decide_false, cond_false, voted_v (f := f) (t := t) (at_ := at_) (of := of) (W := vote) (idx := idx) (t0 := t0) (by omega), Option.bind_some, two_inl, said_v]
    have hYs : ((decide (vote = -1) || decide (vote = f)) && (decide (t0 < of) || decide (of = t0) && decide (idx ≤ at_))) = yesB vote f of t0 at_ idx := rfl
    rw [hYs]
    generalize hY : yesB vote f of t0 at_ idx = Y at b
    rw [pick_v]
    generalize hV : (bif Y then f else vote) = V at b
    have d3 : ¬ V < -1 := by omega
    have d4 : ¬ 7 ≤ V := by omega
    simp only [two_inl, decide_true, Bool.not_true, cond_false, beq_self_eq_true, nBase_7, decide_eq_false d1, decide_eq_false d2, decide_eq_false d3, decide_eq_false d4, sCheck_7 (idx := idx) (t0 := t0) (by omega) (by omega), rRight_0, Option.bind_some, clone_7, gNew_un, gNew_b]
    by_cases hag : (n : Int) < (again.length : Int)
    · have hx : again[n]? = some again[n] := List.getElem?_eq_getElem (by omega)
      simp only [decide_eq_true hag, cond_true, hx, Option.bind_some]
      cases again[n]
      · exact ⟨t, V, draw, rfl, by omega, ⟨by omega, b⟩⟩
      · exact ⟨t, V, (n : Int), rfl, by omega, ⟨by omega, b⟩⟩
    · simp only [decide_eq_false hag, cond_false]
      exact ⟨t, V, draw, rfl, by omega, ⟨by omega, b⟩⟩
theorem vote_end {asks : List (Int × Int × Int)} {again : List Bool} {idx t0 term vote draw : Int} {n : Nat} (h : ¬ n < 30 ∨ ¬ n < asks.length) : lRaftVotes_l0 (VS asks again idx t0 term vote draw n) = some (.out (VS asks again idx t0 term vote draw n)) := by
  unfold VS lRaftVotes_l0
  dsimp only
  by_cases c1 : (n : Int) < (asks.length : Int)
  · have c2 : ¬ (n : Int) < 30 := by omega
    simp only [decide_eq_true c1, decide_eq_false c2, cond_true, cond_false]
  · simp only [decide_eq_false c1, cond_false]
theorem vote_loop {asks : List (Int × Int × Int)} {again : List Bool} {idx t0 : Int} (hi : 1 ≤ idx ∧ idx ≤ 9) : ∀ (k n : Nat) (term vote draw : Int), n + k = 30 → 1 ≤ t0 ∧ t0 ≤ term → VInv term vote n → ∃ d, loop lRaftVotes_l0 (VS asks again idx t0 term vote draw n) = some (.inl d) := by
  intro k
  induction k with
  | zero =>
    intro n term vote draw hk h0 hI
    refine ⟨VS asks again idx t0 term vote draw n, ?_⟩
    rw [loop_eq, vote_end (.inl (by omega))]
  | succ k ih =>
    intro n term vote draw hk h0 hI
    by_cases hl : n < asks.length
    · have hx : asks[n]? = some asks[n] := List.getElem?_eq_getElem hl
      obtain ⟨t', v', d', e, h1, h2⟩ := vote_step (again := again) (draw := draw) hi h0 hI (by omega) hx
      obtain ⟨d, hd⟩ := ih (n + 1) t' v' d' (by omega) ⟨h0.1, h1⟩ h2
      refine ⟨d, ?_⟩
      rw [loop_eq, e]
      exact hd
    · refine ⟨VS asks again idx t0 term vote draw n, ?_⟩
      rw [loop_eq, vote_end (.inr hl)]
theorem lRaftVotes_eq' (a0 a1 : Int) (asks : List (Int × Int × Int)) (again : List Bool) : lRaftVotes a0 a1 asks again = some true := by
  obtain ⟨r1, e1, l1, u1⟩ := among_ok (x := a0) (n := 9) (by omega) (by omega)
  obtain ⟨r2, e2, l2, u2⟩ := among_ok (x := a1) (n := 9) (by omega) (by omega)
  have w1 : IntKind.wrap .i64 (1 + r1) = 1 + r1 := w64 (by omega)
  have w2 : IntKind.wrap .i64 (1 + r2) = 1 + r2 := w64 (by omega)
  rw [lRaftVotes_un, lRaftVotes_b]
  simp only [e1, e2, Option.bind_some, w1, w2]
  generalize hi : 1 + r1 = idx
  generalize ht : 1 + r2 = t0
  have d1 : ¬ t0 < t0 := by omega
  have d2 : ¬ 1099511627776 < t0 := by omega
  obtain ⟨d, hd⟩ := vote_loop (asks := asks) (again := again) (idx := idx) (t0 := t0) (by omega) 30 0 t0 (-1) 5 rfl (by omega) ⟨by omega, by omega⟩
  simp only [decide_eq_false d1, decide_eq_false d2, cond_false, sCheck_7 (idx := idx) (t0 := t0) (by omega) (by omega), Option.bind_some, decide_true, Bool.not_true, rRight_0, two_inl, gNew_un, gNew_b]
  show two (loop lRaftVotes_l0 (VS asks again idx t0 t0 (-1) 5 ((0 : Nat) : Int))) _ _ = _
  rw [hd]
  rfl
end Go.Proofs.Ytbnfooeeopmpiaa.TV
