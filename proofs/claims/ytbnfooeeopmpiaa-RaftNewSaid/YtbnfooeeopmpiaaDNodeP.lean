/-
  RAFT: a node as it stands up: the law, in plain words.
-/
import Derived.Test.YtbnfooeeopmpiaaDNodeL
import Derived.Test.YtbnfooeeopmpiaaDRaftP
namespace Go.Proofs.Ytbnfooeeopmpiaa.TV
open Go Go.RowKit
set_option linter.unusedSimpArgs false
set_option linter.unusedVariables false
set_option maxRecDepth 100000

def lastT : List En → Int → Int
  | [], a => a
  | x :: es, _ => lastT es x.1
theorem lRaftNew_loop {l : List En} {a0 : Int} (hl : l.length < 4611686018427387904) : ∀ (n i : Nat) (b : Bool) (a : Int), i + n = l.length →
    loop (lRaftNew_l0 a0 l) (b, (a, ((i : Int), ()))) = some (.inl (b && rightB a0 (l.drop i) a, (lastT (l.drop i) a, ((l.length : Int), ()))))
  | 0, i, b, a, h => by
    have h1 : ¬ (i : Int) < (l.length : Int) := by omega
    rw [loop_eq]
    simp only [lRaftNew_l0, decide_eq_false h1, cond_false, List.drop_of_length_le (show l.length ≤ i by omega), rightB, lastT, Bool.and_true]
    rw [show (i : Int) = (l.length : Int) by omega]
  | n + 1, i, b, a, h => by
    have h1 : (i : Int) < (l.length : Int) := by omega
    have h2 : (0 : Int) ≤ (i : Int) := by omega
    have hc : l[i]? = some l[i] := List.getElem?_eq_getElem (by omega)
    have hdrop : l.drop i = l[i] :: l.drop (i + 1) := List.drop_eq_getElem_cons (by omega)
    rw [loop_eq, hdrop]
    generalize l[i] = x at hc
    obtain ⟨x1, x2, x3⟩ := x
    have e5 : IntKind.wrap .i64 ((i : Int) + 1) = ((i + 1 : Nat) : Int) := by rw [w64 (by omega)]; omega
    simp only [lRaftNew_l0, decide_eq_true h1, decide_eq_true h2, cond_true, Int.toNat_natCast, hc, Option.bind_some, ja, two_inl, e5]
    rw [lRaftNew_loop hl n (i + 1) _ _ (by omega)]
    have hcd : (decide (a ≤ x1) && (decide (x1 ≤ a0) && (decide (0 ≤ x2) && (decide (x2 ≤ 255) && decide ((x3.length : Int) ≤ 65536))))) = !(decide (x1 < a) || (decide (a0 < x1) || (decide (x2 < 0) || (decide (255 < x2) || decide ((65536 : Int) < (x3.length : Int)))))) := by
      rw [Bool.eq_iff_iff]
      simp only [Bool.and_eq_true, Bool.not_eq_true', decide_eq_true_eq, decide_eq_false_iff_not, Bool.or_eq_false_iff]
      omega
    simp only [rightB, lastT, hcd, Bool.and_assoc]
theorem lastT_get : ∀ {l : List En} {a : Int} {x : En}, l[l.length - 1]? = some x → lastT l a = x.1
  | [], _, _, h => by cases h
  | [y], _, x, h => by simp at h; subst h; rfl
  | y :: z :: l, a, x, h => by
    show lastT (z :: l) y.1 = x.1
    exact lastT_get (by simpa using h)
theorem nLast_eq' {l : List En} (hl : l.length < 4611686018427387904) : nLast 3 2 l = some ((3 : Int) + l.length, (lastT l 2, ())) := by
  have w1 : IntKind.wrap .i64 ((3 : Int) + (l.length : Int)) = 3 + (l.length : Int) := w64 (by omega)
  have w2 : IntKind.wrap .i64 ((3 : Int) + (l.length : Int) - 3) = (l.length : Int) := by rw [w64 (by omega)]; omega
  rw [nLast_un, nLast_b, nAt__un, nAt__b]
  simp only [w1, w2]
  cases hn : l with
  | nil => rfl
  | cons y m =>
    rw [← hn]
    have hpos : 0 < l.length := by rw [hn]; simp
    have h1 : ¬ (l.length : Int) = 0 := by omega
    have h2 : (0 : Int) < (l.length : Int) := by omega
    have w3 : IntKind.wrap .i64 ((l.length : Int) - 1) = ((l.length - 1 : Nat) : Int) := by rw [w64 (by omega)]; omega
    have hc : l[l.length - 1]? = some l[l.length - 1] := List.getElem?_eq_getElem (by omega)
    have hx := lastT_get (a := 2) hc
    generalize l[l.length - 1] = x at hc hx
    obtain ⟨x1, x2, x3⟩ := x
    simp only [decide_eq_false h1, decide_eq_true h2, cond_false, cond_true, Int.le_refl, decide_true, w3, Int.toNat_natCast, hc, Option.bind_some, hx, decide_eq_true (show (0 : Int) ≤ ((l.length - 1 : Nat) : Int) by omega)]
theorem nEntry_eq' {l : List En} (hl : l.length < 4611686018427387904) {i : Nat} {x : En} (hx : l[i]? = some x) : nEntry (4 + (i : Int)) 3 l = some (x, (true, ())) := by
  have hi := (List.getElem?_eq_some_iff.1 hx).1
  have w1 : IntKind.wrap .i64 ((3 : Int) + (l.length : Int)) = 3 + (l.length : Int) := w64 (by omega)
  have w2 : IntKind.wrap .i64 ((4 : Int) + (i : Int) - 3) = (i : Int) + 1 := by rw [w64 (by omega)]; omega
  have w3 : IntKind.wrap .i64 ((i : Int) + 1 - 1) = (i : Int) := by rw [w64 (by omega)]; omega
  have c1 : ¬ (4 : Int) + (i : Int) ≤ 3 := by omega
  have c2 : ¬ (3 : Int) + (l.length : Int) < 4 + (i : Int) := by omega
  have c3 : (0 : Int) ≤ (i : Int) := by omega
  obtain ⟨x1, x2, x3⟩ := x
  rw [nEntry_un, nEntry_b]
  simp only [w1, w2, w3, decide_eq_false c1, decide_eq_false c2, decide_eq_true c3, cond_false, cond_true, two_inl, Int.toNat_natCast, hx, Option.bind_some]
theorem lLog_loop {l : List En} (hl : l.length * 32 ≤ 140737488355328) : ∀ (n i : Nat), i + n = l.length → loop (lLog_l0 3 l (3 + (l.length : Int))) (l.take i, (4 + (i : Int), ())) = some (.inl (l, (4 + (l.length : Int), ())))
  | 0, i, h => by
    have h1 : ¬ 4 + (i : Int) ≤ 3 + (l.length : Int) := by omega
    rw [loop_eq]
    simp only [lLog_l0, decide_eq_false h1, cond_false, List.take_of_length_le (show l.length ≤ i by omega)]
    rw [show (i : Int) = (l.length : Int) by omega]
  | n + 1, i, h => by
    have h1 : 4 + (i : Int) ≤ 3 + (l.length : Int) := by omega
    have hc : l[i]? = some l[i] := List.getElem?_eq_getElem (by omega)
    have htake : l.take (i + 1) = l.take i ++ [l[i]] := by rw [List.take_add_one, hc]; rfl
    have ih := lLog_loop hl n (i + 1) (by omega)
    rw [loop_eq]
    rw [htake] at ih
    generalize l[i] = x at hc ih
    have hn := nEntry_eq' (by omega) hc
    obtain ⟨x1, x2, x3⟩ := x
    have e5 : IntKind.wrap .i64 (4 + (i : Int) + 1) = 4 + ((i + 1 : Nat) : Int) := by rw [w64 (by omega)]; omega
    have k1 : ((l.take i).length + List.length [(x1, x2, x3)]) * 32 ≤ 140737488355328 := by simp; omega
    simp only [lLog_l0, decide_eq_true h1, cond_true, hn, Option.bind_some, Bool.not_true, cond_false, decide_eq_true k1, e5, ih]
theorem lLog_eq' {l : List En} (hl : l.length * 32 ≤ 140737488355328) : lLog 3 2 [0, 2] [] l = some (l, ()) := by
  have h := lLog_loop hl l.length 0 (by omega)
  have hb : nBase 3 2 [0, 2] [] = some ((3, (2, ([0, 2], []))), ()) := by rw [nBase_un, nBase_b]; rfl
  have w : IntKind.wrap .i64 ((3 : Int) + 1) = 4 + ((0 : Nat) : Int) := w64 (by omega)
  rw [List.take_zero] at h
  rw [lLog_un, lLog_b, nLast_eq' (by omega), hb]
  simp only [Option.bind_some, w, h, two_inl]
theorem sCheck_02 : sCheck 3 2 [0, 2] [] = some (0, ()) := by
  rw [sCheck_un, sCheck_b]
  have h : loop (sCheck_l0 [0, 2]) (-1, (0, ())) = some (.inl (2, (2, ()))) := by
    rw [loop_eq]
    show loop (sCheck_l0 [0, 2]) (0, (IntKind.wrap .i64 (0 + 1), ())) = _
    rw [loop_eq]
    show loop (sCheck_l0 [0, 2]) (2, (IntKind.wrap .i64 (1 + 1), ())) = _
    rw [loop_eq]
    rfl
  show two (loop (sCheck_l0 [0, 2]) (-1, (0, ()))) _ _ = _
  rw [h]
  rfl
theorem jn {γ : Type} {a b : Bool} : (bif a then some (.inl (true, ())) else some (.inl (b, ())) : Option ((Bool × Unit) ⊕ γ)) = some (.inl (a || b, ())) := by cases a <;> rfl
theorem lRaftNew_eq' (me a0 a1 : Int) (l : List En) (hl : l.length * 32 ≤ 140737488351232) : lRaftNew me a0 a1 l = some (true, ()) := by
  have e1 : lRaftNew_l1 a0 l = lRaftNew_l0 a0 l := rfl
  have w : IntKind.wrap .i64 ((3 : Int) + (l.length : Int)) = 3 + (l.length : Int) := w64 (by omega)
  have hloop := fun b => lRaftNew_loop (l := l) (a0 := a0) (by omega) l.length 0 b 2 (by omega)
  rw [List.drop_zero, show ((0 : Nat) : Int) = 0 from rfl] at hloop
  have hclone : cloneU 32 l = some (l, ()) := by
    unfold cloneU
    cases l with
    | nil => rfl
    | cons x m => simp only [List.isEmpty_cons, cond_false]; rw [decide_eq_true (by omega)]; rfl
  rw [lRaftNew_un, lRaftNew_b, e1]
  simp only [zPropose_un, zPropose_b, zChange_un, zChange_b, zRead_un, zRead_b, zCompact_un, zCompact_b, zSure_un, zSure_b, zTaken_un, zTaken_b, zTick_un, zTick_b, zStep_un, zStep_b, zMembers_un, zMembers_b, sCheck_02, Option.bind_some, decide_true, Bool.not_true, cond_false, rRight_eq' (l := l) (by omega), jn, ja, two_inl, hloop, hclone, gNew_un, gNew_b, nLast_eq' (l := l) (by omega), lLog_eq' (l := l) (by omega), w, Bool.false_or]
  generalize hR : rightB a0 l 2 = R
  generalize hA : (decide (me < 0) || (decide (7 ≤ me) || (decide (a0 < 2) || (decide (1099511627776 < a0) || (decide (a1 < -1) || (decide (7 ≤ a1) || !R)))))) = A
  generalize hC : (decide (0 ≤ me) && (decide (me < 7) && (decide (2 ≤ a0) && (decide (a0 ≤ 1099511627776) && (decide (-1 ≤ a1) && decide (a1 < 7)))))) = C
  have hAC : A = !(C && R) := by
    rw [← hA, ← hC, Bool.eq_iff_iff]
    cases R
    · simp
    · simp only [Bool.and_true, Bool.not_true, Bool.or_false, Bool.or_eq_true, Bool.and_eq_true, Bool.not_eq_true', decide_eq_true_eq, Bool.and_eq_false_iff, decide_eq_false_iff_not]
      omega
  rw [hAC]
  cases hCR : (C && R) <;> simp
end Go.Proofs.Ytbnfooeeopmpiaa.TV
