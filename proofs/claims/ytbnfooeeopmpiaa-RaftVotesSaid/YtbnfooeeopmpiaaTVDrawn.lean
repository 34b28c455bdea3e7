/-
  TV: regions whose order is drawn, with changes: told in the text's order; what is read there is the same wherever it may be read.
-/
import Derived.Test.YtbnfooeeopmpiaaTVObj
namespace Go.Proofs.Ytbnfooeeopmpiaa.TV
open Go Go.RowKit
set_option linter.unusedSimpArgs false
set_option linter.unusedVariables false

section
variable {P : Program}

/-- Does what is read hang on the store? -/
def stateful (o : Oper) : Bool := match o.op with
  | .load .. | .lookup .. | .convert .. | .call .. => true
  | _ => false
theorem stateless {o : Oper} {s s' : St} {ρ : Operand → TV} (h : stateful o = false) : readT P s ρ o = readT P s' ρ o := by
  obtain ⟨dst, op, ty, pos, after, guard⟩ := o
  cases op <;> first | rfl | simp [stateful] at h

def winLo (b : List Nat) (es : List Nat) (i : Nat) : Nat := countB es (fun e => (b.getD i 0).testBit e)
def winHi (b : List Nat) (es : List Nat) (i : Nat) : Nat := countB es (fun e => !((b.getD e 0).testBit i))
/-- At each stage from a to b the same is read. -/
def Each (P : Program) (it : DItem) (a b : Nat) : Nat → List St → Prop
  | _, [] => True
  | k, s :: l => (a ≤ k → k ≤ b → readT P s (ev it.e) it.o = some it.v) ∧ Each P it a b (k + 1) l
def Needs (P : Program) (bs es : List Nat) (sts : List St) : Nat → List DItem → Prop
  | _, [] => True
  | i, it :: l => ((isRead it.o && it.w && stateful it.o) = true → Each P it (winLo bs es i) (winHi bs es i) 0 sts) ∧ Needs P bs es sts (i + 1) l
theorem Each.nil {it : DItem} {a b k : Nat} : Each P it a b k [] := trivial
theorem Each.out {it : DItem} {a b k : Nat} {s : St} {l : List St} (h : (decide (a ≤ k) && decide (k ≤ b)) = false) (r : Each P it a b (k + 1) l) : Each P it a b k (s :: l) := by
  refine ⟨fun h1 h2 => ?_, r⟩
  simp [h1, h2] at h
theorem Each.here {it : DItem} {a b k : Nat} {s : St} {l : List St} (h : readT P s (ev it.e) it.o = some it.v) (r : Each P it a b (k + 1) l) : Each P it a b k (s :: l) := ⟨fun _ _ => h, r⟩
theorem Needs.nil {bs es : List Nat} {sts : List St} {i : Nat} : Needs P bs es sts i [] := trivial
theorem Needs.skip {bs es : List Nat} {sts : List St} {i : Nat} {it : DItem} {l : List DItem} (h : (isRead it.o && it.w && stateful it.o) = false) (r : Needs P bs es sts (i + 1) l) : Needs P bs es sts i (it :: l) := ⟨fun h' => absurd (h.symm.trans h') (by simp), r⟩
theorem Needs.load {bs es : List Nat} {sts : List St} {i : Nat} {it : DItem} {l : List DItem} (h : Each P it (winLo bs es i) (winHi bs es i) 0 sts) (r : Needs P bs es sts (i + 1) l) : Needs P bs es sts i (it :: l) := ⟨fun _ => h, r⟩

theorem Each.at {it : DItem} {a b : Nat} : ∀ {l : List St} {k0 : Nat}, Each P it a b k0 l → ∀ k s, l[k]? = some s → a ≤ k0 + k → k0 + k ≤ b → readT P s (ev it.e) it.o = some it.v
  | [], _, _, k, s, h, _, _ => by simp at h
  | s0 :: l, k0, hE, k, s, h, ha, hb => by
    cases k with
    | zero =>
      simp at h
      subst h
      exact hE.1 ha hb
    | succ k => exact Each.at hE.2 k s (by simpa using h) (by omega) (by omega)
theorem Needs.at {bs es : List Nat} {sts : List St} : ∀ {l : List DItem} {i0 : Nat}, Needs P bs es sts i0 l → ∀ i it, l[i]? = some it → (isRead it.o && it.w && stateful it.o) = true → Each P it (winLo bs es (i0 + i)) (winHi bs es (i0 + i)) 0 sts
  | [], _, _, i, it, h, _ => by simp at h
  | it0 :: l, i0, hN, i, it, h, hr => by
    cases i with
    | zero =>
      simp at h
      subst h
      exact hN.1 hr
    | succ i =>
      have := Needs.at hN.2 i it (by simpa using h) hr
      have e : i0 + 1 + i = i0 + (i + 1) := by omega
      rwa [e] at this

theorem drawOk_of {ops : List Oper} {e e' : Env} {s s' : St} {items : List DItem} {sts : List St} (t : Told P ops ops 0 e s items sts e' s')
    (h : Needs P (bits ops) (ops.zipIdx.filterMap fun p => if isRead p.1 then none else some p.2) (s :: sts) 0 items) : drawOk P ops items (s :: sts) = true := by
  unfold drawOk
  split
  · rfl
  · simp only [List.all_eq_true]
    intro p hp
    obtain ⟨it, i⟩ := p
    have hi : items[i]? = some it := List.mem_zipIdx_iff_getElem?.1 hp
    cases hrw : (isRead it.o && it.w) with
    | false => simp
    | true =>
      simp only [Bool.not_true, Bool.false_or, List.all_eq_true]
      intro q hq
      obtain ⟨s3, k⟩ := q
      have hk : (s :: sts)[k]? = some s3 := List.mem_zipIdx_iff_getElem?.1 hq
      simp only [Bool.or_eq_true, decide_eq_true_eq]
      by_cases hlo : k < countB (ops.zipIdx.filterMap fun p => if isRead p.1 then none else some p.2) (fun e => ((bits ops).getD i 0).testBit e)
      · exact Or.inl (Or.inl hlo)
      · by_cases hhi : countB (ops.zipIdx.filterMap fun p => if isRead p.1 then none else some p.2) (fun e => !(((bits ops).getD e 0).testBit i)) < k
        · exact Or.inl (Or.inr hhi)
        · refine Or.inr ?_
          have hv : readT P s3 (ev it.e) it.o = some it.v := by
            cases hst : stateful it.o with
            | true =>
              have hE := Needs.at h i it hi (by rw [hrw, hst]; rfl)
              rw [Nat.zero_add] at hE
              exact Each.at hE k s3 hk (by simp only [Nat.zero_add]; exact Nat.le_of_not_lt hlo) (by simp only [Nat.zero_add]; exact Nat.le_of_not_lt hhi)
            | false =>
              have hlt : i < ops.length := by rw [← t.len]; exact (List.getElem?_eq_some_iff.1 hi).1
              obtain ⟨it', s1, s2, h1, h2, _, _, _, _, _, h7, _⟩ := t.each i _ (List.getElem?_eq_getElem hlt)
              rw [hi] at h1
              cases h1
              simp only [Bool.and_eq_true] at hrw
              rw [← h2] at h7
              have := h7 hrw.2 hrw.1
              rw [stateless (s' := s1) hst]
              exact this
          rw [hv]
          exact TV.beq_refl _

/-- Operations in the text's order, with what was read and all the stores on the way. -/
def DoD (P : Program) (ops : Array Oper) (l : List Oper) (j : Nat) (e : Env) (s : St) (K : Env → St → List DItem → List St → Prop) : Prop :=
  ∃ e' s' items sts, Told P ops.toList l j e s items sts e' s' ∧ K e' s' items sts
theorem DoD.nil {ops : Array Oper} {j : Nat} {e : Env} {s : St} {K : Env → St → List DItem → List St → Prop} (h : K e s [] []) : DoD P ops [] j e s K := ⟨e, s, [], [], .nil _ j e s, h⟩
theorem DoD.read {ops : Array Oper} {o : Oper} {l : List Oper} {j : Nat} {e : Env} {s : St} {v : TV} {K : Env → St → List DItem → List St → Prop} (hw : wantedT ops.toList e o = some true) (hr : isRead o = true) (hv : readT P s (ev e) o = some v)
    (h : DoD P ops l (j + 1) (putE o.dst v e) s (fun e' s' items sts => K e' s' (⟨o, e, v, true⟩ :: items) sts)) : DoD P ops (o :: l) j e s K := by
  obtain ⟨e', s', items, sts, t, hk⟩ := h
  have := Told.cons (P := P) hw (fun h => by cases h) (fun _ _ => hv) (fun _ => rfl) (fun _ h => absurd h (by simp [hr])) t
  simp only [hr, if_true] at this
  exact ⟨_, _, _, _, this, hk⟩
theorem DoD.idle {ops : Array Oper} {o : Oper} {l : List Oper} {j : Nat} {e : Env} {s : St} {K : Env → St → List DItem → List St → Prop} (hw : wantedT ops.toList e o = some false) (hr : isRead o = true)
    (h : DoD P ops l (j + 1) (putE o.dst undefT e) s (fun e' s' items sts => K e' s' (⟨o, e, undefT, false⟩ :: items) sts)) : DoD P ops (o :: l) j e s K := by
  obtain ⟨e', s', items, sts, t, hk⟩ := h
  have := Told.cons (P := P) hw (fun _ => ⟨rfl, rfl⟩) (fun h => by cases h) (fun _ => rfl) (fun h => by cases h) t
  simp only [hr, if_true] at this
  exact ⟨_, _, _, _, this, hk⟩
theorem DoD.op {ops : Array Oper} {o : Oper} {l : List Oper} {j : Nat} {e : Env} {s s1 : St} {v : TV} {K : Env → St → List DItem → List St → Prop} (hw : wantedT ops.toList e o = some true) (hr : isRead o = false) (ho : OpSim P o e s v s1)
    (h : DoD P ops l (j + 1) (putE o.dst v e) s1 (fun e' s' items sts => K e' s' (⟨o, e, v, true⟩ :: items) (s1 :: sts))) : DoD P ops (o :: l) j e s K := by
  obtain ⟨e', s', items, sts, t, hk⟩ := h
  have := Told.cons (P := P) hw (fun h => by cases h) (fun _ h => absurd h (by simp [hr])) (fun h => absurd h (by simp [hr])) (fun _ _ => ho) t
  simp only [hr, Bool.false_eq_true, if_false] at this
  exact ⟨_, _, _, _, this, hk⟩
theorem DoD.sim (hN : Named P) {ops : Array Oper} {o : Oper} {l : List Oper} {j : Nat} {e : Env} {s s1 : St} {f : FuncId} {args : List TV} {v : TV} {K : Env → St → List DItem → List St → Prop} (hw : wantedT ops.toList e o = some true) (hr : isRead o = false)
    (hc : calleeT (ev e) o = some (f, args)) (hs : Sim P f args s v s1) (h : DoD P ops l (j + 1) (putE o.dst v e) s1 (fun e' s' items sts => K e' s' (⟨o, e, v, true⟩ :: items) (s1 :: sts))) : DoD P ops (o :: l) j e s K :=
  .op hw hr (.call hN hc hs) h
theorem DoD.eff {ops : Array Oper} {o : Oper} {l : List Oper} {j : Nat} {e : Env} {s s1 : St} {v : TV} {K : Env → St → List DItem → List St → Prop} (hw : wantedT ops.toList e o = some true) (hr : isRead o = false)
    (hv : effT P s (ev e) o = some (v, s1)) (h : DoD P ops l (j + 1) (putE o.dst v e) s1 (fun e' s' items sts => K e' s' (⟨o, e, v, true⟩ :: items) (s1 :: sts))) : DoD P ops (o :: l) j e s K :=
  .op hw hr (.eff hv) h

theorem Do.regionD (hm : P.follows .mixedOrders = true) {id : Nat} {ops : Array Oper} {e : Env} {s : St} {Q : Ex → Env → St → Prop} (hr : regionOk ops.toList = true)
    (h : DoD P ops ops.toList 0 e s fun e' s' items sts => Needs P (bits ops.toList) (ops.toList.zipIdx.filterMap fun p => if isRead p.1 then none else some p.2) (s :: sts) 0 items ∧ Q .normal e' s') : Do P (.region id ops true) e s Q := by
  obtain ⟨e', s', items, sts, t, hn, hq⟩ := h
  exact ⟨.normal, e', s', CodeSim.draw hm hr t (drawOk_of t hn), hq⟩
end
end Go.Proofs.Ytbnfooeeopmpiaa.TV
