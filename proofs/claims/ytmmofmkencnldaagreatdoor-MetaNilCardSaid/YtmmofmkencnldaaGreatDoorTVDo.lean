/-
  TV: proofs about code on plain values: rules, one for each form of code.
-/
import Derived.Test.YtmmofmkencnldaaGreatDoorTVLaw
namespace Go.Proofs.YtmmofmkencnldaaGreatDoor.TV
open Go Go.RowKit
set_option linter.unusedSimpArgs false
set_option linter.unusedVariables false

/-! ### Equality of values that are the same -/
mutual
theorem TV.beq_refl : ∀ (a : TV), TV.beq a a = true
  | .junk | .nilp | .nilfn | .niliface => by simp [TV.beq]
  | .bool _ | .int _ _ | .str _ | .ptr _ _ | .osl _ _ _ _ | .gsl _ _ | .map _ => by simp [TV.beq]
  | .eptr x => by simp [TV.beq, TV.beqs_refl x]
  | .slice a x t => by cases t <;> simp [TV.beq, TV.beqs_refl x]
  | .fn f x y => by simp [TV.beq, TV.beqs_refl x, TV.beqs_refl y]
  | .iface t x => by simp [TV.beq, TV.beq_refl x]
  | .agg x => by simp [TV.beq, TV.beqs_refl x]
  | .tup x => by simp [TV.beq, TV.beqs_refl x]
theorem TV.beqs_refl : ∀ (a : List TV), TV.beqs a a = true
  | [] => by simp [TV.beqs]
  | x :: l => by simp [TV.beqs, TV.beq_refl x, TV.beqs_refl l]
end

section
variable {P : Program}

/-- The code ends so. -/
def Do (P : Program) (c : Code) (e : Env) (s : St) (Q : Ex → Env → St → Prop) : Prop := ∃ x e' s', CodeSim P c e s x e' s' ∧ Q x e' s'
/-- The call answers so. -/
def Does (P : Program) (f : FuncId) (args : List TV) (s : St) (Q : TV → St → Prop) : Prop := ∃ v s', Sim P f args s v s' ∧ Q v s'
/-- It answers v, and changes nothing that anyone knows of. -/
def Pure (P : Program) (f : FuncId) (args : List TV) (v : TV) : Prop := ∀ s, Sim P f args s v s

theorem Does.mono {f : FuncId} {args : List TV} {s : St} {Q Q' : TV → St → Prop} (h : Does P f args s Q) (hq : ∀ v s', Q v s' → Q' v s') : Does P f args s Q' :=
  let ⟨v, s', h1, h2⟩ := h; ⟨v, s', h1, hq _ _ h2⟩
theorem Does.of {f : FuncId} {args : List TV} {s s' : St} {v : TV} {Q : TV → St → Prop} (h : Sim P f args s v s') (hq : Q v s') : Does P f args s Q := ⟨v, s', h, hq⟩
theorem Pure.does {f : FuncId} {args : List TV} {s : St} {v : TV} {Q : TV → St → Prop} (h : Pure P f args v) (hq : Q v s) : Does P f args s Q := ⟨v, s, h s, hq⟩
theorem Does.sim {f : FuncId} {args : List TV} {s s' : St} {v : TV} (h : Does P f args s fun v' t => v' = v ∧ t = s') : Sim P f args s v s' := by
  obtain ⟨v', t, h1, rfl, rfl⟩ := h
  exact h1

theorem Do.mono {c : Code} {e : Env} {s : St} {Q Q' : Ex → Env → St → Prop} (h : Do P c e s Q) (hq : ∀ x e' s', Q x e' s' → Q' x e' s') : Do P c e s Q' :=
  let ⟨x, e', s', h1, h2⟩ := h; ⟨x, e', s', h1, hq _ _ _ h2⟩
theorem Do.skip {e : Env} {s : St} {Q : Ex → Env → St → Prop} (h : Q .normal e s) : Do P .skip e s Q :=
  ⟨.normal, e, s, fun g w a hR hE Q hQ => wp_skip (hQ a w g (.refl g) hR hE rfl), h⟩
theorem Do.exit {id : Nat} {e : Env} {s : St} {Q : Ex → Env → St → Prop} (h : Q (.exit id) e s) : Do P (.exit id) e s Q :=
  ⟨.exit id, e, s, fun g w a hR hE Q hQ => wp_exit (hQ a w g (.refl g) hR hE rfl), h⟩
theorem Do.ret {e : Env} {s : St} {Q : Ex → Env → St → Prop} (h : Q .ret e s) : Do P .ret e s Q :=
  ⟨.ret, e, s, fun g w a hR hE Q hQ => wp_ret (hQ a w g (.refl g) hR hE rfl), h⟩
/-- What comes behind. -/
def Then (K : Env → St → Prop) (Q : Ex → Env → St → Prop) : Ex → Env → St → Prop
  | .normal, e, s => K e s
  | x, e, s => Q x e s
theorem Do.seq {a b : Code} {e : Env} {s : St} {Q : Ex → Env → St → Prop} (h : Do P a e s (Then (fun e s => Do P b e s Q) Q)) : Do P (.seq a b) e s Q := by
  obtain ⟨x, e1, s1, h1, h2⟩ := h
  cases x with
  | normal =>
    obtain ⟨x, e', s', h3, h4⟩ := h2
    exact ⟨x, e', s', h1.seq h3, h4⟩
  | exit id => exact ⟨.exit id, e1, s1, h1.seq_out (by simp), h2⟩
  | ret => exact ⟨.ret, e1, s1, h1.seq_out (by simp), h2⟩
theorem Do.cond {c : Operand} {x y : Code} {b : Bool} {e : Env} {s : St} {Q : Ex → Env → St → Prop} (hc : ev e c = .bool b) (h : Do P (if b then x else y) e s Q) : Do P (.cond c x y) e s Q := by
  obtain ⟨z, e', s', h1, h2⟩ := h
  refine ⟨z, e', s', fun g w a hR hE Q hQ => ?_, h2⟩
  have := hE.ev c
  rw [hc] at this
  cases hv : a.eval c <;> rw [hv] at this <;> cases this
  exact wp_cond hv (h1 g w a hR hE Q hQ)
theorem Do.yes {c : Operand} {x y : Code} {e : Env} {s : St} {Q : Ex → Env → St → Prop} (hc : ev e c = .bool true) (h : Do P x e s Q) : Do P (.cond c x y) e s Q := Do.cond hc h
theorem Do.no {c : Operand} {x y : Code} {e : Env} {s : St} {Q : Ex → Env → St → Prop} (hc : ev e c = .bool false) (h : Do P y e s Q) : Do P (.cond c x y) e s Q := Do.cond hc h
/-- Out of a block. -/
def Out (id : Nat) (Q : Ex → Env → St → Prop) : Ex → Env → St → Prop
  | .exit i, e, s => if i = id then Q .normal e s else Q (.exit i) e s
  | x, e, s => Q x e s
theorem Do.block {id : Nat} {c : Code} {e : Env} {s : St} {Q : Ex → Env → St → Prop} (h : Do P c e s (Out id Q)) : Do P (.block id c) e s Q := by
  obtain ⟨x, e1, s1, h1, h2⟩ := h
  cases x with
  | normal => exact ⟨.normal, e1, s1, fun g w a hR hE Q hQ => wp_block (h1 g w a hR hE _ fun a' w' g' hle hR' hE' hd => hQ a' w' g' hle hR' hE' hd), h2⟩
  | exit i =>
    simp only [Out] at h2
    split at h2
    · rename_i hi
      refine ⟨.normal, e1, s1, fun g w a hR hE Q hQ => wp_block (h1 g w a hR hE _ fun a' w' g' hle hR' hE' hd => ?_), h2⟩
      simp only [exOf, Exit.inBlock, hi, if_true]
      exact hQ a' w' g' hle hR' hE' hd
    · rename_i hi
      refine ⟨.exit i, e1, s1, fun g w a hR hE Q hQ => wp_block (h1 g w a hR hE _ fun a' w' g' hle hR' hE' hd => ?_), h2⟩
      simp only [exOf, Exit.inBlock, hi, if_false]
      exact hQ a' w' g' hle hR' hE' hd
  | ret => exact ⟨.ret, e1, s1, fun g w a hR hE Q hQ => wp_block (h1 g w a hR hE _ fun a' w' g' hle hR' hE' hd => hQ a' w' g' hle hR' hE' hd), h2⟩

theorem Then.ret {K : Env → St → Prop} {Q : Ex → Env → St → Prop} {e : Env} {s : St} (h : Q .ret e s) : Then K Q .ret e s := h
theorem Then.exit {K : Env → St → Prop} {Q : Ex → Env → St → Prop} {i : Nat} {e : Env} {s : St} (h : Q (.exit i) e s) : Then K Q (.exit i) e s := h
theorem Then.normal {K : Env → St → Prop} {Q : Ex → Env → St → Prop} {e : Env} {s : St} (h : K e s) : Then K Q .normal e s := h
theorem Out.ret {id : Nat} {Q : Ex → Env → St → Prop} {e : Env} {s : St} (h : Q .ret e s) : Out id Q .ret e s := h
theorem Out.normal {id : Nat} {Q : Ex → Env → St → Prop} {e : Env} {s : St} (h : Q .normal e s) : Out id Q .normal e s := h
theorem Out.here {id : Nat} {Q : Ex → Env → St → Prop} {e : Env} {s : St} (h : Q .normal e s) : Out id Q (.exit id) e s := by simpa [Out] using h
theorem Out.off {id i : Nat} {Q : Ex → Env → St → Prop} {e : Env} {s : St} (hi : i ≠ id) (h : Q (.exit i) e s) : Out id Q (.exit i) e s := by simpa [Out, hi] using h

/-- A loop: what holds at its head, and a number that falls. -/
theorem Do.loop {c : Code} {Q : Ex → Env → St → Prop} (I : Nat → Env → St → Prop) (step : ∀ n e s, I n e s → Do P c e s (Then (fun e' s' => ∃ m, m < n ∧ I m e' s') Q)) {n : Nat} {e : Env} {s : St} (h0 : I n e s) : Do P (.loop c) e s Q := by
  have key : ∀ n e s, I n e s → ∃ k x e' s', RoundsSim P c k e s x e' s' ∧ Q x e' s' := by
    intro n
    induction n using Nat.strongRecOn with
    | _ n ih =>
      intro e s h0
      obtain ⟨x, e1, s1, h1, h2⟩ := step n e s h0
      cases x with
      | normal =>
        obtain ⟨m, hm, hI⟩ := h2
        obtain ⟨k, x, e', s', h3, h4⟩ := ih m hm e1 s1 hI
        refine ⟨k + 1, x, e', s', fun g w a hR hE Q hQ => ?_, h4⟩
        rw [rounds_succ]
        refine h1 g w a hR hE _ fun a1 w1 g1 hle hR1 hE1 hd => ?_
        exact h3 g1 w1 a1 hR1 hE1 Q fun a' w' g' hle' hR' hE' hd' => hQ a' w' g' (hle.trans hle') hR' hE' (hd'.trans hd)
      | exit id =>
        refine ⟨1, .exit id, e1, s1, fun g w a hR hE Q hQ => ?_, h2⟩
        rw [rounds_succ]
        exact h1 g w a hR hE _ fun a1 w1 g1 hle hR1 hE1 hd => hQ a1 w1 g1 hle hR1 hE1 hd
      | ret =>
        refine ⟨1, .ret, e1, s1, fun g w a hR hE Q hQ => ?_, h2⟩
        rw [rounds_succ]
        exact h1 g w a hR hE _ fun a1 w1 g1 hle hR1 hE1 hd => hQ a1 w1 g1 hle hR1 hE1 hd
  obtain ⟨k, x, e', s', h1, h2⟩ := key n e s h0
  exact ⟨x, e', s', fun g w a hR hE Q hQ => wp_loop_rounds k (h1 g w a hR hE Q hQ), h2⟩

/-! ### Regions -/
/-- Operations that only read, up to the first that does not. -/
noncomputable def readsTo (P : Program) (s : St) (ops : List Oper) : List Oper → Env → Option (Env × List Oper)
  | [], e => some (e, [])
  | o :: l, e => match wantedT ops e o with
    | some true => if isRead o then (match readT P s (ev e) o with
      | some v => readsTo P s ops l (putE o.dst v e)
      | none => none) else some (e, o :: l)
    | some false => readsTo P s ops l (putE o.dst undefT e)
    | none => none

theorem SeqSim.nil (ops : Array Oper) (e : Env) (s : St) : SeqSim P ops [] e s e s := fun g w a hR hE Q hQ => hQ a w g (.refl g) hR hE rfl
theorem SeqSim.cons {ops : Array Oper} {o : Oper} {l : List Oper} {e e' : Env} {s s1 s' : St} {v : TV} (hw : wantedT ops.toList e o = some true) (h1 : OpSim P o e s v s1) (h : SeqSim P ops l (putE o.dst v e) s1 e' s') : SeqSim P ops (o :: l) e s e' s' := by
  intro g w a hR hE Q hQ
  unfold wpList
  rw [wantedT_ok hE hw, if_pos rfl]
  refine .inl (h1 g w a hR (hE.operands o) _ _ fun rv w' g' hle hR' hv => ?_)
  refine h g' w' _ hR' ((hE.mono hle).put hv o.dst) Q fun a' w'' g'' hle' hR'' hE'' hd => ?_
  exact hQ a' w'' g'' (hle.trans hle') hR'' hE'' (hd.trans (put_defers _ _ _))
theorem SeqSim.idle {ops : Array Oper} {o : Oper} {l : List Oper} {e e' : Env} {s s' : St} (hw : wantedT ops.toList e o = some false) (h : SeqSim P ops l (putE o.dst undefT e) s e' s') : SeqSim P ops (o :: l) e s e' s' := by
  intro g w a hR hE Q hQ
  unfold wpList
  rw [wantedT_ok hE hw, if_neg (by simp)]
  refine h g w _ hR (hE.put (VRel.undef' g) o.dst) Q fun a' w'' g'' hle' hR'' hE'' hd => ?_
  exact hQ a' w'' g'' hle' hR'' hE'' (hd.trans (put_defers _ _ _))

/-- Operations that leave the store as it is. -/
def DoU (P : Program) (ops : Array Oper) (l : List Oper) (e : Env) (s : St) (Q : Env → Prop) : Prop :=
  ∃ e', SeqSim P ops l e s e' s ∧ (∀ j, ∃ items sts, Told P ops.toList l j e s items sts e' s ∧ ∀ s1 ∈ sts, s1 = s) ∧ Q e'
/-- Operations, in the text's order. -/
def DoS (P : Program) (ops : Array Oper) (l : List Oper) (e : Env) (s : St) (Q : Env → St → Prop) : Prop := ∃ e' s', SeqSim P ops l e s e' s' ∧ Q e' s'

theorem DoU.nil {ops : Array Oper} {e : Env} {s : St} {Q : Env → Prop} (h : Q e) : DoU P ops [] e s Q :=
  ⟨e, .nil ops e s, fun j => ⟨[], [], .nil _ j e s, fun s1 h => by simp at h⟩, h⟩
theorem DoU.read {ops : Array Oper} {o : Oper} {l : List Oper} {e : Env} {s : St} {v : TV} {Q : Env → Prop} (hw : wantedT ops.toList e o = some true) (hr : isRead o = true) (hv : readT P s (ev e) o = some v)
    (h : DoU P ops l (putE o.dst v e) s Q) : DoU P ops (o :: l) e s Q := by
  obtain ⟨e', h1, h2, hq⟩ := h
  refine ⟨e', .cons hw (.read hv) h1, fun j => ?_, hq⟩
  obtain ⟨items, sts, t, hs⟩ := h2 (j + 1)
  have := Told.cons (P := P) hw (fun h => by cases h) (fun _ _ => hv) (fun _ => rfl) (fun _ h => absurd h (by simp [hr])) t
  simp only [hr, if_true] at this
  exact ⟨_, _, this, hs⟩
theorem DoU.idle {ops : Array Oper} {o : Oper} {l : List Oper} {e : Env} {s : St} {Q : Env → Prop} (hw : wantedT ops.toList e o = some false)
    (h : DoU P ops l (putE o.dst undefT e) s Q) : DoU P ops (o :: l) e s Q := by
  obtain ⟨e', h1, h2, hq⟩ := h
  refine ⟨e', .idle hw h1, fun j => ?_, hq⟩
  obtain ⟨items, sts, t, hs⟩ := h2 (j + 1)
  have := Told.cons (P := P) hw (fun _ => ⟨rfl, rfl⟩) (fun h => by cases h) (fun _ => rfl) (fun h => by cases h) t
  refine ⟨_, _, this, ?_⟩
  split
  · exact hs
  · intro s1 h1
    rcases List.mem_cons.1 h1 with h1 | h1
    · exact h1
    · exact hs s1 h1
theorem DoU.call (hN : Named P) {ops : Array Oper} {o : Oper} {l : List Oper} {e : Env} {s : St} {f : FuncId} {args : List TV} {v : TV} {Q : Env → Prop} (hw : wantedT ops.toList e o = some true) (hr : isRead o = false)
    (hc : calleeT (ev e) o = some (f, args)) (hp : Pure P f args v) (h : DoU P ops l (putE o.dst v e) s Q) : DoU P ops (o :: l) e s Q := by
  obtain ⟨e', h1, h2, hq⟩ := h
  have ho : OpSim P o e s v s := .call hN hc (hp s)
  refine ⟨e', .cons hw ho h1, fun j => ?_, hq⟩
  obtain ⟨items, sts, t, hs⟩ := h2 (j + 1)
  have := Told.cons (P := P) hw (fun h => by cases h) (fun _ h => absurd h (by simp [hr])) (fun h => absurd h (by simp [hr])) (fun _ _ => ho) t
  simp only [hr, Bool.false_eq_true, if_false] at this
  refine ⟨_, _, this, fun s1 h1 => ?_⟩
  rcases List.mem_cons.1 h1 with h1 | h1
  · exact h1
  · exact hs s1 h1
theorem DoU.reads {ops : Array Oper} : ∀ {l l2 : List Oper} {e e1 : Env} {s : St} {Q : Env → Prop}, readsTo P s ops.toList l e = some (e1, l2) → DoU P ops l2 e1 s Q → DoU P ops l e s Q := by
  intro l
  induction l with
  | nil => intro l2 e e1 s Q h hd; cases h; exact hd
  | cons o l1 ih =>
    intro l2 e e1 s Q h hd
    simp only [readsTo] at h
    split at h
    · rename_i hw
      split at h
      · rename_i hr
        split at h
        · rename_i v hv
          exact .read hw hr hv (ih h hd)
        · cases h
      · cases h; exact hd
    · rename_i hw
      exact .idle hw (ih h hd)
    · cases h

theorem DoS.nil {ops : Array Oper} {e : Env} {s : St} {Q : Env → St → Prop} (h : Q e s) : DoS P ops [] e s Q := ⟨e, s, .nil ops e s, h⟩
theorem DoS.op {ops : Array Oper} {o : Oper} {l : List Oper} {e : Env} {s s1 : St} {v : TV} {Q : Env → St → Prop} (hw : wantedT ops.toList e o = some true) (ho : OpSim P o e s v s1) (h : DoS P ops l (putE o.dst v e) s1 Q) : DoS P ops (o :: l) e s Q :=
  let ⟨e', s', h1, hq⟩ := h; ⟨e', s', .cons hw ho h1, hq⟩
theorem DoS.idle {ops : Array Oper} {o : Oper} {l : List Oper} {e : Env} {s : St} {Q : Env → St → Prop} (hw : wantedT ops.toList e o = some false) (h : DoS P ops l (putE o.dst undefT e) s Q) : DoS P ops (o :: l) e s Q :=
  let ⟨e', s', h1, hq⟩ := h; ⟨e', s', .idle hw h1, hq⟩
theorem DoS.eff {ops : Array Oper} {o : Oper} {l : List Oper} {e : Env} {s s1 : St} {v : TV} {Q : Env → St → Prop} (hw : wantedT ops.toList e o = some true) (hv : effT P s (ev e) o = some (v, s1)) (h : DoS P ops l (putE o.dst v e) s1 Q) : DoS P ops (o :: l) e s Q :=
  .op hw (.eff hv) h
theorem DoS.call (hN : Named P) {ops : Array Oper} {o : Oper} {l : List Oper} {e : Env} {s : St} {f : FuncId} {args : List TV} {Q : Env → St → Prop} (hw : wantedT ops.toList e o = some true) (hc : calleeT (ev e) o = some (f, args))
    (h : Does P f args s fun v s1 => DoS P ops l (putE o.dst v e) s1 Q) : DoS P ops (o :: l) e s Q := by
  obtain ⟨v, s1, hs, h⟩ := h
  exact .op hw (.call hN hc hs) h
theorem DoS.reads {ops : Array Oper} : ∀ {l l2 : List Oper} {e e1 : Env} {s : St} {Q : Env → St → Prop}, readsTo P s ops.toList l e = some (e1, l2) → DoS P ops l2 e1 s Q → DoS P ops l e s Q := by
  intro l
  induction l with
  | nil => intro l2 e e1 s Q h hd; cases h; exact hd
  | cons o l1 ih =>
    intro l2 e e1 s Q h hd
    simp only [readsTo] at h
    split at h
    · rename_i hw
      split at h
      · rename_i hr
        split at h
        · rename_i v hv
          exact .op hw (.read hv) (ih h hd)
        · cases h
      · cases h; exact hd
    · rename_i hw
      exact .idle hw (ih h hd)
    · cases h

theorem drawOk_same {ops : List Oper} {e e' : Env} {s s' : St} {items : List DItem} {sts : List St} (t : Told P ops ops 0 e s items sts e' s') (hs : ∀ s1 ∈ sts, s1 = s) : drawOk P ops items (s :: sts) = true := by
  unfold drawOk
  split
  · rfl
  · simp only [List.all_eq_true]
    intro p hp
    obtain ⟨it, i⟩ := p
    have hi : items[i]? = some it := List.mem_zipIdx_iff_getElem?.1 hp
    have hlt : i < ops.length := by rw [← t.len]; exact (List.getElem?_eq_some_iff.1 hi).1
    obtain ⟨it', s1, s2, h1, h2, _, h4, _, _, _, h7, _⟩ := t.each i _ (List.getElem?_eq_getElem hlt)
    rw [hi] at h1
    cases h1
    cases hw : it.w with
    | false => simp
    | true =>
      cases hr : isRead it.o with
      | false => simp
      | true =>
        have hs1 : s1 = s := by
          rcases List.mem_cons.1 (List.mem_of_getElem? h4) with h | h
          · exact h
          · exact hs s1 h
        rw [← h2] at h7
        have h8 := h7 hw hr
        rw [hs1] at h8
        simp only [Bool.and_self, Bool.not_true, Bool.false_or, List.all_eq_true]
        intro q hq
        obtain ⟨s3, k⟩ := q
        have hs3 : s3 = s := by
          have := List.mem_zipIdx_iff_getElem?.1 hq
          rcases List.mem_cons.1 (List.mem_of_getElem? this) with h | h
          · exact h
          · exact hs s3 h
        simp only [hs3, h8, TV.beq_refl, Bool.or_true]

theorem Do.region (hm : P.follows .mixedOrders = true) {id : Nat} {ops : Array Oper} {draw : Bool} {e : Env} {s : St} {Q : Ex → Env → St → Prop} (hr : (!draw || regionOk ops.toList) = true) (h : DoU P ops ops.toList e s fun e' => Q .normal e' s) :
    Do P (.region id ops draw) e s Q := by
  obtain ⟨e', h1, h2, hq⟩ := h
  cases draw with
  | false => exact ⟨.normal, e', s, fun g w a hR hE Q hQ => wp_region_list (h1 g w a hR hE Q fun a' w' g' => hQ a' w' g'), hq⟩
  | true =>
    obtain ⟨items, sts, t, hs⟩ := h2 0
    exact ⟨.normal, e', s, CodeSim.draw hm (by simpa using hr) t (drawOk_same t hs), hq⟩
theorem Do.reads (hm : P.follows .mixedOrders = true) {id : Nat} {ops : Array Oper} {draw : Bool} {e e' : Env} {s : St} {Q : Ex → Env → St → Prop} (hr : (!draw || regionOk ops.toList) = true) (h : readsTo P s ops.toList ops.toList e = some (e', [])) (hq : Q .normal e' s) :
    Do P (.region id ops draw) e s Q := Do.region hm hr (.reads h (.nil hq))
theorem Do.regionS {id : Nat} {ops : Array Oper} {e : Env} {s : St} {Q : Ex → Env → St → Prop} (h : DoS P ops ops.toList e s fun e' s' => Q .normal e' s') : Do P (.region id ops false) e s Q := by
  obtain ⟨e', s', h1, hq⟩ := h
  exact ⟨.normal, e', s', fun g w a hR hE Q hQ => wp_region_list (h1 g w a hR hE Q fun a' w' g' => hQ a' w' g'), hq⟩

/-! ### Calls -/
/-- How a body ends well. -/
def Ends (P : Program) (fn : Func) (Q : TV → St → Prop) : Ex → Env → St → Prop
  | .exit _, _, _ => False
  | _, e, s => ∃ v, resultT P s e fn.results.toList = some v ∧ Q v s

theorem Does.body {f : FuncId} {fn : Func} {c : Code} {args : List TV} {s : St} {Q : TV → St → Prop} (hf : P.funcs[f]? = some fn) (hb : fn.body = some c)
    (h : Do P c (args ++ List.replicate (fn.ntmps - args.length) undefT) s (Ends P fn Q)) : Does P f args s Q := by
  obtain ⟨x, e', s', h1, h2⟩ := h
  have out : ∃ v, resultT P s' e' fn.results.toList = some v ∧ Q v s' ∧ (x = .normal ∨ x = .ret) := by
    cases x with
    | exit id => exact h2.elim
    | normal => obtain ⟨v, hv, hq⟩ := h2; exact ⟨v, hv, hq, .inl rfl⟩
    | ret => obtain ⟨v, hv, hq⟩ := h2; exact ⟨v, hv, hq, .inr rfl⟩
  obtain ⟨v, hv, hk, hx⟩ := out
  refine ⟨v, s', ⟨⟨fn, c, hf, hb⟩, fun g w rargs hR hA => calls_of_wp hf hb ?_⟩, hk⟩
  refine h1 g w _ hR ?_ _ fun a' w' g' hle hR' hE' hd => ?_
  · show VRels g (rargs.toArray ++ Array.replicate (fn.ntmps - rargs.toArray.size) undef).toList _
    rw [Array.toList_append, Array.toList_replicate]
    have hl := hA.length
    simp only [List.size_toArray]
    rw [hl]
    exact hA.append (VRels.replicate _ (VRel.undef' g))
  · obtain ⟨rv, hrv, hrel⟩ := resultT_ok hR' hE' hv
    rcases hx with rfl | rfl
    · exact ⟨hd, rv, hrv, rv, g', rfl, hle, hR', hrel⟩
    · exact ⟨hd, rv, hrv, rv, g', rfl, hle, hR', hrel⟩
/-- A body that leaves the store as it is. -/
theorem Pure.body {f : FuncId} {fn : Func} {c : Code} {args : List TV} {v : TV} (hf : P.funcs[f]? = some fn) (hb : fn.body = some c)
    (h : ∀ s, Do P c (args ++ List.replicate (fn.ntmps - args.length) undefT) s (Ends P fn fun v' s' => v' = v ∧ s' = s)) : Pure P f args v := fun s => (Does.body hf hb (h s)).sim

/-! ### Names -/
theorem Env.at_set_ne {e : Env} {d t : Nat} {v : TV} (h : d ≠ t) : Env.at (List.set e d v) t = e.at t := by
  simp [Env.at_eq, List.getD, List.getElem?_set_ne h]
theorem Env.at_set_eq {e : Env} {d : Nat} {v : TV} (h : d < e.length) : Env.at (List.set e d v) d = v := by
  simp [Env.at_eq, List.getD, h]
theorem putE_some (d : Tmp) (v : TV) (e : Env) : putE (some d) v e = List.set e d v := rfl
theorem putE_none (v : TV) (e : Env) : putE none v e = e := rfl
theorem ev_tmp (e : Env) (t : Tmp) : ev e (.tmp t) = e.at t := rfl
theorem ev_const (e : Env) (v : Value) : ev e (.const v) = ofConst v := rfl
theorem ev_func (e : Env) (f : FuncId) : ev e (.func f) = .fn (.func f) [] [] := rfl
end
end Go.Proofs.YtmmofmkencnldaaGreatDoor.TV
