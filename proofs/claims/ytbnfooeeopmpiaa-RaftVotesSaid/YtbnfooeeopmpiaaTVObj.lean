/-
  TV: objects of the store: what is loaded from them, stored into them, made.
-/
import Derived.Test.YtbnfooeeopmpiaaTVGrow
namespace Go.Proofs.Ytbnfooeeopmpiaa.TV
open Go Go.RowKit
set_option linter.unusedSimpArgs false
set_option linter.unusedVariables false

namespace Tr
variable {α : Type}
theorem set_one : ∀ (f n : Nat) (v w : α), n ≤ f → (one f n v).set n w = one f n w
  | 0, n, v, w, h => by
    have : n = 0 := by omega
    subst this
    simp [one, set]
  | f + 1, n, v, w, h => by
    simp only [one]
    split
    · rename_i h0; subst h0; simp [set]
    · rename_i h0
      split
      · rename_i h1; simp only [set, if_neg h0, if_pos h1]; rw [set_one f _ v w (by omega)]
      · rename_i h1; simp only [set, if_neg h0, if_neg h1]; rw [set_one f _ v w (by omega)]
theorem set_set : ∀ (t : Tr α) (n : Nat) (v w : α), (t.set n v).set n w = t.set n w
  | .nil, n, v, w => by simp only [set]; exact set_one n n v w (Nat.le_refl _)
  | .node u l r, n, v, w => by
    simp only [set]
    split
    · rename_i h0; subst h0; simp [set]
    · rename_i h0
      split
      · rename_i h1; simp only [set, if_neg h0, if_pos h1]; rw [set_set l]
      · rename_i h1; simp only [set, if_neg h0, if_neg h1]; rw [set_set r]
end Tr

section
variable {P : Program} {s : St}

/-- Object o is these cells. -/
def Is (s : St) (o : Nat) (cs : List TV) (t : TypeId) : Prop := s.objs.get o = some (.cells cs t)
/-- The store with other cells at o. -/
def setO (s : St) (o : Nat) (cs : List TV) (t : TypeId) : St := { s with objs := s.objs.set o (.cells cs t) }
theorem Is.setO {o : Nat} {cs : List TV} {t : TypeId} : Is (setO s o cs t) o cs t := by simp [Is, TV.setO, Tr.get_set]
theorem Is.off {o p : Nat} {cs cs' : List TV} {t t' : TypeId} (h : Is s p cs t) (hne : p ≠ o) : Is (TV.setO s o cs' t') p cs t := by
  unfold Is TV.setO
  simp only
  rw [Tr.get_set, if_neg hne]
  exact h
theorem setO_setO {o : Nat} {a b : List TV} {t u : TypeId} : setO (setO s o a t) o b u = setO s o b u := by simp [setO, Tr.set_set]
theorem setO_same {o : Nat} {cs : List TV} {t : TypeId} (h : Is s o cs t) : setO s o cs t = s := by
  unfold setO
  rw [Tr.set_same _ _ _ h]
theorem setO_n {o : Nat} {a : List TV} {t : TypeId} : (setO s o a t).n = s.n := rfl
theorem objCells_is {o : Nat} {cs : List TV} {t : TypeId} (h : Is s o cs t) : objCells s o = some (cs, t) := by
  unfold objCells
  rw [h]
theorem take_one {t : TypeId} {d : TypeDesc} {cs : List TV} {x : TV} (hu : P.underlying t = some d) (ha : isAggT P t = false) (hx : cs.head? = some x) : take P t cs = some x := by
  simp [take, hu, ha, hx]
/-- A cell that is loaded. -/
theorem load_is {o off : Nat} {cs : List TV} {t ty : TypeId} {d : TypeDesc} {x : TV} (h : Is s o cs t) (hu : P.underlying ty = some d) (ha : isAggT P ty = false) (hx : cs[off]? = some x) : loadT P s ty (.ptr o off) = some x := by
  unfold loadT
  simp only [objCells_is h]
  refine take_one hu ha ?_
  rw [List.head?_drop]
  exact hx
theorem load_all {o : Nat} {cs : List TV} {t ty : TypeId} {d : TypeDesc} (h : Is s o cs t) (hu : P.underlying ty = some d) (ha : isAggT P ty = true) (hn : P.cellsOf ty = cs.length) : loadT P s ty (.ptr o 0) = some (.agg cs) := by
  unfold loadT
  simp only [objCells_is h]
  simp [take, hu, ha, hn]
theorem set_is {o off : Nat} {cs vs : List TV} {t : TypeId} (h : Is s o cs t) (hl : off + vs.length ≤ cs.length) (hv : vs.all cellOk = true) : setCellsT s o off vs = some (setO s o (splice cs off vs) t) := by
  unfold setCellsT
  rw [h]
  simp [hl, hv, setO]
theorem field_ptr {t : TypeId} {fields : Array Field} {k : Nat} {fd : Field} {o off off' : Nat} (hu : P.underlying t = some (.struct fields)) (hk : fields[k]? = some fd) (hc : (P.cellsOf fd.type != 0) = true) (he : off + fd.offset = off') :
    fieldAddrT P t (.ptr o off) k = some (.ptr o off') := by
  subst he
  have : ¬ P.cellsOf fd.type = 0 := by simpa using hc
  simp [fieldAddrT, hu, hk, this]
theorem field_eptr {t : TypeId} {fields : Array Field} {k : Nat} {fd : Field} {cs cs' : List TV} (hu : P.underlying t = some (.struct fields)) (hk : fields[k]? = some fd) (hc : (P.cellsOf fd.type != 0) = true) (he : cs.drop fd.offset = cs') :
    fieldAddrT P t (.eptr cs) k = some (.eptr cs') := by
  subst he
  have : ¬ P.cellsOf fd.type = 0 := by simpa using hc
  simp [fieldAddrT, hu, hk, this]
theorem load_e {t : TypeId} {d : TypeDesc} {x : TV} {cs : List TV} (hu : P.underlying t = some d) (ha : isAggT P t = false) : loadT P s t (.eptr (x :: cs)) = some x := by
  simp [loadT, take, hu, ha]

/-- A new object. -/
def newO (s : St) (cs : List TV) (t : TypeId) : St := { s with n := s.n + 1, objs := s.objs.set s.n (.cells cs t) }
theorem mkObj_new {cs : List TV} {t : TypeId} : mkObj s (.cells cs t) = newO s cs t := rfl
theorem Is.newO {cs : List TV} {t : TypeId} : Is (newO s cs t) s.n cs t := by simp [Is, TV.newO, Tr.get_set]
theorem Is.offN {p : Nat} {cs cs' : List TV} {t t' : TypeId} (h : Is s p cs t) (hne : p ≠ s.n) : Is (TV.newO s cs' t') p cs t := by
  unfold Is TV.newO
  simp only
  rw [Tr.get_set, if_neg hne]
  exact h
theorem newO_n {cs : List TV} {t : TypeId} : (newO s cs t).n = s.n + 1 := rfl
theorem setO_newO {cs ds : List TV} {t u : TypeId} : setO (newO s cs t) s.n ds u = newO s ds u := by simp [setO, newO, Tr.set_set]

/-! ### Rules by which a store of known objects is reckoned with -/
theorem none_n : St.none.n = 0 := rfl
theorem ld_get {t : TypeId} {o off : Nat} : loadT P s t (.ptr o off) = match s.objs.get o with
    | some (.cells cs _) => take P t (cs.drop off)
    | _ => none := by
  rcases h : s.objs.get o with _ | ob
  · simp [loadT, objCells, h]
  · cases ob <;> simp [loadT, objCells, h]
theorem set_get {o off : Nat} {vs : List TV} : setCellsT s o off vs = match s.objs.get o with
    | some (.cells cs t) => if decide (off + vs.length ≤ cs.length) && vs.all cellOk then some (setO s o (splice cs off vs) t) else none
    | _ => none := by
  unfold setCellsT
  cases s.objs.get o with
  | none => rfl
  | some ob => cases ob <;> simp [setO]
theorem get_newO {o : Nat} {cs : List TV} {t : TypeId} : (newO s cs t).objs.get o = if o = s.n then some (.cells cs t) else s.objs.get o := by simp [newO, Tr.get_set]
theorem get_setO {o p : Nat} {cs : List TV} {t : TypeId} : (setO s p cs t).objs.get o = if o = p then some (.cells cs t) else s.objs.get o := by simp [setO, Tr.get_set]
theorem get_none {o : Nat} : St.none.objs.get o = none := rfl
theorem take_sc {t : TypeId} {d : TypeDesc} {x : TV} {l : List TV} (hu : P.underlying t = some d) (ha : isAggT P t = false) : take P t (x :: l) = some x := by simp [take, hu, ha]
theorem take_ag {t : TypeId} {d : TypeDesc} {l : List TV} {n : Nat} (hu : P.underlying t = some d) (ha : isAggT P t = true) (hn : P.cellsOf t = n) : take P t l = if decide (n ≤ l.length) then some (.agg (l.take n)) else none := by
  simp [take, hu, ha, hn]
theorem sp_0 {x y : TV} {l : List TV} : splice (x :: l) 0 [y] = y :: l := by simp [splice]
theorem sp_s {x : TV} {l vs : List TV} {n : Nat} : splice (x :: l) (n + 1) vs = x :: splice l n vs := by
  simp only [splice, List.take_succ_cons, List.cons_append, List.append_assoc, List.cons.injEq, true_and]
  have : n + 1 + vs.length = (n + vs.length) + 1 := by omega
  rw [this, List.drop_succ_cons]
theorem sp_c {x y : TV} {l vs : List TV} : splice (x :: l) 0 (y :: vs) = y :: splice l 0 vs := by simp [splice]
theorem sp_n {l : List TV} : splice l 0 [] = l := by simp [splice]
theorem ok_c {x : TV} {l : List TV} : List.all (x :: l) cellOk = (cellOk x && List.all l cellOk) := rfl
theorem ok_n : List.all ([] : List TV) cellOk = true := rfl
theorem cells_agg {cs : List TV} : (TV.agg cs).cells = cs := rfl
theorem cells_int {k : IntKind} {n : Int} : (TV.int k n).cells = [.int k n] := rfl
theorem cells_str {l : List UInt8} : (TV.str l).cells = [.str l] := rfl
theorem cells_bool {b : Bool} : (TV.bool b).cells = [.bool b] := rfl
theorem cells_ptr {o off : Nat} : (TV.ptr o off).cells = [.ptr o off] := rfl
theorem cells_slice {b : Bool} {l : List TV} {t : Tok} : (TV.slice b l t).cells = [.slice b l t] := rfl
theorem cells_nilp : TV.nilp.cells = [.nilp] := rfl
theorem ok_int {k : IntKind} {n : Int} : cellOk (.int k n) = true := rfl
theorem ok_str {l : List UInt8} : cellOk (.str l) = true := rfl
theorem ok_bool {b : Bool} : cellOk (.bool b) = true := rfl
theorem ok_ptr {o off : Nat} : cellOk (.ptr o off) = true := rfl
theorem ok_slice {b : Bool} {l : List TV} {t : Tok} : cellOk (.slice b l t) = true := rfl
theorem ok_nilp : cellOk .nilp = true := rfl

/-- What was appended to stays so when objects are made or turned. -/
theorem Grows.setO {v : TV} {es : List TV} {e : TypeId} {o : Nat} {a : List TV} {t : TypeId} (g : Grows P s v es e) : Grows P (setO s o a t) v es e := g
theorem Grows.newO {v : TV} {es : List TV} {e : TypeId} {a : List TV} {t : TypeId} (g : Grows P s v es e) : Grows P (newO s a t) v es e := g
theorem Is.apps {s' : St} {v : TV} {o : Nat} {cs : List TV} {t : TypeId} (h : Is s o cs t) (a : Apps s s' v) : Is s' o cs t := by
  unfold Is
  rw [a.objs]
  exact h

theorem DoS.sim (hN : Named P) {ops : Array Oper} {o : Oper} {l : List Oper} {e : Env} {s1 : St} {f : FuncId} {args : List TV} {v : TV} {Q : Env → St → Prop} (hw : wantedT ops.toList e o = some true) (hc : calleeT (ev e) o = some (f, args))
    (hs : Sim P f args s v s1) (hk : DoS P ops l (putE o.dst v e) s1 Q) : DoS P ops (o :: l) e s Q := DoS.call hN hw hc ⟨v, s1, hs, hk⟩
theorem DoU.sim (hN : Named P) {ops : Array Oper} {o : Oper} {l : List Oper} {e : Env} {f : FuncId} {args : List TV} {v : TV} {Q : Env → Prop} (hw : wantedT ops.toList e o = some true) (hr : isRead o = false)
    (hc : calleeT (ev e) o = some (f, args)) (hp : Sim P f args s v s) (h : DoU P ops l (putE o.dst v e) s Q) : DoU P ops (o :: l) e s Q := by
  obtain ⟨e', h1, h2, hq⟩ := h
  have ho : OpSim P o e s v s := .call hN hc hp
  refine ⟨e', .cons hw ho h1, fun j => ?_, hq⟩
  obtain ⟨items, sts, t, hs⟩ := h2 (j + 1)
  have := Told.cons (P := P) hw (fun h => by cases h) (fun _ h => absurd h (by simp [hr])) (fun h => absurd h (by simp [hr])) (fun _ _ => ho) t
  simp only [hr, Bool.false_eq_true, if_false] at this
  refine ⟨_, _, this, fun s1 h1 => ?_⟩
  rcases List.mem_cons.1 h1 with h1 | h1
  · exact h1
  · exact hs s1 h1
theorem Sim.body {f : FuncId} {fn : Func} {c : Code} {args : List TV} {v : TV} {s' : St} (hf : P.funcs[f]? = some fn) (hb : fn.body = some c)
    (h : Do P c (args ++ List.replicate (fn.ntmps - args.length) undefT) s (Ends P fn fun v' t => v' = v ∧ t = s')) : Sim P f args s v s' := (Does.body hf hb h).sim
theorem Pure.at {f : FuncId} {args : List TV} {v : TV} (h : Pure P f args v) (s : St) : Sim P f args s v s := h s
end

/-- A whole number's kind has bounds. -/
theorem wf_i64 {z : Int} (h : (Lit.int .i64 z).wf = true) : -9223372036854775808 ≤ z ∧ z ≤ 9223372036854775807 := by
  simp [Lit.wf, IntKind.min, IntKind.max, IntKind.bits, IntKind.signed] at h
  omega
end Go.Proofs.Ytbnfooeeopmpiaa.TV
