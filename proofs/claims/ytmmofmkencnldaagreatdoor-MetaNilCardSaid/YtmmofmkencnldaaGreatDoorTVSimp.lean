/-
  TV: what single operations tell, as rules to rewrite by.
-/
import Derived.Test.YtmmofmkencnldaaGreatDoorTVDo
namespace Go.Proofs.YtmmofmkencnldaaGreatDoor.TV
open Go Go.RowKit
set_option linter.unusedSimpArgs false
set_option linter.unusedVariables false

section
variable {P : Program} {s : St} {ops l : List Oper} {e : Env} {dst : Option Tmp} {ty : TypeId} {pos : String} {after : Array Edge} {guard : Option (Nat × Bool)}

theorem rt_nil : readsTo P s ops [] e = some (e, []) := rfl
theorem readsTo.step {o : Oper} {v : TV} {r : Env × List Oper} (hw : wantedT ops e o = some true) (hr : isRead o = true) (hv : readT P s (ev e) o = some v) (h : readsTo P s ops l (putE o.dst v e) = some r) : readsTo P s ops (o :: l) e = some r := by
  simp only [readsTo, hw, hr, hv, if_true]; exact h
theorem readsTo.idle {o : Oper} {r : Env × List Oper} (hw : wantedT ops e o = some false) (h : readsTo P s ops l (putE o.dst undefT e) = some r) : readsTo P s ops (o :: l) e = some r := by
  simp only [readsTo, hw]; exact h
theorem readsTo.put {o : Oper} {v : TV} {d : Tmp} {r : Env × List Oper} (hw : wantedT ops e o = some true) (hr : isRead o = true) (hd : o.dst = some d) (hv : readT P s (ev e) o = some v) (h : readsTo P s ops l (List.set e d v) = some r) : readsTo P s ops (o :: l) e = some r :=
  readsTo.step hw hr hv (by rw [hd]; exact h)
theorem readsTo.drop {o : Oper} {d : Tmp} {r : Env × List Oper} (hw : wantedT ops e o = some false) (hd : o.dst = some d) (h : readsTo P s ops l (List.set e d (.tup [])) = some r) : readsTo P s ops (o :: l) e = some r :=
  readsTo.idle hw (by rw [hd]; exact h)
theorem readsTo.stop {o : Oper} (hw : wantedT ops e o = some true) (hr : isRead o = false) : readsTo P s ops (o :: l) e = some (e, o :: l) := by
  simp only [readsTo, hw, hr, Bool.false_eq_true, if_false]
theorem rt_move {x : Operand} : readsTo P s ops (⟨dst, .move x, ty, pos, after, none⟩ :: l) e = readsTo P s ops l (putE dst (ev e x) e) := rfl
theorem rt_assign {x : Operand} : readsTo P s ops (⟨dst, .assign x, ty, pos, after, none⟩ :: l) e = readsTo P s ops l (putE dst (ev e x) e) := rfl
theorem rt_read {o : Op} : readsTo P s ops (⟨dst, o, ty, pos, after, none⟩ :: l) e = if isRead ⟨dst, o, ty, pos, after, none⟩ then (match readT P s (ev e) ⟨dst, o, ty, pos, after, none⟩ with
    | some v => readsTo P s ops l (putE dst v e)
    | none => none) else some (e, ⟨dst, o, ty, pos, after, none⟩ :: l) := rfl
theorem rt_guard {o : Op} {j : Nat} {want : Bool} : readsTo P s ops (⟨dst, o, ty, pos, after, some (j, want)⟩ :: l) e = match wantedT ops e ⟨dst, o, ty, pos, after, some (j, want)⟩ with
    | some true => if isRead ⟨dst, o, ty, pos, after, some (j, want)⟩ then (match readT P s (ev e) ⟨dst, o, ty, pos, after, some (j, want)⟩ with
      | some v => readsTo P s ops l (putE dst v e)
      | none => none) else some (e, ⟨dst, o, ty, pos, after, some (j, want)⟩ :: l)
    | some false => readsTo P s ops l (putE dst undefT e)
    | none => none := rfl
theorem wt_guard {o : Op} {j : Nat} {want : Bool} : wantedT ops e ⟨dst, o, ty, pos, after, some (j, want)⟩ = match (ops[j]?).bind (·.dst) with
    | some d => match e.at d with
      | .bool b => some (b == want)
      | .tup [] => some false
      | _ => none
    | none => none := rfl
theorem wt_none {o : Op} : wantedT ops e ⟨dst, o, ty, pos, after, none⟩ = some true := rfl

variable {ρ : Operand → TV}
theorem ir_move {x : Operand} : isRead ⟨dst, .move x, ty, pos, after, guard⟩ = true := rfl
theorem ir_assign {x : Operand} : isRead ⟨dst, .assign x, ty, pos, after, guard⟩ = true := rfl
theorem ir_pick {c a b : Operand} : isRead ⟨dst, .pick c a b, ty, pos, after, guard⟩ = true := rfl
theorem ir_build {t : TypeId} {ps : Array (Nat × Operand)} : isRead ⟨dst, .build t ps, ty, pos, after, guard⟩ = true := rfl
theorem ir_buildSlice {t : TypeId} {n : Nat} {ps : Array (Nat × Operand)} : isRead ⟨dst, .buildSlice t n ps, ty, pos, after, guard⟩ = !ownedT t := rfl
theorem ir_load {t : TypeId} {x : Operand} : isRead ⟨dst, .load t x, ty, pos, after, guard⟩ = true := rfl
theorem ir_nilCheck {x : Operand} : isRead ⟨dst, .nilCheck x, ty, pos, after, guard⟩ = true := rfl
theorem ir_bin {op : BinOp} {t : TypeId} {x y : Operand} {z : TypeId} : isRead ⟨dst, .binOp op t x y z, ty, pos, after, guard⟩ = true := rfl
theorem ir_un {op : UnOp} {t : TypeId} {x : Operand} : isRead ⟨dst, .unOp op t x, ty, pos, after, guard⟩ = true := rfl
theorem ir_convert {a b : TypeId} {x : Operand} : isRead ⟨dst, .convert a b x, ty, pos, after, guard⟩ = true := rfl
theorem ir_makeInterface {a : TypeId} {x : Operand} : isRead ⟨dst, .makeInterface a x, ty, pos, after, guard⟩ = true := rfl
theorem ir_makeFunc {f : Fn} {a b : Array Operand} : isRead ⟨dst, .makeFunc f a b, ty, pos, after, guard⟩ = true := rfl
theorem ir_slice {t : TypeId} {x : Operand} {a b c : Option Operand} : isRead ⟨dst, .slice t x a b c, ty, pos, after, guard⟩ = true := rfl
theorem ir_fieldAddr {t : TypeId} {x : Operand} {i : Nat} : isRead ⟨dst, .fieldAddr t x i, ty, pos, after, guard⟩ = true := rfl
theorem ir_field {t : TypeId} {x : Operand} {i : Nat} : isRead ⟨dst, .field t x i, ty, pos, after, guard⟩ = true := rfl
theorem ir_indexAddr {t : TypeId} {x i : Operand} : isRead ⟨dst, .indexAddr t x i, ty, pos, after, guard⟩ = true := rfl
theorem ir_index {t : TypeId} {x i : Operand} : isRead ⟨dst, .index t x i, ty, pos, after, guard⟩ = true := rfl
theorem ir_lookup {t : TypeId} {x i : Operand} {b : Bool} : isRead ⟨dst, .lookup t x i b, ty, pos, after, guard⟩ = true := rfl
theorem ir_extract {x : Operand} {i : Nat} : isRead ⟨dst, .extract x i, ty, pos, after, guard⟩ = true := rfl
theorem ir_len {xs : Array Operand} {ts : Array TypeId} : isRead ⟨dst, .call ⟨.builtin .len, xs, ts⟩, ty, pos, after, guard⟩ = true := rfl
theorem ir_min {xs : Array Operand} {ts : Array TypeId} : isRead ⟨dst, .call ⟨.builtin .min, xs, ts⟩, ty, pos, after, guard⟩ = true := rfl
theorem ir_max {xs : Array Operand} {ts : Array TypeId} : isRead ⟨dst, .call ⟨.builtin .max, xs, ts⟩, ty, pos, after, guard⟩ = true := rfl
theorem ir_call {x : Operand} {xs : Array Operand} {ts : Array TypeId} : isRead ⟨dst, .call ⟨.value x, xs, ts⟩, ty, pos, after, guard⟩ = false := rfl
theorem ir_append {xs : Array Operand} {ts : Array TypeId} : isRead ⟨dst, .call ⟨.builtin .append, xs, ts⟩, ty, pos, after, guard⟩ = false := rfl
theorem ir_copy {xs : Array Operand} {ts : Array TypeId} : isRead ⟨dst, .call ⟨.builtin .copy, xs, ts⟩, ty, pos, after, guard⟩ = false := rfl
theorem ir_alloc {t : TypeId} : isRead ⟨dst, .alloc t, ty, pos, after, guard⟩ = false := rfl
theorem ir_box {t : TypeId} {x : Operand} : isRead ⟨dst, .box t x, ty, pos, after, guard⟩ = false := rfl
theorem ir_store {t : TypeId} {x y : Operand} : isRead ⟨dst, .store t x y, ty, pos, after, guard⟩ = false := rfl
theorem ir_makeSlice {t : TypeId} {x y : Operand} : isRead ⟨dst, .makeSlice t x y, ty, pos, after, guard⟩ = false := rfl
theorem ir_makeMap {t : TypeId} {x : Option Operand} : isRead ⟨dst, .makeMap t x, ty, pos, after, guard⟩ = false := rfl
theorem ir_mapUpdate {t : TypeId} {m k v : Operand} : isRead ⟨dst, .mapUpdate t m k v, ty, pos, after, guard⟩ = false := rfl

theorem rd_move {x : Operand} : readT P s ρ ⟨dst, .move x, ty, pos, after, guard⟩ = some (ρ x) := rfl
theorem rd_assign {x : Operand} : readT P s ρ ⟨dst, .assign x, ty, pos, after, guard⟩ = some (ρ x) := rfl
theorem rd_pick {c a b : Operand} : readT P s ρ ⟨dst, .pick c a b, ty, pos, after, guard⟩ = match ρ c with
    | .bool true => some (ρ a)
    | .bool false => some (ρ b)
    | _ => none := rfl
theorem rd_build {t : TypeId} {ps : Array (Nat × Operand)} : readT P s ρ ⟨dst, .build t ps, ty, pos, after, guard⟩ = buildT P t (ps.toList.map fun p => (p.1, ρ p.2)) := rfl
theorem rd_buildSlice {t : TypeId} {n : Nat} {ps : Array (Nat × Operand)} : readT P s ρ ⟨dst, .buildSlice t n ps, ty, pos, after, guard⟩ = buildSliceT P t n (ps.toList.map fun p => (p.1, ρ p.2)) := rfl
theorem rd_load {t : TypeId} {x : Operand} : readT P s ρ ⟨dst, .load t x, ty, pos, after, guard⟩ = loadT P s t (ρ x) := rfl
theorem rd_nilCheck {x : Operand} : readT P s ρ ⟨dst, .nilCheck x, ty, pos, after, guard⟩ = match ρ x with
    | .ptr o off => some (.ptr o off)
    | .eptr cs => some (.eptr cs)
    | .fn (.func f) a b => some (.fn (.func f) a b)
    | _ => none := rfl
theorem rd_bin {op : BinOp} {t : TypeId} {x y : Operand} {z : TypeId} : readT P s ρ ⟨dst, .binOp op t x y z, ty, pos, after, guard⟩ = if guardT P op t x y (ρ x) (ρ y) then binT P op t (ρ x) (ρ y) else none := rfl
theorem rd_un {op : UnOp} {t : TypeId} {x : Operand} : readT P s ρ ⟨dst, .unOp op t x, ty, pos, after, guard⟩ = unT op (ρ x) := rfl
theorem rd_convert {a b : TypeId} {x : Operand} : readT P s ρ ⟨dst, .convert a b x, ty, pos, after, guard⟩ = convT P s a b (ρ x) := rfl
theorem rd_slice {t : TypeId} {x : Operand} {a b c : Option Operand} : readT P s ρ ⟨dst, .slice t x a b c, ty, pos, after, guard⟩ = sliceT P t (ρ x) (a.map ρ) (b.map ρ) (c.map ρ) := rfl
theorem rd_fieldAddr {t : TypeId} {x : Operand} {i : Nat} : readT P s ρ ⟨dst, .fieldAddr t x i, ty, pos, after, guard⟩ = fieldAddrT P t (ρ x) i := rfl
theorem rd_field {t : TypeId} {x : Operand} {i : Nat} : readT P s ρ ⟨dst, .field t x i, ty, pos, after, guard⟩ = fieldT P t (ρ x) i := rfl
theorem rd_indexAddr {t : TypeId} {x i : Operand} : readT P s ρ ⟨dst, .indexAddr t x i, ty, pos, after, guard⟩ = indexAddrT P t (ρ x) (ρ i) := rfl
theorem rd_index {t : TypeId} {x i : Operand} : readT P s ρ ⟨dst, .index t x i, ty, pos, after, guard⟩ = indexT P t (ρ x) (ρ i) := rfl
theorem rd_extract {x : Operand} {i : Nat} : readT P s ρ ⟨dst, .extract x i, ty, pos, after, guard⟩ = match ρ x with
    | .tup vs => vs[i]?
    | _ => none := rfl
theorem rd_makeFunc {f : Fn} {a b : Array Operand} : readT P s ρ ⟨dst, .makeFunc f a b, ty, pos, after, guard⟩ = some (.fn f (a.toList.map ρ) (b.toList.map ρ)) := rfl
theorem rd_len {x : Operand} {t : TypeId} : readT P s ρ ⟨dst, .call ⟨.builtin .len, #[x], #[t]⟩, ty, pos, after, guard⟩ = lenT P s t (ρ x) := rfl
theorem rd_min {x y : Operand} {ts : Array TypeId} : readT P s ρ ⟨dst, .call ⟨.builtin .min, #[x, y], ts⟩, ty, pos, after, guard⟩ = minT (ρ x) (ρ y) := rfl
theorem rd_max {x y : Operand} {ts : Array TypeId} : readT P s ρ ⟨dst, .call ⟨.builtin .max, #[x, y], ts⟩, ty, pos, after, guard⟩ = maxT (ρ x) (ρ y) := rfl

theorem gd_int {op : BinOp} {t : TypeId} {x y : Operand} {k k' : IntKind} {a b : Int} : guardT P op t x y (.int k a) (.int k' b) = true := by cases op <;> rfl
theorem gd_str {op : BinOp} {t : TypeId} {x y : Operand} {a b : List UInt8} : guardT P op t x y (.str a) (.str b) = true := by cases op <;> rfl
theorem gd_bool {op : BinOp} {t : TypeId} {x y : Operand} {a b : Bool} : guardT P op t x y (.bool a) (.bool b) = true := by cases op <;> rfl

variable {t : TypeId} {k : IntKind} {a b : Int}
theorem bn_add : binT P .add t (.int k a) (.int k b) = some (.int k (k.wrap (a + b))) := by simp [binT]
theorem bn_sub : binT P .sub t (.int k a) (.int k b) = some (.int k (k.wrap (a - b))) := by simp [binT]
theorem bn_mul : binT P .mul t (.int k a) (.int k b) = some (.int k (k.wrap (a * b))) := by simp [binT]
theorem bn_quo (h : b ≠ 0) : binT P .quo t (.int k a) (.int k b) = some (.int k (k.wrap (a.tdiv b))) := by simp [binT, h]
theorem bn_rem (h : b ≠ 0) : binT P .rem t (.int k a) (.int k b) = some (.int k (a.tmod b)) := by simp [binT, h]
theorem bn_eql : binT P .eql t (.int k a) (.int k b) = some (.bool (a == b)) := by simp [binT]
theorem bn_neq : binT P .neq t (.int k a) (.int k b) = some (.bool (a != b)) := by simp [binT]
theorem bn_lss : binT P .lss t (.int k a) (.int k b) = some (.bool (decide (a < b))) := by simp [binT]
theorem bn_leq : binT P .leq t (.int k a) (.int k b) = some (.bool (decide (a ≤ b))) := by simp [binT]
theorem bn_gtr : binT P .gtr t (.int k a) (.int k b) = some (.bool (decide (b < a))) := by simp [binT]
theorem bn_geq : binT P .geq t (.int k a) (.int k b) = some (.bool (decide (b ≤ a))) := by simp [binT]
theorem bn_sadd {x y : List UInt8} (h : x.length + y.length ≤ 9223372036854775807) : binT P .add t (.str x) (.str y) = some (.str (x ++ y)) := by simp [binT, h]
theorem bn_seql {x y : List UInt8} : binT P .eql t (.str x) (.str y) = some (.bool (x == y)) := by simp [binT]
theorem bn_sneq {x y : List UInt8} : binT P .neq t (.str x) (.str y) = some (.bool (!(x == y))) := by simp [binT]
theorem bn_beql (h : P.underlying t = some .bool) {x y : Bool} : binT P .eql t (.bool x) (.bool y) = some (.bool (x == y)) := by simp [binT, eqT, h]
theorem bn_bneq (h : P.underlying t = some .bool) {x y : Bool} : binT P .neq t (.bool x) (.bool y) = some (.bool (!(x == y))) := by simp [binT, eqT, h]
theorem un_not {x : Bool} : unT .not (.bool x) = some (.bool !x) := rfl
theorem un_neg : unT .neg (.int k a) = some (.int k (k.wrap (0 - a))) := rfl
theorem oc_int {n : Int} : ofConst (.int k n) = .int k n := rfl
theorem oc_bool {x : Bool} : ofConst (.bool x) = .bool x := rfl

theorem Ends.one {fn : Func} {Q : TV → St → Prop} {x : Tmp} (hr : fn.results = #[.tmp x]) (hq : Q (Env.at e x) s) : Ends P fn Q .ret e s := ⟨_, by rw [hr]; rfl, hq⟩
theorem Ends.two {fn : Func} {Q : TV → St → Prop} {x y : Tmp} (hr : fn.results = #[.tmp x, .tmp y]) (hq : Q (.tup [Env.at e x, Env.at e y]) s) : Ends P fn Q .ret e s := ⟨_, by rw [hr]; rfl, hq⟩
theorem Ends.none {fn : Func} {Q : TV → St → Prop} (hr : fn.results = #[]) (hq : Q (.tup []) s) : Ends P fn Q .ret e s := ⟨_, by rw [hr]; rfl, hq⟩
theorem drop_of {α : Type} {l : List α} {i : Nat} {x : α} (h : l[i]? = some x) : l.drop i = x :: l.drop (i + 1) := by
  obtain ⟨h1, h2⟩ := List.getElem?_eq_some_iff.1 h
  rw [List.drop_eq_getElem_cons h1, h2]
theorem take_of {α : Type} {l : List α} {i : Nat} {x : α} (h : l[i]? = some x) : l.take (i + 1) = l.take i ++ [x] := by
  rw [List.take_add_one, h]
  rfl
theorem wrap_succ {i : Nat} (h : i < 9223372036854775807) : IntKind.i64.wrap ((i : Int) + 1) = ((i + 1 : Nat) : Int) := by
  unfold IntKind.wrap
  simp [IntKind.min, IntKind.max, IntKind.bits, IntKind.signed]
  omega

theorem DoU.rd {aops : Array Oper} {l2 : List Oper} {e1 : Env} {Q : Env → Prop} (h : readsTo P s aops.toList l e = some (e1, l2)) (hk : DoU P aops l2 e1 s Q) : DoU P aops l e s Q := DoU.reads h hk
theorem DoS.rd {aops : Array Oper} {l2 : List Oper} {e1 : Env} {Q : Env → St → Prop} (h : readsTo P s aops.toList l e = some (e1, l2)) (hk : DoS P aops l2 e1 s Q) : DoS P aops l e s Q := DoS.reads h hk
theorem bq_tl {x : Bool} : (true == x) = x := by cases x <;> rfl
theorem bq_fl {x : Bool} : (false == x) = !x := by cases x <;> rfl
theorem bq_tr {x : Bool} : (x == true) = x := by cases x <;> rfl
theorem bq_fr {x : Bool} : (x == false) = !x := by cases x <;> rfl
theorem wrap_small {a : Int} (h : -9223372036854775808 ≤ a ∧ a ≤ 9223372036854775807) : IntKind.i64.wrap a = a := by
  unfold IntKind.wrap
  simp [IntKind.min, IntKind.max, IntKind.bits, IntKind.signed]
  omega

/-- A slice of whole numbers. -/
def intsV (b : Bool) (zs : List Int) (tok : Tok) : TV := .slice b (zs.map (.int .i64)) tok
theorem ints_len {t e : TypeId} (ht : P.underlying t = some (.slice e)) {b : Bool} {zs : List Int} {tok : Tok} : lenT P s t (intsV b zs tok) = some (.int .i64 zs.length) := by
  simp [lenT, ht, intsV]
theorem ints_at {t e : TypeId} (ht : P.underlying t = some (.slice e)) (hc : P.cellsOf e = 1) {b : Bool} {zs : List Int} {tok : Tok} {i : Nat} {z : Int} (h : zs[i]? = some z) : indexAddrT P t (intsV b zs tok) (.int .i64 i) = some (.eptr [.int .i64 z]) := by
  have : ¬ ((i : Int) < 0) := by omega
  simp [indexAddrT, ht, intsV, this, h, hc, TV.cells]
theorem load1 {t : TypeId} {d : TypeDesc} (hu : P.underlying t = some d) (ha : isAggT P t = false) {x : TV} : loadT P s t (.eptr [x]) = some x := by
  simp [loadT, take, hu, ha]
end
end Go.Proofs.YtmmofmkencnldaaGreatDoor.TV
