/-
  TV: slices that grow: what append tells of them.
-/
import Derived.Test.YtbnfooeeopmpiaaTVArgs
namespace Go.Proofs.Ytbnfooeeopmpiaa.TV
open Go Go.RowKit
set_option linter.unusedSimpArgs false
set_option linter.unusedVariables false

section
variable {P : Program} {s : St}

/-- A slice of these elements, of one's own: it may be appended to. -/
def Grows (P : Program) (s : St) (v : TV) (es : List TV) (e : TypeId) : Prop :=
  slotOk es = true ∧ headOk (P.cellsOf e) es = true ∧ noObjs es = true ∧
  ((∃ b, v = .slice b es .exact) ∨ ∃ b i, v = .slice b es (.tip i) ∧ i < s.ntips ∧ s.tips.get i = some (es.length, e))

/-- What has turned by an append: one row's end. -/
structure Apps (s s' : St) (v : TV) : Prop where
  n : s'.n = s.n
  objs : s'.objs = s.objs
  le : s.ntips ≤ s'.ntips
  tips : ∀ j, j < s.ntips → (∀ b es, v ≠ .slice b es (.tip j)) → s'.tips.get j = s.tips.get j

theorem Grows.nil (P : Program) (s : St) (b : Bool) (e : TypeId) : Grows P s (.slice b [] .exact) [] e := ⟨rfl, rfl, rfl, .inl ⟨b, rfl⟩⟩
theorem Grows.exact {b : Bool} {es : List TV} {e : TypeId} (h1 : slotOk es = true) (h2 : headOk (P.cellsOf e) es = true) (h3 : noObjs es = true) : Grows P s (.slice b es .exact) es e := ⟨h1, h2, h3, .inl ⟨b, rfl⟩⟩

theorem slotOk_append {a b : List TV} : slotOk (a ++ b) = (slotOk a && slotOk b) := by simp [slotOk, List.all_append]
theorem headOk_append {n : Nat} {a b : List TV} (h1 : headOk n a = true) (h2 : headOk n b = true) : headOk n (a ++ b) = true := by
  cases a with
  | nil => exact h2
  | cons x a => exact h1

theorem Grows.append {t u e : TypeId} {ud : TypeDesc} {v y : TV} {es ys : List TV} (g : Grows P s v es e) (ht : P.underlying t = some (.slice e)) (hu : P.underlying u = some ud) (hk : srcKind ud = true) (hy : srcT s (P.cellsOf e) y = some ys) (hne : ys ≠ [])
    (hb : (es.length + ys.length) * P.bytesOf e ≤ 140737488355328) (hb0 : 0 < P.bytesOf e) (hc0 : 0 < P.cellsOf e) (hh : headOk (P.cellsOf e) ys = true) (hs : slotOk ys = true) (hn : noObjs ys = true) (hz : zeroFits P e = true) :
    ∃ v' s', appendT P s t u v y = some (v', s') ∧ Grows P s' v' (es ++ ys) e ∧ Apps s s' v ∧ (∃ i, v' = .slice false (es ++ ys) (.tip i)) := by
  obtain ⟨g1, g2, g3, g4⟩ := g
  have hys : ys.isEmpty = false := by cases ys with | nil => exact absurd rfl hne | cons _ _ => rfl
  have new : slotOk (es ++ ys) = true ∧ headOk (P.cellsOf e) (es ++ ys) = true ∧ noObjs (es ++ ys) = true := ⟨by rw [slotOk_append, g1, hs]; rfl, headOk_append g2 hh, by rw [noObjs_append, g3, hn]; rfl⟩
  rcases g4 with ⟨b, rfl⟩ | ⟨b, i, rfl, hi, hti⟩
  · refine ⟨.slice false (es ++ ys) (.tip s.ntips), { s with ntips := s.ntips + 1, tips := s.tips.set s.ntips (es.length + ys.length, e) }, ?_, ⟨new.1, new.2.1, new.2.2, .inr ⟨false, s.ntips, rfl, Nat.lt_succ_self _, ?_⟩⟩, ⟨rfl, rfl, Nat.le_succ _, fun j hj _ => ?_⟩, _, rfl⟩
    · simp [appendT, ht, hu, hk, hy, hys, hb, hb0, hc0, hh, hs, hz, g1, g2]
    · simp [Tr.get_set]
    · simp only
      rw [Tr.get_set, if_neg (by omega)]
  · refine ⟨.slice false (es ++ ys) (.tip i), { s with tips := s.tips.set i (es.length + ys.length, e) }, ?_, ⟨new.1, new.2.1, new.2.2, .inr ⟨false, i, rfl, hi, ?_⟩⟩, ⟨rfl, rfl, Nat.le_refl _, fun j hj hv => ?_⟩, _, rfl⟩
    · simp [appendT, ht, hu, hk, hy, hys, hb, hb0, hc0, hh, hs, hz, g1, g2, hti]
    · simp [Tr.get_set]
    · have : j ≠ i := fun e => hv b es (by rw [e])
      simp only
      rw [Tr.get_set, if_neg this]

theorem Grows.len {v : TV} {es : List TV} {e : TypeId} (g : Grows P s v es e) : ∃ b tok, v = .slice b es tok := by
  obtain ⟨_, _, _, ⟨b, h⟩ | ⟨b, i, h, _⟩⟩ := g
  · exact ⟨b, _, h⟩
  · exact ⟨b, _, h⟩
/-- A slice that grows elsewhere stays as it was. -/
theorem Grows.stay {s' : St} {v w : TV} {es : List TV} {e : TypeId} (g : Grows P s v es e) (a : Apps s s' w) (h : ∀ b es' i b' es'', v = .slice b es' (.tip i) → w ≠ .slice b' es'' (.tip i)) : Grows P s' v es e := by
  obtain ⟨g1, g2, g3, g4⟩ := g
  refine ⟨g1, g2, g3, ?_⟩
  rcases g4 with h1 | ⟨b, i, h1, h2, h3⟩
  · exact .inl h1
  · exact .inr ⟨b, i, h1, Nat.lt_of_lt_of_le h2 a.le, (a.tips i h2 fun b' es'' => h b es i b' es'' h1).trans h3⟩

theorem DoS.pure (hN : Named P) {ops : Array Oper} {o : Oper} {l : List Oper} {e : Env} {f : FuncId} {args : List TV} {v : TV} {Q : Env → St → Prop} (hw : wantedT ops.toList e o = some true) (hc : calleeT (ev e) o = some (f, args))
    (hp : Pure P f args v) (hk : DoS P ops l (putE o.dst v e) s Q) : DoS P ops (o :: l) e s Q := DoS.call hN hw hc (hp.does hk)
theorem Ends.three {fn : Func} {Q : TV → St → Prop} {ee : Env} {x y z : Tmp} (hr : fn.results = #[.tmp x, .tmp y, .tmp z]) (hq : Q (.tup [Env.at ee x, Env.at ee y, Env.at ee z]) s) : Ends P fn Q .ret ee s := ⟨_, by rw [hr]; rfl, hq⟩
theorem ef_append {dst : Option Tmp} {ty : TypeId} {pos : String} {after : Array Edge} {guard : Option (Nat × Bool)} {ρ : Operand → TV} {x y : Operand} {t u : TypeId} :
    effT P s ρ ⟨dst, .call ⟨.builtin .append, #[x, y], #[t, u]⟩, ty, pos, after, guard⟩ = appendT P s t u (ρ x) (ρ y) := rfl
theorem ef_copy {dst : Option Tmp} {ty : TypeId} {pos : String} {after : Array Edge} {guard : Option (Nat × Bool)} {ρ : Operand → TV} {x y : Operand} {t u : TypeId} :
    effT P s ρ ⟨dst, .call ⟨.builtin .copy, #[x, y], #[t, u]⟩, ty, pos, after, guard⟩ = copyT P s t (ρ x) (ρ y) := rfl
theorem ef_alloc {dst : Option Tmp} {ty : TypeId} {pos : String} {after : Array Edge} {guard : Option (Nat × Bool)} {ρ : Operand → TV} {t : TypeId} :
    effT P s ρ ⟨dst, .alloc t, ty, pos, after, guard⟩ = match zeroT P t with
      | some z => if z.cells.all cellOk then some (.ptr s.n 0, mkObj s (.cells z.cells t)) else none
      | none => none := rfl
theorem ef_box {dst : Option Tmp} {ty : TypeId} {pos : String} {after : Array Edge} {guard : Option (Nat × Bool)} {ρ : Operand → TV} {t : TypeId} {x : Operand} :
    effT P s ρ ⟨dst, .box t x, ty, pos, after, guard⟩ = if (ρ x).cells.all cellOk then some (.ptr s.n 0, mkObj s (.cells (ρ x).cells t)) else none := rfl
theorem ef_store {dst : Option Tmp} {ty : TypeId} {pos : String} {after : Array Edge} {guard : Option (Nat × Bool)} {ρ : Operand → TV} {t : TypeId} {a x : Operand} :
    effT P s ρ ⟨dst, .store t a x, ty, pos, after, guard⟩ = match ρ a with
      | .ptr o off => if (ρ x).cells.length = P.cellsOf t && 0 < P.cellsOf t then (setCellsT s o off (ρ x).cells).map fun s => (undefT, s) else none
      | _ => none := rfl

/-- One element, laid as a slice. -/
theorem bs_one {t e : TypeId} {x : TV} (ht : P.underlying t = some (.slice e)) (hc : P.cellsOf e = 1) (hz : (match zeroT P e with | some z => z.cells.all cellOk && z.cells.length == P.cellsOf e | none => false) = true) (hx : x.cells = [x]) (ho : cellOk x = true) :
    buildSliceT P t 1 [(0, x)] = some (.slice false [x] .exact) := by
  unfold buildSliceT
  cases hzz : zeroT P e with
  | none => rw [hzz] at hz; cases hz
  | some z =>
    rw [hzz] at hz
    simp only at hz
    simp [ht, hc, hx, ho, hzz, setEs]
    rw [hc] at hz
    simpa using hz
end
end Go.Proofs.Ytbnfooeeopmpiaa.TV
