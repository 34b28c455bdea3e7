/-
  TV: what makes or changes something (1): new objects, stores, maps.
-/
import Derived.Test.YtmmofmkencnldaaGreatDoorTVRead
namespace Go.Proofs.YtmmofmkencnldaaGreatDoor.TV
open Go Go.RowKit
set_option linter.unusedSimpArgs false
set_option linter.unusedVariables false

section
variable {P : Program} {g : G} {w : World} {s : St}

/-- What an operation comes to that makes or changes something. -/
def EffOk (P : Program) (g : G) (w : World) (s' : St) (ρ : Operand → Value) (o : Oper) (v : TV) : Prop :=
  ∃ rv w' g', ((execOp ρ o).run P w = .ok (.value rv) w' ∨ ((execOp ρ o).run P w = .ok .skip w' ∧ rv = undef)) ∧ g.le g' ∧ Rel P g' w' s' ∧ VRel g' rv v

theorem VRel.undef' (g : G) : VRel g undef undefT := .tup _ _ .nil

theorem mkObj_ok (hR : Rel P g w s) (t : TypeId) {cells : Array Value} {cs : List TV} (h : VRels g cells.toList cs) :
    ∃ g', g.le g' ∧ Rel P g' (w.alloc (.cells cells t)) (mkObj s (.cells cs t)) ∧ g'.φ s.n = some w.heap.size := by
  obtain ⟨h1, h2, h3⟩ := hR.newObj ((Below.refl _ w).alloc (Nat.le_refl _) (.cells cells t)) (Nat.le_refl _) (ob := .cells cs t) ⟨cells, heap_alloc_new w _, by rw [← h.length, List.take_length]; exact h⟩
  exact ⟨_, h1, h2, h3⟩

theorem alloc_ok {ρ : Operand → Value} {o : Oper} {t : TypeId} (ho : o.op = .alloc t) (hR : Rel P g w s) {z : TV} (hz : zeroT P t = some z) (hc : z.cells.all cellOk = true) :
    EffOk P g w (mkObj s (.cells z.cells t)) ρ o (.ptr s.n 0) := by
  have hzj : z ≠ .junk := by intro e; subst e; simp [cellOk, TV.cells] at hc
  obtain ⟨i, rz, h1, h2, h3, h4⟩ := zero_cells hz g hzj
  obtain ⟨g', h5, h6, h7⟩ := mkObj_ok hR t h4
  refine ⟨_, _, g', .inl ?_, h5, h6, .ptr _ _ _ h7⟩
  unfold execOp
  simp only [ho]
  simp [Instr.alloc, h3, newVar, newRow]

theorem box_ok {ρ : Operand → Value} {τ : Operand → TV} (hρ : ∀ x, VRel g (ρ x) (τ x)) {o : Oper} {t : TypeId} {x : Operand} (ho : o.op = .box t x) (hR : Rel P g w s) (hc : (!isJunk (τ x)) = true) :
    EffOk P g w (mkObj s (.cells (τ x).cells t)) ρ o (.ptr s.n 0) := by
  have hj : τ x ≠ .junk := by intro e; rw [e] at hc; simp [isJunk] at hc
  obtain ⟨g', h5, h6, h7⟩ := mkObj_ok hR t ((hρ x).cells hj)
  refine ⟨_, _, g', .inl ?_, h5, h6, .ptr _ _ _ h7⟩
  unfold execOp
  simp only [ho]
  simp [Instr.box, newVar, newRow]

/-- Cells of an object are written. -/
theorem setCellsT_ok (hR : Rel P g w s) {o off b : Nat} {vs : List TV} {s' : St} (h : setCellsT s o off vs = some s') (ho : g.φ o = some b) {rvs : List Value} (hr : VRels g rvs vs) :
    ∃ w', (storeCells ⟨b, off, none⟩ rvs).run P w = .ok () w' ∧ Rel P g w' s' := by
  unfold setCellsT at h
  split at h
  · rename_i cs t hget
    split at h
    · rename_i hc
      simp only [Bool.and_eq_true, decide_eq_true_eq] at hc
      cases h
      obtain ⟨ob, h1, h2⟩ := hR.obj o b ho
      rw [hget] at h1
      cases h1
      obtain ⟨cur, h3, h4⟩ := h2
      have hl : cs.length ≤ cur.size := by have := h4.length; rw [List.length_take, Array.length_toList (xs := cur)] at this; omega
      have hrun := run_storeCells_at P b off t rvs 0 cur w h3 (by rw [hr.length]; omega) (hr.oneCell hc.2)
      cases hcs : cs with
      | nil =>
        subst hcs
        have hvs : vs = [] := List.length_eq_zero_iff.1 (by have := hc.1; rw [List.length_nil] at this; omega)
        subst hvs
        cases hr
        have hw : { s with objs := s.objs.set o (.cells (splice [] off []) t) } = s := by
          have : splice [] off [] = [] := by simp [splice]
          rw [this, Tr.set_same _ _ _ hget]
        exact ⟨w, by simp [storeCells], by rw [hw]; exact hR⟩
      | cons c0 cs0 =>
        rw [← hcs]
        have hne : ¬ Empty s o := fun ⟨t', ht'⟩ => by
          rw [hget, hcs] at ht'
          cases ht'
        refine ⟨_, hrun, ?_⟩
        refine hR.setCells ho h3 hne (by simp only [Nat.add_zero, List.size_toArray, List.length_append, List.length_take, List.length_drop, Array.length_toList]; rw [hr.length]; omega) ?_
        simp only [Nat.add_zero]
        have hrl := hr.length
        have hsl : (splice cs off vs).length = cs.length := by unfold splice; simp only [List.length_append, List.length_take, List.length_drop]; omega
        rw [hsl]
        unfold splice
        have e1 : (cur.toList.take off ++ rvs ++ cur.toList.drop (off + rvs.length)).take cs.length = (cur.toList.take cs.length).take off ++ rvs ++ (cur.toList.take cs.length).drop (off + rvs.length) := by
          apply List.ext_getElem?
          intro i
          simp only [List.getElem?_take, List.getElem?_append, List.getElem?_drop, List.length_append, List.length_take, Array.length_toList]
          grind
        rw [e1, ← hrl]
        exact ((h4.take _).append hr).append (h4.drop _)
    · cases h
  · cases h

theorem store_ok {ρ : Operand → Value} {τ : Operand → TV} (hρ : ∀ x, VRel g (ρ x) (τ x)) {o : Oper} {t : TypeId} {a x : Operand} (ho : o.op = .store t a x) (hR : Rel P g w s) {ob off : Nat} (ha : τ a = .ptr ob off)
    (hl : (τ x).cells.length = P.cellsOf t) (h0 : 0 < P.cellsOf t) {s' : St} (h : setCellsT s ob off (τ x).cells = some s') : EffOk P g w s' ρ o undefT := by
  have hr := hρ a
  rw [ha] at hr
  cases hq : ρ a <;> rw [hq] at hr <;> cases hr
  rename_i b e
  have hj : τ x ≠ .junk := by
    intro ej
    rw [ej] at h
    unfold setCellsT at h
    split at h
    · split at h
      · rename_i hc; simp [TV.cells, cellOk] at hc
      · cases h
    · cases h
  have hx := (hρ x).cells hj
  obtain ⟨w', h1, h2⟩ := setCellsT_ok hR h e hx
  refine ⟨undef, w', g, .inr ⟨?_, rfl⟩, .refl g, h2, .undef' g⟩
  have hsz : (ρ x).cells.size = P.cellsOf t := by rw [← hl, ← hx.length]; simp
  unfold execOp
  simp only [ho, hq]
  simp [Instr.storeAt, Instr.sureAddr, storeVar, sizeOf_run' (w := w) (show P.cellsOf t ≠ 0 by omega), hsz, h1]

theorem makeMap_ok {ρ : Operand → Value} {o : Oper} {t : TypeId} (ho : o.op = .makeMap t none) (hR : Rel P g w s) : EffOk P g w (mkObj s (.map [] 0)) ρ o (.map (some s.n)) := by
  obtain ⟨h1, h2, h3⟩ := hR.newObj ((Below.refl _ w).alloc (Nat.le_refl _) (.map #[] 0)) (Nat.le_refl _) (ob := .map [] 0) ⟨#[], heap_alloc_new w _, .nil⟩
  refine ⟨_, _, _, .inl ?_, h1, h2, .map _ _ h3⟩
  unfold execOp
  simp only [ho]
  simp [Instr.makeMap]

theorem EntRel.get {rs : List MapEntry} {es : List (TV × TV × Nat)} (h : EntRel g rs es) : ∀ {i : Nat} {e : MapEntry}, rs[i]? = some e → ∃ t, es[i]? = some t ∧ VRel g e.key t.1 ∧ VRel g e.val t.2.1 ∧ e.born = t.2.2 := by
  induction h with
  | nil => intro i e h; simp at h
  | cons e k v n es ts h1 h2 h3 _ ih =>
    intro i e' he
    cases i with
    | zero => simp at he; subst he; exact ⟨_, rfl, h1, h2, h3⟩
    | succ i => simpa using ih (by simpa using he)
theorem EntRel.append {rs rs' : List MapEntry} {es es' : List (TV × TV × Nat)} (h : EntRel g rs es) (h' : EntRel g rs' es') : EntRel g (rs ++ rs') (es ++ es') := by
  induction h with
  | nil => exact h'
  | cons e k v n es ts h1 h2 h3 _ ih => exact .cons _ _ _ _ _ _ h1 h2 h3 ih
theorem EntRel.modify {rs : List MapEntry} {es : List (TV × TV × Nat)} (h : EntRel g rs es) {k v : TV} {rk rv : Value} (hk : VRel g rk k) (hv : VRel g rv v) : ∀ i : Nat, EntRel g (rs.modify i fun e => { e with key := rk, val := rv }) (es.modify i fun e => (k, v, e.2.2)) := by
  induction h with
  | nil => intro i; cases i <;> exact .nil
  | cons e k' v' n es ts h1 h2 h3 h4 ih =>
    intro i
    cases i with
    | zero => exact EntRel.cons { e with key := rk, val := rv } k v n es ts hk hv h3 h4
    | succ i => simpa using EntRel.cons _ _ _ _ _ _ h1 h2 h3 (ih i)
theorem EntRel.erase {rs : List MapEntry} {es : List (TV × TV × Nat)} (h : EntRel g rs es) : ∀ i : Nat, EntRel g (rs.eraseIdx i) (es.eraseIdx i) := by
  induction h with
  | nil => intro i; simpa using EntRel.nil
  | cons e k' v' n es ts h1 h2 h3 h4 ih =>
    intro i
    cases i with
    | zero => simpa using h4
    | succ i => simpa using EntRel.cons _ _ _ _ _ _ h1 h2 h3 (ih i)

theorem putObj_rel (hR : Rel P g w s) {o b : Nat} (ho : g.φ o = some b) {rs : Array MapEntry} {c : Nat} (hb : w.heap[b]? = some (.map rs c)) {rs' : Array MapEntry} {es' : List (TV × TV × Nat)} {c' : Nat} (he : EntRel g rs'.toList es') :
    (setObj b (.map rs' c')).run P w = .ok () { w with heap := w.heap.setIfInBounds b (.map rs' c') } ∧ Rel P g { w with heap := w.heap.setIfInBounds b (.map rs' c') } { s with objs := s.objs.set o (.map es' c') } := by
  have hne : ¬ Empty s o := fun ⟨t, ht⟩ => by
    obtain ⟨ob, h1, h2⟩ := hR.obj o b ho
    rw [ht] at h1
    cases h1
    obtain ⟨vs, h3, _⟩ := h2
    rw [hb] at h3
    cases h3
  have hlt : b < w.heap.size := (Array.getElem?_eq_some_iff.1 hb).1
  refine ⟨by simp [setObj, Sem.run, hb], hR.setObj (w' := { w with heap := w.heap.setIfInBounds b (.map rs' c') }) (ob := .map es' c') ho (fun k hk => ?_) rfl rfl rfl (by simp) hne (fun vs e he => by rw [hb] at he; cases he) ⟨rs', ?_, he⟩⟩
  · simp [Array.getElem?_setIfInBounds, Ne.symm hk]
  · simp [hlt]

theorem keyStays {rk : Value} {k k' : TV} {kd : TypeDesc} (hs : keyEq kd k k' = some true) (hk : VRel g rk k) : (Instr.keyThatStays rk rk).run P w = .ok rk w := by
  unfold keyEq at hs
  split at hs <;> first | (cases hs; done) | skip
  · cases hk; simp [Instr.keyThatStays, Instr.sameBits, beq_toListBytes]
  · cases hk; simp [Instr.keyThatStays, Instr.sameBits, beq_toListBytes]
  · cases hk; simp [Instr.keyThatStays, Instr.sameBits, beq_toListBytes]

theorem findT_hit {kd : TypeDesc} {k : TV} : ∀ {es : List (TV × TV × Nat)} {i j : Nat} {v : TV}, findT kd k es i = some (some (j, v)) → ∃ k', keyEq kd k k' = some true
  | [], _, _, _, h => by simp [findT] at h
  | e :: es, i, j, v, h => by
    simp only [findT] at h
    split at h
    · exact ⟨_, by assumption⟩
    · exact findT_hit h
    · cases h

theorem mapSetT_ok (hR : Rel P g w s) {t : TypeId} {m k v : TV} {rm rk rv : Value} (hm : VRel g rm m) (hk : VRel g rk k) (hv : VRel g rv v) {s' : St} (h : mapSetT P s t m k v = some s') :
    ∃ w', (Instr.mapUpdate t rm rk rv).run P w = .ok () w' ∧ Rel P g w' s' := by
  unfold mapSetT at h
  split at h
  · rename_i key elem o hu
    cases hm with
    | map _ b e =>
      split at h
      · rename_i kd es clock hkd hget
        split at h
        · cases h
        · rename_i hsk
          have hsk' : simpleKey kd = true := by simpa using hsk
          obtain ⟨ob, h1, h2⟩ := hR.obj o b e
          rw [hget] at h1
          cases h1
          obtain ⟨rs, h3, h4⟩ := h2
          split at h
          · rename_i i v' hf
            cases h
            have h5 := findT_ok hk h4 0 hf
            simp only at h5
            obtain ⟨rv', e', h6, h7, _, h8, h9⟩ := h5
            obtain ⟨k', hk'⟩ := findT_hit hf
            have hst := keyStays (P := P) (w := w) hk' hk
            obtain ⟨h10, h11⟩ := putObj_rel (P := P) hR e h3 (rs' := rs.modify i fun e => { e with key := rk, val := rv }) (c' := clock) (by rw [Array.toList_modify]; exact h4.modify hk hv i)
            refine ⟨_, ?_, h11⟩
            have h8' : rs[i]? = some e' := by simpa using h8
            simp [Instr.mapUpdate, run_underlying hu, getObj_run h3, checkKey_run hkd hsk', findKey_run hkd h6, h8', h9, hst, h10]
          · rename_i hf
            cases h
            have h5 := findT_ok hk h4 0 hf
            simp only at h5
            obtain ⟨h10, h11⟩ := putObj_rel (P := P) hR e h3 (rs' := rs.push { key := rk, val := rv, born := clock }) (c' := clock + 1) (by rw [Array.toList_push]; exact h4.append (.cons _ _ _ _ _ _ hk hv rfl .nil))
            refine ⟨_, ?_, h11⟩
            simp [Instr.mapUpdate, run_underlying hu, getObj_run h3, checkKey_run hkd hsk', findKey_run hkd h5, h10]
          · cases h
      · cases h
  · cases h

theorem deleteT_ok (hR : Rel P g w s) {t u ty : TypeId} {m k : TV} {rm rk : Value} (hm : VRel g rm m) (hk : VRel g rk k) {s' : St} (h : deleteT P s t m k = some s') :
    ∃ w', (Builtin.delete_ #[t, u] ty #[rm, rk]).run P w = .ok (.tuple #[]) w' ∧ Rel P g w' s' := by
  unfold deleteT at h
  split at h
  · rename_i key elem o hu
    cases hm with
    | map _ b e =>
      split at h
      · rename_i kd es clock hkd hget
        split at h
        · cases h
        · rename_i hsk
          have hsk' : simpleKey kd = true := by simpa using hsk
          obtain ⟨ob, h1, h2⟩ := hR.obj o b e
          rw [hget] at h1
          cases h1
          obtain ⟨rs, h3, h4⟩ := h2
          split at h
          · rename_i i v' hf
            cases h
            have h5 := findT_ok hk h4 0 hf
            simp only at h5
            obtain ⟨rv', e', h6, h7, _, h8, h9⟩ := h5
            obtain ⟨h10, h11⟩ := putObj_rel (P := P) hR e h3 (rs' := rs.eraseIdxIfInBounds i) (c' := clock) (by
              have : (rs.eraseIdxIfInBounds i).toList = rs.toList.eraseIdx i := by simp
              rw [this]
              exact h4.erase i)
            refine ⟨_, ?_, h11⟩
            simp [Builtin.delete_, run_underlying hu, getObj_run h3, checkKey_run hkd hsk', findKey_run hkd h6, h10]
          · rename_i hf
            cases h
            have h5 := findT_ok hk h4 0 hf
            simp only at h5
            obtain ⟨h10, h11⟩ := putObj_rel (P := P) hR e h3 (rs' := rs) (c' := clock) h4
            refine ⟨_, by simp [Builtin.delete_, run_underlying hu, getObj_run h3, checkKey_run hkd hsk', findKey_run hkd h5, h10]; rfl, ?_⟩
            have hlt : b < w.heap.size := (Array.getElem?_eq_some_iff.1 h3).1
            have hh : w.heap.setIfInBounds b (.map rs clock) = w.heap := by
              apply Array.ext_getElem?
              intro k
              by_cases hkb : b = k
              · subst hkb; simp [hlt]; exact (Array.getElem?_eq_some_iff.1 h3).2.symm
              · simp [Array.getElem?_setIfInBounds, hkb]
            rw [hh]
            exact hR
          · cases h
      · cases h
  · rename_i key elem hu
    split at h
    · rename_i kd hkd
      split at h
      · rename_i hsk
        cases h
        cases hm
        exact ⟨w, by simp [Builtin.delete_, run_underlying hu, checkKey_run hkd hsk], hR⟩
      · cases h
    · cases h
  · cases h
end
end Go.Proofs.YtmmofmkencnldaaGreatDoor.TV
