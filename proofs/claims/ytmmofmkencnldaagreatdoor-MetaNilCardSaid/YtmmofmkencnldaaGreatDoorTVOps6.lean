/-
  TV: each operation on plain values is the model's own (6): aggregates, literals of slices, texts and bytes; all that only reads.
-/
import Derived.Test.YtmmofmkencnldaaGreatDoorTVOps5
namespace Go.Proofs.YtmmofmkencnldaaGreatDoor.TV
open Go Go.RowKit
set_option linter.unusedSimpArgs false
set_option linter.unusedVariables false

section
variable {P : Program} {g : G} {w : World} {s : St}

theorem PartRel.of_map {ρ : Operand → Value} {τ : Operand → TV} (hρ : ∀ x, VRel g (ρ x) (τ x)) : ∀ l : List (Nat × Operand), PartRel g (l.map fun p => (p.1, ρ p.2)) (l.map fun p => (p.1, τ p.2))
  | [] => .nil
  | (i, x) :: l => .cons _ _ _ _ _ (hρ x) (PartRel.of_map hρ l)

theorem fillT_place {p p' : Nat → Option (Nat × Nat)} (cs : List TV) : ∀ (parts : List (Nat × TV)), (∀ q ∈ parts, p q.1 = p' q.1) → fillT p cs parts = fillT p' cs parts := by
  intro parts
  induction parts generalizing cs with
  | nil => intro _; rfl
  | cons a l ih =>
    intro h
    obtain ⟨i, v⟩ := a
    simp only [fillT]
    have h1 := h (i, v) List.mem_cons_self
    simp only at h1
    rw [← h1]
    cases p i with
    | none => rfl
    | some q =>
      obtain ⟨off, size⟩ := q
      simp only
      split
      · rfl
      · exact ih _ (fun q hq => h q (List.mem_cons_of_mem _ hq))

theorem zero_cells {t : TypeId} {z : TV} (hz : zeroT P t = some z) (g : G) (hj : z ≠ .junk) : ∃ i rz, P.info? t = some i ∧ i.zero = some rz ∧ (∀ w, (zeroValue t).run P w = .ok rz w) ∧ VRels g rz.cells.toList z.cells := by
  obtain ⟨i, rz, h1, h2, h3, h4, h5⟩ := zeroT_ok hz
  exact ⟨i, rz, h1, h2, h4, (h5 g).cells hj⟩

theorem places_all (fs : List Field) (h : fs.all (fun f => (P.info? f.type).isSome) = true) : fs.mapM (fun f => (P.info? f.type).map fun i => (f.offset, i.size)) = some (fs.map fun f => (f.offset, P.cellsOf f.type)) := by
  induction fs with
  | nil => rfl
  | cons f fs ih =>
    simp only [List.all_cons, Bool.and_eq_true] at h
    obtain ⟨i, hi⟩ := Option.isSome_iff_exists.1 h.1
    simp [List.mapM_cons, hi, ih h.2, cellsOf_info hi]

theorem buildT_ok {t : TypeId} {parts : Array (Nat × Value)} {tparts : List (Nat × TV)} {v : TV} (hp : PartRel g parts.toList tparts) (h : buildT P t tparts = some v) :
    ∃ rv, (Instr.build t parts).run P w = .ok rv w ∧ VRel g rv v := by
  unfold buildT at h
  split at h
  · rename_i z fields hz hu
    split at h
    · cases h
    · rename_i hj
      simp only [Bool.or_eq_true, Bool.not_eq_true', not_or, Bool.not_eq_true, Bool.not_eq_false] at hj
      obtain ⟨cs, hf, rfl⟩ := Option.map_eq_some_iff.1 h
      obtain ⟨i, rz, h1, h2, h3, h4⟩ := zero_cells hz g (by intro e; subst e; simp [isJunk] at hj)
      obtain ⟨cells', h5, h6⟩ := fill_ok hp h4 hf
      refine ⟨.agg cells', run_build w t parts cells' ?_, .agg _ _ h6⟩
      unfold Program.built
      rw [h1, hu]
      simp only [h2, places_all fields.toList hj.2]
      rw [← h5]
      congr 1
      funext k
      simp
  · rename_i z n elem hz hu
    split at h
    · cases h
    · rename_i hj
      simp only [Bool.or_eq_true, not_or, Bool.not_eq_true] at hj
      obtain ⟨cs, hf, rfl⟩ := Option.map_eq_some_iff.1 h
      obtain ⟨i, rz, h1, h2, h3, h4⟩ := zero_cells hz g (by intro e; subst e; simp [isJunk] at hj)
      obtain ⟨ie, hie⟩ : ∃ ie, P.info? elem = some ie := by
        cases hq : P.info? elem with
        | some ie => exact ⟨ie, rfl⟩
        | none => simp [hq] at hj
      obtain ⟨cells', h5, h6⟩ := fill_ok hp h4 hf
      refine ⟨.agg cells', run_build w t parts cells' ?_, .agg _ _ h6⟩
      unfold Program.built
      rw [h1, hu]
      simp only [h2, hie]
      rw [← h5, cellsOf_info hie]
  · cases h

theorem flat_set {es : List TV} {size : Nat} (h : ∀ e, e ∈ es → e.cells.length = size) {i : Nat} (hi : i < es.length) {v : TV} (hv : v.cells.length = size) : (es.set i v).flatMap TV.cells = splice (es.flatMap TV.cells) (i * size) v.cells := by
  unfold splice
  have h1 : es.set i v = es.take i ++ v :: es.drop (i + 1) := List.set_eq_take_append_cons_drop.trans (by rw [if_pos hi])
  rw [h1, List.flatMap_append, List.flatMap_cons, flat_take h, flat_drop h, hv, List.append_assoc]
  congr 3
  rw [Nat.succ_mul]

theorem setEs_fill {size : Nat} (hs : 0 < size) (es : List TV) (parts : List (Nat × TV)) : (∀ e, e ∈ es → e.cells.length = size) → (∀ p ∈ parts, p.1 < es.length ∧ p.2.cells.length = size ∧ isJunk p.2 = false) →
    fillT (fun i => some (i * size, size)) (es.flatMap TV.cells) parts = some ((setEs es parts).flatMap TV.cells) ∧ (∀ e, e ∈ setEs es parts → e.cells.length = size) ∧ (setEs es parts).length = es.length := by
  induction parts generalizing es with
  | nil => intro h _; exact ⟨rfl, h, rfl⟩
  | cons p parts ih =>
    intro h hp
    obtain ⟨i, v⟩ := p
    obtain ⟨h1, h2, h3⟩ := hp (i, v) List.mem_cons_self
    simp only at h1 h2 h3
    have hset : ∀ e, e ∈ es.set i v → e.cells.length = size := fun e he => by
      rcases List.mem_or_eq_of_mem_set he with he | rfl
      · exact h e he
      · exact h2
    obtain ⟨h4, h5, h6⟩ := ih (es.set i v) hset (fun p hpm => by have := hp p (List.mem_cons_of_mem _ hpm); simpa using this)
    refine ⟨?_, h5, h6.trans List.length_set⟩
    simp only [fillT, setEs]
    have hl : i * size + size ≤ (es.flatMap TV.cells).length := by
      rw [flat_length h, ← Nat.succ_mul]
      exact Nat.mul_le_mul_right _ h1
    rw [if_neg (by simp only [ne_eq, Bool.or_eq_true, decide_eq_true_eq, not_or, Decidable.not_not]; exact ⟨⟨h2, by omega⟩, by rw [h3]; simp⟩), ← flat_set h h1 h2]
    exact h4

theorem flat_replicate (n : Nat) (z : TV) : (List.replicate n z).flatMap TV.cells = (List.replicate n z.cells).flatten := by
  rw [List.flatMap_def, List.map_replicate]

theorem range_cells (n : Nat) (zc : Array Value) : ((Array.range (n * zc.size)).map (fun i => zc[i % zc.size]!)).toList = (List.replicate n zc.toList).flatten := by
  rcases Nat.eq_zero_or_pos zc.size with h0 | h0
  · have : zc = #[] := Array.size_eq_zero_iff.1 h0
    subst this
    simp
  · apply List.ext_getElem?
    intro j
    induction n generalizing j with
    | zero => simp
    | succ n ih =>
      rw [List.replicate_succ, List.flatten_cons]
      by_cases hj : j < zc.size
      · rw [List.getElem?_append_left (by simpa using hj)]
        have : j < (n + 1) * zc.size := by rw [Nat.succ_mul]; omega
        simp [this, hj, Nat.mod_eq_of_lt hj, getElem!_pos]
      · rw [List.getElem?_append_right (by simp; omega)]
        rw [Array.length_toList, ← ih]
        have e1 : (j - zc.size) % zc.size = j % zc.size := (Nat.mod_eq_sub_mod (by omega)).symm
        have e2 : j < (n + 1) * zc.size ↔ j - zc.size < n * zc.size := by rw [Nat.succ_mul]; omega
        by_cases hl : j < (n + 1) * zc.size
        · simp [hl, e2.1 hl, e1]
        · have hl' : ¬ j - zc.size < n * zc.size := fun h => hl (e2.2 h)
          simp [hl, hl']

theorem VRels.flatten_replicate {vs : List Value} {cs : List TV} (h : VRels g vs cs) : ∀ n, VRels g (List.replicate n vs).flatten (List.replicate n cs).flatten
  | 0 => by simpa using .nil
  | n + 1 => by
    simp only [List.replicate_succ, List.flatten_cons]
    exact h.append (VRels.flatten_replicate h n)

/-- A new row of cells that stay. -/
theorem newRow_ok (hR : Rel P g w s) (e : TypeId) (cells : Array Value) : ∃ g', g.le g' ∧ Rel P g' (w.alloc (.cells cells e)) s ∧ SolAt g' w.heap.size 0 cells.toList := by
  obtain ⟨h1, h2, h3⟩ := hR.newData ((Below.refl _ w).alloc (Nat.le_refl _) (.cells cells e)) (Nat.le_refl _) (vs := cells.toList) (fun i v hv => by
    rw [World.cell?_alloc_new]
    simpa using hv)
  exact ⟨_, h1, h2, h3⟩

theorem buildSliceT_ok {t : TypeId} {len : Nat} {parts : Array (Nat × Value)} {tparts : List (Nat × TV)} {v : TV} (hR : Rel P g w s) (hp : PartRel g parts.toList tparts) (h : buildSliceT P t len tparts = some v) :
    ∃ rv w' g', (Instr.buildSlice t len parts).run P w = .ok rv w' ∧ g.le g' ∧ Rel P g' w' s ∧ VRel g' rv v := by
  unfold buildSliceT at h
  split at h
  · rename_i elem hu
    split at h
    · rename_i hc
      simp only [Bool.and_eq_true, decide_eq_true_eq, List.all_eq_true, beq_iff_eq] at hc
      obtain ⟨⟨hpt, hs⟩, h24⟩ := hc
      split at h
      · rename_i z hz
        split at h
        · rename_i hzc
          simp only [Bool.and_eq_true, beq_iff_eq] at hzc
          cases h
          have hzj : z ≠ .junk := by intro e; subst e; simp [cellOk, TV.cells] at hzc
          obtain ⟨i, rz, h1, h2, h3, h4⟩ := zero_cells hz g hzj
          have hsz : rz.cells.size = P.cellsOf elem := by rw [← hzc.2, ← h4.length]; simp
          obtain ⟨hf, hse, hlen⟩ := setEs_fill hs (List.replicate len z) tparts (fun e he => by rw [List.eq_of_mem_replicate he]; exact hzc.2) (fun p hpm => by
            have := hpt p hpm
            refine ⟨by simpa using this.1.1, this.1.2, ?_⟩
            cases hq : p.2 <;> first | rfl | (have := this.2; rw [hq] at this; simp [TV.cells, cellOk] at this))
          have hcells : VRels g ((Array.range (len * P.cellsOf elem)).map (fun i => rz.cells[i % rz.cells.size]!)).toList ((List.replicate len z).flatMap TV.cells) := by
            rw [← hsz, range_cells, flat_replicate]
            exact VRels.flatten_replicate h4 len
          obtain ⟨cells', h5, h6⟩ := fill_ok hp hcells hf
          have hinfo := sizeOf_run' (w := w) (show P.cellsOf elem ≠ 0 by omega)
          have h24' : ¬ (2 ^ 24 < len * P.cellsOf elem) := by omega
          have hrun : (Instr.buildSlice t len parts).run P w = .ok (.slice (some ⟨w.heap.size, 0, none⟩) len len) (w.alloc (.cells cells' elem)) := by
            by_cases hl : len = 0
            · subst hl
              have e0 : ((Array.range (0 * P.cellsOf elem)).map (fun i => rz.cells[i % rz.cells.size]!)) = #[] := by simp
              rw [e0] at h5
              have e1 : (Array.map (fun _ : Nat => (default : Value)) (Array.range 0)) = #[] := by simp
              simp [Instr.buildSlice, run_underlying hu, hinfo, newRow, e1, h5]
            · have hl' : len * P.cellsOf elem ≠ 0 := Nat.mul_ne_zero hl (by omega)
              simp [Instr.buildSlice, run_underlying hu, hinfo, newRow, h24', hl', h3, h5]
          obtain ⟨g', h7, h8, h9⟩ := newRow_ok hR elem cells'
          refine ⟨_, _, g', hrun, h7, h8, ?_⟩
          rw [List.length_replicate] at hlen
          by_cases hl : len = 0
          · subst hl
            rw [List.length_eq_zero_iff.1 hlen]
            exact .empty _ _ _ (by intro i e; cases e) (fun _ => rfl)
          · refine .slice _ 0 len len (P.cellsOf elem) cells'.toList _ _ (fun e => hl (by rw [← hlen, e]; rfl)) hlen (Nat.le_refl _) hs hse h9 (h6.mono h7) rfl
        · cases h
      · cases h
    · cases h
  · cases h
theorem buildSliceT_run {t : TypeId} {len : Nat} {parts : Array (Nat × Value)} {tparts : List (Nat × TV)} {v : TV} (hR : Rel P g w s) (hp : PartRel g parts.toList tparts) (h : buildSliceT P t len tparts = some v) :
    ∃ (elem : TypeId) (es : List TV) (cells' : Array Value), P.underlying t = some (.slice elem) ∧ v = .slice false es .exact ∧ es.length = len ∧ 0 < P.cellsOf elem ∧ (∀ e ∈ es, e.cells.length = P.cellsOf elem) ∧ VRels g cells'.toList (es.flatMap TV.cells) ∧
      (Instr.buildSlice t len parts).run P w = .ok (.slice (some ⟨w.heap.size, 0, none⟩) len len) (w.alloc (.cells cells' elem)) := by
  unfold buildSliceT at h
  split at h
  · rename_i elem hu
    split at h
    · rename_i hc
      simp only [Bool.and_eq_true, decide_eq_true_eq, List.all_eq_true, beq_iff_eq] at hc
      obtain ⟨⟨hpt, hs⟩, h24⟩ := hc
      split at h
      · rename_i z hz
        split at h
        · rename_i hzc
          simp only [Bool.and_eq_true, beq_iff_eq] at hzc
          cases h
          have hzj : z ≠ .junk := by intro e; subst e; simp [cellOk, TV.cells] at hzc
          obtain ⟨i, rz, h1, h2, h3, h4⟩ := zero_cells hz g hzj
          have hsz : rz.cells.size = P.cellsOf elem := by rw [← hzc.2, ← h4.length]; simp
          obtain ⟨hf, hse, hlen⟩ := setEs_fill hs (List.replicate len z) tparts (fun e he => by rw [List.eq_of_mem_replicate he]; exact hzc.2) (fun p hpm => by
            have := hpt p hpm
            refine ⟨by simpa using this.1.1, this.1.2, ?_⟩
            cases hq : p.2 <;> first | rfl | (have := this.2; rw [hq] at this; simp [TV.cells, cellOk] at this))
          have hcells : VRels g ((Array.range (len * P.cellsOf elem)).map (fun i => rz.cells[i % rz.cells.size]!)).toList ((List.replicate len z).flatMap TV.cells) := by
            rw [← hsz, range_cells, flat_replicate]
            exact VRels.flatten_replicate h4 len
          obtain ⟨cells', h5, h6⟩ := fill_ok hp hcells hf
          have hinfo := sizeOf_run' (w := w) (show P.cellsOf elem ≠ 0 by omega)
          have h24' : ¬ (2 ^ 24 < len * P.cellsOf elem) := by omega
          have hrun : (Instr.buildSlice t len parts).run P w = .ok (.slice (some ⟨w.heap.size, 0, none⟩) len len) (w.alloc (.cells cells' elem)) := by
            by_cases hl : len = 0
            · subst hl
              have e0 : ((Array.range (0 * P.cellsOf elem)).map (fun i => rz.cells[i % rz.cells.size]!)) = #[] := by simp
              rw [e0] at h5
              have e1 : (Array.map (fun _ : Nat => (default : Value)) (Array.range 0)) = #[] := by simp
              simp [Instr.buildSlice, run_underlying hu, hinfo, newRow, e1, h5]
            · have hl' : len * P.cellsOf elem ≠ 0 := Nat.mul_ne_zero hl (by omega)
              simp [Instr.buildSlice, run_underlying hu, hinfo, newRow, h24', hl', h3, h5]
          rw [List.length_replicate] at hlen
          exact ⟨elem, _, cells', hu, rfl, hlen, hs, hse, h6, hrun⟩
        · cases h
      · cases h
    · cases h
  · cases h
end
end Go.Proofs.YtmmofmkencnldaaGreatDoor.TV
