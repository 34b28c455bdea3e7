/-
  TV: each operation on plain values is the model's own (4): addresses, loads, lengths, conversions, what is built.
-/
import Derived.Test.YtmmofmkencnldaaGreatDoorTVOps3
namespace Go.Proofs.YtmmofmkencnldaaGreatDoor.TV
open Go Go.RowKit
set_option linter.unusedSimpArgs false
set_option linter.unusedVariables false

section
variable {P : Program} {g : G} {w : World} {s : St}

theorem fieldAddrT_ok {t : TypeId} {x v : TV} {rx : Value} {f : Nat} (hx : VRel g rx x) (h : fieldAddrT P t x f = some v) : ∃ rv, (Instr.fieldAt t rx f).run P w = .ok rv w ∧ VRel g rv v := by
  unfold fieldAddrT at h
  split at h
  · rename_i fields hu
    split at h
    · rename_i fd hf
      split at h
      · cases h
      · rename_i hz
        have hp : ∀ a : Addr, (fieldPlace a fd).run P w = .ok (a.add fd.offset) w := fun a => by
          simp [fieldPlace, sizeOf_run' (w := w) hz, hz]
        split at h
        · cases hx with
          | ptr _ b _ e =>
            cases h
            refine ⟨.pointer (some ⟨b, _ + fd.offset, none⟩), ?_, .ptr _ _ _ e⟩
            simp [Instr.fieldAt, run_underlying hu, hf, Instr.sureAddr, hp, add_plain']
        · cases hx with
          | eptr b off vs _ e r =>
            cases h
            refine ⟨.pointer (some ⟨b, off + fd.offset, none⟩), ?_, .eptr _ _ _ _ (e.drop _) (r.drop _)⟩
            simp [Instr.fieldAt, run_underlying hu, hf, Instr.sureAddr, hp, add_plain']
        · cases h
    · cases h
  · cases h

theorem indexAddrT_ok {t : TypeId} {x i v : TV} {rx ri : Value} (hx : VRel g rx x) (hi : VRel g ri i) (h : indexAddrT P t x i = some v) : ∃ rv, (Instr.indexAt t rx ri).run P w = .ok rv w ∧ VRel g rv v := by
  unfold indexAddrT at h
  split at h
  · rename_i k n
    cases hi
    split at h
    · cases h
    · rename_i hn
      have hn0 : 0 ≤ n := by omega
      split at h
      · rename_i elem b es tok hu
        split at h
        · rename_i e he
          split at h
          · rename_i hs
            cases h
            have hlt : n.toNat < es.length := (List.getElem?_eq_some_iff.1 he).1
            have hlt' : n < (es.length : Int) := by omega
            cases hx with
            | nils _ _ => simp at hlt
            | empty _ _ _ _ _ => simp at hlt
            | slice bl off m cap size vs _ _ hne hm hcap hs0 hse hsol hrel htok =>
              have hsize : size = P.cellsOf elem := by have := hse e (List.mem_of_getElem? he); omega
              subst hsize
              refine ⟨.pointer (some ⟨bl, off + n.toNat * P.cellsOf elem, none⟩), ?_, .eptr _ _ ((vs.drop (n.toNat * P.cellsOf elem)).take (P.cellsOf elem)) _ ((hsol.drop _).take _) ?_⟩
              · subst hm
                simp [Instr.indexAt, run_underlying hu, asIntOf, hn0, hlt', sizeOf_run' (w := w) (show P.cellsOf elem ≠ 0 by omega), add_plain']
              · rw [flat_get hse he]
                exact (hrel.drop _).take _
          · cases h
        · cases h
      · rename_i elem o off len cap hu
        split at h
        · rename_i hlt
          cases h
          simp only [Bool.and_eq_true, decide_eq_true_eq] at hlt
          cases hx with
          | osl a _ _ _ _ cap' ha hlc hcc =>
            obtain ⟨bl, e1, rfl⟩ := ha (by omega)
            refine ⟨.pointer (some ⟨bl, off + n.toNat * P.cellsOf elem, none⟩), ?_, .ptr _ _ _ e1⟩
            simp [Instr.indexAt, run_underlying hu, asIntOf, hn0, hlt.1, sizeOf_run' (w := w) (show P.cellsOf elem ≠ 0 by omega), add_plain']
        · cases h
      · rename_i len elem o off hu
        split at h
        · rename_i hlt
          cases h
          simp only [Bool.and_eq_true, decide_eq_true_eq] at hlt
          cases hx with
          | ptr _ bl _ e1 =>
            refine ⟨.pointer (some ⟨bl, off + n.toNat * P.cellsOf elem, none⟩), ?_, .ptr _ _ _ e1⟩
            simp [Instr.indexAt, Instr.sureAddr, run_underlying hu, asIntOf, hn0, hlt.1, sizeOf_run' (w := w) (show P.cellsOf elem ≠ 0 by omega), add_plain']
        · cases h
      · rename_i len elem cs hu
        split at h
        · rename_i hlt
          cases h
          simp only [Bool.and_eq_true, decide_eq_true_eq] at hlt
          cases hx with
          | eptr bl off vs _ e r =>
            refine ⟨.pointer (some ⟨bl, off + n.toNat * P.cellsOf elem, none⟩), ?_, .eptr _ _ _ _ (e.drop _) (r.drop _)⟩
            simp [Instr.indexAt, Instr.sureAddr, run_underlying hu, asIntOf, hn0, hlt.1, sizeOf_run' (w := w) (show P.cellsOf elem ≠ 0 by omega), add_plain']
        · cases h
      · cases h
  · cases h

theorem indexT_ok {t : TypeId} {x i v : TV} {rx ri : Value} (hx : VRel g rx x) (hi : VRel g ri i) (h : indexT P t x i = some v) : ∃ rv, (Instr.index t rx ri).run P w = .ok rv w ∧ VRel g rv v := by
  unfold indexT at h
  split at h
  · rename_i k n
    cases hi
    split at h
    · cases h
    · rename_i hn
      have hn0 : 0 ≤ n := by omega
      split at h
      · rename_i len elem cs hu
        split at h
        · rename_i hlt
          cases hx with
          | agg vs _ r =>
            have hk := take_known h
            obtain ⟨d, i, hd, hi⟩ := hk
            obtain ⟨rv, h1, h2⟩ := part_ok (w := w) r _ h
            exact ⟨rv, by simp [Instr.index, asIntOf, run_underlying hu, hn0, hlt, sizeOf_run hi, h1], h2⟩
        · cases h
      · rename_i b hu
        cases hx with
        | str sb _ e =>
          obtain ⟨c, hc, rfl⟩ := Option.map_eq_some_iff.1 h
          refine ⟨.int .u8 c.toNat, ?_, .int _ _⟩
          have hb : sb[n.toNat]? = some c := by
            rw [← e] at hc
            obtain ⟨hl, hv⟩ := List.getElem?_eq_some_iff.1 hc
            have hl' : n.toNat < sb.size := by simpa using hl
            rw [getElem?_pos sb n.toNat hl']
            congr 1
          simp [Instr.index, asIntOf, run_underlying hu, hn0, hb]
      · cases h
  · cases h

theorem fieldT_ok {t : TypeId} {x v : TV} {rx : Value} {f : Nat} (hx : VRel g rx x) (h : fieldT P t x f = some v) : ∃ rv, (Instr.field t rx f).run P w = .ok rv w ∧ VRel g rv v := by
  unfold fieldT at h
  split at h
  · rename_i fields cs hu
    cases hx with
    | agg vs _ r =>
      split at h
      · rename_i fd hf
        obtain ⟨rv, h1, h2⟩ := part_ok (w := w) r _ h
        exact ⟨rv, by simp [Instr.field, run_underlying hu, hf, asAgg, h1], h2⟩
      · cases h
  · cases h

theorem EntRel.length {rs : List MapEntry} {es : List (TV × TV × Nat)} (h : EntRel g rs es) : rs.length = es.length := by
  induction h with
  | nil => rfl
  | cons _ _ _ _ _ _ _ _ _ _ ih => simp [ih]
theorem getObj_run {b : Nat} {rs : Array MapEntry} {c : Nat} (h : w.heap[b]? = some (.map rs c)) : (getObj b).run P w = .ok (.map rs c) w := by
  simp [getObj, Sem.run, h]

theorem lenT_ok {t ty : TypeId} {x v : TV} {rx : Value} (hR : Rel P g w s) (hx : VRel g rx x) (h : lenT P s t x = some v) : ∃ rv, (Builtin.len_ #[t] ty #[rx]).run P w = .ok rv w ∧ VRel g rv v := by
  unfold lenT at h
  split at h
  · rename_i b hu
    cases hx with
    | str sb _ e =>
      cases h
      have hsz : sb.size = b.length := by rw [← e]; exact Array.length_toList.symm
      exact ⟨.int .i64 b.length, by simp [Builtin.len_, run_underlying hu, goInt, hsz], .int _ _⟩
  · rename_i hu
    cases h
    exact ⟨_, by simp [Builtin.len_, run_underlying hu, goInt], .int _ _⟩
  · rename_i hu
    cases h
    cases hx with
    | nils _ _ => exact ⟨_, by simp [Builtin.len_, run_underlying hu, goInt], .int _ _⟩
    | empty _ _ _ _ _ => exact ⟨_, by simp [Builtin.len_, run_underlying hu, goInt], .int _ _⟩
    | slice bl off m cap size vs _ _ hne hm hcap hs0 hse hsol hrel htok => subst hm; exact ⟨_, by simp [Builtin.len_, run_underlying hu, goInt], .int _ _⟩
  · rename_i hu
    cases h
    cases hx
    exact ⟨_, by simp [Builtin.len_, run_underlying hu, goInt], .int _ _⟩
  · rename_i hu
    cases h
    cases hx
    exact ⟨_, by simp [Builtin.len_, run_underlying hu, goInt], .int _ _⟩
  · rename_i o hu
    cases hx with
    | map _ b e =>
      split at h
      · rename_i es clock ho
        cases h
        obtain ⟨ob, h1, h2⟩ := hR.obj o b e
        rw [ho] at h1
        cases h1
        obtain ⟨rs, h3, h4⟩ := h2
        have hl : rs.size = es.length := by
          have : rs.toList.length = es.length := h4.length
          simpa using this
        exact ⟨_, by simp [Builtin.len_, run_underlying hu, getObj_run h3, goInt, hl], .int _ _⟩
      · cases h
  · cases h

theorem minT_ok {x y v : TV} {rx ry : Value} (hx : VRel g rx x) (hy : VRel g ry y) (ts : Array TypeId) (ty : TypeId) (h : minT x y = some v) : ∃ rv, (Builtin.min_ ts ty #[rx, ry]).run P w = .ok rv w ∧ VRel g rv v := by
  unfold minT at h
  split at h
  · cases hx; cases hy; cases h
    exact ⟨_, by simp [Builtin.min_, Builtin.min2], .int _ _⟩
  · cases h
theorem maxT_ok {x y v : TV} {rx ry : Value} (hx : VRel g rx x) (hy : VRel g ry y) (ts : Array TypeId) (ty : TypeId) (h : maxT x y = some v) : ∃ rv, (Builtin.max_ ts ty #[rx, ry]).run P w = .ok rv w ∧ VRel g rv v := by
  unfold maxT at h
  split at h
  · cases hx; cases hy; cases h
    exact ⟨_, by simp [Builtin.max_, Builtin.max2], .int _ _⟩
  · cases h

/-- A value of type t is read out of memory. -/
theorem loadVar_ok {t : TypeId} {b off : Nat} {vs : List Value} {cs : List TV} (hc : ∀ i v, vs[i]? = some v → w.cell? ⟨b, off + i, none⟩ = some v) (h : VRels g vs cs) {v : TV} (hv : take P t cs = some v) :
    ∃ rv, (loadVar t ⟨b, off, none⟩).run P w = .ok rv w ∧ VRel g rv v := by
  have hk := take_known hv
  rw [take_eq hk] at hv
  obtain ⟨d, i, hd, hi⟩ := hk
  unfold loadVar
  rw [Sem.run_bind, isAgg_run t hd]
  simp only [Result.andThen_ok]
  cases hagg : isAggT P t with
  | true =>
    rw [hagg] at hv
    simp only [if_true] at hv ⊢
    split at hv
    · rename_i hl
      cases hv
      have hlen : (vs.take (P.cellsOf t)).length = P.cellsOf t := by rw [List.length_take, h.length]; omega
      have := run_loadCells_list (P := P) w ⟨b, off, none⟩ (vs.take (P.cellsOf t)) (fun j v e => by
        rw [add_plain']
        rw [List.getElem?_take] at e
        split at e
        · exact hc j v e
        · cases e)
      rw [hlen] at this
      refine ⟨.agg (vs.take (P.cellsOf t)).toArray, ?_, .agg _ _ (h.take _)⟩
      simp [sizeOf_run hi, this]
    · cases hv
  | false =>
    rw [hagg] at hv
    simp only [Bool.false_eq_true, if_false] at hv ⊢
    have hd' : cs[0]? = some v := by rw [← List.head?_eq_getElem?]; exact hv
    obtain ⟨rv, h1, h2⟩ := h.get hd'
    have := hc 0 rv h1
    rw [Nat.add_zero] at this
    exact ⟨rv, by simp [load, Sem.run, this], h2⟩

theorem objCells_rel (hR : Rel P g w s) {o b : Nat} (e : g.φ o = some b) {cs : List TV} {t : TypeId} (h : objCells s o = some (cs, t)) :
    ∃ vs : List Value, (∀ i v, vs[i]? = some v → w.cell? ⟨b, i, none⟩ = some v) ∧ VRels g vs cs := by
  obtain ⟨ob, h1, h2⟩ := hR.obj o b e
  unfold objCells at h
  rw [h1] at h
  cases ob with
  | cells cs' t' =>
    simp at h
    obtain ⟨rfl, rfl⟩ := h
    obtain ⟨vs, h3, h4⟩ := h2
    refine ⟨_, fun i v hv => ?_, h4⟩
    rw [cell_of_row w b i vs t' (0, 0) h3]
    rw [List.getElem?_take] at hv
    split at hv
    · simpa using hv
    · cases hv
  | map _ _ => simp at h

theorem loadT_ok {t : TypeId} {p v : TV} {rp : Value} (hR : Rel P g w s) (hp : VRel g rp p) (h : loadT P s t p = some v) : ∃ rv, (Instr.loadAt t rp).run P w = .ok rv w ∧ VRel g rv v := by
  unfold loadT at h
  split at h
  · cases hp with
    | eptr b off vs cs e r =>
      obtain ⟨rv, h1, h2⟩ := loadVar_ok (w := w) (fun i v hv => hR.sol _ _ _ (e i v hv)) r h
      exact ⟨rv, by simpa [Instr.loadAt, Instr.sureAddr] using h1, h2⟩
  · rename_i o off
    cases hp with
    | ptr _ b _ e =>
      split at h
      · rename_i cs t' ho
        obtain ⟨vs, h1, h2⟩ := objCells_rel hR e ho
        obtain ⟨rv, h3, h4⟩ := loadVar_ok (w := w) (b := b) (off := off) (fun i v hv => by
          rw [List.getElem?_drop] at hv
          exact h1 _ _ hv) (h2.drop off) h
        exact ⟨rv, by simpa [Instr.loadAt, Instr.sureAddr] using h3, h4⟩
      · cases h
  · cases h
end
end Go.Proofs.YtmmofmkencnldaaGreatDoor.TV
