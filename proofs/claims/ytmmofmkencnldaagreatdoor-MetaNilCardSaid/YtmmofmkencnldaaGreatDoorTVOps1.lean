/-
  TV: each operation on plain values is the model's own (1): comparisons, arithmetic.
-/
import Derived.Test.YtmmofmkencnldaaGreatDoorTVWorld
import Derived.ChangeKeysEq
namespace Go.Proofs.YtmmofmkencnldaaGreatDoor.TV
open Go Go.RowKit
set_option linter.unusedSimpArgs false
set_option linter.unusedVariables false

section
variable {P : Program} {g : G} {w : World} {s : St}

theorem bytes_of {s : ByteArray} {l : List UInt8} (h : s.data.toList = l) : s.toList = l := by rw [ByteArray.toList_eq]; exact h

theorem cellsOf_info {t : TypeId} {i : TypeInfo} (h : P.info? t = some i) : P.cellsOf t = i.size := by simp [Program.cellsOf, h]
theorem info_of_underlying {t : TypeId} {d : TypeDesc} (h : P.underlying t = some d) : ∃ i, P.info? t = some i := by
  cases e : P.info? t with
  | some i => exact ⟨i, rfl⟩
  | none => simp [Program.underlying, e] at h
theorem isAgg_run (t : TypeId) {d : TypeDesc} (h : P.underlying t = some d) : (isAgg t).run P w = .ok (isAggT P t) w := by
  unfold isAgg isAggT
  rw [Sem.run_bind, run_underlying h, h]
  cases d <;> rfl
theorem sizeOf_run {t : TypeId} {i : TypeInfo} (h : P.info? t = some i) : (sizeOf t).run P w = .ok (P.cellsOf t) w := by
  simp [sizeOf, typeInfo, h, cellsOf_info h]

/-- A type that the program knows. -/
def known (P : Program) (t : TypeId) : Prop := ∃ d i, P.underlying t = some d ∧ P.info? t = some i
theorem known_of {t : TypeId} {d : TypeDesc} (h : P.underlying t = some d) : known P t := by
  obtain ⟨i, hi⟩ := info_of_underlying h
  exact ⟨d, i, h, hi⟩

theorem take_known {t : TypeId} {cs : List TV} {v : TV} (h : take P t cs = some v) : known P t := by
  unfold take at h
  split at h
  · cases h
  · rename_i hn
    cases hu : P.underlying t with
    | none => rw [hu] at hn; exact absurd rfl hn
    | some d => exact known_of hu
theorem take_eq {t : TypeId} (hk : known P t) (cs : List TV) : take P t cs = if isAggT P t then (if P.cellsOf t ≤ cs.length then some (.agg (cs.take (P.cellsOf t))) else none) else cs.head? := by
  obtain ⟨d, i, hd, hi⟩ := hk
  unfold take
  rw [hd]
  rfl

/-- A part of an aggregate's cells. -/
theorem part_ok {t : TypeId} {vs : Array Value} {cs : List TV} (h : VRels g vs.toList cs) (off : Nat) {v : TV} (hv : take P t (cs.drop off) = some v) :
    ∃ rv, (part t vs off).run P w = .ok rv w ∧ VRel g rv v := by
  have hk := take_known hv
  rw [take_eq hk] at hv
  obtain ⟨d, i, hd, hi⟩ := hk
  unfold part
  rw [Sem.run_bind, isAgg_run t hd]
  simp only [Result.andThen_ok]
  cases hagg : isAggT P t with
  | true =>
    rw [hagg] at hv
    simp only [if_true] at hv ⊢
    rw [Sem.run_bind, sizeOf_run hi]
    simp only [Result.andThen_ok, Sem.run_pure]
    split at hv
    · cases hv
      refine ⟨_, rfl, .agg _ _ ?_⟩
      have : (vs.extract off (off + P.cellsOf t)).toList = (vs.toList.drop off).take (P.cellsOf t) := by
        simp [Array.toList_extract]
      rw [this]
      exact (h.drop off).take _
    · cases hv
  | false =>
    rw [hagg] at hv
    simp only [Bool.false_eq_true, if_false] at hv ⊢
    have hd' : (cs.drop off)[0]? = some v := by rw [← List.head?_eq_getElem?]; exact hv
    rw [List.getElem?_drop] at hd'
    obtain ⟨rv, h1, h2⟩ := h.get hd'
    have h1' : vs[off]? = some rv := by simpa using h1
    rw [h1']
    exact ⟨rv, rfl, h2⟩

theorem known_of_take {t : TypeId} (h : ∃ i, P.info? t = some i) (hu : ∃ d, P.underlying t = some d) : known P t := by
  obtain ⟨i, hi⟩ := h
  obtain ⟨d, hd⟩ := hu
  exact ⟨d, i, hd, hi⟩

theorem eqT_known {d : Nat} {t : TypeId} {x y : TV} {b : Bool} (h : eqT P d t x y = some b) : known P t := by
  cases d with
  | zero => simp [eqT] at h
  | succ d =>
    cases hu : P.underlying t with
    | none => unfold eqT at h; rw [hu] at h; simp at h
    | some de => exact known_of hu

theorem frozen_obj (h : Rel P g w s) {o b : Nat} (e : g.φ o = some b) (i : Nat) : w.frozen? ⟨b, i, none⟩ = false := by
  obtain ⟨ob, _, r⟩ := h.obj o b e
  cases ob with
  | cells cs t => obtain ⟨vs, h1, _⟩ := r; simp [World.frozen?, h1]
  | map es c => obtain ⟨vs, h1, _⟩ := r; simp [World.frozen?, h1]
theorem noView_obj (h : Rel P g w s) {o b : Nat} (e : g.φ o = some b) (i : Nat) : (noView ⟨b, i, none⟩).run P w = .ok () w := by
  obtain ⟨ob, _, r⟩ := h.obj o b e
  cases ob with
  | cells cs t => obtain ⟨vs, h1, _⟩ := r; simp [noView, viewAt, shape, Sem.run, World.shape?, h1]
  | map es c => obtain ⟨vs, h1, _⟩ := r; simp [noView, viewAt, shape, getObj, Sem.run, World.shape?, h1]
theorem stringish_obj (h : Rel P g w s) {o b : Nat} (e : g.φ o = some b) (i : Nat) : (stringish ⟨b, i, none⟩).run P w = .ok false w := by
  have hf := frozen_obj h e
  obtain ⟨ob, _, r⟩ := h.obj o b e
  cases ob with
  | cells cs t => obtain ⟨vs, h1, _⟩ := r; simp [stringish, frozen, shape, Sem.run, World.shape?, h1, hf]
  | map es c => obtain ⟨vs, h1, _⟩ := r; simp [stringish, frozen, shape, Sem.run, World.shape?, h1, hf]
theorem sameAddr_other (h : Rel P g w s) {o o' b b' i i' : Nat} (e : g.φ o = some b) (e' : g.φ o' = some b') (hne : b ≠ b') : (sameAddr ⟨b, i, none⟩ ⟨b', i', none⟩).run P w = .ok false w := by
  have hf := frozen_obj h e i
  have hf' := frozen_obj h e' i'
  have hb : (b == b') = false := by simpa using hne
  have f1 : (frozen ⟨b, i, none⟩).run P w = .ok false w := by simp [frozen, Sem.run, hf]
  have f2 : (frozen ⟨b', i', none⟩).run P w = .ok false w := by simp [frozen, Sem.run, hf']
  simp [sameAddr, hb, Sem.run_bind, f1, f2, noView_obj h e, noView_obj h e', mayBeOne, stringish_obj h e, stringish_obj h e']

set_option maxHeartbeats 1000000 in
theorem eqT_ok : ∀ (d D : Nat) (t : TypeId) (x y : TV) (rx ry : Value) (b : Bool), d ≤ D → Rel P g w s → VRel g rx x → VRel g ry y → eqT P d t x y = some b → (Op.equalIn D t rx ry).run P w = .ok b w := by
  intro d
  induction d with
  | zero => intro D t x y rx ry b _ _ _ _ h; simp [eqT] at h
  | succ d ih =>
    intro D t x y rx ry b hD hR hx hy h
    obtain ⟨D, rfl⟩ : ∃ m, D = m + 1 := ⟨D - 1, by omega⟩
    unfold eqT at h
    split at h
    · rename_i hu; cases hx; cases hy; cases h; simp [Op.equalIn, run_underlying hu]
    · rename_i hu; cases hx; cases hy
      split at h
      · rename_i hk; subst hk; cases h; simp [Op.equalIn, run_underlying hu]
      · cases h
    · rename_i hu; cases hx with | str _ _ e1 => cases hy with | str _ _ e2 => cases h; rw [run_equalIn_string w D t _ _ hu, bytes_of e1, bytes_of e2]
    · rename_i hu; cases hx; cases hy; cases h; simp [Op.equalIn, run_underlying hu]
    · rename_i hu; cases hx; cases hy; cases h; simp [Op.equalIn, run_underlying hu]
    · rename_i hu; cases hx; cases hy; cases h; simp [Op.equalIn, run_underlying hu]
    · rename_i e o a o' a' hu
      cases hx with
      | ptr _ b1 _ p1 =>
        cases hy with
        | ptr _ b2 _ p2 =>
          split at h
          · cases h
          · rename_i hs
            have hoo : o = o' := Classical.byContradiction fun k => by rw [if_neg k] at h; cases h
            rw [if_pos hoo] at h
            subst hoo
            cases h
            obtain ⟨i, hi⟩ : ∃ i, P.info? e = some i := by
              cases hq : P.info? e with
              | some i => exact ⟨i, rfl⟩
              | none => simp [Program.cellsOf, hq] at hs
            have hz : i.size ≠ 0 := by rw [← cellsOf_info hi]; exact hs
            have hsa : (sameAddr ⟨b1, a, none⟩ ⟨b2, a', none⟩).run P w = .ok (a == a') w := by
              rw [p1] at p2
              cases p2
              have : ((⟨b1, a, none⟩ : Addr) == ⟨b1, a', none⟩) = (a == a') := by rw [Bool.eq_iff_iff]; simp
              simp [sameAddr, this]
            simp [Op.equalIn, run_underlying hu, sizeOf, typeInfo, hi, hz, hsa]
    · rename_i hu; cases hx; cases hy; cases h; simp [Op.equalIn, run_underlying hu]
    · rename_i hu; cases hx; cases hy; cases h; simp [Op.equalIn, run_underlying hu]
    · rename_i hu; cases hx; cases hy; cases h; simp [Op.equalIn, run_underlying hu]
    · rename_i fields xs ys hu
      cases hx with
      | agg vx _ rx =>
        cases hy with
        | agg vy _ ry =>
          split at h
          · cases h
          · rename_i hp
            have hf : P.fieldsOf t = fields := by simp [Program.fieldsOf, hu]
            rw [run_equalIn_struct w D t vx vy (by rw [hf]; exact hu) (by simpa using hp), hf]
            revert h
            generalize fields.toList = fs
            intro h
            induction fs with
            | nil => simp only [List.foldr_nil] at h; cases h; rfl
            | cons f fs ihf =>
              simp only [List.foldr_cons] at h
              simp only [Op.eqFields]
              by_cases hn : f.name = "_"
              · simp only [hn, beq_self_eq_true, if_true] at h
                simp only [hn, ne_eq, not_true_eq_false, if_false]
                exact ihf h
              · have hn' : (f.name == "_") = false := by simpa using hn
                rw [hn'] at h
                simp only [Bool.false_eq_true, if_false] at h
                rw [if_pos hn]
                split at h
                · rename_i a a' e1 e2
                  cases e3 : eqT P d f.type a a' with
                  | none => rw [e3] at h; cases h
                  | some z =>
                    rw [e3] at h
                    obtain ⟨ra, h1, h2⟩ := part_ok (w := w) rx f.offset e1
                    obtain ⟨rb, h3, h4⟩ := part_ok (w := w) ry f.offset e2
                    simp only [Sem.run_bind, h1, h3, Result.andThen_ok, ih D _ _ _ _ _ _ (by omega) hR h2 h4 e3]
                    cases z with
                    | true =>
                      simp only [Bool.not_true, Bool.false_eq_true, if_false]
                      exact ihf h
                    | false => cases h; simp
                · cases h
    · rename_i n elem xs ys hu
      cases hx with
      | agg vx _ rx =>
        cases hy with
        | agg vy _ ry =>
          split at h
          · cases h
          · rename_i hin
            obtain ⟨i, hi⟩ : ∃ i, P.info? elem = some i := by
              cases hq : P.info? elem with
              | some i => exact ⟨i, rfl⟩
              | none => simp [hq] at hin
            rw [run_equalIn_array (w := w) D vx vy hu hi]
            revert h
            generalize List.range n = is
            intro h
            induction is with
            | nil => simp only [List.foldr_nil] at h; cases h; rfl
            | cons j is ihf =>
              simp only [List.foldr_cons] at h
              simp only [Op.eqItems]
              split at h
              · rename_i a a' e1 e2
                cases e3 : eqT P d elem a a' with
                | none => rw [e3] at h; cases h
                | some z =>
                  rw [e3] at h
                  obtain ⟨ra, h1, h2⟩ := part_ok (w := w) rx (j * P.cellsOf elem) e1
                  obtain ⟨rb, h3, h4⟩ := part_ok (w := w) ry (j * P.cellsOf elem) e2
                  simp only [Sem.run_bind, h1, h3, Result.andThen_ok, ih D _ _ _ _ _ _ (by omega) hR h2 h4 e3]
                  cases z with
                  | true =>
                    simp only [Bool.not_true, Bool.false_eq_true, if_false]
                    exact ihf h
                  | false => cases h; simp
              · cases h
    · rename_i es1 _ _ _ hu
      cases hx <;> cases hy <;> simp at h <;> cases h <;> simp [Op.equalIn, run_underlying hu]
    · rename_i hu; cases hx; cases hy; cases h; simp [Op.equalIn, run_underlying hu]
    · rename_i hu; cases hx; cases hy; cases h; simp [Op.equalIn, run_underlying hu]
    · rename_i hu; cases hx; cases hy <;> cases h <;> simp [Op.equalIn, run_underlying hu]
    · rename_i hu; cases hx; cases hy; cases h; simp [Op.equalIn, run_underlying hu]
    · rename_i hu; cases hx; cases hy; cases h; simp [Op.equalIn, run_underlying hu]
    · rename_i hu; cases hx; cases hy; cases h; simp [Op.equalIn, run_underlying hu]
    · rename_i hu; cases hx; cases hy; cases h; simp [Op.equalIn, run_underlying hu]
    · cases h
end
end Go.Proofs.YtmmofmkencnldaaGreatDoor.TV
