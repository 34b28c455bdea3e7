/-
  TV: what comes in, at the types that the laws take.
-/
import Derived.Test.YtbnfooeeopmpiaaTVPure
namespace Go.Proofs.Ytbnfooeeopmpiaa.TV
open Go Go.RowKit
set_option linter.unusedSimpArgs false
set_option linter.unusedVariables false

section
variable {P : Program}
theorem ArgsOk.cons {F : Nat} {t : TypeId} {ts : List TypeId} {xs : List TV} (h : ArgsOk P F (t :: ts) xs) : ∃ x xs', xs = x :: xs' ∧ (∃ c, OkT P F t c ∧ x = mkE P t c) ∧ ArgsOk P F ts xs' := by
  cases xs with
  | nil => exact h.elim
  | cons x xs' => exact ⟨x, xs', rfl, h.1, h.2⟩
theorem ArgsOk.nil {F : Nat} {xs : List TV} (h : ArgsOk P F [] xs) : xs = [] := by
  cases xs with
  | nil => rfl
  | cons x xs' => exact h.elim
theorem mkE_one {t : TypeId} {x : TV} (h : isAggT P t = false) : mkE P t [x] = x := by simp [mkE, h]

theorem okT_int {f : Nat} {t : TypeId} {k : IntKind} {c : List TV} (ht : P.underlying t = some (.int k)) (h : OkT P (f + 1) t c) : ∃ n, mkE P t c = .int k n ∧ (Lit.int k n).wf = true := by
  unfold OkT at h
  rw [ht] at h
  obtain ⟨n, rfl, hw⟩ := h
  exact ⟨n, mkE_one (by unfold isAggT; rw [ht]), hw⟩
theorem okT_str {f : Nat} {t : TypeId} {c : List TV} (ht : P.underlying t = some .string) (h : OkT P (f + 1) t c) : ∃ l, mkE P t c = .str l ∧ l.length ≤ reachBytes := by
  unfold OkT at h
  rw [ht] at h
  obtain ⟨n, rfl, hw⟩ := h
  exact ⟨n, mkE_one (by unfold isAggT; rw [ht]), hw⟩
theorem okT_bool {f : Nat} {t : TypeId} {c : List TV} (ht : P.underlying t = some .bool) (h : OkT P (f + 1) t c) : ∃ b, mkE P t c = .bool b := by
  unfold OkT at h
  rw [ht] at h
  obtain ⟨n, rfl⟩ := h
  exact ⟨n, mkE_one (by unfold isAggT; rw [ht])⟩

theorem okT_ints {f : Nat} {t e : TypeId} {c : List TV} (ht : P.underlying t = some (.slice e)) (he : P.underlying e = some (.int .i64)) (h : OkT P (f + 2) t c) :
    ∃ b zs, mkE P t c = intsV b zs .unk ∧ zs.length * P.bytesOf e ≤ reachBytes ∧ ∀ z ∈ zs, (Lit.int .i64 z).wf = true := by
  have hag : isAggT P t = false := by unfold isAggT; rw [ht]
  have hae : isAggT P e = false := by unfold isAggT; rw [he]
  unfold OkT at h
  rw [ht] at h
  rcases h with rfl | ⟨ess, rfl, hl, hall⟩
  · exact ⟨true, [], mkE_one hag, by simp, fun z hz => by simp at hz⟩
  · have key : ∀ ess : List (List TV), (∀ x ∈ ess, OkT P (f + 1) e x) → ∃ zs : List Int, ess.map (mkE P e) = zs.map (.int .i64) ∧ zs.length = ess.length ∧ ∀ z ∈ zs, (Lit.int .i64 z).wf = true := by
      intro ess
      induction ess with
      | nil => intro _; exact ⟨[], rfl, rfl, fun z hz => by simp at hz⟩
      | cons x ess ih =>
        intro hx
        obtain ⟨zs, h1, h2, h3⟩ := ih fun y hy => hx y (by simp [hy])
        obtain ⟨n, hn, hw⟩ := okT_int he (hx x (by simp))
        refine ⟨n :: zs, by simp [hn, h1], by simp [h2], fun z hz => ?_⟩
        rcases List.mem_cons.1 hz with rfl | hz
        · exact hw
        · exact h3 z hz
    obtain ⟨zs, h1, h2, h3⟩ := key ess hall
    refine ⟨false, zs, ?_, by rw [h2]; exact hl, h3⟩
    rw [mkE_one hag, h1]
    rfl
end
end Go.Proofs.Ytbnfooeeopmpiaa.TV
