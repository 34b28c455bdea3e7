/-
  DX: functions that ask whether a slice is nil: both cases, one answer.
-/
import Derived.Test.YtbnfooeeopmpiaaDXq
namespace Go.Proofs.Ytbnfooeeopmpiaa.TV
open Go Go.RowKit
set_option linter.unusedSimpArgs false
set_option linter.unusedVariables false

section
variable {P : Program}
/-- A nil slice has no elements. -/
theorem Sim.wf {f : FuncId} {b : Bool} {es : List TV} {tok : Tok} {rest : List TV} {s s' : St} {v : TV} (hf : ∃ fn c, P.funcs[f]? = some fn ∧ fn.body = some c) (h : (b = true → es = []) → Sim P f (.slice b es tok :: rest) s v s') : Sim P f (.slice b es tok :: rest) s v s' := by
  refine ⟨hf, fun g w rargs hR hv => ?_⟩
  have : b = true → es = [] := by
    cases hv with
    | cons _ _ _ _ r _ => cases r <;> simp
  exact (h this).2 g w rargs hR hv
def outSl (t : Ty) (r : UV × UHeap × List Nat) : Option (List t.den × Unit) := match decV (.slice t) r.1 with
  | some l => some (l, ())
  | none => none
theorem clone_ok (hm : P.follows .mixedOrders = true) (hN : Named P) {call : CallU} (hC : CallOkU P call) {C : Cuts} {fuel : Nat} {f : FuncId} {fn : Func} {c : Code} (hf : P.funcs[f]? = some fn) (hb : fn.body = some c) {t : Ty} {F : List t.den → Option (List t.den × Unit)}
    (hA : (inlU P call C fuel fn c [.slice t (some true) [] .no] ⟨[], []⟩).run (outSl t) = F [])
    (hB : ∀ l, (inlU P call C fuel fn c [.slice t (some false) l .no] ⟨[], []⟩).run (outSl t) = F l) :
    FnOk P f ⟨[.ty (.slice t)], [], [], [.ty (.slice t)], [], []⟩ fun d => F d.1 := by
  intro d r hr s V tvs hR hv
  obtain ⟨l, d⟩ := d
  have hv : URels V [.slice t none l .no] tvs := hv
  have hR : HRel s V ⟨[], []⟩ := hR
  have hr : F l = some r := hr
  have key : ∀ (b : Bool) (args : List TV), URels V [.slice t (some b) l .no] args → (inlU P call C fuel fn c [.slice t (some b) l .no] ⟨[], []⟩).run (outSl t) = F l → ∃ s2 v V2 h2 vs rvs m tips2, Sim P f args s v s2 ∧ Answer ⟨[.ty (.slice t)], [], [], [.ty (.slice t)], [], []⟩ r s V ⟨[], []⟩ s2 v V2 h2 vs rvs m tips2 := by
    intro b args ha hrun
    obtain ⟨u, hu, ho⟩ := (Tree.run_has _ _ _).1 (hrun.trans hr)
    obtain ⟨s2, V2, v, hs, hv2, he⟩ := inl_ok hm hN hC hf hb _ _ u hu s V args hR ha
    unfold outSl at ho
    split at ho
    · rename_i l' hl'
      cases ho
      refine ⟨s2, v, V2, u.2.1, [u.1], [v], [], u.2.1.tips, hs, ⟨he.rel, he.step, .cons _ _ _ _ hv2 .nil, rfl, rfl, List.prefix_rfl, rfl, List.nodup_nil, fun i K n h => by simp at h, ?_⟩⟩
      have e1 : outUs ⟨[.ty (.slice t)], [], [], [.ty (.slice t)], [], []⟩ [u.1] u.2.1 [] = [u.1] := rfl
      rw [e1]
      have e2 : ∀ (u : UV) (tips : List (Option TypeId)), decV (.slice t) u = some l' → exV [] tips (.ty (.slice t)) u = some (l', tips) := by
        intro u tips h
        cases u <;> simp only [exV, h]
      show exL [] u.2.1.tips [.ty (.slice t)] [u.1] = _
      simp only [exL, e2 _ _ hl']
      rfl
    · cases ho
  cases hv with
  | cons _ v _ vs rv rvs =>
    cases rvs
    cases rv with
    | slice _ _ b' _ es _ tok' h1 h2 h3 =>
      cases b' with
      | false => exact key false _ (.cons _ _ _ _ (.slice _ _ _ _ _ _ _ (fun x hx => by cases hx; rfl) h2 trivial) .nil) (hB l)
      | true =>
        by_cases hes : es = []
        · subst hes
          have hl : l = [] := by
            cases l with
            | nil => rfl
            | cons _ _ => exact h2.elim
          subst hl
          exact key true _ (.cons _ _ _ _ (.slice _ _ _ _ _ _ _ (fun x hx => by cases hx; rfl) h2 trivial) .nil) hA
        · obtain ⟨s2, v, V2, h2', vs, rvs, m, tips2, hs, A⟩ := key false [.slice false es tok'] (.cons _ _ _ _ (.slice _ _ _ _ _ _ _ (fun x hx => by cases hx; rfl) h2 trivial) .nil) (hB l)
          exact ⟨s2, v, V2, h2', vs, rvs, m, tips2, Sim.wf ⟨fn, c, hf, hb⟩ fun hw => absurd (hw rfl) hes, A⟩
/-- A slice again, if there is room for it. -/
def cloneU (sz : Nat) {α : Type} (l : List α) : Option (List α × Unit) := bif l.isEmpty then some ([], ()) else bif decide ((0 + l.length) * sz ≤ 140737488355328) then some (l, ()) else none
end
end Go.Proofs.Ytbnfooeeopmpiaa.TV
