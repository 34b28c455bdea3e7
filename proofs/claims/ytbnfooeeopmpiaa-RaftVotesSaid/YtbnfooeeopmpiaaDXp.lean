/-
  DX: tables of calls; facts by which what is told is reckoned with.
-/
import Derived.Test.YtbnfooeeopmpiaaDXo
namespace Go.Proofs.Ytbnfooeeopmpiaa.TV
open Go Go.RowKit
set_option linter.unusedSimpArgs false
set_option linter.unusedVariables false

abbrev Spec := List UV → UHeap → Tree (UV × UHeap × List Nat)
def SpecOk (P : Program) (f : FuncId) (sp : Spec) : Prop := ∀ args h r, (sp args h).Has r → ∀ s V targs, HRel s V h → URels V args targs → ∃ s' V' v, Sim P f targs s v s' ∧ URel V' r.1 v ∧ Eff s V h r.2.2 s' V' r.2.1
/-- The first of the table's entries that takes the call. -/
def tabU : List (FuncId × Spec) → CallU
  | [], _, _, _ => .fail
  | p :: l, f, args, h => if p.1 = f then (match p.2 args h with
    | .fail => tabU l f args h
    | t => t) else tabU l f args h
inductive TabOk (P : Program) : List (FuncId × Spec) → Prop where
  | nil : TabOk P []
  | cons {f : FuncId} {sp : Spec} {l : List (FuncId × Spec)} : SpecOk P f sp → TabOk P l → TabOk P ((f, sp) :: l)
section
variable {P : Program}
theorem tabU_ok {l : List (FuncId × Spec)} (h : TabOk P l) : CallOkU P (tabU l) := by
  induction h with
  | nil => exact fun f args h r hr => hr.elim
  | @cons f sp l hs _ ih =>
    intro f' args h r hr
    simp only [tabU] at hr
    split at hr
    · rename_i e
      subst e
      split at hr
      · exact ih _ args h r hr
      · exact hs args h r hr
    · exact ih f' args h r hr
theorem spec_ok {f : FuncId} {g : Sig} {F : dens g.inP → Option (dens g.outP)} (h : FnOk P f g F) : SpecOk P f (callOf g F) := fun _ _ _ hr _ _ _ hR hv => callOf_ok h hr hR hv
/-- A function that is gone through where it is called. -/
noncomputable def inlU (P : Program) (call : CallU) (C : Cuts) (fuel : Nat) (fn : Func) (c : Code) : Spec := fun args h =>
  (forceE (args ++ List.replicate (fn.ntmps - args.length) undefU) fun e => codeU P call C fuel c e h).bind fun o => match o.1 with
    | .exit _ => .fail
    | _ => match resultsU P o.2.2 o.2.1 fn.results.toList with
      | some vs => .leaf (match vs with
        | [v] => v
        | vs => .tup vs, o.2.2, List.range h.objs.length)
      | none => .fail
theorem inl_ok (hm : P.follows .mixedOrders = true) (hN : Named P) {call : CallU} (hC : CallOkU P call) {C : Cuts} {fuel : Nat} {f : FuncId} {fn : Func} {c : Code} (hf : P.funcs[f]? = some fn) (hb : fn.body = some c) : SpecOk P f (inlU P call C fuel fn c) := by
  intro args h r hr s V targs hR hv
  unfold inlU at hr
  simp only [forceE_eq] at hr
  rw [Tree.has_bind] at hr
  obtain ⟨o, h1, h2⟩ := hr
  have henv : URels V (args ++ List.replicate (fn.ntmps - args.length) undefU) (targs ++ List.replicate (fn.ntmps - targs.length) undefT) := by
    rw [hv.length]
    exact hv.append (URels.replicate _ (.tup [] [] .nil))
  obtain ⟨s2, V2, te2, k1, k2, k3, k4, k5, k6, k7⟩ := codeU_ok hm hN hC C fuel c _ _ o h1 s V _ hR henv
  have main : (∀ id, o.1 ≠ .exit id) → (match resultsU P o.2.2 o.2.1 fn.results.toList with
      | some vs => Tree.leaf (match vs with
        | [v] => v
        | vs => .tup vs, o.2.2, List.range h.objs.length)
      | none => Tree.fail).Has r → ∃ s' V' v, Sim P f targs s v s' ∧ URel V' r.1 v ∧ Eff s V h r.2.2 s' V' r.2.1 := by
    intro hne h2
    split at h2
    · rename_i vs hvs
      obtain ⟨rvs, q1, q2⟩ := resultsU_rel k2 k3 _ vs hvs
      simp only [Tree.Has] at h2
      subst h2
      refine ⟨s2, V2, tupT rvs, ?_, ?_, ⟨k2, k4, ⟨k4.ids, k7⟩, fun k o hk hk2 => ?_⟩⟩
      · refine (Does.body hf hb (Q := fun v t => v = tupT rvs ∧ t = s2) ⟨o.1, te2, s2, k1, ?_⟩).sim
        cases hx1 : o.1 with
        | exit id => exact absurd hx1 (hne id)
        | normal => exact ⟨_, resultT_of q1, rfl, rfl⟩
        | ret => exact ⟨_, resultT_of q1, rfl, rfl⟩
      · cases q2 with
        | nil => exact .tup _ _ .nil
        | cons _ _ _ _ a b => cases b with
          | nil => exact a
          | cons _ _ _ _ b c => exact .tup _ _ (.cons _ _ _ _ a (.cons _ _ _ _ b c))
      · exact absurd (List.mem_range.2 (by rw [← hR.len]; exact (List.getElem?_eq_some_iff.1 hk2).1)) hk
    · exact h2.elim
  split at h2
  · exact h2.elim
  · rename_i hx
    exact main (fun id hid => hx id hid) h2
theorem FnOk.congr {f : FuncId} {g : Sig} {F G : dens g.inP → Option (dens g.outP)} (h : FnOk P f g F) (e : ∀ d, F d = G d) : FnOk P f g G := fun d r hr => h d r (by rw [e]; exact hr)
/-- A value that nothing lays open by reckoning. -/
noncomputable def stuck {β : Type} (x : Option β) : Option β := open Classical in if h : ∃ y, x = some y then some (Classical.choose h) else none
theorem stuck_eq {β : Type} (x : Option β) : stuck x = x := by
  unfold stuck
  cases x with
  | none => simp
  | some y =>
    have h : ∃ z, some y = some z := ⟨y, rfl⟩
    rw [dif_pos h]
    exact (Classical.choose_spec h).symm
/-- A function that calls itself: so many calls deep. -/
def recN {α β : Type} (F : (α → Option β) → α → Option β) : Nat → α → Option β
  | 0, _ => none
  | n + 1, d => F (recN F n) d
theorem FnOk.recN {f : FuncId} {g : Sig} {F : (dens g.inP → Option (dens g.outP)) → dens g.inP → Option (dens g.outP)} (h : ∀ G, FnOk P f g G → FnOk P f g (F G)) : ∀ n, FnOk P f g (TV.recN F n)
  | 0 => fun d r hr => by cases hr
  | n + 1 => h _ (FnOk.recN h n)
theorem FnOk.of {f : FuncId} {g : Sig} {F : Nat → dens g.inP → Option (dens g.outP)} (h : ∀ n, FnOk P f g (F n)) {G : dens g.inP → Option (dens g.outP)} (hG : ∀ d r, G d = some r → ∃ n, F n d = some r) : FnOk P f g G := fun d r hr => by
  obtain ⟨n, hn⟩ := hG d r hr
  exact h n d r hn
theorem cond_if {α : Type} {p : Prop} [Decidable p] {x y : α} : (bif decide p then x else y) = if p then x else y := by by_cases h : p <;> simp [h]
end
end Go.Proofs.Ytbnfooeeopmpiaa.TV
