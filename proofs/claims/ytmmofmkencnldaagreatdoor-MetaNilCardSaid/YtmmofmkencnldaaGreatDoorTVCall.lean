/-
  TV: code and calls: what the evaluator tells of a call is what the model does.
-/
import Derived.Test.YtmmofmkencnldaaGreatDoorTVDraw2
namespace Go.Proofs.YtmmofmkencnldaaGreatDoor.TV
open Go Go.RowKit
set_option linter.unusedSimpArgs false
set_option linter.unusedVariables false

section
variable {P : Program}

theorem codeK_seq {ρ : Type} {call : CallK ρ} {fuel : Nat} {a b : Code} {e : Env} {s : St} {k : Ex → Env → St → Option ρ} : codeK P call fuel (.seq a b) e s k = codeK P call fuel a e s fun x e s => match x with
    | .normal => codeK P call fuel b e s k
    | x => k x e s := rfl
theorem codeK_cond {ρ : Type} {call : CallK ρ} {fuel : Nat} {c : Operand} {a b : Code} {e : Env} {s : St} {k : Ex → Env → St → Option ρ} : codeK P call fuel (.cond c a b) e s k = match ev e c with
    | .bool true => codeK P call fuel a e s k
    | .bool false => codeK P call fuel b e s k
    | _ => none := rfl
theorem codeK_block {ρ : Type} {call : CallK ρ} {fuel id : Nat} {a : Code} {e : Env} {s : St} {k : Ex → Env → St → Option ρ} : codeK P call fuel (.block id a) e s k = codeK P call fuel a e s fun x e s => match x with
    | .exit i => if i = id then k .normal e s else k (.exit i) e s
    | x => k x e s := rfl
theorem codeK_loop {ρ : Type} {call : CallK ρ} {fuel : Nat} {a : Code} {e : Env} {s : St} {k : Ex → Env → St → Option ρ} : codeK P call fuel (.loop a) e s k = loopK (codeK P call fuel a) fuel e s k := rfl
theorem codeK_region {ρ : Type} {call : CallK ρ} {fuel id : Nat} {ops : Array Oper} {draw : Bool} {e : Env} {s : St} {k : Ex → Env → St → Option ρ} : codeK P call fuel (.region id ops draw) e s k = if draw then (if regionOk ops.toList then drawK P call ops.toList ops.toList e s [] [s] (k .normal) else none) else opsK P call ops.toList ops.toList e s (k .normal) := rfl
theorem codeK_ok {ρ : Type} (hm : P.follows .mixedOrders = true) (hN : Named P) {call : CallK ρ} (hC : CallOk P call) (fuel : Nat) : ∀ (c : Code) (e : Env) (s : St) (k : Ex → Env → St → Option ρ) (r : ρ),
    codeK P call fuel c e s k = some r → ∃ x e' s', CodeSim P c e s x e' s' ∧ k x e' s' = some r := by
  intro c
  induction c with
  | skip =>
    intro e s k r h
    exact ⟨.normal, e, s, fun g w a hR hE Q hQ => wp_skip (hQ a w g (.refl g) hR hE rfl), h⟩
  | seq a b iha ihb =>
    intro e s k r h
    simp only [codeK_seq] at h
    obtain ⟨x, e1, s1, h1, h2⟩ := iha _ _ _ _ h
    cases x with
    | normal =>
      obtain ⟨x, e', s', h3, h4⟩ := ihb _ _ _ _ h2
      exact ⟨x, e', s', h1.seq h3, h4⟩
    | exit id => exact ⟨.exit id, e1, s1, h1.seq_out (by simp), h2⟩
    | ret => exact ⟨.ret, e1, s1, h1.seq_out (by simp), h2⟩
  | cond c a b iha ihb =>
    intro e s k r h
    simp only [codeK_cond] at h
    split at h
    · rename_i hc
      obtain ⟨x, e', s', h1, h2⟩ := iha _ _ _ _ h
      refine ⟨x, e', s', fun g w a hR hE Q hQ => ?_, h2⟩
      have := hE.ev c
      rw [hc] at this
      cases hv : a.eval c <;> rw [hv] at this <;> cases this
      exact wp_cond_true hv (h1 g w a hR hE Q hQ)
    · rename_i hc
      obtain ⟨x, e', s', h1, h2⟩ := ihb _ _ _ _ h
      refine ⟨x, e', s', fun g w a hR hE Q hQ => ?_, h2⟩
      have := hE.ev c
      rw [hc] at this
      cases hv : a.eval c <;> rw [hv] at this <;> cases this
      exact wp_cond_false hv (h1 g w a hR hE Q hQ)
    · cases h
  | block id a iha =>
    intro e s k r h
    simp only [codeK_block] at h
    obtain ⟨x, e1, s1, h1, h2⟩ := iha _ _ _ _ h
    cases x with
    | normal =>
      exact ⟨.normal, e1, s1, fun g w a hR hE Q hQ => wp_block (h1 g w a hR hE _ fun a' w' g' hle hR' hE' hd => hQ a' w' g' hle hR' hE' hd), h2⟩
    | exit i =>
      simp only at h2
      split at h2
      · rename_i hi
        refine ⟨.normal, e1, s1, fun g w a hR hE Q hQ => wp_block (h1 g w a hR hE _ fun a' w' g' hle hR' hE' hd => ?_), h2⟩
        simp only [exOf, Exit.inBlock, hi, if_true]
        exact hQ a' w' g' hle hR' hE' hd
      · rename_i hi
        refine ⟨.exit i, e1, s1, fun g w a hR hE Q hQ => wp_block (h1 g w a hR hE _ fun a' w' g' hle hR' hE' hd => ?_), h2⟩
        simp only [exOf, Exit.inBlock, hi, if_false]
        exact hQ a' w' g' hle hR' hE' hd
    | ret =>
      exact ⟨.ret, e1, s1, fun g w a hR hE Q hQ => wp_block (h1 g w a hR hE _ fun a' w' g' hle hR' hE' hd => hQ a' w' g' hle hR' hE' hd), h2⟩
  | loop a iha =>
    intro e s k r h
    simp only [codeK_loop] at h
    exact loopK_ok iha fuel e s k r h
  | exit id =>
    intro e s k r h
    exact ⟨.exit id, e, s, fun g w a hR hE Q hQ => wp_exit (hQ a w g (.refl g) hR hE rfl), h⟩
  | ret =>
    intro e s k r h
    exact ⟨.ret, e, s, fun g w a hR hE Q hQ => wp_ret (hQ a w g (.refl g) hR hE rfl), h⟩
  | region id ops draw =>
    intro e s k r h
    simp only [codeK_region] at h
    cases draw with
    | true =>
      simp only [if_true] at h
      split at h
      · rename_i hr
        obtain ⟨items, sts, e', s', t, hd, hk⟩ := drawK_told hN hC ops.toList ops.toList 0 e s [] [s] _ _ h
        exact ⟨.normal, e', s', CodeSim.draw hm hr t (by simpa using hd), hk⟩
      · cases h
    | false =>
      simp only [Bool.false_eq_true, if_false] at h
      obtain ⟨e', s', h1, h2⟩ := opsK_ok hN hC ops _ _ _ _ _ h
      exact ⟨.normal, e', s', fun g w a hR hE Q hQ => wp_region_list (h1 g w a hR hE Q fun a' w' g' => hQ a' w' g'), h2⟩
  | _ => intro e s k r h; cases h

/-! ### Results -/
def resultOf (tmps : Array Value) : ResultVar → Sem Value
  | .tmp t => pure (tmps.getD t undef)
  | .cell a t => do loadVar t (← asAddr (tmps.getD a undef))
theorem results_eq (fn : Func) (tmps : Array Value) : results fn tmps = (do let vs ← fn.results.mapM (resultOf tmps); pure (if h : vs.size = 1 then vs[0] else .tuple vs)) := by
  unfold results
  congr 1

theorem result_cell {g : G} {w : World} {s : St} {t : TypeId} {p v : TV} {rp : Value} (hR : Rel P g w s) (hp : VRel g rp p) (h : loadT P s t p = some v) :
    ∃ rv, (do loadVar t (← asAddr rp) : Sem Value).run P w = .ok rv w ∧ VRel g rv v := by
  unfold loadT at h
  split at h
  · cases hp with
    | eptr b off vs cs e r =>
      obtain ⟨rv, h1, h2⟩ := loadVar_ok (w := w) (fun i v hv => hR.sol _ _ _ (e i v hv)) r h
      exact ⟨rv, by simpa [asAddr] using h1, h2⟩
  · rename_i o off
    cases hp with
    | ptr _ b _ e =>
      split at h
      · rename_i cs t' ho
        obtain ⟨vs, h1, h2⟩ := objCells_rel hR e ho
        obtain ⟨rv, h3, h4⟩ := loadVar_ok (w := w) (b := b) (off := off) (fun i v hv => by
          rw [List.getElem?_drop] at hv
          exact h1 _ _ hv) (h2.drop off) h
        exact ⟨rv, by simpa [asAddr] using h3, h4⟩
      · cases h
  · cases h

theorem resultsT_ok {g : G} {w : World} {s : St} {a : Act} {e : Env} (hR : Rel P g w s) (hE : EnvRel g a e) : ∀ (l : List ResultVar) (vs : List TV), resultsT P s e l = some vs →
    ∃ rs, (l.mapM (resultOf a.tmps)).run P w = .ok rs w ∧ VRels g rs vs := by
  intro l
  induction l with
  | nil => intro vs h; simp [resultsT] at h; subst h; exact ⟨[], by simp, .nil⟩
  | cons x l ih =>
    intro vs h
    cases x with
    | tmp t =>
      simp only [resultsT] at h
      split at h
      · rename_i r hr
        cases h
        obtain ⟨rs, h1, h2⟩ := ih r hr
        refine ⟨a.tmps.getD t undef :: rs, ?_, .cons _ _ _ _ (hE.at t) h2⟩
        rw [List.mapM_cons, Sem.run_bind]
        simp only [resultOf, Sem.run_pure, Result.andThen_ok]
        rw [Sem.run_bind, h1]
        simp
      · cases h
    | cell x t =>
      simp only [resultsT] at h
      split at h
      · rename_i v r hv hr
        cases h
        obtain ⟨rs, h1, h2⟩ := ih r hr
        obtain ⟨rv, h3, h4⟩ := result_cell hR (hE.at x) hv
        refine ⟨rv :: rs, ?_, .cons _ _ _ _ h4 h2⟩
        rw [List.mapM_cons, Sem.run_bind]
        have h3' : (resultOf a.tmps (.cell x t)).run P w = .ok rv w := h3
        rw [h3']
        simp only [Result.andThen_ok]
        rw [Sem.run_bind, h1]
        simp
      · cases h

theorem resultT_ok {g : G} {w : World} {s : St} {a : Act} {e : Env} (hR : Rel P g w s) (hE : EnvRel g a e) {fn : Func} {v : TV} (h : resultT P s e fn.results.toList = some v) :
    ∃ rv, (results fn a.tmps).run P w = .ok rv w ∧ VRel g rv v := by
  have key : ∀ vs, resultsT P s e fn.results.toList = some vs → ∃ rs : List Value, (results fn a.tmps).run P w = .ok (if h : rs.toArray.size = 1 then rs.toArray[0] else .tuple rs.toArray) w ∧ VRels g rs vs := fun vs hvs => by
    obtain ⟨rs, h1, h2⟩ := resultsT_ok hR hE _ _ hvs
    refine ⟨rs, ?_, h2⟩
    rw [results_eq, Array.mapM_eq_mapM_toList, Sem.run_bind, Sem.run_map, h1]
    simp
  unfold resultT at h
  split at h
  · rename_i v' hv
    cases h
    obtain ⟨rs, h1, h2⟩ := key _ hv
    cases h2 with
    | cons rv _ rs' _ r h3 =>
      cases h3
      exact ⟨rv, by simpa using h1, r⟩
  · rename_i vs hne hv
    cases h
    obtain ⟨rs, h1, h2⟩ := key _ hv
    have hlen := h2.length
    refine ⟨.tuple rs.toArray, ?_, .tup _ _ h2⟩
    have : ¬ rs.toArray.size = 1 := by
      intro h1
      have h1' : vs.length = 1 := by rw [← hlen]; simpa using h1
      obtain ⟨y, rfl⟩ := List.length_eq_one_iff.1 h1'
      exact hne y rfl
    rw [dif_neg this] at h1
    exact h1
  · cases h

theorem callK_ok (hm : P.follows .mixedOrders = true) (hN : Named P) {ρ : Type} : ∀ n, CallOk P (callK (ρ := ρ) P n) := by
  intro n
  induction n with
  | zero => intro f args s k r h; simp [callK] at h
  | succ n ih =>
    intro f args s k r h
    simp only [callK] at h
    split at h
    · rename_i fn hf
      split at h
      · rename_i c hb
        rw [forceList_eq] at h
        obtain ⟨x, e', s', h1, h2⟩ := codeK_ok hm hN ih n c _ _ _ _ h
        have fin : ∀ (x : Ex), x ≠ .normal → x ≠ .ret → ∃ id, x = .exit id := fun x h h' => by cases x <;> simp_all
        have out : ∃ v, resultT P s' e' fn.results.toList = some v ∧ k v s' = some r ∧ (x = .normal ∨ x = .ret) := by
          cases x with
          | exit id => simp at h2
          | normal =>
            simp only at h2
            split at h2
            · rename_i v hv
              rw [forceV_eq] at h2
              exact ⟨v, hv, h2, .inl rfl⟩
            · cases h2
          | ret =>
            simp only at h2
            split at h2
            · rename_i v hv
              rw [forceV_eq] at h2
              exact ⟨v, hv, h2, .inr rfl⟩
            · cases h2
        obtain ⟨v, hv, hk, hx⟩ := out
        refine ⟨v, s', ⟨⟨fn, c, hf, hb⟩, fun g w rargs hR hA => calls_of_wp hf hb ?_⟩, hk⟩
        refine h1 g w _ hR ?_ _ fun a' w' g' hle hR' hE' hd => ?_
        · show VRels g (rargs.toArray ++ Array.replicate (fn.ntmps - rargs.toArray.size) undef).toList _
          rw [Array.toList_append, Array.toList_replicate]
          have hl := hA.length
          simp only [List.size_toArray]
          rw [hl]
          exact hA.append (VRels.replicate _ (VRel.undef' g))
        · obtain ⟨rv, hrv, hrel⟩ := resultT_ok hR' hE' hv
          rcases hx with rfl | rfl
          · exact ⟨hd, rv, hrv, rv, g', rfl, hle, hR', hrel⟩
          · exact ⟨hd, rv, hrv, rv, g', rfl, hle, hR', hrel⟩
      · cases h
    · cases h

/-- What is given is so. -/
def GivenOk (P : Program) (given : GivenT) : Prop := ∀ f args s v s', given f args s = some (v, s') → Sim P f args s v s'
theorem callG_ok (hm : P.follows .mixedOrders = true) (hN : Named P) {ρ : Type} {given : GivenT} (hg : GivenOk P given) : ∀ n, CallOk P (callG (ρ := ρ) P given n) := by
  intro n
  induction n with
  | zero => intro f args s k r h; simp [callG] at h
  | succ n ih =>
    intro f args s k r h
    simp only [callG] at h
    split at h
    · rename_i v s1 hv
      rw [forceV_eq, forceSt_eq] at h
      exact ⟨v, s1, hg _ _ _ _ _ hv, h⟩
    split at h
    · rename_i fn hf
      split at h
      · rename_i c hb
        rw [forceList_eq] at h
        obtain ⟨x, e', s', h1, h2⟩ := codeK_ok hm hN ih n c _ _ _ _ h
        have fin : ∀ (x : Ex), x ≠ .normal → x ≠ .ret → ∃ id, x = .exit id := fun x h h' => by cases x <;> simp_all
        have out : ∃ v, resultT P s' e' fn.results.toList = some v ∧ k v s' = some r ∧ (x = .normal ∨ x = .ret) := by
          cases x with
          | exit id => simp at h2
          | normal =>
            simp only at h2
            split at h2
            · rename_i v hv
              rw [forceV_eq] at h2
              exact ⟨v, hv, h2, .inl rfl⟩
            · cases h2
          | ret =>
            simp only at h2
            split at h2
            · rename_i v hv
              rw [forceV_eq] at h2
              exact ⟨v, hv, h2, .inr rfl⟩
            · cases h2
        obtain ⟨v, hv, hk, hx⟩ := out
        refine ⟨v, s', ⟨⟨fn, c, hf, hb⟩, fun g w rargs hR hA => calls_of_wp hf hb ?_⟩, hk⟩
        refine h1 g w _ hR ?_ _ fun a' w' g' hle hR' hE' hd => ?_
        · show VRels g (rargs.toArray ++ Array.replicate (fn.ntmps - rargs.toArray.size) undef).toList _
          rw [Array.toList_append, Array.toList_replicate]
          have hl := hA.length
          simp only [List.size_toArray]
          rw [hl]
          exact hA.append (VRels.replicate _ (VRel.undef' g))
        · obtain ⟨rv, hrv, hrel⟩ := resultT_ok hR' hE' hv
          rcases hx with rfl | rfl
          · exact ⟨hd, rv, hrv, rv, g', rfl, hle, hR', hrel⟩
          · exact ⟨hd, rv, hrv, rv, g', rfl, hle, hR', hrel⟩
      · cases h
    · cases h

theorem runG_ok (hm : P.follows .mixedOrders = true) (hN : Named P) {given : GivenT} (hg : GivenOk P given) {n : Nat} {f : FuncId} {args : List TV} {s s' : St} {v : TV} (h : runG P given n f args s = some (v, s')) : Sim P f args s v s' := by
  obtain ⟨v', s'', h1, h2⟩ := callG_ok hm hN hg n f args s _ _ h
  cases h2
  exact h1
/-- Where values of whatever kind come in. -/
theorem Sim.junkArgs {f : FuncId} {n : Nat} {s s' : St} {v : TV} (h : Sim P f (List.replicate n .junk) s v s') {xs : List TV} (hx : xs.length = n) : Sim P f xs s v s' := by
  refine ⟨h.1, fun g w rargs hR hA => h.2 g w rargs hR ?_⟩
  have hl : rargs.length = n := by rw [hA.length, hx]
  clear hA
  induction rargs generalizing n xs with
  | nil => simp at hl; subst hl; exact .nil
  | cons a rargs ih =>
    cases n with
    | zero => simp at hl
    | succ n =>
      rw [List.replicate_succ]
      have key : ∀ (m : Nat) (l : List Value), l.length = m → VRels g l (List.replicate m .junk) := by
        intro m l
        induction l generalizing m with
        | nil => intro e; simp at e; subst e; exact .nil
        | cons b l ih2 =>
          intro e
          cases m with
          | zero => simp at e
          | succ m =>
            rw [List.replicate_succ]
            exact .cons _ _ _ _ (.junk _) (ih2 m (by simpa using e))
      exact .cons _ _ _ _ (.junk _) (key n rargs (by simpa using hl))
theorem run_ok (hm : P.follows .mixedOrders = true) (hN : Named P) {n : Nat} {f : FuncId} {args : List TV} {s s' : St} {v : TV} (h : run P n f args s = some (v, s')) : Sim P f args s v s' := by
  obtain ⟨v', s'', h1, h2⟩ := callK_ok hm hN n f args s _ _ h
  cases h2
  exact h1
end
end Go.Proofs.YtmmofmkencnldaaGreatDoor.TV
