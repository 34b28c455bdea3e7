/-
  TV: all that only reads, in one theorem.
-/
import Derived.Test.YtmmofmkencnldaaGreatDoorTVOps7
namespace Go.Proofs.YtmmofmkencnldaaGreatDoor.TV
open Go Go.RowKit
set_option linter.unusedSimpArgs false
set_option linter.unusedVariables false

section
variable {P : Program} {g : G} {w : World} {s : St}

/-- What an operation comes to that only reads (it may make memory that nobody names). -/
def ReadOk (P : Program) (g : G) (w : World) (s : St) (ρ : Operand → Value) (o : Oper) (v : TV) : Prop :=
  ∃ rv w' g', (execOp ρ o).run P w = .ok (.value rv) w' ∧ g.le g' ∧ Rel P g' w' s ∧ VRel g' rv v

theorem ReadOk.same {ρ : Operand → Value} {o : Oper} {v : TV} (hR : Rel P g w s) (sm : Sem Value) (he : execOp ρ o = (do pure (.value (← sm)))) (h : ∃ rv, sm.run P w = .ok rv w ∧ VRel g rv v) : ReadOk P g w s ρ o v := by
  obtain ⟨rv, h1, h2⟩ := h
  refine ⟨rv, w, g, ?_, .refl g, hR, h2⟩
  rw [he, Sem.run_bind, h1]
  rfl
theorem ReadOk.more {ρ : Operand → Value} {o : Oper} {v : TV} (sm : Sem Value) (he : execOp ρ o = (do pure (.value (← sm)))) (h : ∃ rv w' g', sm.run P w = .ok rv w' ∧ g.le g' ∧ Rel P g' w' s ∧ VRel g' rv v) : ReadOk P g w s ρ o v := by
  obtain ⟨rv, w', g', h1, h2, h3, h4⟩ := h
  refine ⟨rv, w', g', ?_, h2, h3, h4⟩
  rw [he, Sem.run_bind, h1]
  rfl

theorem OptRel.map {ρ : Operand → Value} {τ : Operand → TV} (hρ : ∀ x, VRel g (ρ x) (τ x)) : ∀ o : Option Operand, OptRel g (o.map ρ) (o.map τ)
  | Option.none => .none
  | Option.some x => .some _ _ (hρ x)
theorem VRels.map {ρ : Operand → Value} {τ : Operand → TV} (hρ : ∀ x, VRel g (ρ x) (τ x)) : ∀ l : List Operand, VRels g (l.map ρ) (l.map τ)
  | [] => .nil
  | x :: l => .cons _ _ _ _ (hρ x) (VRels.map hρ l)

theorem array_one {α : Type} {a : Array α} {x : α} (h : a.toList = [x]) : a = #[x] := by
  cases a; simp at h; subst h; rfl
theorem array_two {α : Type} {a : Array α} {x y : α} (h : a.toList = [x, y]) : a = #[x, y] := by
  cases a; simp at h; subst h; rfl

set_option maxHeartbeats 1000000 in
theorem readT_ok {ρ : Operand → Value} {τ : Operand → TV} (hρ : ∀ x, VRel g (ρ x) (τ x)) (hR : Rel P g w s) {o : Oper} {v : TV} (h : readT P s τ o = some v) : ReadOk P g w s ρ o v := by
  obtain ⟨dst, op, ty, pos, after, guard⟩ := o
  cases op with
  | move x => simp only [readT, Option.some.injEq] at h; subst h; exact ⟨_, w, g, rfl, .refl g, hR, hρ x⟩
  | assign x => simp only [readT, Option.some.injEq] at h; subst h; exact ⟨_, w, g, rfl, .refl g, hR, hρ x⟩
  | pick c a b =>
    simp only [readT] at h
    have hc := hρ c
    split at h
    · rename_i e
      rw [e] at hc
      cases h
      cases hq : ρ c <;> rw [hq] at hc <;> cases hc
      exact ⟨_, w, g, by simp [execOp, hq, asBool], .refl g, hR, hρ a⟩
    · rename_i e
      rw [e] at hc
      cases h
      cases hq : ρ c <;> rw [hq] at hc <;> cases hc
      exact ⟨_, w, g, by simp [execOp, hq, asBool], .refl g, hR, hρ b⟩
    · cases h
  | build t parts =>
    simp only [readT] at h
    refine .same hR _ rfl (buildT_ok ?_ h)
    rw [Array.toList_map]
    exact PartRel.of_map hρ _
  | buildSlice t len parts =>
    simp only [readT] at h
    refine .more _ rfl (buildSliceT_ok hR ?_ h)
    rw [Array.toList_map]
    exact PartRel.of_map hρ _
  | load t a => simp only [readT] at h; exact .same hR _ rfl (loadT_ok hR (hρ a) h)
  | nilCheck x =>
    simp only [readT] at h
    have hx := hρ x
    split at h
    · rename_i e; rw [e] at hx; cases h
      cases hq : ρ x <;> rw [hq] at hx <;> cases hx
      exact ⟨ρ x, w, g, by simp [execOp, hq], .refl g, hR, by rw [hq]; exact .ptr _ _ _ (by assumption)⟩
    · rename_i e; rw [e] at hx; cases h
      cases hq : ρ x <;> rw [hq] at hx <;> cases hx
      exact ⟨ρ x, w, g, by simp [execOp, hq], .refl g, hR, by rw [hq]; exact .eptr _ _ _ _ (by assumption) (by assumption)⟩
    · rename_i e; rw [e] at hx; cases h
      cases hq : ρ x <;> rw [hq] at hx <;> cases hx
      exact ⟨ρ x, w, g, by simp [execOp, hq], .refl g, hR, by rw [hq]; exact .fn _ _ _ _ _ (by assumption) (by assumption)⟩
    · cases h
  | binOp op t x y yt =>
    simp only [readT] at h
    split at h
    · rename_i hg
      have hj : τ x ≠ .junk ∧ τ y ≠ .junk ∨ (op ≠ .eql ∧ op ≠ .neq) := by
        by_cases hop : op = .eql ∨ op = .neq
        · left
          refine ⟨fun e => ?_, fun e => ?_⟩
          · rw [e] at h
            rcases hop with rfl | rfl
            · simp only [binT] at h
              obtain ⟨b, hb, _⟩ := Option.map_eq_some_iff.1 h
              rcases eqT_form hb with ⟨_, _, _, _, h1, _⟩ | ⟨_, _, h1, _⟩ | h1 <;> first | cases h1 | simp [plainT] at h1
            · simp only [binT] at h
              obtain ⟨b, hb, _⟩ := Option.map_eq_some_iff.1 h
              rcases eqT_form hb with ⟨_, _, _, _, h1, _⟩ | ⟨_, _, h1, _⟩ | h1 <;> first | cases h1 | simp [plainT] at h1
          · rw [e] at h
            have : ∀ b, eqT P 100 t (τ x) .junk ≠ some b := by
              intro b hb
              unfold eqT at hb
              split at hb <;> simp_all
            rcases hop with rfl | rfl
            · cases hq : τ x <;> rw [hq] at h this <;> simp only [binT] at h
              all_goals
                obtain ⟨b, hb, _⟩ := Option.map_eq_some_iff.1 h
                exact this b hb
            · cases hq : τ x <;> rw [hq] at h this <;> simp only [binT] at h
              all_goals
                obtain ⟨b, hb, _⟩ := Option.map_eq_some_iff.1 h
                exact this b hb
        · exact .inr ⟨fun e => hop (.inl e), fun e => hop (.inr e)⟩
      have hgd : (eqGuard op t x y (ρ x) (ρ y)).run P w = .ok () w := by
        rcases hj with ⟨h1, h2⟩ | ⟨h1, h2⟩
        · exact guardT_ok (hρ x) (hρ y) h1 h2 hg
        · cases op <;> first | rfl | exact absurd rfl h1 | exact absurd rfl h2
      obtain ⟨rv, h1, h2⟩ := binT_ok (w := w) hR (hρ x) (hρ y) h
      refine .same hR (do eqGuard op t x y (ρ x) (ρ y); binOp op t (ρ x) (ρ y)) rfl ⟨rv, ?_, h2⟩
      rw [Sem.run_bind, hgd]
      exact h1
    · cases h
  | unOp op t x => simp only [readT] at h; exact .same hR _ rfl (unT_ok (hρ x) h)
  | convert src dst x => simp only [readT] at h; exact .more _ rfl (convT_ok hR (hρ x) h)
  | makeInterface t x =>
    simp only [readT] at h
    split at h
    · cases h
    · rename_i d hni hd
      cases h
      refine .same hR _ rfl ⟨.iface t (ρ x), ?_, .iface _ _ _ (hρ x)⟩
      unfold Instr.makeInterface
      rw [Sem.run_bind, run_underlying hd]
      simp only [Result.andThen_ok]
      cases d <;> first | rfl | exact absurd hd (hni _)
    · cases h
  | makeFunc f a b =>
    simp only [readT, Option.some.injEq] at h
    subst h
    refine ⟨_, w, g, rfl, .refl g, hR, .fn _ _ _ _ _ ?_ ?_⟩
    · rw [Array.toList_map]; exact VRels.map hρ _
    · rw [Array.toList_map]; exact VRels.map hρ _
  | slice t x lo hi mx => simp only [readT] at h; exact .same hR _ rfl (sliceT_ok (hρ x) (OptRel.map hρ lo) (OptRel.map hρ hi) (OptRel.map hρ mx) h)
  | fieldAddr t x f => simp only [readT] at h; exact .same hR _ rfl (fieldAddrT_ok (hρ x) h)
  | field t x f => simp only [readT] at h; exact .same hR _ rfl (fieldT_ok (hρ x) h)
  | indexAddr t x i => simp only [readT] at h; exact .same hR _ rfl (indexAddrT_ok (hρ x) (hρ i) h)
  | index t x i => simp only [readT] at h; exact .same hR _ rfl (indexT_ok (hρ x) (hρ i) h)
  | lookup t m k ok => simp only [readT] at h; exact .same hR _ rfl (lookupT_ok hR (hρ m) (hρ k) h)
  | extract x i =>
    simp only [readT] at h
    have hx := hρ x
    split at h
    · rename_i vs e
      rw [e] at hx
      cases hq : ρ x <;> rw [hq] at hx <;> cases hx
      rename_i ws r
      obtain ⟨rv, h1, h2⟩ := r.get h
      refine .same hR (Instr.extract (ρ x) i) rfl ⟨rv, ?_, h2⟩
      have h1' : ws[i]? = some rv := by simpa using h1
      simp [Instr.extract, hq, h1']
    · cases h
  | call c =>
    obtain ⟨callee, args, ts⟩ := c
    cases callee with
    | builtin b =>
      simp only [readT] at h
      split at h
      · rename_i x t ha ht
        have ha' := array_one ha
        have ht' := array_one ht
        subst ha' ht'
        obtain ⟨rv, h1, h2⟩ := lenT_ok (w := w) (ty := ty) hR (hρ x) h
        refine ⟨rv, w, g, ?_, .refl g, hR, h2⟩
        simp [execOp, resolve, invoke, builtin, h1]
      · rename_i x y ha
        have ha' := array_two ha
        subst ha'
        obtain ⟨rv, h1, h2⟩ := minT_ok (P := P) (w := w) (hρ x) (hρ y) ts ty h
        refine ⟨rv, w, g, ?_, .refl g, hR, h2⟩
        simp [execOp, resolve, invoke, builtin, h1]
      · rename_i x y ha
        have ha' := array_two ha
        subst ha'
        obtain ⟨rv, h1, h2⟩ := maxT_ok (P := P) (w := w) (hρ x) (hρ y) ts ty h
        refine ⟨rv, w, g, ?_, .refl g, hR, h2⟩
        simp [execOp, resolve, invoke, builtin, h1]
      · cases h
    | _ => simp [readT] at h
  | _ => simp [readT] at h
end
end Go.Proofs.YtmmofmkencnldaaGreatDoor.TV
