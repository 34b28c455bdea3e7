/-
  DX: values taken out of a state and told anew in another.
  DX: places of a state, told anew.
  DX: code: pieces whose outcome is told by places, loops.
-/
import Derived.Test.YthnhbejjikgifaaGreatDoorM07

namespace Go.Proofs.YthnhbejjikgifaaGreatDoor.TV
open Go Go.RowKit
set_option linter.unusedSimpArgs false
set_option linter.unusedVariables false

/-- The tokens of the slices that may grow, and of what is owned. -/
def tkT : PC → TV → List TK
  | .gsl _ _, .slice _ es tok => [.tok tok es.length]
  | .gsl _ _, _ => [.tok .unk 0]
  | .omap _, .map (some o) => [.mp o]
  | .omap _, _ => [.tok .unk 0]
  | .olst _ _, .gsl o n => [.ls o n]
  | .olst _ _, .slice true _ _ => [.nl]
  | .olst _ _, _ => [.tok .unk 0]
  | _, _ => []
def tksOf : List PC → List TV → List TK
  | p :: ps, v :: vs => tkT p v ++ tksOf ps vs
  | _, _ => []

section
variable {P : Program} {s s' s2 : St} {V V' V1 V2 : Val} {h h' g1 g2 : UHeap}

theorem toksL_cons (p : PC) (ps : List PC) (d : dens (p :: ps)) : toksL (p :: ps) d = p.toks d.1 ++ toksL ps d.2 := rfl
theorem toks_length (p : PC) (x : p.den) : (p.toks x).length = p.ntok := by cases p <;> rfl
theorem tkT_length (p : PC) (v : TV) : (tkT p v).length = p.ntok := by
  cases p with
  | gsl t e => cases v <;> rfl
  | omap t => cases v with
    | map o => cases o <;> rfl
    | _ => rfl
  | olst t e => cases v with
    | slice b es tok => cases b <;> rfl
    | _ => rfl
  | _ => rfl
theorem tksOf_length : ∀ {ps : List PC} {vs : List TV} (d : dens ps), ps.length = vs.length → (tksOf ps vs).length = (toksL ps d).length
  | [], [], _, _ => rfl
  | p :: ps, v :: vs, d, h => by
    have ih := tksOf_length (ps := ps) (vs := vs) d.2 (by simpa using h)
    simp only [tksOf, toksL_cons, List.length_append, ih, toks_length, tkT_length]
  | [], _ :: _, _, h => by simp at h
  | _ :: _, [], _, h => by simp at h

/-- May it be told so? -/
def Weak (e e' : Tip) : Prop := e = e' ∨ ∃ c, e = .ro c ∧ e' = .own c
theorem Weak.trans {a b c : Tip} (h : Weak a b) (k : Weak b c) : Weak a c := by
  rcases h with rfl | ⟨x, rfl, rfl⟩
  · exact k
  · rcases k with rfl | ⟨y, h1, _⟩
    · exact .inr ⟨x, rfl, rfl⟩
    · cases h1
theorem Weak.good {e e' : Tip} {k : TK} (h : Weak e e') (g : Good s k e') : Good s k e := by
  rcases h with rfl | ⟨c, rfl, rfl⟩
  · exact g
  · exact g
theorem Weak.live {e e' : Tip} (h : Weak e e') (l : e.live = true) : e = e' := by
  rcases h with rfl | ⟨c, rfl, rfl⟩
  · rfl
  · cases l
def LessT (a b : List (Option Tip)) : Prop := a.length = b.length ∧ ∀ (j : Nat) (e : Tip), a[j]? = some (some e) → ∃ e', b[j]? = some (some e') ∧ Weak e e'
theorem LessT.refl (a : List (Option Tip)) : LessT a a := ⟨rfl, fun _ e h => ⟨e, h, .inl rfl⟩⟩
theorem LessT.trans {a b c : List (Option Tip)} (h : LessT a b) (k : LessT b c) : LessT a c := ⟨h.1.trans k.1, fun j e x => by
  obtain ⟨e', h1, h2⟩ := h.2 j e x
  obtain ⟨e'', h3, h4⟩ := k.2 j e' h1
  exact ⟨e'', h3, h2.trans h4⟩⟩
theorem LessT.live {a b : List (Option Tip)} (h : LessT a b) {j : Nat} {e : Tip} (h1 : a[j]? = some (some e)) (l : e.live = true) : b[j]? = some (some e) := by
  obtain ⟨e', h2, h3⟩ := h.2 j e h1
  rw [h3.live l]
  exact h2
theorem dead_get {tips : List (Option Tip)} {j : Nat} {e : Tip} (h : (dead tips)[j]? = some (some e)) : ∃ c, e = .ro c ∧ (tips[j]? = some (some (.own c)) ∨ tips[j]? = some (some (.ro c))) := by
  unfold dead at h
  rw [List.getElem?_map] at h
  cases ht : tips[j]? with
  | none => rw [ht] at h; cases h
  | some x =>
    rw [ht] at h
    cases x with
    | none => simp [deadT] at h
    | some y => cases y with
      | gr e => simp [deadT] at h
      | own c => simp [deadT] at h; exact ⟨c, h.symm, .inl rfl⟩
      | ro c => simp [deadT] at h; exact ⟨c, h.symm, .inr rfl⟩
theorem dead_live {tips : List (Option Tip)} {j : Nat} {e : Tip} (h : (dead tips)[j]? = some (some e)) : ¬ e.live = true := by
  obtain ⟨c, rfl, _⟩ := dead_get h
  simp [Tip.live]
theorem LessT.dead (tips : List (Option Tip)) : LessT (dead tips) tips := ⟨by simp [TV.dead], fun j e h => by
  obtain ⟨c, rfl, h1 | h1⟩ := dead_get h
  · exact ⟨_, h1, .inr ⟨c, rfl, rfl⟩⟩
  · exact ⟨_, h1, .inl rfl⟩⟩
theorem LessT.set (tips : List (Option Tip)) (j : Nat) : LessT (tips.set j none) tips := ⟨by simp, fun k e hk => ⟨e, (set_none k e hk).1, .inl rfl⟩⟩
theorem Held.lessT {tips tips' : List (Option Tip)} {o o' : List Row} {i : TId} (l : LessT tips' tips) (a : Held V ⟨o, tips'⟩ i) : Held V ⟨o', tips⟩ i := by
  obtain ⟨j, k, e, h1, h2, h3⟩ := a
  obtain ⟨e', h4, _⟩ := l.2 j e h3
  exact ⟨j, k, e', h1, h2, h4⟩

theorem useTok_less {e : TypeId} {tips tips' : List (Option Tip)} {tok : UTok} (h : useTok e tips tok = some tips') : LessT tips' tips := by
  unfold useTok at h
  split at h
  · cases h
  · cases h; exact .refl _
  · rename_i j
    split at h
    · split at h
      · cases h
        exact .set _ _
      · cases h
    · cases h
theorem exV_lit {m : List Nat} {tips : List (Option Tip)} {c : Value} {u : UV} : exV m tips (.lit c) u = if sameU c u then some ((), tips) else none := by cases u <;> rfl
theorem same_rel {c : Value} {u : UV} {v : TV} (h : sameU c u = true) (r : URel V u v) : URel V' (constU c) v := by
  unfold sameU at h
  split at h
  · simp only [beq_iff_eq] at h; subst h; cases r; exact .bool _
  · simp only [Bool.and_eq_true, decide_eq_true_eq] at h; obtain ⟨rfl, rfl⟩ := h; cases r; exact .int _ _
  · simp only [decide_eq_true_eq] at h; subst h; cases r; exact .str _
  · cases r; exact .nilp
  · cases r with
    | lslice _ _ es _ tok' r1 r2 => cases r1; exact .lslice _ _ _ _ _ .nil r2
  · cases r; exact .nilfn
  · cases r; exact .niliface
  · cases h
theorem exV_ty {m : List Nat} {tips : List (Option Tip)} {t : Ty} {u : UV} : exV m tips (.ty t) u = match decV t u with
      | some x => some (x, tips)
      | none => none := by cases u <;> rfl
theorem exV_gsl {m : List Nat} {tips : List (Option Tip)} {t : Ty} {e : TypeId} {u : UV} : exV m tips (.gsl t e) u = match u with
      | .slice .. | .lslice .. => (match asL t u, useTok e tips (tokOf u) with
        | some l, some tips => some (l, tips)
        | _, _ => none)
      | _ => none := by cases u <;> rfl
theorem asMap_eq {v : Ty} {c : Own} {l : List (List UInt8 × v.den)} (h : asMap v c = some l) : c = .map v l := by
  cases c with
  | map v' l' =>
    simp only [asMap] at h
    split at h
    · rename_i e
      subst e
      cases h
      rfl
    · cases h
  | lst t l' => cases h
theorem asLst_eq {t : Ty} {e : TypeId} {c : Own} {l : List t.den} (h : asLst t e c = some l) : c = .lst t e l := by
  cases c with
  | map v' l' => cases h
  | lst t' e' l' =>
    simp only [asLst] at h
    split at h
    · rename_i e1
      subst e1
      split at h
      · rename_i e2
        subst e2
        cases h
        rfl
      · cases h
    · cases h
theorem ownOf_get {tips : List (Option Tip)} {j : Nat} {c : Own} (h : ownOf tips j = some c) : tips[j]? = some (some (.own c)) := by
  unfold ownOf at h
  split at h
  · rename_i c' hj; cases h; exact hj
  · cases h
/-- What is taken of what is owned. -/
theorem exV_omap {m : List Nat} {tips tips' : List (Option Tip)} {v : Ty} {u : UV} {x : (PC.omap v).den} (h : exV m tips (.omap v) u = some (x, tips')) : ∃ j, u = .oref j ∧ tips[j]? = some (some (.own (.map v x))) ∧ tips' = tips.set j none := by
  cases u with
  | oref j =>
    simp only [exV] at h
    split at h
    · rename_i l hl
      cases h
      obtain ⟨c, h1, h2⟩ := Option.bind_eq_some_iff.1 hl
      have := asMap_eq h2
      subst this
      exact ⟨j, rfl, ownOf_get h1, rfl⟩
    · cases h
  | _ => cases h
theorem exV_olst {m : List Nat} {tips tips' : List (Option Tip)} {t : Ty} {te : TypeId} {u : UV} {x : (PC.olst t te).den} (h : exV m tips (.olst t te) u = some (x, tips')) :
    (∃ j, u = .oref j ∧ tips[j]? = some (some (.own (.lst t te x))) ∧ tips' = tips.set j none) ∨ u = .lslice true [] .ex ∧ x = [] ∧ tips' = tips := by
  cases u with
  | oref j =>
    simp only [exV] at h
    split at h
    · rename_i l hl
      cases h
      obtain ⟨c, h1, h2⟩ := Option.bind_eq_some_iff.1 hl
      have := asLst_eq h2
      subst this
      exact .inl ⟨j, rfl, ownOf_get h1, rfl⟩
    · cases h
  | lslice b es tok =>
    cases b <;> cases es <;> cases tok <;> first | (cases h; done) | skip
    cases h
    exact .inr ⟨rfl, rfl, rfl⟩
  | _ => cases h
theorem exV_less {m : List Nat} {tips tips' : List (Option Tip)} {p : PC} {u : UV} {x : p.den} (h : exV m tips p u = some (x, tips')) : LessT tips' tips := by
  cases p with
  | ty t =>
    rw [exV_ty] at h
    split at h
    · cases h; exact .refl _
    · cases h
  | gsl t e =>
    rw [exV_gsl] at h
    split at h
    · split at h
      · rename_i h2; cases h; exact useTok_less h2
      · cases h
    · split at h
      · rename_i h2; cases h; exact useTok_less h2
      · cases h
    · cases h
  | ptr k => cases u <;> simp [exV] at h; rename_i K off; cases off <;> simp [exV] at h; obtain ⟨_, h⟩ := h; cases h; exact .refl _
  | nilp =>
    cases u <;> simp [exV] at h
    subst h
    exact .refl _
  | ign => have : exV m tips .ign u = some ((), tips) := by cases u <;> rfl
           rw [this] at h; cases h; exact .refl _
  | lit c =>
    rw [exV_lit] at h
    split at h
    · cases h; exact .refl _
    · cases h
  | omap v =>
    obtain ⟨j, _, _, rfl⟩ := exV_omap h
    exact .set _ _
  | olst t te =>
    rcases exV_olst h with ⟨j, _, _, rfl⟩ | ⟨_, _, rfl⟩
    · exact .set _ _
    · exact .refl _
theorem exL_cons {m : List Nat} {tips tips' : List (Option Tip)} {p : PC} {ps : List PC} {us : List UV} {d : dens (p :: ps)} (h : exL m tips (p :: ps) us = some (d, tips')) :
    ∃ u us' t1, us = u :: us' ∧ exV m tips p u = some (d.1, t1) ∧ exL m t1 ps us' = some (d.2, tips') := by
  cases us with
  | nil => cases h
  | cons u us =>
    simp only [exL] at h
    split at h
    · rename_i x t1 h1
      split at h
      · rename_i y t2 h2
        cases h
        exact ⟨u, us, t1, rfl, h1, h2⟩
      · cases h
    · cases h
theorem exL_less {m : List Nat} : ∀ {ps : List PC} {tips tips' : List (Option Tip)} {us : List UV} {d : dens ps}, exL m tips ps us = some (d, tips') → LessT tips' tips
  | [], tips, tips', us, d, h => by cases us with
    | nil => simp [exL] at h; subst h; exact .refl _
    | cons _ _ => cases h
  | p :: ps, tips, tips', us, d, h => by
    obtain ⟨u, us', t1, rfl, h1, h2⟩ := exL_cons h
    exact (exL_less h2).trans (exV_less h1)
theorem exL_length {m : List Nat} : ∀ {ps : List PC} {tips tips' : List (Option Tip)} {us : List UV} {d : dens ps}, exL m tips ps us = some (d, tips') → us.length = ps.length
  | [], tips, tips', us, d, h => by cases us with
    | nil => rfl
    | cons _ _ => cases h
  | p :: ps, tips, tips', us, d, h => by
    obtain ⟨u, us', t1, rfl, h1, h2⟩ := exL_cons h
    simp [exL_length h2]

def GoodT (s : St) (V : Val) (tips : List (Option Tip)) : Prop := ∀ (j : Nat) (k : TK) (e : Tip), V.tks[j]? = some k → tips[j]? = some (some e) → Good s k e
theorem GoodT.less {a b : List (Option Tip)} (h : GoodT s V b) (k : LessT a b) : GoodT s V a := fun j k' e h1 h2 => by
  obtain ⟨e', h3, h4⟩ := k.2 _ _ h2
  exact h4.good (h j k' e' h1 h3)
/-- A value that is told anew. -/
theorem exV_rel {m m' : List Nat} {tips tips' : List (Option Tip)} {p : PC} {u : UV} {v : TV} {x : p.den} (h : exV m tips p u = some (x, tips')) (r : URel V u v) {j : Nat} (hg : GoodT s V tips)
    (hm : ∀ (k K o : Nat), m[k]? = some K → V.ids[K]? = some o → V'.ids[m'.getD k 0]? = some o) (ht : ∀ k, (tkT p v)[0]? = some k → V'.tks[j]? = some k) : URel V' (injV m' j p x) v := by
  cases p with
  | ty t =>
    rw [exV_ty] at h
    split at h
    · rename_i h1; cases h; exact elemU_rel (decV_rel h1 r)
    · cases h
  | gsl t e =>
    rw [exV_gsl] at h
    have key : ∀ {l}, asL t u = some l → (∃ t', useTok e tips (tokOf u) = some t') → ((∃ t b l tok, u = .slice t b l tok) ∨ ∃ b es tok, u = .lslice b es tok) → URel V' (.slice t none l (.gr j)) v := by
      intro l hl hu hx
      obtain ⟨b, es, tok, rfl, k1, k2⟩ := asL_dst r hx hl
      refine .slice _ _ _ _ _ _ _ (fun x h => by cases h) k1 ⟨?_, ?_⟩
      · rw [ht _ rfl, k1.length]
      · obtain ⟨t', hu⟩ := hu
        cases htok : tokOf u with
        | no => rw [htok] at hu; cases hu
        | ex => rw [htok] at k2; rw [show tok = .exact from k2]; simp
        | gr j => rw [htok] at k2; exact k2.2
    split at h
    · split at h
      · rename_i h1 h2; cases h; exact key h1 ⟨_, h2⟩ (.inl ⟨_, _, _, _, rfl⟩)
      · cases h
    · split at h
      · rename_i h1 h2; cases h; exact key h1 ⟨_, h2⟩ (.inr ⟨_, _, _, rfl⟩)
      · cases h
    · cases h
  | ptr k =>
    cases u <;> simp [exV] at h
    rename_i K off
    cases off <;> simp [exV] at h
    obtain ⟨h1, h⟩ := h
    cases r with
    | ptr _ _ o e => exact .ptr _ _ _ (hm k K o h1 e)
  | nilp => cases u <;> simp [exV] at h; cases r; exact .nilp
  | ign => exact .junk _
  | lit c =>
    rw [exV_lit] at h
    split at h
    · rename_i h1; cases h; exact same_rel h1 r
    · cases h
  | omap t =>
    obtain ⟨j0, rfl, h1, _⟩ := exV_omap h
    cases r with
    | oref _ o _ => exact .oref _ _ (ht _ rfl)
    | ols _ o n hj => exact (hg _ _ _ hj h1).elim
    | onl _ hj => exact (hg _ _ _ hj h1).elim
  | olst t te =>
    rcases exV_olst h with ⟨j0, rfl, h1, _⟩ | ⟨rfl, _, _⟩
    · cases r with
      | oref _ o hj => exact (hg _ _ _ hj h1).elim
      | ols _ o n hj => exact .ols _ _ _ (ht _ rfl)
      | onl _ hj => exact .onl _ (ht _ rfl)
    · cases r with
      | lslice _ _ es _ tok' r1 r2 =>
        cases r1
        have r2 : tok' = .exact := r2
        subst r2
        exact .onl _ (ht _ rfl)
theorem exL_rel {m m' : List Nat} (hm : ∀ (k K o : Nat), m[k]? = some K → V.ids[K]? = some o → V'.ids[m'.getD k 0]? = some o) : ∀ {ps : List PC} {tips tips' : List (Option Tip)} {us : List UV} {vs : List TV} {d : dens ps} {j : Nat}, GoodT s V tips → exL m tips ps us = some (d, tips') → URels V us vs →
    (∀ (i : Nat) (t : TK), (tksOf ps vs)[i]? = some t → V'.tks[j + i]? = some t) → URels V' (injL m' j ps d) vs
  | [], tips, tips', us, vs, d, j, _, h, r, _ => by cases us with
    | nil => cases r; exact .nil
    | cons _ _ => cases h
  | p :: ps, tips, tips', us, vs, d, j, hg, h, r, ht => by
    obtain ⟨u, us', t1, rfl, h1, h2⟩ := exL_cons h
    cases r with
    | cons _ v _ vs r rs =>
      refine .cons _ _ _ _ (exV_rel h1 r hg hm fun k hk => ?_) (exL_rel hm (hg.less (exV_less h1)) h2 rs fun i t hi => ?_)
      · refine ht 0 k ?_
        simp only [tksOf]
        rw [List.getElem?_append_left (List.getElem?_eq_some_iff.1 hk).1]
        exact hk
      · rw [Nat.add_assoc]
        refine ht _ _ ?_
        simp only [tksOf]
        rw [List.getElem?_append_right (by rw [tkT_length]; omega), tkT_length, Nat.add_sub_cancel_left]
        exact hi

def Tinj (V : Val) (tips : List (Option Tip)) : Prop := ∀ (j j' : Nat) (i : TId) (k k' : TK) (e e' : Tip), V.tks[j]? = some k → V.tks[j']? = some k' → k.id = some i → k'.id = some i → tips[j]? = some (some e) → tips[j']? = some (some e') → j = j'
theorem Tinj.less {a b : List (Option Tip)} (h : Tinj V b) (k : LessT a b) : Tinj V a := fun j j' i k1 k2 e e' h1 h2 h3 h4 h5 h6 => by
  obtain ⟨e1, h7, _⟩ := k.2 _ _ h5
  obtain ⟨e2, h8, _⟩ := k.2 _ _ h6
  exact h j j' i k1 k2 e1 e2 h1 h2 h3 h4 h7 h8
/-- A token that is taken: it was alive, and is no more; or nothing hangs on it. -/
def Took (V : Val) (tips tips' : List (Option Tip)) (k : TK) (e : Tip) : Prop :=
  e.live = true ∧ (∀ a, k.id = some a → ∃ j : Nat, V.tks[j]? = some k ∧ tips[j]? = some (some e) ∧ ∀ e' : Tip, tips'[j]? ≠ some (some e')) ∧ (k.id = none → ∀ s, Good s k e)
/-- The tokens that are taken. -/
theorem exV_tok {m : List Nat} {tips tips' : List (Option Tip)} {p : PC} {u : UV} {v : TV} {x : p.den} (hg : GoodT s V tips) (h : exV m tips p u = some (x, tips')) (r : URel V u v) {i : Nat} {k : TK} (hk : (tkT p v)[i]? = some k) :
    i = 0 ∧ ∃ e, (p.toks x)[0]? = some (some e) ∧ Took V tips tips' k e := by
  have hi : i = 0 := by
    have h1 := (List.getElem?_eq_some_iff.1 hk).1
    rw [tkT_length] at h1
    cases p <;> simp [PC.ntok] at h1 <;> exact h1
  subst hi
  refine ⟨rfl, ?_⟩
  cases p with
  | gsl t e =>
    rw [exV_gsl] at h
    refine ⟨.gr e, rfl, ?_⟩
    have key : ∀ {l t'}, asL t u = some l → useTok e tips (tokOf u) = some t' → ((∃ t b l tok, u = .slice t b l tok) ∨ ∃ b es tok, u = .lslice b es tok) → Took V tips t' k (.gr e) := by
      intro l t' hl hu hx
      obtain ⟨b, es, tok, rfl, k1, k2⟩ := asL_dst r hx hl
      simp only [tkT, List.getElem?_cons_zero, Option.some.injEq] at hk
      subst hk
      refine ⟨rfl, fun a ha => ?_, fun hn s => ?_⟩
      · cases tok with
        | unk => cases ha
        | exact => cases ha
        | tip a' =>
        cases htok : tokOf u with
        | no => rw [htok] at hu; cases hu
        | ex => rw [htok] at k2; cases k2
        | gr j =>
          rw [htok] at k2 hu
          obtain ⟨k2, _⟩ := k2
          simp only [useTok] at hu
          split at hu
          · rename_i e' hj
            split at hu
            · rename_i he
              subst he
              cases hu
              exact ⟨j, by rw [k2, k1.length], hj, fun e' hk => (set_none j e' hk).2 rfl⟩
            · cases hu
          · cases hu
      · cases tok with
        | unk => trivial
        | exact => trivial
        | tip a' => cases hn
    split at h
    · split at h
      · rename_i h1 h2; cases h; exact key h1 h2 (.inl ⟨_, _, _, _, rfl⟩)
      · cases h
    · split at h
      · rename_i h1 h2; cases h; exact key h1 h2 (.inr ⟨_, _, _, rfl⟩)
      · cases h
    · cases h
  | omap t =>
    obtain ⟨j, rfl, h1, rfl⟩ := exV_omap h
    cases r with
    | oref _ o hj =>
      simp only [tkT, List.getElem?_cons_zero, Option.some.injEq] at hk
      subst hk
      exact ⟨_, rfl, rfl, fun a _ => ⟨j, hj, h1, fun e' hk => (set_none j e' hk).2 rfl⟩, fun hn => by cases hn⟩
    | ols _ o n hj => exact (hg _ _ _ hj h1).elim
    | onl _ hj => exact (hg _ _ _ hj h1).elim
  | olst t te =>
    rcases exV_olst h with ⟨j, rfl, h1, rfl⟩ | ⟨rfl, rfl, rfl⟩
    · cases r with
      | oref _ o hj => exact (hg _ _ _ hj h1).elim
      | ols _ o n hj =>
        simp only [tkT, List.getElem?_cons_zero, Option.some.injEq] at hk
        subst hk
        exact ⟨_, rfl, rfl, fun a _ => ⟨j, hj, h1, fun e' hk => (set_none j e' hk).2 rfl⟩, fun hn => by cases hn⟩
      | onl _ hj =>
        simp only [tkT, List.getElem?_cons_zero, Option.some.injEq] at hk
        subst hk
        have hx : x = [] := hg _ _ _ hj h1
        exact ⟨_, rfl, rfl, (fun a ha => by simp [TK.id] at ha), fun _ s => hx⟩
    · cases r with
      | lslice _ _ es _ tok' r1 r2 =>
        simp only [tkT, List.getElem?_cons_zero, Option.some.injEq] at hk
        subst hk
        exact ⟨_, rfl, rfl, (fun a ha => by simp [TK.id] at ha), fun _ s => rfl⟩
  | _ => simp [tkT] at hk
theorem Took.less {tips t1 tips' : List (Option Tip)} {k : TK} {e : Tip} (h : Took V tips t1 k e) (l : LessT tips' t1) : Took V tips tips' k e :=
  ⟨h.1, fun a ha => by
    obtain ⟨j, h1, h2, h3⟩ := h.2.1 a ha
    exact ⟨j, h1, h2, fun e' he => by obtain ⟨e'', h4, _⟩ := l.2 _ _ he; exact h3 e'' h4⟩, h.2.2⟩
theorem Took.more {tips t1 tips' : List (Option Tip)} {k : TK} {e : Tip} (h : Took V t1 tips' k e) (l : LessT t1 tips) : Took V tips tips' k e :=
  ⟨h.1, fun a ha => by
    obtain ⟨j, h1, h2, h3⟩ := h.2.1 a ha
    exact ⟨j, h1, l.live h2 h.1, h3⟩, h.2.2⟩
theorem exL_toks {m : List Nat} : ∀ {ps : List PC} {tips tips' : List (Option Tip)} {us : List UV} {vs : List TV} {d : dens ps}, GoodT s V tips → Tinj V tips → exL m tips ps us = some (d, tips') → URels V us vs →
    (∀ (i : Nat) (k : TK), (tksOf ps vs)[i]? = some k → ∃ e : Tip, (toksL ps d)[i]? = some (some e) ∧ Took V tips tips' k e) ∧
    (∀ (i i' : Nat) (k k' : TK) (a : TId), (tksOf ps vs)[i]? = some k → (tksOf ps vs)[i']? = some k' → k.id = some a → k'.id = some a → i = i')
  | [], tips, tips', us, vs, d, _, _, h, r => by
    have : tksOf [] vs = [] := by cases vs <;> rfl
    rw [this]
    exact ⟨fun i k h => by simp at h, fun i i' k k' a h => by simp at h⟩
  | p :: ps, tips, tips', us, vs, d, hg, hT, h, r => by
    obtain ⟨u, us', t1, rfl, h1, h2⟩ := exL_cons h
    have l1 := exV_less h1
    have l2 := exL_less h2
    cases r with
    | cons _ v _ vs r rs =>
      obtain ⟨k1, k2⟩ := exL_toks (hg.less l1) (hT.less l1) h2 rs
      have split : ∀ (i : Nat) (k : TK), (tksOf (p :: ps) (v :: vs))[i]? = some k → (i = 0 ∧ p.ntok = 1 ∧ ∃ e, (p.toks d.1)[0]? = some (some e) ∧ Took V tips t1 k e) ∨ (p.ntok ≤ i ∧ (tksOf ps vs)[i - p.ntok]? = some k) := fun i k hi => by
        simp only [tksOf] at hi
        by_cases hlt : i < (tkT p v).length
        · rw [List.getElem?_append_left hlt] at hi
          obtain ⟨h3, e, h4, h5⟩ := exV_tok hg h1 r hi
          refine .inl ⟨h3, ?_, e, h4, h5⟩
          rw [tkT_length] at hlt
          cases p <;> simp [PC.ntok] at hlt ⊢
        · rw [tkT_length] at hlt
          rw [List.getElem?_append_right (by rw [tkT_length]; omega), tkT_length] at hi
          exact .inr ⟨by omega, hi⟩
      refine ⟨fun i k hi => ?_, fun i i' k k' a hi hi' ha ha' => ?_⟩
      · rw [toksL_cons]
        rcases split i k hi with ⟨rfl, hn, e, h3, h4⟩ | ⟨h3, h4⟩
        · refine ⟨e, ?_, h4.less l2⟩
          rw [List.getElem?_append_left (List.getElem?_eq_some_iff.1 h3).1]
          exact h3
        · obtain ⟨e, h5, h6⟩ := k1 _ k h4
          refine ⟨e, ?_, h6.more l1⟩
          rw [List.getElem?_append_right (by rw [toks_length]; exact h3), toks_length]
          exact h5
      · have cross : ∀ (i : Nat) (k k' : TK), (∃ e, Took V tips t1 k e) → (tksOf ps vs)[i]? = some k' → k.id = some a → k'.id = some a → False := fun i k k' ⟨e, hv⟩ hi ha ha' => by
          obtain ⟨j, k3, k4, k5⟩ := hv.2.1 a ha
          obtain ⟨e', _, k6⟩ := k1 i k' hi
          obtain ⟨j', k7, k8, _⟩ := k6.2.1 a ha'
          obtain ⟨e'', k9, _⟩ := l1.2 _ _ k8
          have := hT j j' a k k' e e'' k3 k7 ha ha' k4 k9
          subst this
          exact k5 _ k8
        rcases split i k hi with ⟨rfl, hn, e, _, h4⟩ | ⟨h3, h4⟩ <;> rcases split i' k' hi' with ⟨rfl, hn', e', _, h4'⟩ | ⟨h3', h4'⟩
        · rfl
        · exact (cross _ k k' ⟨e, h4⟩ h4' ha ha').elim
        · exact (cross _ k' k ⟨e', h4'⟩ h4 ha' ha).elim
        · have := k2 _ _ k k' a h4 h4' ha ha'
          omega

/-- What is told of tokens, behind something that was done elsewhere. -/
structure Tips (s : St) (V : Val) (h : UHeap) (s2 : St) (V3 : Val) (tips3 : List (Option Tip)) : Prop where
  tips : GoodT s2 V3 tips3
  tinj : Tinj V3 tips3
  out : ∀ (j : Nat) (k : TK) (o : Nat) (e : Tip), V3.tks[j]? = some k → k.id = some (.obj o) → tips3[j]? = some (some e) → o ∉ V3.ids
  alive : ∀ i, (∃ (j : Nat) (k : TK) (e : Tip), V3.tks[j]? = some k ∧ k.id = some i ∧ (tips3[j]? = some (some e) ∧ e.live = true)) → Alive V h i ∨ i.new s
  tframe : ∀ i, i < s.ntips → ¬ Alive V h (.tip i) → s2.tips.get i = s.tips.get i
  len : V3.tks.length = tips3.length
theorem split_get {α : Type} {a b : List α} {j : Nat} {x : α} (h : (a ++ b)[j]? = some x) : a[j]? = some x ∨ (a.length ≤ j ∧ b[j - a.length]? = some x) := by
  by_cases hj : j < a.length
  · rw [List.getElem?_append_left hj] at h; exact .inl h
  · rw [List.getElem?_append_right (by omega)] at h; exact .inr ⟨by omega, h⟩
/-- What is told outside stays as it was. -/
theorem same_out (hR : HRel s V h) (st : Step s V1 g1 s2 V2 g2) (hv1 : ∀ o ∈ V1.ids, o ∈ V.ids) {j : Nat} {k : TK} {e : Tip} (h1 : V.tks[j]? = some k) (h2 : h.tips[j]? = some (some e)) (hn : ∀ i, k.id = some i → ¬ Alive V1 g1 i) : Good s2 k e := by
  have hg := hR.tips j k e h1 h2
  refine hg.same st.nle st.tle fun i hi => ?_
  have ho := hg.old hi
  cases i with
  | tip a => exact st.tframe a ho (hn _ hi)
  | obj o => exact st.frame o ho (fun hm => hR.out j k o e h1 hi h2 (hv1 o hm)) (hn _ hi)
theorem tips_core (hR : HRel s V h) {tips : List (Option Tip)} (hl : LessT tips h.tips) {ps : List PC} {vs : List TV} {d : dens ps} (ids : List Nat)
    (hold : GoodT s2 V tips)
    (hnew : ∀ (i : Nat) (k : TK), (tksOf ps vs)[i]? = some k → ∃ e : Tip, (toksL ps d)[i]? = some (some e) ∧ Good s2 k e ∧ ∀ a, k.id = some a → ((Alive V h a ∧ ¬ Held V ⟨h.objs, tips⟩ a) ∨ a.new s) ∧ ∀ o, a = .obj o → o ∉ ids)
    (hinj : ∀ (i i' : Nat) (k k' : TK) (a : TId), (tksOf ps vs)[i]? = some k → (tksOf ps vs)[i']? = some k' → k.id = some a → k'.id = some a → i = i')
    (hout : ∀ (j : Nat) (k : TK) (o : Nat) (e : Tip), V.tks[j]? = some k → k.id = some (.obj o) → tips[j]? = some (some e) → o ∉ ids)
    (htf : ∀ i, i < s.ntips → ¬ Alive V h (.tip i) → s2.tips.get i = s.tips.get i) (hlen : (tksOf ps vs).length = (toksL ps d).length) :
    Tips s V h s2 ⟨ids, V.tks ++ tksOf ps vs⟩ (tips ++ toksL ps d) := by
  have htl : V.tks.length = tips.length := by rw [hR.tlen, hl.1]
  have cases3 : ∀ (j : Nat) (k : TK) (e : Tip), (V.tks ++ tksOf ps vs)[j]? = some k → (tips ++ toksL ps d)[j]? = some (some e) → (V.tks[j]? = some k ∧ tips[j]? = some (some e)) ∨ (V.tks.length ≤ j ∧ (tksOf ps vs)[j - V.tks.length]? = some k ∧ (toksL ps d)[j - V.tks.length]? = some (some e)) := fun j k e h1 h2 => by
    rcases split_get h1 with h1 | ⟨h1, h3⟩ <;> rcases split_get h2 with h2 | ⟨h2, h4⟩
    · exact .inl ⟨h1, h2⟩
    · have := (List.getElem?_eq_some_iff.1 h1).1; omega
    · have := (List.getElem?_eq_some_iff.1 h2).1; omega
    · rw [← htl] at h4
      exact .inr ⟨h1, h3, h4⟩
  have clash : ∀ (j i : Nat) (k k' : TK) (a : TId) (e : Tip), V.tks[j]? = some k → tips[j]? = some (some e) → k.id = some a → (tksOf ps vs)[i]? = some k' → k'.id = some a → False := fun j i k k' a e h1 h2 h3 h4 h5 => by
    obtain ⟨_, _, _, hx⟩ := hnew i k' h4
    rcases (hx a h5).1 with ⟨_, k⟩ | k
    · exact k ⟨j, _, e, h1, h3, h2⟩
    · obtain ⟨e', h6, _⟩ := hl.2 _ _ h2
      have := (hR.tips j _ e' h1 h6).old h3
      cases a with
      | tip a => have h6 : s.ntips ≤ a := k; have h7 : a < s.ntips := this; omega
      | obj o => have h6 : s.n ≤ o := k; have h7 : o < s.n := this; omega
  refine ⟨fun j k e h1 h2 => ?_, fun j j' i k k' e e' h1 h2 h3 h4 h5 h6 => ?_, fun j k0 o e h1 h1' h2 => ?_, fun i hi => ?_, htf, by simp [hlen, htl]⟩
  · rcases cases3 j k e h1 h2 with ⟨h3, h4⟩ | ⟨_, h3, h4⟩
    · exact hold j k e h3 h4
    · obtain ⟨e1, k3, k4, _⟩ := hnew _ k h3
      rw [h4] at k3
      cases k3
      exact k4
  · rcases cases3 j k e h1 h5 with ⟨h7, h8⟩ | ⟨hj, h7, h8⟩ <;> rcases cases3 j' k' e' h2 h6 with ⟨h9, h10⟩ | ⟨hj', h9, h10⟩
    · obtain ⟨e1, h11, _⟩ := hl.2 _ _ h8
      obtain ⟨e2, h12, _⟩ := hl.2 _ _ h10
      exact hR.tinj j j' i k k' e1 e2 h7 h9 h3 h4 h11 h12
    · exact (clash j _ k k' i e h7 h8 h3 h9 h4).elim
    · exact (clash j' _ k' k i e' h9 h10 h4 h7 h3).elim
    · have := hinj _ _ k k' i h7 h9 h3 h4
      omega
  · rcases cases3 j _ e h1 h2 with ⟨h3, h4⟩ | ⟨_, h3, h4⟩
    · exact hout j k0 o e h3 h1' h4
    · obtain ⟨_, _, _, hx⟩ := hnew _ _ h3
      exact (hx _ h1').2 o rfl
  · obtain ⟨j, k, e, h1, h2, h3, hlv⟩ := hi
    rcases cases3 j k e h1 h3 with ⟨h4, h5⟩ | ⟨_, h4, _⟩
    · exact .inl ⟨j, k, e, h4, h2, hl.live h5 hlv, hlv⟩
    · obtain ⟨_, _, _, hx⟩ := hnew _ k h4
      rcases (hx i h2).1 with ⟨k, _⟩ | k
      · exact .inl k
      · exact .inr k
theorem tips_back (hR : HRel s V h) {tips : List (Option Tip)} (hl : LessT tips h.tips) (hv1 : ∀ o ∈ V1.ids, o ∈ V.ids) (ha : ∀ i, Alive V1 g1 i → Alive V h i ∧ ¬ Held V ⟨h.objs, tips⟩ i) (st : Step s V1 g1 s2 V2 g2) (hR2 : HRel s2 V2 g2)
    {m : List Nat} {ps : List PC} {us : List UV} {vs : List TV} {d : dens ps} {tips2 : List (Option Tip)} (hx : exL m g2.tips ps us = some (d, tips2)) (r : URels V2 us vs) (ids : List Nat) (hids : ∀ o ∈ ids, o ∈ V.ids ∨ o ∈ V2.ids) :
    Tips s V h s2 ⟨ids, V.tks ++ tksOf ps vs⟩ (tips ++ toksL ps d) := by
  obtain ⟨k1, k2⟩ := exL_toks (V := V2) (s := s2) hR2.tips hR2.tinj hx r
  have fresh : ∀ (i : TId), Alive V2 g2 i → (Alive V h i ∧ ¬ Held V ⟨h.objs, tips⟩ i) ∨ i.new s := fun i hi => by
    rcases st.alive i hi with h | h
    · exact .inl (ha i h)
    · exact .inr h
  refine tips_core hR hl ids (fun j k e h1 h2 => ?_) (fun i k hi => ?_) k2 (fun j k o e h1 h1' h2 ho => ?_) (fun i hi hna => st.tframe i hi fun ha' => hna (ha _ ha').1) (tksOf_length d (by rw [← r.length, exL_length hx]))
  · obtain ⟨e', h3, h4⟩ := hl.2 _ _ h2
    exact h4.good (same_out hR st hv1 h1 h3 fun i hi ha' => (ha i ha').2 ⟨j, k, e, h1, hi, h2⟩)
  · obtain ⟨e, k3, k4, k5, k6⟩ := k1 i k hi
    refine ⟨e, k3, ?_, fun a hk => ?_⟩
    · cases hid : k.id with
      | none => exact k6 hid s2
      | some a =>
        obtain ⟨j, k7, k8, _⟩ := k5 a hid
        exact hR2.tips j k e k7 k8
    · obtain ⟨j, k7, k8, _⟩ := k5 a hk
      have hal : Alive V2 g2 a := ⟨j, k, e, k7, hk, k8, k4⟩
      refine ⟨fresh a hal, fun o hao ho => ?_⟩
      subst hao
      rcases hids o ho with h6 | h6
      · rcases fresh _ hal with ⟨⟨j3, k11, e3, k12, k13, k14, _⟩, _⟩ | kn
        · exact hR.out j3 k11 o e3 k12 k13 k14 h6
        · have := hR.lt o h6
          have h7 : s.n ≤ o := kn
          omega
      · exact hR2.out j k o e k7 hk k8 h6
  · obtain ⟨e', h3, _⟩ := hl.2 _ _ h2
    have h5 : o ∉ V.ids := hR.out j k o e' h1 h1' h3
    rcases hids o ho with h6 | h6
    · exact h5 h6
    · rcases st.new o h6 with h7 | h7
      · exact h5 (hv1 o h7)
      · have h8 : o < s.n := (hR.tips j _ e' h1 h3).old (i := .obj o) h1'
        omega
/-- The same, where nothing was done. -/
theorem tips_head (hR : HRel s V h) {m : List Nat} {ps : List PC} {us : List UV} {vs : List TV} {d : dens ps} {tips0 tips : List (Option Tip)} (hx : exL m h.tips ps us = some (d, tips0)) (hl : LessT tips tips0) (r : URels V us vs) :
    Tips s V h s ⟨V.ids, V.tks ++ tksOf ps vs⟩ (tips ++ toksL ps d) := by
  obtain ⟨k1, k2⟩ := exL_toks (V := V) (s := s) hR.tips hR.tinj hx r
  have hl' := hl.trans (exL_less hx)
  refine tips_core hR hl' V.ids (fun j k e h1 h2 => ?_) (fun i k hi => ?_) k2 (fun j k o e h1 h1' h2 => ?_) (fun i _ _ => rfl) (tksOf_length d (by rw [← r.length, exL_length hx]))
  · obtain ⟨e', h3, h4⟩ := hl'.2 _ _ h2
    exact h4.good (hR.tips j k e' h1 h3)
  · obtain ⟨e, k3, k4, k5, k6⟩ := k1 i k hi
    refine ⟨e, k3, ?_, fun a hk => ?_⟩
    · cases hid : k.id with
      | none => exact k6 hid s
      | some a =>
        obtain ⟨j, k7, k8, _⟩ := k5 a hid
        exact hR.tips j k e k7 k8
    · obtain ⟨j, k7, k8, k9⟩ := k5 a hk
      refine ⟨.inl ⟨⟨j, k, e, k7, hk, k8, k4⟩, fun ⟨j', k', e', h1, h2, h3⟩ => ?_⟩, fun o hao => by subst hao; exact hR.out j k o e k7 hk k8⟩
      obtain ⟨e1, h4, _⟩ := hl'.2 _ _ h3
      have := hR.tinj j j' a k k' e e1 k7 h1 hk h2 k8 h4
      subst this
      obtain ⟨e2, h5, _⟩ := hl.2 _ _ h3
      exact k9 _ h5
  · obtain ⟨e', h3, _⟩ := hl'.2 _ _ h2
    exact hR.out j k o e' h1 h1' h3
theorem HRel.lessT (hR : HRel s V h) {tips : List (Option Tip)} (hl : LessT tips h.tips) : HRel s V ⟨h.objs, tips⟩ :=
  ⟨hR.len, hR.nodup, hR.lt, hR.obj, by rw [hR.tlen, hl.1], fun j k e h1 h2 => by
    obtain ⟨e', h3, h4⟩ := hl.2 _ _ h2
    exact h4.good (hR.tips j k e' h1 h3), fun j j' i k k' e e' h1 h2 h3 h4 h5 h6 => by
    obtain ⟨e1, h7, _⟩ := hl.2 _ _ h5
    obtain ⟨e2, h8, _⟩ := hl.2 _ _ h6
    exact hR.tinj j j' i k k' e1 e2 h1 h2 h3 h4 h7 h8, fun j k o e h1 h1' h2 => by
    obtain ⟨e', h3, _⟩ := hl.2 _ _ h2
    exact hR.out j k o e' h1 h1' h3⟩
end
end Go.Proofs.YthnhbejjikgifaaGreatDoor.TV

namespace Go.Proofs.YthnhbejjikgifaaGreatDoor.TV
open Go Go.RowKit
set_option linter.unusedSimpArgs false
set_option linter.unusedVariables false

noncomputable def cellT (s : St) (V : Val) (k off : Nat) : TV := match V.ids[k]? with
  | some o => (match s.objs.get o with
    | some (.cells ts _) => ts.getD off .junk
    | _ => .junk)
  | none => .junk
noncomputable def gatherT (vs : List (Nat × PC)) (cs : List (Nat × Nat × PC)) (te : Env) (s : St) (V : Val) : List TV := vs.map (fun p => te.at p.1) ++ cs.map fun p => cellT s V p.1 p.2.1

section
variable {P : Program} {s s' s2 : St} {V V' V1 V2 : Val} {h h' g1 g2 : UHeap} {e : UEnv} {te te2 : Env}

theorem cellAt_rel (hR : HRel s V h) (k off : Nat) : URel V (cellAt h k off) (cellT s V k off) := by
  unfold cellAt cellT
  cases hr : h.objs[k]? with
  | none => exact .junk _
  | some r =>
    have hlt : k < V.ids.length := by rw [hR.len]; exact (List.getElem?_eq_some_iff.1 hr).1
    have hk : V.ids[k]? = some V.ids[k] := List.getElem?_eq_getElem hlt
    obtain ⟨ts, h1, h2⟩ := hR.obj k _ r hk hr
    rw [hk]
    simp only
    rw [h1]
    exact h2.getD off _
theorem gather_rel (hR : HRel s V h) (r : URels V e te) (vs : List (Nat × PC)) (cs : List (Nat × Nat × PC)) : URels V (gather vs cs e h) (gatherT vs cs te s V) := by
  unfold gather gatherT
  refine URels.append (URels.map fun p _ => ?_) (URels.map fun p _ => cellAt_rel hR _ _)
  exact r.at_ p.1

theorem URels.of_get {us : List UV} {vs : List TV} (hl : us.length = vs.length) (h : ∀ (i : Nat) (u : UV), us[i]? = some u → ∃ v, vs[i]? = some v ∧ URel V u v) : URels V us vs := by
  induction us generalizing vs with
  | nil => cases vs with
    | nil => exact .nil
    | cons _ _ => simp at hl
  | cons u us ih => cases vs with
    | nil => simp at hl
    | cons v vs =>
      obtain ⟨v', h1, h2⟩ := h 0 u rfl
      simp at h1
      subst h1
      exact .cons _ _ _ _ h2 (ih (by simpa using hl) fun i u hi => by simpa using h (i + 1) u (by simpa using hi))
theorem URels.set_at (r : URels V e te) {d : Nat} {u : UV} (hu : URel V u (te.at d)) : URels V (e.set d u) te := by
  cases hd : te[d]? with
  | none =>
    have : e.set d u = e := List.set_eq_of_length_le (by rw [r.length]; exact List.getElem?_eq_none_iff.1 hd)
    rw [this]
    exact r
  | some v =>
    refine r.setl hd ?_
    have : te.at d = v := by simp [Env.at_eq, List.getD_eq_getElem?_getD, hd]
    rw [← this]
    exact hu
theorem setVars_rel : ∀ {vs : List (Nat × PC)} {us : List UV} {e : UEnv}, URels V e te → (∀ (i : Nat) (p : Nat × PC) (u : UV), vs[i]? = some p → us[i]? = some u → URel V u (te.at p.1)) → URels V (setVars vs us e) te
  | [], us, e, r, _ => by cases us <;> exact r
  | p :: ps, [], e, r, _ => r
  | p :: ps, u :: us, e, r, h => by
    simp only [setVars]
    exact setVars_rel (r.set_at (h 0 p u rfl rfl)) fun i p' u' h1 h2 => h (i + 1) p' u' (by simpa using h1) (by simpa using h2)
theorem clearGo_length (c : Code) : ∀ (l : UEnv) (i : Nat), (clearGo c i l).length = l.length
  | [], i => rfl
  | v :: l, i => by simp [clearGo, clearGo_length c l]
theorem clearGo_get (c : Code) : ∀ (l : UEnv) (i d : Nat), (clearGo c i l)[d]? = (l[d]?).map fun v => if asg c (i + d) then .junk else v
  | [], i, d => by simp [clearGo]
  | v :: l, i, 0 => by simp [clearGo]
  | v :: l, i, d + 1 => by
    simp only [clearGo, List.getElem?_cons_succ]
    rw [clearGo_get c l (i + 1) d, show i + 1 + d = i + (d + 1) by omega]
theorem clear_rel (r : URels V e te) {c : Code} (hl : te2.length = te.length) (h : ∀ d, asg c d = false → te2[d]? = te[d]?) : URels V (clear c e) te2 := by
  refine URels.of_get (by rw [clear, clearGo_length, hl, r.length]) fun i u hi => ?_
  unfold clear at hi
  rw [clearGo_get, Nat.zero_add, Option.map_eq_some_iff] at hi
  obtain ⟨v, h1, h2⟩ := hi
  have hlt : i < te2.length := by rw [hl, ← r.length]; exact (List.getElem?_eq_some_iff.1 h1).1
  split at h2
  · subst h2
    exact ⟨te2[i], List.getElem?_eq_getElem hlt, .junk _⟩
  · rename_i hc
    subst h2
    obtain ⟨w, h3, h4⟩ := r.get h1
    exact ⟨w, by rw [h i (by simpa using hc)]; exact h3, h4⟩

/-! ### Rows -/
def Off (cs : List (Nat × Nat × PC)) (k off : Nat) : Prop := ∀ p ∈ cs, ¬ (p.1 = k ∧ p.2.1 = off)
theorem setCell_get (objs : List Row) (a b : Nat) (u : UV) (k : Nat) : (setCell objs a b u)[k]? = (objs[k]?).map fun r => if a = k then { r with cs := r.cs.set b u } else r := by
  unfold setCell
  rw [List.getElem?_modify]
  by_cases hk : a = k
  · simp [hk]
  · simp [hk]
theorem setCells_length : ∀ (ps : List (Nat × Nat × PC)) (us : List UV) (objs : List Row), (setCells ps us objs).length = objs.length
  | [], us, objs => by cases us <;> rfl
  | p :: ps, [], objs => rfl
  | p :: ps, u :: us, objs => by simp only [setCells]; rw [setCells_length ps us, setCell, List.length_modify]
theorem setCells_get : ∀ (ps : List (Nat × Nat × PC)) (us : List UV) (objs : List Row) (k : Nat) (r : Row), objs[k]? = some r → us.length = ps.length →
    ∃ r3, (setCells ps us objs)[k]? = some r3 ∧ r3.ty = r.ty ∧ r3.fz = r.fz ∧ r3.cs.length = r.cs.length ∧
      ∀ (off : Nat) (u : UV), r3.cs[off]? = some u → (r.cs[off]? = some u ∧ Off ps k off) ∨ ∃ (i : Nat) (p : Nat × Nat × PC), ps[i]? = some p ∧ us[i]? = some u ∧ p.1 = k ∧ p.2.1 = off
  | [], us, objs, k, r, hr, hl => by
    cases us with
    | nil => exact ⟨r, hr, rfl, rfl, rfl, fun off u hu => .inl ⟨hu, fun p hp => by cases hp⟩⟩
    | cons _ _ => simp at hl
  | p :: ps, [], objs, k, r, hr, hl => by simp at hl
  | p :: ps, u0 :: us, objs, k, r, hr, hl => by
    simp only [setCells]
    have h1 := setCell_get objs p.1 p.2.1 u0 k
    rw [hr, Option.map_some] at h1
    obtain ⟨r3, h2, h3, h4, h5, h6⟩ := setCells_get ps us _ k _ h1 (by simpa using hl)
    refine ⟨r3, h2, ?_, ?_, ?_, fun off u hu => ?_⟩
    · rw [h3]; split <;> rfl
    · rw [h4]; split <;> rfl
    · rw [h5]; split <;> simp
    · rcases h6 off u hu with ⟨h7, h8⟩ | ⟨i, q, h7, h8, h9⟩
      · split at h7
        · rename_i hk
          simp only [List.getElem?_set] at h7
          split at h7
          · rename_i ho
            split at h7
            · cases h7
              exact .inr ⟨0, p, rfl, rfl, hk, ho⟩
            · cases h7
          · rename_i ho
            exact .inl ⟨h7, fun q hq => by
              rcases List.mem_cons.1 hq with rfl | hq
              · exact fun h => ho h.2
              · exact h8 q hq⟩
        · rename_i hk
          exact .inl ⟨h7, fun q hq => by
            rcases List.mem_cons.1 hq with rfl | hq
            · exact fun h => hk h.1
            · exact h8 q hq⟩
      · exact .inr ⟨i + 1, q, by simpa using h7, by simpa using h8, h9⟩
theorem freezeGo_get (cs : List (Nat × Nat × PC)) : ∀ (objs : List Row) (i k : Nat), (freezeGo cs i objs)[k]? = (objs[k]?).map fun r => { r with fz := fzOne (i + k) cs r.cs.length }
  | [], i, k => by simp [freezeGo]
  | r :: l, i, 0 => by simp [freezeGo]
  | r :: l, i, k + 1 => by
    simp only [freezeGo, List.getElem?_cons_succ]
    rw [freezeGo_get cs l (i + 1) k, show i + 1 + k = i + (k + 1) by omega]
theorem freeze_get (cs : List (Nat × Nat × PC)) (objs : List Row) (k : Nat) : (freeze cs objs)[k]? = (objs[k]?).map fun r => { r with fz := fzOne k cs r.cs.length } := by
  unfold freeze
  rw [freezeGo_get, Nat.zero_add]
theorem freezeGo_length (cs : List (Nat × Nat × PC)) : ∀ (objs : List Row) (i : Nat), (freezeGo cs i objs).length = objs.length
  | [], i => rfl
  | r :: l, i => by simp [freezeGo, freezeGo_length cs l]
theorem freeze_length (cs : List (Nat × Nat × PC)) (objs : List Row) : (freeze cs objs).length = objs.length := freezeGo_length cs objs 0
theorem fzOne_get {k n off : Nat} {cs : List (Nat × Nat × PC)} (hn : off < n) (ho : Off cs k off) : (fzOne k cs n)[off]? = some true := by
  unfold fzOne
  rw [List.getElem?_map, List.getElem?_range hn]
  simp only [Option.map_some, Option.some.injEq, Bool.not_eq_true']
  rw [List.any_eq_false]
  intro p hp h
  simp only [Bool.and_eq_true, beq_iff_eq] at h
  exact ho p hp h
/-- How rows may be frozen, in what is told anew. -/
def Fr (fr : List Row → List Row) : Prop := ∀ objs, (fr objs).length = objs.length ∧ ∀ (k : Nat) (r : Row), objs[k]? = some r → ∃ r', (fr objs)[k]? = some r' ∧ r'.ty = r.ty ∧ r'.cs = r.cs
theorem Fr.freeze (cs : List (Nat × Nat × PC)) : Fr (freeze cs) := fun objs => ⟨freeze_length cs objs, fun k r hr => ⟨{ r with fz := fzOne k cs r.cs.length }, by rw [freeze_get, hr]; rfl, rfl, rfl⟩⟩
theorem Fr.id : Fr (fun x => x) := fun objs => ⟨rfl, fun k r hr => ⟨r, hr, rfl, rfl⟩⟩

/-- What has become of the rows. -/
def RowF (s : St) (V : Val) (h : UHeap) (s2 : St) (cs : List (Nat × Nat × PC)) : Prop :=
  ∀ (k o : Nat) (r : Row) (ts : List TV), V.ids[k]? = some o → h.objs[k]? = some r → s.objs.get o = some (.cells ts r.ty) → ∃ ts2 : List TV, s2.objs.get o = some (.cells ts2 r.ty) ∧ ts2.length = ts.length ∧ ∀ off, Off cs k off → ts2[off]? = ts[off]?
theorem RowF.refl (s : St) (V : Val) (h : UHeap) (cs : List (Nat × Nat × PC)) : RowF s V h s cs := fun k o r ts _ _ h3 => ⟨ts, h3, rfl, fun _ _ => rfl⟩

theorem pcs_length (vs : List (Nat × PC)) (cs : List (Nat × Nat × PC)) : (pcs vs cs).length = vs.length + cs.length := by simp [pcs]
theorem injL_length (m : List Nat) : ∀ (ps : List PC) (j : Nat) (d : dens ps), (injL m j ps d).length = ps.length
  | [], j, d => rfl
  | p :: ps, j, d => by simp [injL, injL_length m ps]
theorem ids_get {k K : Nat} (h1 : (ids h)[k]? = some K) : K = k ∧ k < h.objs.length := by
  unfold ids at h1
  have hlt := (List.getElem?_eq_some_iff.1 h1).1
  simp at hlt
  rw [List.getElem?_range hlt] at h1
  cases h1
  exact ⟨rfl, hlt⟩

/-- The state told anew, behind something that was done. -/
theorem scatter_ok (hR : HRel s V h) (r : URels V e te) {c : Code} {vs : List (Nat × PC)} {cs : List (Nat × Nat × PC)} (hc : cellsFree h cs = true) {fr : List Row → List Row} (hf : Fr fr)
    (hn : s.n ≤ s2.n) (hrow : RowF s V h s2 cs) (hl : te2.length = te.length) (ha : ∀ d, asg c d = false → te2[d]? = te[d]?)
    {m2 : List Nat} (hm : ∀ (k K o : Nat), m2[k]? = some K → V2.ids[K]? = some o → V.ids[(ids h).getD k 0]? = some o) (hids : V.ids <+: V2.ids) {tin tout tips : List (Option Tip)} {us : List UV} {d : dens (pcs vs cs)} {sx : St} (hgt : GoodT sx V2 tin) (hx : exL m2 tin (pcs vs cs) us = some (d, tout))
    (ru : URels V2 us (gatherT vs cs te2 s2 V)) (ht : Tips s V h s2 ⟨V.ids, V.tks ++ tksOf (pcs vs cs) (gatherT vs cs te2 s2 V)⟩ (tips ++ toksL (pcs vs cs) d)) (htl : tips.length = h.tips.length) :
    HRel s2 ⟨V.ids, V.tks ++ tksOf (pcs vs cs) (gatherT vs cs te2 s2 V)⟩ (scatter c vs cs (ids h) tips fr e h d).2 ∧ URels ⟨V.ids, V.tks ++ tksOf (pcs vs cs) (gatherT vs cs te2 s2 V)⟩ (scatter c vs cs (ids h) tips fr e h d).1 te2 := by
  generalize hV3 : (⟨V.ids, V.tks ++ tksOf (pcs vs cs) (gatherT vs cs te2 s2 V)⟩ : Val) = V3 at *
  have hle : V.le V3 := by subst hV3; exact ⟨List.prefix_rfl, List.prefix_append _ _⟩
  have hi3 : V3.ids = V.ids := by subst hV3; rfl
  have hus : URels V3 (injL (ids h) tips.length (pcs vs cs) d) (gatherT vs cs te2 s2 V) := by
    refine exL_rel (m' := ids h) (fun k K o h1 h2 => by rw [hi3]; exact hm k K o h1 h2) hgt hx ru fun i t hi => ?_
    subst hV3
    simp only
    rw [htl, ← hR.tlen, List.getElem?_append_right (by omega), Nat.add_sub_cancel_left]
    exact hi
  have hul := injL_length (ids h) (pcs vs cs) tips.length d
  rw [pcs_length] at hul
  have hcl : ((injL (ids h) tips.length (pcs vs cs) d).drop vs.length).length = cs.length := by simp; omega
  have vrel : ∀ (i : Nat) (p : Nat × PC) (u : UV), vs[i]? = some p → (injL (ids h) tips.length (pcs vs cs) d)[i]? = some u → URel V3 u (te2.at p.1) := fun i p u h1 h2 => by
    obtain ⟨v, h3, h4⟩ := hus.get h2
    unfold gatherT at h3
    rw [List.getElem?_append_left (by have := (List.getElem?_eq_some_iff.1 h1).1; simpa using this), List.getElem?_map, h1] at h3
    simp at h3
    rw [h3]
    exact h4
  have crel : ∀ (i : Nat) (p : Nat × Nat × PC) (u : UV), cs[i]? = some p → ((injL (ids h) tips.length (pcs vs cs) d).drop vs.length)[i]? = some u → URel V3 u (cellT s2 V p.1 p.2.1) := fun i p u h1 h2 => by
    rw [List.getElem?_drop] at h2
    obtain ⟨v, h3, h4⟩ := hus.get h2
    unfold gatherT at h3
    rw [List.getElem?_append_right (by simp), List.length_map, Nat.add_sub_cancel_left, List.getElem?_map, h1] at h3
    simp at h3
    rw [h3]
    exact h4
  refine ⟨⟨?_, by rw [hi3]; exact hR.nodup, fun o ho => by rw [hi3] at ho; exact Nat.lt_of_lt_of_le (hR.lt o ho) hn, fun k o r3 hk h3 => ?_, ht.len, ht.tips, ht.tinj, ht.out⟩, setVars_rel (clear_rel (r.mono hle) hl ha) vrel⟩
  · simp only [scatter]
    rw [(hf _).1, setCells_length, hi3, hR.len]
  · rw [hi3] at hk
    simp only [scatter] at h3
    have hlt : k < h.objs.length := by rw [← hR.len]; exact (List.getElem?_eq_some_iff.1 hk).1
    obtain ⟨r0, hr0⟩ : ∃ r0, h.objs[k]? = some r0 := ⟨_, List.getElem?_eq_getElem hlt⟩
    obtain ⟨r1, k1, k2, k3, k4, k5⟩ := setCells_get cs _ h.objs k r0 hr0 hcl
    obtain ⟨r2, k6, k7, k8⟩ := (hf (setCells cs ((injL (ids h) tips.length (pcs vs cs) d).drop vs.length) h.objs)).2 k r1 k1
    rw [h3] at k6
    cases k6
    obtain ⟨ts, h4, h5⟩ := hR.obj k o r0 hk hr0
    obtain ⟨ts2, h6, h7, h8⟩ := hrow k o r0 ts hk hr0 h4
    refine ⟨ts2, by rw [k7, k2]; exact h6, ?_⟩
    rw [k8]
    refine URels.of_get (by rw [k4, h7, h5.length]) fun off u hu => ?_
    rcases k5 off u hu with ⟨h9, h10⟩ | ⟨i, p, h9, h10, rfl, rfl⟩
    · obtain ⟨v, h11, h12⟩ := h5.get h9
      exact ⟨v, by rw [h8 off h10]; exact h11, h12.mono hle⟩
    · have := crel i p u h9 h10
      have hoff : p.2.1 < ts2.length := by
        rw [h7, ← h5.length, ← k4]
        exact (List.getElem?_eq_some_iff.1 hu).1
      refine ⟨ts2[p.2.1], List.getElem?_eq_getElem hoff, ?_⟩
      have e1 : cellT s2 V p.1 p.2.1 = ts2[p.2.1] := by
        unfold cellT
        rw [hk]
        simp only
        rw [h6]
        simp [List.getD_eq_getElem?_getD, hoff]
      rw [← e1]
      exact this
end
end Go.Proofs.YthnhbejjikgifaaGreatDoor.TV

namespace Go.Proofs.YthnhbejjikgifaaGreatDoor.TV
open Go Go.RowKit
set_option linter.unusedSimpArgs false
set_option linter.unusedVariables false

/-- What a piece of code comes to. -/
def COk (P : Program) (c : Code) (e : UEnv) (h : UHeap) (o : Ex × UEnv × UHeap) : Prop := ∀ s V te, HRel s V h → URels V e te →
  ∃ s' V' te', CodeSim P c te s o.1 te' s' ∧ HRel s' V' o.2.2 ∧ URels V' o.2.1 te' ∧ Step s V h s' V' o.2.2 ∧ te'.length = te.length ∧ (∀ d, asg c d = false → te'[d]? = te[d]?) ∧ V.tks <+: V'.tks

section
variable {P : Program} {s s' s2 : St} {V V' V1 V2 V3 : Val} {h h' h1 h2 : UHeap} {e e2 : UEnv} {te te2 : Env}

theorem off_same {a b : List (Nat × Nat × PC)} (hs : sameCells a b = true) {k off : Nat} (ho : Off a k off) : Off b k off := by
  unfold sameCells at hs
  simp only [beq_iff_eq] at hs
  intro p hp hpk
  have : (p.1, p.2.1) ∈ a.map (fun p => (p.1, p.2.1)) := by rw [hs]; exact List.mem_map.2 ⟨p, hp, rfl⟩
  obtain ⟨q, hq, hqe⟩ := List.mem_map.1 this
  simp only [Prod.mk.injEq] at hqe
  exact ho q hq ⟨hqe.1.trans hpk.1, hqe.2.trans hpk.2⟩
theorem same_symm {a b : List (Nat × Nat × PC)} (hs : sameCells a b = true) : sameCells b a = true := by
  unfold sameCells at *
  simp only [beq_iff_eq] at *
  exact hs.symm
theorem free_same {a b : List (Nat × Nat × PC)} (hs : sameCells a b = true) (hf : cellsFree h a = true) : cellsFree h b = true := by
  unfold cellsFree at *
  rw [List.all_eq_true] at *
  intro p hp
  have : (p.1, p.2.1) ∈ a.map (fun p => (p.1, p.2.1)) := by
    unfold sameCells at hs
    simp only [beq_iff_eq] at hs
    rw [hs]
    exact List.mem_map.2 ⟨p, hp, rfl⟩
  obtain ⟨q, hq, hqe⟩ := List.mem_map.1 this
  simp only [Prod.mk.injEq] at hqe
  have := hf q hq
  rw [hqe.1, hqe.2] at this
  exact this
theorem free_get {cs : List (Nat × Nat × PC)} (hc : cellsFree h cs = true) {p : Nat × Nat × PC} (hp : p ∈ cs) : ∃ r, h.objs[p.1]? = some r ∧ p.2.1 < r.cs.length ∧ r.fz[p.2.1]? ≠ some true := by
  unfold cellsFree at hc
  rw [List.all_eq_true] at hc
  have := hc p hp
  split at this
  · rename_i r hr
    simp only [Bool.and_eq_true, decide_eq_true_eq, Bool.not_eq_true'] at this
    refine ⟨r, hr, this.1, fun h1 => ?_⟩
    rw [List.getD_eq_getElem?_getD, h1] at this
    simp at this
  · cases this
theorem cellT_pre (hids : V.ids <+: V2.ids) {k : Nat} (hk : k < V.ids.length) (off : Nat) : cellT s V2 k off = cellT s V k off := by
  unfold cellT
  rw [List.getElem?_eq_getElem hk, prefix_get hids (List.getElem?_eq_getElem hk)]
theorem gatherT_pre (hR : HRel s V h) (hids : V.ids <+: V2.ids) {cs : List (Nat × Nat × PC)} (hc : cellsFree h cs = true) (vs : List (Nat × PC)) (te : Env) : gatherT vs cs te s2 V2 = gatherT vs cs te s2 V := by
  unfold gatherT
  congr 1
  refine List.map_congr_left fun p hp => ?_
  obtain ⟨r, hr, _⟩ := free_get hc hp
  exact cellT_pre hids (by rw [hR.len]; exact (List.getElem?_eq_some_iff.1 hr).1) _

/-- The state in which a piece of code is looked at: nothing but the cells may be changed. -/
structure Head (V : Val) (h : UHeap) (tips : List (Option Tip)) (cs : List (Nat × Nat × PC)) (V1 : Val) (h1 : UHeap) : Prop where
  ids : V1.ids = V.ids
  len : h1.objs.length = h.objs.length
  rows : ∀ (k : Nat) (r : Row), h.objs[k]? = some r → ∃ r1, h1.objs[k]? = some r1 ∧ r1.ty = r.ty ∧ r1.fz = fzOne k cs r.cs.length ∧ r1.cs.length = r.cs.length
  alive : ∀ i, Alive V1 h1 i → Alive V h i ∧ ¬ Held V ⟨h.objs, tips⟩ i
theorem Head.rowF {tips : List (Option Tip)} {cs : List (Nat × Nat × PC)} (H : Head V h tips cs V1 h1) (hR : HRel s V h) (st : Step s V1 h1 s2 V2 h2) : RowF s V h s2 cs := fun k o r ts hk hr hg => by
  obtain ⟨r1, k1, k2, k3, k4⟩ := H.rows k r hr
  obtain ⟨ts2, k5, k6, k7⟩ := st.kept k o r1 ts (by rw [H.ids]; exact hk) k1 (by rw [k2]; exact hg)
  obtain ⟨ts', h5, h6⟩ := hR.obj k o r hk hr
  rw [hg] at h5
  cases h5
  refine ⟨ts2, by rw [← k2]; exact k5, k6, fun off ho => ?_⟩
  by_cases hn : off < r.cs.length
  · exact k7 off (by rw [k3]; exact fzOne_get hn ho)
  · rw [List.getElem?_eq_none (by rw [k6, ← h6.length]; omega), List.getElem?_eq_none (by rw [← h6.length]; omega)]
theorem outcome (hR : HRel s V h) (r : URels V e te) {c : Code} {tips : List (Option Tip)} (hl : LessT tips h.tips) {cs0 cs : List (Nat × Nat × PC)} (hsame : sameCells cs0 cs = true) (H : Head V h tips cs0 V1 h1) (hc : cellsFree h cs0 = true) (st : Step s V1 h1 s2 V2 h2) (hR2 : HRel s2 V2 h2) (r2 : URels V2 e2 te2)
    (hlen : te2.length = te.length) (ha : ∀ d, asg c d = false → te2[d]? = te[d]?) {vs : List (Nat × PC)} {d : dens (pcs vs cs)} {t2 : List (Option Tip)} (hx : exL (ids h) h2.tips (pcs vs cs) (gather vs cs e2 h2) = some (d, t2))
    {tips0 : List (Option Tip)} (hl0 : LessT tips0 tips) {fr : List Row → List Row} (hf : Fr fr) :
    ∃ V3, V3.ids = V.ids ∧ HRel s2 V3 (scatter c vs cs (ids h) tips0 fr e h d).2 ∧ URels V3 (scatter c vs cs (ids h) tips0 fr e h d).1 te2 ∧ Tips s V h s2 V3 (tips0 ++ toksL (pcs vs cs) d) ∧
      V.tks <+: V3.tks ∧ ∀ i, Alive V3 (scatter c vs cs (ids h) tips0 fr e h d).2 i → Alive V2 h2 i ∨ Alive V ⟨h.objs, tips0⟩ i := by
  have hc' := free_same hsame hc
  have hids : V.ids <+: V2.ids := by rw [← H.ids]; exact st.ids
  have hru : URels V2 (gather vs cs e2 h2) (gatherT vs cs te2 s2 V) := by
    rw [← gatherT_pre hR hids hc' vs te2]
    exact gather_rel hR2 r2 vs cs
  have hrow : RowF s V h s2 cs := fun k o r ts h3 h4 h5 => by
    obtain ⟨ts2, k1, k2, k3⟩ := H.rowF hR st k o r ts h3 h4 h5
    exact ⟨ts2, k1, k2, fun off ho => k3 off (off_same (same_symm hsame) ho)⟩
  have T := tips_back hR (hl0.trans hl) (fun o ho => by rw [H.ids] at ho; exact ho) (fun i hi => ⟨(H.alive i hi).1, fun hh => (H.alive i hi).2 (hh.lessT hl0)⟩) st hR2 hx hru V.ids (fun o ho => .inl ho)
  have hm : ∀ (k K o : Nat), (ids h)[k]? = some K → V2.ids[K]? = some o → V.ids[(ids h).getD k 0]? = some o := fun k K o h3 h4 => by
    obtain ⟨rfl, hk⟩ := ids_get h3
    rw [List.getD_eq_getElem?_getD, h3]
    simp only [Option.getD_some]
    rw [← hR.len] at hk
    rw [List.getElem?_eq_getElem hk]
    rw [prefix_get hids (List.getElem?_eq_getElem hk)] at h4
    exact h4
  obtain ⟨k1, k2⟩ := scatter_ok (V2 := V2) (te2 := te2) (c := c) hR r hc' hf st.nle hrow hlen ha hm hids hR2.tips hx hru T (by rw [(hl0.trans hl).1])
  refine ⟨⟨V.ids, V.tks ++ tksOf (pcs vs cs) (gatherT vs cs te2 s2 V)⟩, rfl, k1, k2, T, List.prefix_append _ _, fun i hi => ?_⟩
  obtain ⟨k3, k4⟩ := exL_toks (V := V2) hR2.tips hR2.tinj hx hru
  obtain ⟨j, n, e0, h3, hid, h4, hlv⟩ := hi
  simp only [scatter] at h3 h4
  have htl : V.tks.length = tips0.length := by rw [hR.tlen, (hl0.trans hl).1]
  rcases split_get h3 with h3 | ⟨hj, h5⟩
  · rcases split_get h4 with h4 | ⟨hj, _⟩
    · exact .inr ⟨j, n, e0, h3, hid, h4, hlv⟩
    · have := (List.getElem?_eq_some_iff.1 h3).1; omega
  · obtain ⟨e1, _, k5⟩ := k3 _ n h5
    obtain ⟨j1, k6, k7, _⟩ := k5.2.1 i hid
    exact .inl ⟨j1, n, e1, k6, hid, k7, k5.1⟩

/-- Behind it: what was told ahead of it, with the places told anew. -/
theorem step_tail (hR : HRel s V h) {c : Code} {vs : List (Nat × PC)} {cs0 cs : List (Nat × Nat × PC)} (hsame : sameCells cs0 cs = true) {tips : List (Option Tip)} (H : Head V h tips cs0 V1 h1) (hc : cellsFree h cs0 = true) (st : Step s V1 h1 s2 V2 h2)
    (hi : V3.ids = V.ids) {tips0 : List (Option Tip)} {d : dens (pcs vs cs)} (T : Tips s V h s2 V3 (tips0 ++ toksL (pcs vs cs) d)) : Step s V h s2 V3 (scatter c vs cs (ids h) tips0 (fun x => x) e h d).2 where
  ids := by rw [hi]; exact List.prefix_rfl
  new := fun o ho => by rw [hi] at ho; exact .inl ho
  nle := st.nle
  tle := st.tle
  frame := fun o h3 h4 h5 => st.frame o h3 (by rw [H.ids]; exact h4) fun ha => h5 (H.alive _ ha).1
  tframe := T.tframe
  alive := T.alive
  rows := fun k r hr => by
    have hul := injL_length (ids h) (pcs vs cs) tips0.length d
    rw [pcs_length] at hul
    obtain ⟨r3, k1, k2, k3, k4, _⟩ := setCells_get cs ((injL (ids h) tips0.length (pcs vs cs) d).drop vs.length) h.objs k r hr (by simp; omega)
    exact ⟨r3, k1, k2, k3, k4⟩
  kept := fun k o r ts hk hr hg => by
    obtain ⟨ts2, k1, k2, k3⟩ := H.rowF hR st k o r ts hk hr hg
    refine ⟨ts2, k1, k2, fun off ho => k3 off fun p hp hpk => ?_⟩
    obtain ⟨r', h3, _, h4⟩ := free_get hc hp
    rw [hpk.1, hr] at h3
    cases h3
    rw [hpk.2] at h4
    exact h4 ho

theorem joinU_ok {c : Code} {C : Cut} {f : CodeU} (hf : ∀ e h o, (f e h).Has o → COk P c e h o) {o : Ex × UEnv × UHeap} (ho : (joinU c C f e h).Has o) : COk P c e h o := by
  intro s V te hR r
  unfold joinU at ho
  split at ho
  · rename_i hc
    simp only [Bool.and_eq_true] at hc
    obtain ⟨hc, hsame⟩ := hc
    simp only [forceH_eq] at ho
    obtain ⟨y, h1, h2⟩ : ∃ y, ((f e ⟨freeze C.cells h.objs, dead h.tips⟩).run fun o => match o.1 with
        | .normal => (exL (ids h) o.2.2.tips (pcs C.vars C.cells) (gather C.vars C.cells o.2.1 o.2.2)).map fun r => Sum.inl r.1
        | .ret => (exL (ids h) o.2.2.tips (pcs C.retv C.retc) (gather C.retv C.retc o.2.1 o.2.2)).map fun r => Sum.inr r.1
        | .exit _ => none) = some y ∧ (match y with
      | .inl d => o = (.normal, scatter c C.vars C.cells (ids h) h.tips (fun x => x) e h d)
      | .inr d => o = (.ret, scatter c C.retv C.retc (ids h) h.tips (fun x => x) e h d)) := by
      rcases ho with ⟨d, h1, h2⟩ | ⟨d, h1, h2⟩
      · exact ⟨.inl d, h1, h2.symm⟩
      · exact ⟨.inr d, h1, h2.symm⟩
    rw [Tree.run_has] at h1
    obtain ⟨a, h3, h4⟩ := h1
    have hd : ∀ i, ¬ Alive V ⟨freeze C.cells h.objs, dead h.tips⟩ i := fun i hi => by
      obtain ⟨j, n, e0, _, _, h6, h7⟩ := hi
      exact dead_live h6 h7
    have H : Head V h h.tips C.cells V ⟨freeze C.cells h.objs, dead h.tips⟩ := by
      refine ⟨rfl, freeze_length _ _, fun k r hr => ⟨{ r with fz := fzOne k C.cells r.cs.length }, by rw [freeze_get, hr]; rfl, rfl, rfl, rfl⟩, fun i hi => absurd hi (hd i)⟩
    have hR1 : HRel s V ⟨freeze C.cells h.objs, dead h.tips⟩ := by
      have hR0 := hR.lessT (LessT.dead h.tips)
      refine ⟨by rw [hR.len]; exact (freeze_length _ _).symm, hR.nodup, hR.lt, fun k o r1 hk h5 => ?_, hR0.tlen, hR0.tips, hR0.tinj, hR0.out⟩
      rw [freeze_get] at h5
      obtain ⟨r0, h6, h7⟩ := Option.map_eq_some_iff.1 h5
      subst h7
      exact hR.obj k o r0 hk h6
    obtain ⟨s2, V2, te2, k1, k2, k3, k4, k5, k6, _⟩ := hf e _ a h3 s V te hR1 r
    split at h4
    · rename_i hx
      obtain ⟨⟨d, t2⟩, h5, h6⟩ := Option.map_eq_some_iff.1 h4
      subst h6
      simp only at h2
      subst h2
      obtain ⟨V3, m1, m2, m3, m4, m5, _⟩ := outcome (c := c) (te := te) hR r (LessT.refl _) (by unfold sameCells; simp) H hc k4 k2 k3 k5 k6 h5 (LessT.refl _) Fr.id
      exact ⟨s2, V3, te2, by rw [hx] at k1; exact k1, m2, m3, step_tail hR (by unfold sameCells; simp) H hc k4 m1 m4, k5, k6, m5⟩
    · rename_i hx
      obtain ⟨⟨d, t2⟩, h5, h6⟩ := Option.map_eq_some_iff.1 h4
      subst h6
      simp only at h2
      subst h2
      obtain ⟨V3, m1, m2, m3, m4, m5, _⟩ := outcome (c := c) (te := te) hR r (LessT.refl _) hsame H hc k4 k2 k3 k5 k6 h5 (LessT.refl _) Fr.id
      exact ⟨s2, V3, te2, by rw [hx] at k1; exact k1, m2, m3, step_tail hR hsame H hc k4 m1 m4, k5, k6, m5⟩
    · cases h4
  · exact ho.elim

/-! ### Loops -/
theorem iterN_mono {σ ρ : Type} {f : σ → Option (Rnd σ ρ)} : ∀ {n : Nat} {st : σ} {r : σ ⊕ ρ}, iterN f n st = some r → ∀ k, iterN f (n + k) st = some r
  | 0, st, r, h, k => by cases h
  | n + 1, st, r, h, k => by
    rw [show n + 1 + k = (n + k) + 1 by omega]
    simp only [iterN] at h ⊢
    split at h
    · exact iterN_mono h k
    · exact h
    · exact h
    · cases h
theorem loop_some {σ ρ : Type} {f : σ → Option (Rnd σ ρ)} {st : σ} {r : σ ⊕ ρ} (h : loop f st = some r) : ∃ n, iterN f n st = some r := by
  unfold loop at h
  split at h
  · rename_i hx
    cases h
    exact ⟨_, Classical.choose_spec (Classical.choose_spec hx)⟩
  · cases h
theorem loop_of {σ ρ : Type} {f : σ → Option (Rnd σ ρ)} {st : σ} {r : σ ⊕ ρ} {n : Nat} (h : iterN f n st = some r) : loop f st = some r := by
  unfold loop
  have hx : ∃ n r, iterN f n st = some r := ⟨n, r, h⟩
  rw [dif_pos hx]
  congr 1
  have h1 := Classical.choose_spec (Classical.choose_spec hx)
  have h2 := iterN_mono h (Classical.choose hx)
  have h3 := iterN_mono h1 n
  rw [Nat.add_comm] at h3
  rw [h2] at h3
  exact (Option.some.inj h3).symm
/-- A loop, one round laid open. -/
theorem loop_eq {σ ρ : Type} (f : σ → Option (Rnd σ ρ)) (st : σ) : loop f st = match f st with
    | some (.next st) => loop f st
    | some (.out st) => some (.inl st)
    | some (.ret r) => some (.inr r)
    | none => none := by
  have key : ∀ r, loop f st = some r ↔ (match f st with
    | some (.next st) => loop f st
    | some (.out st) => some (.inl st)
    | some (.ret r) => some (.inr r)
    | none => none) = some r := by
    intro r
    constructor
    · intro h
      obtain ⟨n, hn⟩ := loop_some h
      cases n with
      | zero => cases hn
      | succ n =>
        simp only [iterN] at hn
        cases hf : f st with
        | none => rw [hf] at hn; cases hn
        | some x =>
          rw [hf] at hn
          cases x with
          | next st' => exact loop_of hn
          | out st' => exact hn
          | ret r' => exact hn
    · intro h
      cases hf : f st with
      | none => rw [hf] at h; cases h
      | some x =>
        rw [hf] at h
        cases x with
        | next st' =>
          obtain ⟨n, hn⟩ := loop_some h
          exact loop_of (n := n + 1) (by simp only [iterN, hf]; exact hn)
        | out st' => exact loop_of (n := 1) (by simp only [iterN, hf]; exact h)
        | ret r' => exact loop_of (n := 1) (by simp only [iterN, hf]; exact h)
  cases h : loop f st with
  | some r => exact ((key r).1 h).symm
  | none =>
    symm
    cases h' : (match f st with
    | some (.next st) => loop f st
    | some (.out st) => some (.inl st)
    | some (.ret r) => some (.inr r)
    | none => none) with
    | none => rfl
    | some r => rw [(key r).2 h'] at h; cases h

theorem rounds_next {c : Code} {e0 e1 e' : Env} {s0 s1 s' : St} {x : Ex} {k : Nat} (h1 : CodeSim P c e0 s0 .normal e1 s1) (h3 : RoundsSim P c k e1 s1 x e' s') : RoundsSim P c (k + 1) e0 s0 x e' s' := by
  intro g w a hR hE Q hQ
  rw [rounds_succ]
  refine h1 g w a hR hE _ fun a1 w1 g1 hle hR1 hE1 hd => ?_
  exact h3 g1 w1 a1 hR1 hE1 Q fun a' w' g' hle' hR' hE' hd' => hQ a' w' g' (hle.trans hle') hR' hE' (hd'.trans hd)
theorem rounds_out {c : Code} {e0 e1 : Env} {s0 s1 : St} {x : Ex} (hx : x ≠ .normal) (h1 : CodeSim P c e0 s0 x e1 s1) : RoundsSim P c 1 e0 s0 x e1 s1 := by
  intro g w a hR hE Q hQ
  rw [rounds_succ]
  refine h1 g w a hR hE _ fun a1 w1 g1 hle hR1 hE1 hd => ?_
  have := hQ a1 w1 g1 hle hR1 hE1 hd
  cases x with
  | normal => exact absurd rfl hx
  | exit id => exact this
  | ret => exact this
theorem rounds_loop {c : Code} {e0 e' : Env} {s0 s' : St} {x : Ex} {k : Nat} (h : RoundsSim P c k e0 s0 x e' s') : CodeSim P (.loop c) e0 s0 x e' s' := fun g w a hR hE Q hQ => wp_loop_rounds k (h g w a hR hE Q hQ)
/-- How a block ends. -/
def exBlock (id : Nat) : Ex → Ex
  | .exit i => if i = id then .normal else .exit i
  | x => x
theorem CodeSim.blockX {c : Code} {id : Nat} {e0 e' : Env} {s0 s' : St} {x : Ex} (h : CodeSim P c e0 s0 x e' s') : CodeSim P (.block id c) e0 s0 (exBlock id x) e' s' := by
  have : Do P (.block id c) e0 s0 fun y e1 s1 => y = exBlock id x ∧ e1 = e' ∧ s1 = s' := by
    refine Do.block ⟨x, e', s', h, ?_⟩
    cases x with
    | normal => exact ⟨rfl, rfl, rfl⟩
    | exit i =>
      by_cases hi : i = id
      · simp [Out, exBlock, hi]
      · simp [Out, exBlock, hi]
    | ret => exact ⟨rfl, rfl, rfl⟩
  obtain ⟨y, e1, s1, h1, rfl, rfl, rfl⟩ := this
  exact h1
theorem CodeSim.condX {c : Operand} {x y : Code} {b : Bool} {e0 e' : Env} {s0 s' : St} {z : Ex} (hc : ev e0 c = .bool b) (h : CodeSim P (if b then x else y) e0 s0 z e' s') : CodeSim P (.cond c x y) e0 s0 z e' s' := by
  have : Do P (.cond c x y) e0 s0 fun y e1 s1 => y = z ∧ e1 = e' ∧ s1 = s' := Do.cond hc ⟨z, e', s', h, rfl, rfl, rfl⟩
  obtain ⟨y, e1, s1, h1, rfl, rfl, rfl⟩ := this
  exact h1

theorem cutU_ok {a : Code} {id : Nat} {C : Cut} {f : CodeU} (hf : ∀ e h o, (f e h).Has o → COk P a e h o) {o : Ex × UEnv × UHeap} (ho : (cutU (.loop a) id C f e h).Has o) : COk P (.block id (.loop a)) e h o := by
  intro s V te hR r
  unfold cutU at ho
  split at ho
  · rename_i hc
    simp only [Bool.and_eq_true] at hc
    obtain ⟨hc, hsame⟩ := hc
    split at ho
    · exact ho.elim
    · rename_i d0 tips hx0
      have hl := exL_less hx0
      have hru0 : URels V (gather C.vars C.cells e h) (gatherT C.vars C.cells te s V) := gather_rel hR r _ _
      -- the head
      have T0 := tips_head hR hx0 (LessT.dead tips) hru0
      have hm0 : ∀ (k K o : Nat), (TV.ids h)[k]? = some K → V.ids[K]? = some o → V.ids[(TV.ids h).getD k 0]? = some o := fun k K o h3 h4 => by
        obtain ⟨rfl, hk⟩ := ids_get h3
        rw [List.getD_eq_getElem?_getD, h3]
        exact h4
      have S0 := scatter_ok (V2 := V) (te2 := te) (c := .loop a) hR r hc (Fr.freeze C.cells) (Nat.le_refl _) (RowF.refl s V h C.cells) rfl (fun _ _ => rfl) hm0 List.prefix_rfl hR.tips hx0 hru0 T0 (by rw [((LessT.dead tips).trans hl).1])
      generalize hV1 : (⟨V.ids, V.tks ++ tksOf (pcs C.vars C.cells) (gatherT C.vars C.cells te s V)⟩ : Val) = V1 at S0 T0
      have hi1 : V1.ids = V.ids := by subst hV1; rfl
      have rowsH : ∀ (d : dens (pcs C.vars C.cells)) (k : Nat) (r : Row), h.objs[k]? = some r → ∃ r1, (scatter (.loop a) C.vars C.cells (TV.ids h) (dead tips) (freeze C.cells) e h d).2.objs[k]? = some r1 ∧ r1.ty = r.ty ∧ r1.fz = fzOne k C.cells r.cs.length ∧ r1.cs.length = r.cs.length := fun d k r0 hr => by
        have hul := injL_length (TV.ids h) (pcs C.vars C.cells) (dead tips).length d
        rw [pcs_length] at hul
        obtain ⟨r3, k1, k2, k3, k4, _⟩ := setCells_get C.cells ((injL (TV.ids h) (dead tips).length (pcs C.vars C.cells) d).drop C.vars.length) h.objs k r0 hr (by simp; omega)
        exact ⟨{ r3 with fz := fzOne k C.cells r3.cs.length }, by simp only [scatter]; rw [freeze_get, k1]; rfl, k2, by simp only [k4], k4⟩
      have lenH : ∀ (d : dens (pcs C.vars C.cells)), (scatter (.loop a) C.vars C.cells (TV.ids h) (dead tips) (freeze C.cells) e h d).2.objs.length = h.objs.length := fun d => by simp only [scatter]; rw [freeze_length, setCells_length]
      have H : Head V h tips C.cells V1 (scatter (.loop a) C.vars C.cells (TV.ids h) (dead tips) (freeze C.cells) e h d0).2 := by
        refine ⟨hi1, lenH d0, rowsH d0, fun i hi => ?_⟩
        obtain ⟨j, n, e0, h3, hid, h4, hlv⟩ := hi
        subst hV1
        simp only [scatter] at h3 h4
        have htl : V.tks.length = (dead tips).length := by rw [hR.tlen, ((LessT.dead tips).trans hl).1]
        rcases split_get h3 with h3 | ⟨hj, h5⟩
        · rcases split_get h4 with h4 | ⟨hj, _⟩
          · exact absurd hlv (dead_live h4)
          · have := (List.getElem?_eq_some_iff.1 h3).1; omega
        · obtain ⟨k3, _⟩ := exL_toks (V := V) hR.tips hR.tinj hx0 hru0
          obtain ⟨e1, _, k8⟩ := k3 _ n h5
          obtain ⟨j1, k5, k6, k7⟩ := k8.2.1 i hid
          refine ⟨⟨j1, n, e1, k5, hid, k6, k8.1⟩, fun hh => ?_⟩
          obtain ⟨j2, n2, e2, h6, hid2, h7⟩ := hh
          obtain ⟨e3, h8, _⟩ := hl.2 _ _ h7
          have := hR.tinj j1 j2 i n n2 e1 e3 k5 h6 hid hid2 k6 h8
          subst this
          exact k7 _ h7
      simp only [Tree.Has, forceE_eq, forceH_eq] at ho
      obtain ⟨y, hy, ho⟩ : ∃ y, loop (fun d => ((f (scatter (.loop a) C.vars C.cells (TV.ids h) (dead tips) (freeze C.cells) e h d).1 (scatter (.loop a) C.vars C.cells (TV.ids h) (dead tips) (freeze C.cells) e h d).2).run fun o => match o.1 with
            | .normal => (exL (TV.ids h) o.2.2.tips (pcs C.vars C.cells) (gather C.vars C.cells o.2.1 o.2.2)).map fun r => Rnd.next r.1
            | .exit i => if i = id then (exL (TV.ids h) o.2.2.tips (pcs C.vars C.cells) (gather C.vars C.cells o.2.1 o.2.2)).map fun r => Rnd.out r.1 else none
            | .ret => (exL (TV.ids h) o.2.2.tips (pcs C.retv C.retc) (gather C.retv C.retc o.2.1 o.2.2)).map fun r => Rnd.ret r.1)) d0 = some y ∧ (match y with
        | .inl d => o = (.normal, scatter (.loop a) C.vars C.cells (TV.ids h) tips (fun x => x) e h d)
        | .inr d => o = (.ret, scatter (.loop a) C.retv C.retc (TV.ids h) tips (fun x => x) e h d)) := by
        rcases ho with ⟨d, h1, h2⟩ | ⟨d, h1, h2⟩
        · exact ⟨.inl d, h1, h2.symm⟩
        · exact ⟨.inr d, h1, h2.symm⟩
      obtain ⟨n, hn⟩ := loop_some hy
      -- the rounds
      have key : ∀ (n : Nat) (d : dens (pcs C.vars C.cells)) (s1 : St) (V' : Val) (te1 : Env),
          iterN (fun d => ((f (scatter (.loop a) C.vars C.cells (TV.ids h) (dead tips) (freeze C.cells) e h d).1 (scatter (.loop a) C.vars C.cells (TV.ids h) (dead tips) (freeze C.cells) e h d).2).run fun o => match o.1 with
            | .normal => (exL (TV.ids h) o.2.2.tips (pcs C.vars C.cells) (gather C.vars C.cells o.2.1 o.2.2)).map fun r => Rnd.next r.1
            | .exit i => if i = id then (exL (TV.ids h) o.2.2.tips (pcs C.vars C.cells) (gather C.vars C.cells o.2.1 o.2.2)).map fun r => Rnd.out r.1 else none
            | .ret => (exL (TV.ids h) o.2.2.tips (pcs C.retv C.retc) (gather C.retv C.retc o.2.1 o.2.2)).map fun r => Rnd.ret r.1)) n d = some y →
          HRel s1 V' (scatter (.loop a) C.vars C.cells (TV.ids h) (dead tips) (freeze C.cells) e h d).2 → URels V' (scatter (.loop a) C.vars C.cells (TV.ids h) (dead tips) (freeze C.cells) e h d).1 te1 →
          Step s V1 (scatter (.loop a) C.vars C.cells (TV.ids h) (dead tips) (freeze C.cells) e h d0).2 s1 V' (scatter (.loop a) C.vars C.cells (TV.ids h) (dead tips) (freeze C.cells) e h d).2 →
          te1.length = te.length → (∀ d, asg (.loop a) d = false → te1[d]? = te[d]?) →
          ∃ k x te2 s2 V3, RoundsSim P a k te1 s1 x te2 s2 ∧ HRel s2 V3 o.2.2 ∧ URels V3 o.2.1 te2 ∧ Step s V h s2 V3 o.2.2 ∧ te2.length = te.length ∧ (∀ d, asg (.loop a) d = false → te2[d]? = te[d]?) ∧ V.tks <+: V3.tks ∧ exBlock id x = o.1 := by
        intro n
        induction n with
        | zero => intro d s1 V' te1 h1; cases h1
        | succ n ih =>
          intro d s1 V' te1 h1 hR1 r1 st1 hl1 ha1
          simp only [iterN] at h1
          have body : ∀ {x}, ((f (scatter (.loop a) C.vars C.cells (TV.ids h) (dead tips) (freeze C.cells) e h d).1 (scatter (.loop a) C.vars C.cells (TV.ids h) (dead tips) (freeze C.cells) e h d).2).run fun o => match o.1 with
            | .normal => (exL (TV.ids h) o.2.2.tips (pcs C.vars C.cells) (gather C.vars C.cells o.2.1 o.2.2)).map fun r => Rnd.next r.1
            | .exit i => if i = id then (exL (TV.ids h) o.2.2.tips (pcs C.vars C.cells) (gather C.vars C.cells o.2.1 o.2.2)).map fun r => Rnd.out r.1 else none
            | .ret => (exL (TV.ids h) o.2.2.tips (pcs C.retv C.retc) (gather C.retv C.retc o.2.1 o.2.2)).map fun r => Rnd.ret r.1) = some x →
            ∃ (b : Ex × UEnv × UHeap) (s2 : St) (V2 : Val) (te2 : Env), CodeSim P a te1 s1 b.1 te2 s2 ∧ HRel s2 V2 b.2.2 ∧ URels V2 b.2.1 te2 ∧ Step s V1 (scatter (.loop a) C.vars C.cells (TV.ids h) (dead tips) (freeze C.cells) e h d0).2 s2 V2 b.2.2 ∧ te2.length = te.length ∧ (∀ d, asg (.loop a) d = false → te2[d]? = te[d]?) ∧
              ((b.1 = .normal ∧ ∃ d2 t2, exL (TV.ids h) b.2.2.tips (pcs C.vars C.cells) (gather C.vars C.cells b.2.1 b.2.2) = some (d2, t2) ∧ x = .next d2) ∨
               (b.1 = .exit id ∧ ∃ d2 t2, exL (TV.ids h) b.2.2.tips (pcs C.vars C.cells) (gather C.vars C.cells b.2.1 b.2.2) = some (d2, t2) ∧ x = .out d2) ∨
               (b.1 = .ret ∧ ∃ d2 t2, exL (TV.ids h) b.2.2.tips (pcs C.retv C.retc) (gather C.retv C.retc b.2.1 b.2.2) = some (d2, t2) ∧ x = .ret d2)) := by
            intro x hx
            rw [Tree.run_has] at hx
            obtain ⟨b, h2, h3⟩ := hx
            obtain ⟨s2, V2, te2, k1, k2, k3, k4, k5, k6, _⟩ := hf _ _ b h2 s1 V' te1 hR1 r1
            refine ⟨b, s2, V2, te2, k1, k2, k3, st1.trans k4, k5.trans hl1, fun d hd => (k6 d hd).trans (ha1 d hd), ?_⟩
            split at h3
            · rename_i e1
              obtain ⟨⟨d2, t2⟩, h5, h6⟩ := Option.map_eq_some_iff.1 h3
              exact .inl ⟨e1, d2, t2, h5, h6.symm⟩
            · rename_i i e1
              split at h3
              · rename_i e2
                obtain ⟨⟨d2, t2⟩, h5, h6⟩ := Option.map_eq_some_iff.1 h3
                exact .inr (.inl ⟨by rw [e1, e2], d2, t2, h5, h6.symm⟩)
              · cases h3
            · rename_i e1
              obtain ⟨⟨d2, t2⟩, h5, h6⟩ := Option.map_eq_some_iff.1 h3
              exact .inr (.inr ⟨e1, d2, t2, h5, h6.symm⟩)
          split at h1
          · rename_i d2 hb
            obtain ⟨b, s2, V2, te2, k1, k2, k3, k4, k5, k6, k7⟩ := body hb
            rcases k7 with ⟨e1, d3, t2, h5, h6⟩ | ⟨_, d3, t2, _, h6⟩ | ⟨_, d3, t2, _, h6⟩ <;> cases h6
            obtain ⟨V3, m1, m2, m3, m4, _, m5⟩ := outcome (c := .loop a) (te := te) hR r hl (by unfold sameCells; simp) H hc k4 k2 k3 k5 k6 h5 (LessT.dead tips) (Fr.freeze C.cells)
            have st3 : Step s V1 (scatter (.loop a) C.vars C.cells (TV.ids h) (dead tips) (freeze C.cells) e h d0).2 s2 V3 (scatter (.loop a) C.vars C.cells (TV.ids h) (dead tips) (freeze C.cells) e h d2).2 := by
              refine ⟨by rw [m1, hi1]; exact List.prefix_rfl, fun o ho => .inl (by rw [hi1, ← m1]; exact ho), k4.nle, k4.tle, k4.frame, k4.tframe, fun i hi => ?_, fun k r1 hr1 => ?_, k4.kept⟩
              · rcases m5 i hi with h7 | ⟨j, n, e0, _, _, h7, h8⟩
                · exact k4.alive i h7
                · exact absurd h8 (dead_live h7)
              · have hlt : k < h.objs.length := by rw [← lenH d0]; exact (List.getElem?_eq_some_iff.1 hr1).1
                obtain ⟨r2, q1, q2, q3, q4⟩ := rowsH d0 k _ (List.getElem?_eq_getElem hlt)
                obtain ⟨r3, q5, q6, q7, q8⟩ := rowsH d2 k _ (List.getElem?_eq_getElem hlt)
                rw [hr1] at q1
                cases q1
                exact ⟨r3, q5, q6.trans q2.symm, q7.trans q3.symm, q8.trans q4.symm⟩
            obtain ⟨k, x, te3, s3, V4, p1, p2⟩ := ih d2 s2 V3 te2 h1 m2 m3 st3 k5 k6
            rw [e1] at k1
            exact ⟨k + 1, x, te3, s3, V4, rounds_next k1 p1, p2⟩
          · rename_i d2 hb
            cases h1
            simp only at ho
            subst ho
            obtain ⟨b, s2, V2, te2, k1, k2, k3, k4, k5, k6, k7⟩ := body hb
            rcases k7 with ⟨_, d3, t2, _, h6⟩ | ⟨e1, d3, t2, h5, h6⟩ | ⟨_, d3, t2, _, h6⟩ <;> cases h6
            obtain ⟨V3, m1, m2, m3, m4, m6, m5⟩ := outcome (c := .loop a) (te := te) hR r hl (by unfold sameCells; simp) H hc k4 k2 k3 k5 k6 h5 (LessT.refl tips) Fr.id
            rw [e1] at k1
            exact ⟨1, .exit id, te2, s2, V3, rounds_out (by simp) k1, m2, m3, step_tail hR (by unfold sameCells; simp) H hc k4 m1 m4, k5, k6, m6, by simp [exBlock]⟩
          · rename_i d2 hb
            cases h1
            simp only at ho
            subst ho
            obtain ⟨b, s2, V2, te2, k1, k2, k3, k4, k5, k6, k7⟩ := body hb
            rcases k7 with ⟨_, d3, t2, _, h6⟩ | ⟨_, d3, t2, _, h6⟩ | ⟨e1, d3, t2, h5, h6⟩ <;> cases h6
            obtain ⟨V3, m1, m2, m3, m4, m6, m5⟩ := outcome (c := .loop a) (te := te) hR r hl hsame H hc k4 k2 k3 k5 k6 h5 (LessT.refl tips) Fr.id
            rw [e1] at k1
            exact ⟨1, .ret, te2, s2, V3, rounds_out (by simp) k1, m2, m3, step_tail hR hsame H hc k4 m1 m4, k5, k6, m6, rfl⟩
          · cases h1
      obtain ⟨k, x, te2, s2, V3, p1, p2, p3, p4, p5, p6, p8, p7⟩ := key n d0 s V1 te hn S0.1 S0.2 (Step.refl _ _ _) rfl (fun _ _ => rfl)
      refine ⟨s2, V3, te2, ?_, p2, p3, p4, p5, p6, p8⟩
      rw [← p7]
      exact (rounds_loop p1).blockX
  · exact ho.elim
end
end Go.Proofs.YthnhbejjikgifaaGreatDoor.TV
