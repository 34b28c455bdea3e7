/-
  TV: the world's relation to the store; new rows, new objects, objects written, rows appended to.
-/
import Derived.Test.YtmmofmkencnldaaGreatDoorTVRel
namespace Go.Proofs.YtmmofmkencnldaaGreatDoor.TV
open Go Go.RowKit
set_option linter.unusedSimpArgs false
set_option linter.unusedVariables false

inductive EntRel (g : G) : List MapEntry → List (TV × TV × Nat) → Prop where
  | nil : EntRel g [] []
  | cons (e : MapEntry) (k v : TV) (n : Nat) (es : List MapEntry) (ts : List (TV × TV × Nat)) : VRel g e.key k → VRel g e.val v → e.born = n → EntRel g es ts → EntRel g (e :: es) ((k, v, n) :: ts)
theorem EntRel.mono {g g' : G} (h : g.le g') {es : List MapEntry} {ts : List (TV × TV × Nat)} (r : EntRel g es ts) : EntRel g' es ts := by
  induction r with
  | nil => exact .nil
  | cons e k v n es ts h1 h2 h3 _ ih => exact .cons e k v n es ts (h1.mono h) (h2.mono h) h3 ih

/-- What lies at block b begins with the object. -/
def ObjRel (g : G) (w : World) (b : Nat) : Obj → Prop
  | .cells cs t => ∃ vs : Array Value, w.heap[b]? = some (.cells vs t (0, 0)) ∧ VRels g (vs.toList.take cs.length) cs
  | .map es clock => ∃ rs : Array MapEntry, w.heap[b]? = some (.map rs clock) ∧ EntRel g rs.toList es

theorem ObjRel.mono {g g' : G} (h : g.le g') {w : World} {b : Nat} {o : Obj} (r : ObjRel g w b o) : ObjRel g' w b o := by
  cases o with
  | cells cs t => obtain ⟨vs, h1, h2⟩ := r; exact ⟨vs, h1, h2.mono h⟩
  | map es clock => obtain ⟨rs, h1, h2⟩ := r; exact ⟨rs, h1, h2.mono h⟩
theorem ObjRel.block {g : G} {w w' : World} {b : Nat} {o : Obj} (r : ObjRel g w b o) (e : w'.heap[b]? = w.heap[b]?) : ObjRel g w' b o := by
  cases o with
  | cells cs t => obtain ⟨vs, h1, h2⟩ := r; exact ⟨vs, e.trans h1, h2⟩
  | map es clock => obtain ⟨rs, h1, h2⟩ := r; exact ⟨rs, e.trans h1, h2⟩
theorem ObjRel.lt {g : G} {w : World} {b : Nat} {o : Obj} (r : ObjRel g w b o) : b < w.heap.size := by
  cases o with
  | cells cs t => obtain ⟨vs, h1, h2⟩ := r; exact (Array.getElem?_eq_some_iff.1 h1).1
  | map es clock => obtain ⟨rs, h1, h2⟩ := r; exact (Array.getElem?_eq_some_iff.1 h1).1

/-- A row that may be appended to. -/
structure TokAt (P : Program) (g : G) (w : World) (i b cap : Nat) (e : TypeId) (xs : List Value) : Prop where
  own : w.ownsRow g.base e (P.cellsOf e) (.slice (some ⟨b, 0, none⟩) (g.tip i) cap) (g.tip i) xs
  size : 0 < P.cellsOf e
  tip : 0 < g.tip i
  sol : ∀ j, g.sol b j = xs[j]?

/-- An object of which nothing is told. -/
def Empty (s : St) (o : Nat) : Prop := ∃ t, s.objs.get o = some (.cells [] t)

structure Rel (P : Program) (g : G) (w : World) (s : St) : Prop where
  below : Below g.base g.w0 w
  bsize : g.base ≤ w.heap.size
  sol : ∀ b i v, g.sol b i = some v → w.cell? ⟨b, i, none⟩ = some v
  ids : ∀ o b, g.φ o = some b → o < s.n ∧ g.base ≤ b
  inj : ∀ o o' b, g.φ o = some b → g.φ o' = some b → ¬ Empty s o → ¬ Empty s o' → o = o'
  nosol : ∀ o b i, g.φ o = some b → ¬ Empty s o → g.sol b i = none
  rows : ∀ o b cap e, g.φ o = some b → g.rc o = some (cap, e) → ∃ vs : Array Value, w.heap[b]? = some (.cells vs e (0, 0)) ∧ vs.size = cap * P.cellsOf e
  apart : ∀ i o b c, i < g.ntips → g.loc i = some (b, c) → g.φ o = some b → False
  rcs : ∀ o x, g.rc o = some x → o < s.n
  obj : ∀ o b, g.φ o = some b → ∃ ob, s.objs.get o = some ob ∧ ObjRel g w b ob
  nts : g.ntips = s.ntips
  toks : ∀ i, i < g.ntips → ∃ b cap e xs, g.loc i = some (b, cap) ∧ s.tips.get i = some (g.tip i, e) ∧ TokAt P g w i b cap e xs
  tinj : ∀ i j b c c', i < g.ntips → j < g.ntips → g.loc i = some (b, c) → g.loc j = some (b, c') → i = j

section
variable {P : Program} {g : G} {w w' : World} {s : St}

theorem Rel.sol_lt (h : Rel P g w s) {b i : Nat} {v : Value} (e : g.sol b i = some v) : b < w.heap.size :=
  World.block_lt_of_cell? w ⟨b, i, none⟩ (h.sol b i v e)
theorem Rel.obj_lt (h : Rel P g w s) {o b : Nat} (e : g.φ o = some b) : b < w.heap.size := by
  obtain ⟨ob, _, r⟩ := h.obj o b e
  exact r.lt
theorem TokAt.lt {i b cap : Nat} {e : TypeId} {xs : List Value} (t : TokAt P g w i b cap e xs) : g.base ≤ b ∧ b < w.heap.size := t.own.lt b rfl
theorem TokAt.sol0 {i b cap : Nat} {e : TypeId} {xs : List Value} (t : TokAt P g w i b cap e xs) : ∃ v, g.sol b 0 = some v := by
  have hl : xs.length = g.tip i * P.cellsOf e := t.own.1
  have : 0 < xs.length := by rw [hl]; exact Nat.mul_pos t.tip t.size
  exact ⟨xs[0], by rw [t.sol 0, List.getElem?_eq_getElem this]⟩
theorem TokAt.block {i b cap : Nat} {e : TypeId} {xs : List Value} (t : TokAt P g w i b cap e xs) (hb : w'.heap[b]? = w.heap[b]?) : TokAt P g w' i b cap e xs :=
  ⟨by
    refine ⟨t.own.1, ?_⟩
    rcases t.own.2 with h | ⟨g', c', cur, h1, h2, h3, h4⟩
    · exact .inl h
    · have : g' = b := by injection h1 with h1; injection h1 with h1; injection h1 with h1; exact h1.symm
      subst this
      exact .inr ⟨g', c', cur, h1, h2, hb.trans h3, h4⟩, t.size, t.tip, t.sol⟩

/-- Nothing that was there has turned. -/
theorem Rel.keep (h : Rel P g w s) (hb : Below w.heap.size w w') : Rel P g w' s where
  below := h.below.trans (hb.mono h.bsize)
  bsize := Nat.le_trans h.bsize hb.size
  sol := fun b i v e => by
    have := h.sol b i v e
    rw [← this]
    exact hb.cell (p := ⟨b, i, none⟩) (h.sol_lt e)
  ids := h.ids
  inj := h.inj
  nosol := h.nosol
  rows := fun o b cap e ho hr => by
    obtain ⟨vs, h1, h2⟩ := h.rows o b cap e ho hr
    exact ⟨vs, (hb.block b (h.obj_lt ho)).trans h1, h2⟩
  apart := h.apart
  rcs := h.rcs
  obj := fun o b e => by
    obtain ⟨ob, h1, h2⟩ := h.obj o b e
    exact ⟨ob, h1, h2.block (hb.block b h2.lt)⟩
  nts := h.nts
  toks := fun i hi => by
    obtain ⟨b, cap, e, xs, h1, h2, h3⟩ := h.toks i hi
    exact ⟨b, cap, e, xs, h1, h2, h3.block (hb.block b h3.lt.2)⟩
  tinj := h.tinj

theorem Rel.drew (h : Rel P g w s) : Rel P g w.drew s := h.keep ((Below.refl _ _).drew)

/-- New cells that stay for ever. -/
def G.addSol (g : G) (b : Nat) (vs : List Value) : G := { g with
  sol := fun c i => if c = b ∧ g.base ≤ b then vs[i]? else g.sol c i
  hG := fun n i k z h => by
    obtain ⟨h1, h2⟩ := g.hG n i k z h
    exact ⟨h1, by rw [if_neg (by omega)]; exact h2⟩ }

theorem Rel.newData (h : Rel P g w s) (hb : Below w.heap.size w w') {b : Nat} (hlt : w.heap.size ≤ b) {vs : List Value}
    (hc : ∀ i v, vs[i]? = some v → w'.cell? ⟨b, i, none⟩ = some v) : g.le (g.addSol b vs) ∧ Rel P (g.addSol b vs) w' s ∧ SolAt (g.addSol b vs) b 0 vs := by
  have hle : g.le (g.addSol b vs) := by
    refine ⟨rfl, rfl, fun _ _ e => e, fun c i v e => ?_, Nat.le_refl _, fun _ _ => Nat.le_refl _, fun _ _ _ => rfl, fun c i v hc e => by
      have := h.bsize
      simp only [G.addSol] at e
      rw [if_neg (by omega)] at e
      exact e, fun _ _ e => e⟩
    have := h.sol_lt e
    simp only [G.addSol]
    rw [if_neg (by omega)]
    exact e
  have k := h.keep hb
  refine ⟨hle, ⟨k.below, k.bsize, fun c i v e => ?_, k.ids, k.inj, fun o c i e hne => ?_, k.rows, k.apart, k.rcs, fun o c e => ?_, k.nts, fun i hi => ?_, k.tinj⟩, fun i v e => ?_⟩
  · simp only [G.addSol] at e
    split at e
    · rename_i hcb; obtain ⟨rfl, _⟩ := hcb; exact hc i v e
    · exact k.sol c i v e
  · have := h.obj_lt e
    simp only [G.addSol]
    rw [if_neg (by omega)]
    exact k.nosol o c i e hne
  · obtain ⟨ob, h1, h2⟩ := k.obj o c e
    exact ⟨ob, h1, h2.mono hle⟩
  · obtain ⟨c, cap, e, xs, h1, h2, h3⟩ := h.toks i hi
    obtain ⟨c', cap', e', xs', h1', h2', h3'⟩ := k.toks i hi
    refine ⟨c', cap', e', xs', h1', h2', ⟨h3'.own, h3'.size, h3'.tip, fun j => ?_⟩⟩
    rw [h1] at h1'
    cases h1'
    have := h3.lt.2
    simp only [G.addSol]
    rw [if_neg (by omega)]
    exact h3'.sol j
  · have hbb : g.base ≤ b := Nat.le_trans h.bsize hlt
    simp [G.addSol, e, hbb]

/-- A new object. -/
def G.addObj (g : G) (o b : Nat) : G := { g with φ := fun p => if p = o then some b else g.φ p }

theorem Rel.newObj (h : Rel P g w s) (hb : Below w.heap.size w w') {b : Nat} (hlt : w.heap.size ≤ b) {ob : Obj} (hr : ObjRel g w' b ob) :
    g.le (g.addObj s.n b) ∧ Rel P (g.addObj s.n b) w' (mkObj s ob) ∧ (g.addObj s.n b).φ s.n = some b := by
  have hφ : g.φ s.n = none := by
    cases e : g.φ s.n with
    | none => rfl
    | some c => have := (h.ids _ _ e).1; omega
  have hle : g.le (g.addObj s.n b) := by
    refine ⟨rfl, rfl, fun o c e => ?_, fun _ _ _ e => e, Nat.le_refl _, fun _ _ => Nat.le_refl _, fun _ _ _ => rfl, fun _ _ _ _ e => e, fun _ _ e => e⟩
    simp only [G.addObj]
    rw [if_neg (fun eo => by subst eo; rw [hφ] at e; cases e)]
    exact e
  have k := h.keep hb
  have hemp : ∀ o, o ≠ s.n → (Empty (mkObj s ob) o ↔ Empty s o) := fun o ho => by
    unfold Empty mkObj
    simp only [Tr.get_set, if_neg ho]
  refine ⟨hle, ⟨k.below, k.bsize, k.sol, fun o c e => ?_, fun o o' c e e' n1 n2 => ?_, fun o c i e n1 => ?_, fun o c cap el e hr => ?_, fun i o c c' hi hl e => ?_, fun o x e => ?_, fun o c e => ?_, k.nts, fun i hi => ?_, k.tinj⟩, by simp [G.addObj]⟩
  · simp only [G.addObj] at e
    simp only [mkObj]
    split at e
    · rename_i ho; subst ho; cases e; exact ⟨by omega, Nat.le_trans h.bsize hlt⟩
    · have := k.ids o c e; exact ⟨by omega, this.2⟩
  · simp only [G.addObj] at e e'
    split at e <;> split at e'
    · simp_all
    · rename_i h1 h2; cases e; have := h.obj_lt e'; omega
    · rename_i h1 h2; cases e'; have := h.obj_lt e; omega
    · rename_i h1 h2; exact k.inj _ _ _ e e' (fun q => n1 ((hemp _ h1).2 q)) (fun q => n2 ((hemp _ h2).2 q))
  · simp only [G.addObj] at e
    split at e
    · cases e
      show g.sol _ i = none
      cases es : g.sol b i with
      | none => rfl
      | some v => have := h.sol_lt es; omega
    · rename_i h1; exact k.nosol o c i e (fun q => n1 ((hemp _ h1).2 q))
  · simp only [G.addObj] at e
    split at e
    · rename_i ho; subst ho; have hlt' := h.rcs _ _ hr; omega
    · exact k.rows o c cap el e hr
  · simp only [G.addObj] at e
    split at e
    · cases e
      obtain ⟨c1, cap1, e1, xs1, h1, h2, h3⟩ := h.toks i hi
      have hl' : g.loc i = some (b, c') := hl
      rw [h1] at hl'
      cases hl'
      have := h3.lt.2
      omega
    · exact k.apart i o c c' hi hl e
  · have hlt' := h.rcs o x e
    show o < s.n + 1
    omega
  · simp only [G.addObj] at e
    show ∃ ob', (s.objs.set s.n ob).get o = some ob' ∧ _
    simp only [Tr.get_set]
    split at e
    · rename_i ho; subst ho; cases e; exact ⟨ob, by simp, hr.mono hle⟩
    · rename_i ho
      obtain ⟨ob', h1, h2⟩ := k.obj o c e
      exact ⟨ob', by rw [if_neg ho]; exact h1, h2.mono hle⟩
  · obtain ⟨c, cap, e, xs, h1, h2, h3⟩ := k.toks i hi
    exact ⟨c, cap, e, xs, h1, h2, ⟨h3.own, h3.size, h3.tip, h3.sol⟩⟩

/-- An object is written. -/
theorem Rel.setObj (h : Rel P g w s) {o b : Nat} (ho : g.φ o = some b) (hb : ∀ k, k ≠ b → w'.heap[k]? = w.heap[k]?) (hos : w'.os = w.os) (htape : w'.tape = w.tape) (hout : w'.output = w.output)
    (hsize : w'.heap.size = w.heap.size) (hne : ¬ Empty s o) (hsh : ∀ (vs : Array Value) (e : TypeId), w.heap[b]? = some (.cells vs e (0, 0)) → ∃ vs' : Array Value, w'.heap[b]? = some (.cells vs' e (0, 0)) ∧ vs'.size = vs.size) {ob : Obj} (hr : ObjRel g w' b ob) : Rel P g w' { s with objs := s.objs.set o ob } where
  below := h.below.trans ⟨hos, htape, hout, by omega, fun k hk => hb k (by have := (h.ids o b ho).2; omega)⟩
  bsize := by rw [hsize]; exact h.bsize
  sol := fun c i v e => by
    rw [← h.sol c i v e]
    refine World.cell?_of_block (w := w) (hb c (fun ec => ?_))
    subst ec
    rw [h.nosol o c i ho hne] at e
    cases e
  ids := h.ids
  inj := fun p q c e e' n1 n2 => by
    have hem : ∀ p, p ≠ o → Empty s p → Empty { s with objs := s.objs.set o ob } p := fun p hp ⟨t, ht⟩ => ⟨t, by simp only [Tr.get_set, if_neg hp]; exact ht⟩
    refine h.inj p q c e e' (fun k => ?_) (fun k => ?_)
    · by_cases hp : p = o
      · subst hp; exact hne k
      · exact n1 (hem p hp k)
    · by_cases hp : q = o
      · subst hp; exact hne k
      · exact n2 (hem q hp k)
  nosol := fun p c i e n1 => by
    refine h.nosol p c i e (fun k => ?_)
    by_cases hp : p = o
    · subst hp; exact hne k
    · obtain ⟨t, ht⟩ := k
      exact n1 ⟨t, by simp only [Tr.get_set, if_neg hp]; exact ht⟩
  rows := fun p c cap e hp hrc => by
    obtain ⟨vs, h1, h2⟩ := h.rows p c cap e hp hrc
    by_cases hc : c = b
    · subst hc
      obtain ⟨vs', h3, h4⟩ := hsh vs e h1
      exact ⟨vs', h3, h4.trans h2⟩
    · exact ⟨vs, (hb c hc).trans h1, h2⟩
  apart := h.apart
  rcs := h.rcs
  obj := fun p c e => by
    show ∃ ob', (s.objs.set o ob).get p = some ob' ∧ _
    simp only [Tr.get_set]
    by_cases hp : p = o
    · subst hp
      rw [ho] at e
      cases e
      exact ⟨ob, by simp, hr⟩
    · obtain ⟨ob', h1, h2⟩ := h.obj p c e
      by_cases hc : c = b
      · subst hc
        have hpe : Empty s p := Classical.byContradiction fun k => hp (h.inj _ _ _ e ho k hne)
        obtain ⟨t, ht⟩ := hpe
        rw [h1] at ht
        cases ht
        obtain ⟨vs, h3, _⟩ := h2
        obtain ⟨vs', h5, _⟩ := hsh vs t h3
        exact ⟨.cells [] t, by rw [if_neg hp]; exact h1, vs', h5, by simpa using VRels.nil⟩
      · exact ⟨ob', by rw [if_neg hp]; exact h1, h2.block (hb c hc)⟩
  nts := h.nts
  toks := fun i hi => by
    obtain ⟨c, cap, e, xs, h1, h2, h3⟩ := h.toks i hi
    refine ⟨c, cap, e, xs, h1, h2, h3.block (hb c (fun ec => ?_))⟩
    subst ec
    exact h.apart i o c cap hi h1 ho
  tinj := h.tinj

theorem heap_setRow_ne (w : World) (b : Nat) (cs : Array Value) (k : Nat) (hk : k ≠ b) : (w.setRow b cs).heap[k]? = w.heap[k]? := by
  simp only [World.setRow, Array.getElem?_modify]
  rw [if_neg (fun e => hk e.symm)]
theorem size_setRow (w : World) (b : Nat) (cs : Array Value) : (w.setRow b cs).heap.size = w.heap.size := by simp [World.setRow]

/-- Cells of an object are written. -/
theorem Rel.setCells (h : Rel P g w s) {o b : Nat} (ho : g.φ o = some b) {vs : Array Value} {t : TypeId} (hv : w.heap[b]? = some (.cells vs t (0, 0))) {vs' : Array Value} {cs : List TV}
    (hne : ¬ Empty s o) (hsz : vs'.size = vs.size) (hr : VRels g (vs'.toList.take cs.length) cs) : Rel P g (w.setRow b vs') { s with objs := s.objs.set o (.cells cs t) } :=
  h.setObj ho (fun k hk => heap_setRow_ne w b vs' k hk) rfl rfl rfl (size_setRow w b vs') hne (fun us e he => by
    rw [hv] at he
    cases he
    exact ⟨vs', setRow_heap w b vs vs' t (0, 0) hv, hsz⟩) ⟨vs', setRow_heap w b vs vs' t (0, 0) hv, hr⟩

/-- A row is appended to: it lies now at block b (its own still, or a new one). -/
def G.addTip (g : G) (i n b cap : Nat) (xs : List Value) : G :=
  { g with
    sol := fun c j => if c = b ∧ g.base ≤ b then xs[j]? else g.sol c j
    hG := fun n i k z h => by
      obtain ⟨h1, h2⟩ := g.hG n i k z h
      exact ⟨h1, by rw [if_neg (by omega)]; exact h2⟩
    tip := fun j => if j = i then n else g.tip j
    loc := fun j => if j = i then some (b, cap) else g.loc j
    ntips := max g.ntips (i + 1) }
def St.addTip (s : St) (i n : Nat) (e : TypeId) : St := { s with ntips := max s.ntips (i + 1), tips := s.tips.set i (n, e) }

theorem Rel.appendNew (h : Rel P g w s) (hb : Below w.heap.size w w') {i n b cap : Nat} {e : TypeId} {xs : List Value} (hi : i ≤ s.ntips) (hn : i < s.ntips → g.tip i < n) (hn0 : 0 < n)
    (hlt : w.heap.size ≤ b) (hs : 0 < P.cellsOf e) (ho : w'.ownsRow g.base e (P.cellsOf e) (.slice (some ⟨b, 0, none⟩) n cap) n xs) :
    g.le (g.addTip i n b cap xs) ∧ Rel P (g.addTip i n b cap xs) w' (s.addTip i n e) := by
  have hbb : g.base ≤ b := Nat.le_trans h.bsize hlt
  have hle : g.le (g.addTip i n b cap xs) := by
    refine ⟨rfl, rfl, fun _ _ e => e, fun c j v e => ?_, Nat.le_max_left _ _, fun j hj => ?_, fun j hj e => ?_, fun c j v hc e => by
      have := h.bsize
      simp only [G.addTip] at e
      rw [if_neg (by omega)] at e
      exact e, fun _ _ e => e⟩
    · have := h.sol_lt e
      simp only [G.addTip]
      rw [if_neg (by omega)]
      exact e
    · simp only [G.addTip]
      split
      · rename_i hji; subst hji; have := hn (by rw [← h.nts]; exact hj); omega
      · exact Nat.le_refl _
    · simp only [G.addTip] at e ⊢
      split
      · rename_i hji; subst hji; rw [if_pos rfl] at e; have := hn (by rw [← h.nts]; exact hj); omega
      · rfl
  have k := h.keep hb
  have hcell : ∀ j v, xs[j]? = some v → w'.cell? ⟨b, j, none⟩ = some v := fun j v e => by
    have := ho.cells (g := b) rfl j v e
    have hadd : (⟨b, 0, none⟩ : Addr).add j = ⟨b, j, none⟩ := by unfold Addr.add; split <;> simp_all
    rwa [hadd] at this
  refine ⟨hle, ⟨k.below, k.bsize, fun c j v e => ?_, k.ids, k.inj, fun o c j e hne => ?_, k.rows, fun j o c c' hj hl e => ?_, k.rcs, fun o c e => ?_, ?_, fun j hj => ?_, fun j l c c1 c2 hj hl e1 e2 => ?_⟩⟩
  · simp only [G.addTip] at e
    split at e
    · rename_i hcb; obtain ⟨rfl, _⟩ := hcb; exact hcell j v e
    · exact k.sol c j v e
  · have := h.obj_lt e
    simp only [G.addTip]
    rw [if_neg (by omega)]
    exact k.nosol o c j e hne
  · have hlt' := h.obj_lt e
    have hj' : j < max g.ntips (i + 1) := hj
    have hnt := h.nts
    simp only [G.addTip] at hl
    split at hl
    · cases hl; omega
    · exact h.apart j o c c' (by omega) hl e
  · obtain ⟨ob, h1, h2⟩ := k.obj o c e
    exact ⟨ob, h1, h2.mono hle⟩
  · show max g.ntips (i + 1) = max s.ntips (i + 1)
    rw [h.nts]
  · show ∃ b1 cap1 e1 xs1, _ ∧ (s.tips.set i (n, e)).get j = _ ∧ _
    simp only [Tr.get_set]
    by_cases hji : j = i
    · subst hji
      refine ⟨b, cap, e, xs, by simp [G.addTip], by simp [G.addTip], ?_, hs, by simpa [G.addTip] using hn0, fun l => by simp [G.addTip, hbb]⟩
      simpa [G.addTip] using ho
    · have hj' : j < g.ntips := by
        have : j < max g.ntips (i + 1) := hj
        have := h.nts
        omega
      obtain ⟨c, cap1, e1, xs1, h1, h2, h3⟩ := h.toks j hj'
      obtain ⟨c', cap1', e1', xs1', h1', h2', h3'⟩ := k.toks j hj'
      rw [h1] at h1'
      cases h1'
      refine ⟨c, cap1, e1', xs1', by simp [G.addTip, hji, h1], by simp [G.addTip, hji, h2'], ?_, h3'.size, by simpa [G.addTip, hji] using h3'.tip, fun l => ?_⟩
      · simpa [G.addTip, hji] using h3'.own
      · have := h3.lt.2
        simp only [G.addTip]
        rw [if_neg (by omega)]
        exact h3'.sol l
  · have hj' : j < max g.ntips (i + 1) := hj
    have hl' : l < max g.ntips (i + 1) := hl
    have hnt := h.nts
    simp only [G.addTip] at e1 e2
    by_cases hji : j = i <;> by_cases hli : l = i
    · omega
    · rw [if_pos hji] at e1
      rw [if_neg hli] at e2
      cases e1
      obtain ⟨c', _, _, _, h1, _, h3⟩ := h.toks l (by omega)
      rw [h1] at e2
      cases e2
      have := h3.lt.2
      omega
    · rw [if_neg hji] at e1
      rw [if_pos hli] at e2
      cases e2
      obtain ⟨c', _, _, _, h1, _, h3⟩ := h.toks j (by omega)
      rw [h1] at e1
      cases e1
      have := h3.lt.2
      omega
    · rw [if_neg hji] at e1
      rw [if_neg hli] at e2
      exact k.tinj j l c c1 c2 (by omega) (by omega) e1 e2

theorem Rel.appendIn (h : Rel P g w s) {i n b cap : Nat} {e : TypeId} {xs : List Value} {cur cur' : Array Value} (hi : i < g.ntips) (hl : g.loc i = some (b, cap)) (ht : s.tips.get i = some (g.tip i, e))
    (hn : g.tip i < n) (hcur : w.heap[b]? = some (.cells cur e (0, 0))) (hs : 0 < P.cellsOf e) (hpre : ∀ j v, g.sol b j = some v → xs[j]? = some v)
    (ho : (w.setRow b cur').ownsRow g.base e (P.cellsOf e) (.slice (some ⟨b, 0, none⟩) n cap) n xs) :
    g.le (g.addTip i n b cap xs) ∧ Rel P (g.addTip i n b cap xs) (w.setRow b cur') (s.addTip i n e) := by
  obtain ⟨b0, cap0, e0, xs0, h1, h2, h3⟩ := h.toks i hi
  rw [hl] at h1
  cases h1
  rw [ht] at h2
  cases h2
  have hbb : g.base ≤ b := h3.lt.1
  have hle : g.le (g.addTip i n b cap xs) := by
    refine ⟨rfl, rfl, fun _ _ e => e, fun c j v e => ?_, Nat.le_max_left _ _, fun j hj => ?_, fun j hj e => ?_, fun c j v hc e => by
      have := h3.lt.1
      simp only [G.addTip] at e
      rw [if_neg (by omega)] at e
      exact e, fun _ _ e => e⟩
    · simp only [G.addTip]
      split
      · rename_i hc; obtain ⟨rfl, _⟩ := hc; exact hpre j v e
      · exact e
    · simp only [G.addTip]
      split
      · rename_i hji; subst hji; omega
      · exact Nat.le_refl _
    · simp only [G.addTip] at e ⊢
      split
      · rename_i hji; subst hji; rw [if_pos rfl] at e; omega
      · rfl
  have hne : ∀ k, k ≠ b → (w.setRow b cur').heap[k]? = w.heap[k]? := fun k hk => heap_setRow_ne w b cur' k hk
  have hcell : ∀ j v, xs[j]? = some v → (w.setRow b cur').cell? ⟨b, j, none⟩ = some v := fun j v e => by
    have := ho.cells (g := b) rfl j v e
    have hadd : (⟨b, 0, none⟩ : Addr).add j = ⟨b, j, none⟩ := by unfold Addr.add; split <;> simp_all
    rwa [hadd] at this
  have hobj : ∀ o c, g.φ o = some c → c ≠ b := fun o c e ec => by
    subst ec
    exact h.apart i o c _ hi hl e
  refine ⟨hle, ⟨h.below.trans ⟨rfl, rfl, rfl, by rw [size_setRow]; exact Nat.le_refl _, fun k hk => hne k (by have := h3.lt.1; omega)⟩, by rw [size_setRow]; exact h.bsize, fun c j v e => ?_, h.ids, h.inj, fun o c j e hne' => ?_, fun o c cap' el e hr => ?_, fun j o c c' hj hl' e => ?_, h.rcs, fun o c e => ?_, ?_,
    fun j hj => ?_, fun j l c c1 c2 hj hl e1 e2 => ?_⟩⟩
  · simp only [G.addTip] at e
    split at e
    · rename_i hcb; obtain ⟨rfl, _⟩ := hcb; exact hcell j v e
    · rename_i hcb0
      have hcb : c ≠ b := fun ec => hcb0 ⟨ec, h3.lt.1⟩
      rw [← h.sol c j v e]
      exact World.cell?_of_block (w := w) (hne c hcb)
  · simp only [G.addTip]
    rw [if_neg (fun hh => hobj o c e hh.1)]
    exact h.nosol o c j e hne'
  · obtain ⟨vs, q1, q2⟩ := h.rows o c cap' el e hr
    exact ⟨vs, (hne c (hobj o c e)).trans q1, q2⟩
  · have hj' : j < max g.ntips (i + 1) := hj
    simp only [G.addTip] at hl'
    split at hl'
    · cases hl'; exact hobj o _ e rfl
    · exact h.apart j o c c' (by omega) hl' e
  · obtain ⟨ob, h4, h5⟩ := h.obj o c e
    exact ⟨ob, h4, (h5.block (hne c (hobj o c e))).mono hle⟩
  · show max g.ntips (i + 1) = max s.ntips (i + 1)
    rw [h.nts]
  · show ∃ b1 cap1 e1 xs1, _ ∧ (s.tips.set i (n, e)).get j = _ ∧ _
    simp only [Tr.get_set]
    by_cases hji : j = i
    · subst hji
      refine ⟨b, cap, e, xs, by simp [G.addTip], by simp [G.addTip], ?_, hs, by simp only [G.addTip, if_true]; omega, fun l => by simp [G.addTip, hbb]⟩
      simpa [G.addTip] using ho
    · have hj' : j < g.ntips := by
        have : j < max g.ntips (i + 1) := hj
        omega
      obtain ⟨c, cap1, e1, xs1, h4, h5, h6⟩ := h.toks j hj'
      have hcb : c ≠ b := fun ec => by subst ec; exact hji (h.tinj _ _ _ _ _ hj' hi h4 hl)
      refine ⟨c, cap1, e1, xs1, by simp [G.addTip, hji, h4], by simp [G.addTip, hji, h5], ?_, h6.size, by simpa [G.addTip, hji] using h6.tip, fun l => ?_⟩
      · simpa [G.addTip, hji] using (h6.block (hne c hcb)).own
      · simp only [G.addTip]
        rw [if_neg (fun hh => hcb hh.1)]
        exact h6.sol l
  · have hj' : j < max g.ntips (i + 1) := hj
    have hl' : l < max g.ntips (i + 1) := hl
    simp only [G.addTip] at e1 e2
    by_cases hji : j = i <;> by_cases hli : l = i
    · omega
    · rw [if_pos hji] at e1
      rw [if_neg hli] at e2
      cases e1
      have := h.tinj _ _ _ _ _ (show l < g.ntips by omega) hi e2 (by assumption)
      omega
    · rw [if_neg hji] at e1
      rw [if_pos hli] at e2
      cases e2
      have := h.tinj _ _ _ _ _ (show j < g.ntips by omega) hi e1 (by assumption)
      omega
    · rw [if_neg hji] at e1
      rw [if_neg hli] at e2
      exact h.tinj j l c c1 c2 (by omega) (by omega) e1 e2
end

end Go.Proofs.YtmmofmkencnldaaGreatDoor.TV
