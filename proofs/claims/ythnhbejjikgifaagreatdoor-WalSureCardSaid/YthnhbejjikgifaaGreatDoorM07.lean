/-
  DX: rows and tokens; what reads, what makes or changes something.
  DX: what makes or changes something. (2 texts, one behind the other)
-/
import Derived.Test.YthnhbejjikgifaaGreatDoorM06

namespace Go.Proofs.YthnhbejjikgifaaGreatDoor.TV
open Go Go.RowKit
set_option linter.unusedSimpArgs false
set_option linter.unusedVariables false

/-- What a token is a token of: a row's end; an object. -/
inductive TId where
  | tip (i : Nat) | obj (o : Nat)
def TK.id : TK → Option TId
  | .tok (.tip i) _ => some (.tip i)
  | .mp o => some (.obj o)
  | .ls o _ => some (.obj o)
  | _ => none
def TId.old (s : St) : TId → Prop
  | .tip i => i < s.ntips
  | .obj o => o < s.n
def TId.new (s : St) : TId → Prop
  | .tip i => s.ntips ≤ i
  | .obj o => s.n ≤ o
def TId.same (s s' : St) : TId → Prop
  | .tip i => s'.tips.get i = s.tips.get i
  | .obj o => s'.objs.get o = s.objs.get o
def OwnR (s : St) : TK → Own → Prop
  | .mp o, .map v l => o < s.n ∧ ∃ es c, s.objs.get o = some (.map es c) ∧ MapR v l es c
  | .nl, .lst t e l => l = []
  | .ls o n, .lst t e l => o < s.n ∧ (0 < n ∧ n = l.length) ∧ ∃ es : List TV, s.objs.get o = some (.cells (es.flatMap TV.cells) e) ∧ All2 (ElR t) l es
  | _, _ => False
def Good (s : St) : TK → Tip → Prop
  | k, .own c => OwnR s k c
  | k, .ro c => OwnR s k c
  | .tok (.tip i) n, .gr e => i < s.ntips ∧ s.tips.get i = some (n, e)
  | .tok _ _, .gr _ => True
  | .mp _, .gr _ => False
  | .ls _ _, .gr _ => False
  | .nl, .gr _ => False
theorem Good.map {s : St} {o c : Nat} {v : Ty} {l : List (List UInt8 × v.den)} {es : List (TV × TV × Nat)} (h1 : o < s.n) (h2 : s.objs.get o = some (.map es c)) (h3 : MapR v l es c) : Good s (.mp o) (.own (.map v l)) := ⟨h1, es, c, h2, h3⟩
theorem Good.lst {s : St} {o n : Nat} {t : Ty} {e : TypeId} {l : List t.den} {es : List TV} (h1 : o < s.n) (h0 : 0 < n) (hn : n = l.length) (h2 : s.objs.get o = some (.cells (es.flatMap TV.cells) e)) (h3 : All2 (ElR t) l es) : Good s (.ls o n) (.own (.lst t e l)) := ⟨h1, ⟨h0, hn⟩, es, h2, h3⟩
theorem OwnR.old {s : St} {k : TK} {c : Own} {i : TId} (h : OwnR s k c) (hi : k.id = some i) : i.old s := by
  cases k with
  | tok t n => cases c <;> exact h.elim
  | mp o => cases hi; cases c with
    | map v l => exact h.1
    | lst t e l => exact h.elim
  | ls o n => cases hi; cases c with
    | map v l => exact h.elim
    | lst t e l => exact h.1
  | nl => cases hi
theorem OwnR.same {s s' : St} {k : TK} {c : Own} (h : OwnR s k c) (hn : s.n ≤ s'.n) (hs : ∀ i, k.id = some i → i.same s s') : OwnR s' k c := by
  cases k with
  | tok t n => cases c <;> exact h.elim
  | mp o => cases c with
    | map v l =>
      obtain ⟨h1, es, c, h2, h3⟩ := h
      exact ⟨Nat.lt_of_lt_of_le h1 hn, es, c, by rw [show s'.objs.get o = s.objs.get o from hs _ rfl]; exact h2, h3⟩
    | lst t e l => exact h.elim
  | ls o n => cases c with
    | map v l => exact h.elim
    | lst t e l =>
      obtain ⟨h1, h0, es, h2, h3⟩ := h
      exact ⟨Nat.lt_of_lt_of_le h1 hn, h0, es, by rw [show s'.objs.get o = s.objs.get o from hs _ rfl]; exact h2, h3⟩
  | nl => cases c with
    | map v l => exact h.elim
    | lst t e l => exact h
theorem Good.old {s : St} {k : TK} {e : Tip} {i : TId} (h : Good s k e) (hi : k.id = some i) : i.old s := by
  cases e with
  | own c => exact OwnR.old (c := c) h hi
  | ro c => exact OwnR.old (c := c) h hi
  | gr e =>
    cases k with
    | tok t n => cases t with
      | tip a => cases hi; exact h.1
      | unk => cases hi
      | exact => cases hi
    | mp o => exact h.elim
    | ls o n => exact h.elim
    | nl => exact h.elim
theorem Good.same {s s' : St} {k : TK} {e : Tip} (h : Good s k e) (hn : s.n ≤ s'.n) (ht : s.ntips ≤ s'.ntips) (hs : ∀ i, k.id = some i → i.same s s') : Good s' k e := by
  cases e with
  | own c => exact OwnR.same (c := c) h hn hs
  | ro c => exact OwnR.same (c := c) h hn hs
  | gr e =>
    cases k with
    | tok t n => cases t with
      | tip a => exact ⟨Nat.lt_of_lt_of_le h.1 ht, by rw [show s'.tips.get a = s.tips.get a from hs _ rfl]; exact h.2⟩
      | unk => trivial
      | exact => trivial
    | mp o => exact h.elim
    | ls o n => exact h.elim
    | nl => exact h.elim

structure HRel (s : St) (V : Val) (h : UHeap) : Prop where
  len : V.ids.length = h.objs.length
  nodup : V.ids.Nodup
  lt : ∀ o ∈ V.ids, o < s.n
  obj : ∀ (k o : Nat) (r : Row), V.ids[k]? = some o → h.objs[k]? = some r → ∃ ts, s.objs.get o = some (.cells ts r.ty) ∧ URels V r.cs ts
  tlen : V.tks.length = h.tips.length
  tips : ∀ (j : Nat) (k : TK) (e : Tip), V.tks[j]? = some k → h.tips[j]? = some (some e) → Good s k e
  tinj : ∀ (j j' : Nat) (i : TId) (k k' : TK) (e e' : Tip), V.tks[j]? = some k → V.tks[j']? = some k' → k.id = some i → k'.id = some i → h.tips[j]? = some (some e) → h.tips[j']? = some (some e') → j = j'
  out : ∀ (j : Nat) (k : TK) (o : Nat) (e : Tip), V.tks[j]? = some k → k.id = some (.obj o) → h.tips[j]? = some (some e) → o ∉ V.ids
def Tip.live : Tip → Bool
  | .ro _ => false
  | _ => true
/-- What is told. -/
def Held (V : Val) (h : UHeap) (i : TId) : Prop := ∃ (j : Nat) (k : TK) (e : Tip), V.tks[j]? = some k ∧ k.id = some i ∧ h.tips[j]? = some (some e)
/-- What may yet be moved or changed. -/
def Alive (V : Val) (h : UHeap) (i : TId) : Prop := ∃ (j : Nat) (k : TK) (e : Tip), V.tks[j]? = some k ∧ k.id = some i ∧ (h.tips[j]? = some (some e) ∧ e.live = true)
theorem Alive.held {V : Val} {h : UHeap} {i : TId} (a : Alive V h i) : Held V h i := by
  obtain ⟨j, k, e, h1, h2, h3, _⟩ := a
  exact ⟨j, k, e, h1, h2, h3⟩
structure Step (s : St) (V : Val) (h : UHeap) (s' : St) (V' : Val) (h' : UHeap) : Prop where
  ids : V.ids <+: V'.ids
  new : ∀ o ∈ V'.ids, o ∈ V.ids ∨ s.n ≤ o
  nle : s.n ≤ s'.n
  tle : s.ntips ≤ s'.ntips
  frame : ∀ o, o < s.n → o ∉ V.ids → ¬ Alive V h (.obj o) → s'.objs.get o = s.objs.get o
  tframe : ∀ i, i < s.ntips → ¬ Alive V h (.tip i) → s'.tips.get i = s.tips.get i
  alive : ∀ i, Alive V' h' i → Alive V h i ∨ i.new s
  rows : ∀ (k : Nat) (r : Row), h.objs[k]? = some r → ∃ r', h'.objs[k]? = some r' ∧ r'.ty = r.ty ∧ r'.fz = r.fz ∧ r'.cs.length = r.cs.length
  kept : ∀ (k o : Nat) (r : Row) (ts : List TV), V.ids[k]? = some o → h.objs[k]? = some r → s.objs.get o = some (.cells ts r.ty) → ∃ ts' : List TV, s'.objs.get o = some (.cells ts' r.ty) ∧ ts'.length = ts.length ∧ ∀ (off : Nat), r.fz[off]? = some true → ts'[off]? = ts[off]?
section
variable {P : Program} {s s' s'' : St} {V V' V'' : Val} {h h' h'' : UHeap}

theorem Step.refl (s : St) (V : Val) (h : UHeap) : Step s V h s V h where
  ids := List.prefix_rfl
  new := fun o ho => .inl ho
  nle := Nat.le_refl _
  tle := Nat.le_refl _
  frame := fun _ _ _ _ => rfl
  tframe := fun _ _ _ => rfl
  alive := fun i hi => .inl hi
  rows := fun k r hr => ⟨r, hr, rfl, rfl, rfl⟩
  kept := fun k o r ts _ _ hg => ⟨ts, hg, rfl, fun _ _ => rfl⟩
theorem TId.new_le {s s' : St} {i : TId} (hn : s.n ≤ s'.n) (ht : s.ntips ≤ s'.ntips) (h : i.new s') : i.new s := by
  cases i with
  | tip i => exact Nat.le_trans ht h
  | obj o => exact Nat.le_trans hn h
theorem Step.trans (a : Step s V h s' V' h') (b : Step s' V' h' s'' V'' h'') : Step s V h s'' V'' h'' where
  ids := a.ids.trans b.ids
  new := fun o ho => by
    rcases b.new o ho with h1 | h1
    · exact a.new o h1
    · exact .inr (Nat.le_trans a.nle h1)
  nle := Nat.le_trans a.nle b.nle
  tle := Nat.le_trans a.tle b.tle
  frame := fun o hlt ho ha => by
    have h0 : o ∉ V'.ids := fun hm => by
      rcases a.new o hm with h1 | h1
      · exact ho h1
      · omega
    have h1 : ¬ Alive V' h' (.obj o) := fun hm => by
      rcases a.alive _ hm with h1 | h1
      · exact ha h1
      · have : s.n ≤ o := h1
        omega
    rw [b.frame o (Nat.lt_of_lt_of_le hlt a.nle) h0 h1, a.frame o hlt ho ha]
  tframe := fun i hlt hi => by
    have : ¬ Alive V' h' (.tip i) := fun hm => by
      rcases a.alive _ hm with h1 | h1
      · exact hi h1
      · have : s.ntips ≤ i := h1
        omega
    rw [b.tframe i (Nat.lt_of_lt_of_le hlt a.tle) this, a.tframe i hlt hi]
  alive := fun i hi => by
    rcases b.alive i hi with h1 | h1
    · exact a.alive i h1
    · exact .inr (TId.new_le a.nle a.tle h1)
  rows := fun k r hr => by
    obtain ⟨r', h1, h2, h3, h4⟩ := a.rows k r hr
    obtain ⟨r'', h5, h6, h7, h8⟩ := b.rows k r' h1
    exact ⟨r'', h5, h6.trans h2, h7.trans h3, h8.trans h4⟩
  kept := fun k o r ts hk hr hg => by
    obtain ⟨r', h1, h2, h3, h4⟩ := a.rows k r hr
    obtain ⟨ts', h5, h6, h7⟩ := a.kept k o r ts hk hr hg
    obtain ⟨ts'', h8, h9, h10⟩ := b.kept k o r' ts' (prefix_get a.ids hk) h1 (by rw [h2]; exact h5)
    exact ⟨ts'', by rw [← h2]; exact h8, h9.trans h6, fun off ho => by rw [h10 off (by rw [h3]; exact ho), h7 off ho]⟩

/-! ### What reads -/
theorem load_rel (hR : HRel s V h) {t : TypeId} {p : UV} {p' : TV} (r : URel V p p') {u : UV} (hl : loadU P h t p = some u) :
    ∃ v, URel V u v ∧ ∀ s', (∀ k off o, p = .ptr k off → V.ids[k]? = some o → s'.objs.get o = s.objs.get o) → loadT P s' t p' = some v := by
  unfold loadU at hl
  split at hl
  · cases r with
    | eptr us vs rs =>
      obtain ⟨v, h1, h2⟩ := take_rel hl rs
      exact ⟨v, h2, fun s' _ => h1⟩
  · rename_i k off
    cases r with
    | ptr _ _ o e =>
      split at hl
      · rename_i row hrow
        obtain ⟨ts, h1, h2⟩ := hR.obj k o row e hrow
        obtain ⟨v, h3, h4⟩ := take_rel hl (h2.drop off)
        refine ⟨v, h4, fun s' hs => ?_⟩
        unfold loadT objCells
        simp only
        rw [hs k off o rfl e, h1]
        exact h3
      · cases hl
  · cases hl
theorem ungsl_idx {t : TypeId} {x i v : TV} (h : indexAddrT P t x i = some v) : indexAddrT P t (ungsl x) i = some v := by
  cases x with
  | gsl o n =>
    exfalso
    unfold indexAddrT at h
    split at h
    · split at h
      · cases h
      · split at h <;> first | cases h | simp_all
    · cases h
  | _ => exact h
theorem ungsl_len {t : TypeId} {x v : TV} (h : lenT P s t x = some v) : lenT P s t (ungsl x) = some v := by
  cases x with
  | gsl o n =>
    unfold lenT at h ⊢
    cases hu : P.underlying t with
    | none => simp [hu] at h
    | some d => cases d <;> simp_all [ungsl]
  | _ => exact h
theorem ungsl_slice {t : TypeId} {x v : TV} {a b c : Option TV} (h : sliceT P t x a b c = some v) : sliceT P t (ungsl x) a b c = some v := by
  cases x with
  | gsl o n =>
    exfalso
    unfold sliceT at h
    split at h <;> first | cases h | simp_all
  | _ => exact h
/-- Where something was read nothing has changed. -/
def Keeps (V : Val) (s s' : St) : Option (Option Nat) → Prop
  | none => True
  | some (some k) => ∀ oid, V.ids[k]? = some oid → s'.objs.get oid = s.objs.get oid
  | some none => s' = s
theorem own_live {tips : List (Option Tip)} {j : Nat} {c : Own} (hc : ownOf tips j = some c) : tips[j]? = some (some (.own c)) := by
  unfold ownOf at hc
  split at hc
  · rename_i c' hj; cases hc; exact hj
  · cases hc
theorem ownOf_read {tips : List (Option Tip)} {j : Nat} {c : Own} (hc : ownOf tips j = some c) : readOf tips j = some c := by
  unfold readOf
  rw [own_live hc]
theorem own_get (hR : HRel s V h) {j : Nat} {c : Own} (hc : readOf h.tips j = some c) {k : TK} (hk : V.tks[j]? = some k) : OwnR s k c := by
  unfold readOf at hc
  split at hc
  · rename_i c' hj
    cases hc
    exact hR.tips j k _ hk hj
  · rename_i c' hj
    cases hc
    exact hR.tips j k _ hk hj
  · cases hc
theorem own_map (hR : HRel s V h) {j o : Nat} {v : Ty} {l : List (List UInt8 × v.den)} (hc : readOf h.tips j = some (.map v l)) (hk : V.tks[j]? = some (.mp o)) : o < s.n ∧ ∃ es c, s.objs.get o = some (.map es c) ∧ MapR v l es c := own_get hR hc hk
theorem lookup_ok (hR : HRel s V h) {t : TypeId} {m k : UV} {m' k' : TV} (rm : URel V m m') (rk : URel V k k') {ok : Bool} {u : UV} (hu : (lookupU P h t m k ok).Has u) : ∃ v, URel V u v ∧ lookupT P s t m' k' ok = some v := by
  unfold lookupU at hu
  split at hu
  · rename_i key elem j str ht
    split at hu
    · rename_i vt l z0 hkey hown hz
      split at hu
      · rename_i z hdz
        simp only [Tree.Has] at hu
        cases rm with
        | ols _ o n hj => exact (own_get hR hown hj).elim
        | onl _ hj => exact (own_get hR hown hj).elim
        | oref _ o hj =>
        cases rk with
        | str _ =>
        obtain ⟨_, es, c, h1, h2⟩ := own_map hR hown hj
        obtain ⟨z', hz', rz⟩ := zero_rel (V := V) hz
        have hzr := decV_rel hdz rz
        obtain ⟨f1, f2⟩ := findT_get (k := str) 0 h2.rel
        unfold lookupT
        simp only [ht, hkey, h1]
        simp only [simpleKey, Bool.not_true, Bool.false_eq_true, if_false]
        cases hm : mget str l with
        | none =>
          rw [hm] at hu
          rw [f2 hm]
          simp only [hz', Option.map_some]
          subst hu
          cases ok with
          | true => exact ⟨_, .tup _ _ (.cons _ _ _ _ (elemU_rel hzr) (.cons _ _ _ _ (.bool _) .nil)), rfl⟩
          | false => exact ⟨_, elemU_rel hzr, rfl⟩
        | some x =>
          rw [hm] at hu
          obtain ⟨n, y, f3, _, f5⟩ := f1 x hm
          rw [f3]
          subst hu
          cases ok with
          | true => exact ⟨_, .tup _ _ (.cons _ _ _ _ (elemU_rel f5) (.cons _ _ _ _ (.bool _) .nil)), rfl⟩
          | false => exact ⟨_, elemU_rel f5, rfl⟩
      · exact hu.elim
    · exact hu.elim
  · exact hu.elim
theorem oref_cases {j : Nat} {v : TV} (r : URel V (.oref j) v) : (∃ o, v = .map (some o) ∧ V.tks[j]? = some (.mp o)) ∨ (∃ o n, v = .gsl o n ∧ V.tks[j]? = some (.ls o n)) ∨ v = .slice true [] .exact ∧ V.tks[j]? = some .nl := by
  cases r with
  | oref _ o h => exact .inl ⟨o, rfl, h⟩
  | ols _ o n h => exact .inr (.inl ⟨o, n, rfl, h⟩)
  | onl _ h => exact .inr (.inr ⟨rfl, h⟩)
theorem own_nil (hR : HRel s V h) {j : Nat} {t : Ty} {e : TypeId} {l : List t.den} (hc : readOf h.tips j = some (.lst t e l)) (hk : V.tks[j]? = some .nl) : l = [] := own_get hR hc hk
theorem own_lst (hR : HRel s V h) {j o n : Nat} {t : Ty} {e : TypeId} {l : List t.den} (hc : readOf h.tips j = some (.lst t e l)) (hk : V.tks[j]? = some (.ls o n)) : o < s.n ∧ (0 < n ∧ n = l.length) ∧ ∃ es : List TV, s.objs.get o = some (.cells (es.flatMap TV.cells) e) ∧ All2 (ElR t) l es := own_get hR hc hk
theorem flat_at : ∀ {es : List TV} {i sz : Nat} {y : TV}, (∀ x ∈ es, x.cells.length = sz) → es[i]? = some y → ∃ a b, es.flatMap TV.cells = a ++ (y.cells ++ b) ∧ a.length = i * sz ∧ a = (es.take i).flatMap TV.cells ∧ b = (es.drop (i + 1)).flatMap TV.cells
  | [], i, sz, y, _, h => by simp at h
  | x :: es, 0, sz, y, hs, h => by
    simp at h
    subst h
    exact ⟨[], es.flatMap TV.cells, rfl, by simp, rfl, rfl⟩
  | x :: es, i + 1, sz, y, hs, h => by
    obtain ⟨a, b, h1, h2, h3, h4⟩ := flat_at (es := es) (i := i) (sz := sz) (fun z hz => hs z (by simp [hz])) (by simpa using h)
    refine ⟨x.cells ++ a, b, by rw [List.flatMap_cons, h1, List.append_assoc], ?_, by rw [h3]; rfl, h4⟩
    rw [List.length_append, h2, hs x (by simp), Nat.succ_mul]
    omega
theorem take_app {t : TypeId} {a b : List TV} {v : TV} (h : take P t a = some v) : take P t (a ++ b) = some v := by
  unfold take at h ⊢
  split at h
  · cases h
  · rename_i h1
    rw [if_neg h1]
    split at h
    · rename_i h2
      rw [if_pos h2]
      split at h
      · rename_i h3
        rw [if_pos (by rw [List.length_append]; omega), List.take_append_of_le_length h3]
        exact h
      · cases h
    · rename_i h2
      rw [if_neg h2]
      cases a with
      | nil => cases h
      | cons x a => exact h
theorem ElRs.sz {t : Ty} {l : List t.den} {es : List TV} (r : All2 (ElR t) l es) : ∀ x ∈ es, x.cells.length = t.size := fun x hx => by
  obtain ⟨y, hy⟩ := r.mem hx
  exact hy.2.length
theorem loadO_ok (hR : HRel s V h) {t : TypeId} {j sz off : Nat} {i : Int} {p : TV} (r : URel V (.lptr j sz i off) p) {u : UV} (hu : (loadO P h t j sz i off).Has u) : ∃ v, URel V u v ∧ loadT P s t p = some v := by
  unfold loadO at hu
  split at hu
  · rename_i ty e l hc
    split at hu
    · rename_i hcond
      simp only [Bool.and_eq_true, beq_iff_eq, decide_eq_true_eq] at hcond
      obtain ⟨⟨h1, h2⟩, h3⟩ := hcond
      obtain ⟨x, hx, hu⟩ := hu
      rw [Tree.has_ofOpt] at hu
      cases r with
      | lptr _ _ o n _ _ hj hi =>
        obtain ⟨_, _, es, h4, h5⟩ := own_lst hR hc hj
        obtain ⟨y, hy, hxy⟩ := h5.get hx
        obtain ⟨v, h6, h7⟩ := take_rel hu ((cellsU_rel (V := V) hxy.2).drop off)
        obtain ⟨a, b, h8, h9, _⟩ := flat_at (ElRs.sz h5) hy
        refine ⟨v, h7, ?_⟩
        have hyl : y.cells.length = ty.size := hxy.2.length
        have e1 : (es.flatMap TV.cells).drop (i.toNat * sz + off) = y.cells.drop off ++ b := by
          rw [h8, h1, ← h9, ← List.drop_drop, List.drop_left, List.drop_append_of_le_length (by omega)]
        unfold loadT objCells
        simp only
        rw [h4]
        simp only
        rw [e1]
        exact take_app h6
    · exact hu.elim
  · exact hu.elim
theorem idxO_ok (hR : HRel s V h) {t : TypeId} {j : Nat} {i : UV} {x i' : TV} (rx : URel V (.oref j) x) (ri : URel V i i') {u : UV} (hu : (idxO P h t j i).Has u) : ∃ v, URel V u v ∧ indexAddrT P t (ungsl x) i' = some v := by
  unfold idxO at hu
  split at hu
  · rename_i elem k n ty e l ht hc
    split at hu
    · rename_i hs
      simp only [Bool.and_eq_true, decide_eq_true_eq] at hs
      simp only [Tree.Has] at hu
      rcases hu with ⟨hn0, ⟨hn1, rfl⟩ | ⟨_, hu⟩⟩ | ⟨_, hu⟩
      · simp only [decide_eq_true_eq] at hn0 hn1
        have hn : 0 ≤ n ∧ n < l.length := ⟨hn0, hn1⟩
        rcases oref_cases rx with ⟨o, rfl, hj⟩ | ⟨o, m, rfl, hj⟩ | ⟨rfl, hj⟩
        · exact (own_get hR hc hj).elim
        rotate_left
        · have := own_nil hR hc hj
          rw [this] at hn
          simp at hn
          omega
        · obtain ⟨_, ⟨_, hm⟩, _⟩ := own_lst hR hc hj
          cases ri with
          | int _ _ =>
            refine ⟨_, .lptr _ _ _ _ _ _ hj hn.1, ?_⟩
            simp only [indexAddrT, ungsl, ht]
            rw [if_neg (by omega), ← hs.1]
            simp [hm, hn.2, hs.2]
      · exact hu.elim
      · exact hu.elim
    · exact hu.elim
  · exact hu.elim
theorem readU_ok (hR : HRel s V h) {ρ : Operand → UV} {τ : Operand → TV} (hρ : ∀ x, URel V (ρ x) (τ x)) {o : Oper} {u : UV} (hu : (readU P h ρ o).Has u) :
    ∃ v, URel V u v ∧ ∀ s', Keeps V s s' (rowOf ρ o) → readT P s' τ o = some v := by
  have same : ∀ {v}, readT P s τ o = some v → stateful o = false → ∀ s', readT P s' τ o = some v := fun h1 h2 s' => by rw [stateless (s' := s) h2]; exact h1
  obtain ⟨dst, op, ty, pos, after, guard⟩ := o
  unfold readU at hu
  cases op with
  | move x => simp only [Tree.Has] at hu; subst hu; exact ⟨_, hρ x, fun s' _ => rfl⟩
  | assign x => simp only [Tree.Has] at hu; subst hu; exact ⟨_, hρ x, fun s' _ => rfl⟩
  | pick c a b =>
    simp only at hu
    have hc := hρ c
    split at hu
    · rename_i b0 e
      rw [e] at hc
      cases hcv : τ c <;> rw [hcv] at hc <;> cases hc
      simp only [Tree.Has] at hu
      rcases hu with ⟨rfl, hu⟩ | ⟨rfl, hu⟩
      · subst hu; exact ⟨_, hρ a, fun s' _ => by simp [readT, hcv]⟩
      · subst hu; exact ⟨_, hρ b, fun s' _ => by simp [readT, hcv]⟩
    · cases hu
  | build t parts =>
    simp only [Tree.has_ofOpt] at hu
    obtain ⟨v, h1, h2⟩ := build_rel hρ hu
    exact ⟨v, h2, fun s' _ => h1⟩
  | buildSlice t len parts =>
    simp only [Tree.has_ofOpt] at hu
    obtain ⟨v, h1, h2⟩ := buildSlice_rel hρ hu
    exact ⟨v, h2, fun s' _ => h1⟩
  | load t a =>
    simp only at hu
    have ha := hρ a
    split at hu
    · rename_i j sz i off e1
      rw [e1] at ha
      obtain ⟨v, h1, h2⟩ := loadO_ok hR ha hu
      refine ⟨v, h1, fun s' hs => ?_⟩
      have hs : s' = s := by simpa only [rowOf, e1, Keeps] using hs
      subst hs
      exact h2
    rw [Tree.has_ofOpt] at hu
    obtain ⟨v, h1, h2⟩ := load_rel hR ha hu
    refine ⟨v, h1, fun s' hs => h2 s' fun k off o hp hk => ?_⟩
    simp only [rowOf, hp] at hs
    exact hs o hk
  | nilCheck x =>
    simp only at hu
    have hc := hρ x
    split at hu
    · rename_i k off e
      rw [e] at hc
      simp only [Tree.Has] at hu
      subst hu
      cases hcv : τ x <;> rw [hcv] at hc <;> cases hc
      rename_i h1
      exact ⟨_, .ptr _ _ _ h1, fun s' _ => by simp [readT, hcv]⟩
    · rename_i j sz i off e
      rw [e] at hc
      simp only [Tree.Has] at hu
      subst hu
      cases hcv : τ x <;> rw [hcv] at hc <;> cases hc
      rename_i o n h0 h1
      exact ⟨_, .lptr _ _ _ _ _ _ h1 h0, fun s' _ => by simp [readT, hcv]⟩
    · rename_i cs e
      rw [e] at hc
      simp only [Tree.Has] at hu
      subst hu
      cases hcv : τ x <;> rw [hcv] at hc <;> cases hc
      rename_i h1
      exact ⟨_, .eptr _ _ h1, fun s' _ => by simp [readT, hcv]⟩
    · rename_i f a b e
      rw [e] at hc
      simp only [Tree.Has] at hu
      subst hu
      cases hcv : τ x <;> rw [hcv] at hc <;> cases hc
      rename_i h1 h2
      exact ⟨_, .fn _ _ _ _ _ h1 h2, fun s' _ => by simp [readT, hcv]⟩
    · cases hu
  | binOp op t x y t2 =>
    simp only at hu
    split at hu
    · rename_i hg
      obtain ⟨v, h1, h2⟩ := bin_rel (hρ x) (hρ y) hu
      exact ⟨v, h2, fun s' _ => by simp [readT, guard_rel (hρ x) (hρ y) hg, h1]⟩
    · cases hu
  | unOp op t x =>
    simp only [Tree.has_ofOpt] at hu
    obtain ⟨v, h1, h2⟩ := un_rel (hρ x) hu
    exact ⟨v, h2, fun s' _ => h1⟩
  | convert src dst x =>
    simp only [Tree.has_ofOpt] at hu
    obtain ⟨v, h1, h2⟩ := conv_rel (hρ x) hu
    exact ⟨v, h2, fun s' _ => h1 s'⟩
  | makeInterface t x =>
    simp only at hu
    split at hu
    · cases hu
    · rename_i d h1 h2
      simp only [Tree.Has] at hu
      subst hu
      exact ⟨_, .iface _ _ _ (hρ x), fun s' _ => by simp [readT, h2]⟩
    · cases hu
  | makeFunc f a b =>
    simp only [Tree.Has] at hu
    subst hu
    exact ⟨_, .fn _ _ _ _ _ (URels.map fun x _ => hρ x) (URels.map fun x _ => hρ x), fun s' _ => rfl⟩
  | slice t x lo hi mx =>
    simp only at hu
    obtain ⟨v, h1, h2⟩ := slice_rel (hρ x) (OptR.map hρ lo) (OptR.map hρ hi) (OptR.map hρ mx) hu
    exact ⟨v, h2, fun s' _ => ungsl_slice h1⟩
  | fieldAddr t x f =>
    simp only [Tree.has_ofOpt] at hu
    obtain ⟨v, h1, h2⟩ := fieldAddr_rel (hρ x) hu
    exact ⟨v, h2, fun s' _ => h1⟩
  | field t x f =>
    simp only [Tree.has_ofOpt] at hu
    obtain ⟨v, h1, h2⟩ := field_rel (hρ x) hu
    exact ⟨v, h2, fun s' _ => h1⟩
  | indexAddr t x i =>
    simp only at hu
    have hx := hρ x
    split at hu
    · rename_i j e1
      rw [e1] at hx
      obtain ⟨v, h1, h2⟩ := idxO_ok hR hx (hρ i) hu
      exact ⟨v, h1, fun s' _ => h2⟩
    obtain ⟨v, h1, h2⟩ := indexAddr_rel hx (hρ i) hu
    exact ⟨v, h2, fun s' _ => ungsl_idx h1⟩
  | index t x i =>
    simp only at hu
    obtain ⟨v, h1, h2⟩ := index_rel (hρ x) (hρ i) hu
    exact ⟨v, h2, fun s' _ => h1⟩
  | extract x i =>
    simp only at hu
    have hc := hρ x
    split at hu
    · rename_i vs e
      rw [e] at hc
      rw [Tree.has_ofOpt] at hu
      cases hcv : τ x <;> rw [hcv] at hc <;> cases hc
      rename_i rs
      obtain ⟨v, h1, h2⟩ := rs.get hu
      exact ⟨v, h2, fun s' _ => by simp [readT, hcv, h1]⟩
    · cases hu
  | lookup t m k ok =>
    simp only at hu
    obtain ⟨v, h1, h2⟩ := lookup_ok hR (hρ m) (hρ k) hu
    refine ⟨v, h1, fun s' hs => ?_⟩
    have hs : s' = s := hs
    subst hs
    exact h2
  | call c =>
    obtain ⟨callee, args, ts⟩ := c
    cases callee with
    | builtin b =>
      simp only at hu
      split at hu
      · rename_i x t e1 e2
        have hx := hρ x
        split at hu
        · rename_i j e3
          rw [e3] at hx
          split at hu
          · rename_i tk te ht
            unfold lenO at hu
            split at hu
            · rename_i vt l hc _
              simp only [Tree.Has] at hu
              subst hu
              rcases oref_cases hx with ⟨o, hxv, hj⟩ | ⟨o, n, hxv, hj⟩ | ⟨_, hj⟩
              rotate_right
              · exact (own_get hR hc hj).elim
              · obtain ⟨_, es, c, h1, h2⟩ := own_map hR hc hj
                refine ⟨_, .int _ _, fun s' hs => ?_⟩
                have hs : s' = s := by simpa only [rowOf, e1, e3, Keeps] using hs
                subst hs
                simp only [readT, e1, e2, hxv, ungsl, lenT, ht, h1]
                rw [h2.rel.length]
              · exact (own_get hR hc hj).elim
            · rename_i hb; cases hb
            · exact hu.elim
          · rename_i te ht
            unfold lenO at hu
            split at hu
            · rename_i hb; cases hb
            · rename_i t0 e0 l hc _
              simp only [Tree.Has] at hu
              subst hu
              rcases oref_cases hx with ⟨o, hxv, hj⟩ | ⟨o, n, hxv, hj⟩ | ⟨hxv, hj⟩
              · exact (own_get hR hc hj).elim
              rotate_left
              · have hnil := own_nil hR hc hj
                subst hnil
                refine ⟨_, .int _ _, fun s' _ => ?_⟩
                simp only [readT, e1, e2, hxv, ungsl, lenT, ht, List.length_nil]
              · obtain ⟨_, ⟨_, hn⟩, _⟩ := own_lst hR hc hj
                refine ⟨_, .int _ _, fun s' _ => ?_⟩
                simp only [readT, e1, e2, hxv, ungsl, lenT, ht]
                rw [hn]
            · exact hu.elim
          · exact hu.elim
        · rw [Tree.has_ofOpt] at hu
          obtain ⟨v, h1, h2⟩ := len_rel hx hu
          exact ⟨v, h2, fun s' _ => by simp only [readT, e1, e2]; exact ungsl_len (h1 s')⟩
      · rename_i x y e1
        rw [Tree.has_ofOpt] at hu
        obtain ⟨v, h1, h2⟩ := min_rel (hρ x) (hρ y) hu
        exact ⟨v, h2, fun s' _ => by simp only [readT, e1]; exact h1⟩
      · rename_i x y e1
        rw [Tree.has_ofOpt] at hu
        obtain ⟨v, h1, h2⟩ := max_rel (hρ x) (hρ y) hu
        exact ⟨v, h2, fun s' _ => by simp only [readT, e1]; exact h1⟩
      · cases hu
    | value f => cases hu
    | invoke r m => cases hu
  | _ => cases hu
end
end Go.Proofs.YthnhbejjikgifaaGreatDoor.TV

namespace Go.Proofs.YthnhbejjikgifaaGreatDoor.TV
open Go Go.RowKit
set_option linter.unusedSimpArgs false
set_option linter.unusedVariables false

section
variable {P : Program} {s s' : St} {V V' : Val} {h h' : UHeap}

/-- What has been done to the store. -/
structure Eff (s : St) (V : Val) (h : UHeap) (W : List Nat) (s' : St) (V' : Val) (h' : UHeap) : Prop where
  rel : HRel s' V' h'
  step : Step s V h s' V' h'
  le : V.le V'
  rest : ∀ (k o : Nat), k ∉ W → V.ids[k]? = some o → s'.objs.get o = s.objs.get o
theorem Eff.refl (hR : HRel s V h) (W : List Nat) : Eff s V h W s V h := ⟨hR, Step.refl _ _ _, .refl _, fun _ _ _ _ => rfl⟩

theorem getElem?_concat {α : Type} {l : List α} {a b : α} {n : Nat} (h : (l ++ [a])[n]? = some b) : l[n]? = some b ∨ (n = l.length ∧ b = a) := by
  by_cases hn : n < l.length
  · rw [List.getElem?_append_left hn] at h
    exact .inl h
  · rw [List.getElem?_append_right (by omega)] at h
    have : n - l.length = 0 := by
      have := (List.getElem?_eq_some_iff.1 h).1
      simp at this
      omega
    rw [this] at h
    simp at h
    exact .inr ⟨by omega, h.symm⟩
theorem mem_ids (hR : HRel s V h) {k o : Nat} (e : V.ids[k]? = some o) : o ∈ V.ids := List.mem_of_getElem? e
theorem nodup_inj : ∀ {l : List Nat}, l.Nodup → ∀ {i j a : Nat}, l[i]? = some a → l[j]? = some a → i = j
  | [], _, i, j, a, h, _ => by simp at h
  | x :: l, hn, 0, 0, a, _, _ => rfl
  | x :: l, hn, 0, j + 1, a, h, h' => by
    simp at h h'
    subst h
    exact absurd (List.mem_of_getElem? h') (List.nodup_cons.1 hn).1
  | x :: l, hn, i + 1, 0, a, h, h' => by
    simp at h h'
    subst h'
    exact absurd (List.mem_of_getElem? h) (List.nodup_cons.1 hn).1
  | x :: l, hn, i + 1, j + 1, a, h, h' => congrArg (· + 1) (nodup_inj (List.nodup_cons.1 hn).2 (a := a) (by simpa using h) (by simpa using h'))
theorem ids_inj (hR : HRel s V h) {k k' o : Nat} (e : V.ids[k]? = some o) (e' : V.ids[k']? = some o) : k = k' := nodup_inj hR.nodup e e'

/-- A new row. -/
theorem new_eff (hR : HRel s V h) {cs : List UV} {ts : List TV} (t : TypeId) (r : URels V cs ts) (W : List Nat) :
    Eff s V h W (mkObj s (.cells ts t)) ⟨V.ids ++ [s.n], V.tks⟩ (newU h cs t) ∧ (⟨V.ids ++ [s.n], V.tks⟩ : Val).ids[h.objs.length]? = some s.n := by
  have hle : V.le ⟨V.ids ++ [s.n], V.tks⟩ := ⟨List.prefix_append _ _, List.prefix_rfl⟩
  have hn : ∀ o ∈ V.ids, o ≠ s.n := fun o ho e => by have := hR.lt o ho; omega
  have hget : ∀ o, o ≠ s.n → (mkObj s (.cells ts t)).objs.get o = s.objs.get o := fun o ho => by simp [mkObj, Tr.get_set, ho]
  have hold : ∀ (i : TId), i.old s → i.same s (mkObj s (.cells ts t)) := fun i hi => by
    cases i with
    | tip i => rfl
    | obj o => exact hget o (by have : o < s.n := hi; omega)
  refine ⟨⟨⟨?_, ?_, ?_, ?_, ?_, ?_, ?_, ?_⟩, ⟨?_, ?_, ?_, ?_, ?_, ?_, ?_, ?_, ?_⟩, hle, ?_⟩, ?_⟩
  · simp [newU, hR.len]
  · rw [List.nodup_append]
    refine ⟨hR.nodup, by simp, fun a ha b hb => ?_⟩
    simp at hb
    subst hb
    exact hn a ha
  · intro o ho
    simp only [mkObj]
    rcases List.mem_append.1 ho with ho | ho
    · have := hR.lt o ho; omega
    · simp at ho; omega
  · intro k o row hk hrow
    simp only [newU] at hrow
    rcases getElem?_concat hk with hk | ⟨hk1, rfl⟩
    · have hlt : k < h.objs.length := by rw [← hR.len]; exact (List.getElem?_eq_some_iff.1 hk).1
      rw [List.getElem?_append_left hlt] at hrow
      obtain ⟨ts', h1, h2⟩ := hR.obj k o row hk hrow
      exact ⟨ts', by rw [hget o (hn o (mem_ids hR hk))]; exact h1, h2.mono hle⟩
    · rw [hR.len] at hk1
      subst hk1
      simp at hrow
      subst hrow
      exact ⟨ts, by simp [mkObj, Tr.get_set], r.mono hle⟩
  · exact hR.tlen
  · intro j k e h1 h2
    have hg := hR.tips j k e h1 h2
    exact hg.same (by simp [mkObj]) (Nat.le_refl _) fun i hi => hold i (hg.old hi)
  · exact hR.tinj
  · intro j k o e h1 h1' h2 ho
    have hlt : o < s.n := (hR.tips j _ e h1 h2).old (i := .obj o) h1'
    rcases List.mem_append.1 ho with ho | ho
    · exact hR.out j k o e h1 h1' h2 ho
    · simp at ho; omega
  · exact List.prefix_append _ _
  · intro o ho
    rcases List.mem_append.1 ho with ho | ho
    · exact .inl ho
    · simp at ho; exact .inr (by omega)
  · simp [mkObj]
  · exact Nat.le_refl _
  · intro o ho _ _; exact hget o (by omega)
  · intro i _ _; rfl
  · intro i hi; exact .inl hi
  · intro k row hrow
    exact ⟨row, by simp only [newU]; rw [List.getElem?_append_left (List.getElem?_eq_some_iff.1 hrow).1]; exact hrow, rfl, rfl, rfl⟩
  · intro k o row ts' hk hrow hg
    exact ⟨ts', by rw [hget o (hn o (mem_ids hR hk))]; exact hg, rfl, fun _ _ => rfl⟩
  · intro k o _ hk
    exact hget o (hn o (mem_ids hR hk))
  · simp [← hR.len]

theorem splice_get {cs vs : List TV} {off i : Nat} (hl : off + vs.length ≤ cs.length) (hi : i < off ∨ off + vs.length ≤ i) : (splice cs off vs)[i]? = cs[i]? := by
  unfold splice
  have h1 : (cs.take off).length = off := by simp; omega
  rcases hi with hi | hi
  · rw [List.append_assoc, List.getElem?_append_left (by omega), List.getElem?_take_of_lt hi]
  · rw [List.getElem?_append_right (by simp; omega), List.getElem?_drop]
    congr 1
    simp
    omega
theorem splice_length {cs vs : List TV} {off : Nat} (hl : off + vs.length ≤ cs.length) : (splice cs off vs).length = cs.length := by
  unfold splice
  simp
  omega
theorem spliceU_length {cs vs : List UV} {off : Nat} (hl : off + vs.length ≤ cs.length) : (spliceU cs off vs).length = cs.length := by
  unfold spliceU
  simp
  omega
/-- Cells that are written. -/
theorem store_eff (hR : HRel s V h) {k off : Nat} {vs : List UV} {ws : List TV} (hs : storeU h k off vs = some h') (r : URels V vs ws) {o : Nat} (hk : V.ids[k]? = some o) :
    ∃ s', setCellsT s o off ws = some s' ∧ Eff s V h [k] s' V h' := by
  unfold storeU at hs
  split at hs
  · rename_i row hrow
    split at hs
    · rename_i hc
      cases hs
      simp only [Bool.and_eq_true, decide_eq_true_eq, Bool.not_eq_true'] at hc
      obtain ⟨⟨h1, h2⟩, h3⟩ := hc
      obtain ⟨ts, h4, h5⟩ := hR.obj k o row hk hrow
      have hlen := h5.length
      have hwl := r.length
      have h6 : off + ws.length ≤ ts.length := by omega
      refine ⟨{ s with objs := s.objs.set o (.cells (splice ts off ws) row.ty) }, ?_, ⟨?_, ?_, ?_, ?_, ?_, ?_, ?_, ?_⟩, ⟨?_, ?_, ?_, ?_, ?_, ?_, ?_, ?_, ?_⟩, .refl _, ?_⟩
      · unfold setCellsT
        rw [h4]
        simp only
        rw [if_pos (by simp only [Bool.and_eq_true, decide_eq_true_eq]; exact ⟨h6, r.allOk h2⟩)]
      · simp [hR.len]
      · exact hR.nodup
      · exact hR.lt
      · intro k' o' row' hk' hrow'
        simp only [List.getElem?_set] at hrow'
        simp only [Tr.get_set]
        split at hrow'
        · rename_i e
          subst e
          rw [hk] at hk'
          cases hk'
          split at hrow'
          · cases hrow'
            rw [if_pos rfl]
            exact ⟨_, rfl, splice_rel off h5 r⟩
          · cases hrow'
        · rename_i e
          rw [if_neg (fun eo => e (by subst eo; exact ids_inj hR hk hk'))]
          exact hR.obj k' o' row' hk' hrow'
      · exact hR.tlen
      · intro j k2 e h1 h2
        have hg := hR.tips j k2 e h1 h2
        refine hg.same (Nat.le_refl _) (Nat.le_refl _) fun i hi => ?_
        cases i with
        | tip i => rfl
        | obj o2 =>
          show (s.objs.set o _).get o2 = _
          rw [Tr.get_set, if_neg (fun eo => hR.out j k2 o2 e h1 hi h2 (by subst eo; exact mem_ids hR hk))]
      · exact hR.tinj
      · exact hR.out
      · exact List.prefix_rfl
      · exact fun o ho => .inl ho
      · exact Nat.le_refl _
      · exact Nat.le_refl _
      · intro o' _ ho' _
        simp only [Tr.get_set]
        rw [if_neg (fun eo => ho' (by subst eo; exact mem_ids hR hk))]
      · intro i _ _; rfl
      · intro i hi; exact .inl hi
      · intro k' row' hrow'
        simp only [List.getElem?_set]
        by_cases e : k = k'
        · subst e
          rw [hrow] at hrow'
          cases hrow'
          rw [if_pos rfl, if_pos (List.getElem?_eq_some_iff.1 hrow).1]
          exact ⟨_, rfl, rfl, rfl, spliceU_length h1⟩
        · rw [if_neg e]
          exact ⟨row', hrow', rfl, rfl, rfl⟩
      · intro k' o' row' ts' hk' hrow' hg
        simp only [Tr.get_set]
        by_cases e : o' = o
        · subst e
          have hkk := ids_inj hR hk hk'
          subst hkk
          rw [hrow] at hrow'
          cases hrow'
          rw [h4] at hg
          cases hg
          rw [if_pos rfl]
          refine ⟨_, rfl, splice_length h6, fun i hi => ?_⟩
          refine splice_get h6 ?_
          by_cases hlo : i < off
          · exact .inl hlo
          · by_cases hhi : off + ws.length ≤ i
            · exact .inr hhi
            · exfalso
              have : ((row.fz.drop off).take vs.length).any id = true := by
                refine List.any_eq_true.2 ⟨true, ?_, rfl⟩
                refine List.mem_of_getElem? (i := i - off) ?_
                rw [List.getElem?_take_of_lt (by omega), List.getElem?_drop]
                rw [show off + (i - off) = i by omega]
                exact hi
              rw [this] at h3
              cases h3
        · rw [if_neg e]
          exact ⟨ts', hg, rfl, fun _ _ => rfl⟩
      · intro k' o' hne hk'
        simp only [Tr.get_set]
        rw [if_neg (fun eo => hne (by subst eo; simp [ids_inj hR hk' hk]))]
    · cases hs
  · cases hs

/-- Tokens that are taken away. -/
theorem less_tips (hR : HRel s V h) {tips : List (Option Tip)} (hl : tips.length = h.tips.length) (ht : ∀ (j : Nat) (e : Tip), tips[j]? = some (some e) → h.tips[j]? = some (some e)) : HRel s V ⟨h.objs, tips⟩ :=
  ⟨hR.len, hR.nodup, hR.lt, hR.obj, by rw [hR.tlen, hl], fun j k e h1 h2 => hR.tips j k e h1 (ht j e h2), fun j j' i k k' e e' h1 h2 h3 h4 h5 h6 => hR.tinj j j' i k k' e e' h1 h2 h3 h4 (ht _ _ h5) (ht _ _ h6), fun j k o e h1 h1' h2 => hR.out j k o e h1 h1' (ht _ _ h2)⟩
theorem set_none {tips : List (Option Tip)} {j : Nat} : ∀ (k : Nat) (e : Tip), (tips.set j none)[k]? = some (some e) → tips[k]? = some (some e) ∧ k ≠ j := by
  intro k e hk
  rw [List.getElem?_set] at hk
  split at hk
  · split at hk <;> cases hk
  · rename_i hne
    exact ⟨hk, fun e => hne e.symm⟩
/-- The token of a slice that grows. -/
theorem useTok_ok {e : TypeId} {tok : UTok} {tips : List (Option Tip)} {n : Nat} {t : Tok} (hu : useTok e h.tips tok = some tips) (r : TokR V tok n t) :
    tips.length = h.tips.length ∧ (∀ (j : Nat) (e : Tip), tips[j]? = some (some e) → h.tips[j]? = some (some e)) ∧
    (t = .exact ∨ ∃ (i j : Nat), t = .tip i ∧ V.tks[j]? = some (.tok (.tip i) n) ∧ h.tips[j]? = some (some (.gr e)) ∧ ∀ e' : Tip, tips[j]? ≠ some (some e')) := by
  unfold useTok at hu
  split at hu
  · cases hu
  · cases hu
    exact ⟨rfl, fun _ _ h => h, .inl r⟩
  · rename_i j
    split at hu
    · rename_i e' hj
      split at hu
      · rename_i he
        subst he
        cases hu
        refine ⟨by simp, fun k e hk => (set_none k e hk).1, ?_⟩
        obtain ⟨h1, h2⟩ := r
        cases t with
        | unk => exact absurd rfl h2
        | exact => exact .inl rfl
        | tip i => exact .inr ⟨i, j, rfl, h1, hj, fun e' hk => (set_none j e' hk).2 rfl⟩
      · cases hu
    · cases hu
/-- A token is made: of what was alive until now, or of something new. -/
theorem tok_eff (hR : HRel s V h) {tips : List (Option Tip)} (hl : tips.length = h.tips.length) (ht : ∀ (j : Nat) (e : Tip), tips[j]? = some (some e) → h.tips[j]? = some (some e))
    {k : TK} {x : Tip} {i : TId} (hk : k.id = some i) (hn : s.n ≤ s'.n) (hle : s.ntips ≤ s'.ntips) (hg : Good s' k x) (D : TId → Prop) (hD : ∀ i', D i' → Alive V h i' ∧ ¬ Held V ⟨h.objs, tips⟩ i' ∧ ∀ o, i' = .obj o → o ∉ V.ids) (hs : ∀ i', i' ≠ i → ¬ D i' → i'.old s → i'.same s s') (hout : ∀ o, i = .obj o → o ∉ V.ids)
    (hd : ¬ Held V ⟨h.objs, tips⟩ i) (ha : Alive V h i ∨ i.new s) (W : List Nat) : Eff s V h W s' ⟨V.ids, V.tks ++ [k]⟩ ⟨h.objs, tips ++ [some x]⟩ := by
  have hVle : V.le ⟨V.ids, V.tks ++ [k]⟩ := ⟨List.prefix_rfl, List.prefix_append _ _⟩
  have hobj : ∀ o ∈ V.ids, s'.objs.get o = s.objs.get o := fun o ho => hs (.obj o) (fun e => hout o e.symm ho) (fun hd => (hD _ hd).2.2 o rfl ho) (hR.lt o ho)
  have old : ∀ (j : Nat) (k' : TK) (e' : Tip), (V.tks ++ [k])[j]? = some k' → (tips ++ [some x])[j]? = some (some e') → (V.tks[j]? = some k' ∧ tips[j]? = some (some e') ∧ k'.id ≠ some i) ∨ (k' = k ∧ e' = x ∧ j = tips.length) := by
    intro j k' e' h1 h2
    rcases getElem?_concat h1 with h1 | ⟨h1, h3⟩
    · rcases getElem?_concat h2 with h2 | ⟨h2, _⟩
      · exact .inl ⟨h1, h2, fun hk' => hd ⟨j, k', e', h1, hk', h2⟩⟩
      · have := (List.getElem?_eq_some_iff.1 h1).1
        have := hR.tlen
        omega
    · cases h3
      rcases getElem?_concat h2 with h2 | ⟨h5, h4⟩
      · have := (List.getElem?_eq_some_iff.1 h2).1
        have := hR.tlen
        omega
      · cases h4
        exact .inr ⟨rfl, rfl, h5⟩
  refine ⟨⟨hR.len, hR.nodup, fun o h1 => Nat.lt_of_lt_of_le (hR.lt o h1) hn, fun k o r h1 h2 => ?_, ?_, fun j k' e' h1 h2 => ?_, fun j j' i' k1 k2 e1 e2 h1 h2 h3 h4 h5 h6 => ?_, fun j k1 o e h1 h1' h2 => ?_⟩,
    ⟨List.prefix_rfl, fun o h1 => .inl h1, hn, hle, fun o h1 h2 h3 => ?_, fun k hk hna => ?_, fun k hk => ?_, fun k r h1 => ⟨r, h1, rfl, rfl, rfl⟩, fun k o r ts h1 _ h3 => ⟨ts, by rw [hobj o (mem_ids hR h1)]; exact h3, rfl, fun _ _ => rfl⟩⟩, hVle, fun k o _ h1 => hobj o (mem_ids hR h1)⟩
  · obtain ⟨ts, h3, h4⟩ := hR.obj k o r h1 h2
    exact ⟨ts, by rw [hobj o (mem_ids hR h1)]; exact h3, h4.mono hVle⟩
  · simp [hR.tlen, hl]
  · rcases old j k' e' h1 h2 with ⟨h3, h4, h5⟩ | ⟨rfl, rfl, _⟩
    · have h6 := hR.tips j k' e' h3 (ht _ _ h4)
      exact h6.same hn hle fun i' hi' => hs i' (fun e => h5 (by rw [hi', e])) (fun hd => (hD _ hd).2.1 ⟨j, k', e', h3, hi', h4⟩) (h6.old hi')
    · exact hg
  · rcases old j k1 e1 h1 h5 with ⟨h7, h8, h9⟩ | ⟨rfl, _, h9⟩
    · rcases old j' k2 e2 h2 h6 with ⟨h10, h11, _⟩ | ⟨rfl, _⟩
      · exact hR.tinj j j' i' k1 k2 e1 e2 h7 h10 h3 h4 (ht _ _ h8) (ht _ _ h11)
      · rw [hk] at h4; cases h4; exact absurd h3 h9
    · rcases old j' k2 e2 h2 h6 with ⟨_, _, h7⟩ | ⟨_, _, h8⟩
      · rw [hk] at h3; cases h3; exact absurd h4 h7
      · omega
  · rcases old j _ e h1 h2 with ⟨h3, h4, _⟩ | ⟨rfl, _, _⟩
    · exact hR.out j k1 o e h3 h1' (ht _ _ h4)
    · rw [hk] at h1'; cases h1'; exact hout o rfl
  · refine hs (.obj o) (fun e1 => ?_) (fun hd => h3 (hD _ hd).1) h1
    subst e1
    rcases ha with h4 | h4
    · exact h3 h4
    · have : s.n ≤ o := h4
      omega
  · refine hs (.tip k) (fun e1 => ?_) (fun hd => hna (hD _ hd).1) hk
    subst e1
    rcases ha with h1 | h1
    · exact hna h1
    · have : s.ntips ≤ k := h1
      omega
  · obtain ⟨j, k', e', h1, h2, h3, hlv⟩ := hk
    rcases old j k' e' h1 h3 with ⟨h4, h5, _⟩ | ⟨rfl, _⟩
    · exact .inl ⟨j, k', e', h4, h2, ht _ _ h5, hlv⟩
    · rw [hk] at h2; cases h2; exact ha
theorem Held.less {tips : List (Option Tip)} {i : TId} {j : Nat} {k : TK} {e : Tip} (hR : HRel s V h) (ht : ∀ (j : Nat) (e : Tip), tips[j]? = some (some e) → h.tips[j]? = some (some e)) (h1 : V.tks[j]? = some k) (hk : k.id = some i) (h2 : h.tips[j]? = some (some e))
    (h3 : ∀ e' : Tip, tips[j]? ≠ some (some e')) : ¬ Held V ⟨h.objs, tips⟩ i := by
  rintro ⟨j', k', e', h4, h5, h6⟩
  have := hR.tinj j j' i k k' e e' h1 h4 hk h5 h2 (ht _ _ h6)
  subst this
  exact h3 _ h6
/-- A row's end is moved. -/
theorem grow_eff (hR : HRel s V h) {tips : List (Option Tip)} (hl : tips.length = h.tips.length) (ht : ∀ (j : Nat) (e : Tip), tips[j]? = some (some e) → h.tips[j]? = some (some e))
    {i m : Nat} {e : TypeId} (hn : s'.n = s.n) (ho : s'.objs = s.objs) (hle : s.ntips ≤ s'.ntips) (hi : i < s'.ntips) (hg : s'.tips.get i = some (m, e)) (hs : ∀ k, k ≠ i → k < s.ntips → s'.tips.get k = s.tips.get k)
    (hd : ¬ Held V ⟨h.objs, tips⟩ (.tip i)) (ha : Alive V h (.tip i) ∨ s.ntips ≤ i) (W : List Nat) : Eff s V h W s' ⟨V.ids, V.tks ++ [.tok (.tip i) m]⟩ ⟨h.objs, tips ++ [some (.gr e)]⟩ :=
  tok_eff hR hl ht (k := .tok (.tip i) m) (x := .gr e) (i := .tip i) rfl (by rw [hn]; exact Nat.le_refl _) hle (show i < s'.ntips ∧ s'.tips.get i = some (m, e) from ⟨hi, hg⟩) (fun _ => False) (fun _ h => h.elim) (fun i' hne _ hold => by
    cases i' with
    | tip k => exact hs k (fun e => hne (by rw [e])) hold
    | obj o => show s'.objs.get o = _; rw [ho]) (fun o e => by cases e) hd ha W
/-- Something that is owned is changed. -/
theorem own_eff (hR : HRel s V h) {j o : Nat} {c c' : Own} {kt : TK} (hj : V.tks[j]? = some kt) (hkt : kt.id = some (.obj o)) (hc : h.tips[j]? = some (some (.own c))) (hn : s'.n = s.n) (hnt : s'.ntips = s.ntips) (htp : s'.tips = s.tips) (ho : ∀ o', o' ≠ o → s'.objs.get o' = s.objs.get o')
    (hg : Good s' kt (.own c')) (W : List Nat) : Eff s V h W s' V (setOwn h j c') := by
  have hids : o ∉ V.ids := hR.out j kt o _ hj hkt hc
  have hobj : ∀ o' ∈ V.ids, s'.objs.get o' = s.objs.get o' := fun o' ho' => ho o' fun e => hids (e ▸ ho')
  have old : ∀ (j' : Nat) (e : Tip), (setOwn h j c').tips[j']? = some (some e) → (j' = j ∧ e = .own c') ∨ (j' ≠ j ∧ h.tips[j']? = some (some e)) := fun j' e he => by
    simp only [setOwn, List.getElem?_set] at he
    split at he
    · rename_i e1
      split at he
      · cases he; exact .inl ⟨e1.symm, rfl⟩
      · cases he
    · rename_i e1
      exact .inr ⟨fun e => e1 e.symm, he⟩
  have live : ∀ (j' : Nat) (e : Tip), (setOwn h j c').tips[j']? = some (some e) → ∃ e', h.tips[j']? = some (some e') := fun j' e he => by
    rcases old j' e he with ⟨rfl, _⟩ | ⟨_, h1⟩
    · exact ⟨_, hc⟩
    · exact ⟨_, h1⟩
  refine ⟨⟨hR.len, hR.nodup, fun o' h1 => by rw [hn]; exact hR.lt o' h1, fun k o' r h1 h2 => ?_, by rw [hR.tlen]; simp [setOwn], fun j' k e h1 h2 => ?_, fun j1 j2 i k1 k2 e1 e2 h1 h2 h3 h4 h5 h6 => ?_, fun j' k o' e h1 h1' h2 => ?_⟩,
    ⟨List.prefix_rfl, fun o' h1 => .inl h1, by omega, by omega, fun o' h1 h2 h3 => ?_, fun i _ _ => by rw [htp], fun i hi => ?_, fun k r h1 => ⟨r, h1, rfl, rfl, rfl⟩, fun k o' r ts h1 _ h3 => ⟨ts, by rw [hobj o' (mem_ids hR h1)]; exact h3, rfl, fun _ _ => rfl⟩⟩, .refl _, fun k o' _ h1 => hobj o' (mem_ids hR h1)⟩
  · obtain ⟨ts, h3, h4⟩ := hR.obj k o' r h1 h2
    exact ⟨ts, by rw [hobj o' (mem_ids hR h1)]; exact h3, h4⟩
  · rcases old j' e h2 with ⟨rfl, rfl⟩ | ⟨h3, h4⟩
    · rw [hj] at h1; cases h1; exact hg
    · have h5 := hR.tips j' k e h1 h4
      refine h5.same (by omega) (by omega) fun i hi => ?_
      cases i with
      | tip i => show s'.tips.get i = _; rw [htp]
      | obj o' => exact ho o' fun e1 => h3 (hR.tinj j' j (.obj o) k _ e _ h1 hj (by rw [hi, e1]) hkt h4 hc)
  · obtain ⟨e3, h7⟩ := live _ _ h5
    obtain ⟨e4, h8⟩ := live _ _ h6
    exact hR.tinj j1 j2 i k1 k2 e3 e4 h1 h2 h3 h4 h7 h8
  · obtain ⟨e3, h7⟩ := live _ _ h2
    exact hR.out j' k o' e3 h1 h1' h7
  · exact ho o' fun e1 => h3 ⟨j, _, _, hj, by rw [e1]; exact hkt, hc, rfl⟩
  · obtain ⟨j', k, e, h1, h2, h3, hlv⟩ := hi
    rcases old j' e h3 with ⟨rfl, rfl⟩ | ⟨_, h7⟩
    · exact .inl ⟨_, k, _, h1, h2, hc, rfl⟩
    · exact .inl ⟨j', k, e, h1, h2, h7, hlv⟩

/-! ### append -/
theorem append_some {t u elem : TypeId} {ud : TypeDesc} (ht : P.underlying t = some (.slice elem)) (hu : P.underlying u = some ud) (hk : srcKind ud = true) {b : Bool} {es ys : List TV} {tok : Tok} {y : TV} (hy : srcT s (P.cellsOf elem) y = some ys)
    (hne : ys.isEmpty = false) (hb : (es.length + ys.length) * P.bytesOf elem ≤ 140737488355328) (hb0 : 0 < P.bytesOf elem) (hc0 : 0 < P.cellsOf elem) (h1 : headOk (P.cellsOf elem) ys = true) (h2 : headOk (P.cellsOf elem) es = true) (h3 : slotOk ys = true) (h4 : slotOk es = true) (hz : zeroFits P elem = true)
    (hR : HRel s V h) {utok : UTok} {tips : List (Option Tip)} (hu' : useTok elem h.tips utok = some tips) (r : TokR V utok es.length tok) (W : List Nat) :
    ∃ i s', appendT P s t u (.slice b es tok) y = some (.slice false (es ++ ys) (.tip i), s') ∧ Eff s V h W s' ⟨V.ids, V.tks ++ [.tok (.tip i) (es.length + ys.length)]⟩ ⟨h.objs, tips ++ [some (.gr elem)]⟩ := by
  obtain ⟨k1, k2, k3⟩ := useTok_ok hu' r
  rcases k3 with rfl | ⟨i, j, rfl, k4, k5, k6⟩
  · refine ⟨s.ntips, { s with ntips := s.ntips + 1, tips := s.tips.set s.ntips (es.length + ys.length, elem) }, ?_, ?_⟩
    · unfold appendT
      rw [ht, hu]
      simp [hk, hy, hne, hb, hb0, hc0, h1, h2, h3, h4, hz]
    · refine grow_eff (s' := { s with ntips := s.ntips + 1, tips := s.tips.set s.ntips (es.length + ys.length, elem) }) hR k1 k2 rfl rfl (Nat.le_succ _) (Nat.lt_succ_self _) (by simp [Tr.get_set]) (fun k hk _ => by simp [Tr.get_set, hk]) ?_ (.inr (Nat.le_refl _)) W
      rintro ⟨j, k, e, h5, h5', h6⟩
      have : s.ntips < s.ntips := (hR.tips j k e h5 (k2 _ _ h6)).old h5'
      omega
  · obtain ⟨k7, k8⟩ := hR.tips j _ _ k4 k5
    refine ⟨i, { s with tips := s.tips.set i (es.length + ys.length, elem) }, ?_, ?_⟩
    · unfold appendT
      rw [ht, hu]
      simp [hk, hy, hne, hb, hb0, hc0, h1, h2, h3, h4, hz, k8]
    · exact grow_eff (s' := { s with tips := s.tips.set i (es.length + ys.length, elem) }) hR k1 k2 rfl rfl (Nat.le_refl _) k7 (by simp [Tr.get_set]) (fun k hk _ => by simp [Tr.get_set, hk]) (Held.less hR k2 k4 rfl k5 k6) (.inl ⟨j, _, _, k4, rfl, k5, rfl⟩) W
theorem slot_elR {t : Ty} {l : List t.den} {es : List TV} (r : All2 (ElR t) l es) : slotOk es = true := by
  unfold slotOk
  rw [List.all_eq_true]
  intro e he
  obtain ⟨x, hx⟩ := r.mem he
  exact hx.2.fine
theorem asL_dst {t : Ty} {x : UV} {x' : TV} (r : URel V x x') {l : List t.den} (hx : (∃ t b l tok, x = .slice t b l tok) ∨ ∃ b es tok, x = .lslice b es tok) (h : asL t x = some l) : ∃ b es tok, x' = .slice b es tok ∧ All2 (ElR t) l es ∧ TokR V (tokOf x) l.length tok := by
  rcases hx with ⟨t', b, l', tok, rfl⟩ | ⟨b, es, tok, rfl⟩
  · simp only [asL] at h
    split at h
    · rename_i e
      cases h
      cases r with | slice _ _ b' _ es _ tok' h1 h2 h3 => exact ⟨b', es, tok', rfl, castL_rel e h2, by rw [castL_length]; exact h3⟩
    · cases h
  · simp only [asL] at h
    cases r with
    | lslice _ _ es' _ tok' h1 h2 =>
      have h3 := decL_rel (R := ElR t) (fun h r => decV_rel h r) h h1
      exact ⟨b, es', tok', rfl, h3, by rw [h3.length, ← h1.length]; exact h2⟩
theorem asL_src {t : Ty} {y : UV} {y' : TV} (r : URel V y y') {l : List t.den} (h : asL t y = some l) (n : Nat) : ∃ ys, srcT s n y' = some ys ∧ All2 (ElR t) l ys := by
  unfold asL at h
  split at h
  · split at h
    · rename_i e
      cases h
      cases r with | slice _ _ b' _ es _ tok' h1 h2 h3 => exact ⟨es, rfl, castL_rel e h2⟩
    · cases h
  · cases r with
    | lslice _ _ es' _ tok' h1 h2 => exact ⟨es', rfl, decL_rel (R := ElR t) (fun h r => decV_rel h r) h h1⟩
  · split at h
    · cases h; cases r; exact ⟨_, rfl, byteInts_rel _⟩
    · cases h
  · cases h
theorem appendTy_ok (hR : HRel s V h) {t u elem : TypeId} {ud : TypeDesc} (ht : P.underlying t = some (.slice elem)) (hu : P.underlying u = some ud) (hk : srcKind ud = true) (hb0 : 0 < P.bytesOf elem) (hc0 : 0 < P.cellsOf elem) (hz : zeroFits P elem = true)
    {ty : Ty} {x y : UV} {x' y' : TV} (rx : URel V x x') (ry : URel V y y') (hx : (∃ t b l tok, x = .slice t b l tok) ∨ ∃ b es tok, x = .lslice b es tok) {r : UV × UHeap} (hh : (appendTyU P h ty elem x y).Has r) (W : List Nat) :
    ∃ s' V' v, appendT P s t u x' y' = some (v, s') ∧ URel V' r.1 v ∧ Eff s V h W s' V' r.2 := by
  unfold appendTyU at hh
  split at hh
  · rename_i hsz
    split at hh
    · rename_i l l' hl hl'
      obtain ⟨b, es, tok, rfl, k1, k2⟩ := asL_dst rx hx hl
      obtain ⟨ys, k3, k4⟩ := asL_src (s := s) ry hl' (P.cellsOf elem)
      have e1 : ys.isEmpty = l'.isEmpty := by
        have := k4.length
        cases ys <;> cases l' <;> first | rfl | simp at this
      simp only [Tree.Has] at hh
      rcases hh with ⟨he, rfl⟩ | ⟨he, ⟨hd, hh⟩ | ⟨_, hh⟩⟩
      · refine ⟨s, V, _, ?_, rx, Eff.refl hR W⟩
        unfold appendT
        rw [ht, hu]
        simp [hk, k3, e1, he, hc0]
      · split at hh
        · rename_i tips htips
          simp only [Tree.Has] at hh
          subst hh
          simp only [decide_eq_true_eq] at hd
          rw [k1.length] at k2
          have s1 := ElRs.size k1
          have s2 := ElRs.size k4
          rw [hsz] at s1 s2
          obtain ⟨i, s', k5, k6⟩ := append_some ht hu hk k3 (by rw [e1]; exact he) (by rw [← k1.length, ← k4.length]; exact hd) hb0 hc0 (headOk_all s2) (headOk_all s1) (slot_elR k4) (slot_elR k1) hz hR htips k2 W (b := b)
          refine ⟨s', _, _, k5, .slice _ _ _ _ _ _ _ (fun x hx => by cases hx; rfl) (k1.append k4) ⟨?_, by simp⟩, k6⟩
          have : tips.length = V.tks.length := by rw [(useTok_ok htips k2).1, hR.tlen]
          rw [this]
          simp [k1.length, k4.length]
        · exact hh.elim
      · exact hh.elim
    · exact hh.elim
  · exact hh.elim
theorem lsl_fine {n : Nat} {us : List UV} {vs : List TV} (r : URels V us vs) (h : us.all (fineU n) = true) : headOk n vs = true ∧ slotOk vs = true := by
  have : ∀ v ∈ vs, v.cells.length = n ∧ v.cells.all cellOk = true := by
    induction us generalizing vs with
    | nil => cases r; simp
    | cons u us ih => cases r with
      | cons _ v _ vs r rs =>
        simp only [List.all_cons, Bool.and_eq_true, fineU, beq_iff_eq] at h
        intro e he
        rcases List.mem_cons.1 he with rfl | he
        · exact fineU_ok r h.1.2 h.1.1
        · exact ih rs h.2 e he
  exact ⟨headOk_all fun e he => (this e he).1, by unfold slotOk; rw [List.all_eq_true]; exact fun e he => (this e he).2⟩
theorem append_ok (hR : HRel s V h) {t u : TypeId} {x y : UV} {x' y' : TV} (rx : URel V x x') (ry : URel V y y') {r : UV × UHeap} (hh : (appendU P h t u x y).Has r) (W : List Nat) :
    ∃ s' V' v, appendT P s t u x' y' = some (v, s') ∧ URel V' r.1 v ∧ Eff s V h W s' V' r.2 := by
  unfold appendU at hh
  split at hh
  · rename_i elem ud ht hu
    split at hh
    · rename_i hc
      simp only [Bool.and_eq_true, decide_eq_true_eq] at hc
      obtain ⟨⟨⟨hk, hb0⟩, hc0⟩, hz⟩ := hc
      split at hh
      · rename_i b es tok b2 es' tok2
        cases rx with
        | lslice _ _ vs _ tok' h1 h2 =>
        cases ry with
        | lslice _ _ ws _ tok2' h3 h4 =>
          have e1 : ws.isEmpty = es'.isEmpty := by
            have := h3.length
            cases ws <;> cases es' <;> first | rfl | simp at this
          split at hh
          · rename_i he
            simp only [Tree.Has] at hh
            subst hh
            refine ⟨s, V, _, ?_, .lslice _ _ _ _ _ h1 h2, Eff.refl hR W⟩
            unfold appendT
            rw [ht, hu]
            simp [hk, srcT, e1, he, hc0]
          · rename_i he
            split at hh
            · rename_i hf
              simp only [Bool.and_eq_true, decide_eq_true_eq] at hf
              obtain ⟨⟨f1, f2⟩, f3⟩ := hf
              split at hh
              · rename_i tips htips
                simp only [Tree.Has] at hh
                subst hh
                rw [h1.length] at h2
                obtain ⟨i, s', k5, k6⟩ := append_some ht hu hk (s := s) (y := .slice b2 ws tok2') rfl (by rw [e1]; simpa using he) (by rw [← h1.length, ← h3.length]; exact f3) hb0 hc0 (lsl_fine h3 f2).1 (lsl_fine h1 f1).1 (lsl_fine h3 f2).2 (lsl_fine h1 f1).2 hz hR htips h2 W (b := b)
                refine ⟨s', _, _, k5, .lslice _ _ _ _ _ ((h1.append h3).mono k6.le) ⟨?_, by simp⟩, k6⟩
                have : tips.length = V.tks.length := by rw [(useTok_ok htips h2).1, hR.tlen]
                rw [this]
                simp [h1.length, h3.length]
              · exact hh.elim
            · exact hh.elim
      · exact appendTy_ok hR ht hu hk hb0 hc0 hz rx ry (.inl ⟨_, _, _, _, rfl⟩) hh W
      · exact appendTy_ok hR ht hu hk hb0 hc0 hz rx ry (.inr ⟨_, _, _, rfl⟩) hh W
      · exact appendTy_ok hR ht hu hk hb0 hc0 hz rx ry (.inr ⟨_, _, _, rfl⟩) hh W
      · exact hh.elim
    · exact hh.elim
  · exact hh.elim

theorem appendX_of {t u : TypeId} {x y : TV} {r : TV × St} (ho : ownedT t = false) (h : appendT P s t u x y = some r) : appendX P s t u x y = some r := by
  unfold appendX
  split
  · unfold appendT at h
    split at h
    · split at h
      · cases h
      · simp at h
    · cases h
  · rw [ho]; exact h
  · exact h
/-- A new map. -/
theorem newMap_eff (hR : HRel s V h) (v : Ty) {l : List (List UInt8 × v.den)} {es : List (TV × TV × Nat)} {c : Nat} (hm : MapR v l es c) (W : List Nat) :
    Eff s V h W (mkObj s (.map es c)) ⟨V.ids, V.tks ++ [.mp s.n]⟩ ⟨h.objs, h.tips ++ [some (.own (.map v l))]⟩ ∧ (⟨V.ids, V.tks ++ [.mp s.n]⟩ : Val).tks[h.tips.length]? = some (.mp s.n) := by
  have hno : ¬ Held V h (.obj s.n) := fun ⟨j, k, e, h1, h2, h3⟩ => by
    have : s.n < s.n := (hR.tips j k e h1 h3).old h2
    omega
  refine ⟨tok_eff (s' := mkObj s (.map es c)) hR rfl (fun _ _ h => h) (k := .mp s.n) (i := .obj s.n) rfl (by simp [mkObj]) (Nat.le_refl _) (Good.map (by simp [mkObj]) (by simp [mkObj, Tr.get_set]) hm) (fun _ => False) (fun _ h => h.elim) (fun i' hne _ hold => ?_) (fun o e ho => ?_) hno (.inr (Nat.le_refl _)) W, by simp [← hR.tlen]⟩
  · cases i' with
    | tip i => rfl
    | obj o => show (mkObj s _).objs.get o = _; simp only [mkObj, Tr.get_set]; rw [if_neg fun e => hne (by rw [e])]
  · cases e
    have := hR.lt _ ho
    omega
theorem mapSet_ok (hR : HRel s V h) {t : TypeId} {m k v : UV} {m' k' v' : TV} (rm : URel V m m') (rk : URel V k k') (rv : URel V v v') {r : UV × UHeap × List Nat} (hh : (mapSetU P h t m k v).Has r) :
    ∃ s' V' w, (mapSetT P s t m' k' v').map (fun s => (undefT, s)) = some (w, s') ∧ URel V' r.1 w ∧ Eff s V h r.2.2 s' V' r.2.1 := by
  unfold mapSetU at hh
  split at hh
  · rename_i key elem j str ht
    split at hh
    · rename_i vt l hkey hown
      split at hh
      · rename_i x hx
        simp only [Tree.Has] at hh
        subst hh
        cases rm with
        | ols _ o n hj => exact (own_get hR (ownOf_read hown) hj).elim
        | onl _ hj => exact (own_get hR (ownOf_read hown) hj).elim
        | oref _ o hj =>
        cases rk with
        | str _ =>
        obtain ⟨h0, es, c, h1, h2⟩ := own_map hR (ownOf_read hown) hj
        have hlive := own_live hown
        obtain ⟨f1, f2⟩ := h2.set (k := str) (decV_rel hx rv)
        unfold mapSetT
        simp only [ht, hkey, h1]
        simp only [simpleKey, Bool.not_true, Bool.false_eq_true, if_false]
        rcases findT_total (k := str) 0 h2.rel with hf | ⟨n, z, hf⟩
        · rw [hf]
          refine ⟨_, V, undefT, rfl, .tup _ _ .nil, ?_⟩
          refine own_eff hR hj rfl hlive (by rfl) (by rfl) (by rfl) (fun o' ho' => ?_) ?_ []
          · simp [Tr.get_set, ho']
          · exact Good.map (c := _) h0 (by simp only [Tr.get_set, if_true]) (f2 hf)
        · rw [hf]
          refine ⟨_, V, undefT, rfl, .tup _ _ .nil, ?_⟩
          refine own_eff hR hj rfl hlive (by rfl) (by rfl) (by rfl) (fun o' ho' => ?_) ?_ []
          · simp [Tr.get_set, ho']
          · exact Good.map (c := _) h0 (by simp only [Tr.get_set, if_true]) (f1 n z hf)
      · exact hh.elim
    · exact hh.elim
  · exact hh.elim
theorem mapDel_ok (hR : HRel s V h) {t : TypeId} {m k : UV} {m' k' : TV} (rm : URel V m m') (rk : URel V k k') {r : UV × UHeap × List Nat} (hh : (mapDelU P h t m k).Has r) :
    ∃ s' V' w, (deleteT P s t m' k').map (fun s => (.tup [], s)) = some (w, s') ∧ URel V' r.1 w ∧ Eff s V h r.2.2 s' V' r.2.1 := by
  unfold mapDelU at hh
  split at hh
  · rename_i key elem j str ht
    split at hh
    · rename_i vt l hkey hown
      simp only [Tree.Has] at hh
      subst hh
      cases rm with
      | ols _ o n hj => exact (own_get hR (ownOf_read hown) hj).elim
      | onl _ hj => exact (own_get hR (ownOf_read hown) hj).elim
      | oref _ o hj =>
      cases rk with
      | str _ =>
      obtain ⟨h0, es, c, h1, h2⟩ := own_map hR (ownOf_read hown) hj
      have hlive := own_live hown
      obtain ⟨f1, f2⟩ := h2.del (k := str)
      unfold deleteT
      simp only [ht, hkey, h1]
      simp only [simpleKey, Bool.not_true, Bool.false_eq_true, if_false]
      rcases findT_total (k := str) 0 h2.rel with hf | ⟨n, z, hf⟩
      · rw [hf, f2 hf]
        refine ⟨_, V, _, rfl, .tup _ _ .nil, own_eff hR hj rfl hlive rfl rfl rfl (fun o' ho' => rfl) (Good.map h0 h1 h2) []⟩
      · rw [hf]
        refine ⟨_, V, _, rfl, .tup _ _ .nil, ?_⟩
        refine own_eff hR hj rfl hlive (by rfl) (by rfl) (by rfl) (fun o' ho' => ?_) ?_ []
        · simp [Tr.get_set, ho']
        · exact Good.map (c := _) h0 (by simp only [Tr.get_set, if_true]) (f1 n z hf)
    · exact hh.elim
  · exact hh.elim
theorem All2.set {α β : Type} {R : α → β → Prop} : ∀ {l : List α} {m : List β} {i : Nat} {x : α} {y : β}, All2 R l m → R x y → All2 R (l.set i x) (m.set i y)
  | [], [], _, _, _, _, _ => trivial
  | a :: l, b :: m, 0, x, y, h, hxy => ⟨hxy, h.2⟩
  | a :: l, b :: m, i + 1, x, y, h, hxy => ⟨h.1, All2.set h.2 hxy⟩
  | [], _ :: _, _, _, _, h, _ => h.elim
  | _ :: _, [], _, _, _, h, _ => h.elim
theorem flat_upd : ∀ {es : List TV} {i sz : Nat} {y z : TV}, (∀ x ∈ es, x.cells.length = sz) → es[i]? = some y → ∃ a b, es.flatMap TV.cells = a ++ (y.cells ++ b) ∧ (es.set i z).flatMap TV.cells = a ++ (z.cells ++ b) ∧ a.length = i * sz
  | [], i, sz, y, z, _, h => by simp at h
  | x :: es, 0, sz, y, z, hs, h => by
    simp at h
    subst h
    exact ⟨[], es.flatMap TV.cells, rfl, rfl, by simp⟩
  | x :: es, i + 1, sz, y, z, hs, h => by
    obtain ⟨a, b, h1, h2, h3⟩ := flat_upd (es := es) (i := i) (sz := sz) (z := z) (fun w hw => hs w (by simp [hw])) (by simpa using h)
    refine ⟨x.cells ++ a, b, by rw [List.flatMap_cons, h1, List.append_assoc], by rw [List.set_cons_succ, List.flatMap_cons, h2, List.append_assoc], ?_⟩
    rw [List.length_append, h3, hs x (by simp), Nat.succ_mul]
    omega
theorem splice_mid {a b c vs : List TV} {off : Nat} (h : off + vs.length ≤ c.length) : splice (a ++ (c ++ b)) (a.length + off) vs = a ++ (splice c off vs ++ b) := by
  unfold splice
  rw [List.take_append, List.take_of_length_le (by omega), Nat.add_sub_cancel_left, List.take_append_of_le_length (by omega)]
  rw [List.drop_append, List.drop_of_length_le (l := a) (by omega), List.nil_append, show a.length + off + vs.length - a.length = off + vs.length by omega, List.drop_append_of_le_length h]
  simp [List.append_assoc]
theorem size_noagg {t : Ty} (h : t.isAgg = false) : t.size = 1 := by cases t <;> first | rfl | cases h
theorem storeO_ok (hR : HRel s V h) {t : TypeId} {j sz off : Nat} {i : Int} {p : TV} {vs : List UV} {ws : List TV} (r : URel V (.lptr j sz i off) p) (rv : URels V vs ws) {r0 : UV × UHeap × List Nat} (hh : (storeO P h t j sz i off vs).Has r0) :
    ∃ o off' s', p = .ptr o off' ∧ (ws.length = P.cellsOf t ∧ 0 < P.cellsOf t) ∧ setCellsT s o off' ws = some s' ∧ r0.1 = undefU ∧ Eff s V h r0.2.2 s' V r0.2.1 := by
  unfold storeO at hh
  split at hh
  · rename_i ty e l hc
    split at hh
    · rename_i hcond
      simp only [Bool.and_eq_true, beq_iff_eq, decide_eq_true_eq] at hcond
      obtain ⟨⟨⟨⟨h1, h2⟩, h3⟩, h4⟩, h5⟩ := hcond
      obtain ⟨x, hx, hh⟩ := hh
      simp only at hh
      split at hh
      · rename_i y hy
        simp only [Tree.Has] at hh
        subst hh
        cases r with
        | lptr _ _ o n _ _ hj hi =>
          obtain ⟨k0, ⟨k1, k2⟩, es, k3, k4⟩ := own_lst hR (ownOf_read hc) hj
          obtain ⟨z, hz, hxz⟩ := k4.get hx
          have hzl : z.cells.length = ty.size := hxz.2.length
          have hwl := rv.length
          obtain ⟨c1, c2, e1, hy1, hy2⟩ := decU_rel hy (splice_rel off (cellsU_rel (V := V) hxz.2) rv)
          cases hy2
          rw [List.append_nil] at e1
          have hwok : ws.all cellOk = true := rv.allOk h5
          obtain ⟨z', hz1, hz2⟩ : ∃ z' : TV, z'.cells = splice z.cells off ws ∧ ElR ty y z' := by
            cases hag : ty.isAgg with
            | true => exact ⟨.agg (splice z.cells off ws), rfl, by rw [hag]; rfl, by show CellsR ty y (splice z.cells off ws); rw [e1]; exact hy1⟩
            | false =>
              have hs1 := size_noagg hag
              have hl1 : (splice z.cells off ws).length = 1 := by rw [splice_length (by omega), hzl, hs1]
              obtain ⟨c, hcc⟩ := List.length_eq_one_iff.1 hl1
              have hy' : CellsR ty y [c] := by rw [← hcc, e1]; exact hy1
              have hcok := hy'.fine
              have hna : isAggV c = false := by cases c <;> first | rfl | simp [cellOk] at hcok
              exact ⟨c, by rw [hcc]; exact isAggV_cells hna, by rw [hag]; exact hna, by rw [isAggV_cells hna]; exact hy'⟩
          obtain ⟨a, b, f1, f2, f3⟩ := flat_upd (z := z') (ElRs.sz k4) hz
          have hsp : splice (es.flatMap TV.cells) (i.toNat * sz + off) ws = (es.set i.toNat z').flatMap TV.cells := by
            rw [f1, f2, h1, ← f3, splice_mid (by omega), hz1]
          refine ⟨o, _, { s with objs := s.objs.set o (.cells ((es.set i.toNat z').flatMap TV.cells) e) }, rfl, ⟨by omega, h3⟩, ?_, rfl, ?_⟩
          · unfold setCellsT
            rw [k3]
            simp only
            rw [if_pos, hsp]
            simp only [Bool.and_eq_true, decide_eq_true_eq]
            refine ⟨?_, hwok⟩
            rw [f1, h1, ← f3]
            simp only [List.length_append]
            omega
          · refine own_eff hR hj rfl (own_live hc) (by rfl) (by rfl) (by rfl) (fun o' ho' => ?_) ?_ []
            · simp [Tr.get_set, ho']
            · exact Good.lst k0 k1 (by rw [List.length_set]; exact k2) (by simp only [Tr.get_set, if_true]) (k4.set hz2)
      · exact hh.elim
    · exact hh.elim
  · exact hh.elim
theorem ElRs.agg {t : Ty} (ha : t.isAgg = true) : ∀ {l : List t.den} {es : List TV}, All2 (ElR t) l es → ∀ e ∈ es, ∃ cs, e = .agg cs
  | [], [], _, e, he => by cases he
  | x :: l, e0 :: es, h, e, he => by
    rcases List.mem_cons.1 he with rfl | he
    · have h1 := h.1.1
      rw [ha] at h1
      cases e <;> first | exact ⟨_, rfl⟩ | cases h1
    · exact ElRs.agg ha h.2 e he
  | [], _ :: _, h, _, _ => h.elim
  | _ :: _, [], h, _, _ => h.elim
theorem chunk_of {size : Nat} (h1 : size ≠ 1) : ∀ {es : List TV}, (∀ e ∈ es, ∃ cs, e = .agg cs ∧ cs.length = size) → chunk size es.length (es.flatMap TV.cells) = es
  | [], _ => rfl
  | e :: es, h => by
    obtain ⟨cs, rfl, h2⟩ := h e (by simp)
    have e1 : (TV.agg cs).cells = cs := rfl
    rw [List.length_cons, List.flatMap_cons, e1]
    unfold chunk
    rw [if_neg h1, ← h2, List.take_left, List.drop_left, h2, chunk_of h1 fun e he => h e (by simp [he])]
theorem lstY_src (hR : HRel s V h) {elem : TypeId} {ty : Ty} {y : UV} {y' : TV} (r : URel V y y') {l : List ty.den} (hl : lstY h elem ty y = some l) (hsz : ty.size = P.cellsOf elem) : ∃ ys, srcT s (P.cellsOf elem) (ungsl y') = some ys ∧ All2 (ElR ty) l ys := by
  unfold lstY at hl
  split at hl
  · rename_i j
    split at hl
    · rename_i hc
      simp only [Bool.and_eq_true, decide_eq_true_eq] at hc
      obtain ⟨c, hc1, hc2⟩ := Option.bind_eq_some_iff.1 hl
      have hcl : c = .lst ty elem l := by
        cases c with
        | map v' l0 => cases hc2
        | lst t' e' l0 =>
          simp only [asLst] at hc2
          split at hc2
          · rename_i e1
            subst e1
            split at hc2
            · rename_i e2; subst e2; cases hc2; rfl
            · cases hc2
          · cases hc2
      subst hcl
      rcases oref_cases r with ⟨o, rfl, hj⟩ | ⟨o, n, rfl, hj⟩ | ⟨rfl, hj⟩
      · exact (own_get hR hc1 hj).elim
      rotate_left
      · have hnil := own_nil hR hc1 hj
        subst hnil
        exact ⟨[], rfl, trivial⟩
      · obtain ⟨q0, ⟨q1, q2⟩, es, q3, q4⟩ := own_lst hR hc1 hj
        have se := ElRs.sz q4
        have hn : n = es.length := by rw [q2, q4.length]
        have hfl : (es.flatMap TV.cells).length = n * P.cellsOf elem := by rw [flat_length (by rw [hsz] at se; exact se), hn]
        refine ⟨es, ?_, q4⟩
        have hfine : (es.flatMap TV.cells).all cellOk = true := by
          have := slot_elR q4
          unfold slotOk at this
          rw [List.all_flatMap]
          exact this
        simp only [ungsl, srcT, objCells, q3, List.drop_zero, Nat.zero_add]
        rw [List.take_of_length_le (by omega), hfine]
        simp only [hfl, Nat.le_refl, decide_true, Bool.and_self, if_true]
        rw [hn, chunk_of (by rw [← hsz]; omega) fun e he => ?_]
        obtain ⟨cs, e1⟩ := ElRs.agg hc.1 q4 e he
        subst e1
        exact ⟨cs, rfl, by rw [← hsz]; exact se _ he⟩
    · cases hl
  · rename_i y hy
    have : ungsl y' = y' := by
      cases r <;> first | rfl | exact (hy _ rfl).elim | (simp [asL] at hl; done)
    rw [this]
    exact asL_src r hl _
/-- append to what is owned. -/
theorem ownApp_ok (hR : HRel s V h) {t u : TypeId} {ty : Ty} {x y : UV} {x' y' : TV} (rx : URel V x x') (ry : URel V y y') {r : UV × UHeap × List Nat} (hh : (ownAppU P h t u ty x y).Has r) :
    ∃ s' V' v, TV.appendO P s t u x' y' = some (v, s') ∧ URel V' r.1 v ∧ Eff s V h r.2.2 s' V' r.2.1 := by
  unfold ownAppU at hh
  split at hh
  · rename_i elem ud ht hu
    split at hh
    · rename_i hc
      simp only [Bool.and_eq_true, decide_eq_true_eq] at hc
      obtain ⟨⟨⟨⟨hk, hb0⟩, hc0⟩, hz⟩, hsz⟩ := hc
      split at hh
      · rename_i l' hl'
        obtain ⟨ys, k3, k4⟩ := lstY_src (P := P) hR ry hl' hsz
        have hyl := k4.length
        simp only [Tree.Has] at hh
        rcases hh with ⟨_, hh⟩ | ⟨hne, hh⟩
        · exact hh.elim
        · have hne' : ys.isEmpty = false := by
            cases ys with
            | cons _ _ => rfl
            | nil => cases l' with
              | nil => exact hne
              | cons _ _ => simp at hyl
          have sy := ElRs.sz k4
          rw [hsz] at sy
          have hpos : 0 < l'.length := by cases l' with | nil => simp at hne | cons _ _ => simp
          have hno : ¬ Held V h (.obj s.n) := fun ⟨j, k, e, h1, h2, h3⟩ => by
            have : s.n < s.n := (hR.tips j k e h1 h3).old h2
            omega
          split at hh
          · rename_i j
            split at hh
            · rename_i l hl
              obtain ⟨c, hc1, hc2⟩ := Option.bind_eq_some_iff.1 hl
              have hcl : c = .lst ty elem l := by
                cases c with
                | map v' l0 => cases hc2
                | lst t' e' l0 =>
                  simp only [asLst] at hc2
                  split at hc2
                  · rename_i e1
                    subst e1
                    split at hc2
                    · rename_i e2; subst e2; cases hc2; rfl
                    · cases hc2
                  · cases hc2
              subst hcl
              rcases oref_cases rx with ⟨o, rfl, hj⟩ | ⟨o, n, rfl, hj⟩ | ⟨rfl, hj⟩
              · exact (own_get hR (ownOf_read hc1) hj).elim
              rotate_left
              · have hnil := own_nil hR (ownOf_read hc1) hj
                subst hnil
                simp only [Tree.Has] at hh
                rcases hh with ⟨hb, rfl⟩ | ⟨_, hh⟩
                · simp only [decide_eq_true_eq] at hb
                  refine ⟨mkObj s (.cells (([] : List TV).flatMap TV.cells ++ ys.flatMap TV.cells) elem), ⟨V.ids, V.tks ++ [.ls s.n (([] : List TV).length + ys.length)]⟩, .gsl s.n (([] : List TV).length + ys.length), ?_, ?_, ?_⟩
                  · unfold TV.appendO
                    rw [ht, hu]
                    simp only [hk, Bool.not_true, Bool.false_eq_true, if_false, k3, hne', Bool.false_or, hb0, hc0, headOk_all sy, slot_elR k4, hz, decide_true, Bool.and_self]
                    rw [if_pos]
                    simp only [Bool.and_eq_true, decide_eq_true_eq]
                    exact ⟨⟨by rw [← hyl]; simpa using hb, rfl⟩, rfl⟩
                  · exact .ols _ _ _ (by simp [← hR.tlen])
                  · refine tok_eff (s' := mkObj s (.cells (([] : List TV).flatMap TV.cells ++ ys.flatMap TV.cells) elem)) hR (by simp) (fun k e hk => (set_none k e hk).1) (k := .ls s.n (([] : List TV).length + ys.length)) (i := .obj s.n) rfl (by simp [mkObj]) (Nat.le_refl _) ?_ (fun _ => False) (fun _ h => h.elim) (fun i' hne _ hold => ?_) (fun o' e ho => ?_) (fun ⟨j', k, e, h1, h2, h3⟩ => hno ⟨j', k, e, h1, h2, (set_none j' e h3).1⟩) (.inr (Nat.le_refl _)) []
                    · refine Good.lst (es := ys) (by simp [mkObj]) (by simp; omega) (by simp [hyl]) ?_ k4
                      simp [mkObj, Tr.get_set]
                    · cases i' with
                      | tip i => rfl
                      | obj o' =>
                        have h1 : o' ≠ s.n := fun e => hne (by rw [e])
                        show (mkObj s _).objs.get o' = _
                        simp only [mkObj, Tr.get_set]
                        rw [if_neg h1]
                    · cases e
                      have := hR.lt _ ho
                      omega
                · exact hh.elim
              · have hlive := own_live hc1
                obtain ⟨q0, ⟨q1, q2⟩, es, q3, q4⟩ := own_lst hR (ownOf_read hc1) hj
                simp only [Tree.Has] at hh
                rcases hh with ⟨hb, rfl⟩ | ⟨_, hh⟩
                · simp only [decide_eq_true_eq] at hb
                  have se := ElRs.sz q4
                  rw [hsz] at se
                  have hoV : o ∉ V.ids := hR.out j _ o _ hj rfl hlive
                  refine ⟨mkObj (killed s o elem) (.cells (es.flatMap TV.cells ++ ys.flatMap TV.cells) elem), ⟨V.ids, V.tks ++ [.ls s.n (n + ys.length)]⟩, .gsl s.n (n + ys.length), ?_, ?_, ?_⟩
                  · unfold TV.appendO
                    rw [ht, hu]
                    have hol : objCells s o = some (es.flatMap TV.cells, elem) := by unfold objCells; rw [q3]
                    have hfl : (es.flatMap TV.cells).length = n * P.cellsOf elem := by rw [flat_length se, q2, q4.length]
                    simp only [hk, Bool.not_true, Bool.false_eq_true, if_false, k3, hne', Bool.false_or, hb0, hc0, headOk_all sy, slot_elR k4, hz, decide_true, Bool.and_self, hol]
                    rw [if_pos]
                    simp only [Bool.and_eq_true, decide_eq_true_eq, beq_iff_eq]
                    exact ⟨⟨⟨by rw [q2, ← hyl]; exact hb, by simp⟩, hfl⟩, q1⟩
                  · exact .ols _ _ _ (by simp [← hR.tlen])
                  · refine tok_eff (s' := mkObj (killed s o elem) (.cells (es.flatMap TV.cells ++ ys.flatMap TV.cells) elem)) hR (by simp) (fun k e hk => (set_none k e hk).1) (k := .ls s.n (n + ys.length)) (i := .obj s.n) rfl (by simp [mkObj, killed]) (Nat.le_refl _) ?_ (fun i' => i' = .obj o) (fun i' hi' => ?_) (fun i' hne hnd hold => ?_) (fun o' e ho => ?_) (fun ⟨j', k, e, h1, h2, h3⟩ => ?_) (.inr (Nat.le_refl _)) []
                    · refine Good.lst (es := es ++ ys) (by simp [mkObj, killed]) (by omega) (by rw [List.length_append, q2, hyl]) ?_ (q4.append k4)
                      simp [mkObj, Tr.get_set, killed]
                    · subst hi'
                      exact ⟨⟨j, _, _, hj, rfl, hlive, rfl⟩, Held.less hR (fun k e hk => (set_none k e hk).1) hj rfl hlive (fun e' hk => (set_none j e' hk).2 rfl), fun o' e => by cases e; exact hoV⟩
                    · cases i' with
                      | tip i => rfl
                      | obj o' =>
                        have h1 : o' ≠ s.n := fun e => hne (by rw [e])
                        have h2 : o' ≠ o := fun e => hnd (by rw [e])
                        show (mkObj (killed s o elem) _).objs.get o' = _
                        simp only [mkObj, killed, Tr.get_set]
                        rw [if_neg h1, if_neg h2]
                    · cases e
                      have := hR.lt _ ho
                      omega
                    · exact hno ⟨j', k, e, h1, h2, (set_none j' e h3).1⟩
                · exact hh.elim
            · exact hh.elim
          · simp only [Tree.Has] at hh
            rcases hh with ⟨hb, rfl⟩ | ⟨_, hh⟩
            · simp only [decide_eq_true_eq] at hb
              cases rx with
              | lslice _ _ vs _ tok' r1 r2 =>
                cases r1
                have r2 : tok' = .exact := r2
                subst r2
                refine ⟨mkObj s (.cells (([] : List TV).flatMap TV.cells ++ ys.flatMap TV.cells) elem), ⟨V.ids, V.tks ++ [.ls s.n (([] : List TV).length + ys.length)]⟩, .gsl s.n (([] : List TV).length + ys.length), ?_, ?_, ?_⟩
                · unfold TV.appendO
                  rw [ht, hu]
                  simp only [hk, Bool.not_true, Bool.false_eq_true, if_false, k3, hne', Bool.false_or, hb0, hc0, headOk_all sy, slot_elR k4, hz, decide_true, Bool.and_self]
                  rw [if_pos]
                  simp only [Bool.and_eq_true, decide_eq_true_eq]
                  exact ⟨⟨by rw [← hyl]; simpa using hb, rfl⟩, rfl⟩
                · exact .ols _ _ _ (by simp [← hR.tlen])
                · refine tok_eff (s' := mkObj s (.cells (([] : List TV).flatMap TV.cells ++ ys.flatMap TV.cells) elem)) hR rfl (fun _ _ h => h) (k := .ls s.n (([] : List TV).length + ys.length)) (i := .obj s.n) rfl (by simp [mkObj]) (Nat.le_refl _) ?_ (fun _ => False) (fun _ h => h.elim) (fun i' hne _ hold => ?_) (fun o' e ho => ?_) hno (.inr (Nat.le_refl _)) []
                  · refine Good.lst (es := ys) (by simp [mkObj]) (by simp; omega) (by simp [hyl]) ?_ k4
                    simp [mkObj, Tr.get_set]
                  · cases i' with
                    | tip i => rfl
                    | obj o' =>
                      have h1 : o' ≠ s.n := fun e => hne (by rw [e])
                      show (mkObj s _).objs.get o' = _
                      simp only [mkObj, Tr.get_set]
                      rw [if_neg h1]
                  · cases e
                    have := hR.lt _ ho
                    omega
            · exact hh.elim
          · exact hh.elim
      · exact hh.elim
    · exact hh.elim
  · exact hh.elim
theorem ownBuild_ok (hR : HRel s V h) {ρ : Operand → UV} {τ : Operand → TV} (hρ : ∀ x, URel V (ρ x) (τ x)) {t : TypeId} {ty : Ty} {len : Nat} {ps : List (Nat × Operand)} {r : UV × UHeap × List Nat}
    (hh : (ownBuildU P h t ty len (ps.map fun p => (p.1, ρ p.2))).Has r) :
    ∃ s' V' v, TV.buildO P s t len (ps.map fun p => (p.1, τ p.2)) = some (v, s') ∧ URel V' r.1 v ∧ Eff s V h r.2.2 s' V' r.2.1 := by
  unfold ownBuildU at hh
  split at hh
  · rename_i elem v ht hv
    split at hh
    · rename_i l hl
      split at hh
      · rename_i hc
        simp only [Bool.and_eq_true, decide_eq_true_eq] at hc
        simp only [Tree.Has] at hh
        rcases hh with ⟨hn, rfl⟩ | ⟨_, hh⟩
        · simp only [decide_eq_true_eq] at hn
          obtain ⟨v', hv', rv⟩ := buildSlice_rel hρ hv
          obtain ⟨b, es, tok, rfl, hes, _⟩ := asL_dst rv (by
            unfold buildSliceU at hv
            rw [ht] at hv
            simp only at hv
            split at hv
            · split at hv
              · split at hv
                · cases hv; exact .inr ⟨_, _, _, rfl⟩
                · cases hv
              · cases hv
            · cases hv) hl
          have hb : b = false := by
            unfold buildSliceT at hv'
            rw [ht] at hv'
            simp only at hv'
            split at hv'
            · split at hv'
              · split at hv'
                · cases hv'; rfl
                · cases hv'
              · cases hv'
            · cases hv'
          subst hb
          have hno : ¬ Held V h (.obj s.n) := fun ⟨j, k, e, h1, h2, h3⟩ => by
            have : s.n < s.n := (hR.tips j k e h1 h3).old h2
            omega
          refine ⟨mkObj s (.cells (es.flatMap TV.cells) elem), ⟨V.ids, V.tks ++ [.ls s.n len]⟩, .gsl s.n len, ?_, .ols _ _ _ (by simp [← hR.tlen]), ?_⟩
          · unfold TV.buildO
            rw [ht, hv']
          · refine tok_eff (s' := mkObj s (.cells (es.flatMap TV.cells) elem)) hR rfl (fun _ _ h => h) (k := .ls s.n len) (i := .obj s.n) rfl (by simp [mkObj]) (Nat.le_refl _) ?_ (fun _ => False) (fun _ h => h.elim) (fun i' hne _ hold => ?_) (fun o' e ho => ?_) hno (.inr (Nat.le_refl _)) []
            · refine Good.lst (es := es) (by simp [mkObj]) hc.2 hn.symm ?_ hes
              simp [mkObj, Tr.get_set]
            · cases i' with
              | tip i => rfl
              | obj o' =>
                have h1 : o' ≠ s.n := fun e => hne (by rw [e])
                show (mkObj s _).objs.get o' = _
                simp only [mkObj, Tr.get_set]
                rw [if_neg h1]
            · cases e
              have := hR.lt _ ho
              omega
        · exact hh.elim
      · exact hh.elim
    · exact hh.elim
  · exact hh.elim
/-- An operation that appends to what is owned, or builds it. -/
def AppO (P : Program) (s : St) (τ : Operand → TV) (o : Oper) (v : TV) (s' : St) : Prop :=
  (∃ dst ty pos after guard x y t u, o = ⟨dst, .call ⟨.builtin .append, #[x, y], #[t, u]⟩, ty, pos, after, guard⟩ ∧ TV.appendO P s t u (τ x) (τ y) = some (v, s')) ∨
  ∃ dst ty pos after guard t len parts, o = ⟨dst, .buildSlice t len parts, ty, pos, after, guard⟩ ∧ TV.buildO P s t len (parts.toList.map fun p => (p.1, τ p.2)) = some (v, s')
theorem eff_ok (hR : HRel s V h) {ρ : Operand → UV} {τ : Operand → TV} (hρ : ∀ x, URel V (ρ x) (τ x)) {o : Oper} {r : UV × UHeap × List Nat} (hh : (effU P h ρ o).Has r) :
    ∃ s' V' v, (effT P s τ o = some (v, s') ∨ AppO P s τ o v s') ∧ URel V' r.1 v ∧ Eff s V h r.2.2 s' V' r.2.1 := by
  obtain ⟨dst, op, ty, pos, after, guard⟩ := o
  unfold effU at hh
  cases op with
  | alloc t =>
    simp only at hh
    split at hh
    · rename_i z hz
      split at hh
      · rename_i hc
        simp only [Tree.Has] at hh
        subst hh
        obtain ⟨z', hz', rz⟩ := zero_rel (V := V) hz
        have hcs := rz.cells (notJunk_of_ok hc)
        obtain ⟨h1, h2⟩ := new_eff hR t hcs []
        exact ⟨_, _, .ptr s.n 0, by left; simp only [effT, hz', hcs.allOk hc, if_true], .ptr _ _ _ h2, h1⟩
      · exact hh.elim
    · exact hh.elim
  | box t x =>
    simp only at hh
    split at hh
    · rename_i hc
      simp only [Tree.Has] at hh
      subst hh
      have hcs := (hρ x).cells (notJunk_of_ok hc)
      obtain ⟨h1, h2⟩ := new_eff hR t hcs []
      exact ⟨_, _, .ptr s.n 0, by left; simp only [effT, (hρ x).notJunk (notJunk_of_ok hc), Bool.not_false, if_true], .ptr _ _ _ h2, h1⟩
    · exact hh.elim
  | store t a x =>
    simp only at hh
    have ha := hρ a
    split at hh
    · rename_i k off e
      rw [e] at ha
      cases hav : τ a <;> rw [hav] at ha <;> cases ha
      rename_i o off hk
      split at hh
      · rename_i hc
        simp only [Bool.and_eq_true, decide_eq_true_eq] at hc
        split at hh
        · rename_i h1 hs
          simp only [Tree.Has] at hh
          subst hh
          have hj : isJunkU (ρ x) = false := by
            unfold storeU at hs
            split at hs
            · split at hs
              · rename_i h2
                simp only [Bool.and_eq_true] at h2
                exact notJunk_of_ok h2.1.2
              · cases hs
            · cases hs
          have hcs := (hρ x).cells hj
          obtain ⟨s', h2, h3⟩ := store_eff hR hs hcs hk
          refine ⟨s', V, undefT, .inl ?_, .tup _ _ .nil, h3⟩
          simp only [effT, hav]
          rw [if_pos (by simp only [Bool.and_eq_true, decide_eq_true_eq]; exact ⟨by rw [← hcs.length]; exact hc.1, hc.2⟩), h2]
          rfl
        · exact hh.elim
      · exact hh.elim
    · rename_i j sz i off e
      rw [e] at ha
      have hj : isJunkU (ρ x) = false := by
        unfold storeO at hh
        split at hh
        · split at hh
          · rename_i h2
            simp only [Bool.and_eq_true] at h2
            exact notJunk_of_ok h2.2
          · exact hh.elim
        · exact hh.elim
      obtain ⟨o, off', s', h1, h2, h3, h4, h5⟩ := storeO_ok hR ha ((hρ x).cells hj) hh
      refine ⟨s', V, undefT, .inl ?_, by rw [h4]; exact .tup _ _ .nil, h5⟩
      simp only [effT, h1]
      rw [if_pos (by simp only [Bool.and_eq_true, decide_eq_true_eq]; exact h2), h3]
      rfl
    · exact hh.elim
  | call c =>
    obtain ⟨callee, args, ts⟩ := c
    cases callee with
    | builtin b =>
      simp only at hh
      split at hh
      · rename_i x y t u e1 e2
        split at hh
        · split at hh
          · rename_i ty0 _
            obtain ⟨s', V', v, h3, h4, h5⟩ := ownApp_ok hR (hρ x) (hρ y) hh
            have e1' := array_two e1
            have e2' := array_two e2
            subst e1' e2'
            exact ⟨s', V', v, .inr (.inl ⟨dst, ty, pos, after, guard, x, y, t, u, rfl, h3⟩), h4, h5⟩
          · exact hh.elim
        · rename_i how
          rw [Tree.has_bind] at hh
          obtain ⟨r1, h1, h2⟩ := hh
          simp only [Tree.Has] at h2
          subst h2
          obtain ⟨s', V', v, h3, h4, h5⟩ := append_ok hR (hρ x) (hρ y) h1 []
          have how : ownedT t = false := by simp only [Bool.or_eq_true, not_or, Bool.not_eq_true] at how; exact how.1
          exact ⟨s', V', v, by left; simp only [effT, e1, e2]; exact appendX_of how h3, h4, h5⟩
      · rename_i m k t t2 e1 e2
        obtain ⟨s', V', v, h3, h4, h5⟩ := mapDel_ok hR (hρ m) (hρ k) hh
        exact ⟨s', V', v, by left; simp only [effT, e1, e2, h3], h4, h5⟩
      · exact hh.elim
    | value f => exact hh.elim
    | invoke r m => exact hh.elim
  | buildSlice t len parts =>
    simp only at hh
    split at hh
    · split at hh
      · obtain ⟨s', V', v, h3, h4, h5⟩ := ownBuild_ok hR hρ hh
        exact ⟨s', V', v, .inr (.inr ⟨dst, ty, pos, after, guard, t, len, parts, rfl, h3⟩), h4, h5⟩
      · exact hh.elim
    · exact hh.elim
  | makeMap t rs =>
    cases rs with
    | some x => exact hh.elim
    | none =>
      simp only at hh
      split at hh
      · split at hh
        · rename_i v hv
          simp only [Tree.Has] at hh
          subst hh
          obtain ⟨h1, h2⟩ := newMap_eff hR v MapR.nil []
          exact ⟨_, _, .map (some s.n), .inl rfl, .oref _ _ h2, h1⟩
        · exact hh.elim
      · exact hh.elim
  | mapUpdate t m k v =>
    simp only at hh
    obtain ⟨s', V', w, h3, h4, h5⟩ := mapSet_ok hR (hρ m) (hρ k) (hρ v) hh
    exact ⟨s', V', w, by left; simp only [effT, h3], h4, h5⟩
  | insert t m k v =>
    simp only at hh
    obtain ⟨s', V', w, h3, h4, h5⟩ := mapSet_ok hR (hρ m) (hρ k) (hρ v) hh
    exact ⟨s', V', w, by left; simp only [effT, h3], h4, h5⟩
  | _ => exact hh.elim
end
end Go.Proofs.YthnhbejjikgifaaGreatDoor.TV

/-
  DX: regions.
-/
namespace Go.Proofs.YthnhbejjikgifaaGreatDoor.TV
open Go Go.RowKit
set_option linter.unusedSimpArgs false
set_option linter.unusedVariables false

/-- Calls are told rightly. -/
def CallOkU (P : Program) (call : CallU) : Prop := ∀ f args h r, (call f args h).Has r → ∀ s V targs, HRel s V h → URels V args targs → ∃ s' V' v, Sim P f targs s v s' ∧ URel V' r.1 v ∧ Eff s V h r.2.2 s' V' r.2.1 ∧ (quietF f = true → s' = s)

section
variable {P : Program} {s s' : St} {V V' : Val} {h h' : UHeap} {e : UEnv} {te : Env}

theorem evU_rel (r : URels V e te) (x : Operand) : URel V (evU e x) (ev te x) := by
  cases x with
  | tmp t => exact r.at_ t
  | const v => exact constU_rel V v
  | global g => exact .junk _
  | func f => exact .fn _ _ _ _ _ .nil .nil
theorem callee_rel (r : URels V e te) {o : Oper} {f : FuncId} {args : List UV} (hc : calleeU (evU e) o = some (f, args)) : ∃ targs, calleeT (ev te) o = some (f, targs) ∧ URels V args targs := by
  obtain ⟨dst, op, ty, pos, after, guard⟩ := o
  unfold calleeU at hc
  cases op with
  | call c =>
    obtain ⟨callee, as, ts⟩ := c
    cases callee with
    | value g =>
      simp only at hc
      have hg := evU_rel r g
      split at hc
      · rename_i f1 a1 c1 e1
        cases hc
        rw [e1] at hg
        cases hgv : ev te g <;> rw [hgv] at hg <;> cases hg
        rename_i h1 h2
        exact ⟨_, by simp only [calleeT, hgv], (h1.append (URels.map fun x _ => evU_rel r x)).append h2⟩
      · cases hc
    | builtin b => cases hc
    | invoke a b => cases hc
  | _ => cases hc
theorem quiet_callee {o : Oper} {f : FuncId} {args : List UV} (hq : quietOp o = true) (hc : calleeU (evU e) o = some (f, args)) : quietF f = true := by
  obtain ⟨dst, op, ty, pos, after, guard⟩ := o
  unfold quietOp at hq
  split at hq
  · rename_i g as ts he
    simp only at he
    subst he
    simp only [calleeU, evU] at hc
    cases hc
    exact hq
  · cases hq
theorem quiet_some {o : Oper} (hq : quietOp o = true) : calleeU (evU e) o ≠ none := by
  obtain ⟨dst, op, ty, pos, after, guard⟩ := o
  unfold quietOp at hq
  split at hq
  · rename_i g as ts he
    simp only at he
    subst he
    simp [calleeU, evU]
  · cases hq
theorem Keeps.refl (V : Val) (s : St) (r : Option (Option Nat)) : Keeps V s s r := by
  rcases r with _ | _ | k
  · trivial
  · rfl
  · exact fun _ _ => rfl
theorem opU_ok (hN : Named P) {call : CallU} (hC : CallOkU P call) (hR : HRel s V h) (r : URels V e te) {o : Oper} {u : UV × UHeap × List Nat} (hu : (opU P call e h o).Has u) :
    ∃ s' V' v, OpSim P o te s v s' ∧ URel V' u.1 v ∧ Eff s V h u.2.2 s' V' u.2.1 ∧
      (isRead o = true → s' = s ∧ V' = V ∧ u.2.1 = h ∧ ∀ s2, Keeps V s s2 (rowOf (evU e) o) → readT P s2 (ev te) o = some v) ∧ (quietOp o = true → s' = s) := by
  unfold opU at hu
  split at hu
  · rename_i hr
    rw [Tree.has_bind] at hu
    obtain ⟨v0, h1, h2⟩ := hu
    simp only [Tree.Has] at h2
    subst h2
    obtain ⟨v, h3, h4⟩ := readU_ok hR (evU_rel r) h1
    exact ⟨s, V, v, .read (h4 s (Keeps.refl _ _ _)), h3, Eff.refl hR [], fun _ => ⟨rfl, rfl, rfl, h4⟩, fun _ => rfl⟩
  · rename_i hr
    split at hu
    · rename_i f args hc
      obtain ⟨targs, h1, h2⟩ := callee_rel r hc
      obtain ⟨s', V', v, h3, h4, h5, h6⟩ := hC f args h u hu s V targs hR h2
      exact ⟨s', V', v, .call hN h1 h3, h4, h5, fun h => absurd h hr, fun hq => h6 (quiet_callee hq hc)⟩
    · rename_i hcn
      obtain ⟨s', V', v, h3, h4, h5⟩ := eff_ok hR (evU_rel r) hu
      refine ⟨s', V', v, ?_, h4, h5, fun h => absurd h hr, fun hq => absurd hcn (quiet_some hq)⟩
      rcases h3 with h3 | ⟨dst, ty, pos, after, guard, x, y, t, u, rfl, h3⟩ | ⟨dst, ty, pos, after, guard, t, len, parts, rfl, h3⟩
      · exact .eff h3
      · exact OpSim.appendO h3
      · exact OpSim.buildO h3

theorem URels.setl {V : Val} {us : List UV} {vs : List TV} (r : URels V us vs) {d : Nat} {u : UV} {v : TV} (hv : vs[d]? = some v) (hu : URel V u v) : URels V (us.set d u) vs := by
  have := r.set d hu
  have e : vs.set d v = vs := by
    apply List.ext_getElem?
    intro i
    rw [List.getElem?_set]
    split
    · rename_i h
      subst h
      rw [hv]
      simp [(List.getElem?_eq_some_iff.1 hv).1]
    · rfl
  rw [e] at this
  exact this
theorem wantU_ok {α : Type} (r : URels V e te) {ops : List Oper} {o : Oper} {f : UEnv → Bool → Tree α} {a : α} (hu : (wantU ops o e f).Has a) : ∃ e2 w, URels V e2 te ∧ wantedT ops te o = some w ∧ (f e2 w).Has a := by
  unfold wantU at hu
  unfold wantedT
  split at hu
  · rename_i hg
    rw [hg]
    exact ⟨e, true, r, rfl, hu⟩
  · rename_i j want hg
    rw [hg]
    simp only
    split at hu
    · rename_i d hd
      rw [hd]
      simp only
      have hat : ∀ {x}, e.at d = x → isJunkU x = false → ∃ v, te[d]? = some v ∧ URel V x v := by
        intro x hx hj
        rw [UEnv.at_eq] at hx
        cases hed : e[d]? with
        | none => rw [List.getD_eq_getElem?_getD, hed] at hx; subst hx; cases hj
        | some y =>
          rw [List.getD_eq_getElem?_getD, hed] at hx
          simp at hx
          subst hx
          exact r.get hed
      have hev : ∀ {v}, te[d]? = some v → te.at d = v := fun h => by simp [Env.at_eq, List.getD_eq_getElem?_getD, h]
      split at hu
      · rename_i b hb
        obtain ⟨v, h1, h2⟩ := hat hb rfl
        cases h2
        rw [hev h1]
        simp only [setKU_eq, Tree.Has] at hu
        rcases hu with ⟨rfl, hu⟩ | ⟨rfl, hu⟩
        · exact ⟨_, _, r.setl h1 (.bool true), rfl, hu⟩
        · exact ⟨_, _, r.setl h1 (.bool false), rfl, hu⟩
      · rename_i hb
        obtain ⟨v, h1, h2⟩ := hat hb rfl
        cases h2 with
        | tup _ vs rs =>
          cases rs
          rw [hev h1]
          exact ⟨e, false, r, rfl, hu⟩
      · exact hu.elim
    · exact hu.elim
theorem put_rel (r : URels V e te) {u : UV} {v : TV} (hu : URel V u v) (dst : Option Tmp) : URels V (putU dst u e) (putE dst v te) := by
  cases dst with
  | none => exact r
  | some d => exact r.set d hu
theorem put_same {dst : Option Tmp} {v : TV} {d : Nat} (h : (dst == some d) = false) : (putE dst v te)[d]? = te[d]? := by
  cases dst with
  | none => rfl
  | some d' =>
    simp only [putE]
    rw [List.getElem?_set_ne]
    intro e
    subst e
    simp at h
theorem put_length {dst : Option Tmp} {v : TV} : (putE dst v te).length = te.length := by cases dst <;> simp [putE]

theorem opsU_nil {call : CallU} {ops : List Oper} {e : UEnv} {h : UHeap} : opsU P call ops [] e h = .leaf (e, h) := rfl
theorem opsU_cons {call : CallU} {ops : List Oper} {o : Oper} {rest : List Oper} {e : UEnv} {h : UHeap} : opsU P call ops (o :: rest) e h = wantU ops o e fun e w => match w with
    | true => (opU P call e h o).bind fun r => openU (isRead o) r fun v h _ => putKU o.dst v e fun e => opsU P call ops rest e h
    | false => putKU o.dst undefU e fun e => opsU P call ops rest e h := rfl
theorem opsU_ok (hN : Named P) {call : CallU} (hC : CallOkU P call) {ops : Array Oper} : ∀ {l : List Oper} {s : St} {V : Val} {h : UHeap} {e : UEnv} {te : Env} {u : UEnv × UHeap}, HRel s V h → URels V e te → (opsU P call ops.toList l e h).Has u →
    ∃ s' V' te', SeqSim P ops l te s te' s' ∧ HRel s' V' u.2 ∧ URels V' u.1 te' ∧ Step s V h s' V' u.2 ∧ te'.length = te.length ∧ (∀ d, asgOps l d = false → te'[d]? = te[d]?) ∧ V.tks <+: V'.tks
  | [], s, V, h, e, te, u, hR, r, hu => by
    simp only [opsU_nil, Tree.Has] at hu
    subst hu
    exact ⟨s, V, te, .nil ops te s, hR, r, Step.refl _ _ _, rfl, fun _ _ => rfl, List.prefix_rfl⟩
  | o :: l, s, V, h, e, te, u, hR, r, hu => by
    simp only [opsU_cons] at hu
    obtain ⟨e2, w, r2, hw, hu⟩ := wantU_ok r hu
    cases w with
    | true =>
      simp only [openU_eq, putKU_eq] at hu
      rw [Tree.has_bind] at hu
      obtain ⟨u1, h1, h2⟩ := hu
      obtain ⟨s1, V1, v, k1, k2, k3, _, _⟩ := opU_ok hN hC hR r2 h1
      obtain ⟨s', V', te', k4, k5, k6, k7, k8, k9, k10⟩ := opsU_ok hN hC k3.rel (put_rel (r2.mono k3.le) k2 o.dst) h2
      refine ⟨s', V', te', .cons hw k1 k4, k5, k6, k3.step.trans k7, by rw [k8, put_length], fun d hd => ?_, k3.le.tks.trans k10⟩
      simp only [asgOps, Bool.or_eq_false_iff] at hd
      rw [k9 d hd.2, put_same hd.1]
    | false =>
      simp only [putKU_eq] at hu
      obtain ⟨s', V', te', k4, k5, k6, k7, k8, k9, k10⟩ := opsU_ok hN hC hR (put_rel r2 (.tup [] [] .nil : URel V undefU undefT) o.dst) hu
      refine ⟨s', V', te', .idle hw k4, k5, k6, k7, by rw [k8, put_length], fun d hd => ?_, k10⟩
      simp only [asgOps, Bool.or_eq_false_iff] at hd
      rw [k9 d hd.2, put_same hd.1]

/-! ### Drawn regions -/
theorem DoD_idleS {ops : Array Oper} {o : Oper} {l : List Oper} {j : Nat} {e : Env} {s : St} {items : List DItem} {sts : List St} {e' : Env} {s' : St} (hw : wantedT ops.toList e o = some false)
    (t : Told P ops.toList l (j + 1) (putE o.dst undefT e) s items sts e' s') : Told P ops.toList (o :: l) j e s (⟨o, e, undefT, false⟩ :: items) (if isRead o then sts else s :: sts) e' s' := by
  have := Told.cons (P := P) hw (fun _ => ⟨rfl, rfl⟩) (fun h => by cases h) (fun _ => rfl) (fun h => by cases h) t
  exact this
theorem DoD_opS {ops : Array Oper} {o : Oper} {l : List Oper} {j : Nat} {e : Env} {s s1 : St} {v : TV} {items : List DItem} {sts : List St} {e' : Env} {s' : St} (hw : wantedT ops.toList e o = some true) (ho : OpSim P o e s v s1) (hr : isRead o = true → s1 = s ∧ readT P s (ev e) o = some v)
    (t : Told P ops.toList l (j + 1) (putE o.dst v e) s1 items sts e' s') : Told P ops.toList (o :: l) j e s (⟨o, e, v, true⟩ :: items) (if isRead o then sts else s1 :: sts) e' s' := by
  refine Told.cons (P := P) hw (fun h => by cases h) (fun _ h => (hr h).2) (fun h => (hr h).1) (fun _ _ => ho) t

/-- The stages: what is written between them. -/
def Stages (ss : List St) (vs : List Val) (wr : List (List Nat × Nat)) : Prop :=
  ss.length = wr.length + 1 ∧ vs.length = wr.length + 1 ∧
  ∀ (p : Nat) (W : List Nat) (n : Nat), wr[p]? = some (W, n) → ∃ sp sp1 Vp Vp1, ss[p]? = some sp ∧ ss[p + 1]? = some sp1 ∧ vs[p]? = some Vp ∧ vs[p + 1]? = some Vp1 ∧ Vp.ids <+: Vp1.ids ∧ n = Vp.ids.length ∧ ∀ (k o : Nat), k ∉ W → Vp.ids[k]? = some o → sp1.objs.get o = sp.objs.get o
theorem Stages.cons {ss : List St} {vs : List Val} {wr : List (List Nat × Nat)} {s s1 : St} {V V1 : Val} {W : List Nat} (h : Stages (s1 :: ss) (V1 :: vs) wr) (hp : V.ids <+: V1.ids) (hw : ∀ (k o : Nat), k ∉ W → V.ids[k]? = some o → s1.objs.get o = s.objs.get o) :
    Stages (s :: s1 :: ss) (V :: V1 :: vs) ((W, V.ids.length) :: wr) := by
  obtain ⟨h1, h2, h3⟩ := h
  refine ⟨by simpa using h1, by simpa using h2, fun p W' n hpw => ?_⟩
  cases p with
  | zero =>
    simp at hpw
    obtain ⟨rfl, rfl⟩ := hpw
    exact ⟨s, s1, V, V1, rfl, rfl, rfl, rfl, hp, rfl, hw⟩
  | succ p =>
    obtain ⟨sp, sp1, Vp, Vp1, k1, k2, k3, k4, k5⟩ := h3 p W' n (by simpa using hpw)
    exact ⟨sp, sp1, Vp, Vp1, by simpa using k1, by simpa using k2, by simpa using k3, by simpa using k4, k5⟩
/-- What is known of each thing that was read. -/
def Reads (P : Program) (i c0 : Nat) (rd : List (Nat × Nat × Option Nat)) (ss : List St) (vs : List Val) (items : List DItem) : Prop :=
  ∀ (m : Nat) (it : DItem), items[m]? = some it → (isRead it.o && it.w && stateful it.o) = true →
    (∀ s2, readT P s2 (ev it.e) it.o = some it.v) ∨ ∃ (c : Nat) (sc : St) (Vc : Val) (q : Option Nat), ss[c]? = some sc ∧ vs[c]? = some Vc ∧ (i + m, c0 + c, q) ∈ rd ∧ (∀ k, q = some k → ∃ oid, Vc.ids[k]? = some oid) ∧ ∀ s2 : St, Keeps Vc sc s2 (some q) → readT P s2 (ev it.e) it.o = some it.v
theorem Reads.mono {i c0 : Nat} {rd rd' : List (Nat × Nat × Option Nat)} {ss : List St} {vs : List Val} {items : List DItem} (h : Reads P i c0 rd ss vs items) (hs : ∀ x ∈ rd, x ∈ rd') : Reads P i c0 rd' ss vs items := fun m it h1 h2 => by
  rcases h m it h1 h2 with h3 | ⟨c, sc, Vc, q, h3, h4, h5, h6⟩
  · exact .inl h3
  · exact .inr ⟨c, sc, Vc, q, h3, h4, hs _ h5, h6⟩
theorem Reads.shift {i c0 : Nat} {rd : List (Nat × Nat × Option Nat)} {s : St} {V : Val} {ss : List St} {vs : List Val} {items : List DItem} {it : DItem} (h : Reads P (i + 1) (c0 + 1) rd ss vs items) (hi : (isRead it.o && it.w && stateful it.o) = false) : Reads P i c0 rd (s :: ss) (V :: vs) (it :: items) := fun m it' h1 h2 => by
  cases m with
  | zero => simp at h1; subst h1; rw [hi] at h2; cases h2
  | succ m =>
    rcases h m it' (by simpa using h1) h2 with h3 | ⟨c, sc, Vc, q, h3, h4, h5, h6⟩
    · exact .inl h3
    · exact .inr ⟨c + 1, sc, Vc, q, by simpa using h3, by simpa using h4, by rw [show i + (m + 1) = i + 1 + m by omega, show c0 + (c + 1) = c0 + 1 + c by omega]; exact h5, h6⟩
theorem Reads.here {i c0 : Nat} {rd : List (Nat × Nat × Option Nat)} {ss : List St} {vs : List Val} {items : List DItem} {it : DItem} (h : Reads P (i + 1) c0 rd ss vs items)
    (hi : (isRead it.o && it.w && stateful it.o) = true → (∀ s2, readT P s2 (ev it.e) it.o = some it.v) ∨ ∃ (sc : St) (Vc : Val) (q : Option Nat), ss[0]? = some sc ∧ vs[0]? = some Vc ∧ (i, c0, q) ∈ rd ∧ (∀ k, q = some k → ∃ oid, Vc.ids[k]? = some oid) ∧ ∀ s2 : St, Keeps Vc sc s2 (some q) → readT P s2 (ev it.e) it.o = some it.v) : Reads P i c0 rd ss vs (it :: items) := fun m it' h1 h2 => by
  cases m with
  | zero =>
    simp at h1
    subst h1
    rcases hi h2 with h3 | ⟨sc, Vc, q, h3, h4, h5, h6⟩
    · exact .inl h3
    · exact .inr ⟨0, sc, Vc, q, h3, h4, h5, h6⟩
  | succ m =>
    rcases h m it' (by simpa using h1) h2 with h3 | ⟨c, sc, Vc, q, h3, h4, h5, h6⟩
    · exact .inl h3
    · exact .inr ⟨c, sc, Vc, q, h3, h4, by rw [show i + (m + 1) = i + 1 + m by omega]; exact h5, h6⟩

/-- Where nothing is changed, the stages are the same. -/
def Quiets (l : List Oper) (ss : List St) : Prop := ∀ (p : Nat) (o : Oper), (l.filter fun o => !isRead o)[p]? = some o → quietOp o = true → ss[p + 1]? = ss[p]?
theorem Quiets.read {o : Oper} {l : List Oper} {ss : List St} (h : Quiets l ss) (hr : isRead o = true) : Quiets (o :: l) ss := by
  unfold Quiets
  rw [List.filter_cons_of_neg (by simp [hr])]
  exact h
theorem Quiets.eff {o : Oper} {l : List Oper} {s s1 : St} {ss : List St} (h : Quiets l (s1 :: ss)) (hr : isRead o = false) (hs : quietOp o = true → s1 = s) : Quiets (o :: l) (s :: s1 :: ss) := by
  unfold Quiets
  rw [List.filter_cons_of_pos (by simp [hr])]
  intro p o' hp hq
  cases p with
  | zero =>
    simp at hp
    subst hp
    simp [hs hq]
  | succ p =>
    have := h p o' (by simpa using hp) hq
    simpa using this

theorem drawU_ok (hN : Named P) {call : CallU} (hC : CallOkU P call) {ops : Array Oper} : ∀ {l : List Oper} {i : Nat} {s : St} {V : Val} {h : UHeap} {e : UEnv} {te : Env} {rd : List (Nat × Nat × Option Nat)} {wr : List (List Nat × Nat)} {u : UEnv × UHeap}, HRel s V h → URels V e te → (drawU P call ops.toList l i e h rd wr).Has u →
    ∃ s' V' te' items sts vs rd' wr', Told P ops.toList l i te s items sts te' s' ∧ HRel s' V' u.2 ∧ URels V' u.1 te' ∧ Step s V h s' V' u.2 ∧ te'.length = te.length ∧ ((∀ d, asgOps l d = false → te'[d]? = te[d]?) ∧ V.tks <+: V'.tks) ∧
      drawChk ops.toList (rd.reverse ++ rd') (wr.reverse ++ wr') = true ∧ Stages (s :: sts) (V :: vs) wr' ∧ Reads P i wr.length rd' (s :: sts) (V :: vs) items ∧ Quiets l (s :: sts)
  | [], i, s, V, h, e, te, rd, wr, u, hR, r, hu => by
    simp only [drawU] at hu
    split at hu
    · rename_i hc
      simp only [Tree.Has] at hu
      subst hu
      exact ⟨s, V, te, [], [], [], [], [], .nil _ _ _ _, hR, r, Step.refl _ _ _, rfl, ⟨fun _ _ => rfl, List.prefix_rfl⟩, by simpa using hc, ⟨rfl, rfl, fun p W n h => by simp at h⟩, fun m it h => by simp at h, fun p o h => by simp at h⟩
    · exact hu.elim
  | o :: l, i, s, V, h, e, te, rd, wr, u, hR, r, hu => by
    simp only [drawU] at hu
    obtain ⟨e2, w, r2, hw, hu⟩ := wantU_ok r hu
    cases w with
    | true =>
      simp only [openU_eq, putKU_eq] at hu
      rw [Tree.has_bind] at hu
      obtain ⟨u1, h1, h2⟩ := hu
      obtain ⟨s1, V1, v, k1, k2, k3, kr, kq⟩ := opU_ok hN hC hR r2 h1
      obtain ⟨s', V', te', items, sts, vs, rd', wr', t, k5, k6, k7, k8, k9, k10, k11, k12, k13⟩ := drawU_ok hN hC k3.rel (put_rel (r2.mono k3.le) k2 o.dst) h2
      have hasg : (∀ d, asgOps (o :: l) d = false → te'[d]? = te[d]?) ∧ V.tks <+: V'.tks := ⟨fun d hd => by
        simp only [asgOps, Bool.or_eq_false_iff] at hd
        rw [k9.1 d hd.2, put_same hd.1], k3.le.tks.trans k9.2⟩
      have hlen : te'.length = te.length := by rw [k8, put_length]
      cases hr : isRead o with
      | true =>
        obtain ⟨rfl, rfl, hh, kr⟩ := kr hr
        simp only [hr, if_true] at k10 k12
        have told := DoD_opS hw k1 (fun _ => ⟨rfl, kr _ (Keeps.refl _ _ _)⟩) t
        simp only [hr, if_true] at told
        cases hrow : rowOf (evU e2) o with
        | none =>
          rw [hrow] at k10
          exact ⟨s', V', te', _, sts, vs, rd', wr', told, k5, k6, k3.step.trans k7, hlen, hasg, k10, k11, k12.here fun _ => .inl fun s2 => kr s2 (by rw [hrow]; trivial), k13.read hr⟩
        | some q =>
          rw [hrow] at k10 kr
          simp only [List.reverse_cons, List.append_assoc, List.singleton_append] at k10
          refine ⟨s', V', te', _, sts, vs, (i, wr.length, q) :: rd', wr', told, k5, k6, k3.step.trans k7, hlen, hasg, k10, k11, Reads.here (k12.mono fun x hx => List.mem_cons_of_mem _ hx) fun hi => ?_, k13.read hr⟩
          cases q with
          | none => exact .inr ⟨s1, V1, none, rfl, rfl, by simp, (fun k hk => by cases hk), kr⟩
          | some k =>
            cases hid : V1.ids[k]? with
            | none => exact .inl fun s2 => kr s2 fun oid hk' => by rw [hid] at hk'; cases hk'
            | some oid => exact .inr ⟨s1, V1, some k, rfl, rfl, by simp, (fun k' hk => by cases hk; exact ⟨oid, hid⟩), kr⟩
      | false =>
        have told := DoD_opS hw k1 (fun h => by rw [hr] at h; cases h) t
        simp only [hr, Bool.false_eq_true, if_false] at told k10 k12
        have hrow : rowOf (evU e2) o = none := by
          obtain ⟨dst, op, ty, pos, after, guard⟩ := o
          unfold rowOf
          cases op with
          | load a b => simp [isRead] at hr
          | lookup a b c d => simp [isRead] at hr
          | call c =>
            obtain ⟨callee, args, ats⟩ := c
            cases callee with
            | builtin b => cases b <;> first | rfl | simp [isRead] at hr
            | value f => rfl
            | invoke a b => rfl
          | _ => rfl
        rw [hrow] at k10
        simp only [List.reverse_cons, List.append_assoc, List.singleton_append] at k10
        rw [← hR.len] at k10
        exact ⟨s', V', te', _, s1 :: sts, V1 :: vs, rd', (u1.2.2, V.ids.length) :: wr', told, k5, k6, k3.step.trans k7, hlen, hasg, k10, k11.cons k3.step.ids k3.rest, Reads.shift (by simpa using k12) (by simp [hr]), k13.eff hr kq⟩
    | false =>
      simp only [putKU_eq] at hu
      obtain ⟨s', V', te', items, sts, vs, rd', wr', t, k5, k6, k7, k8, k9, k10, k11, k12, k13⟩ := drawU_ok hN hC hR (put_rel r2 (.tup [] [] .nil : URel V undefU undefT) o.dst) hu
      have hasg : (∀ d, asgOps (o :: l) d = false → te'[d]? = te[d]?) ∧ V.tks <+: V'.tks := ⟨fun d hd => by
        simp only [asgOps, Bool.or_eq_false_iff] at hd
        rw [k9.1 d hd.2, put_same hd.1], k9.2⟩
      have hlen : te'.length = te.length := by rw [k8, put_length]
      have told := DoD_idleS hw t
      cases hr : isRead o with
      | true =>
        simp only [hr, if_true] at told k10 k12
        exact ⟨s', V', te', _, sts, vs, rd', wr', told, k5, k6, k7, hlen, hasg, k10, k11, k12.here fun hi => by simp at hi, k13.read hr⟩
      | false =>
        simp only [hr, Bool.false_eq_true, if_false] at told k10 k12
        simp only [List.reverse_cons, List.append_assoc, List.singleton_append] at k10
        rw [← hR.len] at k10
        exact ⟨s', V', te', _, s :: sts, V :: vs, rd', ([], V.ids.length) :: wr', told, k5, k6, k7, hlen, hasg, k10, k11.cons List.prefix_rfl fun _ _ _ _ => rfl, Reads.shift (by simpa using k12) (by simp), k13.eff hr fun _ => rfl⟩
theorem Stages.ids {ss : List St} {vs : List Val} {wr : List (List Nat × Nat)} (h : Stages ss vs wr) : ∀ (d p : Nat) (Va Vb : Val), vs[p]? = some Va → vs[p + d]? = some Vb → Va.ids <+: Vb.ids
  | 0, p, Va, Vb, h1, h2 => by rw [Nat.add_zero, h1] at h2; cases h2; exact List.prefix_rfl
  | d + 1, p, Va, Vb, h1, h2 => by
    have hlt := (List.getElem?_eq_some_iff.1 h2).1
    have hp : p < wr.length := by have := h.2.1; omega
    obtain ⟨_, _, Vp, Vp1, _, _, k3, k4, k5, _⟩ := h.2.2 p (wr[p]).1 (wr[p]).2 (by rw [List.getElem?_eq_getElem hp])
    rw [h1] at k3
    cases k3
    exact k5.trans (Stages.ids h d (p + 1) Vp1 Vb k4 (by rw [show p + 1 + d = p + (d + 1) by omega]; exact h2))
/-- Between stages nobody writes to the row. -/
theorem Stages.same {ss : List St} {vs : List Val} {wr : List (List Nat × Nat)} (h : Stages ss vs wr) {k oid : Nat} : ∀ (d p : Nat) (sa sb : St) (Va : Val), ss[p]? = some sa → vs[p]? = some Va → ss[p + d]? = some sb → Va.ids[k]? = some oid →
    (∀ q W n, p ≤ q → q < p + d → wr[q]? = some (W, n) → k ∉ W) → sb.objs.get oid = sa.objs.get oid
  | 0, p, sa, sb, Va, h1, _, h2, _, _ => by rw [Nat.add_zero, h1] at h2; cases h2; rfl
  | d + 1, p, sa, sb, Va, h1, hv, h2, hk, hw => by
    have hlt := (List.getElem?_eq_some_iff.1 h2).1
    have hp : p < wr.length := by have := h.1; omega
    obtain ⟨sp, sp1, Vp, Vp1, k1, k2, k3, k4, k5, _, k6⟩ := h.2.2 p (wr[p]).1 (wr[p]).2 (by rw [List.getElem?_eq_getElem hp])
    rw [h1] at k1
    cases k1
    rw [hv] at k3
    cases k3
    have h3 := k6 k oid (hw p _ (wr[p]).2 (Nat.le_refl _) (by omega) (by rw [List.getElem?_eq_getElem hp])) hk
    rw [← h3]
    exact Stages.same h d (p + 1) sp1 sb Vp1 k2 k4 (by rw [show p + 1 + d = p + (d + 1) by omega]; exact h2) (prefix_get k5 hk) fun q W n hq1 hq2 => hw q W n (by omega) (by omega)
theorem each_of {it : DItem} {a b : Nat} : ∀ {l : List St} {k0 : Nat}, (∀ (k : Nat) (s : St), l[k]? = some s → a ≤ k0 + k → k0 + k ≤ b → readT P s (ev it.e) it.o = some it.v) → Each P it a b k0 l
  | [], _, _ => trivial
  | s :: l, k0, h => ⟨fun h1 h2 => h 0 s rfl h1 h2, each_of fun k s' hk h1 h2 => h (k + 1) s' (by simpa using hk) (by omega) (by omega)⟩
theorem needs_of {bs es : List Nat} {sts : List St} : ∀ {l : List DItem} {i : Nat}, (∀ (m : Nat) (it : DItem), l[m]? = some it → (isRead it.o && it.w && stateful it.o) = true → Each P it (winLo bs es (i + m)) (winHi bs es (i + m)) 0 sts) → Needs P bs es sts i l
  | [], _, _ => trivial
  | it :: l, i, h => ⟨fun hi => h 0 it rfl hi, needs_of fun m it' hm hi => by
      have := h (m + 1) it' (by simpa using hm) hi
      rw [show i + (m + 1) = i + 1 + m by omega] at this
      exact this⟩
theorem draw_needs {ops : List Oper} {rd : List (Nat × Nat × Option Nat)} {wr : List (List Nat × Nat)} {ss : List St} {vs : List Val} {items : List DItem} (hc : drawChk ops rd wr = true) (hs : Stages ss vs wr) (hr : Reads P 0 0 rd ss vs items) (hqs : Quiets ops ss) :
    Needs P (bits ops) (ops.zipIdx.filterMap fun p => if isRead p.1 then none else some p.2) ss 0 items := by
  refine needs_of fun m it hm hi => each_of fun k s hk h1 h2 => ?_
  rcases hr m it hm hi with h3 | ⟨c, sc, Vc, q, h3, h4, h5, h6, h7⟩
  · exact h3 s
  · refine h7 s ?_
    simp only [Nat.zero_add] at h1 h2 h5
    unfold drawChk at hc
    simp only [List.all_eq_true] at hc
    have hc := hc (m, c, q) h5
    simp only [Bool.and_eq_true, decide_eq_true_eq, List.all_eq_true, List.mem_range, Bool.or_eq_true, Bool.not_eq_true', Bool.and_eq_false_iff, decide_eq_false_iff_not] at hc
    obtain ⟨⟨c1, c2⟩, c3⟩ := hc
    cases q with
    | none =>
      have none_in : ∀ p, p < wr.length → winLo (bits ops) (ops.zipIdx.filterMap fun p => if isRead p.1 then none else some p.2) m ≤ p → p < winHi (bits ops) (ops.zipIdx.filterMap fun p => if isRead p.1 then none else some p.2) m → ss[p + 1]? = ss[p]? := fun p hp hlo hhi => by
        have := c3 p hp
        rcases this with (h | h) | h
        · exact absurd hlo h
        · exact absurd hhi h
        · unfold quietAt at h
          cases ho : (ops.filter fun o => !isRead o)[p]? with
          | none => rw [ho] at h; cases h
          | some o => rw [ho] at h; exact hqs p o ho h
      have hkl := (List.getElem?_eq_some_iff.1 hk).1
      have hcl := (List.getElem?_eq_some_iff.1 h3).1
      have hsl := hs.1
      have walk : ∀ (d p : Nat), winLo (bits ops) (ops.zipIdx.filterMap fun p => if isRead p.1 then none else some p.2) m ≤ p → p + d ≤ winHi (bits ops) (ops.zipIdx.filterMap fun p => if isRead p.1 then none else some p.2) m → p + d < ss.length → ss[p + d]? = ss[p]? := by
        intro d
        induction d with
        | zero => intro p _ _ _; rfl
        | succ d ih =>
          intro p h1 h2 h3
          rw [← ih p h1 (by omega) (by omega)]
          exact none_in (p + d) (by omega) (by omega) (by omega)
      have : ss[k]? = ss[c]? := by
        rcases Nat.le_total k c with hle | hle
        · have := walk (c - k) k h1 (by omega) (by omega)
          rw [show k + (c - k) = c by omega] at this
          exact this.symm
        · have := walk (k - c) c c1 (by omega) (by omega)
          rw [show c + (k - c) = k by omega] at this
          exact this
      rw [h3, hk] at this
      cases this
      rfl
    | some k1 =>
    intro oid h6
    have free : ∀ (q : Nat) (W : List Nat) (n : Nat), wr[q]? = some (W, n) → winLo (bits ops) (ops.zipIdx.filterMap fun p => if isRead p.1 then none else some p.2) m ≤ q → q < winHi (bits ops) (ops.zipIdx.filterMap fun p => if isRead p.1 then none else some p.2) m → k1 ∉ W ∧ k1 < n := by
      intro q W n hq hlo hhi
      have := c3 q (List.getElem?_eq_some_iff.1 hq).1
      rw [List.getD_eq_getElem?_getD, hq] at this
      simp only [Option.getD_some, Bool.and_eq_true, Bool.not_eq_true', decide_eq_true_eq] at this
      rcases this with (h | h) | ⟨h, h'⟩
      · exact absurd hlo h
      · exact absurd hhi h
      · exact ⟨fun hm => (by rw [List.contains_iff_mem.2 hm] at h; cases h), h'⟩
    by_cases hck : c ≤ k
    · have := hs.same (k - c) c sc s Vc h3 h4 (by rw [show c + (k - c) = k by omega]; exact hk) h6 fun q W n hq1 hq2 hq => (free q W n hq (by omega) (by omega)).1
      exact this
    · have hkl := (List.getElem?_eq_some_iff.1 hk).1
      have hkv : k < vs.length := by have := hs.1; have := hs.2.1; omega
      have hkw : k < wr.length := by have := (List.getElem?_eq_some_iff.1 h3).1; have := hs.1; omega
      obtain ⟨sp, sp1, Vp, Vp1, e1, e2, e3, e4, e5, e6, e7⟩ := hs.2.2 k (wr[k]).1 (wr[k]).2 (by rw [List.getElem?_eq_getElem hkw])
      have hlt : k1 < Vp.ids.length := by
        rw [← e6]
        exact (free k _ _ (by rw [List.getElem?_eq_getElem hkw]) (by omega) (by omega)).2
      have hpre := hs.ids (c - k) k Vp Vc e3 (by rw [show k + (c - k) = c by omega]; exact h4)
      have hid : Vp.ids[k1]? = some oid := by
        have h8 : Vp.ids[k1]? = some (Vp.ids[k1]) := List.getElem?_eq_getElem hlt
        have h9 := prefix_get hpre h8
        rw [h6] at h9
        rw [h8, ← h9]
      have := hs.same (c - k) k s sc Vp hk e3 (by rw [show k + (c - k) = c by omega]; exact h3) hid fun q W n hq1 hq2 hq => (free q W n hq (by omega) (by omega)).1
      exact this.symm
end
end Go.Proofs.YthnhbejjikgifaaGreatDoor.TV
