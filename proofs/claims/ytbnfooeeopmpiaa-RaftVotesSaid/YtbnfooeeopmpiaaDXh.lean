/-
  DX: rows and tokens; what reads, what makes or changes something.
  DX: what makes or changes something.
-/
import Derived.Test.YtbnfooeeopmpiaaDXf
namespace Go.Proofs.Ytbnfooeeopmpiaa.TV
open Go Go.RowKit
set_option linter.unusedSimpArgs false
set_option linter.unusedVariables false

structure HRel (s : St) (V : Val) (h : UHeap) : Prop where
  len : V.ids.length = h.objs.length
  nodup : V.ids.Nodup
  lt : ∀ o ∈ V.ids, o < s.n
  obj : ∀ (k o : Nat) (r : Row), V.ids[k]? = some o → h.objs[k]? = some r → ∃ ts, s.objs.get o = some (.cells ts r.ty) ∧ URels V r.cs ts
  tlen : V.tks.length = h.tips.length
  tips : ∀ (j i n : Nat) (e : TypeId), V.tks[j]? = some (Tok.tip i, n) → h.tips[j]? = some (some e) → i < s.ntips ∧ s.tips.get i = some (n, e)
  tinj : ∀ (j j' i n n' : Nat) (e e' : TypeId), V.tks[j]? = some (Tok.tip i, n) → V.tks[j']? = some (Tok.tip i, n') → h.tips[j]? = some (some e) → h.tips[j']? = some (some e') → j = j'
/-- A row's end that may yet be moved. -/
def Alive (V : Val) (h : UHeap) (i : Nat) : Prop := ∃ (j n : Nat) (e : TypeId), V.tks[j]? = some (Tok.tip i, n) ∧ h.tips[j]? = some (some e)
structure Step (s : St) (V : Val) (h : UHeap) (s' : St) (V' : Val) (h' : UHeap) : Prop where
  ids : V.ids <+: V'.ids
  new : ∀ o ∈ V'.ids, o ∈ V.ids ∨ s.n ≤ o
  nle : s.n ≤ s'.n
  tle : s.ntips ≤ s'.ntips
  frame : ∀ o, o < s.n → o ∉ V.ids → s'.objs.get o = s.objs.get o
  tframe : ∀ i, i < s.ntips → ¬ Alive V h i → s'.tips.get i = s.tips.get i
  alive : ∀ i, Alive V' h' i → Alive V h i ∨ s.ntips ≤ i
  rows : ∀ (k : Nat) (r : Row), h.objs[k]? = some r → ∃ r', h'.objs[k]? = some r' ∧ r'.ty = r.ty ∧ r'.fz = r.fz ∧ r'.cs.length = r.cs.length
  kept : ∀ (k o : Nat) (r : Row) (ts : List TV), V.ids[k]? = some o → h.objs[k]? = some r → s.objs.get o = some (.cells ts r.ty) → ∃ ts' : List TV, s'.objs.get o = some (.cells ts' r.ty) ∧ ts'.length = ts.length ∧ ∀ (off : Nat), r.fz[off]? = some true → ts'[off]? = ts[off]?
section
variable {P : Program} {s s' s'' : St} {V V' V'' : Val} {h h' h'' : UHeap}

theorem Step.refl (s : St) (V : Val) (h : UHeap) : Step s V h s V h where
  ids := List.prefix_rfl
  new := fun o ho => .inl ho
  nle := Nat.le_refl _
  tle := Nat.le_refl _
  frame := fun _ _ _ => rfl
  tframe := fun _ _ _ => rfl
  alive := fun i hi => .inl hi
  rows := fun k r hr => ⟨r, hr, rfl, rfl, rfl⟩
  kept := fun k o r ts _ _ hg => ⟨ts, hg, rfl, fun _ _ => rfl⟩
theorem Step.trans (a : Step s V h s' V' h') (b : Step s' V' h' s'' V'' h'') : Step s V h s'' V'' h'' where
  ids := a.ids.trans b.ids
  new := fun o ho => by
    rcases b.new o ho with h1 | h1
    · exact a.new o h1
    · exact .inr (Nat.le_trans a.nle h1)
  nle := Nat.le_trans a.nle b.nle
  tle := Nat.le_trans a.tle b.tle
  frame := fun o hlt ho => by
    have : o ∉ V'.ids := fun hm => by
      rcases a.new o hm with h1 | h1
      · exact ho h1
      · omega
    rw [b.frame o (Nat.lt_of_lt_of_le hlt a.nle) this, a.frame o hlt ho]
  tframe := fun i hlt hi => by
    have : ¬ Alive V' h' i := fun hm => by
      rcases a.alive i hm with h1 | h1
      · exact hi h1
      · omega
    rw [b.tframe i (Nat.lt_of_lt_of_le hlt a.tle) this, a.tframe i hlt hi]
  alive := fun i hi => by
    rcases b.alive i hi with h1 | h1
    · exact a.alive i h1
    · exact .inr (Nat.le_trans a.tle h1)
  rows := fun k r hr => by
    obtain ⟨r', h1, h2, h3, h4⟩ := a.rows k r hr
    obtain ⟨r'', h5, h6, h7, h8⟩ := b.rows k r' h1
    exact ⟨r'', h5, h6.trans h2, h7.trans h3, h8.trans h4⟩
  kept := fun k o r ts hk hr hg => by
    obtain ⟨r', h1, h2, h3, h4⟩ := a.rows k r hr
    obtain ⟨ts', h5, h6, h7⟩ := a.kept k o r ts hk hr hg
    obtain ⟨ts'', h8, h9, h10⟩ := b.kept k o r' ts' (prefix_get a.ids hk) h1 (by rw [h2]; exact h5)
    exact ⟨ts'', by rw [← h2]; exact h8, h9.trans h6, fun off ho => by rw [h10 off (by rw [h3]; exact ho), h7 off ho]⟩

/-! ### What reads -/
theorem load_rel (hR : HRel s V h) {t : TypeId} {p : UV} {p' : TV} (r : URel V p p') {u : UV} (hl : loadU P h t p = some u) :
    ∃ v, URel V u v ∧ ∀ s', (∀ k off o, p = .ptr k off → V.ids[k]? = some o → s'.objs.get o = s.objs.get o) → loadT P s' t p' = some v := by
  unfold loadU at hl
  split at hl
  · cases r with
    | eptr us vs rs =>
      obtain ⟨v, h1, h2⟩ := take_rel hl rs
      exact ⟨v, h2, fun s' _ => h1⟩
  · rename_i k off
    cases r with
    | ptr _ _ o e =>
      split at hl
      · rename_i row hrow
        obtain ⟨ts, h1, h2⟩ := hR.obj k o row e hrow
        obtain ⟨v, h3, h4⟩ := take_rel hl (h2.drop off)
        refine ⟨v, h4, fun s' hs => ?_⟩
        unfold loadT objCells
        simp only
        rw [hs k off o rfl e, h1]
        exact h3
      · cases hl
  · cases hl
theorem readU_ok (hR : HRel s V h) {ρ : Operand → UV} {τ : Operand → TV} (hρ : ∀ x, URel V (ρ x) (τ x)) {o : Oper} {u : UV} (hu : (readU P h ρ o).Has u) :
    ∃ v, URel V u v ∧ ∀ s', (∀ k oid, rowOf ρ o = some k → V.ids[k]? = some oid → s'.objs.get oid = s.objs.get oid) → readT P s' τ o = some v := by
  have same : ∀ {v}, readT P s τ o = some v → stateful o = false → ∀ s', readT P s' τ o = some v := fun h1 h2 s' => by rw [stateless (s' := s) h2]; exact h1
  obtain ⟨dst, op, ty, pos, after, guard⟩ := o
  unfold readU at hu
  cases op with
  | move x => simp only [Tree.Has] at hu; subst hu; exact ⟨_, hρ x, fun s' _ => rfl⟩
  | assign x => simp only [Tree.Has] at hu; subst hu; exact ⟨_, hρ x, fun s' _ => rfl⟩
  | pick c a b =>
    simp only at hu
    have hc := hρ c
    split at hu
    · rename_i b0 e
      rw [e] at hc
      cases hcv : τ c <;> rw [hcv] at hc <;> cases hc
      simp only [Tree.Has] at hu
      rcases hu with ⟨rfl, hu⟩ | ⟨rfl, hu⟩
      · subst hu; exact ⟨_, hρ a, fun s' _ => by simp [readT, hcv]⟩
      · subst hu; exact ⟨_, hρ b, fun s' _ => by simp [readT, hcv]⟩
    · cases hu
  | build t parts =>
    simp only [Tree.has_ofOpt] at hu
    obtain ⟨v, h1, h2⟩ := build_rel hρ hu
    exact ⟨v, h2, fun s' _ => h1⟩
  | buildSlice t len parts =>
    simp only [Tree.has_ofOpt] at hu
    obtain ⟨v, h1, h2⟩ := buildSlice_rel hρ hu
    exact ⟨v, h2, fun s' _ => h1⟩
  | load t a =>
    simp only [Tree.has_ofOpt] at hu
    obtain ⟨v, h1, h2⟩ := load_rel hR (hρ a) hu
    refine ⟨v, h1, fun s' hs => h2 s' fun k off o hp hk => hs k o ?_ hk⟩
    simp [rowOf, hp]
  | nilCheck x =>
    simp only at hu
    have hc := hρ x
    split at hu
    · rename_i k off e
      rw [e] at hc
      simp only [Tree.Has] at hu
      subst hu
      cases hcv : τ x <;> rw [hcv] at hc <;> cases hc
      rename_i h1
      exact ⟨_, .ptr _ _ _ h1, fun s' _ => by simp [readT, hcv]⟩
    · rename_i cs e
      rw [e] at hc
      simp only [Tree.Has] at hu
      subst hu
      cases hcv : τ x <;> rw [hcv] at hc <;> cases hc
      rename_i h1
      exact ⟨_, .eptr _ _ h1, fun s' _ => by simp [readT, hcv]⟩
    · rename_i f a b e
      rw [e] at hc
      simp only [Tree.Has] at hu
      subst hu
      cases hcv : τ x <;> rw [hcv] at hc <;> cases hc
      rename_i h1 h2
      exact ⟨_, .fn _ _ _ _ _ h1 h2, fun s' _ => by simp [readT, hcv]⟩
    · cases hu
  | binOp op t x y t2 =>
    simp only at hu
    split at hu
    · rename_i hg
      obtain ⟨v, h1, h2⟩ := bin_rel (hρ x) (hρ y) hu
      exact ⟨v, h2, fun s' _ => by simp [readT, guard_rel (hρ x) (hρ y) hg, h1]⟩
    · cases hu
  | unOp op t x =>
    simp only [Tree.has_ofOpt] at hu
    obtain ⟨v, h1, h2⟩ := un_rel (hρ x) hu
    exact ⟨v, h2, fun s' _ => h1⟩
  | convert src dst x =>
    simp only [Tree.has_ofOpt] at hu
    obtain ⟨v, h1, h2⟩ := conv_rel (hρ x) hu
    exact ⟨v, h2, fun s' _ => h1 s'⟩
  | makeInterface t x =>
    simp only at hu
    split at hu
    · cases hu
    · rename_i d h1 h2
      simp only [Tree.Has] at hu
      subst hu
      exact ⟨_, .iface _ _ _ (hρ x), fun s' _ => by simp [readT, h2]⟩
    · cases hu
  | makeFunc f a b =>
    simp only [Tree.Has] at hu
    subst hu
    exact ⟨_, .fn _ _ _ _ _ (URels.map fun x _ => hρ x) (URels.map fun x _ => hρ x), fun s' _ => rfl⟩
  | slice t x lo hi mx =>
    simp only at hu
    obtain ⟨v, h1, h2⟩ := slice_rel (hρ x) (OptR.map hρ lo) (OptR.map hρ hi) (OptR.map hρ mx) hu
    exact ⟨v, h2, fun s' _ => h1⟩
  | fieldAddr t x f =>
    simp only [Tree.has_ofOpt] at hu
    obtain ⟨v, h1, h2⟩ := fieldAddr_rel (hρ x) hu
    exact ⟨v, h2, fun s' _ => h1⟩
  | field t x f =>
    simp only [Tree.has_ofOpt] at hu
    obtain ⟨v, h1, h2⟩ := field_rel (hρ x) hu
    exact ⟨v, h2, fun s' _ => h1⟩
  | indexAddr t x i =>
    simp only at hu
    obtain ⟨v, h1, h2⟩ := indexAddr_rel (hρ x) (hρ i) hu
    exact ⟨v, h2, fun s' _ => h1⟩
  | index t x i =>
    simp only at hu
    obtain ⟨v, h1, h2⟩ := index_rel (hρ x) (hρ i) hu
    exact ⟨v, h2, fun s' _ => h1⟩
  | extract x i =>
    simp only at hu
    have hc := hρ x
    split at hu
    · rename_i vs e
      rw [e] at hc
      rw [Tree.has_ofOpt] at hu
      cases hcv : τ x <;> rw [hcv] at hc <;> cases hc
      rename_i rs
      obtain ⟨v, h1, h2⟩ := rs.get hu
      exact ⟨v, h2, fun s' _ => by simp [readT, hcv, h1]⟩
    · cases hu
  | call c =>
    obtain ⟨callee, args, ts⟩ := c
    cases callee with
    | builtin b =>
      simp only at hu
      split at hu
      · rename_i x t e1 e2
        rw [Tree.has_ofOpt] at hu
        obtain ⟨v, h1, h2⟩ := len_rel (hρ x) hu
        exact ⟨v, h2, fun s' _ => by simp only [readT, e1, e2]; exact h1 s'⟩
      · rename_i x y e1
        rw [Tree.has_ofOpt] at hu
        obtain ⟨v, h1, h2⟩ := min_rel (hρ x) (hρ y) hu
        exact ⟨v, h2, fun s' _ => by simp only [readT, e1]; exact h1⟩
      · rename_i x y e1
        rw [Tree.has_ofOpt] at hu
        obtain ⟨v, h1, h2⟩ := max_rel (hρ x) (hρ y) hu
        exact ⟨v, h2, fun s' _ => by simp only [readT, e1]; exact h1⟩
      · cases hu
    | value f => cases hu
    | invoke r m => cases hu
  | _ => cases hu
end
end Go.Proofs.Ytbnfooeeopmpiaa.TV

namespace Go.Proofs.Ytbnfooeeopmpiaa.TV
open Go Go.RowKit
set_option linter.unusedSimpArgs false
set_option linter.unusedVariables false

section
variable {P : Program} {s s' : St} {V V' : Val} {h h' : UHeap}

/-- What has been done to the store. -/
structure Eff (s : St) (V : Val) (h : UHeap) (W : List Nat) (s' : St) (V' : Val) (h' : UHeap) : Prop where
  rel : HRel s' V' h'
  step : Step s V h s' V' h'
  le : V.le V'
  rest : ∀ (k o : Nat), k ∉ W → V.ids[k]? = some o → s'.objs.get o = s.objs.get o
theorem Eff.refl (hR : HRel s V h) (W : List Nat) : Eff s V h W s V h := ⟨hR, Step.refl _ _ _, .refl _, fun _ _ _ _ => rfl⟩

theorem getElem?_concat {α : Type} {l : List α} {a b : α} {n : Nat} (h : (l ++ [a])[n]? = some b) : l[n]? = some b ∨ (n = l.length ∧ b = a) := by
  by_cases hn : n < l.length
  · rw [List.getElem?_append_left hn] at h
    exact .inl h
  · rw [List.getElem?_append_right (by omega)] at h
    have : n - l.length = 0 := by
      have := (List.getElem?_eq_some_iff.1 h).1
      simp at this
      omega
    rw [this] at h
    simp at h
    exact .inr ⟨by omega, h.symm⟩
theorem mem_ids (hR : HRel s V h) {k o : Nat} (e : V.ids[k]? = some o) : o ∈ V.ids := List.mem_of_getElem? e
theorem nodup_inj : ∀ {l : List Nat}, l.Nodup → ∀ {i j a : Nat}, l[i]? = some a → l[j]? = some a → i = j
  | [], _, i, j, a, h, _ => by simp at h
  | x :: l, hn, 0, 0, a, _, _ => rfl
  | x :: l, hn, 0, j + 1, a, h, h' => by
    simp at h h'
    subst h
    exact absurd (List.mem_of_getElem? h') (List.nodup_cons.1 hn).1
  | x :: l, hn, i + 1, 0, a, h, h' => by
    simp at h h'
    subst h'
    exact absurd (List.mem_of_getElem? h) (List.nodup_cons.1 hn).1
  | x :: l, hn, i + 1, j + 1, a, h, h' => congrArg (· + 1) (nodup_inj (List.nodup_cons.1 hn).2 (a := a) (by simpa using h) (by simpa using h'))
theorem ids_inj (hR : HRel s V h) {k k' o : Nat} (e : V.ids[k]? = some o) (e' : V.ids[k']? = some o) : k = k' := nodup_inj hR.nodup e e'

/-- A new row. -/
theorem new_eff (hR : HRel s V h) {cs : List UV} {ts : List TV} (t : TypeId) (r : URels V cs ts) (W : List Nat) :
    Eff s V h W (mkObj s (.cells ts t)) ⟨V.ids ++ [s.n], V.tks⟩ (newU h cs t) ∧ (⟨V.ids ++ [s.n], V.tks⟩ : Val).ids[h.objs.length]? = some s.n := by
  have hle : V.le ⟨V.ids ++ [s.n], V.tks⟩ := ⟨List.prefix_append _ _, List.prefix_rfl⟩
  have hn : ∀ o ∈ V.ids, o ≠ s.n := fun o ho e => by have := hR.lt o ho; omega
  have hget : ∀ o, o ≠ s.n → (mkObj s (.cells ts t)).objs.get o = s.objs.get o := fun o ho => by simp [mkObj, Tr.get_set, ho]
  refine ⟨⟨⟨?_, ?_, ?_, ?_, ?_, ?_, ?_⟩, ⟨?_, ?_, ?_, ?_, ?_, ?_, ?_, ?_, ?_⟩, hle, ?_⟩, ?_⟩
  · simp [newU, hR.len]
  · rw [List.nodup_append]
    refine ⟨hR.nodup, by simp, fun a ha b hb => ?_⟩
    simp at hb
    subst hb
    exact hn a ha
  · intro o ho
    simp only [mkObj]
    rcases List.mem_append.1 ho with ho | ho
    · have := hR.lt o ho; omega
    · simp at ho; omega
  · intro k o row hk hrow
    simp only [newU] at hrow
    rcases getElem?_concat hk with hk | ⟨hk1, rfl⟩
    · have hlt : k < h.objs.length := by rw [← hR.len]; exact (List.getElem?_eq_some_iff.1 hk).1
      rw [List.getElem?_append_left hlt] at hrow
      obtain ⟨ts', h1, h2⟩ := hR.obj k o row hk hrow
      exact ⟨ts', by rw [hget o (hn o (mem_ids hR hk))]; exact h1, h2.mono hle⟩
    · rw [hR.len] at hk1
      subst hk1
      simp at hrow
      subst hrow
      exact ⟨ts, by simp [mkObj, Tr.get_set], r.mono hle⟩
  · exact hR.tlen
  · exact hR.tips
  · exact hR.tinj
  · exact List.prefix_append _ _
  · intro o ho
    rcases List.mem_append.1 ho with ho | ho
    · exact .inl ho
    · simp at ho; exact .inr (by omega)
  · simp [mkObj]
  · exact Nat.le_refl _
  · intro o ho _; exact hget o (by omega)
  · intro i _ _; rfl
  · intro i hi; exact .inl hi
  · intro k row hrow
    exact ⟨row, by simp only [newU]; rw [List.getElem?_append_left (List.getElem?_eq_some_iff.1 hrow).1]; exact hrow, rfl, rfl, rfl⟩
  · intro k o row ts' hk hrow hg
    exact ⟨ts', by rw [hget o (hn o (mem_ids hR hk))]; exact hg, rfl, fun _ _ => rfl⟩
  · intro k o _ hk
    exact hget o (hn o (mem_ids hR hk))
  · simp [← hR.len]

theorem splice_get {cs vs : List TV} {off i : Nat} (hl : off + vs.length ≤ cs.length) (hi : i < off ∨ off + vs.length ≤ i) : (splice cs off vs)[i]? = cs[i]? := by
  unfold splice
  have h1 : (cs.take off).length = off := by simp; omega
  rcases hi with hi | hi
  · rw [List.append_assoc, List.getElem?_append_left (by omega), List.getElem?_take_of_lt hi]
  · rw [List.getElem?_append_right (by simp; omega), List.getElem?_drop]
    congr 1
    simp
    omega
theorem splice_length {cs vs : List TV} {off : Nat} (hl : off + vs.length ≤ cs.length) : (splice cs off vs).length = cs.length := by
  unfold splice
  simp
  omega
theorem spliceU_length {cs vs : List UV} {off : Nat} (hl : off + vs.length ≤ cs.length) : (spliceU cs off vs).length = cs.length := by
  unfold spliceU
  simp
  omega
/-- Cells that are written. -/
theorem store_eff (hR : HRel s V h) {k off : Nat} {vs : List UV} {ws : List TV} (hs : storeU h k off vs = some h') (r : URels V vs ws) {o : Nat} (hk : V.ids[k]? = some o) :
    ∃ s', setCellsT s o off ws = some s' ∧ Eff s V h [k] s' V h' := by
  unfold storeU at hs
  split at hs
  · rename_i row hrow
    split at hs
    · rename_i hc
      cases hs
      simp only [Bool.and_eq_true, decide_eq_true_eq, Bool.not_eq_true'] at hc
      obtain ⟨⟨h1, h2⟩, h3⟩ := hc
      obtain ⟨ts, h4, h5⟩ := hR.obj k o row hk hrow
      have hlen := h5.length
      have hwl := r.length
      have h6 : off + ws.length ≤ ts.length := by omega
      refine ⟨{ s with objs := s.objs.set o (.cells (splice ts off ws) row.ty) }, ?_, ⟨?_, ?_, ?_, ?_, ?_, ?_, ?_⟩, ⟨?_, ?_, ?_, ?_, ?_, ?_, ?_, ?_, ?_⟩, .refl _, ?_⟩
      · unfold setCellsT
        rw [h4]
        simp only
        rw [if_pos (by simp only [Bool.and_eq_true, decide_eq_true_eq]; exact ⟨h6, r.allOk h2⟩)]
      · simp [hR.len]
      · exact hR.nodup
      · exact hR.lt
      · intro k' o' row' hk' hrow'
        simp only [List.getElem?_set] at hrow'
        simp only [Tr.get_set]
        split at hrow'
        · rename_i e
          subst e
          rw [hk] at hk'
          cases hk'
          split at hrow'
          · cases hrow'
            rw [if_pos rfl]
            exact ⟨_, rfl, splice_rel off h5 r⟩
          · cases hrow'
        · rename_i e
          rw [if_neg (fun eo => e (by subst eo; exact ids_inj hR hk hk'))]
          exact hR.obj k' o' row' hk' hrow'
      · exact hR.tlen
      · exact hR.tips
      · exact hR.tinj
      · exact List.prefix_rfl
      · exact fun o ho => .inl ho
      · exact Nat.le_refl _
      · exact Nat.le_refl _
      · intro o' _ ho'
        simp only [Tr.get_set]
        rw [if_neg (fun eo => ho' (by subst eo; exact mem_ids hR hk))]
      · intro i _ _; rfl
      · intro i hi; exact .inl hi
      · intro k' row' hrow'
        simp only [List.getElem?_set]
        by_cases e : k = k'
        · subst e
          rw [hrow] at hrow'
          cases hrow'
          rw [if_pos rfl, if_pos (List.getElem?_eq_some_iff.1 hrow).1]
          exact ⟨_, rfl, rfl, rfl, spliceU_length h1⟩
        · rw [if_neg e]
          exact ⟨row', hrow', rfl, rfl, rfl⟩
      · intro k' o' row' ts' hk' hrow' hg
        simp only [Tr.get_set]
        by_cases e : o' = o
        · subst e
          have hkk := ids_inj hR hk hk'
          subst hkk
          rw [hrow] at hrow'
          cases hrow'
          rw [h4] at hg
          cases hg
          rw [if_pos rfl]
          refine ⟨_, rfl, splice_length h6, fun i hi => ?_⟩
          refine splice_get h6 ?_
          by_cases hlo : i < off
          · exact .inl hlo
          · by_cases hhi : off + ws.length ≤ i
            · exact .inr hhi
            · exfalso
              have : ((row.fz.drop off).take vs.length).any id = true := by
                refine List.any_eq_true.2 ⟨true, ?_, rfl⟩
                refine List.mem_of_getElem? (i := i - off) ?_
                rw [List.getElem?_take_of_lt (by omega), List.getElem?_drop]
                rw [show off + (i - off) = i by omega]
                exact hi
              rw [this] at h3
              cases h3
        · rw [if_neg e]
          exact ⟨ts', hg, rfl, fun _ _ => rfl⟩
      · intro k' o' hne hk'
        simp only [Tr.get_set]
        rw [if_neg (fun eo => hne (by subst eo; simp [ids_inj hR hk' hk]))]
    · cases hs
  · cases hs

/-- Tokens that are taken away. -/
theorem less_tips (hR : HRel s V h) {tips : List (Option TypeId)} (hl : tips.length = h.tips.length) (ht : ∀ (j : Nat) (e : TypeId), tips[j]? = some (some e) → h.tips[j]? = some (some e)) : HRel s V ⟨h.objs, tips⟩ :=
  ⟨hR.len, hR.nodup, hR.lt, hR.obj, by rw [hR.tlen, hl], fun j i n e h1 h2 => hR.tips j i n e h1 (ht j e h2), fun j j' i n n' e e' h1 h2 h3 h4 => hR.tinj j j' i n n' e e' h1 h2 (ht _ _ h3) (ht _ _ h4)⟩
theorem set_none {tips : List (Option TypeId)} {j : Nat} : ∀ (k : Nat) (e : TypeId), (tips.set j none)[k]? = some (some e) → tips[k]? = some (some e) ∧ k ≠ j := by
  intro k e hk
  rw [List.getElem?_set] at hk
  split at hk
  · split at hk <;> cases hk
  · rename_i hne
    exact ⟨hk, fun e => hne e.symm⟩
/-- The token of a slice that grows. -/
theorem useTok_ok {e : TypeId} {tok : UTok} {tips : List (Option TypeId)} {n : Nat} {t : Tok} (hu : useTok e h.tips tok = some tips) (r : TokR V tok n t) :
    tips.length = h.tips.length ∧ (∀ (j : Nat) (e : TypeId), tips[j]? = some (some e) → h.tips[j]? = some (some e)) ∧
    (t = .exact ∨ ∃ (i j : Nat), t = .tip i ∧ V.tks[j]? = some (Tok.tip i, n) ∧ h.tips[j]? = some (some e) ∧ ∀ e' : TypeId, tips[j]? ≠ some (some e')) := by
  unfold useTok at hu
  split at hu
  · cases hu
  · cases hu
    exact ⟨rfl, fun _ _ h => h, .inl r⟩
  · rename_i j
    split at hu
    · rename_i e' hj
      split at hu
      · rename_i he
        subst he
        cases hu
        refine ⟨by simp, fun k e hk => (set_none k e hk).1, ?_⟩
        obtain ⟨h1, h2⟩ := r
        cases t with
        | unk => exact absurd rfl h2
        | exact => exact .inl rfl
        | tip i => exact .inr ⟨i, j, rfl, h1, hj, fun e' hk => (set_none j e' hk).2 rfl⟩
      · cases hu
    · cases hu
/-- A row's end is moved. -/
theorem grow_eff (hR : HRel s V h) {tips : List (Option TypeId)} (hl : tips.length = h.tips.length) (ht : ∀ (j : Nat) (e : TypeId), tips[j]? = some (some e) → h.tips[j]? = some (some e))
    {i m : Nat} {e : TypeId} (hn : s'.n = s.n) (ho : s'.objs = s.objs) (hle : s.ntips ≤ s'.ntips) (hi : i < s'.ntips) (hg : s'.tips.get i = some (m, e)) (hs : ∀ k, k ≠ i → k < s.ntips → s'.tips.get k = s.tips.get k)
    (hd : ¬ Alive V ⟨h.objs, tips⟩ i) (ha : Alive V h i ∨ s.ntips ≤ i) (W : List Nat) : Eff s V h W s' ⟨V.ids, V.tks ++ [(.tip i, m)]⟩ ⟨h.objs, tips ++ [some e]⟩ := by
  have hVle : V.le ⟨V.ids, V.tks ++ [(.tip i, m)]⟩ := ⟨List.prefix_rfl, List.prefix_append _ _⟩
  have old : ∀ (j k n : Nat) (e' : TypeId), (V.tks ++ [(Tok.tip i, m)])[j]? = some (Tok.tip k, n) → (tips ++ [some e])[j]? = some (some e') → (V.tks[j]? = some (Tok.tip k, n) ∧ tips[j]? = some (some e') ∧ k ≠ i) ∨ (k = i ∧ n = m ∧ e' = e ∧ j = tips.length) := by
    intro j k n e' h1 h2
    rcases getElem?_concat h1 with h1 | ⟨h1, h3⟩
    · rcases getElem?_concat h2 with h2 | ⟨h2, _⟩
      · exact .inl ⟨h1, h2, fun hk => hd ⟨j, n, e', by rw [← hk]; exact h1, h2⟩⟩
      · have := (List.getElem?_eq_some_iff.1 h1).1
        have := hR.tlen
        omega
    · cases h3
      rcases getElem?_concat h2 with h2 | ⟨h5, h4⟩
      · have := (List.getElem?_eq_some_iff.1 h2).1
        have := hR.tlen
        omega
      · cases h4
        exact .inr ⟨rfl, rfl, rfl, h5⟩
  refine ⟨⟨hR.len, hR.nodup, fun o h1 => by rw [hn]; exact hR.lt o h1, fun k o r h1 h2 => ?_, ?_, fun j k n e' h1 h2 => ?_, fun j j' k n n' e1 e2 h1 h2 h3 h4 => ?_⟩,
    ⟨List.prefix_rfl, fun o h1 => .inl h1, by omega, hle, fun o _ _ => by rw [ho], fun k hk hna => ?_, fun k hk => ?_, fun k r h1 => ⟨r, h1, rfl, rfl, rfl⟩, fun k o r ts _ _ h3 => ⟨ts, by rw [ho]; exact h3, rfl, fun _ _ => rfl⟩⟩, hVle, fun k o _ _ => by rw [ho]⟩
  · obtain ⟨ts, h3, h4⟩ := hR.obj k o r h1 h2
    exact ⟨ts, by rw [ho]; exact h3, h4.mono hVle⟩
  · simp [hR.tlen, hl]
  · rcases old j k n e' h1 h2 with ⟨h3, h4, h5⟩ | ⟨rfl, rfl, rfl, _⟩
    · obtain ⟨h6, h7⟩ := hR.tips j k n e' h3 (ht _ _ h4)
      exact ⟨by omega, by rw [hs k h5 h6]; exact h7⟩
    · exact ⟨hi, hg⟩
  · rcases old j k n e1 h1 h3 with ⟨h5, h6, h7⟩ | ⟨rfl, _, _, h5⟩
    · rcases old j' k n' e2 h2 h4 with ⟨h8, h9, _⟩ | ⟨rfl, _⟩
      · exact hR.tinj j j' k n n' e1 e2 h5 h8 (ht _ _ h6) (ht _ _ h9)
      · exact absurd rfl h7
    · rcases old j' k n' e2 h2 h4 with ⟨_, _, h7⟩ | ⟨_, _, _, h8⟩
      · exact absurd rfl h7
      · omega
  · refine hs k (fun e1 => ?_) hk
    subst e1
    rcases ha with h1 | h1
    · exact hna h1
    · omega
  · obtain ⟨j, n, e', h1, h2⟩ := hk
    rcases old j k n e' h1 h2 with ⟨h3, h4, _⟩ | ⟨rfl, _⟩
    · exact .inl ⟨j, n, e', h3, ht _ _ h4⟩
    · exact ha
theorem Alive.less {tips : List (Option TypeId)} {i j n : Nat} {e : TypeId} (hR : HRel s V h) (ht : ∀ (j : Nat) (e : TypeId), tips[j]? = some (some e) → h.tips[j]? = some (some e)) (h1 : V.tks[j]? = some (.tip i, n)) (h2 : h.tips[j]? = some (some e))
    (h3 : ∀ e' : TypeId, tips[j]? ≠ some (some e')) : ¬ Alive V ⟨h.objs, tips⟩ i := by
  rintro ⟨j', n', e', h4, h5⟩
  have := hR.tinj j j' i n n' e e' h1 h4 h2 (ht _ _ h5)
  subst this
  exact h3 _ h5

/-! ### append -/
theorem append_some {t u elem : TypeId} {ud : TypeDesc} (ht : P.underlying t = some (.slice elem)) (hu : P.underlying u = some ud) (hk : srcKind ud = true) {b : Bool} {es ys : List TV} {tok : Tok} {y : TV} (hy : srcT s (P.cellsOf elem) y = some ys)
    (hne : ys.isEmpty = false) (hb : (es.length + ys.length) * P.bytesOf elem ≤ 140737488355328) (hb0 : 0 < P.bytesOf elem) (hc0 : 0 < P.cellsOf elem) (h1 : headOk (P.cellsOf elem) ys = true) (h2 : headOk (P.cellsOf elem) es = true) (h3 : slotOk ys = true) (h4 : slotOk es = true) (hz : zeroFits P elem = true)
    (hR : HRel s V h) {utok : UTok} {tips : List (Option TypeId)} (hu' : useTok elem h.tips utok = some tips) (r : TokR V utok es.length tok) (W : List Nat) :
    ∃ i s', appendT P s t u (.slice b es tok) y = some (.slice false (es ++ ys) (.tip i), s') ∧ Eff s V h W s' ⟨V.ids, V.tks ++ [(.tip i, es.length + ys.length)]⟩ ⟨h.objs, tips ++ [some elem]⟩ := by
  obtain ⟨k1, k2, k3⟩ := useTok_ok hu' r
  rcases k3 with rfl | ⟨i, j, rfl, k4, k5, k6⟩
  · refine ⟨s.ntips, { s with ntips := s.ntips + 1, tips := s.tips.set s.ntips (es.length + ys.length, elem) }, ?_, ?_⟩
    · unfold appendT
      rw [ht, hu]
      simp [hk, hy, hne, hb, hb0, hc0, h1, h2, h3, h4, hz]
    · refine grow_eff (s' := { s with ntips := s.ntips + 1, tips := s.tips.set s.ntips (es.length + ys.length, elem) }) hR k1 k2 rfl rfl (Nat.le_succ _) (Nat.lt_succ_self _) (by simp [Tr.get_set]) (fun k hk _ => by simp [Tr.get_set, hk]) ?_ (.inr (Nat.le_refl _)) W
      rintro ⟨j, n, e, h5, h6⟩
      have := (hR.tips j _ n e h5 (k2 _ _ h6)).1
      omega
  · obtain ⟨k7, k8⟩ := hR.tips j i es.length elem k4 k5
    refine ⟨i, { s with tips := s.tips.set i (es.length + ys.length, elem) }, ?_, ?_⟩
    · unfold appendT
      rw [ht, hu]
      simp [hk, hy, hne, hb, hb0, hc0, h1, h2, h3, h4, hz, k8]
    · exact grow_eff (s' := { s with tips := s.tips.set i (es.length + ys.length, elem) }) hR k1 k2 rfl rfl (Nat.le_refl _) k7 (by simp [Tr.get_set]) (fun k hk _ => by simp [Tr.get_set, hk]) (Alive.less hR k2 k4 k5 k6) (.inl ⟨j, _, _, k4, k5⟩) W
theorem slot_elR {t : Ty} {l : List t.den} {es : List TV} (r : All2 (ElR t) l es) : slotOk es = true := by
  unfold slotOk
  rw [List.all_eq_true]
  intro e he
  obtain ⟨x, hx⟩ := r.mem he
  exact hx.2.fine
theorem asL_dst {t : Ty} {x : UV} {x' : TV} (r : URel V x x') {l : List t.den} (hx : (∃ t b l tok, x = .slice t b l tok) ∨ ∃ b es tok, x = .lslice b es tok) (h : asL t x = some l) : ∃ b es tok, x' = .slice b es tok ∧ All2 (ElR t) l es ∧ TokR V (tokOf x) l.length tok := by
  rcases hx with ⟨t', b, l', tok, rfl⟩ | ⟨b, es, tok, rfl⟩
  · simp only [asL] at h
    split at h
    · rename_i e
      cases h
      cases r with | slice _ _ b' _ es _ tok' h1 h2 h3 => exact ⟨b', es, tok', rfl, castL_rel e h2, by rw [castL_length]; exact h3⟩
    · cases h
  · simp only [asL] at h
    cases r with
    | lslice _ _ es' _ tok' h1 h2 =>
      have h3 := decL_rel (R := ElR t) (fun h r => decV_rel h r) h h1
      exact ⟨b, es', tok', rfl, h3, by rw [h3.length, ← h1.length]; exact h2⟩
theorem asL_src {t : Ty} {y : UV} {y' : TV} (r : URel V y y') {l : List t.den} (h : asL t y = some l) (n : Nat) : ∃ ys, srcT s n y' = some ys ∧ All2 (ElR t) l ys := by
  unfold asL at h
  split at h
  · split at h
    · rename_i e
      cases h
      cases r with | slice _ _ b' _ es _ tok' h1 h2 h3 => exact ⟨es, rfl, castL_rel e h2⟩
    · cases h
  · cases r with
    | lslice _ _ es' _ tok' h1 h2 => exact ⟨es', rfl, decL_rel (R := ElR t) (fun h r => decV_rel h r) h h1⟩
  · split at h
    · cases h; cases r; exact ⟨_, rfl, byteInts_rel _⟩
    · cases h
  · cases h
theorem appendTy_ok (hR : HRel s V h) {t u elem : TypeId} {ud : TypeDesc} (ht : P.underlying t = some (.slice elem)) (hu : P.underlying u = some ud) (hk : srcKind ud = true) (hb0 : 0 < P.bytesOf elem) (hc0 : 0 < P.cellsOf elem) (hz : zeroFits P elem = true)
    {ty : Ty} {x y : UV} {x' y' : TV} (rx : URel V x x') (ry : URel V y y') (hx : (∃ t b l tok, x = .slice t b l tok) ∨ ∃ b es tok, x = .lslice b es tok) {r : UV × UHeap} (hh : (appendTyU P h ty elem x y).Has r) (W : List Nat) :
    ∃ s' V' v, appendT P s t u x' y' = some (v, s') ∧ URel V' r.1 v ∧ Eff s V h W s' V' r.2 := by
  unfold appendTyU at hh
  split at hh
  · rename_i hsz
    split at hh
    · rename_i l l' hl hl'
      obtain ⟨b, es, tok, rfl, k1, k2⟩ := asL_dst rx hx hl
      obtain ⟨ys, k3, k4⟩ := asL_src (s := s) ry hl' (P.cellsOf elem)
      have e1 : ys.isEmpty = l'.isEmpty := by
        have := k4.length
        cases ys <;> cases l' <;> first | rfl | simp at this
      simp only [Tree.Has] at hh
      rcases hh with ⟨he, rfl⟩ | ⟨he, ⟨hd, hh⟩ | ⟨_, hh⟩⟩
      · refine ⟨s, V, _, ?_, rx, Eff.refl hR W⟩
        unfold appendT
        rw [ht, hu]
        simp [hk, k3, e1, he, hc0]
      · split at hh
        · rename_i tips htips
          simp only [Tree.Has] at hh
          subst hh
          simp only [decide_eq_true_eq] at hd
          rw [k1.length] at k2
          have s1 := ElRs.size k1
          have s2 := ElRs.size k4
          rw [hsz] at s1 s2
          obtain ⟨i, s', k5, k6⟩ := append_some ht hu hk k3 (by rw [e1]; exact he) (by rw [← k1.length, ← k4.length]; exact hd) hb0 hc0 (headOk_all s2) (headOk_all s1) (slot_elR k4) (slot_elR k1) hz hR htips k2 W (b := b)
          refine ⟨s', _, _, k5, .slice _ _ _ _ _ _ _ (fun x hx => by cases hx; rfl) (k1.append k4) ⟨?_, by simp⟩, k6⟩
          have : tips.length = V.tks.length := by rw [(useTok_ok htips k2).1, hR.tlen]
          rw [this]
          simp [k1.length, k4.length]
        · exact hh.elim
      · exact hh.elim
    · exact hh.elim
  · exact hh.elim
theorem lsl_fine {n : Nat} {us : List UV} {vs : List TV} (r : URels V us vs) (h : us.all (fineU n) = true) : headOk n vs = true ∧ slotOk vs = true := by
  have : ∀ v ∈ vs, v.cells.length = n ∧ v.cells.all cellOk = true := by
    induction us generalizing vs with
    | nil => cases r; simp
    | cons u us ih => cases r with
      | cons _ v _ vs r rs =>
        simp only [List.all_cons, Bool.and_eq_true, fineU, beq_iff_eq] at h
        intro e he
        rcases List.mem_cons.1 he with rfl | he
        · exact fineU_ok r h.1.2 h.1.1
        · exact ih rs h.2 e he
  exact ⟨headOk_all fun e he => (this e he).1, by unfold slotOk; rw [List.all_eq_true]; exact fun e he => (this e he).2⟩
theorem append_ok (hR : HRel s V h) {t u : TypeId} {x y : UV} {x' y' : TV} (rx : URel V x x') (ry : URel V y y') {r : UV × UHeap} (hh : (appendU P h t u x y).Has r) (W : List Nat) :
    ∃ s' V' v, appendT P s t u x' y' = some (v, s') ∧ URel V' r.1 v ∧ Eff s V h W s' V' r.2 := by
  unfold appendU at hh
  split at hh
  · rename_i elem ud ht hu
    split at hh
    · rename_i hc
      simp only [Bool.and_eq_true, decide_eq_true_eq] at hc
      obtain ⟨⟨⟨hk, hb0⟩, hc0⟩, hz⟩ := hc
      split at hh
      · rename_i b es tok b2 es' tok2
        cases rx with
        | lslice _ _ vs _ tok' h1 h2 =>
        cases ry with
        | lslice _ _ ws _ tok2' h3 h4 =>
          have e1 : ws.isEmpty = es'.isEmpty := by
            have := h3.length
            cases ws <;> cases es' <;> first | rfl | simp at this
          split at hh
          · rename_i he
            simp only [Tree.Has] at hh
            subst hh
            refine ⟨s, V, _, ?_, .lslice _ _ _ _ _ h1 h2, Eff.refl hR W⟩
            unfold appendT
            rw [ht, hu]
            simp [hk, srcT, e1, he, hc0]
          · rename_i he
            split at hh
            · rename_i hf
              simp only [Bool.and_eq_true, decide_eq_true_eq] at hf
              obtain ⟨⟨f1, f2⟩, f3⟩ := hf
              split at hh
              · rename_i tips htips
                simp only [Tree.Has] at hh
                subst hh
                rw [h1.length] at h2
                obtain ⟨i, s', k5, k6⟩ := append_some ht hu hk (s := s) (y := .slice b2 ws tok2') rfl (by rw [e1]; simpa using he) (by rw [← h1.length, ← h3.length]; exact f3) hb0 hc0 (lsl_fine h3 f2).1 (lsl_fine h1 f1).1 (lsl_fine h3 f2).2 (lsl_fine h1 f1).2 hz hR htips h2 W (b := b)
                refine ⟨s', _, _, k5, .lslice _ _ _ _ _ ((h1.append h3).mono k6.le) ⟨?_, by simp⟩, k6⟩
                have : tips.length = V.tks.length := by rw [(useTok_ok htips h2).1, hR.tlen]
                rw [this]
                simp [h1.length, h3.length]
              · exact hh.elim
            · exact hh.elim
      · exact appendTy_ok hR ht hu hk hb0 hc0 hz rx ry (.inl ⟨_, _, _, _, rfl⟩) hh W
      · exact appendTy_ok hR ht hu hk hb0 hc0 hz rx ry (.inr ⟨_, _, _, rfl⟩) hh W
      · exact appendTy_ok hR ht hu hk hb0 hc0 hz rx ry (.inr ⟨_, _, _, rfl⟩) hh W
      · exact hh.elim
    · exact hh.elim
  · exact hh.elim

theorem eff_ok (hR : HRel s V h) {ρ : Operand → UV} {τ : Operand → TV} (hρ : ∀ x, URel V (ρ x) (τ x)) {o : Oper} {r : UV × UHeap × List Nat} (hh : (effU P h ρ o).Has r) :
    ∃ s' V' v, effT P s τ o = some (v, s') ∧ URel V' r.1 v ∧ Eff s V h r.2.2 s' V' r.2.1 := by
  obtain ⟨dst, op, ty, pos, after, guard⟩ := o
  unfold effU at hh
  cases op with
  | alloc t =>
    simp only at hh
    split at hh
    · rename_i z hz
      split at hh
      · rename_i hc
        simp only [Tree.Has] at hh
        subst hh
        obtain ⟨z', hz', rz⟩ := zero_rel (V := V) hz
        have hcs := rz.cells (notJunk_of_ok hc)
        obtain ⟨h1, h2⟩ := new_eff hR t hcs []
        exact ⟨_, _, .ptr s.n 0, by simp only [effT, hz', hcs.allOk hc, if_true], .ptr _ _ _ h2, h1⟩
      · exact hh.elim
    · exact hh.elim
  | box t x =>
    simp only at hh
    split at hh
    · rename_i hc
      simp only [Tree.Has] at hh
      subst hh
      have hcs := (hρ x).cells (notJunk_of_ok hc)
      obtain ⟨h1, h2⟩ := new_eff hR t hcs []
      exact ⟨_, _, .ptr s.n 0, by simp only [effT, hcs.allOk hc, if_true], .ptr _ _ _ h2, h1⟩
    · exact hh.elim
  | store t a x =>
    simp only at hh
    have ha := hρ a
    split at hh
    · rename_i k off e
      rw [e] at ha
      cases hav : τ a <;> rw [hav] at ha <;> cases ha
      rename_i o off hk
      split at hh
      · rename_i hc
        simp only [Bool.and_eq_true, decide_eq_true_eq] at hc
        split at hh
        · rename_i h1 hs
          simp only [Tree.Has] at hh
          subst hh
          have hj : isJunkU (ρ x) = false := by
            unfold storeU at hs
            split at hs
            · split at hs
              · rename_i h2
                simp only [Bool.and_eq_true] at h2
                exact notJunk_of_ok h2.1.2
              · cases hs
            · cases hs
          have hcs := (hρ x).cells hj
          obtain ⟨s', h2, h3⟩ := store_eff hR hs hcs hk
          refine ⟨s', V, undefT, ?_, .tup _ _ .nil, h3⟩
          simp only [effT, hav]
          rw [if_pos (by simp only [Bool.and_eq_true, decide_eq_true_eq]; exact ⟨by rw [← hcs.length]; exact hc.1, hc.2⟩), h2]
          rfl
        · exact hh.elim
      · exact hh.elim
    · exact hh.elim
  | call c =>
    obtain ⟨callee, args, ts⟩ := c
    cases callee with
    | builtin b =>
      simp only at hh
      split at hh
      · rename_i x y t u e1 e2
        rw [Tree.has_bind] at hh
        obtain ⟨r1, h1, h2⟩ := hh
        simp only [Tree.Has] at h2
        subst h2
        obtain ⟨s', V', v, h3, h4, h5⟩ := append_ok hR (hρ x) (hρ y) h1 []
        exact ⟨s', V', v, by simp only [effT, e1, e2]; exact h3, h4, h5⟩
      · exact hh.elim
    | value f => exact hh.elim
    | invoke r m => exact hh.elim
  | _ => exact hh.elim
end
end Go.Proofs.Ytbnfooeeopmpiaa.TV
