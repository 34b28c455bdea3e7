/-
  DX: maps as lists of keys and values. (2 texts, one behind the other)
-/
import Derived.Test.YthnhbejjikgifaaGreatDoorM05
import Derived.Test.YthnhbejjikgifaaGreatDoorM04

namespace Go.Proofs.YthnhbejjikgifaaGreatDoor.TV
open Go Go.RowKit
set_option linter.unusedSimpArgs false
set_option linter.unusedVariables false

def EntR (v : Ty) (x : List UInt8 × v.den) (e : TV × TV × Nat) : Prop := e.1 = .str x.1 ∧ ElR v x.2 e.2.1
theorem keyEq_str (a b : List UInt8) : keyEq .string (.str a) (.str b) = some (a == b) := rfl
theorem findT_get {v : Ty} {k : List UInt8} : ∀ {l : List (List UInt8 × v.den)} {es : List (TV × TV × Nat)} (i : Nat), All2 (EntR v) l es →
    (∀ x, mget k l = some x → ∃ n y, findT .string (.str k) es (i) = some (some (n, y)) ∧ i ≤ n ∧ ElR v x y) ∧ (mget k l = none → findT .string (.str k) es i = some none)
  | [], [], i, _ => ⟨fun x h => by simp [mget] at h, fun _ => rfl⟩
  | p :: l, e :: es, i, h => by
    obtain ⟨h1, h2⟩ := h
    obtain ⟨k1, k2⟩ := findT_get (k := k) (i + 1) h2
    have hk : keyEq .string (.str k) e.1 = some (k == p.1) := by rw [h1.1]; rfl
    unfold mget findT
    rw [hk]
    by_cases hp : k = p.1
    · rw [if_pos hp]
      have : (k == p.1) = true := by simpa using hp
      rw [this]
      exact ⟨fun x hx => by cases hx; exact ⟨i, e.2.1, rfl, Nat.le_refl _, h1.2⟩, fun h => by cases h⟩
    · rw [if_neg hp]
      have : (k == p.1) = false := by simpa using hp
      rw [this]
      refine ⟨fun x hx => ?_, k2⟩
      obtain ⟨n, y, h3, h4, h5⟩ := k1 x hx
      exact ⟨n, y, h3, by omega, h5⟩
  | [], _ :: _, _, h => h.elim
  | _ :: _, [], _, h => h.elim
theorem findT_set {v : Ty} {k : List UInt8} {x : v.den} {y : TV} (hy : ElR v x y) : ∀ {l : List (List UInt8 × v.den)} {es : List (TV × TV × Nat)} (i c : Nat), All2 (EntR v) l es →
    (∀ n z, findT .string (.str k) es i = some (some (n, z)) → i ≤ n ∧ k ∈ l.map (·.1) ∧ All2 (EntR v) (mset k x l) (es.modify (n - i) fun e => (.str k, y, e.2.2))) ∧
    (findT .string (.str k) es i = some none → k ∉ l.map (·.1) ∧ All2 (EntR v) (mset k x l) (es ++ [(.str k, y, c)]))
  | [], [], i, c, _ => ⟨fun n z h => by simp [findT] at h, fun _ => ⟨by simp, ⟨rfl, hy⟩, trivial⟩⟩
  | p :: l, e :: es, i, c, h => by
    obtain ⟨h1, h2⟩ := h
    obtain ⟨k1, k2⟩ := findT_set (k := k) hy (i + 1) c h2
    have hk : keyEq .string (.str k) e.1 = some (k == p.1) := by rw [h1.1]; rfl
    unfold mset findT
    rw [hk]
    by_cases hp : k = p.1
    · rw [if_pos hp]
      have : (k == p.1) = true := by simpa using hp
      rw [this]
      refine ⟨fun n z hx => ?_, fun h => by cases h⟩
      cases hx
      refine ⟨Nat.le_refl _, by simp [hp], ?_⟩
      rw [Nat.sub_self]
      exact ⟨⟨rfl, hy⟩, h2⟩
    · rw [if_neg hp]
      have : (k == p.1) = false := by simpa using hp
      rw [this]
      refine ⟨fun n z hx => ?_, fun hx => ?_⟩
      · obtain ⟨h3, h4, h5⟩ := k1 n z hx
        refine ⟨by omega, by simp [h4], ?_⟩
        rw [show n - i = (n - (i + 1)) + 1 by omega]
        exact ⟨h1, h5⟩
      · obtain ⟨h3, h4⟩ := k2 hx
        exact ⟨by simp only [List.map_cons, List.mem_cons, not_or]; exact ⟨hp, h3⟩, h1, h4⟩
  | [], _ :: _, _, _, h => h.elim
  | _ :: _, [], _, _, h => h.elim
theorem findT_del {v : Ty} {k : List UInt8} : ∀ {l : List (List UInt8 × v.den)} {es : List (TV × TV × Nat)} (i : Nat), All2 (EntR v) l es →
    (∀ n z, findT .string (.str k) es i = some (some (n, z)) → i ≤ n ∧ All2 (EntR v) (mdel k l) (es.eraseIdx (n - i))) ∧
    (findT .string (.str k) es i = some none → mdel k l = l)
  | [], [], i, _ => ⟨fun n z h => by simp [findT] at h, fun _ => rfl⟩
  | p :: l, e :: es, i, h => by
    obtain ⟨h1, h2⟩ := h
    obtain ⟨k1, k2⟩ := findT_del (k := k) (i + 1) h2
    have hk : keyEq .string (.str k) e.1 = some (k == p.1) := by rw [h1.1]; rfl
    unfold mdel findT
    rw [hk]
    by_cases hp : k = p.1
    · rw [if_pos hp]
      have : (k == p.1) = true := by simpa using hp
      rw [this]
      refine ⟨fun n z hx => ?_, fun h => by cases h⟩
      cases hx
      refine ⟨Nat.le_refl _, ?_⟩
      rw [Nat.sub_self]
      exact h2
    · rw [if_neg hp]
      have : (k == p.1) = false := by simpa using hp
      rw [this]
      refine ⟨fun n z hx => ?_, fun hx => by rw [k2 hx]⟩
      obtain ⟨h3, h5⟩ := k1 n z hx
      refine ⟨by omega, ?_⟩
      rw [show n - i = (n - (i + 1)) + 1 by omega]
      exact ⟨h1, h5⟩
  | [], _ :: _, _, h => h.elim
  | _ :: _, [], _, h => h.elim
theorem findT_total {v : Ty} {k : List UInt8} {l : List (List UInt8 × v.den)} {es : List (TV × TV × Nat)} (i : Nat) (h : All2 (EntR v) l es) : findT .string (.str k) es i = some none ∨ ∃ n z, findT .string (.str k) es i = some (some (n, z)) := by
  obtain ⟨h1, h2⟩ := findT_get (k := k) i h
  cases hm : mget k l with
  | none => exact .inl (h2 hm)
  | some x =>
    obtain ⟨n, y, h3, _⟩ := h1 x hm
    exact .inr ⟨n, y, h3⟩
theorem mset_keys {α : Type} {k : List UInt8} {x : α} : ∀ (l : List (List UInt8 × α)), (mset k x l).map (·.1) = if k ∈ l.map (·.1) then l.map (·.1) else l.map (·.1) ++ [k]
  | [] => rfl
  | e :: l => by
    unfold mset
    by_cases hk : k = e.1
    · rw [if_pos hk]
      simp [hk]
    · rw [if_neg hk, List.map_cons, mset_keys l]
      simp only [List.map_cons, List.mem_cons]
      by_cases hm : k ∈ l.map (·.1)
      · rw [if_pos hm, if_pos (.inr hm)]
      · rw [if_neg hm, if_neg (fun h => h.elim hk hm)]
        rfl
theorem mdel_sub {α : Type} {k : List UInt8} : ∀ (l : List (List UInt8 × α)), (mdel k l).Sublist l
  | [] => List.Sublist.slnil
  | e :: l => by
    unfold mdel
    by_cases hk : k = e.1
    · rw [if_pos hk]; exact List.sublist_cons_self _ _
    · rw [if_neg hk]; exact (mdel_sub l).cons_cons _

/-- A map of the store is that list. -/
structure MapR (v : Ty) (l : List (List UInt8 × v.den)) (es : List (TV × TV × Nat)) (c : Nat) : Prop where
  rel : All2 (EntR v) l es
  keys : (l.map (·.1)).Nodup
  lt : ∀ e ∈ es, e.2.2 < c
  stamps : (es.map (·.2.2)).Nodup
theorem modify_stamps {es : List (TV × TV × Nat)} {n : Nat} {a b : TV} : (es.modify n fun e => (a, b, e.2.2)).map (·.2.2) = es.map (·.2.2) := by
  apply List.ext_getElem?
  intro i
  rw [List.getElem?_map, List.getElem?_map, List.getElem?_modify]
  cases es[i]? with
  | none => simp
  | some e => by_cases h : n = i <;> simp [h]
theorem stamps_lt {es : List (TV × TV × Nat)} {c : Nat} : (∀ e ∈ es, e.2.2 < c) ↔ ∀ n ∈ es.map (·.2.2), n < c := by
  simp only [List.mem_map, forall_exists_index, and_imp, forall_apply_eq_imp_iff₂]
theorem MapR.set {v : Ty} {l : List (List UInt8 × v.den)} {es : List (TV × TV × Nat)} {c : Nat} (h : MapR v l es c) {k : List UInt8} {x : v.den} {y : TV} (hy : ElR v x y) :
    (∀ n z, findT .string (.str k) es 0 = some (some (n, z)) → MapR v (mset k x l) (es.modify n fun e => (.str k, y, e.2.2)) c) ∧ (findT .string (.str k) es 0 = some none → MapR v (mset k x l) (es ++ [(.str k, y, c)]) (c + 1)) := by
  obtain ⟨h1, h2⟩ := findT_set (k := k) hy 0 c h.rel
  refine ⟨fun n z hz => ?_, fun hz => ?_⟩
  · obtain ⟨_, h3, h4⟩ := h1 n z hz
    refine ⟨by simpa using h4, by rw [mset_keys, if_pos h3]; exact h.keys, ?_, by rw [modify_stamps]; exact h.stamps⟩
    rw [stamps_lt, modify_stamps, ← stamps_lt]
    exact h.lt
  · obtain ⟨h3, h4⟩ := h2 hz
    refine ⟨h4, ?_, fun e he => ?_, ?_⟩
    · rw [mset_keys, if_neg h3, List.nodup_append]
      refine ⟨h.keys, by simp, fun a ha b hb => ?_⟩
      simp at hb
      subst hb
      exact fun e => h3 (e ▸ ha)
    · rcases List.mem_append.1 he with he | he
      · have := h.lt e he; omega
      · simp at he; subst he; exact Nat.lt_succ_self _
    · rw [List.map_append, List.nodup_append]
      refine ⟨h.stamps, by simp, fun a ha b hb => ?_⟩
      simp at hb
      subst hb
      have := stamps_lt.1 h.lt a ha
      omega
theorem MapR.del {v : Ty} {l : List (List UInt8 × v.den)} {es : List (TV × TV × Nat)} {c : Nat} (h : MapR v l es c) {k : List UInt8} :
    (∀ n z, findT .string (.str k) es 0 = some (some (n, z)) → MapR v (mdel k l) (es.eraseIdx n) c) ∧ (findT .string (.str k) es 0 = some none → mdel k l = l) := by
  obtain ⟨h1, h2⟩ := findT_del (k := k) 0 h.rel
  refine ⟨fun n z hz => ?_, h2⟩
  obtain ⟨_, h4⟩ := h1 n z hz
  exact ⟨by simpa using h4, ((mdel_sub l).map _).nodup h.keys, fun e he => h.lt e ((List.eraseIdx_sublist _ _).subset he), ((List.eraseIdx_sublist _ _).map _).nodup h.stamps⟩
theorem MapR.nil {v : Ty} : MapR v [] [] 0 := ⟨trivial, by simp, by simp, by simp⟩
end Go.Proofs.YthnhbejjikgifaaGreatDoor.TV

/-
  TV: append that gives a slice which may be written: its row is an object of the store; the slice that was appended to is not looked at any more.
-/
namespace Go.Proofs.YthnhbejjikgifaaGreatDoor.TV
open Go Go.RowKit
set_option linter.unusedSimpArgs false
set_option linter.unusedVariables false

section
variable {P : Program} {g : G} {w w' : World} {s : St}

/-- Nothing is told of an object any more. -/
def killed (s : St) (o : Nat) (e : TypeId) : St := { s with objs := s.objs.set o (.cells [] e) }
theorem get_killed {o p : Nat} {e : TypeId} : (killed s o e).objs.get p = if p = o then some (.cells [] e) else s.objs.get p := by simp [killed, Tr.get_set]
theorem empty_killed {o p : Nat} {e : TypeId} (h : Empty s p) : Empty (killed s o e) p := by
  obtain ⟨t, ht⟩ := h
  unfold Empty
  rw [get_killed]
  split
  · exact ⟨e, rfl⟩
  · exact ⟨t, ht⟩
theorem Rel.kill (h : Rel P g w s) {o : Nat} {cs : List TV} {e : TypeId} (ho : s.objs.get o = some (.cells cs e)) : Rel P g w (killed s o e) where
  below := h.below
  bsize := h.bsize
  sol := h.sol
  ids := h.ids
  inj := fun p q b e1 e2 n1 n2 => h.inj p q b e1 e2 (fun k => n1 (empty_killed k)) (fun k => n2 (empty_killed k))
  nosol := fun p b i e1 n1 => h.nosol p b i e1 (fun k => n1 (empty_killed k))
  rows := h.rows
  apart := h.apart
  rcs := h.rcs
  obj := fun p b e1 => by
    obtain ⟨ob, h1, h2⟩ := h.obj p b e1
    rw [get_killed]
    by_cases hp : p = o
    · subst hp
      rw [ho] at h1
      cases h1
      obtain ⟨vs, h3, _⟩ := h2
      exact ⟨.cells [] e, by simp, vs, h3, by simpa using VRels.nil⟩
    · exact ⟨ob, by rw [if_neg hp]; exact h1, h2⟩
  nts := h.nts
  toks := h.toks
  tinj := h.tinj

/-- A row that may be written and grow. -/
def G.addRow (g : G) (o b cap : Nat) (e : TypeId) : G := { g with φ := fun p => if p = o then some b else g.φ p, rc := fun p => if p = o then some (cap, e) else g.rc p }
theorem Rel.phi_none (h : Rel P g w s) : g.φ s.n = none := by
  cases e : g.φ s.n with
  | none => rfl
  | some c => have := (h.ids _ _ e).1; omega
theorem Rel.rc_none (h : Rel P g w s) : g.rc s.n = none := by
  cases e : g.rc s.n with
  | none => rfl
  | some c => have := h.rcs _ _ e; omega
theorem Rel.le_addRow (h : Rel P g w s) {b cap : Nat} {e : TypeId} : g.le (g.addRow s.n b cap e) := by
  refine ⟨rfl, rfl, fun o c e => ?_, fun _ _ _ e => e, Nat.le_refl _, fun _ _ => Nat.le_refl _, fun _ _ _ => rfl, fun _ _ _ _ e => e, fun o x e => ?_⟩
  · simp only [G.addRow]
    rw [if_neg (fun eo => by subst eo; rw [h.phi_none] at e; cases e)]
    exact e
  · simp only [G.addRow]
    rw [if_neg (fun eo => by subst eo; rw [h.rc_none] at e; cases e)]
    exact e

/-- A row at a block: a new one, or one that no object tells of any more. -/
theorem Rel.addRow (h : Rel P g w s) {b cap : Nat} {e : TypeId} {cs : List TV} (hb : ∀ k, k ≠ b → k < w.heap.size → w'.heap[k]? = w.heap[k]?) (hbase : g.base ≤ b) (hos : w'.os = w.os) (htape : w'.tape = w.tape) (hout : w'.output = w.output) (hsize : w.heap.size ≤ w'.heap.size)
    (hem : ∀ p, g.φ p = some b → Empty s p) (hsol : ∀ i, g.sol b i = none) (htip : ∀ i c, i < g.ntips → g.loc i = some (b, c) → False)
    {cells : Array Value} (hc : w'.heap[b]? = some (.cells cells e (0, 0))) (hsz : cells.size = cap * P.cellsOf e) (hold : ∀ p, g.φ p = some b → ∃ cur : Array Value, w.heap[b]? = some (.cells cur e (0, 0)) ∧ cur.size = cells.size)
    (hr : VRels g (cells.toList.take cs.length) cs) :
    g.le (g.addRow s.n b cap e) ∧ Rel P (g.addRow s.n b cap e) w' (mkObj s (.cells cs e)) ∧ (g.addRow s.n b cap e).φ s.n = some b ∧ (g.addRow s.n b cap e).rc s.n = some (cap, e) := by
  have hle := h.le_addRow (b := b) (cap := cap) (e := e)
  have hemp : ∀ o, o ≠ s.n → (Empty (mkObj s (.cells cs e)) o ↔ Empty s o) := fun o ho => by
    unfold Empty mkObj
    simp only [Tr.get_set, if_neg ho]
  refine ⟨hle, ⟨h.below.trans ⟨hos, htape, hout, hsize, fun k hk => hb k (by omega) (by have := h.bsize; omega)⟩, Nat.le_trans h.bsize hsize, fun c j v hv => ?_, fun o c hv => ?_, fun o o' c e1 e2 n1 n2 => ?_, fun o c j e1 n1 => ?_, fun o c k el e1 e2 => ?_, fun j o c c' hj hl e1 => ?_, fun o x e1 => ?_,
    fun o c e1 => ?_, h.nts, fun j hj => ?_, h.tinj⟩, by simp [G.addRow], by simp [G.addRow]⟩
  · have hcb : c ≠ b := fun ec => by subst ec; rw [show (g.addRow s.n c cap e).sol c j = g.sol c j from rfl, hsol] at hv; cases hv
    have hlt := h.sol_lt (show g.sol c j = some v from hv)
    rw [← h.sol c j v hv]
    exact World.cell?_of_block (w := w) (hb c hcb hlt)
  · simp only [G.addRow] at hv
    simp only [mkObj]
    split at hv
    · rename_i ho; subst ho; cases hv; exact ⟨by omega, hbase⟩
    · have := h.ids o c hv; exact ⟨by omega, this.2⟩
  · simp only [G.addRow] at e1 e2
    split at e1 <;> split at e2
    · simp_all
    · rename_i h1 h2; cases e1; exact absurd ((hemp _ h2).2 (hem _ e2)) n2
    · rename_i h1 h2; cases e2; exact absurd ((hemp _ h1).2 (hem _ e1)) n1
    · rename_i h1 h2; exact h.inj _ _ _ e1 e2 (fun q => n1 ((hemp _ h1).2 q)) (fun q => n2 ((hemp _ h2).2 q))
  · simp only [G.addRow] at e1
    split at e1
    · cases e1; exact hsol j
    · rename_i h1; exact h.nosol o c j e1 (fun q => n1 ((hemp _ h1).2 q))
  · simp only [G.addRow] at e1 e2
    split at e1
    · rename_i ho
      cases e1
      rw [if_pos ho] at e2
      cases e2
      exact ⟨cells, hc, hsz⟩
    · rename_i ho
      rw [if_neg ho] at e2
      obtain ⟨vs, h1, h2⟩ := h.rows o c k el e1 e2
      by_cases hcb : c = b
      · subst hcb
        obtain ⟨cur, h3, h4⟩ := hold o e1
        rw [h1] at h3
        cases h3
        exact ⟨cells, hc, by rw [← h4, h2]⟩
      · exact ⟨vs, (hb c hcb (h.obj_lt e1)).trans h1, h2⟩
  · simp only [G.addRow] at e1
    split at e1
    · cases e1; exact htip j c' hj hl
    · exact h.apart j o c c' hj hl e1
  · simp only [G.addRow] at e1
    show o < s.n + 1
    split at e1
    · omega
    · have := h.rcs o x e1; omega
  · simp only [G.addRow] at e1
    show ∃ ob', (s.objs.set s.n (.cells cs e)).get o = some ob' ∧ _
    simp only [Tr.get_set]
    split at e1
    · rename_i ho
      cases e1
      exact ⟨.cells cs e, by simp [ho], cells, hc, hr.mono hle⟩
    · rename_i ho
      obtain ⟨ob, h1, h2⟩ := h.obj o c e1
      by_cases hcb : c = b
      · subst hcb
        obtain ⟨t, ht⟩ := hem o e1
        rw [h1] at ht
        cases ht
        obtain ⟨vs, h3, _⟩ := h2
        obtain ⟨cur, h5, _⟩ := hold o e1
        rw [h3] at h5
        cases h5
        exact ⟨.cells [] e, by rw [if_neg ho]; exact h1, cells, hc, by simpa using VRels.nil⟩
      · exact ⟨ob, by rw [if_neg ho]; exact h1, (h2.block (hb c hcb (h.obj_lt e1))).mono hle⟩
  · obtain ⟨c, c1, e1, xs, h1, h2, h3⟩ := h.toks j hj
    refine ⟨c, c1, e1, xs, h1, h2, ?_⟩
    have h4 := h3.block (hb c (fun ec => by subst ec; exact htip j c1 hj h1) h3.lt.2)
    exact ⟨h4.own, h4.size, h4.tip, h4.sol⟩

/-- append: what is appended to is a slice without room, or one of the call's own that may grow. -/
def appendO (P : Program) (s : St) (t u : TypeId) (x y : TV) : Option (TV × St) :=
  match P.underlying t, P.underlying u with
  | some (.slice elem), some ud =>
    if !srcKind ud then none else
    match srcT s (P.cellsOf elem) (ungsl y) with
    | some ys =>
      if ys.isEmpty || !(decide (0 < P.bytesOf elem) && decide (0 < P.cellsOf elem) && headOk (P.cellsOf elem) ys && slotOk ys && zeroFits P elem) then none else
      match x with
      | .slice _ es .exact => if (es.length + ys.length) * P.bytesOf elem ≤ 140737488355328 && headOk (P.cellsOf elem) es && slotOk es then some (.gsl s.n (es.length + ys.length), mkObj s (.cells (es.flatMap TV.cells ++ ys.flatMap TV.cells) elem)) else none
      | .gsl o len => match objCells s o with
        | some (cs, e) => if (len + ys.length) * P.bytesOf elem ≤ 140737488355328 && e == elem && cs.length == len * P.cellsOf elem && decide (0 < len) then some (.gsl s.n (len + ys.length), mkObj (killed s o elem) (.cells (cs ++ ys.flatMap TV.cells) elem)) else none
        | none => none
      | _ => none
    | none => none
  | _, _ => none

/-- What is laid anew. -/
theorem growO_ok (hR : Rel P g w s) {t u ty elem : TypeId} (ht : P.underlying t = some (.slice elem)) (hu : noInt P u) {ti : TypeInfo} (hti : P.info? elem = some ti) {rz : Value} (hrz : ti.zero = some rz) (hrzs : rz.cells.size = P.cellsOf elem)
    (hz0 : 0 < P.cellsOf elem) {base : Option Addr} {n cap : Nat} {olds news : List Value} {cs : List TV} {ys : List TV} (hold : (Builtin.firstCells (P.cellsOf elem) n (.slice base n cap)).run P w.drew = .ok olds.toArray w.drew)
    {ry : Value} (hn : Src P g w (P.cellsOf elem) ry ys news) (hyne : ys ≠ []) (horel : VRels g olds cs) (hol : olds.length = n * P.cellsOf elem) (hg : cap < n + ys.length)
    (hb : (n + ys.length) * P.bytesOf elem ≤ 140737488355328) (hb0 : 0 < P.bytesOf elem) :
    ∃ rv w' g', (Builtin.append_ #[t, u] ty #[.slice base n cap, ry]).run P w = .ok rv w' ∧ g.le g' ∧ Rel P g' w' (mkObj s (.cells (cs ++ ys.flatMap TV.cells) elem)) ∧ VRel g' rv (.gsl s.n (n + ys.length)) := by
  have hnl : news.length = ys.length * P.cellsOf elem := by rw [hn.rel.length, flat_length hn.size]
  have hrun := app_grow (ty := ty) ht hu hti hrz (by omega) hold hn hnl hg hb hb0
  have hge := grownCap_ge w (n + ys.length) cap elem
  generalize hcap : grownCap w (n + ys.length) cap elem = cap2 at hrun hge
  have hsz : ((olds ++ news).toArray ++ Builtin.zeroCells rz.cells (cap2 - (n + ys.length))).size = cap2 * P.cellsOf elem := by
    rw [Array.size_append, List.size_toArray, List.length_append, hol, hnl, size_zeroCells, hrzs, ← Nat.add_mul, ← Nat.add_mul]
    congr 1
    omega
  have hlen : (cs ++ ys.flatMap TV.cells).length = (olds ++ news).length := by rw [List.length_append, List.length_append, horel.length, hn.rel.length]
  have hnew := heap_alloc_new w.drew (.cells ((olds ++ news).toArray ++ Builtin.zeroCells rz.cells (cap2 - (n + ys.length))) elem)
  obtain ⟨h1, h2, h3, h4⟩ := hR.addRow (w' := w.drew.alloc (.cells ((olds ++ news).toArray ++ Builtin.zeroCells rz.cells (cap2 - (n + ys.length))) elem)) (b := w.heap.size) (cap := cap2) (e := elem) (cs := cs ++ ys.flatMap TV.cells)
    (fun k hk hlt => Below.heap_alloc w.drew _ k hlt) hR.bsize rfl rfl rfl (by show w.heap.size ≤ (w.heap.push _).size; simp) (fun p hp => absurd (hR.obj_lt hp) (by omega)) (fun i => by
      cases hq : g.sol w.heap.size i with
      | none => rfl
      | some v => exact absurd (hR.sol_lt hq) (by omega)) (fun i c hi hl => by
      obtain ⟨b1, c1, e1, xs, q1, q2, q3⟩ := hR.toks i hi
      rw [q1] at hl
      cases hl
      exact absurd q3.lt.2 (by omega)) hnew hsz (fun p hp => absurd (hR.obj_lt hp) (by omega)) (by
      rw [hlen, Array.toList_append, List.take_left]
      exact horel.append hn.rel)
  exact ⟨_, _, _, hrun, h1, h2, .gsl _ _ _ _ _ h3 h4 hge⟩

theorem appendO_ok (hR : Rel P g w s) {t u ty : TypeId} {x y v : TV} {rx ry : Value} (hx : VRel g rx x) (hy : VRel g ry y) {s' : St} (h : appendO P s t u x y = some (v, s')) :
    ∃ rv w' g', (Builtin.append_ #[t, u] ty #[rx, ry]).run P w = .ok rv w' ∧ g.le g' ∧ Rel P g' w' s' ∧ VRel g' rv v := by
  unfold appendO at h
  split at h
  · rename_i elem ud ht hud
    split at h
    · cases h
    · rename_i hni
      have hu : noInt P u := by
        cases ud <;> first | exact .inl ⟨_, hud⟩ | exact .inr hud | exact absurd rfl hni
      split at h
      · rename_i ys hsrc
        split at h
        · cases h
        · rename_i hcond
          simp only [Bool.or_eq_true, Bool.not_eq_true', not_or, Bool.not_eq_true, Bool.not_eq_false, Bool.and_eq_true, decide_eq_true_eq] at hcond
          obtain ⟨hemp, ⟨⟨⟨hb0, hz0⟩, hhy⟩, hok⟩, hzi⟩ := hcond
          have hyne : ys ≠ [] := by intro e; subst e; simp at hemp
          have hylen : 0 < ys.length := List.length_pos_iff.2 hyne
          have hz : P.cellsOf elem ≠ 0 := by omega
          obtain ⟨news, hn⟩ := srcT_ok hR hz0 hy.ungsl hsrc hhy hok
          obtain ⟨i, rz, hi, hrz, hrzs⟩ : ∃ i rz, P.info? elem = some i ∧ i.zero = some rz ∧ rz.cells.size = P.cellsOf elem := by
            unfold zeroFits at hzi
            split at hzi
            · rename_i z hzz
              simp only [Bool.and_eq_true, beq_iff_eq, Bool.not_eq_true'] at hzi
              obtain ⟨i, rz, h1, h2, _, h4⟩ := zero_cells hzz g (by intro e; subst e; simp [isJunk] at hzi)
              exact ⟨i, rz, h1, h2, by rw [← hzi.1, ← h4.length]; simp⟩
            · cases hzi
          have hnl : news.length = ys.length * P.cellsOf elem := by rw [hn.rel.length, flat_length hn.size]
          have hone : ∀ v ∈ news, v.oneCell' = true := hn.rel.oneCell (slot_cells hok)
          split at h
          · rename_i b es
            split at h
            · rename_i hc
              simp only [Bool.and_eq_true, decide_eq_true_eq] at hc
              obtain ⟨⟨hb, hhe⟩, hoke⟩ := hc
              cases h
              cases hx with
              | nils _ _ => exact growO_ok hR ht hu hi hrz hrzs hz0 (n := 0) (cs := []) (olds := []) (by simp [Builtin.firstCells]) hn hyne .nil (by simp) (by simpa using hylen) (by simpa using hb) hb0
              | empty a cap _ _ hex =>
                have := hex rfl
                subst this
                exact growO_ok hR ht hu hi hrz hrzs hz0 (n := 0) (cs := []) (olds := []) (by simp [Builtin.firstCells, loadCells, loadCellsFrom]) hn hyne .nil (by simp) (by simpa using hylen) (by simpa using hb) hb0
              | slice bl off n cap size vs _ _ hne hn' hcap hs0 hse hsol hrel htok =>
                have hsz : size = P.cellsOf elem := by
                  cases es with
                  | nil => exact absurd rfl hne
                  | cons e _ => have := hse e List.mem_cons_self; simp [headOk] at hhe; omega
                subst hsz
                subst hn'
                have hcn : cap = es.length := htok
                have hvl : vs.length = es.length * P.cellsOf elem := by rw [hrel.length, flat_length hse]
                have hf := first_cells (P := P) (w := w) (w1 := w.drew) rfl (b := bl) (off := off) (len := es.length) (cap := cap) (size := P.cellsOf elem) (m := es.length) (vs := vs) (by omega) (fun i v hv => hR.sol _ _ _ (hsol i v hv))
                rw [List.take_of_length_le (by omega)] at hf
                exact growO_ok hR ht hu hi hrz hrzs hz0 hf hn hyne hrel hvl (by omega) hb hb0
            · cases h
          · rename_i o len
            split at h
            · rename_i cs e hoc
              split at h
              · rename_i hc
                simp only [Bool.and_eq_true, decide_eq_true_eq, beq_iff_eq] at hc
                obtain ⟨⟨⟨hb, rfl⟩, hcl⟩, hl0⟩ := hc
                cases h
                cases hx with
                | gsl _ bl _ cap e1 hφ hrc hlc =>
                  have hget : s.objs.get o = some (.cells cs e) := by
                    unfold objCells at hoc
                    split at hoc
                    · rename_i cs' t' hq
                      cases hoc
                      exact hq
                    · cases hoc
                  have hcs0 : 0 < cs.length := by rw [hcl]; exact Nat.mul_pos hl0 hz0
                  have hne : ¬ Empty s o := fun ⟨t', ht'⟩ => by
                    rw [hget] at ht'
                    cases ht'
                    simp at hcs0
                  obtain ⟨ob, q1, q2⟩ := hR.obj o bl hφ
                  rw [hget] at q1
                  cases q1
                  obtain ⟨cur, q3, q4⟩ := q2
                  obtain ⟨cur', q5, q6⟩ := hR.rows o bl cap e1 hφ hrc
                  rw [q3] at q5
                  cases q5
                  have hpl : (cur.toList.take cs.length).length = len * P.cellsOf e := by rw [q4.length, hcl]
                  have hK := hR.kill hget
                  have hn' : Src P g w (P.cellsOf e) ry ys news := hn
                  have hf := first_cells (P := P) (w := w) (w1 := w.drew) rfl (b := bl) (off := 0) (len := len) (cap := cap) (size := P.cellsOf e) (m := len) (vs := cur.toList.take cs.length) (by omega) (fun i v hv => by
                    rw [Nat.zero_add, cell_of_row w bl i cur e (0, 0) q3]
                    rw [List.getElem?_take] at hv
                    split at hv
                    · simpa using hv
                    · cases hv)
                  rw [List.take_of_length_le (by omega)] at hf
                  by_cases hroom : len + ys.length ≤ cap
                  · have hmul : (len + ys.length) * P.cellsOf e ≤ cap * P.cellsOf e := Nat.mul_le_mul_right _ hroom
                    rw [Nat.add_mul] at hmul
                    have hrun := app_room (ty := ty) ht hu hz (n := len) (cap := cap) q3 hn hnl hroom (by omega) hone
                    have hem : ∀ p, g.φ p = some bl → Empty (killed s o e) p := fun p hp => by
                      by_cases hpo : p = o
                      · exact ⟨e, by rw [get_killed, if_pos hpo]⟩
                      · refine empty_killed (Classical.byContradiction fun k => hpo (hR.inj _ _ _ hp hφ k hne))
                    have hcsz : (cur.toList.take (len * P.cellsOf e) ++ news ++ cur.toList.drop (len * P.cellsOf e + news.length)).toArray.size = cur.size := by
                      simp only [List.size_toArray, List.length_append, List.length_take, List.length_drop, Array.length_toList]
                      omega
                    obtain ⟨h1, h2, h3, h4⟩ := hK.addRow (w' := w.setRow bl (cur.toList.take (len * P.cellsOf e) ++ news ++ cur.toList.drop (len * P.cellsOf e + news.length)).toArray) (b := bl) (cap := cap) (e := e) (cs := cs ++ ys.flatMap TV.cells)
                      (fun k hk _ => heap_setRow_ne w bl _ k hk) (hR.ids o bl hφ).2 rfl rfl rfl (by rw [size_setRow]; exact Nat.le_refl _) hem (fun i => hR.nosol o bl i hφ hne) (fun i c hi hl => hR.apart i o bl c hi hl hφ) (setRow_heap w bl cur _ e (0, 0) q3) (by rw [hcsz, q6])
                      (fun p hp => ⟨cur, q3, hcsz.symm⟩) (by
                        have hl2 : (cs ++ ys.flatMap TV.cells).length = (cur.toList.take (len * P.cellsOf e) ++ news).length := by
                          rw [List.length_append, List.length_append, hn.rel.length, ← hcl, q4.length]
                        rw [hl2, List.take_left, ← hcl]
                        exact q4.append hn.rel)
                    exact ⟨_, _, _, hrun, h1, h2, .gsl _ _ _ _ _ h3 h4 hroom⟩
                  · have := growO_ok (s := killed s o e) (ty := ty) hK ht hu hi hrz hrzs hz0 hf hn hyne q4 hpl (by omega) hb hb0
                    exact this
              · cases h
            · cases h
          · cases h
      · cases h
  · cases h

theorem OpSim.appendO {dst : Option Tmp} {ty : TypeId} {pos : String} {after : Array Edge} {guard : Option (Nat × Bool)} {x y : Operand} {t u : TypeId} {e : Env} {v : TV} {s' : St}
    (h : TV.appendO P s t u (ev e x) (ev e y) = some (v, s')) : OpSim P ⟨dst, .call ⟨.builtin .append, #[x, y], #[t, u]⟩, ty, pos, after, guard⟩ e s v s' := by
  intro g w a hR hE next Q hn
  obtain ⟨rv, w', g', h1, h2, h3, h4⟩ := appendO_ok (ty := ty) hR (hE x (by simp [Op.operands, Call.operands])) (hE y (by simp [Op.operands, Call.operands])) h
  unfold Oper.wp
  have hrun : (execOp a.eval ⟨dst, .call ⟨.builtin .append, #[x, y], #[t, u]⟩, ty, pos, after, guard⟩).run P w = .ok (.value rv) w' := by
    simp [execOp, resolve, invoke, builtin, h1]
  rw [hrun]
  exact hn rv w' g' h2 h3 h4
theorem DoS.appO {ops : Array Oper} {l : List Oper} {dst : Option Tmp} {ty : TypeId} {pos : String} {after : Array Edge} {guard : Option (Nat × Bool)} {x y : Operand} {t u : TypeId} {e : Env} {v : TV} {s' : St} {Q : Env → St → Prop}
    (hw : wantedT ops.toList e ⟨dst, .call ⟨.builtin .append, #[x, y], #[t, u]⟩, ty, pos, after, guard⟩ = some true) (h : TV.appendO P s t u (ev e x) (ev e y) = some (v, s')) (hk : DoS P ops l (putE dst v e) s' Q) :
    DoS P ops (⟨dst, .call ⟨.builtin .append, #[x, y], #[t, u]⟩, ty, pos, after, guard⟩ :: l) e s Q := .op hw (.appendO h) hk

/-! ### A slice that is built, and may be written and grow -/
def buildO (P : Program) (s : St) (t : TypeId) (len : Nat) (parts : List (Nat × TV)) : Option (TV × St) := match P.underlying t, buildSliceT P t len parts with
  | some (.slice elem), some (.slice false es _) => some (.gsl s.n len, mkObj s (.cells (es.flatMap TV.cells) elem))
  | _, _ => none
theorem OpSim.buildO {dst : Option Tmp} {ty : TypeId} {pos : String} {after : Array Edge} {guard : Option (Nat × Bool)} {t : TypeId} {len : Nat} {parts : Array (Nat × Operand)} {e : Env} {v : TV} {s' : St}
    (h : TV.buildO P s t len (parts.toList.map fun p => (p.1, ev e p.2)) = some (v, s')) : OpSim P ⟨dst, .buildSlice t len parts, ty, pos, after, guard⟩ e s v s' := by
  intro g w a hR hE next Q hn
  have hpm : ∀ l : List (Nat × Operand), (∀ p ∈ l, VRel g (a.eval p.2) (ev e p.2)) → PartRel g (l.map fun p => (p.1, a.eval p.2)) (l.map fun p => (p.1, ev e p.2)) := by
    intro l
    induction l with
    | nil => intro _; exact .nil
    | cons p l ih =>
      intro hp
      exact .cons _ _ _ _ _ (hp p (by simp)) (ih fun q hq => hp q (by simp [hq]))
  unfold TV.buildO at h
  split at h
  · rename_i elem es tok hu hb
    cases h
    obtain ⟨elem', es', cells', e1, e2, e3, e4, e5, e6, hrun⟩ := buildSliceT_run (g := g) (parts := parts.map fun p => (p.1, a.eval p.2)) hR (by
      rw [Array.toList_map]
      exact hpm _ fun p hp => hE p.2 (by
        simp only [Op.operands]
        exact List.mem_toArray.2 (List.mem_map.2 ⟨p, hp, rfl⟩))) hb
    rw [hu] at e1
    cases e1
    cases e2
    have hsz : cells'.size = len * P.cellsOf elem := by
      rw [← Array.length_toList, e6.length, flat_length e5, e3]
    obtain ⟨h1, h2, h3, h4⟩ := hR.addRow (w' := w.alloc (.cells cells' elem)) (b := w.heap.size) (cap := len) (e := elem) (cs := es.flatMap TV.cells)
      (fun k hk hlt => Below.heap_alloc w _ k hlt) hR.bsize rfl rfl rfl (by show w.heap.size ≤ (w.heap.push _).size; simp) (fun p hp => absurd (hR.obj_lt hp) (by omega)) (fun i => by
        cases hq : g.sol w.heap.size i with
        | none => rfl
        | some v => exact absurd (hR.sol_lt hq) (by omega)) (fun i c hi hl => by
        obtain ⟨b1, c1, e1, xs, q1, q2, q3⟩ := hR.toks i hi
        rw [q1] at hl
        cases hl
        exact absurd q3.lt.2 (by omega)) (heap_alloc_new w _) hsz (fun p hp => absurd (hR.obj_lt hp) (by omega)) (by
        rw [List.take_of_length_le (by rw [← e6.length]; exact Nat.le_refl _)]
        exact e6)
    unfold Oper.wp
    have hrun : (execOp a.eval ⟨dst, .buildSlice t len parts, ty, pos, after, guard⟩).run P w = .ok (.value (.slice (some ⟨w.heap.size, 0, none⟩) len len)) (w.alloc (.cells cells' elem)) := by
      simp [execOp, resolve, hrun]
    rw [hrun]
    exact hn _ _ _ h1 h2 (.gsl _ _ _ _ _ h3 h4 (Nat.le_refl _))
  · cases h

/-! ### What is told of names may be told more weakly -/
theorem VRels.weaken {e e' : List TV} {vs : List Value} (h : VRels g vs e) (hl : e'.length = e.length) (hw : ∀ (i : Nat) v t t', vs[i]? = some v → e[i]? = some t → e'[i]? = some t' → VRel g v t → VRel g v t') : VRels g vs e' := by
  refine VRels.of (by rw [h.length, hl]) fun i v t' h1 h2 => ?_
  have hi : i < e.length := by rw [← hl]; exact (List.getElem?_eq_some_iff.1 h2).1
  obtain ⟨v2, h3, h4⟩ := h.get (List.getElem?_eq_getElem hi)
  rw [h1] at h3
  cases h3
  exact hw i v _ t' h1 (List.getElem?_eq_getElem hi) h2 h4
theorem Do.ghost {c : Code} {e e' : Env} {s s' : St} {Q : Ex → Env → St → Prop} (hg : ∀ (g : G) (w : World) (a : Act), Rel P g w s → EnvRel g a e → ∃ g', g.le g' ∧ Rel P g' w s' ∧ EnvRel g' a e') (h : Do P c e' s' Q) : Do P c e s Q := by
  obtain ⟨x, e1, s1, h1, hq⟩ := h
  refine ⟨x, e1, s1, fun g w a hR hE Q' hQ => ?_, hq⟩
  obtain ⟨g', h2, h3, h4⟩ := hg g w a hR hE
  exact h1 g' w a h3 h4 Q' fun a' w' g'' hle hR' hE' hd => hQ a' w' g'' (h2.trans hle) hR' hE' hd
theorem Do.ungrow {c : Code} {e : Env} {d o n : Nat} {Q : Ex → Env → St → Prop} (hd : d < e.length) (hv : Env.at e d = .gsl o n) (h : Do P c (List.set e d (.osl o 0 n n)) s Q) : Do P c e s Q := by
  refine Do.ghost (fun g w a hR hE => ⟨g, .refl g, hR, VRels.weaken hE (by simp) fun i v t t' h1 h2 h3 h4 => ?_⟩) h
  rw [List.getElem?_set] at h3
  split at h3
  · rename_i hi
    subst hi
    cases h3
    have : t = .gsl o n := by
      have h5 : Env.at e d = t := by simp [Env.at_eq, List.getD, h2]
      rw [← h5, hv]
    subst this
    exact h4.ungrow
  · rw [h2] at h3
    cases h3
    exact h4

/-- A slice that is not written any more. -/
theorem Rel.freeze (h : Rel P g w s) {o : Nat} {cs : List TV} {t : TypeId} (hget : s.objs.get o = some (.cells cs t)) (hcs : cs ≠ []) {b : Nat} (hφ : g.φ o = some b) :
    ∃ g', g.le g' ∧ Rel P g' w (killed s o t) ∧ ∃ vs, SolAt g' b 0 vs ∧ VRels g' vs cs := by
  have hne : ¬ Empty s o := fun ⟨t', ht'⟩ => by
    rw [hget] at ht'
    cases ht'
    exact hcs rfl
  have hK := h.kill hget
  obtain ⟨ob, q1, q2⟩ := h.obj o b hφ
  rw [hget] at q1
  cases q1
  obtain ⟨cur, q3, q4⟩ := q2
  have hsol := fun i => h.nosol o b i hφ hne
  have hbase := (h.ids o b hφ).2
  have hem : ∀ p, g.φ p = some b → Empty (killed s o t) p := fun p hp => by
    by_cases hpo : p = o
    · exact ⟨t, by rw [get_killed, if_pos hpo]⟩
    · refine empty_killed (Classical.byContradiction fun k => hpo (h.inj _ _ _ hp hφ k hne))
  have hcell : ∀ i v, (cur.toList.take cs.length)[i]? = some v → w.cell? ⟨b, i, none⟩ = some v := fun i v hv => by
    rw [cell_of_row w b i cur t (0, 0) q3]
    rw [List.getElem?_take] at hv
    split at hv
    · simpa using hv
    · cases hv
  have hglob : ∀ (n i : Nat) (k : IntKind) (z : Int), (globC n)[i]? = some (k, z) → n < g.base ∧ (if n = b then (cur.toList.take cs.length)[i]? else g.sol n i) = some (.int k z) := fun n i k z e => by
    obtain ⟨h1, h2⟩ := g.hG n i k z e
    exact ⟨h1, by rw [if_neg (by omega)]; exact h2⟩
  have hle : g.le { g with sol := fun c i => if c = b then (cur.toList.take cs.length)[i]? else g.sol c i, hG := hglob } := by
    refine ⟨rfl, rfl, fun _ _ e => e, fun c i v e => ?_, Nat.le_refl _, fun _ _ => Nat.le_refl _, fun _ _ _ => rfl, fun c i v hc e => ?_, fun _ _ e => e⟩
    · simp only
      split
      · rename_i hcb; subst hcb; rw [hsol] at e; cases e
      · exact e
    · simp only at e
      rw [if_neg (by omega)] at e
      exact e
  refine ⟨_, hle, ⟨hK.below, hK.bsize, fun c i v e => ?_, hK.ids, hK.inj, fun p c i e n1 => ?_, hK.rows, hK.apart, hK.rcs, fun p c e => ?_, hK.nts, fun i hi => ?_, hK.tinj⟩, cur.toList.take cs.length, fun i v e => ?_, q4.mono hle⟩
  · simp only at e
    split at e
    · rename_i hcb; subst hcb; exact hcell i v e
    · exact hK.sol c i v e
  · simp only
    split
    · rename_i hcb; subst hcb; exact absurd (hem p e) n1
    · exact hK.nosol p c i e n1
  · obtain ⟨ob, h1, h2⟩ := hK.obj p c e
    exact ⟨ob, h1, h2.mono hle⟩
  · obtain ⟨c, c1, e1, xs, h1, h2, h3⟩ := hK.toks i hi
    refine ⟨c, c1, e1, xs, h1, h2, ⟨h3.own, h3.size, h3.tip, fun j => ?_⟩⟩
    simp only
    rw [if_neg (fun ec => by subst ec; exact hK.apart i o c c1 hi h1 hφ)]
    exact h3.sol j
  · simp [e]
/-- The elements of a row's first cells. -/
theorem Do.freeze {c : Code} {e : Env} {d o n : Nat} {cs r : List TV} {t : TypeId} {es : List TV} {Q : Ex → Env → St → Prop} (hd : d < e.length) (hv : Env.at e d = .gsl o n ∨ ∃ cap, Env.at e d = .osl o 0 n cap) (hget : s.objs.get o = some (.cells cs t))
    (hes : es.flatMap TV.cells ++ r = cs) (hn : es.length = n) (hne : es ≠ []) {size : Nat} (hs : 0 < size) (hsz : ∀ x ∈ es, x.cells.length = size) (h : Do P c (List.set e d (.slice false es .unk)) (killed s o t) Q) : Do P c e s Q := by
  have hn0 : n ≠ 0 := by rw [← hn]; exact fun e => hne (List.length_eq_zero_iff.1 e)
  have hcs : cs ≠ [] := fun e0 => by
    have h1 := flat_length hsz
    rw [e0] at hes
    rw [(List.append_eq_nil_iff.1 hes).1, hn] at h1
    have := Nat.mul_pos (Nat.pos_of_ne_zero hn0) hs
    simp at h1
    omega
  refine Do.ghost (fun g w a hR hE => ?_) h
  have hat : ∃ v, a.tmps.toList[d]? = some v ∧ VRel g v (Env.at e d) := by
    obtain ⟨v, h1, h2⟩ := VRels.get hE (List.getElem?_eq_getElem hd)
    exact ⟨v, h1, by simpa [Env.at_eq, List.getD, hd] using h2⟩
  obtain ⟨v, hv1, hv2⟩ := hat
  have hb : ∃ b cap, g.φ o = some b ∧ v = .slice (some ⟨b, 0, none⟩) n cap ∧ n ≤ cap := by
    rcases hv with hv | ⟨cap, hv⟩
    · rw [hv] at hv2
      cases hv2 with
      | gsl _ b _ cap e h1 h2 h3 => exact ⟨b, cap, h1, rfl, h3⟩
    · rw [hv] at hv2
      cases hv2 with
      | osl a' _ _ _ _ cap' h1 h2 h3 =>
        obtain ⟨b, h4, rfl⟩ := h1 (by omega)
        exact ⟨b, cap', h4, rfl, by omega⟩
  obtain ⟨b, cap, hφ, rfl, hcap⟩ := hb
  obtain ⟨g', h1, h2, vs, h3, h4⟩ := hR.freeze hget hcs hφ
  refine ⟨g', h1, h2, VRels.weaken (VRels.mono h1 hE) (by simp) fun i u x x' e1 e2 e3 r => ?_⟩
  rw [List.getElem?_set] at e3
  split at e3
  · rename_i hi
    subst hi
    cases e3
    rw [hv1] at e1
    cases e1
    have h5 := h4.take (es.flatMap TV.cells).length
    rw [← hes, List.take_left] at h5
    exact .slice b 0 n cap size (vs.take (es.flatMap TV.cells).length) es .unk hne hn hcap hs hsz (h3.take _) h5 trivial
  · rw [e2] at e3
    cases e3
    exact r
end
end Go.Proofs.YthnhbejjikgifaaGreatDoor.TV
