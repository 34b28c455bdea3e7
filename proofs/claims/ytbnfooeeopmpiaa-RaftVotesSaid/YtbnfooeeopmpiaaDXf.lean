/-
  DX: how shapes stand to plain values.
  DX: what is read of shapes is what is read of plain values.
  DX: what is read of shapes is what is read of plain values: the operations.
  DX: what is read of shapes is what is read of plain values: places, comparisons, numbers, texts.
-/
import Derived.Test.YtbnfooeeopmpiaaDXb
namespace Go.Proofs.Ytbnfooeeopmpiaa.TV
open Go Go.RowKit
set_option linter.unusedSimpArgs false
set_option linter.unusedVariables false

/-! ### Cases -/
namespace Tree
variable {α β : Type}
def Has : Tree α → α → Prop
  | .fail, _ => False
  | .leaf b, a => b = a
  | .ite b t e, a => (b = true ∧ t.Has a) ∨ (b = false ∧ e.Has a)
  | .opt x k, a => ∃ y, x = some y ∧ (k y).Has a
  | .two x k k', a => (∃ y, x = some (.inl y) ∧ (k y).Has a) ∨ ∃ y, x = some (.inr y) ∧ (k' y).Has a
theorem run_fail (f : α → Option β) : (Tree.fail : Tree α).run f = none := rfl
theorem run_leaf (a : α) (f : α → Option β) : (Tree.leaf a).run f = f a := rfl
theorem run_ite (b : Bool) (t e : Tree α) (f : α → Option β) : (Tree.ite b t e).run f = bif b then t.run f else e.run f := rfl
theorem run_opt {γ : Type} (x : Option γ) (k : γ → Tree α) (f : α → Option β) : (Tree.opt x k).run f = x.bind fun y => (k y).run f := rfl
theorem run_two {γ δ : Type} (x : Option (γ ⊕ δ)) (k : γ → Tree α) (k' : δ → Tree α) (f : α → Option β) : (Tree.two x k k').run f = TV.two x (fun y => (k y).run f) (fun y => (k' y).run f) := rfl
theorem bind_fail (f : α → Tree β) : (Tree.fail : Tree α).bind f = .fail := rfl
theorem bind_leaf (a : α) (f : α → Tree β) : (Tree.leaf a).bind f = f a := rfl
theorem bind_ite (b : Bool) (t e : Tree α) (f : α → Tree β) : (Tree.ite b t e).bind f = .ite b (t.bind f) (e.bind f) := rfl
theorem bind_opt {γ : Type} (x : Option γ) (k : γ → Tree α) (f : α → Tree β) : (Tree.opt x k).bind f = .opt x fun y => (k y).bind f := rfl
theorem bind_two {γ δ : Type} (x : Option (γ ⊕ δ)) (k : γ → Tree α) (k' : δ → Tree α) (f : α → Tree β) : (Tree.two x k k').bind f = .two x (fun y => (k y).bind f) (fun y => (k' y).bind f) := rfl
theorem run_has : ∀ (t : Tree α) (f : α → Option β) (r : β), t.run f = some r ↔ ∃ a, t.Has a ∧ f a = some r
  | .fail, f, r => by simp [run_fail, run_leaf, run_ite, Has]
  | .leaf a, f, r => by simp [run_fail, run_leaf, run_ite, Has]
  | .ite b t e, f, r => by cases b <;> simp [run_fail, run_leaf, run_ite, Has, run_has t, run_has e]
  | .opt x k, f, r => by
    simp only [run_opt, run_two, Has]
    constructor
    · intro h
      obtain ⟨y, h1, h2⟩ := Option.bind_eq_some_iff.1 h
      obtain ⟨a, h3, h4⟩ := (run_has (k y) f r).1 h2
      exact ⟨a, ⟨y, h1, h3⟩, h4⟩
    · rintro ⟨a, ⟨y, h1, h2⟩, h3⟩
      rw [h1]
      exact (run_has (k y) f r).2 ⟨a, h2, h3⟩
  | .two x k k', f, r => by
    simp only [run_opt, run_two, Has]
    cases x with
    | none => simp [TV.two]
    | some y => cases y with
      | inl b => simp [TV.two, run_has (k b) f r]
      | inr b => simp [TV.two, run_has (k' b) f r]
theorem has_bind : ∀ (t : Tree α) (f : α → Tree β) (b : β), (t.bind f).Has b ↔ ∃ a, t.Has a ∧ (f a).Has b
  | .fail, f, r => by simp [bind_fail, bind_leaf, bind_ite, Has]
  | .leaf a, f, r => by simp [bind_fail, bind_leaf, bind_ite, Has]
  | .ite b t e, f, r => by cases b <;> simp [bind_fail, bind_leaf, bind_ite, Has, has_bind t, has_bind e]
  | .opt x k, f, r => by
    simp only [bind_opt, bind_two, Has]
    constructor
    · rintro ⟨y, h1, h2⟩
      obtain ⟨a, h3, h4⟩ := (has_bind (k y) f r).1 h2
      exact ⟨a, ⟨y, h1, h3⟩, h4⟩
    · rintro ⟨a, ⟨y, h1, h2⟩, h3⟩
      exact ⟨y, h1, (has_bind (k y) f r).2 ⟨a, h2, h3⟩⟩
  | .two x k k', f, r => by
    simp only [bind_opt, bind_two, Has]
    cases x with
    | none => simp
    | some y => cases y with
      | inl b => simp [has_bind (k b) f r]
      | inr b => simp [has_bind (k' b) f r]
theorem has_ofOpt {x : Option α} {a : α} : (ofOpt x).Has a ↔ x = some a := by
  cases x <;> simp [ofOpt, Has]
end Tree

/-! ### Laying open changes nothing -/
section
universe u
variable {ρ : Sort u}
@[simp] theorem forceN_eq (n : Nat) (k : Nat → ρ) : forceN n k = k n := by cases n <;> rfl
@[simp] theorem forceL_eq {α : Type} : ∀ (l : List α) (k : List α → ρ), forceL l k = k l
  | [], k => rfl
  | x :: l, k => (forceL_eq l fun l => k (x :: l) :)
@[simp] theorem forceU_eq (v : UV) (k : UV → ρ) : forceU v k = k v := by
  cases v with
  | ptr o off =>
    show forceN o (fun o => forceN off fun off => k (.ptr o off)) = _
    simp
  | eptr cs => exact forceL_eq cs fun cs => k (.eptr cs)
  | agg cs => exact forceL_eq cs fun cs => k (.agg cs)
  | tup cs => exact forceL_eq cs fun cs => k (.tup cs)
  | lslice b es tok => exact forceL_eq es fun es => k (.lslice b es tok)
  | _ => rfl
@[simp] theorem forceE_eq : ∀ (l : List UV) (k : List UV → ρ), forceE l k = k l
  | [], k => rfl
  | x :: l, k => by
    show forceU x (fun x => forceE l fun l => k (x :: l)) = _
    rw [forceU_eq, forceE_eq l]
@[simp] theorem forceR_eq : ∀ (l : List Row) (k : List Row → ρ), forceR l k = k l
  | [], k => rfl
  | ⟨cs, ty, fz⟩ :: l, k => by
    show forceE cs (fun cs => forceL fz fun fz => forceR l fun l => k (⟨cs, ty, fz⟩ :: l)) = _
    rw [forceE_eq, forceL_eq, forceR_eq l]
@[simp] theorem forceH_eq (h : UHeap) (k : UHeap → ρ) : forceH h k = k h := by
  obtain ⟨a, b⟩ := h
  simp [forceH]
@[simp] theorem setKU_eq : ∀ (l : List UV) (n : Nat) (v : UV) (k : List UV → ρ), setKU l n v k = k (l.set n v)
  | [], n, v, k => by
    show k [] = _
    simp
  | x :: l, 0, v, k => by
    show forceU v (fun v => k (v :: l)) = _
    rw [forceU_eq]
    rfl
  | x :: l, n + 1, v, k => by
    show setKU l n v (fun l => k (x :: l)) = _
    rw [setKU_eq l]
    rfl
end
@[simp] theorem openU_eq {ρ : Type 1} (rd : Bool) (r : UV × UHeap × List Nat) (k : UV → UHeap → List Nat → ρ) : openU rd r k = k r.1 r.2.1 r.2.2 := by
  obtain ⟨v, h, w⟩ := r
  cases rd <;> simp [openU]
@[simp] theorem goU_eq {ρ : Type 1} (p : Bool) (r : UEnv × UHeap) (k : UEnv → UHeap → ρ) : goU p r k = k r.1 r.2 := by
  obtain ⟨e, h⟩ := r
  cases p <;> simp [goU]
@[simp] theorem putKU_eq {ρ : Type 1} (dst : Option Tmp) (v : UV) (e : UEnv) (k : UEnv → ρ) : putKU dst v e k = k (putU dst v e) := by
  cases dst <;> simp [putKU, putU]

/-! ### The relation -/
def All2 {α β : Type} (R : α → β → Prop) : List α → List β → Prop
  | [], [] => True
  | a :: l, b :: m => R a b ∧ All2 R l m
  | _, _ => False
namespace All2
variable {α β : Type} {R : α → β → Prop}
theorem length : ∀ {l : List α} {m : List β}, All2 R l m → l.length = m.length
  | [], [], _ => rfl
  | a :: l, b :: m, h => by simp [length h.2]
  | [], _ :: _, h => h.elim
  | _ :: _, [], h => h.elim
theorem append : ∀ {l l' : List α} {m m' : List β}, All2 R l m → All2 R l' m' → All2 R (l ++ l') (m ++ m')
  | [], l', [], m', _, h => h
  | a :: l, l', b :: m, m', h, h' => ⟨h.1, append h.2 h'⟩
  | [], _, _ :: _, _, h, _ => h.elim
  | _ :: _, _, [], _, h, _ => h.elim
theorem take : ∀ (n : Nat) {l : List α} {m : List β}, All2 R l m → All2 R (l.take n) (m.take n)
  | 0, _, _, _ => by simp [All2]
  | n + 1, [], [], _ => by simp [All2]
  | n + 1, a :: l, b :: m, h => ⟨h.1, take n h.2⟩
  | _ + 1, [], _ :: _, h => h.elim
  | _ + 1, _ :: _, [], h => h.elim
theorem drop : ∀ (n : Nat) {l : List α} {m : List β}, All2 R l m → All2 R (l.drop n) (m.drop n)
  | 0, _, _, h => h
  | n + 1, [], [], _ => by simp [All2]
  | n + 1, a :: l, b :: m, h => drop n h.2
  | _ + 1, [], _ :: _, h => h.elim
  | _ + 1, _ :: _, [], h => h.elim
theorem get : ∀ {l : List α} {m : List β} {n : Nat} {a : α}, All2 R l m → l[n]? = some a → ∃ b, m[n]? = some b ∧ R a b
  | [], [], n, a, _, h => by simp at h
  | x :: l, y :: m, 0, a, h, e => by simp at e; subst e; exact ⟨y, by simp, h.1⟩
  | x :: l, y :: m, n + 1, a, h, e => by
    obtain ⟨b, h1, h2⟩ := get h.2 (by simpa using e)
    exact ⟨b, by simpa using h1, h2⟩
  | [], _ :: _, _, _, h, _ => h.elim
  | _ :: _, [], _, _, h, _ => h.elim
theorem mem {l : List α} {m : List β} {b : β} (h : All2 R l m) (hb : b ∈ m) : ∃ a, R a b := by
  induction l generalizing m with
  | nil => cases m with
    | nil => cases hb
    | cons _ _ => exact h.elim
  | cons x l ih => cases m with
    | nil => exact h.elim
    | cons y m =>
      rcases List.mem_cons.1 hb with rfl | hb
      · exact ⟨x, h.1⟩
      · exact ih h.2 hb
theorem map {γ : Type} {f : γ → α} {g : γ → β} : ∀ {l : List γ}, (∀ x ∈ l, R (f x) (g x)) → All2 R (l.map f) (l.map g)
  | [], _ => trivial
  | x :: l, h => ⟨h x (by simp), map fun y hy => h y (by simp [hy])⟩
end All2

def isAggV : TV → Bool
  | .agg _ => true
  | _ => false
def CellsR : (t : Ty) → t.den → List TV → Prop
  | .int k, n, cs => cs = [.int k n]
  | .bool, b, cs => cs = [.bool b]
  | .str, s, cs => cs = [.str s]
  | .slice t, l, cs => ∃ b es tok, cs = [.slice b es tok] ∧ All2 (fun x e => isAggV e = t.isAgg ∧ CellsR t x e.cells) l es
  | .nil, _, cs => cs = []
  | .cons a b, x, cs => ∃ c1 c2, cs = c1 ++ c2 ∧ CellsR a x.1 c1 ∧ CellsR b x.2 c2
def ElR (t : Ty) (x : t.den) (e : TV) : Prop := isAggV e = t.isAgg ∧ CellsR t x e.cells

theorem CellsR.length : ∀ {t : Ty} {x : t.den} {cs : List TV}, CellsR t x cs → cs.length = t.size
  | .int k, n, cs, h => by rw [show cs = _ from h]; rfl
  | .bool, b, cs, h => by rw [show cs = _ from h]; rfl
  | .str, s, cs, h => by rw [show cs = _ from h]; rfl
  | .slice t, l, cs, h => by obtain ⟨b, es, tok, rfl, _⟩ := h; rfl
  | .nil, _, cs, h => by rw [show cs = _ from h]; rfl
  | .cons a b, x, cs, h => by
    obtain ⟨c1, c2, rfl, h1, h2⟩ := h
    simp [Ty.size, CellsR.length h1, CellsR.length h2]
theorem CellsR.fine : ∀ {t : Ty} {x : t.den} {cs : List TV}, CellsR t x cs → cs.all cellOk = true
  | .int k, n, cs, h => by rw [show cs = _ from h]; rfl
  | .bool, b, cs, h => by rw [show cs = _ from h]; rfl
  | .str, s, cs, h => by rw [show cs = _ from h]; rfl
  | .slice t, l, cs, h => by obtain ⟨b, es, tok, rfl, _⟩ := h; rfl
  | .nil, _, cs, h => by rw [show cs = _ from h]; rfl
  | .cons a b, x, cs, h => by
    obtain ⟨c1, c2, rfl, h1, h2⟩ := h
    simp [List.all_append, CellsR.fine h1, CellsR.fine h2]

/-- Which object stands for a row, which token and how many elements for a slice that may grow. -/
structure Val where
  ids : List Nat
  tks : List (Tok × Nat)
def TokR (V : Val) : UTok → Nat → Tok → Prop
  | .no, _, _ => True
  | .ex, _, t => t = .exact
  | .gr j, n, t => V.tks[j]? = some (t, n) ∧ t ≠ .unk

mutual
inductive URel (V : Val) : UV → TV → Prop where
  | junk (v : TV) : URel V .junk v
  | bool (b : Bool) : URel V (.bool b) (.bool b)
  | int (k : IntKind) (n : Int) : URel V (.int k n) (.int k n)
  | str (s : List UInt8) : URel V (.str s) (.str s)
  | nilp : URel V .nilp .nilp
  | ptr (k off o : Nat) : V.ids[k]? = some o → URel V (.ptr k off) (.ptr o off)
  | eptr (us : List UV) (vs : List TV) : URels V us vs → URel V (.eptr us) (.eptr vs)
  | slice (t : Ty) (b : Option Bool) (b' : Bool) (l : List t.den) (es : List TV) (tok : UTok) (tok' : Tok) : (∀ x, b = some x → b' = x) → All2 (ElR t) l es → TokR V tok l.length tok' → URel V (.slice t b l tok) (.slice b' es tok')
  | lslice (b : Bool) (us : List UV) (es : List TV) (tok : UTok) (tok' : Tok) : URels V us es → TokR V tok us.length tok' → URel V (.lslice b us tok) (.slice b es tok')
  | fn (f : Fn) (a c : List UV) (a' c' : List TV) : URels V a a' → URels V c c' → URel V (.fn f a c) (.fn f a' c')
  | nilfn : URel V .nilfn .nilfn
  | niliface : URel V .niliface .niliface
  | iface (t : TypeId) (u : UV) (v : TV) : URel V u v → URel V (.iface t u) (.iface t v)
  | agg (us : List UV) (vs : List TV) : URels V us vs → URel V (.agg us) (.agg vs)
  | tup (us : List UV) (vs : List TV) : URels V us vs → URel V (.tup us) (.tup vs)
inductive URels (V : Val) : List UV → List TV → Prop where
  | nil : URels V [] []
  | cons (u : UV) (v : TV) (us : List UV) (vs : List TV) : URel V u v → URels V us vs → URels V (u :: us) (v :: vs)
end

structure Val.le (V V' : Val) : Prop where
  ids : V.ids <+: V'.ids
  tks : V.tks <+: V'.tks
theorem Val.le.refl (V : Val) : V.le V := ⟨List.prefix_rfl, List.prefix_rfl⟩
theorem Val.le.trans {a b c : Val} (h : a.le b) (k : b.le c) : a.le c := ⟨h.ids.trans k.ids, h.tks.trans k.tks⟩
theorem prefix_get {α : Type} {l m : List α} (h : l <+: m) {n : Nat} {a : α} (e : l[n]? = some a) : m[n]? = some a := by
  obtain ⟨t, rfl⟩ := h
  have hlt := (List.getElem?_eq_some_iff.1 e).1
  rw [List.getElem?_append_left hlt]
  exact e
theorem TokR.mono {V V' : Val} (h : V.le V') : ∀ {tok : UTok} {n : Nat} {t : Tok}, TokR V tok n t → TokR V' tok n t
  | .no, _, _, k => k
  | .ex, _, _, k => k
  | .gr j, _, _, k => ⟨prefix_get h.tks k.1, k.2⟩
mutual
theorem URel.mono {V V' : Val} (h : V.le V') : ∀ {u : UV} {v : TV}, URel V u v → URel V' u v
  | _, _, .junk v => .junk v
  | _, _, .bool b => .bool b
  | _, _, .int k n => .int k n
  | _, _, .str s => .str s
  | _, _, .nilp => .nilp
  | _, _, .ptr k off o e => .ptr k off o (prefix_get h.ids e)
  | _, _, .eptr us vs r => .eptr us vs (URels.mono h r)
  | _, _, .slice t b b' l es tok tok' h1 h2 h3 => .slice t b b' l es tok tok' h1 h2 (h3.mono h)
  | _, _, .lslice b us es tok tok' h1 h2 => .lslice b us es tok tok' (URels.mono h h1) (h2.mono h)
  | _, _, .fn f a c a' c' h1 h2 => .fn f a c a' c' (URels.mono h h1) (URels.mono h h2)
  | _, _, .nilfn => .nilfn
  | _, _, .niliface => .niliface
  | _, _, .iface t u v r => .iface t u v (URel.mono h r)
  | _, _, .agg us vs r => .agg us vs (URels.mono h r)
  | _, _, .tup us vs r => .tup us vs (URels.mono h r)
theorem URels.mono {V V' : Val} (h : V.le V') : ∀ {us : List UV} {vs : List TV}, URels V us vs → URels V' us vs
  | _, _, .nil => .nil
  | _, _, .cons u v us vs r rs => .cons u v us vs (URel.mono h r) (URels.mono h rs)
end

theorem UEnv.at_eq : ∀ (e : UEnv) (t : Nat), e.at t = e.getD t .junk
  | [], t => rfl
  | x :: e, 0 => rfl
  | x :: e, t + 1 => by
    show UEnv.at e t = _
    rw [UEnv.at_eq e t]
    simp
namespace URels
variable {V : Val}
theorem length {us : List UV} {vs : List TV} (h : URels V us vs) : us.length = vs.length := by
  induction us generalizing vs with
  | nil => cases h; rfl
  | cons u us ih => cases h with | cons _ _ _ _ r rs => simp [ih rs]
theorem append {us us' : List UV} {vs vs' : List TV} (h : URels V us vs) (h' : URels V us' vs') : URels V (us ++ us') (vs ++ vs') := by
  induction us generalizing vs with
  | nil => cases h; exact h'
  | cons u us ih => cases h with | cons _ _ _ _ r rs => exact .cons _ _ _ _ r (ih rs)
theorem take {us : List UV} {vs : List TV} (n : Nat) (h : URels V us vs) : URels V (us.take n) (vs.take n) := by
  induction n generalizing us vs with
  | zero => simp only [List.take_zero]; exact .nil
  | succ n ih => cases h with
    | nil => exact .nil
    | cons _ _ _ _ r rs => exact .cons _ _ _ _ r (ih rs)
theorem drop {us : List UV} {vs : List TV} (n : Nat) (h : URels V us vs) : URels V (us.drop n) (vs.drop n) := by
  induction n generalizing us vs with
  | zero => exact h
  | succ n ih => cases h with
    | nil => exact .nil
    | cons _ _ _ _ r rs => exact ih rs
theorem get {us : List UV} {vs : List TV} {n : Nat} {u : UV} (h : URels V us vs) (e : us[n]? = some u) : ∃ v, vs[n]? = some v ∧ URel V u v := by
  induction us generalizing vs n with
  | nil => simp at e
  | cons x us ih => cases h with
    | cons _ y _ vs r rs => cases n with
      | zero => simp at e; subst e; exact ⟨y, by simp, r⟩
      | succ n =>
        obtain ⟨v, h1, h2⟩ := ih rs (by simpa using e)
        exact ⟨v, by simpa using h1, h2⟩
theorem getD {us : List UV} {vs : List TV} (h : URels V us vs) (n : Nat) (d : TV) : URel V (us.getD n .junk) (vs.getD n d) := by
  cases e : us[n]? with
  | none => rw [List.getD_eq_getElem?_getD, e]; exact .junk _
  | some u =>
    obtain ⟨v, h1, h2⟩ := h.get e
    rw [List.getD_eq_getElem?_getD, List.getD_eq_getElem?_getD, e, h1]
    exact h2
theorem at_ {us : List UV} {vs : List TV} (h : URels V us vs) (n : Nat) : URel V (UEnv.at us n) (Env.at vs n) := by
  rw [UEnv.at_eq]
  exact h.getD n _
theorem set {us : List UV} {vs : List TV} (h : URels V us vs) (n : Nat) {u : UV} {v : TV} (r : URel V u v) : URels V (us.set n u) (vs.set n v) := by
  induction us generalizing vs n with
  | nil => cases h; exact .nil
  | cons x us ih => cases h with
    | cons _ y _ vs r' rs => cases n with
      | zero => exact .cons _ _ _ _ r rs
      | succ n => exact .cons _ _ _ _ r' (ih rs n)
theorem head {us : List UV} {vs : List TV} {u : UV} (h : URels V us vs) (e : us.head? = some u) : ∃ v, vs.head? = some v ∧ URel V u v := by
  cases h with
  | nil => cases e
  | cons x y _ _ r rs => cases e; exact ⟨y, rfl, r⟩
theorem replicate {u : UV} {v : TV} (n : Nat) (r : URel V u v) : URels V (List.replicate n u) (List.replicate n v) := by
  induction n with
  | zero => exact .nil
  | succ n ih => exact .cons _ _ _ _ r ih
theorem map {α : Type} {f : α → UV} {g : α → TV} {l : List α} (h : ∀ x ∈ l, URel V (f x) (g x)) : URels V (l.map f) (l.map g) := by
  induction l with
  | nil => exact .nil
  | cons x l ih => exact .cons _ _ _ _ (h x (by simp)) (ih fun y hy => h y (by simp [hy]))
theorem allOk {us : List UV} {vs : List TV} (h : URels V us vs) (e : us.all cellOkU = true) : vs.all cellOk = true := by
  induction us generalizing vs with
  | nil => cases h; rfl
  | cons x us ih => cases h with
    | cons _ y _ vs r rs =>
      simp only [List.all_cons, Bool.and_eq_true] at e ⊢
      refine ⟨?_, ih rs e.2⟩
      cases r <;> first | rfl | exact absurd e.1 (by simp [cellOkU])
end URels
theorem URel.cells {V : Val} {u : UV} {v : TV} (r : URel V u v) (h : isJunkU u = false) : URels V u.cells v.cells := by
  cases r with
  | junk v => simp [isJunkU] at h
  | agg us vs rs => exact rs
  | bool b => exact .cons _ _ _ _ (.bool b) .nil
  | int k n => exact .cons _ _ _ _ (.int k n) .nil
  | str s => exact .cons _ _ _ _ (.str s) .nil
  | nilp => exact .cons _ _ _ _ .nilp .nil
  | ptr k off o e => exact .cons _ _ _ _ (.ptr k off o e) .nil
  | eptr us vs rs => exact .cons _ _ _ _ (.eptr us vs rs) .nil
  | slice t b b' l es tok tok' h1 h2 h3 => exact .cons _ _ _ _ (.slice t b b' l es tok tok' h1 h2 h3) .nil
  | lslice b us es tok tok' h1 h2 => exact .cons _ _ _ _ (.lslice b us es tok tok' h1 h2) .nil
  | fn f a c a' c' h1 h2 => exact .cons _ _ _ _ (.fn f a c a' c' h1 h2) .nil
  | nilfn => exact .cons _ _ _ _ .nilfn .nil
  | niliface => exact .cons _ _ _ _ .niliface .nil
  | iface t u v r => exact .cons _ _ _ _ (.iface t u v r) .nil
  | tup us vs rs => exact .cons _ _ _ _ (.tup us vs rs) .nil
theorem notJunk_of_ok {u : UV} (h : u.cells.all cellOkU = true) : isJunkU u = false := by
  cases u <;> first | rfl | simp [UV.cells, cellOkU] at h
theorem URel.notJunk {V : Val} {u : UV} {v : TV} (r : URel V u v) (h : isJunkU u = false) : isJunk v = false := by
  cases r <;> first | rfl | simp [isJunkU] at h

mutual
theorem constU_rel (V : Val) : ∀ v : Value, URel V (constU v) (ofConst v)
  | v => by
    unfold constU ofConst
    split <;> first
      | exact .bool _
      | exact .int _ _
      | exact .str _
      | exact .nilp
      | exact .lslice true [] [] .ex .exact .nil rfl
      | exact .nilfn
      | exact .niliface
      | exact .agg _ _ (constsU_rel V _)
      | exact .tup _ _ (constsU_rel V _)
      | exact .iface _ _ _ (constU_rel V _)
      | exact .junk _
theorem constsU_rel (V : Val) : ∀ l : List Value, URels V (constsU l) (ofConsts l)
  | [] => .nil
  | v :: l => .cons _ _ _ _ (constU_rel V v) (constsU_rel V l)
end
end Go.Proofs.Ytbnfooeeopmpiaa.TV

namespace Go.Proofs.Ytbnfooeeopmpiaa.TV
open Go Go.RowKit
set_option linter.unusedSimpArgs false
set_option linter.unusedVariables false

section
variable {V : Val}

/-! ### Elements -/
theorem cellsU_rel : ∀ {t : Ty} {x : t.den} {cs : List TV}, CellsR t x cs → URels V (cellsU t x) cs
  | .int k, n, cs, h => by rw [show cs = _ from h]; exact .cons _ _ _ _ (.int k n) .nil
  | .bool, b, cs, h => by rw [show cs = _ from h]; exact .cons _ _ _ _ (.bool b) .nil
  | .str, s, cs, h => by rw [show cs = _ from h]; exact .cons _ _ _ _ (.str s) .nil
  | .slice t, l, cs, h => by
    obtain ⟨b, es, tok, rfl, h1⟩ := h
    exact .cons _ _ _ _ (.slice t none b l es .no tok (fun x h => by cases h) h1 trivial) .nil
  | .nil, _, cs, h => by rw [show cs = _ from h]; exact .nil
  | .cons a b, x, cs, h => by
    obtain ⟨c1, c2, rfl, h1, h2⟩ := h
    exact (cellsU_rel h1).append (cellsU_rel h2)
theorem isAggV_cells {v : TV} (h : isAggV v = false) : v.cells = [v] := by cases v <;> first | rfl | simp [isAggV] at h
theorem isAggV_agg {v : TV} (h : isAggV v = true) : v = .agg v.cells := by cases v <;> first | rfl | simp [isAggV] at h
theorem elemU_rel {t : Ty} {x : t.den} {v : TV} (h : ElR t x v) : URel V (elemU t x) v := by
  obtain ⟨h1, h2⟩ := h
  have h3 := cellsU_rel (V := V) h2
  unfold elemU
  cases ha : t.isAgg with
  | true =>
    rw [ha] at h1
    rw [if_pos rfl, isAggV_agg h1]
    exact .agg _ _ h3
  | false =>
    rw [ha] at h1
    rw [if_neg (by simp)]
    rw [isAggV_cells h1] at h3
    cases h : cellsU t x with
    | nil => exact .junk _
    | cons u us => rw [h] at h3; cases h3 with | cons _ _ _ _ r _ => exact r
theorem castL_rel {t t' : Ty} (h : t' = t) {l : List t'.den} {es : List TV} (k : All2 (ElR t') l es) : All2 (ElR t) (castL h l) es := by
  subst h
  exact k
theorem castL_length {t t' : Ty} (h : t' = t) {l : List t'.den} : (castL h l).length = l.length := by
  subst h
  rfl
theorem decE_rel {t : Ty} (ih : ∀ {us : List UV} {vs : List TV} {x : t.den} {r : List UV}, decU t us = some (x, r) → URels V us vs → ∃ c1 c2, vs = c1 ++ c2 ∧ CellsR t x c1 ∧ URels V r c2)
    {u : UV} {v : TV} {x : t.den} (h : decE t.isAgg (decU t) u = some x) (r : URel V u v) : ElR t x v := by
  have key : ∀ us vs, decU t us = some (x, []) → URels V us vs → CellsR t x vs := by
    intro us vs h rs
    obtain ⟨c1, c2, rfl, h1, h2⟩ := ih h rs
    cases h2
    simpa using h1
  unfold decE at h
  split at h
  · split at h
    · rename_i ha
      cases r with
      | agg us vs rs =>
        split at h
        · rename_i e; cases h; exact ⟨by rw [ha]; rfl, key _ _ e rs⟩
        · cases h
    · cases h
  · rename_i hna
    split at h
    · cases h
    · rename_i ha
      have ha : t.isAgg = false := by simpa using ha
      have hc : CellsR t x [v] := by
        split at h
        · rename_i e; cases h; exact key _ _ e (URels.cons _ _ _ _ r .nil)
        · cases h
      have hv : isAggV v = false := by
        cases t with
        | int k => have := (show [v] = _ from hc); cases this; rfl
        | bool => have := (show [v] = _ from hc); cases this; rfl
        | str => have := (show [v] = _ from hc); cases this; rfl
        | slice t => obtain ⟨b, es, tok, h1, _⟩ := hc; cases h1; rfl
        | nil => cases ha
        | cons a b => cases ha
      exact ⟨by rw [hv, ha], by rw [isAggV_cells hv]; exact hc⟩
theorem decL_rel {α : Type} {R : α → TV → Prop} {f : UV → Option α} (hf : ∀ {u v x}, f u = some x → URel V u v → R x v) : ∀ {us : List UV} {vs : List TV} {l : List α}, decL f us = some l → URels V us vs → All2 R l vs
  | [], vs, l, h, r => by cases r; cases h; trivial
  | u :: us, vs, l, h, r => by
    cases r with
    | cons _ v _ vs r rs =>
      simp only [decL] at h
      split at h
      · rename_i x l' h1 h2
        cases h
        exact ⟨hf h1 r, decL_rel hf h2 rs⟩
      · cases h
theorem decU_rel : ∀ {t : Ty} {us : List UV} {vs : List TV} {x : t.den} {r : List UV}, decU t us = some (x, r) → URels V us vs → ∃ c1 c2, vs = c1 ++ c2 ∧ CellsR t x c1 ∧ URels V r c2 := by
  intro t
  induction t with
  | int k =>
    intro us vs x r h rs
    cases us with
    | nil => simp [decU] at h
    | cons u us => cases rs with
      | cons _ v _ vs r1 r2 =>
        cases u <;> try (simp [decU] at h; done)
        simp only [decU] at h
        split at h
        · rename_i e; cases h; cases r1; subst e; exact ⟨[_], _, rfl, rfl, r2⟩
        · cases h
  | bool =>
    intro us vs x r h rs
    cases us with
    | nil => simp [decU] at h
    | cons u us => cases rs with
      | cons _ v _ vs r1 r2 => cases u <;> simp [decU] at h; obtain ⟨rfl, rfl⟩ := h; cases r1; exact ⟨[_], _, rfl, rfl, r2⟩
  | str =>
    intro us vs x r h rs
    cases us with
    | nil => simp [decU] at h
    | cons u us => cases rs with
      | cons _ v _ vs r1 r2 => cases u <;> simp [decU] at h; obtain ⟨rfl, rfl⟩ := h; cases r1; exact ⟨[_], _, rfl, rfl, r2⟩
  | slice t ih =>
    intro us vs x r h rs
    cases us with
    | nil => simp [decU] at h
    | cons u us => cases rs with
      | cons _ v _ vs r1 r2 =>
        cases u <;> try (simp [decU] at h; done)
        · rename_i t' b l tok
          simp only [decU] at h
          split at h
          · rename_i e
            cases h
            cases r1 with
            | slice _ _ b' _ es _ tok' h1 h2 h3 => exact ⟨[_], _, rfl, ⟨b', es, tok', rfl, castL_rel e h2⟩, r2⟩
          · cases h
        · rename_i b es tok
          simp only [decU, Option.map_eq_some_iff] at h
          obtain ⟨l, h1, h2⟩ := h
          cases h2
          cases r1 with
          | lslice _ _ es' _ tok' h3 h4 => exact ⟨[_], _, rfl, ⟨b, es', tok', rfl, decL_rel (R := fun x e => isAggV e = t.isAgg ∧ CellsR t x e.cells) (fun h r => decE_rel ih h r) h1 h3⟩, r2⟩
  | nil =>
    intro us vs x r h rs
    have : decU .nil us = some ((), us) := by cases us <;> rfl
    rw [this] at h
    cases h
    exact ⟨[], vs, rfl, rfl, rs⟩
  | cons a b iha ihb =>
    intro us vs x r h rs
    have : decU (.cons a b) us = match decU a us with
      | some (x, r') => match decU b r' with
        | some (y, r'') => some ((x, y), r'')
        | none => none
      | none => none := by cases us <;> rfl
    rw [this] at h
    split at h
    · rename_i x1 r1 h1
      split at h
      · rename_i y1 r2 h2
        cases h
        obtain ⟨c1, c2, rfl, h3, h4⟩ := iha h1 rs
        obtain ⟨c3, c4, rfl, h5, h6⟩ := ihb h2 h4
        exact ⟨c1 ++ c3, c4, by rw [List.append_assoc], ⟨c1, c3, rfl, h3, h5⟩, h6⟩
      · cases h
    · cases h
theorem decV_rel {t : Ty} {u : UV} {v : TV} {x : t.den} (h : decV t u = some x) (r : URel V u v) : ElR t x v := decE_rel decU_rel h r
end
end Go.Proofs.Ytbnfooeeopmpiaa.TV

namespace Go.Proofs.Ytbnfooeeopmpiaa.TV
open Go Go.RowKit
set_option linter.unusedSimpArgs false
set_option linter.unusedVariables false

section
variable {P : Program} {V : Val} {s : St}

theorem take_rel {t : TypeId} {us : List UV} {vs : List TV} {u : UV} (h : takeU P t us = some u) (r : URels V us vs) : ∃ v, take P t vs = some v ∧ URel V u v := by
  unfold takeU at h
  unfold take
  split at h
  · cases h
  · rename_i h1
    rw [if_neg h1]
    split at h
    · rename_i h2
      rw [if_pos h2]
      split at h
      · rename_i h3
        cases h
        rw [if_pos (by rw [← r.length]; exact h3)]
        exact ⟨_, rfl, .agg _ _ (r.take _)⟩
      · cases h
    · rename_i h2
      rw [if_neg h2]
      exact r.head h
theorem splice_rel {us ws : List UV} {vs xs : List TV} (n : Nat) (h : URels V us vs) (k : URels V ws xs) : URels V (spliceU us n ws) (splice vs n xs) := by
  unfold spliceU splice
  rw [k.length]
  exact ((h.take n).append k).append (h.drop _)
theorem fill_rel {place : Nat → Option (Nat × Nat)} {ρ : Operand → UV} {τ : Operand → TV} (hρ : ∀ x, URel V (ρ x) (τ x)) : ∀ {ps : List (Nat × Operand)} {us : List UV} {vs : List TV} {cs : List UV},
    fillU place us (ps.map fun p => (p.1, ρ p.2)) = some cs → URels V us vs → ∃ cs', fillT place vs (ps.map fun p => (p.1, τ p.2)) = some cs' ∧ URels V cs cs'
  | [], us, vs, cs, h, r => by cases h; exact ⟨vs, rfl, r⟩
  | p :: ps, us, vs, cs, h, r => by
    simp only [List.map_cons, fillU] at h
    simp only [List.map_cons, fillT]
    split at h
    · cases h
    · rename_i off size hp
      rw [hp]
      simp only
      split at h
      · cases h
      · rename_i h1
        simp only [ne_eq, Bool.or_eq_true, decide_eq_true_eq, not_or, Bool.not_eq_true, Decidable.not_not] at h1
        obtain ⟨⟨h2, h3⟩, h4⟩ := h1
        have hc := (hρ p.2).cells h4
        rw [if_neg (by
          simp only [ne_eq, Bool.or_eq_true, decide_eq_true_eq, not_or, Bool.not_eq_true, Decidable.not_not]
          exact ⟨⟨by rw [← hc.length]; exact h2, by rw [← r.length]; exact h3⟩, (hρ p.2).notJunk h4⟩)]
        exact fill_rel hρ h (splice_rel off r hc)
theorem zero_rel {t : TypeId} {z : UV} (h : zeroU P t = some z) : ∃ z', zeroT P t = some z' ∧ URel V z z' := by
  unfold zeroU at h
  unfold zeroT
  split at h
  · rename_i i hi
    rw [hi]
    simp only [Option.map_eq_some_iff] at h ⊢
    obtain ⟨v, h1, h2⟩ := h
    subst h2
    exact ⟨_, ⟨v, h1, rfl⟩, constU_rel V v⟩
  · cases h
theorem build_rel {t : TypeId} {ρ : Operand → UV} {τ : Operand → TV} (hρ : ∀ x, URel V (ρ x) (τ x)) {ps : List (Nat × Operand)} {u : UV} (h : buildU P t (ps.map fun p => (p.1, ρ p.2)) = some u) :
    ∃ v, buildT P t (ps.map fun p => (p.1, τ p.2)) = some v ∧ URel V u v := by
  unfold buildU at h
  unfold buildT
  split at h
  · rename_i z fields hz hu
    obtain ⟨z', hz', rz⟩ := zero_rel (V := V) hz
    rw [hz', hu]
    simp only
    split at h
    · cases h
    · rename_i h1
      simp only [Bool.or_eq_true, Bool.not_eq_true', not_or, Bool.not_eq_true, Bool.not_eq_false] at h1
      rw [if_neg (by simp only [Bool.or_eq_true, Bool.not_eq_true', not_or, Bool.not_eq_true, Bool.not_eq_false]; exact ⟨rz.notJunk h1.1, h1.2⟩)]
      simp only [Option.map_eq_some_iff] at h ⊢
      obtain ⟨cs, h2, rfl⟩ := h
      obtain ⟨cs', h3, h4⟩ := fill_rel hρ h2 (rz.cells h1.1)
      exact ⟨_, ⟨cs', h3, rfl⟩, .agg _ _ h4⟩
  · rename_i z n elem hz hu
    obtain ⟨z', hz', rz⟩ := zero_rel (V := V) hz
    rw [hz', hu]
    simp only
    split at h
    · cases h
    · rename_i h1
      simp only [Bool.or_eq_true, not_or, Bool.not_eq_true] at h1
      rw [if_neg (by simp only [Bool.or_eq_true, not_or, Bool.not_eq_true]; exact ⟨rz.notJunk h1.1, h1.2⟩)]
      simp only [Option.map_eq_some_iff] at h ⊢
      obtain ⟨cs, h2, rfl⟩ := h
      obtain ⟨cs', h3, h4⟩ := fill_rel hρ h2 (rz.cells h1.1)
      exact ⟨_, ⟨cs', h3, rfl⟩, .agg _ _ h4⟩
  · cases h
theorem setEs_rel {ρ : Operand → UV} {τ : Operand → TV} (hρ : ∀ x, URel V (ρ x) (τ x)) : ∀ {ps : List (Nat × Operand)} {us : List UV} {vs : List TV}, URels V us vs →
    URels V (setEsU us (ps.map fun p => (p.1, ρ p.2))) (setEs vs (ps.map fun p => (p.1, τ p.2)))
  | [], us, vs, r => r
  | p :: ps, us, vs, r => by
    simp only [List.map_cons, setEsU, setEs]
    exact setEs_rel hρ (r.set _ (hρ p.2))
theorem fineU_ok {n : Nat} {u : UV} {v : TV} (r : URel V u v) (h : u.cells.all cellOkU = true) (hn : u.cells.length = n) : v.cells.length = n ∧ v.cells.all cellOk = true := by
  have hc := r.cells (notJunk_of_ok h)
  exact ⟨by rw [← hc.length]; exact hn, hc.allOk h⟩
theorem buildSlice_rel {t : TypeId} {len : Nat} {ρ : Operand → UV} {τ : Operand → TV} (hρ : ∀ x, URel V (ρ x) (τ x)) {ps : List (Nat × Operand)} {u : UV} (h : buildSliceU P t len (ps.map fun p => (p.1, ρ p.2)) = some u) :
    ∃ v, buildSliceT P t len (ps.map fun p => (p.1, τ p.2)) = some v ∧ URel V u v := by
  unfold buildSliceU at h
  unfold buildSliceT
  split at h
  · rename_i elem hu
    rw [hu]
    simp only
    split at h
    · rename_i h1
      simp only [Bool.and_eq_true, List.all_eq_true, decide_eq_true_eq, List.mem_map, forall_exists_index, and_imp, forall_apply_eq_imp_iff₂, beq_iff_eq] at h1
      obtain ⟨⟨h2, h3⟩, h4⟩ := h1
      rw [if_pos (by
        simp only [Bool.and_eq_true, List.all_eq_true, decide_eq_true_eq, List.mem_map, forall_exists_index, and_imp, forall_apply_eq_imp_iff₂, beq_iff_eq]
        refine ⟨⟨fun p hp => ?_, h3⟩, h4⟩
        obtain ⟨⟨a, b⟩, c⟩ := h2 p hp
        obtain ⟨x, y⟩ := fineU_ok (hρ p.2) (List.all_eq_true.2 c) b
        exact ⟨⟨a, x⟩, List.all_eq_true.1 y⟩)]
      split at h
      · rename_i z hz
        obtain ⟨z', hz', rz⟩ := zero_rel (V := V) hz
        rw [hz']
        simp only
        split at h
        · rename_i h5
          cases h
          simp only [Bool.and_eq_true, beq_iff_eq] at h5
          obtain ⟨x, y⟩ := fineU_ok rz h5.1 h5.2
          rw [if_pos (by simp only [Bool.and_eq_true, beq_iff_eq]; exact ⟨y, x⟩)]
          exact ⟨_, rfl, .lslice _ _ _ _ _ (setEs_rel hρ (URels.replicate _ rz)) rfl⟩
        · cases h
      · cases h
    · cases h
  · cases h

/-! ### Pieces -/
inductive OptR (V : Val) : Option UV → Option TV → Prop where
  | none : OptR V none none
  | some (u : UV) (v : TV) : URel V u v → OptR V (some u) (some v)
theorem OptR.map {ρ : Operand → UV} {τ : Operand → TV} (hρ : ∀ x, URel V (ρ x) (τ x)) (x : Option Operand) : OptR V (x.map ρ) (x.map τ) := by
  cases x with
  | none => exact .none
  | some x => exact .some _ _ (hρ x)
theorem intOf_rel {x : Option UV} {y : Option TV} (r : OptR V x y) {a : Option Int} (h : intOf x = some a) : (a = none ∧ y = none) ∨ ∃ n k, a = some n ∧ y = some (.int k n) := by
  cases r with
  | none => cases h; exact .inl ⟨rfl, rfl⟩
  | some u v r => cases u <;> simp [intOf] at h; cases r; subst h; exact .inr ⟨_, _, rfl, rfl⟩
theorem natOf_none (n : Nat) : natOf none n = some n := rfl
theorem within_ok {n : Nat} {x y : Option TV} {lo hi : Option Int} (hx : (lo = none ∧ x = none) ∨ ∃ z k, lo = some z ∧ x = some (.int k z)) (hy : (hi = none ∧ y = none) ∨ ∃ z k, hi = some z ∧ y = some (.int k z)) (h : within n lo hi = true) :
    ∃ l b, natOf x 0 = some l ∧ natOf y n = some b ∧ l ≤ b ∧ b ≤ n ∧ (hi = none → b = n) ∧ (lo = none → l = 0) ∧ (∀ z, hi = some z → z = b) ∧ ∀ (α : Type) (xs : List α), xs.length = n → (xs.take b).drop l = cut xs lo hi := by
  rcases hx with ⟨rfl, rfl⟩ | ⟨a, k, rfl, rfl⟩ <;> rcases hy with ⟨rfl, rfl⟩ | ⟨b, k', rfl, rfl⟩
  · exact ⟨0, n, rfl, rfl, by omega, by omega, fun _ => rfl, fun _ => rfl, fun _ h => (by cases h), fun α xs hl => by simp [cut, ← hl]⟩
  · simp only [within, decide_eq_true_eq] at h
    exact ⟨0, b.toNat, rfl, by simp [natOf, h.1], by omega, by omega, fun h => (by cases h), fun _ => rfl, fun z h => (by cases h; omega), fun α xs hl => by simp [cut]⟩
  · simp only [within, decide_eq_true_eq] at h
    exact ⟨a.toNat, n, by simp [natOf, h.1], rfl, by omega, by omega, fun _ => rfl, fun h => (by cases h), fun _ h => (by cases h), fun α xs hl => by simp [cut, ← hl]⟩
  · simp only [within, decide_eq_true_eq] at h
    exact ⟨a.toNat, b.toNat, by simp [natOf, h.1], by simp [natOf]; omega, by omega, by omega, fun h => (by cases h), fun h => (by cases h), fun z h => (by cases h; omega), fun α xs hl => by simp [cut]⟩
theorem cut_rel {α β : Type} {R : α → β → Prop} {l : List α} {m : List β} (h : All2 R l m) (lo hi : Option Int) : All2 R (cut l lo hi) (cut m lo hi) := by
  cases lo <;> cases hi <;> simp only [cut]
  · exact h
  · exact h.take _
  · exact h.drop _
  · exact (h.take _).drop _
theorem cut_urels {l : List UV} {m : List TV} (h : URels V l m) (lo hi : Option Int) : URels V (cut l lo hi) (cut m lo hi) := by
  cases lo <;> cases hi <;> simp only [cut]
  · exact h
  · exact h.take _
  · exact h.drop _
  · exact (h.take _).drop _
theorem headOk_all {n : Nat} {es : List TV} (h : ∀ e ∈ es, e.cells.length = n) : headOk n es = true := by
  cases es with
  | nil => rfl
  | cons e es => simp [headOk, h e (by simp)]
theorem ElR.size {t : Ty} {x : t.den} {e : TV} (h : ElR t x e) : e.cells.length = t.size := h.2.length
theorem ElRs.size {t : Ty} {l : List t.den} {es : List TV} (h : All2 (ElR t) l es) : ∀ e ∈ es, e.cells.length = t.size := fun e he => by
  obtain ⟨x, hx⟩ := h.mem he
  exact hx.size
theorem lsl_size {n : Nat} {us : List UV} {vs : List TV} (r : URels V us vs) (h : us.all (fun e => e.cells.length == n && !isJunkU e) = true) : ∀ e ∈ vs, e.cells.length = n := by
  induction us generalizing vs with
  | nil => cases r; simp
  | cons u us ih => cases r with
    | cons _ v _ vs r rs =>
      simp only [List.all_cons, Bool.and_eq_true, beq_iff_eq, Bool.not_eq_true'] at h
      intro e he
      rcases List.mem_cons.1 he with rfl | he
      · rw [← (r.cells h.1.2).length]; exact h.1.1
      · exact ih rs (by simpa using h.2) e he
theorem slice_rel {t : TypeId} {x : UV} {lo hi mx : Option UV} {x' : TV} {lo' hi' mx' : Option TV} (rx : URel V x x') (rl : OptR V lo lo') (rh : OptR V hi hi') (rm : OptR V mx mx') {u : UV} (h : (sliceU P t x lo hi mx).Has u) :
    ∃ v, sliceT P t x' lo' hi' mx' = some v ∧ URel V u v := by
  unfold sliceU at h
  split at h
  · rename_i lo1 hi1 hlo hhi
    have bl := intOf_rel rl hlo
    have bh := intOf_rel rh hhi
    split at h
    · rename_i s1 hu
      cases rm
      cases rx
      simp only [Tree.Has, and_false, or_false] at h
      obtain ⟨hw, rfl⟩ := h
      obtain ⟨l, b, h1, h2, h3, h4, h5, h6, h7, h8⟩ := within_ok bl bh hw
      refine ⟨.str (cut s1 lo1 hi1), ?_, .str _⟩
      unfold sliceT
      rw [hu]
      simp [sliceBounds, natOf_none, h1, h2, h3, h4, h8]
    · rename_i elem ty b0 l0 tok hu
      cases rm
      cases rx with
      | slice _ _ b' _ es _ tok' k1 k2 k3 =>
        split at h
        · cases h
        · rename_i hc
          simp only [Bool.or_eq_true, decide_eq_true_eq, bne_iff_ne, ne_eq, not_or, Decidable.not_not] at hc
          simp only [Tree.Has, and_false, or_false] at h
          obtain ⟨hw, rfl⟩ := h
          obtain ⟨l, b, h1, h2, h3, h4, h5, h6, h7, h8⟩ := within_ok bl bh hw
          have hes := ElRs.size k2
          rw [hc.2] at hes
          have hlen : es.length = l0.length := k2.length.symm
          refine ⟨.slice b' (cut es lo1 hi1) (sliceTok tok' es.length l b es.length false), ?_, .slice _ _ _ _ _ _ _ k1 (cut_rel k2 _ _) ?_⟩
          · unfold sliceT
            rw [hu]
            simp only
            rw [if_neg (by simp [hc.1, headOk_all hes])]
            simp [sliceBounds, natOf_none, h1, h2, h3, h4, hlen, h8 _ es hlen]
          · cases hi1 with
            | none =>
              have hb := h5 rfl
              subst hb
              cases lo1 with
              | none =>
                have hl := h6 rfl
                subst hl
                simp only [cut]
                have : sliceTok tok' es.length 0 l0.length es.length false = tok' := by cases tok' <;> simp [sliceTok, hlen]
                rw [this]
                exact k3
              | some z =>
                cases tok with
                | no => trivial
                | ex => have : tok' = .exact := k3; subst this; simp [sliceTok, TokR, hlen]
                | gr j => trivial
            | some z => cases lo1 <;> trivial
    · rename_i elem ty b0 l0 tok k0 m0 hu
      cases rm with
      | some _ _ rm =>
      cases rm
      cases rx with
      | slice _ _ b' _ es _ tok' k1 k2 k3 =>
        split at h
        · cases h
        · rename_i hc
          simp only [Bool.or_eq_true, decide_eq_true_eq, bne_iff_ne, ne_eq, not_or, Decidable.not_not] at hc
          split at h
          · rename_i z
            simp only [Tree.Has, and_false, or_false, decide_eq_true_eq] at h
            obtain ⟨hw, hm, rfl⟩ := h
            obtain ⟨l, b, h1, h2, h3, h4, h5, h6, h7, h8⟩ := within_ok bl bh hw
            have hes := ElRs.size k2
            rw [hc.2] at hes
            have hlen : es.length = l0.length := k2.length.symm
            have hz := h7 z rfl
            have hhi' : hi'.isSome = true := by
              rcases bh with ⟨h, _⟩ | ⟨_, _, _, h⟩
              · cases h
              · simp [h]
            refine ⟨.slice b' (cut es lo1 (some z)) (sliceTok tok' es.length l b m0.toNat true), ?_, .slice _ _ _ _ _ _ _ k1 (cut_rel k2 _ _) ?_⟩
            · unfold sliceT
              rw [hu]
              simp only
              rw [if_neg (by simp [hc.1, headOk_all hes])]
              have hm0 : natOf (some (.int k0 m0)) es.length = some m0.toNat := by simp [natOf]; omega
              have hbm : b ≤ m0.toNat := by omega
              have hml : m0.toNat ≤ l0.length := by omega
              rw [hlen] at hm0
              simp [sliceBounds, hlen, hm0, h1, h2, h3, hhi', hbm, hml, h8 _ es hlen]
            · split
              · rename_i e
                have : b = m0.toNat := by omega
                simp [sliceTok, this, TokR]
              · trivial
          · cases h
    · rename_i elem b0 es0 tok hu
      cases rm
      cases rx with
      | lslice _ _ es _ tok' k1 k2 =>
        split at h
        · cases h
        · rename_i hc
          simp only [Bool.or_eq_true, decide_eq_true_eq, Bool.not_eq_true', not_or, Bool.not_eq_false] at hc
          simp only [Tree.Has, and_false, or_false] at h
          obtain ⟨hw, rfl⟩ := h
          obtain ⟨l, b, h1, h2, h3, h4, h5, h6, h7, h8⟩ := within_ok bl bh hw
          have hes := lsl_size k1 hc.2
          have hlen : es.length = es0.length := k1.length.symm
          refine ⟨.slice b0 (cut es lo1 hi1) (sliceTok tok' es.length l b es.length false), ?_, .lslice _ _ _ _ _ (cut_urels k1 _ _) ?_⟩
          · unfold sliceT
            rw [hu]
            simp only
            rw [if_neg (by simp [hc.1, headOk_all hes])]
            simp [sliceBounds, natOf_none, h1, h2, h3, h4, hlen, h8 _ es hlen]
          · cases hi1 with
            | none =>
              have hb := h5 rfl
              subst hb
              cases lo1 with
              | none =>
                have hl := h6 rfl
                subst hl
                simp only [cut]
                have : sliceTok tok' es.length 0 es0.length es.length false = tok' := by cases tok' <;> simp [sliceTok, hlen]
                rw [this]
                exact k2
              | some z =>
                cases tok with
                | no => trivial
                | ex => have : tok' = .exact := k2; subst this; simp [sliceTok, TokR, hlen]
                | gr j => trivial
            | some z => cases lo1 <;> trivial
    · cases h
  · cases h
end
end Go.Proofs.Ytbnfooeeopmpiaa.TV

namespace Go.Proofs.Ytbnfooeeopmpiaa.TV
open Go Go.RowKit
set_option linter.unusedSimpArgs false
set_option linter.unusedVariables false

section
variable {P : Program} {V : Val} {s : St}

theorem fieldAddr_rel {t : TypeId} {x : UV} {x' : TV} {f : Nat} (r : URel V x x') {u : UV} (h : fieldAddrU P t x f = some u) : ∃ v, fieldAddrT P t x' f = some v ∧ URel V u v := by
  unfold fieldAddrU at h
  unfold fieldAddrT
  split at h
  · rename_i fields hu
    rw [hu]
    simp only
    split at h
    · rename_i fd hf
      rw [hf]
      simp only
      split at h
      · cases h
      · rename_i h0
        rw [if_neg h0]
        split at h
        · cases h; cases r with | ptr k off o e => exact ⟨_, rfl, .ptr _ _ _ e⟩
        · cases h; cases r with | eptr us vs rs => exact ⟨_, rfl, .eptr _ _ (rs.drop _)⟩
        · cases h
    · cases h
  · cases h
theorem field_rel {t : TypeId} {x : UV} {x' : TV} {f : Nat} (r : URel V x x') {u : UV} (h : fieldU P t x f = some u) : ∃ v, fieldT P t x' f = some v ∧ URel V u v := by
  unfold fieldU at h
  unfold fieldT
  split at h
  · rename_i fields cs hu
    cases r with
    | agg _ vs rs =>
      rw [hu]
      simp only
      split at h
      · rename_i fd hf
        rw [hf]
        exact take_rel h (rs.drop _)
      · cases h
  · cases h
theorem nthU_has {α : Type} {i : Int} {f : Nat → Tree α} {a : α} : ∀ {n k : Nat}, (nthU n i f k).Has a → ∃ j, k ≤ j ∧ j < k + n ∧ i = j ∧ (f j).Has a
  | 0, k, h => h.elim
  | n + 1, k, h => by
    simp only [nthU, Tree.Has, decide_eq_true_eq] at h
    rcases h with ⟨h1, h2⟩ | ⟨_, h⟩
    · exact ⟨k, Nat.le_refl _, by omega, h1, h2⟩
    · obtain ⟨j, h1, h2, h3, h4⟩ := nthU_has h
      exact ⟨j, by omega, by omega, h3, h4⟩
theorem indexAddr_rel {t : TypeId} {x i : UV} {x' i' : TV} (r : URel V x x') (ri : URel V i i') {u : UV} (h : (indexAddrU P t x i).Has u) : ∃ v, indexAddrT P t x' i' = some v ∧ URel V u v := by
  unfold indexAddrU at h
  split at h
  · rename_i k n
    cases ri
    unfold indexAddrT
    simp only
    split at h
    · rename_i elem ty b l tok hu
      cases r with
      | slice _ _ b' _ es _ tok' h1 h2 h3 =>
        split at h
        · rename_i hs
          simp only [Tree.Has, and_false, or_false, decide_eq_true_eq] at h
          obtain ⟨hn, y, hy, rfl⟩ := h
          rw [if_neg (by omega), hu]
          simp only
          obtain ⟨e, he, hr⟩ := h2.get hy
          rw [he]
          simp only
          rw [if_pos (by rw [← hs]; exact hr.2.length)]
          exact ⟨_, rfl, .eptr _ _ (cellsU_rel hr.2)⟩
        · cases h
    · rename_i elem b us tok hu
      cases r with
      | lslice _ _ es _ tok' h1 h2 =>
        simp only [Tree.Has, and_false, or_false, decide_eq_true_eq] at h
        obtain ⟨hn, h⟩ := h
        rw [if_neg (by omega), hu]
        simp only
        split at h
        · rename_i e he
          split at h
          · rename_i hc
            simp only [Tree.Has] at h
            subst h
            simp only [Bool.and_eq_true, decide_eq_true_eq, Bool.not_eq_true'] at hc
            obtain ⟨e', he', hr⟩ := h1.get he
            rw [he']
            simp only
            have hcs := hr.cells hc.2
            rw [if_pos (by rw [← hcs.length]; exact hc.1)]
            exact ⟨_, rfl, .eptr _ _ hcs⟩
          · cases h
        · cases h
    · rename_i len elem k0 off hu
      cases r with
      | ptr _ _ o e =>
        split at h
        · rename_i h0
          obtain ⟨j, _, h2, h3, h4⟩ := nthU_has h
          simp only [Tree.Has] at h4
          subst h4 h3
          rw [if_neg (by omega), hu]
          simp only
          rw [if_pos (by simp only [Bool.and_eq_true, decide_eq_true_eq]; exact ⟨by omega, h0⟩)]
          exact ⟨_, rfl, .ptr _ _ _ e⟩
        · cases h
    · rename_i len elem cs hu
      cases r with
      | eptr _ vs rs =>
        split at h
        · rename_i h0
          obtain ⟨j, _, h2, h3, h4⟩ := nthU_has h
          simp only [Tree.Has] at h4
          subst h4 h3
          rw [if_neg (by omega), hu]
          simp only
          rw [if_pos (by simp only [Bool.and_eq_true, decide_eq_true_eq]; exact ⟨by omega, h0⟩)]
          exact ⟨_, rfl, .eptr _ _ (rs.drop _)⟩
        · cases h
    · cases h
  · cases h
theorem index_rel {t : TypeId} {x i : UV} {x' i' : TV} (r : URel V x x') (ri : URel V i i') {u : UV} (h : (indexU P t x i).Has u) : ∃ v, indexT P t x' i' = some v ∧ URel V u v := by
  unfold indexU at h
  split at h
  · rename_i k n
    cases ri
    unfold indexT
    simp only
    split at h
    · rename_i len elem cs hu
      cases r with
      | agg _ vs rs =>
        obtain ⟨j, _, h2, h3, h4⟩ := nthU_has h
        rw [Tree.has_ofOpt] at h4
        subst h3
        rw [if_neg (by omega), hu]
        simp only
        rw [if_pos (by omega)]
        exact take_rel h4 (rs.drop _)
    · rename_i s1 hu
      cases r
      simp only [Tree.Has, and_false, or_false, decide_eq_true_eq] at h
      obtain ⟨hn, y, hy, rfl⟩ := h
      rw [if_neg (by omega), hu]
      simp only [hy, Option.map_some]
      exact ⟨_, rfl, .int _ _⟩
    · cases h
  · cases h

/-! ### Comparisons -/
theorem fold_rel {α : Type} {F : α → Option Bool → Option Bool} {G : α → Option Bool → Option Bool} (hFG : ∀ a q b, F a q = some b → ∃ c, q = some c ∧ ∀ q', q' = some c → G a q' = some b) :
    ∀ (l : List α) (b : Bool), l.foldr F (some true) = some b → l.foldr G (some true) = some b
  | [], b, h => h
  | a :: l, b, h => by
    simp only [List.foldr_cons] at h ⊢
    obtain ⟨c, h1, h2⟩ := hFG _ _ _ h
    exact h2 _ (fold_rel hFG l c h1)
theorem eq_rel : ∀ (d : Nat) {t : TypeId} {x y : UV} {x' y' : TV} {b : Bool}, URel V x x' → URel V y y' → eqU P d t x y = some b → eqT P d t x' y' = some b
  | 0, t, x, y, x', y', b, _, _, h => by simp [eqU] at h
  | d + 1, t, x, y, x', y', b, rx, ry, h => by
    unfold eqU at h
    unfold eqT
    split at h
    · rename_i hu; cases rx; cases ry; rw [hu]; exact h
    · rename_i hu
      cases rx; cases ry; rw [hu]; simp only
      split at h
      · rename_i hk; rw [if_pos hk]; exact h
      · cases h
    · rename_i hu; cases rx; cases ry; rw [hu]; simp only; cases h; congr 1; rw [Bool.eq_iff_iff]; simp
    · rename_i hu; cases rx; cases ry; rw [hu]; exact h
    · rename_i hu; cases rx; cases ry; rw [hu]; exact h
    · rename_i hu; cases rx; cases ry; rw [hu]; exact h
    · rename_i hu; cases rx; cases ry; rw [hu]; exact h
    · rename_i hu; cases rx; cases ry; rw [hu]; exact h
    · rename_i hu; cases rx; cases ry; rw [hu]; exact h
    · rename_i fields xs ys hu
      cases rx with
      | agg _ xs' rx =>
      cases ry with
      | agg _ ys' ry =>
        rw [hu]
        simp only
        split at h
        · cases h
        · rename_i h0
          rw [if_neg h0]
          refine fold_rel (fun f q b h => ?_) _ _ h
          split at h
          · rename_i hn
            subst h
            exact ⟨b, rfl, fun q' hq' => by rw [if_pos hn]; exact hq'⟩
          · rename_i hn
            split at h
            · rename_i a1 b1 ha hb
              split at h
              · rename_i p q1 hp
                cases h
                refine ⟨q1, rfl, fun q' hq' => ?_⟩
                obtain ⟨a2, ha2, ra⟩ := take_rel ha (rx.drop f.offset)
                obtain ⟨b2, hb2, rb⟩ := take_rel hb (ry.drop f.offset)
                rw [if_neg hn, ha2, hb2]
                simp only
                rw [eq_rel d ra rb hp, hq']
                cases p <;> rfl
              · cases h
            · cases h
    · rename_i n elem xs ys hu
      cases rx with
      | agg _ xs' rx =>
      cases ry with
      | agg _ ys' ry =>
        rw [hu]
        simp only
        split at h
        · cases h
        · rename_i h0
          rw [if_neg h0]
          refine fold_rel (fun i q b h => ?_) _ _ h
          split at h
          · rename_i a1 b1 ha hb
            split at h
            · rename_i p q1 hp
              cases h
              refine ⟨q1, rfl, fun q' hq' => ?_⟩
              obtain ⟨a2, ha2, ra⟩ := take_rel ha (rx.drop (i * P.cellsOf elem))
              obtain ⟨b2, hb2, rb⟩ := take_rel hb (ry.drop (i * P.cellsOf elem))
              rw [ha2, hb2]
              simp only
              rw [eq_rel d ra rb hp, hq']
              cases p <;> rfl
            · cases h
          · cases h
    · rename_i hu
      cases rx with
      | slice _ _ b' _ es _ tok' h1 h2 h3 =>
        cases ry with
        | lslice _ us vs _ tok'' h4 h5 => cases h; rw [h1 _ rfl, hu]; cases b <;> rfl
    · rename_i hu
      cases ry with
      | slice _ _ b' _ es _ tok' h1 h2 h3 =>
        cases rx with
        | lslice _ us vs _ tok'' h4 h5 => cases h; rw [h1 _ rfl, hu]; rfl
    · rename_i hu
      cases rx with
      | lslice _ us vs _ tok' h1 h2 =>
        cases ry with
        | lslice _ us' vs' _ tok'' h4 h5 => cases h; rw [hu]; cases b <;> rfl
    · rename_i hu; cases rx; cases ry; rw [hu]; exact h
    · rename_i hu; cases rx; cases ry; rw [hu]; exact h
    · rename_i hu; cases rx; cases ry; rw [hu]; exact h
    · cases h

/-! ### Numbers and texts -/
theorem eqU_junk {d : Nat} {t : TypeId} {y : UV} {b : Bool} (h : eqU P d t .junk y = some b) : False := by
  cases d with
  | zero => simp [eqU] at h
  | succ d =>
    unfold eqU at h
    split at h <;> simp_all
theorem eqU_junk' {d : Nat} {t : TypeId} {x : UV} {b : Bool} (h : eqU P d t x .junk = some b) : False := by
  cases d with
  | zero => simp [eqU] at h
  | succ d =>
    unfold eqU at h
    split at h <;> simp_all
theorem bin_rel {op : BinOp} {t : TypeId} {x y : UV} {x' y' : TV} (rx : URel V x x') (ry : URel V y y') {u : UV} (h : (binU P op t x y).Has u) : ∃ v, binT P op t x' y' = some v ∧ URel V u v := by
  unfold binU at h
  split at h
  · rename_i k a yk b
    cases rx; cases ry
    unfold binT
    simp only
    split at h
    · simp only [Tree.Has, false_and, and_false, false_or, decide_eq_false_iff_not] at h
      obtain ⟨h1, rfl⟩ := h
      rw [if_neg h1]
      exact ⟨_, rfl, .int _ _⟩
    · simp only [Tree.Has, false_and, and_false, false_or, decide_eq_false_iff_not] at h
      obtain ⟨h1, rfl⟩ := h
      simp only [if_neg h1]
      exact ⟨_, rfl, .int _ _⟩
    · split at h
      · cases h
      · rename_i hk
        simp only [if_neg hk]
        split at h <;> simp only [Tree.Has, false_and, and_false, false_or, decide_eq_false_iff_not] at h <;>
          first
          | (subst h; exact ⟨_, rfl, .int _ _⟩)
          | (obtain ⟨h1, rfl⟩ := h; simp only [if_neg h1]; exact ⟨_, rfl, .int _ _⟩)
          | (subst h; refine ⟨_, rfl, ?_⟩; first | exact .bool _ | (simp only [bne, gt_iff_lt, ge_iff_le]; exact .bool _))
  · rename_i a b
    cases rx; cases ry
    unfold binT
    simp only
    have hd : (a == b) = decide (a = b) := by rw [Bool.eq_iff_iff]; simp
    split at h <;> simp only [Tree.Has, and_false, or_false, decide_eq_true_eq] at h
    · obtain ⟨h1, rfl⟩ := h
      rw [if_pos h1]
      exact ⟨_, rfl, .str _⟩
    all_goals (subst h; simp only [hd]; exact ⟨_, rfl, .bool _⟩)
  · have key : ∀ {b}, eqU P 100 t x y = some b → ∀ (f : Bool → TV), (match x', y' with
        | .int _ _, .int _ _ => none
        | .str _, .str _ => none
        | x, y => (eqT P 100 t x y).map f) = some (f b) ∧ (∀ k a yk c, ¬ (x' = .int k a ∧ y' = .int yk c)) ∧ ∀ a c, ¬ (x' = .str a ∧ y' = .str c) := by
      intro b hb f
      have h1 : ∀ k a yk c, ¬ (x' = .int k a ∧ y' = .int yk c) := by
        rintro k a yk c ⟨rfl, rfl⟩
        cases rx with
        | junk => exact eqU_junk hb
        | int => cases ry with
          | junk => exact eqU_junk' hb
          | int => rename_i hx1 hx2; exact hx1 _ _ _ _ rfl rfl
      have h2 : ∀ a c, ¬ (x' = .str a ∧ y' = .str c) := by
        rintro a c ⟨rfl, rfl⟩
        cases rx with
        | junk => exact eqU_junk hb
        | str => cases ry with
          | junk => exact eqU_junk' hb
          | str => rename_i hx1 hx2; exact hx2 _ _ rfl rfl
      refine ⟨?_, h1, h2⟩
      split
      · exact absurd ⟨rfl, rfl⟩ (h1 _ _ _ _)
      · exact absurd ⟨rfl, rfl⟩ (h2 _ _)
      · rw [eq_rel 100 rx ry hb]; rfl
    split at h
    · rw [Tree.has_ofOpt, Option.map_eq_some_iff] at h
      obtain ⟨b, hb, rfl⟩ := h
      obtain ⟨_, h1, h2⟩ := key hb .bool
      refine ⟨.bool b, ?_, .bool b⟩
      unfold binT
      split
      · exact absurd ⟨rfl, rfl⟩ (h1 _ _ _ _)
      · exact absurd ⟨rfl, rfl⟩ (h2 _ _)
      · rw [eq_rel 100 rx ry hb]; rfl
    · rw [Tree.has_ofOpt, Option.map_eq_some_iff] at h
      obtain ⟨b, hb, rfl⟩ := h
      obtain ⟨_, h1, h2⟩ := key hb .bool
      refine ⟨.bool !b, ?_, .bool _⟩
      unfold binT
      split
      · exact absurd ⟨rfl, rfl⟩ (h1 _ _ _ _)
      · exact absurd ⟨rfl, rfl⟩ (h2 _ _)
      · rw [eq_rel 100 rx ry hb]; rfl
    · cases h
theorem guard_rel {op : BinOp} {t : TypeId} {a b : Operand} {x y : UV} {x' y' : TV} (rx : URel V x x') (ry : URel V y y') (h : guardU P op t a b x y = true) : guardT P op t a b x' y' = true := by
  unfold guardU at h
  unfold guardT
  split at h
  · split at h
    · cases rx; cases ry; exact h
    · cases rx; cases ry; exact h
    · cases h
    · cases h
    · rename_i h1 h2 h3 h4
      simp only
      split
      · cases rx <;> cases ry <;> simp_all
      · cases rx <;> cases ry <;> simp_all
      · rfl
  · split at h
    · cases rx; cases ry; exact h
    · cases rx; cases ry; exact h
    · cases h
    · cases h
    · rename_i h1 h2 h3 h4
      simp only
      split
      · cases rx <;> cases ry <;> simp_all
      · cases rx <;> cases ry <;> simp_all
      · rfl
  · rename_i h1 h2
    split
    · exact absurd rfl h1
    · exact absurd rfl h2
    · rfl
theorem un_rel {op : UnOp} {x : UV} {x' : TV} (r : URel V x x') {u : UV} (h : unU op x = some u) : ∃ v, unT op x' = some v ∧ URel V u v := by
  unfold unU at h
  split at h <;> first | (cases h; done) | (cases h; cases r; exact ⟨_, rfl, by constructor⟩)
theorem bytesUV_rel : ∀ {l : List Int} {es : List TV}, All2 (ElR (.int .u8)) l es → TV.bytesOf es = some (bytesUV l)
  | [], [], _ => rfl
  | n :: l, e :: es, h => by
    have h1 := h.1.2
    have he : e = .int .u8 n := by
      have := isAggV_cells h.1.1
      rw [this] at h1
      exact (List.cons.inj (show [e] = [_] from h1)).1
    subst he
    simp only [TV.bytesOf, bytesUV_rel h.2]
    rfl
  | [], _ :: _, h => h.elim
  | _ :: _, [], h => h.elim
theorem byteInts_rel (s : List UInt8) : All2 (ElR (.int .u8)) (byteInts s) (s.map fun c => .int .u8 c.toNat) := by
  unfold byteInts
  exact All2.map fun x hx => ⟨rfl, rfl⟩
theorem conv_rel {src dst : TypeId} {x : UV} {x' : TV} (r : URel V x x') {u : UV} (h : convU P src dst x = some u) : ∃ v, (∀ s, convT P s src dst x' = some v) ∧ URel V u v := by
  unfold convU at h
  split at h
  · rename_i h1 h2; cases h; cases r; exact ⟨_, fun s => by unfold convT; rw [h1, h2], .int _ _⟩
  · rename_i h1 h2; cases h; cases r; exact ⟨_, fun s => by unfold convT; rw [h1, h2], .str _⟩
  · rename_i h1 h2
    cases r
    split at h
    · rename_i h3
      cases h
      exact ⟨_, fun s => by unfold convT; rw [h1, h2]; simp only; rw [h3], .slice _ _ _ _ _ _ _ (fun x h => by cases h; rfl) (byteInts_rel _) trivial⟩
    · cases h
  · rename_i h1 h2
    cases r with
    | slice _ _ b' _ es _ tok' k1 k2 k3 =>
      split at h
      · rename_i h3
        cases h
        exact ⟨_, fun s => by unfold convT; rw [h1, h2]; simp only; rw [h3]; simp only [bytesUV_rel k2]; rfl, .str _⟩
      · cases h
  · rename_i h1 h2
    cases r with
    | lslice _ _ es _ tok' k1 k2 =>
      split at h
      · rename_i h3
        rw [Option.map_eq_some_iff] at h
        obtain ⟨l, hl, rfl⟩ := h
        have k3 := decL_rel (R := ElR (.int .u8)) (fun h r => decV_rel h r) hl k1
        exact ⟨_, fun s => by unfold convT; rw [h1, h2]; simp only; rw [h3]; simp only [bytesUV_rel k3]; rfl, .str _⟩
      · cases h
  · cases h
theorem len_rel {t : TypeId} {x : UV} {x' : TV} (r : URel V x x') {u : UV} (h : lenU P t x = some u) : ∃ v, (∀ s, lenT P s t x' = some v) ∧ URel V u v := by
  unfold lenU at h
  split at h
  · rename_i h1; cases h; cases r; exact ⟨_, fun s => by unfold lenT; rw [h1], .int _ _⟩
  · rename_i h1; cases h; exact ⟨_, fun s => by unfold lenT; rw [h1], .int _ _⟩
  · rename_i h1; cases h; cases r with | slice _ _ b' _ es _ tok' k1 k2 k3 => exact ⟨_, fun s => by unfold lenT; rw [h1], by rw [← k2.length]; exact .int _ _⟩
  · rename_i h1; cases h; cases r with | lslice _ _ es _ tok' k1 k2 => exact ⟨_, fun s => by unfold lenT; rw [h1], by rw [← k1.length]; exact .int _ _⟩
  · cases h
theorem min_rel {x y : UV} {x' y' : TV} (rx : URel V x x') (ry : URel V y y') {u : UV} (h : minU x y = some u) : ∃ v, minT x' y' = some v ∧ URel V u v := by
  unfold minU at h
  split at h
  · cases h; cases rx; cases ry; exact ⟨_, rfl, .int _ _⟩
  · cases h
theorem max_rel {x y : UV} {x' y' : TV} (rx : URel V x x') (ry : URel V y y') {u : UV} (h : maxU x y = some u) : ∃ v, maxT x' y' = some v ∧ URel V u v := by
  unfold maxU at h
  split at h
  · cases h; cases rx; cases ry; exact ⟨_, rfl, .int _ _⟩
  · cases h
end
end Go.Proofs.Ytbnfooeeopmpiaa.TV
