/-
  TV: how plain values stand to the model's own: the relation, and what keeps it.
-/
import Derived.Test.YtmmofmkencnldaaGreatDoorTV
import Derived.WalkKit
namespace Go.Proofs.YtmmofmkencnldaaGreatDoor.TV
open Go Go.RowKit
set_option linter.unusedSimpArgs false
set_option linter.unusedVariables false

/-! ### The store -/
namespace Tr
variable {α : Type}
theorem get_one : ∀ (f n : Nat) (v : α) (m : Nat), n ≤ f → (one f n v).get m = if m = n then some v else none
  | 0, n, v, m, h => by
    have : n = 0 := by omega
    subst this
    simp only [one, get]
    split
    · rfl
    · split <;> rfl
  | f + 1, n, v, m, h => by
    simp only [one]
    split
    · rename_i h0
      subst h0
      simp only [get]
      split
      · rfl
      · split <;> rfl
    · rename_i h0
      split
      · rename_i h1
        simp only [get]
        split
        · rename_i hm; subst hm; rw [if_neg (by omega)]
        · split
          · rw [get_one f _ v _ (by omega)]
            by_cases e : m = n
            · subst e; simp
            · rw [if_neg (by omega), if_neg e]
          · rw [if_neg (by omega)]
      · rename_i h1
        simp only [get]
        split
        · rename_i hm; subst hm; rw [if_neg (by omega)]
        · split
          · rw [if_neg (by omega)]
          · rw [get_one f _ v _ (by omega)]
            by_cases e : m = n
            · subst e; simp
            · rw [if_neg (by omega), if_neg e]
theorem get_set : ∀ (t : Tr α) (n : Nat) (v : α) (m : Nat), (t.set n v).get m = if m = n then some v else t.get m
  | .nil, n, v, m => by simp only [set, get_one n n v m (Nat.le_refl _), get]
  | .node u l r, n, v, m => by
    simp only [set]
    split
    · rename_i h0
      subst h0
      simp only [get]
      split <;> rfl
    · rename_i h0
      split
      · rename_i h1
        simp only [get]
        split
        · rename_i hm; subst hm; rw [if_neg (by omega)]
        · split
          · rw [get_set l]
            by_cases e : m = n
            · subst e; simp
            · rw [if_neg (by omega), if_neg e]
          · rw [if_neg (by omega)]
      · rename_i h1
        simp only [get]
        split
        · rename_i hm; subst hm; rw [if_neg (by omega)]
        · split
          · rw [if_neg (by omega)]
          · rw [get_set r]
            by_cases e : m = n
            · subst e; simp
            · rw [if_neg (by omega), if_neg e]
theorem set_same : ∀ (t : Tr α) (n : Nat) (v : α), t.get n = some v → t.set n v = t
  | .nil, n, v, h => by simp [get] at h
  | .node u l r, n, v, h => by
    simp only [get] at h
    simp only [set]
    split
    · rename_i h0; rw [if_pos h0] at h; rw [h]
    · rename_i h0
      rw [if_neg h0] at h
      split
      · rename_i h1; rw [if_pos h1] at h; rw [set_same l _ _ h]
      · rename_i h1; rw [if_neg h1] at h; rw [set_same r _ _ h]
end Tr

/-! ### Laying open changes nothing -/
section
variable {ρ : Type}
@[simp] theorem forceNat_eq (n : Nat) (k : Nat → ρ) : forceNat n k = k n := by cases n <;> rfl
@[simp] theorem forceInt_eq (n : Int) (k : Int → ρ) : forceInt n k = k n := by cases n <;> simp [forceInt]
@[simp] theorem forceList_eq {α : Type} : ∀ (l : List α) (k : List α → ρ), forceList l k = k l
  | [], k => rfl
  | x :: l, k => (forceList_eq l fun l => k (x :: l) :)
@[simp] theorem forceTr_eq {α : Type} (t : Tr α) (k : Tr α → ρ) : forceTr t k = k t := by cases t <;> rfl
@[simp] theorem forceSt_eq (s : St) (k : St → ρ) : forceSt s k = k s := by cases s; simp [forceSt]
@[simp] theorem forceV_eq (v : TV) (k : TV → ρ) : forceV v k = k v := by
  cases v with
  | bool b => cases b <;> rfl
  | int kd n => exact forceInt_eq n fun n => k (.int kd n)
  | str s => exact forceList_eq s fun s => k (.str s)
  | ptr o off =>
    show forceNat o (fun o => forceNat off fun off => k (.ptr o off)) = _
    simp
  | eptr cs => exact forceList_eq cs fun cs => k (.eptr cs)
  | slice b es t =>
    cases b
    · exact forceList_eq es fun es => k (.slice false es t)
    · exact forceList_eq es fun es => k (.slice true es t)
  | osl o off len cap =>
    show forceNat o (fun o => forceNat off fun off => forceNat len fun len => forceNat cap fun cap => k (.osl o off len cap)) = _
    simp
  | gsl o len =>
    show forceNat o (fun o => forceNat len fun len => k (.gsl o len)) = _
    simp
  | map o =>
    cases o with
    | none => rfl
    | some o => exact forceNat_eq o fun o => k (.map (some o))
  | agg cs => exact forceList_eq cs fun cs => k (.agg cs)
  | tup cs => exact forceList_eq cs fun cs => k (.tup cs)
  | _ => rfl
@[simp] theorem setK_eq : ∀ (l : List TV) (n : Nat) (v : TV) (k : List TV → ρ), setK l n v k = k (l.set n v)
  | [], n, v, k => by
    show k [] = _
    simp
  | x :: l, 0, v, k => rfl
  | x :: l, n + 1, v, k => by
    show setK l n v (fun l => k (x :: l)) = _
    rw [setK_eq l]
    rfl
theorem Env.at_eq : ∀ (e : Env) (t : Nat), e.at t = e.getD t .junk
  | [], t => rfl
  | x :: e, 0 => rfl
  | x :: e, t + 1 => by
    show Env.at e t = _
    rw [Env.at_eq e t]
    simp
end

/-! ### The relation of values -/
/-- What is known of memory: where objects lie, which cells stay for ever, where rows that may be appended to lie. -/
structure G where
  base : Nat
  w0 : World
  hV : VarsOk base w0
  φ : Nat → Option Nat
  sol : Nat → Nat → Option Value
  ntips : Nat
  tip : Nat → Nat
  loc : Nat → Option (Nat × Nat)
  rc : Nat → Option (Nat × TypeId)
  hG : ∀ (n i : Nat) (k : IntKind) (z : Int), (globC n)[i]? = some (k, z) → n < base ∧ sol n i = some (.int k z)

structure G.le (g g' : G) : Prop where
  base : g'.base = g.base
  w0 : g'.w0 = g.w0
  φ : ∀ o b, g.φ o = some b → g'.φ o = some b
  sol : ∀ b i v, g.sol b i = some v → g'.sol b i = some v
  nt : g.ntips ≤ g'.ntips
  tip : ∀ i, i < g.ntips → g.tip i ≤ g'.tip i
  loc : ∀ i, i < g.ntips → g'.tip i = g.tip i → g'.loc i = g.loc i
  old : ∀ b i v, b < g.base → g'.sol b i = some v → g.sol b i = some v
  rc : ∀ o x, g.rc o = some x → g'.rc o = some x

theorem G.le.refl (g : G) : g.le g := ⟨rfl, rfl, fun _ _ h => h, fun _ _ _ h => h, Nat.le_refl _, fun _ _ => Nat.le_refl _, fun _ _ _ => rfl, fun _ _ _ _ h => h, fun _ _ h => h⟩
theorem G.le.trans {a b c : G} (h : a.le b) (k : b.le c) : a.le c where
  base := k.base.trans h.base
  w0 := k.w0.trans h.w0
  φ := fun o x e => k.φ o x (h.φ o x e)
  sol := fun x i v e => k.sol x i v (h.sol x i v e)
  old := fun b i v hb e => h.old b i v hb (k.old b i v (by rw [h.base]; exact hb) e)
  nt := Nat.le_trans h.nt k.nt
  rc := fun o x e => k.rc o x (h.rc o x e)
  tip := fun i hi => Nat.le_trans (h.tip i hi) (k.tip i (Nat.lt_of_lt_of_le hi h.nt))
  loc := fun i hi e => by
    have h1 := h.tip i hi
    have h2 := k.tip i (Nat.lt_of_lt_of_le hi h.nt)
    rw [k.loc i (Nat.lt_of_lt_of_le hi h.nt) (by omega), h.loc i hi (by omega)]

def SolAt (g : G) (b off : Nat) (vs : List Value) : Prop := ∀ i v, vs[i]? = some v → g.sol b (off + i) = some v
def TokOk (g : G) (tok : Tok) (b off n cap : Nat) : Prop := match tok with
  | .unk => True
  | .exact => cap = n
  | .tip i => i < g.ntips ∧ off = 0 ∧ n ≤ g.tip i ∧ (n = g.tip i → g.loc i = some (b, cap))

mutual
inductive VRel (g : G) : Value → TV → Prop where
  | junk (v : Value) : VRel g v .junk
  | bool (b : Bool) : VRel g (.bool b) (.bool b)
  | int (k : IntKind) (n : Int) : VRel g (.int k n) (.int k n)
  | str (s : ByteArray) (l : List UInt8) : s.data.toList = l → VRel g (.string s) (.str l)
  | nilp : VRel g (.pointer none) .nilp
  | ptr (o b off : Nat) : g.φ o = some b → VRel g (.pointer (some ⟨b, off, none⟩)) (.ptr o off)
  | eptr (b off : Nat) (vs : List Value) (cs : List TV) : SolAt g b off vs → VRels g vs cs → VRel g (.pointer (some ⟨b, off, none⟩)) (.eptr cs)
  | nils (tok : Tok) : (∀ i, tok ≠ .tip i) → VRel g (.slice none 0 0) (.slice true [] tok)
  | empty (a : Addr) (cap : Nat) (tok : Tok) : (∀ i, tok ≠ .tip i) → (tok = .exact → cap = 0) → VRel g (.slice (some a) 0 cap) (.slice false [] tok)
  | slice (b off n cap size : Nat) (vs : List Value) (es : List TV) (tok : Tok) : es ≠ [] → es.length = n → n ≤ cap → 0 < size → (∀ e, e ∈ es → e.cells.length = size) →
      SolAt g b off vs → VRels g vs (es.flatMap TV.cells) → TokOk g tok b off n cap → VRel g (.slice (some ⟨b, off, none⟩) n cap) (.slice false es tok)
  | osl (a : Addr) (o off len cap cap' : Nat) : (cap ≠ 0 → ∃ b, g.φ o = some b ∧ a = ⟨b, off, none⟩) → len ≤ cap → cap ≤ cap' → VRel g (.slice (some a) len cap') (.osl o off len cap)
  | gsl (o b len cap : Nat) (e : TypeId) : g.φ o = some b → g.rc o = some (cap, e) → len ≤ cap → VRel g (.slice (some ⟨b, 0, none⟩) len cap) (.gsl o len)
  | nomap : VRel g (.map none) (.map none)
  | map (o b : Nat) : g.φ o = some b → VRel g (.map (some b)) (.map (some o))
  | fn (f : Fn) (a c : Array Value) (a' c' : List TV) : VRels g a.toList a' → VRels g c.toList c' → VRel g (.func f a c) (.fn f a' c')
  | nilfn : VRel g .nilFunc .nilfn
  | iface (t : TypeId) (v : Value) (v' : TV) : VRel g v v' → VRel g (.iface t v) (.iface t v')
  | niliface : VRel g .nilIface .niliface
  | agg (vs : Array Value) (cs : List TV) : VRels g vs.toList cs → VRel g (.agg vs) (.agg cs)
  | tup (vs : Array Value) (cs : List TV) : VRels g vs.toList cs → VRel g (.tuple vs) (.tup cs)
inductive VRels (g : G) : List Value → List TV → Prop where
  | nil : VRels g [] []
  | cons (v : Value) (t : TV) (vs : List Value) (ts : List TV) : VRel g v t → VRels g vs ts → VRels g (v :: vs) (t :: ts)
end

theorem TokOk.mono {g g' : G} (h : g.le g') {tok : Tok} {b off n cap : Nat} (k : TokOk g tok b off n cap) : TokOk g' tok b off n cap := by
  cases tok with
  | unk => trivial
  | exact => exact k
  | tip i =>
    obtain ⟨k1, k2, k3, k4⟩ := k
    have h1 := h.tip i k1
    refine ⟨Nat.lt_of_lt_of_le k1 h.nt, k2, by omega, fun e => ?_⟩
    rw [h.loc i k1 (by omega)]
    exact k4 (by omega)
theorem SolAt.mono {g g' : G} (h : g.le g') {b off : Nat} {vs : List Value} (k : SolAt g b off vs) : SolAt g' b off vs := fun i v e => h.sol _ _ _ (k i v e)

mutual
theorem VRel.mono {g g' : G} (h : g.le g') : ∀ {v : Value} {t : TV}, VRel g v t → VRel g' v t
  | _, _, .junk v => .junk v
  | _, _, .bool b => .bool b
  | _, _, .int k n => .int k n
  | _, _, .str s l e => .str s l e
  | _, _, .nilp => .nilp
  | _, _, .ptr o b off e => .ptr o b off (h.φ _ _ e)
  | _, _, .eptr b off vs cs e r => .eptr b off vs cs (e.mono h) (VRels.mono h r)
  | _, _, .nils tok e => .nils tok e
  | _, _, .empty a cap tok e e' => .empty a cap tok e e'
  | _, _, .slice b off n cap size vs es tok e1 e2 e3 e4 e5 e6 r e7 => .slice b off n cap size vs es tok e1 e2 e3 e4 e5 (e6.mono h) (VRels.mono h r) (e7.mono h)
  | _, _, .osl a o off len cap cap' e e' e'' => .osl a o off len cap cap' (fun hc => by obtain ⟨b, h1, h2⟩ := e hc; exact ⟨b, h.φ _ _ h1, h2⟩) e' e''
  | _, _, .gsl o b len cap e h1 h2 h3 => .gsl o b len cap e (h.φ _ _ h1) (h.rc _ _ h2) h3
  | _, _, .nomap => .nomap
  | _, _, .map o b e => .map o b (h.φ _ _ e)
  | _, _, .fn f a c a' c' r r' => .fn f a c a' c' (VRels.mono h r) (VRels.mono h r')
  | _, _, .nilfn => .nilfn
  | _, _, .iface t v v' r => .iface t v v' (VRel.mono h r)
  | _, _, .niliface => .niliface
  | _, _, .agg vs cs r => .agg vs cs (VRels.mono h r)
  | _, _, .tup vs cs r => .tup vs cs (VRels.mono h r)
theorem VRels.mono {g g' : G} (h : g.le g') : ∀ {vs : List Value} {ts : List TV}, VRels g vs ts → VRels g' vs ts
  | _, _, .nil => .nil
  | _, _, .cons v t vs ts r rs => .cons v t vs ts (VRel.mono h r) (VRels.mono h rs)
end

section
variable {g : G}
theorem VRels.length {vs : List Value} {ts : List TV} (h : VRels g vs ts) : vs.length = ts.length := by
  induction vs generalizing ts with
  | nil => cases h; rfl
  | cons v vs ih => cases h with | cons _ _ _ _ r rs => simp [ih rs]
theorem VRels.get {vs : List Value} {ts : List TV} (h : VRels g vs ts) : ∀ {i : Nat} {t : TV}, ts[i]? = some t → ∃ v, vs[i]? = some v ∧ VRel g v t := by
  induction vs generalizing ts with
  | nil => cases h; intro i t e; simp at e
  | cons v vs ih =>
    cases h with
    | cons _ _ _ _ r rs =>
      intro i t e
      cases i with
      | zero => simp at e; subst e; exact ⟨v, rfl, r⟩
      | succ i => simpa using ih rs (by simpa using e)
theorem VRels.get' {vs : List Value} {ts : List TV} (h : VRels g vs ts) {i : Nat} {v : Value} (e : vs[i]? = some v) : ∃ t, ts[i]? = some t ∧ VRel g v t := by
  have hi : i < ts.length := by rw [← h.length]; exact (List.getElem?_eq_some_iff.1 e).1
  obtain ⟨v', e', r⟩ := h.get (List.getElem?_eq_getElem hi)
  rw [e] at e'
  cases e'
  exact ⟨_, List.getElem?_eq_getElem hi, r⟩
theorem VRels.of {vs : List Value} {ts : List TV} (hl : vs.length = ts.length) (h : ∀ (i : Nat) (v : Value) (t : TV), vs[i]? = some v → ts[i]? = some t → VRel g v t) : VRels g vs ts := by
  induction vs generalizing ts with
  | nil => cases ts with | nil => exact .nil | cons => simp at hl
  | cons v vs ih =>
    cases ts with
    | nil => simp at hl
    | cons t ts => exact .cons _ _ _ _ (h 0 v t rfl rfl) (ih (by simpa using hl) fun i v t e1 e2 => h (i + 1) v t (by simpa using e1) (by simpa using e2))
theorem VRels.append {vs vs' : List Value} {ts ts' : List TV} (h : VRels g vs ts) (h' : VRels g vs' ts') : VRels g (vs ++ vs') (ts ++ ts') := by
  induction vs generalizing ts with
  | nil => cases h; exact h'
  | cons v vs ih => cases h with | cons _ _ _ _ r rs => exact .cons _ _ _ _ r (ih rs)
theorem VRels.drop {vs : List Value} {ts : List TV} (h : VRels g vs ts) (n : Nat) : VRels g (vs.drop n) (ts.drop n) := by
  induction n generalizing vs ts with
  | zero => simpa using h
  | succ n ih => cases h with | nil => simpa using .nil | cons _ _ _ _ r rs => simpa using ih rs
theorem VRels.take {vs : List Value} {ts : List TV} (h : VRels g vs ts) (n : Nat) : VRels g (vs.take n) (ts.take n) := by
  induction n generalizing vs ts with
  | zero => simpa using .nil
  | succ n ih => cases h with | nil => simpa using .nil | cons _ _ _ _ r rs => exact .cons _ _ _ _ r (ih rs)
theorem VRels.set {vs : List Value} {ts : List TV} (h : VRels g vs ts) (n : Nat) {v : Value} {t : TV} (r : VRel g v t) : VRels g (vs.set n v) (ts.set n t) := by
  induction n generalizing vs ts with
  | zero => cases h with | nil => exact .nil | cons _ _ _ _ _ rs => exact .cons _ _ _ _ r rs
  | succ n ih => cases h with | nil => exact .nil | cons _ _ _ _ r' rs => exact .cons _ _ _ _ r' (ih rs)
theorem VRels.replicate (n : Nat) {v : Value} {t : TV} (r : VRel g v t) : VRels g (List.replicate n v) (List.replicate n t) := by
  induction n with
  | zero => exact .nil
  | succ n ih => exact .cons _ _ _ _ r ih

theorem VRel.cells {v : Value} {t : TV} (h : VRel g v t) (hj : t ≠ .junk) : VRels g v.cells.toList t.cells := by
  cases h with
  | junk => exact absurd rfl hj
  | agg vs cs r => exact r
  | _ => exact .cons _ _ _ _ (by constructor <;> assumption) .nil
theorem VRel.oneCell {v : Value} {t : TV} (h : VRel g v t) (hc : cellOk t = true) : v.oneCell' = true := by
  cases h <;> first | rfl | simp [cellOk] at hc
theorem VRels.oneCell {vs : List Value} {ts : List TV} (h : VRels g vs ts) (hc : ts.all cellOk = true) : ∀ v ∈ vs, v.oneCell' = true := by
  intro v hv
  obtain ⟨i, hi, rfl⟩ := List.getElem_of_mem hv
  obtain ⟨t, e, r⟩ := h.get' (List.getElem?_eq_getElem hi)
  exact r.oneCell (List.all_eq_true.1 hc t (List.mem_of_getElem? e))
end

/-! ### Constants -/
mutual
theorem VRel.const (g : G) : ∀ v : Value, VRel g v (ofConst v)
  | .bool b => by simpa [ofConst] using .bool b
  | .int k n => by simpa [ofConst] using .int k n
  | .string s => by simpa [ofConst] using .str s _ rfl
  | .pointer none => by simpa [ofConst] using .nilp
  | .pointer (some a) => by simpa [ofConst] using .junk _
  | .slice a n c => by
    by_cases h : a = none ∧ n = 0 ∧ c = 0
    · obtain ⟨rfl, rfl, rfl⟩ := h
      simpa [ofConst] using .nils _ (by intro i e; cases e)
    · have : ofConst (.slice a n c) = .junk := by
        unfold ofConst
        split <;> simp_all
      rw [this]
      exact .junk _
  | .map none => by simpa [ofConst] using .nomap
  | .map (some r) => by simpa [ofConst] using .junk _
  | .chan r => by simpa [ofConst] using .junk _
  | .func f a c => by simpa [ofConst] using .junk _
  | .nilFunc => by simpa [ofConst] using .nilfn
  | .iface t v => by simpa [ofConst] using .iface t v _ (VRel.const g v)
  | .nilIface => by simpa [ofConst] using .niliface
  | .agg ⟨cs⟩ => by simpa [ofConst] using .agg ⟨cs⟩ _ (VRels.const g cs)
  | .tuple ⟨cs⟩ => by simpa [ofConst] using .tup ⟨cs⟩ _ (VRels.const g cs)
  | .float k b => by simpa [ofConst] using .junk _
  | .complex k a b => by simpa [ofConst] using .junk _
theorem VRels.const (g : G) : ∀ vs : List Value, VRels g vs (ofConsts vs)
  | [] => by simpa [ofConsts] using .nil
  | v :: l => by simpa [ofConsts] using .cons _ _ _ _ (VRel.const g v) (VRels.const g l)
end

/-- A slice that may grow is one. -/
theorem VRel.ungrow {g : G} {v : Value} {o len : Nat} (h : VRel g v (.gsl o len)) : VRel g v (.osl o 0 len len) := by
  cases h with
  | gsl _ b _ cap e h1 h2 h3 => exact .osl _ _ _ _ _ _ (fun _ => ⟨b, h1, rfl⟩) (Nat.le_refl _) h3

end Go.Proofs.YtmmofmkencnldaaGreatDoor.TV
