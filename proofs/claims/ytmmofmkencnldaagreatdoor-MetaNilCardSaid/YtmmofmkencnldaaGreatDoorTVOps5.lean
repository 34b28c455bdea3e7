/-
  TV: each operation on plain values is the model's own (5): look-ups, conversions, what is built.
-/
import Derived.Test.YtmmofmkencnldaaGreatDoorTVOps4
namespace Go.Proofs.YtmmofmkencnldaaGreatDoor.TV
open Go Go.RowKit
set_option linter.unusedSimpArgs false
set_option linter.unusedVariables false

section
variable {P : Program} {g : G} {w : World} {s : St}

theorem zeroT_ok {t : TypeId} {z : TV} (h : zeroT P t = some z) : ∃ i rz, P.info? t = some i ∧ i.zero = some rz ∧ z = ofConst rz ∧ (∀ w, (zeroValue t).run P w = .ok rz w) ∧ ∀ g, VRel g rz z := by
  unfold zeroT at h
  split at h
  · rename_i i hi
    obtain ⟨rz, hz, rfl⟩ := Option.map_eq_some_iff.1 h
    exact ⟨i, rz, hi, hz, rfl, fun w => by simp [zeroValue, typeInfo, hi, hz], fun g => VRel.const g rz⟩
  · cases h

theorem bytes_inj' {a b : ByteArray} {l : List UInt8} (h : a.data.toList = l) (h' : b.data.toList = l) : a = b := by
  cases a with
  | mk a =>
    cases b with
    | mk b => exact congrArg ByteArray.mk (Array.toList_inj.1 (h.trans h'.symm))

theorem findT_ok {kd : TypeDesc} {k : TV} {rk : Value} (hk : VRel g rk k) {rs : List MapEntry} {es : List (TV × TV × Nat)} (he : EntRel g rs es) : ∀ (i : Nat) {r : Option (Nat × TV)}, findT kd k es i = some r →
    match r with
    | none => Instr.findNow kd rk rs i = some none
    | some (j, v) => ∃ rv e, Instr.findNow kd rk rs i = some (some (j, rv)) ∧ VRel g rv v ∧ i ≤ j ∧ rs[j - i]? = some e ∧ e.key = rk := by
  induction he with
  | nil => intro i r h; simp [findT] at h; subst h; simp [Instr.findNow]
  | cons e kk vv n rs es h1 h2 h3 _ ih =>
    intro i r h
    simp only [findT] at h
    have same : ∀ b, keyEq kd k kk = some b → Instr.sameNow kd rk e.key = some b ∧ (b = true → e.key = rk) := by
      intro b hb
      unfold keyEq at hb
      split at hb
      · split at hb
        · rename_i hkk
          cases hb
          obtain ⟨ek, ev, eb⟩ := e
          simp only at h1
          cases hk; cases h1
          subst hkk
          exact ⟨by simp [Instr.sameNow], fun hb => by simp at hb; rw [hb]⟩
        · cases hb
      · cases hb
        obtain ⟨ek, ev, eb⟩ := e
        simp only at h1
        cases hk with
        | str sa _ ea =>
          cases h1 with
          | str sb _ eb' =>
            refine ⟨?_, fun hb => ?_⟩
            · simp only [Instr.sameNow, Option.some.injEq]
              rw [beq_toListBytes, bytes_of ea, bytes_of eb']
            · have hb' := eq_of_beq hb
              subst hb'
              rw [bytes_inj' ea eb']
      · cases hb
        obtain ⟨ek, ev, eb⟩ := e
        simp only at h1
        cases hk; cases h1
        exact ⟨by simp [Instr.sameNow], fun hb => by simp at hb; rw [hb]⟩
      · cases hb
    split at h
    · rename_i hq
      cases h
      obtain ⟨h4, h5⟩ := same true hq
      exact ⟨e.val, e, by simp [Instr.findNow, h4], h2, Nat.le_refl _, by simp, h5 rfl⟩
    · rename_i hq
      obtain ⟨h4, _⟩ := same false hq
      have := ih (i + 1) h
      cases r with
      | none => simp only at this ⊢; simp [Instr.findNow, h4, this]
      | some p =>
        obtain ⟨j, v⟩ := p
        simp only at this ⊢
        obtain ⟨rv, e', h6, h7, h8, h9, h10⟩ := this
        refine ⟨rv, e', by simp [Instr.findNow, h4, h6], h7, by omega, ?_, h10⟩
        have : j - i = (j - (i + 1)) + 1 := by omega
        rw [this]
        simpa using h9
    · cases h

theorem checkKey_run {kt : TypeId} {kd : TypeDesc} (hu : P.underlying kt = some kd) (hs : simpleKey kd = true) (b : Bool) (n : Nat) (v : Value) : (Instr.checkKey b (n + 1) kt v).run P w = .ok () w := by
  cases kd <;> simp [simpleKey] at hs <;> simp [Instr.checkKey, run_underlying hu]
theorem findKey_run {kt : TypeId} {kd : TypeDesc} (hu : P.underlying kt = some kd) {rk : Value} {rs : List MapEntry} {r : Option (Nat × Value)} (h : Instr.findNow kd rk rs 0 = some r) : (Instr.findKey kt rk rs).run P w = .ok r w := by
  simp [Instr.findKey, run_underlying hu, h]

/-- The entries that a map value has. -/
def Entries (w : World) (rm : Value) (rs : List MapEntry) : Prop := (rm = .map none ∧ rs = []) ∨ ∃ b arr clock, rm = .map (some b) ∧ w.heap[b]? = some (.map arr clock) ∧ rs = arr.toList

theorem lookup_hit {t key elem : TypeId} (hu : P.underlying t = some (.map key elem)) {kd : TypeDesc} (hkd : P.underlying key = some kd) (hs : simpleKey kd = true) {rm rk : Value} {rs : List MapEntry} (he : Entries w rm rs)
    {j : Nat} {rv : Value} (hf : Instr.findNow kd rk rs 0 = some (some (j, rv))) (ok : Bool) : (Instr.lookup t rm rk ok).run P w = .ok (if ok then .tuple #[rv, .bool true] else rv) w := by
  rcases he with ⟨rfl, rfl⟩ | ⟨b, arr, clock, rfl, hb, rfl⟩
  · simp [Instr.findNow] at hf
  · simp [Instr.lookup, run_underlying hu, getObj_run hb, checkKey_run hkd hs, findKey_run hkd hf]
theorem lookup_miss {t key elem : TypeId} (hu : P.underlying t = some (.map key elem)) {kd : TypeDesc} (hkd : P.underlying key = some kd) (hs : simpleKey kd = true) {rm rk rz : Value} {rs : List MapEntry} (he : Entries w rm rs)
    (hf : Instr.findNow kd rk rs 0 = some none) (hz : (zeroValue elem).run P w = .ok rz w) (ok : Bool) : (Instr.lookup t rm rk ok).run P w = .ok (if ok then .tuple #[rz, .bool false] else rz) w := by
  rcases he with ⟨rfl, rfl⟩ | ⟨b, arr, clock, rfl, hb, rfl⟩
  · simp [Instr.lookup, run_underlying hu, checkKey_run hkd hs, findKey_run (w := w) hkd hf, hz]
  · simp [Instr.lookup, run_underlying hu, getObj_run hb, checkKey_run hkd hs, findKey_run hkd hf, hz]

theorem lookupT_ok {t : TypeId} {m k v : TV} {rm rk : Value} {ok : Bool} (hR : Rel P g w s) (hm : VRel g rm m) (hk : VRel g rk k) (h : lookupT P s t m k ok = some v) :
    ∃ rv, (Instr.lookup t rm rk ok).run P w = .ok rv w ∧ VRel g rv v := by
  unfold lookupT at h
  split at h
  · rename_i key elem hu
    simp only at h
    split at h
    · rename_i kd es hkd hes
      split at h
      · cases h
      · rename_i hsk
        have hsk' : simpleKey kd = true := by simpa using hsk
        have hes' : ∃ rs : List MapEntry, EntRel g rs es ∧ Entries w rm rs := by
          split at hes
          · cases hes
            cases hm
            exact ⟨[], .nil, .inl ⟨rfl, rfl⟩⟩
          · rename_i o
            split at hes
            · rename_i es' clock ho
              cases hes
              cases hm with
              | map _ b e =>
                obtain ⟨ob, h1, h2⟩ := hR.obj o b e
                rw [ho] at h1
                cases h1
                obtain ⟨rs, h3, h4⟩ := h2
                exact ⟨rs.toList, h4, .inr ⟨b, rs, clock, rfl, h3, rfl⟩⟩
            · cases hes
          · cases hes
        obtain ⟨rs, he, hf⟩ := hes'
        split at h
        · rename_i j v' hfd
          have := findT_ok hk he 0 hfd
          simp only at this
          obtain ⟨rv, e, h1, h2, _⟩ := this
          cases h
          refine ⟨_, lookup_hit hu hkd hsk' hf h1 ok, ?_⟩
          cases ok with
          | true => exact .tup _ _ (.cons _ _ _ _ h2 (.cons _ _ _ _ (.bool _) .nil))
          | false => exact h2
        · rename_i hfd
          have h1 := findT_ok hk he 0 hfd
          simp only at h1
          obtain ⟨z, hz, rfl⟩ := Option.map_eq_some_iff.1 h
          obtain ⟨i, rz, _, _, _, hzr, hzv⟩ := zeroT_ok hz
          refine ⟨_, lookup_miss hu hkd hsk' hf h1 (hzr w) ok, ?_⟩
          cases ok with
          | true => exact .tup _ _ (.cons _ _ _ _ (hzv g) (.cons _ _ _ _ (.bool _) .nil))
          | false => exact hzv g
        · cases h
    · cases h
  · cases h

/-! ### Building -/
theorem foldl_splice : ∀ (vs : List Value) (off : Nat) (cells : Array Value) (k : Nat), off + k + vs.length ≤ cells.size →
    ((vs.zipIdx k).foldl (fun cs (p : Value × Nat) => cs.setIfInBounds (off + p.2) p.1) cells).toList = cells.toList.take (off + k) ++ vs ++ cells.toList.drop (off + k + vs.length)
  | [], off, cells, k, h => by simp
  | v :: vs, off, cells, k, h => by
    simp only [List.length_cons] at h
    simp only [List.zipIdx_cons, List.foldl_cons]
    rw [foldl_splice vs off _ (k + 1) (by simp; omega)]
    have e := list_seg_step cells.toList (off + k) v vs (by simp; omega)
    simpa [Array.toList_setIfInBounds, Nat.add_assoc] using e

inductive PartRel (g : G) : List (Nat × Value) → List (Nat × TV) → Prop where
  | nil : PartRel g [] []
  | cons (i : Nat) (v : Value) (t : TV) (vs : List (Nat × Value)) (ts : List (Nat × TV)) : VRel g v t → PartRel g vs ts → PartRel g ((i, v) :: vs) ((i, t) :: ts)

theorem fill_ok {place : Nat → Option (Nat × Nat)} : ∀ {parts : List (Nat × Value)} {tparts : List (Nat × TV)} (hp : PartRel g parts tparts) {cells : Array Value} {cs cs' : List TV}, VRels g cells.toList cs → fillT place cs tparts = some cs' →
    ∃ cells', Instr.fill place cells parts = some cells' ∧ VRels g cells'.toList cs' := by
  intro parts tparts hp
  induction hp with
  | nil => intro cells cs cs' h hf; simp [fillT] at hf; subst hf; exact ⟨cells, rfl, h⟩
  | cons i v t vs ts r _ ih =>
    intro cells cs cs' h hf
    simp only [fillT] at hf
    split at hf
    · cases hf
    · rename_i off size hpl
      split at hf
      · cases hf
      · rename_i hc
        simp only [ne_eq, Bool.or_eq_true, decide_eq_true_eq, not_or, Decidable.not_not] at hc
        obtain ⟨⟨c1, c2⟩, c3⟩ := hc
        have hj : t ≠ .junk := fun e => by subst e; simp [isJunk] at c3
        have hr := r.cells hj
        have hl : v.cells.size = size := by rw [← c1, ← hr.length]; simp
        have hlen : cells.size = cs.length := by rw [← h.length]; simp
        have hfold := foldl_splice v.cells.toList off cells 0 (by simp; omega)
        simp only [Nat.add_zero] at hfold
        have hz : (v.cells.zipIdx.foldl (fun cs (p : Value × Nat) => cs.setIfInBounds (off + p.2) p.1) cells).toList = cells.toList.take off ++ v.cells.toList ++ cells.toList.drop (off + v.cells.toList.length) := by
          rw [← hfold, ← Array.foldl_toList, Array.toList_zipIdx]
        have hrel : VRels g (v.cells.zipIdx.foldl (fun cs (p : Value × Nat) => cs.setIfInBounds (off + p.2) p.1) cells).toList (splice cs off t.cells) := by
          rw [hz]
          unfold splice
          rw [hr.length]
          exact ((h.take _).append hr).append (h.drop _)
        obtain ⟨cells', h1, h2⟩ := ih hrel hf
        refine ⟨cells', ?_, h2⟩
        simp only [Instr.fill, hpl]
        rw [if_neg (by simp; omega)]
        exact h1
end
end Go.Proofs.YtmmofmkencnldaaGreatDoor.TV
