/-
  TV: each operation on plain values is the model's own (3): slices, addresses, loads. (8 texts, one behind the other)
-/
import Derived.Test.YthnhbejjikgifaaGreatDoorM01

namespace Go.Proofs.YthnhbejjikgifaaGreatDoor.TV
open Go Go.RowKit
set_option linter.unusedSimpArgs false
set_option linter.unusedVariables false

section
variable {P : Program} {g : G} {w : World} {s : St}

/-! ### Elements and cells -/
theorem flat_length {es : List TV} {size : Nat} (h : ∀ e, e ∈ es → e.cells.length = size) : (es.flatMap TV.cells).length = es.length * size := by
  induction es with
  | nil => simp
  | cons e es ih =>
    simp only [List.flatMap_cons, List.length_append, List.length_cons, h e List.mem_cons_self, ih fun e he => h e (List.mem_cons_of_mem _ he)]
    rw [Nat.succ_mul]; omega
theorem flat_take {es : List TV} {size : Nat} (h : ∀ e, e ∈ es → e.cells.length = size) (n : Nat) : (es.take n).flatMap TV.cells = (es.flatMap TV.cells).take (n * size) := by
  induction es generalizing n with
  | nil => simp
  | cons e es ih =>
    cases n with
    | zero => simp
    | succ n =>
      have he := h e List.mem_cons_self
      simp only [List.take_succ_cons, List.flatMap_cons, ih fun e he => h e (List.mem_cons_of_mem _ he)]
      rw [List.take_append, he, Nat.succ_mul, List.take_of_length_le (l := e.cells) (by omega)]
      congr 2
      omega
theorem flat_drop {es : List TV} {size : Nat} (h : ∀ e, e ∈ es → e.cells.length = size) (n : Nat) : (es.drop n).flatMap TV.cells = (es.flatMap TV.cells).drop (n * size) := by
  induction es generalizing n with
  | nil => simp
  | cons e es ih =>
    cases n with
    | zero => simp
    | succ n =>
      have he := h e List.mem_cons_self
      simp only [List.drop_succ_cons, List.flatMap_cons, ih fun e he => h e (List.mem_cons_of_mem _ he)]
      rw [List.drop_append, he, Nat.succ_mul, List.drop_of_length_le (l := e.cells) (by omega)]
      simp
theorem flat_get {es : List TV} {size : Nat} (h : ∀ e, e ∈ es → e.cells.length = size) {n : Nat} {e : TV} (he : es[n]? = some e) : e.cells = ((es.flatMap TV.cells).drop (n * size)).take size := by
  have h1 : es.drop n = e :: es.drop (n + 1) := by
    obtain ⟨hn, rfl⟩ := List.getElem?_eq_some_iff.1 he
    exact List.drop_eq_getElem_cons hn
  rw [← flat_drop h n, h1, List.flatMap_cons]
  have := h e (List.mem_of_getElem? he)
  rw [List.take_append, this, List.take_of_length_le (by omega)]
  simp

theorem SolAt.drop {b off : Nat} {vs : List Value} (h : SolAt g b off vs) (k : Nat) : SolAt g b (off + k) (vs.drop k) := fun i v e => by
  rw [List.getElem?_drop] at e
  rw [Nat.add_assoc]
  exact h _ _ e
theorem SolAt.take {b off : Nat} {vs : List Value} (h : SolAt g b off vs) (k : Nat) : SolAt g b off (vs.take k) := fun i v e => by
  rw [List.getElem?_take] at e
  split at e
  · exact h _ _ e
  · cases e

inductive OptRel (g : G) : Option Value → Option TV → Prop where
  | none : OptRel g none none
  | some (v : Value) (t : TV) : VRel g v t → OptRel g (some v) (some t)

theorem bound_ok {v : Value} {k : IntKind} {n : Int} (hv : VRel g v (.int k n)) {y : Nat} (h0 : 0 ≤ n) (h1 : n.toNat ≤ y) (code : BoundsCode) : (Instr.sliceBound v y code).run P w = .ok n.toNat w := by
  cases hv
  have : n ≤ (y : Int) := by omega
  simp [Instr.sliceBound, asIntOf, h0, this]

theorem natOf_cases {x : Option TV} {d n : Nat} (e : natOf x d = some n) : (x = none ∧ n = d) ∨ ∃ k i, x = some (.int k i) ∧ 0 ≤ i ∧ n = i.toNat := by
  unfold natOf at e
  split at e
  · cases e; exact .inl ⟨rfl, rfl⟩
  · split at e
    · cases e; exact .inr ⟨_, _, rfl, by assumption, rfl⟩
    · cases e
  · cases e

/-- The bounds of a slice expression: 'cap' is what the model sees, 'cap0' what the plain value knows. -/
theorem bounds_ok {len cap cap0 : Nat} {lo hi mx : Option TV} {rlo rhi rmx : Option Value} (hlo : OptRel g rlo lo) (hhi : OptRel g rhi hi) (hmx : OptRel g rmx mx) (hc : cap0 ≤ cap) {l h m : Nat}
    (hb : sliceBounds len cap0 lo hi mx = some (l, h, m)) (isSlice : Bool) :
    (Instr.sliceBounds isSlice len cap rlo rhi rmx).run P w = .ok (l, h, if mx.isSome then m else cap) w ∧ l ≤ h ∧ h ≤ m ∧ m ≤ cap0 ∧ (mx = none → m = cap0) := by
  unfold sliceBounds at hb
  split at hb
  · rename_i m' h' l' em eh el
    split at hb
    · rename_i hcond
      cases hb
      simp only [Bool.and_eq_true, decide_eq_true_eq, Bool.or_eq_true] at hcond
      obtain ⟨⟨⟨c1, c2⟩, c3⟩, c4⟩ := hcond
      refine ⟨?_, c1, c2, c3, ?_⟩
      · rcases natOf_cases em with ⟨rfl, rfl⟩ | ⟨km, im, rfl, hm0, rfl⟩
        · cases hmx
          rcases natOf_cases eh with ⟨rfl, rfl⟩ | ⟨kh, ih, rfl, hh0, rfl⟩
          · cases hhi
            rcases natOf_cases el with ⟨rfl, rfl⟩ | ⟨kl, il, rfl, hl0, rfl⟩
            · cases hlo; simp [Instr.sliceBounds]
            · cases hlo with | some _ _ r => simp [Instr.sliceBounds, bound_ok r hl0 c1]
          · cases hhi with
            | some _ _ rh =>
              rcases natOf_cases el with ⟨rfl, rfl⟩ | ⟨kl, il, rfl, hl0, rfl⟩
              · cases hlo; simp [Instr.sliceBounds, bound_ok rh hh0 (show ih.toNat ≤ cap by omega)]
              · cases hlo with | some _ _ r => simp [Instr.sliceBounds, bound_ok rh hh0 (show ih.toNat ≤ cap by omega), bound_ok r hl0 c1]
        · cases hmx with
          | some _ _ rm =>
            rcases natOf_cases eh with ⟨rfl, rfl⟩ | ⟨kh, ih, rfl, hh0, rfl⟩
            · simp at c4
            · cases hhi with
              | some _ _ rh =>
                rcases natOf_cases el with ⟨rfl, rfl⟩ | ⟨kl, il, rfl, hl0, rfl⟩
                · cases hlo; simp [Instr.sliceBounds, bound_ok rm hm0 (show im.toNat ≤ cap by omega), bound_ok rh hh0 c2]
                · cases hlo with | some _ _ r => simp [Instr.sliceBounds, bound_ok rm hm0 (show im.toNat ≤ cap by omega), bound_ok rh hh0 c2, bound_ok r hl0 c1]
      · intro e
        subst e
        rcases natOf_cases em with ⟨_, rfl⟩ | ⟨km, im, e, _⟩
        · rfl
        · cases e
    · cases hb
  · cases hb

theorem add_plain' (b o n : Nat) : (⟨b, o, none⟩ : Addr).add n = ⟨b, o + n, none⟩ := by unfold Addr.add; split <;> simp_all

theorem info_of_cells {e : TypeId} (h : P.cellsOf e ≠ 0) : ∃ i, P.info? e = some i ∧ i.size = P.cellsOf e := by
  cases hq : P.info? e with
  | some i => exact ⟨i, rfl, (cellsOf_info hq).symm⟩
  | none => simp [Program.cellsOf, hq] at h
theorem sizeOf_run' {e : TypeId} (h : P.cellsOf e ≠ 0) : (sizeOf e).run P w = .ok (P.cellsOf e) w := by
  obtain ⟨i, h1, h2⟩ := info_of_cells h
  exact sizeOf_run h1

theorem mem_slice {es : List TV} {a b : Nat} {e : TV} (h : e ∈ (es.take b).drop a) : e ∈ es := List.mem_of_mem_take (List.mem_of_mem_drop h)

theorem piece_ok {t elem : TypeId} (hu : P.underlying t = some (.slice elem)) (hz : P.cellsOf elem ≠ 0) {b : Bool} {es : List TV} {tok : Tok} {rx : Value} (hx : VRel g rx (.slice b es tok))
    (hsz : headOk (P.cellsOf elem) es = true)
    {lo hi mx : Option TV} {rlo rhi rmx : Option Value} (hlo : OptRel g rlo lo) (hhi : OptRel g rhi hi) (hmx : OptRel g rmx mx) {l h m : Nat} (eb : sliceBounds es.length es.length lo hi mx = some (l, h, m)) :
    ∃ rv, (Instr.slice t rx rlo rhi rmx).run P w = .ok rv w ∧ VRel g rv (.slice b ((es.take h).drop l) (sliceTok tok es.length l h m mx.isSome)) := by
  have hs := sizeOf_run' (w := w) hz
  cases hx with
  | nils _ hnt =>
    obtain ⟨hb, h1, h2, h3, h4⟩ := bounds_ok (P := P) (w := w) hlo hhi hmx (Nat.le_refl _) eb true
    have hm : m = 0 := by simpa using h3
    subst hm
    have : l = 0 := by omega
    subst this
    refine ⟨.slice none 0 0, ?_, ?_⟩
    · have hb' : (Instr.sliceBounds true 0 0 rlo rhi rmx).run P w = .ok (0, h, if mx.isSome then 0 else 0) w := hb
      have hh : h = 0 := by omega
      simp [Instr.slice, run_underlying hu, hb', hs, hh]
    · have : ((([] : List TV).take h).drop 0) = [] := by simp
      rw [this]
      refine .nils _ (fun i e => ?_)
      unfold sliceTok at e
      split at e
      · cases e
      · split at e
        · split at e <;> cases e
        · exact hnt _ rfl
        · cases e
  | empty a cap _ hnt hex =>
    obtain ⟨hb, h1, h2, h3, h4⟩ := bounds_ok (P := P) (w := w) hlo hhi hmx (Nat.zero_le cap) eb true
    have hm : m = 0 := by simpa using h3
    subst hm
    have hl : l = 0 := by omega
    subst hl
    have hh : h = 0 := by omega
    subst hh
    have hb' : (Instr.sliceBounds true 0 cap rlo rhi rmx).run P w = .ok (0, 0, if mx.isSome then 0 else cap) w := hb
    have hrun : (Instr.slice t (.slice (some a) 0 cap) rlo rhi rmx).run P w = .ok (.slice (if (if mx.isSome then 0 else cap) = 0 then some a else some (a.add (0 * P.cellsOf elem))) 0 ((if mx.isSome then 0 else cap) - 0)) w := by
      simp [Instr.slice, run_underlying hu, hb', hs]
    refine ⟨_, hrun, ?_⟩
    have : ((([] : List TV).take 0).drop 0) = [] := by simp
    rw [this]
    have tokne : ∀ i, sliceTok tok ([] : List TV).length 0 0 0 mx.isSome ≠ .tip i := fun i e => by
      unfold sliceTok at e
      split at e
      · cases e
      · split at e
        · split at e <;> cases e
        · exact hnt _ rfl
        · cases e
    have tokex : sliceTok tok ([] : List TV).length 0 0 0 mx.isSome = .exact → (if mx.isSome then 0 else cap) - 0 = 0 := fun e => by
      cases hq : mx.isSome with
      | true => simp
      | false =>
        simp only [hq, Bool.false_eq_true, if_false]
        unfold sliceTok at e
        simp only [hq, Bool.false_and, Bool.false_eq_true, if_false] at e
        split at e
        · simpa using hex rfl
        · split at e <;> cases e
        · cases e
    by_cases hq : (if mx.isSome then 0 else cap) = 0
    · rw [if_pos hq]
      exact .empty _ _ _ tokne tokex
    · rw [if_neg hq]
      exact .empty _ _ _ tokne tokex
  | slice bl off n cap size vs _ _ hne hn hcap hs0 hse hsol hrel htok =>
    have hsize : size = P.cellsOf elem := by
      cases es with
      | nil => exact absurd rfl hne
      | cons e _ => have := hse e List.mem_cons_self; simp [headOk] at hsz; omega
    subst hsize
    obtain ⟨hb, h1, h2, h3, h4⟩ := bounds_ok (P := P) (w := w) hlo hhi hmx (show es.length ≤ cap by omega) eb true
    have hrun : (Instr.slice t (.slice (some ⟨bl, off, none⟩) n cap) rlo rhi rmx).run P w =
        .ok (.slice (if (if mx.isSome then m else cap) = l then some ⟨bl, off, none⟩ else some ⟨bl, off + l * P.cellsOf elem, none⟩) (h - l) ((if mx.isSome then m else cap) - l)) w := by
      subst hn
      simp [Instr.slice, run_underlying hu, hb, hs, add_plain']
    refine ⟨_, hrun, ?_⟩
    have hmc : h ≤ (if mx.isSome then m else cap) := by split <;> omega
    by_cases hhl : h = l
    · subst hhl
      have he : (es.take h).drop h = [] := by simp
      rw [he, Nat.sub_self]
      have tokne : ∀ i, sliceTok tok es.length h h m mx.isSome ≠ .tip i := fun i e => by
        unfold sliceTok at e
        split at e
        · cases e
        · split at e
          · split at e <;> cases e
          · split at e
            · rename_i hc
              simp only [Bool.and_eq_true, beq_iff_eq] at hc
              have : es.length = 0 := by omega
              exact hne (List.length_eq_zero_iff.1 this)
            · cases e
          · cases e
      have tokex : sliceTok tok es.length h h m mx.isSome = .exact → (if mx.isSome then m else cap) - h = 0 := fun e => by
        unfold sliceTok at e
        split at e
        · rename_i hc
          simp only [Bool.and_eq_true, beq_iff_eq] at hc
          rw [if_pos hc.1]
          omega
        · rename_i hc
          split at e
          · split at e
            · rename_i hq
              simp only [beq_iff_eq] at hq
              have hcn : cap = n := htok
              cases hx : mx.isSome with
              | true =>
                simp only [hx, Bool.true_and, beq_iff_eq] at hc
                omega
              | false => simp; omega
            · cases e
          · split at e <;> cases e
          · cases e
      by_cases hq : (if mx.isSome then m else cap) = h
      · rw [if_pos hq]
        exact .empty _ _ _ tokne tokex
      · rw [if_neg hq]
        exact .empty _ _ _ tokne tokex
    · have hml : (if mx.isSome then m else cap) ≠ l := by omega
      rw [if_neg hml]
      have hes : ((es.take h).drop l).length = h - l := by simp; omega
      refine .slice bl _ _ _ (P.cellsOf elem) ((vs.take (h * P.cellsOf elem)).drop (l * P.cellsOf elem)) _ _ (fun e => ?_) hes (by omega) hs0 (fun e he => hse e (mem_slice he)) ?_ ?_ ?_
      · rw [e] at hes
        simp at hes
        omega
      · exact (hsol.take _).drop _
      · rw [flat_drop (fun e he => hse e (List.mem_of_mem_take he)), flat_take hse]
        exact (hrel.take _).drop _
      · unfold sliceTok
        split
        · rename_i hc
          simp only [Bool.and_eq_true, beq_iff_eq] at hc
          show _ - l = h - l
          rw [if_pos hc.1]
          omega
        · rename_i hc
          cases tok with
          | unk => trivial
          | exact =>
            simp only
            split
            · rename_i hq
              simp only [beq_iff_eq] at hq
              have hcn : cap = n := htok
              show _ - l = h - l
              cases hx : mx.isSome with
              | true =>
                simp only [hx, Bool.true_and, beq_iff_eq] at hc
                omega
              | false => simp; omega
            · trivial
          | tip i =>
            simp only
            split
            · rename_i hq
              simp only [Bool.and_eq_true, beq_iff_eq] at hq
              obtain ⟨k1, k2, k3, k4⟩ := htok
              obtain ⟨rfl, hq2⟩ := hq
              refine ⟨k1, by omega, by omega, fun e => ?_⟩
              have := k4 (by omega)
              rw [this]
              congr 1
              cases hx : mx.isSome with
              | true =>
                simp only [hx, Bool.true_and, beq_iff_eq] at hc
                omega
              | false => simp
            · trivial

theorem sliceT_ok {t : TypeId} {x v : TV} {lo hi mx : Option TV} {rx : Value} {rlo rhi rmx : Option Value} (hx : VRel g rx x) (hlo : OptRel g rlo lo) (hhi : OptRel g rhi hi) (hmx : OptRel g rmx mx)
    (h : sliceT P t x lo hi mx = some v) : ∃ rv, (Instr.sliceAt t rx rlo rhi rmx).run P w = .ok rv w ∧ VRel g rv v := by
  unfold sliceT at h
  split at h
  · rename_i l hu
    cases hx with
    | str sb _ e =>
      split at h
      · cases h
      · rename_i hmn
        split at h
        · rename_i lo' hi' m' eb
          cases h
          obtain ⟨hb, h1, h2, h3, h4⟩ := bounds_ok (P := P) (w := w) hlo hhi hmx (Nat.le_refl l.length) eb false
          have hsz : sb.size = l.length := by rw [← e]; exact Array.length_toList.symm
          have hn : mx = none := by cases mx <;> simp_all
          subst hn
          cases hmx
          rw [← hsz] at hb
          refine ⟨.string (sb.extract lo' hi'), by simp [Instr.sliceAt, Instr.slice, run_underlying hu, hb], .str _ _ ?_⟩
          rw [← e]
          simp [ByteArray.data_extract, Array.toList_extract, List.drop_take]
        · cases h
  · rename_i elem b es tok hu
    split at h
    · cases h
    · rename_i hz
      simp only [Bool.or_eq_true, decide_eq_true_eq, Bool.not_eq_true'] at hz
      split at h
      · rename_i lo' hi' m' eb
        cases h
        obtain ⟨rv, h1, h2⟩ := piece_ok (w := w) hu (fun e => hz (.inl e)) hx (by cases hq : headOk (P.cellsOf elem) es with | true => rfl | false => exact absurd (.inr hq) hz) hlo hhi hmx eb
        exact ⟨rv, by simpa [Instr.sliceAt, run_underlying hu] using h1, h2⟩
      · cases h
  · rename_i elem o off len cap hu
    split at h
    · cases h
    · rename_i hz
      split at h
      · rename_i lo' hi' m' eb
        cases h
        cases hx with
        | osl a _ _ _ _ cap' ha hlc hcc =>
          obtain ⟨hb, h1, h2, h3, h4⟩ := bounds_ok (P := P) (w := w) hlo hhi hmx hcc eb true
          have hm : m' ≤ (if mx.isSome then m' else cap') := by
            cases hq : mx.isSome with
            | true => exact Nat.le_refl _
            | false => have := h4 (by cases mx <;> simp_all); simp; omega
          generalize (if mx.isSome then m' else cap') = mr at hb hm
          refine ⟨_, by simp [Instr.sliceAt, Instr.slice, run_underlying hu, hb, sizeOf_run' (w := w) hz]; rfl, ?_⟩
          by_cases hc : mr = lo'
          · rw [if_pos hc]
            exact .osl _ _ _ _ _ _ (fun e => absurd (by omega) e) (by omega) (by omega)
          · rw [if_neg hc]
            by_cases hc2 : m' - lo' = 0
            · rw [hc2]
              exact .osl _ _ _ _ _ _ (fun e => absurd rfl e) (by omega) (by omega)
            · obtain ⟨bl, e1, rfl⟩ := ha (by omega)
              rw [add_plain']
              exact .osl _ _ _ _ _ _ (fun _ => ⟨bl, e1, rfl⟩) (by omega) (by omega)
      · cases h
  · rename_i n elem o off hu
    split at h
    · cases h
    · rename_i hz
      split at h
      · rename_i lo' hi' m' eb
        cases h
        cases hx with
        | ptr _ bl _ e1 =>
          obtain ⟨hb, h1, h2, h3, h4⟩ := bounds_ok (P := P) (w := w) hlo hhi hmx (Nat.le_refl n) eb false
          have hm : (if mx.isSome then m' else n) = m' := by
            cases hq : mx.isSome with
            | true => rfl
            | false => have := h4 (by cases mx <;> simp_all); simp [this]
          rw [hm] at hb
          refine ⟨_, by simp [Instr.sliceAt, Instr.sureAddr, run_underlying hu, hb, sizeOf_run' (w := w) hz]; rfl, ?_⟩
          by_cases hc : m' = lo'
          · rw [if_pos hc]
            exact .osl _ _ _ _ _ _ (fun e => absurd (by omega) e) (by omega) (Nat.le_refl _)
          · rw [if_neg hc, add_plain']
            exact .osl _ _ _ _ _ _ (fun _ => ⟨bl, e1, rfl⟩) (by omega) (Nat.le_refl _)
      · cases h
  · cases h
end
end Go.Proofs.YthnhbejjikgifaaGreatDoor.TV

/-
  TV: each operation on plain values is the model's own (4): addresses, loads, lengths, conversions, what is built.
-/
namespace Go.Proofs.YthnhbejjikgifaaGreatDoor.TV
open Go Go.RowKit
set_option linter.unusedSimpArgs false
set_option linter.unusedVariables false

section
variable {P : Program} {g : G} {w : World} {s : St}

theorem fieldAddrT_ok {t : TypeId} {x v : TV} {rx : Value} {f : Nat} (hx : VRel g rx x) (h : fieldAddrT P t x f = some v) : ∃ rv, (Instr.fieldAt t rx f).run P w = .ok rv w ∧ VRel g rv v := by
  unfold fieldAddrT at h
  split at h
  · rename_i fields hu
    split at h
    · rename_i fd hf
      split at h
      · cases h
      · rename_i hz
        have hp : ∀ a : Addr, (fieldPlace a fd).run P w = .ok (a.add fd.offset) w := fun a => by
          simp [fieldPlace, sizeOf_run' (w := w) hz, hz]
        split at h
        · cases hx with
          | ptr _ b _ e =>
            cases h
            refine ⟨.pointer (some ⟨b, _ + fd.offset, none⟩), ?_, .ptr _ _ _ e⟩
            simp [Instr.fieldAt, run_underlying hu, hf, Instr.sureAddr, hp, add_plain']
        · cases hx with
          | eptr b off vs _ e r =>
            cases h
            refine ⟨.pointer (some ⟨b, off + fd.offset, none⟩), ?_, .eptr _ _ _ _ (e.drop _) (r.drop _)⟩
            simp [Instr.fieldAt, run_underlying hu, hf, Instr.sureAddr, hp, add_plain']
        · cases h
    · cases h
  · cases h

theorem indexAddrT_ok {t : TypeId} {x i v : TV} {rx ri : Value} (hx : VRel g rx x) (hi : VRel g ri i) (h : indexAddrT P t x i = some v) : ∃ rv, (Instr.indexAt t rx ri).run P w = .ok rv w ∧ VRel g rv v := by
  unfold indexAddrT at h
  split at h
  · rename_i k n
    cases hi
    split at h
    · cases h
    · rename_i hn
      have hn0 : 0 ≤ n := by omega
      split at h
      · rename_i elem b es tok hu
        split at h
        · rename_i e he
          split at h
          · rename_i hs
            cases h
            have hlt : n.toNat < es.length := (List.getElem?_eq_some_iff.1 he).1
            have hlt' : n < (es.length : Int) := by omega
            cases hx with
            | nils _ _ => simp at hlt
            | empty _ _ _ _ _ => simp at hlt
            | slice bl off m cap size vs _ _ hne hm hcap hs0 hse hsol hrel htok =>
              have hsize : size = P.cellsOf elem := by have := hse e (List.mem_of_getElem? he); omega
              subst hsize
              refine ⟨.pointer (some ⟨bl, off + n.toNat * P.cellsOf elem, none⟩), ?_, .eptr _ _ ((vs.drop (n.toNat * P.cellsOf elem)).take (P.cellsOf elem)) _ ((hsol.drop _).take _) ?_⟩
              · subst hm
                simp [Instr.indexAt, run_underlying hu, asIntOf, hn0, hlt', sizeOf_run' (w := w) (show P.cellsOf elem ≠ 0 by omega), add_plain']
              · rw [flat_get hse he]
                exact (hrel.drop _).take _
          · cases h
        · cases h
      · rename_i elem o off len cap hu
        split at h
        · rename_i hlt
          cases h
          simp only [Bool.and_eq_true, decide_eq_true_eq] at hlt
          cases hx with
          | osl a _ _ _ _ cap' ha hlc hcc =>
            obtain ⟨bl, e1, rfl⟩ := ha (by omega)
            refine ⟨.pointer (some ⟨bl, off + n.toNat * P.cellsOf elem, none⟩), ?_, .ptr _ _ _ e1⟩
            simp [Instr.indexAt, run_underlying hu, asIntOf, hn0, hlt.1, sizeOf_run' (w := w) (show P.cellsOf elem ≠ 0 by omega), add_plain']
        · cases h
      · rename_i len elem o off hu
        split at h
        · rename_i hlt
          cases h
          simp only [Bool.and_eq_true, decide_eq_true_eq] at hlt
          cases hx with
          | ptr _ bl _ e1 =>
            refine ⟨.pointer (some ⟨bl, off + n.toNat * P.cellsOf elem, none⟩), ?_, .ptr _ _ _ e1⟩
            simp [Instr.indexAt, Instr.sureAddr, run_underlying hu, asIntOf, hn0, hlt.1, sizeOf_run' (w := w) (show P.cellsOf elem ≠ 0 by omega), add_plain']
        · cases h
      · rename_i len elem cs hu
        split at h
        · rename_i hlt
          cases h
          simp only [Bool.and_eq_true, decide_eq_true_eq] at hlt
          cases hx with
          | eptr bl off vs _ e r =>
            refine ⟨.pointer (some ⟨bl, off + n.toNat * P.cellsOf elem, none⟩), ?_, .eptr _ _ _ _ (e.drop _) (r.drop _)⟩
            simp [Instr.indexAt, Instr.sureAddr, run_underlying hu, asIntOf, hn0, hlt.1, sizeOf_run' (w := w) (show P.cellsOf elem ≠ 0 by omega), add_plain']
        · cases h
      · cases h
  · cases h

theorem indexT_ok {t : TypeId} {x i v : TV} {rx ri : Value} (hx : VRel g rx x) (hi : VRel g ri i) (h : indexT P t x i = some v) : ∃ rv, (Instr.index t rx ri).run P w = .ok rv w ∧ VRel g rv v := by
  unfold indexT at h
  split at h
  · rename_i k n
    cases hi
    split at h
    · cases h
    · rename_i hn
      have hn0 : 0 ≤ n := by omega
      split at h
      · rename_i len elem cs hu
        split at h
        · rename_i hlt
          cases hx with
          | agg vs _ r =>
            have hk := take_known h
            obtain ⟨d, i, hd, hi⟩ := hk
            obtain ⟨rv, h1, h2⟩ := part_ok (w := w) r _ h
            exact ⟨rv, by simp [Instr.index, asIntOf, run_underlying hu, hn0, hlt, sizeOf_run hi, h1], h2⟩
        · cases h
      · rename_i b hu
        cases hx with
        | str sb _ e =>
          obtain ⟨c, hc, rfl⟩ := Option.map_eq_some_iff.1 h
          refine ⟨.int .u8 c.toNat, ?_, .int _ _⟩
          have hb : sb[n.toNat]? = some c := by
            rw [← e] at hc
            obtain ⟨hl, hv⟩ := List.getElem?_eq_some_iff.1 hc
            have hl' : n.toNat < sb.size := by simpa using hl
            rw [getElem?_pos sb n.toNat hl']
            congr 1
          simp [Instr.index, asIntOf, run_underlying hu, hn0, hb]
      · cases h
  · cases h

theorem fieldT_ok {t : TypeId} {x v : TV} {rx : Value} {f : Nat} (hx : VRel g rx x) (h : fieldT P t x f = some v) : ∃ rv, (Instr.field t rx f).run P w = .ok rv w ∧ VRel g rv v := by
  unfold fieldT at h
  split at h
  · rename_i fields cs hu
    cases hx with
    | agg vs _ r =>
      split at h
      · rename_i fd hf
        obtain ⟨rv, h1, h2⟩ := part_ok (w := w) r _ h
        exact ⟨rv, by simp [Instr.field, run_underlying hu, hf, asAgg, h1], h2⟩
      · cases h
  · cases h

theorem EntRel.length {rs : List MapEntry} {es : List (TV × TV × Nat)} (h : EntRel g rs es) : rs.length = es.length := by
  induction h with
  | nil => rfl
  | cons _ _ _ _ _ _ _ _ _ _ ih => simp [ih]
theorem getObj_run {b : Nat} {rs : Array MapEntry} {c : Nat} (h : w.heap[b]? = some (.map rs c)) : (getObj b).run P w = .ok (.map rs c) w := by
  simp [getObj, Sem.run, h]

theorem lenT_ok {t ty : TypeId} {x v : TV} {rx : Value} (hR : Rel P g w s) (hx : VRel g rx x) (h : lenT P s t x = some v) : ∃ rv, (Builtin.len_ #[t] ty #[rx]).run P w = .ok rv w ∧ VRel g rv v := by
  unfold lenT at h
  split at h
  · rename_i b hu
    cases hx with
    | str sb _ e =>
      cases h
      have hsz : sb.size = b.length := by rw [← e]; exact Array.length_toList.symm
      exact ⟨.int .i64 b.length, by simp [Builtin.len_, run_underlying hu, goInt, hsz], .int _ _⟩
  · rename_i hu
    cases h
    exact ⟨_, by simp [Builtin.len_, run_underlying hu, goInt], .int _ _⟩
  · rename_i hu
    cases h
    cases hx with
    | nils _ _ => exact ⟨_, by simp [Builtin.len_, run_underlying hu, goInt], .int _ _⟩
    | empty _ _ _ _ _ => exact ⟨_, by simp [Builtin.len_, run_underlying hu, goInt], .int _ _⟩
    | slice bl off m cap size vs _ _ hne hm hcap hs0 hse hsol hrel htok => subst hm; exact ⟨_, by simp [Builtin.len_, run_underlying hu, goInt], .int _ _⟩
  · rename_i hu
    cases h
    cases hx
    exact ⟨_, by simp [Builtin.len_, run_underlying hu, goInt], .int _ _⟩
  · rename_i hu
    cases h
    cases hx
    exact ⟨_, by simp [Builtin.len_, run_underlying hu, goInt], .int _ _⟩
  · rename_i o hu
    cases hx with
    | map _ b e =>
      split at h
      · rename_i es clock ho
        cases h
        obtain ⟨ob, h1, h2⟩ := hR.obj o b e
        rw [ho] at h1
        cases h1
        obtain ⟨rs, h3, h4⟩ := h2
        have hl : rs.size = es.length := by
          have : rs.toList.length = es.length := h4.length
          simpa using this
        exact ⟨_, by simp [Builtin.len_, run_underlying hu, getObj_run h3, goInt, hl], .int _ _⟩
      · cases h
  · cases h

theorem minT_ok {x y v : TV} {rx ry : Value} (hx : VRel g rx x) (hy : VRel g ry y) (ts : Array TypeId) (ty : TypeId) (h : minT x y = some v) : ∃ rv, (Builtin.min_ ts ty #[rx, ry]).run P w = .ok rv w ∧ VRel g rv v := by
  unfold minT at h
  split at h
  · cases hx; cases hy; cases h
    exact ⟨_, by simp [Builtin.min_, Builtin.min2], .int _ _⟩
  · cases h
theorem maxT_ok {x y v : TV} {rx ry : Value} (hx : VRel g rx x) (hy : VRel g ry y) (ts : Array TypeId) (ty : TypeId) (h : maxT x y = some v) : ∃ rv, (Builtin.max_ ts ty #[rx, ry]).run P w = .ok rv w ∧ VRel g rv v := by
  unfold maxT at h
  split at h
  · cases hx; cases hy; cases h
    exact ⟨_, by simp [Builtin.max_, Builtin.max2], .int _ _⟩
  · cases h

/-- A value of type t is read out of memory. -/
theorem loadVar_ok {t : TypeId} {b off : Nat} {vs : List Value} {cs : List TV} (hc : ∀ i v, vs[i]? = some v → w.cell? ⟨b, off + i, none⟩ = some v) (h : VRels g vs cs) {v : TV} (hv : take P t cs = some v) :
    ∃ rv, (loadVar t ⟨b, off, none⟩).run P w = .ok rv w ∧ VRel g rv v := by
  have hk := take_known hv
  rw [take_eq hk] at hv
  obtain ⟨d, i, hd, hi⟩ := hk
  unfold loadVar
  rw [Sem.run_bind, isAgg_run t hd]
  simp only [Result.andThen_ok]
  cases hagg : isAggT P t with
  | true =>
    rw [hagg] at hv
    simp only [if_true] at hv ⊢
    split at hv
    · rename_i hl
      cases hv
      have hlen : (vs.take (P.cellsOf t)).length = P.cellsOf t := by rw [List.length_take, h.length]; omega
      have := run_loadCells_list (P := P) w ⟨b, off, none⟩ (vs.take (P.cellsOf t)) (fun j v e => by
        rw [add_plain']
        rw [List.getElem?_take] at e
        split at e
        · exact hc j v e
        · cases e)
      rw [hlen] at this
      refine ⟨.agg (vs.take (P.cellsOf t)).toArray, ?_, .agg _ _ (h.take _)⟩
      simp [sizeOf_run hi, this]
    · cases hv
  | false =>
    rw [hagg] at hv
    simp only [Bool.false_eq_true, if_false] at hv ⊢
    have hd' : cs[0]? = some v := by rw [← List.head?_eq_getElem?]; exact hv
    obtain ⟨rv, h1, h2⟩ := h.get hd'
    have := hc 0 rv h1
    rw [Nat.add_zero] at this
    exact ⟨rv, by simp [load, Sem.run, this], h2⟩

theorem objCells_rel (hR : Rel P g w s) {o b : Nat} (e : g.φ o = some b) {cs : List TV} {t : TypeId} (h : objCells s o = some (cs, t)) :
    ∃ vs : List Value, (∀ i v, vs[i]? = some v → w.cell? ⟨b, i, none⟩ = some v) ∧ VRels g vs cs := by
  obtain ⟨ob, h1, h2⟩ := hR.obj o b e
  unfold objCells at h
  rw [h1] at h
  cases ob with
  | cells cs' t' =>
    simp at h
    obtain ⟨rfl, rfl⟩ := h
    obtain ⟨vs, h3, h4⟩ := h2
    refine ⟨_, fun i v hv => ?_, h4⟩
    rw [cell_of_row w b i vs t' (0, 0) h3]
    rw [List.getElem?_take] at hv
    split at hv
    · simpa using hv
    · cases hv
  | map _ _ => simp at h

theorem loadT_ok {t : TypeId} {p v : TV} {rp : Value} (hR : Rel P g w s) (hp : VRel g rp p) (h : loadT P s t p = some v) : ∃ rv, (Instr.loadAt t rp).run P w = .ok rv w ∧ VRel g rv v := by
  unfold loadT at h
  split at h
  · cases hp with
    | eptr b off vs cs e r =>
      obtain ⟨rv, h1, h2⟩ := loadVar_ok (w := w) (fun i v hv => hR.sol _ _ _ (e i v hv)) r h
      exact ⟨rv, by simpa [Instr.loadAt, Instr.sureAddr] using h1, h2⟩
  · rename_i o off
    cases hp with
    | ptr _ b _ e =>
      split at h
      · rename_i cs t' ho
        obtain ⟨vs, h1, h2⟩ := objCells_rel hR e ho
        obtain ⟨rv, h3, h4⟩ := loadVar_ok (w := w) (b := b) (off := off) (fun i v hv => by
          rw [List.getElem?_drop] at hv
          exact h1 _ _ hv) (h2.drop off) h
        exact ⟨rv, by simpa [Instr.loadAt, Instr.sureAddr] using h3, h4⟩
      · cases h
  · cases h
end
end Go.Proofs.YthnhbejjikgifaaGreatDoor.TV

/-
  TV: each operation on plain values is the model's own (5): look-ups, conversions, what is built.
-/
namespace Go.Proofs.YthnhbejjikgifaaGreatDoor.TV
open Go Go.RowKit
set_option linter.unusedSimpArgs false
set_option linter.unusedVariables false

section
variable {P : Program} {g : G} {w : World} {s : St}

theorem zeroT_ok {t : TypeId} {z : TV} (h : zeroT P t = some z) : ∃ i rz, P.info? t = some i ∧ i.zero = some rz ∧ z = ofConst rz ∧ (∀ w, (zeroValue t).run P w = .ok rz w) ∧ ∀ g, VRel g rz z := by
  unfold zeroT at h
  split at h
  · rename_i i hi
    obtain ⟨rz, hz, rfl⟩ := Option.map_eq_some_iff.1 h
    exact ⟨i, rz, hi, hz, rfl, fun w => by simp [zeroValue, typeInfo, hi, hz], fun g => VRel.const g rz⟩
  · cases h

theorem bytes_inj' {a b : ByteArray} {l : List UInt8} (h : a.data.toList = l) (h' : b.data.toList = l) : a = b := by
  cases a with
  | mk a =>
    cases b with
    | mk b => exact congrArg ByteArray.mk (Array.toList_inj.1 (h.trans h'.symm))

theorem findT_ok {kd : TypeDesc} {k : TV} {rk : Value} (hk : VRel g rk k) {rs : List MapEntry} {es : List (TV × TV × Nat)} (he : EntRel g rs es) : ∀ (i : Nat) {r : Option (Nat × TV)}, findT kd k es i = some r →
    match r with
    | none => Instr.findNow kd rk rs i = some none
    | some (j, v) => ∃ rv e, Instr.findNow kd rk rs i = some (some (j, rv)) ∧ VRel g rv v ∧ i ≤ j ∧ rs[j - i]? = some e ∧ e.key = rk := by
  induction he with
  | nil => intro i r h; simp [findT] at h; subst h; simp [Instr.findNow]
  | cons e kk vv n rs es h1 h2 h3 _ ih =>
    intro i r h
    simp only [findT] at h
    have same : ∀ b, keyEq kd k kk = some b → Instr.sameNow kd rk e.key = some b ∧ (b = true → e.key = rk) := by
      intro b hb
      unfold keyEq at hb
      split at hb
      · split at hb
        · rename_i hkk
          cases hb
          obtain ⟨ek, ev, eb⟩ := e
          simp only at h1
          cases hk; cases h1
          subst hkk
          exact ⟨by simp [Instr.sameNow], fun hb => by simp at hb; rw [hb]⟩
        · cases hb
      · cases hb
        obtain ⟨ek, ev, eb⟩ := e
        simp only at h1
        cases hk with
        | str sa _ ea =>
          cases h1 with
          | str sb _ eb' =>
            refine ⟨?_, fun hb => ?_⟩
            · simp only [Instr.sameNow, Option.some.injEq]
              rw [beq_toListBytes, bytes_of ea, bytes_of eb']
            · have hb' := eq_of_beq hb
              subst hb'
              rw [bytes_inj' ea eb']
      · cases hb
        obtain ⟨ek, ev, eb⟩ := e
        simp only at h1
        cases hk; cases h1
        exact ⟨by simp [Instr.sameNow], fun hb => by simp at hb; rw [hb]⟩
      · cases hb
    split at h
    · rename_i hq
      cases h
      obtain ⟨h4, h5⟩ := same true hq
      exact ⟨e.val, e, by simp [Instr.findNow, h4], h2, Nat.le_refl _, by simp, h5 rfl⟩
    · rename_i hq
      obtain ⟨h4, _⟩ := same false hq
      have := ih (i + 1) h
      cases r with
      | none => simp only at this ⊢; simp [Instr.findNow, h4, this]
      | some p =>
        obtain ⟨j, v⟩ := p
        simp only at this ⊢
        obtain ⟨rv, e', h6, h7, h8, h9, h10⟩ := this
        refine ⟨rv, e', by simp [Instr.findNow, h4, h6], h7, by omega, ?_, h10⟩
        have : j - i = (j - (i + 1)) + 1 := by omega
        rw [this]
        simpa using h9
    · cases h

theorem checkKey_run {kt : TypeId} {kd : TypeDesc} (hu : P.underlying kt = some kd) (hs : simpleKey kd = true) (b : Bool) (n : Nat) (v : Value) : (Instr.checkKey b (n + 1) kt v).run P w = .ok () w := by
  cases kd <;> simp [simpleKey] at hs <;> simp [Instr.checkKey, run_underlying hu]
theorem findKey_run {kt : TypeId} {kd : TypeDesc} (hu : P.underlying kt = some kd) {rk : Value} {rs : List MapEntry} {r : Option (Nat × Value)} (h : Instr.findNow kd rk rs 0 = some r) : (Instr.findKey kt rk rs).run P w = .ok r w := by
  simp [Instr.findKey, run_underlying hu, h]

/-- The entries that a map value has. -/
def Entries (w : World) (rm : Value) (rs : List MapEntry) : Prop := (rm = .map none ∧ rs = []) ∨ ∃ b arr clock, rm = .map (some b) ∧ w.heap[b]? = some (.map arr clock) ∧ rs = arr.toList

theorem lookup_hit {t key elem : TypeId} (hu : P.underlying t = some (.map key elem)) {kd : TypeDesc} (hkd : P.underlying key = some kd) (hs : simpleKey kd = true) {rm rk : Value} {rs : List MapEntry} (he : Entries w rm rs)
    {j : Nat} {rv : Value} (hf : Instr.findNow kd rk rs 0 = some (some (j, rv))) (ok : Bool) : (Instr.lookup t rm rk ok).run P w = .ok (if ok then .tuple #[rv, .bool true] else rv) w := by
  rcases he with ⟨rfl, rfl⟩ | ⟨b, arr, clock, rfl, hb, rfl⟩
  · simp [Instr.findNow] at hf
  · simp [Instr.lookup, run_underlying hu, getObj_run hb, checkKey_run hkd hs, findKey_run hkd hf]
theorem lookup_miss {t key elem : TypeId} (hu : P.underlying t = some (.map key elem)) {kd : TypeDesc} (hkd : P.underlying key = some kd) (hs : simpleKey kd = true) {rm rk rz : Value} {rs : List MapEntry} (he : Entries w rm rs)
    (hf : Instr.findNow kd rk rs 0 = some none) (hz : (zeroValue elem).run P w = .ok rz w) (ok : Bool) : (Instr.lookup t rm rk ok).run P w = .ok (if ok then .tuple #[rz, .bool false] else rz) w := by
  rcases he with ⟨rfl, rfl⟩ | ⟨b, arr, clock, rfl, hb, rfl⟩
  · simp [Instr.lookup, run_underlying hu, checkKey_run hkd hs, findKey_run (w := w) hkd hf, hz]
  · simp [Instr.lookup, run_underlying hu, getObj_run hb, checkKey_run hkd hs, findKey_run hkd hf, hz]

theorem lookupT_ok {t : TypeId} {m k v : TV} {rm rk : Value} {ok : Bool} (hR : Rel P g w s) (hm : VRel g rm m) (hk : VRel g rk k) (h : lookupT P s t m k ok = some v) :
    ∃ rv, (Instr.lookup t rm rk ok).run P w = .ok rv w ∧ VRel g rv v := by
  unfold lookupT at h
  split at h
  · rename_i key elem hu
    simp only at h
    split at h
    · rename_i kd es hkd hes
      split at h
      · cases h
      · rename_i hsk
        have hsk' : simpleKey kd = true := by simpa using hsk
        have hes' : ∃ rs : List MapEntry, EntRel g rs es ∧ Entries w rm rs := by
          split at hes
          · cases hes
            cases hm
            exact ⟨[], .nil, .inl ⟨rfl, rfl⟩⟩
          · rename_i o
            split at hes
            · rename_i es' clock ho
              cases hes
              cases hm with
              | map _ b e =>
                obtain ⟨ob, h1, h2⟩ := hR.obj o b e
                rw [ho] at h1
                cases h1
                obtain ⟨rs, h3, h4⟩ := h2
                exact ⟨rs.toList, h4, .inr ⟨b, rs, clock, rfl, h3, rfl⟩⟩
            · cases hes
          · cases hes
        obtain ⟨rs, he, hf⟩ := hes'
        split at h
        · rename_i j v' hfd
          have := findT_ok hk he 0 hfd
          simp only at this
          obtain ⟨rv, e, h1, h2, _⟩ := this
          cases h
          refine ⟨_, lookup_hit hu hkd hsk' hf h1 ok, ?_⟩
          cases ok with
          | true => exact .tup _ _ (.cons _ _ _ _ h2 (.cons _ _ _ _ (.bool _) .nil))
          | false => exact h2
        · rename_i hfd
          have h1 := findT_ok hk he 0 hfd
          simp only at h1
          obtain ⟨z, hz, rfl⟩ := Option.map_eq_some_iff.1 h
          obtain ⟨i, rz, _, _, _, hzr, hzv⟩ := zeroT_ok hz
          refine ⟨_, lookup_miss hu hkd hsk' hf h1 (hzr w) ok, ?_⟩
          cases ok with
          | true => exact .tup _ _ (.cons _ _ _ _ (hzv g) (.cons _ _ _ _ (.bool _) .nil))
          | false => exact hzv g
        · cases h
    · cases h
  · cases h

/-! ### Building -/
theorem foldl_splice : ∀ (vs : List Value) (off : Nat) (cells : Array Value) (k : Nat), off + k + vs.length ≤ cells.size →
    ((vs.zipIdx k).foldl (fun cs (p : Value × Nat) => cs.setIfInBounds (off + p.2) p.1) cells).toList = cells.toList.take (off + k) ++ vs ++ cells.toList.drop (off + k + vs.length)
  | [], off, cells, k, h => by simp
  | v :: vs, off, cells, k, h => by
    simp only [List.length_cons] at h
    simp only [List.zipIdx_cons, List.foldl_cons]
    rw [foldl_splice vs off _ (k + 1) (by simp; omega)]
    have e := list_seg_step cells.toList (off + k) v vs (by simp; omega)
    simpa [Array.toList_setIfInBounds, Nat.add_assoc] using e

inductive PartRel (g : G) : List (Nat × Value) → List (Nat × TV) → Prop where
  | nil : PartRel g [] []
  | cons (i : Nat) (v : Value) (t : TV) (vs : List (Nat × Value)) (ts : List (Nat × TV)) : VRel g v t → PartRel g vs ts → PartRel g ((i, v) :: vs) ((i, t) :: ts)

theorem fill_ok {place : Nat → Option (Nat × Nat)} : ∀ {parts : List (Nat × Value)} {tparts : List (Nat × TV)} (hp : PartRel g parts tparts) {cells : Array Value} {cs cs' : List TV}, VRels g cells.toList cs → fillT place cs tparts = some cs' →
    ∃ cells', Instr.fill place cells parts = some cells' ∧ VRels g cells'.toList cs' := by
  intro parts tparts hp
  induction hp with
  | nil => intro cells cs cs' h hf; simp [fillT] at hf; subst hf; exact ⟨cells, rfl, h⟩
  | cons i v t vs ts r _ ih =>
    intro cells cs cs' h hf
    simp only [fillT] at hf
    split at hf
    · cases hf
    · rename_i off size hpl
      split at hf
      · cases hf
      · rename_i hc
        simp only [ne_eq, Bool.or_eq_true, decide_eq_true_eq, not_or, Decidable.not_not] at hc
        obtain ⟨⟨c1, c2⟩, c3⟩ := hc
        have hj : t ≠ .junk := fun e => by subst e; simp [isJunk] at c3
        have hr := r.cells hj
        have hl : v.cells.size = size := by rw [← c1, ← hr.length]; simp
        have hlen : cells.size = cs.length := by rw [← h.length]; simp
        have hfold := foldl_splice v.cells.toList off cells 0 (by simp; omega)
        simp only [Nat.add_zero] at hfold
        have hz : (v.cells.zipIdx.foldl (fun cs (p : Value × Nat) => cs.setIfInBounds (off + p.2) p.1) cells).toList = cells.toList.take off ++ v.cells.toList ++ cells.toList.drop (off + v.cells.toList.length) := by
          rw [← hfold, ← Array.foldl_toList, Array.toList_zipIdx]
        have hrel : VRels g (v.cells.zipIdx.foldl (fun cs (p : Value × Nat) => cs.setIfInBounds (off + p.2) p.1) cells).toList (splice cs off t.cells) := by
          rw [hz]
          unfold splice
          rw [hr.length]
          exact ((h.take _).append hr).append (h.drop _)
        obtain ⟨cells', h1, h2⟩ := ih hrel hf
        refine ⟨cells', ?_, h2⟩
        simp only [Instr.fill, hpl]
        rw [if_neg (by simp; omega)]
        exact h1
end
end Go.Proofs.YthnhbejjikgifaaGreatDoor.TV

/-
  TV: each operation on plain values is the model's own (6): aggregates, literals of slices, texts and bytes; all that only reads.
-/
namespace Go.Proofs.YthnhbejjikgifaaGreatDoor.TV
open Go Go.RowKit
set_option linter.unusedSimpArgs false
set_option linter.unusedVariables false

section
variable {P : Program} {g : G} {w : World} {s : St}

theorem PartRel.of_map {ρ : Operand → Value} {τ : Operand → TV} (hρ : ∀ x, VRel g (ρ x) (τ x)) : ∀ l : List (Nat × Operand), PartRel g (l.map fun p => (p.1, ρ p.2)) (l.map fun p => (p.1, τ p.2))
  | [] => .nil
  | (i, x) :: l => .cons _ _ _ _ _ (hρ x) (PartRel.of_map hρ l)

theorem fillT_place {p p' : Nat → Option (Nat × Nat)} (cs : List TV) : ∀ (parts : List (Nat × TV)), (∀ q ∈ parts, p q.1 = p' q.1) → fillT p cs parts = fillT p' cs parts := by
  intro parts
  induction parts generalizing cs with
  | nil => intro _; rfl
  | cons a l ih =>
    intro h
    obtain ⟨i, v⟩ := a
    simp only [fillT]
    have h1 := h (i, v) List.mem_cons_self
    simp only at h1
    rw [← h1]
    cases p i with
    | none => rfl
    | some q =>
      obtain ⟨off, size⟩ := q
      simp only
      split
      · rfl
      · exact ih _ (fun q hq => h q (List.mem_cons_of_mem _ hq))

theorem zero_cells {t : TypeId} {z : TV} (hz : zeroT P t = some z) (g : G) (hj : z ≠ .junk) : ∃ i rz, P.info? t = some i ∧ i.zero = some rz ∧ (∀ w, (zeroValue t).run P w = .ok rz w) ∧ VRels g rz.cells.toList z.cells := by
  obtain ⟨i, rz, h1, h2, h3, h4, h5⟩ := zeroT_ok hz
  exact ⟨i, rz, h1, h2, h4, (h5 g).cells hj⟩

theorem places_all (fs : List Field) (h : fs.all (fun f => (P.info? f.type).isSome) = true) : fs.mapM (fun f => (P.info? f.type).map fun i => (f.offset, i.size)) = some (fs.map fun f => (f.offset, P.cellsOf f.type)) := by
  induction fs with
  | nil => rfl
  | cons f fs ih =>
    simp only [List.all_cons, Bool.and_eq_true] at h
    obtain ⟨i, hi⟩ := Option.isSome_iff_exists.1 h.1
    simp [List.mapM_cons, hi, ih h.2, cellsOf_info hi]

theorem buildT_ok {t : TypeId} {parts : Array (Nat × Value)} {tparts : List (Nat × TV)} {v : TV} (hp : PartRel g parts.toList tparts) (h : buildT P t tparts = some v) :
    ∃ rv, (Instr.build t parts).run P w = .ok rv w ∧ VRel g rv v := by
  unfold buildT at h
  split at h
  · rename_i z fields hz hu
    split at h
    · cases h
    · rename_i hj
      simp only [Bool.or_eq_true, Bool.not_eq_true', not_or, Bool.not_eq_true, Bool.not_eq_false] at hj
      obtain ⟨cs, hf, rfl⟩ := Option.map_eq_some_iff.1 h
      obtain ⟨i, rz, h1, h2, h3, h4⟩ := zero_cells hz g (by intro e; subst e; simp [isJunk] at hj)
      obtain ⟨cells', h5, h6⟩ := fill_ok hp h4 hf
      refine ⟨.agg cells', run_build w t parts cells' ?_, .agg _ _ h6⟩
      unfold Program.built
      rw [h1, hu]
      simp only [h2, places_all fields.toList hj.2]
      rw [← h5]
      congr 1
      funext k
      simp
  · rename_i z n elem hz hu
    split at h
    · cases h
    · rename_i hj
      simp only [Bool.or_eq_true, not_or, Bool.not_eq_true] at hj
      obtain ⟨cs, hf, rfl⟩ := Option.map_eq_some_iff.1 h
      obtain ⟨i, rz, h1, h2, h3, h4⟩ := zero_cells hz g (by intro e; subst e; simp [isJunk] at hj)
      obtain ⟨ie, hie⟩ : ∃ ie, P.info? elem = some ie := by
        cases hq : P.info? elem with
        | some ie => exact ⟨ie, rfl⟩
        | none => simp [hq] at hj
      obtain ⟨cells', h5, h6⟩ := fill_ok hp h4 hf
      refine ⟨.agg cells', run_build w t parts cells' ?_, .agg _ _ h6⟩
      unfold Program.built
      rw [h1, hu]
      simp only [h2, hie]
      rw [← h5, cellsOf_info hie]
  · cases h

theorem flat_set {es : List TV} {size : Nat} (h : ∀ e, e ∈ es → e.cells.length = size) {i : Nat} (hi : i < es.length) {v : TV} (hv : v.cells.length = size) : (es.set i v).flatMap TV.cells = splice (es.flatMap TV.cells) (i * size) v.cells := by
  unfold splice
  have h1 : es.set i v = es.take i ++ v :: es.drop (i + 1) := List.set_eq_take_append_cons_drop.trans (by rw [if_pos hi])
  rw [h1, List.flatMap_append, List.flatMap_cons, flat_take h, flat_drop h, hv, List.append_assoc]
  congr 3
  rw [Nat.succ_mul]

theorem setEs_fill {size : Nat} (hs : 0 < size) (es : List TV) (parts : List (Nat × TV)) : (∀ e, e ∈ es → e.cells.length = size) → (∀ p ∈ parts, p.1 < es.length ∧ p.2.cells.length = size ∧ isJunk p.2 = false) →
    fillT (fun i => some (i * size, size)) (es.flatMap TV.cells) parts = some ((setEs es parts).flatMap TV.cells) ∧ (∀ e, e ∈ setEs es parts → e.cells.length = size) ∧ (setEs es parts).length = es.length := by
  induction parts generalizing es with
  | nil => intro h _; exact ⟨rfl, h, rfl⟩
  | cons p parts ih =>
    intro h hp
    obtain ⟨i, v⟩ := p
    obtain ⟨h1, h2, h3⟩ := hp (i, v) List.mem_cons_self
    simp only at h1 h2 h3
    have hset : ∀ e, e ∈ es.set i v → e.cells.length = size := fun e he => by
      rcases List.mem_or_eq_of_mem_set he with he | rfl
      · exact h e he
      · exact h2
    obtain ⟨h4, h5, h6⟩ := ih (es.set i v) hset (fun p hpm => by have := hp p (List.mem_cons_of_mem _ hpm); simpa using this)
    refine ⟨?_, h5, h6.trans List.length_set⟩
    simp only [fillT, setEs]
    have hl : i * size + size ≤ (es.flatMap TV.cells).length := by
      rw [flat_length h, ← Nat.succ_mul]
      exact Nat.mul_le_mul_right _ h1
    rw [if_neg (by simp only [ne_eq, Bool.or_eq_true, decide_eq_true_eq, not_or, Decidable.not_not]; exact ⟨⟨h2, by omega⟩, by rw [h3]; simp⟩), ← flat_set h h1 h2]
    exact h4

theorem flat_replicate (n : Nat) (z : TV) : (List.replicate n z).flatMap TV.cells = (List.replicate n z.cells).flatten := by
  rw [List.flatMap_def, List.map_replicate]

theorem range_cells (n : Nat) (zc : Array Value) : ((Array.range (n * zc.size)).map (fun i => zc[i % zc.size]!)).toList = (List.replicate n zc.toList).flatten := by
  rcases Nat.eq_zero_or_pos zc.size with h0 | h0
  · have : zc = #[] := Array.size_eq_zero_iff.1 h0
    subst this
    simp
  · apply List.ext_getElem?
    intro j
    induction n generalizing j with
    | zero => simp
    | succ n ih =>
      rw [List.replicate_succ, List.flatten_cons]
      by_cases hj : j < zc.size
      · rw [List.getElem?_append_left (by simpa using hj)]
        have : j < (n + 1) * zc.size := by rw [Nat.succ_mul]; omega
        simp [this, hj, Nat.mod_eq_of_lt hj, getElem!_pos]
      · rw [List.getElem?_append_right (by simp; omega)]
        rw [Array.length_toList, ← ih]
        have e1 : (j - zc.size) % zc.size = j % zc.size := (Nat.mod_eq_sub_mod (by omega)).symm
        have e2 : j < (n + 1) * zc.size ↔ j - zc.size < n * zc.size := by rw [Nat.succ_mul]; omega
        by_cases hl : j < (n + 1) * zc.size
        · simp [hl, e2.1 hl, e1]
        · have hl' : ¬ j - zc.size < n * zc.size := fun h => hl (e2.2 h)
          simp [hl, hl']

theorem VRels.flatten_replicate {vs : List Value} {cs : List TV} (h : VRels g vs cs) : ∀ n, VRels g (List.replicate n vs).flatten (List.replicate n cs).flatten
  | 0 => by simpa using .nil
  | n + 1 => by
    simp only [List.replicate_succ, List.flatten_cons]
    exact h.append (VRels.flatten_replicate h n)

/-- A new row of cells that stay. -/
theorem newRow_ok (hR : Rel P g w s) (e : TypeId) (cells : Array Value) : ∃ g', g.le g' ∧ Rel P g' (w.alloc (.cells cells e)) s ∧ SolAt g' w.heap.size 0 cells.toList := by
  obtain ⟨h1, h2, h3⟩ := hR.newData ((Below.refl _ w).alloc (Nat.le_refl _) (.cells cells e)) (Nat.le_refl _) (vs := cells.toList) (fun i v hv => by
    rw [World.cell?_alloc_new]
    simpa using hv)
  exact ⟨_, h1, h2, h3⟩

theorem buildSliceT_ok {t : TypeId} {len : Nat} {parts : Array (Nat × Value)} {tparts : List (Nat × TV)} {v : TV} (hR : Rel P g w s) (hp : PartRel g parts.toList tparts) (h : buildSliceT P t len tparts = some v) :
    ∃ rv w' g', (Instr.buildSlice t len parts).run P w = .ok rv w' ∧ g.le g' ∧ Rel P g' w' s ∧ VRel g' rv v := by
  unfold buildSliceT at h
  split at h
  · rename_i elem hu
    split at h
    · rename_i hc
      simp only [Bool.and_eq_true, decide_eq_true_eq, List.all_eq_true, beq_iff_eq] at hc
      obtain ⟨⟨hpt, hs⟩, h24⟩ := hc
      split at h
      · rename_i z hz
        split at h
        · rename_i hzc
          simp only [Bool.and_eq_true, beq_iff_eq] at hzc
          cases h
          have hzj : z ≠ .junk := by intro e; subst e; simp [cellOk, TV.cells] at hzc
          obtain ⟨i, rz, h1, h2, h3, h4⟩ := zero_cells hz g hzj
          have hsz : rz.cells.size = P.cellsOf elem := by rw [← hzc.2, ← h4.length]; simp
          obtain ⟨hf, hse, hlen⟩ := setEs_fill hs (List.replicate len z) tparts (fun e he => by rw [List.eq_of_mem_replicate he]; exact hzc.2) (fun p hpm => by
            have := hpt p hpm
            refine ⟨by simpa using this.1.1, this.1.2, ?_⟩
            cases hq : p.2 <;> first | rfl | (have := this.2; rw [hq] at this; simp [TV.cells, cellOk] at this))
          have hcells : VRels g ((Array.range (len * P.cellsOf elem)).map (fun i => rz.cells[i % rz.cells.size]!)).toList ((List.replicate len z).flatMap TV.cells) := by
            rw [← hsz, range_cells, flat_replicate]
            exact VRels.flatten_replicate h4 len
          obtain ⟨cells', h5, h6⟩ := fill_ok hp hcells hf
          have hinfo := sizeOf_run' (w := w) (show P.cellsOf elem ≠ 0 by omega)
          have h24' : ¬ (2 ^ 24 < len * P.cellsOf elem) := by omega
          have hrun : (Instr.buildSlice t len parts).run P w = .ok (.slice (some ⟨w.heap.size, 0, none⟩) len len) (w.alloc (.cells cells' elem)) := by
            by_cases hl : len = 0
            · subst hl
              have e0 : ((Array.range (0 * P.cellsOf elem)).map (fun i => rz.cells[i % rz.cells.size]!)) = #[] := by simp
              rw [e0] at h5
              have e1 : (Array.map (fun _ : Nat => (default : Value)) (Array.range 0)) = #[] := by simp
              simp [Instr.buildSlice, run_underlying hu, hinfo, newRow, e1, h5]
            · have hl' : len * P.cellsOf elem ≠ 0 := Nat.mul_ne_zero hl (by omega)
              simp [Instr.buildSlice, run_underlying hu, hinfo, newRow, h24', hl', h3, h5]
          obtain ⟨g', h7, h8, h9⟩ := newRow_ok hR elem cells'
          refine ⟨_, _, g', hrun, h7, h8, ?_⟩
          rw [List.length_replicate] at hlen
          by_cases hl : len = 0
          · subst hl
            rw [List.length_eq_zero_iff.1 hlen]
            exact .empty _ _ _ (by intro i e; cases e) (fun _ => rfl)
          · refine .slice _ 0 len len (P.cellsOf elem) cells'.toList _ _ (fun e => hl (by rw [← hlen, e]; rfl)) hlen (Nat.le_refl _) hs hse h9 (h6.mono h7) rfl
        · cases h
      · cases h
    · cases h
  · cases h
theorem buildSliceT_run {t : TypeId} {len : Nat} {parts : Array (Nat × Value)} {tparts : List (Nat × TV)} {v : TV} (hR : Rel P g w s) (hp : PartRel g parts.toList tparts) (h : buildSliceT P t len tparts = some v) :
    ∃ (elem : TypeId) (es : List TV) (cells' : Array Value), P.underlying t = some (.slice elem) ∧ v = .slice false es .exact ∧ es.length = len ∧ 0 < P.cellsOf elem ∧ (∀ e ∈ es, e.cells.length = P.cellsOf elem) ∧ VRels g cells'.toList (es.flatMap TV.cells) ∧
      (Instr.buildSlice t len parts).run P w = .ok (.slice (some ⟨w.heap.size, 0, none⟩) len len) (w.alloc (.cells cells' elem)) := by
  unfold buildSliceT at h
  split at h
  · rename_i elem hu
    split at h
    · rename_i hc
      simp only [Bool.and_eq_true, decide_eq_true_eq, List.all_eq_true, beq_iff_eq] at hc
      obtain ⟨⟨hpt, hs⟩, h24⟩ := hc
      split at h
      · rename_i z hz
        split at h
        · rename_i hzc
          simp only [Bool.and_eq_true, beq_iff_eq] at hzc
          cases h
          have hzj : z ≠ .junk := by intro e; subst e; simp [cellOk, TV.cells] at hzc
          obtain ⟨i, rz, h1, h2, h3, h4⟩ := zero_cells hz g hzj
          have hsz : rz.cells.size = P.cellsOf elem := by rw [← hzc.2, ← h4.length]; simp
          obtain ⟨hf, hse, hlen⟩ := setEs_fill hs (List.replicate len z) tparts (fun e he => by rw [List.eq_of_mem_replicate he]; exact hzc.2) (fun p hpm => by
            have := hpt p hpm
            refine ⟨by simpa using this.1.1, this.1.2, ?_⟩
            cases hq : p.2 <;> first | rfl | (have := this.2; rw [hq] at this; simp [TV.cells, cellOk] at this))
          have hcells : VRels g ((Array.range (len * P.cellsOf elem)).map (fun i => rz.cells[i % rz.cells.size]!)).toList ((List.replicate len z).flatMap TV.cells) := by
            rw [← hsz, range_cells, flat_replicate]
            exact VRels.flatten_replicate h4 len
          obtain ⟨cells', h5, h6⟩ := fill_ok hp hcells hf
          have hinfo := sizeOf_run' (w := w) (show P.cellsOf elem ≠ 0 by omega)
          have h24' : ¬ (2 ^ 24 < len * P.cellsOf elem) := by omega
          have hrun : (Instr.buildSlice t len parts).run P w = .ok (.slice (some ⟨w.heap.size, 0, none⟩) len len) (w.alloc (.cells cells' elem)) := by
            by_cases hl : len = 0
            · subst hl
              have e0 : ((Array.range (0 * P.cellsOf elem)).map (fun i => rz.cells[i % rz.cells.size]!)) = #[] := by simp
              rw [e0] at h5
              have e1 : (Array.map (fun _ : Nat => (default : Value)) (Array.range 0)) = #[] := by simp
              simp [Instr.buildSlice, run_underlying hu, hinfo, newRow, e1, h5]
            · have hl' : len * P.cellsOf elem ≠ 0 := Nat.mul_ne_zero hl (by omega)
              simp [Instr.buildSlice, run_underlying hu, hinfo, newRow, h24', hl', h3, h5]
          rw [List.length_replicate] at hlen
          exact ⟨elem, _, cells', hu, rfl, hlen, hs, hse, h6, hrun⟩
        · cases h
      · cases h
    · cases h
  · cases h
end
end Go.Proofs.YthnhbejjikgifaaGreatDoor.TV

/-
  TV: each operation on plain values is the model's own (7): conversions; all that only reads, in one theorem.
-/
namespace Go.Proofs.YthnhbejjikgifaaGreatDoor.TV
open Go Go.RowKit
set_option linter.unusedSimpArgs false
set_option linter.unusedVariables false

section
variable {P : Program} {g : G} {w : World} {s : St}

theorem foldl_push (ns : List Int) (r : ByteArray) : (ns.foldl (fun r n => r.push (UInt8.ofNat n.toNat)) r).data.toList = r.data.toList ++ ns.map (fun n => UInt8.ofNat n.toNat) := by
  induction ns generalizing r with
  | nil => simp
  | cons n ns ih =>
    rw [List.foldl_cons, ih]
    simp [ByteArray.push]

theorem bytesOf_form : ∀ {es : List TV} {l : List UInt8}, bytesOf es = some l → ∃ ns : List Int, es = ns.map (TV.int .u8) ∧ l = ns.map (fun n => UInt8.ofNat n.toNat)
  | [], l, h => by simp [bytesOf] at h; subst h; exact ⟨[], rfl, rfl⟩
  | e :: es, l, h => by
    unfold bytesOf at h
    split at h
    · rename_i heq; cases heq
    · rename_i n r heq
      cases heq
      split at h
      · rename_i r' hr
        cases h
        obtain ⟨ns, rfl, rfl⟩ := bytesOf_form hr
        exact ⟨n :: ns, rfl, rfl⟩
      · cases h
    · cases h

theorem ints_of {ns : List Int} {vs : List Value} (h : VRels g vs (ns.map (TV.int .u8))) : vs = ns.map (Value.int .u8) := by
  induction ns generalizing vs with
  | nil => cases h; rfl
  | cons n ns ih =>
    cases h with
    | cons v t vs ts r rs =>
      cases r
      rw [ih rs]
      rfl

/-- string(b), b's cells being these. -/
theorem string_of_cells {src dst e : TypeId} (hs : P.underlying src = some (.slice e)) (he : P.underlying e = some (.int .u8)) (hd : P.underlying dst = some .string) (a : Addr) (len cap : Nat) (ns : List Int) (hl : ns.length = len)
    (hc : ∀ j v, (ns.map (Value.int .u8))[j]? = some v → w.cell? (a.add j) = some v) :
    ∃ rv, (convert src dst (.slice (some a) len cap)).run P w = .ok rv w ∧ VRel g rv (.str (ns.map (fun n => UInt8.ofNat n.toNat))) := by
  have h1 := run_loadCells_list (P := P) w a (ns.map (Value.int .u8)) hc
  rw [List.length_map, hl] at h1
  refine ⟨_, (run_convert_bytes_string w src dst e (some a) len cap hs he hd).trans (run_bytesToString w a len cap ns h1), .str _ _ ?_⟩
  rw [foldl_push]
  rfl

theorem flat_ints (ns : List Int) : (ns.map (TV.int .u8)).flatMap TV.cells = ns.map (TV.int .u8) := by
  induction ns with
  | nil => rfl
  | cons n ns ih => simp only [List.map_cons, List.flatMap_cons, ih]; rfl

theorem bytes_rel (g : G) (b : List UInt8) : VRels g (b.map fun c => Value.int .u8 c.toNat) ((b.map fun c => (c.toNat : Int)).map (TV.int .u8)) := by
  induction b with
  | nil => exact .nil
  | cons c b ih => exact .cons _ _ _ _ (.int _ _) ih

theorem convT_ok {src dst : TypeId} {x v : TV} {rx : Value} (hR : Rel P g w s) (hx : VRel g rx x) (h : convT P s src dst x = some v) :
    ∃ rv w' g', (convert src dst rx).run P w = .ok rv w' ∧ g.le g' ∧ Rel P g' w' s ∧ VRel g' rv v := by
  unfold convT at h
  split at h
  · rename_i d k k' n hs hd
    cases hx
    cases h
    exact ⟨_, w, g, by simp [convert, run_underlying hs, run_underlying hd, Conv.intToInt], .refl g, hR, .int _ _⟩
  · rename_i b hs hd
    cases hx with
    | str sb _ e =>
      cases h
      exact ⟨.string sb, w, g, by simp [convert, run_underlying hs, run_underlying hd], .refl g, hR, .str _ _ e⟩
  · rename_i e b hs hd
    cases hx with
    | str sb _ eb =>
      split at h
      · rename_i he
        cases h
        have hrun := run_bytes_of_string (P := P) w src dst e sb hs hd he
        have hsz : sb.size = b.length := by rw [← eb]; exact Array.length_toList.symm
        have hge := grownCap_ge w sb.size 0 e
        obtain ⟨h1, h2, h3⟩ := hR.newData (w' := w.drew.alloc (.cells (bytesRow sb (grownCap w sb.size 0 e)) e ((bytesRow sb (grownCap w sb.size 0 e)).size, (bytesRow sb (grownCap w sb.size 0 e)).size + 1)))
          (((Below.refl _ w).drew).alloc (Nat.le_refl _) _) (b := w.heap.size) (Nat.le_refl _) (vs := b.map fun c => Value.int .u8 c.toNat) (fun i v hv => by
            have := World.cell?_alloc_mark w.drew (bytesRow sb (grownCap w sb.size 0 e)) e ((bytesRow sb (grownCap w sb.size 0 e)).size, (bytesRow sb (grownCap w sb.size 0 e)).size + 1) i
            refine Eq.trans this ?_
            have hi : i < b.length := by
              have := (List.getElem?_eq_some_iff.1 hv).1
              simpa using this
            unfold bytesRow
            rw [Array.getElem?_append_left (by simp; show i < sb.data.size; have : sb.data.size = sb.size := rfl; omega), ← hv, ← eb]
            simp)
        refine ⟨_, _, _, hrun, h1, h2, ?_⟩
        by_cases hb : b = []
        · subst hb
          have h0 : sb.size = 0 := hsz
          rw [h0]
          exact .empty _ _ _ (by intro i e; cases e) (by intro e; cases e)
        · refine .slice _ 0 _ _ 1 (b.map fun c => Value.int .u8 c.toNat) _ _ (by simpa using hb) (by rw [List.length_map]; exact hsz.symm) hge (by omega) (fun e he => ?_) h3 ?_ trivial
          · obtain ⟨c, _, rfl⟩ := List.mem_map.1 he
            rfl
          · have e1 : (b.map fun c => TV.int .u8 c.toNat) = (b.map fun c => (c.toNat : Int)).map (TV.int .u8) := by simp
            rw [e1, flat_ints]
            exact bytes_rel _ b
      · cases h
  · rename_i e isn es tok hs hd
    split at h
    · rename_i he
      obtain ⟨l, hl, rfl⟩ := Option.map_eq_some_iff.1 h
      obtain ⟨ns, hes, rfl⟩ := bytesOf_form hl
      cases hx with
      | nils _ _ =>
        have : ns = [] := by simpa using hes
        subst this
        refine ⟨.string .empty, w, g, ?_, .refl g, hR, .str _ _ rfl⟩
        rw [run_convert_bytes_string w src dst e none 0 0 hs he hd]
        rfl
      | empty a cap _ _ _ =>
        have : ns = [] := by simpa using hes
        subst this
        obtain ⟨rv, h1, h2⟩ := string_of_cells (g := g) (w := w) hs he hd a 0 cap [] rfl (by intro j v hv; simp at hv)
        exact ⟨rv, w, g, h1, .refl g, hR, h2⟩
      | slice bl off n cap size vs _ _ hne hn hcap hs0 hse hsol hrel htok =>
        subst hes
        rw [flat_ints] at hrel
        have hv := ints_of hrel
        subst hv
        obtain ⟨rv, h1, h2⟩ := string_of_cells (g := g) (w := w) hs he hd ⟨bl, off, none⟩ n cap ns (by simpa using hn) (fun j v hv => by
          rw [add_plain']
          exact hR.sol _ _ _ (hsol j v hv))
        exact ⟨rv, w, g, h1, .refl g, hR, h2⟩
    · cases h
  · rename_i e o off len cap hs hd
    split at h
    · rename_i cs t' he ho
      split at h
      · rename_i hl
        obtain ⟨l, hl', rfl⟩ := Option.map_eq_some_iff.1 h
        obtain ⟨ns, hns, rfl⟩ := bytesOf_form hl'
        have hlen : ns.length = len := by
          have := congrArg List.length hns
          simp at this
          omega
        cases hx with
        | osl a _ _ _ _ cap' ha hlc hcc =>
          by_cases hc : cap = 0
          · have : ns = [] := List.length_eq_zero_iff.1 (by omega)
            subst this
            obtain ⟨rv, h1, h2⟩ := string_of_cells (g := g) (w := w) hs he hd a len cap' [] hlen (by intro j v hv; simp at hv)
            exact ⟨rv, w, g, h1, .refl g, hR, h2⟩
          · obtain ⟨b, e1, rfl⟩ := ha hc
            obtain ⟨vs, h1, h2⟩ := objCells_rel hR e1 ho
            have h3 : VRels g ((vs.drop off).take len) (ns.map (TV.int .u8)) := by rw [← hns]; exact (h2.drop off).take len
            have h4 := ints_of h3
            obtain ⟨rv, h5, h6⟩ := string_of_cells (g := g) (w := w) hs he hd ⟨b, off, none⟩ len cap' ns hlen (fun j v hv => by
              rw [add_plain']
              rw [← h4] at hv
              rw [List.getElem?_take] at hv
              split at hv
              · rw [List.getElem?_drop] at hv
                exact h1 _ _ hv
              · cases hv)
            exact ⟨rv, w, g, h5, .refl g, hR, h6⟩
      · cases h
    · cases h
  · cases h
end
end Go.Proofs.YthnhbejjikgifaaGreatDoor.TV

/-
  TV: all that only reads, in one theorem.
-/
namespace Go.Proofs.YthnhbejjikgifaaGreatDoor.TV
open Go Go.RowKit
set_option linter.unusedSimpArgs false
set_option linter.unusedVariables false

section
variable {P : Program} {g : G} {w : World} {s : St}

/-- What an operation comes to that only reads (it may make memory that nobody names). -/
def ReadOk (P : Program) (g : G) (w : World) (s : St) (ρ : Operand → Value) (o : Oper) (v : TV) : Prop :=
  ∃ rv w' g', (execOp ρ o).run P w = .ok (.value rv) w' ∧ g.le g' ∧ Rel P g' w' s ∧ VRel g' rv v

theorem ReadOk.same {ρ : Operand → Value} {o : Oper} {v : TV} (hR : Rel P g w s) (sm : Sem Value) (he : execOp ρ o = (do pure (.value (← sm)))) (h : ∃ rv, sm.run P w = .ok rv w ∧ VRel g rv v) : ReadOk P g w s ρ o v := by
  obtain ⟨rv, h1, h2⟩ := h
  refine ⟨rv, w, g, ?_, .refl g, hR, h2⟩
  rw [he, Sem.run_bind, h1]
  rfl
theorem ReadOk.more {ρ : Operand → Value} {o : Oper} {v : TV} (sm : Sem Value) (he : execOp ρ o = (do pure (.value (← sm)))) (h : ∃ rv w' g', sm.run P w = .ok rv w' ∧ g.le g' ∧ Rel P g' w' s ∧ VRel g' rv v) : ReadOk P g w s ρ o v := by
  obtain ⟨rv, w', g', h1, h2, h3, h4⟩ := h
  refine ⟨rv, w', g', ?_, h2, h3, h4⟩
  rw [he, Sem.run_bind, h1]
  rfl

theorem OptRel.map {ρ : Operand → Value} {τ : Operand → TV} (hρ : ∀ x, VRel g (ρ x) (τ x)) : ∀ o : Option Operand, OptRel g (o.map ρ) (o.map τ)
  | Option.none => .none
  | Option.some x => .some _ _ (hρ x)
theorem VRels.map {ρ : Operand → Value} {τ : Operand → TV} (hρ : ∀ x, VRel g (ρ x) (τ x)) : ∀ l : List Operand, VRels g (l.map ρ) (l.map τ)
  | [] => .nil
  | x :: l => .cons _ _ _ _ (hρ x) (VRels.map hρ l)

theorem array_one {α : Type} {a : Array α} {x : α} (h : a.toList = [x]) : a = #[x] := by
  cases a; simp at h; subst h; rfl
theorem array_two {α : Type} {a : Array α} {x y : α} (h : a.toList = [x, y]) : a = #[x, y] := by
  cases a; simp at h; subst h; rfl

set_option maxHeartbeats 1000000 in
theorem readT_ok {ρ : Operand → Value} {τ : Operand → TV} (hρ : ∀ x, VRel g (ρ x) (τ x)) (hR : Rel P g w s) {o : Oper} {v : TV} (h : readT P s τ o = some v) : ReadOk P g w s ρ o v := by
  obtain ⟨dst, op, ty, pos, after, guard⟩ := o
  cases op with
  | move x => simp only [readT, Option.some.injEq] at h; subst h; exact ⟨_, w, g, rfl, .refl g, hR, hρ x⟩
  | assign x => simp only [readT, Option.some.injEq] at h; subst h; exact ⟨_, w, g, rfl, .refl g, hR, hρ x⟩
  | pick c a b =>
    simp only [readT] at h
    have hc := hρ c
    split at h
    · rename_i e
      rw [e] at hc
      cases h
      cases hq : ρ c <;> rw [hq] at hc <;> cases hc
      exact ⟨_, w, g, by simp [execOp, hq, asBool], .refl g, hR, hρ a⟩
    · rename_i e
      rw [e] at hc
      cases h
      cases hq : ρ c <;> rw [hq] at hc <;> cases hc
      exact ⟨_, w, g, by simp [execOp, hq, asBool], .refl g, hR, hρ b⟩
    · cases h
  | build t parts =>
    simp only [readT] at h
    refine .same hR _ rfl (buildT_ok ?_ h)
    rw [Array.toList_map]
    exact PartRel.of_map hρ _
  | buildSlice t len parts =>
    simp only [readT] at h
    refine .more _ rfl (buildSliceT_ok hR ?_ h)
    rw [Array.toList_map]
    exact PartRel.of_map hρ _
  | load t a => simp only [readT] at h; exact .same hR _ rfl (loadT_ok hR (hρ a) h)
  | nilCheck x =>
    simp only [readT] at h
    have hx := hρ x
    split at h
    · rename_i e; rw [e] at hx; cases h
      cases hq : ρ x <;> rw [hq] at hx <;> cases hx
      exact ⟨ρ x, w, g, by simp [execOp, hq], .refl g, hR, by rw [hq]; exact .ptr _ _ _ (by assumption)⟩
    · rename_i e; rw [e] at hx; cases h
      cases hq : ρ x <;> rw [hq] at hx <;> cases hx
      exact ⟨ρ x, w, g, by simp [execOp, hq], .refl g, hR, by rw [hq]; exact .eptr _ _ _ _ (by assumption) (by assumption)⟩
    · rename_i e; rw [e] at hx; cases h
      cases hq : ρ x <;> rw [hq] at hx <;> cases hx
      exact ⟨ρ x, w, g, by simp [execOp, hq], .refl g, hR, by rw [hq]; exact .fn _ _ _ _ _ (by assumption) (by assumption)⟩
    · cases h
  | binOp op t x y yt =>
    simp only [readT] at h
    split at h
    · rename_i hg
      have hj : τ x ≠ .junk ∧ τ y ≠ .junk ∨ (op ≠ .eql ∧ op ≠ .neq) := by
        by_cases hop : op = .eql ∨ op = .neq
        · left
          refine ⟨fun e => ?_, fun e => ?_⟩
          · rw [e] at h
            rcases hop with rfl | rfl
            · simp only [binT] at h
              obtain ⟨b, hb, _⟩ := Option.map_eq_some_iff.1 h
              rcases eqT_form hb with ⟨_, _, _, _, h1, _⟩ | ⟨_, _, h1, _⟩ | h1 <;> first | cases h1 | simp [plainT] at h1
            · simp only [binT] at h
              obtain ⟨b, hb, _⟩ := Option.map_eq_some_iff.1 h
              rcases eqT_form hb with ⟨_, _, _, _, h1, _⟩ | ⟨_, _, h1, _⟩ | h1 <;> first | cases h1 | simp [plainT] at h1
          · rw [e] at h
            have : ∀ b, eqT P 100 t (τ x) .junk ≠ some b := by
              intro b hb
              unfold eqT at hb
              split at hb <;> simp_all
            rcases hop with rfl | rfl
            · cases hq : τ x <;> rw [hq] at h this <;> simp only [binT] at h
              all_goals
                obtain ⟨b, hb, _⟩ := Option.map_eq_some_iff.1 h
                exact this b hb
            · cases hq : τ x <;> rw [hq] at h this <;> simp only [binT] at h
              all_goals
                obtain ⟨b, hb, _⟩ := Option.map_eq_some_iff.1 h
                exact this b hb
        · exact .inr ⟨fun e => hop (.inl e), fun e => hop (.inr e)⟩
      have hgd : (eqGuard op t x y (ρ x) (ρ y)).run P w = .ok () w := by
        rcases hj with ⟨h1, h2⟩ | ⟨h1, h2⟩
        · exact guardT_ok (hρ x) (hρ y) h1 h2 hg
        · cases op <;> first | rfl | exact absurd rfl h1 | exact absurd rfl h2
      obtain ⟨rv, h1, h2⟩ := binT_ok (w := w) hR (hρ x) (hρ y) h
      refine .same hR (do eqGuard op t x y (ρ x) (ρ y); binOp op t (ρ x) (ρ y)) rfl ⟨rv, ?_, h2⟩
      rw [Sem.run_bind, hgd]
      exact h1
    · cases h
  | unOp op t x => simp only [readT] at h; exact .same hR _ rfl (unT_ok (hρ x) h)
  | convert src dst x => simp only [readT] at h; exact .more _ rfl (convT_ok hR (hρ x) h)
  | makeInterface t x =>
    simp only [readT] at h
    split at h
    · cases h
    · rename_i d hni hd
      cases h
      refine .same hR _ rfl ⟨.iface t (ρ x), ?_, .iface _ _ _ (hρ x)⟩
      unfold Instr.makeInterface
      rw [Sem.run_bind, run_underlying hd]
      simp only [Result.andThen_ok]
      cases d <;> first | rfl | exact absurd hd (hni _)
    · cases h
  | makeFunc f a b =>
    simp only [readT, Option.some.injEq] at h
    subst h
    refine ⟨_, w, g, rfl, .refl g, hR, .fn _ _ _ _ _ ?_ ?_⟩
    · rw [Array.toList_map]; exact VRels.map hρ _
    · rw [Array.toList_map]; exact VRels.map hρ _
  | slice t x lo hi mx => simp only [readT] at h; exact .same hR _ rfl (sliceT_ok (hρ x).ungsl (OptRel.map hρ lo) (OptRel.map hρ hi) (OptRel.map hρ mx) h)
  | fieldAddr t x f => simp only [readT] at h; exact .same hR _ rfl (fieldAddrT_ok (hρ x) h)
  | field t x f => simp only [readT] at h; exact .same hR _ rfl (fieldT_ok (hρ x) h)
  | indexAddr t x i => simp only [readT] at h; exact .same hR _ rfl (indexAddrT_ok (hρ x).ungsl (hρ i) h)
  | index t x i => simp only [readT] at h; exact .same hR _ rfl (indexT_ok (hρ x) (hρ i) h)
  | lookup t m k ok => simp only [readT] at h; exact .same hR _ rfl (lookupT_ok hR (hρ m) (hρ k) h)
  | extract x i =>
    simp only [readT] at h
    have hx := hρ x
    split at h
    · rename_i vs e
      rw [e] at hx
      cases hq : ρ x <;> rw [hq] at hx <;> cases hx
      rename_i ws r
      obtain ⟨rv, h1, h2⟩ := r.get h
      refine .same hR (Instr.extract (ρ x) i) rfl ⟨rv, ?_, h2⟩
      have h1' : ws[i]? = some rv := by simpa using h1
      simp [Instr.extract, hq, h1']
    · cases h
  | call c =>
    obtain ⟨callee, args, ts⟩ := c
    cases callee with
    | builtin b =>
      simp only [readT] at h
      split at h
      · rename_i x t ha ht
        have ha' := array_one ha
        have ht' := array_one ht
        subst ha' ht'
        obtain ⟨rv, h1, h2⟩ := lenT_ok (w := w) (ty := ty) hR (hρ x).ungsl h
        refine ⟨rv, w, g, ?_, .refl g, hR, h2⟩
        simp [execOp, resolve, invoke, builtin, h1]
      · rename_i x y ha
        have ha' := array_two ha
        subst ha'
        obtain ⟨rv, h1, h2⟩ := minT_ok (P := P) (w := w) (hρ x) (hρ y) ts ty h
        refine ⟨rv, w, g, ?_, .refl g, hR, h2⟩
        simp [execOp, resolve, invoke, builtin, h1]
      · rename_i x y ha
        have ha' := array_two ha
        subst ha'
        obtain ⟨rv, h1, h2⟩ := maxT_ok (P := P) (w := w) (hρ x) (hρ y) ts ty h
        refine ⟨rv, w, g, ?_, .refl g, hR, h2⟩
        simp [execOp, resolve, invoke, builtin, h1]
      · cases h
    | _ => simp [readT] at h
  | _ => simp [readT] at h
end
end Go.Proofs.YthnhbejjikgifaaGreatDoor.TV

/-
  TV: what makes or changes something (1): new objects, stores, maps.
-/
namespace Go.Proofs.YthnhbejjikgifaaGreatDoor.TV
open Go Go.RowKit
set_option linter.unusedSimpArgs false
set_option linter.unusedVariables false

section
variable {P : Program} {g : G} {w : World} {s : St}

/-- What an operation comes to that makes or changes something. -/
def EffOk (P : Program) (g : G) (w : World) (s' : St) (ρ : Operand → Value) (o : Oper) (v : TV) : Prop :=
  ∃ rv w' g', ((execOp ρ o).run P w = .ok (.value rv) w' ∨ ((execOp ρ o).run P w = .ok .skip w' ∧ rv = undef)) ∧ g.le g' ∧ Rel P g' w' s' ∧ VRel g' rv v

theorem VRel.undef' (g : G) : VRel g undef undefT := .tup _ _ .nil

theorem mkObj_ok (hR : Rel P g w s) (t : TypeId) {cells : Array Value} {cs : List TV} (h : VRels g cells.toList cs) :
    ∃ g', g.le g' ∧ Rel P g' (w.alloc (.cells cells t)) (mkObj s (.cells cs t)) ∧ g'.φ s.n = some w.heap.size := by
  obtain ⟨h1, h2, h3⟩ := hR.newObj ((Below.refl _ w).alloc (Nat.le_refl _) (.cells cells t)) (Nat.le_refl _) (ob := .cells cs t) ⟨cells, heap_alloc_new w _, by rw [← h.length, List.take_length]; exact h⟩
  exact ⟨_, h1, h2, h3⟩

theorem alloc_ok {ρ : Operand → Value} {o : Oper} {t : TypeId} (ho : o.op = .alloc t) (hR : Rel P g w s) {z : TV} (hz : zeroT P t = some z) (hc : z.cells.all cellOk = true) :
    EffOk P g w (mkObj s (.cells z.cells t)) ρ o (.ptr s.n 0) := by
  have hzj : z ≠ .junk := by intro e; subst e; simp [cellOk, TV.cells] at hc
  obtain ⟨i, rz, h1, h2, h3, h4⟩ := zero_cells hz g hzj
  obtain ⟨g', h5, h6, h7⟩ := mkObj_ok hR t h4
  refine ⟨_, _, g', .inl ?_, h5, h6, .ptr _ _ _ h7⟩
  unfold execOp
  simp only [ho]
  simp [Instr.alloc, h3, newVar, newRow]

theorem box_ok {ρ : Operand → Value} {τ : Operand → TV} (hρ : ∀ x, VRel g (ρ x) (τ x)) {o : Oper} {t : TypeId} {x : Operand} (ho : o.op = .box t x) (hR : Rel P g w s) (hc : (!isJunk (τ x)) = true) :
    EffOk P g w (mkObj s (.cells (τ x).cells t)) ρ o (.ptr s.n 0) := by
  have hj : τ x ≠ .junk := by intro e; rw [e] at hc; simp [isJunk] at hc
  obtain ⟨g', h5, h6, h7⟩ := mkObj_ok hR t ((hρ x).cells hj)
  refine ⟨_, _, g', .inl ?_, h5, h6, .ptr _ _ _ h7⟩
  unfold execOp
  simp only [ho]
  simp [Instr.box, newVar, newRow]

/-- Cells of an object are written. -/
theorem setCellsT_ok (hR : Rel P g w s) {o off b : Nat} {vs : List TV} {s' : St} (h : setCellsT s o off vs = some s') (ho : g.φ o = some b) {rvs : List Value} (hr : VRels g rvs vs) :
    ∃ w', (storeCells ⟨b, off, none⟩ rvs).run P w = .ok () w' ∧ Rel P g w' s' := by
  unfold setCellsT at h
  split at h
  · rename_i cs t hget
    split at h
    · rename_i hc
      simp only [Bool.and_eq_true, decide_eq_true_eq] at hc
      cases h
      obtain ⟨ob, h1, h2⟩ := hR.obj o b ho
      rw [hget] at h1
      cases h1
      obtain ⟨cur, h3, h4⟩ := h2
      have hl : cs.length ≤ cur.size := by have := h4.length; rw [List.length_take, Array.length_toList (xs := cur)] at this; omega
      have hrun := run_storeCells_at P b off t rvs 0 cur w h3 (by rw [hr.length]; omega) (hr.oneCell hc.2)
      cases hcs : cs with
      | nil =>
        subst hcs
        have hvs : vs = [] := List.length_eq_zero_iff.1 (by have := hc.1; rw [List.length_nil] at this; omega)
        subst hvs
        cases hr
        have hw : { s with objs := s.objs.set o (.cells (splice [] off []) t) } = s := by
          have : splice [] off [] = [] := by simp [splice]
          rw [this, Tr.set_same _ _ _ hget]
        exact ⟨w, by simp [storeCells], by rw [hw]; exact hR⟩
      | cons c0 cs0 =>
        rw [← hcs]
        have hne : ¬ Empty s o := fun ⟨t', ht'⟩ => by
          rw [hget, hcs] at ht'
          cases ht'
        refine ⟨_, hrun, ?_⟩
        refine hR.setCells ho h3 hne (by simp only [Nat.add_zero, List.size_toArray, List.length_append, List.length_take, List.length_drop, Array.length_toList]; rw [hr.length]; omega) ?_
        simp only [Nat.add_zero]
        have hrl := hr.length
        have hsl : (splice cs off vs).length = cs.length := by unfold splice; simp only [List.length_append, List.length_take, List.length_drop]; omega
        rw [hsl]
        unfold splice
        have e1 : (cur.toList.take off ++ rvs ++ cur.toList.drop (off + rvs.length)).take cs.length = (cur.toList.take cs.length).take off ++ rvs ++ (cur.toList.take cs.length).drop (off + rvs.length) := by
          apply List.ext_getElem?
          intro i
          simp only [List.getElem?_take, List.getElem?_append, List.getElem?_drop, List.length_append, List.length_take, Array.length_toList]
          grind
        rw [e1, ← hrl]
        exact ((h4.take _).append hr).append (h4.drop _)
    · cases h
  · cases h

theorem store_ok {ρ : Operand → Value} {τ : Operand → TV} (hρ : ∀ x, VRel g (ρ x) (τ x)) {o : Oper} {t : TypeId} {a x : Operand} (ho : o.op = .store t a x) (hR : Rel P g w s) {ob off : Nat} (ha : τ a = .ptr ob off)
    (hl : (τ x).cells.length = P.cellsOf t) (h0 : 0 < P.cellsOf t) {s' : St} (h : setCellsT s ob off (τ x).cells = some s') : EffOk P g w s' ρ o undefT := by
  have hr := hρ a
  rw [ha] at hr
  cases hq : ρ a <;> rw [hq] at hr <;> cases hr
  rename_i b e
  have hj : τ x ≠ .junk := by
    intro ej
    rw [ej] at h
    unfold setCellsT at h
    split at h
    · split at h
      · rename_i hc; simp [TV.cells, cellOk] at hc
      · cases h
    · cases h
  have hx := (hρ x).cells hj
  obtain ⟨w', h1, h2⟩ := setCellsT_ok hR h e hx
  refine ⟨undef, w', g, .inr ⟨?_, rfl⟩, .refl g, h2, .undef' g⟩
  have hsz : (ρ x).cells.size = P.cellsOf t := by rw [← hl, ← hx.length]; simp
  unfold execOp
  simp only [ho, hq]
  simp [Instr.storeAt, Instr.sureAddr, storeVar, sizeOf_run' (w := w) (show P.cellsOf t ≠ 0 by omega), hsz, h1]

theorem makeMap_ok {ρ : Operand → Value} {o : Oper} {t : TypeId} (ho : o.op = .makeMap t none) (hR : Rel P g w s) : EffOk P g w (mkObj s (.map [] 0)) ρ o (.map (some s.n)) := by
  obtain ⟨h1, h2, h3⟩ := hR.newObj ((Below.refl _ w).alloc (Nat.le_refl _) (.map #[] 0)) (Nat.le_refl _) (ob := .map [] 0) ⟨#[], heap_alloc_new w _, .nil⟩
  refine ⟨_, _, _, .inl ?_, h1, h2, .map _ _ h3⟩
  unfold execOp
  simp only [ho]
  simp [Instr.makeMap]

theorem EntRel.get {rs : List MapEntry} {es : List (TV × TV × Nat)} (h : EntRel g rs es) : ∀ {i : Nat} {e : MapEntry}, rs[i]? = some e → ∃ t, es[i]? = some t ∧ VRel g e.key t.1 ∧ VRel g e.val t.2.1 ∧ e.born = t.2.2 := by
  induction h with
  | nil => intro i e h; simp at h
  | cons e k v n es ts h1 h2 h3 _ ih =>
    intro i e' he
    cases i with
    | zero => simp at he; subst he; exact ⟨_, rfl, h1, h2, h3⟩
    | succ i => simpa using ih (by simpa using he)
theorem EntRel.append {rs rs' : List MapEntry} {es es' : List (TV × TV × Nat)} (h : EntRel g rs es) (h' : EntRel g rs' es') : EntRel g (rs ++ rs') (es ++ es') := by
  induction h with
  | nil => exact h'
  | cons e k v n es ts h1 h2 h3 _ ih => exact .cons _ _ _ _ _ _ h1 h2 h3 ih
theorem EntRel.modify {rs : List MapEntry} {es : List (TV × TV × Nat)} (h : EntRel g rs es) {k v : TV} {rk rv : Value} (hk : VRel g rk k) (hv : VRel g rv v) : ∀ i : Nat, EntRel g (rs.modify i fun e => { e with key := rk, val := rv }) (es.modify i fun e => (k, v, e.2.2)) := by
  induction h with
  | nil => intro i; cases i <;> exact .nil
  | cons e k' v' n es ts h1 h2 h3 h4 ih =>
    intro i
    cases i with
    | zero => exact EntRel.cons { e with key := rk, val := rv } k v n es ts hk hv h3 h4
    | succ i => simpa using EntRel.cons _ _ _ _ _ _ h1 h2 h3 (ih i)
theorem EntRel.erase {rs : List MapEntry} {es : List (TV × TV × Nat)} (h : EntRel g rs es) : ∀ i : Nat, EntRel g (rs.eraseIdx i) (es.eraseIdx i) := by
  induction h with
  | nil => intro i; simpa using EntRel.nil
  | cons e k' v' n es ts h1 h2 h3 h4 ih =>
    intro i
    cases i with
    | zero => simpa using h4
    | succ i => simpa using EntRel.cons _ _ _ _ _ _ h1 h2 h3 (ih i)

theorem putObj_rel (hR : Rel P g w s) {o b : Nat} (ho : g.φ o = some b) {rs : Array MapEntry} {c : Nat} (hb : w.heap[b]? = some (.map rs c)) {rs' : Array MapEntry} {es' : List (TV × TV × Nat)} {c' : Nat} (he : EntRel g rs'.toList es') :
    (setObj b (.map rs' c')).run P w = .ok () { w with heap := w.heap.setIfInBounds b (.map rs' c') } ∧ Rel P g { w with heap := w.heap.setIfInBounds b (.map rs' c') } { s with objs := s.objs.set o (.map es' c') } := by
  have hne : ¬ Empty s o := fun ⟨t, ht⟩ => by
    obtain ⟨ob, h1, h2⟩ := hR.obj o b ho
    rw [ht] at h1
    cases h1
    obtain ⟨vs, h3, _⟩ := h2
    rw [hb] at h3
    cases h3
  have hlt : b < w.heap.size := (Array.getElem?_eq_some_iff.1 hb).1
  refine ⟨by simp [setObj, Sem.run, hb], hR.setObj (w' := { w with heap := w.heap.setIfInBounds b (.map rs' c') }) (ob := .map es' c') ho (fun k hk => ?_) rfl rfl rfl (by simp) hne (fun vs e he => by rw [hb] at he; cases he) ⟨rs', ?_, he⟩⟩
  · simp [Array.getElem?_setIfInBounds, Ne.symm hk]
  · simp [hlt]

theorem keyStays {rk : Value} {k k' : TV} {kd : TypeDesc} (hs : keyEq kd k k' = some true) (hk : VRel g rk k) : (Instr.keyThatStays rk rk).run P w = .ok rk w := by
  unfold keyEq at hs
  split at hs <;> first | (cases hs; done) | skip
  · cases hk; simp [Instr.keyThatStays, Instr.sameBits, beq_toListBytes]
  · cases hk; simp [Instr.keyThatStays, Instr.sameBits, beq_toListBytes]
  · cases hk; simp [Instr.keyThatStays, Instr.sameBits, beq_toListBytes]

theorem findT_hit {kd : TypeDesc} {k : TV} : ∀ {es : List (TV × TV × Nat)} {i j : Nat} {v : TV}, findT kd k es i = some (some (j, v)) → ∃ k', keyEq kd k k' = some true
  | [], _, _, _, h => by simp [findT] at h
  | e :: es, i, j, v, h => by
    simp only [findT] at h
    split at h
    · exact ⟨_, by assumption⟩
    · exact findT_hit h
    · cases h

theorem mapSetT_ok (hR : Rel P g w s) {t : TypeId} {m k v : TV} {rm rk rv : Value} (hm : VRel g rm m) (hk : VRel g rk k) (hv : VRel g rv v) {s' : St} (h : mapSetT P s t m k v = some s') :
    ∃ w', (Instr.mapUpdate t rm rk rv).run P w = .ok () w' ∧ Rel P g w' s' := by
  unfold mapSetT at h
  split at h
  · rename_i key elem o hu
    cases hm with
    | map _ b e =>
      split at h
      · rename_i kd es clock hkd hget
        split at h
        · cases h
        · rename_i hsk
          have hsk' : simpleKey kd = true := by simpa using hsk
          obtain ⟨ob, h1, h2⟩ := hR.obj o b e
          rw [hget] at h1
          cases h1
          obtain ⟨rs, h3, h4⟩ := h2
          split at h
          · rename_i i v' hf
            cases h
            have h5 := findT_ok hk h4 0 hf
            simp only at h5
            obtain ⟨rv', e', h6, h7, _, h8, h9⟩ := h5
            obtain ⟨k', hk'⟩ := findT_hit hf
            have hst := keyStays (P := P) (w := w) hk' hk
            obtain ⟨h10, h11⟩ := putObj_rel (P := P) hR e h3 (rs' := rs.modify i fun e => { e with key := rk, val := rv }) (c' := clock) (by rw [Array.toList_modify]; exact h4.modify hk hv i)
            refine ⟨_, ?_, h11⟩
            have h8' : rs[i]? = some e' := by simpa using h8
            simp [Instr.mapUpdate, run_underlying hu, getObj_run h3, checkKey_run hkd hsk', findKey_run hkd h6, h8', h9, hst, h10]
          · rename_i hf
            cases h
            have h5 := findT_ok hk h4 0 hf
            simp only at h5
            obtain ⟨h10, h11⟩ := putObj_rel (P := P) hR e h3 (rs' := rs.push { key := rk, val := rv, born := clock }) (c' := clock + 1) (by rw [Array.toList_push]; exact h4.append (.cons _ _ _ _ _ _ hk hv rfl .nil))
            refine ⟨_, ?_, h11⟩
            simp [Instr.mapUpdate, run_underlying hu, getObj_run h3, checkKey_run hkd hsk', findKey_run hkd h5, h10]
          · cases h
      · cases h
  · cases h

theorem deleteT_ok (hR : Rel P g w s) {t u ty : TypeId} {m k : TV} {rm rk : Value} (hm : VRel g rm m) (hk : VRel g rk k) {s' : St} (h : deleteT P s t m k = some s') :
    ∃ w', (Builtin.delete_ #[t, u] ty #[rm, rk]).run P w = .ok (.tuple #[]) w' ∧ Rel P g w' s' := by
  unfold deleteT at h
  split at h
  · rename_i key elem o hu
    cases hm with
    | map _ b e =>
      split at h
      · rename_i kd es clock hkd hget
        split at h
        · cases h
        · rename_i hsk
          have hsk' : simpleKey kd = true := by simpa using hsk
          obtain ⟨ob, h1, h2⟩ := hR.obj o b e
          rw [hget] at h1
          cases h1
          obtain ⟨rs, h3, h4⟩ := h2
          split at h
          · rename_i i v' hf
            cases h
            have h5 := findT_ok hk h4 0 hf
            simp only at h5
            obtain ⟨rv', e', h6, h7, _, h8, h9⟩ := h5
            obtain ⟨h10, h11⟩ := putObj_rel (P := P) hR e h3 (rs' := rs.eraseIdxIfInBounds i) (c' := clock) (by
              have : (rs.eraseIdxIfInBounds i).toList = rs.toList.eraseIdx i := by simp
              rw [this]
              exact h4.erase i)
            refine ⟨_, ?_, h11⟩
            simp [Builtin.delete_, run_underlying hu, getObj_run h3, checkKey_run hkd hsk', findKey_run hkd h6, h10]
          · rename_i hf
            cases h
            have h5 := findT_ok hk h4 0 hf
            simp only at h5
            obtain ⟨h10, h11⟩ := putObj_rel (P := P) hR e h3 (rs' := rs) (c' := clock) h4
            refine ⟨_, by simp [Builtin.delete_, run_underlying hu, getObj_run h3, checkKey_run hkd hsk', findKey_run hkd h5, h10]; rfl, ?_⟩
            have hlt : b < w.heap.size := (Array.getElem?_eq_some_iff.1 h3).1
            have hh : w.heap.setIfInBounds b (.map rs clock) = w.heap := by
              apply Array.ext_getElem?
              intro k
              by_cases hkb : b = k
              · subst hkb; simp [hlt]; exact (Array.getElem?_eq_some_iff.1 h3).2.symm
              · simp [Array.getElem?_setIfInBounds, hkb]
            rw [hh]
            exact hR
          · cases h
      · cases h
  · rename_i key elem hu
    split at h
    · rename_i kd hkd
      split at h
      · rename_i hsk
        cases h
        cases hm
        exact ⟨w, by simp [Builtin.delete_, run_underlying hu, checkKey_run hkd hsk], hR⟩
      · cases h
    · cases h
  · cases h
end
end Go.Proofs.YthnhbejjikgifaaGreatDoor.TV

/-
  TV: what makes or changes something (2): append, copy, make.
-/
namespace Go.Proofs.YthnhbejjikgifaaGreatDoor.TV
open Go Go.RowKit
set_option linter.unusedSimpArgs false
set_option linter.unusedVariables false

section
variable {P : Program} {g : G} {w : World} {s : St}

/-- A source of elements, as the model sees it. -/
structure Src (P : Program) (g : G) (w : World) (size : Nat) (ry : Value) (ys : List TV) (news : List Value) : Prop where
  len : ∀ w1, (Builtin.lenOf ry).run P w1 = .ok ys.length w1
  first : ∀ w1 m, w1.heap = w.heap → m ≤ ys.length → (Builtin.firstCells size m ry).run P w1 = .ok (news.take (m * size)).toArray w1
  rel : VRels g news (ys.flatMap TV.cells)
  size : ∀ e, e ∈ ys → e.cells.length = size

theorem cell_of_heap {w w1 : World} (h : w1.heap = w.heap) (a : Addr) : w1.cell? a = w.cell? a := by simp [World.cell?, h]

theorem first_cells {w1 : World} (h : w1.heap = w.heap) {b off len cap size m : Nat} {vs : List Value} (hl : m * size ≤ vs.length) (hc : ∀ i v, vs[i]? = some v → w.cell? ⟨b, off + i, none⟩ = some v) :
    (Builtin.firstCells size m (.slice (some ⟨b, off, none⟩) len cap)).run P w1 = .ok (vs.take (m * size)).toArray w1 :=
  run_firstCells_some w1 size m ⟨b, off, none⟩ len cap (vs.take (m * size)) (by rw [List.length_take]; omega) (fun j v hv => by
    rw [add_plain', cell_of_heap h]
    rw [List.getElem?_take] at hv
    split at hv
    · exact hc j v hv
    · cases hv)

theorem chunk_length (size : Nat) : ∀ (n : Nat) (cs : List TV), (chunk size n cs).length = n
  | 0, _ => rfl
  | n + 1, cs => by simp [chunk, chunk_length size n]
theorem chunk_flat {size : Nat} (hs : 0 < size) : ∀ (n : Nat) (cs : List TV), n * size ≤ cs.length → (cs.take (n * size)).all cellOk = true → (chunk size n cs).flatMap TV.cells = cs.take (n * size) ∧ ∀ e, e ∈ chunk size n cs → e.cells.length = size
  | 0, cs, _, _ => ⟨by simp [chunk], fun e he => by simp [chunk] at he⟩
  | n + 1, cs, hl, hok => by
    rw [Nat.succ_mul] at hl hok
    obtain ⟨h1, h2⟩ := chunk_flat hs n (cs.drop size) (by rw [List.length_drop]; omega) (by
      simp only [List.all_eq_true] at hok ⊢
      intro c hc
      refine hok c ?_
      rw [Nat.add_comm, List.take_add]
      exact List.mem_append_right _ hc)
    have hfirst : (if size = 1 then cs.headD .junk else .agg (cs.take size)).cells = cs.take size := by
      split
      · rename_i h; subst h
        cases cs with
        | nil => simp at hl
        | cons c cs =>
          have hc : cellOk c = true := by
            simp only [List.all_eq_true] at hok
            refine hok c ?_
            rw [Nat.add_comm, List.take_add]
            exact List.mem_append_left _ (by simp)
          simp only [List.headD_cons]
          cases c <;> first | rfl | simp [cellOk] at hc
      · rfl
    refine ⟨?_, fun e he => ?_⟩
    · simp only [chunk, List.flatMap_cons, hfirst, h1]
      rw [Nat.succ_mul, Nat.add_comm, List.take_add]
    · simp only [chunk, List.mem_cons] at he
      rcases he with rfl | he
      · rw [hfirst, List.length_take]; omega
      · exact h2 e he

theorem srcT_ok (hR : Rel P g w s) {size : Nat} (hs : 0 < size) {y : TV} {ry : Value} {ys : List TV} (hy : VRel g ry y) (h : srcT s size y = some ys) (hh : headOk size ys = true) (hok : slotOk ys = true) :
    ∃ news, Src P g w size ry ys news := by
  unfold srcT at h
  split at h
  · rename_i b es tok
    obtain rfl : es = ys := by simpa using h
    cases hy with
    | nils _ _ => exact ⟨[], fun w1 => rfl, fun w1 m _ hm => by simp [Builtin.firstCells], .nil, fun e he => by simp at he⟩
    | empty a cap _ _ _ =>
      refine ⟨[], fun w1 => rfl, fun w1 m _ hm => ?_, .nil, fun e he => by simp at he⟩
      have : m = 0 := by simpa using hm
      subst this
      simp [Builtin.firstCells, loadCells, loadCellsFrom]
    | slice bl off n cap size' vs _ _ hne hn hcap hs0 hse hsol hrel htok =>
      have hsz : size' = size := by
        cases es with
        | nil => exact absurd rfl hne
        | cons e _ => have := hse e List.mem_cons_self; simp [headOk] at hh; omega
      subst hsz
      have hl : vs.length = es.length * size' := by rw [hrel.length, flat_length hse]
      exact ⟨vs, fun w1 => by rw [← hn]; rfl, fun w1 m he hm => first_cells he (by rw [hl]; exact Nat.mul_le_mul_right _ hm) (fun i v hv => hR.sol _ _ _ (hsol i v hv)), hrel, hse⟩
  · rename_i b
    cases h
    cases hy with
    | str sb _ e =>
      have hsz : sb.size = b.length := by rw [← e]; exact Array.length_toList.symm
      refine ⟨b.map fun c => Value.int .u8 c.toNat, fun w1 => by simp [Builtin.lenOf, hsz], fun w1 m _ hm => ?_, ?_, fun e he => ?_⟩
      · rw [List.length_map] at hm
        by_cases hb : b = []
        · subst hb
          have : m = 0 := by simpa using hm
          subst this
          have : sb.data.toList = [] := e
          have h0 : sb.data = #[] := Array.toList_eq_nil_iff.1 this
          simp [Builtin.firstCells, ByteArray.data_extract, h0]
        · have h1 : size = 1 := by
            cases b with
            | nil => exact absurd rfl hb
            | cons c b => simp [headOk, TV.cells] at hh; omega
          subst h1
          simp only [Builtin.firstCells, Sem.run_pure, Nat.mul_one]
          congr 1
          apply Array.ext'
          simp [ByteArray.data_extract, Array.toList_extract, ← e, List.map_take]
      · have e1 : (b.map fun c => TV.int .u8 c.toNat) = (b.map fun c => (c.toNat : Int)).map (TV.int .u8) := by simp
        rw [e1, flat_ints]
        exact bytes_rel g b
      · obtain ⟨c, hc, rfl⟩ := List.mem_map.1 he
        cases b with
        | nil => simp at hc
        | cons c' b => simp [headOk, TV.cells] at hh ⊢; omega
  · rename_i o off len cap
    split at h
    · rename_i cs t' ho
      split at h
      · rename_i hl
        simp only [Bool.and_eq_true, decide_eq_true_eq] at hl
        cases h
        cases hy with
        | osl a _ _ _ _ cap' ha hlc hcc =>
          have hcl := chunk_length size len (cs.drop off)
          by_cases hc : len = 0
          · subst hc
            refine ⟨[], fun w1 => rfl, fun w1 m _ hm => ?_, .nil, fun e he => by simp [chunk] at he⟩
            have : m = 0 := by simpa [chunk] using hm
            subst this
            simp [Builtin.firstCells, loadCells, loadCellsFrom]
          · obtain ⟨b, e1, rfl⟩ := ha (by omega)
            obtain ⟨vs, h1, h2⟩ := objCells_rel hR e1 ho
            obtain ⟨h3, h4⟩ := chunk_flat hs len (cs.drop off) (by rw [List.length_drop]; omega) hl.2
            have hvl : vs.length = cs.length := h2.length
            refine ⟨(vs.drop off).take (len * size), fun w1 => by rw [hcl]; rfl, fun w1 m he hm => ?_, ?_, h4⟩
            · rw [hcl] at hm
              have hm' : m * size ≤ len * size := Nat.mul_le_mul_right _ hm
              refine first_cells he (by rw [List.length_take, List.length_drop]; omega) (fun i v hv => ?_)
              rw [List.getElem?_take] at hv
              split at hv
              · rw [List.getElem?_drop] at hv; exact h1 _ _ hv
              · cases hv
            · rw [h3]
              exact (h2.drop off).take _
      · cases h
    · cases h
  · cases h

theorem slot_cells {ys : List TV} (h : slotOk ys = true) : (ys.flatMap TV.cells).all cellOk = true := by
  simp only [slotOk, List.all_eq_true] at h
  simp only [List.all_eq_true, List.mem_flatMap]
  rintro c ⟨y, hy, hc⟩
  exact h y hy c hc

def noInt (P : Program) (u : TypeId) : Prop := (∃ e, P.underlying u = some (.slice e)) ∨ P.underlying u = some .string

theorem app_none {t u ty e : TypeId} (ht : P.underlying t = some (.slice e)) (hu : noInt P u) (hz : P.cellsOf e ≠ 0) {base : Option Addr} {n cap : Nat} (hn : n ≤ cap) {ry : Value} {news : List Value} (hy : Src P g w (P.cellsOf e) ry [] news) :
    (Builtin.append_ #[t, u] ty #[.slice base n cap, ry]).run P w = .ok (.slice base n cap) w := by
  have h1 := hy.len w
  have h2 := hy.first w 0 rfl (Nat.le_refl _)
  rcases hu with ⟨e', hd⟩ | hd
  all_goals
    cases base <;> simp [Builtin.append_, run_underlying ht, run_underlying hd, sizeOf_run' (w := w) hz, h1, h2, hn, storeCells]

theorem app_room {t u ty e : TypeId} (ht : P.underlying t = some (.slice e)) (hu : noInt P u) (hz : P.cellsOf e ≠ 0) {b n cap : Nat} {cur : Array Value} (hb : w.heap[b]? = some (.cells cur e (0, 0)))
    {ry : Value} {ys : List TV} {news : List Value} (hy : Src P g w (P.cellsOf e) ry ys news) (hl : news.length = ys.length * P.cellsOf e) (hroom : n + ys.length ≤ cap) (hfit : n * P.cellsOf e + news.length ≤ cur.size) (h1 : ∀ v ∈ news, v.oneCell' = true) :
    (Builtin.append_ #[t, u] ty #[.slice (some ⟨b, 0, none⟩) n cap, ry]).run P w =
      .ok (.slice (some ⟨b, 0, none⟩) (n + ys.length) cap) (w.setRow b (cur.toList.take (n * P.cellsOf e) ++ news ++ cur.toList.drop (n * P.cellsOf e + news.length)).toArray) := by
  have e1 := hy.len w
  have e2 := hy.first w ys.length rfl (Nat.le_refl _)
  rw [← hl, List.take_length] at e2
  have hst := run_storeCells_at P b (n * P.cellsOf e) e news 0 cur w hb (by simpa using hfit) h1
  simp only [Nat.add_zero] at hst
  rcases hu with ⟨e', hd⟩ | hd
  all_goals
    simp [Builtin.append_, run_underlying ht, run_underlying hd, sizeOf_run' (w := w) hz, e1, e2, hroom, add_plain', hst]

theorem app_grow {t u ty e : TypeId} (ht : P.underlying t = some (.slice e)) (hu : noInt P u) {i : TypeInfo} (hi : P.info? e = some i) {rz : Value} (hzv : i.zero = some rz) (hz : P.cellsOf e ≠ 0) {base : Option Addr} {n cap : Nat} {olds : List Value}
    (hold : (Builtin.firstCells (P.cellsOf e) n (.slice base n cap)).run P w.drew = .ok olds.toArray w.drew)
    {ry : Value} {ys : List TV} {news : List Value} (hy : Src P g w (P.cellsOf e) ry ys news) (hl : news.length = ys.length * P.cellsOf e) (hg : cap < n + ys.length) (hb : (n + ys.length) * P.bytesOf e ≤ 140737488355328) (hb0 : 0 < P.bytesOf e) :
    (Builtin.append_ #[t, u] ty #[.slice base n cap, ry]).run P w = .ok (.slice (some ⟨w.heap.size, 0, none⟩) (n + ys.length) (grownCap w (n + ys.length) cap e))
      (w.drew.alloc (.cells ((olds ++ news).toArray ++ Builtin.zeroCells rz.cells (grownCap w (n + ys.length) cap e - (n + ys.length))) e)) := by
  have e1 := hy.len w
  have e2 := hy.first w.drew ys.length rfl (Nat.le_refl _)
  rw [← hl, List.take_length] at e2
  have hby : i.bytes = P.bytesOf e := by simp [Program.bytesOf, hi]
  have hsz : i.size = P.cellsOf e := (cellsOf_info hi).symm
  have hn : ¬ (n + ys.length ≤ cap) := by omega
  have hlen : n + ys.length ≤ 140737488355328 := Nat.le_trans (Nat.le_mul_of_pos_right _ hb0) hb
  have hmax : IntKind.i64.max = 9223372036854775807 := rfl
  have hfit := growslice_fits (old := cap) (by omega) hb
  have h63 : ¬ ((9223372036854775807 : Int) < (n : Int) + (ys.length : Int)) := by omega
  have h48 : ¬ (281474976710656 < Builtin.nextslicecap (n + ys.length) cap * P.bytesOf e) := by omega
  have hs1 := sizeOf_run' (w := w) hz
  rcases hu with ⟨e', hd⟩ | hd
  all_goals
    simp [Builtin.append_, run_underlying ht, run_underlying hd, hs1, typeInfo, zeroValue, hi, hzv, hby, e1, hn, h63, h48, hmax, Question.forced, hold, e2, newRow, grownCap]
    congr 2
    apply Array.ext'
    simp

theorem own_grown {cap n cap' : Nat} {e : TypeId} {size base : Nat} {xs : List Value} {zs : Array Value} (hbase : base ≤ w.heap.size) (hn : n ≤ cap') (hc : cap' ≤ maxLen) (hl : xs.length = n * size) (hz : zs.size = (cap' - n) * size) :
    (w.drew.alloc (.cells (xs.toArray ++ zs) e)).ownsRow base e size (.slice (some ⟨w.heap.size, 0, none⟩) n cap') n xs := by
  refine ⟨hl, .inr ⟨w.heap.size, cap', xs.toArray ++ zs, rfl, hbase, heap_alloc_new w.drew _, hn, hc, ?_, ?_⟩⟩
  · simp only [Array.size_append, List.size_toArray, hl, hz, ← Nat.add_mul]
    congr 1
    omega
  · rw [Array.toList_append, ← hl]
    exact List.take_left

theorem tip_val {i n b cap size : Nat} {xs : List Value} {es : List TV} (hne : es ≠ []) (hlen : es.length = n) (hn : n ≤ cap) (hs : 0 < size) (hse : ∀ e, e ∈ es → e.cells.length = size) (hrel : VRels (g.addTip i n b cap xs) xs (es.flatMap TV.cells)) (hbb : g.base ≤ b) :
    VRel (g.addTip i n b cap xs) (.slice (some ⟨b, 0, none⟩) n cap) (.slice false es (.tip i)) := by
  refine .slice b 0 n cap size xs es _ hne hlen hn hs hse (fun j v hv => ?_) hrel ⟨?_, rfl, ?_, fun _ => ?_⟩
  · simp [G.addTip, hv, hbb]
  · show i < max g.ntips (i + 1)
    omega
  · simp [G.addTip]
  · simp [G.addTip]

/-- A slice of the call's that is laid anew. -/
theorem grow_ok (hR : Rel P g w s) {t u ty elem : TypeId} (ht : P.underlying t = some (.slice elem)) (hu : noInt P u) {ti : TypeInfo} (hti : P.info? elem = some ti) {rz : Value} (hrz : ti.zero = some rz) (hrzs : rz.cells.size = P.cellsOf elem)
    (hz0 : 0 < P.cellsOf elem) {base : Option Addr} {cap : Nat} {olds news : List Value} {es ys : List TV} (hold : (Builtin.firstCells (P.cellsOf elem) es.length (.slice base es.length cap)).run P w.drew = .ok olds.toArray w.drew)
    {ry : Value} (hn : Src P g w (P.cellsOf elem) ry ys news) (hyne : ys ≠ []) (horel : VRels g olds (es.flatMap TV.cells)) (hse : ∀ e, e ∈ es → e.cells.length = P.cellsOf elem) (hg : cap < es.length + ys.length)
    (hb : (es.length + ys.length) * P.bytesOf elem ≤ 140737488355328) (hb0 : 0 < P.bytesOf elem) {i : Nat} (hi : i ≤ s.ntips) (hit : i < s.ntips → g.tip i < es.length + ys.length) :
    ∃ rv w' g', (Builtin.append_ #[t, u] ty #[.slice base es.length cap, ry]).run P w = .ok rv w' ∧ g.le g' ∧ Rel P g' w' (s.addTip i (es.length + ys.length) elem) ∧ VRel g' rv (.slice false (es ++ ys) (.tip i)) := by
  have hylen : 0 < ys.length := List.length_pos_iff.2 hyne
  have hnl : news.length = ys.length * P.cellsOf elem := by rw [hn.rel.length, flat_length hn.size]
  have hol : olds.length = es.length * P.cellsOf elem := by rw [horel.length, flat_length hse]
  have hlen : es.length + ys.length ≤ 140737488355328 := Nat.le_trans (Nat.le_mul_of_pos_right _ hb0) hb
  have hmx : es.length + ys.length ≤ maxLen := by simp only [maxLen]; omega
  have hrun := app_grow (ty := ty) ht hu hti hrz (by omega) hold hn hnl hg hb hb0
  have hge := grownCap_ge w (es.length + ys.length) cap elem
  have hown := own_grown (w := w) (e := elem) (cap := cap) (n := es.length + ys.length) (size := P.cellsOf elem) (base := g.base) (xs := olds ++ news) (zs := Builtin.zeroCells rz.cells (grownCap w (es.length + ys.length) cap elem - (es.length + ys.length)))
    hR.bsize hge (grownCap_le_maxLen w _ _ _ hmx) (by rw [List.length_append, hol, hnl, Nat.add_mul]) (by rw [size_zeroCells, hrzs])
  obtain ⟨h1, h2⟩ := hR.appendNew (i := i) (e := elem) (((Below.refl _ w).drew).alloc (Nat.le_refl _) _) hi hit (by omega) (Nat.le_refl _) hz0 hown
  refine ⟨_, _, _, hrun, h1, h2, tip_val (fun e => ?_) (by rw [List.length_append]) hge hz0 (fun e he => ?_) ?_ hR.bsize⟩
  · exact hyne (List.append_eq_nil_iff.1 e).2
  · rcases List.mem_append.1 he with he | he
    · exact hse e he
    · exact hn.size e he
  · rw [List.flatMap_append]
    exact (horel.append hn.rel).mono h1

theorem appendT_ok (hR : Rel P g w s) {t u ty : TypeId} {x y v : TV} {rx ry : Value} (hx : VRel g rx x) (hy : VRel g ry y) {s' : St} (h : appendT P s t u x y = some (v, s')) :
    ∃ rv w' g', (Builtin.append_ #[t, u] ty #[rx, ry]).run P w = .ok rv w' ∧ g.le g' ∧ Rel P g' w' s' ∧ VRel g' rv v := by
  unfold appendT at h
  split at h
  · rename_i elem ud ht hud
    split at h
    · cases h
    · rename_i hni
      have hu : noInt P u := by
        cases ud <;> first | exact .inl ⟨_, hud⟩ | exact .inr hud | exact absurd rfl hni
      split at h
      · rename_i b es tok ys hsrc
        split at h
        · rename_i hemp
          split at h
          · rename_i hz
            cases h
            obtain rfl : ys = [] := by simpa using hemp
            obtain ⟨news, hn⟩ := srcT_ok hR hz hy hsrc rfl rfl
            cases hx with
            | nils _ hnt => exact ⟨_, w, g, app_none ht hu (by omega) (Nat.le_refl _) hn, .refl g, hR, .nils _ hnt⟩
            | empty a cap _ hnt hex => exact ⟨_, w, g, app_none ht hu (by omega) (Nat.zero_le _) hn, .refl g, hR, .empty _ _ _ hnt hex⟩
            | slice bl off n cap size vs _ _ hne hn' hcap hs0 hse hsol hrel htok => exact ⟨_, w, g, app_none ht hu (by omega) hcap hn, .refl g, hR, .slice bl off n cap size vs _ _ hne hn' hcap hs0 hse hsol hrel htok⟩
          · cases h
        · rename_i hemp
          have hyne : ys ≠ [] := by simpa using hemp
          have hylen : 0 < ys.length := List.length_pos_iff.2 hyne
          split at h
          · rename_i hc
            simp only [Bool.and_eq_true, decide_eq_true_eq] at hc
            obtain ⟨⟨⟨⟨⟨⟨hb, hb0⟩, hz0⟩, hhy⟩, hhe⟩, hok⟩, hzi⟩ := hc
            have hz : P.cellsOf elem ≠ 0 := by omega
            obtain ⟨news, hn⟩ := srcT_ok hR hz0 hy hsrc hhy hok
            obtain ⟨i, rz, hi, hrz, hrzs⟩ : ∃ i rz, P.info? elem = some i ∧ i.zero = some rz ∧ rz.cells.size = P.cellsOf elem := by
              unfold zeroFits at hzi
              split at hzi
              · rename_i z hzz
                simp only [Bool.and_eq_true, beq_iff_eq, Bool.not_eq_true'] at hzi
                obtain ⟨i, rz, h1, h2, _, h4⟩ := zero_cells hzz g (by intro e; subst e; simp [isJunk] at hzi)
                exact ⟨i, rz, h1, h2, by rw [← hzi.1, ← h4.length]; simp⟩
              · cases hzi
            have hnl : news.length = ys.length * P.cellsOf elem := by rw [hn.rel.length, flat_length hn.size]
            have hone : ∀ v ∈ news, v.oneCell' = true := hn.rel.oneCell (slot_cells hok)
            have hlen : es.length + ys.length ≤ 140737488355328 := Nat.le_trans (Nat.le_mul_of_pos_right _ hb0) hb
            have hmx : es.length + ys.length ≤ maxLen := by simp only [maxLen]; omega
            have hzl : ∀ k, (Builtin.zeroCells rz.cells k).size = k * P.cellsOf elem := fun k => by rw [size_zeroCells, hrzs]
            split at h
            · cases h
            · split at h
              · rename_i hoke
                have hs' : s.addTip s.ntips (es.length + ys.length) elem = { s with ntips := s.ntips + 1, tips := s.tips.set s.ntips (es.length + ys.length, elem) } := by
                  unfold St.addTip
                  rw [Nat.max_eq_right (Nat.le_succ _)]
                rw [← hs'] at h
                cases h
                cases hx with
                | nils _ _ => exact grow_ok hR ht hu hi hrz hrzs hz0 (es := []) (olds := []) (by simp [Builtin.firstCells]) hn hyne .nil (by intro e he; simp at he) (by simpa using hylen) hb hb0 (Nat.le_refl _) (fun h => absurd h (by omega))
                | empty a cap _ _ hex =>
                  have := hex rfl
                  subst this
                  exact grow_ok hR ht hu hi hrz hrzs hz0 (es := []) (olds := []) (by simp [Builtin.firstCells, loadCells, loadCellsFrom]) hn hyne .nil (by intro e he; simp at he) (by simpa using hylen) hb hb0 (Nat.le_refl _) (fun h => absurd h (by omega))
                | slice bl off n cap size vs _ _ hne hn' hcap hs0 hse hsol hrel htok =>
                  have hsz : size = P.cellsOf elem := by
                    cases es with
                    | nil => exact absurd rfl hne
                    | cons e _ => have := hse e List.mem_cons_self; simp [headOk] at hhe; omega
                  subst hsz
                  subst hn'
                  have hcn : cap = es.length := htok
                  have hvl : vs.length = es.length * P.cellsOf elem := by rw [hrel.length, flat_length hse]
                  have hf := first_cells (P := P) (w := w) (w1 := w.drew) rfl (b := bl) (off := off) (len := es.length) (cap := cap) (size := P.cellsOf elem) (m := es.length) (vs := vs) (by omega) (fun i v hv => hR.sol _ _ _ (hsol i v hv))
                  rw [List.take_of_length_le (by omega)] at hf
                  exact grow_ok hR ht hu hi hrz hrzs hz0 hf hn hyne hrel hse (by omega) hb hb0 (Nat.le_refl _) (fun h => absurd h (by omega))
              · cases h
            · rename_i i0
              split at h
              · rename_i n e hget
                split at h
                · rename_i hne'
                  simp only [Bool.and_eq_true, decide_eq_true_eq, beq_iff_eq] at hne'
                  obtain ⟨rfl, rfl⟩ := hne'
                  cases hx with
                  | nils _ hnt => exact absurd rfl (hnt _)
                  | empty _ _ _ hnt _ => exact absurd rfl (hnt _)
                  | slice bl off n cap size vs _ _ hne hn' hcap hs0 hse hsol hrel htok =>
                    have hsz : size = P.cellsOf e := by
                      cases es with
                      | nil => exact absurd rfl hne
                      | cons e _ => have := hse e List.mem_cons_self; simp [headOk] at hhe; omega
                    subst hsz
                    subst hn'
                    obtain ⟨k1, rfl, k3, k4⟩ := htok
                    obtain ⟨b0, cap0, e0, xs, t1, t2, t3⟩ := hR.toks i0 k1
                    rw [hget] at t2
                    simp only [Option.some.injEq, Prod.mk.injEq] at t2
                    obtain ⟨t4, rfl⟩ := t2
                    have t5 := k4 t4
                    rw [t1] at t5
                    cases t5
                    have hi0 : i0 < s.ntips := by rw [← hR.nts]; exact k1
                    have hs' : s.addTip i0 (es.length + ys.length) e = { s with tips := s.tips.set i0 (es.length + ys.length, e) } := by
                      unfold St.addTip
                      rw [Nat.max_eq_left (by omega)]
                    rw [← hs'] at h
                    cases h
                    have hvl : vs.length = es.length * P.cellsOf e := by rw [hrel.length, flat_length hse]
                    have hxl : xs.length = es.length * P.cellsOf e := by rw [t3.own.1, ← t4]
                    have hvx : vs = xs := by
                      apply List.ext_getElem?
                      intro j
                      by_cases hj : j < vs.length
                      · have h1 := hsol j _ (List.getElem?_eq_getElem hj)
                        rw [Nat.zero_add, t3.sol] at h1
                        rw [h1, List.getElem?_eq_getElem hj]
                      · rw [List.getElem?_eq_none (by omega), List.getElem?_eq_none (by omega)]
                    subst hvx
                    have hf := first_cells (P := P) (w := w) (w1 := w.drew) rfl (b := bl) (off := 0) (len := es.length) (cap := cap) (size := P.cellsOf e) (m := es.length) (vs := vs) (by omega) (fun i v hv => hR.sol _ _ _ (hsol i v hv))
                    rw [List.take_of_length_le (by omega)] at hf
                    by_cases hroom : es.length + ys.length ≤ cap
                    · rcases t3.own.2 with ⟨hnil, _⟩ | ⟨g0, cap1, cur, e1, hbase, hcur, hnc, hcm, hcs, htk⟩
                      · cases hnil
                      · injection e1 with e1 _ e3
                        injection e1 with e1
                        injection e1 with e1
                        subst e1
                        subst e3
                        have hmul : (es.length + ys.length) * P.cellsOf e ≤ cap * P.cellsOf e := Nat.mul_le_mul_right _ hroom
                        rw [Nat.add_mul] at hmul
                        have hrun := app_room (ty := ty) ht hu hz (n := es.length) (cap := cap) hcur hn hnl hroom (by omega) hone
                        rw [← t4] at htk
                        rw [htk] at hrun
                        have hown : (w.setRow bl (vs ++ news ++ cur.toList.drop (es.length * P.cellsOf e + news.length)).toArray).ownsRow g.base e (P.cellsOf e) (.slice (some ⟨bl, 0, none⟩) (es.length + ys.length) cap) (es.length + ys.length) (vs ++ news) := by
                          refine ⟨by rw [List.length_append, hvl, hnl, Nat.add_mul], .inr ⟨bl, cap, _, rfl, hbase, setRow_heap w bl cur _ e (0, 0) hcur, hroom, hcm, ?_, ?_⟩⟩
                          · simp only [List.size_toArray, List.length_append, List.length_drop, hvl, hnl, Array.length_toList, hcs]
                            omega
                          · rw [Nat.add_mul, ← hvl, ← hnl, ← List.length_append]
                            exact List.take_left
                        obtain ⟨h1, h2⟩ := hR.appendIn k1 t1 (by rw [← t4]; exact hget) (n := es.length + ys.length) (by omega) hcur hz0 (xs := vs ++ news) (fun j v hv => by
                          rw [t3.sol] at hv
                          rw [List.getElem?_append_left (List.getElem?_eq_some_iff.1 hv).1]
                          exact hv) hown
                        refine ⟨_, _, _, hrun, h1, h2, tip_val (fun e => ?_) (by rw [List.length_append]) hroom hz0 (fun e he => ?_) ?_ t3.lt.1⟩
                        · exact hyne (List.append_eq_nil_iff.1 e).2
                        · rcases List.mem_append.1 he with he | he
                          · exact hse e he
                          · exact hn.size e he
                        · rw [List.flatMap_append]
                          exact (hrel.append hn.rel).mono h1
                    · exact grow_ok hR ht hu hi hrz hrzs hz0 hf hn hyne hrel hse (by omega) hb hb0 (by omega) (fun _ => by omega)
                · cases h
              · cases h
          · cases h
      · cases h
  · cases h
end
end Go.Proofs.YthnhbejjikgifaaGreatDoor.TV
