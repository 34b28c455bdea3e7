/-
  TV: each operation on plain values is the model's own (3): slices, addresses, loads.
-/
import Derived.Test.YtmmofmkencnldaaGreatDoorTVOps2
namespace Go.Proofs.YtmmofmkencnldaaGreatDoor.TV
open Go Go.RowKit
set_option linter.unusedSimpArgs false
set_option linter.unusedVariables false

section
variable {P : Program} {g : G} {w : World} {s : St}

/-! ### Elements and cells -/
theorem flat_length {es : List TV} {size : Nat} (h : ∀ e, e ∈ es → e.cells.length = size) : (es.flatMap TV.cells).length = es.length * size := by
  induction es with
  | nil => simp
  | cons e es ih =>
    simp only [List.flatMap_cons, List.length_append, List.length_cons, h e List.mem_cons_self, ih fun e he => h e (List.mem_cons_of_mem _ he)]
    rw [Nat.succ_mul]; omega
theorem flat_take {es : List TV} {size : Nat} (h : ∀ e, e ∈ es → e.cells.length = size) (n : Nat) : (es.take n).flatMap TV.cells = (es.flatMap TV.cells).take (n * size) := by
  induction es generalizing n with
  | nil => simp
  | cons e es ih =>
    cases n with
    | zero => simp
    | succ n =>
      have he := h e List.mem_cons_self
      simp only [List.take_succ_cons, List.flatMap_cons, ih fun e he => h e (List.mem_cons_of_mem _ he)]
      rw [List.take_append, he, Nat.succ_mul, List.take_of_length_le (l := e.cells) (by omega)]
      congr 2
      omega
theorem flat_drop {es : List TV} {size : Nat} (h : ∀ e, e ∈ es → e.cells.length = size) (n : Nat) : (es.drop n).flatMap TV.cells = (es.flatMap TV.cells).drop (n * size) := by
  induction es generalizing n with
  | nil => simp
  | cons e es ih =>
    cases n with
    | zero => simp
    | succ n =>
      have he := h e List.mem_cons_self
      simp only [List.drop_succ_cons, List.flatMap_cons, ih fun e he => h e (List.mem_cons_of_mem _ he)]
      rw [List.drop_append, he, Nat.succ_mul, List.drop_of_length_le (l := e.cells) (by omega)]
      simp
theorem flat_get {es : List TV} {size : Nat} (h : ∀ e, e ∈ es → e.cells.length = size) {n : Nat} {e : TV} (he : es[n]? = some e) : e.cells = ((es.flatMap TV.cells).drop (n * size)).take size := by
  have h1 : es.drop n = e :: es.drop (n + 1) := by
    obtain ⟨hn, rfl⟩ := List.getElem?_eq_some_iff.1 he
    exact List.drop_eq_getElem_cons hn
  rw [← flat_drop h n, h1, List.flatMap_cons]
  have := h e (List.mem_of_getElem? he)
  rw [List.take_append, this, List.take_of_length_le (by omega)]
  simp

theorem SolAt.drop {b off : Nat} {vs : List Value} (h : SolAt g b off vs) (k : Nat) : SolAt g b (off + k) (vs.drop k) := fun i v e => by
  rw [List.getElem?_drop] at e
  rw [Nat.add_assoc]
  exact h _ _ e
theorem SolAt.take {b off : Nat} {vs : List Value} (h : SolAt g b off vs) (k : Nat) : SolAt g b off (vs.take k) := fun i v e => by
  rw [List.getElem?_take] at e
  split at e
  · exact h _ _ e
  · cases e

inductive OptRel (g : G) : Option Value → Option TV → Prop where
  | none : OptRel g none none
  | some (v : Value) (t : TV) : VRel g v t → OptRel g (some v) (some t)

theorem bound_ok {v : Value} {k : IntKind} {n : Int} (hv : VRel g v (.int k n)) {y : Nat} (h0 : 0 ≤ n) (h1 : n.toNat ≤ y) (code : BoundsCode) : (Instr.sliceBound v y code).run P w = .ok n.toNat w := by
  cases hv
  have : n ≤ (y : Int) := by omega
  simp [Instr.sliceBound, asIntOf, h0, this]

theorem natOf_cases {x : Option TV} {d n : Nat} (e : natOf x d = some n) : (x = none ∧ n = d) ∨ ∃ k i, x = some (.int k i) ∧ 0 ≤ i ∧ n = i.toNat := by
  unfold natOf at e
  split at e
  · cases e; exact .inl ⟨rfl, rfl⟩
  · split at e
    · cases e; exact .inr ⟨_, _, rfl, by assumption, rfl⟩
    · cases e
  · cases e

/-- The bounds of a slice expression: 'cap' is what the model sees, 'cap0' what the plain value knows. -/
theorem bounds_ok {len cap cap0 : Nat} {lo hi mx : Option TV} {rlo rhi rmx : Option Value} (hlo : OptRel g rlo lo) (hhi : OptRel g rhi hi) (hmx : OptRel g rmx mx) (hc : cap0 ≤ cap) {l h m : Nat}
    (hb : sliceBounds len cap0 lo hi mx = some (l, h, m)) (isSlice : Bool) :
    (Instr.sliceBounds isSlice len cap rlo rhi rmx).run P w = .ok (l, h, if mx.isSome then m else cap) w ∧ l ≤ h ∧ h ≤ m ∧ m ≤ cap0 ∧ (mx = none → m = cap0) := by
  unfold sliceBounds at hb
  split at hb
  · rename_i m' h' l' em eh el
    split at hb
    · rename_i hcond
      cases hb
      simp only [Bool.and_eq_true, decide_eq_true_eq, Bool.or_eq_true] at hcond
      obtain ⟨⟨⟨c1, c2⟩, c3⟩, c4⟩ := hcond
      refine ⟨?_, c1, c2, c3, ?_⟩
      · rcases natOf_cases em with ⟨rfl, rfl⟩ | ⟨km, im, rfl, hm0, rfl⟩
        · cases hmx
          rcases natOf_cases eh with ⟨rfl, rfl⟩ | ⟨kh, ih, rfl, hh0, rfl⟩
          · cases hhi
            rcases natOf_cases el with ⟨rfl, rfl⟩ | ⟨kl, il, rfl, hl0, rfl⟩
            · cases hlo; simp [Instr.sliceBounds]
            · cases hlo with | some _ _ r => simp [Instr.sliceBounds, bound_ok r hl0 c1]
          · cases hhi with
            | some _ _ rh =>
              rcases natOf_cases el with ⟨rfl, rfl⟩ | ⟨kl, il, rfl, hl0, rfl⟩
              · cases hlo; simp [Instr.sliceBounds, bound_ok rh hh0 (show ih.toNat ≤ cap by omega)]
              · cases hlo with | some _ _ r => simp [Instr.sliceBounds, bound_ok rh hh0 (show ih.toNat ≤ cap by omega), bound_ok r hl0 c1]
        · cases hmx with
          | some _ _ rm =>
            rcases natOf_cases eh with ⟨rfl, rfl⟩ | ⟨kh, ih, rfl, hh0, rfl⟩
            · simp at c4
            · cases hhi with
              | some _ _ rh =>
                rcases natOf_cases el with ⟨rfl, rfl⟩ | ⟨kl, il, rfl, hl0, rfl⟩
                · cases hlo; simp [Instr.sliceBounds, bound_ok rm hm0 (show im.toNat ≤ cap by omega), bound_ok rh hh0 c2]
                · cases hlo with | some _ _ r => simp [Instr.sliceBounds, bound_ok rm hm0 (show im.toNat ≤ cap by omega), bound_ok rh hh0 c2, bound_ok r hl0 c1]
      · intro e
        subst e
        rcases natOf_cases em with ⟨_, rfl⟩ | ⟨km, im, e, _⟩
        · rfl
        · cases e
    · cases hb
  · cases hb

theorem add_plain' (b o n : Nat) : (⟨b, o, none⟩ : Addr).add n = ⟨b, o + n, none⟩ := by unfold Addr.add; split <;> simp_all

theorem info_of_cells {e : TypeId} (h : P.cellsOf e ≠ 0) : ∃ i, P.info? e = some i ∧ i.size = P.cellsOf e := by
  cases hq : P.info? e with
  | some i => exact ⟨i, rfl, (cellsOf_info hq).symm⟩
  | none => simp [Program.cellsOf, hq] at h
theorem sizeOf_run' {e : TypeId} (h : P.cellsOf e ≠ 0) : (sizeOf e).run P w = .ok (P.cellsOf e) w := by
  obtain ⟨i, h1, h2⟩ := info_of_cells h
  exact sizeOf_run h1

theorem mem_slice {es : List TV} {a b : Nat} {e : TV} (h : e ∈ (es.take b).drop a) : e ∈ es := List.mem_of_mem_take (List.mem_of_mem_drop h)

theorem piece_ok {t elem : TypeId} (hu : P.underlying t = some (.slice elem)) (hz : P.cellsOf elem ≠ 0) {b : Bool} {es : List TV} {tok : Tok} {rx : Value} (hx : VRel g rx (.slice b es tok))
    (hsz : headOk (P.cellsOf elem) es = true)
    {lo hi mx : Option TV} {rlo rhi rmx : Option Value} (hlo : OptRel g rlo lo) (hhi : OptRel g rhi hi) (hmx : OptRel g rmx mx) {l h m : Nat} (eb : sliceBounds es.length es.length lo hi mx = some (l, h, m)) :
    ∃ rv, (Instr.slice t rx rlo rhi rmx).run P w = .ok rv w ∧ VRel g rv (.slice b ((es.take h).drop l) (sliceTok tok es.length l h m mx.isSome)) := by
  have hs := sizeOf_run' (w := w) hz
  cases hx with
  | nils _ hnt =>
    obtain ⟨hb, h1, h2, h3, h4⟩ := bounds_ok (P := P) (w := w) hlo hhi hmx (Nat.le_refl _) eb true
    have hm : m = 0 := by simpa using h3
    subst hm
    have : l = 0 := by omega
    subst this
    refine ⟨.slice none 0 0, ?_, ?_⟩
    · have hb' : (Instr.sliceBounds true 0 0 rlo rhi rmx).run P w = .ok (0, h, if mx.isSome then 0 else 0) w := hb
      have hh : h = 0 := by omega
      simp [Instr.slice, run_underlying hu, hb', hs, hh]
    · have : ((([] : List TV).take h).drop 0) = [] := by simp
      rw [this]
      refine .nils _ (fun i e => ?_)
      unfold sliceTok at e
      split at e
      · cases e
      · split at e
        · split at e <;> cases e
        · exact hnt _ rfl
        · cases e
  | empty a cap _ hnt hex =>
    obtain ⟨hb, h1, h2, h3, h4⟩ := bounds_ok (P := P) (w := w) hlo hhi hmx (Nat.zero_le cap) eb true
    have hm : m = 0 := by simpa using h3
    subst hm
    have hl : l = 0 := by omega
    subst hl
    have hh : h = 0 := by omega
    subst hh
    have hb' : (Instr.sliceBounds true 0 cap rlo rhi rmx).run P w = .ok (0, 0, if mx.isSome then 0 else cap) w := hb
    have hrun : (Instr.slice t (.slice (some a) 0 cap) rlo rhi rmx).run P w = .ok (.slice (if (if mx.isSome then 0 else cap) = 0 then some a else some (a.add (0 * P.cellsOf elem))) 0 ((if mx.isSome then 0 else cap) - 0)) w := by
      simp [Instr.slice, run_underlying hu, hb', hs]
    refine ⟨_, hrun, ?_⟩
    have : ((([] : List TV).take 0).drop 0) = [] := by simp
    rw [this]
    have tokne : ∀ i, sliceTok tok ([] : List TV).length 0 0 0 mx.isSome ≠ .tip i := fun i e => by
      unfold sliceTok at e
      split at e
      · cases e
      · split at e
        · split at e <;> cases e
        · exact hnt _ rfl
        · cases e
    have tokex : sliceTok tok ([] : List TV).length 0 0 0 mx.isSome = .exact → (if mx.isSome then 0 else cap) - 0 = 0 := fun e => by
      cases hq : mx.isSome with
      | true => simp
      | false =>
        simp only [hq, Bool.false_eq_true, if_false]
        unfold sliceTok at e
        simp only [hq, Bool.false_and, Bool.false_eq_true, if_false] at e
        split at e
        · simpa using hex rfl
        · split at e <;> cases e
        · cases e
    by_cases hq : (if mx.isSome then 0 else cap) = 0
    · rw [if_pos hq]
      exact .empty _ _ _ tokne tokex
    · rw [if_neg hq]
      exact .empty _ _ _ tokne tokex
  | slice bl off n cap size vs _ _ hne hn hcap hs0 hse hsol hrel htok =>
    have hsize : size = P.cellsOf elem := by
      cases es with
      | nil => exact absurd rfl hne
      | cons e _ => have := hse e List.mem_cons_self; simp [headOk] at hsz; omega
    subst hsize
    obtain ⟨hb, h1, h2, h3, h4⟩ := bounds_ok (P := P) (w := w) hlo hhi hmx (show es.length ≤ cap by omega) eb true
    have hrun : (Instr.slice t (.slice (some ⟨bl, off, none⟩) n cap) rlo rhi rmx).run P w =
        .ok (.slice (if (if mx.isSome then m else cap) = l then some ⟨bl, off, none⟩ else some ⟨bl, off + l * P.cellsOf elem, none⟩) (h - l) ((if mx.isSome then m else cap) - l)) w := by
      subst hn
      simp [Instr.slice, run_underlying hu, hb, hs, add_plain']
    refine ⟨_, hrun, ?_⟩
    have hmc : h ≤ (if mx.isSome then m else cap) := by split <;> omega
    by_cases hhl : h = l
    · subst hhl
      have he : (es.take h).drop h = [] := by simp
      rw [he, Nat.sub_self]
      have tokne : ∀ i, sliceTok tok es.length h h m mx.isSome ≠ .tip i := fun i e => by
        unfold sliceTok at e
        split at e
        · cases e
        · split at e
          · split at e <;> cases e
          · split at e
            · rename_i hc
              simp only [Bool.and_eq_true, beq_iff_eq] at hc
              have : es.length = 0 := by omega
              exact hne (List.length_eq_zero_iff.1 this)
            · cases e
          · cases e
      have tokex : sliceTok tok es.length h h m mx.isSome = .exact → (if mx.isSome then m else cap) - h = 0 := fun e => by
        unfold sliceTok at e
        split at e
        · rename_i hc
          simp only [Bool.and_eq_true, beq_iff_eq] at hc
          rw [if_pos hc.1]
          omega
        · rename_i hc
          split at e
          · split at e
            · rename_i hq
              simp only [beq_iff_eq] at hq
              have hcn : cap = n := htok
              cases hx : mx.isSome with
              | true =>
                simp only [hx, Bool.true_and, beq_iff_eq] at hc
                omega
              | false => simp; omega
            · cases e
          · split at e <;> cases e
          · cases e
      by_cases hq : (if mx.isSome then m else cap) = h
      · rw [if_pos hq]
        exact .empty _ _ _ tokne tokex
      · rw [if_neg hq]
        exact .empty _ _ _ tokne tokex
    · have hml : (if mx.isSome then m else cap) ≠ l := by omega
      rw [if_neg hml]
      have hes : ((es.take h).drop l).length = h - l := by simp; omega
      refine .slice bl _ _ _ (P.cellsOf elem) ((vs.take (h * P.cellsOf elem)).drop (l * P.cellsOf elem)) _ _ (fun e => ?_) hes (by omega) hs0 (fun e he => hse e (mem_slice he)) ?_ ?_ ?_
      · rw [e] at hes
        simp at hes
        omega
      · exact (hsol.take _).drop _
      · rw [flat_drop (fun e he => hse e (List.mem_of_mem_take he)), flat_take hse]
        exact (hrel.take _).drop _
      · unfold sliceTok
        split
        · rename_i hc
          simp only [Bool.and_eq_true, beq_iff_eq] at hc
          show _ - l = h - l
          rw [if_pos hc.1]
          omega
        · rename_i hc
          cases tok with
          | unk => trivial
          | exact =>
            simp only
            split
            · rename_i hq
              simp only [beq_iff_eq] at hq
              have hcn : cap = n := htok
              show _ - l = h - l
              cases hx : mx.isSome with
              | true =>
                simp only [hx, Bool.true_and, beq_iff_eq] at hc
                omega
              | false => simp; omega
            · trivial
          | tip i =>
            simp only
            split
            · rename_i hq
              simp only [Bool.and_eq_true, beq_iff_eq] at hq
              obtain ⟨k1, k2, k3, k4⟩ := htok
              obtain ⟨rfl, hq2⟩ := hq
              refine ⟨k1, by omega, by omega, fun e => ?_⟩
              have := k4 (by omega)
              rw [this]
              congr 1
              cases hx : mx.isSome with
              | true =>
                simp only [hx, Bool.true_and, beq_iff_eq] at hc
                omega
              | false => simp
            · trivial

theorem sliceT_ok {t : TypeId} {x v : TV} {lo hi mx : Option TV} {rx : Value} {rlo rhi rmx : Option Value} (hx : VRel g rx x) (hlo : OptRel g rlo lo) (hhi : OptRel g rhi hi) (hmx : OptRel g rmx mx)
    (h : sliceT P t x lo hi mx = some v) : ∃ rv, (Instr.sliceAt t rx rlo rhi rmx).run P w = .ok rv w ∧ VRel g rv v := by
  unfold sliceT at h
  split at h
  · rename_i l hu
    cases hx with
    | str sb _ e =>
      split at h
      · cases h
      · rename_i hmn
        split at h
        · rename_i lo' hi' m' eb
          cases h
          obtain ⟨hb, h1, h2, h3, h4⟩ := bounds_ok (P := P) (w := w) hlo hhi hmx (Nat.le_refl l.length) eb false
          have hsz : sb.size = l.length := by rw [← e]; exact Array.length_toList.symm
          have hn : mx = none := by cases mx <;> simp_all
          subst hn
          cases hmx
          rw [← hsz] at hb
          refine ⟨.string (sb.extract lo' hi'), by simp [Instr.sliceAt, Instr.slice, run_underlying hu, hb], .str _ _ ?_⟩
          rw [← e]
          simp [ByteArray.data_extract, Array.toList_extract, List.drop_take]
        · cases h
  · rename_i elem b es tok hu
    split at h
    · cases h
    · rename_i hz
      simp only [Bool.or_eq_true, decide_eq_true_eq, Bool.not_eq_true'] at hz
      split at h
      · rename_i lo' hi' m' eb
        cases h
        obtain ⟨rv, h1, h2⟩ := piece_ok (w := w) hu (fun e => hz (.inl e)) hx (by cases hq : headOk (P.cellsOf elem) es with | true => rfl | false => exact absurd (.inr hq) hz) hlo hhi hmx eb
        exact ⟨rv, by simpa [Instr.sliceAt, run_underlying hu] using h1, h2⟩
      · cases h
  · rename_i elem o off len cap hu
    split at h
    · cases h
    · rename_i hz
      split at h
      · rename_i lo' hi' m' eb
        cases h
        cases hx with
        | osl a _ _ _ _ cap' ha hlc hcc =>
          obtain ⟨hb, h1, h2, h3, h4⟩ := bounds_ok (P := P) (w := w) hlo hhi hmx hcc eb true
          have hm : m' ≤ (if mx.isSome then m' else cap') := by
            cases hq : mx.isSome with
            | true => exact Nat.le_refl _
            | false => have := h4 (by cases mx <;> simp_all); simp; omega
          generalize (if mx.isSome then m' else cap') = mr at hb hm
          refine ⟨_, by simp [Instr.sliceAt, Instr.slice, run_underlying hu, hb, sizeOf_run' (w := w) hz]; rfl, ?_⟩
          by_cases hc : mr = lo'
          · rw [if_pos hc]
            exact .osl _ _ _ _ _ _ (fun e => absurd (by omega) e) (by omega) (by omega)
          · rw [if_neg hc]
            by_cases hc2 : m' - lo' = 0
            · rw [hc2]
              exact .osl _ _ _ _ _ _ (fun e => absurd rfl e) (by omega) (by omega)
            · obtain ⟨bl, e1, rfl⟩ := ha (by omega)
              rw [add_plain']
              exact .osl _ _ _ _ _ _ (fun _ => ⟨bl, e1, rfl⟩) (by omega) (by omega)
      · cases h
  · rename_i n elem o off hu
    split at h
    · cases h
    · rename_i hz
      split at h
      · rename_i lo' hi' m' eb
        cases h
        cases hx with
        | ptr _ bl _ e1 =>
          obtain ⟨hb, h1, h2, h3, h4⟩ := bounds_ok (P := P) (w := w) hlo hhi hmx (Nat.le_refl n) eb false
          have hm : (if mx.isSome then m' else n) = m' := by
            cases hq : mx.isSome with
            | true => rfl
            | false => have := h4 (by cases mx <;> simp_all); simp [this]
          rw [hm] at hb
          refine ⟨_, by simp [Instr.sliceAt, Instr.sureAddr, run_underlying hu, hb, sizeOf_run' (w := w) hz]; rfl, ?_⟩
          by_cases hc : m' = lo'
          · rw [if_pos hc]
            exact .osl _ _ _ _ _ _ (fun e => absurd (by omega) e) (by omega) (Nat.le_refl _)
          · rw [if_neg hc, add_plain']
            exact .osl _ _ _ _ _ _ (fun _ => ⟨bl, e1, rfl⟩) (by omega) (Nat.le_refl _)
      · cases h
  · cases h
end
end Go.Proofs.YtmmofmkencnldaaGreatDoor.TV
