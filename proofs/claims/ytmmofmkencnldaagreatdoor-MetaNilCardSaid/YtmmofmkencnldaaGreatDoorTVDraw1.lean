/-
  TV: a region whose order is drawn, the plain part: what stands in a fixed order, and what is told of each operation.
-/
import Derived.Test.YtmmofmkencnldaaGreatDoorTVCode
import Derived.Orders
namespace Go.Proofs.YtmmofmkencnldaaGreatDoor.TV
open Go Go.RowKit
set_option linter.unusedSimpArgs false
set_option linter.unusedVariables false

mutual
theorem TV.beq_sound : ∀ (a b : TV), TV.beq a b = true → a = b
  | .junk, b, h => by cases b <;> simp_all [TV.beq]
  | .nilp, b, h => by cases b <;> simp_all [TV.beq]
  | .nilfn, b, h => by cases b <;> simp_all [TV.beq]
  | .niliface, b, h => by cases b <;> simp_all [TV.beq]
  | .bool _, b, h => by cases b <;> simp_all [TV.beq]
  | .int _ _, b, h => by cases b <;> simp_all [TV.beq]
  | .str _, b, h => by cases b <;> simp_all [TV.beq]
  | .ptr _ _, b, h => by cases b <;> simp_all [TV.beq]
  | .eptr x, b, h => by
    cases b <;> simp [TV.beq] at h
    rw [TV.beqs_sound x _ h]
  | .slice a x t, b, h => by
    cases b <;> simp [TV.beq] at h
    rename_i b y u
    obtain ⟨⟨rfl, h2⟩, h3⟩ := h
    rw [TV.beqs_sound x _ h2]
    cases t <;> cases u <;> simp at h3 <;> simp [h3]
  | .osl _ _ _ _, b, h => by cases b <;> simp_all [TV.beq]
  | .gsl _ _, b, h => by cases b <;> simp_all [TV.beq]
  | .map _, b, h => by cases b <;> simp_all [TV.beq]
  | .fn f x y, b, h => by
    cases b <;> simp [TV.beq] at h
    obtain ⟨⟨rfl, h2⟩, h3⟩ := h
    rw [TV.beqs_sound x _ h2, TV.beqs_sound y _ h3]
  | .iface t x, b, h => by
    cases b <;> simp [TV.beq] at h
    obtain ⟨rfl, h2⟩ := h
    rw [TV.beq_sound x _ h2]
  | .agg x, b, h => by
    cases b <;> simp [TV.beq] at h
    rw [TV.beqs_sound x _ h]
  | .tup x, b, h => by
    cases b <;> simp [TV.beq] at h
    rw [TV.beqs_sound x _ h]
theorem TV.beqs_sound : ∀ (a b : List TV), TV.beqs a b = true → a = b
  | [], [], _ => rfl
  | [], _ :: _, h => by simp [TV.beqs] at h
  | _ :: _, [], h => by simp [TV.beqs] at h
  | x :: l, y :: m, h => by
    simp [TV.beqs] at h
    rw [TV.beq_sound x y h.1, TV.beqs_sound l m h.2]
end

/-! ### Who stands ahead of whom -/
theorem directs_mem {o : Oper} {d : Nat} : d ∈ directs o ↔ ∃ e ∈ o.after, Region.binds .any e = true ∧ e.on = d := by
  unfold directs
  simp only [List.mem_map, List.mem_filter, Array.mem_toList_iff]
  constructor
  · rintro ⟨e, ⟨h1, h2⟩, h3⟩; exact ⟨e, h1, h2, h3⟩
  · rintro ⟨e, h1, h2, h3⟩; exact ⟨e, ⟨h1, h2⟩, h3⟩

theorem foldl_bit {acc : List Nat} {i : Nat} : ∀ (ds : List Nat) (b : Nat), (ds.foldl (fun b j => b ||| 2 ^ j ||| acc.getD j 0) b).testBit i = true →
    b.testBit i = true ∨ ∃ d ∈ ds, i = d ∨ (acc.getD d 0).testBit i = true := by
  intro ds
  induction ds with
  | nil => intro b h; exact .inl h
  | cons d ds ih =>
    intro b h
    rw [List.foldl_cons] at h
    rcases ih _ h with h | ⟨d', hd, h⟩
    · simp only [Nat.testBit_or, Bool.or_eq_true, Nat.testBit_two_pow, decide_eq_true_eq] at h
      rcases h with (h | h) | h
      · exact .inl h
      · exact .inr ⟨d, by simp, .inl h.symm⟩
      · exact .inr ⟨d, by simp, .inr h⟩
    · exact .inr ⟨d', by simp [hd], h⟩

theorem bitsGo_at : ∀ (l : List Oper) (acc : List Nat), (∀ m, m < acc.length → (bitsGo l acc).getD m 0 = acc.getD m 0) ∧
    ∀ j o, l[j]? = some o → ∀ i, ((bitsGo l acc).getD (acc.length + j) 0).testBit i = true → ∃ d ∈ directs o, i = d ∨ (d < acc.length + j ∧ ((bitsGo l acc).getD d 0).testBit i = true) := by
  intro l
  induction l with
  | nil => intro acc; exact ⟨fun _ _ => rfl, fun j o h => by simp at h⟩
  | cons o l ih =>
    intro acc
    simp only [bitsGo, forceNat_eq]
    obtain ⟨h1, h2⟩ := ih (acc ++ [(directs o).foldl (fun b j => b ||| 2 ^ j ||| acc.getD j 0) 0])
    simp only [List.length_append, List.length_cons, List.length_nil, Nat.zero_add] at h1 h2
    refine ⟨fun m hm => ?_, fun j o' ho i hi => ?_⟩
    · rw [h1 m (by omega)]
      simp [List.getD, List.getElem?_append_left hm]
    · cases j with
      | zero =>
        cases ho
        rw [Nat.add_zero] at hi ⊢
        rw [h1 acc.length (by omega)] at hi
        simp only [List.getD, List.getElem?_append_right (Nat.le_refl _), Nat.sub_self, List.getElem?_cons_zero, Option.getD_some] at hi
        rcases foldl_bit _ _ hi with h | ⟨d, hd, h⟩
        · simp at h
        · refine ⟨d, hd, h.imp id fun h => ?_⟩
          have hlt : d < acc.length := by
            rcases Nat.lt_or_ge d acc.length with h' | h'
            · exact h'
            · simp [List.getElem?_eq_none h'] at h
          refine ⟨hlt, ?_⟩
          rw [h1 d (by omega)]
          simpa [List.getD, List.getElem?_append_left hlt] using h
      | succ j =>
        have := h2 j o' (by simpa using ho) i (by rw [show acc.length + 1 + j = acc.length + (j + 1) by omega]; exact hi)
        rw [show acc.length + 1 + j = acc.length + (j + 1) by omega] at this
        exact this

theorem bits_at {ops : List Oper} {j : Nat} {o : Oper} (ho : ops[j]? = some o) {i : Nat} (h : ((bits ops).getD j 0).testBit i = true) :
    ∃ d ∈ directs o, i = d ∨ (d < j ∧ ((bits ops).getD d 0).testBit i = true) := by
  have := (bitsGo_at ops []).2 j o ho i (by simpa [bits] using h)
  simpa [bits] using this

/-- What is listed is closed: whom one waits for is listed too. -/
def Closed (ops : List Oper) (L : Nat → Bool) : Prop := ∀ j o, ops[j]? = some o → L j = true → ∀ d ∈ directs o, L d = true

theorem Closed.tie {ops : List Oper} {L : Nat → Bool} (hc : Closed ops L) : ∀ (j : Nat) (o : Oper), ops[j]? = some o → (∀ d ∈ directs o, L d = true) → ∀ i, ((bits ops).getD j 0).testBit i = true → L i = true := by
  intro j
  induction j using Nat.strongRecOn with
  | _ j ih =>
    intro o ho hd i hi
    obtain ⟨d, hdm, rfl | ⟨hlt, hb⟩⟩ := bits_at ho hi
    · exact hd _ hdm
    · have hlen : j < ops.length := (List.getElem?_eq_some_iff.1 ho).1
      have hod := List.getElem?_eq_getElem (Nat.lt_trans hlt hlen)
      exact ih d hlt _ hod (hc d _ hod (hd d hdm)) i hb

/-- i is next: not listed, whom it waits for is. Then of two that are tied, the earlier is listed and the later is not. -/
theorem Closed.split {ops : List Oper} {L : Nat → Bool} (hc : Closed ops L) {i j : Nat} {o oj : Oper} (ho : ops[i]? = some o) (hoj : ops[j]? = some oj) (hL : L i = false) (hd : ∀ d ∈ directs o, L d = true)
    (ht : tied (bits ops) j i = true) (hne : j ≠ i) : L j = decide (j < i) := by
  unfold tied at ht
  split at ht
  · rename_i hlt
    rw [hc.tie i o ho hd j ht]
    simp [hlt]
  · rename_i hge
    cases hLj : L j with
    | false => simp [hge]
    | true =>
      have := hc.tie j oj hoj (hc j oj hoj hLj) i ht
      rw [hL] at this
      cases this

/-! ### The names -/
/-- The names, when of the items those are made that M names. -/
def envM (M : Nat → Bool) : Nat → List DItem → Env → Env
  | _, [], e => e
  | j, it :: l, e => envM M (j + 1) l (if M j then putE it.o.dst it.v e else e)
/-- One name. -/
def atM (M : Nat → Bool) (t : Tmp) : Nat → List DItem → TV → TV
  | _, [], v => v
  | j, it :: l, v => atM M t (j + 1) l (if M j && it.o.dst == some t then it.v else v)

theorem putE_length (d : Option Tmp) (v : TV) (e : Env) : (putE d v e).length = e.length := by cases d <;> simp [putE]
theorem putE_at {d : Option Tmp} {v : TV} {e : Env} {t : Tmp} (ht : t < e.length) : (putE d v e).at t = if d == some t then v else e.at t := by
  cases d with
  | none => simp [putE]
  | some d =>
    by_cases h : d = t
    · subst h
      simp [putE, Env.at_eq, List.getD, ht]
    · have h' : (some d == some t) = false := by simpa using h
      simp [putE, Env.at_eq, List.getD, List.getElem?_set_ne h, h']
theorem envM_length (M : Nat → Bool) : ∀ (l : List DItem) (j : Nat) (e : Env), (envM M j l e).length = e.length
  | [], _, _ => rfl
  | it :: l, j, e => by
    simp only [envM]
    rw [envM_length]
    split <;> simp [putE_length]
theorem envM_at (M : Nat → Bool) {t : Tmp} : ∀ (l : List DItem) (j : Nat) (e : Env), t < e.length → (envM M j l e).at t = atM M t j l (e.at t)
  | [], _, _, _ => rfl
  | it :: l, j, e, ht => by
    simp only [envM, atM]
    rw [envM_at M l (j + 1) _ (by split <;> simp [putE_length, ht])]
    congr 1
    cases hM : M j with
    | false => simp
    | true => simp [putE_at ht]
theorem envM_none {M : Nat → Bool} : ∀ (l : List DItem) (j : Nat) (e : Env), (∀ k, j ≤ k → M k = false) → envM M j l e = e
  | [], _, _, _ => rfl
  | it :: l, j, e, h => by
    simp only [envM]
    rw [h j (Nat.le_refl _), if_neg (by simp), envM_none l (j + 1) e fun k hk => h k (by omega)]
theorem atM_congr {M M' : Nat → Bool} {t : Tmp} : ∀ (l : List DItem) (j : Nat) (v : TV), (∀ k it, l[k]? = some it → it.o.dst = some t → M (j + k) = M' (j + k)) → atM M t j l v = atM M' t j l v
  | [], _, _, _ => rfl
  | it :: l, j, v, h => by
    simp only [atM]
    have h0 : (M j && it.o.dst == some t) = (M' j && it.o.dst == some t) := by
      by_cases hd : it.o.dst = some t
      · have := h 0 it rfl hd
        rw [Nat.add_zero] at this
        rw [this]
      · have : (it.o.dst == some t) = false := by simpa using hd
        simp [this]
    rw [h0]
    exact atM_congr l (j + 1) _ fun k it hk hd => by
      have := h (k + 1) it (by simpa using hk) hd
      rw [show j + 1 + k = j + (k + 1) by omega]
      exact this
theorem atM_none {M : Nat → Bool} {t : Tmp} : ∀ (l : List DItem) (j : Nat) (v : TV), (∀ k it, l[k]? = some it → it.o.dst = some t → M (j + k) = false) → atM M t j l v = v
  | [], _, _, _ => rfl
  | it :: l, j, v, h => by
    simp only [atM]
    have h0 : (M j && it.o.dst == some t) = false := by
      by_cases hd : it.o.dst = some t
      · have := h 0 it rfl hd
        rw [Nat.add_zero] at this
        rw [this]; rfl
      · have : (it.o.dst == some t) = false := by simpa using hd
        simp [this]
    rw [h0, if_neg (by simp)]
    exact atM_none l (j + 1) _ fun k it hk hd => by
      have := h (k + 1) it (by simpa using hk) hd
      rw [show j + 1 + k = j + (k + 1) by omega]
      exact this
/-- The last of those that write it. -/
theorem atM_last {M : Nat → Bool} {t : Tmp} : ∀ (l : List DItem) (j : Nat) (v : TV) (i : Nat) (it : DItem), l[i]? = some it → it.o.dst = some t → M (j + i) = true →
    (∀ k it, l[k]? = some it → i < k → it.o.dst = some t → M (j + k) = false) → atM M t j l v = it.v
  | [], _, _, _, _, h, _, _, _ => by simp at h
  | it0 :: l, j, v, 0, it, h, hd, hM, hl => by
    cases h
    simp only [atM]
    rw [Nat.add_zero] at hM
    rw [hM, hd]
    simp only [Bool.true_and, beq_self_eq_true, if_true]
    exact atM_none l (j + 1) _ fun k it hk hd => by
      have := hl (k + 1) it (by simpa using hk) (by omega) hd
      rw [show j + 1 + k = j + (k + 1) by omega]
      exact this
  | it0 :: l, j, v, i + 1, it, h, hd, hM, hl => by
    simp only [atM]
    exact atM_last l (j + 1) _ i it (by simpa using h) hd (by rw [show j + 1 + i = j + (i + 1) by omega]; exact hM) fun k it hk hik hd => by
      have := hl (k + 1) it (by simpa using hk) (by omega) hd
      rw [show j + 1 + k = j + (k + 1) by omega]
      exact this

/-! ### The changes -/
def effs : Nat → List Oper → List Nat
  | _, [] => []
  | j, o :: l => if isRead o then effs (j + 1) l else j :: effs (j + 1) l
theorem effs_eq : ∀ (l : List Oper) (j : Nat), (l.zipIdx j).filterMap (fun p => if isRead p.1 then none else some p.2) = effs j l
  | [], _ => rfl
  | o :: l, j => by
    rw [List.zipIdx_cons, List.filterMap_cons, effs]
    rw [effs_eq l (j + 1)]
    split <;> rename_i h <;> split at h <;> simp_all
theorem effs_mem : ∀ (l : List Oper) (j i : Nat), i ∈ effs j l → j ≤ i ∧ ∃ o, l[i - j]? = some o ∧ isRead o = false
  | [], _, _, h => by simp [effs] at h
  | o :: l, j, i, h => by
    have tail : i ∈ effs (j + 1) l → j ≤ i ∧ ∃ o', (o :: l)[i - j]? = some o' ∧ isRead o' = false := fun h => by
      obtain ⟨h1, o', h2, h3⟩ := effs_mem l (j + 1) i h
      refine ⟨by omega, o', ?_, h3⟩
      rw [show i - j = (i - (j + 1)) + 1 by omega]
      exact h2
    simp only [effs] at h
    split at h
    · exact tail h
    · rename_i hr
      rcases List.mem_cons.1 h with rfl | h
      · exact ⟨Nat.le_refl _, o, by simp, by simpa using hr⟩
      · exact tail h
theorem effs_of : ∀ (l : List Oper) (j i : Nat) (o : Oper), l[i]? = some o → isRead o = false → j + i ∈ effs j l
  | [], _, _, _, h, _ => by simp at h
  | o0 :: l, j, 0, o, h, hr => by cases h; simp [effs, hr]
  | o0 :: l, j, i + 1, o, h, hr => by
    have := effs_of l (j + 1) i o (by simpa using h) hr
    rw [show j + 1 + i = j + (i + 1) by omega] at this
    simp only [effs]
    split
    · exact this
    · exact List.mem_cons_of_mem _ this

theorem countB_congr {l : List Nat} {p q : Nat → Bool} (h : ∀ i ∈ l, p i = q i) : countB l p = countB l q := by
  unfold countB
  rw [List.filter_congr h]
theorem countB_le {l : List Nat} {p q : Nat → Bool} (h : ∀ i ∈ l, p i = true → q i = true) : countB l p ≤ countB l q := by
  unfold countB
  induction l with
  | nil => simp
  | cons a l ih =>
    have ih := ih fun i hi => h i (by simp [hi])
    simp only [List.filter_cons]
    have := h a (by simp)
    cases hp : p a <;> cases hq : q a <;> simp_all
    omega
theorem countB_effs_none {l : List Oper} {j m : Nat} (h : m ≤ j) : countB (effs j l) (fun k => decide (k < m)) = 0 := by
  unfold countB
  rw [List.length_eq_zero_iff, List.filter_eq_nil_iff]
  intro k hk
  have := (effs_mem l j k hk).1
  simp; omega

section
variable {P : Program}

/-- What is told of the operations from j on. -/
structure Told (P : Program) (ops : List Oper) (l : List Oper) (j : Nat) (e : Env) (s : St) (items : List DItem) (sts : List St) (e' : Env) (s' : St) : Prop where
  len : items.length = l.length
  env : e' = envM (fun _ => true) j items e
  last : (s :: sts)[countB (effs j l) (fun _ => true)]? = some s'
  stsLen : sts.length = (effs j l).length
  each : ∀ i o, l[i]? = some o → ∃ it s1 s2, items[i]? = some it ∧ it.o = o ∧ it.e = envM (fun k => decide (k < j + i)) j items e ∧
    (s :: sts)[countB (effs j l) (fun k => decide (k < j + i))]? = some s1 ∧ (s :: sts)[countB (effs j l) (fun k => decide (k < j + i + 1))]? = some s2 ∧
    wantedT ops it.e o = some it.w ∧ (it.w = false → it.v = undefT ∧ s2 = s1) ∧ (it.w = true → isRead o = true → readT P s1 (ev it.e) o = some it.v) ∧
    (it.w = true → isRead o = false → OpSim P o it.e s1 it.v s2)

theorem Told.nil (ops : List Oper) (j : Nat) (e : Env) (s : St) : Told P ops [] j e s [] [] e s :=
  ⟨rfl, rfl, rfl, rfl, fun i o h => by simp at h⟩

theorem Told.cons {ops : List Oper} {o : Oper} {l : List Oper} {j : Nat} {e e' : Env} {s s1 s' : St} {items : List DItem} {sts : List St} {v : TV} {b : Bool}
    (hw : wantedT ops e o = some b) (hb : b = false → v = undefT ∧ s1 = s) (hr : b = true → isRead o = true → readT P s (ev e) o = some v) (hs : isRead o = true → s1 = s)
    (hx : b = true → isRead o = false → OpSim P o e s v s1)
    (t : Told P ops l (j + 1) (putE o.dst v e) s1 items sts e' s') : Told P ops (o :: l) j e s (⟨o, e, v, b⟩ :: items) (if isRead o then sts else s1 :: sts) e' s' := by
  have hstage : ∀ p : Nat → Bool, p j = true → (s :: (if isRead o then sts else s1 :: sts))[countB (effs j (o :: l)) p]? = (s1 :: sts)[countB (effs (j + 1) l) p]? := fun p hp => by
    cases h : isRead o with
    | true => simp [effs, h, hs h]
    | false => simp [effs, h, countB, hp]
  refine ⟨by simp [t.len], by rw [t.env]; simp [envM], ?_, ?_, fun i o' ho => ?_⟩
  · rw [hstage _ rfl]; exact t.last
  · cases h : isRead o with
    | true => simpa [effs, h] using t.stsLen
    | false => simpa [effs, h] using t.stsLen
  · cases i with
    | zero =>
      cases ho
      refine ⟨⟨o, e, v, b⟩, s, s1, rfl, rfl, ?_, ?_, ?_, hw, hb, hr, hx⟩
      · rw [envM_none _ _ _ fun k hk => by simp; omega]
      · rw [countB_effs_none (by omega)]; rfl
      · rw [hstage _ (by simp), Nat.add_zero, countB_effs_none (Nat.le_refl _)]; rfl
    | succ i =>
      obtain ⟨it, s2, s3, h1, h2, h3, h4, h5, h6⟩ := t.each i o' (by simpa using ho)
      rw [show j + 1 + i = j + (i + 1) by omega] at h3 h4 h5
      refine ⟨it, s2, s3, by simpa using h1, h2, ?_, ?_, ?_, h6⟩
      · rw [h3]
        simp only [envM]
        rw [if_pos (by simp)]
      · rw [hstage _ (by simp)]; exact h4
      · rw [hstage _ (by simp; omega)]; exact h5

theorem drawK_nil {ρ : Type} {call : CallK ρ} {ops : List Oper} {e : Env} {s : St} {acc : List DItem} {sts : List St} {k : Env → St → Option ρ} : drawK P call ops [] e s acc sts k = if drawOk P ops acc.reverse sts.reverse then k e s else none := rfl
theorem drawK_cons {ρ : Type} {call : CallK ρ} {ops : List Oper} {o : Oper} {rest : List Oper} {e : Env} {s : St} {acc : List DItem} {sts : List St} {k : Env → St → Option ρ} : drawK P call ops (o :: rest) e s acc sts k = match wantedT ops e o with
    | some true => opK P call o e s fun v s => putK o.dst v e fun e' => drawK P call ops rest e' s (⟨o, e, v, true⟩ :: acc) (if isRead o then sts else s :: sts) k
    | some false => putK o.dst undefT e fun e' => drawK P call ops rest e' s (⟨o, e, undefT, false⟩ :: acc) (if isRead o then sts else s :: sts) k
    | none => none := rfl
theorem drawK_told {ρ : Type} (hN : Named P) {call : CallK ρ} (hC : CallOk P call) (ops : List Oper) : ∀ (l : List Oper) (j : Nat) (e : Env) (s : St) (acc : List DItem) (sts0 : List St) (k : Env → St → Option ρ) (r : ρ),
    drawK P call ops l e s acc sts0 k = some r →
    ∃ items sts e' s', Told P ops l j e s items sts e' s' ∧ drawOk P ops (acc.reverse ++ items) (sts0.reverse ++ sts) = true ∧ k e' s' = some r := by
  intro l
  induction l with
  | nil =>
    intro j e s acc sts0 k r h
    simp only [drawK_nil] at h
    split at h
    · rename_i hd
      exact ⟨[], [], e, s, .nil ops j e s, by simpa using hd, h⟩
    · cases h
  | cons o l ih =>
    intro j e s acc sts0 k r h
    simp only [drawK_cons] at h
    split at h
    · rename_i hw
      obtain ⟨v, s1, h1, h2, h3⟩ := opK_ok hN hC h
      rw [putK_eq] at h3
      obtain ⟨items, sts, e', s', t, hd, hk⟩ := ih (j + 1) _ _ _ _ _ _ h3
      refine ⟨⟨o, e, v, true⟩ :: items, _, e', s', .cons hw (fun h => by cases h) (fun _ h => (h2 h).1) (fun h => (h2 h).2) (fun _ _ => h1) t, ?_, hk⟩
      cases hr : isRead o <;> simpa [hr] using hd
    · rename_i hw
      rw [putK_eq] at h
      obtain ⟨items, sts, e', s', t, hd, hk⟩ := ih (j + 1) _ _ _ _ _ _ h
      refine ⟨⟨o, e, undefT, false⟩ :: items, _, e', s', .cons hw (fun _ => ⟨rfl, rfl⟩) (fun h => by cases h) (fun _ => rfl) (fun h => by cases h) t, ?_, hk⟩
      cases hr : isRead o <;> simpa [hr] using hd
    · cases h
end
end Go.Proofs.YtmmofmkencnldaaGreatDoor.TV
