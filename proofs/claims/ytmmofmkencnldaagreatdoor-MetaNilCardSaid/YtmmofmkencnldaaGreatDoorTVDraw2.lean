/-
  TV: a region whose order is drawn: whatever the order, what the text's order tells comes out.
-/
import Derived.Test.YtmmofmkencnldaaGreatDoorTVDraw1
namespace Go.Proofs.YtmmofmkencnldaaGreatDoor.TV
open Go Go.RowKit
set_option linter.unusedSimpArgs false
set_option linter.unusedVariables false

section
variable {P : Program}

structure RegionFacts (ops : List Oper) : Prop where
  below : ∀ i o, ops[i]? = some o → ∀ d ∈ directs o, d < i
  names : ∀ i o t j oj, ops[i]? = some o → t ∈ namesOf ops o → ops[j]? = some oj → oj.dst = some t → j = i ∨ tied (bits ops) j i = true
  effects : ∀ i o j oj, ops[i]? = some o → ops[j]? = some oj → isRead o = false → isRead oj = false → i = j ∨ tied (bits ops) i j = true

theorem mem_zipIdx {ops : List Oper} {i : Nat} {o : Oper} (h : ops[i]? = some o) : (o, i) ∈ ops.zipIdx := by
  rw [List.mem_zipIdx_iff_getElem?]
  exact h

theorem RegionFacts.of {ops : List Oper} (h : regionOk ops = true) : RegionFacts ops := by
  unfold regionOk at h
  simp only [Bool.and_eq_true, List.all_eq_true] at h
  obtain ⟨⟨h1, h2⟩, h3⟩ := h
  refine ⟨fun i o ho d hd => ?_, fun i o t j oj ho ht hoj hd => ?_, fun i o j oj ho hoj hr hr' => ?_⟩
  · simpa using h1 (o, i) (mem_zipIdx ho) d hd
  · have := h2 (o, i) (mem_zipIdx ho) t ht (t, j) (List.mem_filterMap.2 ⟨(oj, j), mem_zipIdx hoj, by simp [hd]⟩)
    simpa using this
  · have := h3 i (List.mem_filterMap.2 ⟨(o, i), mem_zipIdx ho, by simp [hr]⟩) j (List.mem_filterMap.2 ⟨(oj, j), mem_zipIdx hoj, by simp [hr']⟩)
    simpa using this

theorem names_operand {ops : List Oper} {o : Oper} {t : Tmp} (h : Operand.tmp t ∈ o.op.operands) : t ∈ namesOf ops o := by
  unfold namesOf
  simp only [List.mem_append, List.mem_filterMap, Array.mem_toList_iff]
  exact .inl (.inr ⟨.tmp t, h, rfl⟩)
theorem names_dst {ops : List Oper} {o : Oper} {t : Tmp} (h : o.dst = some t) : t ∈ namesOf ops o := by
  unfold namesOf
  simp [h]
theorem names_guard {ops : List Oper} {o : Oper} {j : Nat} {b : Bool} {d : Tmp} (h : o.guard = some (j, b)) (hd : (ops[j]?).bind (·.dst) = some d) : d ∈ namesOf ops o := by
  unfold namesOf
  simp only [List.mem_append, h, Option.mem_toList]
  exact .inr (by simpa using hd)

/-- What the operation does at the stage at which it stands, whatever is listed. -/
theorem Told.step {ops : List Oper} {e e' : Env} {s s' : St} {items : List DItem} {sts : List St} (hR : RegionFacts ops) (t : Told P ops ops 0 e s items sts e' s') (hd : drawOk P ops items (s :: sts) = true)
    {L : Nat → Bool} (hc : Closed ops L) {i : Nat} {o : Oper} (ho : ops[i]? = some o) (hL : L i = false) (hr : ∀ d ∈ directs o, L d = true) {sk : St} (hsk : (s :: sts)[countB (effs 0 ops) L]? = some sk) :
    ∃ it sk', items[i]? = some it ∧ it.o = o ∧ wantedT ops it.e o = some it.w ∧ it.e = envM (fun k => decide (k < i)) 0 items e ∧
      (s :: sts)[countB (effs 0 ops) (fun k => k == i || L k)]? = some sk' ∧ (it.w = true → OpSim P o it.e sk it.v sk') ∧ (it.w = false → it.v = undefT ∧ sk' = sk) := by
  obtain ⟨it, s1, s2, hit, hio, he, hs1, hs2, hw, hidle, hread, heff⟩ := t.each i o ho
  rw [Nat.zero_add] at he hs1 hs2
  cases hr' : isRead o with
  | false =>
    have other : ∀ j ∈ effs 0 ops, j ≠ i → L j = decide (j < i) := fun j hj hne => by
      obtain ⟨_, oj, hoj, hrj⟩ := effs_mem _ _ _ hj
      rw [Nat.sub_zero] at hoj
      rcases hR.effects j oj i o hoj ho hrj hr' with h | h
      · exact absurd h hne
      · exact hc.split ho hoj hL hr h hne
    have h1 : countB (effs 0 ops) L = countB (effs 0 ops) (fun k => decide (k < i)) := countB_congr fun j hj => by
      by_cases hne : j = i
      · subst hne; simp [hL]
      · exact other j hj hne
    have h2 : countB (effs 0 ops) (fun k => k == i || L k) = countB (effs 0 ops) (fun k => decide (k < i + 1)) := countB_congr fun j hj => by
      by_cases hne : j = i
      · subst hne; simp
      · rw [other j hj hne]
        simp only [beq_eq_false_iff_ne.2 hne, Bool.false_or, decide_eq_decide]
        omega
    rw [h1, hs1] at hsk
    cases hsk
    rw [h2]
    exact ⟨it, s2, hit, hio, hw, he, hs2, fun h => heff h hr', fun h => hidle h⟩
  | true =>
    have hni : ∀ j ∈ effs 0 ops, j ≠ i := fun j hj hji => by
      subst hji
      obtain ⟨_, oj, hoj, hrj⟩ := effs_mem _ _ _ hj
      rw [Nat.sub_zero, ho] at hoj
      cases hoj
      rw [hr'] at hrj
      cases hrj
    have h2 : countB (effs 0 ops) (fun k => k == i || L k) = countB (effs 0 ops) L := countB_congr fun j hj => by
      simp only [beq_eq_false_iff_ne.2 (hni j hj), Bool.false_or]
    rw [h2]
    refine ⟨it, sk, hit, hio, hw, he, hsk, fun hwt => .read ?_, fun h => ⟨(hidle h).1, rfl⟩⟩
    have hv := hread hwt hr'
    cases hsts : sts with
    | nil =>
      rw [hsts] at hsk hs1
      have h0 : countB (effs 0 ops) L = 0 := by
        rcases Nat.eq_zero_or_pos (countB (effs 0 ops) L) with h | h
        · exact h
        · rw [List.getElem?_eq_none (by simp; omega)] at hsk; cases hsk
      have h0' : countB (effs 0 ops) (fun k => decide (k < i)) = 0 := by
        rcases Nat.eq_zero_or_pos (countB (effs 0 ops) (fun k => decide (k < i))) with h | h
        · exact h
        · rw [List.getElem?_eq_none (by simp; omega)] at hs1; cases hs1
      rw [h0] at hsk
      rw [h0'] at hs1
      cases hsk
      cases hs1
      exact hv
    | cons s3 sts3 =>
      rw [hsts] at hd hsk
      unfold drawOk at hd
      simp only [List.all_eq_true] at hd
      have h3 := hd (it, i) (List.mem_zipIdx_iff_getElem?.2 hit)
      simp only [hio, hr', hwt, Bool.and_self, Bool.not_true, Bool.false_or, List.all_eq_true] at h3
      have h4 := h3 (sk, countB (effs 0 ops) L) (List.mem_zipIdx_iff_getElem?.2 hsk)
      rw [effs_eq] at h4
      have hlo : countB (effs 0 ops) (fun e => ((bits ops).getD i 0).testBit e) ≤ countB (effs 0 ops) L := countB_le fun j hj hb => hc.tie i o ho hr j hb
      have hhi : countB (effs 0 ops) L ≤ countB (effs 0 ops) (fun e => !(((bits ops).getD e 0).testBit i)) := countB_le fun j hj hLj => by
        obtain ⟨_, oj, hoj, _⟩ := effs_mem _ _ _ hj
        rw [Nat.sub_zero] at hoj
        cases hb : ((bits ops).getD j 0).testBit i with
        | false => rfl
        | true =>
          have := hc.tie j oj hoj (hc j oj hoj hLj) i hb
          rw [hL] at this
          cases this
      simp only [Bool.or_eq_true, decide_eq_true_eq] at h4
      rcases h4 with (h4 | h4) | h4
      · omega
      · omega
      · split at h4
        · rename_i v' hv'
          rw [hv', TV.beq_sound _ _ h4]
        · cases h4

/-- The names that the operation looks at stand as they stand in the text's order. -/
theorem Told.names {ops : List Oper} {e e' : Env} {s s' : St} {items : List DItem} {sts : List St} (hR : RegionFacts ops) (t : Told P ops ops 0 e s items sts e' s')
    {L : Nat → Bool} (hc : Closed ops L) {i : Nat} {o : Oper} (ho : ops[i]? = some o) (hL : L i = false) (hr : ∀ d ∈ directs o, L d = true) {x : Tmp} (hx : x ∈ namesOf ops o) (v : TV) :
    atM L x 0 items v = atM (fun k => decide (k < i)) x 0 items v := by
  refine atM_congr _ _ _ fun k it hk hdk => ?_
  rw [Nat.zero_add]
  have hlt : k < ops.length := by rw [← t.len]; exact (List.getElem?_eq_some_iff.1 hk).1
  obtain ⟨it', _, _, hit', hio, _⟩ := t.each k _ (List.getElem?_eq_getElem hlt)
  rw [hk] at hit'
  cases hit'
  have hok : ops[k]? = some it.o := by rw [hio]; exact List.getElem?_eq_getElem hlt
  by_cases hne : k = i
  · subst hne; simp [hL]
  · rcases hR.names i o x k it.o ho hx hok hdk with h | h
    · exact absurd h hne
    · exact hc.split ho hok hL hr h hne

theorem count_set_true : ∀ (l : List Bool) (i : Nat), l[i]? = some false → (l.set i true).count false + 1 = l.count false
  | [], _, h => by simp at h
  | b :: l, 0, h => by
    have : b = false := by simpa using h
    subst this
    simp
  | b :: l, i + 1, h => by
    have := count_set_true l i (by simpa using h)
    simp only [List.set_cons_succ, List.count_cons]
    omega

structure DInv (P : Program) (ops : List Oper) (g0 : G) (a0 : Act) (e : Env) (s : St) (items : List DItem) (sts : List St) (listed : Array Bool) (a : Act) (w : World) : Prop where
  size : listed.size = ops.length
  closed : Closed ops (fun i => listed.getD i false)
  len : a.tmps.size = e.length
  defers : a.defers = a0.defers
  rel : ∃ g sk, g0.le g ∧ Rel P g w sk ∧ (s :: sts)[countB (effs 0 ops) (fun i => listed.getD i false)]? = some sk ∧ ∀ t, t < e.length → VRel g (a.tmps.getD t undef) (atM (fun i => listed.getD i false) t 0 items (e.at t))

theorem put_at {a : Act} {d : Option Tmp} {v : Value} {t : Tmp} (ht : t < a.tmps.size) : (a.put d v).tmps.getD t undef = if d == some t then v else a.tmps.getD t undef := by
  cases d with
  | none => simp [Act.put]
  | some d =>
    by_cases h : d = t
    · subst h
      simp [Act.put, ht]
    · have h' : (some d == some t) = false := by simpa using h
      simp [Act.put, Array.getElem?_setIfInBounds_ne h, h']
theorem put_size (a : Act) (d : Option Tmp) (v : Value) : (a.put d v).tmps.size = a.tmps.size := by cases d <;> simp [Act.put]

theorem set_listed {listed : Array Bool} {i : Nat} (hi : i < listed.size) : (fun k => (listed.setIfInBounds i true).getD k false) = (fun k => k == i || listed.getD k false) := by
  funext k
  by_cases h : i = k
  · subst h; simp [hi]
  · have h' : (k == i) = false := by simpa using fun e => h e.symm
    rw [getD_set_ne false h, h']
    simp

theorem DInv.run {ops : Array Oper} {g0 : G} {a0 : Act} {e e' : Env} {s s' : St} {items : List DItem} {sts : List St} (hR : RegionFacts ops.toList) (t : Told P ops.toList ops.toList 0 e s items sts e' s') (hd : drawOk P ops.toList items (s :: sts) = true)
    {Q : Exit → Act → World → Prop} (hQ : ∀ a' w' g', g0.le g' → Rel P g' w' s' → EnvRel g' a' e' → a'.defers = a0.defers → Q .normal a' w') :
    ∀ (fuel : Nat) (listed : Array Bool) (a : Act) (w : World), listed.toList.count false ≤ fuel → DInv P ops.toList g0 a0 e s items sts listed a w → wpAny P .any ops Q fuel listed a w := by
  have done : ∀ (listed : Array Bool) (a : Act) (w : World), DInv P ops.toList g0 a0 e s items sts listed a w → (∀ i, i < ops.toList.length → listed.getD i false = true) → Q .normal a w := by
    intro listed a w inv hall
    obtain ⟨g, sk, hle, hrel, hsk, hv⟩ := inv.rel
    have hcnt : countB (effs 0 ops.toList) (fun i => listed.getD i false) = countB (effs 0 ops.toList) (fun _ => true) := countB_congr fun j hj => by
      obtain ⟨_, oj, hoj, _⟩ := effs_mem _ _ _ hj
      rw [Nat.sub_zero] at hoj
      exact hall j (List.getElem?_eq_some_iff.1 hoj).1
    rw [hcnt, t.last] at hsk
    cases hsk
    refine hQ a w g hle hrel ?_ inv.defers
    have hlen : e'.length = e.length := by rw [t.env, envM_length]
    refine VRels.of (by simp [inv.len, hlen]) fun i v x hv' hx => ?_
    have hi : i < e.length := by rw [← hlen]; exact (List.getElem?_eq_some_iff.1 hx).1
    have h1 := hv i hi
    rw [atM_congr (M' := fun _ => true) items 0 (e.at i) fun k it hk _ => by
      rw [Nat.zero_add]
      exact hall k (by rw [← t.len]; exact (List.getElem?_eq_some_iff.1 hk).1)] at h1
    rw [← envM_at _ _ _ _ hi, ← t.env] at h1
    have h2 : e'.at i = x := by simp [Env.at_eq, List.getD, hx]
    have h3 : a.tmps[i]? = some v := by simpa using hv'
    rw [h2, Array.getD_eq_getD_getElem?, h3] at h1
    exact h1
  have noReady : ∀ (listed : Array Bool) (a : Act) (w : World), DInv P ops.toList g0 a0 e s items sts listed a w → Region.ready .any ops listed = [] → ∀ i, i < ops.toList.length → listed.getD i false = true := by
    intro listed a w inv hnil i
    induction i using Nat.strongRecOn with
    | _ i ih =>
      intro hi
      cases hL : listed.getD i false with
      | true => rfl
      | false =>
        exfalso
        have hi' : i < listed.size := by rw [inv.size]; exact hi
        have hmem : i ∈ Region.ready .any ops listed := by
          rw [mem_ready]
          refine ⟨by simp [hi'] at hL ⊢; exact hL, ops[i]'(by simpa using hi), by simp, fun ed hed hb => ?_⟩
          have hlt := hR.below i (ops.toList[i]) (List.getElem?_eq_getElem hi) ed.on (directs_mem.2 ⟨ed, by simpa using hed, hb, rfl⟩)
          exact ih ed.on hlt (Nat.lt_trans hlt hi)
        rw [hnil] at hmem
        cases hmem
  have step : ∀ (listed : Array Bool) (a : Act) (w : World), DInv P ops.toList g0 a0 e s items sts listed a w → ∀ i ∈ Region.ready .any ops listed, ∀ (K : Act → World → Prop),
      (∀ a' w', DInv P ops.toList g0 a0 e s items sts (listed.setIfInBounds i true) a' w' → K a' w') → wpOp P ops Q i K a w := by
    intro listed a w inv i hi K hK
    obtain ⟨hun, o, ho, hall⟩ := mem_ready.1 hi
    have ho' : ops.toList[i]? = some o := by simpa using ho
    have hlt : i < listed.size := by
      rcases Nat.lt_or_ge i listed.size with h | h
      · exact h
      · simp [Array.getElem?_eq_none h] at hun
    have hL : listed.getD i false = false := by simp [hlt] at hun ⊢; exact hun
    have hr : ∀ d ∈ directs o, listed.getD d false = true := fun d hd => by
      obtain ⟨ed, h1, h2, rfl⟩ := directs_mem.1 hd
      exact hall ed h1 h2
    obtain ⟨g, sk, hle, hrel, hsk, hv⟩ := inv.rel
    obtain ⟨it, sk', hit, hio, hw, he, hsk', hyes, hno⟩ := t.step hR hd inv.closed ho' hL hr hsk
    have helen : it.e.length = e.length := by rw [he, envM_length]
    have hname : ∀ x, x ∈ namesOf ops.toList o → VRel g (a.tmps.getD x undef) (it.e.at x) := fun x hx => by
      by_cases hxl : x < e.length
      · have h1 := hv x hxl
        rw [t.names hR inv.closed ho' hL hr hx, ← envM_at _ _ _ _ hxl, ← he] at h1
        exact h1
      · have : it.e.at x = .junk := by simp [Env.at_eq, List.getD, List.getElem?_eq_none (show it.e.length ≤ x by omega)]
        rw [this]
        exact .junk _
    have hoper : OperandsRel g a it.e o := fun x hx => by
      cases x with
      | tmp y => exact hname y (names_operand hx)
      | const v => exact VRel.const g v
      | global n => exact VRel.glob g n
      | func f => exact .fn _ _ _ _ _ .nil .nil
    have hwant : Region.wanted o (yielded ops a.tmps) = it.w := wantedT_at (fun j b d hg hdd => hname d (names_guard hg (by simpa using hdd))) hw
    have next : ∀ rv w' g', g.le g' → Rel P g' w' sk' → VRel g' rv it.v → K (a.put o.dst rv) w' := by
      intro rv w' g' hle' hrel' hrv
      refine hK _ _ ⟨by simp [inv.size], ?_, by rw [put_size]; exact inv.len, (put_defers _ _ _).trans inv.defers, g', sk', hle.trans hle', hrel', ?_, fun x hx => ?_⟩
      · rw [set_listed hlt]
        intro j oj hj hlj d hdj
        by_cases hji : j = i
        · subst hji
          rw [ho'] at hj
          cases hj
          simp [hr d hdj]
        · simp only [beq_eq_false_iff_ne.2 hji, Bool.false_or] at hlj
          simp only [inv.closed j oj hj hlj d hdj, Bool.or_true]
      · rw [set_listed hlt]; exact hsk'
      · rw [set_listed hlt, put_at (by rw [inv.len]; exact hx)]
        by_cases hdx : o.dst = some x
        · rw [atM_last items 0 (e.at x) i it hit (by rw [hio]; exact hdx) (by simp) fun k itk hk hik hdk => ?_]
          · simpa [hdx] using hrv
          · rw [Nat.zero_add]
            have hkl : k < ops.toList.length := by rw [← t.len]; exact (List.getElem?_eq_some_iff.1 hk).1
            obtain ⟨it', _, _, hit', hio', _⟩ := t.each k _ (List.getElem?_eq_getElem hkl)
            rw [hk] at hit'
            cases hit'
            have hok : ops.toList[k]? = some itk.o := by rw [hio']; exact List.getElem?_eq_getElem hkl
            have hne : k ≠ i := by omega
            rcases hR.names i o x k itk.o ho' (names_dst hdx) hok hdk with h | h
            · exact absurd h hne
            · have := inv.closed.split ho' hok hL hr h hne
              rw [this]
              simp [hne]
              omega
        · have hdx' : (o.dst == some x) = false := by simpa using hdx
          rw [hdx', if_neg (by simp)]
          rw [atM_congr (M' := fun k => listed.getD k false) items 0 (e.at x) fun k itk hk hdk => ?_]
          · exact (hv x hx).mono hle'
          · rw [Nat.zero_add]
            have hne : k ≠ i := fun h => by
              subst h
              rw [hit] at hk
              cases hk
              rw [hio] at hdk
              exact hdx hdk
            simp [hne]
    unfold wpOp
    simp only [ho]
    rw [hwant]
    cases hwt : it.w with
    | true =>
      rw [if_pos rfl]
      exact .inl (hyes hwt g w a hrel hoper K Q next)
    | false =>
      rw [if_neg (by simp)]
      obtain ⟨h1, h2⟩ := hno hwt
      refine next undef w g (.refl g) (by rw [h2]; exact hrel) ?_
      rw [h1]
      exact VRel.undef' g
  intro fuel
  induction fuel with
  | zero =>
    intro listed a w hcnt inv
    have hall : ∀ i, i < ops.toList.length → listed.getD i false = true := fun i hi => by
      have hi' : i < listed.size := by rw [inv.size]; exact hi
      cases hb : listed.getD i false with
      | true => rfl
      | false =>
        exfalso
        have : false ∈ listed.toList := by
          rw [List.mem_iff_getElem?]
          exact ⟨i, by simp [hi'] at hb ⊢; exact hb⟩
        have := List.count_pos_iff.2 this
        omega
    refine ⟨?_, done listed a w inv hall⟩
    rw [List.eq_nil_iff_forall_not_mem]
    intro i hi
    obtain ⟨hun, o, ho, _⟩ := mem_ready.1 hi
    have hlt : i < ops.toList.length := by simpa using (Array.getElem?_eq_some_iff.1 ho).1
    have h1 := hall i hlt
    have hi' : i < listed.size := by rw [inv.size]; exact hlt
    simp [hi'] at h1 hun
    rw [hun] at h1
    cases h1
  | succ fuel ih =>
    intro listed a w hcnt inv
    refine ⟨fun h => done listed a w inv (noReady listed a w inv h), fun i hi => step listed a w inv i hi _ fun a' w' inv' => ih _ _ _ ?_ inv'⟩
    obtain ⟨hun, _⟩ := mem_ready.1 hi
    have hlt : i < listed.size := by
      rcases Nat.lt_or_ge i listed.size with h | h
      · exact h
      · simp [Array.getElem?_eq_none h] at hun
    have := count_set_true listed.toList i (by simp [hlt] at hun ⊢; exact hun)
    rw [Array.toList_setIfInBounds]
    omega

theorem getD_replicate_false' (m j : Nat) : (Array.replicate m false).getD j false = false := by
  rcases Nat.lt_or_ge j m with h | h
  · simp [h]
  · simp [h]

theorem CodeSim.draw (hm : P.follows .mixedOrders = true) {id : Nat} {ops : Array Oper} {e e' : Env} {s s' : St} {items : List DItem} {sts : List St} (hr : regionOk ops.toList = true) (t : Told P ops.toList ops.toList 0 e s items sts e' s')
    (hd : drawOk P ops.toList items (s :: sts) = true) : CodeSim P (.region id ops true) e s .normal e' s' := by
  intro g w a hR hE Q hQ
  refine wp_region_any hm (DInv.run (.of hr) t hd hQ ops.size _ a _ (by simp) ⟨by simp, fun j o _ h => ?_, ?_, rfl, g, s, .refl g, hR.drew, ?_, fun x hx => ?_⟩)
  · exact absurd ((getD_replicate_false' ops.size j).symm.trans h) (by simp)
  · have := hE.length; simpa using this
  · rw [show countB (effs 0 ops.toList) (fun i => (Array.replicate ops.size false).getD i false) = 0 by
      unfold countB
      rw [List.length_eq_zero_iff, List.filter_eq_nil_iff]
      intro k _
      rw [getD_replicate_false']
      simp]
    rfl
  · rw [atM_none items 0 _ fun k it _ _ => getD_replicate_false' _ _]
    exact hE.at x
end
end Go.Proofs.YtmmofmkencnldaaGreatDoor.TV
