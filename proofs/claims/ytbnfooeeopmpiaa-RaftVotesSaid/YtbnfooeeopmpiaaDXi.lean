/-
  DX: regions.
-/
import Derived.Test.YtbnfooeeopmpiaaDXh
namespace Go.Proofs.Ytbnfooeeopmpiaa.TV
open Go Go.RowKit
set_option linter.unusedSimpArgs false
set_option linter.unusedVariables false

/-- Calls are told rightly. -/
def CallOkU (P : Program) (call : CallU) : Prop := ∀ f args h r, (call f args h).Has r → ∀ s V targs, HRel s V h → URels V args targs → ∃ s' V' v, Sim P f targs s v s' ∧ URel V' r.1 v ∧ Eff s V h r.2.2 s' V' r.2.1

section
variable {P : Program} {s s' : St} {V V' : Val} {h h' : UHeap} {e : UEnv} {te : Env}

theorem evU_rel (r : URels V e te) (x : Operand) : URel V (evU e x) (ev te x) := by
  cases x with
  | tmp t => exact r.at_ t
  | const v => exact constU_rel V v
  | global g => exact .junk _
  | func f => exact .fn _ _ _ _ _ .nil .nil
theorem callee_rel (r : URels V e te) {o : Oper} {f : FuncId} {args : List UV} (hc : calleeU (evU e) o = some (f, args)) : ∃ targs, calleeT (ev te) o = some (f, targs) ∧ URels V args targs := by
  obtain ⟨dst, op, ty, pos, after, guard⟩ := o
  unfold calleeU at hc
  cases op with
  | call c =>
    obtain ⟨callee, as, ts⟩ := c
    cases callee with
    | value g =>
      simp only at hc
      have hg := evU_rel r g
      split at hc
      · rename_i f1 a1 c1 e1
        cases hc
        rw [e1] at hg
        cases hgv : ev te g <;> rw [hgv] at hg <;> cases hg
        rename_i h1 h2
        exact ⟨_, by simp only [calleeT, hgv], (h1.append (URels.map fun x _ => evU_rel r x)).append h2⟩
      · cases hc
    | builtin b => cases hc
    | invoke a b => cases hc
  | _ => cases hc
theorem opU_ok (hN : Named P) {call : CallU} (hC : CallOkU P call) (hR : HRel s V h) (r : URels V e te) {o : Oper} {u : UV × UHeap × List Nat} (hu : (opU P call e h o).Has u) :
    ∃ s' V' v, OpSim P o te s v s' ∧ URel V' u.1 v ∧ Eff s V h u.2.2 s' V' u.2.1 ∧
      (isRead o = true → s' = s ∧ V' = V ∧ u.2.1 = h ∧ ∀ s2, (∀ k oid, rowOf (evU e) o = some k → V.ids[k]? = some oid → s2.objs.get oid = s.objs.get oid) → readT P s2 (ev te) o = some v) := by
  unfold opU at hu
  split at hu
  · rename_i hr
    rw [Tree.has_bind] at hu
    obtain ⟨v0, h1, h2⟩ := hu
    simp only [Tree.Has] at h2
    subst h2
    obtain ⟨v, h3, h4⟩ := readU_ok hR (evU_rel r) h1
    exact ⟨s, V, v, .read (h4 s fun _ _ _ _ => rfl), h3, Eff.refl hR [], fun _ => ⟨rfl, rfl, rfl, h4⟩⟩
  · rename_i hr
    split at hu
    · rename_i f args hc
      obtain ⟨targs, h1, h2⟩ := callee_rel r hc
      obtain ⟨s', V', v, h3, h4, h5⟩ := hC f args h u hu s V targs hR h2
      exact ⟨s', V', v, .call hN h1 h3, h4, h5, fun h => absurd h hr⟩
    · obtain ⟨s', V', v, h3, h4, h5⟩ := eff_ok hR (evU_rel r) hu
      exact ⟨s', V', v, .eff h3, h4, h5, fun h => absurd h hr⟩

theorem URels.setl {V : Val} {us : List UV} {vs : List TV} (r : URels V us vs) {d : Nat} {u : UV} {v : TV} (hv : vs[d]? = some v) (hu : URel V u v) : URels V (us.set d u) vs := by
  have := r.set d hu
  have e : vs.set d v = vs := by
    apply List.ext_getElem?
    intro i
    rw [List.getElem?_set]
    split
    · rename_i h
      subst h
      rw [hv]
      simp [(List.getElem?_eq_some_iff.1 hv).1]
    · rfl
  rw [e] at this
  exact this
theorem wantU_ok {α : Type} (r : URels V e te) {ops : List Oper} {o : Oper} {f : UEnv → Bool → Tree α} {a : α} (hu : (wantU ops o e f).Has a) : ∃ e2 w, URels V e2 te ∧ wantedT ops te o = some w ∧ (f e2 w).Has a := by
  unfold wantU at hu
  unfold wantedT
  split at hu
  · rename_i hg
    rw [hg]
    exact ⟨e, true, r, rfl, hu⟩
  · rename_i j want hg
    rw [hg]
    simp only
    split at hu
    · rename_i d hd
      rw [hd]
      simp only
      have hat : ∀ {x}, e.at d = x → isJunkU x = false → ∃ v, te[d]? = some v ∧ URel V x v := by
        intro x hx hj
        rw [UEnv.at_eq] at hx
        cases hed : e[d]? with
        | none => rw [List.getD_eq_getElem?_getD, hed] at hx; subst hx; cases hj
        | some y =>
          rw [List.getD_eq_getElem?_getD, hed] at hx
          simp at hx
          subst hx
          exact r.get hed
      have hev : ∀ {v}, te[d]? = some v → te.at d = v := fun h => by simp [Env.at, List.getD_eq_getElem?_getD, h]
      split at hu
      · rename_i b hb
        obtain ⟨v, h1, h2⟩ := hat hb rfl
        cases h2
        rw [hev h1]
        simp only [setKU_eq, Tree.Has] at hu
        rcases hu with ⟨rfl, hu⟩ | ⟨rfl, hu⟩
        · exact ⟨_, _, r.setl h1 (.bool true), rfl, hu⟩
        · exact ⟨_, _, r.setl h1 (.bool false), rfl, hu⟩
      · rename_i hb
        obtain ⟨v, h1, h2⟩ := hat hb rfl
        cases h2 with
        | tup _ vs rs =>
          cases rs
          rw [hev h1]
          exact ⟨e, false, r, rfl, hu⟩
      · exact hu.elim
    · exact hu.elim
theorem put_rel (r : URels V e te) {u : UV} {v : TV} (hu : URel V u v) (dst : Option Tmp) : URels V (putU dst u e) (putE dst v te) := by
  cases dst with
  | none => exact r
  | some d => exact r.set d hu
theorem put_same {dst : Option Tmp} {v : TV} {d : Nat} (h : (dst == some d) = false) : (putE dst v te)[d]? = te[d]? := by
  cases dst with
  | none => rfl
  | some d' =>
    simp only [putE]
    rw [List.getElem?_set_ne]
    intro e
    subst e
    simp at h
theorem put_length {dst : Option Tmp} {v : TV} : (putE dst v te).length = te.length := by cases dst <;> simp [putE]

theorem opsU_nil {call : CallU} {ops : List Oper} {e : UEnv} {h : UHeap} : opsU P call ops [] e h = .leaf (e, h) := rfl
theorem opsU_cons {call : CallU} {ops : List Oper} {o : Oper} {rest : List Oper} {e : UEnv} {h : UHeap} : opsU P call ops (o :: rest) e h = wantU ops o e fun e w => match w with
    | true => (opU P call e h o).bind fun r => openU (isRead o) r fun v h _ => putKU o.dst v e fun e => opsU P call ops rest e h
    | false => putKU o.dst undefU e fun e => opsU P call ops rest e h := rfl
theorem opsU_ok (hN : Named P) {call : CallU} (hC : CallOkU P call) {ops : Array Oper} : ∀ {l : List Oper} {s : St} {V : Val} {h : UHeap} {e : UEnv} {te : Env} {u : UEnv × UHeap}, HRel s V h → URels V e te → (opsU P call ops.toList l e h).Has u →
    ∃ s' V' te', SeqSim P ops l te s te' s' ∧ HRel s' V' u.2 ∧ URels V' u.1 te' ∧ Step s V h s' V' u.2 ∧ te'.length = te.length ∧ (∀ d, asgOps l d = false → te'[d]? = te[d]?) ∧ V.tks <+: V'.tks
  | [], s, V, h, e, te, u, hR, r, hu => by
    simp only [opsU_nil, Tree.Has] at hu
    subst hu
    exact ⟨s, V, te, .nil ops te s, hR, r, Step.refl _ _ _, rfl, fun _ _ => rfl, List.prefix_rfl⟩
  | o :: l, s, V, h, e, te, u, hR, r, hu => by
    simp only [opsU_cons] at hu
    obtain ⟨e2, w, r2, hw, hu⟩ := wantU_ok r hu
    cases w with
    | true =>
      simp only [openU_eq, putKU_eq] at hu
      rw [Tree.has_bind] at hu
      obtain ⟨u1, h1, h2⟩ := hu
      obtain ⟨s1, V1, v, k1, k2, k3, _⟩ := opU_ok hN hC hR r2 h1
      obtain ⟨s', V', te', k4, k5, k6, k7, k8, k9, k10⟩ := opsU_ok hN hC k3.rel (put_rel (r2.mono k3.le) k2 o.dst) h2
      refine ⟨s', V', te', .cons hw k1 k4, k5, k6, k3.step.trans k7, by rw [k8, put_length], fun d hd => ?_, k3.le.tks.trans k10⟩
      simp only [asgOps, Bool.or_eq_false_iff] at hd
      rw [k9 d hd.2, put_same hd.1]
    | false =>
      simp only [putKU_eq] at hu
      obtain ⟨s', V', te', k4, k5, k6, k7, k8, k9, k10⟩ := opsU_ok hN hC hR (put_rel r2 (.tup [] [] .nil : URel V undefU undefT) o.dst) hu
      refine ⟨s', V', te', .idle hw k4, k5, k6, k7, by rw [k8, put_length], fun d hd => ?_, k10⟩
      simp only [asgOps, Bool.or_eq_false_iff] at hd
      rw [k9 d hd.2, put_same hd.1]

/-! ### Drawn regions -/
theorem DoD_idleS {ops : Array Oper} {o : Oper} {l : List Oper} {j : Nat} {e : Env} {s : St} {items : List DItem} {sts : List St} {e' : Env} {s' : St} (hw : wantedT ops.toList e o = some false)
    (t : Told P ops.toList l (j + 1) (putE o.dst undefT e) s items sts e' s') : Told P ops.toList (o :: l) j e s (⟨o, e, undefT, false⟩ :: items) (if isRead o then sts else s :: sts) e' s' := by
  have := Told.cons (P := P) hw (fun _ => ⟨rfl, rfl⟩) (fun h => by cases h) (fun _ => rfl) (fun h => by cases h) t
  exact this
theorem DoD_opS {ops : Array Oper} {o : Oper} {l : List Oper} {j : Nat} {e : Env} {s s1 : St} {v : TV} {items : List DItem} {sts : List St} {e' : Env} {s' : St} (hw : wantedT ops.toList e o = some true) (ho : OpSim P o e s v s1) (hr : isRead o = true → s1 = s ∧ readT P s (ev e) o = some v)
    (t : Told P ops.toList l (j + 1) (putE o.dst v e) s1 items sts e' s') : Told P ops.toList (o :: l) j e s (⟨o, e, v, true⟩ :: items) (if isRead o then sts else s1 :: sts) e' s' := by
  refine Told.cons (P := P) hw (fun h => by cases h) (fun _ h => (hr h).2) (fun h => (hr h).1) (fun _ _ => ho) t

/-- The stages: what is written between them. -/
def Stages (ss : List St) (vs : List Val) (wr : List (List Nat × Nat)) : Prop :=
  ss.length = wr.length + 1 ∧ vs.length = wr.length + 1 ∧
  ∀ (p : Nat) (W : List Nat) (n : Nat), wr[p]? = some (W, n) → ∃ sp sp1 Vp Vp1, ss[p]? = some sp ∧ ss[p + 1]? = some sp1 ∧ vs[p]? = some Vp ∧ vs[p + 1]? = some Vp1 ∧ Vp.ids <+: Vp1.ids ∧ n = Vp.ids.length ∧ ∀ (k o : Nat), k ∉ W → Vp.ids[k]? = some o → sp1.objs.get o = sp.objs.get o
theorem Stages.cons {ss : List St} {vs : List Val} {wr : List (List Nat × Nat)} {s s1 : St} {V V1 : Val} {W : List Nat} (h : Stages (s1 :: ss) (V1 :: vs) wr) (hp : V.ids <+: V1.ids) (hw : ∀ (k o : Nat), k ∉ W → V.ids[k]? = some o → s1.objs.get o = s.objs.get o) :
    Stages (s :: s1 :: ss) (V :: V1 :: vs) ((W, V.ids.length) :: wr) := by
  obtain ⟨h1, h2, h3⟩ := h
  refine ⟨by simpa using h1, by simpa using h2, fun p W' n hpw => ?_⟩
  cases p with
  | zero =>
    simp at hpw
    obtain ⟨rfl, rfl⟩ := hpw
    exact ⟨s, s1, V, V1, rfl, rfl, rfl, rfl, hp, rfl, hw⟩
  | succ p =>
    obtain ⟨sp, sp1, Vp, Vp1, k1, k2, k3, k4, k5⟩ := h3 p W' n (by simpa using hpw)
    exact ⟨sp, sp1, Vp, Vp1, by simpa using k1, by simpa using k2, by simpa using k3, by simpa using k4, k5⟩
/-- What is known of each thing that was read. -/
def Reads (P : Program) (i c0 : Nat) (rd : List (Nat × Nat × Nat)) (ss : List St) (vs : List Val) (items : List DItem) : Prop :=
  ∀ (m : Nat) (it : DItem), items[m]? = some it → (isRead it.o && it.w && stateful it.o) = true →
    (∀ s2, readT P s2 (ev it.e) it.o = some it.v) ∨ ∃ (c : Nat) (sc : St) (Vc : Val) (k oid : Nat), ss[c]? = some sc ∧ vs[c]? = some Vc ∧ (i + m, c0 + c, k) ∈ rd ∧ Vc.ids[k]? = some oid ∧ ∀ s2 : St, s2.objs.get oid = sc.objs.get oid → readT P s2 (ev it.e) it.o = some it.v
theorem Reads.mono {i c0 : Nat} {rd rd' : List (Nat × Nat × Nat)} {ss : List St} {vs : List Val} {items : List DItem} (h : Reads P i c0 rd ss vs items) (hs : ∀ x ∈ rd, x ∈ rd') : Reads P i c0 rd' ss vs items := fun m it h1 h2 => by
  rcases h m it h1 h2 with h3 | ⟨c, sc, Vc, k, oid, h3, h4, h5, h6⟩
  · exact .inl h3
  · exact .inr ⟨c, sc, Vc, k, oid, h3, h4, hs _ h5, h6⟩
theorem Reads.shift {i c0 : Nat} {rd : List (Nat × Nat × Nat)} {s : St} {V : Val} {ss : List St} {vs : List Val} {items : List DItem} {it : DItem} (h : Reads P (i + 1) (c0 + 1) rd ss vs items) (hi : (isRead it.o && it.w && stateful it.o) = false) : Reads P i c0 rd (s :: ss) (V :: vs) (it :: items) := fun m it' h1 h2 => by
  cases m with
  | zero => simp at h1; subst h1; rw [hi] at h2; cases h2
  | succ m =>
    rcases h m it' (by simpa using h1) h2 with h3 | ⟨c, sc, Vc, k, oid, h3, h4, h5, h6⟩
    · exact .inl h3
    · exact .inr ⟨c + 1, sc, Vc, k, oid, by simpa using h3, by simpa using h4, by rw [show i + (m + 1) = i + 1 + m by omega, show c0 + (c + 1) = c0 + 1 + c by omega]; exact h5, h6⟩
theorem Reads.here {i c0 : Nat} {rd : List (Nat × Nat × Nat)} {ss : List St} {vs : List Val} {items : List DItem} {it : DItem} (h : Reads P (i + 1) c0 rd ss vs items)
    (hi : (isRead it.o && it.w && stateful it.o) = true → (∀ s2, readT P s2 (ev it.e) it.o = some it.v) ∨ ∃ (sc : St) (Vc : Val) (k oid : Nat), ss[0]? = some sc ∧ vs[0]? = some Vc ∧ (i, c0, k) ∈ rd ∧ Vc.ids[k]? = some oid ∧ ∀ s2 : St, s2.objs.get oid = sc.objs.get oid → readT P s2 (ev it.e) it.o = some it.v) : Reads P i c0 rd ss vs (it :: items) := fun m it' h1 h2 => by
  cases m with
  | zero =>
    simp at h1
    subst h1
    rcases hi h2 with h3 | ⟨sc, Vc, k, oid, h3, h4, h5, h6⟩
    · exact .inl h3
    · exact .inr ⟨0, sc, Vc, k, oid, h3, h4, h5, h6⟩
  | succ m =>
    rcases h m it' (by simpa using h1) h2 with h3 | ⟨c, sc, Vc, k, oid, h3, h4, h5, h6⟩
    · exact .inl h3
    · exact .inr ⟨c, sc, Vc, k, oid, h3, h4, by rw [show i + (m + 1) = i + 1 + m by omega]; exact h5, h6⟩

theorem drawU_ok (hN : Named P) {call : CallU} (hC : CallOkU P call) {ops : Array Oper} : ∀ {l : List Oper} {i : Nat} {s : St} {V : Val} {h : UHeap} {e : UEnv} {te : Env} {rd : List (Nat × Nat × Nat)} {wr : List (List Nat × Nat)} {u : UEnv × UHeap}, HRel s V h → URels V e te → (drawU P call ops.toList l i e h rd wr).Has u →
    ∃ s' V' te' items sts vs rd' wr', Told P ops.toList l i te s items sts te' s' ∧ HRel s' V' u.2 ∧ URels V' u.1 te' ∧ Step s V h s' V' u.2 ∧ te'.length = te.length ∧ ((∀ d, asgOps l d = false → te'[d]? = te[d]?) ∧ V.tks <+: V'.tks) ∧
      drawChk ops.toList (rd.reverse ++ rd') (wr.reverse ++ wr') = true ∧ Stages (s :: sts) (V :: vs) wr' ∧ Reads P i wr.length rd' (s :: sts) (V :: vs) items
  | [], i, s, V, h, e, te, rd, wr, u, hR, r, hu => by
    simp only [drawU] at hu
    split at hu
    · rename_i hc
      simp only [Tree.Has] at hu
      subst hu
      exact ⟨s, V, te, [], [], [], [], [], .nil _ _ _ _, hR, r, Step.refl _ _ _, rfl, ⟨fun _ _ => rfl, List.prefix_rfl⟩, by simpa using hc, ⟨rfl, rfl, fun p W n h => by simp at h⟩, fun m it h => by simp at h⟩
    · exact hu.elim
  | o :: l, i, s, V, h, e, te, rd, wr, u, hR, r, hu => by
    simp only [drawU] at hu
    obtain ⟨e2, w, r2, hw, hu⟩ := wantU_ok r hu
    cases w with
    | true =>
      simp only [openU_eq, putKU_eq] at hu
      rw [Tree.has_bind] at hu
      obtain ⟨u1, h1, h2⟩ := hu
      obtain ⟨s1, V1, v, k1, k2, k3, kr⟩ := opU_ok hN hC hR r2 h1
      obtain ⟨s', V', te', items, sts, vs, rd', wr', t, k5, k6, k7, k8, k9, k10, k11, k12⟩ := drawU_ok hN hC k3.rel (put_rel (r2.mono k3.le) k2 o.dst) h2
      have hasg : (∀ d, asgOps (o :: l) d = false → te'[d]? = te[d]?) ∧ V.tks <+: V'.tks := ⟨fun d hd => by
        simp only [asgOps, Bool.or_eq_false_iff] at hd
        rw [k9.1 d hd.2, put_same hd.1], k3.le.tks.trans k9.2⟩
      have hlen : te'.length = te.length := by rw [k8, put_length]
      cases hr : isRead o with
      | true =>
        obtain ⟨rfl, rfl, hh, kr⟩ := kr hr
        simp only [hr, if_true] at k10 k12
        have told := DoD_opS hw k1 (fun _ => ⟨rfl, kr _ fun _ _ _ _ => rfl⟩) t
        simp only [hr, if_true] at told
        cases hrow : rowOf (evU e2) o with
        | none =>
          rw [hrow] at k10
          exact ⟨s', V', te', _, sts, vs, rd', wr', told, k5, k6, k3.step.trans k7, hlen, hasg, k10, k11, k12.here fun _ => .inl fun s2 => kr s2 fun k oid hk => by rw [hrow] at hk; cases hk⟩
        | some k =>
          rw [hrow] at k10
          simp only [List.reverse_cons, List.append_assoc, List.singleton_append] at k10
          refine ⟨s', V', te', _, sts, vs, (i, wr.length, k) :: rd', wr', told, k5, k6, k3.step.trans k7, hlen, hasg, k10, k11, Reads.here (k12.mono fun x hx => List.mem_cons_of_mem _ hx) fun hi => ?_⟩
          cases hid : V1.ids[k]? with
          | none => exact .inl fun s2 => kr s2 fun k' oid hk hk' => by rw [hrow] at hk; cases hk; rw [hid] at hk'; cases hk'
          | some oid => exact .inr ⟨s1, V1, k, oid, rfl, rfl, by simp, hid, fun s2 hs2 => kr s2 fun k' oid' hk hk' => by rw [hrow] at hk; cases hk; rw [hid] at hk'; cases hk'; exact hs2⟩
      | false =>
        have told := DoD_opS hw k1 (fun h => by rw [hr] at h; cases h) t
        simp only [hr, Bool.false_eq_true, if_false] at told k10 k12
        have hrow : rowOf (evU e2) o = none := by
          unfold rowOf
          split
          · rename_i hop; simp [isRead, hop] at hr
          · rfl
        rw [hrow] at k10
        simp only [List.reverse_cons, List.append_assoc, List.singleton_append] at k10
        rw [← hR.len] at k10
        exact ⟨s', V', te', _, s1 :: sts, V1 :: vs, rd', (u1.2.2, V.ids.length) :: wr', told, k5, k6, k3.step.trans k7, hlen, hasg, k10, k11.cons k3.step.ids k3.rest, Reads.shift (by simpa using k12) (by simp [hr])⟩
    | false =>
      simp only [putKU_eq] at hu
      obtain ⟨s', V', te', items, sts, vs, rd', wr', t, k5, k6, k7, k8, k9, k10, k11, k12⟩ := drawU_ok hN hC hR (put_rel r2 (.tup [] [] .nil : URel V undefU undefT) o.dst) hu
      have hasg : (∀ d, asgOps (o :: l) d = false → te'[d]? = te[d]?) ∧ V.tks <+: V'.tks := ⟨fun d hd => by
        simp only [asgOps, Bool.or_eq_false_iff] at hd
        rw [k9.1 d hd.2, put_same hd.1], k9.2⟩
      have hlen : te'.length = te.length := by rw [k8, put_length]
      have told := DoD_idleS hw t
      cases hr : isRead o with
      | true =>
        simp only [hr, if_true] at told k10 k12
        exact ⟨s', V', te', _, sts, vs, rd', wr', told, k5, k6, k7, hlen, hasg, k10, k11, k12.here fun hi => by simp at hi⟩
      | false =>
        simp only [hr, Bool.false_eq_true, if_false] at told k10 k12
        simp only [List.reverse_cons, List.append_assoc, List.singleton_append] at k10
        rw [← hR.len] at k10
        exact ⟨s', V', te', _, s :: sts, V :: vs, rd', ([], V.ids.length) :: wr', told, k5, k6, k7, hlen, hasg, k10, k11.cons List.prefix_rfl fun _ _ _ _ => rfl, Reads.shift (by simpa using k12) (by simp)⟩
theorem Stages.ids {ss : List St} {vs : List Val} {wr : List (List Nat × Nat)} (h : Stages ss vs wr) : ∀ (d p : Nat) (Va Vb : Val), vs[p]? = some Va → vs[p + d]? = some Vb → Va.ids <+: Vb.ids
  | 0, p, Va, Vb, h1, h2 => by rw [Nat.add_zero, h1] at h2; cases h2; exact List.prefix_rfl
  | d + 1, p, Va, Vb, h1, h2 => by
    have hlt := (List.getElem?_eq_some_iff.1 h2).1
    have hp : p < wr.length := by have := h.2.1; omega
    obtain ⟨_, _, Vp, Vp1, _, _, k3, k4, k5, _⟩ := h.2.2 p (wr[p]).1 (wr[p]).2 (by rw [List.getElem?_eq_getElem hp])
    rw [h1] at k3
    cases k3
    exact k5.trans (Stages.ids h d (p + 1) Vp1 Vb k4 (by rw [show p + 1 + d = p + (d + 1) by omega]; exact h2))
/-- Between stages nobody writes to the row. -/
theorem Stages.same {ss : List St} {vs : List Val} {wr : List (List Nat × Nat)} (h : Stages ss vs wr) {k oid : Nat} : ∀ (d p : Nat) (sa sb : St) (Va : Val), ss[p]? = some sa → vs[p]? = some Va → ss[p + d]? = some sb → Va.ids[k]? = some oid →
    (∀ q W n, p ≤ q → q < p + d → wr[q]? = some (W, n) → k ∉ W) → sb.objs.get oid = sa.objs.get oid
  | 0, p, sa, sb, Va, h1, _, h2, _, _ => by rw [Nat.add_zero, h1] at h2; cases h2; rfl
  | d + 1, p, sa, sb, Va, h1, hv, h2, hk, hw => by
    have hlt := (List.getElem?_eq_some_iff.1 h2).1
    have hp : p < wr.length := by have := h.1; omega
    obtain ⟨sp, sp1, Vp, Vp1, k1, k2, k3, k4, k5, _, k6⟩ := h.2.2 p (wr[p]).1 (wr[p]).2 (by rw [List.getElem?_eq_getElem hp])
    rw [h1] at k1
    cases k1
    rw [hv] at k3
    cases k3
    have h3 := k6 k oid (hw p _ (wr[p]).2 (Nat.le_refl _) (by omega) (by rw [List.getElem?_eq_getElem hp])) hk
    rw [← h3]
    exact Stages.same h d (p + 1) sp1 sb Vp1 k2 k4 (by rw [show p + 1 + d = p + (d + 1) by omega]; exact h2) (prefix_get k5 hk) fun q W n hq1 hq2 => hw q W n (by omega) (by omega)
theorem each_of {it : DItem} {a b : Nat} : ∀ {l : List St} {k0 : Nat}, (∀ (k : Nat) (s : St), l[k]? = some s → a ≤ k0 + k → k0 + k ≤ b → readT P s (ev it.e) it.o = some it.v) → Each P it a b k0 l
  | [], _, _ => trivial
  | s :: l, k0, h => ⟨fun h1 h2 => h 0 s rfl h1 h2, each_of fun k s' hk h1 h2 => h (k + 1) s' (by simpa using hk) (by omega) (by omega)⟩
theorem needs_of {bs es : List Nat} {sts : List St} : ∀ {l : List DItem} {i : Nat}, (∀ (m : Nat) (it : DItem), l[m]? = some it → (isRead it.o && it.w && stateful it.o) = true → Each P it (winLo bs es (i + m)) (winHi bs es (i + m)) 0 sts) → Needs P bs es sts i l
  | [], _, _ => trivial
  | it :: l, i, h => ⟨fun hi => h 0 it rfl hi, needs_of fun m it' hm hi => by
      have := h (m + 1) it' (by simpa using hm) hi
      rw [show i + (m + 1) = i + 1 + m by omega] at this
      exact this⟩
theorem draw_needs {ops : List Oper} {rd : List (Nat × Nat × Nat)} {wr : List (List Nat × Nat)} {ss : List St} {vs : List Val} {items : List DItem} (hc : drawChk ops rd wr = true) (hs : Stages ss vs wr) (hr : Reads P 0 0 rd ss vs items) :
    Needs P (bits ops) (ops.zipIdx.filterMap fun p => if isRead p.1 then none else some p.2) ss 0 items := by
  refine needs_of fun m it hm hi => each_of fun k s hk h1 h2 => ?_
  rcases hr m it hm hi with h3 | ⟨c, sc, Vc, k1, oid, h3, h4, h5, h6, h7⟩
  · exact h3 s
  · refine h7 s ?_
    rw [Nat.zero_add] at h1 h2 h5
    rw [Nat.zero_add] at h5
    rw [Nat.zero_add] at h1 h2
    unfold drawChk at hc
    simp only [List.all_eq_true] at hc
    have hc := hc (m, c, k1) h5
    simp only [Bool.and_eq_true, decide_eq_true_eq, List.all_eq_true, List.mem_range, Bool.or_eq_true, Bool.not_eq_true', Bool.and_eq_false_iff, decide_eq_false_iff_not] at hc
    obtain ⟨⟨c1, c2⟩, c3⟩ := hc
    have free : ∀ (q : Nat) (W : List Nat) (n : Nat), wr[q]? = some (W, n) → winLo (bits ops) (ops.zipIdx.filterMap fun p => if isRead p.1 then none else some p.2) m ≤ q → q < winHi (bits ops) (ops.zipIdx.filterMap fun p => if isRead p.1 then none else some p.2) m → k1 ∉ W ∧ k1 < n := by
      intro q W n hq hlo hhi
      have := c3 q (List.getElem?_eq_some_iff.1 hq).1
      rw [List.getD_eq_getElem?_getD, hq] at this
      simp only [Option.getD_some] at this
      rcases this with (h | h) | ⟨h, h'⟩
      · exact absurd hlo h
      · exact absurd hhi h
      · exact ⟨fun hm => (by rw [List.contains_iff_mem.2 hm] at h; cases h), h'⟩
    by_cases hck : c ≤ k
    · have := hs.same (k - c) c sc s Vc h3 h4 (by rw [show c + (k - c) = k by omega]; exact hk) h6 fun q W n hq1 hq2 hq => (free q W n hq (by omega) (by omega)).1
      exact this
    · have hkl := (List.getElem?_eq_some_iff.1 hk).1
      have hkv : k < vs.length := by have := hs.1; have := hs.2.1; omega
      have hkw : k < wr.length := by have := (List.getElem?_eq_some_iff.1 h3).1; have := hs.1; omega
      obtain ⟨sp, sp1, Vp, Vp1, e1, e2, e3, e4, e5, e6, e7⟩ := hs.2.2 k (wr[k]).1 (wr[k]).2 (by rw [List.getElem?_eq_getElem hkw])
      have hlt : k1 < Vp.ids.length := by
        rw [← e6]
        exact (free k _ _ (by rw [List.getElem?_eq_getElem hkw]) (by omega) (by omega)).2
      have hpre := hs.ids (c - k) k Vp Vc e3 (by rw [show k + (c - k) = c by omega]; exact h4)
      have hid : Vp.ids[k1]? = some oid := by
        have h8 : Vp.ids[k1]? = some (Vp.ids[k1]) := List.getElem?_eq_getElem hlt
        have h9 := prefix_get hpre h8
        rw [h6] at h9
        rw [h8, ← h9]
      have := hs.same (c - k) k s sc Vp hk e3 (by rw [show k + (c - k) = c by omega]; exact h3) hid fun q W n hq1 hq2 hq => (free q W n hq (by omega) (by omega)).1
      exact this.symm
end
end Go.Proofs.Ytbnfooeeopmpiaa.TV
