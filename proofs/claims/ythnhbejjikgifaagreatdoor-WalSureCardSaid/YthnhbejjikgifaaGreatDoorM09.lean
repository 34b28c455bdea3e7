/-
  DX: code; what a function answers.
  DX: functions: what they answer; calls of them.
  DX: calls of functions. (7 texts, one behind the other)
-/
import Derived.Test.YthnhbejjikgifaaGreatDoorM08
import Derived.Test.YthnhbejjikgifaaGreatDoorM04
import Derived.Test.YthnhbejjikgifaaGreatDoorProg
import Derived.KernelRfl

namespace Go.Proofs.YthnhbejjikgifaaGreatDoor.TV
open Go Go.RowKit
set_option linter.unusedSimpArgs false
set_option linter.unusedVariables false

section
variable {P : Program} {s s' s2 : St} {V V' V1 V2 V3 : Val} {h h' h1 h2 : UHeap} {e e2 : UEnv} {te te2 : Env}

theorem COk.block {c : Code} {id : Nat} {o : Ex × UEnv × UHeap} (k : COk P c e h o) : COk P (.block id c) e h (exBlock id o.1, o.2) := fun s V te hR r => by
  obtain ⟨s', V', te', k1, k2⟩ := k s V te hR r
  exact ⟨s', V', te', k1.blockX, k2⟩
theorem loopU_ok {a : Code} {f : CodeU} (hf : ∀ e h o, (f e h).Has o → COk P a e h o) : ∀ {n : Nat} {e : UEnv} {h : UHeap} {o : Ex × UEnv × UHeap}, (loopU f n e h).Has o → COk P (.loop a) e h o := by
  have key : ∀ (n : Nat) (e : UEnv) (h : UHeap) (o : Ex × UEnv × UHeap), (loopU f n e h).Has o → ∀ s V te, HRel s V h → URels V e te →
      ∃ k s' V' te', RoundsSim P a k te s o.1 te' s' ∧ HRel s' V' o.2.2 ∧ URels V' o.2.1 te' ∧ Step s V h s' V' o.2.2 ∧ te'.length = te.length ∧ (∀ d, asg a d = false → te'[d]? = te[d]?) ∧ V.tks <+: V'.tks := by
    intro n
    induction n with
    | zero => intro e h o ho; exact ho.elim
    | succ n ih =>
      intro e h o ho s V te hR r
      simp only [loopU] at ho
      rw [Tree.has_bind] at ho
      obtain ⟨b, h1, h2⟩ := ho
      obtain ⟨s1, V1, te1, k1, k2, k3, k4, k5, k6, k7⟩ := hf e h b h1 s V te hR r
      split at h2
      · rename_i e1
        simp only [forceE_eq, forceH_eq] at h2
        obtain ⟨k, s', V', te', q1, q2, q3, q4, q5, q6, q7⟩ := ih _ _ o h2 s1 V1 te1 k2 k3
        rw [e1] at k1
        exact ⟨k + 1, s', V', te', rounds_next k1 q1, q2, q3, k4.trans q4, q5.trans k5, fun d hd => (q6 d hd).trans (k6 d hd), k7.trans q7⟩
      · rename_i hx
        simp only [Tree.Has] at h2
        subst h2
        exact ⟨1, s1, V1, te1, rounds_out hx k1, k2, k3, k4, k5, k6, k7⟩
  intro n e h o ho s V te hR r
  obtain ⟨k, s', V', te', q1, q2⟩ := key n e h o ho s V te hR r
  exact ⟨s', V', te', rounds_loop q1, q2⟩
theorem condU_ok {c : Operand} {a b : Code} {ta tb : Tree (Ex × UEnv × UHeap)} (ha : ∀ o, ta.Has o → COk P a e h o) (hb : ∀ o, tb.Has o → COk P b e h o) {o : Ex × UEnv × UHeap} (ho : (condU e c ta tb).Has o) : COk P (.cond c a b) e h o := by
  intro s V te hR r
  unfold condU at ho
  have hc := evU_rel r c
  split at ho
  · rename_i x e1
    rw [e1] at hc
    cases hcv : ev te c <;> rw [hcv] at hc <;> cases hc
    rcases ho with ⟨rfl, ho⟩ | ⟨rfl, ho⟩
    · obtain ⟨s', V', te', k1, k2, k3, k4, k5, k6, k7⟩ := ha o ho s V te hR r
      exact ⟨s', V', te', .condX hcv k1, k2, k3, k4, k5, fun d hd => k6 d (by simp only [asg, Bool.or_eq_false_iff] at hd; exact hd.1), k7⟩
    · obtain ⟨s', V', te', k1, k2, k3, k4, k5, k6, k7⟩ := hb o ho s V te hR r
      exact ⟨s', V', te', .condX hcv k1, k2, k3, k4, k5, fun d hd => k6 d (by simp only [asg, Bool.or_eq_false_iff] at hd; exact hd.2), k7⟩
  · exact ho.elim
theorem region_ok (hm : P.follows .mixedOrders = true) (hN : Named P) {call : CallU} (hC : CallOkU P call) {id : Nat} {ops : Array Oper} {draw : Bool} {o : Ex × UEnv × UHeap}
    (ho : ((if draw then (if regionOk ops.toList then drawU P call ops.toList ops.toList 0 e h [] [] else .fail) else opsU P call ops.toList ops.toList e h).bind fun r => .leaf (.normal, r.1, r.2)).Has o) : COk P (.region id ops draw) e h o := by
  intro s V te hR r
  rw [Tree.has_bind] at ho
  obtain ⟨b, h1, h2⟩ := ho
  simp only [Tree.Has] at h2
  subst h2
  cases draw with
  | false =>
    simp only [Bool.false_eq_true, if_false] at h1
    obtain ⟨s', V', te', k1, k2⟩ := opsU_ok hN hC hR r h1
    exact ⟨s', V', te', fun g w a hR hE Q hQ => wp_region_list (k1 g w a hR hE Q fun a' w' g' => hQ a' w' g'), k2⟩
  | true =>
    simp only [if_true] at h1
    split at h1
    · rename_i hr
      obtain ⟨s', V', te', items, sts, vs, rd', wr', t, k1, k2, k3, k4, k5, k6, k7, k8, k9⟩ := drawU_ok hN hC hR r h1
      exact ⟨s', V', te', CodeSim.draw hm hr t (drawOk_of t (draw_needs (by simpa using k6) k7 (by simpa using k8) k9)), k1, k2, k3, k4, k5.1, k5.2⟩
    · exact h1.elim
theorem codeU_ok (hm : P.follows .mixedOrders = true) (hN : Named P) {call : CallU} (hC : CallOkU P call) (C : Cuts) (fuel : Nat) : ∀ (c : Code) (e : UEnv) (h : UHeap) (o : Ex × UEnv × UHeap), (codeU P call C fuel c e h).Has o → COk P c e h o
  | .skip, e, h, o, ho => by
    simp only [codeU, Tree.Has] at ho
    subst ho
    exact fun s V te hR r => ⟨s, V, te, fun g w a hR hE Q hQ => wp_skip (hQ a w g (.refl g) hR hE rfl), hR, r, Step.refl _ _ _, rfl, fun _ _ => rfl, List.prefix_rfl⟩
  | .exit id, e, h, o, ho => by
    simp only [codeU, Tree.Has] at ho
    subst ho
    exact fun s V te hR r => ⟨s, V, te, fun g w a hR hE Q hQ => wp_exit (hQ a w g (.refl g) hR hE rfl), hR, r, Step.refl _ _ _, rfl, fun _ _ => rfl, List.prefix_rfl⟩
  | .ret, e, h, o, ho => by
    simp only [codeU, Tree.Has] at ho
    subst ho
    exact fun s V te hR r => ⟨s, V, te, fun g w a hR hE Q hQ => wp_ret (hQ a w g (.refl g) hR hE rfl), hR, r, Step.refl _ _ _, rfl, fun _ _ => rfl, List.prefix_rfl⟩
  | .seq a b, e, h, o, ho => by
    simp only [codeU] at ho
    rw [Tree.has_bind] at ho
    obtain ⟨x, h1, h2⟩ := ho
    have ka := codeU_ok hm hN hC C fuel a e h x h1
    intro s V te hR r
    obtain ⟨s1, V1, te1, k1, k2, k3, k4, k5, k6, k7⟩ := ka s V te hR r
    split at h2
    · rename_i e1
      simp only [goU_eq] at h2
      obtain ⟨s', V', te', q1, q2, q3, q4, q5, q6, q7⟩ := codeU_ok hm hN hC C fuel b _ _ o h2 s1 V1 te1 k2 k3
      rw [e1] at k1
      exact ⟨s', V', te', k1.seq q1, q2, q3, k4.trans q4, q5.trans k5, fun d hd => by
        simp only [asg, Bool.or_eq_false_iff] at hd
        exact (q6 d hd.2).trans (k6 d hd.1), k7.trans q7⟩
    · rename_i hx
      simp only [Tree.Has] at h2
      subst h2
      exact ⟨s1, V1, te1, CodeSim.seq_out hx k1, k2, k3, k4, k5, fun d hd => by
        simp only [asg, Bool.or_eq_false_iff] at hd
        exact k6 d hd.1, k7⟩
  | .cond c a b, e, h, o, ho => by
    simp only [codeU] at ho
    split at ho
    · exact joinU_ok (fun e h o ho => condU_ok (fun o ho => codeU_ok hm hN hC C fuel a e h o ho) (fun o ho => codeU_ok hm hN hC C fuel b e h o ho) ho) ho
    · exact condU_ok (fun o ho => codeU_ok hm hN hC C fuel a e h o ho) (fun o ho => codeU_ok hm hN hC C fuel b e h o ho) ho
  | .block id a, e, h, o, ho => by
    have gen : ∀ {t : Tree (Ex × UEnv × UHeap)}, (∀ o, t.Has o → COk P a e h o) → (t.bind fun o => match o.1 with
        | .exit i => if i = id then .leaf (.normal, o.2.1, o.2.2) else .leaf o
        | _ => .leaf o).Has o → COk P (.block id a) e h o := by
      intro t ht ho
      rw [Tree.has_bind] at ho
      obtain ⟨x, h1, h2⟩ := ho
      have k := (ht x h1).block (id := id)
      have : o = (exBlock id x.1, x.2) := by
        obtain ⟨x1, x2⟩ := x
        cases x1 with
        | normal => simp only [Tree.Has] at h2; subst h2; rfl
        | exit i =>
          simp only at h2
          split at h2
          · rename_i hi; simp only [Tree.Has] at h2; subst h2; simp [exBlock, hi]
          · rename_i hi; simp only [Tree.Has] at h2; subst h2; simp [exBlock, hi]
        | ret => simp only [Tree.Has] at h2; subst h2; rfl
      rw [this]
      exact k
    cases a with
    | loop a =>
      simp only [codeU] at ho
      split at ho
      · exact cutU_ok (fun e h o ho => codeU_ok hm hN hC C fuel a e h o ho) ho
      · exact gen (fun o ho => loopU_ok (fun e h o ho => codeU_ok hm hN hC C fuel a e h o ho) ho) ho
    | skip => exact gen (fun o ho => codeU_ok hm hN hC C fuel _ e h o ho) ho
    | region id' ops draw => exact gen (fun o ho => codeU_ok hm hN hC C fuel _ e h o ho) ho
    | seq a b => exact gen (fun o ho => codeU_ok hm hN hC C fuel _ e h o ho) ho
    | cond c a b => exact gen (fun o ho => codeU_ok hm hN hC C fuel _ e h o ho) ho
    | block id' a => exact gen (fun o ho => codeU_ok hm hN hC C fuel _ e h o ho) ho
    | rangeFunc f ps a b => exact gen (fun o ho => codeU_ok hm hN hC C fuel _ e h o ho) ho
    | exit id' => exact gen (fun o ho => codeU_ok hm hN hC C fuel _ e h o ho) ho
    | scope b => exact gen (fun o ho => codeU_ok hm hN hC C fuel _ e h o ho) ho
    | label l => exact gen (fun o ho => codeU_ok hm hN hC C fuel _ e h o ho) ho
    | goto l => exact gen (fun o ho => codeU_ok hm hN hC C fuel _ e h o ho) ho
    | ret => exact gen (fun o ho => codeU_ok hm hN hC C fuel _ e h o ho) ho
    | refuse w => exact gen (fun o ho => codeU_ok hm hN hC C fuel _ e h o ho) ho
  | .loop a, e, h, o, ho => by
    simp only [codeU] at ho
    exact loopU_ok (fun e h o ho => codeU_ok hm hN hC C fuel a e h o ho) ho
  | .region id ops draw, e, h, o, ho => by
    simp only [codeU] at ho
    split at ho
    · exact joinU_ok (fun e h o ho => region_ok hm hN hC ho) ho
    · exact region_ok hm hN hC ho
  | .rangeFunc f ps a b, e, h, o, ho => by simp only [codeU] at ho; exact ho.elim
  | .scope b, e, h, o, ho => by simp only [codeU] at ho; exact ho.elim
  | .label l, e, h, o, ho => by simp only [codeU] at ho; exact ho.elim
  | .goto l, e, h, o, ho => by simp only [codeU] at ho; exact ho.elim
  | .refuse w, e, h, o, ho => by simp only [codeU] at ho; exact ho.elim

theorem resultsU_rel (hR : HRel s V h) (r : URels V e te) : ∀ (l : List ResultVar) (us : List UV), resultsU P h e l = some us → ∃ vs, resultsT P s te l = some vs ∧ URels V us vs
  | [], us, hu => by cases hu; exact ⟨[], rfl, .nil⟩
  | .tmp t :: l, us, hu => by
    simp only [resultsU] at hu
    split at hu
    · rename_i us' h1
      cases hu
      obtain ⟨vs, h2, h3⟩ := resultsU_rel hR r l us' h1
      exact ⟨te.at t :: vs, by simp only [resultsT, h2], .cons _ _ _ _ (r.at_ t) h3⟩
    · cases hu
  | .cell a t :: l, us, hu => by
    simp only [resultsU] at hu
    split at hu
    · rename_i u us' h0 h1
      cases hu
      obtain ⟨vs, h2, h3⟩ := resultsU_rel hR r l us' h1
      obtain ⟨v, h4, h5⟩ := load_rel hR (r.at_ a) h0
      have h6 : loadT P s t (te.at a) = some v := h5 s fun _ _ _ _ _ => rfl
      exact ⟨v :: vs, by simp only [resultsT, h2, h6], .cons _ _ _ _ h4 h3⟩
    · cases hu
end
end Go.Proofs.YthnhbejjikgifaaGreatDoor.TV

namespace Go.Proofs.YthnhbejjikgifaaGreatDoor.TV
open Go Go.RowKit
set_option linter.unusedSimpArgs false
set_option linter.unusedVariables false

def rowTs (s : St) (V : Val) (K : Nat) : List TV := match V.ids[K]? with
  | some o => (match s.objs.get o with
    | some (.cells ts _) => ts
    | _ => [])
  | none => []
def outUs (g : Sig) (vs : List UV) (h2 : UHeap) (m : List Nat) : List UV := vs ++ (g.rw.map fun p => cellAt h2 p.1 p.2.1) ++ (m.drop g.rows.length).flatMap (rowCs h2)
noncomputable def outTs (g : Sig) (rvs : List TV) (s2 : St) (V2 : Val) (m : List Nat) : List TV := rvs ++ (g.rw.map fun p => cellT s2 V2 p.1 p.2.1) ++ (m.drop g.rows.length).flatMap (rowTs s2 V2)
def tupT (vs : List TV) : TV := match vs with
  | [v] => v
  | vs => .tup vs
/-- What a function has answered. -/
structure Answer (g : Sig) (r : dens g.outP) (s : St) (V : Val) (h : UHeap) (s2 : St) (v : TV) (V2 : Val) (h2 : UHeap) (vs : List UV) (rvs : List TV) (m : List Nat) (tips2 : List (Option Tip)) : Prop where
  rel : HRel s2 V2 h2
  step : Step s V h s2 V2 h2
  outs : URels V2 vs rvs
  len : vs.length = g.outs.length
  val : v = tupT rvs
  pre : List.range g.rows.length <+: m
  mlen : m.length = g.rows.length + g.news.length
  nodup : m.Nodup
  news : ∀ (i K : Nat) (n : List PC × TypeId), (m.drop g.rows.length)[i]? = some K → g.news[i]? = some n → rowTy h2 K = some n.2 ∧ (rowCs h2 K).length = n.1.length
  ex : exL m h2.tips g.outP (outUs g vs h2 m) = some (r, tips2)
def FnOk (P : Program) (f : FuncId) (g : Sig) (F : dens g.inP → Option (dens g.outP)) : Prop :=
  ∀ d r, F d = some r → ∀ s V tvs, HRel s V (g.start d).2 → URels V (g.start d).1 tvs → ∃ s2 v V2 h2 vs rvs m tips2, Sim P f tvs s v s2 ∧ Answer g r s V (g.start d).2 s2 v V2 h2 vs rvs m tips2

section
variable {P : Program} {s s' s2 : St} {V V' V1 V2 V3 : Val} {h h' h1 h2 : UHeap} {e e2 : UEnv} {te te2 : Env}

theorem findRows_ok {vals : List UV} : ∀ {ps : List Path} {m0 m : List Nat}, findRows vals h ps m0 = some m → m0 <+: m ∧ m.length = m0.length + ps.length ∧ (m0.Nodup → m.Nodup)
  | [], m0, m, hm => by cases hm; exact ⟨List.prefix_rfl, rfl, fun h => h⟩
  | p :: ps, m0, m, hm => by
    simp only [findRows] at hm
    split at hm
    · rename_i K hK
      split at hm
      · cases hm
      · rename_i hc
        obtain ⟨h1, h2, h3⟩ := findRows_ok hm
        refine ⟨(List.prefix_append _ _).trans h1, by rw [h2]; simp; omega, fun hn => h3 ?_⟩
        rw [List.nodup_append]
        refine ⟨hn, by simp, fun a ha b hb => ?_⟩
        simp at hb
        subst hb
        intro e
        subst e
        exact hc (List.contains_iff_mem.2 ha)
    · cases hm
theorem resultT_of {l : List ResultVar} {te : Env} {vs : List TV} (h1 : resultsT P s te l = some vs) : resultT P s te l = some (tupT vs) := by
  unfold resultT tupT
  rw [h1]
  match vs with
  | [] => rfl
  | [v] => rfl
  | a :: b :: l => rfl
theorem fn_ok (hm : P.follows .mixedOrders = true) (hN : Named P) {call : CallU} (hC : CallOkU P call) {C : Cuts} {fuel : Nat} {g : Sig} {f : FuncId} {fn : Func} {c : Code} (hf : P.funcs[f]? = some fn) (hb : fn.body = some c) : FnOk P f g (fnU P call C fuel g fn c) := by
  intro d r hr s V tvs hR hv
  unfold fnU at hr
  simp only [forceE_eq, forceH_eq] at hr
  rw [Tree.run_has] at hr
  obtain ⟨o, h1, h2⟩ := hr
  have hlen := hv.length
  have henv : URels V ((g.start d).1 ++ List.replicate (fn.ntmps - (g.start d).1.length) undefU) (tvs ++ List.replicate (fn.ntmps - tvs.length) undefT) := by
    rw [hlen]
    exact hv.append (URels.replicate _ (.tup [] [] .nil))
  obtain ⟨s2, V2, te2, k1, k2, k3, k4, k5, k6, _⟩ := codeU_ok hm hN hC C fuel c _ _ o h1 s V _ hR henv
  have main : ∀ {x : Ex}, o.1 = x → (∀ id, x ≠ .exit id) → (match resultsU P o.2.2 o.2.1 fn.results.toList with
      | some vs => if vs.length = g.outs.length ∧ g.newFrom.length = g.news.length then
          (match findRows (vs ++ g.rw.map fun p => cellAt o.2.2 p.1 p.2.1) o.2.2 g.newFrom (List.range g.rows.length) with
          | some m => if (m.drop g.rows.length).zip g.news |>.all fun p => rowTy o.2.2 p.1 == some p.2.2 && (rowCs o.2.2 p.1).length == p.2.1.length then
              (exL m o.2.2.tips g.outP (vs ++ (g.rw.map fun p => cellAt o.2.2 p.1 p.2.1) ++ (m.drop g.rows.length).flatMap (rowCs o.2.2))).map (·.1) else none
          | none => none) else none
      | none => none) = some r → ∃ s2 v V2 h2 vs rvs m tips2, Sim P f tvs s v s2 ∧ Answer g r s V (g.start d).2 s2 v V2 h2 vs rvs m tips2 := by
    intro x hx hne h2
    split at h2
    · rename_i vs hvs
      split at h2
      · rename_i hl
        obtain ⟨hl, hnl⟩ := hl
        split at h2
        · rename_i m hm'
          split at h2
          · rename_i hall
            obtain ⟨⟨r', tips2⟩, h3, h4⟩ := Option.map_eq_some_iff.1 h2
            cases h4
            obtain ⟨rvs, q1, q2⟩ := resultsU_rel k2 k3 _ vs hvs
            obtain ⟨q3, q4, q5⟩ := findRows_ok hm'
            refine ⟨s2, tupT rvs, V2, o.2.2, vs, rvs, m, tips2, ?_, ⟨k2, k4, q2, hl, rfl, q3, by rw [q4]; simp [hnl], q5 List.nodup_range, fun i K n h5 h6 => ?_, h3⟩⟩
            · refine (Does.body hf hb (Q := fun v t => v = tupT rvs ∧ t = s2) ⟨o.1, te2, s2, k1, ?_⟩).sim
              cases hx1 : o.1 with
              | exit id => exact absurd (hx.symm.trans hx1) (hne id)
              | normal => exact ⟨_, resultT_of q1, rfl, rfl⟩
              | ret => exact ⟨_, resultT_of q1, rfl, rfl⟩
            · rw [List.all_eq_true] at hall
              have hz : ((m.drop g.rows.length).zip g.news)[i]? = some (K, n) := by rw [List.getElem?_zip_eq_some]; exact ⟨h5, h6⟩
              have := hall (K, n) (List.mem_of_getElem? hz)
              simpa using this
          · cases h2
        · cases h2
      · cases h2
    · cases h2
  split at h2
  · cases h2
  · rename_i hx
    exact main rfl (fun id hid => hx id hid) h2

theorem rowCs_rel (hR : HRel s V h) (K : Nat) : URels V (rowCs h K) (rowTs s V K) := by
  unfold rowCs rowTs
  cases hr : h.objs[K]? with
  | none =>
    have : V.ids[K]? = none := by rw [List.getElem?_eq_none_iff, hR.len]; exact List.getElem?_eq_none_iff.1 hr
    rw [this]
    exact .nil
  | some r =>
    have hlt : K < V.ids.length := by rw [hR.len]; exact (List.getElem?_eq_some_iff.1 hr).1
    have hk : V.ids[K]? = some V.ids[K] := List.getElem?_eq_getElem hlt
    obtain ⟨ts, h1, h2⟩ := hR.obj K _ r hk hr
    rw [hk]
    simp only
    rw [h1]
    exact h2
theorem rows_rel : ∀ {rows : List (List RC × TypeId)} {us : List UV} {tss : List (List TV)}, URels V us tss.flatten → tss.length = rows.length → (∀ (k : Nat) (ts : List TV) (rc : List RC × TypeId), tss[k]? = some ts → rows[k]? = some rc → ts.length = rc.1.length) →
    (rowsOf rows us).length = rows.length ∧ ∀ (k : Nat) (r : Row), (rowsOf rows us)[k]? = some r → ∃ ts rc, tss[k]? = some ts ∧ rows[k]? = some rc ∧ r.ty = rc.2 ∧ r.fz = rc.1.map RC.frozen ∧ URels V r.cs ts
  | [], us, tss, _, _, _ => ⟨rfl, fun k r hr => by simp [rowsOf] at hr⟩
  | rc :: rows, us, [], _, h, _ => by simp at h
  | rc :: rows, us, ts :: tss, hu, hl, hk => by
    have h0 := hk 0 ts rc rfl rfl
    simp only [List.flatten_cons] at hu
    have h1 := hu.take rc.1.length
    have h2 := hu.drop rc.1.length
    rw [← h0, List.take_left] at h1
    rw [← h0, List.drop_left] at h2
    obtain ⟨h3, h4⟩ := rows_rel (rows := rows) (tss := tss) h2 (by simpa using hl) (fun k ts' rc' e1 e2 => hk (k + 1) ts' rc' (by simpa using e1) (by simpa using e2))
    refine ⟨by simp only [rowsOf, List.length_cons]; rw [← h0, h3], fun k r hr => ?_⟩
    simp only [rowsOf] at hr
    cases k with
    | zero =>
      simp at hr
      subst hr
      exact ⟨ts, rc, rfl, rfl, rfl, rfl, by rw [← h0]; exact h1⟩
    | succ k =>
      simp only [List.getElem?_cons_succ] at hr
      rw [← h0] at hr
      obtain ⟨ts', rc', e1, e2, e3⟩ := h4 k r hr
      exact ⟨ts', rc', by simpa using e1, by simpa using e2, e3⟩
theorem rwGo_off {k : Nat} : ∀ {l : List RC} {off0 i : Nat} {rc : RC}, l[i]? = some rc → Off (rwGo k off0 l) k (off0 + i) → rc.frozen = true
  | [], off0, i, rc, hi, _ => by simp at hi
  | x :: l, off0, 0, rc, hi, ho => by
    simp at hi
    subst hi
    cases x with
    | rw p q => exact absurd ⟨rfl, rfl⟩ (ho (k, off0, q) (by simp [rwGo]))
    | ign => rfl
    | ro p => rfl
  | x :: l, off0, i + 1, rc, hi, ho => by
    refine rwGo_off (k := k) (l := l) (off0 := off0 + 1) (i := i) (by simpa using hi) fun p hp => ?_
    rw [show off0 + 1 + i = off0 + (i + 1) by omega]
    refine ho p ?_
    cases x <;> simp only [rwGo] <;> first | exact List.mem_cons_of_mem _ hp | exact hp
theorem rwGo_mem {k : Nat} : ∀ {l : List RC} {off0 : Nat} {p : Nat × Nat × PC}, p ∈ rwGo k off0 l → p.1 = k
  | [], off0, p, h => by cases h
  | x :: l, off0, p, h => by
    cases x with
    | rw a q =>
      simp only [rwGo] at h
      rcases List.mem_cons.1 h with rfl | h
      · rfl
      · exact rwGo_mem h
    | ign => exact rwGo_mem (by simpa [rwGo] using h)
    | ro a => exact rwGo_mem (by simpa [rwGo] using h)
theorem rwRows_off : ∀ {rows : List (List RC × TypeId)} {k0 k i : Nat} {r : List RC × TypeId} {rc : RC}, rows[k]? = some r → r.1[i]? = some rc → Off (rwRows k0 rows) (k0 + k) i → rc.frozen = true
  | [], k0, k, i, r, rc, hk, _, _ => by simp at hk
  | x :: rows, k0, 0, i, r, rc, hk, hi, ho => by
    simp at hk
    subst hk
    refine rwGo_off (k := k0) (off0 := 0) hi fun p hp => ?_
    rw [Nat.zero_add]
    exact ho p (by simp only [rwRows]; exact List.mem_append_left _ hp)
  | x :: rows, k0, k + 1, i, r, rc, hk, hi, ho => by
    refine rwRows_off (rows := rows) (k0 := k0 + 1) (k := k) (by simpa using hk) hi fun p hp => ?_
    rw [show k0 + 1 + k = k0 + (k + 1) by omega]
    exact ho p (by simp only [rwRows]; exact List.mem_append_right _ hp)
theorem rwRows_mem : ∀ {rows : List (List RC × TypeId)} {k0 : Nat} {p : Nat × Nat × PC}, p ∈ rwRows k0 rows → k0 ≤ p.1 ∧ p.1 < k0 + rows.length
  | [], k0, p, h => by cases h
  | x :: rows, k0, p, h => by
    simp only [rwRows] at h
    rcases List.mem_append.1 h with h | h
    · have := rwGo_mem h
      simp; omega
    · obtain ⟨h1, h2⟩ := rwRows_mem h
      simp; omega
end
end Go.Proofs.YthnhbejjikgifaaGreatDoor.TV

namespace Go.Proofs.YthnhbejjikgifaaGreatDoor.TV
open Go Go.RowKit
set_option linter.unusedSimpArgs false
set_option linter.unusedVariables false

section
variable {P : Program} {s s' s2 : St} {V V' V1 V2 V3 : Val} {h h' h1 h2 : UHeap} {e e2 : UEnv} {te te2 : Env}

theorem rowTs_length (hR : HRel s V h) (K : Nat) : (rowTs s V K).length = (rowCs h K).length := ((rowCs_rel hR K).length).symm
theorem urels_flat {l : List Nat} (hR : HRel s V h) : URels V (l.flatMap (rowCs h)) (l.flatMap (rowTs s V)) := by
  induction l with
  | nil => exact .nil
  | cons K l ih => simp only [List.flatMap_cons]; exact (rowCs_rel hR K).append ih
theorem flat_map (l : List Nat) (f : Nat → List TV) : l.flatMap f = (l.map f).flatten := by rw [List.flatMap_def]
theorem rowTy_get {K : Nat} {t : TypeId} (h0 : rowTy h K = some t) : ∃ r, h.objs[K]? = some r ∧ r.ty = t := by
  unfold rowTy at h0
  exact Option.map_eq_some_iff.1 h0
theorem rowCs_of {K : Nat} {r : Row} (h0 : h.objs[K]? = some r) : rowCs h K = r.cs := by simp [rowCs, h0]
theorem rowTs_of (hR : HRel s V h) {K o : Nat} {ts : List TV} {t : TypeId} (hk : V.ids[K]? = some o) (hg : s.objs.get o = some (.cells ts t)) : rowTs s V K = ts := by simp [rowTs, hk, hg]
theorem cellT_of {K o off : Nat} {ts : List TV} {t : TypeId} {x : TV} (hk : V.ids[K]? = some o) (hg : s.objs.get o = some (.cells ts t)) (hx : ts[off]? = some x) : cellT s V K off = x := by simp [cellT, hk, hg, List.getD_eq_getElem?_getD, hx]

theorem not_alive (hR : HRel s V h) {o : Nat} (ho : o ∈ V.ids) : ¬ Alive V h (.obj o) := fun ⟨j, k, e, h1, h2, h3, _⟩ => by
  exact hR.out j k o e h1 h2 h3 ho
theorem callOf_ok {f : FuncId} {g : Sig} {F : dens g.inP → Option (dens g.outP)} (hF : FnOk P f g F) {args : List UV} {u : UV × UHeap × List Nat} (hu : (callOf g F args h).Has u) {targs : List TV} (hR : HRel s V h) (hv : URels V args targs) :
    ∃ s' V' v, Sim P f targs s v s' ∧ URel V' u.1 v ∧ Eff s V h u.2.2 s' V' u.2.1 := by
  unfold callOf at hu
  split at hu
  · exact hu.elim
  · rename_i m hm
    split at hu
    · rename_i hc
      simp only [Bool.and_eq_true, decide_eq_true_eq, beq_iff_eq, List.all_eq_true] at hc
      obtain ⟨⟨⟨hal, hml⟩, hty⟩, hfree⟩ := hc
      split at hu
      · exact hu.elim
      · rename_i d tips hx
        obtain ⟨r, hr, hu⟩ := hu
        simp only [Tree.Has] at hu
        obtain ⟨_, _, hnd⟩ := findRows_ok hm
        have hnd := hnd List.nodup_nil
        have rowK : ∀ (k K : Nat) (rc : List RC × TypeId), m[k]? = some K → g.rows[k]? = some rc → ∃ r0 o ts, h.objs[K]? = some r0 ∧ r0.ty = rc.2 ∧ r0.cs.length = rc.1.length ∧ V.ids[K]? = some o ∧ s.objs.get o = some (.cells ts r0.ty) ∧ URels V r0.cs ts ∧ rowTs s V K = ts := by
          intro k K rc hk hrc
          have hz : (m.zip g.rows)[k]? = some (K, rc) := by rw [List.getElem?_zip_eq_some]; exact ⟨hk, hrc⟩
          have := hty (K, rc) (List.mem_of_getElem? hz)
          simp only at this
          obtain ⟨r0, h1, h2⟩ := rowTy_get this.1
          have hlt : K < V.ids.length := by rw [hR.len]; exact (List.getElem?_eq_some_iff.1 h1).1
          have ho : V.ids[K]? = some V.ids[K] := List.getElem?_eq_getElem hlt
          obtain ⟨ts, h3, h4⟩ := hR.obj K _ r0 ho h1
          exact ⟨r0, _, ts, h1, h2, by rw [← this.2, rowCs_of h1], ho, h3, h4, rowTs_of hR ho h3⟩
        -- what is handed over
        have hl := exL_less hx
        have hin : URels V (args ++ m.flatMap (rowCs h)) (targs ++ m.flatMap (rowTs s V)) := hv.append (urels_flat hR)
        obtain ⟨tk1, tk2⟩ := exL_toks (V := V) hR.tips hR.tinj hx hin
        generalize hV1 : (⟨m.map (fun K => V.ids.getD K 0), tksOf g.inP (targs ++ m.flatMap (rowTs s V))⟩ : Val) = V1
        have hid1 : ∀ (k K : Nat), m[k]? = some K → ∃ o, V.ids[K]? = some o ∧ V1.ids[k]? = some o := fun k K hk => by
          have hlt : k < g.rows.length := by rw [← hml]; exact (List.getElem?_eq_some_iff.1 hk).1
          obtain ⟨r0, o, ts, _, _, _, ho, _⟩ := rowK k K _ hk (List.getElem?_eq_getElem hlt)
          refine ⟨o, ho, ?_⟩
          subst hV1
          simp only
          rw [List.getElem?_map, hk, Option.map_some, List.getD_eq_getElem?_getD, ho]
          rfl
        have hl1 : V1.ids.length = g.rows.length := by subst hV1; simp [hml]
        have hid1' : ∀ (k o : Nat), V1.ids[k]? = some o → ∃ K, m[k]? = some K ∧ V.ids[K]? = some o := fun k o hk => by
          have hlt : k < m.length := by rw [hml, ← hl1]; exact (List.getElem?_eq_some_iff.1 hk).1
          obtain ⟨o', h3, h4⟩ := hid1 k _ (List.getElem?_eq_getElem hlt)
          rw [hk] at h4
          cases h4
          exact ⟨_, List.getElem?_eq_getElem hlt, h3⟩
        have sub1 : ∀ o ∈ V1.ids, o ∈ V.ids := fun o ho => by
          obtain ⟨k, hk⟩ := List.mem_iff_getElem?.1 ho
          obtain ⟨K, _, h4⟩ := hid1' k o hk
          exact List.mem_of_getElem? h4
        have hus : URels V1 (injL (List.range g.rows.length) 0 g.inP d) (targs ++ m.flatMap (rowTs s V)) := by
          refine exL_rel (m' := List.range g.rows.length) (fun k K o h3 h4 => ?_) hR.tips hx hin fun i t hi => ?_
          · obtain ⟨o', h5, h6⟩ := hid1 k K h3
            rw [h4] at h5
            cases h5
            have hlt : k < g.rows.length := by rw [← hml]; exact (List.getElem?_eq_some_iff.1 h3).1
            rw [List.getD_eq_getElem?_getD, List.getElem?_range hlt]
            exact h6
          · subst hV1
            simpa using hi
        have hargs : URels V1 (g.start d).1 targs := by
          have := hus.take g.ins.length
          rw [← hal, hv.length, List.take_left] at this
          simp only [Sig.start]
          rw [← hal, hv.length]
          exact this
        have hrowsU : URels V1 ((injL (List.range g.rows.length) 0 g.inP d).drop g.ins.length) (m.map (rowTs s V)).flatten := by
          have := hus.drop g.ins.length
          rw [← hal, hv.length, List.drop_left] at this
          rw [← hal, hv.length, ← flat_map]
          exact this
        obtain ⟨rl1, rl2⟩ := rows_rel (rows := g.rows) hrowsU (by simp [hml]) (fun k ts rc h3 h4 => by
          rw [List.getElem?_map] at h3
          obtain ⟨K, h5, h6⟩ := Option.map_eq_some_iff.1 h3
          obtain ⟨r0, o, ts', _, _, h7, _, _, h8, h9⟩ := rowK k K rc h5 h4
          rw [← h6, h9, ← h8.length, h7])
        have tl : (tksOf g.inP (targs ++ m.flatMap (rowTs s V))).length = (toksL g.inP d).length := tksOf_length d (by rw [← hin.length, exL_length hx])
        have hR1 : HRel s V1 (g.start d).2 := by
          refine ⟨?_, ?_, fun o ho => hR.lt o (sub1 o ho), fun k o r1 hk h3 => ?_, ?_, fun j k e0 h3 h4 => ?_, fun j j' i k k' e0 e1 h3 h4 h5 h6 h7 h8 => ?_, fun j k o e0 h3 h3' h4 ho => ?_⟩
          · simp only [Sig.start]; rw [rl1, hl1]
          · rw [List.nodup_iff_pairwise_ne]
            rw [List.pairwise_iff_getElem]
            intro i j hi hj hij he
            obtain ⟨K, h3, h4⟩ := hid1' i _ (List.getElem?_eq_getElem hi)
            obtain ⟨K', h5, h6⟩ := hid1' j _ (List.getElem?_eq_getElem hj)
            rw [he] at h4
            have := ids_inj hR h4 h6
            subst this
            have := nodup_inj hnd h3 h5
            omega
          · simp only [Sig.start] at h3
            obtain ⟨ts, rc, h4, h5, h6, _, h7⟩ := rl2 k r1 h3
            rw [List.getElem?_map] at h4
            obtain ⟨K, h8, h9⟩ := Option.map_eq_some_iff.1 h4
            obtain ⟨K', h10, h11⟩ := hid1' k o hk
            rw [h8] at h10
            cases h10
            obtain ⟨r0, o', ts', _, q2, _, q4, q5, _, q7⟩ := rowK k K rc h8 h5
            rw [h11] at q4
            cases q4
            exact ⟨ts, by rw [← h9, q7, h6, ← q2]; exact q5, h7⟩
          · subst hV1; simp only [Sig.start]; exact tl
          · subst hV1
            simp only [Sig.start] at h3 h4
            obtain ⟨e1, q1, q2⟩ := tk1 j k h3
            rw [h4] at q1
            cases q1
            cases hid : k.id with
            | none => exact q2.2.2 hid s
            | some a =>
              obtain ⟨j1, q3, q4, _⟩ := q2.2.1 a hid
              exact hR.tips j1 k _ q3 q4
          · subst hV1
            exact tk2 j j' k k' i h3 h4 h5 h6
          · have hoV := sub1 o ho
            subst hV1
            obtain ⟨e1, q1, q2⟩ := tk1 j _ h3
            obtain ⟨j1, q3, q4, _⟩ := q2.2.1 (.obj o) h3'
            exact hR.out j1 k o e1 q3 h3' q4 hoV
        obtain ⟨s2, v, V2, h2, vs, rvs, m2, tips2, hsim, A⟩ := hF d r hr s V1 targs hR1 hargs
        -- what comes back
        have hl2 : V2.ids.length = h2.objs.length := A.rel.len
        have hout : URels V2 (outUs g vs h2 m2) (outTs g rvs s2 V2 m2) := (A.outs.append (URels.map fun p _ => cellAt_rel A.rel _ _)).append (urels_flat A.rel)
        have pre2 : ∀ k, k < g.rows.length → m2[k]? = some k := fun k hk => prefix_get A.pre (List.getElem?_range hk)
        generalize hnew : (m2.drop g.rows.length).map (fun K => V2.ids.getD K 0) = newids
        have hnewlen : newids.length = g.news.length := by subst hnew; simp [A.mlen]
        have newK : ∀ (i : Nat), i < g.news.length → ∃ K r0 o ts n, m2[g.rows.length + i]? = some K ∧ h2.objs[K]? = some r0 ∧ g.news[i]? = some n ∧ r0.ty = n.2 ∧ r0.cs.length = n.1.length ∧ V2.ids[K]? = some o ∧ newids[i]? = some o ∧ s2.objs.get o = some (.cells ts r0.ty) ∧ URels V2 r0.cs ts ∧ rowTs s2 V2 K = ts ∧ s.n ≤ o := by
          intro i hi
          have hlt : g.rows.length + i < m2.length := by rw [A.mlen]; omega
          have hK : m2[g.rows.length + i]? = some m2[g.rows.length + i] := List.getElem?_eq_getElem hlt
          have hd : (m2.drop g.rows.length)[i]? = some m2[g.rows.length + i] := by rw [List.getElem?_drop]; exact hK
          obtain ⟨h3, h4⟩ := A.news i _ _ hd (List.getElem?_eq_getElem hi)
          obtain ⟨r0, h5, h6⟩ := rowTy_get h3
          have hltK : m2[g.rows.length + i] < V2.ids.length := by rw [hl2]; exact (List.getElem?_eq_some_iff.1 h5).1
          have ho : V2.ids[m2[g.rows.length + i]]? = some V2.ids[m2[g.rows.length + i]] := List.getElem?_eq_getElem hltK
          obtain ⟨ts, h7, h8⟩ := A.rel.obj _ _ r0 ho h5
          have hge : s.n ≤ V2.ids[m2[g.rows.length + i]] := by
            rcases A.step.new _ (List.mem_of_getElem? ho) with h9 | h9
            · obtain ⟨k, hk⟩ := List.mem_iff_getElem?.1 h9
              have h10 := prefix_get A.step.ids hk
              have := ids_inj A.rel ho h10
              have hk' : k < g.rows.length := by rw [← hl1]; exact (List.getElem?_eq_some_iff.1 hk).1
              have := nodup_inj A.nodup (i := g.rows.length + i) (j := k) (a := k) (by rw [hK, this]) (pre2 k hk')
              omega
            · exact h9
          refine ⟨_, r0, _, ts, _, hK, h5, List.getElem?_eq_getElem hi, h6, by rw [← h4, rowCs_of h5], ho, ?_, h7, h8, rowTs_of A.rel ho h7, hge⟩
          subst hnew
          rw [List.getElem?_map, hd, Option.map_some, List.getD_eq_getElem?_getD, ho]
          rfl
        generalize hV3 : (⟨V.ids ++ newids, V.tks ++ tksOf g.outP (outTs g rvs s2 V2 m2)⟩ : Val) = V3
        have hle : V.le V3 := by subst hV3; exact ⟨List.prefix_append _ _, List.prefix_append _ _⟩
        have alive1 : ∀ i, Alive V1 (g.start d).2 i → Alive V h i ∧ ¬ Held V ⟨h.objs, tips⟩ i := fun i hi => by
          obtain ⟨j, n, e0, h3, hid, h4, hlv⟩ := hi
          subst hV1
          obtain ⟨e1, k4, k8⟩ := tk1 j n h3
          obtain ⟨j1, k5, k6, k7⟩ := k8.2.1 i hid
          refine ⟨⟨j1, n, e1, k5, hid, k6, k8.1⟩, fun hh => ?_⟩
          obtain ⟨j2, n2, e2, h6, hid2, h7⟩ := hh
          obtain ⟨e3, h8, _⟩ := hl.2 _ _ h7
          have := hR.tinj j1 j2 i n n2 e1 e3 k5 h6 hid hid2 k6 h8
          subst this
          exact k7 _ h7
        have T := tips_back hR hl sub1 alive1 A.step A.rel A.ex hout (V.ids ++ newids) fun o ho => by
          rcases List.mem_append.1 ho with ho | ho
          · exact .inl ho
          · obtain ⟨i, hi⟩ := List.mem_iff_getElem?.1 ho
            have hlt := (List.getElem?_eq_some_iff.1 hi).1
            obtain ⟨K, _, o', _, _, _, _, _, _, _, q6, q7, _⟩ := newK i (by omega)
            rw [hi] at q7
            cases q7
            exact .inr (List.mem_of_getElem? q6)
        rw [hV3] at T
        generalize hmm : m ++ (List.range g.news.length).map (h.objs.length + ·) = m' at hu
        have hus3 : URels V3 (injL m' tips.length g.outP r) (outTs g rvs s2 V2 m2) := by
          refine exL_rel (m' := m') (fun k K o h3 h4 => ?_) A.rel.tips A.ex hout fun i t hi => ?_
          · subst hV3 hmm
            simp only
            by_cases hk : k < g.rows.length
            · have h5 := pre2 k hk
              rw [h3] at h5
              cases h5
              have hk1 : k < V1.ids.length := by omega
              have h6 := prefix_get A.step.ids (List.getElem?_eq_getElem hk1)
              rw [h4] at h6
              obtain ⟨K', h7, h8⟩ := hid1' k o (by rw [List.getElem?_eq_getElem hk1, ← h6])
              have hidx : (m ++ (List.range g.news.length).map (h.objs.length + ·)).getD k 0 = K' := by
                rw [List.getD_eq_getElem?_getD, List.getElem?_append_left (l₁ := m) (by rw [hml]; exact hk), h7]
                rfl
              rw [hidx, List.getElem?_append_left (List.getElem?_eq_some_iff.1 h8).1]
              exact h8
            · have hlt := (List.getElem?_eq_some_iff.1 h3).1
              rw [A.mlen] at hlt
              obtain ⟨K', r0, o', ts, n, q1, _, _, _, _, q6, q7, _⟩ := newK (k - g.rows.length) (by omega)
              rw [show g.rows.length + (k - g.rows.length) = k by omega, h3] at q1
              cases q1
              rw [h4] at q6
              cases q6
              have hidx : (m ++ (List.range g.news.length).map (h.objs.length + ·)).getD k 0 = h.objs.length + (k - g.rows.length) := by
                rw [List.getD_eq_getElem?_getD, List.getElem?_append_right (l₁ := m) (by omega), hml, List.getElem?_map, List.getElem?_range (by omega)]
                rfl
              rw [hidx, List.getElem?_append_right (by rw [hR.len]; omega), hR.len, Nat.add_sub_cancel_left]
              exact q7
          · subst hV3
            simp only
            rw [hl.1, ← hR.tlen, List.getElem?_append_right (by omega), Nat.add_sub_cancel_left]
            exact hi
        have hul := injL_length m' g.outP tips.length r
        have hrvl : rvs.length = g.outs.length := by rw [← A.outs.length, A.len]
        have houtL : g.outP.length = g.outs.length + g.rw.length + (g.news.flatMap (·.1)).length := by unfold Sig.outP; rw [List.length_append, List.length_append, List.length_map]
        generalize hU : injL m' tips.length g.outP r = us at hu hus3 hul
        -- the cells that were changed
        have crel : ∀ (i : Nat) (p : Nat × Nat × PC) (x : UV), g.rw[i]? = some p → (us.drop g.outs.length)[i]? = some x → URel V3 x (cellT s2 V2 p.1 p.2.1) := fun i p x h3 h4 => by
          rw [List.getElem?_drop] at h4
          obtain ⟨y, h5, h6⟩ := hus3.get h4
          have hi := (List.getElem?_eq_some_iff.1 h3).1
          unfold outTs at h5
          rw [List.append_assoc, List.getElem?_append_right (by omega), hrvl, Nat.add_sub_cancel_left, List.getElem?_append_left (by simpa using hi), List.getElem?_map, h3] at h5
          simp at h5
          rw [h5]
          exact h6
        have nrel : URels V3 (us.drop (g.outs.length + g.rw.length)) (((m2.drop g.rows.length).map (rowTs s2 V2)).flatten) := by
          have h3 := hus3.drop (g.outs.length + g.rw.length)
          have h4 : (rvs ++ g.rw.map fun p => cellT s2 V2 p.1 p.2.1).length = g.outs.length + g.rw.length := by rw [List.length_append, hrvl, List.length_map]
          unfold outTs at h3
          rw [← flat_map]
          rw [← h4, List.drop_left] at h3
          rw [← h4]
          exact h3
        obtain ⟨nl1, nl2⟩ := rows_rel (rows := g.news.map fun r => (r.1.map fun p => RC.rw p p, r.2)) nrel (by simp [A.mlen]) (fun k ts rc h3 h4 => by
          rw [List.getElem?_map] at h3 h4
          obtain ⟨K, h5, h6⟩ := Option.map_eq_some_iff.1 h3
          obtain ⟨n, h7, h8⟩ := Option.map_eq_some_iff.1 h4
          obtain ⟨K', r0, o', ts', n', q1, q2, q3, q4, q5, q6, q7, q8, q9, q10, _⟩ := newK k (List.getElem?_eq_some_iff.1 h7).1
          rw [List.getElem?_drop] at h5
          rw [h5] at q1
          cases q1
          rw [h7] at q3
          cases q3
          rw [← h6, q10, ← h8, ← q9.length, q5]
          simp)
        have hcl : (us.drop g.outs.length).length = (us.drop g.outs.length).length := rfl
        have hidr : ∀ (k K o : Nat), m[k]? = some K → V.ids[K]? = some o → V2.ids[k]? = some o := fun k K o h3 h4 => by
          obtain ⟨o', h5, h6⟩ := hid1 k K h3
          rw [h4] at h5
          cases h5
          exact prefix_get A.step.ids h6
        -- a row that was handed over, behind it
        have back : ∀ (k K o : Nat) (rc : List RC × TypeId) (r0 : Row) (ts : List TV), m[k]? = some K → g.rows[k]? = some rc → V.ids[K]? = some o → h.objs[K]? = some r0 → s.objs.get o = some (.cells ts r0.ty) → ∃ ts2 : List TV, s2.objs.get o = some (.cells ts2 r0.ty) ∧ ts2.length = ts.length ∧ ∀ (off : Nat) (x : RC), rc.1[off]? = some x → x.frozen = true → ts2[off]? = ts[off]? := by
          intro k K o rc r0 ts hk hrc ho hr0 hg
          obtain ⟨r0', o', ts', q1, q2, q3, q4, q5, q6, q7⟩ := rowK k K rc hk hrc
          rw [hr0] at q1
          cases q1
          obtain ⟨o1, q8, q9⟩ := hid1 k K hk
          rw [ho] at q8
          cases q8
          have hlt : k < (rowsOf g.rows ((injL (List.range g.rows.length) 0 g.inP d).drop g.ins.length)).length := by rw [rl1]; exact (List.getElem?_eq_some_iff.1 hrc).1
          have q10 := List.getElem?_eq_getElem hlt
          obtain ⟨ts1, rc1, _, q11, q12, q13, _⟩ := rl2 k _ q10
          rw [hrc] at q11
          cases q11
          obtain ⟨ts2, q14, q15, q16⟩ := A.step.kept k o _ ts q9 (by simp only [Sig.start]; exact q10) (by rw [q12, ← q2]; exact hg)
          refine ⟨ts2, by rw [q2, ← q12]; exact q14, q15, fun off x hx hfz => q16 off ?_⟩
          rw [q13, List.getElem?_map, hx, Option.map_some, hfz]
        have away : ∀ (K o : Nat), K ∉ m → V.ids[K]? = some o → s2.objs.get o = s.objs.get o := fun K o hK ho => by
          refine A.step.frame o (hR.lt o (mem_ids hR ho)) (fun hm1 => ?_) fun ha => not_alive hR (mem_ids hR ho) (alive1 _ ha).1
          obtain ⟨k, hk⟩ := List.mem_iff_getElem?.1 hm1
          obtain ⟨K', h3, h4⟩ := hid1' k o hk
          have := ids_inj hR ho h4
          subst this
          exact hK (List.mem_of_getElem? h3)
        have uscl : ((us.drop g.outs.length).take g.rw.length).length = g.rw.length := by simp; omega
        have setTake : ∀ (ps : List (Nat × Nat × PC)) (xs : List UV) (objs : List Row), setCells ps xs objs = setCells ps (xs.take ps.length) objs := by
          intro ps
          induction ps with
          | nil => intro xs objs; cases xs <;> rfl
          | cons p ps ih => intro xs objs; cases xs with
            | nil => rfl
            | cons x xs => simp only [setCells, List.length_cons, List.take_succ_cons]; exact ih xs _
        have rows3 : ∀ (K : Nat) (r0 : Row), h.objs[K]? = some r0 → ∃ r3, (setCells (g.rw.map fun p => (m.getD p.1 0, p.2)) (us.drop g.outs.length) h.objs)[K]? = some r3 ∧ r3.ty = r0.ty ∧ r3.fz = r0.fz ∧ r3.cs.length = r0.cs.length ∧
            ∀ (off : Nat) (x : UV), r3.cs[off]? = some x → (r0.cs[off]? = some x ∧ Off (g.rw.map fun p => (m.getD p.1 0, p.2)) K off) ∨ ∃ (i : Nat) (p : Nat × Nat × PC), g.rw[i]? = some p ∧ (us.drop g.outs.length)[i]? = some x ∧ m.getD p.1 0 = K ∧ p.2.1 = off := by
          intro K r0 hr0
          rw [setTake]
          obtain ⟨r3, q1, q2, q3, q4, q5⟩ := setCells_get (g.rw.map fun p => (m.getD p.1 0, p.2)) ((us.drop g.outs.length).take (g.rw.map fun p => (m.getD p.1 0, p.2)).length) h.objs K r0 hr0 (by simp; omega)
          refine ⟨r3, q1, q2, q3, q4, fun off x hx => ?_⟩
          rcases q5 off x hx with q6 | ⟨i, p, q6, q7, q8, q9⟩
          · exact .inl q6
          · rw [List.getElem?_map] at q6
            obtain ⟨p', q10, q11⟩ := Option.map_eq_some_iff.1 q6
            subst q11
            have hi := (List.getElem?_eq_some_iff.1 q10).1
            rw [List.getElem?_take_of_lt (by simpa using hi)] at q7
            exact .inr ⟨i, p', q10, q7, q8, q9⟩
        have offm : ∀ (k K off : Nat), m[k]? = some K → Off (g.rw.map fun p => (m.getD p.1 0, p.2)) K off → Off g.rw k off := fun k K off hk ho p hp hpk => by
          refine ho (m.getD p.1 0, p.2) (List.mem_map.2 ⟨p, hp, rfl⟩) ⟨?_, hpk.2⟩
          simp only [hpk.1, List.getD_eq_getElem?_getD, hk]
          rfl
        have hRel3 : HRel s2 V3 u.2.1 := by
          subst hu
          refine ⟨?_, ?_, fun o ho => ?_, fun K o r3 hk h3 => ?_, T.len, T.tips, T.tinj, T.out⟩
          · subst hV3
            simp only [List.length_append]
            rw [setCells_length, nl1, hR.len, hnewlen, List.length_map]
          · subst hV3
            simp only
            rw [List.nodup_append]
            refine ⟨hR.nodup, ?_, fun a ha b hb => ?_⟩
            · rw [List.nodup_iff_pairwise_ne, List.pairwise_iff_getElem]
              intro i j hi hj hij he
              obtain ⟨K, _, o, _, _, q1, _, _, _, _, q6, q7, _⟩ := newK i (by omega)
              obtain ⟨K', _, o', _, _, p1, _, _, _, _, p6, p7, _⟩ := newK j (by omega)
              rw [List.getElem?_eq_getElem hi] at q7
              rw [List.getElem?_eq_getElem hj] at p7
              cases q7
              cases p7
              rw [he] at q6
              have := ids_inj A.rel q6 p6
              subst this
              have := nodup_inj A.nodup q1 p1
              omega
            · obtain ⟨i, hi⟩ := List.mem_iff_getElem?.1 hb
              have hlt := (List.getElem?_eq_some_iff.1 hi).1
              obtain ⟨K, _, o, _, _, _, _, _, _, _, _, q7, _, _, _, q11⟩ := newK i (by omega)
              rw [hi] at q7
              cases q7
              have := hR.lt a ha
              omega
          · subst hV3
            rcases List.mem_append.1 ho with ho | ho
            · exact Nat.lt_of_lt_of_le (hR.lt o ho) A.step.nle
            · obtain ⟨i, hi⟩ := List.mem_iff_getElem?.1 ho
              have hlt := (List.getElem?_eq_some_iff.1 hi).1
              obtain ⟨K, _, o', _, _, _, _, _, _, _, q6, q7, _⟩ := newK i (by omega)
              rw [hi] at q7
              cases q7
              exact A.rel.lt _ (List.mem_of_getElem? q6)
          · simp only at h3
            rcases split_get h3 with h3 | ⟨hge, h3⟩
            · rw [show V3.ids = V.ids ++ newids by subst hV3; rfl] at hk
              have hlt : K < h.objs.length := by rw [← setCells_length (g.rw.map fun p => (m.getD p.1 0, p.2)) (us.drop g.outs.length) h.objs]; exact (List.getElem?_eq_some_iff.1 h3).1
              rw [List.getElem?_append_left (by rw [hR.len]; exact hlt)] at hk
              obtain ⟨r0, hr0⟩ : ∃ r0, h.objs[K]? = some r0 := ⟨_, List.getElem?_eq_getElem hlt⟩
              obtain ⟨r3', q1, q2, q3, q4, q5⟩ := rows3 K r0 hr0
              rw [h3] at q1
              cases q1
              obtain ⟨ts, h4, h5⟩ := hR.obj K o r0 hk hr0
              by_cases hKm : K ∈ m
              · obtain ⟨k, hkm⟩ := List.mem_iff_getElem?.1 hKm
                have hkl : k < g.rows.length := by rw [← hml]; exact (List.getElem?_eq_some_iff.1 hkm).1
                have hrc := List.getElem?_eq_getElem hkl
                obtain ⟨ts2, b1, b2, b3⟩ := back k K o _ r0 ts hkm hrc hk hr0 h4
                obtain ⟨r0', _, _, w1, _, w3, _⟩ := rowK k K _ hkm hrc
                rw [hr0] at w1
                cases w1
                refine ⟨ts2, by rw [q2]; exact b1, URels.of_get (by rw [q4, b2, h5.length]) fun off x hx => ?_⟩
                rcases q5 off x hx with ⟨q6, q7⟩ | ⟨i, p, q6, q7, q8, q9⟩
                · obtain ⟨y, h6, h7⟩ := h5.get q6
                  have hoff : off < g.rows[k].1.length := by rw [← w3]; exact (List.getElem?_eq_some_iff.1 q6).1
                  have := rwRows_off (k0 := 0) hrc (List.getElem?_eq_getElem hoff) (by rw [Nat.zero_add]; exact offm k K off hkm q7)
                  exact ⟨y, by rw [b3 off _ (List.getElem?_eq_getElem hoff) this]; exact h6, h7.mono hle⟩
                · have h6 := crel i p x q6 q7
                  obtain ⟨_, hp2⟩ := rwRows_mem (List.mem_of_getElem? q6 : p ∈ rwRows 0 g.rows)
                  have hpk : p.1 = k := by
                    have hp3 : p.1 < m.length := by rw [hml]; omega
                    rw [List.getD_eq_getElem?_getD, List.getElem?_eq_getElem hp3] at q8
                    simp only [Option.getD_some] at q8
                    exact nodup_inj hnd (by rw [List.getElem?_eq_getElem hp3, q8]) hkm
                  have hoff : off < ts2.length := by rw [b2, ← h5.length, ← q4]; exact (List.getElem?_eq_some_iff.1 hx).1
                  refine ⟨ts2[off], List.getElem?_eq_getElem hoff, ?_⟩
                  have := cellT_of (V := V2) (s := s2) (hidr k K o hkm hk) b1 (List.getElem?_eq_getElem hoff)
                  rw [hpk, q9, this] at h6
                  exact h6
              · refine ⟨ts, by rw [away K o hKm hk, q2]; exact h4, URels.of_get (by rw [q4, h5.length]) fun off x hx => ?_⟩
                rcases q5 off x hx with ⟨q6, _⟩ | ⟨i, p, q6, q7, q8, _⟩
                · obtain ⟨y, h6, h7⟩ := h5.get q6
                  exact ⟨y, h6, h7.mono hle⟩
                · obtain ⟨_, hp2⟩ := rwRows_mem (List.mem_of_getElem? q6 : p ∈ rwRows 0 g.rows)
                  have hp3 : p.1 < m.length := by rw [hml]; omega
                  rw [List.getD_eq_getElem?_getD, List.getElem?_eq_getElem hp3] at q8
                  simp only [Option.getD_some] at q8
                  exact absurd (by rw [← q8]; exact List.getElem_mem hp3) hKm
            · rw [setCells_length] at hge h3
              rw [show V3.ids = V.ids ++ newids by subst hV3; rfl, List.getElem?_append_right (by rw [hR.len]; exact hge), hR.len] at hk
              obtain ⟨ts, rc, w1, w2, w3, _, w5⟩ := nl2 _ r3 h3
              have hlt : K - h.objs.length < g.news.length := by rw [← hnewlen]; exact (List.getElem?_eq_some_iff.1 hk).1
              obtain ⟨K2, r0, o', ts', n, q1, q2, q3, q4, q5, q6, q7, q8, q9, q10, _⟩ := newK _ hlt
              rw [hk] at q7
              cases q7
              rw [List.getElem?_map, List.getElem?_drop, q1, Option.map_some] at w1
              cases w1
              rw [List.getElem?_map, q3, Option.map_some] at w2
              cases w2
              exact ⟨_, by rw [q10, w3, ← q4]; exact q8, w5⟩
        have hstep : Step s V h s2 V3 u.2.1 := by
          refine ⟨hle.ids, fun o ho => ?_, A.step.nle, A.step.tle, fun o h3 h4 h5 => A.step.frame o h3 (fun h6 => h4 (sub1 o h6)) (fun ha => h5 (alive1 _ ha).1), T.tframe, fun i hi => T.alive i (by subst hu; exact hi), fun K r0 hr0 => ?_, fun K o r0 ts hk hr0 hg => ?_⟩
          · subst hV3
            rcases List.mem_append.1 ho with ho | ho
            · exact .inl ho
            · obtain ⟨i, hi⟩ := List.mem_iff_getElem?.1 ho
              have hlt := (List.getElem?_eq_some_iff.1 hi).1
              obtain ⟨K, _, o', _, _, _, _, _, _, _, _, q7, _, _, _, q11⟩ := newK i (by omega)
              rw [hi] at q7
              cases q7
              exact .inr q11
          · subst hu
            obtain ⟨r3, q1, q2, q3, q4, _⟩ := rows3 K r0 hr0
            exact ⟨r3, by simp only; rw [List.getElem?_append_left (List.getElem?_eq_some_iff.1 q1).1]; exact q1, q2, q3, q4⟩
          · by_cases hKm : K ∈ m
            · obtain ⟨k, hkm⟩ := List.mem_iff_getElem?.1 hKm
              have hkl : k < g.rows.length := by rw [← hml]; exact (List.getElem?_eq_some_iff.1 hkm).1
              have hrc := List.getElem?_eq_getElem hkl
              obtain ⟨ts2, b1, b2, b3⟩ := back k K o _ r0 ts hkm hrc hk hr0 hg
              refine ⟨ts2, b1, b2, fun off hfz => ?_⟩
              obtain ⟨r0', o', ts', w1, _, w3, w4, w5, w6, _⟩ := rowK k K _ hkm hrc
              rw [hr0] at w1
              cases w1
              rw [hk] at w4
              cases w4
              rw [hg] at w5
              cases w5
              by_cases hoff : off < g.rows[k].1.length
              · refine b3 off _ (List.getElem?_eq_getElem hoff) (rwRows_off (k0 := 0) hrc (List.getElem?_eq_getElem hoff) ?_)
                rw [Nat.zero_add]
                intro p hp hpk
                obtain ⟨r1, q1, _, q3⟩ := free_get hfree (List.mem_map.2 ⟨p, hp, rfl⟩)
                simp only [hpk.1, hpk.2, List.getD_eq_getElem?_getD, hkm, Option.getD_some] at q1 q3
                rw [hr0] at q1
                cases q1
                exact q3 hfz
              · rw [List.getElem?_eq_none (by rw [b2, ← w6.length, w3]; omega), List.getElem?_eq_none (by rw [← w6.length, w3]; omega)]
            · exact ⟨ts, by rw [away K o hKm hk]; exact hg, rfl, fun _ _ => rfl⟩
        refine ⟨s2, V3, v, hsim, ?_, hRel3, hstep, hle, fun K o hW hk => ?_⟩
        · subst hu
          simp only
          have htake : URels V3 (us.take g.outs.length) rvs := by
            have := hus3.take g.outs.length
            unfold outTs at this
            rw [List.append_assoc, ← hrvl, List.take_left] at this
            rw [← hrvl]
            exact this
          rw [A.val]
          split
          · rename_i h1
            rw [h1] at htake
            cases us with
            | nil => exact .junk _
            | cons x us =>
              simp at htake
              cases htake with
              | cons _ w _ _ q1 q2 => cases q2; exact q1
          · rename_i h1
            have : tupT rvs = .tup rvs := by
              match rvs, hrvl with
              | [], _ => rfl
              | [x], hh => simp at hh; omega
              | x :: y :: l, _ => rfl
            rw [this]
            exact .tup _ _ htake
        · subst hu
          simp only at hW
          by_cases hKm : K ∈ m
          · obtain ⟨k, hkm⟩ := List.mem_iff_getElem?.1 hKm
            have hkl : k < g.rows.length := by rw [← hml]; exact (List.getElem?_eq_some_iff.1 hkm).1
            have hrc := List.getElem?_eq_getElem hkl
            obtain ⟨r0, o', ts, w1, _, w3, w4, w5, w6, _⟩ := rowK k K _ hkm hrc
            rw [hk] at w4
            cases w4
            obtain ⟨ts2, b1, b2, b3⟩ := back k K o _ r0 ts hkm hrc hk w1 w5
            have : ts2 = ts := by
              apply List.ext_getElem?
              intro off
              by_cases hoff : off < g.rows[k].1.length
              · refine b3 off _ (List.getElem?_eq_getElem hoff) (rwRows_off (k0 := 0) hrc (List.getElem?_eq_getElem hoff) ?_)
                rw [Nat.zero_add]
                intro p hp hpk
                refine hW (List.mem_map.2 ⟨p, hp, ?_⟩)
                rw [hpk.1, List.getD_eq_getElem?_getD, hkm]
                rfl
              · rw [List.getElem?_eq_none (by rw [b2, ← w6.length, w3]; omega), List.getElem?_eq_none (by rw [← w6.length, w3]; omega)]
            rw [b1, this, w5]
          · exact away K o hKm hk
    · exact hu.elim
end
end Go.Proofs.YthnhbejjikgifaaGreatDoor.TV

/-
  DX: tables of calls; facts by which what is told is reckoned with.
-/
namespace Go.Proofs.YthnhbejjikgifaaGreatDoor.TV
open Go Go.RowKit
set_option linter.unusedSimpArgs false
set_option linter.unusedVariables false

abbrev Spec := List UV → UHeap → Tree (UV × UHeap × List Nat)
/-- The same, of a function of which nothing more is asked. -/
def SpecOk0 (P : Program) (f : FuncId) (sp : Spec) : Prop := ∀ args h r, (sp args h).Has r → ∀ s V targs, HRel s V h → URels V args targs → ∃ s' V' v, Sim P f targs s v s' ∧ URel V' r.1 v ∧ Eff s V h r.2.2 s' V' r.2.1
def SpecOk (P : Program) (f : FuncId) (sp : Spec) : Prop := ∀ args h r, (sp args h).Has r → ∀ s V targs, HRel s V h → URels V args targs → ∃ s' V' v, Sim P f targs s v s' ∧ URel V' r.1 v ∧ Eff s V h r.2.2 s' V' r.2.1 ∧ (quietF f = true → s' = s)
/-- The first of the table's entries that takes the call. -/
def tabU : List (FuncId × Spec) → CallU
  | [], _, _, _ => .fail
  | p :: l, f, args, h => if p.1 = f then (match p.2 args h with
    | .fail => tabU l f args h
    | t => t) else tabU l f args h
inductive TabOk (P : Program) : List (FuncId × Spec) → Prop where
  | nil : TabOk P []
  | cons {f : FuncId} {sp : Spec} {l : List (FuncId × Spec)} : SpecOk P f sp → TabOk P l → TabOk P ((f, sp) :: l)
section
variable {P : Program}
theorem SpecOk0.up {f : FuncId} {sp : Spec} (h : SpecOk0 P f sp) (hq : quietF f = false := by rfl) : SpecOk P f sp := fun args hp r hr s V targs hR hv => by
  obtain ⟨s', V', v, h1, h2, h3⟩ := h args hp r hr s V targs hR hv
  exact ⟨s', V', v, h1, h2, h3, fun h => by rw [hq] at h; cases h⟩
theorem tabU_ok {l : List (FuncId × Spec)} (h : TabOk P l) : CallOkU P (tabU l) := by
  induction h with
  | nil => exact fun f args h r hr => hr.elim
  | @cons f sp l hs _ ih =>
    intro f' args h r hr
    simp only [tabU] at hr
    split at hr
    · rename_i e
      subst e
      split at hr
      · exact ih _ args h r hr
      · exact hs args h r hr
    · exact ih f' args h r hr
theorem spec_ok {f : FuncId} {g : Sig} {F : dens g.inP → Option (dens g.outP)} (h : FnOk P f g F) (hq : quietF f = false := by rfl) : SpecOk P f (callOf g F) := SpecOk0.up (fun _ _ _ hr _ _ _ hR hv => callOf_ok h hr hR hv) hq
/-- A function that is gone through where it is called. -/
noncomputable def inlU (P : Program) (call : CallU) (C : Cuts) (fuel : Nat) (fn : Func) (c : Code) : Spec := fun args h =>
  (forceE (args ++ List.replicate (fn.ntmps - args.length) undefU) fun e => codeU P call C fuel c e h).bind fun o => match o.1 with
    | .exit _ => .fail
    | _ => match resultsU P o.2.2 o.2.1 fn.results.toList with
      | some vs => .leaf (match vs with
        | [v] => v
        | vs => .tup vs, o.2.2, List.range h.objs.length)
      | none => .fail
theorem inl_ok0 (hm : P.follows .mixedOrders = true) (hN : Named P) {call : CallU} (hC : CallOkU P call) {C : Cuts} {fuel : Nat} {f : FuncId} {fn : Func} {c : Code} (hf : P.funcs[f]? = some fn) (hb : fn.body = some c) : SpecOk0 P f (inlU P call C fuel fn c) := by
  intro args h r hr s V targs hR hv
  unfold inlU at hr
  simp only [forceE_eq] at hr
  rw [Tree.has_bind] at hr
  obtain ⟨o, h1, h2⟩ := hr
  have henv : URels V (args ++ List.replicate (fn.ntmps - args.length) undefU) (targs ++ List.replicate (fn.ntmps - targs.length) undefT) := by
    rw [hv.length]
    exact hv.append (URels.replicate _ (.tup [] [] .nil))
  obtain ⟨s2, V2, te2, k1, k2, k3, k4, k5, k6, k7⟩ := codeU_ok hm hN hC C fuel c _ _ o h1 s V _ hR henv
  have main : (∀ id, o.1 ≠ .exit id) → (match resultsU P o.2.2 o.2.1 fn.results.toList with
      | some vs => Tree.leaf (match vs with
        | [v] => v
        | vs => .tup vs, o.2.2, List.range h.objs.length)
      | none => Tree.fail).Has r → ∃ s' V' v, Sim P f targs s v s' ∧ URel V' r.1 v ∧ Eff s V h r.2.2 s' V' r.2.1 := by
    intro hne h2
    split at h2
    · rename_i vs hvs
      obtain ⟨rvs, q1, q2⟩ := resultsU_rel k2 k3 _ vs hvs
      simp only [Tree.Has] at h2
      subst h2
      refine ⟨s2, V2, tupT rvs, ?_, ?_, ⟨k2, k4, ⟨k4.ids, k7⟩, fun k o hk hk2 => ?_⟩⟩
      · refine (Does.body hf hb (Q := fun v t => v = tupT rvs ∧ t = s2) ⟨o.1, te2, s2, k1, ?_⟩).sim
        cases hx1 : o.1 with
        | exit id => exact absurd hx1 (hne id)
        | normal => exact ⟨_, resultT_of q1, rfl, rfl⟩
        | ret => exact ⟨_, resultT_of q1, rfl, rfl⟩
      · cases q2 with
        | nil => exact .tup _ _ .nil
        | cons _ _ _ _ a b => cases b with
          | nil => exact a
          | cons _ _ _ _ b c => exact .tup _ _ (.cons _ _ _ _ a (.cons _ _ _ _ b c))
      · exact absurd (List.mem_range.2 (by rw [← hR.len]; exact (List.getElem?_eq_some_iff.1 hk2).1)) hk
    · exact h2.elim
  split at h2
  · exact h2.elim
  · rename_i hx
    exact main (fun id hid => hx id hid) h2
theorem inl_ok (hm : P.follows .mixedOrders = true) (hN : Named P) {call : CallU} (hC : CallOkU P call) {C : Cuts} {fuel : Nat} {f : FuncId} {fn : Func} {c : Code} (hf : P.funcs[f]? = some fn) (hb : fn.body = some c) (hq : quietF f = false := by rfl) : SpecOk P f (inlU P call C fuel fn c) := (inl_ok0 hm hN hC hf hb).up hq
theorem FnOk.congr {f : FuncId} {g : Sig} {F G : dens g.inP → Option (dens g.outP)} (h : FnOk P f g F) (e : ∀ d, F d = G d) : FnOk P f g G := fun d r hr => h d r (by rw [e]; exact hr)
/-- A value that nothing lays open by reckoning. -/
noncomputable def stuck {β : Type} (x : Option β) : Option β := open Classical in if h : ∃ y, x = some y then some (Classical.choose h) else none
theorem stuck_eq {β : Type} (x : Option β) : stuck x = x := by
  unfold stuck
  cases x with
  | none => simp
  | some y =>
    have h : ∃ z, some y = some z := ⟨y, rfl⟩
    rw [dif_pos h]
    exact (Classical.choose_spec h).symm
/-- A function that calls itself: so many calls deep. -/
def recN {α β : Type} (F : (α → Option β) → α → Option β) : Nat → α → Option β
  | 0, _ => none
  | n + 1, d => F (recN F n) d
theorem FnOk.recN {f : FuncId} {g : Sig} {F : (dens g.inP → Option (dens g.outP)) → dens g.inP → Option (dens g.outP)} (h : ∀ G, FnOk P f g G → FnOk P f g (F G)) : ∀ n, FnOk P f g (TV.recN F n)
  | 0 => fun d r hr => by cases hr
  | n + 1 => h _ (FnOk.recN h n)
theorem FnOk.of {f : FuncId} {g : Sig} {F : Nat → dens g.inP → Option (dens g.outP)} (h : ∀ n, FnOk P f g (F n)) {G : dens g.inP → Option (dens g.outP)} (hG : ∀ d r, G d = some r → ∃ n, F n d = some r) : FnOk P f g G := fun d r hr => by
  obtain ⟨n, hn⟩ := hG d r hr
  exact h n d r hn
theorem cond_if {α : Type} {p : Prop} [Decidable p] {x y : α} : (bif decide p then x else y) = if p then x else y := by by_cases h : p <;> simp [h]
end
end Go.Proofs.YthnhbejjikgifaaGreatDoor.TV

/-
  What all proofs about this program's code lean on: slices of whole numbers, loads.
-/
namespace Go.Proofs.YthnhbejjikgifaaGreatDoor.TV
open Go Go.RowKit
set_option linter.unusedSimpArgs false
set_option linter.unusedVariables false
set_option maxRecDepth 100000

theorem follows : Tryz.prog.follows .mixedOrders = true := by kernel_rfl
theorem named : Named Tryz.prog := by
  have h : Tryz.prog.funcs.toList.all (fun fn => !(fn.name == "runtime.NumGoroutine")) = true := by kernel_rfl
  intro f fn hf
  have := List.all_eq_true.1 h fn (Array.mem_toList_iff.2 (Array.mem_of_getElem? hf))
  simpa using this
theorem ints_len_i {s : St} {b : Bool} {zs : List Int} {tok : Tok} : lenT Tryz.prog s 75 (intsV b zs tok) = some (.int .i64 zs.length) := ints_len Tryz.underlying75
theorem ints_at_i {b : Bool} {zs : List Int} {tok : Tok} {i : Nat} {z : Int} (h : zs[i]? = some z) : indexAddrT Tryz.prog 75 (intsV b zs tok) (.int .i64 i) = some (.eptr [.int .i64 z]) := ints_at Tryz.underlying75 (by kernel_rfl) h
theorem load_i {s : St} {x : TV} : loadT Tryz.prog s 3 (.eptr [x]) = some x := load1 Tryz.underlying3 (by kernel_rfl)

end Go.Proofs.YthnhbejjikgifaaGreatDoor.TV

/-
  OCTET: numbers and texts, printed.
-/
namespace Go.Proofs.YthnhbejjikgifaaGreatDoor.TV
open Go Go.RowKit
set_option linter.unusedVariables false
set_option maxRecDepth 1000000
def oNumber_g : Sig := ⟨[.ty (.int .u64)], [], [], [.ty (.str)], [], []⟩
def oNumber_c : Cuts := ⟨[(0, ⟨[(0, .ty (.int .u64)), (3, .gsl (.int .u8) 5)], [], [], []⟩)], [], []⟩
noncomputable def oNumber_t : List (FuncId × Spec) := []
noncomputable def oNumber_l0 : (Int × ((List Int) × Unit)) → Option (Rnd (Int × ((List Int) × Unit)) Unit) := fun (x1, (x2, _)) => (bif decide (128 ≤ x1) then (bif decide ((List.length x2 + List.length [IntKind.wrap .u8 (↑(BitVec.toNat (BitVec.ofInt 8 (IntKind.wrap .u8 x1) ||| BitVec.ofInt 8 128)) : Int)]) * 1 ≤ 140737488355328) then some (.next (Int.fdiv x1 128, (x2 ++ [IntKind.wrap .u8 (↑(BitVec.toNat (BitVec.ofInt 8 (IntKind.wrap .u8 x1) ||| BitVec.ofInt 8 128)) : Int)], ()))) else none) else some (.out (x1, (x2, ()))))
noncomputable def oNumber_b (n : Int) : (Option ((List UInt8) × Unit)) := (two (β := (Int × ((List Int) × Unit))) (γ := Unit) (loop oNumber_l0 (n, ([], ()))) (fun (x4, (x5, _)) => (bif decide ((List.length x5 + List.length [IntKind.wrap .u8 x4]) * 1 ≤ 140737488355328) then some (bytesUV (x5 ++ [IntKind.wrap .u8 x4]), ()) else none)) (fun _ => some ([], ())))
noncomputable def oNumber (n : Int) : (Option ((List UInt8) × Unit)) := stuck (oNumber_b n)
theorem oNumber_un (n : Int) : oNumber n = oNumber_b n := stuck_eq _
theorem oNumber_k : TabOk Tryz.prog oNumber_t := .nil
theorem oNumber_eq (d : dens oNumber_g.inP) : fnU Tryz.prog (tabU oNumber_t) oNumber_c 100 oNumber_g Tryz.f89 (Tryz.f89.body.getD .skip) d = oNumber_b d.1 := by kernel_rfl
theorem oNumber_ok : FnOk Tryz.prog 89 oNumber_g fun d => oNumber d.1 := (fn_ok follows named (tabU_ok oNumber_k) Tryz.func89 rfl).congr fun d => (oNumber_eq d).trans (stuck_eq _).symm
noncomputable def oNumber_s : FuncId × Spec := (89, callOf oNumber_g fun d => oNumber d.1)
theorem oNumber_o : SpecOk Tryz.prog oNumber_s.1 oNumber_s.2 := spec_ok oNumber_ok
def oText_g : Sig := ⟨[.ty (.str)], [], [], [.ty (.str)], [], []⟩
def oText_c : Cuts := ⟨[], [], []⟩
noncomputable def oText_t : List (FuncId × Spec) := [oNumber_s]
noncomputable def oText_b (s : (List UInt8)) : (Option ((List UInt8) × Unit)) := ((oNumber (IntKind.wrap .u64 (↑(List.length s) : Int))).bind fun (x1, _) => (bif decide (List.length x1 + List.length s ≤ 9223372036854775807) then some (x1 ++ s, ()) else none))
noncomputable def oText (s : (List UInt8)) : (Option ((List UInt8) × Unit)) := stuck (oText_b s)
theorem oText_un (s : (List UInt8)) : oText s = oText_b s := stuck_eq _
theorem oText_k : TabOk Tryz.prog oText_t := .cons oNumber_o (.nil)
theorem oText_eq (d : dens oText_g.inP) : fnU Tryz.prog (tabU oText_t) oText_c 100 oText_g Tryz.f152 (Tryz.f152.body.getD .skip) d = oText_b d.1 := by kernel_rfl
theorem oText_ok : FnOk Tryz.prog 152 oText_g fun d => oText d.1 := (fn_ok follows named (tabU_ok oText_k) Tryz.func152 rfl).congr fun d => (oText_eq d).trans (stuck_eq _).symm
noncomputable def oText_s : FuncId × Spec := (152, callOf oText_g fun d => oText d.1)
theorem oText_o : SpecOk Tryz.prog oText_s.1 oText_s.2 := spec_ok oText_ok
def oReadNumber_g : Sig := ⟨[.ty (.str), .ty (.int .i64)], [], [], [.ty (.int .u64), .ty (.int .i64), .ty (.int .i64)], [], []⟩
def oReadNumber_c : Cuts := ⟨[(0, ⟨[(7, .ty (.int .u64)), (18, .ty (.int .i64))], [], [(4, .ty (.int .u64)), (5, .ty (.int .i64)), (6, .ty (.int .i64))], []⟩)], [(10, ⟨[(45, .ty (.bool))], [], [], []⟩)], []⟩
noncomputable def oReadNumber_t : List (FuncId × Spec) := []
noncomputable def oReadNumber_l0 (s : (List UInt8)) (at_ : Int) : (Int × (Int × Unit)) → Option (Rnd (Int × (Int × Unit)) (Int × (Int × (Int × Unit)))) := fun (x1, (x2, _)) => (bif decide (x2 < 10) then (bif decide ((↑(List.length s) : Int) ≤ IntKind.wrap .i64 (at_ + x2)) then some (.ret (0, (0, (5, ())))) else (bif decide (0 ≤ IntKind.wrap .i64 (at_ + x2)) then ((s[Int.toNat (IntKind.wrap .i64 (at_ + x2))]?).bind fun x3 => (two (β := (Bool × Unit)) (γ := Unit) (bif decide (x2 = 9) then (bif decide (1 < (↑(UInt8.toNat x3) : Int)) then some (.inl (true, ())) else (bif decide (0 < x2) then some (.inl (decide ((↑(UInt8.toNat x3) : Int) = 0), ())) else some (.inl (false, ())))) else (bif decide (0 < x2) then some (.inl (decide ((↑(UInt8.toNat x3) : Int) = 0), ())) else some (.inl (false, ())))) (fun (x5, _) => (bif x5 then some (.ret (0, (0, (3, ())))) else (bif decide (IntKind.wrap .i64 (7 * x2) < 0) then none else (bif decide ((↑(UInt8.toNat x3) : Int) < 128) then some (.ret (IntKind.wrap .u64 (↑(BitVec.toNat (BitVec.ofInt 64 x1 ||| BitVec.ofInt 64 (IntKind.wrap .u64 (IntKind.wrap .u64 (IntKind.wrap .u8 (↑(BitVec.toNat (BitVec.ofInt 8 (↑(UInt8.toNat x3) : Int) &&& BitVec.ofInt 8 127)) : Int)) * 2 ^ Min.min (Int.toNat (IntKind.wrap .i64 (7 * x2))) 64)))) : Int), (IntKind.wrap .i64 (IntKind.wrap .i64 (at_ + x2) + 1), (0, ())))) else some (.next (IntKind.wrap .u64 (↑(BitVec.toNat (BitVec.ofInt 64 x1 ||| BitVec.ofInt 64 (IntKind.wrap .u64 (IntKind.wrap .u64 (IntKind.wrap .u8 (↑(BitVec.toNat (BitVec.ofInt 8 (↑(UInt8.toNat x3) : Int) &&& BitVec.ofInt 8 127)) : Int)) * 2 ^ Min.min (Int.toNat (IntKind.wrap .i64 (7 * x2))) 64)))) : Int), (IntKind.wrap .i64 (x2 + 1), ()))))))) (fun _ => none))) else none)) else some (.out (x1, (x2, ()))))
noncomputable def oReadNumber_b (s : (List UInt8)) (at_ : Int) : (Option (Int × (Int × (Int × Unit)))) := (bif decide (at_ < 0) then some (0, (0, (1, ()))) else (bif decide ((↑(List.length s) : Int) < at_) then some (0, (0, (1, ()))) else (two (β := (Int × (Int × Unit))) (γ := (Int × (Int × (Int × Unit)))) (loop (oReadNumber_l0 s at_) (0, (0, ()))) (fun (x7, (x8, _)) => some (0, (0, (3, ())))) (fun (x9, (x10, (x11, _))) => some (x9, (x10, (x11, ())))))))
noncomputable def oReadNumber (s : (List UInt8)) (at_ : Int) : (Option (Int × (Int × (Int × Unit)))) := stuck (oReadNumber_b s at_)
theorem oReadNumber_un (s : (List UInt8)) (at_ : Int) : oReadNumber s at_ = oReadNumber_b s at_ := stuck_eq _
theorem oReadNumber_k : TabOk Tryz.prog oReadNumber_t := .nil
theorem oReadNumber_eq (d : dens oReadNumber_g.inP) : fnU Tryz.prog (tabU oReadNumber_t) oReadNumber_c 100 oReadNumber_g Tryz.f117 (Tryz.f117.body.getD .skip) d = oReadNumber_b d.1 d.2.1 := by kernel_rfl
theorem oReadNumber_ok : FnOk Tryz.prog 117 oReadNumber_g fun d => oReadNumber d.1 d.2.1 := (fn_ok follows named (tabU_ok oReadNumber_k) Tryz.func117 rfl).congr fun d => (oReadNumber_eq d).trans (stuck_eq _).symm
noncomputable def oReadNumber_s : FuncId × Spec := (117, callOf oReadNumber_g fun d => oReadNumber d.1 d.2.1)
theorem oReadNumber_o : SpecOk Tryz.prog oReadNumber_s.1 oReadNumber_s.2 := spec_ok oReadNumber_ok
def oReadText_g : Sig := ⟨[.ty (.str), .ty (.int .i64)], [], [], [.ty (.str), .ty (.int .i64), .ty (.int .i64)], [], []⟩
def oReadText_c : Cuts := ⟨[], [], []⟩
noncomputable def oReadText_t : List (FuncId × Spec) := [oReadNumber_s]
noncomputable def oReadText_b (s : (List UInt8)) (at_ : Int) : (Option ((List UInt8) × (Int × (Int × Unit)))) := ((oReadNumber s at_).bind fun (x1, (x2, (x3, _))) => (bif !decide (x3 = 0) then some ([], (0, (x3, ()))) else (bif decide (IntKind.wrap .u64 (IntKind.wrap .i64 ((↑(List.length s) : Int) - x2)) < x1) then some ([], (0, (5, ()))) else (bif within (List.length s) (Option.some x2) (Option.some (IntKind.wrap .i64 (x2 + IntKind.wrap .i64 x1))) then some (cut s (Option.some x2) (Option.some (IntKind.wrap .i64 (x2 + IntKind.wrap .i64 x1))), (IntKind.wrap .i64 (x2 + IntKind.wrap .i64 x1), (0, ()))) else none))))
noncomputable def oReadText (s : (List UInt8)) (at_ : Int) : (Option ((List UInt8) × (Int × (Int × Unit)))) := stuck (oReadText_b s at_)
theorem oReadText_un (s : (List UInt8)) (at_ : Int) : oReadText s at_ = oReadText_b s at_ := stuck_eq _
theorem oReadText_k : TabOk Tryz.prog oReadText_t := .cons oReadNumber_o (.nil)
theorem oReadText_eq (d : dens oReadText_g.inP) : fnU Tryz.prog (tabU oReadText_t) oReadText_c 100 oReadText_g Tryz.f169 (Tryz.f169.body.getD .skip) d = oReadText_b d.1 d.2.1 := by kernel_rfl
theorem oReadText_ok : FnOk Tryz.prog 169 oReadText_g fun d => oReadText d.1 d.2.1 := (fn_ok follows named (tabU_ok oReadText_k) Tryz.func169 rfl).congr fun d => (oReadText_eq d).trans (stuck_eq _).symm
noncomputable def oReadText_s : FuncId × Spec := (169, callOf oReadText_g fun d => oReadText d.1 d.2.1)
theorem oReadText_o : SpecOk Tryz.prog oReadText_s.1 oReadText_s.2 := spec_ok oReadText_ok
def oNewReader_g : Sig := ⟨[.ty (.str)], [], [], [.ptr 0], [([.ty (.str), .ty (.int .i64), .ty (.int .i64)], 170)], [.val 0]⟩
def oNewReader_c : Cuts := ⟨[], [], []⟩
noncomputable def oNewReader_t : List (FuncId × Spec) := []
noncomputable def oNewReader_b (s : (List UInt8)) : (Option (Unit × ((List UInt8) × (Int × (Int × Unit))))) := some ((), (s, (0, (0, ()))))
noncomputable def oNewReader (s : (List UInt8)) : (Option (Unit × ((List UInt8) × (Int × (Int × Unit))))) := stuck (oNewReader_b s)
theorem oNewReader_un (s : (List UInt8)) : oNewReader s = oNewReader_b s := stuck_eq _
theorem oNewReader_k : TabOk Tryz.prog oNewReader_t := .nil
theorem oNewReader_eq (d : dens oNewReader_g.inP) : fnU Tryz.prog (tabU oNewReader_t) oNewReader_c 100 oNewReader_g Tryz.f73 (Tryz.f73.body.getD .skip) d = oNewReader_b d.1 := by kernel_rfl
theorem oNewReader_ok : FnOk Tryz.prog 73 oNewReader_g fun d => oNewReader d.1 := (fn_ok follows named (tabU_ok oNewReader_k) Tryz.func73 rfl).congr fun d => (oNewReader_eq d).trans (stuck_eq _).symm
noncomputable def oNewReader_s : FuncId × Spec := (73, callOf oNewReader_g fun d => oNewReader d.1)
theorem oNewReader_o : SpecOk Tryz.prog oNewReader_s.1 oNewReader_s.2 := spec_ok oNewReader_ok
def oErr_g : Sig := ⟨[.ptr 0], [([.ign, .ign, .ro (.ty (.int .i64))], 170)], [.val 0], [.ty (.int .i64)], [], []⟩
def oErr_c : Cuts := ⟨[], [], []⟩
noncomputable def oErr_t : List (FuncId × Spec) := []
noncomputable def oErr_b (e : Int) : (Option (Int × Unit)) := some (e, ())
noncomputable def oErr (e : Int) : (Option (Int × Unit)) := stuck (oErr_b e)
theorem oErr_un (e : Int) : oErr e = oErr_b e := stuck_eq _
theorem oErr_k : TabOk Tryz.prog oErr_t := .nil
theorem oErr_eq (d : dens oErr_g.inP) : fnU Tryz.prog (tabU oErr_t) oErr_c 100 oErr_g Tryz.f116 (Tryz.f116.body.getD .skip) d = oErr_b d.2.2.2.1 := by kernel_rfl
theorem oErr_ok : FnOk Tryz.prog 116 oErr_g fun d => oErr d.2.2.2.1 := (fn_ok follows named (tabU_ok oErr_k) Tryz.func116 rfl).congr fun d => (oErr_eq d).trans (stuck_eq _).symm
noncomputable def oErr_s : FuncId × Spec := (116, callOf oErr_g fun d => oErr d.2.2.2.1)
theorem oErr_o : SpecOk Tryz.prog oErr_s.1 oErr_s.2 := spec_ok oErr_ok
def oRdNumber_g : Sig := ⟨[.ptr 0, .ty (.int .u64)], [([.ro (.ty (.str)), .rw (.ty (.int .i64)) (.ty (.int .i64)), .rw (.ty (.int .i64)) (.ty (.int .i64))], 170)], [.val 0], [.ty (.int .u64)], [], []⟩
def oRdNumber_c : Cuts := ⟨[], [], []⟩
noncomputable def oRdNumber_t : List (FuncId × Spec) := [oErr_s, oReadNumber_s]
noncomputable def oRdNumber_b (most : Int) (s : (List UInt8)) (at_ : Int) (e : Int) : (Option (Int × (Int × (Int × Unit)))) := ((oErr e).bind fun (x1, _) => (bif !decide (x1 = 0) then some (0, (at_, (e, ()))) else ((oReadNumber s at_).bind fun (x2, (x3, (x4, _))) => (bif decide (x4 = 0) then (bif decide (most < x2) then some (0, (at_, (2, ()))) else (bif !decide (x4 = 0) then some (0, (at_, (x4, ()))) else some (x2, (x3, (e, ()))))) else (bif !decide (x4 = 0) then some (0, (at_, (x4, ()))) else some (x2, (x3, (e, ()))))))))
noncomputable def oRdNumber (most : Int) (s : (List UInt8)) (at_ : Int) (e : Int) : (Option (Int × (Int × (Int × Unit)))) := stuck (oRdNumber_b most s at_ e)
theorem oRdNumber_un (most : Int) (s : (List UInt8)) (at_ : Int) (e : Int) : oRdNumber most s at_ e = oRdNumber_b most s at_ e := stuck_eq _
theorem oRdNumber_k : TabOk Tryz.prog oRdNumber_t := .cons oErr_o (.cons oReadNumber_o (.nil))
theorem oRdNumber_eq (d : dens oRdNumber_g.inP) : fnU Tryz.prog (tabU oRdNumber_t) oRdNumber_c 100 oRdNumber_g Tryz.f118 (Tryz.f118.body.getD .skip) d = oRdNumber_b d.2.1 d.2.2.1 d.2.2.2.1 d.2.2.2.2.1 := by kernel_rfl
theorem oRdNumber_ok : FnOk Tryz.prog 118 oRdNumber_g fun d => oRdNumber d.2.1 d.2.2.1 d.2.2.2.1 d.2.2.2.2.1 := (fn_ok follows named (tabU_ok oRdNumber_k) Tryz.func118 rfl).congr fun d => (oRdNumber_eq d).trans (stuck_eq _).symm
noncomputable def oRdNumber_s : FuncId × Spec := (118, callOf oRdNumber_g fun d => oRdNumber d.2.1 d.2.2.1 d.2.2.2.1 d.2.2.2.2.1)
theorem oRdNumber_o : SpecOk Tryz.prog oRdNumber_s.1 oRdNumber_s.2 := spec_ok oRdNumber_ok
def oRdInt_g : Sig := ⟨[.ptr 0, .ty (.int .i64)], [([.ro (.ty (.str)), .rw (.ty (.int .i64)) (.ty (.int .i64)), .rw (.ty (.int .i64)) (.ty (.int .i64))], 170)], [.val 0], [.ty (.int .i64)], [], []⟩
def oRdInt_c : Cuts := ⟨[], [], []⟩
noncomputable def oRdInt_t : List (FuncId × Spec) := [oErr_s, oReadNumber_s, oRdNumber_s]
noncomputable def oRdInt_b (most : Int) (s : (List UInt8)) (at_ : Int) (e : Int) : (Option (Int × (Int × (Int × Unit)))) := (bif decide (most < 0) then ((oErr e).bind fun (x4, _) => (bif decide (x4 = 0) then ((oReadNumber s at_).bind fun (x5, (x6, (x7, _))) => (bif decide (x7 = 0) then some (0, (at_, (2, ()))) else some (0, (at_, (x7, ()))))) else some (0, (at_, (e, ()))))) else ((oRdNumber (IntKind.wrap .u64 most) s at_ e).bind fun (x1, (x2, (x3, _))) => some (IntKind.wrap .i64 x1, (x2, (x3, ())))))
noncomputable def oRdInt (most : Int) (s : (List UInt8)) (at_ : Int) (e : Int) : (Option (Int × (Int × (Int × Unit)))) := stuck (oRdInt_b most s at_ e)
theorem oRdInt_un (most : Int) (s : (List UInt8)) (at_ : Int) (e : Int) : oRdInt most s at_ e = oRdInt_b most s at_ e := stuck_eq _
theorem oRdInt_k : TabOk Tryz.prog oRdInt_t := .cons oErr_o (.cons oReadNumber_o (.cons oRdNumber_o (.nil)))
theorem oRdInt_eq (d : dens oRdInt_g.inP) : fnU Tryz.prog (tabU oRdInt_t) oRdInt_c 100 oRdInt_g Tryz.f74 (Tryz.f74.body.getD .skip) d = oRdInt_b d.2.1 d.2.2.1 d.2.2.2.1 d.2.2.2.2.1 := by kernel_rfl
theorem oRdInt_ok : FnOk Tryz.prog 74 oRdInt_g fun d => oRdInt d.2.1 d.2.2.1 d.2.2.2.1 d.2.2.2.2.1 := (fn_ok follows named (tabU_ok oRdInt_k) Tryz.func74 rfl).congr fun d => (oRdInt_eq d).trans (stuck_eq _).symm
noncomputable def oRdInt_s : FuncId × Spec := (74, callOf oRdInt_g fun d => oRdInt d.2.1 d.2.2.1 d.2.2.2.1 d.2.2.2.2.1)
theorem oRdInt_o : SpecOk Tryz.prog oRdInt_s.1 oRdInt_s.2 := spec_ok oRdInt_ok
def oRdText_g : Sig := ⟨[.ptr 0, .ty (.int .i64)], [([.ro (.ty (.str)), .rw (.ty (.int .i64)) (.ty (.int .i64)), .rw (.ty (.int .i64)) (.ty (.int .i64))], 170)], [.val 0], [.ty (.str)], [], []⟩
def oRdText_c : Cuts := ⟨[], [], []⟩
noncomputable def oRdText_t : List (FuncId × Spec) := [oErr_s, oReadText_s]
noncomputable def oRdText_b (most : Int) (s : (List UInt8)) (at_ : Int) (e : Int) : (Option ((List UInt8) × (Int × (Int × Unit)))) := ((oErr e).bind fun (x1, _) => (bif !decide (x1 = 0) then some ([], (at_, (e, ()))) else ((oReadText s at_).bind fun (x2, (x3, (x4, _))) => (bif decide (x4 = 0) then (bif decide (most < (↑(List.length x2) : Int)) then some ([], (at_, (2, ()))) else (bif !decide (x4 = 0) then some ([], (at_, (x4, ()))) else some (x2, (x3, (e, ()))))) else (bif !decide (x4 = 0) then some ([], (at_, (x4, ()))) else some (x2, (x3, (e, ()))))))))
noncomputable def oRdText (most : Int) (s : (List UInt8)) (at_ : Int) (e : Int) : (Option ((List UInt8) × (Int × (Int × Unit)))) := stuck (oRdText_b most s at_ e)
theorem oRdText_un (most : Int) (s : (List UInt8)) (at_ : Int) (e : Int) : oRdText most s at_ e = oRdText_b most s at_ e := stuck_eq _
theorem oRdText_k : TabOk Tryz.prog oRdText_t := .cons oErr_o (.cons oReadText_o (.nil))
theorem oRdText_eq (d : dens oRdText_g.inP) : fnU Tryz.prog (tabU oRdText_t) oRdText_c 100 oRdText_g Tryz.f151 (Tryz.f151.body.getD .skip) d = oRdText_b d.2.1 d.2.2.1 d.2.2.2.1 d.2.2.2.2.1 := by kernel_rfl
theorem oRdText_ok : FnOk Tryz.prog 151 oRdText_g fun d => oRdText d.2.1 d.2.2.1 d.2.2.2.1 d.2.2.2.2.1 := (fn_ok follows named (tabU_ok oRdText_k) Tryz.func151 rfl).congr fun d => (oRdText_eq d).trans (stuck_eq _).symm
noncomputable def oRdText_s : FuncId × Spec := (151, callOf oRdText_g fun d => oRdText d.2.1 d.2.2.1 d.2.2.2.1 d.2.2.2.2.1)
theorem oRdText_o : SpecOk Tryz.prog oRdText_s.1 oRdText_s.2 := spec_ok oRdText_ok
def oRdEnd_g : Sig := ⟨[.ptr 0], [([.ro (.ty (.str)), .ro (.ty (.int .i64)), .rw (.ty (.int .i64)) (.ty (.int .i64))], 170)], [.val 0], [.ty (.int .i64)], [], []⟩
def oRdEnd_c : Cuts := ⟨[], [], []⟩
noncomputable def oRdEnd_t : List (FuncId × Spec) := [oErr_s]
noncomputable def oRdEnd_b (s : (List UInt8)) (at_ : Int) (e : Int) : (Option (Int × (Int × Unit))) := ((oErr e).bind fun (x1, _) => (bif decide (x1 = 0) then (bif decide (at_ < (↑(List.length s) : Int)) then ((oErr 2).bind fun (x4, _) => some (x4, (2, ()))) else ((oErr e).bind fun (x3, _) => some (x3, (e, ())))) else ((oErr e).bind fun (x2, _) => some (x2, (e, ())))))
noncomputable def oRdEnd (s : (List UInt8)) (at_ : Int) (e : Int) : (Option (Int × (Int × Unit))) := stuck (oRdEnd_b s at_ e)
theorem oRdEnd_un (s : (List UInt8)) (at_ : Int) (e : Int) : oRdEnd s at_ e = oRdEnd_b s at_ e := stuck_eq _
theorem oRdEnd_k : TabOk Tryz.prog oRdEnd_t := .cons oErr_o (.nil)
theorem oRdEnd_eq (d : dens oRdEnd_g.inP) : fnU Tryz.prog (tabU oRdEnd_t) oRdEnd_c 100 oRdEnd_g Tryz.f75 (Tryz.f75.body.getD .skip) d = oRdEnd_b d.2.1 d.2.2.1 d.2.2.2.1 := by kernel_rfl
theorem oRdEnd_ok : FnOk Tryz.prog 75 oRdEnd_g fun d => oRdEnd d.2.1 d.2.2.1 d.2.2.2.1 := (fn_ok follows named (tabU_ok oRdEnd_k) Tryz.func75 rfl).congr fun d => (oRdEnd_eq d).trans (stuck_eq _).symm
noncomputable def oRdEnd_s : FuncId × Spec := (75, callOf oRdEnd_g fun d => oRdEnd d.2.1 d.2.2.1 d.2.2.2.1)
theorem oRdEnd_o : SpecOk Tryz.prog oRdEnd_s.1 oRdEnd_s.2 := spec_ok oRdEnd_ok
end Go.Proofs.YthnhbejjikgifaaGreatDoor.TV

/-
  DX: laws: what may come in, and that they answer true.
-/
namespace Go.Proofs.YthnhbejjikgifaaGreatDoor.TV
open Go Go.RowKit
set_option linter.unusedSimpArgs false
set_option linter.unusedVariables false

section
variable (P : Program)
def fitsF (R : TypeId → Ty → Bool) : List Field → Ty → Bool
  | [], .nil => true
  | [f], t => R f.type t
  | f :: fs, .cons a b => R f.type a && fitsF R fs b
  | _, _ => false
def fitsN (R : Ty → Bool) : Nat → Ty → Bool
  | 0, .nil => true
  | 1, t => R t
  | n + 2, .cons a b => R a && fitsN R (n + 1) b
  | _, _ => false
/-- At least so many bytes are taken. -/
def sizeT : Ty → Nat
  | .int k => k.bits / 8
  | .bool => 1
  | .str => 16
  | .slice _ => 24
  | .nil => 0
  | .cons a b => sizeT a + sizeT b
/-- Does the type have this shape? -/
def tyFits : Nat → TypeId → Ty → Bool
  | 0, _, _ => false
  | f + 1, t, ty => match P.underlying t with
    | some .bool => ty == .bool
    | some (.int k) => ty == .int k
    | some .string => ty == .str
    | some (.slice e) => (match ty with
      | .slice te => tyFits f e te && (isAggT P e == te.isAgg) && decide (sizeT te ≤ P.bytesOf e)
      | _ => false)
    | some (.struct fs) => (match fs.toList with
      | [fd] => (match ty with
        | .cons a .nil => tyFits f fd.type a
        | _ => false)
      | l => fitsF (tyFits f) l ty)
    | some (.array n e) => (match n, ty with
      | 1, .cons a .nil => tyFits f e a
      | 1, _ => false
      | n, ty => fitsN (tyFits f e) n ty)
    | _ => false
/-- What is known of what comes in. -/
def OkD : (t : Ty) → t.den → Prop
  | .int k, n => (Lit.int k n).wf = true
  | .bool, _ => True
  | .str, s => s.length ≤ reachBytes
  | .slice t, l => l.length ≤ reachBytes ∧ l.length * sizeT t ≤ reachBytes ∧ ∀ x ∈ l, OkD t x
  | .nil, _ => True
  | .cons a b, x => OkD a x.1 ∧ OkD b x.2
end
section
variable {P : Program}
theorem fitsF_ok {R : TypeId → List TV → Prop} {C : TypeId → Ty → Bool} (h : ∀ t ty cs, C t ty = true → R t cs → ∃ x : ty.den, CellsR ty x cs ∧ OkD ty x) : ∀ (fs : List Field) (ty : Ty) (cs : List TV), fitsF C fs ty = true → OkFields R fs cs → ∃ x : ty.den, CellsR ty x cs ∧ OkD ty x
  | [], .nil, cs, _, hc => by
    have : cs = [] := hc
    subst this
    exact ⟨(), rfl, trivial⟩
  | [f], ty, cs, hf, hc => by
    obtain ⟨a, b, rfl, h1, h2⟩ := hc
    have : b = [] := h2
    subst this
    rw [List.append_nil]
    have hf : C f.type ty = true := by cases ty <;> exact hf
    exact h _ _ _ hf h1
  | f :: g :: fs, .cons x y, cs, hf, hc => by
    obtain ⟨a, b, rfl, h1, h2⟩ := hc
    simp only [fitsF, Bool.and_eq_true] at hf
    obtain ⟨u, hu, ou⟩ := h _ _ _ hf.1 h1
    obtain ⟨v, hv, ov⟩ := fitsF_ok h (g :: fs) y b hf.2 h2
    exact ⟨(u, v), ⟨a, b, rfl, hu, hv⟩, ou, ov⟩
  | [], .int _, _, hf, _ | [], .bool, _, hf, _ | [], .str, _, hf, _ | [], .slice _, _, hf, _ | [], .cons _ _, _, hf, _ => by simp [fitsF] at hf
  | _ :: _ :: _, .int _, _, hf, _ | _ :: _ :: _, .bool, _, hf, _ | _ :: _ :: _, .str, _, hf, _ | _ :: _ :: _, .slice _, _, hf, _ | _ :: _ :: _, .nil, _, hf, _ => by simp [fitsF] at hf
theorem fitsN_ok {R : List TV → Prop} {C : Ty → Bool} (h : ∀ ty cs, C ty = true → R cs → ∃ x : ty.den, CellsR ty x cs ∧ OkD ty x) : ∀ (n : Nat) (ty : Ty) (cs : List TV), fitsN C n ty = true → OkMany R n cs → ∃ x : ty.den, CellsR ty x cs ∧ OkD ty x
  | 0, .nil, cs, _, hc => by
    have : cs = [] := hc
    subst this
    exact ⟨(), rfl, trivial⟩
  | 1, ty, cs, hf, hc => by
    obtain ⟨a, b, rfl, h1, h2⟩ := hc
    have : b = [] := h2
    subst this
    rw [List.append_nil]
    have hf : C ty = true := by cases ty <;> exact hf
    exact h _ _ hf h1
  | n + 2, .cons x y, cs, hf, hc => by
    obtain ⟨a, b, rfl, h1, h2⟩ := hc
    simp only [fitsN, Bool.and_eq_true] at hf
    obtain ⟨u, hu, ou⟩ := h _ _ hf.1 h1
    obtain ⟨v, hv, ov⟩ := fitsN_ok h (n + 1) y b hf.2 h2
    exact ⟨(u, v), ⟨a, b, rfl, hu, hv⟩, ou, ov⟩
  | 0, .int _, _, hf, _ | 0, .bool, _, hf, _ | 0, .str, _, hf, _ | 0, .slice _, _, hf, _ | 0, .cons _ _, _, hf, _ => by simp [fitsN] at hf
  | _ + 2, .int _, _, hf, _ | _ + 2, .bool, _, hf, _ | _ + 2, .str, _, hf, _ | _ + 2, .slice _, _, hf, _ | _ + 2, .nil, _, hf, _ => by simp [fitsN] at hf
theorem tyFits_agg {f : Nat} {t : TypeId} {ty : Ty} (h : tyFits P f t ty = true) : isAggT P t = true → True := fun _ => trivial
theorem reach_small {n b : Nat} (hb : 0 < b) (h : n * b ≤ reachBytes) : n ≤ reachBytes := Nat.le_trans (Nat.le_mul_of_pos_right n hb) h
/-- Elements take room. -/
def roomy (P : Program) : Nat → TypeId → Bool
  | 0, _ => false
  | f + 1, t => match P.underlying t with
    | some (.slice e) => decide (0 < P.bytesOf e) && roomy P f e
    | some (.struct fs) => fs.toList.all fun fd => roomy P f fd.type
    | some (.array _ e) => roomy P f e
    | _ => true
theorem okFields_mono {R S : TypeId → List TV → Prop} : ∀ {fs : List Field} {cs : List TV}, (∀ f ∈ fs, ∀ cs, R f.type cs → S f.type cs) → OkFields R fs cs → OkFields S fs cs
  | [], cs, _, h => h
  | f :: fs, cs, hm, ⟨a, b, e, h1, h2⟩ => ⟨a, b, e, hm f (by simp) _ h1, okFields_mono (fun g hg => hm g (by simp [hg])) h2⟩
theorem okMany_mono {R S : List TV → Prop} (hm : ∀ cs, R cs → S cs) : ∀ {n : Nat} {cs : List TV}, OkMany R n cs → OkMany S n cs
  | 0, cs, h => h
  | n + 1, cs, ⟨a, b, e, h1, h2⟩ => ⟨a, b, e, hm _ h1, okMany_mono hm h2⟩
theorem okT_den : ∀ (f : Nat) (t : TypeId) (ty : Ty) (cs : List TV), tyFits P f t ty = true → roomy P f t = true → OkT P f t cs → ∃ x : ty.den, CellsR ty x cs ∧ OkD ty x
  | 0, t, ty, cs, h, _, _ => by cases h
  | f + 1, t, ty, cs, h, hr, hc => by
    have ih := okT_den f
    unfold tyFits at h
    unfold roomy at hr
    unfold OkT at hc
    cases hu : P.underlying t with
    | none => rw [hu] at hc; exact hc.elim
    | some d =>
      rw [hu] at h hr hc
      cases d with
      | bool => 
        simp only at h hr hc
        obtain ⟨b, rfl⟩ := hc
        have h : ty = .bool := by simpa using h
        subst h
        exact ⟨b, rfl, trivial⟩
      | int k => 
        simp only at h hr hc
        obtain ⟨n, rfl, hw⟩ := hc
        have h : ty = .int k := by simpa using h
        subst h
        exact ⟨n, rfl, hw⟩
      | string => 
        simp only at h hr hc
        obtain ⟨l, rfl, hl⟩ := hc
        have h : ty = .str := by simpa using h
        subst h
        exact ⟨l, rfl, hl⟩
      | struct fs => 
        simp only at h hr hc
        have key : ∀ (l : List Field) (ty : Ty), fitsF (tyFits P f) l ty = true → (∀ fd ∈ l, roomy P f fd.type = true) → OkFields (OkT P f) l cs → ∃ x : ty.den, CellsR ty x cs ∧ OkD ty x := fun l ty h1 h2 h3 =>
          fitsF_ok (R := fun t cs => OkT P f t cs ∧ roomy P f t = true) (fun t ty cs h4 h5 => ih t ty cs h4 h5.2 h5.1) l ty cs h1 (okFields_mono (fun fd hfd cs hcs => ⟨hcs, h2 fd hfd⟩) h3)
        rw [List.all_eq_true] at hr
        split at h
        · rename_i fd hfd
          rw [hfd] at hc hr
          split at h
          · rename_i a
            obtain ⟨x, h1, h2⟩ := key [fd] a (by simpa [fitsF] using h) hr hc
            exact ⟨(x, ()), ⟨cs, [], by simp, h1, rfl⟩, h2, trivial⟩
          · cases h
        · exact key _ ty h hr hc
      | array n e => 
        simp only at h hr hc
        have key : ∀ (n : Nat) (ty : Ty), fitsN (tyFits P f e) n ty = true → OkMany (OkT P f e) n cs → ∃ x : ty.den, CellsR ty x cs ∧ OkD ty x := fun n ty h1 h2 => fitsN_ok (fun ty cs h4 h5 => ih e ty cs h4 hr h5) n ty cs h1 h2
        split at h
        · rename_i a
          obtain ⟨x, h1, h2⟩ := key 1 a (by cases a <;> exact h) hc
          exact ⟨(x, ()), ⟨cs, [], by simp, h1, rfl⟩, h2, trivial⟩
        · cases h
        · exact key _ ty h hc
      | slice e => 
        simp only at h hr hc
        split at h
        · rename_i te
          simp only [Bool.and_eq_true, beq_iff_eq, decide_eq_true_eq] at h hr
          rcases hc with rfl | ⟨ess, rfl, hl, hall⟩
          · exact ⟨[], ⟨true, [], .unk, rfl, trivial⟩, by simp, by simp, fun x hx => by cases hx⟩
          · have : ∀ ess : List (List TV), (∀ x ∈ ess, OkT P f e x) → ∃ l : List te.den, l.length = ess.length ∧ All2 (fun x v => isAggV v = te.isAgg ∧ CellsR te x v.cells) l (ess.map (mkE P e)) ∧ ∀ x ∈ l, OkD te x := by
              intro ess
              induction ess with
              | nil => exact fun _ => ⟨[], rfl, trivial, fun x hx => by cases hx⟩
              | cons c ess ih2 =>
                intro hx
                obtain ⟨l, h1, h2, h3⟩ := ih2 fun y hy => hx y (by simp [hy])
                obtain ⟨x, h4, h5⟩ := ih e te c h.1.1 hr.2 (hx c (by simp))
                refine ⟨x :: l, by simp [h1], ⟨?_, h2⟩, fun y hy => ?_⟩
                · cases ha : isAggT P e with
                  | true =>
                    simp only [mkE, ha, if_true]
                    exact ⟨by rw [← h.1.2, ha]; rfl, h4⟩
                  | false =>
                    simp only [mkE, ha, Bool.false_eq_true, if_false]
                    have hag : te.isAgg = false := by rw [← h.1.2, ha]
                    obtain ⟨v, rfl, hv⟩ : ∃ v, c = [v] ∧ isAggV v = false := by
                      cases te with
                      | int k => exact ⟨_, h4, rfl⟩
                      | bool => exact ⟨_, h4, rfl⟩
                      | str => exact ⟨_, h4, rfl⟩
                      | slice t => obtain ⟨b, es, tok, h6, _⟩ := h4; exact ⟨_, h6, rfl⟩
                      | nil => cases hag
                      | cons a b => cases hag
                    exact ⟨by rw [hag]; exact hv, by simp only [List.headD_cons]; rw [isAggV_cells hv]; exact h4⟩
                · rcases List.mem_cons.1 hy with rfl | hy
                  · exact h5
                  · exact h3 y hy
            obtain ⟨l, h1, h2, h3⟩ := this ess hall
            exact ⟨l, ⟨false, _, .unk, rfl, h2⟩, by rw [h1]; exact reach_small hr.1 hl, by rw [h1]; exact Nat.le_trans (Nat.mul_le_mul_left _ h.2) hl, h3⟩
        · cases h
      | _ => exact hc.elim

/-- The shapes of what comes in. -/
def fitsP (P : Program) (F : Nat) : List TypeId → List PC → Bool
  | [], [] => true
  | t :: ts, .ty ty :: ps => tyFits P F t ty && roomy P F t && (isAggT P t == ty.isAgg) && fitsP P F ts ps
  | _, _ => false
def OkP : (ps : List PC) → dens ps → Prop
  | [], _ => True
  | .ty t :: ps, d => OkD t d.1 ∧ OkP ps d.2
  | _ :: _, _ => False
theorem elR_mkE {t : TypeId} {ty : Ty} {x : ty.den} {c : List TV} (h : isAggT P t = ty.isAgg) (h4 : CellsR ty x c) : ElR ty x (mkE P t c) := by
  cases ha : isAggT P t with
  | true =>
    simp only [mkE, ha, if_true]
    exact ⟨by rw [← h, ha]; rfl, h4⟩
  | false =>
    simp only [mkE, ha, Bool.false_eq_true, if_false]
    have hag : ty.isAgg = false := by rw [← h, ha]
    obtain ⟨v, rfl, hv⟩ : ∃ v, c = [v] ∧ isAggV v = false := by
      cases ty with
      | int k => exact ⟨_, h4, rfl⟩
      | bool => exact ⟨_, h4, rfl⟩
      | str => exact ⟨_, h4, rfl⟩
      | slice t => obtain ⟨b, es, tok, h6, _⟩ := h4; exact ⟨_, h6, rfl⟩
      | nil => cases hag
      | cons a b => cases hag
    exact ⟨by rw [hag]; exact hv, by simp only [List.headD_cons]; rw [isAggV_cells hv]; exact h4⟩
theorem args_den {F : Nat} {V : Val} {m : List Nat} {j : Nat} : ∀ (ts : List TypeId) (ps : List PC) (xs : List TV), fitsP P F ts ps = true → ArgsOk P F ts xs → ∃ d : dens ps, URels V (injL m j ps d) xs ∧ OkP ps d
  | [], [], xs, _, h => by
    have := h.nil
    subst this
    exact ⟨(), .nil, trivial⟩
  | t :: ts, .ty ty :: ps, xs, hf, h => by
    simp only [fitsP, Bool.and_eq_true, beq_iff_eq] at hf
    obtain ⟨⟨⟨h1, h2⟩, h3⟩, h4⟩ := hf
    obtain ⟨x, xs', rfl, ⟨c, hc, rfl⟩, hxs⟩ := h.cons
    obtain ⟨y, h5, h6⟩ := okT_den F t ty c h1 h2 hc
    obtain ⟨d, h7, h8⟩ := args_den (j := j) ts ps xs' h4 hxs
    exact ⟨(y, d), .cons _ _ _ _ (elemU_rel (elR_mkE h3 h5)) h7, h6, h8⟩
  | [], _ :: _, _, hf, _ => by cases hf
  | _ :: _, [], _, hf, _ => by cases hf
  | _ :: _, .gsl _ _ :: _, _, hf, _ => by cases hf
  | _ :: _, .ptr _ :: _, _, hf, _ => by cases hf
  | _ :: _, .nilp :: _, _, hf, _ => by cases hf
  | _ :: _, .ign :: _, _, hf, _ => by cases hf
  | _ :: _, .lit _ :: _, _, hf, _ => by cases hf

theorem HRel.none : HRel St.none ⟨[], []⟩ ⟨[], []⟩ :=
  ⟨rfl, List.nodup_nil, fun o h => (by cases h), fun k o r h => (by simp at h), rfl, fun j k e h => (by simp at h), fun j j' i k k' e e' h => (by simp at h), fun j k o e h => (by simp at h)⟩
/-- A law that answers true. -/
theorem law_sim {f : FuncId} {ps : List PC} {G : dens (⟨ps, [], [], [.ty .bool], [], []⟩ : Sig).inP → Option (Bool × Unit)} (h : FnOk P f ⟨ps, [], [], [.ty .bool], [], []⟩ G) {F : Nat} {ts : List TypeId} (hf : fitsP P F ts (⟨ps, [], [], [.ty .bool], [], []⟩ : Sig).inP = true)
    (hG : ∀ d, OkP (⟨ps, [], [], [.ty .bool], [], []⟩ : Sig).inP d → G d = some (true, ())) {xs : List TV} (hx : ArgsOk P F ts xs) : ∃ s', Sim P f xs St.none (.bool true) s' := by
  obtain ⟨d, h1, h2⟩ := args_den (V := ⟨[], []⟩) (m := []) (j := 0) ts _ xs hf hx
  have hlen := injL_length [] (⟨ps, [], [], [.ty .bool], [], []⟩ : Sig).inP 0 d
  have hin : (⟨ps, [], [], [.ty .bool], [], []⟩ : Sig).inP.length = ps.length := by simp [Sig.inP]
  have hst : ((⟨ps, [], [], [.ty .bool], [], []⟩ : Sig).start d).1 = injL [] 0 (⟨ps, [], [], [.ty .bool], [], []⟩ : Sig).inP d := by
    show (injL [] 0 (⟨ps, [], [], [.ty .bool], [], []⟩ : Sig).inP d).take ps.length = _
    rw [List.take_of_length_le (by rw [hlen, hin]; exact Nat.le_refl _)]
  have htk : ∀ (ts : List TypeId) (qs : List PC), fitsP P F ts qs = true → ∀ d, toksL qs d = [] := by
    intro ts qs
    induction qs generalizing ts with
    | nil => intro _ _; rfl
    | cons q qs ih =>
      intro hq d
      cases ts with
      | nil => cases q <;> cases hq
      | cons t ts =>
        cases q with
        | ty ty =>
          simp only [fitsP, Bool.and_eq_true] at hq
          rw [toksL_cons, ih ts hq.2]
          rfl
        | _ => cases hq
  have hhp : ((⟨ps, [], [], [.ty .bool], [], []⟩ : Sig).start d).2 = ⟨[], []⟩ := by
    show (⟨[], toksL (⟨ps, [], [], [.ty .bool], [], []⟩ : Sig).inP d⟩ : UHeap) = _
    rw [htk ts _ hf]
  obtain ⟨s2, v, V2, h2', vs, rvs, m, tips2, hs, A⟩ := h d _ (hG d h2) St.none ⟨[], []⟩ xs (by rw [hhp]; exact HRel.none) (by rw [hst]; exact h1)
  have hm : m = [] := by
    have := A.mlen
    simpa using this
  subst hm
  have hex : exL [] h2'.tips [.ty .bool] vs = some ((true, ()), tips2) := by
    have := A.ex
    unfold outUs at this
    have e1 : vs ++ ((⟨ps, [], [], [.ty .bool], [], []⟩ : Sig).rw.map fun p => cellAt h2' p.1 p.2.1) ++ (([] : List Nat).drop (⟨ps, [], [], [.ty .bool], [], []⟩ : Sig).rows.length).flatMap (rowCs h2') = vs := by
      show vs ++ [] ++ _ = vs
      simp
    rw [e1] at this
    exact this
  obtain ⟨u, us', t1, rfl, h3, h4⟩ := exL_cons hex
  have hus : us' = [] := by
    cases us' with
    | nil => rfl
    | cons _ _ => cases h4
  subst hus
  have h3' : (match decV .bool u with
      | some x => some (x, h2'.tips)
      | none => none) = some (true, t1) := by
    have : exV [] h2'.tips (.ty .bool) u = match decV .bool u with
      | some x => some (x, h2'.tips)
      | none => none := by cases u <;> rfl
    rw [← this]
    exact h3
  split at h3'
  · rename_i x hx
    cases h3'
    have ho := A.outs
    cases ho with
    | cons _ w _ _ hr hnil =>
      cases hnil
      have := (decV_rel hx hr).2
      have hw : w = .bool true := by
        have ha := (decV_rel hx hr).1
        have hc := isAggV_cells ha
        rw [hc] at this
        exact (List.cons.inj (show [w] = [.bool true] from this)).1
      subst hw
      rw [A.val] at hs
      exact ⟨s2, hs⟩
  · cases h3'

/-- A closed function that answers true. -/
theorem FnOk.closed {f : FuncId} (h : Pure P f [] (.bool true)) : FnOk P f ⟨[], [], [], [.ty .bool], [], []⟩ fun _ => some (true, ()) := by
  intro d r hr s V tvs hR hv
  cases hr
  have hv' : URels V [] tvs := hv
  cases hv'
  refine ⟨s, .bool true, V, _, [.bool true], [.bool true], [], _, h s, ⟨hR, Step.refl _ _ _, .cons _ _ _ _ (.bool true) .nil, rfl, rfl, List.prefix_rfl, rfl, List.nodup_nil, fun i K n h => by simp at h, rfl⟩⟩
end
end Go.Proofs.YthnhbejjikgifaaGreatDoor.TV

/-
  DX: functions that ask whether a slice is nil: both cases, one answer.
-/
namespace Go.Proofs.YthnhbejjikgifaaGreatDoor.TV
open Go Go.RowKit
set_option linter.unusedSimpArgs false
set_option linter.unusedVariables false

section
variable {P : Program}
/-- A nil slice has no elements. -/
theorem Sim.wf {f : FuncId} {b : Bool} {es : List TV} {tok : Tok} {rest : List TV} {s s' : St} {v : TV} (hf : ∃ fn c, P.funcs[f]? = some fn ∧ fn.body = some c) (h : (b = true → es = []) → Sim P f (.slice b es tok :: rest) s v s') : Sim P f (.slice b es tok :: rest) s v s' := by
  refine ⟨hf, fun g w rargs hR hv => ?_⟩
  have : b = true → es = [] := by
    cases hv with
    | cons _ _ _ _ r _ => cases r <;> simp
  exact (h this).2 g w rargs hR hv
def outSl (t : Ty) (r : UV × UHeap × List Nat) : Option (List t.den × Unit) := match decV (.slice t) r.1 with
  | some l => some (l, ())
  | none => none
theorem clone_ok (hm : P.follows .mixedOrders = true) (hN : Named P) {call : CallU} (hC : CallOkU P call) {C : Cuts} {fuel : Nat} {f : FuncId} {fn : Func} {c : Code} (hf : P.funcs[f]? = some fn) (hb : fn.body = some c) {t : Ty} {F : List t.den → Option (List t.den × Unit)}
    (hA : (inlU P call C fuel fn c [.slice t (some true) [] .no] ⟨[], []⟩).run (outSl t) = F [])
    (hB : ∀ l, (inlU P call C fuel fn c [.slice t (some false) l .no] ⟨[], []⟩).run (outSl t) = F l) :
    FnOk P f ⟨[.ty (.slice t)], [], [], [.ty (.slice t)], [], []⟩ fun d => F d.1 := by
  intro d r hr s V tvs hR hv
  obtain ⟨l, d⟩ := d
  have hv : URels V [.slice t none l .no] tvs := hv
  have hR : HRel s V ⟨[], []⟩ := hR
  have hr : F l = some r := hr
  have key : ∀ (b : Bool) (args : List TV), URels V [.slice t (some b) l .no] args → (inlU P call C fuel fn c [.slice t (some b) l .no] ⟨[], []⟩).run (outSl t) = F l → ∃ s2 v V2 h2 vs rvs m tips2, Sim P f args s v s2 ∧ Answer ⟨[.ty (.slice t)], [], [], [.ty (.slice t)], [], []⟩ r s V ⟨[], []⟩ s2 v V2 h2 vs rvs m tips2 := by
    intro b args ha hrun
    obtain ⟨u, hu, ho⟩ := (Tree.run_has _ _ _).1 (hrun.trans hr)
    obtain ⟨s2, V2, v, hs, hv2, he⟩ := inl_ok0 hm hN hC hf hb _ _ u hu s V args hR ha
    unfold outSl at ho
    split at ho
    · rename_i l' hl'
      cases ho
      refine ⟨s2, v, V2, u.2.1, [u.1], [v], [], u.2.1.tips, hs, ⟨he.rel, he.step, .cons _ _ _ _ hv2 .nil, rfl, rfl, List.prefix_rfl, rfl, List.nodup_nil, fun i K n h => by simp at h, ?_⟩⟩
      have e1 : outUs ⟨[.ty (.slice t)], [], [], [.ty (.slice t)], [], []⟩ [u.1] u.2.1 [] = [u.1] := rfl
      rw [e1]
      have e2 : ∀ (u : UV) (tips : List (Option Tip)), decV (.slice t) u = some l' → exV [] tips (.ty (.slice t)) u = some (l', tips) := by
        intro u tips h
        cases u <;> simp only [exV, h]
      show exL [] u.2.1.tips [.ty (.slice t)] [u.1] = _
      simp only [exL, e2 _ _ hl']
      rfl
    · cases ho
  cases hv with
  | cons _ v _ vs rv rvs =>
    cases rvs
    cases rv with
    | slice _ _ b' _ es _ tok' h1 h2 h3 =>
      cases b' with
      | false => exact key false _ (.cons _ _ _ _ (.slice _ _ _ _ _ _ _ (fun x hx => by cases hx; rfl) h2 trivial) .nil) (hB l)
      | true =>
        by_cases hes : es = []
        · subst hes
          have hl : l = [] := by
            cases l with
            | nil => rfl
            | cons _ _ => exact h2.elim
          subst hl
          exact key true _ (.cons _ _ _ _ (.slice _ _ _ _ _ _ _ (fun x hx => by cases hx; rfl) h2 trivial) .nil) hA
        · obtain ⟨s2, v, V2, h2', vs, rvs, m, tips2, hs, A⟩ := key false [.slice false es tok'] (.cons _ _ _ _ (.slice _ _ _ _ _ _ _ (fun x hx => by cases hx; rfl) h2 trivial) .nil) (hB l)
          exact ⟨s2, v, V2, h2', vs, rvs, m, tips2, Sim.wf ⟨fn, c, hf, hb⟩ fun hw => absurd (hw rfl) hes, A⟩
/-- A slice again, if there is room for it. -/
def cloneU (sz : Nat) {α : Type} (l : List α) : Option (List α × Unit) := bif l.isEmpty then some ([], ()) else bif decide ((0 + l.length) * sz ≤ 140737488355328) then some (l, ()) else none
end
end Go.Proofs.YthnhbejjikgifaaGreatDoor.TV

/-
  Numbers and texts as bytes: in plain words.
-/
namespace Go.Proofs.YthnhbejjikgifaaGreatDoor.TV
open Go Go.RowKit
set_option linter.unusedSimpArgs false
set_option linter.unusedVariables false
set_option maxRecDepth 100000

/-- A number's bytes, seven bits each, the lowest first. -/
def num (n : Nat) : List UInt8 := if h : n < 128 then [UInt8.ofNat n] else UInt8.ofNat (n % 128 + 128) :: num (n / 128)
termination_by n
decreasing_by omega
theorem num_small {n : Nat} (h : n < 128) : num n = [UInt8.ofNat n] := by rw [num, dif_pos h]
theorem num_big {n : Nat} (h : ¬ n < 128) : num n = UInt8.ofNat (n % 128 + 128) :: num (n / 128) := by rw [num, dif_neg h]
theorem or_byte : ∀ m : Nat, m < 256 → IntKind.u8.wrap ((BitVec.ofInt IntKind.u8.bits (m : Int) ||| BitVec.ofInt IntKind.u8.bits 128).toNat) = ((m % 128 + 128 : Nat) : Int) := by decide +kernel
theorem wrap_u8 (n : Nat) : IntKind.u8.wrap (n : Int) = ((n % 256 : Nat) : Int) := by
  unfold IntKind.wrap
  simp [IntKind.min, IntKind.max, IntKind.bits, IntKind.signed]
theorem num_len : ∀ (k n : Nat), n < 128 ^ (k + 1) → (num n).length ≤ k + 1
  | k, n, h => by
    by_cases hn : n < 128
    · rw [num_small hn]; simp
    · rw [num_big hn]
      cases k with
      | zero => simp at h; omega
      | succ k =>
        have := num_len k (n / 128) (by rw [Nat.pow_succ] at h; exact Nat.div_lt_of_lt_mul (by rw [Nat.mul_comm]; exact h))
        simp; omega
theorem num_len10 {n : Nat} (h : n < 18446744073709551616) : (num n).length ≤ 10 := num_len 9 n (by omega)
theorem wrap_u64 {n : Nat} (h : n < 18446744073709551616) : IntKind.u64.wrap (n : Int) = (n : Int) := by
  unfold IntKind.wrap
  simp [IntKind.min, IntKind.max, IntKind.bits, IntKind.signed]
  omega
theorem rem128 (n : Nat) : Int.tmod (n : Int) 128 = ((n % 128 : Nat) : Int) := by
  rw [Int.tmod_eq_emod_of_nonneg (by omega)]
  omega
theorem quo128 (n : Nat) : Int.tdiv (n : Int) 128 = ((n / 128 : Nat) : Int) := by
  rw [Int.tdiv_eq_ediv_of_nonneg (by omega)]
  omega
/-- A number out of bytes: the i-th of its bytes is next, at place pos; what was read makes acc. Value, next place, error. -/
def rdN : List UInt8 → Nat → Nat → Nat → Nat × Nat × Nat
  | [], _, _, _ => (0, 0, 5)
  | b :: l, i, pos, acc =>
    if (i = 9 ∧ 1 < b.toNat) ∨ (0 < i ∧ b.toNat = 0) then (0, 0, 3) else
    if b.toNat < 128 then (acc + b.toNat % 128 * 128 ^ i, pos + 1, 0) else rdN l (i + 1) (pos + 1) (acc + b.toNat % 128 * 128 ^ i)
def rdAt (s : List UInt8) (a : Int) : Nat × Nat × Nat := if a < 0 ∨ (s.length : Int) < a then (0, 0, 1) else rdN (s.drop a.toNat) 0 a.toNat 0
theorem and_byte : ∀ m : Nat, m < 256 → IntKind.u8.wrap ((BitVec.ofInt IntKind.u8.bits (m : Int) &&& BitVec.ofInt IntKind.u8.bits 127).toNat) = ((m % 128 : Nat) : Int) := by decide +kernel
theorem pow128 (i : Nat) : 128 ^ i = 2 ^ (7 * i) := by rw [Nat.pow_mul]
/-- A number is taken. -/
def rdNum (S : List UInt8) (r : Nat × Nat) (most : Nat) : (Nat × Nat) × Nat :=
  if r.2 ≠ 0 then (r, 0) else
  let x := rdAt S r.1
  if x.2.2 ≠ 0 then ((r.1, x.2.2), 0) else if most < x.1 then ((r.1, 2), 0) else ((x.2.1, 0), x.1)
/-- The end. -/
def rdEnd (S : List UInt8) (r : Nat × Nat) : Nat × Nat := if r.2 = 0 ∧ r.1 < S.length then (r.1, 2) else r
theorem rdN_lt : ∀ (l : List UInt8) (i pos acc : Nat), i ≤ 9 → acc < 128 ^ i → (rdN l i pos acc).1 < 18446744073709551616 ∧ (rdN l i pos acc).2.1 ≤ pos + l.length ∧ (rdN l i pos acc).2.2 ≤ 5
  | [], i, pos, acc, _, _ => by simp [rdN]
  | b :: l, i, pos, acc, hi, ha => by
    rw [rdN]
    split
    · simp
    · rename_i hC
      have h128 : b.toNat % 128 < 128 := Nat.mod_lt _ (by omega)
      have hb := b.toNat_lt
      have hlt : acc + b.toNat % 128 * 128 ^ i < 128 ^ (i + 1) := by
        have h8 : b.toNat % 128 * 128 ^ i ≤ 127 * 128 ^ i := Nat.mul_le_mul_right _ (by omega)
        rw [Nat.pow_succ]
        omega
      split
      · refine ⟨?_, by simp only [List.length_cons]; omega, by simp⟩
        simp only
        by_cases h9 : i = 9
        · subst h9
          have h1 : b.toNat ≤ 1 := by omega
          have h2 : b.toNat % 128 * 128 ^ 9 ≤ 1 * 128 ^ 9 := Nat.mul_le_mul_right _ (by omega)
          omega
        · have h6 : 128 ^ (i + 1) ≤ 128 ^ 9 := Nat.pow_le_pow_right (by omega) (by omega)
          omega
      · rename_i hb'
        have h9 : i ≠ 9 := fun h => by omega
        have := rdN_lt l (i + 1) (pos + 1) _ (by omega) hlt
        simp only [List.length_cons]
        omega
theorem rdAt_lt (S : List UInt8) (a : Nat) : (rdAt S a).1 < 18446744073709551616 ∧ (rdAt S a).2.1 ≤ S.length ∧ (rdAt S a).2.2 ≤ 5 := by
  unfold rdAt
  split
  · simp
  · rename_i h
    have := rdN_lt (S.drop a) 0 a 0 (by omega) (by decide)
    rw [List.length_drop] at this
    simp only [Int.toNat_natCast]
    omega

-- RULES
theorem rdNum_le (S : List UInt8) (r : Nat × Nat) (most : Nat) : (rdNum S r most).2 ≤ most := by
  unfold rdNum
  split
  · simp
  · simp only
    split
    · simp
    · split
      · simp
      · simp only; omega
theorem rdNum_at (S : List UInt8) (r : Nat × Nat) (most : Nat) (h : r.1 ≤ S.length) (h' : r.2 ≤ 5) : (rdNum S r most).1.1 ≤ S.length ∧ (rdNum S r most).1.2 ≤ 5 := by
  unfold rdNum
  have := rdAt_lt S r.1
  split
  · exact ⟨h, h'⟩
  · simp only
    split
    · simp only; omega
    · split
      · simp only; omega
      · simp only; omega
theorem u8_ofNat {n : Nat} (h : n < 256) : (UInt8.ofNat n).toNat = n := by
  simp only [UInt8.toNat_ofNat']
  omega
theorem num_pos (n : Nat) : 0 < (num n).length := by
  by_cases h : n < 128
  · rw [num_small h]; simp
  · rw [num_big h]; simp
theorem rdN_num : ∀ (k : Nat) (rest : List UInt8) (i pos acc : Nat), i ≤ 9 → (i = 0 ∨ 0 < k) → acc + k * 128 ^ i < 18446744073709551616 → rdN (num k ++ rest) i pos acc = (acc + k * 128 ^ i, pos + (num k).length, 0) := by
  intro k
  induction k using Nat.strongRecOn with
  | _ k ih =>
    intro rest i pos acc hi hk hb
    by_cases h : k < 128
    · rw [num_small h, List.cons_append, List.nil_append, rdN, u8_ofNat (by omega)]
      have hC : ¬ ((i = 9 ∧ 1 < k) ∨ (0 < i ∧ k = 0)) := by
        intro hC
        rcases hC with ⟨h1, h2⟩ | ⟨h1, h2⟩
        · subst h1
          have : 2 * 128 ^ 9 ≤ k * 128 ^ 9 := Nat.mul_le_mul_right _ (by omega)
          omega
        · omega
      rw [if_neg hC, if_pos h, Nat.mod_eq_of_lt h]
      rfl
    · have hi9 : i ≠ 9 := fun h9 => by
        subst h9
        have : 128 * 128 ^ 9 ≤ k * 128 ^ 9 := Nat.mul_le_mul_right _ (by omega)
        omega
      rw [num_big h, List.cons_append, rdN, u8_ofNat (by omega)]
      rw [if_neg (by omega), if_neg (by omega)]
      have hm : (k % 128 + 128) % 128 = k % 128 := by omega
      rw [hm]
      have hk : acc + k % 128 * 128 ^ i + k / 128 * 128 ^ (i + 1) = acc + k * 128 ^ i := by
        have h1 : k = k % 128 + 128 * (k / 128) := by omega
        have h2 : k * 128 ^ i = k % 128 * 128 ^ i + k / 128 * 128 ^ (i + 1) := by
          conv => lhs; rw [h1]
          rw [Nat.add_mul, Nat.pow_succ, Nat.mul_comm 128 (k / 128), Nat.mul_assoc, Nat.mul_comm 128 (128 ^ i)]
        omega
      rw [ih (k / 128) (by omega) rest (i + 1) (pos + 1) _ (by omega) (Or.inr (by omega)) (by omega), hk, List.length_cons]
      have : pos + 1 + (num (k / 128)).length = pos + ((num (k / 128)).length + 1) := by omega
      rw [this]
theorem rdN_inv : ∀ (l : List UInt8) (i pos acc n p : Nat), i ≤ 9 → rdN l i pos acc = (n, p, 0) → ∃ k, (i = 0 ∨ 0 < k) ∧ n = acc + k * 128 ^ i ∧ p = pos + (num k).length ∧ l = num k ++ l.drop (num k).length
  | [], i, pos, acc, n, p, _, h => by simp [rdN] at h
  | b :: l, i, pos, acc, n, p, hi, h => by
    rw [rdN] at h
    have hb := b.toNat_lt
    have hbb : UInt8.ofNat b.toNat = b := by simp
    split at h
    · simp at h
    · rename_i hC
      split at h
      · rename_i h128
        simp only [Prod.mk.injEq, and_true] at h
        have hm : b.toNat % 128 = b.toNat := Nat.mod_eq_of_lt h128
        refine ⟨b.toNat, by omega, by rw [← hm]; exact h.1.symm, ?_, ?_⟩
        · rw [num_small h128]; exact h.2.symm
        · rw [num_small h128, hbb]; rfl
      · rename_i h128
        have hi9 : i ≠ 9 := by omega
        obtain ⟨k, h1, h2, h3, h4⟩ := rdN_inv l (i + 1) (pos + 1) _ n p (by omega) h
        have hk0 : 0 < k := by omega
        have hn : num (b.toNat % 128 + 128 * k) = b :: num k := by
          rw [num_big (by omega)]
          have e1 : (b.toNat % 128 + 128 * k) % 128 + 128 = b.toNat := by omega
          have e2 : (b.toNat % 128 + 128 * k) / 128 = k := by omega
          rw [e1, e2, hbb]
        refine ⟨b.toNat % 128 + 128 * k, Or.inr (by omega), ?_, ?_, ?_⟩
        · rw [h2, Nat.add_mul, Nat.pow_succ, Nat.mul_comm 128 k, Nat.mul_assoc, Nat.mul_comm 128 (128 ^ i)]
          omega
        · rw [hn, List.length_cons, h3]; omega
        · rw [hn, List.length_cons, List.drop_succ_cons, List.cons_append, ← h4]
theorem rdAt_num {S rest : List UInt8} {a n : Nat} (h : S.drop a = num n ++ rest) (hn : n < 18446744073709551616) : rdAt S a = (n, a + (num n).length, 0) := by
  have hp := num_pos n
  have hl : (S.drop a).length = (num n).length + rest.length := by rw [h, List.length_append]
  rw [List.length_drop] at hl
  unfold rdAt
  rw [if_neg (by omega)]
  simp only [Int.toNat_natCast]
  rw [h, rdN_num n rest 0 a 0 (by omega) (Or.inl rfl) (by omega)]
  simp
theorem rdAt_inv {S : List UInt8} {a n k : Nat} (h : rdAt S a = (n, k, 0)) : k = a + (num n).length ∧ S.drop a = num n ++ S.drop k ∧ k ≤ S.length ∧ n < 18446744073709551616 := by
  have hlt := rdAt_lt S a
  rw [h] at hlt
  unfold rdAt at h
  split at h
  · simp at h
  · rename_i hs
    simp only [Int.toNat_natCast] at h
    obtain ⟨m, _, h2, h3, h4⟩ := rdN_inv _ _ _ _ _ _ (by omega) h
    have : n = m := by simpa using h2
    subst this
    refine ⟨h3, ?_, hlt.2.1, hlt.1⟩
    rw [h3, ← List.drop_drop]
    exact h4
/-- A number that may be is read. -/
theorem rdNum_num {S rest : List UInt8} {a n most : Nat} (h : S.drop a = num n ++ rest) (hn : n ≤ most) (hm : most < 18446744073709551616) : rdNum S (a, 0) most = ((a + (num n).length, 0), n) := by
  unfold rdNum
  rw [if_neg (by simp)]
  simp only
  rw [rdAt_num h (by omega)]
  simp only
  rw [if_neg (by simp), if_neg (by omega)]
/-- A number that was read stands there. -/
theorem rdNum_inv {S : List UInt8} {r : Nat × Nat} {most : Nat} (h : (rdNum S r most).1.2 = 0) :
    r.2 = 0 ∧ (rdNum S r most).1.1 = r.1 + (num (rdNum S r most).2).length ∧ S.drop r.1 = num (rdNum S r most).2 ++ S.drop (rdNum S r most).1.1 ∧ (rdNum S r most).2 ≤ most := by
  have hle := rdNum_le S r most
  revert h hle
  unfold rdNum
  split
  · intro h; simp only at h; contradiction
  · rename_i h0
    simp only
    rcases hx : rdAt S r.1 with ⟨n, k, e⟩
    simp only
    split
    · intro h; simp only at h; contradiction
    · rename_i he
      split
      · intro h; simp at h
      · intro _ hle
        have he0 : e = 0 := by omega
        subst he0
        obtain ⟨h1, h2, _, _⟩ := rdAt_inv hx
        exact ⟨by omega, h1, h2, hle⟩
/-- A text's bytes. -/
def txt (l : List UInt8) : List UInt8 := num l.length ++ l
/-- A text that stands at a place. -/
def rdT (S : List UInt8) (a : Nat) : List UInt8 × Nat × Nat :=
  let x := rdAt S a
  if x.2.2 ≠ 0 then ([], 0, x.2.2) else if S.length - x.2.1 < x.1 then ([], 0, 5) else ((S.take (x.2.1 + x.1)).drop x.2.1, x.2.1 + x.1, 0)
/-- A text is taken. -/
def rdTxt (S : List UInt8) (r : Nat × Nat) (most : Nat) : (Nat × Nat) × List UInt8 :=
  if r.2 ≠ 0 then (r, []) else
  let x := rdT S r.1
  if x.2.2 ≠ 0 then ((r.1, x.2.2), []) else if most < x.1.length then ((r.1, 2), []) else ((x.2.1, 0), x.1)
/-- Yes or no is taken. -/
def rdBool (S : List UInt8) (r : Nat × Nat) : (Nat × Nat) × Bool :=
  if r.2 ≠ 0 then (r, false) else (((rdNum S r 1).1.1, if (rdNum S r 1).1.2 = 2 then 3 else (rdNum S r 1).1.2), (rdNum S r 1).2 == 1)
theorem rdT_len {S : List UInt8} {a : Nat} : (rdT S a).1.length ≤ S.length := by
  unfold rdT
  simp only
  split
  · simp
  · split
    · simp
    · simp; omega
theorem rdT_at {S : List UInt8} {a : Nat} : (rdT S a).2.1 ≤ S.length ∧ (rdT S a).2.2 ≤ 5 := by
  have := rdAt_lt S a
  unfold rdT
  simp only
  split
  · simp only; omega
  · split
    · simp
    · simp only; omega
theorem rdTxt_at (S : List UInt8) (r : Nat × Nat) (most : Nat) (h : r.1 ≤ S.length) : (rdTxt S r most).1.1 ≤ S.length := by
  unfold rdTxt
  have := rdT_at (S := S) (a := r.1)
  split
  · exact h
  · simp only
    split
    · exact h
    · split
      · exact h
      · exact this.1
theorem rdTxt_len (S : List UInt8) (r : Nat × Nat) (most : Nat) : (rdTxt S r most).2.length ≤ S.length := by
  unfold rdTxt
  split
  · simp
  · simp only
    split
    · simp
    · split
      · simp
      · exact rdT_len
theorem rdNum1 (S : List UInt8) (r : Nat × Nat) : (((rdNum S r 1).2 : Int) == 1) = ((rdNum S r 1).2 == 1) := by
  rw [Bool.eq_iff_iff]; simp; omega

-- RULES
-- RULES2
end Go.Proofs.YthnhbejjikgifaaGreatDoor.TV
