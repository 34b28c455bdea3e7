/-
  DX: code; what a function answers.
  DX: functions: what they answer; calls of them.
  DX: calls of functions.
-/
import Derived.Test.YtbnfooeeopmpiaaDXl
namespace Go.Proofs.Ytbnfooeeopmpiaa.TV
open Go Go.RowKit
set_option linter.unusedSimpArgs false
set_option linter.unusedVariables false

section
variable {P : Program} {s s' s2 : St} {V V' V1 V2 V3 : Val} {h h' h1 h2 : UHeap} {e e2 : UEnv} {te te2 : Env}

theorem COk.block {c : Code} {id : Nat} {o : Ex × UEnv × UHeap} (k : COk P c e h o) : COk P (.block id c) e h (exBlock id o.1, o.2) := fun s V te hR r => by
  obtain ⟨s', V', te', k1, k2⟩ := k s V te hR r
  exact ⟨s', V', te', k1.blockX, k2⟩
theorem loopU_ok {a : Code} {f : CodeU} (hf : ∀ e h o, (f e h).Has o → COk P a e h o) : ∀ {n : Nat} {e : UEnv} {h : UHeap} {o : Ex × UEnv × UHeap}, (loopU f n e h).Has o → COk P (.loop a) e h o := by
  have key : ∀ (n : Nat) (e : UEnv) (h : UHeap) (o : Ex × UEnv × UHeap), (loopU f n e h).Has o → ∀ s V te, HRel s V h → URels V e te →
      ∃ k s' V' te', RoundsSim P a k te s o.1 te' s' ∧ HRel s' V' o.2.2 ∧ URels V' o.2.1 te' ∧ Step s V h s' V' o.2.2 ∧ te'.length = te.length ∧ (∀ d, asg a d = false → te'[d]? = te[d]?) ∧ V.tks <+: V'.tks := by
    intro n
    induction n with
    | zero => intro e h o ho; exact ho.elim
    | succ n ih =>
      intro e h o ho s V te hR r
      simp only [loopU] at ho
      rw [Tree.has_bind] at ho
      obtain ⟨b, h1, h2⟩ := ho
      obtain ⟨s1, V1, te1, k1, k2, k3, k4, k5, k6, k7⟩ := hf e h b h1 s V te hR r
      split at h2
      · rename_i e1
        simp only [forceE_eq, forceH_eq] at h2
        obtain ⟨k, s', V', te', q1, q2, q3, q4, q5, q6, q7⟩ := ih _ _ o h2 s1 V1 te1 k2 k3
        rw [e1] at k1
        exact ⟨k + 1, s', V', te', rounds_next k1 q1, q2, q3, k4.trans q4, q5.trans k5, fun d hd => (q6 d hd).trans (k6 d hd), k7.trans q7⟩
      · rename_i hx
        simp only [Tree.Has] at h2
        subst h2
        exact ⟨1, s1, V1, te1, rounds_out hx k1, k2, k3, k4, k5, k6, k7⟩
  intro n e h o ho s V te hR r
  obtain ⟨k, s', V', te', q1, q2⟩ := key n e h o ho s V te hR r
  exact ⟨s', V', te', rounds_loop q1, q2⟩
theorem condU_ok {c : Operand} {a b : Code} {ta tb : Tree (Ex × UEnv × UHeap)} (ha : ∀ o, ta.Has o → COk P a e h o) (hb : ∀ o, tb.Has o → COk P b e h o) {o : Ex × UEnv × UHeap} (ho : (condU e c ta tb).Has o) : COk P (.cond c a b) e h o := by
  intro s V te hR r
  unfold condU at ho
  have hc := evU_rel r c
  split at ho
  · rename_i x e1
    rw [e1] at hc
    cases hcv : ev te c <;> rw [hcv] at hc <;> cases hc
    rcases ho with ⟨rfl, ho⟩ | ⟨rfl, ho⟩
    · obtain ⟨s', V', te', k1, k2, k3, k4, k5, k6, k7⟩ := ha o ho s V te hR r
      exact ⟨s', V', te', .condX hcv k1, k2, k3, k4, k5, fun d hd => k6 d (by simp only [asg, Bool.or_eq_false_iff] at hd; exact hd.1), k7⟩
    · obtain ⟨s', V', te', k1, k2, k3, k4, k5, k6, k7⟩ := hb o ho s V te hR r
      exact ⟨s', V', te', .condX hcv k1, k2, k3, k4, k5, fun d hd => k6 d (by simp only [asg, Bool.or_eq_false_iff] at hd; exact hd.2), k7⟩
  · exact ho.elim
theorem region_ok (hm : P.follows .mixedOrders = true) (hN : Named P) {call : CallU} (hC : CallOkU P call) {id : Nat} {ops : Array Oper} {draw : Bool} {o : Ex × UEnv × UHeap}
    (ho : ((if draw then (if regionOk ops.toList then drawU P call ops.toList ops.toList 0 e h [] [] else .fail) else opsU P call ops.toList ops.toList e h).bind fun r => .leaf (.normal, r.1, r.2)).Has o) : COk P (.region id ops draw) e h o := by
  intro s V te hR r
  rw [Tree.has_bind] at ho
  obtain ⟨b, h1, h2⟩ := ho
  simp only [Tree.Has] at h2
  subst h2
  cases draw with
  | false =>
    simp only [Bool.false_eq_true, if_false] at h1
    obtain ⟨s', V', te', k1, k2⟩ := opsU_ok hN hC hR r h1
    exact ⟨s', V', te', fun g w a hR hE Q hQ => wp_region_list (k1 g w a hR hE Q fun a' w' g' => hQ a' w' g'), k2⟩
  | true =>
    simp only [if_true] at h1
    split at h1
    · rename_i hr
      obtain ⟨s', V', te', items, sts, vs, rd', wr', t, k1, k2, k3, k4, k5, k6, k7, k8⟩ := drawU_ok hN hC hR r h1
      exact ⟨s', V', te', CodeSim.draw hm hr t (drawOk_of t (draw_needs (by simpa using k6) k7 (by simpa using k8))), k1, k2, k3, k4, k5.1, k5.2⟩
    · exact h1.elim
theorem codeU_ok (hm : P.follows .mixedOrders = true) (hN : Named P) {call : CallU} (hC : CallOkU P call) (C : Cuts) (fuel : Nat) : ∀ (c : Code) (e : UEnv) (h : UHeap) (o : Ex × UEnv × UHeap), (codeU P call C fuel c e h).Has o → COk P c e h o
  | .skip, e, h, o, ho => by
    simp only [codeU, Tree.Has] at ho
    subst ho
    exact fun s V te hR r => ⟨s, V, te, fun g w a hR hE Q hQ => wp_skip (hQ a w g (.refl g) hR hE rfl), hR, r, Step.refl _ _ _, rfl, fun _ _ => rfl, List.prefix_rfl⟩
  | .exit id, e, h, o, ho => by
    simp only [codeU, Tree.Has] at ho
    subst ho
    exact fun s V te hR r => ⟨s, V, te, fun g w a hR hE Q hQ => wp_exit (hQ a w g (.refl g) hR hE rfl), hR, r, Step.refl _ _ _, rfl, fun _ _ => rfl, List.prefix_rfl⟩
  | .ret, e, h, o, ho => by
    simp only [codeU, Tree.Has] at ho
    subst ho
    exact fun s V te hR r => ⟨s, V, te, fun g w a hR hE Q hQ => wp_ret (hQ a w g (.refl g) hR hE rfl), hR, r, Step.refl _ _ _, rfl, fun _ _ => rfl, List.prefix_rfl⟩
  | .seq a b, e, h, o, ho => by
    simp only [codeU] at ho
    rw [Tree.has_bind] at ho
    obtain ⟨x, h1, h2⟩ := ho
    have ka := codeU_ok hm hN hC C fuel a e h x h1
    intro s V te hR r
    obtain ⟨s1, V1, te1, k1, k2, k3, k4, k5, k6, k7⟩ := ka s V te hR r
    split at h2
    · rename_i e1
      simp only [goU_eq] at h2
      obtain ⟨s', V', te', q1, q2, q3, q4, q5, q6, q7⟩ := codeU_ok hm hN hC C fuel b _ _ o h2 s1 V1 te1 k2 k3
      rw [e1] at k1
      exact ⟨s', V', te', k1.seq q1, q2, q3, k4.trans q4, q5.trans k5, fun d hd => by
        simp only [asg, Bool.or_eq_false_iff] at hd
        exact (q6 d hd.2).trans (k6 d hd.1), k7.trans q7⟩
    · rename_i hx
      simp only [Tree.Has] at h2
      subst h2
      exact ⟨s1, V1, te1, CodeSim.seq_out hx k1, k2, k3, k4, k5, fun d hd => by
        simp only [asg, Bool.or_eq_false_iff] at hd
        exact k6 d hd.1, k7⟩
  | .cond c a b, e, h, o, ho => by
    simp only [codeU] at ho
    split at ho
    · exact joinU_ok (fun e h o ho => condU_ok (fun o ho => codeU_ok hm hN hC C fuel a e h o ho) (fun o ho => codeU_ok hm hN hC C fuel b e h o ho) ho) ho
    · exact condU_ok (fun o ho => codeU_ok hm hN hC C fuel a e h o ho) (fun o ho => codeU_ok hm hN hC C fuel b e h o ho) ho
  | .block id a, e, h, o, ho => by
    have gen : ∀ {t : Tree (Ex × UEnv × UHeap)}, (∀ o, t.Has o → COk P a e h o) → (t.bind fun o => match o.1 with
        | .exit i => if i = id then .leaf (.normal, o.2.1, o.2.2) else .leaf o
        | _ => .leaf o).Has o → COk P (.block id a) e h o := by
      intro t ht ho
      rw [Tree.has_bind] at ho
      obtain ⟨x, h1, h2⟩ := ho
      have k := (ht x h1).block (id := id)
      have : o = (exBlock id x.1, x.2) := by
        obtain ⟨x1, x2⟩ := x
        cases x1 with
        | normal => simp only [Tree.Has] at h2; subst h2; rfl
        | exit i =>
          simp only at h2
          split at h2
          · rename_i hi; simp only [Tree.Has] at h2; subst h2; simp [exBlock, hi]
          · rename_i hi; simp only [Tree.Has] at h2; subst h2; simp [exBlock, hi]
        | ret => simp only [Tree.Has] at h2; subst h2; rfl
      rw [this]
      exact k
    cases a with
    | loop a =>
      simp only [codeU] at ho
      split at ho
      · exact cutU_ok (fun e h o ho => codeU_ok hm hN hC C fuel a e h o ho) ho
      · exact gen (fun o ho => loopU_ok (fun e h o ho => codeU_ok hm hN hC C fuel a e h o ho) ho) ho
    | skip => exact gen (fun o ho => codeU_ok hm hN hC C fuel _ e h o ho) ho
    | region id' ops draw => exact gen (fun o ho => codeU_ok hm hN hC C fuel _ e h o ho) ho
    | seq a b => exact gen (fun o ho => codeU_ok hm hN hC C fuel _ e h o ho) ho
    | cond c a b => exact gen (fun o ho => codeU_ok hm hN hC C fuel _ e h o ho) ho
    | block id' a => exact gen (fun o ho => codeU_ok hm hN hC C fuel _ e h o ho) ho
    | rangeFunc f ps a b => exact gen (fun o ho => codeU_ok hm hN hC C fuel _ e h o ho) ho
    | exit id' => exact gen (fun o ho => codeU_ok hm hN hC C fuel _ e h o ho) ho
    | scope b => exact gen (fun o ho => codeU_ok hm hN hC C fuel _ e h o ho) ho
    | label l => exact gen (fun o ho => codeU_ok hm hN hC C fuel _ e h o ho) ho
    | goto l => exact gen (fun o ho => codeU_ok hm hN hC C fuel _ e h o ho) ho
    | ret => exact gen (fun o ho => codeU_ok hm hN hC C fuel _ e h o ho) ho
    | refuse w => exact gen (fun o ho => codeU_ok hm hN hC C fuel _ e h o ho) ho
  | .loop a, e, h, o, ho => by
    simp only [codeU] at ho
    exact loopU_ok (fun e h o ho => codeU_ok hm hN hC C fuel a e h o ho) ho
  | .region id ops draw, e, h, o, ho => by
    simp only [codeU] at ho
    split at ho
    · exact joinU_ok (fun e h o ho => region_ok hm hN hC ho) ho
    · exact region_ok hm hN hC ho
  | .rangeFunc f ps a b, e, h, o, ho => by simp only [codeU] at ho; exact ho.elim
  | .scope b, e, h, o, ho => by simp only [codeU] at ho; exact ho.elim
  | .label l, e, h, o, ho => by simp only [codeU] at ho; exact ho.elim
  | .goto l, e, h, o, ho => by simp only [codeU] at ho; exact ho.elim
  | .refuse w, e, h, o, ho => by simp only [codeU] at ho; exact ho.elim

theorem resultsU_rel (hR : HRel s V h) (r : URels V e te) : ∀ (l : List ResultVar) (us : List UV), resultsU P h e l = some us → ∃ vs, resultsT P s te l = some vs ∧ URels V us vs
  | [], us, hu => by cases hu; exact ⟨[], rfl, .nil⟩
  | .tmp t :: l, us, hu => by
    simp only [resultsU] at hu
    split at hu
    · rename_i us' h1
      cases hu
      obtain ⟨vs, h2, h3⟩ := resultsU_rel hR r l us' h1
      exact ⟨te.at t :: vs, by simp only [resultsT, h2], .cons _ _ _ _ (r.at_ t) h3⟩
    · cases hu
  | .cell a t :: l, us, hu => by
    simp only [resultsU] at hu
    split at hu
    · rename_i u us' h0 h1
      cases hu
      obtain ⟨vs, h2, h3⟩ := resultsU_rel hR r l us' h1
      obtain ⟨v, h4, h5⟩ := load_rel hR (r.at_ a) h0
      have h6 : loadT P s t (te.at a) = some v := h5 s fun _ _ _ _ _ => rfl
      exact ⟨v :: vs, by simp only [resultsT, h2, h6], .cons _ _ _ _ h4 h3⟩
    · cases hu
end
end Go.Proofs.Ytbnfooeeopmpiaa.TV

namespace Go.Proofs.Ytbnfooeeopmpiaa.TV
open Go Go.RowKit
set_option linter.unusedSimpArgs false
set_option linter.unusedVariables false

def rowTs (s : St) (V : Val) (K : Nat) : List TV := match V.ids[K]? with
  | some o => (match s.objs.get o with
    | some (.cells ts _) => ts
    | _ => [])
  | none => []
def outUs (g : Sig) (vs : List UV) (h2 : UHeap) (m : List Nat) : List UV := vs ++ (g.rw.map fun p => cellAt h2 p.1 p.2.1) ++ (m.drop g.rows.length).flatMap (rowCs h2)
def outTs (g : Sig) (rvs : List TV) (s2 : St) (V2 : Val) (m : List Nat) : List TV := rvs ++ (g.rw.map fun p => cellT s2 V2 p.1 p.2.1) ++ (m.drop g.rows.length).flatMap (rowTs s2 V2)
def tupT (vs : List TV) : TV := match vs with
  | [v] => v
  | vs => .tup vs
/-- What a function has answered. -/
structure Answer (g : Sig) (r : dens g.outP) (s : St) (V : Val) (h : UHeap) (s2 : St) (v : TV) (V2 : Val) (h2 : UHeap) (vs : List UV) (rvs : List TV) (m : List Nat) (tips2 : List (Option TypeId)) : Prop where
  rel : HRel s2 V2 h2
  step : Step s V h s2 V2 h2
  outs : URels V2 vs rvs
  len : vs.length = g.outs.length
  val : v = tupT rvs
  pre : List.range g.rows.length <+: m
  mlen : m.length = g.rows.length + g.news.length
  nodup : m.Nodup
  news : ∀ (i K : Nat) (n : List PC × TypeId), (m.drop g.rows.length)[i]? = some K → g.news[i]? = some n → rowTy h2 K = some n.2 ∧ (rowCs h2 K).length = n.1.length
  ex : exL m h2.tips g.outP (outUs g vs h2 m) = some (r, tips2)
def FnOk (P : Program) (f : FuncId) (g : Sig) (F : dens g.inP → Option (dens g.outP)) : Prop :=
  ∀ d r, F d = some r → ∀ s V tvs, HRel s V (g.start d).2 → URels V (g.start d).1 tvs → ∃ s2 v V2 h2 vs rvs m tips2, Sim P f tvs s v s2 ∧ Answer g r s V (g.start d).2 s2 v V2 h2 vs rvs m tips2

section
variable {P : Program} {s s' s2 : St} {V V' V1 V2 V3 : Val} {h h' h1 h2 : UHeap} {e e2 : UEnv} {te te2 : Env}

theorem findRows_ok {vals : List UV} : ∀ {ps : List Path} {m0 m : List Nat}, findRows vals h ps m0 = some m → m0 <+: m ∧ m.length = m0.length + ps.length ∧ (m0.Nodup → m.Nodup)
  | [], m0, m, hm => by cases hm; exact ⟨List.prefix_rfl, rfl, fun h => h⟩
  | p :: ps, m0, m, hm => by
    simp only [findRows] at hm
    split at hm
    · rename_i K hK
      split at hm
      · cases hm
      · rename_i hc
        obtain ⟨h1, h2, h3⟩ := findRows_ok hm
        refine ⟨(List.prefix_append _ _).trans h1, by rw [h2]; simp; omega, fun hn => h3 ?_⟩
        rw [List.nodup_append]
        refine ⟨hn, by simp, fun a ha b hb => ?_⟩
        simp at hb
        subst hb
        intro e
        subst e
        exact hc (List.contains_iff_mem.2 ha)
    · cases hm
theorem resultT_of {l : List ResultVar} {te : Env} {vs : List TV} (h1 : resultsT P s te l = some vs) : resultT P s te l = some (tupT vs) := by
  unfold resultT tupT
  rw [h1]
  match vs with
  | [] => rfl
  | [v] => rfl
  | a :: b :: l => rfl
theorem fn_ok (hm : P.follows .mixedOrders = true) (hN : Named P) {call : CallU} (hC : CallOkU P call) {C : Cuts} {fuel : Nat} {g : Sig} {f : FuncId} {fn : Func} {c : Code} (hf : P.funcs[f]? = some fn) (hb : fn.body = some c) : FnOk P f g (fnU P call C fuel g fn c) := by
  intro d r hr s V tvs hR hv
  unfold fnU at hr
  simp only [forceE_eq, forceH_eq] at hr
  rw [Tree.run_has] at hr
  obtain ⟨o, h1, h2⟩ := hr
  have hlen := hv.length
  have henv : URels V ((g.start d).1 ++ List.replicate (fn.ntmps - (g.start d).1.length) undefU) (tvs ++ List.replicate (fn.ntmps - tvs.length) undefT) := by
    rw [hlen]
    exact hv.append (URels.replicate _ (.tup [] [] .nil))
  obtain ⟨s2, V2, te2, k1, k2, k3, k4, k5, k6, _⟩ := codeU_ok hm hN hC C fuel c _ _ o h1 s V _ hR henv
  have main : ∀ {x : Ex}, o.1 = x → (∀ id, x ≠ .exit id) → (match resultsU P o.2.2 o.2.1 fn.results.toList with
      | some vs => if vs.length = g.outs.length ∧ g.newFrom.length = g.news.length then
          (match findRows (vs ++ g.rw.map fun p => cellAt o.2.2 p.1 p.2.1) o.2.2 g.newFrom (List.range g.rows.length) with
          | some m => if (m.drop g.rows.length).zip g.news |>.all fun p => rowTy o.2.2 p.1 == some p.2.2 && (rowCs o.2.2 p.1).length == p.2.1.length then
              (exL m o.2.2.tips g.outP (vs ++ (g.rw.map fun p => cellAt o.2.2 p.1 p.2.1) ++ (m.drop g.rows.length).flatMap (rowCs o.2.2))).map (·.1) else none
          | none => none) else none
      | none => none) = some r → ∃ s2 v V2 h2 vs rvs m tips2, Sim P f tvs s v s2 ∧ Answer g r s V (g.start d).2 s2 v V2 h2 vs rvs m tips2 := by
    intro x hx hne h2
    split at h2
    · rename_i vs hvs
      split at h2
      · rename_i hl
        obtain ⟨hl, hnl⟩ := hl
        split at h2
        · rename_i m hm'
          split at h2
          · rename_i hall
            obtain ⟨⟨r', tips2⟩, h3, h4⟩ := Option.map_eq_some_iff.1 h2
            cases h4
            obtain ⟨rvs, q1, q2⟩ := resultsU_rel k2 k3 _ vs hvs
            obtain ⟨q3, q4, q5⟩ := findRows_ok hm'
            refine ⟨s2, tupT rvs, V2, o.2.2, vs, rvs, m, tips2, ?_, ⟨k2, k4, q2, hl, rfl, q3, by rw [q4]; simp [hnl], q5 List.nodup_range, fun i K n h5 h6 => ?_, h3⟩⟩
            · refine (Does.body hf hb (Q := fun v t => v = tupT rvs ∧ t = s2) ⟨o.1, te2, s2, k1, ?_⟩).sim
              cases hx1 : o.1 with
              | exit id => exact absurd (hx.symm.trans hx1) (hne id)
              | normal => exact ⟨_, resultT_of q1, rfl, rfl⟩
              | ret => exact ⟨_, resultT_of q1, rfl, rfl⟩
            · rw [List.all_eq_true] at hall
              have hz : ((m.drop g.rows.length).zip g.news)[i]? = some (K, n) := by rw [List.getElem?_zip_eq_some]; exact ⟨h5, h6⟩
              have := hall (K, n) (List.mem_of_getElem? hz)
              simpa using this
          · cases h2
        · cases h2
      · cases h2
    · cases h2
  split at h2
  · cases h2
  · rename_i hx
    exact main rfl (fun id hid => hx id hid) h2

theorem rowCs_rel (hR : HRel s V h) (K : Nat) : URels V (rowCs h K) (rowTs s V K) := by
  unfold rowCs rowTs
  cases hr : h.objs[K]? with
  | none =>
    have : V.ids[K]? = none := by rw [List.getElem?_eq_none_iff, hR.len]; exact List.getElem?_eq_none_iff.1 hr
    rw [this]
    exact .nil
  | some r =>
    have hlt : K < V.ids.length := by rw [hR.len]; exact (List.getElem?_eq_some_iff.1 hr).1
    have hk : V.ids[K]? = some V.ids[K] := List.getElem?_eq_getElem hlt
    obtain ⟨ts, h1, h2⟩ := hR.obj K _ r hk hr
    rw [hk]
    simp only
    rw [h1]
    exact h2
theorem rows_rel : ∀ {rows : List (List RC × TypeId)} {us : List UV} {tss : List (List TV)}, URels V us tss.flatten → tss.length = rows.length → (∀ (k : Nat) (ts : List TV) (rc : List RC × TypeId), tss[k]? = some ts → rows[k]? = some rc → ts.length = rc.1.length) →
    (rowsOf rows us).length = rows.length ∧ ∀ (k : Nat) (r : Row), (rowsOf rows us)[k]? = some r → ∃ ts rc, tss[k]? = some ts ∧ rows[k]? = some rc ∧ r.ty = rc.2 ∧ r.fz = rc.1.map RC.frozen ∧ URels V r.cs ts
  | [], us, tss, _, _, _ => ⟨rfl, fun k r hr => by simp [rowsOf] at hr⟩
  | rc :: rows, us, [], _, h, _ => by simp at h
  | rc :: rows, us, ts :: tss, hu, hl, hk => by
    have h0 := hk 0 ts rc rfl rfl
    simp only [List.flatten_cons] at hu
    have h1 := hu.take rc.1.length
    have h2 := hu.drop rc.1.length
    rw [← h0, List.take_left] at h1
    rw [← h0, List.drop_left] at h2
    obtain ⟨h3, h4⟩ := rows_rel (rows := rows) (tss := tss) h2 (by simpa using hl) (fun k ts' rc' e1 e2 => hk (k + 1) ts' rc' (by simpa using e1) (by simpa using e2))
    refine ⟨by simp only [rowsOf, List.length_cons]; rw [← h0, h3], fun k r hr => ?_⟩
    simp only [rowsOf] at hr
    cases k with
    | zero =>
      simp at hr
      subst hr
      exact ⟨ts, rc, rfl, rfl, rfl, rfl, by rw [← h0]; exact h1⟩
    | succ k =>
      simp only [List.getElem?_cons_succ] at hr
      rw [← h0] at hr
      obtain ⟨ts', rc', e1, e2, e3⟩ := h4 k r hr
      exact ⟨ts', rc', by simpa using e1, by simpa using e2, e3⟩
theorem rwGo_off {k : Nat} : ∀ {l : List RC} {off0 i : Nat} {rc : RC}, l[i]? = some rc → Off (rwGo k off0 l) k (off0 + i) → rc.frozen = true
  | [], off0, i, rc, hi, _ => by simp at hi
  | x :: l, off0, 0, rc, hi, ho => by
    simp at hi
    subst hi
    cases x with
    | rw p q => exact absurd ⟨rfl, rfl⟩ (ho (k, off0, q) (by simp [rwGo]))
    | ign => rfl
    | ro p => rfl
  | x :: l, off0, i + 1, rc, hi, ho => by
    refine rwGo_off (k := k) (l := l) (off0 := off0 + 1) (i := i) (by simpa using hi) fun p hp => ?_
    rw [show off0 + 1 + i = off0 + (i + 1) by omega]
    refine ho p ?_
    cases x <;> simp only [rwGo] <;> first | exact List.mem_cons_of_mem _ hp | exact hp
theorem rwGo_mem {k : Nat} : ∀ {l : List RC} {off0 : Nat} {p : Nat × Nat × PC}, p ∈ rwGo k off0 l → p.1 = k
  | [], off0, p, h => by cases h
  | x :: l, off0, p, h => by
    cases x with
    | rw a q =>
      simp only [rwGo] at h
      rcases List.mem_cons.1 h with rfl | h
      · rfl
      · exact rwGo_mem h
    | ign => exact rwGo_mem (by simpa [rwGo] using h)
    | ro a => exact rwGo_mem (by simpa [rwGo] using h)
theorem rwRows_off : ∀ {rows : List (List RC × TypeId)} {k0 k i : Nat} {r : List RC × TypeId} {rc : RC}, rows[k]? = some r → r.1[i]? = some rc → Off (rwRows k0 rows) (k0 + k) i → rc.frozen = true
  | [], k0, k, i, r, rc, hk, _, _ => by simp at hk
  | x :: rows, k0, 0, i, r, rc, hk, hi, ho => by
    simp at hk
    subst hk
    refine rwGo_off (k := k0) (off0 := 0) hi fun p hp => ?_
    rw [Nat.zero_add]
    exact ho p (by simp only [rwRows]; exact List.mem_append_left _ hp)
  | x :: rows, k0, k + 1, i, r, rc, hk, hi, ho => by
    refine rwRows_off (rows := rows) (k0 := k0 + 1) (k := k) (by simpa using hk) hi fun p hp => ?_
    rw [show k0 + 1 + k = k0 + (k + 1) by omega]
    exact ho p (by simp only [rwRows]; exact List.mem_append_right _ hp)
theorem rwRows_mem : ∀ {rows : List (List RC × TypeId)} {k0 : Nat} {p : Nat × Nat × PC}, p ∈ rwRows k0 rows → k0 ≤ p.1 ∧ p.1 < k0 + rows.length
  | [], k0, p, h => by cases h
  | x :: rows, k0, p, h => by
    simp only [rwRows] at h
    rcases List.mem_append.1 h with h | h
    · have := rwGo_mem h
      simp; omega
    · obtain ⟨h1, h2⟩ := rwRows_mem h
      simp; omega
end
end Go.Proofs.Ytbnfooeeopmpiaa.TV

namespace Go.Proofs.Ytbnfooeeopmpiaa.TV
open Go Go.RowKit
set_option linter.unusedSimpArgs false
set_option linter.unusedVariables false

section
variable {P : Program} {s s' s2 : St} {V V' V1 V2 V3 : Val} {h h' h1 h2 : UHeap} {e e2 : UEnv} {te te2 : Env}

theorem rowTs_length (hR : HRel s V h) (K : Nat) : (rowTs s V K).length = (rowCs h K).length := ((rowCs_rel hR K).length).symm
theorem urels_flat {l : List Nat} (hR : HRel s V h) : URels V (l.flatMap (rowCs h)) (l.flatMap (rowTs s V)) := by
  induction l with
  | nil => exact .nil
  | cons K l ih => simp only [List.flatMap_cons]; exact (rowCs_rel hR K).append ih
theorem flat_map (l : List Nat) (f : Nat → List TV) : l.flatMap f = (l.map f).flatten := by rw [List.flatMap_def]
theorem rowTy_get {K : Nat} {t : TypeId} (h0 : rowTy h K = some t) : ∃ r, h.objs[K]? = some r ∧ r.ty = t := by
  unfold rowTy at h0
  exact Option.map_eq_some_iff.1 h0
theorem rowCs_of {K : Nat} {r : Row} (h0 : h.objs[K]? = some r) : rowCs h K = r.cs := by simp [rowCs, h0]
theorem rowTs_of (hR : HRel s V h) {K o : Nat} {ts : List TV} {t : TypeId} (hk : V.ids[K]? = some o) (hg : s.objs.get o = some (.cells ts t)) : rowTs s V K = ts := by simp [rowTs, hk, hg]
theorem cellT_of {K o off : Nat} {ts : List TV} {t : TypeId} {x : TV} (hk : V.ids[K]? = some o) (hg : s.objs.get o = some (.cells ts t)) (hx : ts[off]? = some x) : cellT s V K off = x := by simp [cellT, hk, hg, List.getD_eq_getElem?_getD, hx]

theorem callOf_ok {f : FuncId} {g : Sig} {F : dens g.inP → Option (dens g.outP)} (hF : FnOk P f g F) {args : List UV} {u : UV × UHeap × List Nat} (hu : (callOf g F args h).Has u) {targs : List TV} (hR : HRel s V h) (hv : URels V args targs) :
    ∃ s' V' v, Sim P f targs s v s' ∧ URel V' u.1 v ∧ Eff s V h u.2.2 s' V' u.2.1 := by
  unfold callOf at hu
  split at hu
  · exact hu.elim
  · rename_i m hm
    split at hu
    · rename_i hc
      simp only [Bool.and_eq_true, decide_eq_true_eq, beq_iff_eq, List.all_eq_true] at hc
      obtain ⟨⟨⟨hal, hml⟩, hty⟩, hfree⟩ := hc
      split at hu
      · exact hu.elim
      · rename_i d tips hx
        obtain ⟨r, hr, hu⟩ := hu
        simp only [Tree.Has] at hu
        obtain ⟨_, _, hnd⟩ := findRows_ok hm
        have hnd := hnd List.nodup_nil
        have rowK : ∀ (k K : Nat) (rc : List RC × TypeId), m[k]? = some K → g.rows[k]? = some rc → ∃ r0 o ts, h.objs[K]? = some r0 ∧ r0.ty = rc.2 ∧ r0.cs.length = rc.1.length ∧ V.ids[K]? = some o ∧ s.objs.get o = some (.cells ts r0.ty) ∧ URels V r0.cs ts ∧ rowTs s V K = ts := by
          intro k K rc hk hrc
          have hz : (m.zip g.rows)[k]? = some (K, rc) := by rw [List.getElem?_zip_eq_some]; exact ⟨hk, hrc⟩
          have := hty (K, rc) (List.mem_of_getElem? hz)
          simp only at this
          obtain ⟨r0, h1, h2⟩ := rowTy_get this.1
          have hlt : K < V.ids.length := by rw [hR.len]; exact (List.getElem?_eq_some_iff.1 h1).1
          have ho : V.ids[K]? = some V.ids[K] := List.getElem?_eq_getElem hlt
          obtain ⟨ts, h3, h4⟩ := hR.obj K _ r0 ho h1
          exact ⟨r0, _, ts, h1, h2, by rw [← this.2, rowCs_of h1], ho, h3, h4, rowTs_of hR ho h3⟩
        -- what is handed over
        have hl := exL_less hx
        have hin : URels V (args ++ m.flatMap (rowCs h)) (targs ++ m.flatMap (rowTs s V)) := hv.append (urels_flat hR)
        obtain ⟨tk1, tk2⟩ := exL_toks (V := V) hR.tinj hx hin
        generalize hV1 : (⟨m.map (fun K => V.ids.getD K 0), tksOf g.inP (targs ++ m.flatMap (rowTs s V))⟩ : Val) = V1
        have hid1 : ∀ (k K : Nat), m[k]? = some K → ∃ o, V.ids[K]? = some o ∧ V1.ids[k]? = some o := fun k K hk => by
          have hlt : k < g.rows.length := by rw [← hml]; exact (List.getElem?_eq_some_iff.1 hk).1
          obtain ⟨r0, o, ts, _, _, _, ho, _⟩ := rowK k K _ hk (List.getElem?_eq_getElem hlt)
          refine ⟨o, ho, ?_⟩
          subst hV1
          simp only
          rw [List.getElem?_map, hk, Option.map_some, List.getD_eq_getElem?_getD, ho]
          rfl
        have hl1 : V1.ids.length = g.rows.length := by subst hV1; simp [hml]
        have hid1' : ∀ (k o : Nat), V1.ids[k]? = some o → ∃ K, m[k]? = some K ∧ V.ids[K]? = some o := fun k o hk => by
          have hlt : k < m.length := by rw [hml, ← hl1]; exact (List.getElem?_eq_some_iff.1 hk).1
          obtain ⟨o', h3, h4⟩ := hid1 k _ (List.getElem?_eq_getElem hlt)
          rw [hk] at h4
          cases h4
          exact ⟨_, List.getElem?_eq_getElem hlt, h3⟩
        have sub1 : ∀ o ∈ V1.ids, o ∈ V.ids := fun o ho => by
          obtain ⟨k, hk⟩ := List.mem_iff_getElem?.1 ho
          obtain ⟨K, _, h4⟩ := hid1' k o hk
          exact List.mem_of_getElem? h4
        have hus : URels V1 (injL (List.range g.rows.length) 0 g.inP d) (targs ++ m.flatMap (rowTs s V)) := by
          refine exL_rel (m' := List.range g.rows.length) (fun k K o h3 h4 => ?_) hx hin fun i t hi => ?_
          · obtain ⟨o', h5, h6⟩ := hid1 k K h3
            rw [h4] at h5
            cases h5
            have hlt : k < g.rows.length := by rw [← hml]; exact (List.getElem?_eq_some_iff.1 h3).1
            rw [List.getD_eq_getElem?_getD, List.getElem?_range hlt]
            exact h6
          · subst hV1
            simpa using hi
        have hargs : URels V1 (g.start d).1 targs := by
          have := hus.take g.ins.length
          rw [← hal, hv.length, List.take_left] at this
          simp only [Sig.start]
          rw [← hal, hv.length]
          exact this
        have hrowsU : URels V1 ((injL (List.range g.rows.length) 0 g.inP d).drop g.ins.length) (m.map (rowTs s V)).flatten := by
          have := hus.drop g.ins.length
          rw [← hal, hv.length, List.drop_left] at this
          rw [← hal, hv.length, ← flat_map]
          exact this
        obtain ⟨rl1, rl2⟩ := rows_rel (rows := g.rows) hrowsU (by simp [hml]) (fun k ts rc h3 h4 => by
          rw [List.getElem?_map] at h3
          obtain ⟨K, h5, h6⟩ := Option.map_eq_some_iff.1 h3
          obtain ⟨r0, o, ts', _, _, h7, _, _, h8, h9⟩ := rowK k K rc h5 h4
          rw [← h6, h9, ← h8.length, h7])
        have tl : (tksOf g.inP (targs ++ m.flatMap (rowTs s V))).length = (toksL g.inP).length := tksOf_length (by rw [← hin.length, exL_length hx])
        have hR1 : HRel s V1 (g.start d).2 := by
          refine ⟨?_, ?_, fun o ho => hR.lt o (sub1 o ho), fun k o r1 hk h3 => ?_, ?_, fun j i n e0 h3 h4 => ?_, fun j j' i n n' e0 e1 h3 h4 h5 h6 => ?_⟩
          · simp only [Sig.start]; rw [rl1, hl1]
          · rw [List.nodup_iff_pairwise_ne]
            rw [List.pairwise_iff_getElem]
            intro i j hi hj hij he
            obtain ⟨K, h3, h4⟩ := hid1' i _ (List.getElem?_eq_getElem hi)
            obtain ⟨K', h5, h6⟩ := hid1' j _ (List.getElem?_eq_getElem hj)
            rw [he] at h4
            have := ids_inj hR h4 h6
            subst this
            have := nodup_inj hnd h3 h5
            omega
          · simp only [Sig.start] at h3
            obtain ⟨ts, rc, h4, h5, h6, _, h7⟩ := rl2 k r1 h3
            rw [List.getElem?_map] at h4
            obtain ⟨K, h8, h9⟩ := Option.map_eq_some_iff.1 h4
            obtain ⟨K', h10, h11⟩ := hid1' k o hk
            rw [h8] at h10
            cases h10
            obtain ⟨r0, o', ts', _, q2, _, q4, q5, _, q7⟩ := rowK k K rc h8 h5
            rw [h11] at q4
            cases q4
            exact ⟨ts, by rw [← h9, q7, h6, ← q2]; exact q5, h7⟩
          · subst hV1; simp only [Sig.start]; exact tl
          · subst hV1
            simp only [Sig.start] at h3 h4
            obtain ⟨e1, j1, q1, q2, q3, _⟩ := tk1 j i n h3
            rw [h4] at q1
            cases q1
            exact hR.tips j1 i n _ q2 q3
          · subst hV1
            exact tk2 j j' i n n' h3 h4
        obtain ⟨s2, v, V2, h2, vs, rvs, m2, tips2, hsim, A⟩ := hF d r hr s V1 targs hR1 hargs
        -- what comes back
        have hl2 : V2.ids.length = h2.objs.length := A.rel.len
        have hout : URels V2 (outUs g vs h2 m2) (outTs g rvs s2 V2 m2) := (A.outs.append (URels.map fun p _ => cellAt_rel A.rel _ _)).append (urels_flat A.rel)
        have pre2 : ∀ k, k < g.rows.length → m2[k]? = some k := fun k hk => prefix_get A.pre (List.getElem?_range hk)
        generalize hnew : (m2.drop g.rows.length).map (fun K => V2.ids.getD K 0) = newids
        have hnewlen : newids.length = g.news.length := by subst hnew; simp [A.mlen]
        have newK : ∀ (i : Nat), i < g.news.length → ∃ K r0 o ts n, m2[g.rows.length + i]? = some K ∧ h2.objs[K]? = some r0 ∧ g.news[i]? = some n ∧ r0.ty = n.2 ∧ r0.cs.length = n.1.length ∧ V2.ids[K]? = some o ∧ newids[i]? = some o ∧ s2.objs.get o = some (.cells ts r0.ty) ∧ URels V2 r0.cs ts ∧ rowTs s2 V2 K = ts ∧ s.n ≤ o := by
          intro i hi
          have hlt : g.rows.length + i < m2.length := by rw [A.mlen]; omega
          have hK : m2[g.rows.length + i]? = some m2[g.rows.length + i] := List.getElem?_eq_getElem hlt
          have hd : (m2.drop g.rows.length)[i]? = some m2[g.rows.length + i] := by rw [List.getElem?_drop]; exact hK
          obtain ⟨h3, h4⟩ := A.news i _ _ hd (List.getElem?_eq_getElem hi)
          obtain ⟨r0, h5, h6⟩ := rowTy_get h3
          have hltK : m2[g.rows.length + i] < V2.ids.length := by rw [hl2]; exact (List.getElem?_eq_some_iff.1 h5).1
          have ho : V2.ids[m2[g.rows.length + i]]? = some V2.ids[m2[g.rows.length + i]] := List.getElem?_eq_getElem hltK
          obtain ⟨ts, h7, h8⟩ := A.rel.obj _ _ r0 ho h5
          have hge : s.n ≤ V2.ids[m2[g.rows.length + i]] := by
            rcases A.step.new _ (List.mem_of_getElem? ho) with h9 | h9
            · obtain ⟨k, hk⟩ := List.mem_iff_getElem?.1 h9
              have h10 := prefix_get A.step.ids hk
              have := ids_inj A.rel ho h10
              have hk' : k < g.rows.length := by rw [← hl1]; exact (List.getElem?_eq_some_iff.1 hk).1
              have := nodup_inj A.nodup (i := g.rows.length + i) (j := k) (a := k) (by rw [hK, this]) (pre2 k hk')
              omega
            · exact h9
          refine ⟨_, r0, _, ts, _, hK, h5, List.getElem?_eq_getElem hi, h6, by rw [← h4, rowCs_of h5], ho, ?_, h7, h8, rowTs_of A.rel ho h7, hge⟩
          subst hnew
          rw [List.getElem?_map, hd, Option.map_some, List.getD_eq_getElem?_getD, ho]
          rfl
        generalize hV3 : (⟨V.ids ++ newids, V.tks ++ tksOf g.outP (outTs g rvs s2 V2 m2)⟩ : Val) = V3
        have hle : V.le V3 := by subst hV3; exact ⟨List.prefix_append _ _, List.prefix_append _ _⟩
        have alive1 : ∀ i, Alive V1 (g.start d).2 i → Alive V h i ∧ ¬ Alive V ⟨h.objs, tips⟩ i := fun i hi => by
          obtain ⟨j, n, e0, h3, h4⟩ := hi
          subst hV1
          obtain ⟨e1, j1, k4, k5, k6, k7⟩ := tk1 j i n h3
          refine ⟨⟨j1, n, e1, k5, k6⟩, fun hh => ?_⟩
          obtain ⟨j2, n2, e2, h6, h7⟩ := hh
          have := hR.tinj j1 j2 i n n2 e1 e2 k5 h6 k6 (hl.2 _ _ h7)
          subst this
          exact k7 _ h7
        have T := tips_back hR hl alive1 A.step A.rel A.ex hout (V.ids ++ newids)
        rw [hV3] at T
        generalize hmm : m ++ (List.range g.news.length).map (h.objs.length + ·) = m' at hu
        have hus3 : URels V3 (injL m' tips.length g.outP r) (outTs g rvs s2 V2 m2) := by
          refine exL_rel (m' := m') (fun k K o h3 h4 => ?_) A.ex hout fun i t hi => ?_
          · subst hV3 hmm
            simp only
            by_cases hk : k < g.rows.length
            · have h5 := pre2 k hk
              rw [h3] at h5
              cases h5
              have hk1 : k < V1.ids.length := by omega
              have h6 := prefix_get A.step.ids (List.getElem?_eq_getElem hk1)
              rw [h4] at h6
              obtain ⟨K', h7, h8⟩ := hid1' k o (by rw [List.getElem?_eq_getElem hk1, ← h6])
              have hidx : (m ++ (List.range g.news.length).map (h.objs.length + ·)).getD k 0 = K' := by
                rw [List.getD_eq_getElem?_getD, List.getElem?_append_left (l₁ := m) (by rw [hml]; exact hk), h7]
                rfl
              rw [hidx, List.getElem?_append_left (List.getElem?_eq_some_iff.1 h8).1]
              exact h8
            · have hlt := (List.getElem?_eq_some_iff.1 h3).1
              rw [A.mlen] at hlt
              obtain ⟨K', r0, o', ts, n, q1, _, _, _, _, q6, q7, _⟩ := newK (k - g.rows.length) (by omega)
              rw [show g.rows.length + (k - g.rows.length) = k by omega, h3] at q1
              cases q1
              rw [h4] at q6
              cases q6
              have hidx : (m ++ (List.range g.news.length).map (h.objs.length + ·)).getD k 0 = h.objs.length + (k - g.rows.length) := by
                rw [List.getD_eq_getElem?_getD, List.getElem?_append_right (l₁ := m) (by omega), hml, List.getElem?_map, List.getElem?_range (by omega)]
                rfl
              rw [hidx, List.getElem?_append_right (by rw [hR.len]; omega), hR.len, Nat.add_sub_cancel_left]
              exact q7
          · subst hV3
            simp only
            rw [hl.1, ← hR.tlen, List.getElem?_append_right (by omega), Nat.add_sub_cancel_left]
            exact hi
        have hul := injL_length m' g.outP tips.length r
        have hrvl : rvs.length = g.outs.length := by rw [← A.outs.length, A.len]
        have houtL : g.outP.length = g.outs.length + g.rw.length + (g.news.flatMap (·.1)).length := by unfold Sig.outP; rw [List.length_append, List.length_append, List.length_map]
        generalize hU : injL m' tips.length g.outP r = us at hu hus3 hul
        -- the cells that were changed
        have crel : ∀ (i : Nat) (p : Nat × Nat × PC) (x : UV), g.rw[i]? = some p → (us.drop g.outs.length)[i]? = some x → URel V3 x (cellT s2 V2 p.1 p.2.1) := fun i p x h3 h4 => by
          rw [List.getElem?_drop] at h4
          obtain ⟨y, h5, h6⟩ := hus3.get h4
          have hi := (List.getElem?_eq_some_iff.1 h3).1
          unfold outTs at h5
          rw [List.append_assoc, List.getElem?_append_right (by omega), hrvl, Nat.add_sub_cancel_left, List.getElem?_append_left (by simpa using hi), List.getElem?_map, h3] at h5
          simp at h5
          rw [h5]
          exact h6
        have nrel : URels V3 (us.drop (g.outs.length + g.rw.length)) (((m2.drop g.rows.length).map (rowTs s2 V2)).flatten) := by
          have h3 := hus3.drop (g.outs.length + g.rw.length)
          have h4 : (rvs ++ g.rw.map fun p => cellT s2 V2 p.1 p.2.1).length = g.outs.length + g.rw.length := by rw [List.length_append, hrvl, List.length_map]
          unfold outTs at h3
          rw [← flat_map]
          rw [← h4, List.drop_left] at h3
          rw [← h4]
          exact h3
        obtain ⟨nl1, nl2⟩ := rows_rel (rows := g.news.map fun r => (r.1.map fun p => RC.rw p p, r.2)) nrel (by simp [A.mlen]) (fun k ts rc h3 h4 => by
          rw [List.getElem?_map] at h3 h4
          obtain ⟨K, h5, h6⟩ := Option.map_eq_some_iff.1 h3
          obtain ⟨n, h7, h8⟩ := Option.map_eq_some_iff.1 h4
          obtain ⟨K', r0, o', ts', n', q1, q2, q3, q4, q5, q6, q7, q8, q9, q10, _⟩ := newK k (List.getElem?_eq_some_iff.1 h7).1
          rw [List.getElem?_drop] at h5
          rw [h5] at q1
          cases q1
          rw [h7] at q3
          cases q3
          rw [← h6, q10, ← h8, ← q9.length, q5]
          simp)
        have hcl : (us.drop g.outs.length).length = (us.drop g.outs.length).length := rfl
        have hidr : ∀ (k K o : Nat), m[k]? = some K → V.ids[K]? = some o → V2.ids[k]? = some o := fun k K o h3 h4 => by
          obtain ⟨o', h5, h6⟩ := hid1 k K h3
          rw [h4] at h5
          cases h5
          exact prefix_get A.step.ids h6
        -- a row that was handed over, behind it
        have back : ∀ (k K o : Nat) (rc : List RC × TypeId) (r0 : Row) (ts : List TV), m[k]? = some K → g.rows[k]? = some rc → V.ids[K]? = some o → h.objs[K]? = some r0 → s.objs.get o = some (.cells ts r0.ty) → ∃ ts2 : List TV, s2.objs.get o = some (.cells ts2 r0.ty) ∧ ts2.length = ts.length ∧ ∀ (off : Nat) (x : RC), rc.1[off]? = some x → x.frozen = true → ts2[off]? = ts[off]? := by
          intro k K o rc r0 ts hk hrc ho hr0 hg
          obtain ⟨r0', o', ts', q1, q2, q3, q4, q5, q6, q7⟩ := rowK k K rc hk hrc
          rw [hr0] at q1
          cases q1
          obtain ⟨o1, q8, q9⟩ := hid1 k K hk
          rw [ho] at q8
          cases q8
          have hlt : k < (rowsOf g.rows ((injL (List.range g.rows.length) 0 g.inP d).drop g.ins.length)).length := by rw [rl1]; exact (List.getElem?_eq_some_iff.1 hrc).1
          have q10 := List.getElem?_eq_getElem hlt
          obtain ⟨ts1, rc1, _, q11, q12, q13, _⟩ := rl2 k _ q10
          rw [hrc] at q11
          cases q11
          obtain ⟨ts2, q14, q15, q16⟩ := A.step.kept k o _ ts q9 (by simp only [Sig.start]; exact q10) (by rw [q12, ← q2]; exact hg)
          refine ⟨ts2, by rw [q2, ← q12]; exact q14, q15, fun off x hx hfz => q16 off ?_⟩
          rw [q13, List.getElem?_map, hx, Option.map_some, hfz]
        have away : ∀ (K o : Nat), K ∉ m → V.ids[K]? = some o → s2.objs.get o = s.objs.get o := fun K o hK ho => by
          refine A.step.frame o (hR.lt o (mem_ids hR ho)) fun hm1 => ?_
          obtain ⟨k, hk⟩ := List.mem_iff_getElem?.1 hm1
          obtain ⟨K', h3, h4⟩ := hid1' k o hk
          have := ids_inj hR ho h4
          subst this
          exact hK (List.mem_of_getElem? h3)
        have uscl : ((us.drop g.outs.length).take g.rw.length).length = g.rw.length := by simp; omega
        have setTake : ∀ (ps : List (Nat × Nat × PC)) (xs : List UV) (objs : List Row), setCells ps xs objs = setCells ps (xs.take ps.length) objs := by
          intro ps
          induction ps with
          | nil => intro xs objs; cases xs <;> rfl
          | cons p ps ih => intro xs objs; cases xs with
            | nil => rfl
            | cons x xs => simp only [setCells, List.length_cons, List.take_succ_cons]; exact ih xs _
        have rows3 : ∀ (K : Nat) (r0 : Row), h.objs[K]? = some r0 → ∃ r3, (setCells (g.rw.map fun p => (m.getD p.1 0, p.2)) (us.drop g.outs.length) h.objs)[K]? = some r3 ∧ r3.ty = r0.ty ∧ r3.fz = r0.fz ∧ r3.cs.length = r0.cs.length ∧
            ∀ (off : Nat) (x : UV), r3.cs[off]? = some x → (r0.cs[off]? = some x ∧ Off (g.rw.map fun p => (m.getD p.1 0, p.2)) K off) ∨ ∃ (i : Nat) (p : Nat × Nat × PC), g.rw[i]? = some p ∧ (us.drop g.outs.length)[i]? = some x ∧ m.getD p.1 0 = K ∧ p.2.1 = off := by
          intro K r0 hr0
          rw [setTake]
          obtain ⟨r3, q1, q2, q3, q4, q5⟩ := setCells_get (g.rw.map fun p => (m.getD p.1 0, p.2)) ((us.drop g.outs.length).take (g.rw.map fun p => (m.getD p.1 0, p.2)).length) h.objs K r0 hr0 (by simp; omega)
          refine ⟨r3, q1, q2, q3, q4, fun off x hx => ?_⟩
          rcases q5 off x hx with q6 | ⟨i, p, q6, q7, q8, q9⟩
          · exact .inl q6
          · rw [List.getElem?_map] at q6
            obtain ⟨p', q10, q11⟩ := Option.map_eq_some_iff.1 q6
            subst q11
            have hi := (List.getElem?_eq_some_iff.1 q10).1
            rw [List.getElem?_take_of_lt (by simpa using hi)] at q7
            exact .inr ⟨i, p', q10, q7, q8, q9⟩
        have offm : ∀ (k K off : Nat), m[k]? = some K → Off (g.rw.map fun p => (m.getD p.1 0, p.2)) K off → Off g.rw k off := fun k K off hk ho p hp hpk => by
          refine ho (m.getD p.1 0, p.2) (List.mem_map.2 ⟨p, hp, rfl⟩) ⟨?_, hpk.2⟩
          simp only [hpk.1, List.getD_eq_getElem?_getD, hk]
          rfl
        have hRel3 : HRel s2 V3 u.2.1 := by
          subst hu
          refine ⟨?_, ?_, fun o ho => ?_, fun K o r3 hk h3 => ?_, T.len, T.tips, T.tinj⟩
          · subst hV3
            simp only [List.length_append]
            rw [setCells_length, nl1, hR.len, hnewlen, List.length_map]
          · subst hV3
            simp only
            rw [List.nodup_append]
            refine ⟨hR.nodup, ?_, fun a ha b hb => ?_⟩
            · rw [List.nodup_iff_pairwise_ne, List.pairwise_iff_getElem]
              intro i j hi hj hij he
              obtain ⟨K, _, o, _, _, q1, _, _, _, _, q6, q7, _⟩ := newK i (by omega)
              obtain ⟨K', _, o', _, _, p1, _, _, _, _, p6, p7, _⟩ := newK j (by omega)
              rw [List.getElem?_eq_getElem hi] at q7
              rw [List.getElem?_eq_getElem hj] at p7
              cases q7
              cases p7
              rw [he] at q6
              have := ids_inj A.rel q6 p6
              subst this
              have := nodup_inj A.nodup q1 p1
              omega
            · obtain ⟨i, hi⟩ := List.mem_iff_getElem?.1 hb
              have hlt := (List.getElem?_eq_some_iff.1 hi).1
              obtain ⟨K, _, o, _, _, _, _, _, _, _, _, q7, _, _, _, q11⟩ := newK i (by omega)
              rw [hi] at q7
              cases q7
              have := hR.lt a ha
              omega
          · subst hV3
            rcases List.mem_append.1 ho with ho | ho
            · exact Nat.lt_of_lt_of_le (hR.lt o ho) A.step.nle
            · obtain ⟨i, hi⟩ := List.mem_iff_getElem?.1 ho
              have hlt := (List.getElem?_eq_some_iff.1 hi).1
              obtain ⟨K, _, o', _, _, _, _, _, _, _, q6, q7, _⟩ := newK i (by omega)
              rw [hi] at q7
              cases q7
              exact A.rel.lt _ (List.mem_of_getElem? q6)
          · simp only at h3
            rcases split_get h3 with h3 | ⟨hge, h3⟩
            · rw [show V3.ids = V.ids ++ newids by subst hV3; rfl] at hk
              have hlt : K < h.objs.length := by rw [← setCells_length (g.rw.map fun p => (m.getD p.1 0, p.2)) (us.drop g.outs.length) h.objs]; exact (List.getElem?_eq_some_iff.1 h3).1
              rw [List.getElem?_append_left (by rw [hR.len]; exact hlt)] at hk
              obtain ⟨r0, hr0⟩ : ∃ r0, h.objs[K]? = some r0 := ⟨_, List.getElem?_eq_getElem hlt⟩
              obtain ⟨r3', q1, q2, q3, q4, q5⟩ := rows3 K r0 hr0
              rw [h3] at q1
              cases q1
              obtain ⟨ts, h4, h5⟩ := hR.obj K o r0 hk hr0
              by_cases hKm : K ∈ m
              · obtain ⟨k, hkm⟩ := List.mem_iff_getElem?.1 hKm
                have hkl : k < g.rows.length := by rw [← hml]; exact (List.getElem?_eq_some_iff.1 hkm).1
                have hrc := List.getElem?_eq_getElem hkl
                obtain ⟨ts2, b1, b2, b3⟩ := back k K o _ r0 ts hkm hrc hk hr0 h4
                obtain ⟨r0', _, _, w1, _, w3, _⟩ := rowK k K _ hkm hrc
                rw [hr0] at w1
                cases w1
                refine ⟨ts2, by rw [q2]; exact b1, URels.of_get (by rw [q4, b2, h5.length]) fun off x hx => ?_⟩
                rcases q5 off x hx with ⟨q6, q7⟩ | ⟨i, p, q6, q7, q8, q9⟩
                · obtain ⟨y, h6, h7⟩ := h5.get q6
                  have hoff : off < g.rows[k].1.length := by rw [← w3]; exact (List.getElem?_eq_some_iff.1 q6).1
                  have := rwRows_off (k0 := 0) hrc (List.getElem?_eq_getElem hoff) (by rw [Nat.zero_add]; exact offm k K off hkm q7)
                  exact ⟨y, by rw [b3 off _ (List.getElem?_eq_getElem hoff) this]; exact h6, h7.mono hle⟩
                · have h6 := crel i p x q6 q7
                  obtain ⟨_, hp2⟩ := rwRows_mem (List.mem_of_getElem? q6 : p ∈ rwRows 0 g.rows)
                  have hpk : p.1 = k := by
                    have hp3 : p.1 < m.length := by rw [hml]; omega
                    rw [List.getD_eq_getElem?_getD, List.getElem?_eq_getElem hp3] at q8
                    simp only [Option.getD_some] at q8
                    exact nodup_inj hnd (by rw [List.getElem?_eq_getElem hp3, q8]) hkm
                  have hoff : off < ts2.length := by rw [b2, ← h5.length, ← q4]; exact (List.getElem?_eq_some_iff.1 hx).1
                  refine ⟨ts2[off], List.getElem?_eq_getElem hoff, ?_⟩
                  have := cellT_of (V := V2) (s := s2) (hidr k K o hkm hk) b1 (List.getElem?_eq_getElem hoff)
                  rw [hpk, q9, this] at h6
                  exact h6
              · refine ⟨ts, by rw [away K o hKm hk, q2]; exact h4, URels.of_get (by rw [q4, h5.length]) fun off x hx => ?_⟩
                rcases q5 off x hx with ⟨q6, _⟩ | ⟨i, p, q6, q7, q8, _⟩
                · obtain ⟨y, h6, h7⟩ := h5.get q6
                  exact ⟨y, h6, h7.mono hle⟩
                · obtain ⟨_, hp2⟩ := rwRows_mem (List.mem_of_getElem? q6 : p ∈ rwRows 0 g.rows)
                  have hp3 : p.1 < m.length := by rw [hml]; omega
                  rw [List.getD_eq_getElem?_getD, List.getElem?_eq_getElem hp3] at q8
                  simp only [Option.getD_some] at q8
                  exact absurd (by rw [← q8]; exact List.getElem_mem hp3) hKm
            · rw [setCells_length] at hge h3
              rw [show V3.ids = V.ids ++ newids by subst hV3; rfl, List.getElem?_append_right (by rw [hR.len]; exact hge), hR.len] at hk
              obtain ⟨ts, rc, w1, w2, w3, _, w5⟩ := nl2 _ r3 h3
              have hlt : K - h.objs.length < g.news.length := by rw [← hnewlen]; exact (List.getElem?_eq_some_iff.1 hk).1
              obtain ⟨K2, r0, o', ts', n, q1, q2, q3, q4, q5, q6, q7, q8, q9, q10, _⟩ := newK _ hlt
              rw [hk] at q7
              cases q7
              rw [List.getElem?_map, List.getElem?_drop, q1, Option.map_some] at w1
              cases w1
              rw [List.getElem?_map, q3, Option.map_some] at w2
              cases w2
              exact ⟨_, by rw [q10, w3, ← q4]; exact q8, w5⟩
        have hstep : Step s V h s2 V3 u.2.1 := by
          refine ⟨hle.ids, fun o ho => ?_, A.step.nle, A.step.tle, fun o h3 h4 => A.step.frame o h3 fun h5 => h4 (sub1 o h5), T.tframe, fun i hi => T.alive i (by subst hu; exact hi), fun K r0 hr0 => ?_, fun K o r0 ts hk hr0 hg => ?_⟩
          · subst hV3
            rcases List.mem_append.1 ho with ho | ho
            · exact .inl ho
            · obtain ⟨i, hi⟩ := List.mem_iff_getElem?.1 ho
              have hlt := (List.getElem?_eq_some_iff.1 hi).1
              obtain ⟨K, _, o', _, _, _, _, _, _, _, _, q7, _, _, _, q11⟩ := newK i (by omega)
              rw [hi] at q7
              cases q7
              exact .inr q11
          · subst hu
            obtain ⟨r3, q1, q2, q3, q4, _⟩ := rows3 K r0 hr0
            exact ⟨r3, by simp only; rw [List.getElem?_append_left (List.getElem?_eq_some_iff.1 q1).1]; exact q1, q2, q3, q4⟩
          · by_cases hKm : K ∈ m
            · obtain ⟨k, hkm⟩ := List.mem_iff_getElem?.1 hKm
              have hkl : k < g.rows.length := by rw [← hml]; exact (List.getElem?_eq_some_iff.1 hkm).1
              have hrc := List.getElem?_eq_getElem hkl
              obtain ⟨ts2, b1, b2, b3⟩ := back k K o _ r0 ts hkm hrc hk hr0 hg
              refine ⟨ts2, b1, b2, fun off hfz => ?_⟩
              obtain ⟨r0', o', ts', w1, _, w3, w4, w5, w6, _⟩ := rowK k K _ hkm hrc
              rw [hr0] at w1
              cases w1
              rw [hk] at w4
              cases w4
              rw [hg] at w5
              cases w5
              by_cases hoff : off < g.rows[k].1.length
              · refine b3 off _ (List.getElem?_eq_getElem hoff) (rwRows_off (k0 := 0) hrc (List.getElem?_eq_getElem hoff) ?_)
                rw [Nat.zero_add]
                intro p hp hpk
                obtain ⟨r1, q1, _, q3⟩ := free_get hfree (List.mem_map.2 ⟨p, hp, rfl⟩)
                simp only [hpk.1, hpk.2, List.getD_eq_getElem?_getD, hkm, Option.getD_some] at q1 q3
                rw [hr0] at q1
                cases q1
                exact q3 hfz
              · rw [List.getElem?_eq_none (by rw [b2, ← w6.length, w3]; omega), List.getElem?_eq_none (by rw [← w6.length, w3]; omega)]
            · exact ⟨ts, by rw [away K o hKm hk]; exact hg, rfl, fun _ _ => rfl⟩
        refine ⟨s2, V3, v, hsim, ?_, hRel3, hstep, hle, fun K o hW hk => ?_⟩
        · subst hu
          simp only
          have htake : URels V3 (us.take g.outs.length) rvs := by
            have := hus3.take g.outs.length
            unfold outTs at this
            rw [List.append_assoc, ← hrvl, List.take_left] at this
            rw [← hrvl]
            exact this
          rw [A.val]
          split
          · rename_i h1
            rw [h1] at htake
            cases us with
            | nil => exact .junk _
            | cons x us =>
              simp at htake
              cases htake with
              | cons _ w _ _ q1 q2 => cases q2; exact q1
          · rename_i h1
            have : tupT rvs = .tup rvs := by
              match rvs, hrvl with
              | [], _ => rfl
              | [x], hh => simp at hh; omega
              | x :: y :: l, _ => rfl
            rw [this]
            exact .tup _ _ htake
        · subst hu
          simp only at hW
          by_cases hKm : K ∈ m
          · obtain ⟨k, hkm⟩ := List.mem_iff_getElem?.1 hKm
            have hkl : k < g.rows.length := by rw [← hml]; exact (List.getElem?_eq_some_iff.1 hkm).1
            have hrc := List.getElem?_eq_getElem hkl
            obtain ⟨r0, o', ts, w1, _, w3, w4, w5, w6, _⟩ := rowK k K _ hkm hrc
            rw [hk] at w4
            cases w4
            obtain ⟨ts2, b1, b2, b3⟩ := back k K o _ r0 ts hkm hrc hk w1 w5
            have : ts2 = ts := by
              apply List.ext_getElem?
              intro off
              by_cases hoff : off < g.rows[k].1.length
              · refine b3 off _ (List.getElem?_eq_getElem hoff) (rwRows_off (k0 := 0) hrc (List.getElem?_eq_getElem hoff) ?_)
                rw [Nat.zero_add]
                intro p hp hpk
                refine hW (List.mem_map.2 ⟨p, hp, ?_⟩)
                rw [hpk.1, List.getD_eq_getElem?_getD, hkm]
                rfl
              · rw [List.getElem?_eq_none (by rw [b2, ← w6.length, w3]; omega), List.getElem?_eq_none (by rw [← w6.length, w3]; omega)]
            rw [b1, this, w5]
          · exact away K o hKm hk
    · exact hu.elim
end
end Go.Proofs.Ytbnfooeeopmpiaa.TV
