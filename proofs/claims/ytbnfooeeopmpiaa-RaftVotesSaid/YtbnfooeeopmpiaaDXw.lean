/-
  DX: laws whose loops lay new objects in the place of old ones: loops told by names and rows alone, nothing is said of the rest.
-/
import Derived.Test.YtbnfooeeopmpiaaDXq
namespace Go.Proofs.Ytbnfooeeopmpiaa.TV
open Go Go.RowKit
set_option linter.unusedSimpArgs false
set_option linter.unusedVariables false

/-- A call's beginning: the rows that are found, and what they hold. -/
def enterU (g : Sig) (args : List UV) (h : UHeap) : Option (dens g.inP) :=
  match findRows args h g.from' [] with
  | none => none
  | some m =>
    if args.length = g.ins.length && m.length == g.rows.length && ((m.zip g.rows).all fun p => rowTy h p.1 == some p.2.2 && (rowCs h p.1).length == p.2.1.length) then
      (exL m h.tips g.inP (args ++ m.flatMap (rowCs h))).map (·.1)
    else none
/-- A loop of a law: the names and rows by which it is told, how many names there are, the law's answer. -/
structure WCut where
  vars : List Nat
  n : Nat
  g : Sig
  res : Nat
def setT : List Nat → List UV → UEnv → UEnv
  | p :: ps, u :: us, e => setT ps us (e.set p u)
  | _, _, e => e
def WCut.env (W : WCut) (d : dens W.g.inP) : UEnv := setT W.vars (W.g.start d).1 (List.replicate W.n .junk)
noncomputable def weakU (id : Nat) (W : WCut) (f : CodeU) : CodeU := fun e h =>
  if e.length = W.n then
    match enterU W.g (W.vars.map e.at) h with
    | none => .fail
    | some d => .two (loop (fun d =>
        (forceE (W.env d) fun e => forceH (W.g.start d).2 fun h => f e h).run fun o => match o.1 with
          | .normal => (enterU W.g (W.vars.map o.2.1.at) o.2.2).map fun d => Rnd.next d
          | .exit i => if i = id then (enterU W.g (W.vars.map o.2.1.at) o.2.2).map fun d => Rnd.out d else none
          | .ret => (decV .bool (o.2.1.at W.res)).map fun b => Rnd.ret b) d)
        (fun d => .leaf (.normal, W.env d, (W.g.start d).2))
        (fun b => .leaf (.ret, (List.replicate W.n .junk).set W.res (.bool b), ⟨[], []⟩))
  else .fail
section
variable (P : Program)
noncomputable def codeW (call : CallU) (C : Cuts) (fuel : Nat) (W : List (Nat × WCut)) : Code → CodeU
  | .seq a b, e, h => (codeW call C fuel W a e h).bind fun o => match o.1 with
    | .normal => forceE o.2.1 fun e => forceH o.2.2 fun h => codeW call C fuel W b e h
    | _ => .leaf o
  | .cond c a b, e, h => match (condKey c).bind fun t => C.conds.lookup t with
    | some _ => codeU P call C fuel (.cond c a b) e h
    | none => condU e c (codeW call C fuel W a e h) (codeW call C fuel W b e h)
  | .block id (.loop a), e, h => match W.lookup id with
    | some w => weakU id w (codeU P call C fuel a) e h
    | none => codeU P call C fuel (.block id (.loop a)) e h
  | c, e, h => codeU P call C fuel c e h
/-- What a law answers. -/
noncomputable def lawU (call : CallU) (C : Cuts) (fuel : Nat) (W : List (Nat × WCut)) (ps : List PC) (fn : Func) (c : Code) (d : dens ps) : Option Bool :=
  (forceE (injL [] 0 ps d ++ List.replicate (fn.ntmps - ps.length) undefU) fun e => codeW P call C fuel W c e ⟨[], []⟩).run fun o => match o.1 with
    | .exit _ => none
    | _ => match resultsU P o.2.2 o.2.1 fn.results.toList with
      | some [u] => decV .bool u
      | _ => none
end
def WOk (P : Program) (c : Code) (e : UEnv) (h : UHeap) (o : Ex × UEnv × UHeap) : Prop := ∀ s V te, HRel s V h → URels V e te →
  ∃ s' V' te', CodeSim P c te s o.1 te' s' ∧ HRel s' V' o.2.2 ∧ URels V' o.2.1 te'
def LawOk (P : Program) (f : FuncId) (ps : List PC) (F : dens ps → Option Bool) : Prop := ∀ d, F d = some true → ∀ tvs, URels ⟨[], []⟩ (injL [] 0 ps d) tvs → ∃ s2, Sim P f tvs St.none (.bool true) s2

section
variable {P : Program} {s s' s2 : St} {V V' V1 V2 V3 : Val} {h h' h1 h2 : UHeap} {e e2 : UEnv} {te te2 : Env}

theorem enter_ok {g : Sig} {args : List UV} {d : dens g.inP} (hd : enterU g args h = some d) {targs : List TV} (hR : HRel s V h) (hv : URels V args targs) : ∃ V1, HRel s V1 (g.start d).2 ∧ URels V1 (g.start d).1 targs := by
  unfold enterU at hd
  split at hd
  · cases hd
  · rename_i m hm
    split at hd
    · rename_i hc
      simp only [Bool.and_eq_true, decide_eq_true_eq, beq_iff_eq, List.all_eq_true] at hc
      obtain ⟨⟨hal, hml⟩, hty⟩ := hc
      obtain ⟨⟨d', tips⟩, hx', hdd⟩ := Option.map_eq_some_iff.1 hd
      have hx : exL m h.tips g.inP (args ++ m.flatMap (rowCs h)) = some (d, tips) := by rw [hx', ← hdd]
      obtain ⟨_, _, hnd⟩ := findRows_ok hm
      have hnd := hnd List.nodup_nil
      have rowK : ∀ (k K : Nat) (rc : List RC × TypeId), m[k]? = some K → g.rows[k]? = some rc → ∃ r0 o ts, h.objs[K]? = some r0 ∧ r0.ty = rc.2 ∧ r0.cs.length = rc.1.length ∧ V.ids[K]? = some o ∧ s.objs.get o = some (.cells ts r0.ty) ∧ URels V r0.cs ts ∧ rowTs s V K = ts := by
        intro k K rc hk hrc
        have hz : (m.zip g.rows)[k]? = some (K, rc) := by rw [List.getElem?_zip_eq_some]; exact ⟨hk, hrc⟩
        have := hty (K, rc) (List.mem_of_getElem? hz)
        simp only at this
        obtain ⟨r0, h1, h2⟩ := rowTy_get this.1
        have hlt : K < V.ids.length := by rw [hR.len]; exact (List.getElem?_eq_some_iff.1 h1).1
        have ho : V.ids[K]? = some V.ids[K] := List.getElem?_eq_getElem hlt
        obtain ⟨ts, h3, h4⟩ := hR.obj K _ r0 ho h1
        exact ⟨r0, _, ts, h1, h2, by rw [← this.2, rowCs_of h1], ho, h3, h4, rowTs_of hR ho h3⟩
      -- what is handed over
      have hl := exL_less hx
      have hin : URels V (args ++ m.flatMap (rowCs h)) (targs ++ m.flatMap (rowTs s V)) := hv.append (urels_flat hR)
      obtain ⟨tk1, tk2⟩ := exL_toks (V := V) hR.tinj hx hin
      generalize hV1 : (⟨m.map (fun K => V.ids.getD K 0), tksOf g.inP (targs ++ m.flatMap (rowTs s V))⟩ : Val) = V1
      have hid1 : ∀ (k K : Nat), m[k]? = some K → ∃ o, V.ids[K]? = some o ∧ V1.ids[k]? = some o := fun k K hk => by
        have hlt : k < g.rows.length := by rw [← hml]; exact (List.getElem?_eq_some_iff.1 hk).1
        obtain ⟨r0, o, ts, _, _, _, ho, _⟩ := rowK k K _ hk (List.getElem?_eq_getElem hlt)
        refine ⟨o, ho, ?_⟩
        subst hV1
        simp only
        rw [List.getElem?_map, hk, Option.map_some, List.getD_eq_getElem?_getD, ho]
        rfl
      have hl1 : V1.ids.length = g.rows.length := by subst hV1; simp [hml]
      have hid1' : ∀ (k o : Nat), V1.ids[k]? = some o → ∃ K, m[k]? = some K ∧ V.ids[K]? = some o := fun k o hk => by
        have hlt : k < m.length := by rw [hml, ← hl1]; exact (List.getElem?_eq_some_iff.1 hk).1
        obtain ⟨o', h3, h4⟩ := hid1 k _ (List.getElem?_eq_getElem hlt)
        rw [hk] at h4
        cases h4
        exact ⟨_, List.getElem?_eq_getElem hlt, h3⟩
      have sub1 : ∀ o ∈ V1.ids, o ∈ V.ids := fun o ho => by
        obtain ⟨k, hk⟩ := List.mem_iff_getElem?.1 ho
        obtain ⟨K, _, h4⟩ := hid1' k o hk
        exact List.mem_of_getElem? h4
      have hus : URels V1 (injL (List.range g.rows.length) 0 g.inP d) (targs ++ m.flatMap (rowTs s V)) := by
        refine exL_rel (m' := List.range g.rows.length) (fun k K o h3 h4 => ?_) hx hin fun i t hi => ?_
        · obtain ⟨o', h5, h6⟩ := hid1 k K h3
          rw [h4] at h5
          cases h5
          have hlt : k < g.rows.length := by rw [← hml]; exact (List.getElem?_eq_some_iff.1 h3).1
          rw [List.getD_eq_getElem?_getD, List.getElem?_range hlt]
          exact h6
        · subst hV1
          simpa using hi
      have hargs : URels V1 (g.start d).1 targs := by
        have := hus.take g.ins.length
        rw [← hal, hv.length, List.take_left] at this
        simp only [Sig.start]
        rw [← hal, hv.length]
        exact this
      have hrowsU : URels V1 ((injL (List.range g.rows.length) 0 g.inP d).drop g.ins.length) (m.map (rowTs s V)).flatten := by
        have := hus.drop g.ins.length
        rw [← hal, hv.length, List.drop_left] at this
        rw [← hal, hv.length, ← flat_map]
        exact this
      obtain ⟨rl1, rl2⟩ := rows_rel (rows := g.rows) hrowsU (by simp [hml]) (fun k ts rc h3 h4 => by
        rw [List.getElem?_map] at h3
        obtain ⟨K, h5, h6⟩ := Option.map_eq_some_iff.1 h3
        obtain ⟨r0, o, ts', _, _, h7, _, _, h8, h9⟩ := rowK k K rc h5 h4
        rw [← h6, h9, ← h8.length, h7])
      have tl : (tksOf g.inP (targs ++ m.flatMap (rowTs s V))).length = (toksL g.inP).length := tksOf_length (by rw [← hin.length, exL_length hx])
      have hR1 : HRel s V1 (g.start d).2 := by
        refine ⟨?_, ?_, fun o ho => hR.lt o (sub1 o ho), fun k o r1 hk h3 => ?_, ?_, fun j i n e0 h3 h4 => ?_, fun j j' i n n' e0 e1 h3 h4 h5 h6 => ?_⟩
        · simp only [Sig.start]; rw [rl1, hl1]
        · rw [List.nodup_iff_pairwise_ne]
          rw [List.pairwise_iff_getElem]
          intro i j hi hj hij he
          obtain ⟨K, h3, h4⟩ := hid1' i _ (List.getElem?_eq_getElem hi)
          obtain ⟨K', h5, h6⟩ := hid1' j _ (List.getElem?_eq_getElem hj)
          rw [he] at h4
          have := ids_inj hR h4 h6
          subst this
          have := nodup_inj hnd h3 h5
          omega
        · simp only [Sig.start] at h3
          obtain ⟨ts, rc, h4, h5, h6, _, h7⟩ := rl2 k r1 h3
          rw [List.getElem?_map] at h4
          obtain ⟨K, h8, h9⟩ := Option.map_eq_some_iff.1 h4
          obtain ⟨K', h10, h11⟩ := hid1' k o hk
          rw [h8] at h10
          cases h10
          obtain ⟨r0, o', ts', _, q2, _, q4, q5, _, q7⟩ := rowK k K rc h8 h5
          rw [h11] at q4
          cases q4
          exact ⟨ts, by rw [← h9, q7, h6, ← q2]; exact q5, h7⟩
        · subst hV1; simp only [Sig.start]; exact tl
        · subst hV1
          simp only [Sig.start] at h3 h4
          obtain ⟨e1, j1, q1, q2, q3, _⟩ := tk1 j i n h3
          rw [h4] at q1
          cases q1
          exact hR.tips j1 i n _ q2 q3
        · subst hV1
          exact tk2 j j' i n n' h3 h4
      exact ⟨V1, hR1, hargs⟩
    · cases hd
theorem setT_rel : ∀ (vars : List Nat) (us : List UV) (e : UEnv), URels V e te → URels V us (vars.map te.at) → URels V (setT vars us e) te
  | [], us, e, h, hu => by cases us <;> exact h
  | p :: vars, [], e, h, hu => by cases hu
  | p :: vars, u :: us, e, h, hu => by
    cases hu with
    | cons _ _ _ _ r rs =>
      refine setT_rel vars us _ ?_ rs
      have := h.set p r
      have he : te.set p (te.at p) = te := by
        by_cases hp : p < te.length
        · unfold Env.at
          rw [List.getD_eq_getElem?_getD, List.getElem?_eq_getElem hp]
          exact List.set_getElem_self hp
        · exact List.set_eq_of_length_le (by omega)
      rwa [he] at this
theorem junk_rel : ∀ (te : List TV), URels V (List.replicate te.length .junk) te
  | [] => .nil
  | v :: te => .cons _ _ _ _ (.junk v) (junk_rel te)
theorem at_rel (r : URels V e te) (vars : List Nat) : URels V (vars.map e.at) (vars.map te.at) := URels.map fun p _ => r.at_ p
theorem HRel.empty (s : St) : HRel s ⟨[], []⟩ ⟨[], []⟩ :=
  ⟨rfl, List.nodup_nil, fun o h => (by cases h), fun k o r h => (by simp at h), rfl, fun j i n e h => (by simp at h), fun j j' i n n' e e' h => (by simp at h)⟩
theorem COk.weak {c : Code} {o : Ex × UEnv × UHeap} (k : COk P c e h o) : WOk P c e h o := fun s V te hR r => by
  obtain ⟨s', V', te', k1, k2, k3, _⟩ := k s V te hR r
  exact ⟨s', V', te', k1, k2, k3⟩
theorem WCut.env_rel {W : WCut} {d : dens W.g.inP} (h : URels V (W.g.start d).1 (W.vars.map te.at)) (hl : te.length = W.n) : URels V (W.env d) te := by
  unfold WCut.env
  rw [← hl]
  exact setT_rel _ _ _ (junk_rel te) h
theorem weakU_ok {a : Code} {id : Nat} {W : WCut} {f : CodeU} (hf : ∀ e h o, (f e h).Has o → COk P a e h o) {o : Ex × UEnv × UHeap} (ho : (weakU id W f e h).Has o) : WOk P (.block id (.loop a)) e h o := by
  intro s V te hR r
  unfold weakU at ho
  simp only [forceE_eq, forceH_eq] at ho
  split at ho
  · rename_i hlen
    have hlen : te.length = W.n := by rw [← hlen, r.length]
    split at ho
    · exact ho.elim
    · rename_i d0 hd0
      obtain ⟨V1, hR1, hv1⟩ := enter_ok hd0 hR (at_rel r W.vars)
      generalize hF : (fun d => ((f (W.env d) (W.g.start d).2).run fun o => match o.1 with
          | .normal => (enterU W.g (W.vars.map o.2.1.at) o.2.2).map fun d => Rnd.next d
          | .exit i => if i = id then (enterU W.g (W.vars.map o.2.1.at) o.2.2).map fun d => Rnd.out d else none
          | .ret => (decV .bool (o.2.1.at W.res)).map fun b => Rnd.ret b) : dens W.g.inP → Option (Rnd (dens W.g.inP) Bool)) = F at ho
      obtain ⟨y, hy, ho⟩ : ∃ y, loop F d0 = some y ∧ (match y with
        | .inl d => o = (.normal, W.env d, (W.g.start d).2)
        | .inr b => o = (.ret, (List.replicate W.n .junk).set W.res (.bool b), ⟨[], []⟩)) := by
        rcases ho with ⟨d, h1, h2⟩ | ⟨d, h1, h2⟩
        · exact ⟨.inl d, h1, h2.symm⟩
        · exact ⟨.inr d, h1, h2.symm⟩
      obtain ⟨n, hn⟩ := loop_some hy
      have key : ∀ (n : Nat) (d : dens W.g.inP) (s1 : St) (V1 : Val) (te1 : Env), iterN F n d = some y → HRel s1 V1 (W.g.start d).2 → URels V1 (W.g.start d).1 (W.vars.map te1.at) → te1.length = W.n →
          ∃ k x te2 s2 V3, RoundsSim P a k te1 s1 x te2 s2 ∧ HRel s2 V3 o.2.2 ∧ URels V3 o.2.1 te2 ∧ exBlock id x = o.1 := by
        intro n
        induction n with
        | zero => intro d s1 V1 te1 h1; cases h1
        | succ n ih =>
          intro d s1 V1 te1 h1 hR1 hv1 hl1
          simp only [iterN] at h1
          have r1 := WCut.env_rel hv1 hl1
          have body : ∀ {x}, F d = some x →
            ∃ (b : Ex × UEnv × UHeap) (s2 : St) (V2 : Val) (te2 : Env), CodeSim P a te1 s1 b.1 te2 s2 ∧ HRel s2 V2 b.2.2 ∧ URels V2 b.2.1 te2 ∧ te2.length = W.n ∧
              ((b.1 = .normal ∧ ∃ d2, enterU W.g (W.vars.map b.2.1.at) b.2.2 = some d2 ∧ x = .next d2) ∨
               (b.1 = .exit id ∧ ∃ d2, enterU W.g (W.vars.map b.2.1.at) b.2.2 = some d2 ∧ x = .out d2) ∨
               (b.1 = .ret ∧ ∃ b2, decV .bool (b.2.1.at W.res) = some b2 ∧ x = .ret b2)) := by
            intro x hx
            subst hF
            simp only at hx
            rw [Tree.run_has] at hx
            obtain ⟨b, h2, h3⟩ := hx
            obtain ⟨s2, V2, te2, k1, k2, k3, _, k5, _⟩ := hf _ _ b h2 s1 V1 te1 hR1 r1
            refine ⟨b, s2, V2, te2, k1, k2, k3, k5.trans hl1, ?_⟩
            split at h3
            · rename_i e1
              obtain ⟨d2, h5, h6⟩ := Option.map_eq_some_iff.1 h3
              exact .inl ⟨e1, d2, h5, h6.symm⟩
            · rename_i i e1
              split at h3
              · rename_i e2
                obtain ⟨d2, h5, h6⟩ := Option.map_eq_some_iff.1 h3
                exact .inr (.inl ⟨by rw [e1, e2], d2, h5, h6.symm⟩)
              · cases h3
            · rename_i e1
              obtain ⟨d2, h5, h6⟩ := Option.map_eq_some_iff.1 h3
              exact .inr (.inr ⟨e1, d2, h5, h6.symm⟩)
          split at h1
          · rename_i d2 hb
            obtain ⟨b, s2, V2, te2, k1, k2, k3, k5, k7⟩ := body hb
            rcases k7 with ⟨e1, d3, h5, h6⟩ | ⟨_, d3, _, h6⟩ | ⟨_, d3, _, h6⟩ <;> cases h6
            obtain ⟨V3, q1, q2⟩ := enter_ok h5 k2 (at_rel k3 W.vars)
            obtain ⟨k, x, te3, s3, V4, p1, p2⟩ := ih d2 s2 V3 te2 h1 q1 q2 k5
            rw [e1] at k1
            exact ⟨k + 1, x, te3, s3, V4, rounds_next k1 p1, p2⟩
          · rename_i d2 hb
            cases h1
            simp only at ho
            subst ho
            obtain ⟨b, s2, V2, te2, k1, k2, k3, k5, k7⟩ := body hb
            rcases k7 with ⟨_, d3, _, h6⟩ | ⟨e1, d3, h5, h6⟩ | ⟨_, d3, _, h6⟩ <;> cases h6
            obtain ⟨V3, q1, q2⟩ := enter_ok h5 k2 (at_rel k3 W.vars)
            rw [e1] at k1
            exact ⟨1, .exit id, te2, s2, V3, rounds_out (by simp) k1, q1, WCut.env_rel q2 k5, by simp [exBlock]⟩
          · rename_i d2 hb
            cases h1
            simp only at ho
            subst ho
            obtain ⟨b, s2, V2, te2, k1, k2, k3, k5, k7⟩ := body hb
            rcases k7 with ⟨_, d3, _, h6⟩ | ⟨_, d3, _, h6⟩ | ⟨e1, d3, h5, h6⟩ <;> cases h6
            rw [e1] at k1
            refine ⟨1, .ret, te2, s2, ⟨[], []⟩, rounds_out (by simp) k1, HRel.empty _, ?_, rfl⟩
            have hb2 : te2.at W.res = .bool d2 := by
              obtain ⟨g1, g2⟩ := decV_rel h5 (k3.at_ W.res)
              have hc := isAggV_cells g1
              rw [hc] at g2
              exact (List.cons.inj (show [te2.at W.res] = [.bool d2] from g2)).1
            show URels _ ((List.replicate W.n .junk).set W.res (.bool d2)) te2
            rw [← k5]
            refine setT_rel [W.res] [.bool d2] _ (junk_rel te2) ?_
            simp only [List.map_cons, List.map_nil]
            rw [hb2]
            exact .cons _ _ _ _ (.bool _) .nil
          · cases h1
      obtain ⟨k, x, te2, s2, V3, p1, p2, p3, p4⟩ := key n d0 s V1 te hn hR1 hv1 hlen
      refine ⟨s2, V3, te2, ?_, p2, p3⟩
      rw [← p4]
      exact (rounds_loop p1).blockX
  · exact ho.elim
theorem condW_ok {c : Operand} {a b : Code} {ta tb : Tree (Ex × UEnv × UHeap)} (ha : ∀ o, ta.Has o → WOk P a e h o) (hb : ∀ o, tb.Has o → WOk P b e h o) {o : Ex × UEnv × UHeap} (ho : (condU e c ta tb).Has o) : WOk P (.cond c a b) e h o := by
  intro s V te hR r
  unfold condU at ho
  have hc := evU_rel r c
  split at ho
  · rename_i x e1
    rw [e1] at hc
    cases hcv : ev te c <;> rw [hcv] at hc <;> cases hc
    rcases ho with ⟨rfl, ho⟩ | ⟨rfl, ho⟩
    · obtain ⟨s', V', te', k1, k2, k3⟩ := ha o ho s V te hR r
      exact ⟨s', V', te', .condX hcv k1, k2, k3⟩
    · obtain ⟨s', V', te', k1, k2, k3⟩ := hb o ho s V te hR r
      exact ⟨s', V', te', .condX hcv k1, k2, k3⟩
  · exact ho.elim
theorem codeW_ok (hm : P.follows .mixedOrders = true) (hN : Named P) {call : CallU} (hC : CallOkU P call) (C : Cuts) (fuel : Nat) (W : List (Nat × WCut)) : ∀ (c : Code) (e : UEnv) (h : UHeap) (o : Ex × UEnv × UHeap), (codeW P call C fuel W c e h).Has o → WOk P c e h o
  | .seq a b, e, h, o, ho => by
    simp only [codeW] at ho
    rw [Tree.has_bind] at ho
    obtain ⟨x, h1, h2⟩ := ho
    have ka := codeW_ok hm hN hC C fuel W a e h x h1
    intro s V te hR r
    obtain ⟨s1, V1, te1, k1, k2, k3⟩ := ka s V te hR r
    split at h2
    · rename_i e1
      simp only [forceE_eq, forceH_eq] at h2
      obtain ⟨s', V', te', q1, q2, q3⟩ := codeW_ok hm hN hC C fuel W b _ _ o h2 s1 V1 te1 k2 k3
      rw [e1] at k1
      exact ⟨s', V', te', k1.seq q1, q2, q3⟩
    · rename_i hx
      simp only [Tree.Has] at h2
      subst h2
      exact ⟨s1, V1, te1, CodeSim.seq_out hx k1, k2, k3⟩
  | .cond c a b, e, h, o, ho => by
    simp only [codeW] at ho
    split at ho
    · exact (codeU_ok hm hN hC C fuel _ e h o ho).weak
    · exact condW_ok (fun o ho => codeW_ok hm hN hC C fuel W a e h o ho) (fun o ho => codeW_ok hm hN hC C fuel W b e h o ho) ho
  | .block id a, e, h, o, ho => by
    cases a with
    | loop a =>
      simp only [codeW] at ho
      split at ho
      · exact weakU_ok (fun e h o ho => codeU_ok hm hN hC C fuel a e h o ho) ho
      · exact (codeU_ok hm hN hC C fuel _ e h o ho).weak
    | _ => exact (codeU_ok hm hN hC C fuel _ e h o ho).weak
  | .skip, e, h, o, ho => (codeU_ok hm hN hC C fuel _ e h o ho).weak
  | .exit id, e, h, o, ho => (codeU_ok hm hN hC C fuel _ e h o ho).weak
  | .ret, e, h, o, ho => (codeU_ok hm hN hC C fuel _ e h o ho).weak
  | .loop a, e, h, o, ho => (codeU_ok hm hN hC C fuel _ e h o ho).weak
  | .region id ops draw, e, h, o, ho => (codeU_ok hm hN hC C fuel _ e h o ho).weak
  | .rangeFunc f ps a b, e, h, o, ho => (codeU_ok hm hN hC C fuel _ e h o ho).weak
  | .scope b, e, h, o, ho => (codeU_ok hm hN hC C fuel _ e h o ho).weak
  | .label l, e, h, o, ho => (codeU_ok hm hN hC C fuel _ e h o ho).weak
  | .goto l, e, h, o, ho => (codeU_ok hm hN hC C fuel _ e h o ho).weak
  | .refuse w, e, h, o, ho => (codeU_ok hm hN hC C fuel _ e h o ho).weak
theorem lawU_ok (hm : P.follows .mixedOrders = true) (hN : Named P) {call : CallU} (hC : CallOkU P call) {C : Cuts} {fuel : Nat} {W : List (Nat × WCut)} {ps : List PC} {f : FuncId} {fn : Func} {c : Code} (hf : P.funcs[f]? = some fn) (hb : fn.body = some c) : LawOk P f ps (lawU P call C fuel W ps fn c) := by
  intro d hr tvs hv
  unfold lawU at hr
  simp only [forceE_eq] at hr
  rw [Tree.run_has] at hr
  obtain ⟨o, h1, h2⟩ := hr
  have hlen : ps.length = tvs.length := by rw [← hv.length, injL_length]
  have henv : URels ⟨[], []⟩ (injL [] 0 ps d ++ List.replicate (fn.ntmps - ps.length) undefU) (tvs ++ List.replicate (fn.ntmps - tvs.length) undefT) := by
    rw [hlen]
    exact hv.append (URels.replicate _ (.tup [] [] .nil))
  obtain ⟨s2, V2, te2, k1, k2, k3⟩ := codeW_ok hm hN hC C fuel W c _ _ o h1 St.none _ _ HRel.none henv
  have main : (∀ id, o.1 ≠ .exit id) → (match resultsU P o.2.2 o.2.1 fn.results.toList with
      | some [u] => decV .bool u
      | _ => none) = some true → ∃ s2, Sim P f tvs St.none (.bool true) s2 := by
    intro hne h2
    split at h2
    · rename_i u hvs
      obtain ⟨rvs, q1, q2⟩ := resultsU_rel k2 k3 _ _ hvs
      cases q2 with
      | cons _ w _ _ hr hnil =>
        cases hnil
        have hw : w = .bool true := by
          obtain ⟨g1, g2⟩ := decV_rel h2 hr
          have hc := isAggV_cells g1
          rw [hc] at g2
          exact (List.cons.inj (show [w] = [.bool true] from g2)).1
        subst hw
        refine ⟨s2, (Does.body hf hb (Q := fun v t => v = .bool true ∧ t = s2) ⟨o.1, te2, s2, k1, ?_⟩).sim⟩
        cases hx1 : o.1 with
        | exit id => exact absurd hx1 (hne id)
        | normal => exact ⟨_, resultT_of q1, rfl, rfl⟩
        | ret => exact ⟨_, resultT_of q1, rfl, rfl⟩
    · cases h2
  split at h2
  · cases h2
  · rename_i hx
    exact main (fun id hid => hx id hid) h2
theorem LawOk.congr {f : FuncId} {ps : List PC} {F G : dens ps → Option Bool} (h : LawOk P f ps F) (e : ∀ d, F d = G d) : LawOk P f ps G := fun d hr => h d (by rw [e]; exact hr)
/-- A law that answers true. -/
theorem law_simW {f : FuncId} {ps : List PC} {G : dens ps → Option Bool} (h : LawOk P f ps G) {F : Nat} {ts : List TypeId} (hf : fitsP P F ts ps = true)
    (hG : ∀ d, OkP ps d → G d = some true) {xs : List TV} (hx : ArgsOk P F ts xs) : ∃ s', Sim P f xs St.none (.bool true) s' := by
  obtain ⟨d, h1, h2⟩ := args_den (V := ⟨[], []⟩) (m := []) (j := 0) ts _ xs hf hx
  exact h d (hG d h2) xs h1
end
end Go.Proofs.Ytbnfooeeopmpiaa.TV
