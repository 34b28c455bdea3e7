/-
  TV: operations, regions in the text's order, code, calls: what the evaluator tells is what the model does.
-/
import Derived.Test.YtmmofmkencnldaaGreatDoorTVEff3
import Derived.LoopN
namespace Go.Proofs.YtmmofmkencnldaaGreatDoor.TV
open Go Go.RowKit
set_option linter.unusedSimpArgs false
set_option linter.unusedVariables false

def EnvRel (g : G) (a : Act) (e : Env) : Prop := VRels g a.tmps.toList e
theorem EnvRel.mono {g g' : G} (h : g.le g') {a : Act} {e : Env} (k : EnvRel g a e) : EnvRel g' a e := VRels.mono h k
theorem EnvRel.at {g : G} {a : Act} {e : Env} (h : EnvRel g a e) (t : Nat) : VRel g (a.tmps.getD t undef) (e.at t) := by
  rw [Env.at_eq]
  by_cases ht : t < e.length
  · obtain ⟨v, h1, h2⟩ := h.get (List.getElem?_eq_getElem ht)
    have h1' : a.tmps[t]? = some v := by simpa using h1
    simp only [List.getD, List.getElem?_eq_getElem ht, Option.getD_some, Array.getD_eq_getD_getElem?, h1']
    exact h2
  · simp only [List.getD, List.getElem?_eq_none (Nat.le_of_not_lt ht), Option.getD_none]
    exact .junk _
theorem VRel.glob (g : G) (n : Nat) : VRel g (.pointer (some ⟨n, 0, none⟩)) (match globC n with
    | [] => .junk
    | cs => .eptr (cs.map fun p => .int p.1 p.2)) := by
  split
  · exact .junk _
  · rename_i cs hne
    refine .eptr n 0 ((globC n).map fun p => .int p.1 p.2) _ (fun i v hv => ?_) ?_
    · rw [List.getElem?_map] at hv
      obtain ⟨p, hp, rfl⟩ := Option.map_eq_some_iff.1 hv
      rw [Nat.zero_add]
      exact (g.hG n i p.1 p.2 hp).2
    · have key : ∀ l : List (IntKind × Int), VRels g (l.map fun p => Value.int p.1 p.2) (l.map fun p => TV.int p.1 p.2) := by
        intro l
        induction l with
        | nil => exact .nil
        | cons p l ih => exact .cons _ _ _ _ (.int _ _) ih
      exact key _
theorem EnvRel.ev {g : G} {a : Act} {e : Env} (h : EnvRel g a e) (x : Operand) : VRel g (a.eval x) (ev e x) := by
  cases x with
  | tmp t => exact h.at t
  | const v => exact VRel.const g v
  | global n => exact VRel.glob g n
  | func f => exact .fn _ _ _ _ _ .nil .nil

def putE (dst : Option Tmp) (v : TV) (e : Env) : Env := match dst with
  | some d => e.set d v
  | none => e
theorem putK_eq {ρ : Type} (dst : Option Tmp) (v : TV) (e : Env) (k : Env → Option ρ) : putK dst v e k = k (putE dst v e) := by
  cases dst <;> simp [putK, putE]
theorem EnvRel.put {g : G} {a : Act} {e : Env} (h : EnvRel g a e) {rv : Value} {v : TV} (r : VRel g rv v) (dst : Option Tmp) : EnvRel g (a.put dst rv) (putE dst v e) := by
  cases dst with
  | none => exact h
  | some d =>
    show VRels g (a.tmps.setIfInBounds d rv).toList (e.set d v)
    rw [Array.toList_setIfInBounds]
    exact VRels.set h d r
theorem put_defers (a : Act) (dst : Option Tmp) (v : Value) : (a.put dst v).defers = a.defers := by cases dst <;> rfl

section
variable {P : Program}

/-- A call of function f with these values, on this store, answers v and leaves that store. -/
def Sim (P : Program) (f : FuncId) (args : List TV) (s : St) (v : TV) (s' : St) : Prop :=
  (∃ fn c, P.funcs[f]? = some fn ∧ fn.body = some c) ∧
  ∀ (g : G) (w : World) (rargs : List Value), Rel P g w s → VRels g rargs args → Calls P f rargs.toArray w fun e w' => ∃ rv g', e = .returned rv ∧ g.le g' ∧ Rel P g' w' s' ∧ VRel g' rv v

def CallOk (P : Program) {ρ : Type} (call : CallK ρ) : Prop := ∀ f args s k r, call f args s k = some r → ∃ v s', Sim P f args s v s' ∧ k v s' = some r

/-- No function of the program bears the name of the one that counts goroutines. -/
def Named (P : Program) : Prop := ∀ (f : FuncId) (fn : Func), P.funcs[f]? = some fn → (fn.name == "runtime.NumGoroutine") = false

theorem readT_congr {ρ ρ' : Operand → TV} (s : St) (o : Oper) (h : ∀ x ∈ o.op.operands, ρ x = ρ' x) : readT P s ρ o = readT P s ρ' o := by
  obtain ⟨dst, op, type, pos, after, guard⟩ := o
  have pairs : ∀ ps : Array (Nat × Operand), (∀ x ∈ ps.map (·.2), ρ x = ρ' x) → (ps.toList.map fun p => (p.1, ρ p.2)) = (ps.toList.map fun p => (p.1, ρ' p.2)) := fun ps hp =>
    List.map_congr_left fun p hm => by
      obtain ⟨i, x⟩ := p
      simp only [hp x (Array.mem_map.2 ⟨(i, x), Array.mem_toList_iff.1 hm, rfl⟩)]
  cases op <;> simp only [Op.operands] at h <;> simp only [readT]
  case build t ps => rw [pairs ps fun x hx => h x (by simpa using hx)]
  case buildSlice t n ps => rw [pairs ps fun x hx => h x (by simpa using hx)]
  case makeFunc fn first captured =>
    rw [List.map_congr_left (l := first.toList) fun x hx => h x (by simp [Array.mem_toList_iff.1 hx]), List.map_congr_left (l := captured.toList) fun x hx => h x (by simp [Array.mem_toList_iff.1 hx])]
  case slice t x lo hi mx => cases lo <;> cases hi <;> cases mx <;> simp_all
  case call c =>
    obtain ⟨callee, args, ts⟩ := c
    cases callee with
    | builtin b =>
      have hargs : ∀ x ∈ args.toList, ρ x = ρ' x := fun x hx => h x (by simp [Call.operands, Array.mem_toList_iff.1 hx])
      simp only
      generalize args.toList = al at hargs ⊢
      generalize ts.toList = tl
      clear h
      rcases al with _ | ⟨x, _ | ⟨y, _ | ⟨z, l⟩⟩⟩ <;> rcases tl with _ | ⟨t, _ | ⟨u, _ | ⟨v, m⟩⟩⟩ <;> cases b <;> (first | rfl | (simp only [List.mem_cons, List.not_mem_nil, or_false, forall_eq_or_imp, forall_eq] at hargs; simp only [hargs]))
    | _ => rfl
  all_goals (first | rfl | (simp_all; done))

theorem effT_congr {ρ ρ' : Operand → TV} (s : St) (o : Oper) (h : ∀ x ∈ o.op.operands, ρ x = ρ' x) : effT P s ρ o = effT P s ρ' o := by
  obtain ⟨dst, op, type, pos, after, guard⟩ := o
  have pairs : ∀ ps : Array (Nat × Operand), (∀ x ∈ ps.map (·.2), ρ x = ρ' x) → (ps.toList.map fun p => (p.1, ρ p.2)) = (ps.toList.map fun p => (p.1, ρ' p.2)) := fun ps hp =>
    List.map_congr_left fun p hm => by
      obtain ⟨i, x⟩ := p
      simp only [hp x (Array.mem_map.2 ⟨(i, x), Array.mem_toList_iff.1 hm, rfl⟩)]
  cases op <;> simp only [Op.operands] at h <;> simp only [effT]
  case makeMap t r => cases r <;> rfl
  case buildSlice t n ps => rw [pairs ps fun x hx => h x (by simpa using hx)]
  case call c =>
    obtain ⟨callee, args, ts⟩ := c
    cases callee with
    | builtin b =>
      have hargs : ∀ x ∈ args.toList, ρ x = ρ' x := fun x hx => h x (by simp [Call.operands, Array.mem_toList_iff.1 hx])
      simp only
      generalize args.toList = al at hargs ⊢
      generalize ts.toList = tl
      clear h
      rcases al with _ | ⟨x, _ | ⟨y, _ | ⟨z, l⟩⟩⟩ <;> rcases tl with _ | ⟨t, _ | ⟨u, _ | ⟨v, m⟩⟩⟩ <;> cases b <;> (first | rfl | (simp only [List.mem_cons, List.not_mem_nil, or_false, forall_eq_or_imp, forall_eq] at hargs; simp only [hargs]))
    | _ => rfl
  all_goals (first | rfl | (simp_all; done))

theorem calleeT_congr {ρ ρ' : Operand → TV} (o : Oper) (h : ∀ x ∈ o.op.operands, ρ x = ρ' x) : calleeT ρ o = calleeT ρ' o := by
  obtain ⟨dst, op, type, pos, after, guard⟩ := o
  cases op <;> simp only [Op.operands] at h <;> simp only [calleeT]
  case call c =>
    obtain ⟨callee, args, ts⟩ := c
    have hargs : args.toList.map ρ = args.toList.map ρ' := List.map_congr_left fun x hx => h x (by simp [Call.operands, Array.mem_toList_iff.1 hx])
    cases callee with
    | value f => simp only [hargs, h f (by simp [Call.operands])]
    | _ => rfl

/-- What is at the names that the operation reads is what is told of them. -/
def OperandsRel (g : G) (a : Act) (e : Env) (o : Oper) : Prop := ∀ x ∈ o.op.operands, VRel g (a.eval x) (ev e x)
theorem EnvRel.operands {g : G} {a : Act} {e : Env} (h : EnvRel g a e) (o : Oper) : OperandsRel g a e o := fun x _ => h.ev x
open Classical in
/-- The same names, the others bare. -/
noncomputable def bare (o : Oper) (e : Env) : Operand → TV := fun x => if x ∈ o.op.operands then ev e x else .junk
theorem bare_ok {g : G} {a : Act} {e : Env} {o : Oper} (h : OperandsRel g a e o) (x : Operand) : VRel g (a.eval x) (bare o e x) := by
  unfold bare
  split
  · rename_i hx; exact h x hx
  · exact .junk _
theorem bare_eq {e : Env} {o : Oper} : ∀ x ∈ o.op.operands, ev e x = bare o e x := by
  intro x hx
  unfold bare
  rw [if_pos hx]

theorem VRels.map_mem {g : G} {ρ : Operand → Value} {τ : Operand → TV} : ∀ l : List Operand, (∀ x ∈ l, VRel g (ρ x) (τ x)) → VRels g (l.map ρ) (l.map τ)
  | [], _ => .nil
  | x :: l, h => .cons _ _ _ _ (h x (by simp)) (VRels.map_mem l fun y hy => h y (by simp [hy]))

/-- An operation, in the state (e, s), gives v and leaves s'. -/
def OpSim (P : Program) (o : Oper) (e : Env) (s : St) (v : TV) (s' : St) : Prop :=
  ∀ (g : G) (w : World) (a : Act), Rel P g w s → OperandsRel g a e o → ∀ (next : Act → World → Prop) (Q : Exit → Act → World → Prop),
    (∀ rv w' g', g.le g' → Rel P g' w' s' → VRel g' rv v → next (a.put o.dst rv) w') → o.wp P a w next Q

theorem OpSim.read {o : Oper} {e : Env} {s : St} {v : TV} (h : readT P s (ev e) o = some v) : OpSim P o e s v s := by
  intro g w a hR hE next Q hn
  rw [readT_congr s o bare_eq] at h
  obtain ⟨rv, w', g', h1, h2, h3, h4⟩ := readT_ok (bare_ok hE) hR h
  unfold Oper.wp
  rw [h1]
  exact hn rv w' g' h2 h3 h4
theorem OpSim.eff {o : Oper} {e : Env} {s s' : St} {v : TV} (h : effT P s (ev e) o = some (v, s')) : OpSim P o e s v s' := by
  intro g w a hR hE next Q hn
  rw [effT_congr s o bare_eq] at h
  obtain ⟨rv, w', g', h1, h2, h3, h4⟩ := effT_ok (bare_ok hE) hR h
  unfold Oper.wp
  rcases h1 with h1 | ⟨h1, rfl⟩
  · rw [h1]
    exact hn rv w' g' h2 h3 h4
  · rw [h1]
    exact hn undef w' g' h2 h3 h4

theorem OpSim.call (hN : Named P) {o : Oper} {e : Env} {s s' : St} {f : FuncId} {args : List TV} {v : TV} (h : calleeT (ev e) o = some (f, args)) (hs : Sim P f args s v s') : OpSim P o e s v s' := by
  intro g w a hR hE next Q hn
  obtain ⟨⟨fn, c, hf, hb⟩, hcalls⟩ := hs
  obtain ⟨dst, op, ty, pos, after, guard⟩ := o
  unfold calleeT at h
  cases op with
  | call c =>
    obtain ⟨callee, xs, ts⟩ := c
    cases callee with
    | value fo =>
      simp only at h
      have hfo := hE fo (by simp [Op.operands, Call.operands])
      split at h
      · rename_i g0 first captured he
        cases h
        rw [he] at hfo
        cases hq : a.eval fo <;> rw [hq] at hfo <;> cases hfo
        rename_i rf rc r1 r2
        have hargs : VRels g (rf ++ xs.map a.eval ++ rc).toList (first ++ xs.toList.map (ev e) ++ captured) := by
          simp only [Array.toList_append, Array.toList_map]
          exact (r1.append (VRels.map_mem _ (fun x hx => hE x (by simp [Op.operands, Call.operands, Array.mem_toList_iff.1 hx])))).append r2
        have hC := hcalls g w _ hR hargs
        rw [Array.toArray_toList] at hC
        have hname : ¬ fn.name = "runtime.NumGoroutine" := by have := hN f fn hf; simpa using this
        have hrun : (execOp a.eval ⟨dst, .call ⟨.value fo, xs, ts⟩, ty, pos, after, guard⟩).run P w = .ok (.enter f (rf ++ xs.map a.eval ++ rc)) w := by
          simp [execOp, resolve, hq, Deferred.ofValue, invoke, callFunc, run_program, hf, hname, hb]
        unfold Oper.wp
        rw [hrun]
        simp only [Oper.upon]
        refine hC.mono fun en w' hen => ?_
        obtain ⟨rv, g', rfl, h1, h2, h3⟩ := hen
        exact hn rv w' g' h1 h2 h3
      · cases h
    | _ => simp at h
  | _ => simp at h

theorem opK_ok {ρ : Type} (hN : Named P) {call : CallK ρ} (hC : CallOk P call) {o : Oper} {e : Env} {s : St} {k : TV → St → Option ρ} {r : ρ} (h : opK P call o e s k = some r) :
    ∃ v s', OpSim P o e s v s' ∧ (isRead o = true → readT P s (ev e) o = some v ∧ s' = s) ∧ k v s' = some r := by
  unfold opK at h
  split at h
  · rename_i hread
    split at h
    · rename_i v hv
      rw [forceV_eq] at h
      exact ⟨v, s, .read hv, fun _ => ⟨hv, rfl⟩, h⟩
    · cases h
  · rename_i hread
    split at h
    · rename_i f args hc
      rw [forceList_eq] at h
      obtain ⟨v, s', h1, h2⟩ := hC _ _ _ _ _ h
      exact ⟨v, s', .call hN hc h1, fun h => absurd h hread, h2⟩
    · split at h
      · rename_i v s' hv
        rw [forceV_eq, forceSt_eq] at h
        exact ⟨v, s', .eff hv, fun h => absurd h hread, h⟩
      · cases h

theorem opsK_nil {ρ : Type} {call : CallK ρ} {ops : List Oper} {e : Env} {s : St} {k : Env → St → Option ρ} : opsK P call ops [] e s k = k e s := rfl
theorem opsK_cons {ρ : Type} {call : CallK ρ} {ops : List Oper} {o : Oper} {rest : List Oper} {e : Env} {s : St} {k : Env → St → Option ρ} : opsK P call ops (o :: rest) e s k = match wantedT ops e o with
    | some true => opK P call o e s fun v s => putK o.dst v e fun e => opsK P call ops rest e s k
    | some false => putK o.dst undefT e fun e => opsK P call ops rest e s k
    | none => none := rfl
theorem loopK_zero {ρ : Type} {f : RunK ρ} {e : Env} {s : St} {k : Ex → Env → St → Option ρ} : loopK f 0 e s k = none := rfl
theorem loopK_succ {ρ : Type} {f : RunK ρ} {n : Nat} {e : Env} {s : St} {k : Ex → Env → St → Option ρ} : loopK f (n + 1) e s k = f e s fun x e s => match x with
    | .normal => loopK f n e s k
    | x => k x e s := rfl
theorem wantedT_at {g : G} {a : Act} {e : Env} {ops : Array Oper} {o : Oper} {b : Bool} (hE : ∀ j b d, o.guard = some (j, b) → (ops[j]?).bind (·.dst) = some d → VRel g (a.tmps.getD d undef) (e.at d))
    (h : wantedT ops.toList e o = some b) : Region.wanted o (yielded ops a.tmps) = b := by
  unfold wantedT at h
  unfold Region.wanted
  cases hg : o.guard with
  | none => rw [hg] at h; cases h; rfl
  | some p =>
    obtain ⟨j, want⟩ := p
    rw [hg] at h
    simp only at h ⊢
    split at h
    · rename_i d hd
      have hd' : (ops[j]?).bind (·.dst) = some d := by simpa using hd
      have hat := hE j want d hg hd'
      have hy : yielded ops a.tmps j = match a.tmps[d]? with | some (.bool b) => some b | _ => none := by
        simp only [yielded, hd', Option.bind_some]
        cases a.tmps[d]? with
        | none => rfl
        | some v => cases v <;> rfl
      split at h
      · rename_i b' he
        cases h
        rw [he] at hat
        cases ht : a.tmps[d]? with
        | none =>
          simp only [Array.getD_eq_getD_getElem?, ht, Option.getD_none] at hat
          cases hat
        | some v =>
          simp only [Array.getD_eq_getD_getElem?, ht, Option.getD_some] at hat
          cases hat
          rw [hy, ht]
          show (some b' == some want) = (b' == want)
          cases b' <;> cases want <;> rfl
      · rename_i he
        cases h
        rw [he] at hat
        cases ht : a.tmps[d]? with
        | none => rw [hy, ht]; rfl
        | some v =>
          simp only [Array.getD_eq_getD_getElem?, ht, Option.getD_some] at hat
          cases hat
          rw [hy, ht]
          rfl
      · cases h
    · cases h
theorem wantedT_ok {g : G} {a : Act} {e : Env} (hE : EnvRel g a e) {ops : Array Oper} {o : Oper} {b : Bool} (h : wantedT ops.toList e o = some b) : Region.wanted o (yielded ops a.tmps) = b :=
  wantedT_at (fun _ _ d _ _ => hE.at d) h

/-- Operations one behind the other. -/
def SeqSim (P : Program) (ops : Array Oper) (l : List Oper) (e : Env) (s : St) (e' : Env) (s' : St) : Prop :=
  ∀ (g : G) (w : World) (a : Act), Rel P g w s → EnvRel g a e → ∀ (Q : Exit → Act → World → Prop),
    (∀ a' w' g', g.le g' → Rel P g' w' s' → EnvRel g' a' e' → a'.defers = a.defers → Q .normal a' w') → wpList P ops Q l a w

theorem opsK_ok {ρ : Type} (hN : Named P) {call : CallK ρ} (hC : CallOk P call) (ops : Array Oper) : ∀ (l : List Oper) (e : Env) (s : St) (k : Env → St → Option ρ) (r : ρ), opsK P call ops.toList l e s k = some r →
    ∃ e' s', SeqSim P ops l e s e' s' ∧ k e' s' = some r := by
  intro l
  induction l with
  | nil => intro e s k r h; exact ⟨e, s, fun g w a hR hE Q hQ => hQ a w g (.refl g) hR hE rfl, h⟩
  | cons o l ih =>
    intro e s k r h
    simp only [opsK_cons] at h
    split at h
    · rename_i hw
      obtain ⟨v, s1, h1, _, h2⟩ := opK_ok hN hC h
      rw [putK_eq] at h2
      obtain ⟨e', s', h3, h4⟩ := ih _ _ _ _ h2
      refine ⟨e', s', fun g w a hR hE Q hQ => ?_, h4⟩
      unfold wpList
      rw [wantedT_ok hE hw, if_pos rfl]
      refine .inl (h1 g w a hR (hE.operands o) _ _ fun rv w' g' hle hR' hv => ?_)
      refine h3 g' w' _ hR' ((hE.mono hle).put hv o.dst) Q fun a' w'' g'' hle' hR'' hE'' hd => ?_
      exact hQ a' w'' g'' (hle.trans hle') hR'' hE'' (hd.trans (put_defers _ _ _))
    · rename_i hw
      rw [putK_eq] at h
      obtain ⟨e', s', h3, h4⟩ := ih _ _ _ _ h
      refine ⟨e', s', fun g w a hR hE Q hQ => ?_, h4⟩
      unfold wpList
      rw [wantedT_ok hE hw, if_neg (by simp)]
      refine h3 g w _ hR (hE.put (VRel.undef' g) o.dst) Q fun a' w'' g'' hle' hR'' hE'' hd => ?_
      exact hQ a' w'' g'' hle' hR'' hE'' (hd.trans (put_defers _ _ _))
    · cases h

def exOf : Ex → Exit
  | .normal => .normal
  | .exit id => .exit id
  | .ret => .ret

/-- Code. -/
def CodeSim (P : Program) (c : Code) (e : Env) (s : St) (x : Ex) (e' : Env) (s' : St) : Prop :=
  ∀ (g : G) (w : World) (a : Act), Rel P g w s → EnvRel g a e → ∀ (Q : Exit → Act → World → Prop),
    (∀ a' w' g', g.le g' → Rel P g' w' s' → EnvRel g' a' e' → a'.defers = a.defers → Q (exOf x) a' w') → c.wp P Q a w
def RoundsSim (P : Program) (c : Code) (n : Nat) (e : Env) (s : St) (x : Ex) (e' : Env) (s' : St) : Prop :=
  ∀ (g : G) (w : World) (a : Act), Rel P g w s → EnvRel g a e → ∀ (Q : Exit → Act → World → Prop),
    (∀ a' w' g', g.le g' → Rel P g' w' s' → EnvRel g' a' e' → a'.defers = a.defers → Q (exOf x) a' w') → Code.rounds P c Q n a w

theorem CodeSim.seq {c d : Code} {e e1 e' : Env} {s s1 s' : St} {x : Ex} (h : CodeSim P c e s .normal e1 s1) (h' : CodeSim P d e1 s1 x e' s') : CodeSim P (.seq c d) e s x e' s' := by
  intro g w a hR hE Q hQ
  refine wp_seq (h g w a hR hE _ fun a1 w1 g1 hle hR1 hE1 hd => ?_)
  exact h' g1 w1 a1 hR1 hE1 Q fun a' w' g' hle' hR' hE' hd' => hQ a' w' g' (hle.trans hle') hR' hE' (hd'.trans hd)
theorem CodeSim.seq_out {c d : Code} {e e' : Env} {s s' : St} {x : Ex} (hx : x ≠ .normal) (h : CodeSim P c e s x e' s') : CodeSim P (.seq c d) e s x e' s' := by
  intro g w a hR hE Q hQ
  refine wp_seq (h g w a hR hE _ fun a1 w1 g1 hle hR1 hE1 hd => ?_)
  have := hQ a1 w1 g1 hle hR1 hE1 hd
  cases x with
  | normal => exact absurd rfl hx
  | exit id => exact this
  | ret => exact this

theorem loopK_ok {ρ : Type} {c : Code} {f : Env → St → (Ex → Env → St → Option ρ) → Option ρ} (hf : ∀ e s k r, f e s k = some r → ∃ x e' s', CodeSim P c e s x e' s' ∧ k x e' s' = some r) :
    ∀ (n : Nat) (e : Env) (s : St) (k : Ex → Env → St → Option ρ) (r : ρ), loopK f n e s k = some r → ∃ x e' s', CodeSim P (.loop c) e s x e' s' ∧ k x e' s' = some r := by
  have key : ∀ (n : Nat) (e : Env) (s : St) (k : Ex → Env → St → Option ρ) (r : ρ), loopK f n e s k = some r → ∃ x e' s', RoundsSim P c n e s x e' s' ∧ k x e' s' = some r := by
    intro n
    induction n with
    | zero => intro e s k r h; simp [loopK_zero] at h
    | succ n ih =>
      intro e s k r h
      simp only [loopK_succ] at h
      obtain ⟨x, e1, s1, h1, h2⟩ := hf _ _ _ _ h
      cases x with
      | normal =>
        obtain ⟨x, e', s', h3, h4⟩ := ih _ _ _ _ h2
        refine ⟨x, e', s', fun g w a hR hE Q hQ => ?_, h4⟩
        rw [rounds_succ]
        refine h1 g w a hR hE _ fun a1 w1 g1 hle hR1 hE1 hd => ?_
        exact h3 g1 w1 a1 hR1 hE1 Q fun a' w' g' hle' hR' hE' hd' => hQ a' w' g' (hle.trans hle') hR' hE' (hd'.trans hd)
      | exit id =>
        refine ⟨.exit id, e1, s1, fun g w a hR hE Q hQ => ?_, h2⟩
        rw [rounds_succ]
        exact h1 g w a hR hE _ fun a1 w1 g1 hle hR1 hE1 hd => hQ a1 w1 g1 hle hR1 hE1 hd
      | ret =>
        refine ⟨.ret, e1, s1, fun g w a hR hE Q hQ => ?_, h2⟩
        rw [rounds_succ]
        exact h1 g w a hR hE _ fun a1 w1 g1 hle hR1 hE1 hd => hQ a1 w1 g1 hle hR1 hE1 hd
  intro n e s k r h
  obtain ⟨x, e', s', h1, h2⟩ := key n e s k r h
  exact ⟨x, e', s', fun g w a hR hE Q hQ => wp_loop_rounds n (h1 g w a hR hE Q hQ), h2⟩
end
end Go.Proofs.YtmmofmkencnldaaGreatDoor.TV
