/-
  TV: the evaluator once more, its names kept in pieces of sixteen: it answers the same, and the kernel reckons with it faster.
-/
import Derived.Test.YtmmofmkencnldaaGreatDoorTV
namespace Go.Proofs.YtmmofmkencnldaaGreatDoor.TV.Chk
open Go
set_option linter.unusedVariables false

/-- Names in pieces of sixteen. -/
abbrev EnvC := List (List TV)
noncomputable section
def acS (x : List TV) (_ : EnvC) (ih : Nat → List TV) (n : Nat) : List TV := Nat.rec (motive := fun _ => List TV) x (fun m _ => ih m) n
def pieceC (e : EnvC) (n : Nat) : List TV := List.rec (motive := fun _ => Nat → List TV) (fun _ => []) acS e n
def atC (e : EnvC) (t : Nat) : TV := Env.at (pieceC e (t / 16)) (t % 16)
def evC (e : EnvC) : Operand → TV
  | .tmp t => atC e t
  | .const v => ofConst v
  | .global n => match globC n with
    | [] => .junk
    | cs => .eptr (cs.map fun p => .int p.1 p.2)
  | .func f => .fn (.func f) [] []
section
variable {ρ : Type}
def scN (_ _ : Nat) (_ : TV) (k : EnvC → ρ) : ρ := k []
def scS (x : List TV) (l : EnvC) (ih : Nat → Nat → TV → (EnvC → ρ) → ρ) (n m : Nat) (v : TV) (k : EnvC → ρ) : ρ := Nat.rec (motive := fun _ => ρ) (setK x m v fun x => k (x :: l)) (fun j _ => ih j m v fun l => k (x :: l)) n
def setC (e : EnvC) (n : Nat) (v : TV) (k : EnvC → ρ) : ρ := List.rec (motive := fun _ => Nat → Nat → TV → (EnvC → ρ) → ρ) scN scS e (n / 16) (n % 16) v k
def mkC : Nat → List TV → (EnvC → ρ) → ρ
  | 0, l, k => k []
  | n + 1, l, k => if l.length ≤ 16 then forceList l fun l => k [l] else forceList (l.take 16) fun x => mkC n (l.drop 16) fun r => k (x :: r)

variable (P : Program)
abbrev RunC (ρ : Type) := EnvC → St → (Ex → EnvC → St → Option ρ) → Option ρ
def wantedC (ops : List Oper) (e : EnvC) (o : Oper) : Option Bool := match o.guard with
  | none => some true
  | some (j, want) => match (ops[j]?).bind (·.dst) with
    | some d => match atC e d with
      | .bool b => some (b == want)
      | .tup [] => some false
      | _ => none
    | none => none
def putC (dst : Option Tmp) (v : TV) (e : EnvC) (k : EnvC → Option ρ) : Option ρ := match dst with
  | some d => setC e d v k
  | none => k e
/-- A store of one cell, laid open. -/
def spliceK (cs : List TV) (off : Nat) (vs : List TV) (k : List TV → ρ) : ρ := match vs with
  | [v] => setK cs off v k
  | vs => forceList (splice cs off vs) k
def storeC (s : St) (p : TV) (vs : List TV) (n : Nat) (k : TV → St → Option ρ) : Option ρ := match p with
  | .ptr o off => if vs.length = n && 0 < n then (match s.objs.get o with
      | some (.cells cs u) => if off + vs.length ≤ cs.length && vs.all cellOk then spliceK cs off vs fun cs => Tr.setK s.objs o (.cells cs u) fun objs => k undefT ⟨s.n, objs, s.ntips, s.tips⟩ else none
      | _ => none) else none
  | _ => none
def effC (o : Oper) (e : EnvC) (s : St) (k : TV → St → Option ρ) : Option ρ := match o.op with
  | .store t a x => storeC s (evC e a) (evC e x).cells (P.cellsOf t) k
  | _ => match effT P s (evC e) o with
    | some (v, s) => forceV v fun v => forceSt s fun s => k v s
    | none => none
def opC (call : CallK ρ) (o : Oper) (e : EnvC) (s : St) (k : TV → St → Option ρ) : Option ρ :=
  if isRead o then (match readT P s (evC e) o with
    | some v => forceV v fun v => k v s
    | none => none)
  else match calleeT (evC e) o with
    | some (f, args) => forceList args fun args => call f args s k
    | none => effC P o e s k
def opsNC (e : EnvC) (s : St) (k : EnvC → St → Option ρ) : Option ρ := k e s
def opsSC (call : CallK ρ) (ops : List Oper) (o : Oper) (_ : List Oper) (ih : EnvC → St → (EnvC → St → Option ρ) → Option ρ) (e : EnvC) (s : St) (k : EnvC → St → Option ρ) : Option ρ := match wantedC ops e o with
    | some true => opC P call o e s fun v s => putC o.dst v e fun e => ih e s k
    | some false => putC o.dst undefT e fun e => ih e s k
    | none => none
def opsC (call : CallK ρ) (ops : List Oper) (l : List Oper) : EnvC → St → (EnvC → St → Option ρ) → Option ρ := List.rec (motive := fun _ => EnvC → St → (EnvC → St → Option ρ) → Option ρ) opsNC (opsSC P call ops) l

structure DItemC where
  o : Oper
  e : EnvC
  v : TV
  w : Bool
def drawOkC (ops : List Oper) (items : List DItemC) (sts : List St) : Bool :=
  match sts with
  | [_] => true
  | _ =>
    let b := bits ops
    let es := ops.zipIdx.filterMap fun p => if isRead p.1 then none else some p.2
    items.zipIdx.all fun (it, i) => !(isRead it.o && it.w) ||
      (sts.zipIdx.all fun (s, k) => k < countB es (fun e => (b.getD i 0).testBit e) || countB es (fun e => !((b.getD e 0).testBit i)) < k ||
        (match readT P s (evC it.e) it.o with
        | some v => TV.beq v it.v
        | none => false))
def drawNC (ops : List Oper) (e : EnvC) (s : St) (acc : List DItemC) (sts : List St) (k : EnvC → St → Option ρ) : Option ρ := if drawOkC P ops acc.reverse sts.reverse then k e s else none
def drawSC (call : CallK ρ) (ops : List Oper) (o : Oper) (_ : List Oper) (ih : EnvC → St → List DItemC → List St → (EnvC → St → Option ρ) → Option ρ) (e : EnvC) (s : St) (acc : List DItemC) (sts : List St) (k : EnvC → St → Option ρ) : Option ρ := match wantedC ops e o with
    | some true => opC P call o e s fun v s => putC o.dst v e fun e' => ih e' s (⟨o, e, v, true⟩ :: acc) (if isRead o then sts else s :: sts) k
    | some false => putC o.dst undefT e fun e' => ih e' s (⟨o, e, undefT, false⟩ :: acc) (if isRead o then sts else s :: sts) k
    | none => none
def drawC (call : CallK ρ) (ops : List Oper) (l : List Oper) : EnvC → St → List DItemC → List St → (EnvC → St → Option ρ) → Option ρ := List.rec (motive := fun _ => EnvC → St → List DItemC → List St → (EnvC → St → Option ρ) → Option ρ) (drawNC P ops) (drawSC P call ops) l

def loopNC (_ : EnvC) (_ : St) (_ : Ex → EnvC → St → Option ρ) : Option ρ := none
def loopSC (f : RunC ρ) (_ : Nat) (ih : RunC ρ) (e : EnvC) (s : St) (k : Ex → EnvC → St → Option ρ) : Option ρ := f e s fun x e s => match x with
    | .normal => ih e s k
    | x => k x e s
def loopC (f : RunC ρ) (n : Nat) : RunC ρ := Nat.rec (motive := fun _ => RunC ρ) loopNC (loopSC f) n
def cSkipC (e : EnvC) (s : St) (k : Ex → EnvC → St → Option ρ) : Option ρ := k .normal e s
def cSeqC (_ _ : Code) (a b : RunC ρ) (e : EnvC) (s : St) (k : Ex → EnvC → St → Option ρ) : Option ρ := a e s fun x e s => match x with
    | .normal => b e s k
    | x => k x e s
def cCondC (c : Operand) (_ _ : Code) (a b : RunC ρ) (e : EnvC) (s : St) (k : Ex → EnvC → St → Option ρ) : Option ρ := match evC e c with
    | .bool true => a e s k
    | .bool false => b e s k
    | _ => none
def cBlockC (id : Nat) (_ : Code) (a : RunC ρ) (e : EnvC) (s : St) (k : Ex → EnvC → St → Option ρ) : Option ρ := a e s fun x e s => match x with
    | .exit i => if i = id then k .normal e s else k (.exit i) e s
    | x => k x e s
def cLoopC (fuel : Nat) (_ : Code) (a : RunC ρ) (e : EnvC) (s : St) (k : Ex → EnvC → St → Option ρ) : Option ρ := loopC a fuel e s k
def cExitC (id : Nat) (e : EnvC) (s : St) (k : Ex → EnvC → St → Option ρ) : Option ρ := k (.exit id) e s
def cRetC (e : EnvC) (s : St) (k : Ex → EnvC → St → Option ρ) : Option ρ := k .ret e s
def cRegionC (call : CallK ρ) (_ : Nat) (ops : Array Oper) (draw : Bool) (e : EnvC) (s : St) (k : Ex → EnvC → St → Option ρ) : Option ρ :=
  if draw then (if regionOk ops.toList then drawC P call ops.toList ops.toList e s [] [s] (k .normal) else none) else opsC P call ops.toList ops.toList e s (k .normal)
def cNoneC (_ : EnvC) (_ : St) (_ : Ex → EnvC → St → Option ρ) : Option ρ := none
def codeC (call : CallK ρ) (fuel : Nat) (c : Code) : RunC ρ :=
  Code.rec (motive := fun _ => RunC ρ) cSkipC (cRegionC P call) cSeqC cCondC cBlockC (cLoopC fuel) (fun _ _ _ _ _ _ => cNoneC) cExitC (fun _ _ => cNoneC) (fun _ => cNoneC) (fun _ => cNoneC) cRetC (fun _ => cNoneC) c
def resultsC (s : St) (e : EnvC) : List ResultVar → Option (List TV)
  | [] => some []
  | .tmp t :: l => match resultsC s e l with
    | some r => some (atC e t :: r)
    | none => none
  | .cell a t :: l => match loadT P s t (atC e a), resultsC s e l with
    | some v, some r => some (v :: r)
    | _, _ => none
def resultC (s : St) (e : EnvC) (l : List ResultVar) : Option TV := match resultsC P s e l with
  | some [v] => some v
  | some vs => some (.tup vs)
  | none => none
def callC (given : GivenT) : Nat → CallK ρ
  | 0, _, _, _, _ => none
  | n + 1, f, args, s, k => match given f args s with
    | some (v, s) => forceV v fun v => forceSt s fun s => k v s
    | none => match P.funcs[f]? with
      | some fn => match fn.body with
        | some c => mkC (args ++ List.replicate (fn.ntmps - args.length) undefT).length (args ++ List.replicate (fn.ntmps - args.length) undefT) fun e => codeC P (callC given n) n c e s fun x e s => match x with
          | .exit _ => none
          | _ => match resultC P s e fn.results.toList with
            | some v => forceV v fun v => k v s
            | none => none
        | none => none
      | none => none
end
def runC (P : Program) (given : GivenT) (n : Nat) (f : FuncId) (args : List TV) (s : St) : Option (TV × St) := callC P given n f args s fun v s => some (v, s)
end

/-! ### It answers the same -/
/-- Each piece but the last has sixteen. -/
def OkC : EnvC → Prop
  | [] => True
  | [x] => x.length ≤ 16
  | x :: y :: l => x.length = 16 ∧ OkC (y :: l)
theorem OkC.tail {x : List TV} {l : EnvC} (h : OkC (x :: l)) : OkC l := by
  cases l with
  | nil => trivial
  | cons y l => exact h.2
theorem Env.at_eq : ∀ (e : Env) (t : Nat), e.at t = (e[t]?).getD .junk
  | [], t => by simp [Env.at]
  | x :: l, 0 => rfl
  | x :: l, t + 1 => by
    show Env.at l t = _
    rw [Env.at_eq l t]
    simp
theorem pieceC_eq : ∀ (e : EnvC) (n : Nat), pieceC e n = (e[n]?).getD []
  | [], t => by simp [pieceC]
  | x :: l, 0 => rfl
  | x :: l, t + 1 => by
    show pieceC l t = _
    rw [pieceC_eq l t]
    simp
theorem flat_get : ∀ (e : EnvC) (q r : Nat), OkC e → r < 16 → (e.flatten)[16 * q + r]? = ((e[q]?).getD [])[r]?
  | [], q, r, _, _ => by simp
  | [x], 0, r, h, hr => by simp
  | [x], q + 1, r, h, hr => by
    have h' : x.length ≤ 16 := h
    simp
    omega
  | x :: y :: l, 0, r, h, hr => by
    have h1 : x.length = 16 := h.1
    rw [List.flatten_cons, List.getElem?_append_left (by omega)]
    simp
  | x :: y :: l, q + 1, r, h, hr => by
    have h1 : x.length = 16 := h.1
    rw [List.flatten_cons, List.getElem?_append_right (by omega), h1, show 16 * (q + 1) + r - 16 = 16 * q + r by omega, flat_get (y :: l) q r h.2 hr]
    simp
theorem atC_flat {e : EnvC} (h : OkC e) (t : Nat) : atC e t = Env.at e.flatten t := by
  have h1 := flat_get e (t / 16) (t % 16) h (by omega)
  rw [Env.at_eq, atC, Env.at_eq, pieceC_eq, ← h1, show 16 * (t / 16) + t % 16 = t by omega]
theorem evC_flat {e : EnvC} (h : OkC e) : evC e = ev e.flatten := by
  funext o
  cases o with
  | tmp t => exact atC_flat h t
  | const v => rfl
  | global n => rfl
  | func f => rfl
theorem setK_set {ρ : Type} : ∀ (l : List TV) (n : Nat) (v : TV) (k : List TV → ρ), setK l n v k = k (l.set n v)
  | [], n, v, k => rfl
  | x :: l, 0, v, k => rfl
  | x :: l, n + 1, v, k => by
    show setK l n v (fun l => k (x :: l)) = _
    rw [setK_set l n v]
    rfl
def setP : EnvC → Nat → Nat → TV → EnvC
  | [], _, _, _ => []
  | x :: l, 0, m, v => x.set m v :: l
  | x :: l, n + 1, m, v => x :: setP l n m v
theorem setP_eq {ρ : Type} : ∀ (e : EnvC) (n m : Nat) (v : TV) (k : EnvC → ρ), List.rec (motive := fun _ => Nat → Nat → TV → (EnvC → ρ) → ρ) scN scS e n m v k = k (setP e n m v)
  | [], n, m, v, k => rfl
  | x :: l, 0, m, v, k => by
    show setK x m v (fun x => k (x :: l)) = _
    rw [setK_set]
    rfl
  | x :: l, n + 1, m, v, k => by
    show List.rec (motive := fun _ => Nat → Nat → TV → (EnvC → ρ) → ρ) scN scS l n m v (fun l => k (x :: l)) = _
    rw [setP_eq l n m v]
    rfl
theorem setP_ok : ∀ (e : EnvC) (n m : Nat) (v : TV), OkC e → OkC (setP e n m v)
  | [], n, m, v, h => h
  | [x], 0, m, v, h => by
    show (x.set m v).length ≤ 16
    rw [List.length_set]
    exact h
  | [x], n + 1, m, v, h => h
  | x :: y :: l, 0, m, v, h => ⟨by rw [List.length_set]; exact h.1, h.2⟩
  | x :: y :: l, n + 1, m, v, h => by
    have h2 := setP_ok (y :: l) n m v h.2
    cases n with
    | zero => exact ⟨h.1, h2⟩
    | succ n => exact ⟨h.1, h2⟩
theorem setP_flat : ∀ (e : EnvC) (n m : Nat) (v : TV), OkC e → m < 16 → (setP e n m v).flatten = e.flatten.set (16 * n + m) v
  | [], n, m, v, h, hm => by simp [setP]
  | [x], 0, m, v, h, hm => by simp [setP]
  | [x], n + 1, m, v, h, hm => by
    have h' : x.length ≤ 16 := h
    simp only [setP, List.flatten_cons, List.flatten_nil, List.append_nil]
    rw [List.set_eq_of_length_le (by omega)]
  | x :: y :: l, 0, m, v, h, hm => by
    have h1 : x.length = 16 := h.1
    simp only [setP, List.flatten_cons]
    rw [Nat.mul_zero, Nat.zero_add, List.set_append_left _ _ (by omega)]
  | x :: y :: l, n + 1, m, v, h, hm => by
    have h1 : x.length = 16 := h.1
    rw [List.flatten_cons (L := y :: l), List.set_append_right _ _ (by omega), h1, show 16 * (n + 1) + m - 16 = 16 * n + m by omega, ← setP_flat (y :: l) n m v h.2 hm]
    rfl
theorem setC_flat {ρ : Type} {e : EnvC} (h : OkC e) (n : Nat) (v : TV) {k : EnvC → ρ} {k' : Env → ρ} (hk : ∀ e, OkC e → k e = k' e.flatten) : setC e n v k = setK e.flatten n v k' := by
  unfold setC
  rw [setP_eq, setK_set, hk _ (setP_ok e _ _ v h), setP_flat e _ _ v h (by omega), show 16 * (n / 16) + n % 16 = n by omega]
theorem forceList_eq {α ρ : Type} : ∀ (l : List α) (k : List α → ρ), forceList l k = k l
  | [], k => rfl
  | x :: l, k => by
    show forceList l (fun l => k (x :: l)) = _
    rw [forceList_eq l]
theorem mkC_flat {ρ : Type} : ∀ (n : Nat) (l : List TV) {k : EnvC → ρ} {k' : Env → ρ}, l.length ≤ n → (∀ e, OkC e → k e = k' e.flatten) → mkC n l k = k' l
  | 0, l, k, k', hl, hk => by
    obtain rfl : l = [] := List.eq_nil_of_length_eq_zero (by omega)
    exact hk [] trivial
  | n + 1, l, k, k', hl, hk => by
    unfold mkC
    split
    · rename_i h
      rw [forceList_eq, hk [l] h]
      simp
    · rename_i h
      rw [forceList_eq]
      have e : l = l.take 16 ++ l.drop 16 := (List.take_append_drop 16 l).symm
      rw [mkC_flat n (l.drop 16) (k' := fun r => k' (l.take 16 ++ r)) (by rw [List.length_drop]; omega)]
      · rw [← e]
      · intro r hr
        rw [hk (l.take 16 :: r) ?_]
        · simp
        · cases r with
          | nil =>
            show (l.take 16).length ≤ 16
            rw [List.length_take]; omega
          | cons y r => exact ⟨by rw [List.length_take]; omega, hr⟩
section
variable {ρ : Type} {P : Program}
theorem putC_flat {dst : Option Tmp} {v : TV} {e : EnvC} (h : OkC e) {k : EnvC → Option ρ} {k' : Env → Option ρ} (hk : ∀ e, OkC e → k e = k' e.flatten) : putC dst v e k = putK dst v e.flatten k' := by
  cases dst with
  | none => exact hk e h
  | some d => exact setC_flat h d v hk
theorem wantedC_flat {ops : List Oper} {e : EnvC} (h : OkC e) (o : Oper) : wantedC ops e o = wantedT ops e.flatten o := by
  unfold wantedC wantedT
  cases hg : o.guard with
  | none => rfl
  | some p =>
    obtain ⟨j, want⟩ := p
    cases hd : (ops[j]?).bind (·.dst) with
    | none => simp only [hd]
    | some d =>
      simp only [hd]
      rw [atC_flat h]
      rfl
theorem Tr.setK_eq {α ρ : Type} : ∀ (t : Tr α) (n : Nat) (v : α) (k : Tr α → ρ), Tr.setK t n v k = k (Tr.set t n v)
  | .nil, n, v, k => rfl
  | .node u l r, n, v, k => by
    unfold Tr.setK Tr.set
    split
    · rfl
    · split
      · rw [Tr.setK_eq l]
      · rw [Tr.setK_eq r]
theorem forceNat_eq {ρ : Type} (n : Nat) (k : Nat → ρ) : forceNat n k = k n := by cases n <;> rfl
theorem forceTr_eq {α ρ : Type} (t : Tr α) (k : Tr α → ρ) : forceTr t k = k t := by cases t <;> rfl
theorem forceSt_eq {ρ : Type} (s : St) (k : St → ρ) : forceSt s k = k s := by
  obtain ⟨n, objs, nt, tips⟩ := s
  unfold forceSt
  simp only [forceNat_eq, forceTr_eq]
theorem spliceK_eq {ρ : Type} (cs : List TV) (off : Nat) (vs : List TV) (k : List TV → ρ) (h : off + vs.length ≤ cs.length) : spliceK cs off vs k = k (splice cs off vs) := by
  unfold spliceK
  split
  · rename_i v
    have h' : off < cs.length := by simp at h; omega
    rw [setK_set, splice, List.set_eq_take_append_cons_drop, if_pos h']
    simp
  · rw [forceList_eq]
theorem effC_flat {o : Oper} {e : EnvC} (h : OkC e) {s : St} {k : TV → St → Option ρ} : effC P o e s k = (match effT P s (ev e.flatten) o with
    | some (v, s) => forceV v fun v => forceSt s fun s => k v s
    | none => none) := by
  unfold effC
  split
  · rename_i t a x ho
    unfold effT
    simp only [ho]
    rw [evC_flat h]
    unfold storeC
    cases ev e.flatten a with
    | ptr p off =>
      dsimp only
      split
      · unfold setCellsT
        cases hc : s.objs.get p with
        | none => rfl
        | some c =>
          cases c with
          | map es n => rfl
          | cells cs u =>
            dsimp only
            split
            · rename_i hl
              have hl' : off + (ev e.flatten x).cells.length ≤ cs.length := by
                simp only [Bool.and_eq_true, decide_eq_true_eq] at hl
                exact hl.1
              rw [spliceK_eq _ _ _ _ hl', Tr.setK_eq]
              simp only [Option.map_some]
              exact (forceSt_eq ⟨s.n, s.objs.set p (.cells (splice cs off (ev e.flatten x).cells) u), s.ntips, s.tips⟩ (k undefT)).symm
            · rfl
      · rfl
    | _ => rfl
  · rw [evC_flat h]
theorem opC_flat {call : CallK ρ} {o : Oper} {e : EnvC} (h : OkC e) {s : St} {k : TV → St → Option ρ} : opC P call o e s k = opK P call o e.flatten s k := by
  unfold opC opK
  rw [effC_flat h, evC_flat h]
  rfl
theorem opsC_flat {call : CallK ρ} {ops : List Oper} : ∀ (l : List Oper) {e : EnvC} {s : St} {k : EnvC → St → Option ρ} {k' : Env → St → Option ρ}, OkC e → (∀ e s, OkC e → k e s = k' e.flatten s) → opsC P call ops l e s k = opsK P call ops l e.flatten s k'
  | [], e, s, k, k', h, hk => hk e s h
  | o :: l, e, s, k, k', h, hk => by
    show opsSC P call ops o l (opsC P call ops l) e s k = opsS P call ops o l (opsK P call ops l) e.flatten s k'
    unfold opsSC opsS
    rw [wantedC_flat h]
    cases wantedT ops e.flatten o with
    | none => rfl
    | some b =>
      cases b with
      | true =>
        show opC P call o e s (fun v s => putC o.dst v e fun e => opsC P call ops l e s k) = opK P call o e.flatten s (fun v s => putK o.dst v e.flatten fun e => opsK P call ops l e s k')
        rw [opC_flat h]
        congr 1
        funext v s
        exact putC_flat h fun e h => opsC_flat l h hk
      | false =>
        show (putC o.dst undefT e fun e => opsC P call ops l e s k) = (putK o.dst undefT e.flatten fun e => opsK P call ops l e s k')
        exact putC_flat h fun e h => opsC_flat l h hk
def DItemC.flat (i : DItemC) : DItem := ⟨i.o, i.e.flatten, i.v, i.w⟩
theorem drawOkC_flat {ops : List Oper} {items : List DItemC} {sts : List St} (h : ∀ i ∈ items, OkC i.e) : drawOkC P ops items sts = drawOk P ops (items.map DItemC.flat) sts := by
  unfold drawOkC drawOk
  match sts with
  | [_] => rfl
  | [] | _ :: _ :: _ =>
    dsimp only
    rw [List.zipIdx_map, List.all_map]
    have key : ∀ (p : DItemC × Nat → Bool) (q : DItemC × Nat → Bool) (l : List (DItemC × Nat)), (∀ x ∈ l, p x = q x) → l.all p = l.all q := by
      intro p q l
      induction l with
      | nil => intro _; rfl
      | cons x l ih =>
        intro hx
        rw [List.all_cons, List.all_cons, hx x (by simp), ih fun y hy => hx y (by simp [hy])]
    refine key _ _ _ fun x hx => ?_
    have hm : x.1 ∈ items := by
      have := List.mem_zipIdx hx
      obtain ⟨_, _, h3⟩ := this
      rw [h3]
      exact List.getElem_mem _
    obtain ⟨it, i⟩ := x
    have he := evC_flat (h it hm)
    simp only [Function.comp, Prod.map, id, DItemC.flat, he]
    rfl
theorem drawC_flat {call : CallK ρ} {ops : List Oper} : ∀ (l : List Oper) {e : EnvC} {s : St} {acc : List DItemC} {sts : List St} {k : EnvC → St → Option ρ} {k' : Env → St → Option ρ}, OkC e → (∀ i ∈ acc, OkC i.e) → (∀ e s, OkC e → k e s = k' e.flatten s) →
    drawC P call ops l e s acc sts k = drawK P call ops l e.flatten s (acc.map DItemC.flat) sts k'
  | [], e, s, acc, sts, k, k', h, ha, hk => by
    show drawNC P ops e s acc sts k = drawN P ops e.flatten s (acc.map DItemC.flat) sts k'
    unfold drawNC drawN
    rw [drawOkC_flat (fun i hi => ha i (List.mem_reverse.1 hi)), List.map_reverse, hk e s h]
  | o :: l, e, s, acc, sts, k, k', h, ha, hk => by
    show drawSC P call ops o l (drawC P call ops l) e s acc sts k = drawS P call ops o l (drawK P call ops l) e.flatten s (acc.map DItemC.flat) sts k'
    unfold drawSC drawS
    have hacc : ∀ v w, ∀ i ∈ (⟨o, e, v, w⟩ : DItemC) :: acc, OkC i.e := fun v w i hi => by
      rcases List.mem_cons.1 hi with rfl | hi
      · exact h
      · exact ha i hi
    rw [wantedC_flat h]
    cases wantedT ops e.flatten o with
    | none => rfl
    | some b =>
      cases b with
      | true =>
        show opC P call o e s (fun v s => putC o.dst v e fun e' => drawC P call ops l e' s (⟨o, e, v, true⟩ :: acc) (if isRead o then sts else s :: sts) k) = opK P call o e.flatten s (fun v s => putK o.dst v e.flatten fun e' => drawK P call ops l e' s (⟨o, e.flatten, v, true⟩ :: acc.map DItemC.flat) (if isRead o then sts else s :: sts) k')
        rw [opC_flat h]
        congr 1
        funext v s
        exact putC_flat h fun e' h' => drawC_flat l h' (hacc v true) hk
      | false =>
        show (putC o.dst undefT e fun e' => drawC P call ops l e' s (⟨o, e, undefT, false⟩ :: acc) (if isRead o then sts else s :: sts) k) = (putK o.dst undefT e.flatten fun e' => drawK P call ops l e' s (⟨o, e.flatten, undefT, false⟩ :: acc.map DItemC.flat) (if isRead o then sts else s :: sts) k')
        exact putC_flat h fun e' h' => drawC_flat l h' (hacc _ false) hk
def SameC (f : RunC ρ) (g : RunK ρ) : Prop := ∀ (e : EnvC) (s : St) (k : Ex → EnvC → St → Option ρ) (k' : Ex → Env → St → Option ρ), OkC e → (∀ x e s, OkC e → k x e s = k' x e.flatten s) → f e s k = g e.flatten s k'
theorem loopC_flat {f : RunC ρ} {g : RunK ρ} (hf : SameC f g) : ∀ n, SameC (loopC f n) (loopK g n)
  | 0 => fun e s k k' h hk => rfl
  | n + 1 => fun e s k k' h hk => by
    show loopSC f n (loopC f n) e s k = loopS g n (loopK g n) e.flatten s k'
    unfold loopSC loopS
    refine hf e s _ _ h fun x e s h => ?_
    cases x with
    | normal => exact loopC_flat hf n e s k k' h hk
    | exit i => exact hk _ e s h
    | ret => exact hk _ e s h
theorem noneC_flat : SameC (ρ := ρ) cNoneC cNone := fun _ _ _ _ _ _ => rfl
theorem codeC_flat {call : CallK ρ} {fuel : Nat} : ∀ c : Code, SameC (codeC P call fuel c) (codeK P call fuel c) := by
  intro c
  induction c with
  | skip => exact fun e s k k' h hk => hk _ e s h
  | region id ops draw =>
    intro e s k k' h hk
    show cRegionC P call id ops draw e s k = cRegion P call id ops draw e.flatten s k'
    unfold cRegionC cRegion
    split
    · split
      · exact drawC_flat _ (acc := []) h (fun i hi => by cases hi) fun e s h => hk _ e s h
      · rfl
    · exact opsC_flat _ h fun e s h => hk _ e s h
  | seq a b iha ihb =>
    intro e s k k' h hk
    refine iha e s _ _ h fun x e s h => ?_
    cases x with
    | normal => exact ihb e s k k' h hk
    | exit i => exact hk _ e s h
    | ret => exact hk _ e s h
  | cond c a b iha ihb =>
    intro e s k k' h hk
    show cCondC c a b (codeC P call fuel a) (codeC P call fuel b) e s k = cCond c a b (codeK P call fuel a) (codeK P call fuel b) e.flatten s k'
    unfold cCondC cCond
    rw [evC_flat h]
    cases ev e.flatten c with
    | bool b =>
      cases b with
      | true => exact iha e s k k' h hk
      | false => exact ihb e s k k' h hk
    | _ => rfl
  | block id a iha =>
    intro e s k k' h hk
    refine iha e s _ _ h fun x e s h => ?_
    cases x with
    | normal => exact hk _ e s h
    | exit i =>
      show (if i = id then k .normal e s else k (.exit i) e s) = (if i = id then k' .normal e.flatten s else k' (.exit i) e.flatten s)
      split
      · exact hk _ e s h
      · exact hk _ e s h
    | ret => exact hk _ e s h
  | loop a iha => exact loopC_flat iha fuel
  | exit id => exact fun e s k k' h hk => hk _ e s h
  | ret => exact fun e s k k' h hk => hk _ e s h
  | _ => exact noneC_flat
theorem resultsC_flat {s : St} {e : EnvC} (h : OkC e) : ∀ l, resultsC P s e l = resultsT P s e.flatten l
  | [] => rfl
  | .tmp t :: l => by
    unfold resultsC resultsT
    rw [resultsC_flat h l, atC_flat h]
    rfl
  | .cell a t :: l => by
    unfold resultsC resultsT
    rw [resultsC_flat h l, atC_flat h]
    rfl
theorem resultC_flat {s : St} {e : EnvC} (h : OkC e) (l : List ResultVar) : resultC P s e l = resultT P s e.flatten l := by
  unfold resultC resultT
  rw [resultsC_flat h]
  rfl
theorem callC_flat {given : GivenT} : ∀ n, callC (ρ := ρ) P given n = callG P given n
  | 0 => rfl
  | n + 1 => by
    funext f args s k
    unfold callC callG
    rw [callC_flat n]
    cases hgv : given f args s with
    | some p => rfl
    | none =>
      cases hf : P.funcs[f]? with
      | none => rfl
      | some fn =>
        cases hb : fn.body with
        | none => simp only [hb]
        | some c =>
          simp only [hb]
          rw [forceList_eq]
          refine mkC_flat (k' := fun e => codeK P (callG P given n) n c e s _) _ _ (Nat.le_refl _) fun e h => ?_
          refine codeC_flat c e s _ _ h fun x e s h => ?_
          cases x with
          | exit i => rfl
          | normal => simp only [resultC_flat h]; rfl
          | ret => simp only [resultC_flat h]; rfl
theorem runC_flat {given : GivenT} {n : Nat} {f : FuncId} {args : List TV} {s : St} : runC P given n f args s = runG P given n f args s := by
  unfold runC runG
  rw [callC_flat]
end
end Go.Proofs.YtmmofmkencnldaaGreatDoor.TV.Chk
