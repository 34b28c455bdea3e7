/-
  TV: a law of plain data that answers true and changes nothing: its row, from what the evaluator tells of its call. (8 texts, one behind the other)
-/
import Derived.Test.YthnhbejjikgifaaGreatDoorM03
import Derived.Handed

namespace Go.Proofs.YthnhbejjikgifaaGreatDoor.TV
open Go Go.RowKit Go.ChangeShapes Go.WideShapes Go.ChangeAt
set_option linter.unusedSimpArgs false
set_option linter.unusedVariables false

/-- What may come in at these types. -/
def ArgsOk (P : Program) (F : Nat) : List TypeId → List TV → Prop
  | [], [] => True
  | t :: ts, x :: xs => (∃ c, OkT P F t c ∧ x = mkE P t c) ∧ ArgsOk P F ts xs
  | _, _ => False

section
variable {P : Program} {H : Type} {enc : TypeId × Value → H} {W : World} {hV : VarsOk W.heap.size W}

theorem arg_ok {F base : Nat} {t : TypeId} {v : Value} {d : DataW H} {p : List MemPlace} (hs : serves P F t = true) (hv : Value.okWide P W .any base t v) (hd : DataW.Trod enc P W 0 (fun _ => true) true t v d p)
    (hw : ∀ m ∈ d.weights P t, m ≤ reachBytes) : ∃ x, VRel (start W hV) v x ∧ ∃ c, OkT P F t c ∧ x = mkE P t c := by
  obtain ⟨n, hn⟩ := hd
  obtain ⟨_, ts, hr, ho⟩ := trod_ok F t hs n _ _ hn hw
  refine ⟨mkE P t ts, ?_, ts, ho, rfl⟩
  cases ha : isAggT P t with
  | true =>
    have : ∃ cs, v = .agg cs := by
      unfold isAggT at ha
      unfold Value.okWide at hv
      split at ha <;> rename_i ht
      · rw [ht] at hv; obtain ⟨cs, h, _⟩ := hv; exact ⟨cs, h⟩
      · rw [ht] at hv; obtain ⟨cs, h, _⟩ := hv; exact ⟨cs, h⟩
      · cases ha
    obtain ⟨cs, rfl⟩ := this
    unfold mkE
    rw [if_pos ha]
    exact .agg cs ts hr
  | false =>
    obtain ⟨x, rfl, _⟩ := ho.single ha
    unfold mkE
    rw [if_neg (by simp [ha])]
    have hcs : v.cells.toList = [v] := by
      cases F with
      | zero => cases hs
      | succ F =>
        unfold serves at hs
        unfold isAggT at ha
        split at hs
        · rename_i ht; obtain ⟨b, rfl⟩ := okWide_bool ht hv; rfl
        · rename_i ht; obtain ⟨b, rfl⟩ := okWide_int ht hv; rfl
        · rename_i ht; obtain ⟨b, rfl⟩ := okWide_string ht hv; rfl
        · rename_i ht; obtain ⟨a, b, c, rfl⟩ := okWide_slice ht hv; rfl
        · rename_i ht; rw [ht] at ha; cases ha
        · rename_i ht; rw [ht] at ha; cases ha
        · cases hs
    rw [hcs] at hr
    cases hr with
    | cons _ _ _ _ h _ => exact h

theorem args_ok {F base : Nat} : ∀ (ts : List TypeId) (vs : List Value) (ds : List (DataW H)) (ps : List MemPlace), ts.all (serves P F) = true → DataW.TrodAll enc P W 0 (fun _ => true) true ts vs ds ps →
    (∀ (j : Nat) t v, ts[j]? = some t → vs[j]? = some v → Value.okWide P W .any base t v) → (∀ m ∈ DataW.weightsEach P ts ds, m ≤ reachBytes) → ∃ xs, VRels (start W hV) vs xs ∧ ArgsOk P F ts xs
  | [], [], [], _, _, _, _, _ => ⟨[], .nil, trivial⟩
  | t :: ts, v :: vs, d :: ds, ps, hs, ht, hv, hw => by
    simp only [List.all_cons, Bool.and_eq_true] at hs
    obtain ⟨p, q, h1, h2, rfl⟩ := ht
    obtain ⟨x, r, o⟩ := arg_ok hs.1 (hv 0 t v rfl rfl) h1 fun m hm => hw m (by rw [DataW.weightsEach]; exact List.mem_append_left _ hm)
    obtain ⟨xs, rs, os⟩ := args_ok ts vs ds q hs.2 h2 (fun j t' v' ht' hv' => hv (j + 1) t' v' (by simpa using ht') (by simpa using hv')) fun m hm => hw m (by rw [DataW.weightsEach]; exact List.mem_append_right _ hm)
    exact ⟨x :: xs, .cons _ _ _ _ r rs, o, os⟩
  | [], [], _ :: _, _, _, h, _, _ => h.elim
  | [], _ :: _, _, _, _, h, _, _ => h.elim
  | _ :: _, [], _, _, _, h, _, _ => h.elim
  | _ :: _, _ :: _, [], _, _, h, _, _ => h.elim

theorem args_stay (hl : laidOutB P = true) {W' : World} (hb : Below W.heap.size W W') : ∀ (ts : List TypeId) (vs : List Value) (ds : List (DataW H)) (ps : List MemPlace), ts.all (fun t => P.readableRec t && decide (t < P.types.size)) = true →
    DataW.TrodAll enc P W 0 (fun _ => true) true ts vs ds ps → (∀ x ∈ ps, x.block < W.heap.size) → DataW.TrodAll enc P W' 0 (fun b => decide (b < W.heap.size)) true ts vs ds ps
  | [], [], [], _, _, h, _ => h
  | t :: ts, v :: vs, d :: ds, ps, hs, ht, hlt => by
    simp only [List.all_cons, Bool.and_eq_true, decide_eq_true_eq] at hs
    obtain ⟨p, q, h1, h2, rfl⟩ := ht
    refine ⟨p, q, Below.trod hl hs.1.1 hs.1.2 h1 hb fun x hx => hlt x (List.mem_append_left _ hx), args_stay hl hb ts vs ds q hs.2 h2 fun x hx => hlt x (List.mem_append_right _ hx), rfl⟩
  | [], [], _ :: _, _, _, h, _ => h.elim
  | [], _ :: _, _, _, _, h, _ => h.elim
  | _ :: _, [], _, _, _, h, _ => h.elim
  | _ :: _, _ :: _, [], _, _, h, _ => h.elim
end

/-- The spec of a law: true, and the arguments as they were. -/
structure LawSpec (s : ChangeSpec) (n : Nat) : Prop where
  vars : s.vars = []
  fn : ∀ (H : Type) (ds : List (DataW H)), ds.length = n → s.fn H ds = { results := [.lit (.bool true)], args := ds }

theorem trodAll_length {H : Type} {enc : TypeId × Value → H} {P : Program} {W : World} {base : Nat} {sp : Nat → Bool} {held : Bool} : ∀ (ts : List TypeId) (vs : List Value) (ds : List (DataW H)) (ps : List MemPlace),
    DataW.TrodAll enc P W base sp held ts vs ds ps → ds.length = ts.length
  | [], [], [], _, _ => rfl
  | _ :: ts, _ :: vs, _ :: ds, _, h => by
    obtain ⟨p, q, _, h2, _⟩ := h
    simp [trodAll_length ts vs ds q h2]
  | [], [], _ :: _, _, h => h.elim
  | [], _ :: _, _, _, h => h.elim
  | _ :: _, [], _, _, h => h.elim
  | _ :: _, _ :: _, [], _, h => h.elim

theorem law_lifted {C : Checked} (os : Os) (started : os.Started) {H : Type} {enc : TypeId × Value → H} {f : FuncId} {fn : Func} {s : ChangeSpec} {conds : List PathCond} {F : Nat} {bt : TypeId}
    (own : ownKnob C.prog.godebug = none) (noInit : C.prog.inits.idxOf? f = none) (hfn : C.prog.funcs[f]? = some fn) (hlo : laidOutB C.prog = true)
    (hr : fn.params.toList.all (fun t => C.prog.readableRec t && decide (t < C.prog.types.size)) = true) (hs : fn.params.toList.all (serves C.prog F) = true) (hres : fn.resultTypes = #[bt]) (hbt : C.prog.underlying bt = some .bool)
    (spec : LawSpec s fn.params.toList.length)
    (witness : ∃ (w : World) (tape : Tape) (i : Input), w.os = os ∧ (w.forCall tape i).Shaped C.prog ∧ i.vars = [] ∧ Input.okWide C.prog (w.forCall tape i) .any w.heap.size f i ∧
      s.pre6 enc C.prog fn conds false (w.forCall tape i).memory i.args ∧ ({} : Assume).holds C.prog (lone (Frame.enter C.prog f i.args .normal) [] (w.forCall tape i)))
    (law : ∀ xs, ArgsOk C.prog F fn.params.toList xs → ∃ s', Sim C.prog f xs St.none (.bool true) s') (vars : ∀ W : World, VarsOk W.heap.size W := by exact fun _ => trivial) :
    ReturnsInHanded {} C os f .any (s.pre6 enc C.prog fn conds false) (s.post enc C.prog fn false true false false) := by
  refine returnsInHanded_of_change_sized own started noInit hfn witness ?_
  intro W base args ds gs before hval hW _ hsz _
  have hW' := hW
  obtain ⟨p, q, hA, hV, rfl, _, _⟩ := hW
  rw [spec.vars] at hV
  obtain ⟨rfl, rfl⟩ := trodVars_none hV
  have hvt : s.plain.varTypes C.prog = [] := by
    unfold DataSpec.varTypes ChangeSpec.plain
    simp [spec.vars]
  rw [hvt, List.append_nil, List.append_nil] at hsz
  have hlt : ∀ x ∈ p, x.block < W.heap.size := fun x hx => hW'.lt x (List.mem_append_left _ hx)
  obtain ⟨xs, hrel, hok⟩ := args_ok (F := F) (base := base) fn.params.toList args.toList ds p hs hA (fun j t v h1 h2 => hval j t v (by simpa using h1) (by simpa using h2)) (fun m hm => by
    have := List.all_eq_true.1 hsz m hm
    simpa using this)
  obtain ⟨s', hsim⟩ := law xs hok
  have hcall := hsim.2 (start W (vars W)) W args.toList (Rel.start C.prog W (vars W)) hrel
  rw [Array.toArray_toList] at hcall
  refine hcall.mono fun e W' ⟨rv, g', he, hle, hR', hv⟩ => ?_
  cases hv
  have hbel : Below W.heap.size W W' := by
    have := hR'.below
    rw [hle.base, hle.w0] at this
    exact this
  have hlen : (ds ++ []).length = fn.params.toList.length := by rw [List.append_nil]; exact trodAll_length _ _ _ _ hA
  refine ⟨_, he, ds, [], p ++ [], [], p, [], hW', ?_, ?_, ?_, hbel.frame _, fun h => by cases h⟩
  · rw [spec.fn H _ hlen, hres]
    exact trodAll_mk1 ⟨1, by simp [DataW.trod, hbt, Value.cells]⟩
  · rw [spec.fn H _ hlen, List.append_nil]
    exact args_stay hlo hbel _ _ _ _ hr hA hlt
  · rw [spec.vars, spec.fn H _ hlen]
    exact rfl
theorem trodAll_vals {H : Type} {enc : TypeId × Value → H} {P : Program} {W : World} {base : Nat} {sp : Nat → Bool} {held : Bool} : ∀ (ts : List TypeId) (vs : List Value) (ds : List (DataW H)) (ps : List MemPlace),
    DataW.TrodAll enc P W base sp held ts vs ds ps → vs.length = ts.length
  | [], [], [], _, _ => rfl
  | _ :: ts, _ :: vs, _ :: ds, _, h => by
    obtain ⟨p, q, _, h2, _⟩ := h
    simp [trodAll_vals ts vs ds q h2]
  | [], [], _ :: _, _, h => h.elim
  | [], _ :: _, _, _, h => h.elim
  | _ :: _, [], _, _, h => h.elim
  | _ :: _, _ :: _, [], _, h => h.elim
theorem junk_rels {g : G} : ∀ (vs : List Value), VRels g vs (List.replicate vs.length .junk)
  | [] => .nil
  | v :: vs => .cons _ _ _ _ (.junk v) (junk_rels vs)
/-- A law that looks at none of what comes in; variables that are laid. -/
theorem law_laid {C : Checked} (os : Os) (started : os.Started) {H : Type} {enc : TypeId × Value → H} {f : FuncId} {fn : Func} {s : ChangeSpec} {conds : List PathCond} {bt : TypeId} {X : World → Prop} (hX : ∀ w w' : World, w.heap = w'.heap → X w → X w')
    (own : ownKnob C.prog.godebug = none) (noInit : C.prog.inits.idxOf? f = none) (hfn : C.prog.funcs[f]? = some fn) (hlo : laidOutB C.prog = true)
    (hr : fn.params.toList.all (fun t => C.prog.readableRec t && decide (t < C.prog.types.size)) = true) (hres : fn.resultTypes = #[bt]) (hbt : C.prog.underlying bt = some .bool)
    (spec : LawSpec s fn.params.toList.length)
    (witness : ∃ (w : World) (tape : Tape) (i : Input), w.os = os ∧ (w.forCall tape i).Shaped C.prog ∧ i.vars = [] ∧ Input.okWide C.prog (w.forCall tape i) .any w.heap.size f i ∧
      ((s.pre enc C.prog fn conds false (w.forCall tape i).memory i.args ∧ X (w.forCall tape i).memory) ∧ sizedMet enc C.prog fn (OpenSpec.ofChange s) false (w.forCall tape i).memory i.args) ∧ ({} : Assume).holds C.prog (lone (Frame.enter C.prog f i.args .normal) [] (w.forCall tape i)))
    (vars : ∀ W : World, X W → VarsOk W.heap.size W) (law : ∃ s', Sim C.prog f (List.replicate fn.params.toList.length .junk) St.none (.bool true) s') :
    ReturnsInHanded {} C os f .any (fun w args => (s.pre enc C.prog fn conds false w args ∧ X w) ∧ sizedMet enc C.prog fn (OpenSpec.ofChange s) false w args) (s.post enc C.prog fn false true false false) := by
  refine returnsInHanded_of_change_and (X := fun w _ => X w) (fun w w' _ h hx => hX w w' h hx) own started noInit hfn witness ?_
  intro W base args ds gs before hval hW _ hsz hXW _
  have hW' := hW
  obtain ⟨p, q, hA, hV, rfl, _, _⟩ := hW
  rw [spec.vars] at hV
  obtain ⟨rfl, rfl⟩ := trodVars_none hV
  have hlt : ∀ x ∈ p, x.block < W.heap.size := fun x hx => hW'.lt x (List.mem_append_left _ hx)
  obtain ⟨s', hsim⟩ := law
  have hrel : VRels (start W (vars W hXW)) args.toList (List.replicate fn.params.toList.length .junk) := by
    rw [← trodAll_vals _ _ _ _ hA]
    exact junk_rels _
  have hcall := hsim.2 (start W (vars W hXW)) W args.toList (Rel.start C.prog W (vars W hXW)) hrel
  rw [Array.toArray_toList] at hcall
  refine hcall.mono fun e W' ⟨rv, g', he, hle, hR', hv⟩ => ?_
  cases hv
  have hbel : Below W.heap.size W W' := by
    have := hR'.below
    rw [hle.base, hle.w0] at this
    exact this
  have hlen : (ds ++ []).length = fn.params.toList.length := by rw [List.append_nil]; exact trodAll_length _ _ _ _ hA
  refine ⟨_, he, ds, [], p ++ [], [], p, [], hW', ?_, ?_, ?_, hbel.frame _, fun h => by cases h⟩
  · rw [spec.fn H _ hlen, hres]
    exact trodAll_mk1 ⟨1, by simp [DataW.trod, hbt, Value.cells]⟩
  · rw [spec.fn H _ hlen, List.append_nil]
    exact args_stay hlo hbel _ _ _ _ hr hA hlt
  · rw [spec.vars, spec.fn H _ hlen]
    exact rfl
/-- What may be told of an argument of which nothing is known but its type. -/
def shapeArg (P : Program) (t : TypeId) : TV := if isAggT P t then .agg (List.replicate (P.cellsOf t) .junk) else .junk
theorem shape_rel {P : Program} {W : World} {r : Reach} {base : Nat} {t : TypeId} {v : Value} {g : G} (h : Value.okWide P W r base t v) : VRel g v (shapeArg P t) := by
  unfold shapeArg
  split
  · rename_i ha
    have : ∃ cs, v = .agg cs ∧ cs.size = P.cellsOf t := by
      unfold isAggT at ha
      unfold Value.okWide at h
      split at ha <;> rename_i ht
      · rw [ht] at h; obtain ⟨cs, h, h', _⟩ := h; exact ⟨cs, h, h'⟩
      · rw [ht] at h; obtain ⟨cs, h, h', _⟩ := h; exact ⟨cs, h, h'⟩
      · cases ha
    obtain ⟨cs, rfl, hs⟩ := this
    refine .agg cs _ ?_
    rw [← hs, ← Array.length_toList]
    exact junk_rels _
  · exact .junk _
theorem shape_rels {P : Program} {W : World} {r : Reach} {base : Nat} {g : G} : ∀ (ts : List TypeId) (vs : List Value), vs.length = ts.length → (∀ (j : Nat) t v, ts[j]? = some t → vs[j]? = some v → Value.okWide P W r base t v) → VRels g vs (ts.map (shapeArg P))
  | [], [], _, _ => .nil
  | t :: ts, v :: vs, hl, h => .cons _ _ _ _ (shape_rel (h 0 t v rfl rfl)) (shape_rels ts vs (by simpa using hl) fun j t' v' h1 h2 => h (j + 1) t' v' (by simpa using h1) (by simpa using h2))
  | [], _ :: _, h, _ => by simp at h
  | _ :: _, [], h, _ => by simp at h

/-- A law whose run looks at no argument, with laid variables, in a world that is well typed. -/
theorem law_shut {C : Checked} (os : Os) (started : os.Started) {H : Type} {enc : TypeId × Value → H} {f : FuncId} {fn : Func} {s : ChangeSpec} {conds : List PathCond} {bt : TypeId} {X : World → Prop} (hX : ∀ w w' : World, w.heap = w'.heap → X w → X w')
    (own : ownKnob C.prog.godebug = none) (noInit : C.prog.inits.idxOf? f = none) (hfn : C.prog.funcs[f]? = some fn) (hlo : laidOutB C.prog = true)
    (hr : fn.params.toList.all (fun t => C.prog.readableRec t && decide (t < C.prog.types.size)) = true) (hres : fn.resultTypes = #[bt]) (hbt : C.prog.underlying bt = some .bool)
    (spec : LawSpec s fn.params.toList.length)
    (witness : ∃ (w : World) (tape : Tape) (i : Input), w.os = os ∧ (w.forCall tape i).Shaped C.prog ∧ i.vars = [] ∧ Input.okWide C.prog (w.forCall tape i) .any w.heap.size f i ∧
      ((s.pre enc C.prog fn conds false (w.forCall tape i).memory i.args ∧ X (w.forCall tape i).memory) ∧ sizedMet enc C.prog fn (OpenSpec.ofChange s) false (w.forCall tape i).memory i.args) ∧ ({} : Assume).holds C.prog (lone (Frame.enter C.prog f i.args .normal) [] (w.forCall tape i)))
    (vars : ∀ W : World, X W → W.ShapedOpen C.prog → VarsOk W.heap.size W) (law : ∃ s', Sim C.prog f (fn.params.toList.map (shapeArg C.prog)) St.none (.bool true) s') :
    ReturnsInHanded {} C os f .any (fun w args => (s.pre enc C.prog fn conds false w args ∧ X w) ∧ sizedMet enc C.prog fn (OpenSpec.ofChange s) false w args) (s.post enc C.prog fn false true false false) := by
  refine returnsInHanded_of_calls own started noInit witness ?_
  intro w tape i _ hsh _ hok hpre _
  obtain ⟨_, _, _, fn', hfn', _, _, _, hargs, hval⟩ := hok
  have e : fn' = fn := Option.some.inj (hfn'.symm.trans hfn)
  subst e
  obtain ⟨⟨⟨ds, gs, before, hw, _⟩, hx⟩, _⟩ := hpre
  have hW := DataW.Whole.of_heap (w' := w.forCall tape i) (by rfl) hw
  have hXW : X (w.forCall tape i) := hX _ _ (by rfl) hx
  generalize hWW : w.forCall tape i = W at *
  have hW' := hW
  obtain ⟨p, q, hA, hV, rfl, _, _⟩ := hW
  rw [spec.vars] at hV
  obtain ⟨rfl, rfl⟩ := trodVars_none hV
  have hlt : ∀ x ∈ p, x.block < W.heap.size := fun x hx => hW'.lt x (List.mem_append_left _ hx)
  obtain ⟨s', hsim⟩ := law
  have hrel : VRels (start W (vars W hXW hsh)) i.args.toList (fn'.params.toList.map (shapeArg C.prog)) :=
    shape_rels _ _ (trodAll_vals _ _ _ _ hA) fun j t v h1 h2 => hval j t v (by simpa using h1) (by simpa using h2)
  have hcall := hsim.2 (start W (vars W hXW hsh)) W i.args.toList (Rel.start C.prog W (vars W hXW hsh)) hrel
  rw [Array.toArray_toList] at hcall
  refine hcall.mono fun e W' ⟨rv, g', he, hle, hR', hv⟩ => ?_
  cases hv
  have hbel : Below W.heap.size W W' := by
    have := hR'.below
    rw [hle.base, hle.w0] at this
    exact this
  have hlen : (ds ++ []).length = fn'.params.toList.length := by rw [List.append_nil]; exact trodAll_length _ _ _ _ hA
  subst he
  subst hWW
  refine ChangeSpec.post_blind ⟨ds, [], p ++ [], [], p, [], hW', ?_, ?_, ?_, hbel.frame _, fun h => by cases h⟩
  · rw [spec.fn H _ hlen, hres]
    exact trodAll_mk1 ⟨1, by simp [DataW.trod, hbt, Value.cells]⟩
  · rw [spec.fn H _ hlen, List.append_nil]
    exact args_stay hlo hbel _ _ _ _ hr hA hlt
  · rw [spec.vars, spec.fn H _ hlen]
    exact rfl
end Go.Proofs.YthnhbejjikgifaaGreatDoor.TV

/-
  TV: proofs about code on plain values: rules, one for each form of code.
-/
namespace Go.Proofs.YthnhbejjikgifaaGreatDoor.TV
open Go Go.RowKit
set_option linter.unusedSimpArgs false
set_option linter.unusedVariables false

/-! ### Equality of values that are the same -/
mutual
theorem TV.beq_refl : ∀ (a : TV), TV.beq a a = true
  | .junk | .nilp | .nilfn | .niliface => by simp [TV.beq]
  | .bool _ | .int _ _ | .str _ | .ptr _ _ | .osl _ _ _ _ | .gsl _ _ | .map _ => by simp [TV.beq]
  | .eptr x => by simp [TV.beq, TV.beqs_refl x]
  | .slice a x t => by cases t <;> simp [TV.beq, TV.beqs_refl x]
  | .fn f x y => by simp [TV.beq, TV.beqs_refl x, TV.beqs_refl y]
  | .iface t x => by simp [TV.beq, TV.beq_refl x]
  | .agg x => by simp [TV.beq, TV.beqs_refl x]
  | .tup x => by simp [TV.beq, TV.beqs_refl x]
theorem TV.beqs_refl : ∀ (a : List TV), TV.beqs a a = true
  | [] => by simp [TV.beqs]
  | x :: l => by simp [TV.beqs, TV.beq_refl x, TV.beqs_refl l]
end

section
variable {P : Program}

/-- The code ends so. -/
def Do (P : Program) (c : Code) (e : Env) (s : St) (Q : Ex → Env → St → Prop) : Prop := ∃ x e' s', CodeSim P c e s x e' s' ∧ Q x e' s'
/-- The call answers so. -/
def Does (P : Program) (f : FuncId) (args : List TV) (s : St) (Q : TV → St → Prop) : Prop := ∃ v s', Sim P f args s v s' ∧ Q v s'
/-- It answers v, and changes nothing that anyone knows of. -/
def Pure (P : Program) (f : FuncId) (args : List TV) (v : TV) : Prop := ∀ s, Sim P f args s v s

theorem Does.mono {f : FuncId} {args : List TV} {s : St} {Q Q' : TV → St → Prop} (h : Does P f args s Q) (hq : ∀ v s', Q v s' → Q' v s') : Does P f args s Q' :=
  let ⟨v, s', h1, h2⟩ := h; ⟨v, s', h1, hq _ _ h2⟩
theorem Does.of {f : FuncId} {args : List TV} {s s' : St} {v : TV} {Q : TV → St → Prop} (h : Sim P f args s v s') (hq : Q v s') : Does P f args s Q := ⟨v, s', h, hq⟩
theorem Pure.does {f : FuncId} {args : List TV} {s : St} {v : TV} {Q : TV → St → Prop} (h : Pure P f args v) (hq : Q v s) : Does P f args s Q := ⟨v, s, h s, hq⟩
theorem Does.sim {f : FuncId} {args : List TV} {s s' : St} {v : TV} (h : Does P f args s fun v' t => v' = v ∧ t = s') : Sim P f args s v s' := by
  obtain ⟨v', t, h1, rfl, rfl⟩ := h
  exact h1

theorem Do.mono {c : Code} {e : Env} {s : St} {Q Q' : Ex → Env → St → Prop} (h : Do P c e s Q) (hq : ∀ x e' s', Q x e' s' → Q' x e' s') : Do P c e s Q' :=
  let ⟨x, e', s', h1, h2⟩ := h; ⟨x, e', s', h1, hq _ _ _ h2⟩
theorem Do.skip {e : Env} {s : St} {Q : Ex → Env → St → Prop} (h : Q .normal e s) : Do P .skip e s Q :=
  ⟨.normal, e, s, fun g w a hR hE Q hQ => wp_skip (hQ a w g (.refl g) hR hE rfl), h⟩
theorem Do.exit {id : Nat} {e : Env} {s : St} {Q : Ex → Env → St → Prop} (h : Q (.exit id) e s) : Do P (.exit id) e s Q :=
  ⟨.exit id, e, s, fun g w a hR hE Q hQ => wp_exit (hQ a w g (.refl g) hR hE rfl), h⟩
theorem Do.ret {e : Env} {s : St} {Q : Ex → Env → St → Prop} (h : Q .ret e s) : Do P .ret e s Q :=
  ⟨.ret, e, s, fun g w a hR hE Q hQ => wp_ret (hQ a w g (.refl g) hR hE rfl), h⟩
/-- What comes behind. -/
def Then (K : Env → St → Prop) (Q : Ex → Env → St → Prop) : Ex → Env → St → Prop
  | .normal, e, s => K e s
  | x, e, s => Q x e s
theorem Do.seq {a b : Code} {e : Env} {s : St} {Q : Ex → Env → St → Prop} (h : Do P a e s (Then (fun e s => Do P b e s Q) Q)) : Do P (.seq a b) e s Q := by
  obtain ⟨x, e1, s1, h1, h2⟩ := h
  cases x with
  | normal =>
    obtain ⟨x, e', s', h3, h4⟩ := h2
    exact ⟨x, e', s', h1.seq h3, h4⟩
  | exit id => exact ⟨.exit id, e1, s1, h1.seq_out (by simp), h2⟩
  | ret => exact ⟨.ret, e1, s1, h1.seq_out (by simp), h2⟩
theorem Do.cond {c : Operand} {x y : Code} {b : Bool} {e : Env} {s : St} {Q : Ex → Env → St → Prop} (hc : ev e c = .bool b) (h : Do P (if b then x else y) e s Q) : Do P (.cond c x y) e s Q := by
  obtain ⟨z, e', s', h1, h2⟩ := h
  refine ⟨z, e', s', fun g w a hR hE Q hQ => ?_, h2⟩
  have := hE.ev c
  rw [hc] at this
  cases hv : a.eval c <;> rw [hv] at this <;> cases this
  exact wp_cond hv (h1 g w a hR hE Q hQ)
theorem Do.yes {c : Operand} {x y : Code} {e : Env} {s : St} {Q : Ex → Env → St → Prop} (hc : ev e c = .bool true) (h : Do P x e s Q) : Do P (.cond c x y) e s Q := Do.cond hc h
theorem Do.no {c : Operand} {x y : Code} {e : Env} {s : St} {Q : Ex → Env → St → Prop} (hc : ev e c = .bool false) (h : Do P y e s Q) : Do P (.cond c x y) e s Q := Do.cond hc h
/-- Out of a block. -/
def Out (id : Nat) (Q : Ex → Env → St → Prop) : Ex → Env → St → Prop
  | .exit i, e, s => if i = id then Q .normal e s else Q (.exit i) e s
  | x, e, s => Q x e s
theorem Do.block {id : Nat} {c : Code} {e : Env} {s : St} {Q : Ex → Env → St → Prop} (h : Do P c e s (Out id Q)) : Do P (.block id c) e s Q := by
  obtain ⟨x, e1, s1, h1, h2⟩ := h
  cases x with
  | normal => exact ⟨.normal, e1, s1, fun g w a hR hE Q hQ => wp_block (h1 g w a hR hE _ fun a' w' g' hle hR' hE' hd => hQ a' w' g' hle hR' hE' hd), h2⟩
  | exit i =>
    simp only [Out] at h2
    split at h2
    · rename_i hi
      refine ⟨.normal, e1, s1, fun g w a hR hE Q hQ => wp_block (h1 g w a hR hE _ fun a' w' g' hle hR' hE' hd => ?_), h2⟩
      simp only [exOf, Exit.inBlock, hi, if_true]
      exact hQ a' w' g' hle hR' hE' hd
    · rename_i hi
      refine ⟨.exit i, e1, s1, fun g w a hR hE Q hQ => wp_block (h1 g w a hR hE _ fun a' w' g' hle hR' hE' hd => ?_), h2⟩
      simp only [exOf, Exit.inBlock, hi, if_false]
      exact hQ a' w' g' hle hR' hE' hd
  | ret => exact ⟨.ret, e1, s1, fun g w a hR hE Q hQ => wp_block (h1 g w a hR hE _ fun a' w' g' hle hR' hE' hd => hQ a' w' g' hle hR' hE' hd), h2⟩

theorem Then.ret {K : Env → St → Prop} {Q : Ex → Env → St → Prop} {e : Env} {s : St} (h : Q .ret e s) : Then K Q .ret e s := h
theorem Then.exit {K : Env → St → Prop} {Q : Ex → Env → St → Prop} {i : Nat} {e : Env} {s : St} (h : Q (.exit i) e s) : Then K Q (.exit i) e s := h
theorem Then.normal {K : Env → St → Prop} {Q : Ex → Env → St → Prop} {e : Env} {s : St} (h : K e s) : Then K Q .normal e s := h
theorem Out.ret {id : Nat} {Q : Ex → Env → St → Prop} {e : Env} {s : St} (h : Q .ret e s) : Out id Q .ret e s := h
theorem Out.normal {id : Nat} {Q : Ex → Env → St → Prop} {e : Env} {s : St} (h : Q .normal e s) : Out id Q .normal e s := h
theorem Out.here {id : Nat} {Q : Ex → Env → St → Prop} {e : Env} {s : St} (h : Q .normal e s) : Out id Q (.exit id) e s := by simpa [Out] using h
theorem Out.off {id i : Nat} {Q : Ex → Env → St → Prop} {e : Env} {s : St} (hi : i ≠ id) (h : Q (.exit i) e s) : Out id Q (.exit i) e s := by simpa [Out, hi] using h

/-- A loop: what holds at its head, and a number that falls. -/
theorem Do.loop {c : Code} {Q : Ex → Env → St → Prop} (I : Nat → Env → St → Prop) (step : ∀ n e s, I n e s → Do P c e s (Then (fun e' s' => ∃ m, m < n ∧ I m e' s') Q)) {n : Nat} {e : Env} {s : St} (h0 : I n e s) : Do P (.loop c) e s Q := by
  have key : ∀ n e s, I n e s → ∃ k x e' s', RoundsSim P c k e s x e' s' ∧ Q x e' s' := by
    intro n
    induction n using Nat.strongRecOn with
    | _ n ih =>
      intro e s h0
      obtain ⟨x, e1, s1, h1, h2⟩ := step n e s h0
      cases x with
      | normal =>
        obtain ⟨m, hm, hI⟩ := h2
        obtain ⟨k, x, e', s', h3, h4⟩ := ih m hm e1 s1 hI
        refine ⟨k + 1, x, e', s', fun g w a hR hE Q hQ => ?_, h4⟩
        rw [rounds_succ]
        refine h1 g w a hR hE _ fun a1 w1 g1 hle hR1 hE1 hd => ?_
        exact h3 g1 w1 a1 hR1 hE1 Q fun a' w' g' hle' hR' hE' hd' => hQ a' w' g' (hle.trans hle') hR' hE' (hd'.trans hd)
      | exit id =>
        refine ⟨1, .exit id, e1, s1, fun g w a hR hE Q hQ => ?_, h2⟩
        rw [rounds_succ]
        exact h1 g w a hR hE _ fun a1 w1 g1 hle hR1 hE1 hd => hQ a1 w1 g1 hle hR1 hE1 hd
      | ret =>
        refine ⟨1, .ret, e1, s1, fun g w a hR hE Q hQ => ?_, h2⟩
        rw [rounds_succ]
        exact h1 g w a hR hE _ fun a1 w1 g1 hle hR1 hE1 hd => hQ a1 w1 g1 hle hR1 hE1 hd
  obtain ⟨k, x, e', s', h1, h2⟩ := key n e s h0
  exact ⟨x, e', s', fun g w a hR hE Q hQ => wp_loop_rounds k (h1 g w a hR hE Q hQ), h2⟩

/-! ### Regions -/
/-- Operations that only read, up to the first that does not. -/
noncomputable def readsTo (P : Program) (s : St) (ops : List Oper) : List Oper → Env → Option (Env × List Oper)
  | [], e => some (e, [])
  | o :: l, e => match wantedT ops e o with
    | some true => if isRead o then (match readT P s (ev e) o with
      | some v => readsTo P s ops l (putE o.dst v e)
      | none => none) else some (e, o :: l)
    | some false => readsTo P s ops l (putE o.dst undefT e)
    | none => none

theorem SeqSim.nil (ops : Array Oper) (e : Env) (s : St) : SeqSim P ops [] e s e s := fun g w a hR hE Q hQ => hQ a w g (.refl g) hR hE rfl
theorem SeqSim.cons {ops : Array Oper} {o : Oper} {l : List Oper} {e e' : Env} {s s1 s' : St} {v : TV} (hw : wantedT ops.toList e o = some true) (h1 : OpSim P o e s v s1) (h : SeqSim P ops l (putE o.dst v e) s1 e' s') : SeqSim P ops (o :: l) e s e' s' := by
  intro g w a hR hE Q hQ
  unfold wpList
  rw [wantedT_ok hE hw, if_pos rfl]
  refine .inl (h1 g w a hR (hE.operands o) _ _ fun rv w' g' hle hR' hv => ?_)
  refine h g' w' _ hR' ((hE.mono hle).put hv o.dst) Q fun a' w'' g'' hle' hR'' hE'' hd => ?_
  exact hQ a' w'' g'' (hle.trans hle') hR'' hE'' (hd.trans (put_defers _ _ _))
theorem SeqSim.idle {ops : Array Oper} {o : Oper} {l : List Oper} {e e' : Env} {s s' : St} (hw : wantedT ops.toList e o = some false) (h : SeqSim P ops l (putE o.dst undefT e) s e' s') : SeqSim P ops (o :: l) e s e' s' := by
  intro g w a hR hE Q hQ
  unfold wpList
  rw [wantedT_ok hE hw, if_neg (by simp)]
  refine h g w _ hR (hE.put (VRel.undef' g) o.dst) Q fun a' w'' g'' hle' hR'' hE'' hd => ?_
  exact hQ a' w'' g'' hle' hR'' hE'' (hd.trans (put_defers _ _ _))

/-- Operations that leave the store as it is. -/
def DoU (P : Program) (ops : Array Oper) (l : List Oper) (e : Env) (s : St) (Q : Env → Prop) : Prop :=
  ∃ e', SeqSim P ops l e s e' s ∧ (∀ j, ∃ items sts, Told P ops.toList l j e s items sts e' s ∧ ∀ s1 ∈ sts, s1 = s) ∧ Q e'
/-- Operations, in the text's order. -/
def DoS (P : Program) (ops : Array Oper) (l : List Oper) (e : Env) (s : St) (Q : Env → St → Prop) : Prop := ∃ e' s', SeqSim P ops l e s e' s' ∧ Q e' s'

theorem DoU.nil {ops : Array Oper} {e : Env} {s : St} {Q : Env → Prop} (h : Q e) : DoU P ops [] e s Q :=
  ⟨e, .nil ops e s, fun j => ⟨[], [], .nil _ j e s, fun s1 h => by simp at h⟩, h⟩
theorem DoU.read {ops : Array Oper} {o : Oper} {l : List Oper} {e : Env} {s : St} {v : TV} {Q : Env → Prop} (hw : wantedT ops.toList e o = some true) (hr : isRead o = true) (hv : readT P s (ev e) o = some v)
    (h : DoU P ops l (putE o.dst v e) s Q) : DoU P ops (o :: l) e s Q := by
  obtain ⟨e', h1, h2, hq⟩ := h
  refine ⟨e', .cons hw (.read hv) h1, fun j => ?_, hq⟩
  obtain ⟨items, sts, t, hs⟩ := h2 (j + 1)
  have := Told.cons (P := P) hw (fun h => by cases h) (fun _ _ => hv) (fun _ => rfl) (fun _ h => absurd h (by simp [hr])) t
  simp only [hr, if_true] at this
  exact ⟨_, _, this, hs⟩
theorem DoU.idle {ops : Array Oper} {o : Oper} {l : List Oper} {e : Env} {s : St} {Q : Env → Prop} (hw : wantedT ops.toList e o = some false)
    (h : DoU P ops l (putE o.dst undefT e) s Q) : DoU P ops (o :: l) e s Q := by
  obtain ⟨e', h1, h2, hq⟩ := h
  refine ⟨e', .idle hw h1, fun j => ?_, hq⟩
  obtain ⟨items, sts, t, hs⟩ := h2 (j + 1)
  have := Told.cons (P := P) hw (fun _ => ⟨rfl, rfl⟩) (fun h => by cases h) (fun _ => rfl) (fun h => by cases h) t
  refine ⟨_, _, this, ?_⟩
  split
  · exact hs
  · intro s1 h1
    rcases List.mem_cons.1 h1 with h1 | h1
    · exact h1
    · exact hs s1 h1
theorem DoU.call (hN : Named P) {ops : Array Oper} {o : Oper} {l : List Oper} {e : Env} {s : St} {f : FuncId} {args : List TV} {v : TV} {Q : Env → Prop} (hw : wantedT ops.toList e o = some true) (hr : isRead o = false)
    (hc : calleeT (ev e) o = some (f, args)) (hp : Pure P f args v) (h : DoU P ops l (putE o.dst v e) s Q) : DoU P ops (o :: l) e s Q := by
  obtain ⟨e', h1, h2, hq⟩ := h
  have ho : OpSim P o e s v s := .call hN hc (hp s)
  refine ⟨e', .cons hw ho h1, fun j => ?_, hq⟩
  obtain ⟨items, sts, t, hs⟩ := h2 (j + 1)
  have := Told.cons (P := P) hw (fun h => by cases h) (fun _ h => absurd h (by simp [hr])) (fun h => absurd h (by simp [hr])) (fun _ _ => ho) t
  simp only [hr, Bool.false_eq_true, if_false] at this
  refine ⟨_, _, this, fun s1 h1 => ?_⟩
  rcases List.mem_cons.1 h1 with h1 | h1
  · exact h1
  · exact hs s1 h1
theorem DoU.reads {ops : Array Oper} : ∀ {l l2 : List Oper} {e e1 : Env} {s : St} {Q : Env → Prop}, readsTo P s ops.toList l e = some (e1, l2) → DoU P ops l2 e1 s Q → DoU P ops l e s Q := by
  intro l
  induction l with
  | nil => intro l2 e e1 s Q h hd; cases h; exact hd
  | cons o l1 ih =>
    intro l2 e e1 s Q h hd
    simp only [readsTo] at h
    split at h
    · rename_i hw
      split at h
      · rename_i hr
        split at h
        · rename_i v hv
          exact .read hw hr hv (ih h hd)
        · cases h
      · cases h; exact hd
    · rename_i hw
      exact .idle hw (ih h hd)
    · cases h

theorem DoS.nil {ops : Array Oper} {e : Env} {s : St} {Q : Env → St → Prop} (h : Q e s) : DoS P ops [] e s Q := ⟨e, s, .nil ops e s, h⟩
theorem DoS.op {ops : Array Oper} {o : Oper} {l : List Oper} {e : Env} {s s1 : St} {v : TV} {Q : Env → St → Prop} (hw : wantedT ops.toList e o = some true) (ho : OpSim P o e s v s1) (h : DoS P ops l (putE o.dst v e) s1 Q) : DoS P ops (o :: l) e s Q :=
  let ⟨e', s', h1, hq⟩ := h; ⟨e', s', .cons hw ho h1, hq⟩
theorem DoS.idle {ops : Array Oper} {o : Oper} {l : List Oper} {e : Env} {s : St} {Q : Env → St → Prop} (hw : wantedT ops.toList e o = some false) (h : DoS P ops l (putE o.dst undefT e) s Q) : DoS P ops (o :: l) e s Q :=
  let ⟨e', s', h1, hq⟩ := h; ⟨e', s', .idle hw h1, hq⟩
theorem DoS.eff {ops : Array Oper} {o : Oper} {l : List Oper} {e : Env} {s s1 : St} {v : TV} {Q : Env → St → Prop} (hw : wantedT ops.toList e o = some true) (hv : effT P s (ev e) o = some (v, s1)) (h : DoS P ops l (putE o.dst v e) s1 Q) : DoS P ops (o :: l) e s Q :=
  .op hw (.eff hv) h
theorem DoS.call (hN : Named P) {ops : Array Oper} {o : Oper} {l : List Oper} {e : Env} {s : St} {f : FuncId} {args : List TV} {Q : Env → St → Prop} (hw : wantedT ops.toList e o = some true) (hc : calleeT (ev e) o = some (f, args))
    (h : Does P f args s fun v s1 => DoS P ops l (putE o.dst v e) s1 Q) : DoS P ops (o :: l) e s Q := by
  obtain ⟨v, s1, hs, h⟩ := h
  exact .op hw (.call hN hc hs) h
theorem DoS.reads {ops : Array Oper} : ∀ {l l2 : List Oper} {e e1 : Env} {s : St} {Q : Env → St → Prop}, readsTo P s ops.toList l e = some (e1, l2) → DoS P ops l2 e1 s Q → DoS P ops l e s Q := by
  intro l
  induction l with
  | nil => intro l2 e e1 s Q h hd; cases h; exact hd
  | cons o l1 ih =>
    intro l2 e e1 s Q h hd
    simp only [readsTo] at h
    split at h
    · rename_i hw
      split at h
      · rename_i hr
        split at h
        · rename_i v hv
          exact .op hw (.read hv) (ih h hd)
        · cases h
      · cases h; exact hd
    · rename_i hw
      exact .idle hw (ih h hd)
    · cases h

theorem drawOk_same {ops : List Oper} {e e' : Env} {s s' : St} {items : List DItem} {sts : List St} (t : Told P ops ops 0 e s items sts e' s') (hs : ∀ s1 ∈ sts, s1 = s) : drawOk P ops items (s :: sts) = true := by
  unfold drawOk
  split
  · rfl
  · simp only [List.all_eq_true]
    intro p hp
    obtain ⟨it, i⟩ := p
    have hi : items[i]? = some it := List.mem_zipIdx_iff_getElem?.1 hp
    have hlt : i < ops.length := by rw [← t.len]; exact (List.getElem?_eq_some_iff.1 hi).1
    obtain ⟨it', s1, s2, h1, h2, _, h4, _, _, _, h7, _⟩ := t.each i _ (List.getElem?_eq_getElem hlt)
    rw [hi] at h1
    cases h1
    cases hw : it.w with
    | false => simp
    | true =>
      cases hr : isRead it.o with
      | false => simp
      | true =>
        have hs1 : s1 = s := by
          rcases List.mem_cons.1 (List.mem_of_getElem? h4) with h | h
          · exact h
          · exact hs s1 h
        rw [← h2] at h7
        have h8 := h7 hw hr
        rw [hs1] at h8
        simp only [Bool.and_self, Bool.not_true, Bool.false_or, List.all_eq_true]
        intro q hq
        obtain ⟨s3, k⟩ := q
        have hs3 : s3 = s := by
          have := List.mem_zipIdx_iff_getElem?.1 hq
          rcases List.mem_cons.1 (List.mem_of_getElem? this) with h | h
          · exact h
          · exact hs s3 h
        simp only [hs3, h8, TV.beq_refl, Bool.or_true]

theorem Do.region (hm : P.follows .mixedOrders = true) {id : Nat} {ops : Array Oper} {draw : Bool} {e : Env} {s : St} {Q : Ex → Env → St → Prop} (hr : (!draw || regionOk ops.toList) = true) (h : DoU P ops ops.toList e s fun e' => Q .normal e' s) :
    Do P (.region id ops draw) e s Q := by
  obtain ⟨e', h1, h2, hq⟩ := h
  cases draw with
  | false => exact ⟨.normal, e', s, fun g w a hR hE Q hQ => wp_region_list (h1 g w a hR hE Q fun a' w' g' => hQ a' w' g'), hq⟩
  | true =>
    obtain ⟨items, sts, t, hs⟩ := h2 0
    exact ⟨.normal, e', s, CodeSim.draw hm (by simpa using hr) t (drawOk_same t hs), hq⟩
theorem Do.reads (hm : P.follows .mixedOrders = true) {id : Nat} {ops : Array Oper} {draw : Bool} {e e' : Env} {s : St} {Q : Ex → Env → St → Prop} (hr : (!draw || regionOk ops.toList) = true) (h : readsTo P s ops.toList ops.toList e = some (e', [])) (hq : Q .normal e' s) :
    Do P (.region id ops draw) e s Q := Do.region hm hr (.reads h (.nil hq))
theorem Do.regionS {id : Nat} {ops : Array Oper} {e : Env} {s : St} {Q : Ex → Env → St → Prop} (h : DoS P ops ops.toList e s fun e' s' => Q .normal e' s') : Do P (.region id ops false) e s Q := by
  obtain ⟨e', s', h1, hq⟩ := h
  exact ⟨.normal, e', s', fun g w a hR hE Q hQ => wp_region_list (h1 g w a hR hE Q fun a' w' g' => hQ a' w' g'), hq⟩

/-! ### Calls -/
/-- How a body ends well. -/
def Ends (P : Program) (fn : Func) (Q : TV → St → Prop) : Ex → Env → St → Prop
  | .exit _, _, _ => False
  | _, e, s => ∃ v, resultT P s e fn.results.toList = some v ∧ Q v s

theorem Does.body {f : FuncId} {fn : Func} {c : Code} {args : List TV} {s : St} {Q : TV → St → Prop} (hf : P.funcs[f]? = some fn) (hb : fn.body = some c)
    (h : Do P c (args ++ List.replicate (fn.ntmps - args.length) undefT) s (Ends P fn Q)) : Does P f args s Q := by
  obtain ⟨x, e', s', h1, h2⟩ := h
  have out : ∃ v, resultT P s' e' fn.results.toList = some v ∧ Q v s' ∧ (x = .normal ∨ x = .ret) := by
    cases x with
    | exit id => exact h2.elim
    | normal => obtain ⟨v, hv, hq⟩ := h2; exact ⟨v, hv, hq, .inl rfl⟩
    | ret => obtain ⟨v, hv, hq⟩ := h2; exact ⟨v, hv, hq, .inr rfl⟩
  obtain ⟨v, hv, hk, hx⟩ := out
  refine ⟨v, s', ⟨⟨fn, c, hf, hb⟩, fun g w rargs hR hA => calls_of_wp hf hb ?_⟩, hk⟩
  refine h1 g w _ hR ?_ _ fun a' w' g' hle hR' hE' hd => ?_
  · show VRels g (rargs.toArray ++ Array.replicate (fn.ntmps - rargs.toArray.size) undef).toList _
    rw [Array.toList_append, Array.toList_replicate]
    have hl := hA.length
    simp only [List.size_toArray]
    rw [hl]
    exact hA.append (VRels.replicate _ (VRel.undef' g))
  · obtain ⟨rv, hrv, hrel⟩ := resultT_ok hR' hE' hv
    rcases hx with rfl | rfl
    · exact ⟨hd, rv, hrv, rv, g', rfl, hle, hR', hrel⟩
    · exact ⟨hd, rv, hrv, rv, g', rfl, hle, hR', hrel⟩
/-- A body that leaves the store as it is. -/
theorem Pure.body {f : FuncId} {fn : Func} {c : Code} {args : List TV} {v : TV} (hf : P.funcs[f]? = some fn) (hb : fn.body = some c)
    (h : ∀ s, Do P c (args ++ List.replicate (fn.ntmps - args.length) undefT) s (Ends P fn fun v' s' => v' = v ∧ s' = s)) : Pure P f args v := fun s => (Does.body hf hb (h s)).sim

/-! ### Names -/
theorem Env.at_set_ne {e : Env} {d t : Nat} {v : TV} (h : d ≠ t) : Env.at (List.set e d v) t = e.at t := by
  simp [Env.at_eq, List.getD, List.getElem?_set_ne h]
theorem Env.at_set_eq {e : Env} {d : Nat} {v : TV} (h : d < e.length) : Env.at (List.set e d v) d = v := by
  simp [Env.at_eq, List.getD, h]
theorem putE_some (d : Tmp) (v : TV) (e : Env) : putE (some d) v e = List.set e d v := rfl
theorem putE_none (v : TV) (e : Env) : putE none v e = e := rfl
theorem ev_tmp (e : Env) (t : Tmp) : ev e (.tmp t) = e.at t := rfl
theorem ev_const (e : Env) (v : Value) : ev e (.const v) = ofConst v := rfl
theorem ev_func (e : Env) (f : FuncId) : ev e (.func f) = .fn (.func f) [] [] := rfl
end
end Go.Proofs.YthnhbejjikgifaaGreatDoor.TV

/-
  TV: what single operations tell, as rules to rewrite by.
-/
namespace Go.Proofs.YthnhbejjikgifaaGreatDoor.TV
open Go Go.RowKit
set_option linter.unusedSimpArgs false
set_option linter.unusedVariables false

section
variable {P : Program} {s : St} {ops l : List Oper} {e : Env} {dst : Option Tmp} {ty : TypeId} {pos : String} {after : Array Edge} {guard : Option (Nat × Bool)}

theorem rt_nil : readsTo P s ops [] e = some (e, []) := rfl
theorem readsTo.step {o : Oper} {v : TV} {r : Env × List Oper} (hw : wantedT ops e o = some true) (hr : isRead o = true) (hv : readT P s (ev e) o = some v) (h : readsTo P s ops l (putE o.dst v e) = some r) : readsTo P s ops (o :: l) e = some r := by
  simp only [readsTo, hw, hr, hv, if_true]; exact h
theorem readsTo.idle {o : Oper} {r : Env × List Oper} (hw : wantedT ops e o = some false) (h : readsTo P s ops l (putE o.dst undefT e) = some r) : readsTo P s ops (o :: l) e = some r := by
  simp only [readsTo, hw]; exact h
theorem readsTo.put {o : Oper} {v : TV} {d : Tmp} {r : Env × List Oper} (hw : wantedT ops e o = some true) (hr : isRead o = true) (hd : o.dst = some d) (hv : readT P s (ev e) o = some v) (h : readsTo P s ops l (List.set e d v) = some r) : readsTo P s ops (o :: l) e = some r :=
  readsTo.step hw hr hv (by rw [hd]; exact h)
theorem readsTo.drop {o : Oper} {d : Tmp} {r : Env × List Oper} (hw : wantedT ops e o = some false) (hd : o.dst = some d) (h : readsTo P s ops l (List.set e d (.tup [])) = some r) : readsTo P s ops (o :: l) e = some r :=
  readsTo.idle hw (by rw [hd]; exact h)
theorem readsTo.stop {o : Oper} (hw : wantedT ops e o = some true) (hr : isRead o = false) : readsTo P s ops (o :: l) e = some (e, o :: l) := by
  simp only [readsTo, hw, hr, Bool.false_eq_true, if_false]
theorem rt_move {x : Operand} : readsTo P s ops (⟨dst, .move x, ty, pos, after, none⟩ :: l) e = readsTo P s ops l (putE dst (ev e x) e) := rfl
theorem rt_assign {x : Operand} : readsTo P s ops (⟨dst, .assign x, ty, pos, after, none⟩ :: l) e = readsTo P s ops l (putE dst (ev e x) e) := rfl
theorem rt_read {o : Op} : readsTo P s ops (⟨dst, o, ty, pos, after, none⟩ :: l) e = if isRead ⟨dst, o, ty, pos, after, none⟩ then (match readT P s (ev e) ⟨dst, o, ty, pos, after, none⟩ with
    | some v => readsTo P s ops l (putE dst v e)
    | none => none) else some (e, ⟨dst, o, ty, pos, after, none⟩ :: l) := rfl
theorem rt_guard {o : Op} {j : Nat} {want : Bool} : readsTo P s ops (⟨dst, o, ty, pos, after, some (j, want)⟩ :: l) e = match wantedT ops e ⟨dst, o, ty, pos, after, some (j, want)⟩ with
    | some true => if isRead ⟨dst, o, ty, pos, after, some (j, want)⟩ then (match readT P s (ev e) ⟨dst, o, ty, pos, after, some (j, want)⟩ with
      | some v => readsTo P s ops l (putE dst v e)
      | none => none) else some (e, ⟨dst, o, ty, pos, after, some (j, want)⟩ :: l)
    | some false => readsTo P s ops l (putE dst undefT e)
    | none => none := rfl
theorem wt_guard {o : Op} {j : Nat} {want : Bool} : wantedT ops e ⟨dst, o, ty, pos, after, some (j, want)⟩ = match (ops[j]?).bind (·.dst) with
    | some d => match e.at d with
      | .bool b => some (b == want)
      | .tup [] => some false
      | _ => none
    | none => none := rfl
theorem wt_none {o : Op} : wantedT ops e ⟨dst, o, ty, pos, after, none⟩ = some true := rfl

variable {ρ : Operand → TV}
theorem ir_move {x : Operand} : isRead ⟨dst, .move x, ty, pos, after, guard⟩ = true := rfl
theorem ir_assign {x : Operand} : isRead ⟨dst, .assign x, ty, pos, after, guard⟩ = true := rfl
theorem ir_pick {c a b : Operand} : isRead ⟨dst, .pick c a b, ty, pos, after, guard⟩ = true := rfl
theorem ir_build {t : TypeId} {ps : Array (Nat × Operand)} : isRead ⟨dst, .build t ps, ty, pos, after, guard⟩ = true := rfl
theorem ir_buildSlice {t : TypeId} {n : Nat} {ps : Array (Nat × Operand)} : isRead ⟨dst, .buildSlice t n ps, ty, pos, after, guard⟩ = !ownedT t := rfl
theorem ir_load {t : TypeId} {x : Operand} : isRead ⟨dst, .load t x, ty, pos, after, guard⟩ = true := rfl
theorem ir_nilCheck {x : Operand} : isRead ⟨dst, .nilCheck x, ty, pos, after, guard⟩ = true := rfl
theorem ir_bin {op : BinOp} {t : TypeId} {x y : Operand} {z : TypeId} : isRead ⟨dst, .binOp op t x y z, ty, pos, after, guard⟩ = true := rfl
theorem ir_un {op : UnOp} {t : TypeId} {x : Operand} : isRead ⟨dst, .unOp op t x, ty, pos, after, guard⟩ = true := rfl
theorem ir_convert {a b : TypeId} {x : Operand} : isRead ⟨dst, .convert a b x, ty, pos, after, guard⟩ = true := rfl
theorem ir_makeInterface {a : TypeId} {x : Operand} : isRead ⟨dst, .makeInterface a x, ty, pos, after, guard⟩ = true := rfl
theorem ir_makeFunc {f : Fn} {a b : Array Operand} : isRead ⟨dst, .makeFunc f a b, ty, pos, after, guard⟩ = true := rfl
theorem ir_slice {t : TypeId} {x : Operand} {a b c : Option Operand} : isRead ⟨dst, .slice t x a b c, ty, pos, after, guard⟩ = true := rfl
theorem ir_fieldAddr {t : TypeId} {x : Operand} {i : Nat} : isRead ⟨dst, .fieldAddr t x i, ty, pos, after, guard⟩ = true := rfl
theorem ir_field {t : TypeId} {x : Operand} {i : Nat} : isRead ⟨dst, .field t x i, ty, pos, after, guard⟩ = true := rfl
theorem ir_indexAddr {t : TypeId} {x i : Operand} : isRead ⟨dst, .indexAddr t x i, ty, pos, after, guard⟩ = true := rfl
theorem ir_index {t : TypeId} {x i : Operand} : isRead ⟨dst, .index t x i, ty, pos, after, guard⟩ = true := rfl
theorem ir_lookup {t : TypeId} {x i : Operand} {b : Bool} : isRead ⟨dst, .lookup t x i b, ty, pos, after, guard⟩ = true := rfl
theorem ir_extract {x : Operand} {i : Nat} : isRead ⟨dst, .extract x i, ty, pos, after, guard⟩ = true := rfl
theorem ir_len {xs : Array Operand} {ts : Array TypeId} : isRead ⟨dst, .call ⟨.builtin .len, xs, ts⟩, ty, pos, after, guard⟩ = true := rfl
theorem ir_min {xs : Array Operand} {ts : Array TypeId} : isRead ⟨dst, .call ⟨.builtin .min, xs, ts⟩, ty, pos, after, guard⟩ = true := rfl
theorem ir_max {xs : Array Operand} {ts : Array TypeId} : isRead ⟨dst, .call ⟨.builtin .max, xs, ts⟩, ty, pos, after, guard⟩ = true := rfl
theorem ir_call {x : Operand} {xs : Array Operand} {ts : Array TypeId} : isRead ⟨dst, .call ⟨.value x, xs, ts⟩, ty, pos, after, guard⟩ = false := rfl
theorem ir_append {xs : Array Operand} {ts : Array TypeId} : isRead ⟨dst, .call ⟨.builtin .append, xs, ts⟩, ty, pos, after, guard⟩ = false := rfl
theorem ir_copy {xs : Array Operand} {ts : Array TypeId} : isRead ⟨dst, .call ⟨.builtin .copy, xs, ts⟩, ty, pos, after, guard⟩ = false := rfl
theorem ir_alloc {t : TypeId} : isRead ⟨dst, .alloc t, ty, pos, after, guard⟩ = false := rfl
theorem ir_box {t : TypeId} {x : Operand} : isRead ⟨dst, .box t x, ty, pos, after, guard⟩ = false := rfl
theorem ir_store {t : TypeId} {x y : Operand} : isRead ⟨dst, .store t x y, ty, pos, after, guard⟩ = false := rfl
theorem ir_makeSlice {t : TypeId} {x y : Operand} : isRead ⟨dst, .makeSlice t x y, ty, pos, after, guard⟩ = false := rfl
theorem ir_makeMap {t : TypeId} {x : Option Operand} : isRead ⟨dst, .makeMap t x, ty, pos, after, guard⟩ = false := rfl
theorem ir_mapUpdate {t : TypeId} {m k v : Operand} : isRead ⟨dst, .mapUpdate t m k v, ty, pos, after, guard⟩ = false := rfl

theorem rd_move {x : Operand} : readT P s ρ ⟨dst, .move x, ty, pos, after, guard⟩ = some (ρ x) := rfl
theorem rd_assign {x : Operand} : readT P s ρ ⟨dst, .assign x, ty, pos, after, guard⟩ = some (ρ x) := rfl
theorem rd_pick {c a b : Operand} : readT P s ρ ⟨dst, .pick c a b, ty, pos, after, guard⟩ = match ρ c with
    | .bool true => some (ρ a)
    | .bool false => some (ρ b)
    | _ => none := rfl
theorem rd_build {t : TypeId} {ps : Array (Nat × Operand)} : readT P s ρ ⟨dst, .build t ps, ty, pos, after, guard⟩ = buildT P t (ps.toList.map fun p => (p.1, ρ p.2)) := rfl
theorem rd_buildSlice {t : TypeId} {n : Nat} {ps : Array (Nat × Operand)} : readT P s ρ ⟨dst, .buildSlice t n ps, ty, pos, after, guard⟩ = buildSliceT P t n (ps.toList.map fun p => (p.1, ρ p.2)) := rfl
theorem rd_load {t : TypeId} {x : Operand} : readT P s ρ ⟨dst, .load t x, ty, pos, after, guard⟩ = loadT P s t (ρ x) := rfl
theorem rd_nilCheck {x : Operand} : readT P s ρ ⟨dst, .nilCheck x, ty, pos, after, guard⟩ = match ρ x with
    | .ptr o off => some (.ptr o off)
    | .eptr cs => some (.eptr cs)
    | .fn (.func f) a b => some (.fn (.func f) a b)
    | _ => none := rfl
theorem rd_bin {op : BinOp} {t : TypeId} {x y : Operand} {z : TypeId} : readT P s ρ ⟨dst, .binOp op t x y z, ty, pos, after, guard⟩ = if guardT P op t x y (ρ x) (ρ y) then binT P op t (ρ x) (ρ y) else none := rfl
theorem rd_un {op : UnOp} {t : TypeId} {x : Operand} : readT P s ρ ⟨dst, .unOp op t x, ty, pos, after, guard⟩ = unT op (ρ x) := rfl
theorem rd_convert {a b : TypeId} {x : Operand} : readT P s ρ ⟨dst, .convert a b x, ty, pos, after, guard⟩ = convT P s a b (ρ x) := rfl
theorem rd_slice {t : TypeId} {x : Operand} {a b c : Option Operand} : readT P s ρ ⟨dst, .slice t x a b c, ty, pos, after, guard⟩ = sliceT P t (ungsl (ρ x)) (a.map ρ) (b.map ρ) (c.map ρ) := rfl
theorem rd_fieldAddr {t : TypeId} {x : Operand} {i : Nat} : readT P s ρ ⟨dst, .fieldAddr t x i, ty, pos, after, guard⟩ = fieldAddrT P t (ρ x) i := rfl
theorem rd_field {t : TypeId} {x : Operand} {i : Nat} : readT P s ρ ⟨dst, .field t x i, ty, pos, after, guard⟩ = fieldT P t (ρ x) i := rfl
theorem rd_indexAddr {t : TypeId} {x i : Operand} : readT P s ρ ⟨dst, .indexAddr t x i, ty, pos, after, guard⟩ = indexAddrT P t (ungsl (ρ x)) (ρ i) := rfl
theorem rd_index {t : TypeId} {x i : Operand} : readT P s ρ ⟨dst, .index t x i, ty, pos, after, guard⟩ = indexT P t (ρ x) (ρ i) := rfl
theorem rd_extract {x : Operand} {i : Nat} : readT P s ρ ⟨dst, .extract x i, ty, pos, after, guard⟩ = match ρ x with
    | .tup vs => vs[i]?
    | _ => none := rfl
theorem rd_makeFunc {f : Fn} {a b : Array Operand} : readT P s ρ ⟨dst, .makeFunc f a b, ty, pos, after, guard⟩ = some (.fn f (a.toList.map ρ) (b.toList.map ρ)) := rfl
theorem rd_len {x : Operand} {t : TypeId} : readT P s ρ ⟨dst, .call ⟨.builtin .len, #[x], #[t]⟩, ty, pos, after, guard⟩ = lenT P s t (ungsl (ρ x)) := rfl
theorem rd_min {x y : Operand} {ts : Array TypeId} : readT P s ρ ⟨dst, .call ⟨.builtin .min, #[x, y], ts⟩, ty, pos, after, guard⟩ = minT (ρ x) (ρ y) := rfl
theorem rd_max {x y : Operand} {ts : Array TypeId} : readT P s ρ ⟨dst, .call ⟨.builtin .max, #[x, y], ts⟩, ty, pos, after, guard⟩ = maxT (ρ x) (ρ y) := rfl

theorem gd_int {op : BinOp} {t : TypeId} {x y : Operand} {k k' : IntKind} {a b : Int} : guardT P op t x y (.int k a) (.int k' b) = true := by cases op <;> rfl
theorem gd_str {op : BinOp} {t : TypeId} {x y : Operand} {a b : List UInt8} : guardT P op t x y (.str a) (.str b) = true := by cases op <;> rfl
theorem gd_bool {op : BinOp} {t : TypeId} {x y : Operand} {a b : Bool} : guardT P op t x y (.bool a) (.bool b) = true := by cases op <;> rfl

variable {t : TypeId} {k : IntKind} {a b : Int}
theorem bn_add : binT P .add t (.int k a) (.int k b) = some (.int k (k.wrap (a + b))) := by simp [binT]
theorem bn_sub : binT P .sub t (.int k a) (.int k b) = some (.int k (k.wrap (a - b))) := by simp [binT]
theorem bn_mul : binT P .mul t (.int k a) (.int k b) = some (.int k (k.wrap (a * b))) := by simp [binT]
theorem bn_quo (h : b ≠ 0) : binT P .quo t (.int k a) (.int k b) = some (.int k (k.wrap (a.tdiv b))) := by simp [binT, h]
theorem bn_rem (h : b ≠ 0) : binT P .rem t (.int k a) (.int k b) = some (.int k (a.tmod b)) := by simp [binT, h]
theorem bn_eql : binT P .eql t (.int k a) (.int k b) = some (.bool (a == b)) := by simp [binT]
theorem bn_neq : binT P .neq t (.int k a) (.int k b) = some (.bool (a != b)) := by simp [binT]
theorem bn_lss : binT P .lss t (.int k a) (.int k b) = some (.bool (decide (a < b))) := by simp [binT]
theorem bn_leq : binT P .leq t (.int k a) (.int k b) = some (.bool (decide (a ≤ b))) := by simp [binT]
theorem bn_gtr : binT P .gtr t (.int k a) (.int k b) = some (.bool (decide (b < a))) := by simp [binT]
theorem bn_geq : binT P .geq t (.int k a) (.int k b) = some (.bool (decide (b ≤ a))) := by simp [binT]
theorem bn_sadd {x y : List UInt8} (h : x.length + y.length ≤ 9223372036854775807) : binT P .add t (.str x) (.str y) = some (.str (x ++ y)) := by simp [binT, h]
theorem bn_seql {x y : List UInt8} : binT P .eql t (.str x) (.str y) = some (.bool (x == y)) := by simp [binT]
theorem bn_sneq {x y : List UInt8} : binT P .neq t (.str x) (.str y) = some (.bool (!(x == y))) := by simp [binT]
theorem bn_beql (h : P.underlying t = some .bool) {x y : Bool} : binT P .eql t (.bool x) (.bool y) = some (.bool (x == y)) := by simp [binT, eqT, h]
theorem bn_bneq (h : P.underlying t = some .bool) {x y : Bool} : binT P .neq t (.bool x) (.bool y) = some (.bool (!(x == y))) := by simp [binT, eqT, h]
theorem un_not {x : Bool} : unT .not (.bool x) = some (.bool !x) := rfl
theorem un_neg : unT .neg (.int k a) = some (.int k (k.wrap (0 - a))) := rfl
theorem oc_int {n : Int} : ofConst (.int k n) = .int k n := rfl
theorem oc_bool {x : Bool} : ofConst (.bool x) = .bool x := rfl

theorem Ends.one {fn : Func} {Q : TV → St → Prop} {x : Tmp} (hr : fn.results = #[.tmp x]) (hq : Q (Env.at e x) s) : Ends P fn Q .ret e s := ⟨_, by rw [hr]; rfl, hq⟩
theorem Ends.two {fn : Func} {Q : TV → St → Prop} {x y : Tmp} (hr : fn.results = #[.tmp x, .tmp y]) (hq : Q (.tup [Env.at e x, Env.at e y]) s) : Ends P fn Q .ret e s := ⟨_, by rw [hr]; rfl, hq⟩
theorem Ends.none {fn : Func} {Q : TV → St → Prop} (hr : fn.results = #[]) (hq : Q (.tup []) s) : Ends P fn Q .ret e s := ⟨_, by rw [hr]; rfl, hq⟩
theorem drop_of {α : Type} {l : List α} {i : Nat} {x : α} (h : l[i]? = some x) : l.drop i = x :: l.drop (i + 1) := by
  obtain ⟨h1, h2⟩ := List.getElem?_eq_some_iff.1 h
  rw [List.drop_eq_getElem_cons h1, h2]
theorem take_of {α : Type} {l : List α} {i : Nat} {x : α} (h : l[i]? = some x) : l.take (i + 1) = l.take i ++ [x] := by
  rw [List.take_add_one, h]
  rfl
theorem wrap_succ {i : Nat} (h : i < 9223372036854775807) : IntKind.i64.wrap ((i : Int) + 1) = ((i + 1 : Nat) : Int) := by
  unfold IntKind.wrap
  simp [IntKind.min, IntKind.max, IntKind.bits, IntKind.signed]
  omega

theorem DoU.rd {aops : Array Oper} {l2 : List Oper} {e1 : Env} {Q : Env → Prop} (h : readsTo P s aops.toList l e = some (e1, l2)) (hk : DoU P aops l2 e1 s Q) : DoU P aops l e s Q := DoU.reads h hk
theorem DoS.rd {aops : Array Oper} {l2 : List Oper} {e1 : Env} {Q : Env → St → Prop} (h : readsTo P s aops.toList l e = some (e1, l2)) (hk : DoS P aops l2 e1 s Q) : DoS P aops l e s Q := DoS.reads h hk
theorem bq_tl {x : Bool} : (true == x) = x := by cases x <;> rfl
theorem bq_fl {x : Bool} : (false == x) = !x := by cases x <;> rfl
theorem bq_tr {x : Bool} : (x == true) = x := by cases x <;> rfl
theorem bq_fr {x : Bool} : (x == false) = !x := by cases x <;> rfl
theorem wrap_small {a : Int} (h : -9223372036854775808 ≤ a ∧ a ≤ 9223372036854775807) : IntKind.i64.wrap a = a := by
  unfold IntKind.wrap
  simp [IntKind.min, IntKind.max, IntKind.bits, IntKind.signed]
  omega

/-- A slice of whole numbers. -/
def intsV (b : Bool) (zs : List Int) (tok : Tok) : TV := .slice b (zs.map (.int .i64)) tok
theorem ints_len {t e : TypeId} (ht : P.underlying t = some (.slice e)) {b : Bool} {zs : List Int} {tok : Tok} : lenT P s t (intsV b zs tok) = some (.int .i64 zs.length) := by
  simp [lenT, ht, intsV]
theorem ints_at {t e : TypeId} (ht : P.underlying t = some (.slice e)) (hc : P.cellsOf e = 1) {b : Bool} {zs : List Int} {tok : Tok} {i : Nat} {z : Int} (h : zs[i]? = some z) : indexAddrT P t (intsV b zs tok) (.int .i64 i) = some (.eptr [.int .i64 z]) := by
  have : ¬ ((i : Int) < 0) := by omega
  simp [indexAddrT, ht, intsV, this, h, hc, TV.cells]
theorem load1 {t : TypeId} {d : TypeDesc} (hu : P.underlying t = some d) (ha : isAggT P t = false) {x : TV} : loadT P s t (.eptr [x]) = some x := by
  simp [loadT, take, hu, ha]
end
end Go.Proofs.YthnhbejjikgifaaGreatDoor.TV

/-
  TV: a call that takes and gives values without objects can be told from an empty store: it changes nothing that anyone else knows of.
-/
namespace Go.Proofs.YthnhbejjikgifaaGreatDoor.TV
open Go Go.RowKit
set_option linter.unusedSimpArgs false
set_option linter.unusedVariables false

mutual
/-- No object in it, and no row that may be appended to. -/
def plain : TV → Bool
  | .ptr _ _ | .osl _ _ _ _ | .gsl _ _ => false
  | .map o => o.isNone
  | .eptr x => plains x
  | .slice _ x t => plains x && (match t with | .tip _ => false | _ => true)
  | .fn _ x y => plains x && plains y
  | .iface _ x => plain x
  | .agg x => plains x
  | .tup x => plains x
  | _ => true
def plains : List TV → Bool
  | [] => true
  | x :: l => plain x && plains l
end
mutual
/-- No object in it. -/
def noObj : TV → Bool
  | .ptr _ _ | .osl _ _ _ _ | .gsl _ _ => false
  | .map o => o.isNone
  | .eptr x => noObjs x
  | .slice _ x t => noObjs x
  | .fn _ x y => noObjs x && noObjs y
  | .iface _ x => noObj x
  | .agg x => noObjs x
  | .tup x => noObjs x
  | _ => true
def noObjs : List TV → Bool
  | [] => true
  | x :: l => noObj x && noObjs l
end
mutual
/-- Without the right to append in place. -/
def settle : TV → TV
  | .eptr x => .eptr (settles x)
  | .slice b x t => .slice b (settles x) (match t with | .tip _ => .unk | t => t)
  | .fn f x y => .fn f (settles x) (settles y)
  | .iface t x => .iface t (settle x)
  | .agg x => .agg (settles x)
  | .tup x => .tup (settles x)
  | x => x
def settles : List TV → List TV
  | [] => []
  | x :: l => settle x :: settles l
end
theorem settle_cells (x : TV) : (settle x).cells = settles x.cells := by
  cases x <;> simp [settle, settles, TV.cells]
theorem settles_append (a b : List TV) : settles (a ++ b) = settles a ++ settles b := by
  induction a with
  | nil => rfl
  | cons x a ih => simp [settles, ih]
theorem settles_flat : ∀ l : List TV, (settles l).flatMap TV.cells = settles (l.flatMap TV.cells)
  | [] => rfl
  | x :: l => by rw [settles, List.flatMap_cons, List.flatMap_cons, settles_append, settle_cells, settles_flat l]
theorem settles_length (l : List TV) : (settles l).length = l.length := by
  induction l with
  | nil => rfl
  | cons x l ih => simp [settles, ih]
theorem settles_mem {y : TV} : ∀ {l : List TV}, y ∈ settles l → ∃ x ∈ l, y = settle x
  | x :: l, h => by
    rw [settles] at h
    rcases List.mem_cons.1 h with rfl | h
    · exact ⟨x, by simp, rfl⟩
    · obtain ⟨z, hz, e⟩ := settles_mem h
      exact ⟨z, by simp [hz], e⟩
theorem noObjs_cells {x : TV} (h : noObj x = true) : noObjs x.cells = true := by
  cases x <;> simp_all [noObj, noObjs, TV.cells]
theorem noObjs_append {a b : List TV} : noObjs (a ++ b) = (noObjs a && noObjs b) := by
  induction a with
  | nil => rfl
  | cons x a ih => simp [noObjs, ih, Bool.and_assoc]
theorem noObjs_flat : ∀ {l : List TV}, noObjs l = true → noObjs (l.flatMap TV.cells) = true
  | [], _ => rfl
  | x :: l, h => by
    simp only [noObjs, Bool.and_eq_true] at h
    rw [List.flatMap_cons, noObjs_append, noObjs_cells h.1, noObjs_flat h.2]
    rfl

/-- All cells that stay in g stay in g'. -/
def Sub (g g' : G) : Prop := ∀ b i v, g.sol b i = some v → g'.sol b i = some v
theorem SolAt.sub {g g' : G} (h : Sub g g') {b off : Nat} {vs : List Value} (k : SolAt g b off vs) : SolAt g' b off vs := fun i v e => h _ _ _ (k i v e)

mutual
theorem VRel.settle {g g' : G} (h : Sub g g') : ∀ {v : Value} {x : TV}, VRel g v x → noObj x = true → VRel g' v (settle x)
  | _, _, .junk v, _ => .junk v
  | _, _, .bool b, _ => .bool b
  | _, _, .int k n, _ => .int k n
  | _, _, .str s l e, _ => .str s l e
  | _, _, .nilp, _ => .nilp
  | _, _, .ptr _ _ _ _, hn => by simp [noObj] at hn
  | _, _, .eptr b off vs cs hs r, hn => .eptr b off vs _ (hs.sub h) (VRels.settle h r (by simpa [noObj] using hn))
  | _, _, .nils tok ht, hn => by
    have : TV.settle (.slice true [] tok) = .slice true [] tok := by
      cases tok with
      | tip i => exact absurd rfl (ht i)
      | _ => rfl
    rw [this]
    exact .nils tok ht
  | _, _, .empty a cap tok ht hc, hn => by
    have : TV.settle (.slice false [] tok) = .slice false [] tok := by
      cases tok with
      | tip i => exact absurd rfl (ht i)
      | _ => rfl
    rw [this]
    exact .empty a cap tok ht hc
  | _, _, .slice b off n cap size vs es tok h1 h2 h3 h4 h5 h6 h7 h8, hn => by
    have hn' : noObjs es = true := by simpa [noObj] using hn
    refine .slice b off n cap size vs (settles es) _ ?_ (by rw [settles_length]; exact h2) h3 h4 (fun e he => ?_) (h6.sub h) ?_ ?_
    · intro e
      have := congrArg List.length e
      rw [settles_length] at this
      exact h1 (List.length_eq_zero_iff.1 this)
    · obtain ⟨x, hx, rfl⟩ := settles_mem he
      rw [settle_cells, settles_length]
      exact h5 x hx
    · rw [settles_flat]
      exact VRels.settle h h7 (noObjs_flat hn')
    · cases tok with
      | tip i => trivial
      | unk => trivial
      | exact => exact h8
  | _, _, .osl _ _ _ _ _ _ _ _ _, hn => by simp [noObj] at hn
  | _, _, .gsl _ _ _ _ _ _ _ _, hn => by simp [noObj] at hn
  | _, _, .nomap, _ => .nomap
  | _, _, .map _ _ _, hn => by simp [noObj] at hn
  | _, _, .fn f a c a' c' r1 r2, hn => by
    simp only [noObj, Bool.and_eq_true] at hn
    exact .fn f a c _ _ (VRels.settle h r1 hn.1) (VRels.settle h r2 hn.2)
  | _, _, .nilfn, _ => .nilfn
  | _, _, .iface t v v' r, hn => .iface t v _ (VRel.settle h r (by simpa [noObj] using hn))
  | _, _, .niliface, _ => .niliface
  | _, _, .agg vs cs r, hn => .agg vs _ (VRels.settle h r (by simpa [noObj] using hn))
  | _, _, .tup vs cs r, hn => .tup vs _ (VRels.settle h r (by simpa [noObj] using hn))
theorem VRels.settle {g g' : G} (h : Sub g g') : ∀ {vs : List Value} {xs : List TV}, VRels g vs xs → noObjs xs = true → VRels g' vs (settles xs)
  | _, _, .nil, _ => .nil
  | _, _, .cons v t vs ts r rs, hn => by
    simp only [noObjs, Bool.and_eq_true] at hn
    exact .cons v _ vs _ (VRel.settle h r hn.1) (VRels.settle h rs hn.2)
end
mutual
theorem plain_settle : ∀ x : TV, plain x = true → settle x = x ∧ noObj x = true
  | .junk, _ | .nilp, _ | .nilfn, _ | .niliface, _ | .bool _, _ | .int _ _, _ | .str _, _ => by simp [settle, noObj]
  | .ptr _ _, h | .osl _ _ _ _, h | .gsl _ _, h => by simp [plain] at h
  | .map o, h => by simpa [settle, noObj, plain] using h
  | .eptr x, h => by
    have := plains_settle x (by simpa [plain] using h)
    simp [settle, noObj, this]
  | .slice b x t, h => by
    simp only [plain, Bool.and_eq_true] at h
    have := plains_settle x h.1
    cases t <;> simp_all [settle, noObj]
  | .fn f x y, h => by
    simp only [plain, Bool.and_eq_true] at h
    have h1 := plains_settle x h.1
    have h2 := plains_settle y h.2
    simp [settle, noObj, h1, h2]
  | .iface t x, h => by
    have := plain_settle x (by simpa [plain] using h)
    simp [settle, noObj, this]
  | .agg x, h => by
    have := plains_settle x (by simpa [plain] using h)
    simp [settle, noObj, this]
  | .tup x, h => by
    have := plains_settle x (by simpa [plain] using h)
    simp [settle, noObj, this]
theorem plains_settle : ∀ x : List TV, plains x = true → settles x = x ∧ noObjs x = true
  | [], _ => by simp [settles, noObjs]
  | x :: l, h => by
    simp only [plains, Bool.and_eq_true] at h
    have h1 := plain_settle x h.1
    have h2 := plains_settle l h.2
    simp [settles, noObjs, h1, h2]
end

section
variable {P : Program}
/-- The same cells stay; all else is new. -/
def fresh (g : G) (w : World) (hb : g.base ≤ w.heap.size) (hV : VarsOk w.heap.size w) : G := ⟨w.heap.size, w, hV, fun _ => none, g.sol, 0, fun _ => 0, fun _ => none, fun _ => none, fun n i k z h => ⟨by have := (g.hG n i k z h).1; omega, (g.hG n i k z h).2⟩⟩
theorem Rel.fresh {g : G} {w : World} {s : St} (h : Rel P g w s) {hV : VarsOk w.heap.size w} : Rel P (fresh g w h.bsize hV) w St.none where
  below := Below.refl _ _
  bsize := Nat.le_refl _
  sol := fun b i v e => h.sol b i v e
  ids := fun o b h => by cases h
  inj := fun o o' b h => by cases h
  nosol := fun o b i h => by cases h
  rows := fun o b c e h => by cases h
  apart := fun i o b c h => absurd h (Nat.not_lt_zero i)
  rcs := fun o x h => by cases h
  obj := fun o b h => by cases h
  nts := rfl
  toks := fun i h => absurd h (Nat.not_lt_zero i)
  tinj := fun i j b c c' h => absurd h (Nat.not_lt_zero i)

/-- What a call has made, beside what was there. -/
def G.join (g g' : G) (n : Nat) : G := { g with
  sol := fun b i => if b < n then g.sol b i else g'.sol b i
  hG := fun n i k z h => ⟨(g.hG n i k z h).1, by split; exact (g.hG n i k z h).2; exact (g'.hG n i k z h).2⟩ }
theorem Rel.join {g g' : G} {w w' : World} {s s' : St} (h : Rel P g w s) (hb : Below w.heap.size w w') (h' : Rel P g' w' s') : g.le (g.join g' w.heap.size) ∧ Rel P (g.join g' w.heap.size) w' s := by
  have hle : g.le (g.join g' w.heap.size) := by
    refine ⟨rfl, rfl, fun _ _ e => e, fun b i v e => ?_, Nat.le_refl _, fun _ _ => Nat.le_refl _, fun _ _ _ => rfl, fun b i v hbb e => ?_, fun _ _ e => e⟩
    · simp only [G.join]
      rw [if_pos (h.sol_lt e)]
      exact e
    · simp only [G.join] at e
      rw [if_pos (Nat.lt_of_lt_of_le hbb h.bsize)] at e
      exact e
  have k := h.keep hb
  refine ⟨hle, ⟨k.below, k.bsize, fun b i v e => ?_, k.ids, k.inj, fun o b i e hne => ?_, k.rows, k.apart, k.rcs, fun o b e => ?_, k.nts, fun i hi => ?_, k.tinj⟩⟩
  · simp only [G.join] at e
    split at e
    · exact k.sol b i v e
    · exact h'.sol b i v e
  · simp only [G.join]
    rw [if_pos (h.obj_lt e)]
    exact h.nosol o b i e hne
  · obtain ⟨ob, h1, h2⟩ := k.obj o b e
    exact ⟨ob, h1, h2.mono hle⟩
  · obtain ⟨b, cap, e, xs, h1, h2, h3⟩ := k.toks i hi
    obtain ⟨b', cap', e', xs', h1', h2', h3'⟩ := h.toks i hi
    rw [h1] at h1'
    cases h1'
    refine ⟨b, cap, e, xs, h1, h2, ⟨h3.own, h3.size, h3.tip, fun j => ?_⟩⟩
    simp only [G.join]
    rw [if_pos h3'.lt.2]
    exact h3.sol j

theorem Sim.pure {f : FuncId} {args : List TV} {v : TV} {s' : St} (h : Sim P f args St.none v s') (ha : plains args = true) (hv : noObj v = true) : Pure P f args (settle v) := by
  intro s
  refine ⟨h.1, fun g w rargs hR hA => ?_⟩
  have hV := g.hV.keep hR.below hR.bsize
  have hA' : VRels (fresh g w hR.bsize hV) rargs args := by
    have := VRels.settle (g := g) (g' := fresh g w hR.bsize hV) (fun b i v e => e) hA (plains_settle args ha).2
    rw [(plains_settle args ha).1] at this
    exact this
  refine (h.2 (fresh g w hR.bsize hV) w rargs hR.fresh hA').mono fun e w' ⟨rv, g', he, hle, hR', hv'⟩ => ?_
  have hb : Below w.heap.size w w' := by
    have := hR'.below
    rw [hle.base, hle.w0] at this
    exact this
  obtain ⟨h1, h2⟩ := hR.join hb hR'
  refine ⟨rv, g.join g' w.heap.size, he, h1, h2, VRel.settle (fun b i v e => ?_) hv' hv⟩
  simp only [G.join]
  split
  · rename_i hlt
    exact hle.old b i v hlt e
  · exact e
theorem Pure.of {f : FuncId} {args : List TV} {v v' : TV} {s' : St} (h : Sim P f args St.none v s') (ha : plains args = true) (hv : noObj v = true) (he : settle v = v') : Pure P f args v' := he ▸ h.pure ha hv

/-- A call, run by the kernel: it answers true. -/
theorem Pure.of_run (hm : P.follows .mixedOrders = true) (hN : Named P) {n : Nat} {f : FuncId} {args : List TV} (h : answersTrue P n f args = true) (ha : plains args = true) : Pure P f args (.bool true) := by
  unfold answersTrue at h
  split at h
  · rename_i s' hr
    exact .of (run_ok hm hN hr) ha rfl rfl
  · cases h

/-- A body, told from an empty store. -/
theorem Pure.body0 {f : FuncId} {fn : Func} {c : Code} {args : List TV} {v : TV} (hf : P.funcs[f]? = some fn) (hb : fn.body = some c) (ha : plains args = true)
    (h : Do P c (args ++ List.replicate (fn.ntmps - args.length) undefT) St.none (Ends P fn fun v' _ => noObj v' = true ∧ settle v' = v)) : Pure P f args v := by
  obtain ⟨v', s', h1, h2, h3⟩ := Does.body hf hb h
  exact .of h1 ha h2 h3
end
end Go.Proofs.YthnhbejjikgifaaGreatDoor.TV

/-
  TV: what comes in, at the types that the laws take.
-/
namespace Go.Proofs.YthnhbejjikgifaaGreatDoor.TV
open Go Go.RowKit
set_option linter.unusedSimpArgs false
set_option linter.unusedVariables false

section
variable {P : Program}
theorem ArgsOk.cons {F : Nat} {t : TypeId} {ts : List TypeId} {xs : List TV} (h : ArgsOk P F (t :: ts) xs) : ∃ x xs', xs = x :: xs' ∧ (∃ c, OkT P F t c ∧ x = mkE P t c) ∧ ArgsOk P F ts xs' := by
  cases xs with
  | nil => exact h.elim
  | cons x xs' => exact ⟨x, xs', rfl, h.1, h.2⟩
theorem ArgsOk.nil {F : Nat} {xs : List TV} (h : ArgsOk P F [] xs) : xs = [] := by
  cases xs with
  | nil => rfl
  | cons x xs' => exact h.elim
theorem mkE_one {t : TypeId} {x : TV} (h : isAggT P t = false) : mkE P t [x] = x := by simp [mkE, h]

theorem okT_int {f : Nat} {t : TypeId} {k : IntKind} {c : List TV} (ht : P.underlying t = some (.int k)) (h : OkT P (f + 1) t c) : ∃ n, mkE P t c = .int k n ∧ (Lit.int k n).wf = true := by
  unfold OkT at h
  rw [ht] at h
  obtain ⟨n, rfl, hw⟩ := h
  exact ⟨n, mkE_one (by unfold isAggT; rw [ht]), hw⟩
theorem okT_str {f : Nat} {t : TypeId} {c : List TV} (ht : P.underlying t = some .string) (h : OkT P (f + 1) t c) : ∃ l, mkE P t c = .str l ∧ l.length ≤ reachBytes := by
  unfold OkT at h
  rw [ht] at h
  obtain ⟨n, rfl, hw⟩ := h
  exact ⟨n, mkE_one (by unfold isAggT; rw [ht]), hw⟩
theorem okT_bool {f : Nat} {t : TypeId} {c : List TV} (ht : P.underlying t = some .bool) (h : OkT P (f + 1) t c) : ∃ b, mkE P t c = .bool b := by
  unfold OkT at h
  rw [ht] at h
  obtain ⟨n, rfl⟩ := h
  exact ⟨n, mkE_one (by unfold isAggT; rw [ht])⟩

theorem okT_ints {f : Nat} {t e : TypeId} {c : List TV} (ht : P.underlying t = some (.slice e)) (he : P.underlying e = some (.int .i64)) (h : OkT P (f + 2) t c) :
    ∃ b zs, mkE P t c = intsV b zs .unk ∧ zs.length * P.bytesOf e ≤ reachBytes ∧ ∀ z ∈ zs, (Lit.int .i64 z).wf = true := by
  have hag : isAggT P t = false := by unfold isAggT; rw [ht]
  have hae : isAggT P e = false := by unfold isAggT; rw [he]
  unfold OkT at h
  rw [ht] at h
  rcases h with rfl | ⟨ess, rfl, hl, hall⟩
  · exact ⟨true, [], mkE_one hag, by simp, fun z hz => by simp at hz⟩
  · have key : ∀ ess : List (List TV), (∀ x ∈ ess, OkT P (f + 1) e x) → ∃ zs : List Int, ess.map (mkE P e) = zs.map (.int .i64) ∧ zs.length = ess.length ∧ ∀ z ∈ zs, (Lit.int .i64 z).wf = true := by
      intro ess
      induction ess with
      | nil => intro _; exact ⟨[], rfl, rfl, fun z hz => by simp at hz⟩
      | cons x ess ih =>
        intro hx
        obtain ⟨zs, h1, h2, h3⟩ := ih fun y hy => hx y (by simp [hy])
        obtain ⟨n, hn, hw⟩ := okT_int he (hx x (by simp))
        refine ⟨n :: zs, by simp [hn, h1], by simp [h2], fun z hz => ?_⟩
        rcases List.mem_cons.1 hz with rfl | hz
        · exact hw
        · exact h3 z hz
    obtain ⟨zs, h1, h2, h3⟩ := key ess hall
    refine ⟨false, zs, ?_, by rw [h2]; exact hl, h3⟩
    rw [mkE_one hag, h1]
    rfl
end
end Go.Proofs.YthnhbejjikgifaaGreatDoor.TV

/-
  TV: slices that grow: what append tells of them.
-/
namespace Go.Proofs.YthnhbejjikgifaaGreatDoor.TV
open Go Go.RowKit
set_option linter.unusedSimpArgs false
set_option linter.unusedVariables false

section
variable {P : Program} {s : St}

/-- A slice of these elements, of one's own: it may be appended to. -/
def Grows (P : Program) (s : St) (v : TV) (es : List TV) (e : TypeId) : Prop :=
  slotOk es = true ∧ headOk (P.cellsOf e) es = true ∧ noObjs es = true ∧
  ((∃ b, v = .slice b es .exact) ∨ ∃ b i, v = .slice b es (.tip i) ∧ i < s.ntips ∧ s.tips.get i = some (es.length, e))

/-- What has turned by an append: one row's end. -/
structure Apps (s s' : St) (v : TV) : Prop where
  n : s'.n = s.n
  objs : s'.objs = s.objs
  le : s.ntips ≤ s'.ntips
  tips : ∀ j, j < s.ntips → (∀ b es, v ≠ .slice b es (.tip j)) → s'.tips.get j = s.tips.get j

theorem Grows.nil (P : Program) (s : St) (b : Bool) (e : TypeId) : Grows P s (.slice b [] .exact) [] e := ⟨rfl, rfl, rfl, .inl ⟨b, rfl⟩⟩
theorem Grows.exact {b : Bool} {es : List TV} {e : TypeId} (h1 : slotOk es = true) (h2 : headOk (P.cellsOf e) es = true) (h3 : noObjs es = true) : Grows P s (.slice b es .exact) es e := ⟨h1, h2, h3, .inl ⟨b, rfl⟩⟩

theorem slotOk_append {a b : List TV} : slotOk (a ++ b) = (slotOk a && slotOk b) := by simp [slotOk, List.all_append]
theorem headOk_append {n : Nat} {a b : List TV} (h1 : headOk n a = true) (h2 : headOk n b = true) : headOk n (a ++ b) = true := by
  cases a with
  | nil => exact h2
  | cons x a => exact h1

theorem Grows.append {t u e : TypeId} {ud : TypeDesc} {v y : TV} {es ys : List TV} (g : Grows P s v es e) (ht : P.underlying t = some (.slice e)) (hu : P.underlying u = some ud) (hk : srcKind ud = true) (hy : srcT s (P.cellsOf e) y = some ys) (hne : ys ≠ [])
    (hb : (es.length + ys.length) * P.bytesOf e ≤ 140737488355328) (hb0 : 0 < P.bytesOf e) (hc0 : 0 < P.cellsOf e) (hh : headOk (P.cellsOf e) ys = true) (hs : slotOk ys = true) (hn : noObjs ys = true) (hz : zeroFits P e = true) :
    ∃ v' s', appendT P s t u v y = some (v', s') ∧ Grows P s' v' (es ++ ys) e ∧ Apps s s' v ∧ (∃ i, v' = .slice false (es ++ ys) (.tip i)) := by
  obtain ⟨g1, g2, g3, g4⟩ := g
  have hys : ys.isEmpty = false := by cases ys with | nil => exact absurd rfl hne | cons _ _ => rfl
  have new : slotOk (es ++ ys) = true ∧ headOk (P.cellsOf e) (es ++ ys) = true ∧ noObjs (es ++ ys) = true := ⟨by rw [slotOk_append, g1, hs]; rfl, headOk_append g2 hh, by rw [noObjs_append, g3, hn]; rfl⟩
  rcases g4 with ⟨b, rfl⟩ | ⟨b, i, rfl, hi, hti⟩
  · refine ⟨.slice false (es ++ ys) (.tip s.ntips), { s with ntips := s.ntips + 1, tips := s.tips.set s.ntips (es.length + ys.length, e) }, ?_, ⟨new.1, new.2.1, new.2.2, .inr ⟨false, s.ntips, rfl, Nat.lt_succ_self _, ?_⟩⟩, ⟨rfl, rfl, Nat.le_succ _, fun j hj _ => ?_⟩, _, rfl⟩
    · simp [appendT, ht, hu, hk, hy, hys, hb, hb0, hc0, hh, hs, hz, g1, g2]
    · simp [Tr.get_set]
    · simp only
      rw [Tr.get_set, if_neg (by omega)]
  · refine ⟨.slice false (es ++ ys) (.tip i), { s with tips := s.tips.set i (es.length + ys.length, e) }, ?_, ⟨new.1, new.2.1, new.2.2, .inr ⟨false, i, rfl, hi, ?_⟩⟩, ⟨rfl, rfl, Nat.le_refl _, fun j hj hv => ?_⟩, _, rfl⟩
    · simp [appendT, ht, hu, hk, hy, hys, hb, hb0, hc0, hh, hs, hz, g1, g2, hti]
    · simp [Tr.get_set]
    · have : j ≠ i := fun e => hv b es (by rw [e])
      simp only
      rw [Tr.get_set, if_neg this]

theorem Grows.len {v : TV} {es : List TV} {e : TypeId} (g : Grows P s v es e) : ∃ b tok, v = .slice b es tok := by
  obtain ⟨_, _, _, ⟨b, h⟩ | ⟨b, i, h, _⟩⟩ := g
  · exact ⟨b, _, h⟩
  · exact ⟨b, _, h⟩
/-- A slice that grows elsewhere stays as it was. -/
theorem Grows.stay {s' : St} {v w : TV} {es : List TV} {e : TypeId} (g : Grows P s v es e) (a : Apps s s' w) (h : ∀ b es' i b' es'', v = .slice b es' (.tip i) → w ≠ .slice b' es'' (.tip i)) : Grows P s' v es e := by
  obtain ⟨g1, g2, g3, g4⟩ := g
  refine ⟨g1, g2, g3, ?_⟩
  rcases g4 with h1 | ⟨b, i, h1, h2, h3⟩
  · exact .inl h1
  · exact .inr ⟨b, i, h1, Nat.lt_of_lt_of_le h2 a.le, (a.tips i h2 fun b' es'' => h b es i b' es'' h1).trans h3⟩

theorem DoS.pure (hN : Named P) {ops : Array Oper} {o : Oper} {l : List Oper} {e : Env} {f : FuncId} {args : List TV} {v : TV} {Q : Env → St → Prop} (hw : wantedT ops.toList e o = some true) (hc : calleeT (ev e) o = some (f, args))
    (hp : Pure P f args v) (hk : DoS P ops l (putE o.dst v e) s Q) : DoS P ops (o :: l) e s Q := DoS.call hN hw hc (hp.does hk)
theorem Ends.three {fn : Func} {Q : TV → St → Prop} {ee : Env} {x y z : Tmp} (hr : fn.results = #[.tmp x, .tmp y, .tmp z]) (hq : Q (.tup [Env.at ee x, Env.at ee y, Env.at ee z]) s) : Ends P fn Q .ret ee s := ⟨_, by rw [hr]; rfl, hq⟩
theorem ef_append {dst : Option Tmp} {ty : TypeId} {pos : String} {after : Array Edge} {guard : Option (Nat × Bool)} {ρ : Operand → TV} {x y : Operand} {t u : TypeId} :
    effT P s ρ ⟨dst, .call ⟨.builtin .append, #[x, y], #[t, u]⟩, ty, pos, after, guard⟩ = appendX P s t u (ρ x) (ρ y) := rfl
theorem ef_copy {dst : Option Tmp} {ty : TypeId} {pos : String} {after : Array Edge} {guard : Option (Nat × Bool)} {ρ : Operand → TV} {x y : Operand} {t u : TypeId} :
    effT P s ρ ⟨dst, .call ⟨.builtin .copy, #[x, y], #[t, u]⟩, ty, pos, after, guard⟩ = copyT P s t (ρ x) (ρ y) := rfl
theorem ef_alloc {dst : Option Tmp} {ty : TypeId} {pos : String} {after : Array Edge} {guard : Option (Nat × Bool)} {ρ : Operand → TV} {t : TypeId} :
    effT P s ρ ⟨dst, .alloc t, ty, pos, after, guard⟩ = match zeroT P t with
      | some z => if z.cells.all cellOk then some (.ptr s.n 0, mkObj s (.cells z.cells t)) else none
      | none => none := rfl
theorem ef_box {dst : Option Tmp} {ty : TypeId} {pos : String} {after : Array Edge} {guard : Option (Nat × Bool)} {ρ : Operand → TV} {t : TypeId} {x : Operand} :
    effT P s ρ ⟨dst, .box t x, ty, pos, after, guard⟩ = if !isJunk (ρ x) then some (.ptr s.n 0, mkObj s (.cells (ρ x).cells t)) else none := rfl
theorem ef_store {dst : Option Tmp} {ty : TypeId} {pos : String} {after : Array Edge} {guard : Option (Nat × Bool)} {ρ : Operand → TV} {t : TypeId} {a x : Operand} :
    effT P s ρ ⟨dst, .store t a x, ty, pos, after, guard⟩ = match ρ a with
      | .ptr o off => if (ρ x).cells.length = P.cellsOf t && 0 < P.cellsOf t then (setCellsT s o off (ρ x).cells).map fun s => (undefT, s) else none
      | _ => none := rfl

/-- One element, laid as a slice. -/
theorem bs_one {t e : TypeId} {x : TV} (ht : P.underlying t = some (.slice e)) (hc : P.cellsOf e = 1) (hz : (match zeroT P e with | some z => z.cells.all cellOk && z.cells.length == P.cellsOf e | none => false) = true) (hx : x.cells = [x]) (ho : cellOk x = true) :
    buildSliceT P t 1 [(0, x)] = some (.slice false [x] .exact) := by
  unfold buildSliceT
  cases hzz : zeroT P e with
  | none => rw [hzz] at hz; cases hz
  | some z =>
    rw [hzz] at hz
    simp only at hz
    simp [ht, hc, hx, ho, hzz, setEs]
    rw [hc] at hz
    simpa using hz
end
end Go.Proofs.YthnhbejjikgifaaGreatDoor.TV

/-
  TV: objects of the store: what is loaded from them, stored into them, made.
-/
namespace Go.Proofs.YthnhbejjikgifaaGreatDoor.TV
open Go Go.RowKit
set_option linter.unusedSimpArgs false
set_option linter.unusedVariables false

namespace Tr
variable {α : Type}
theorem set_one : ∀ (f n : Nat) (v w : α), n ≤ f → (one f n v).set n w = one f n w
  | 0, n, v, w, h => by
    have : n = 0 := by omega
    subst this
    simp [one, set]
  | f + 1, n, v, w, h => by
    simp only [one]
    split
    · rename_i h0; subst h0; simp [set]
    · rename_i h0
      split
      · rename_i h1; simp only [set, if_neg h0, if_pos h1]; rw [set_one f _ v w (by omega)]
      · rename_i h1; simp only [set, if_neg h0, if_neg h1]; rw [set_one f _ v w (by omega)]
theorem set_set : ∀ (t : Tr α) (n : Nat) (v w : α), (t.set n v).set n w = t.set n w
  | .nil, n, v, w => by simp only [set]; exact set_one n n v w (Nat.le_refl _)
  | .node u l r, n, v, w => by
    simp only [set]
    split
    · rename_i h0; subst h0; simp [set]
    · rename_i h0
      split
      · rename_i h1; simp only [set, if_neg h0, if_pos h1]; rw [set_set l]
      · rename_i h1; simp only [set, if_neg h0, if_neg h1]; rw [set_set r]
end Tr

section
variable {P : Program} {s : St}

/-- Object o is these cells. -/
def Is (s : St) (o : Nat) (cs : List TV) (t : TypeId) : Prop := s.objs.get o = some (.cells cs t)
/-- The store with other cells at o. -/
def setO (s : St) (o : Nat) (cs : List TV) (t : TypeId) : St := { s with objs := s.objs.set o (.cells cs t) }
theorem Is.setO {o : Nat} {cs : List TV} {t : TypeId} : Is (setO s o cs t) o cs t := by simp [Is, TV.setO, Tr.get_set]
theorem Is.off {o p : Nat} {cs cs' : List TV} {t t' : TypeId} (h : Is s p cs t) (hne : p ≠ o) : Is (TV.setO s o cs' t') p cs t := by
  unfold Is TV.setO
  simp only
  rw [Tr.get_set, if_neg hne]
  exact h
theorem setO_setO {o : Nat} {a b : List TV} {t u : TypeId} : setO (setO s o a t) o b u = setO s o b u := by simp [setO, Tr.set_set]
theorem setO_same {o : Nat} {cs : List TV} {t : TypeId} (h : Is s o cs t) : setO s o cs t = s := by
  unfold setO
  rw [Tr.set_same _ _ _ h]
theorem setO_n {o : Nat} {a : List TV} {t : TypeId} : (setO s o a t).n = s.n := rfl
theorem objCells_is {o : Nat} {cs : List TV} {t : TypeId} (h : Is s o cs t) : objCells s o = some (cs, t) := by
  unfold objCells
  rw [h]
theorem take_one {t : TypeId} {d : TypeDesc} {cs : List TV} {x : TV} (hu : P.underlying t = some d) (ha : isAggT P t = false) (hx : cs.head? = some x) : take P t cs = some x := by
  simp [take, hu, ha, hx]
/-- A cell that is loaded. -/
theorem load_is {o off : Nat} {cs : List TV} {t ty : TypeId} {d : TypeDesc} {x : TV} (h : Is s o cs t) (hu : P.underlying ty = some d) (ha : isAggT P ty = false) (hx : cs[off]? = some x) : loadT P s ty (.ptr o off) = some x := by
  unfold loadT
  simp only [objCells_is h]
  refine take_one hu ha ?_
  rw [List.head?_drop]
  exact hx
theorem load_all {o : Nat} {cs : List TV} {t ty : TypeId} {d : TypeDesc} (h : Is s o cs t) (hu : P.underlying ty = some d) (ha : isAggT P ty = true) (hn : P.cellsOf ty = cs.length) : loadT P s ty (.ptr o 0) = some (.agg cs) := by
  unfold loadT
  simp only [objCells_is h]
  simp [take, hu, ha, hn]
theorem set_is {o off : Nat} {cs vs : List TV} {t : TypeId} (h : Is s o cs t) (hl : off + vs.length ≤ cs.length) (hv : vs.all cellOk = true) : setCellsT s o off vs = some (setO s o (splice cs off vs) t) := by
  unfold setCellsT
  rw [h]
  simp [hl, hv, setO]
theorem field_ptr {t : TypeId} {fields : Array Field} {k : Nat} {fd : Field} {o off off' : Nat} (hu : P.underlying t = some (.struct fields)) (hk : fields[k]? = some fd) (hc : (P.cellsOf fd.type != 0) = true) (he : off + fd.offset = off') :
    fieldAddrT P t (.ptr o off) k = some (.ptr o off') := by
  subst he
  have : ¬ P.cellsOf fd.type = 0 := by simpa using hc
  simp [fieldAddrT, hu, hk, this]
theorem field_eptr {t : TypeId} {fields : Array Field} {k : Nat} {fd : Field} {cs cs' : List TV} (hu : P.underlying t = some (.struct fields)) (hk : fields[k]? = some fd) (hc : (P.cellsOf fd.type != 0) = true) (he : cs.drop fd.offset = cs') :
    fieldAddrT P t (.eptr cs) k = some (.eptr cs') := by
  subst he
  have : ¬ P.cellsOf fd.type = 0 := by simpa using hc
  simp [fieldAddrT, hu, hk, this]
theorem load_e {t : TypeId} {d : TypeDesc} {x : TV} {cs : List TV} (hu : P.underlying t = some d) (ha : isAggT P t = false) : loadT P s t (.eptr (x :: cs)) = some x := by
  simp [loadT, take, hu, ha]

/-- A new object. -/
def newO (s : St) (cs : List TV) (t : TypeId) : St := { s with n := s.n + 1, objs := s.objs.set s.n (.cells cs t) }
theorem mkObj_new {cs : List TV} {t : TypeId} : mkObj s (.cells cs t) = newO s cs t := rfl
theorem Is.newO {cs : List TV} {t : TypeId} : Is (newO s cs t) s.n cs t := by simp [Is, TV.newO, Tr.get_set]
theorem Is.offN {p : Nat} {cs cs' : List TV} {t t' : TypeId} (h : Is s p cs t) (hne : p ≠ s.n) : Is (TV.newO s cs' t') p cs t := by
  unfold Is TV.newO
  simp only
  rw [Tr.get_set, if_neg hne]
  exact h
theorem newO_n {cs : List TV} {t : TypeId} : (newO s cs t).n = s.n + 1 := rfl
theorem setO_newO {cs ds : List TV} {t u : TypeId} : setO (newO s cs t) s.n ds u = newO s ds u := by simp [setO, newO, Tr.set_set]

/-! ### Rules by which a store of known objects is reckoned with -/
theorem none_n : St.none.n = 0 := rfl
theorem ld_get {t : TypeId} {o off : Nat} : loadT P s t (.ptr o off) = match s.objs.get o with
    | some (.cells cs _) => take P t (cs.drop off)
    | _ => none := by
  rcases h : s.objs.get o with _ | ob
  · simp [loadT, objCells, h]
  · cases ob <;> simp [loadT, objCells, h]
theorem set_get {o off : Nat} {vs : List TV} : setCellsT s o off vs = match s.objs.get o with
    | some (.cells cs t) => if decide (off + vs.length ≤ cs.length) && vs.all cellOk then some (setO s o (splice cs off vs) t) else none
    | _ => none := by
  unfold setCellsT
  cases s.objs.get o with
  | none => rfl
  | some ob => cases ob <;> simp [setO]
theorem get_newO {o : Nat} {cs : List TV} {t : TypeId} : (newO s cs t).objs.get o = if o = s.n then some (.cells cs t) else s.objs.get o := by simp [newO, Tr.get_set]
theorem get_setO {o p : Nat} {cs : List TV} {t : TypeId} : (setO s p cs t).objs.get o = if o = p then some (.cells cs t) else s.objs.get o := by simp [setO, Tr.get_set]
theorem get_none {o : Nat} : St.none.objs.get o = none := rfl
theorem take_sc {t : TypeId} {d : TypeDesc} {x : TV} {l : List TV} (hu : P.underlying t = some d) (ha : isAggT P t = false) : take P t (x :: l) = some x := by simp [take, hu, ha]
theorem take_ag {t : TypeId} {d : TypeDesc} {l : List TV} {n : Nat} (hu : P.underlying t = some d) (ha : isAggT P t = true) (hn : P.cellsOf t = n) : take P t l = if decide (n ≤ l.length) then some (.agg (l.take n)) else none := by
  simp [take, hu, ha, hn]
theorem sp_0 {x y : TV} {l : List TV} : splice (x :: l) 0 [y] = y :: l := by simp [splice]
theorem sp_s {x : TV} {l vs : List TV} {n : Nat} : splice (x :: l) (n + 1) vs = x :: splice l n vs := by
  simp only [splice, List.take_succ_cons, List.cons_append, List.append_assoc, List.cons.injEq, true_and]
  have : n + 1 + vs.length = (n + vs.length) + 1 := by omega
  rw [this, List.drop_succ_cons]
theorem sp_c {x y : TV} {l vs : List TV} : splice (x :: l) 0 (y :: vs) = y :: splice l 0 vs := by simp [splice]
theorem sp_n {l : List TV} : splice l 0 [] = l := by simp [splice]
theorem ok_c {x : TV} {l : List TV} : List.all (x :: l) cellOk = (cellOk x && List.all l cellOk) := rfl
theorem ok_n : List.all ([] : List TV) cellOk = true := rfl
theorem cells_agg {cs : List TV} : (TV.agg cs).cells = cs := rfl
theorem cells_int {k : IntKind} {n : Int} : (TV.int k n).cells = [.int k n] := rfl
theorem cells_str {l : List UInt8} : (TV.str l).cells = [.str l] := rfl
theorem cells_bool {b : Bool} : (TV.bool b).cells = [.bool b] := rfl
theorem cells_ptr {o off : Nat} : (TV.ptr o off).cells = [.ptr o off] := rfl
theorem cells_slice {b : Bool} {l : List TV} {t : Tok} : (TV.slice b l t).cells = [.slice b l t] := rfl
theorem cells_nilp : TV.nilp.cells = [.nilp] := rfl
theorem ok_int {k : IntKind} {n : Int} : cellOk (.int k n) = true := rfl
theorem ok_str {l : List UInt8} : cellOk (.str l) = true := rfl
theorem ok_bool {b : Bool} : cellOk (.bool b) = true := rfl
theorem ok_ptr {o off : Nat} : cellOk (.ptr o off) = true := rfl
theorem ok_slice {b : Bool} {l : List TV} {t : Tok} : cellOk (.slice b l t) = true := rfl
theorem ok_nilp : cellOk .nilp = true := rfl

/-- What was appended to stays so when objects are made or turned. -/
theorem Grows.setO {v : TV} {es : List TV} {e : TypeId} {o : Nat} {a : List TV} {t : TypeId} (g : Grows P s v es e) : Grows P (setO s o a t) v es e := g
theorem Grows.newO {v : TV} {es : List TV} {e : TypeId} {a : List TV} {t : TypeId} (g : Grows P s v es e) : Grows P (newO s a t) v es e := g
theorem Is.apps {s' : St} {v : TV} {o : Nat} {cs : List TV} {t : TypeId} (h : Is s o cs t) (a : Apps s s' v) : Is s' o cs t := by
  unfold Is
  rw [a.objs]
  exact h

theorem DoS.sim (hN : Named P) {ops : Array Oper} {o : Oper} {l : List Oper} {e : Env} {s1 : St} {f : FuncId} {args : List TV} {v : TV} {Q : Env → St → Prop} (hw : wantedT ops.toList e o = some true) (hc : calleeT (ev e) o = some (f, args))
    (hs : Sim P f args s v s1) (hk : DoS P ops l (putE o.dst v e) s1 Q) : DoS P ops (o :: l) e s Q := DoS.call hN hw hc ⟨v, s1, hs, hk⟩
theorem DoU.sim (hN : Named P) {ops : Array Oper} {o : Oper} {l : List Oper} {e : Env} {f : FuncId} {args : List TV} {v : TV} {Q : Env → Prop} (hw : wantedT ops.toList e o = some true) (hr : isRead o = false)
    (hc : calleeT (ev e) o = some (f, args)) (hp : Sim P f args s v s) (h : DoU P ops l (putE o.dst v e) s Q) : DoU P ops (o :: l) e s Q := by
  obtain ⟨e', h1, h2, hq⟩ := h
  have ho : OpSim P o e s v s := .call hN hc hp
  refine ⟨e', .cons hw ho h1, fun j => ?_, hq⟩
  obtain ⟨items, sts, t, hs⟩ := h2 (j + 1)
  have := Told.cons (P := P) hw (fun h => by cases h) (fun _ h => absurd h (by simp [hr])) (fun h => absurd h (by simp [hr])) (fun _ _ => ho) t
  simp only [hr, Bool.false_eq_true, if_false] at this
  refine ⟨_, _, this, fun s1 h1 => ?_⟩
  rcases List.mem_cons.1 h1 with h1 | h1
  · exact h1
  · exact hs s1 h1
theorem Sim.body {f : FuncId} {fn : Func} {c : Code} {args : List TV} {v : TV} {s' : St} (hf : P.funcs[f]? = some fn) (hb : fn.body = some c)
    (h : Do P c (args ++ List.replicate (fn.ntmps - args.length) undefT) s (Ends P fn fun v' t => v' = v ∧ t = s')) : Sim P f args s v s' := (Does.body hf hb h).sim
theorem Pure.at {f : FuncId} {args : List TV} {v : TV} (h : Pure P f args v) (s : St) : Sim P f args s v s := h s
end

/-- A whole number's kind has bounds. -/
theorem wf_i64 {z : Int} (h : (Lit.int .i64 z).wf = true) : -9223372036854775808 ≤ z ∧ z ≤ 9223372036854775807 := by
  simp [Lit.wf, IntKind.min, IntKind.max, IntKind.bits, IntKind.signed] at h
  omega
end Go.Proofs.YthnhbejjikgifaaGreatDoor.TV

/-
  TV: regions whose order is drawn, with changes: told in the text's order; what is read there is the same wherever it may be read.
-/
namespace Go.Proofs.YthnhbejjikgifaaGreatDoor.TV
open Go Go.RowKit
set_option linter.unusedSimpArgs false
set_option linter.unusedVariables false

section
variable {P : Program}

/-- Does what is read hang on the store? -/
def stateful (o : Oper) : Bool := match o.op with
  | .load .. | .lookup .. | .convert .. | .call .. => true
  | _ => false
theorem stateless {o : Oper} {s s' : St} {ρ : Operand → TV} (h : stateful o = false) : readT P s ρ o = readT P s' ρ o := by
  obtain ⟨dst, op, ty, pos, after, guard⟩ := o
  cases op <;> first | rfl | simp [stateful] at h

def winLo (b : List Nat) (es : List Nat) (i : Nat) : Nat := countB es (fun e => (b.getD i 0).testBit e)
def winHi (b : List Nat) (es : List Nat) (i : Nat) : Nat := countB es (fun e => !((b.getD e 0).testBit i))
/-- At each stage from a to b the same is read. -/
def Each (P : Program) (it : DItem) (a b : Nat) : Nat → List St → Prop
  | _, [] => True
  | k, s :: l => (a ≤ k → k ≤ b → readT P s (ev it.e) it.o = some it.v) ∧ Each P it a b (k + 1) l
def Needs (P : Program) (bs es : List Nat) (sts : List St) : Nat → List DItem → Prop
  | _, [] => True
  | i, it :: l => ((isRead it.o && it.w && stateful it.o) = true → Each P it (winLo bs es i) (winHi bs es i) 0 sts) ∧ Needs P bs es sts (i + 1) l
theorem Each.nil {it : DItem} {a b k : Nat} : Each P it a b k [] := trivial
theorem Each.out {it : DItem} {a b k : Nat} {s : St} {l : List St} (h : (decide (a ≤ k) && decide (k ≤ b)) = false) (r : Each P it a b (k + 1) l) : Each P it a b k (s :: l) := by
  refine ⟨fun h1 h2 => ?_, r⟩
  simp [h1, h2] at h
theorem Each.here {it : DItem} {a b k : Nat} {s : St} {l : List St} (h : readT P s (ev it.e) it.o = some it.v) (r : Each P it a b (k + 1) l) : Each P it a b k (s :: l) := ⟨fun _ _ => h, r⟩
theorem Needs.nil {bs es : List Nat} {sts : List St} {i : Nat} : Needs P bs es sts i [] := trivial
theorem Needs.skip {bs es : List Nat} {sts : List St} {i : Nat} {it : DItem} {l : List DItem} (h : (isRead it.o && it.w && stateful it.o) = false) (r : Needs P bs es sts (i + 1) l) : Needs P bs es sts i (it :: l) := ⟨fun h' => absurd (h.symm.trans h') (by simp), r⟩
theorem Needs.load {bs es : List Nat} {sts : List St} {i : Nat} {it : DItem} {l : List DItem} (h : Each P it (winLo bs es i) (winHi bs es i) 0 sts) (r : Needs P bs es sts (i + 1) l) : Needs P bs es sts i (it :: l) := ⟨fun _ => h, r⟩

theorem Each.at {it : DItem} {a b : Nat} : ∀ {l : List St} {k0 : Nat}, Each P it a b k0 l → ∀ k s, l[k]? = some s → a ≤ k0 + k → k0 + k ≤ b → readT P s (ev it.e) it.o = some it.v
  | [], _, _, k, s, h, _, _ => by simp at h
  | s0 :: l, k0, hE, k, s, h, ha, hb => by
    cases k with
    | zero =>
      simp at h
      subst h
      exact hE.1 ha hb
    | succ k => exact Each.at hE.2 k s (by simpa using h) (by omega) (by omega)
theorem Needs.at {bs es : List Nat} {sts : List St} : ∀ {l : List DItem} {i0 : Nat}, Needs P bs es sts i0 l → ∀ i it, l[i]? = some it → (isRead it.o && it.w && stateful it.o) = true → Each P it (winLo bs es (i0 + i)) (winHi bs es (i0 + i)) 0 sts
  | [], _, _, i, it, h, _ => by simp at h
  | it0 :: l, i0, hN, i, it, h, hr => by
    cases i with
    | zero =>
      simp at h
      subst h
      exact hN.1 hr
    | succ i =>
      have := Needs.at hN.2 i it (by simpa using h) hr
      have e : i0 + 1 + i = i0 + (i + 1) := by omega
      rwa [e] at this

theorem drawOk_of {ops : List Oper} {e e' : Env} {s s' : St} {items : List DItem} {sts : List St} (t : Told P ops ops 0 e s items sts e' s')
    (h : Needs P (bits ops) (ops.zipIdx.filterMap fun p => if isRead p.1 then none else some p.2) (s :: sts) 0 items) : drawOk P ops items (s :: sts) = true := by
  unfold drawOk
  split
  · rfl
  · simp only [List.all_eq_true]
    intro p hp
    obtain ⟨it, i⟩ := p
    have hi : items[i]? = some it := List.mem_zipIdx_iff_getElem?.1 hp
    cases hrw : (isRead it.o && it.w) with
    | false => simp
    | true =>
      simp only [Bool.not_true, Bool.false_or, List.all_eq_true]
      intro q hq
      obtain ⟨s3, k⟩ := q
      have hk : (s :: sts)[k]? = some s3 := List.mem_zipIdx_iff_getElem?.1 hq
      simp only [Bool.or_eq_true, decide_eq_true_eq]
      by_cases hlo : k < countB (ops.zipIdx.filterMap fun p => if isRead p.1 then none else some p.2) (fun e => ((bits ops).getD i 0).testBit e)
      · exact Or.inl (Or.inl hlo)
      · by_cases hhi : countB (ops.zipIdx.filterMap fun p => if isRead p.1 then none else some p.2) (fun e => !(((bits ops).getD e 0).testBit i)) < k
        · exact Or.inl (Or.inr hhi)
        · refine Or.inr ?_
          have hv : readT P s3 (ev it.e) it.o = some it.v := by
            cases hst : stateful it.o with
            | true =>
              have hE := Needs.at h i it hi (by rw [hrw, hst]; rfl)
              rw [Nat.zero_add] at hE
              exact Each.at hE k s3 hk (by simp only [Nat.zero_add]; exact Nat.le_of_not_lt hlo) (by simp only [Nat.zero_add]; exact Nat.le_of_not_lt hhi)
            | false =>
              have hlt : i < ops.length := by rw [← t.len]; exact (List.getElem?_eq_some_iff.1 hi).1
              obtain ⟨it', s1, s2, h1, h2, _, _, _, _, _, h7, _⟩ := t.each i _ (List.getElem?_eq_getElem hlt)
              rw [hi] at h1
              cases h1
              simp only [Bool.and_eq_true] at hrw
              rw [← h2] at h7
              have := h7 hrw.2 hrw.1
              rw [stateless (s' := s1) hst]
              exact this
          rw [hv]
          exact TV.beq_refl _

/-- Operations in the text's order, with what was read and all the stores on the way. -/
def DoD (P : Program) (ops : Array Oper) (l : List Oper) (j : Nat) (e : Env) (s : St) (K : Env → St → List DItem → List St → Prop) : Prop :=
  ∃ e' s' items sts, Told P ops.toList l j e s items sts e' s' ∧ K e' s' items sts
theorem DoD.nil {ops : Array Oper} {j : Nat} {e : Env} {s : St} {K : Env → St → List DItem → List St → Prop} (h : K e s [] []) : DoD P ops [] j e s K := ⟨e, s, [], [], .nil _ j e s, h⟩
theorem DoD.read {ops : Array Oper} {o : Oper} {l : List Oper} {j : Nat} {e : Env} {s : St} {v : TV} {K : Env → St → List DItem → List St → Prop} (hw : wantedT ops.toList e o = some true) (hr : isRead o = true) (hv : readT P s (ev e) o = some v)
    (h : DoD P ops l (j + 1) (putE o.dst v e) s (fun e' s' items sts => K e' s' (⟨o, e, v, true⟩ :: items) sts)) : DoD P ops (o :: l) j e s K := by
  obtain ⟨e', s', items, sts, t, hk⟩ := h
  have := Told.cons (P := P) hw (fun h => by cases h) (fun _ _ => hv) (fun _ => rfl) (fun _ h => absurd h (by simp [hr])) t
  simp only [hr, if_true] at this
  exact ⟨_, _, _, _, this, hk⟩
theorem DoD.idle {ops : Array Oper} {o : Oper} {l : List Oper} {j : Nat} {e : Env} {s : St} {K : Env → St → List DItem → List St → Prop} (hw : wantedT ops.toList e o = some false) (hr : isRead o = true)
    (h : DoD P ops l (j + 1) (putE o.dst undefT e) s (fun e' s' items sts => K e' s' (⟨o, e, undefT, false⟩ :: items) sts)) : DoD P ops (o :: l) j e s K := by
  obtain ⟨e', s', items, sts, t, hk⟩ := h
  have := Told.cons (P := P) hw (fun _ => ⟨rfl, rfl⟩) (fun h => by cases h) (fun _ => rfl) (fun h => by cases h) t
  simp only [hr, if_true] at this
  exact ⟨_, _, _, _, this, hk⟩
theorem DoD.op {ops : Array Oper} {o : Oper} {l : List Oper} {j : Nat} {e : Env} {s s1 : St} {v : TV} {K : Env → St → List DItem → List St → Prop} (hw : wantedT ops.toList e o = some true) (hr : isRead o = false) (ho : OpSim P o e s v s1)
    (h : DoD P ops l (j + 1) (putE o.dst v e) s1 (fun e' s' items sts => K e' s' (⟨o, e, v, true⟩ :: items) (s1 :: sts))) : DoD P ops (o :: l) j e s K := by
  obtain ⟨e', s', items, sts, t, hk⟩ := h
  have := Told.cons (P := P) hw (fun h => by cases h) (fun _ h => absurd h (by simp [hr])) (fun h => absurd h (by simp [hr])) (fun _ _ => ho) t
  simp only [hr, Bool.false_eq_true, if_false] at this
  exact ⟨_, _, _, _, this, hk⟩
theorem DoD.sim (hN : Named P) {ops : Array Oper} {o : Oper} {l : List Oper} {j : Nat} {e : Env} {s s1 : St} {f : FuncId} {args : List TV} {v : TV} {K : Env → St → List DItem → List St → Prop} (hw : wantedT ops.toList e o = some true) (hr : isRead o = false)
    (hc : calleeT (ev e) o = some (f, args)) (hs : Sim P f args s v s1) (h : DoD P ops l (j + 1) (putE o.dst v e) s1 (fun e' s' items sts => K e' s' (⟨o, e, v, true⟩ :: items) (s1 :: sts))) : DoD P ops (o :: l) j e s K :=
  .op hw hr (.call hN hc hs) h
theorem DoD.eff {ops : Array Oper} {o : Oper} {l : List Oper} {j : Nat} {e : Env} {s s1 : St} {v : TV} {K : Env → St → List DItem → List St → Prop} (hw : wantedT ops.toList e o = some true) (hr : isRead o = false)
    (hv : effT P s (ev e) o = some (v, s1)) (h : DoD P ops l (j + 1) (putE o.dst v e) s1 (fun e' s' items sts => K e' s' (⟨o, e, v, true⟩ :: items) (s1 :: sts))) : DoD P ops (o :: l) j e s K :=
  .op hw hr (.eff hv) h

theorem Do.regionD (hm : P.follows .mixedOrders = true) {id : Nat} {ops : Array Oper} {e : Env} {s : St} {Q : Ex → Env → St → Prop} (hr : regionOk ops.toList = true)
    (h : DoD P ops ops.toList 0 e s fun e' s' items sts => Needs P (bits ops.toList) (ops.toList.zipIdx.filterMap fun p => if isRead p.1 then none else some p.2) (s :: sts) 0 items ∧ Q .normal e' s') : Do P (.region id ops true) e s Q := by
  obtain ⟨e', s', items, sts, t, hn, hq⟩ := h
  exact ⟨.normal, e', s', CodeSim.draw hm hr t (drawOk_of t hn), hq⟩
end
end Go.Proofs.YthnhbejjikgifaaGreatDoor.TV
