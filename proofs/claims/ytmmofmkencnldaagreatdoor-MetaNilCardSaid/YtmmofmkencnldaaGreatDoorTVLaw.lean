/-
  TV: a law of plain data that answers true and changes nothing: its row, from what the evaluator tells of its call.
-/
import Derived.Test.YtmmofmkencnldaaGreatDoorTVRow
import Derived.Handed
namespace Go.Proofs.YtmmofmkencnldaaGreatDoor.TV
open Go Go.RowKit Go.ChangeShapes Go.WideShapes Go.ChangeAt
set_option linter.unusedSimpArgs false
set_option linter.unusedVariables false

/-- What may come in at these types. -/
def ArgsOk (P : Program) (F : Nat) : List TypeId → List TV → Prop
  | [], [] => True
  | t :: ts, x :: xs => (∃ c, OkT P F t c ∧ x = mkE P t c) ∧ ArgsOk P F ts xs
  | _, _ => False

section
variable {P : Program} {H : Type} {enc : TypeId × Value → H} {W : World} {hV : VarsOk W.heap.size W}

theorem arg_ok {F base : Nat} {t : TypeId} {v : Value} {d : DataW H} {p : List MemPlace} (hs : serves P F t = true) (hv : Value.okWide P W .any base t v) (hd : DataW.Trod enc P W 0 (fun _ => true) true t v d p)
    (hw : ∀ m ∈ d.weights P t, m ≤ reachBytes) : ∃ x, VRel (start W hV) v x ∧ ∃ c, OkT P F t c ∧ x = mkE P t c := by
  obtain ⟨n, hn⟩ := hd
  obtain ⟨_, ts, hr, ho⟩ := trod_ok F t hs n _ _ hn hw
  refine ⟨mkE P t ts, ?_, ts, ho, rfl⟩
  cases ha : isAggT P t with
  | true =>
    have : ∃ cs, v = .agg cs := by
      unfold isAggT at ha
      unfold Value.okWide at hv
      split at ha <;> rename_i ht
      · rw [ht] at hv; obtain ⟨cs, h, _⟩ := hv; exact ⟨cs, h⟩
      · rw [ht] at hv; obtain ⟨cs, h, _⟩ := hv; exact ⟨cs, h⟩
      · cases ha
    obtain ⟨cs, rfl⟩ := this
    unfold mkE
    rw [if_pos ha]
    exact .agg cs ts hr
  | false =>
    obtain ⟨x, rfl, _⟩ := ho.single ha
    unfold mkE
    rw [if_neg (by simp [ha])]
    have hcs : v.cells.toList = [v] := by
      cases F with
      | zero => cases hs
      | succ F =>
        unfold serves at hs
        unfold isAggT at ha
        split at hs
        · rename_i ht; obtain ⟨b, rfl⟩ := okWide_bool ht hv; rfl
        · rename_i ht; obtain ⟨b, rfl⟩ := okWide_int ht hv; rfl
        · rename_i ht; obtain ⟨b, rfl⟩ := okWide_string ht hv; rfl
        · rename_i ht; obtain ⟨a, b, c, rfl⟩ := okWide_slice ht hv; rfl
        · rename_i ht; rw [ht] at ha; cases ha
        · rename_i ht; rw [ht] at ha; cases ha
        · cases hs
    rw [hcs] at hr
    cases hr with
    | cons _ _ _ _ h _ => exact h

theorem args_ok {F base : Nat} : ∀ (ts : List TypeId) (vs : List Value) (ds : List (DataW H)) (ps : List MemPlace), ts.all (serves P F) = true → DataW.TrodAll enc P W 0 (fun _ => true) true ts vs ds ps →
    (∀ (j : Nat) t v, ts[j]? = some t → vs[j]? = some v → Value.okWide P W .any base t v) → (∀ m ∈ DataW.weightsEach P ts ds, m ≤ reachBytes) → ∃ xs, VRels (start W hV) vs xs ∧ ArgsOk P F ts xs
  | [], [], [], _, _, _, _, _ => ⟨[], .nil, trivial⟩
  | t :: ts, v :: vs, d :: ds, ps, hs, ht, hv, hw => by
    simp only [List.all_cons, Bool.and_eq_true] at hs
    obtain ⟨p, q, h1, h2, rfl⟩ := ht
    obtain ⟨x, r, o⟩ := arg_ok hs.1 (hv 0 t v rfl rfl) h1 fun m hm => hw m (by rw [DataW.weightsEach]; exact List.mem_append_left _ hm)
    obtain ⟨xs, rs, os⟩ := args_ok ts vs ds q hs.2 h2 (fun j t' v' ht' hv' => hv (j + 1) t' v' (by simpa using ht') (by simpa using hv')) fun m hm => hw m (by rw [DataW.weightsEach]; exact List.mem_append_right _ hm)
    exact ⟨x :: xs, .cons _ _ _ _ r rs, o, os⟩
  | [], [], _ :: _, _, _, h, _, _ => h.elim
  | [], _ :: _, _, _, _, h, _, _ => h.elim
  | _ :: _, [], _, _, _, h, _, _ => h.elim
  | _ :: _, _ :: _, [], _, _, h, _, _ => h.elim

theorem args_stay (hl : laidOutB P = true) {W' : World} (hb : Below W.heap.size W W') : ∀ (ts : List TypeId) (vs : List Value) (ds : List (DataW H)) (ps : List MemPlace), ts.all (fun t => P.readableRec t && decide (t < P.types.size)) = true →
    DataW.TrodAll enc P W 0 (fun _ => true) true ts vs ds ps → (∀ x ∈ ps, x.block < W.heap.size) → DataW.TrodAll enc P W' 0 (fun b => decide (b < W.heap.size)) true ts vs ds ps
  | [], [], [], _, _, h, _ => h
  | t :: ts, v :: vs, d :: ds, ps, hs, ht, hlt => by
    simp only [List.all_cons, Bool.and_eq_true, decide_eq_true_eq] at hs
    obtain ⟨p, q, h1, h2, rfl⟩ := ht
    refine ⟨p, q, Below.trod hl hs.1.1 hs.1.2 h1 hb fun x hx => hlt x (List.mem_append_left _ hx), args_stay hl hb ts vs ds q hs.2 h2 fun x hx => hlt x (List.mem_append_right _ hx), rfl⟩
  | [], [], _ :: _, _, _, h, _ => h.elim
  | [], _ :: _, _, _, _, h, _ => h.elim
  | _ :: _, [], _, _, _, h, _ => h.elim
  | _ :: _, _ :: _, [], _, _, h, _ => h.elim
end

/-- The spec of a law: true, and the arguments as they were. -/
structure LawSpec (s : ChangeSpec) (n : Nat) : Prop where
  vars : s.vars = []
  fn : ∀ (H : Type) (ds : List (DataW H)), ds.length = n → s.fn H ds = { results := [.lit (.bool true)], args := ds }

theorem trodAll_length {H : Type} {enc : TypeId × Value → H} {P : Program} {W : World} {base : Nat} {sp : Nat → Bool} {held : Bool} : ∀ (ts : List TypeId) (vs : List Value) (ds : List (DataW H)) (ps : List MemPlace),
    DataW.TrodAll enc P W base sp held ts vs ds ps → ds.length = ts.length
  | [], [], [], _, _ => rfl
  | _ :: ts, _ :: vs, _ :: ds, _, h => by
    obtain ⟨p, q, _, h2, _⟩ := h
    simp [trodAll_length ts vs ds q h2]
  | [], [], _ :: _, _, h => h.elim
  | [], _ :: _, _, _, h => h.elim
  | _ :: _, [], _, _, h => h.elim
  | _ :: _, _ :: _, [], _, h => h.elim

theorem law_lifted {C : Checked} (os : Os) (started : os.Started) {H : Type} {enc : TypeId × Value → H} {f : FuncId} {fn : Func} {s : ChangeSpec} {conds : List PathCond} {F : Nat} {bt : TypeId}
    (own : ownKnob C.prog.godebug = none) (noInit : C.prog.inits.idxOf? f = none) (hfn : C.prog.funcs[f]? = some fn) (hlo : laidOutB C.prog = true)
    (hr : fn.params.toList.all (fun t => C.prog.readableRec t && decide (t < C.prog.types.size)) = true) (hs : fn.params.toList.all (serves C.prog F) = true) (hres : fn.resultTypes = #[bt]) (hbt : C.prog.underlying bt = some .bool)
    (spec : LawSpec s fn.params.toList.length)
    (witness : ∃ (w : World) (tape : Tape) (i : Input), w.os = os ∧ (w.forCall tape i).Shaped C.prog ∧ i.vars = [] ∧ Input.okWide C.prog (w.forCall tape i) .any w.heap.size f i ∧
      s.pre6 enc C.prog fn conds false (w.forCall tape i).memory i.args ∧ ({} : Assume).holds C.prog (lone (Frame.enter C.prog f i.args .normal) [] (w.forCall tape i)))
    (law : ∀ xs, ArgsOk C.prog F fn.params.toList xs → ∃ s', Sim C.prog f xs St.none (.bool true) s') (vars : ∀ W : World, VarsOk W.heap.size W := by exact fun _ => trivial) :
    ReturnsInHanded {} C os f .any (s.pre6 enc C.prog fn conds false) (s.post enc C.prog fn false true false false) := by
  refine returnsInHanded_of_change_sized own started noInit hfn witness ?_
  intro W base args ds gs before hval hW _ hsz _
  have hW' := hW
  obtain ⟨p, q, hA, hV, rfl, _, _⟩ := hW
  rw [spec.vars] at hV
  obtain ⟨rfl, rfl⟩ := trodVars_none hV
  have hvt : s.plain.varTypes C.prog = [] := by
    unfold DataSpec.varTypes ChangeSpec.plain
    simp [spec.vars]
  rw [hvt, List.append_nil, List.append_nil] at hsz
  have hlt : ∀ x ∈ p, x.block < W.heap.size := fun x hx => hW'.lt x (List.mem_append_left _ hx)
  obtain ⟨xs, hrel, hok⟩ := args_ok (F := F) (base := base) fn.params.toList args.toList ds p hs hA (fun j t v h1 h2 => hval j t v (by simpa using h1) (by simpa using h2)) (fun m hm => by
    have := List.all_eq_true.1 hsz m hm
    simpa using this)
  obtain ⟨s', hsim⟩ := law xs hok
  have hcall := hsim.2 (start W (vars W)) W args.toList (Rel.start C.prog W (vars W)) hrel
  rw [Array.toArray_toList] at hcall
  refine hcall.mono fun e W' ⟨rv, g', he, hle, hR', hv⟩ => ?_
  cases hv
  have hbel : Below W.heap.size W W' := by
    have := hR'.below
    rw [hle.base, hle.w0] at this
    exact this
  have hlen : (ds ++ []).length = fn.params.toList.length := by rw [List.append_nil]; exact trodAll_length _ _ _ _ hA
  refine ⟨_, he, ds, [], p ++ [], [], p, [], hW', ?_, ?_, ?_, hbel.frame _, fun h => by cases h⟩
  · rw [spec.fn H _ hlen, hres]
    exact trodAll_mk1 ⟨1, by simp [DataW.trod, hbt, Value.cells]⟩
  · rw [spec.fn H _ hlen, List.append_nil]
    exact args_stay hlo hbel _ _ _ _ hr hA hlt
  · rw [spec.vars, spec.fn H _ hlen]
    exact rfl
theorem trodAll_vals {H : Type} {enc : TypeId × Value → H} {P : Program} {W : World} {base : Nat} {sp : Nat → Bool} {held : Bool} : ∀ (ts : List TypeId) (vs : List Value) (ds : List (DataW H)) (ps : List MemPlace),
    DataW.TrodAll enc P W base sp held ts vs ds ps → vs.length = ts.length
  | [], [], [], _, _ => rfl
  | _ :: ts, _ :: vs, _ :: ds, _, h => by
    obtain ⟨p, q, _, h2, _⟩ := h
    simp [trodAll_vals ts vs ds q h2]
  | [], [], _ :: _, _, h => h.elim
  | [], _ :: _, _, _, h => h.elim
  | _ :: _, [], _, _, h => h.elim
  | _ :: _, _ :: _, [], _, h => h.elim
theorem junk_rels {g : G} : ∀ (vs : List Value), VRels g vs (List.replicate vs.length .junk)
  | [] => .nil
  | v :: vs => .cons _ _ _ _ (.junk v) (junk_rels vs)
/-- A law that looks at none of what comes in; variables that are laid. -/
theorem law_laid {C : Checked} (os : Os) (started : os.Started) {H : Type} {enc : TypeId × Value → H} {f : FuncId} {fn : Func} {s : ChangeSpec} {conds : List PathCond} {bt : TypeId} {X : World → Prop} (hX : ∀ w w' : World, w.heap = w'.heap → X w → X w')
    (own : ownKnob C.prog.godebug = none) (noInit : C.prog.inits.idxOf? f = none) (hfn : C.prog.funcs[f]? = some fn) (hlo : laidOutB C.prog = true)
    (hr : fn.params.toList.all (fun t => C.prog.readableRec t && decide (t < C.prog.types.size)) = true) (hres : fn.resultTypes = #[bt]) (hbt : C.prog.underlying bt = some .bool)
    (spec : LawSpec s fn.params.toList.length)
    (witness : ∃ (w : World) (tape : Tape) (i : Input), w.os = os ∧ (w.forCall tape i).Shaped C.prog ∧ i.vars = [] ∧ Input.okWide C.prog (w.forCall tape i) .any w.heap.size f i ∧
      ((s.pre enc C.prog fn conds false (w.forCall tape i).memory i.args ∧ X (w.forCall tape i).memory) ∧ sizedMet enc C.prog fn (OpenSpec.ofChange s) false (w.forCall tape i).memory i.args) ∧ ({} : Assume).holds C.prog (lone (Frame.enter C.prog f i.args .normal) [] (w.forCall tape i)))
    (vars : ∀ W : World, X W → VarsOk W.heap.size W) (law : ∃ s', Sim C.prog f (List.replicate fn.params.toList.length .junk) St.none (.bool true) s') :
    ReturnsInHanded {} C os f .any (fun w args => (s.pre enc C.prog fn conds false w args ∧ X w) ∧ sizedMet enc C.prog fn (OpenSpec.ofChange s) false w args) (s.post enc C.prog fn false true false false) := by
  refine returnsInHanded_of_change_and (X := fun w _ => X w) (fun w w' _ h hx => hX w w' h hx) own started noInit hfn witness ?_
  intro W base args ds gs before hval hW _ hsz hXW _
  have hW' := hW
  obtain ⟨p, q, hA, hV, rfl, _, _⟩ := hW
  rw [spec.vars] at hV
  obtain ⟨rfl, rfl⟩ := trodVars_none hV
  have hlt : ∀ x ∈ p, x.block < W.heap.size := fun x hx => hW'.lt x (List.mem_append_left _ hx)
  obtain ⟨s', hsim⟩ := law
  have hrel : VRels (start W (vars W hXW)) args.toList (List.replicate fn.params.toList.length .junk) := by
    rw [← trodAll_vals _ _ _ _ hA]
    exact junk_rels _
  have hcall := hsim.2 (start W (vars W hXW)) W args.toList (Rel.start C.prog W (vars W hXW)) hrel
  rw [Array.toArray_toList] at hcall
  refine hcall.mono fun e W' ⟨rv, g', he, hle, hR', hv⟩ => ?_
  cases hv
  have hbel : Below W.heap.size W W' := by
    have := hR'.below
    rw [hle.base, hle.w0] at this
    exact this
  have hlen : (ds ++ []).length = fn.params.toList.length := by rw [List.append_nil]; exact trodAll_length _ _ _ _ hA
  refine ⟨_, he, ds, [], p ++ [], [], p, [], hW', ?_, ?_, ?_, hbel.frame _, fun h => by cases h⟩
  · rw [spec.fn H _ hlen, hres]
    exact trodAll_mk1 ⟨1, by simp [DataW.trod, hbt, Value.cells]⟩
  · rw [spec.fn H _ hlen, List.append_nil]
    exact args_stay hlo hbel _ _ _ _ hr hA hlt
  · rw [spec.vars, spec.fn H _ hlen]
    exact rfl
/-- What may be told of an argument of which nothing is known but its type. -/
def shapeArg (P : Program) (t : TypeId) : TV := if isAggT P t then .agg (List.replicate (P.cellsOf t) .junk) else .junk
theorem shape_rel {P : Program} {W : World} {r : Reach} {base : Nat} {t : TypeId} {v : Value} {g : G} (h : Value.okWide P W r base t v) : VRel g v (shapeArg P t) := by
  unfold shapeArg
  split
  · rename_i ha
    have : ∃ cs, v = .agg cs ∧ cs.size = P.cellsOf t := by
      unfold isAggT at ha
      unfold Value.okWide at h
      split at ha <;> rename_i ht
      · rw [ht] at h; obtain ⟨cs, h, h', _⟩ := h; exact ⟨cs, h, h'⟩
      · rw [ht] at h; obtain ⟨cs, h, h', _⟩ := h; exact ⟨cs, h, h'⟩
      · cases ha
    obtain ⟨cs, rfl, hs⟩ := this
    refine .agg cs _ ?_
    rw [← hs, ← Array.length_toList]
    exact junk_rels _
  · exact .junk _
theorem shape_rels {P : Program} {W : World} {r : Reach} {base : Nat} {g : G} : ∀ (ts : List TypeId) (vs : List Value), vs.length = ts.length → (∀ (j : Nat) t v, ts[j]? = some t → vs[j]? = some v → Value.okWide P W r base t v) → VRels g vs (ts.map (shapeArg P))
  | [], [], _, _ => .nil
  | t :: ts, v :: vs, hl, h => .cons _ _ _ _ (shape_rel (h 0 t v rfl rfl)) (shape_rels ts vs (by simpa using hl) fun j t' v' h1 h2 => h (j + 1) t' v' (by simpa using h1) (by simpa using h2))
  | [], _ :: _, h, _ => by simp at h
  | _ :: _, [], h, _ => by simp at h

/-- A law whose run looks at no argument, with laid variables, in a world that is well typed. -/
theorem law_shut {C : Checked} (os : Os) (started : os.Started) {H : Type} {enc : TypeId × Value → H} {f : FuncId} {fn : Func} {s : ChangeSpec} {conds : List PathCond} {bt : TypeId} {X : World → Prop} (hX : ∀ w w' : World, w.heap = w'.heap → X w → X w')
    (own : ownKnob C.prog.godebug = none) (noInit : C.prog.inits.idxOf? f = none) (hfn : C.prog.funcs[f]? = some fn) (hlo : laidOutB C.prog = true)
    (hr : fn.params.toList.all (fun t => C.prog.readableRec t && decide (t < C.prog.types.size)) = true) (hres : fn.resultTypes = #[bt]) (hbt : C.prog.underlying bt = some .bool)
    (spec : LawSpec s fn.params.toList.length)
    (witness : ∃ (w : World) (tape : Tape) (i : Input), w.os = os ∧ (w.forCall tape i).Shaped C.prog ∧ i.vars = [] ∧ Input.okWide C.prog (w.forCall tape i) .any w.heap.size f i ∧
      ((s.pre enc C.prog fn conds false (w.forCall tape i).memory i.args ∧ X (w.forCall tape i).memory) ∧ sizedMet enc C.prog fn (OpenSpec.ofChange s) false (w.forCall tape i).memory i.args) ∧ ({} : Assume).holds C.prog (lone (Frame.enter C.prog f i.args .normal) [] (w.forCall tape i)))
    (vars : ∀ W : World, X W → W.ShapedOpen C.prog → VarsOk W.heap.size W) (law : ∃ s', Sim C.prog f (fn.params.toList.map (shapeArg C.prog)) St.none (.bool true) s') :
    ReturnsInHanded {} C os f .any (fun w args => (s.pre enc C.prog fn conds false w args ∧ X w) ∧ sizedMet enc C.prog fn (OpenSpec.ofChange s) false w args) (s.post enc C.prog fn false true false false) := by
  refine returnsInHanded_of_calls own started noInit witness ?_
  intro w tape i _ hsh _ hok hpre _
  obtain ⟨_, _, _, fn', hfn', _, _, _, hargs, hval⟩ := hok
  have e : fn' = fn := Option.some.inj (hfn'.symm.trans hfn)
  subst e
  obtain ⟨⟨⟨ds, gs, before, hw, _⟩, hx⟩, _⟩ := hpre
  have hW := DataW.Whole.of_heap (w' := w.forCall tape i) (by rfl) hw
  have hXW : X (w.forCall tape i) := hX _ _ (by rfl) hx
  generalize hWW : w.forCall tape i = W at *
  have hW' := hW
  obtain ⟨p, q, hA, hV, rfl, _, _⟩ := hW
  rw [spec.vars] at hV
  obtain ⟨rfl, rfl⟩ := trodVars_none hV
  have hlt : ∀ x ∈ p, x.block < W.heap.size := fun x hx => hW'.lt x (List.mem_append_left _ hx)
  obtain ⟨s', hsim⟩ := law
  have hrel : VRels (start W (vars W hXW hsh)) i.args.toList (fn'.params.toList.map (shapeArg C.prog)) :=
    shape_rels _ _ (trodAll_vals _ _ _ _ hA) fun j t v h1 h2 => hval j t v (by simpa using h1) (by simpa using h2)
  have hcall := hsim.2 (start W (vars W hXW hsh)) W i.args.toList (Rel.start C.prog W (vars W hXW hsh)) hrel
  rw [Array.toArray_toList] at hcall
  refine hcall.mono fun e W' ⟨rv, g', he, hle, hR', hv⟩ => ?_
  cases hv
  have hbel : Below W.heap.size W W' := by
    have := hR'.below
    rw [hle.base, hle.w0] at this
    exact this
  have hlen : (ds ++ []).length = fn'.params.toList.length := by rw [List.append_nil]; exact trodAll_length _ _ _ _ hA
  subst he
  subst hWW
  refine ChangeSpec.post_blind ⟨ds, [], p ++ [], [], p, [], hW', ?_, ?_, ?_, hbel.frame _, fun h => by cases h⟩
  · rw [spec.fn H _ hlen, hres]
    exact trodAll_mk1 ⟨1, by simp [DataW.trod, hbt, Value.cells]⟩
  · rw [spec.fn H _ hlen, List.append_nil]
    exact args_stay hlo hbel _ _ _ _ hr hA hlt
  · rw [spec.vars, spec.fn H _ hlen]
    exact rfl
end Go.Proofs.YtmmofmkencnldaaGreatDoor.TV
