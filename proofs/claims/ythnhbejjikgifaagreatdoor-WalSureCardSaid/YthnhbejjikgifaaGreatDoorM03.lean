/-
  TV: what makes or changes something (3): copy, make; all of it, in one theorem. (6 texts, one behind the other)
-/
import Derived.Test.YthnhbejjikgifaaGreatDoorM02
import Derived.LoopN
import Derived.Orders
import Derived.ProofKit
import Derived.SizedLaws
import Derived.OpenShut

namespace Go.Proofs.YthnhbejjikgifaaGreatDoor.TV
open Go Go.RowKit
set_option linter.unusedSimpArgs false
set_option linter.unusedVariables false

section
variable {P : Program} {g : G} {w : World} {s : St}

theorem copyT_ok (hR : Rel P g w s) {t u ty : TypeId} {x y v : TV} {rx ry : Value} (hx : VRel g rx x) (hy : VRel g ry y) {s' : St} (h : copyT P s t x y = some (v, s')) :
    ∃ rv w', (Builtin.copy_ #[t, u] ty #[rx, ry]).run P w = .ok rv w' ∧ Rel P g w' s' ∧ VRel g rv v := by
  unfold copyT at h
  split at h
  · rename_i elem ht
    split at h
    · cases h
    · rename_i hz
      have hs1 := sizeOf_run' (w := w) hz
      split at h
      · rename_i o off len cap ys hsrc
        split at h
        · rename_i hc
          simp only [Bool.and_eq_true] at hc
          obtain ⟨news, hn⟩ := srcT_ok hR (by omega) hy hsrc hc.1 hc.2
          cases hx with
          | osl a _ _ _ _ cap' ha hlc hcc =>
            split at h
            · rename_i h0
              cases h
              refine ⟨goInt 0, w, ?_, hR, .int _ _⟩
              have e1 := hn.len w
              have e2 := hn.first w 0 rfl (Nat.zero_le _)
              have hm : Nat.min ys.length len = 0 := h0
              simp [Builtin.copy_, run_underlying ht, e1, hm, hs1, e2, storeCells]
            · rename_i h0
              obtain ⟨b, e1, rfl⟩ := ha (by omega)
              split at h
              · rename_i s1 hset
                cases h
                have hrel : VRels g (news.take (min ys.length len * P.cellsOf elem)) ((ys.take (min ys.length len)).flatMap TV.cells) := by
                  rw [flat_take hn.size]
                  exact hn.rel.take _
                obtain ⟨w', h1, h2⟩ := setCellsT_ok hR hset e1 hrel
                refine ⟨_, w', ?_, h2, .int _ _⟩
                have e2 := hn.len w
                have e3 := hn.first w (min ys.length len) rfl (Nat.min_le_left _ _)
                have hm : Nat.min ys.length len = min ys.length len := rfl
                simp [Builtin.copy_, run_underlying ht, e2, hm, hs1, e3, h1, goInt]
              · cases h
        · cases h
      · rename_i isn tok ys hsrc
        cases h
        have hlen : ∃ n, ∀ w1, (Builtin.lenOf ry).run P w1 = .ok n w1 := by
          unfold srcT at hsrc
          split at hsrc
          · cases hy with
            | nils _ _ => exact ⟨_, fun _ => rfl⟩
            | empty _ _ _ _ _ => exact ⟨_, fun _ => rfl⟩
            | slice _ _ _ _ _ _ _ _ _ _ _ _ _ _ _ _ => exact ⟨_, fun _ => rfl⟩
          · cases hy with | str _ _ _ => exact ⟨_, fun _ => rfl⟩
          · cases hy with | osl _ _ _ _ _ _ _ _ _ => exact ⟨_, fun _ => rfl⟩
          · cases hsrc
        have hf : ∀ k, (Builtin.firstCells k 0 ry).run P w = .ok #[] w := by
          intro k
          unfold srcT at hsrc
          split at hsrc
          · cases hy with
            | nils _ _ => rfl
            | empty _ _ _ _ _ => simp [Builtin.firstCells, loadCells, loadCellsFrom]
            | slice _ _ _ _ _ _ _ _ _ _ _ _ _ _ _ _ => simp [Builtin.firstCells, loadCells, loadCellsFrom]
          · cases hy with | str sb _ _ => simp [Builtin.firstCells, ByteArray.data_extract]
          · cases hy with | osl _ _ _ _ _ _ _ _ _ => simp [Builtin.firstCells, loadCells, loadCellsFrom]
          · cases hsrc
        obtain ⟨n, hn⟩ := hlen
        have hm : Nat.min n 0 = 0 := Nat.min_zero n
        refine ⟨goInt 0, w, ?_, hR, .int _ _⟩
        cases hx with
        | nils _ _ => simp [Builtin.copy_, run_underlying ht, hn w, hm, hs1, hf]
        | empty a cap _ _ _ => simp [Builtin.copy_, run_underlying ht, hn w, hm, hs1, hf, storeCells]
        | slice _ _ _ _ _ _ _ _ hne _ _ _ _ _ _ _ => exact absurd rfl hne
      · cases h
  · cases h

theorem appInT_ok (hR : Rel P g w s) {t u ty : TypeId} {o off len cap : Nat} {y v : TV} {rx ry : Value} (hx : VRel g rx (.osl o off len cap)) (hy : VRel g ry y) {s' : St} (h : appInT P s t u o off len cap y = some (v, s')) :
    ∃ rv w' g', (Builtin.append_ #[t, u] ty #[rx, ry]).run P w = .ok rv w' ∧ g.le g' ∧ Rel P g' w' s' ∧ VRel g' rv v := by
  unfold appInT at h
  split at h
  · rename_i elem ud ht hud
    split at h
    · cases h
    · rename_i hni
      have hu : noInt P u := by
        cases ud <;> first | exact .inl ⟨_, hud⟩ | exact .inr hud | exact absurd rfl hni
      split at h
      · rename_i ys hsrc
        split at h
        · rename_i hc
          simp only [Bool.and_eq_true, decide_eq_true_eq] at hc
          obtain ⟨⟨⟨⟨hz0, hhy⟩, hok⟩, hpos⟩, hroom⟩ := hc
          obtain ⟨s1, hs1, he⟩ := Option.map_eq_some_iff.1 h
          cases he
          have hz : P.cellsOf elem ≠ 0 := by omega
          obtain ⟨news, hn⟩ := srcT_ok hR hz0 hy hsrc hhy hok
          have hnl : news.length = ys.length * P.cellsOf elem := by rw [hn.rel.length, flat_length hn.size]
          cases hx with
          | osl a _ _ _ _ cap' ha hlc hcc =>
            obtain ⟨b, e1, rfl⟩ := ha (by omega)
            obtain ⟨w', h1, h2⟩ := setCellsT_ok hR hs1 e1 hn.rel
            have q1 := hn.len w
            have q2 := hn.first w ys.length rfl (Nat.le_refl _)
            rw [← hnl, List.take_length] at q2
            have hroom' : len + ys.length ≤ cap' := by omega
            refine ⟨.slice (some ⟨b, off, none⟩) (len + ys.length) cap', w', g, ?_, .refl g, h2, .osl _ _ _ _ _ _ (fun _ => ⟨b, e1, rfl⟩) hroom hcc⟩
            rcases hu with ⟨e', hd⟩ | hd
            all_goals
              simp [Builtin.append_, run_underlying ht, run_underlying hd, sizeOf_run' (w := w) hz, q1, q2, hroom', add_plain', h1]
        · cases h
      · cases h
  · cases h
theorem appNewT_ok (hR : Rel P g w s) {t u ty : TypeId} {tok : Tok} {y v : TV} {rx ry : Value} (hx : VRel g rx (.slice true [] tok)) (hy : VRel g ry y) {s' : St} (h : appNewT P s t u y = some (v, s')) :
    ∃ rv w' g', (Builtin.append_ #[t, u] ty #[rx, ry]).run P w = .ok rv w' ∧ g.le g' ∧ Rel P g' w' s' ∧ VRel g' rv v := by
  unfold appNewT at h
  split at h
  · rename_i elem ud ht hud
    split at h
    · cases h
    · rename_i hni
      have hu : noInt P u := by
        cases ud <;> first | exact .inl ⟨_, hud⟩ | exact .inr hud | exact absurd rfl hni
      split at h
      · rename_i ys hsrc
        split at h
        · rename_i hc
          simp only [Bool.and_eq_true, decide_eq_true_eq] at hc
          obtain ⟨⟨⟨⟨⟨⟨hz0, hhy⟩, hok⟩, hpos⟩, hb⟩, hb0⟩, hzi⟩ := hc
          cases h
          have hz : P.cellsOf elem ≠ 0 := by omega
          obtain ⟨news, hn⟩ := srcT_ok hR hz0 hy hsrc hhy hok
          have hnl : news.length = ys.length * P.cellsOf elem := by rw [hn.rel.length, flat_length hn.size]
          obtain ⟨i, rz, hi, hrz, hrzs⟩ : ∃ i rz, P.info? elem = some i ∧ i.zero = some rz ∧ rz.cells.size = P.cellsOf elem := by
            unfold zeroFits at hzi
            split at hzi
            · rename_i z hzz
              simp only [Bool.and_eq_true, beq_iff_eq, Bool.not_eq_true'] at hzi
              obtain ⟨i, rz, h1, h2, _, h4⟩ := zero_cells hzz g (by intro e; subst e; simp [isJunk] at hzi)
              exact ⟨i, rz, h1, h2, by rw [← hzi.1, ← h4.length]; simp⟩
            · cases hzi
          cases hx with
          | nils _ _ =>
            have hrun := app_grow (ty := ty) ht hu hi hrz hz (base := none) (n := 0) (cap := 0) (olds := []) (by simp [Builtin.firstCells]) hn hnl (by omega) (by simpa using hb) hb0
            have hge := grownCap_ge w (0 + ys.length) 0 elem
            generalize hcap : grownCap w (0 + ys.length) 0 elem = cap2 at hrun hge
            obtain ⟨h1, h2, h3⟩ := hR.drew.newObj ((Below.refl _ w.drew).alloc (Nat.le_refl _) (.cells (([] ++ news).toArray ++ Builtin.zeroCells rz.cells (cap2 - (0 + ys.length))) elem)) (Nat.le_refl _) (ob := .cells (ys.flatMap TV.cells) elem)
              ⟨_, heap_alloc_new w.drew _, by
                rw [Array.toList_append, ← hn.rel.length, List.nil_append, List.take_left]
                exact hn.rel⟩
            have hge' : ys.length ≤ cap2 := by omega
            rw [show 0 + ys.length = ys.length from Nat.zero_add _] at hrun h2
            exact ⟨_, _, _, hrun, h1, h2, .osl _ _ _ _ _ _ (fun _ => ⟨_, h3, rfl⟩) (Nat.le_refl _) hge'⟩
        · cases h
      · cases h
  · cases h
theorem appendX_ok (hR : Rel P g w s) {t u ty : TypeId} {x y v : TV} {rx ry : Value} (hx : VRel g rx x) (hy : VRel g ry y) {s' : St} (h : appendX P s t u x y = some (v, s')) :
    ∃ rv w' g', (Builtin.append_ #[t, u] ty #[rx, ry]).run P w = .ok rv w' ∧ g.le g' ∧ Rel P g' w' s' ∧ VRel g' rv v := by
  unfold appendX at h
  split at h
  · exact appInT_ok hR hx hy h
  · split at h
    · exact appNewT_ok hR hx hy h
    · exact appendT_ok hR hx hy h
  · exact appendT_ok hR hx hy h
set_option maxHeartbeats 1000000 in
theorem effT_ok {ρ : Operand → Value} {τ : Operand → TV} (hρ : ∀ x, VRel g (ρ x) (τ x)) (hR : Rel P g w s) {o : Oper} {v : TV} {s' : St} (h : effT P s τ o = some (v, s')) : EffOk P g w s' ρ o v := by
  obtain ⟨dst, op, ty, pos, after, guard⟩ := o
  cases op with
  | alloc t =>
    simp only [effT] at h
    split at h
    · rename_i z hz
      split at h
      · rename_i hc; cases h; exact alloc_ok rfl hR hz hc
      · cases h
    · cases h
  | box t x =>
    simp only [effT] at h
    split at h
    · rename_i hc; cases h; exact box_ok hρ rfl hR hc
    · cases h
  | store t a x =>
    simp only [effT] at h
    split at h
    · rename_i o off ha
      split at h
      · rename_i hc
        simp only [Bool.and_eq_true, decide_eq_true_eq] at hc
        obtain ⟨s1, hs1, he⟩ := Option.map_eq_some_iff.1 h
        cases he
        exact store_ok hρ rfl hR ha hc.1 hc.2 hs1
      · cases h
    · cases h
  | makeMap t r =>
    cases r with
    | none => simp only [effT] at h; cases h; exact makeMap_ok rfl hR
    | some r => simp [effT] at h
  | buildSlice t len parts =>
    simp only [effT] at h
    split at h
    · rename_i elem es tok hu hb
      split at h
      · rename_i hc
        cases h
        obtain ⟨elem', es', cells', e1, e2, e3, e4, e5, e6, hrun⟩ := buildSliceT_run (g := g) (parts := parts.map fun p => (p.1, ρ p.2)) hR (by
          rw [Array.toList_map]
          exact PartRel.of_map hρ _) hb
        rw [hu] at e1
        cases e1
        cases e2
        obtain ⟨g', h5, h6, h7⟩ := mkObj_ok (s := s) hR elem e6
        refine ⟨_, _, g', .inl ?_, h5, h6, .osl ⟨w.heap.size, 0, none⟩ s.n 0 len len len (fun _ => ⟨_, h7, rfl⟩) (by omega) (Nat.le_refl _)⟩
        simp only [execOp, Sem.run_bind, hrun, Result.andThen_ok, Sem.run_pure]
      · cases h
    · cases h
  | makeSlice t l c =>
    simp only [effT] at h
    split at h
    · rename_i elem kl l' kc c' ht hl hc
      split at h
      · rename_i hcond
        simp only [Bool.and_eq_true, decide_eq_true_eq] at hcond
        obtain ⟨⟨⟨⟨h0, hlc⟩, hb⟩, h63⟩, hz0⟩ := hcond
        split at h
        · rename_i z hz
          split at h
          · rename_i hzc
            simp only [Bool.and_eq_true, beq_iff_eq] at hzc
            cases h
            have hzj : z ≠ .junk := by intro e; subst e; simp [cellOk, TV.cells] at hzc
            obtain ⟨i, rz, h1, h2, h3, h4⟩ := zero_cells hz g hzj
            have hrl := hρ l
            have hrc := hρ c
            rw [hl] at hrl
            rw [hc] at hrc
            cases hql : ρ l <;> rw [hql] at hrl <;> cases hrl
            cases hqc : ρ c <;> rw [hqc] at hrc <;> cases hrc
            have hby : i.bytes = P.bytesOf elem := by simp [Program.bytesOf, h1]
            have hsz : rz.cells.size = P.cellsOf elem := by rw [← hzc.2, ← h4.length]; simp
            have hrun := run_make (P := P) w t elem i rz ht h1 h2 kl kc l' c' h0 hlc (by rw [hby, Int.mul_comm]; omega) h63
            rw [← cellsOf_info h1, ← hsz] at hrun
            obtain ⟨g', h5, h6, h7⟩ := mkObj_ok (s := s) hR elem (cells := madeCells rz.cells (c'.toNat * rz.cells.size)) (cs := (List.replicate c'.toNat z.cells).flatten) (by
              unfold madeCells
              rw [range_cells]
              exact VRels.flatten_replicate h4 _)
            refine ⟨_, _, g', .inl ?_, h5, h6, .osl ⟨w.heap.size, 0, none⟩ s.n 0 l'.toNat c'.toNat c'.toNat (fun _ => ⟨_, h7, rfl⟩) (by omega) (Nat.le_refl _)⟩
            simp only [execOp, hql, hqc, Sem.run_bind, hrun, Result.andThen_ok, Sem.run_pure]
          · cases h
        · cases h
      · cases h
    · cases h
  | mapUpdate t m k x =>
    simp only [effT] at h
    obtain ⟨s1, hs1, he⟩ := Option.map_eq_some_iff.1 h
    cases he
    obtain ⟨w', h1, h2⟩ := mapSetT_ok hR (hρ m) (hρ k) (hρ x) hs1
    exact ⟨undef, w', g, .inr ⟨by simp [execOp, h1], rfl⟩, .refl g, h2, .undef' g⟩
  | insert t m k x =>
    simp only [effT] at h
    obtain ⟨s1, hs1, he⟩ := Option.map_eq_some_iff.1 h
    cases he
    obtain ⟨w', h1, h2⟩ := mapSetT_ok hR (hρ m) (hρ k) (hρ x) hs1
    exact ⟨undef, w', g, .inr ⟨by simp [execOp, h1], rfl⟩, .refl g, h2, .undef' g⟩
  | call c =>
    obtain ⟨callee, args, ts⟩ := c
    cases callee with
    | builtin b =>
      simp only [effT] at h
      split at h
      · rename_i x y t u ha ht
        have ha' := array_two ha
        have ht' := array_two ht
        subst ha' ht'
        obtain ⟨rv, w', g', h1, h2, h3, h4⟩ := appendX_ok (ty := ty) hR (hρ x) (hρ y) h
        exact ⟨rv, w', g', .inl (by simp [execOp, resolve, invoke, builtin, h1]), h2, h3, h4⟩
      · rename_i x y t u ha ht
        have ha' := array_two ha
        have ht' := array_two ht
        subst ha' ht'
        obtain ⟨rv, w', h1, h3, h4⟩ := copyT_ok (u := u) (ty := ty) hR (hρ x) (hρ y) h
        exact ⟨rv, w', g, .inl (by simp [execOp, resolve, invoke, builtin, h1]), .refl g, h3, h4⟩
      · rename_i m k t u ha ht
        have ha' := array_two ha
        have ht' := array_two ht
        subst ha' ht'
        obtain ⟨s1, hs1, he⟩ := Option.map_eq_some_iff.1 h
        cases he
        obtain ⟨w', h1, h3⟩ := deleteT_ok (u := u) (ty := ty) hR (hρ m) (hρ k) hs1
        exact ⟨_, w', g, .inl (by simp [execOp, resolve, invoke, builtin, h1]), .refl g, h3, .tup _ _ .nil⟩
      · cases h
    | _ => simp [effT] at h
  | _ => simp [effT] at h
end
end Go.Proofs.YthnhbejjikgifaaGreatDoor.TV

/-
  TV: operations, regions in the text's order, code, calls: what the evaluator tells is what the model does.
-/
namespace Go.Proofs.YthnhbejjikgifaaGreatDoor.TV
open Go Go.RowKit
set_option linter.unusedSimpArgs false
set_option linter.unusedVariables false

def EnvRel (g : G) (a : Act) (e : Env) : Prop := VRels g a.tmps.toList e
theorem EnvRel.mono {g g' : G} (h : g.le g') {a : Act} {e : Env} (k : EnvRel g a e) : EnvRel g' a e := VRels.mono h k
theorem EnvRel.at {g : G} {a : Act} {e : Env} (h : EnvRel g a e) (t : Nat) : VRel g (a.tmps.getD t undef) (e.at t) := by
  rw [Env.at_eq]
  by_cases ht : t < e.length
  · obtain ⟨v, h1, h2⟩ := h.get (List.getElem?_eq_getElem ht)
    have h1' : a.tmps[t]? = some v := by simpa using h1
    simp only [List.getD, List.getElem?_eq_getElem ht, Option.getD_some, Array.getD_eq_getD_getElem?, h1']
    exact h2
  · simp only [List.getD, List.getElem?_eq_none (Nat.le_of_not_lt ht), Option.getD_none]
    exact .junk _
theorem VRel.glob (g : G) (n : Nat) : VRel g (.pointer (some ⟨n, 0, none⟩)) (match globC n with
    | [] => .junk
    | cs => .eptr (cs.map fun p => .int p.1 p.2)) := by
  split
  · exact .junk _
  · rename_i cs hne
    refine .eptr n 0 ((globC n).map fun p => .int p.1 p.2) _ (fun i v hv => ?_) ?_
    · rw [List.getElem?_map] at hv
      obtain ⟨p, hp, rfl⟩ := Option.map_eq_some_iff.1 hv
      rw [Nat.zero_add]
      exact (g.hG n i p.1 p.2 hp).2
    · have key : ∀ l : List (IntKind × Int), VRels g (l.map fun p => Value.int p.1 p.2) (l.map fun p => TV.int p.1 p.2) := by
        intro l
        induction l with
        | nil => exact .nil
        | cons p l ih => exact .cons _ _ _ _ (.int _ _) ih
      exact key _
theorem EnvRel.ev {g : G} {a : Act} {e : Env} (h : EnvRel g a e) (x : Operand) : VRel g (a.eval x) (ev e x) := by
  cases x with
  | tmp t => exact h.at t
  | const v => exact VRel.const g v
  | global n => exact VRel.glob g n
  | func f => exact .fn _ _ _ _ _ .nil .nil

def putE (dst : Option Tmp) (v : TV) (e : Env) : Env := match dst with
  | some d => e.set d v
  | none => e
theorem putK_eq {ρ : Type} (dst : Option Tmp) (v : TV) (e : Env) (k : Env → Option ρ) : putK dst v e k = k (putE dst v e) := by
  cases dst <;> simp [putK, putE]
theorem EnvRel.put {g : G} {a : Act} {e : Env} (h : EnvRel g a e) {rv : Value} {v : TV} (r : VRel g rv v) (dst : Option Tmp) : EnvRel g (a.put dst rv) (putE dst v e) := by
  cases dst with
  | none => exact h
  | some d =>
    show VRels g (a.tmps.setIfInBounds d rv).toList (e.set d v)
    rw [Array.toList_setIfInBounds]
    exact VRels.set h d r
theorem put_defers (a : Act) (dst : Option Tmp) (v : Value) : (a.put dst v).defers = a.defers := by cases dst <;> rfl

section
variable {P : Program}

/-- A call of function f with these values, on this store, answers v and leaves that store. -/
def Sim (P : Program) (f : FuncId) (args : List TV) (s : St) (v : TV) (s' : St) : Prop :=
  (∃ fn c, P.funcs[f]? = some fn ∧ fn.body = some c) ∧
  ∀ (g : G) (w : World) (rargs : List Value), Rel P g w s → VRels g rargs args → Calls P f rargs.toArray w fun e w' => ∃ rv g', e = .returned rv ∧ g.le g' ∧ Rel P g' w' s' ∧ VRel g' rv v

def CallOk (P : Program) {ρ : Type} (call : CallK ρ) : Prop := ∀ f args s k r, call f args s k = some r → ∃ v s', Sim P f args s v s' ∧ k v s' = some r

/-- No function of the program bears the name of the one that counts goroutines. -/
def Named (P : Program) : Prop := ∀ (f : FuncId) (fn : Func), P.funcs[f]? = some fn → (fn.name == "runtime.NumGoroutine") = false

theorem readT_congr {ρ ρ' : Operand → TV} (s : St) (o : Oper) (h : ∀ x ∈ o.op.operands, ρ x = ρ' x) : readT P s ρ o = readT P s ρ' o := by
  obtain ⟨dst, op, type, pos, after, guard⟩ := o
  have pairs : ∀ ps : Array (Nat × Operand), (∀ x ∈ ps.map (·.2), ρ x = ρ' x) → (ps.toList.map fun p => (p.1, ρ p.2)) = (ps.toList.map fun p => (p.1, ρ' p.2)) := fun ps hp =>
    List.map_congr_left fun p hm => by
      obtain ⟨i, x⟩ := p
      simp only [hp x (Array.mem_map.2 ⟨(i, x), Array.mem_toList_iff.1 hm, rfl⟩)]
  cases op <;> simp only [Op.operands] at h <;> simp only [readT]
  case build t ps => rw [pairs ps fun x hx => h x (by simpa using hx)]
  case buildSlice t n ps => rw [pairs ps fun x hx => h x (by simpa using hx)]
  case makeFunc fn first captured =>
    rw [List.map_congr_left (l := first.toList) fun x hx => h x (by simp [Array.mem_toList_iff.1 hx]), List.map_congr_left (l := captured.toList) fun x hx => h x (by simp [Array.mem_toList_iff.1 hx])]
  case slice t x lo hi mx => cases lo <;> cases hi <;> cases mx <;> simp_all
  case call c =>
    obtain ⟨callee, args, ts⟩ := c
    cases callee with
    | builtin b =>
      have hargs : ∀ x ∈ args.toList, ρ x = ρ' x := fun x hx => h x (by simp [Call.operands, Array.mem_toList_iff.1 hx])
      simp only
      generalize args.toList = al at hargs ⊢
      generalize ts.toList = tl
      clear h
      rcases al with _ | ⟨x, _ | ⟨y, _ | ⟨z, l⟩⟩⟩ <;> rcases tl with _ | ⟨t, _ | ⟨u, _ | ⟨v, m⟩⟩⟩ <;> cases b <;> (first | rfl | (simp only [List.mem_cons, List.not_mem_nil, or_false, forall_eq_or_imp, forall_eq] at hargs; simp only [hargs]))
    | _ => rfl
  all_goals (first | rfl | (simp_all; done))

theorem effT_congr {ρ ρ' : Operand → TV} (s : St) (o : Oper) (h : ∀ x ∈ o.op.operands, ρ x = ρ' x) : effT P s ρ o = effT P s ρ' o := by
  obtain ⟨dst, op, type, pos, after, guard⟩ := o
  have pairs : ∀ ps : Array (Nat × Operand), (∀ x ∈ ps.map (·.2), ρ x = ρ' x) → (ps.toList.map fun p => (p.1, ρ p.2)) = (ps.toList.map fun p => (p.1, ρ' p.2)) := fun ps hp =>
    List.map_congr_left fun p hm => by
      obtain ⟨i, x⟩ := p
      simp only [hp x (Array.mem_map.2 ⟨(i, x), Array.mem_toList_iff.1 hm, rfl⟩)]
  cases op <;> simp only [Op.operands] at h <;> simp only [effT]
  case makeMap t r => cases r <;> rfl
  case buildSlice t n ps => rw [pairs ps fun x hx => h x (by simpa using hx)]
  case call c =>
    obtain ⟨callee, args, ts⟩ := c
    cases callee with
    | builtin b =>
      have hargs : ∀ x ∈ args.toList, ρ x = ρ' x := fun x hx => h x (by simp [Call.operands, Array.mem_toList_iff.1 hx])
      simp only
      generalize args.toList = al at hargs ⊢
      generalize ts.toList = tl
      clear h
      rcases al with _ | ⟨x, _ | ⟨y, _ | ⟨z, l⟩⟩⟩ <;> rcases tl with _ | ⟨t, _ | ⟨u, _ | ⟨v, m⟩⟩⟩ <;> cases b <;> (first | rfl | (simp only [List.mem_cons, List.not_mem_nil, or_false, forall_eq_or_imp, forall_eq] at hargs; simp only [hargs]))
    | _ => rfl
  all_goals (first | rfl | (simp_all; done))

theorem calleeT_congr {ρ ρ' : Operand → TV} (o : Oper) (h : ∀ x ∈ o.op.operands, ρ x = ρ' x) : calleeT ρ o = calleeT ρ' o := by
  obtain ⟨dst, op, type, pos, after, guard⟩ := o
  cases op <;> simp only [Op.operands] at h <;> simp only [calleeT]
  case call c =>
    obtain ⟨callee, args, ts⟩ := c
    have hargs : args.toList.map ρ = args.toList.map ρ' := List.map_congr_left fun x hx => h x (by simp [Call.operands, Array.mem_toList_iff.1 hx])
    cases callee with
    | value f => simp only [hargs, h f (by simp [Call.operands])]
    | _ => rfl

/-- What is at the names that the operation reads is what is told of them. -/
def OperandsRel (g : G) (a : Act) (e : Env) (o : Oper) : Prop := ∀ x ∈ o.op.operands, VRel g (a.eval x) (ev e x)
theorem EnvRel.operands {g : G} {a : Act} {e : Env} (h : EnvRel g a e) (o : Oper) : OperandsRel g a e o := fun x _ => h.ev x
open Classical in
/-- The same names, the others bare. -/
noncomputable def bare (o : Oper) (e : Env) : Operand → TV := fun x => if x ∈ o.op.operands then ev e x else .junk
theorem bare_ok {g : G} {a : Act} {e : Env} {o : Oper} (h : OperandsRel g a e o) (x : Operand) : VRel g (a.eval x) (bare o e x) := by
  unfold bare
  split
  · rename_i hx; exact h x hx
  · exact .junk _
theorem bare_eq {e : Env} {o : Oper} : ∀ x ∈ o.op.operands, ev e x = bare o e x := by
  intro x hx
  unfold bare
  rw [if_pos hx]

theorem VRels.map_mem {g : G} {ρ : Operand → Value} {τ : Operand → TV} : ∀ l : List Operand, (∀ x ∈ l, VRel g (ρ x) (τ x)) → VRels g (l.map ρ) (l.map τ)
  | [], _ => .nil
  | x :: l, h => .cons _ _ _ _ (h x (by simp)) (VRels.map_mem l fun y hy => h y (by simp [hy]))

/-- An operation, in the state (e, s), gives v and leaves s'. -/
def OpSim (P : Program) (o : Oper) (e : Env) (s : St) (v : TV) (s' : St) : Prop :=
  ∀ (g : G) (w : World) (a : Act), Rel P g w s → OperandsRel g a e o → ∀ (next : Act → World → Prop) (Q : Exit → Act → World → Prop),
    (∀ rv w' g', g.le g' → Rel P g' w' s' → VRel g' rv v → next (a.put o.dst rv) w') → o.wp P a w next Q

theorem OpSim.read {o : Oper} {e : Env} {s : St} {v : TV} (h : readT P s (ev e) o = some v) : OpSim P o e s v s := by
  intro g w a hR hE next Q hn
  rw [readT_congr s o bare_eq] at h
  obtain ⟨rv, w', g', h1, h2, h3, h4⟩ := readT_ok (bare_ok hE) hR h
  unfold Oper.wp
  rw [h1]
  exact hn rv w' g' h2 h3 h4
theorem OpSim.eff {o : Oper} {e : Env} {s s' : St} {v : TV} (h : effT P s (ev e) o = some (v, s')) : OpSim P o e s v s' := by
  intro g w a hR hE next Q hn
  rw [effT_congr s o bare_eq] at h
  obtain ⟨rv, w', g', h1, h2, h3, h4⟩ := effT_ok (bare_ok hE) hR h
  unfold Oper.wp
  rcases h1 with h1 | ⟨h1, rfl⟩
  · rw [h1]
    exact hn rv w' g' h2 h3 h4
  · rw [h1]
    exact hn undef w' g' h2 h3 h4

theorem OpSim.call (hN : Named P) {o : Oper} {e : Env} {s s' : St} {f : FuncId} {args : List TV} {v : TV} (h : calleeT (ev e) o = some (f, args)) (hs : Sim P f args s v s') : OpSim P o e s v s' := by
  intro g w a hR hE next Q hn
  obtain ⟨⟨fn, c, hf, hb⟩, hcalls⟩ := hs
  obtain ⟨dst, op, ty, pos, after, guard⟩ := o
  unfold calleeT at h
  cases op with
  | call c =>
    obtain ⟨callee, xs, ts⟩ := c
    cases callee with
    | value fo =>
      simp only at h
      have hfo := hE fo (by simp [Op.operands, Call.operands])
      split at h
      · rename_i g0 first captured he
        cases h
        rw [he] at hfo
        cases hq : a.eval fo <;> rw [hq] at hfo <;> cases hfo
        rename_i rf rc r1 r2
        have hargs : VRels g (rf ++ xs.map a.eval ++ rc).toList (first ++ xs.toList.map (ev e) ++ captured) := by
          simp only [Array.toList_append, Array.toList_map]
          exact (r1.append (VRels.map_mem _ (fun x hx => hE x (by simp [Op.operands, Call.operands, Array.mem_toList_iff.1 hx])))).append r2
        have hC := hcalls g w _ hR hargs
        rw [Array.toArray_toList] at hC
        have hname : ¬ fn.name = "runtime.NumGoroutine" := by have := hN f fn hf; simpa using this
        have hrun : (execOp a.eval ⟨dst, .call ⟨.value fo, xs, ts⟩, ty, pos, after, guard⟩).run P w = .ok (.enter f (rf ++ xs.map a.eval ++ rc)) w := by
          simp [execOp, resolve, hq, Deferred.ofValue, invoke, callFunc, run_program, hf, hname, hb]
        unfold Oper.wp
        rw [hrun]
        simp only [Oper.upon]
        refine hC.mono fun en w' hen => ?_
        obtain ⟨rv, g', rfl, h1, h2, h3⟩ := hen
        exact hn rv w' g' h1 h2 h3
      · cases h
    | _ => simp at h
  | _ => simp at h

theorem opK_ok {ρ : Type} (hN : Named P) {call : CallK ρ} (hC : CallOk P call) {o : Oper} {e : Env} {s : St} {k : TV → St → Option ρ} {r : ρ} (h : opK P call o e s k = some r) :
    ∃ v s', OpSim P o e s v s' ∧ (isRead o = true → readT P s (ev e) o = some v ∧ s' = s) ∧ k v s' = some r := by
  unfold opK at h
  split at h
  · rename_i hread
    split at h
    · rename_i v hv
      rw [forceV_eq] at h
      exact ⟨v, s, .read hv, fun _ => ⟨hv, rfl⟩, h⟩
    · cases h
  · rename_i hread
    split at h
    · rename_i f args hc
      rw [forceList_eq] at h
      obtain ⟨v, s', h1, h2⟩ := hC _ _ _ _ _ h
      exact ⟨v, s', .call hN hc h1, fun h => absurd h hread, h2⟩
    · split at h
      · rename_i v s' hv
        rw [forceV_eq, forceSt_eq] at h
        exact ⟨v, s', .eff hv, fun h => absurd h hread, h⟩
      · cases h

theorem opsK_nil {ρ : Type} {call : CallK ρ} {ops : List Oper} {e : Env} {s : St} {k : Env → St → Option ρ} : opsK P call ops [] e s k = k e s := rfl
theorem opsK_cons {ρ : Type} {call : CallK ρ} {ops : List Oper} {o : Oper} {rest : List Oper} {e : Env} {s : St} {k : Env → St → Option ρ} : opsK P call ops (o :: rest) e s k = match wantedT ops e o with
    | some true => opK P call o e s fun v s => putK o.dst v e fun e => opsK P call ops rest e s k
    | some false => putK o.dst undefT e fun e => opsK P call ops rest e s k
    | none => none := rfl
theorem loopK_zero {ρ : Type} {f : RunK ρ} {e : Env} {s : St} {k : Ex → Env → St → Option ρ} : loopK f 0 e s k = none := rfl
theorem loopK_succ {ρ : Type} {f : RunK ρ} {n : Nat} {e : Env} {s : St} {k : Ex → Env → St → Option ρ} : loopK f (n + 1) e s k = f e s fun x e s => match x with
    | .normal => loopK f n e s k
    | x => k x e s := rfl
theorem wantedT_at {g : G} {a : Act} {e : Env} {ops : Array Oper} {o : Oper} {b : Bool} (hE : ∀ j b d, o.guard = some (j, b) → (ops[j]?).bind (·.dst) = some d → VRel g (a.tmps.getD d undef) (e.at d))
    (h : wantedT ops.toList e o = some b) : Region.wanted o (yielded ops a.tmps) = b := by
  unfold wantedT at h
  unfold Region.wanted
  cases hg : o.guard with
  | none => rw [hg] at h; cases h; rfl
  | some p =>
    obtain ⟨j, want⟩ := p
    rw [hg] at h
    simp only at h ⊢
    split at h
    · rename_i d hd
      have hd' : (ops[j]?).bind (·.dst) = some d := by simpa using hd
      have hat := hE j want d hg hd'
      have hy : yielded ops a.tmps j = match a.tmps[d]? with | some (.bool b) => some b | _ => none := by
        simp only [yielded, hd', Option.bind_some]
        cases a.tmps[d]? with
        | none => rfl
        | some v => cases v <;> rfl
      split at h
      · rename_i b' he
        cases h
        rw [he] at hat
        cases ht : a.tmps[d]? with
        | none =>
          simp only [Array.getD_eq_getD_getElem?, ht, Option.getD_none] at hat
          cases hat
        | some v =>
          simp only [Array.getD_eq_getD_getElem?, ht, Option.getD_some] at hat
          cases hat
          rw [hy, ht]
          show (some b' == some want) = (b' == want)
          cases b' <;> cases want <;> rfl
      · rename_i he
        cases h
        rw [he] at hat
        cases ht : a.tmps[d]? with
        | none => rw [hy, ht]; rfl
        | some v =>
          simp only [Array.getD_eq_getD_getElem?, ht, Option.getD_some] at hat
          cases hat
          rw [hy, ht]
          rfl
      · cases h
    · cases h
theorem wantedT_ok {g : G} {a : Act} {e : Env} (hE : EnvRel g a e) {ops : Array Oper} {o : Oper} {b : Bool} (h : wantedT ops.toList e o = some b) : Region.wanted o (yielded ops a.tmps) = b :=
  wantedT_at (fun _ _ d _ _ => hE.at d) h

/-- Operations one behind the other. -/
def SeqSim (P : Program) (ops : Array Oper) (l : List Oper) (e : Env) (s : St) (e' : Env) (s' : St) : Prop :=
  ∀ (g : G) (w : World) (a : Act), Rel P g w s → EnvRel g a e → ∀ (Q : Exit → Act → World → Prop),
    (∀ a' w' g', g.le g' → Rel P g' w' s' → EnvRel g' a' e' → a'.defers = a.defers → Q .normal a' w') → wpList P ops Q l a w

theorem opsK_ok {ρ : Type} (hN : Named P) {call : CallK ρ} (hC : CallOk P call) (ops : Array Oper) : ∀ (l : List Oper) (e : Env) (s : St) (k : Env → St → Option ρ) (r : ρ), opsK P call ops.toList l e s k = some r →
    ∃ e' s', SeqSim P ops l e s e' s' ∧ k e' s' = some r := by
  intro l
  induction l with
  | nil => intro e s k r h; exact ⟨e, s, fun g w a hR hE Q hQ => hQ a w g (.refl g) hR hE rfl, h⟩
  | cons o l ih =>
    intro e s k r h
    simp only [opsK_cons] at h
    split at h
    · rename_i hw
      obtain ⟨v, s1, h1, _, h2⟩ := opK_ok hN hC h
      rw [putK_eq] at h2
      obtain ⟨e', s', h3, h4⟩ := ih _ _ _ _ h2
      refine ⟨e', s', fun g w a hR hE Q hQ => ?_, h4⟩
      unfold wpList
      rw [wantedT_ok hE hw, if_pos rfl]
      refine .inl (h1 g w a hR (hE.operands o) _ _ fun rv w' g' hle hR' hv => ?_)
      refine h3 g' w' _ hR' ((hE.mono hle).put hv o.dst) Q fun a' w'' g'' hle' hR'' hE'' hd => ?_
      exact hQ a' w'' g'' (hle.trans hle') hR'' hE'' (hd.trans (put_defers _ _ _))
    · rename_i hw
      rw [putK_eq] at h
      obtain ⟨e', s', h3, h4⟩ := ih _ _ _ _ h
      refine ⟨e', s', fun g w a hR hE Q hQ => ?_, h4⟩
      unfold wpList
      rw [wantedT_ok hE hw, if_neg (by simp)]
      refine h3 g w _ hR (hE.put (VRel.undef' g) o.dst) Q fun a' w'' g'' hle' hR'' hE'' hd => ?_
      exact hQ a' w'' g'' hle' hR'' hE'' (hd.trans (put_defers _ _ _))
    · cases h

def exOf : Ex → Exit
  | .normal => .normal
  | .exit id => .exit id
  | .ret => .ret

/-- Code. -/
def CodeSim (P : Program) (c : Code) (e : Env) (s : St) (x : Ex) (e' : Env) (s' : St) : Prop :=
  ∀ (g : G) (w : World) (a : Act), Rel P g w s → EnvRel g a e → ∀ (Q : Exit → Act → World → Prop),
    (∀ a' w' g', g.le g' → Rel P g' w' s' → EnvRel g' a' e' → a'.defers = a.defers → Q (exOf x) a' w') → c.wp P Q a w
def RoundsSim (P : Program) (c : Code) (n : Nat) (e : Env) (s : St) (x : Ex) (e' : Env) (s' : St) : Prop :=
  ∀ (g : G) (w : World) (a : Act), Rel P g w s → EnvRel g a e → ∀ (Q : Exit → Act → World → Prop),
    (∀ a' w' g', g.le g' → Rel P g' w' s' → EnvRel g' a' e' → a'.defers = a.defers → Q (exOf x) a' w') → Code.rounds P c Q n a w

theorem CodeSim.seq {c d : Code} {e e1 e' : Env} {s s1 s' : St} {x : Ex} (h : CodeSim P c e s .normal e1 s1) (h' : CodeSim P d e1 s1 x e' s') : CodeSim P (.seq c d) e s x e' s' := by
  intro g w a hR hE Q hQ
  refine wp_seq (h g w a hR hE _ fun a1 w1 g1 hle hR1 hE1 hd => ?_)
  exact h' g1 w1 a1 hR1 hE1 Q fun a' w' g' hle' hR' hE' hd' => hQ a' w' g' (hle.trans hle') hR' hE' (hd'.trans hd)
theorem CodeSim.seq_out {c d : Code} {e e' : Env} {s s' : St} {x : Ex} (hx : x ≠ .normal) (h : CodeSim P c e s x e' s') : CodeSim P (.seq c d) e s x e' s' := by
  intro g w a hR hE Q hQ
  refine wp_seq (h g w a hR hE _ fun a1 w1 g1 hle hR1 hE1 hd => ?_)
  have := hQ a1 w1 g1 hle hR1 hE1 hd
  cases x with
  | normal => exact absurd rfl hx
  | exit id => exact this
  | ret => exact this

theorem loopK_ok {ρ : Type} {c : Code} {f : Env → St → (Ex → Env → St → Option ρ) → Option ρ} (hf : ∀ e s k r, f e s k = some r → ∃ x e' s', CodeSim P c e s x e' s' ∧ k x e' s' = some r) :
    ∀ (n : Nat) (e : Env) (s : St) (k : Ex → Env → St → Option ρ) (r : ρ), loopK f n e s k = some r → ∃ x e' s', CodeSim P (.loop c) e s x e' s' ∧ k x e' s' = some r := by
  have key : ∀ (n : Nat) (e : Env) (s : St) (k : Ex → Env → St → Option ρ) (r : ρ), loopK f n e s k = some r → ∃ x e' s', RoundsSim P c n e s x e' s' ∧ k x e' s' = some r := by
    intro n
    induction n with
    | zero => intro e s k r h; simp [loopK_zero] at h
    | succ n ih =>
      intro e s k r h
      simp only [loopK_succ] at h
      obtain ⟨x, e1, s1, h1, h2⟩ := hf _ _ _ _ h
      cases x with
      | normal =>
        obtain ⟨x, e', s', h3, h4⟩ := ih _ _ _ _ h2
        refine ⟨x, e', s', fun g w a hR hE Q hQ => ?_, h4⟩
        rw [rounds_succ]
        refine h1 g w a hR hE _ fun a1 w1 g1 hle hR1 hE1 hd => ?_
        exact h3 g1 w1 a1 hR1 hE1 Q fun a' w' g' hle' hR' hE' hd' => hQ a' w' g' (hle.trans hle') hR' hE' (hd'.trans hd)
      | exit id =>
        refine ⟨.exit id, e1, s1, fun g w a hR hE Q hQ => ?_, h2⟩
        rw [rounds_succ]
        exact h1 g w a hR hE _ fun a1 w1 g1 hle hR1 hE1 hd => hQ a1 w1 g1 hle hR1 hE1 hd
      | ret =>
        refine ⟨.ret, e1, s1, fun g w a hR hE Q hQ => ?_, h2⟩
        rw [rounds_succ]
        exact h1 g w a hR hE _ fun a1 w1 g1 hle hR1 hE1 hd => hQ a1 w1 g1 hle hR1 hE1 hd
  intro n e s k r h
  obtain ⟨x, e', s', h1, h2⟩ := key n e s k r h
  exact ⟨x, e', s', fun g w a hR hE Q hQ => wp_loop_rounds n (h1 g w a hR hE Q hQ), h2⟩
end
end Go.Proofs.YthnhbejjikgifaaGreatDoor.TV

/-
  TV: a region whose order is drawn, the plain part: what stands in a fixed order, and what is told of each operation.
-/
namespace Go.Proofs.YthnhbejjikgifaaGreatDoor.TV
open Go Go.RowKit
set_option linter.unusedSimpArgs false
set_option linter.unusedVariables false

mutual
theorem TV.beq_sound : ∀ (a b : TV), TV.beq a b = true → a = b
  | .junk, b, h => by cases b <;> simp_all [TV.beq]
  | .nilp, b, h => by cases b <;> simp_all [TV.beq]
  | .nilfn, b, h => by cases b <;> simp_all [TV.beq]
  | .niliface, b, h => by cases b <;> simp_all [TV.beq]
  | .bool _, b, h => by cases b <;> simp_all [TV.beq]
  | .int _ _, b, h => by cases b <;> simp_all [TV.beq]
  | .str _, b, h => by cases b <;> simp_all [TV.beq]
  | .ptr _ _, b, h => by cases b <;> simp_all [TV.beq]
  | .eptr x, b, h => by
    cases b <;> simp [TV.beq] at h
    rw [TV.beqs_sound x _ h]
  | .slice a x t, b, h => by
    cases b <;> simp [TV.beq] at h
    rename_i b y u
    obtain ⟨⟨rfl, h2⟩, h3⟩ := h
    rw [TV.beqs_sound x _ h2]
    cases t <;> cases u <;> simp at h3 <;> simp [h3]
  | .osl _ _ _ _, b, h => by cases b <;> simp_all [TV.beq]
  | .gsl _ _, b, h => by cases b <;> simp_all [TV.beq]
  | .map _, b, h => by cases b <;> simp_all [TV.beq]
  | .fn f x y, b, h => by
    cases b <;> simp [TV.beq] at h
    obtain ⟨⟨rfl, h2⟩, h3⟩ := h
    rw [TV.beqs_sound x _ h2, TV.beqs_sound y _ h3]
  | .iface t x, b, h => by
    cases b <;> simp [TV.beq] at h
    obtain ⟨rfl, h2⟩ := h
    rw [TV.beq_sound x _ h2]
  | .agg x, b, h => by
    cases b <;> simp [TV.beq] at h
    rw [TV.beqs_sound x _ h]
  | .tup x, b, h => by
    cases b <;> simp [TV.beq] at h
    rw [TV.beqs_sound x _ h]
theorem TV.beqs_sound : ∀ (a b : List TV), TV.beqs a b = true → a = b
  | [], [], _ => rfl
  | [], _ :: _, h => by simp [TV.beqs] at h
  | _ :: _, [], h => by simp [TV.beqs] at h
  | x :: l, y :: m, h => by
    simp [TV.beqs] at h
    rw [TV.beq_sound x y h.1, TV.beqs_sound l m h.2]
end

/-! ### Who stands ahead of whom -/
theorem directs_mem {o : Oper} {d : Nat} : d ∈ directs o ↔ ∃ e ∈ o.after, Region.binds .any e = true ∧ e.on = d := by
  unfold directs
  simp only [List.mem_map, List.mem_filter, Array.mem_toList_iff]
  constructor
  · rintro ⟨e, ⟨h1, h2⟩, h3⟩; exact ⟨e, h1, h2, h3⟩
  · rintro ⟨e, h1, h2, h3⟩; exact ⟨e, ⟨h1, h2⟩, h3⟩

theorem foldl_bit {acc : List Nat} {i : Nat} : ∀ (ds : List Nat) (b : Nat), (ds.foldl (fun b j => b ||| 2 ^ j ||| acc.getD j 0) b).testBit i = true →
    b.testBit i = true ∨ ∃ d ∈ ds, i = d ∨ (acc.getD d 0).testBit i = true := by
  intro ds
  induction ds with
  | nil => intro b h; exact .inl h
  | cons d ds ih =>
    intro b h
    rw [List.foldl_cons] at h
    rcases ih _ h with h | ⟨d', hd, h⟩
    · simp only [Nat.testBit_or, Bool.or_eq_true, Nat.testBit_two_pow, decide_eq_true_eq] at h
      rcases h with (h | h) | h
      · exact .inl h
      · exact .inr ⟨d, by simp, .inl h.symm⟩
      · exact .inr ⟨d, by simp, .inr h⟩
    · exact .inr ⟨d', by simp [hd], h⟩

theorem bitsGo_at : ∀ (l : List Oper) (acc : List Nat), (∀ m, m < acc.length → (bitsGo l acc).getD m 0 = acc.getD m 0) ∧
    ∀ j o, l[j]? = some o → ∀ i, ((bitsGo l acc).getD (acc.length + j) 0).testBit i = true → ∃ d ∈ directs o, i = d ∨ (d < acc.length + j ∧ ((bitsGo l acc).getD d 0).testBit i = true) := by
  intro l
  induction l with
  | nil => intro acc; exact ⟨fun _ _ => rfl, fun j o h => by simp at h⟩
  | cons o l ih =>
    intro acc
    simp only [bitsGo, forceNat_eq]
    obtain ⟨h1, h2⟩ := ih (acc ++ [(directs o).foldl (fun b j => b ||| 2 ^ j ||| acc.getD j 0) 0])
    simp only [List.length_append, List.length_cons, List.length_nil, Nat.zero_add] at h1 h2
    refine ⟨fun m hm => ?_, fun j o' ho i hi => ?_⟩
    · rw [h1 m (by omega)]
      simp [List.getD, List.getElem?_append_left hm]
    · cases j with
      | zero =>
        cases ho
        rw [Nat.add_zero] at hi ⊢
        rw [h1 acc.length (by omega)] at hi
        simp only [List.getD, List.getElem?_append_right (Nat.le_refl _), Nat.sub_self, List.getElem?_cons_zero, Option.getD_some] at hi
        rcases foldl_bit _ _ hi with h | ⟨d, hd, h⟩
        · simp at h
        · refine ⟨d, hd, h.imp id fun h => ?_⟩
          have hlt : d < acc.length := by
            rcases Nat.lt_or_ge d acc.length with h' | h'
            · exact h'
            · simp [List.getElem?_eq_none h'] at h
          refine ⟨hlt, ?_⟩
          rw [h1 d (by omega)]
          simpa [List.getD, List.getElem?_append_left hlt] using h
      | succ j =>
        have := h2 j o' (by simpa using ho) i (by rw [show acc.length + 1 + j = acc.length + (j + 1) by omega]; exact hi)
        rw [show acc.length + 1 + j = acc.length + (j + 1) by omega] at this
        exact this

theorem bits_at {ops : List Oper} {j : Nat} {o : Oper} (ho : ops[j]? = some o) {i : Nat} (h : ((bits ops).getD j 0).testBit i = true) :
    ∃ d ∈ directs o, i = d ∨ (d < j ∧ ((bits ops).getD d 0).testBit i = true) := by
  have := (bitsGo_at ops []).2 j o ho i (by simpa [bits] using h)
  simpa [bits] using this

/-- What is listed is closed: whom one waits for is listed too. -/
def Closed (ops : List Oper) (L : Nat → Bool) : Prop := ∀ j o, ops[j]? = some o → L j = true → ∀ d ∈ directs o, L d = true

theorem Closed.tie {ops : List Oper} {L : Nat → Bool} (hc : Closed ops L) : ∀ (j : Nat) (o : Oper), ops[j]? = some o → (∀ d ∈ directs o, L d = true) → ∀ i, ((bits ops).getD j 0).testBit i = true → L i = true := by
  intro j
  induction j using Nat.strongRecOn with
  | _ j ih =>
    intro o ho hd i hi
    obtain ⟨d, hdm, rfl | ⟨hlt, hb⟩⟩ := bits_at ho hi
    · exact hd _ hdm
    · have hlen : j < ops.length := (List.getElem?_eq_some_iff.1 ho).1
      have hod := List.getElem?_eq_getElem (Nat.lt_trans hlt hlen)
      exact ih d hlt _ hod (hc d _ hod (hd d hdm)) i hb

/-- i is next: not listed, whom it waits for is. Then of two that are tied, the earlier is listed and the later is not. -/
theorem Closed.split {ops : List Oper} {L : Nat → Bool} (hc : Closed ops L) {i j : Nat} {o oj : Oper} (ho : ops[i]? = some o) (hoj : ops[j]? = some oj) (hL : L i = false) (hd : ∀ d ∈ directs o, L d = true)
    (ht : tied (bits ops) j i = true) (hne : j ≠ i) : L j = decide (j < i) := by
  unfold tied at ht
  split at ht
  · rename_i hlt
    rw [hc.tie i o ho hd j ht]
    simp [hlt]
  · rename_i hge
    cases hLj : L j with
    | false => simp [hge]
    | true =>
      have := hc.tie j oj hoj (hc j oj hoj hLj) i ht
      rw [hL] at this
      cases this

/-! ### The names -/
/-- The names, when of the items those are made that M names. -/
def envM (M : Nat → Bool) : Nat → List DItem → Env → Env
  | _, [], e => e
  | j, it :: l, e => envM M (j + 1) l (if M j then putE it.o.dst it.v e else e)
/-- One name. -/
def atM (M : Nat → Bool) (t : Tmp) : Nat → List DItem → TV → TV
  | _, [], v => v
  | j, it :: l, v => atM M t (j + 1) l (if M j && it.o.dst == some t then it.v else v)

theorem putE_length (d : Option Tmp) (v : TV) (e : Env) : (putE d v e).length = e.length := by cases d <;> simp [putE]
theorem putE_at {d : Option Tmp} {v : TV} {e : Env} {t : Tmp} (ht : t < e.length) : (putE d v e).at t = if d == some t then v else e.at t := by
  cases d with
  | none => simp [putE]
  | some d =>
    by_cases h : d = t
    · subst h
      simp [putE, Env.at_eq, List.getD, ht]
    · have h' : (some d == some t) = false := by simpa using h
      simp [putE, Env.at_eq, List.getD, List.getElem?_set_ne h, h']
theorem envM_length (M : Nat → Bool) : ∀ (l : List DItem) (j : Nat) (e : Env), (envM M j l e).length = e.length
  | [], _, _ => rfl
  | it :: l, j, e => by
    simp only [envM]
    rw [envM_length]
    split <;> simp [putE_length]
theorem envM_at (M : Nat → Bool) {t : Tmp} : ∀ (l : List DItem) (j : Nat) (e : Env), t < e.length → (envM M j l e).at t = atM M t j l (e.at t)
  | [], _, _, _ => rfl
  | it :: l, j, e, ht => by
    simp only [envM, atM]
    rw [envM_at M l (j + 1) _ (by split <;> simp [putE_length, ht])]
    congr 1
    cases hM : M j with
    | false => simp
    | true => simp [putE_at ht]
theorem envM_none {M : Nat → Bool} : ∀ (l : List DItem) (j : Nat) (e : Env), (∀ k, j ≤ k → M k = false) → envM M j l e = e
  | [], _, _, _ => rfl
  | it :: l, j, e, h => by
    simp only [envM]
    rw [h j (Nat.le_refl _), if_neg (by simp), envM_none l (j + 1) e fun k hk => h k (by omega)]
theorem atM_congr {M M' : Nat → Bool} {t : Tmp} : ∀ (l : List DItem) (j : Nat) (v : TV), (∀ k it, l[k]? = some it → it.o.dst = some t → M (j + k) = M' (j + k)) → atM M t j l v = atM M' t j l v
  | [], _, _, _ => rfl
  | it :: l, j, v, h => by
    simp only [atM]
    have h0 : (M j && it.o.dst == some t) = (M' j && it.o.dst == some t) := by
      by_cases hd : it.o.dst = some t
      · have := h 0 it rfl hd
        rw [Nat.add_zero] at this
        rw [this]
      · have : (it.o.dst == some t) = false := by simpa using hd
        simp [this]
    rw [h0]
    exact atM_congr l (j + 1) _ fun k it hk hd => by
      have := h (k + 1) it (by simpa using hk) hd
      rw [show j + 1 + k = j + (k + 1) by omega]
      exact this
theorem atM_none {M : Nat → Bool} {t : Tmp} : ∀ (l : List DItem) (j : Nat) (v : TV), (∀ k it, l[k]? = some it → it.o.dst = some t → M (j + k) = false) → atM M t j l v = v
  | [], _, _, _ => rfl
  | it :: l, j, v, h => by
    simp only [atM]
    have h0 : (M j && it.o.dst == some t) = false := by
      by_cases hd : it.o.dst = some t
      · have := h 0 it rfl hd
        rw [Nat.add_zero] at this
        rw [this]; rfl
      · have : (it.o.dst == some t) = false := by simpa using hd
        simp [this]
    rw [h0, if_neg (by simp)]
    exact atM_none l (j + 1) _ fun k it hk hd => by
      have := h (k + 1) it (by simpa using hk) hd
      rw [show j + 1 + k = j + (k + 1) by omega]
      exact this
/-- The last of those that write it. -/
theorem atM_last {M : Nat → Bool} {t : Tmp} : ∀ (l : List DItem) (j : Nat) (v : TV) (i : Nat) (it : DItem), l[i]? = some it → it.o.dst = some t → M (j + i) = true →
    (∀ k it, l[k]? = some it → i < k → it.o.dst = some t → M (j + k) = false) → atM M t j l v = it.v
  | [], _, _, _, _, h, _, _, _ => by simp at h
  | it0 :: l, j, v, 0, it, h, hd, hM, hl => by
    cases h
    simp only [atM]
    rw [Nat.add_zero] at hM
    rw [hM, hd]
    simp only [Bool.true_and, beq_self_eq_true, if_true]
    exact atM_none l (j + 1) _ fun k it hk hd => by
      have := hl (k + 1) it (by simpa using hk) (by omega) hd
      rw [show j + 1 + k = j + (k + 1) by omega]
      exact this
  | it0 :: l, j, v, i + 1, it, h, hd, hM, hl => by
    simp only [atM]
    exact atM_last l (j + 1) _ i it (by simpa using h) hd (by rw [show j + 1 + i = j + (i + 1) by omega]; exact hM) fun k it hk hik hd => by
      have := hl (k + 1) it (by simpa using hk) (by omega) hd
      rw [show j + 1 + k = j + (k + 1) by omega]
      exact this

/-! ### The changes -/
def effs : Nat → List Oper → List Nat
  | _, [] => []
  | j, o :: l => if isRead o then effs (j + 1) l else j :: effs (j + 1) l
theorem effs_eq : ∀ (l : List Oper) (j : Nat), (l.zipIdx j).filterMap (fun p => if isRead p.1 then none else some p.2) = effs j l
  | [], _ => rfl
  | o :: l, j => by
    rw [List.zipIdx_cons, List.filterMap_cons, effs]
    rw [effs_eq l (j + 1)]
    split <;> rename_i h <;> split at h <;> simp_all
theorem effs_mem : ∀ (l : List Oper) (j i : Nat), i ∈ effs j l → j ≤ i ∧ ∃ o, l[i - j]? = some o ∧ isRead o = false
  | [], _, _, h => by simp [effs] at h
  | o :: l, j, i, h => by
    have tail : i ∈ effs (j + 1) l → j ≤ i ∧ ∃ o', (o :: l)[i - j]? = some o' ∧ isRead o' = false := fun h => by
      obtain ⟨h1, o', h2, h3⟩ := effs_mem l (j + 1) i h
      refine ⟨by omega, o', ?_, h3⟩
      rw [show i - j = (i - (j + 1)) + 1 by omega]
      exact h2
    simp only [effs] at h
    split at h
    · exact tail h
    · rename_i hr
      rcases List.mem_cons.1 h with rfl | h
      · exact ⟨Nat.le_refl _, o, by simp, by simpa using hr⟩
      · exact tail h
theorem effs_of : ∀ (l : List Oper) (j i : Nat) (o : Oper), l[i]? = some o → isRead o = false → j + i ∈ effs j l
  | [], _, _, _, h, _ => by simp at h
  | o0 :: l, j, 0, o, h, hr => by cases h; simp [effs, hr]
  | o0 :: l, j, i + 1, o, h, hr => by
    have := effs_of l (j + 1) i o (by simpa using h) hr
    rw [show j + 1 + i = j + (i + 1) by omega] at this
    simp only [effs]
    split
    · exact this
    · exact List.mem_cons_of_mem _ this

theorem countB_congr {l : List Nat} {p q : Nat → Bool} (h : ∀ i ∈ l, p i = q i) : countB l p = countB l q := by
  unfold countB
  rw [List.filter_congr h]
theorem countB_le {l : List Nat} {p q : Nat → Bool} (h : ∀ i ∈ l, p i = true → q i = true) : countB l p ≤ countB l q := by
  unfold countB
  induction l with
  | nil => simp
  | cons a l ih =>
    have ih := ih fun i hi => h i (by simp [hi])
    simp only [List.filter_cons]
    have := h a (by simp)
    cases hp : p a <;> cases hq : q a <;> simp_all
    omega
theorem countB_effs_none {l : List Oper} {j m : Nat} (h : m ≤ j) : countB (effs j l) (fun k => decide (k < m)) = 0 := by
  unfold countB
  rw [List.length_eq_zero_iff, List.filter_eq_nil_iff]
  intro k hk
  have := (effs_mem l j k hk).1
  simp; omega

section
variable {P : Program}

/-- What is told of the operations from j on. -/
structure Told (P : Program) (ops : List Oper) (l : List Oper) (j : Nat) (e : Env) (s : St) (items : List DItem) (sts : List St) (e' : Env) (s' : St) : Prop where
  len : items.length = l.length
  env : e' = envM (fun _ => true) j items e
  last : (s :: sts)[countB (effs j l) (fun _ => true)]? = some s'
  stsLen : sts.length = (effs j l).length
  each : ∀ i o, l[i]? = some o → ∃ it s1 s2, items[i]? = some it ∧ it.o = o ∧ it.e = envM (fun k => decide (k < j + i)) j items e ∧
    (s :: sts)[countB (effs j l) (fun k => decide (k < j + i))]? = some s1 ∧ (s :: sts)[countB (effs j l) (fun k => decide (k < j + i + 1))]? = some s2 ∧
    wantedT ops it.e o = some it.w ∧ (it.w = false → it.v = undefT ∧ s2 = s1) ∧ (it.w = true → isRead o = true → readT P s1 (ev it.e) o = some it.v) ∧
    (it.w = true → isRead o = false → OpSim P o it.e s1 it.v s2)

theorem Told.nil (ops : List Oper) (j : Nat) (e : Env) (s : St) : Told P ops [] j e s [] [] e s :=
  ⟨rfl, rfl, rfl, rfl, fun i o h => by simp at h⟩

theorem Told.cons {ops : List Oper} {o : Oper} {l : List Oper} {j : Nat} {e e' : Env} {s s1 s' : St} {items : List DItem} {sts : List St} {v : TV} {b : Bool}
    (hw : wantedT ops e o = some b) (hb : b = false → v = undefT ∧ s1 = s) (hr : b = true → isRead o = true → readT P s (ev e) o = some v) (hs : isRead o = true → s1 = s)
    (hx : b = true → isRead o = false → OpSim P o e s v s1)
    (t : Told P ops l (j + 1) (putE o.dst v e) s1 items sts e' s') : Told P ops (o :: l) j e s (⟨o, e, v, b⟩ :: items) (if isRead o then sts else s1 :: sts) e' s' := by
  have hstage : ∀ p : Nat → Bool, p j = true → (s :: (if isRead o then sts else s1 :: sts))[countB (effs j (o :: l)) p]? = (s1 :: sts)[countB (effs (j + 1) l) p]? := fun p hp => by
    cases h : isRead o with
    | true => simp [effs, h, hs h]
    | false => simp [effs, h, countB, hp]
  refine ⟨by simp [t.len], by rw [t.env]; simp [envM], ?_, ?_, fun i o' ho => ?_⟩
  · rw [hstage _ rfl]; exact t.last
  · cases h : isRead o with
    | true => simpa [effs, h] using t.stsLen
    | false => simpa [effs, h] using t.stsLen
  · cases i with
    | zero =>
      cases ho
      refine ⟨⟨o, e, v, b⟩, s, s1, rfl, rfl, ?_, ?_, ?_, hw, hb, hr, hx⟩
      · rw [envM_none _ _ _ fun k hk => by simp; omega]
      · rw [countB_effs_none (by omega)]; rfl
      · rw [hstage _ (by simp), Nat.add_zero, countB_effs_none (Nat.le_refl _)]; rfl
    | succ i =>
      obtain ⟨it, s2, s3, h1, h2, h3, h4, h5, h6⟩ := t.each i o' (by simpa using ho)
      rw [show j + 1 + i = j + (i + 1) by omega] at h3 h4 h5
      refine ⟨it, s2, s3, by simpa using h1, h2, ?_, ?_, ?_, h6⟩
      · rw [h3]
        simp only [envM]
        rw [if_pos (by simp)]
      · rw [hstage _ (by simp)]; exact h4
      · rw [hstage _ (by simp; omega)]; exact h5

theorem drawK_nil {ρ : Type} {call : CallK ρ} {ops : List Oper} {e : Env} {s : St} {acc : List DItem} {sts : List St} {k : Env → St → Option ρ} : drawK P call ops [] e s acc sts k = if drawOk P ops acc.reverse sts.reverse then k e s else none := rfl
theorem drawK_cons {ρ : Type} {call : CallK ρ} {ops : List Oper} {o : Oper} {rest : List Oper} {e : Env} {s : St} {acc : List DItem} {sts : List St} {k : Env → St → Option ρ} : drawK P call ops (o :: rest) e s acc sts k = match wantedT ops e o with
    | some true => opK P call o e s fun v s => putK o.dst v e fun e' => drawK P call ops rest e' s (⟨o, e, v, true⟩ :: acc) (if isRead o then sts else s :: sts) k
    | some false => putK o.dst undefT e fun e' => drawK P call ops rest e' s (⟨o, e, undefT, false⟩ :: acc) (if isRead o then sts else s :: sts) k
    | none => none := rfl
theorem drawK_told {ρ : Type} (hN : Named P) {call : CallK ρ} (hC : CallOk P call) (ops : List Oper) : ∀ (l : List Oper) (j : Nat) (e : Env) (s : St) (acc : List DItem) (sts0 : List St) (k : Env → St → Option ρ) (r : ρ),
    drawK P call ops l e s acc sts0 k = some r →
    ∃ items sts e' s', Told P ops l j e s items sts e' s' ∧ drawOk P ops (acc.reverse ++ items) (sts0.reverse ++ sts) = true ∧ k e' s' = some r := by
  intro l
  induction l with
  | nil =>
    intro j e s acc sts0 k r h
    simp only [drawK_nil] at h
    split at h
    · rename_i hd
      exact ⟨[], [], e, s, .nil ops j e s, by simpa using hd, h⟩
    · cases h
  | cons o l ih =>
    intro j e s acc sts0 k r h
    simp only [drawK_cons] at h
    split at h
    · rename_i hw
      obtain ⟨v, s1, h1, h2, h3⟩ := opK_ok hN hC h
      rw [putK_eq] at h3
      obtain ⟨items, sts, e', s', t, hd, hk⟩ := ih (j + 1) _ _ _ _ _ _ h3
      refine ⟨⟨o, e, v, true⟩ :: items, _, e', s', .cons hw (fun h => by cases h) (fun _ h => (h2 h).1) (fun h => (h2 h).2) (fun _ _ => h1) t, ?_, hk⟩
      cases hr : isRead o <;> simpa [hr] using hd
    · rename_i hw
      rw [putK_eq] at h
      obtain ⟨items, sts, e', s', t, hd, hk⟩ := ih (j + 1) _ _ _ _ _ _ h
      refine ⟨⟨o, e, undefT, false⟩ :: items, _, e', s', .cons hw (fun _ => ⟨rfl, rfl⟩) (fun h => by cases h) (fun _ => rfl) (fun h => by cases h) t, ?_, hk⟩
      cases hr : isRead o <;> simpa [hr] using hd
    · cases h
end
end Go.Proofs.YthnhbejjikgifaaGreatDoor.TV

/-
  TV: a region whose order is drawn: whatever the order, what the text's order tells comes out.
-/
namespace Go.Proofs.YthnhbejjikgifaaGreatDoor.TV
open Go Go.RowKit
set_option linter.unusedSimpArgs false
set_option linter.unusedVariables false

section
variable {P : Program}

structure RegionFacts (ops : List Oper) : Prop where
  below : ∀ i o, ops[i]? = some o → ∀ d ∈ directs o, d < i
  names : ∀ i o t j oj, ops[i]? = some o → t ∈ namesOf ops o → ops[j]? = some oj → oj.dst = some t → j = i ∨ tied (bits ops) j i = true
  effects : ∀ i o j oj, ops[i]? = some o → ops[j]? = some oj → isRead o = false → isRead oj = false → i = j ∨ tied (bits ops) i j = true

theorem mem_zipIdx {ops : List Oper} {i : Nat} {o : Oper} (h : ops[i]? = some o) : (o, i) ∈ ops.zipIdx := by
  rw [List.mem_zipIdx_iff_getElem?]
  exact h

theorem RegionFacts.of {ops : List Oper} (h : regionOk ops = true) : RegionFacts ops := by
  unfold regionOk at h
  simp only [Bool.and_eq_true, List.all_eq_true] at h
  obtain ⟨⟨h1, h2⟩, h3⟩ := h
  refine ⟨fun i o ho d hd => ?_, fun i o t j oj ho ht hoj hd => ?_, fun i o j oj ho hoj hr hr' => ?_⟩
  · simpa using h1 (o, i) (mem_zipIdx ho) d hd
  · have := h2 (o, i) (mem_zipIdx ho) t ht (t, j) (List.mem_filterMap.2 ⟨(oj, j), mem_zipIdx hoj, by simp [hd]⟩)
    simpa using this
  · have := h3 i (List.mem_filterMap.2 ⟨(o, i), mem_zipIdx ho, by simp [hr]⟩) j (List.mem_filterMap.2 ⟨(oj, j), mem_zipIdx hoj, by simp [hr']⟩)
    simpa using this

theorem names_operand {ops : List Oper} {o : Oper} {t : Tmp} (h : Operand.tmp t ∈ o.op.operands) : t ∈ namesOf ops o := by
  unfold namesOf
  simp only [List.mem_append, List.mem_filterMap, Array.mem_toList_iff]
  exact .inl (.inr ⟨.tmp t, h, rfl⟩)
theorem names_dst {ops : List Oper} {o : Oper} {t : Tmp} (h : o.dst = some t) : t ∈ namesOf ops o := by
  unfold namesOf
  simp [h]
theorem names_guard {ops : List Oper} {o : Oper} {j : Nat} {b : Bool} {d : Tmp} (h : o.guard = some (j, b)) (hd : (ops[j]?).bind (·.dst) = some d) : d ∈ namesOf ops o := by
  unfold namesOf
  simp only [List.mem_append, h, Option.mem_toList]
  exact .inr (by simpa using hd)

/-- What the operation does at the stage at which it stands, whatever is listed. -/
theorem Told.step {ops : List Oper} {e e' : Env} {s s' : St} {items : List DItem} {sts : List St} (hR : RegionFacts ops) (t : Told P ops ops 0 e s items sts e' s') (hd : drawOk P ops items (s :: sts) = true)
    {L : Nat → Bool} (hc : Closed ops L) {i : Nat} {o : Oper} (ho : ops[i]? = some o) (hL : L i = false) (hr : ∀ d ∈ directs o, L d = true) {sk : St} (hsk : (s :: sts)[countB (effs 0 ops) L]? = some sk) :
    ∃ it sk', items[i]? = some it ∧ it.o = o ∧ wantedT ops it.e o = some it.w ∧ it.e = envM (fun k => decide (k < i)) 0 items e ∧
      (s :: sts)[countB (effs 0 ops) (fun k => k == i || L k)]? = some sk' ∧ (it.w = true → OpSim P o it.e sk it.v sk') ∧ (it.w = false → it.v = undefT ∧ sk' = sk) := by
  obtain ⟨it, s1, s2, hit, hio, he, hs1, hs2, hw, hidle, hread, heff⟩ := t.each i o ho
  rw [Nat.zero_add] at he hs1 hs2
  cases hr' : isRead o with
  | false =>
    have other : ∀ j ∈ effs 0 ops, j ≠ i → L j = decide (j < i) := fun j hj hne => by
      obtain ⟨_, oj, hoj, hrj⟩ := effs_mem _ _ _ hj
      rw [Nat.sub_zero] at hoj
      rcases hR.effects j oj i o hoj ho hrj hr' with h | h
      · exact absurd h hne
      · exact hc.split ho hoj hL hr h hne
    have h1 : countB (effs 0 ops) L = countB (effs 0 ops) (fun k => decide (k < i)) := countB_congr fun j hj => by
      by_cases hne : j = i
      · subst hne; simp [hL]
      · exact other j hj hne
    have h2 : countB (effs 0 ops) (fun k => k == i || L k) = countB (effs 0 ops) (fun k => decide (k < i + 1)) := countB_congr fun j hj => by
      by_cases hne : j = i
      · subst hne; simp
      · rw [other j hj hne]
        simp only [beq_eq_false_iff_ne.2 hne, Bool.false_or, decide_eq_decide]
        omega
    rw [h1, hs1] at hsk
    cases hsk
    rw [h2]
    exact ⟨it, s2, hit, hio, hw, he, hs2, fun h => heff h hr', fun h => hidle h⟩
  | true =>
    have hni : ∀ j ∈ effs 0 ops, j ≠ i := fun j hj hji => by
      subst hji
      obtain ⟨_, oj, hoj, hrj⟩ := effs_mem _ _ _ hj
      rw [Nat.sub_zero, ho] at hoj
      cases hoj
      rw [hr'] at hrj
      cases hrj
    have h2 : countB (effs 0 ops) (fun k => k == i || L k) = countB (effs 0 ops) L := countB_congr fun j hj => by
      simp only [beq_eq_false_iff_ne.2 (hni j hj), Bool.false_or]
    rw [h2]
    refine ⟨it, sk, hit, hio, hw, he, hsk, fun hwt => .read ?_, fun h => ⟨(hidle h).1, rfl⟩⟩
    have hv := hread hwt hr'
    cases hsts : sts with
    | nil =>
      rw [hsts] at hsk hs1
      have h0 : countB (effs 0 ops) L = 0 := by
        rcases Nat.eq_zero_or_pos (countB (effs 0 ops) L) with h | h
        · exact h
        · rw [List.getElem?_eq_none (by simp; omega)] at hsk; cases hsk
      have h0' : countB (effs 0 ops) (fun k => decide (k < i)) = 0 := by
        rcases Nat.eq_zero_or_pos (countB (effs 0 ops) (fun k => decide (k < i))) with h | h
        · exact h
        · rw [List.getElem?_eq_none (by simp; omega)] at hs1; cases hs1
      rw [h0] at hsk
      rw [h0'] at hs1
      cases hsk
      cases hs1
      exact hv
    | cons s3 sts3 =>
      rw [hsts] at hd hsk
      unfold drawOk at hd
      simp only [List.all_eq_true] at hd
      have h3 := hd (it, i) (List.mem_zipIdx_iff_getElem?.2 hit)
      simp only [hio, hr', hwt, Bool.and_self, Bool.not_true, Bool.false_or, List.all_eq_true] at h3
      have h4 := h3 (sk, countB (effs 0 ops) L) (List.mem_zipIdx_iff_getElem?.2 hsk)
      rw [effs_eq] at h4
      have hlo : countB (effs 0 ops) (fun e => ((bits ops).getD i 0).testBit e) ≤ countB (effs 0 ops) L := countB_le fun j hj hb => hc.tie i o ho hr j hb
      have hhi : countB (effs 0 ops) L ≤ countB (effs 0 ops) (fun e => !(((bits ops).getD e 0).testBit i)) := countB_le fun j hj hLj => by
        obtain ⟨_, oj, hoj, _⟩ := effs_mem _ _ _ hj
        rw [Nat.sub_zero] at hoj
        cases hb : ((bits ops).getD j 0).testBit i with
        | false => rfl
        | true =>
          have := hc.tie j oj hoj (hc j oj hoj hLj) i hb
          rw [hL] at this
          cases this
      simp only [Bool.or_eq_true, decide_eq_true_eq] at h4
      rcases h4 with (h4 | h4) | h4
      · omega
      · omega
      · split at h4
        · rename_i v' hv'
          rw [hv', TV.beq_sound _ _ h4]
        · cases h4

/-- The names that the operation looks at stand as they stand in the text's order. -/
theorem Told.names {ops : List Oper} {e e' : Env} {s s' : St} {items : List DItem} {sts : List St} (hR : RegionFacts ops) (t : Told P ops ops 0 e s items sts e' s')
    {L : Nat → Bool} (hc : Closed ops L) {i : Nat} {o : Oper} (ho : ops[i]? = some o) (hL : L i = false) (hr : ∀ d ∈ directs o, L d = true) {x : Tmp} (hx : x ∈ namesOf ops o) (v : TV) :
    atM L x 0 items v = atM (fun k => decide (k < i)) x 0 items v := by
  refine atM_congr _ _ _ fun k it hk hdk => ?_
  rw [Nat.zero_add]
  have hlt : k < ops.length := by rw [← t.len]; exact (List.getElem?_eq_some_iff.1 hk).1
  obtain ⟨it', _, _, hit', hio, _⟩ := t.each k _ (List.getElem?_eq_getElem hlt)
  rw [hk] at hit'
  cases hit'
  have hok : ops[k]? = some it.o := by rw [hio]; exact List.getElem?_eq_getElem hlt
  by_cases hne : k = i
  · subst hne; simp [hL]
  · rcases hR.names i o x k it.o ho hx hok hdk with h | h
    · exact absurd h hne
    · exact hc.split ho hok hL hr h hne

theorem count_set_true : ∀ (l : List Bool) (i : Nat), l[i]? = some false → (l.set i true).count false + 1 = l.count false
  | [], _, h => by simp at h
  | b :: l, 0, h => by
    have : b = false := by simpa using h
    subst this
    simp
  | b :: l, i + 1, h => by
    have := count_set_true l i (by simpa using h)
    simp only [List.set_cons_succ, List.count_cons]
    omega

structure DInv (P : Program) (ops : List Oper) (g0 : G) (a0 : Act) (e : Env) (s : St) (items : List DItem) (sts : List St) (listed : Array Bool) (a : Act) (w : World) : Prop where
  size : listed.size = ops.length
  closed : Closed ops (fun i => listed.getD i false)
  len : a.tmps.size = e.length
  defers : a.defers = a0.defers
  rel : ∃ g sk, g0.le g ∧ Rel P g w sk ∧ (s :: sts)[countB (effs 0 ops) (fun i => listed.getD i false)]? = some sk ∧ ∀ t, t < e.length → VRel g (a.tmps.getD t undef) (atM (fun i => listed.getD i false) t 0 items (e.at t))

theorem put_at {a : Act} {d : Option Tmp} {v : Value} {t : Tmp} (ht : t < a.tmps.size) : (a.put d v).tmps.getD t undef = if d == some t then v else a.tmps.getD t undef := by
  cases d with
  | none => simp [Act.put]
  | some d =>
    by_cases h : d = t
    · subst h
      simp [Act.put, ht]
    · have h' : (some d == some t) = false := by simpa using h
      simp [Act.put, Array.getElem?_setIfInBounds_ne h, h']
theorem put_size (a : Act) (d : Option Tmp) (v : Value) : (a.put d v).tmps.size = a.tmps.size := by cases d <;> simp [Act.put]

theorem set_listed {listed : Array Bool} {i : Nat} (hi : i < listed.size) : (fun k => (listed.setIfInBounds i true).getD k false) = (fun k => k == i || listed.getD k false) := by
  funext k
  by_cases h : i = k
  · subst h; simp [hi]
  · have h' : (k == i) = false := by simpa using fun e => h e.symm
    rw [getD_set_ne false h, h']
    simp

theorem DInv.run {ops : Array Oper} {g0 : G} {a0 : Act} {e e' : Env} {s s' : St} {items : List DItem} {sts : List St} (hR : RegionFacts ops.toList) (t : Told P ops.toList ops.toList 0 e s items sts e' s') (hd : drawOk P ops.toList items (s :: sts) = true)
    {Q : Exit → Act → World → Prop} (hQ : ∀ a' w' g', g0.le g' → Rel P g' w' s' → EnvRel g' a' e' → a'.defers = a0.defers → Q .normal a' w') :
    ∀ (fuel : Nat) (listed : Array Bool) (a : Act) (w : World), listed.toList.count false ≤ fuel → DInv P ops.toList g0 a0 e s items sts listed a w → wpAny P .any ops Q fuel listed a w := by
  have done : ∀ (listed : Array Bool) (a : Act) (w : World), DInv P ops.toList g0 a0 e s items sts listed a w → (∀ i, i < ops.toList.length → listed.getD i false = true) → Q .normal a w := by
    intro listed a w inv hall
    obtain ⟨g, sk, hle, hrel, hsk, hv⟩ := inv.rel
    have hcnt : countB (effs 0 ops.toList) (fun i => listed.getD i false) = countB (effs 0 ops.toList) (fun _ => true) := countB_congr fun j hj => by
      obtain ⟨_, oj, hoj, _⟩ := effs_mem _ _ _ hj
      rw [Nat.sub_zero] at hoj
      exact hall j (List.getElem?_eq_some_iff.1 hoj).1
    rw [hcnt, t.last] at hsk
    cases hsk
    refine hQ a w g hle hrel ?_ inv.defers
    have hlen : e'.length = e.length := by rw [t.env, envM_length]
    refine VRels.of (by simp [inv.len, hlen]) fun i v x hv' hx => ?_
    have hi : i < e.length := by rw [← hlen]; exact (List.getElem?_eq_some_iff.1 hx).1
    have h1 := hv i hi
    rw [atM_congr (M' := fun _ => true) items 0 (e.at i) fun k it hk _ => by
      rw [Nat.zero_add]
      exact hall k (by rw [← t.len]; exact (List.getElem?_eq_some_iff.1 hk).1)] at h1
    rw [← envM_at _ _ _ _ hi, ← t.env] at h1
    have h2 : e'.at i = x := by simp [Env.at_eq, List.getD, hx]
    have h3 : a.tmps[i]? = some v := by simpa using hv'
    rw [h2, Array.getD_eq_getD_getElem?, h3] at h1
    exact h1
  have noReady : ∀ (listed : Array Bool) (a : Act) (w : World), DInv P ops.toList g0 a0 e s items sts listed a w → Region.ready .any ops listed = [] → ∀ i, i < ops.toList.length → listed.getD i false = true := by
    intro listed a w inv hnil i
    induction i using Nat.strongRecOn with
    | _ i ih =>
      intro hi
      cases hL : listed.getD i false with
      | true => rfl
      | false =>
        exfalso
        have hi' : i < listed.size := by rw [inv.size]; exact hi
        have hmem : i ∈ Region.ready .any ops listed := by
          rw [mem_ready]
          refine ⟨by simp [hi'] at hL ⊢; exact hL, ops[i]'(by simpa using hi), by simp, fun ed hed hb => ?_⟩
          have hlt := hR.below i (ops.toList[i]) (List.getElem?_eq_getElem hi) ed.on (directs_mem.2 ⟨ed, by simpa using hed, hb, rfl⟩)
          exact ih ed.on hlt (Nat.lt_trans hlt hi)
        rw [hnil] at hmem
        cases hmem
  have step : ∀ (listed : Array Bool) (a : Act) (w : World), DInv P ops.toList g0 a0 e s items sts listed a w → ∀ i ∈ Region.ready .any ops listed, ∀ (K : Act → World → Prop),
      (∀ a' w', DInv P ops.toList g0 a0 e s items sts (listed.setIfInBounds i true) a' w' → K a' w') → wpOp P ops Q i K a w := by
    intro listed a w inv i hi K hK
    obtain ⟨hun, o, ho, hall⟩ := mem_ready.1 hi
    have ho' : ops.toList[i]? = some o := by simpa using ho
    have hlt : i < listed.size := by
      rcases Nat.lt_or_ge i listed.size with h | h
      · exact h
      · simp [Array.getElem?_eq_none h] at hun
    have hL : listed.getD i false = false := by simp [hlt] at hun ⊢; exact hun
    have hr : ∀ d ∈ directs o, listed.getD d false = true := fun d hd => by
      obtain ⟨ed, h1, h2, rfl⟩ := directs_mem.1 hd
      exact hall ed h1 h2
    obtain ⟨g, sk, hle, hrel, hsk, hv⟩ := inv.rel
    obtain ⟨it, sk', hit, hio, hw, he, hsk', hyes, hno⟩ := t.step hR hd inv.closed ho' hL hr hsk
    have helen : it.e.length = e.length := by rw [he, envM_length]
    have hname : ∀ x, x ∈ namesOf ops.toList o → VRel g (a.tmps.getD x undef) (it.e.at x) := fun x hx => by
      by_cases hxl : x < e.length
      · have h1 := hv x hxl
        rw [t.names hR inv.closed ho' hL hr hx, ← envM_at _ _ _ _ hxl, ← he] at h1
        exact h1
      · have : it.e.at x = .junk := by simp [Env.at_eq, List.getD, List.getElem?_eq_none (show it.e.length ≤ x by omega)]
        rw [this]
        exact .junk _
    have hoper : OperandsRel g a it.e o := fun x hx => by
      cases x with
      | tmp y => exact hname y (names_operand hx)
      | const v => exact VRel.const g v
      | global n => exact VRel.glob g n
      | func f => exact .fn _ _ _ _ _ .nil .nil
    have hwant : Region.wanted o (yielded ops a.tmps) = it.w := wantedT_at (fun j b d hg hdd => hname d (names_guard hg (by simpa using hdd))) hw
    have next : ∀ rv w' g', g.le g' → Rel P g' w' sk' → VRel g' rv it.v → K (a.put o.dst rv) w' := by
      intro rv w' g' hle' hrel' hrv
      refine hK _ _ ⟨by simp [inv.size], ?_, by rw [put_size]; exact inv.len, (put_defers _ _ _).trans inv.defers, g', sk', hle.trans hle', hrel', ?_, fun x hx => ?_⟩
      · rw [set_listed hlt]
        intro j oj hj hlj d hdj
        by_cases hji : j = i
        · subst hji
          rw [ho'] at hj
          cases hj
          simp [hr d hdj]
        · simp only [beq_eq_false_iff_ne.2 hji, Bool.false_or] at hlj
          simp only [inv.closed j oj hj hlj d hdj, Bool.or_true]
      · rw [set_listed hlt]; exact hsk'
      · rw [set_listed hlt, put_at (by rw [inv.len]; exact hx)]
        by_cases hdx : o.dst = some x
        · rw [atM_last items 0 (e.at x) i it hit (by rw [hio]; exact hdx) (by simp) fun k itk hk hik hdk => ?_]
          · simpa [hdx] using hrv
          · rw [Nat.zero_add]
            have hkl : k < ops.toList.length := by rw [← t.len]; exact (List.getElem?_eq_some_iff.1 hk).1
            obtain ⟨it', _, _, hit', hio', _⟩ := t.each k _ (List.getElem?_eq_getElem hkl)
            rw [hk] at hit'
            cases hit'
            have hok : ops.toList[k]? = some itk.o := by rw [hio']; exact List.getElem?_eq_getElem hkl
            have hne : k ≠ i := by omega
            rcases hR.names i o x k itk.o ho' (names_dst hdx) hok hdk with h | h
            · exact absurd h hne
            · have := inv.closed.split ho' hok hL hr h hne
              rw [this]
              simp [hne]
              omega
        · have hdx' : (o.dst == some x) = false := by simpa using hdx
          rw [hdx', if_neg (by simp)]
          rw [atM_congr (M' := fun k => listed.getD k false) items 0 (e.at x) fun k itk hk hdk => ?_]
          · exact (hv x hx).mono hle'
          · rw [Nat.zero_add]
            have hne : k ≠ i := fun h => by
              subst h
              rw [hit] at hk
              cases hk
              rw [hio] at hdk
              exact hdx hdk
            simp [hne]
    unfold wpOp
    simp only [ho]
    rw [hwant]
    cases hwt : it.w with
    | true =>
      rw [if_pos rfl]
      exact .inl (hyes hwt g w a hrel hoper K Q next)
    | false =>
      rw [if_neg (by simp)]
      obtain ⟨h1, h2⟩ := hno hwt
      refine next undef w g (.refl g) (by rw [h2]; exact hrel) ?_
      rw [h1]
      exact VRel.undef' g
  intro fuel
  induction fuel with
  | zero =>
    intro listed a w hcnt inv
    have hall : ∀ i, i < ops.toList.length → listed.getD i false = true := fun i hi => by
      have hi' : i < listed.size := by rw [inv.size]; exact hi
      cases hb : listed.getD i false with
      | true => rfl
      | false =>
        exfalso
        have : false ∈ listed.toList := by
          rw [List.mem_iff_getElem?]
          exact ⟨i, by simp [hi'] at hb ⊢; exact hb⟩
        have := List.count_pos_iff.2 this
        omega
    refine ⟨?_, done listed a w inv hall⟩
    rw [List.eq_nil_iff_forall_not_mem]
    intro i hi
    obtain ⟨hun, o, ho, _⟩ := mem_ready.1 hi
    have hlt : i < ops.toList.length := by simpa using (Array.getElem?_eq_some_iff.1 ho).1
    have h1 := hall i hlt
    have hi' : i < listed.size := by rw [inv.size]; exact hlt
    simp [hi'] at h1 hun
    rw [hun] at h1
    cases h1
  | succ fuel ih =>
    intro listed a w hcnt inv
    refine ⟨fun h => done listed a w inv (noReady listed a w inv h), fun i hi => step listed a w inv i hi _ fun a' w' inv' => ih _ _ _ ?_ inv'⟩
    obtain ⟨hun, _⟩ := mem_ready.1 hi
    have hlt : i < listed.size := by
      rcases Nat.lt_or_ge i listed.size with h | h
      · exact h
      · simp [Array.getElem?_eq_none h] at hun
    have := count_set_true listed.toList i (by simp [hlt] at hun ⊢; exact hun)
    rw [Array.toList_setIfInBounds]
    omega

theorem getD_replicate_false' (m j : Nat) : (Array.replicate m false).getD j false = false := by
  rcases Nat.lt_or_ge j m with h | h
  · simp [h]
  · simp [h]

theorem CodeSim.draw (hm : P.follows .mixedOrders = true) {id : Nat} {ops : Array Oper} {e e' : Env} {s s' : St} {items : List DItem} {sts : List St} (hr : regionOk ops.toList = true) (t : Told P ops.toList ops.toList 0 e s items sts e' s')
    (hd : drawOk P ops.toList items (s :: sts) = true) : CodeSim P (.region id ops true) e s .normal e' s' := by
  intro g w a hR hE Q hQ
  refine wp_region_any hm (DInv.run (.of hr) t hd hQ ops.size _ a _ (by simp) ⟨by simp, fun j o _ h => ?_, ?_, rfl, g, s, .refl g, hR.drew, ?_, fun x hx => ?_⟩)
  · exact absurd ((getD_replicate_false' ops.size j).symm.trans h) (by simp)
  · have := hE.length; simpa using this
  · rw [show countB (effs 0 ops.toList) (fun i => (Array.replicate ops.size false).getD i false) = 0 by
      unfold countB
      rw [List.length_eq_zero_iff, List.filter_eq_nil_iff]
      intro k _
      rw [getD_replicate_false']
      simp]
    rfl
  · rw [atM_none items 0 _ fun k it _ _ => getD_replicate_false' _ _]
    exact hE.at x
end
end Go.Proofs.YthnhbejjikgifaaGreatDoor.TV

/-
  TV: code and calls: what the evaluator tells of a call is what the model does.
-/
namespace Go.Proofs.YthnhbejjikgifaaGreatDoor.TV
open Go Go.RowKit
set_option linter.unusedSimpArgs false
set_option linter.unusedVariables false

section
variable {P : Program}

theorem codeK_seq {ρ : Type} {call : CallK ρ} {fuel : Nat} {a b : Code} {e : Env} {s : St} {k : Ex → Env → St → Option ρ} : codeK P call fuel (.seq a b) e s k = codeK P call fuel a e s fun x e s => match x with
    | .normal => codeK P call fuel b e s k
    | x => k x e s := rfl
theorem codeK_cond {ρ : Type} {call : CallK ρ} {fuel : Nat} {c : Operand} {a b : Code} {e : Env} {s : St} {k : Ex → Env → St → Option ρ} : codeK P call fuel (.cond c a b) e s k = match ev e c with
    | .bool true => codeK P call fuel a e s k
    | .bool false => codeK P call fuel b e s k
    | _ => none := rfl
theorem codeK_block {ρ : Type} {call : CallK ρ} {fuel id : Nat} {a : Code} {e : Env} {s : St} {k : Ex → Env → St → Option ρ} : codeK P call fuel (.block id a) e s k = codeK P call fuel a e s fun x e s => match x with
    | .exit i => if i = id then k .normal e s else k (.exit i) e s
    | x => k x e s := rfl
theorem codeK_loop {ρ : Type} {call : CallK ρ} {fuel : Nat} {a : Code} {e : Env} {s : St} {k : Ex → Env → St → Option ρ} : codeK P call fuel (.loop a) e s k = loopK (codeK P call fuel a) fuel e s k := rfl
theorem codeK_region {ρ : Type} {call : CallK ρ} {fuel id : Nat} {ops : Array Oper} {draw : Bool} {e : Env} {s : St} {k : Ex → Env → St → Option ρ} : codeK P call fuel (.region id ops draw) e s k = if draw then (if regionOk ops.toList then drawK P call ops.toList ops.toList e s [] [s] (k .normal) else none) else opsK P call ops.toList ops.toList e s (k .normal) := rfl
theorem codeK_ok {ρ : Type} (hm : P.follows .mixedOrders = true) (hN : Named P) {call : CallK ρ} (hC : CallOk P call) (fuel : Nat) : ∀ (c : Code) (e : Env) (s : St) (k : Ex → Env → St → Option ρ) (r : ρ),
    codeK P call fuel c e s k = some r → ∃ x e' s', CodeSim P c e s x e' s' ∧ k x e' s' = some r := by
  intro c
  induction c with
  | skip =>
    intro e s k r h
    exact ⟨.normal, e, s, fun g w a hR hE Q hQ => wp_skip (hQ a w g (.refl g) hR hE rfl), h⟩
  | seq a b iha ihb =>
    intro e s k r h
    simp only [codeK_seq] at h
    obtain ⟨x, e1, s1, h1, h2⟩ := iha _ _ _ _ h
    cases x with
    | normal =>
      obtain ⟨x, e', s', h3, h4⟩ := ihb _ _ _ _ h2
      exact ⟨x, e', s', h1.seq h3, h4⟩
    | exit id => exact ⟨.exit id, e1, s1, h1.seq_out (by simp), h2⟩
    | ret => exact ⟨.ret, e1, s1, h1.seq_out (by simp), h2⟩
  | cond c a b iha ihb =>
    intro e s k r h
    simp only [codeK_cond] at h
    split at h
    · rename_i hc
      obtain ⟨x, e', s', h1, h2⟩ := iha _ _ _ _ h
      refine ⟨x, e', s', fun g w a hR hE Q hQ => ?_, h2⟩
      have := hE.ev c
      rw [hc] at this
      cases hv : a.eval c <;> rw [hv] at this <;> cases this
      exact wp_cond_true hv (h1 g w a hR hE Q hQ)
    · rename_i hc
      obtain ⟨x, e', s', h1, h2⟩ := ihb _ _ _ _ h
      refine ⟨x, e', s', fun g w a hR hE Q hQ => ?_, h2⟩
      have := hE.ev c
      rw [hc] at this
      cases hv : a.eval c <;> rw [hv] at this <;> cases this
      exact wp_cond_false hv (h1 g w a hR hE Q hQ)
    · cases h
  | block id a iha =>
    intro e s k r h
    simp only [codeK_block] at h
    obtain ⟨x, e1, s1, h1, h2⟩ := iha _ _ _ _ h
    cases x with
    | normal =>
      exact ⟨.normal, e1, s1, fun g w a hR hE Q hQ => wp_block (h1 g w a hR hE _ fun a' w' g' hle hR' hE' hd => hQ a' w' g' hle hR' hE' hd), h2⟩
    | exit i =>
      simp only at h2
      split at h2
      · rename_i hi
        refine ⟨.normal, e1, s1, fun g w a hR hE Q hQ => wp_block (h1 g w a hR hE _ fun a' w' g' hle hR' hE' hd => ?_), h2⟩
        simp only [exOf, Exit.inBlock, hi, if_true]
        exact hQ a' w' g' hle hR' hE' hd
      · rename_i hi
        refine ⟨.exit i, e1, s1, fun g w a hR hE Q hQ => wp_block (h1 g w a hR hE _ fun a' w' g' hle hR' hE' hd => ?_), h2⟩
        simp only [exOf, Exit.inBlock, hi, if_false]
        exact hQ a' w' g' hle hR' hE' hd
    | ret =>
      exact ⟨.ret, e1, s1, fun g w a hR hE Q hQ => wp_block (h1 g w a hR hE _ fun a' w' g' hle hR' hE' hd => hQ a' w' g' hle hR' hE' hd), h2⟩
  | loop a iha =>
    intro e s k r h
    simp only [codeK_loop] at h
    exact loopK_ok iha fuel e s k r h
  | exit id =>
    intro e s k r h
    exact ⟨.exit id, e, s, fun g w a hR hE Q hQ => wp_exit (hQ a w g (.refl g) hR hE rfl), h⟩
  | ret =>
    intro e s k r h
    exact ⟨.ret, e, s, fun g w a hR hE Q hQ => wp_ret (hQ a w g (.refl g) hR hE rfl), h⟩
  | region id ops draw =>
    intro e s k r h
    simp only [codeK_region] at h
    cases draw with
    | true =>
      simp only [if_true] at h
      split at h
      · rename_i hr
        obtain ⟨items, sts, e', s', t, hd, hk⟩ := drawK_told hN hC ops.toList ops.toList 0 e s [] [s] _ _ h
        exact ⟨.normal, e', s', CodeSim.draw hm hr t (by simpa using hd), hk⟩
      · cases h
    | false =>
      simp only [Bool.false_eq_true, if_false] at h
      obtain ⟨e', s', h1, h2⟩ := opsK_ok hN hC ops _ _ _ _ _ h
      exact ⟨.normal, e', s', fun g w a hR hE Q hQ => wp_region_list (h1 g w a hR hE Q fun a' w' g' => hQ a' w' g'), h2⟩
  | _ => intro e s k r h; cases h

/-! ### Results -/
def resultOf (tmps : Array Value) : ResultVar → Sem Value
  | .tmp t => pure (tmps.getD t undef)
  | .cell a t => do loadVar t (← asAddr (tmps.getD a undef))
theorem results_eq (fn : Func) (tmps : Array Value) : results fn tmps = (do let vs ← fn.results.mapM (resultOf tmps); pure (if h : vs.size = 1 then vs[0] else .tuple vs)) := by
  unfold results
  congr 1

theorem result_cell {g : G} {w : World} {s : St} {t : TypeId} {p v : TV} {rp : Value} (hR : Rel P g w s) (hp : VRel g rp p) (h : loadT P s t p = some v) :
    ∃ rv, (do loadVar t (← asAddr rp) : Sem Value).run P w = .ok rv w ∧ VRel g rv v := by
  unfold loadT at h
  split at h
  · cases hp with
    | eptr b off vs cs e r =>
      obtain ⟨rv, h1, h2⟩ := loadVar_ok (w := w) (fun i v hv => hR.sol _ _ _ (e i v hv)) r h
      exact ⟨rv, by simpa [asAddr] using h1, h2⟩
  · rename_i o off
    cases hp with
    | ptr _ b _ e =>
      split at h
      · rename_i cs t' ho
        obtain ⟨vs, h1, h2⟩ := objCells_rel hR e ho
        obtain ⟨rv, h3, h4⟩ := loadVar_ok (w := w) (b := b) (off := off) (fun i v hv => by
          rw [List.getElem?_drop] at hv
          exact h1 _ _ hv) (h2.drop off) h
        exact ⟨rv, by simpa [asAddr] using h3, h4⟩
      · cases h
  · cases h

theorem resultsT_ok {g : G} {w : World} {s : St} {a : Act} {e : Env} (hR : Rel P g w s) (hE : EnvRel g a e) : ∀ (l : List ResultVar) (vs : List TV), resultsT P s e l = some vs →
    ∃ rs, (l.mapM (resultOf a.tmps)).run P w = .ok rs w ∧ VRels g rs vs := by
  intro l
  induction l with
  | nil => intro vs h; simp [resultsT] at h; subst h; exact ⟨[], by simp, .nil⟩
  | cons x l ih =>
    intro vs h
    cases x with
    | tmp t =>
      simp only [resultsT] at h
      split at h
      · rename_i r hr
        cases h
        obtain ⟨rs, h1, h2⟩ := ih r hr
        refine ⟨a.tmps.getD t undef :: rs, ?_, .cons _ _ _ _ (hE.at t) h2⟩
        rw [List.mapM_cons, Sem.run_bind]
        simp only [resultOf, Sem.run_pure, Result.andThen_ok]
        rw [Sem.run_bind, h1]
        simp
      · cases h
    | cell x t =>
      simp only [resultsT] at h
      split at h
      · rename_i v r hv hr
        cases h
        obtain ⟨rs, h1, h2⟩ := ih r hr
        obtain ⟨rv, h3, h4⟩ := result_cell hR (hE.at x) hv
        refine ⟨rv :: rs, ?_, .cons _ _ _ _ h4 h2⟩
        rw [List.mapM_cons, Sem.run_bind]
        have h3' : (resultOf a.tmps (.cell x t)).run P w = .ok rv w := h3
        rw [h3']
        simp only [Result.andThen_ok]
        rw [Sem.run_bind, h1]
        simp
      · cases h

theorem resultT_ok {g : G} {w : World} {s : St} {a : Act} {e : Env} (hR : Rel P g w s) (hE : EnvRel g a e) {fn : Func} {v : TV} (h : resultT P s e fn.results.toList = some v) :
    ∃ rv, (results fn a.tmps).run P w = .ok rv w ∧ VRel g rv v := by
  have key : ∀ vs, resultsT P s e fn.results.toList = some vs → ∃ rs : List Value, (results fn a.tmps).run P w = .ok (if h : rs.toArray.size = 1 then rs.toArray[0] else .tuple rs.toArray) w ∧ VRels g rs vs := fun vs hvs => by
    obtain ⟨rs, h1, h2⟩ := resultsT_ok hR hE _ _ hvs
    refine ⟨rs, ?_, h2⟩
    rw [results_eq, Array.mapM_eq_mapM_toList, Sem.run_bind, Sem.run_map, h1]
    simp
  unfold resultT at h
  split at h
  · rename_i v' hv
    cases h
    obtain ⟨rs, h1, h2⟩ := key _ hv
    cases h2 with
    | cons rv _ rs' _ r h3 =>
      cases h3
      exact ⟨rv, by simpa using h1, r⟩
  · rename_i vs hne hv
    cases h
    obtain ⟨rs, h1, h2⟩ := key _ hv
    have hlen := h2.length
    refine ⟨.tuple rs.toArray, ?_, .tup _ _ h2⟩
    have : ¬ rs.toArray.size = 1 := by
      intro h1
      have h1' : vs.length = 1 := by rw [← hlen]; simpa using h1
      obtain ⟨y, rfl⟩ := List.length_eq_one_iff.1 h1'
      exact hne y rfl
    rw [dif_neg this] at h1
    exact h1
  · cases h

theorem callK_ok (hm : P.follows .mixedOrders = true) (hN : Named P) {ρ : Type} : ∀ n, CallOk P (callK (ρ := ρ) P n) := by
  intro n
  induction n with
  | zero => intro f args s k r h; simp [callK] at h
  | succ n ih =>
    intro f args s k r h
    simp only [callK] at h
    split at h
    · rename_i fn hf
      split at h
      · rename_i c hb
        rw [forceList_eq] at h
        obtain ⟨x, e', s', h1, h2⟩ := codeK_ok hm hN ih n c _ _ _ _ h
        have fin : ∀ (x : Ex), x ≠ .normal → x ≠ .ret → ∃ id, x = .exit id := fun x h h' => by cases x <;> simp_all
        have out : ∃ v, resultT P s' e' fn.results.toList = some v ∧ k v s' = some r ∧ (x = .normal ∨ x = .ret) := by
          cases x with
          | exit id => simp at h2
          | normal =>
            simp only at h2
            split at h2
            · rename_i v hv
              rw [forceV_eq] at h2
              exact ⟨v, hv, h2, .inl rfl⟩
            · cases h2
          | ret =>
            simp only at h2
            split at h2
            · rename_i v hv
              rw [forceV_eq] at h2
              exact ⟨v, hv, h2, .inr rfl⟩
            · cases h2
        obtain ⟨v, hv, hk, hx⟩ := out
        refine ⟨v, s', ⟨⟨fn, c, hf, hb⟩, fun g w rargs hR hA => calls_of_wp hf hb ?_⟩, hk⟩
        refine h1 g w _ hR ?_ _ fun a' w' g' hle hR' hE' hd => ?_
        · show VRels g (rargs.toArray ++ Array.replicate (fn.ntmps - rargs.toArray.size) undef).toList _
          rw [Array.toList_append, Array.toList_replicate]
          have hl := hA.length
          simp only [List.size_toArray]
          rw [hl]
          exact hA.append (VRels.replicate _ (VRel.undef' g))
        · obtain ⟨rv, hrv, hrel⟩ := resultT_ok hR' hE' hv
          rcases hx with rfl | rfl
          · exact ⟨hd, rv, hrv, rv, g', rfl, hle, hR', hrel⟩
          · exact ⟨hd, rv, hrv, rv, g', rfl, hle, hR', hrel⟩
      · cases h
    · cases h

/-- What is given is so. -/
def GivenOk (P : Program) (given : GivenT) : Prop := ∀ f args s v s', given f args s = some (v, s') → Sim P f args s v s'
theorem callG_ok (hm : P.follows .mixedOrders = true) (hN : Named P) {ρ : Type} {given : GivenT} (hg : GivenOk P given) : ∀ n, CallOk P (callG (ρ := ρ) P given n) := by
  intro n
  induction n with
  | zero => intro f args s k r h; simp [callG] at h
  | succ n ih =>
    intro f args s k r h
    simp only [callG] at h
    split at h
    · rename_i v s1 hv
      rw [forceV_eq, forceSt_eq] at h
      exact ⟨v, s1, hg _ _ _ _ _ hv, h⟩
    split at h
    · rename_i fn hf
      split at h
      · rename_i c hb
        rw [forceList_eq] at h
        obtain ⟨x, e', s', h1, h2⟩ := codeK_ok hm hN ih n c _ _ _ _ h
        have fin : ∀ (x : Ex), x ≠ .normal → x ≠ .ret → ∃ id, x = .exit id := fun x h h' => by cases x <;> simp_all
        have out : ∃ v, resultT P s' e' fn.results.toList = some v ∧ k v s' = some r ∧ (x = .normal ∨ x = .ret) := by
          cases x with
          | exit id => simp at h2
          | normal =>
            simp only at h2
            split at h2
            · rename_i v hv
              rw [forceV_eq] at h2
              exact ⟨v, hv, h2, .inl rfl⟩
            · cases h2
          | ret =>
            simp only at h2
            split at h2
            · rename_i v hv
              rw [forceV_eq] at h2
              exact ⟨v, hv, h2, .inr rfl⟩
            · cases h2
        obtain ⟨v, hv, hk, hx⟩ := out
        refine ⟨v, s', ⟨⟨fn, c, hf, hb⟩, fun g w rargs hR hA => calls_of_wp hf hb ?_⟩, hk⟩
        refine h1 g w _ hR ?_ _ fun a' w' g' hle hR' hE' hd => ?_
        · show VRels g (rargs.toArray ++ Array.replicate (fn.ntmps - rargs.toArray.size) undef).toList _
          rw [Array.toList_append, Array.toList_replicate]
          have hl := hA.length
          simp only [List.size_toArray]
          rw [hl]
          exact hA.append (VRels.replicate _ (VRel.undef' g))
        · obtain ⟨rv, hrv, hrel⟩ := resultT_ok hR' hE' hv
          rcases hx with rfl | rfl
          · exact ⟨hd, rv, hrv, rv, g', rfl, hle, hR', hrel⟩
          · exact ⟨hd, rv, hrv, rv, g', rfl, hle, hR', hrel⟩
      · cases h
    · cases h

theorem runG_ok (hm : P.follows .mixedOrders = true) (hN : Named P) {given : GivenT} (hg : GivenOk P given) {n : Nat} {f : FuncId} {args : List TV} {s s' : St} {v : TV} (h : runG P given n f args s = some (v, s')) : Sim P f args s v s' := by
  obtain ⟨v', s'', h1, h2⟩ := callG_ok hm hN hg n f args s _ _ h
  cases h2
  exact h1
/-- Where values of whatever kind come in. -/
theorem Sim.junkArgs {f : FuncId} {n : Nat} {s s' : St} {v : TV} (h : Sim P f (List.replicate n .junk) s v s') {xs : List TV} (hx : xs.length = n) : Sim P f xs s v s' := by
  refine ⟨h.1, fun g w rargs hR hA => h.2 g w rargs hR ?_⟩
  have hl : rargs.length = n := by rw [hA.length, hx]
  clear hA
  induction rargs generalizing n xs with
  | nil => simp at hl; subst hl; exact .nil
  | cons a rargs ih =>
    cases n with
    | zero => simp at hl
    | succ n =>
      rw [List.replicate_succ]
      have key : ∀ (m : Nat) (l : List Value), l.length = m → VRels g l (List.replicate m .junk) := by
        intro m l
        induction l generalizing m with
        | nil => intro e; simp at e; subst e; exact .nil
        | cons b l ih2 =>
          intro e
          cases m with
          | zero => simp at e
          | succ m =>
            rw [List.replicate_succ]
            exact .cons _ _ _ _ (.junk _) (ih2 m (by simpa using e))
      exact .cons _ _ _ _ (.junk _) (key n rargs (by simpa using hl))
theorem run_ok (hm : P.follows .mixedOrders = true) (hN : Named P) {n : Nat} {f : FuncId} {args : List TV} {s s' : St} {v : TV} (h : run P n f args s = some (v, s')) : Sim P f args s v s' := by
  obtain ⟨v', s'', h1, h2⟩ := callK_ok hm hN n f args s _ _ h
  cases h2
  exact h1
end
end Go.Proofs.YthnhbejjikgifaaGreatDoor.TV

/-
  TV: from a row's inputs to plain values: what comes in, as the evaluator sees it; and the row, closed.
-/
namespace Go.Proofs.YthnhbejjikgifaaGreatDoor.TV
open Go Go.RowKit Go.ChangeShapes Go.WideShapes Go.ChangeAt
set_option linter.unusedSimpArgs false
set_option linter.unusedVariables false

/-- All that is there at the call stays. -/
def start (W : World) (hV : VarsOk W.heap.size W) : G := ⟨W.heap.size, W, hV, fun _ => none, fun b i => W.cell? ⟨b, i, none⟩, 0, fun _ => 0, fun _ => none, fun _ => none, fun n i k z h => hV.glob n i k z h⟩

theorem Rel.start (P : Program) (W : World) (hV : VarsOk W.heap.size W) : Rel P (start W hV) W St.none where
  below := Below.refl _ _
  bsize := Nat.le_refl _
  sol := fun b i v h => h
  ids := fun o b h => by cases h
  inj := fun o o' b h => by cases h
  nosol := fun o b i h => by cases h
  rows := fun o b c e h => by cases h
  apart := fun i o b c h => absurd h (Nat.not_lt_zero i)
  rcs := fun o x h => by cases h
  obj := fun o b h => by cases h
  nts := rfl
  toks := fun i h => absurd h (Nat.not_lt_zero i)
  tinj := fun i j b c c' h => absurd h (Nat.not_lt_zero i)

/-- Fields, one behind the other. -/
def OkFields (R : TypeId → List TV → Prop) : List Field → List TV → Prop
  | [], ts => ts = []
  | f :: fs, ts => ∃ a b, ts = a ++ b ∧ R f.type a ∧ OkFields R fs b
def OkMany (R : List TV → Prop) : Nat → List TV → Prop
  | 0, ts => ts = []
  | n + 1, ts => ∃ a b, ts = a ++ b ∧ R a ∧ OkMany R n b

/-- An element's value out of its cells. -/
def mkE (P : Program) (e : TypeId) (ts : List TV) : TV := if isAggT P e then .agg ts else ts.headD .junk

/-- What may come in at a type. -/
def OkT (P : Program) : Nat → TypeId → List TV → Prop
  | 0, _, _ => False
  | f + 1, t, ts => match P.underlying t with
    | some .bool => ∃ b, ts = [.bool b]
    | some (.int k) => ∃ n, ts = [.int k n] ∧ (Lit.int k n).wf = true
    | some .string => ∃ l : List UInt8, ts = [.str l] ∧ l.length ≤ reachBytes
    | some (.slice e) => ts = [.slice true [] .unk] ∨ ∃ ess : List (List TV), ts = [.slice false (ess.map (mkE P e)) .unk] ∧ ess.length * P.bytesOf e ≤ reachBytes ∧ ∀ x ∈ ess, OkT P f e x
    | some (.struct fs) => OkFields (OkT P f) fs.toList ts
    | some (.array n e) => OkMany (OkT P f e) n ts
    | _ => False

/-- Fields that lie one behind the other from 'at' on. -/
def contig (P : Program) : List Field → Nat → Bool
  | [], _ => true
  | f :: fs, n => f.offset == n && contig P fs (n + P.cellsOf f.type)
def total (P : Program) : List Field → Nat
  | [] => 0
  | f :: fs => P.cellsOf f.type + total P fs

/-- The types that are served. -/
def serves (P : Program) : Nat → TypeId → Bool
  | 0, _ => false
  | f + 1, t => match P.underlying t with
    | some .bool | some (.int _) | some .string => P.cellsOf t == 1
    | some (.slice e) => P.cellsOf t == 1 && decide (0 < P.cellsOf e) && serves P f e && (isAggT P e || P.cellsOf e == 1)
    | some (.struct fs) => contig P fs.toList 0 && total P fs.toList == P.cellsOf t && fs.toList.all (fun fd => serves P f fd.type)
    | some (.array n e) => serves P f e && n * P.cellsOf e == P.cellsOf t
    | _ => false

theorem flatMap_same {α β : Type} {f g : α → List β} : ∀ l : List α, (∀ x ∈ l, f x = g x) → l.flatMap f = l.flatMap g
  | [], _ => rfl
  | x :: l, h => by rw [List.flatMap_cons, List.flatMap_cons, h x (by simp), flatMap_same l fun y hy => h y (by simp [hy])]

theorem weights_mem_all {H : Type} {P : Program} {e : TypeId} : ∀ {l : List (DataW H)} {d : DataW H}, d ∈ l → ∀ n ∈ d.weights P e, n ∈ DataW.weightsAll P e l
  | d0 :: l, d, h, n, hn => by
    rw [DataW.weightsAll]
    rcases List.mem_cons.1 h with rfl | h
    · exact List.mem_append_left _ hn
    · exact List.mem_append_right _ (weights_mem_all h n hn)

section
variable {P : Program} {H : Type} {enc : TypeId × Value → H} {W : World} {hV : VarsOk W.heap.size W}

theorem cells_mkE {e : TypeId} {ts : List TV} (h : isAggT P e = true ∨ ∃ x, ts = [x] ∧ x.cells = [x]) : (mkE P e ts).cells = ts := by
  unfold mkE
  rcases h with h | ⟨x, rfl, hx⟩
  · rw [if_pos h]; rfl
  · split
    · rfl
    · simpa using hx

theorem OkT.single {f : Nat} {t : TypeId} {ts : List TV} (h : OkT P f t ts) (ha : isAggT P t = false) : ∃ x, ts = [x] ∧ x.cells = [x] := by
  cases f with
  | zero => exact h.elim
  | succ f =>
    unfold OkT at h
    unfold isAggT at ha
    split at h
    · obtain ⟨b, rfl⟩ := h; exact ⟨_, rfl, rfl⟩
    · obtain ⟨n, rfl, _⟩ := h; exact ⟨_, rfl, rfl⟩
    · obtain ⟨l, rfl, _⟩ := h; exact ⟨_, rfl, rfl⟩
    · rcases h with rfl | ⟨ess, rfl, _⟩ <;> exact ⟨_, rfl, rfl⟩
    · rename_i ht; rw [ht] at ha; cases ha
    · rename_i ht; rw [ht] at ha; cases ha
    · exact h.elim

theorem trod_ok : ∀ (f : Nat) (t : TypeId), serves P f t = true → ∀ (n : Nat) (cs : List Value) (x : DataW H × List MemPlace), DataW.trod enc P W 0 (fun _ => true) true n t cs = some x →
    (∀ m ∈ x.1.weights P t, m ≤ reachBytes) → cs.length = P.cellsOf t ∧ ∃ ts, VRels (start W hV) cs ts ∧ OkT P f t ts := by
  intro f
  induction f with
  | zero => intro t h; cases h
  | succ f ih =>
    intro t hs n cs x hx hw
    unfold serves at hs
    unfold OkT
    split at hs
    · rename_i ht
      obtain ⟨b, rfl, _⟩ := DataW.trod_bool ht hx
      exact ⟨by simpa using (beq_iff_eq.1 hs).symm, [.bool b], .cons _ _ _ _ (.bool b) .nil, b, rfl⟩
    · rename_i k ht
      obtain ⟨z, rfl, rfl, hwf⟩ := DataW.trod_int ht hx
      exact ⟨by simpa using (beq_iff_eq.1 hs).symm, [.int k z], .cons _ _ _ _ (.int k z) .nil, z, rfl, hwf⟩
    · rename_i ht
      obtain ⟨s, rfl, rfl, hsz⟩ := DataW.trod_string ht hx
      refine ⟨by simpa using (beq_iff_eq.1 hs).symm, [.str s.data.toList], .cons _ _ _ _ (.str s _ rfl) .nil, s.data.toList, rfl, ?_⟩
      exact hw _ (by simp [DataW.weights])
    · rename_i e ht
      simp only [Bool.and_eq_true, decide_eq_true_eq, Bool.or_eq_true] at hs
      obtain ⟨⟨⟨h1, h2⟩, h3⟩, h4⟩ := hs
      have h1' : P.cellsOf t = 1 := by simpa using h1
      rcases DataW.trod_slice ht hx with ⟨rfl, rfl⟩ | ⟨a, len, cap, elems, rest, m, rfl, rfl, rfl, hb, hl, hm, hlen, hel, hsp, _⟩
      · exact ⟨by simpa using h1'.symm, [.slice true [] .unk], .cons _ _ _ _ (.nils .unk fun i h => by cases h) .nil, .inl rfl⟩
      · refine ⟨by simpa using h1'.symm, ?_⟩
        have hbig : len * P.bytesOf e ≤ reachBytes := by
          have := hw ((elems.length + rest.length) * P.bytesOf e) (by simp [DataW.weights, ht])
          rw [hlen] at this
          exact Nat.le_trans (Nat.mul_le_mul_right _ (Nat.le_add_right _ _)) this
        -- each element
        have each : ∀ i, i < len → ∃ vs ts, vs.length = P.cellsOf e ∧ (∀ j v, vs[j]? = some v → W.cell? (a.add (i * P.cellsOf e + j)) = some v) ∧ VRels (start W hV) vs ts ∧ OkT P f e ts := fun i hi => by
          have h5 := hel i hi
          have hi' : i < elems.length := by omega
          rw [List.getElem?_eq_getElem hi'] at h5
          obtain ⟨vs, hvs, htr⟩ := Option.bind_eq_some_iff.1 h5
          obtain ⟨_, hvl, hvc⟩ := World.cells?_some hvs
          obtain ⟨hcl, ts, hr, hok⟩ := ih e h3 m vs _ htr fun q hq => hw q (by
            simp only [DataW.weights, ht]
            refine List.mem_cons_of_mem _ (List.mem_append_left _ (weights_mem_all (d := elems[i].1) ?_ q hq))
            exact List.mem_map.2 ⟨elems[i], List.getElem_mem hi', rfl⟩)
          refine ⟨vs, ts, hcl, fun j v hj => ?_, hr, hok⟩
          have hj' : j < P.cellsOf e := by rw [← hvl]; exact (List.getElem?_eq_some_iff.1 hj).1
          have := hvc j hj'
          rw [hj] at this
          rw [← this]
          congr 1
          unfold Addr.add
          by_cases q1 : i * P.cellsOf e = 0 <;> by_cases q2 : j = 0 <;> simp [q1, q2, Nat.add_assoc]
        -- all of them
        have all : ∀ k, k ≤ len → ∃ (vss : List Value) (ess : List (List TV)), vss.length = k * P.cellsOf e ∧ ess.length = k ∧ (∀ j v, vss[j]? = some v → W.cell? (a.add j) = some v) ∧ VRels (start W hV) vss ess.flatten ∧
            (∀ x ∈ ess, OkT P f e x) ∧ (∀ x ∈ ess, x.length = P.cellsOf e) := by
          intro k
          induction k with
          | zero => intro _; exact ⟨[], [], by simp, rfl, fun j v h => by simp at h, .nil, fun x h => by simp at h, fun x h => by simp at h⟩
          | succ k ihk =>
            intro hk
            obtain ⟨vss, ess, g1, g2, g3, g4, g5, g6⟩ := ihk (by omega)
            obtain ⟨vs, ts, q1, q2, q3, q4⟩ := each k (by omega)
            refine ⟨vss ++ vs, ess ++ [ts], by rw [List.length_append, g1, q1, Nat.succ_mul], by simp [g2], fun j v hj => ?_, ?_, fun x hx => ?_, fun x hx => ?_⟩
            · by_cases hjl : j < vss.length
              · rw [List.getElem?_append_left hjl] at hj
                exact g3 j v hj
              · rw [List.getElem?_append_right (by omega)] at hj
                have := q2 _ v hj
                rw [g1] at this
                rw [← this]
                congr 2
                omega
            · rw [List.flatten_append]
              simpa using g4.append q3
            · rcases List.mem_append.1 hx with hx | hx
              · exact g5 x hx
              · rw [List.mem_singleton.1 hx]; exact q4
            · rcases List.mem_append.1 hx with hx | hx
              · exact g6 x hx
              · rw [List.mem_singleton.1 hx, ← q3.length]; exact q1
        obtain ⟨vss, ess, g1, g2, g3, g4, g5, g6⟩ := all len (Nat.le_refl _)
        have hc : ∀ x ∈ ess, (mkE P e x).cells = x := fun x hx => cells_mkE (by
          cases ha : isAggT P e with
          | true => exact .inl rfl
          | false => exact .inr ((g5 x hx).single ha))
        refine ⟨[.slice false (ess.map (mkE P e)) .unk], .cons _ _ _ _ ?_ .nil, .inr ⟨ess, rfl, by rw [g2]; exact hbig, g5⟩⟩
        by_cases h0 : len = 0
        · subst h0
          rw [List.length_eq_zero_iff.1 g2]
          exact .empty a cap .unk (fun i h => by cases h) (fun h => by cases h)
        · have hspot : a.spot = none := by
            have hv : 0 < vss.length := by rw [g1]; exact Nat.mul_pos (by omega) h2
            have := World.cell?_spot (g3 0 _ (List.getElem?_eq_getElem hv))
            simpa [Addr.add] using this
          obtain ⟨b, off, spot⟩ := a
          simp only at hspot
          subst hspot
          refine .slice b off len cap (P.cellsOf e) vss _ .unk ?_ (by simp [g2]) hl h2 (fun y hy => ?_) (fun j v hj => by have := g3 j v hj; rw [add_plain'] at this; exact this) ?_ trivial
          · intro hnil
            have : (ess.map (mkE P e)).length = 0 := by rw [hnil]; rfl
            rw [List.length_map, g2] at this
            exact h0 this
          · obtain ⟨x, hx, rfl⟩ := List.mem_map.1 hy
            rw [hc x hx]
            exact g6 x hx
          · have : (ess.map (mkE P e)).flatMap TV.cells = ess.flatten := by
              rw [List.flatMap_map, ← List.flatMap_id]
              exact flatMap_same ess fun x hx => hc x hx
            rw [this]
            exact g4
    · rename_i fs ht
      simp only [Bool.and_eq_true, List.all_eq_true] at hs
      obtain ⟨⟨h1, h2⟩, h3⟩ := hs
      have h2' : total P fs.toList = P.cellsOf t := by simpa using h2
      obtain ⟨xs, m, rfl, rfl, hl, hxl, hf⟩ := DataW.trod_struct ht hx
      refine ⟨hl, ?_⟩
      have key : ∀ (l : List Field) (off : Nat) (k : Nat), (∀ j fd, l[j]? = some fd → fs.toList[k + j]? = some fd) → contig P l off = true → off + total P l = cs.length →
          ∃ ts, VRels (start W hV) (cs.drop off) ts ∧ OkFields (OkT P f) l ts := by
        intro l
        induction l with
        | nil =>
          intro off k _ _ hoff
          refine ⟨[], ?_, rfl⟩
          rw [List.drop_eq_nil_of_le (by simp [total] at hoff; omega)]
          exact .nil
        | cons fd l ihl =>
          intro off k hfd hc hoff
          simp only [contig, Bool.and_eq_true, beq_iff_eq] at hc
          obtain ⟨hc1, hc2⟩ := hc
          simp only [total] at hoff
          have hk : fs.toList[k]? = some fd := by simpa using hfd 0 fd rfl
          have hk' : fs[k]? = some fd := by simpa using hk
          have htr := hf k fd hk'
          have hkl : k < xs.length := by rw [hxl]; exact (Array.getElem?_eq_some_iff.1 hk').1
          rw [List.getElem?_eq_getElem hkl, hc1] at htr
          obtain ⟨ts2, r2, o2⟩ := ihl (off + P.cellsOf fd.type) (k + 1) (fun j fd' hj => by
            have := hfd (j + 1) fd' (by simpa using hj)
            rw [show k + 1 + j = k + (j + 1) by omega]; exact this) hc2 (by omega)
          obtain ⟨_, ts1, r1, o1⟩ := ih fd.type (h3 fd (List.mem_of_getElem? hk)) m _ _ htr fun q hq => hw q (by
            simp only [DataW.weights, ht]
            exact DataW.weights_mem_each (j := k) (t := fd.type) (d := (xs[k]).1) (by simp [hk]) (by simp [List.getElem?_eq_getElem hkl]) q hq)
          refine ⟨ts1 ++ ts2, ?_, ts1, ts2, rfl, o1, o2⟩
          have : cs.drop off = (cs.drop off).take (P.cellsOf fd.type) ++ cs.drop (off + P.cellsOf fd.type) := by
            rw [← List.drop_drop, List.take_append_drop]
          rw [this]
          exact r1.append r2
      obtain ⟨ts, r, o⟩ := key fs.toList 0 0 (fun j fd h => by simpa using h) h1 (by rw [h2', hl]; simp)
      exact ⟨ts, by simpa using r, o⟩
    · rename_i q e ht
      simp only [Bool.and_eq_true] at hs
      obtain ⟨h1, h2⟩ := hs
      have h2' : q * P.cellsOf e = P.cellsOf t := by simpa using h2
      obtain ⟨xs, m, rfl, rfl, hl, hxl, hf⟩ := DataW.trod_array ht hx
      refine ⟨hl, ?_⟩
      have key : ∀ (k : Nat), k ≤ q → ∃ ts, VRels (start W hV) (cs.drop ((q - k) * P.cellsOf e)) ts ∧ OkMany (OkT P f e) k ts := by
        intro k
        induction k with
        | zero =>
          intro _
          refine ⟨[], ?_, rfl⟩
          rw [List.drop_eq_nil_of_le (by rw [hl, ← h2']; simp)]
          exact .nil
        | succ k ihk =>
          intro hk
          obtain ⟨ts2, r2, o2⟩ := ihk (by omega)
          have htr := hf (q - (k + 1)) (by omega)
          have hkl : q - (k + 1) < xs.length := by omega
          rw [List.getElem?_eq_getElem hkl] at htr
          obtain ⟨_, ts1, r1, o1⟩ := ih e h1 m _ _ htr fun p hp => hw p (by
            simp only [DataW.weights, ht]
            exact weights_mem_all (List.mem_map.2 ⟨xs[q - (k + 1)], List.getElem_mem hkl, rfl⟩) p hp)
          refine ⟨ts1 ++ ts2, ?_, ts1, ts2, rfl, o1, o2⟩
          have : cs.drop ((q - (k + 1)) * P.cellsOf e) = (cs.drop ((q - (k + 1)) * P.cellsOf e)).take (P.cellsOf e) ++ cs.drop ((q - k) * P.cellsOf e) := by
            have e1 : (q - k) * P.cellsOf e = (q - (k + 1)) * P.cellsOf e + P.cellsOf e := by
              rw [← Nat.succ_mul]; congr 1; omega
            rw [e1, ← List.drop_drop, List.take_append_drop]
          rw [this]
          exact r1.append r2
      obtain ⟨ts, r, o⟩ := key q (Nat.le_refl _)
      exact ⟨ts, by simpa using r, o⟩
    · cases hs
end
end Go.Proofs.YthnhbejjikgifaaGreatDoor.TV
