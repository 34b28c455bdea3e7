/-
  DX: laws: what may come in, and that they answer true.
-/
import Derived.Test.YtbnfooeeopmpiaaDXp
import Derived.Test.YtbnfooeeopmpiaaTVArgs
namespace Go.Proofs.Ytbnfooeeopmpiaa.TV
open Go Go.RowKit
set_option linter.unusedSimpArgs false
set_option linter.unusedVariables false

section
variable (P : Program)
def fitsF (R : TypeId → Ty → Bool) : List Field → Ty → Bool
  | [], .nil => true
  | [f], t => R f.type t
  | f :: fs, .cons a b => R f.type a && fitsF R fs b
  | _, _ => false
def fitsN (R : Ty → Bool) : Nat → Ty → Bool
  | 0, .nil => true
  | 1, t => R t
  | n + 2, .cons a b => R a && fitsN R (n + 1) b
  | _, _ => false
/-- At least so many bytes are taken. -/
def sizeT : Ty → Nat
  | .int k => k.bits / 8
  | .bool => 1
  | .str => 16
  | .slice _ => 24
  | .nil => 0
  | .cons a b => sizeT a + sizeT b
/-- Does the type have this shape? -/
def tyFits : Nat → TypeId → Ty → Bool
  | 0, _, _ => false
  | f + 1, t, ty => match P.underlying t with
    | some .bool => ty == .bool
    | some (.int k) => ty == .int k
    | some .string => ty == .str
    | some (.slice e) => (match ty with
      | .slice te => tyFits f e te && (isAggT P e == te.isAgg) && decide (sizeT te ≤ P.bytesOf e)
      | _ => false)
    | some (.struct fs) => (match fs.toList with
      | [fd] => (match ty with
        | .cons a .nil => tyFits f fd.type a
        | _ => false)
      | l => fitsF (tyFits f) l ty)
    | some (.array n e) => (match n, ty with
      | 1, .cons a .nil => tyFits f e a
      | 1, _ => false
      | n, ty => fitsN (tyFits f e) n ty)
    | _ => false
/-- What is known of what comes in. -/
def OkD : (t : Ty) → t.den → Prop
  | .int k, n => (Lit.int k n).wf = true
  | .bool, _ => True
  | .str, s => s.length ≤ reachBytes
  | .slice t, l => l.length ≤ reachBytes ∧ l.length * sizeT t ≤ reachBytes ∧ ∀ x ∈ l, OkD t x
  | .nil, _ => True
  | .cons a b, x => OkD a x.1 ∧ OkD b x.2
end
section
variable {P : Program}
theorem fitsF_ok {R : TypeId → List TV → Prop} {C : TypeId → Ty → Bool} (h : ∀ t ty cs, C t ty = true → R t cs → ∃ x : ty.den, CellsR ty x cs ∧ OkD ty x) : ∀ (fs : List Field) (ty : Ty) (cs : List TV), fitsF C fs ty = true → OkFields R fs cs → ∃ x : ty.den, CellsR ty x cs ∧ OkD ty x
  | [], .nil, cs, _, hc => by
    have : cs = [] := hc
    subst this
    exact ⟨(), rfl, trivial⟩
  | [f], ty, cs, hf, hc => by
    obtain ⟨a, b, rfl, h1, h2⟩ := hc
    have : b = [] := h2
    subst this
    rw [List.append_nil]
    have hf : C f.type ty = true := by cases ty <;> exact hf
    exact h _ _ _ hf h1
  | f :: g :: fs, .cons x y, cs, hf, hc => by
    obtain ⟨a, b, rfl, h1, h2⟩ := hc
    simp only [fitsF, Bool.and_eq_true] at hf
    obtain ⟨u, hu, ou⟩ := h _ _ _ hf.1 h1
    obtain ⟨v, hv, ov⟩ := fitsF_ok h (g :: fs) y b hf.2 h2
    exact ⟨(u, v), ⟨a, b, rfl, hu, hv⟩, ou, ov⟩
  | [], .int _, _, hf, _ | [], .bool, _, hf, _ | [], .str, _, hf, _ | [], .slice _, _, hf, _ | [], .cons _ _, _, hf, _ => by simp [fitsF] at hf
  | _ :: _ :: _, .int _, _, hf, _ | _ :: _ :: _, .bool, _, hf, _ | _ :: _ :: _, .str, _, hf, _ | _ :: _ :: _, .slice _, _, hf, _ | _ :: _ :: _, .nil, _, hf, _ => by simp [fitsF] at hf
theorem fitsN_ok {R : List TV → Prop} {C : Ty → Bool} (h : ∀ ty cs, C ty = true → R cs → ∃ x : ty.den, CellsR ty x cs ∧ OkD ty x) : ∀ (n : Nat) (ty : Ty) (cs : List TV), fitsN C n ty = true → OkMany R n cs → ∃ x : ty.den, CellsR ty x cs ∧ OkD ty x
  | 0, .nil, cs, _, hc => by
    have : cs = [] := hc
    subst this
    exact ⟨(), rfl, trivial⟩
  | 1, ty, cs, hf, hc => by
    obtain ⟨a, b, rfl, h1, h2⟩ := hc
    have : b = [] := h2
    subst this
    rw [List.append_nil]
    have hf : C ty = true := by cases ty <;> exact hf
    exact h _ _ hf h1
  | n + 2, .cons x y, cs, hf, hc => by
    obtain ⟨a, b, rfl, h1, h2⟩ := hc
    simp only [fitsN, Bool.and_eq_true] at hf
    obtain ⟨u, hu, ou⟩ := h _ _ hf.1 h1
    obtain ⟨v, hv, ov⟩ := fitsN_ok h (n + 1) y b hf.2 h2
    exact ⟨(u, v), ⟨a, b, rfl, hu, hv⟩, ou, ov⟩
  | 0, .int _, _, hf, _ | 0, .bool, _, hf, _ | 0, .str, _, hf, _ | 0, .slice _, _, hf, _ | 0, .cons _ _, _, hf, _ => by simp [fitsN] at hf
  | _ + 2, .int _, _, hf, _ | _ + 2, .bool, _, hf, _ | _ + 2, .str, _, hf, _ | _ + 2, .slice _, _, hf, _ | _ + 2, .nil, _, hf, _ => by simp [fitsN] at hf
theorem tyFits_agg {f : Nat} {t : TypeId} {ty : Ty} (h : tyFits P f t ty = true) : isAggT P t = true → True := fun _ => trivial
theorem reach_small {n b : Nat} (hb : 0 < b) (h : n * b ≤ reachBytes) : n ≤ reachBytes := Nat.le_trans (Nat.le_mul_of_pos_right n hb) h
/-- Elements take room. -/
def roomy (P : Program) : Nat → TypeId → Bool
  | 0, _ => false
  | f + 1, t => match P.underlying t with
    | some (.slice e) => decide (0 < P.bytesOf e) && roomy P f e
    | some (.struct fs) => fs.toList.all fun fd => roomy P f fd.type
    | some (.array _ e) => roomy P f e
    | _ => true
theorem okFields_mono {R S : TypeId → List TV → Prop} : ∀ {fs : List Field} {cs : List TV}, (∀ f ∈ fs, ∀ cs, R f.type cs → S f.type cs) → OkFields R fs cs → OkFields S fs cs
  | [], cs, _, h => h
  | f :: fs, cs, hm, ⟨a, b, e, h1, h2⟩ => ⟨a, b, e, hm f (by simp) _ h1, okFields_mono (fun g hg => hm g (by simp [hg])) h2⟩
theorem okMany_mono {R S : List TV → Prop} (hm : ∀ cs, R cs → S cs) : ∀ {n : Nat} {cs : List TV}, OkMany R n cs → OkMany S n cs
  | 0, cs, h => h
  | n + 1, cs, ⟨a, b, e, h1, h2⟩ => ⟨a, b, e, hm _ h1, okMany_mono hm h2⟩
theorem okT_den : ∀ (f : Nat) (t : TypeId) (ty : Ty) (cs : List TV), tyFits P f t ty = true → roomy P f t = true → OkT P f t cs → ∃ x : ty.den, CellsR ty x cs ∧ OkD ty x
  | 0, t, ty, cs, h, _, _ => by cases h
  | f + 1, t, ty, cs, h, hr, hc => by
    have ih := okT_den f
    unfold tyFits at h
    unfold roomy at hr
    unfold OkT at hc
    cases hu : P.underlying t with
    | none => rw [hu] at hc; exact hc.elim
    | some d =>
      rw [hu] at h hr hc
      cases d with
      | bool => 
        simp only at h hr hc
        obtain ⟨b, rfl⟩ := hc
        have h : ty = .bool := by simpa using h
        subst h
        exact ⟨b, rfl, trivial⟩
      | int k => 
        simp only at h hr hc
        obtain ⟨n, rfl, hw⟩ := hc
        have h : ty = .int k := by simpa using h
        subst h
        exact ⟨n, rfl, hw⟩
      | string => 
        simp only at h hr hc
        obtain ⟨l, rfl, hl⟩ := hc
        have h : ty = .str := by simpa using h
        subst h
        exact ⟨l, rfl, hl⟩
      | struct fs => 
        simp only at h hr hc
        have key : ∀ (l : List Field) (ty : Ty), fitsF (tyFits P f) l ty = true → (∀ fd ∈ l, roomy P f fd.type = true) → OkFields (OkT P f) l cs → ∃ x : ty.den, CellsR ty x cs ∧ OkD ty x := fun l ty h1 h2 h3 =>
          fitsF_ok (R := fun t cs => OkT P f t cs ∧ roomy P f t = true) (fun t ty cs h4 h5 => ih t ty cs h4 h5.2 h5.1) l ty cs h1 (okFields_mono (fun fd hfd cs hcs => ⟨hcs, h2 fd hfd⟩) h3)
        rw [List.all_eq_true] at hr
        split at h
        · rename_i fd hfd
          rw [hfd] at hc hr
          split at h
          · rename_i a
            obtain ⟨x, h1, h2⟩ := key [fd] a (by simpa [fitsF] using h) hr hc
            exact ⟨(x, ()), ⟨cs, [], by simp, h1, rfl⟩, h2, trivial⟩
          · cases h
        · exact key _ ty h hr hc
      | array n e => 
        simp only at h hr hc
        have key : ∀ (n : Nat) (ty : Ty), fitsN (tyFits P f e) n ty = true → OkMany (OkT P f e) n cs → ∃ x : ty.den, CellsR ty x cs ∧ OkD ty x := fun n ty h1 h2 => fitsN_ok (fun ty cs h4 h5 => ih e ty cs h4 hr h5) n ty cs h1 h2
        split at h
        · rename_i a
          obtain ⟨x, h1, h2⟩ := key 1 a (by cases a <;> exact h) hc
          exact ⟨(x, ()), ⟨cs, [], by simp, h1, rfl⟩, h2, trivial⟩
        · cases h
        · exact key _ ty h hc
      | slice e => 
        simp only at h hr hc
        split at h
        · rename_i te
          simp only [Bool.and_eq_true, beq_iff_eq, decide_eq_true_eq] at h hr
          rcases hc with rfl | ⟨ess, rfl, hl, hall⟩
          · exact ⟨[], ⟨true, [], .unk, rfl, trivial⟩, by simp, by simp, fun x hx => by cases hx⟩
          · have : ∀ ess : List (List TV), (∀ x ∈ ess, OkT P f e x) → ∃ l : List te.den, l.length = ess.length ∧ All2 (fun x v => isAggV v = te.isAgg ∧ CellsR te x v.cells) l (ess.map (mkE P e)) ∧ ∀ x ∈ l, OkD te x := by
              intro ess
              induction ess with
              | nil => exact fun _ => ⟨[], rfl, trivial, fun x hx => by cases hx⟩
              | cons c ess ih2 =>
                intro hx
                obtain ⟨l, h1, h2, h3⟩ := ih2 fun y hy => hx y (by simp [hy])
                obtain ⟨x, h4, h5⟩ := ih e te c h.1.1 hr.2 (hx c (by simp))
                refine ⟨x :: l, by simp [h1], ⟨?_, h2⟩, fun y hy => ?_⟩
                · cases ha : isAggT P e with
                  | true =>
                    simp only [mkE, ha, if_true]
                    exact ⟨by rw [← h.1.2, ha]; rfl, h4⟩
                  | false =>
                    simp only [mkE, ha, Bool.false_eq_true, if_false]
                    have hag : te.isAgg = false := by rw [← h.1.2, ha]
                    obtain ⟨v, rfl, hv⟩ : ∃ v, c = [v] ∧ isAggV v = false := by
                      cases te with
                      | int k => exact ⟨_, h4, rfl⟩
                      | bool => exact ⟨_, h4, rfl⟩
                      | str => exact ⟨_, h4, rfl⟩
                      | slice t => obtain ⟨b, es, tok, h6, _⟩ := h4; exact ⟨_, h6, rfl⟩
                      | nil => cases hag
                      | cons a b => cases hag
                    exact ⟨by rw [hag]; exact hv, by simp only [List.headD_cons]; rw [isAggV_cells hv]; exact h4⟩
                · rcases List.mem_cons.1 hy with rfl | hy
                  · exact h5
                  · exact h3 y hy
            obtain ⟨l, h1, h2, h3⟩ := this ess hall
            exact ⟨l, ⟨false, _, .unk, rfl, h2⟩, by rw [h1]; exact reach_small hr.1 hl, by rw [h1]; exact Nat.le_trans (Nat.mul_le_mul_left _ h.2) hl, h3⟩
        · cases h
      | _ => exact hc.elim

/-- The shapes of what comes in. -/
def fitsP (P : Program) (F : Nat) : List TypeId → List PC → Bool
  | [], [] => true
  | t :: ts, .ty ty :: ps => tyFits P F t ty && roomy P F t && (isAggT P t == ty.isAgg) && fitsP P F ts ps
  | _, _ => false
def OkP : (ps : List PC) → dens ps → Prop
  | [], _ => True
  | .ty t :: ps, d => OkD t d.1 ∧ OkP ps d.2
  | _ :: _, _ => False
theorem elR_mkE {t : TypeId} {ty : Ty} {x : ty.den} {c : List TV} (h : isAggT P t = ty.isAgg) (h4 : CellsR ty x c) : ElR ty x (mkE P t c) := by
  cases ha : isAggT P t with
  | true =>
    simp only [mkE, ha, if_true]
    exact ⟨by rw [← h, ha]; rfl, h4⟩
  | false =>
    simp only [mkE, ha, Bool.false_eq_true, if_false]
    have hag : ty.isAgg = false := by rw [← h, ha]
    obtain ⟨v, rfl, hv⟩ : ∃ v, c = [v] ∧ isAggV v = false := by
      cases ty with
      | int k => exact ⟨_, h4, rfl⟩
      | bool => exact ⟨_, h4, rfl⟩
      | str => exact ⟨_, h4, rfl⟩
      | slice t => obtain ⟨b, es, tok, h6, _⟩ := h4; exact ⟨_, h6, rfl⟩
      | nil => cases hag
      | cons a b => cases hag
    exact ⟨by rw [hag]; exact hv, by simp only [List.headD_cons]; rw [isAggV_cells hv]; exact h4⟩
theorem args_den {F : Nat} {V : Val} {m : List Nat} {j : Nat} : ∀ (ts : List TypeId) (ps : List PC) (xs : List TV), fitsP P F ts ps = true → ArgsOk P F ts xs → ∃ d : dens ps, URels V (injL m j ps d) xs ∧ OkP ps d
  | [], [], xs, _, h => by
    have := h.nil
    subst this
    exact ⟨(), .nil, trivial⟩
  | t :: ts, .ty ty :: ps, xs, hf, h => by
    simp only [fitsP, Bool.and_eq_true, beq_iff_eq] at hf
    obtain ⟨⟨⟨h1, h2⟩, h3⟩, h4⟩ := hf
    obtain ⟨x, xs', rfl, ⟨c, hc, rfl⟩, hxs⟩ := h.cons
    obtain ⟨y, h5, h6⟩ := okT_den F t ty c h1 h2 hc
    obtain ⟨d, h7, h8⟩ := args_den (j := j) ts ps xs' h4 hxs
    exact ⟨(y, d), .cons _ _ _ _ (elemU_rel (elR_mkE h3 h5)) h7, h6, h8⟩
  | [], _ :: _, _, hf, _ => by cases hf
  | _ :: _, [], _, hf, _ => by cases hf
  | _ :: _, .gsl _ _ :: _, _, hf, _ => by cases hf
  | _ :: _, .ptr _ :: _, _, hf, _ => by cases hf
  | _ :: _, .nilp :: _, _, hf, _ => by cases hf
  | _ :: _, .ign :: _, _, hf, _ => by cases hf
  | _ :: _, .lit _ :: _, _, hf, _ => by cases hf

theorem HRel.none : HRel St.none ⟨[], []⟩ ⟨[], []⟩ :=
  ⟨rfl, List.nodup_nil, fun o h => (by cases h), fun k o r h => (by simp at h), rfl, fun j i n e h => (by simp at h), fun j j' i n n' e e' h => (by simp at h)⟩
/-- A law that answers true. -/
theorem law_sim {f : FuncId} {ps : List PC} {G : dens (⟨ps, [], [], [.ty .bool], [], []⟩ : Sig).inP → Option (Bool × Unit)} (h : FnOk P f ⟨ps, [], [], [.ty .bool], [], []⟩ G) {F : Nat} {ts : List TypeId} (hf : fitsP P F ts (⟨ps, [], [], [.ty .bool], [], []⟩ : Sig).inP = true)
    (hG : ∀ d, OkP (⟨ps, [], [], [.ty .bool], [], []⟩ : Sig).inP d → G d = some (true, ())) {xs : List TV} (hx : ArgsOk P F ts xs) : ∃ s', Sim P f xs St.none (.bool true) s' := by
  obtain ⟨d, h1, h2⟩ := args_den (V := ⟨[], []⟩) (m := []) (j := 0) ts _ xs hf hx
  have hlen := injL_length [] (⟨ps, [], [], [.ty .bool], [], []⟩ : Sig).inP 0 d
  have hin : (⟨ps, [], [], [.ty .bool], [], []⟩ : Sig).inP.length = ps.length := by simp [Sig.inP]
  have hst : ((⟨ps, [], [], [.ty .bool], [], []⟩ : Sig).start d).1 = injL [] 0 (⟨ps, [], [], [.ty .bool], [], []⟩ : Sig).inP d := by
    show (injL [] 0 (⟨ps, [], [], [.ty .bool], [], []⟩ : Sig).inP d).take ps.length = _
    rw [List.take_of_length_le (by rw [hlen, hin]; exact Nat.le_refl _)]
  have htk : ∀ (ts : List TypeId) (qs : List PC), fitsP P F ts qs = true → toksL qs = [] := by
    intro ts qs
    induction qs generalizing ts with
    | nil => intro _; rfl
    | cons q qs ih =>
      intro hq
      cases ts with
      | nil => cases q <;> cases hq
      | cons t ts =>
        cases q with
        | ty ty =>
          simp only [fitsP, Bool.and_eq_true] at hq
          rw [toksL_cons, ih ts hq.2]
          rfl
        | _ => cases hq
  have hhp : ((⟨ps, [], [], [.ty .bool], [], []⟩ : Sig).start d).2 = ⟨[], []⟩ := by
    show (⟨[], toksL (⟨ps, [], [], [.ty .bool], [], []⟩ : Sig).inP⟩ : UHeap) = _
    rw [htk ts _ hf]
  obtain ⟨s2, v, V2, h2', vs, rvs, m, tips2, hs, A⟩ := h d _ (hG d h2) St.none ⟨[], []⟩ xs (by rw [hhp]; exact HRel.none) (by rw [hst]; exact h1)
  have hm : m = [] := by
    have := A.mlen
    simpa using this
  subst hm
  have hex : exL [] h2'.tips [.ty .bool] vs = some ((true, ()), tips2) := by
    have := A.ex
    unfold outUs at this
    have e1 : vs ++ ((⟨ps, [], [], [.ty .bool], [], []⟩ : Sig).rw.map fun p => cellAt h2' p.1 p.2.1) ++ (([] : List Nat).drop (⟨ps, [], [], [.ty .bool], [], []⟩ : Sig).rows.length).flatMap (rowCs h2') = vs := by
      show vs ++ [] ++ _ = vs
      simp
    rw [e1] at this
    exact this
  obtain ⟨u, us', t1, rfl, h3, h4⟩ := exL_cons hex
  have hus : us' = [] := by
    cases us' with
    | nil => rfl
    | cons _ _ => cases h4
  subst hus
  have h3' : (match decV .bool u with
      | some x => some (x, h2'.tips)
      | none => none) = some (true, t1) := by
    have : exV [] h2'.tips (.ty .bool) u = match decV .bool u with
      | some x => some (x, h2'.tips)
      | none => none := by cases u <;> rfl
    rw [← this]
    exact h3
  split at h3'
  · rename_i x hx
    cases h3'
    have ho := A.outs
    cases ho with
    | cons _ w _ _ hr hnil =>
      cases hnil
      have := (decV_rel hx hr).2
      have hw : w = .bool true := by
        have ha := (decV_rel hx hr).1
        have hc := isAggV_cells ha
        rw [hc] at this
        exact (List.cons.inj (show [w] = [.bool true] from this)).1
      subst hw
      rw [A.val] at hs
      exact ⟨s2, hs⟩
  · cases h3'

/-- A closed function that answers true. -/
theorem FnOk.closed {f : FuncId} (h : Pure P f [] (.bool true)) : FnOk P f ⟨[], [], [], [.ty .bool], [], []⟩ fun _ => some (true, ()) := by
  intro d r hr s V tvs hR hv
  cases hr
  have hv' : URels V [] tvs := hv
  cases hv'
  refine ⟨s, .bool true, V, _, [.bool true], [.bool true], [], _, h s, ⟨hR, Step.refl _ _ _, .cons _ _ _ _ (.bool true) .nil, rfl, rfl, List.prefix_rfl, rfl, List.nodup_nil, fun i K n h => by simp at h, rfl⟩⟩
end
end Go.Proofs.Ytbnfooeeopmpiaa.TV
