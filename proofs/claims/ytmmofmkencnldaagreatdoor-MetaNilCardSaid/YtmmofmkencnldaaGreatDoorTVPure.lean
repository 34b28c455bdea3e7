/-
  TV: a call that takes and gives values without objects can be told from an empty store: it changes nothing that anyone else knows of.
-/
import Derived.Test.YtmmofmkencnldaaGreatDoorTVSimp
namespace Go.Proofs.YtmmofmkencnldaaGreatDoor.TV
open Go Go.RowKit
set_option linter.unusedSimpArgs false
set_option linter.unusedVariables false

mutual
/-- No object in it, and no row that may be appended to. -/
def plain : TV → Bool
  | .ptr _ _ | .osl _ _ _ _ | .gsl _ _ => false
  | .map o => o.isNone
  | .eptr x => plains x
  | .slice _ x t => plains x && (match t with | .tip _ => false | _ => true)
  | .fn _ x y => plains x && plains y
  | .iface _ x => plain x
  | .agg x => plains x
  | .tup x => plains x
  | _ => true
def plains : List TV → Bool
  | [] => true
  | x :: l => plain x && plains l
end
mutual
/-- No object in it. -/
def noObj : TV → Bool
  | .ptr _ _ | .osl _ _ _ _ | .gsl _ _ => false
  | .map o => o.isNone
  | .eptr x => noObjs x
  | .slice _ x t => noObjs x
  | .fn _ x y => noObjs x && noObjs y
  | .iface _ x => noObj x
  | .agg x => noObjs x
  | .tup x => noObjs x
  | _ => true
def noObjs : List TV → Bool
  | [] => true
  | x :: l => noObj x && noObjs l
end
mutual
/-- Without the right to append in place. -/
def settle : TV → TV
  | .eptr x => .eptr (settles x)
  | .slice b x t => .slice b (settles x) (match t with | .tip _ => .unk | t => t)
  | .fn f x y => .fn f (settles x) (settles y)
  | .iface t x => .iface t (settle x)
  | .agg x => .agg (settles x)
  | .tup x => .tup (settles x)
  | x => x
def settles : List TV → List TV
  | [] => []
  | x :: l => settle x :: settles l
end
theorem settle_cells (x : TV) : (settle x).cells = settles x.cells := by
  cases x <;> simp [settle, settles, TV.cells]
theorem settles_append (a b : List TV) : settles (a ++ b) = settles a ++ settles b := by
  induction a with
  | nil => rfl
  | cons x a ih => simp [settles, ih]
theorem settles_flat : ∀ l : List TV, (settles l).flatMap TV.cells = settles (l.flatMap TV.cells)
  | [] => rfl
  | x :: l => by rw [settles, List.flatMap_cons, List.flatMap_cons, settles_append, settle_cells, settles_flat l]
theorem settles_length (l : List TV) : (settles l).length = l.length := by
  induction l with
  | nil => rfl
  | cons x l ih => simp [settles, ih]
theorem settles_mem {y : TV} : ∀ {l : List TV}, y ∈ settles l → ∃ x ∈ l, y = settle x
  | x :: l, h => by
    rw [settles] at h
    rcases List.mem_cons.1 h with rfl | h
    · exact ⟨x, by simp, rfl⟩
    · obtain ⟨z, hz, e⟩ := settles_mem h
      exact ⟨z, by simp [hz], e⟩
theorem noObjs_cells {x : TV} (h : noObj x = true) : noObjs x.cells = true := by
  cases x <;> simp_all [noObj, noObjs, TV.cells]
theorem noObjs_append {a b : List TV} : noObjs (a ++ b) = (noObjs a && noObjs b) := by
  induction a with
  | nil => rfl
  | cons x a ih => simp [noObjs, ih, Bool.and_assoc]
theorem noObjs_flat : ∀ {l : List TV}, noObjs l = true → noObjs (l.flatMap TV.cells) = true
  | [], _ => rfl
  | x :: l, h => by
    simp only [noObjs, Bool.and_eq_true] at h
    rw [List.flatMap_cons, noObjs_append, noObjs_cells h.1, noObjs_flat h.2]
    rfl

/-- All cells that stay in g stay in g'. -/
def Sub (g g' : G) : Prop := ∀ b i v, g.sol b i = some v → g'.sol b i = some v
theorem SolAt.sub {g g' : G} (h : Sub g g') {b off : Nat} {vs : List Value} (k : SolAt g b off vs) : SolAt g' b off vs := fun i v e => h _ _ _ (k i v e)

mutual
theorem VRel.settle {g g' : G} (h : Sub g g') : ∀ {v : Value} {x : TV}, VRel g v x → noObj x = true → VRel g' v (settle x)
  | _, _, .junk v, _ => .junk v
  | _, _, .bool b, _ => .bool b
  | _, _, .int k n, _ => .int k n
  | _, _, .str s l e, _ => .str s l e
  | _, _, .nilp, _ => .nilp
  | _, _, .ptr _ _ _ _, hn => by simp [noObj] at hn
  | _, _, .eptr b off vs cs hs r, hn => .eptr b off vs _ (hs.sub h) (VRels.settle h r (by simpa [noObj] using hn))
  | _, _, .nils tok ht, hn => by
    have : TV.settle (.slice true [] tok) = .slice true [] tok := by
      cases tok with
      | tip i => exact absurd rfl (ht i)
      | _ => rfl
    rw [this]
    exact .nils tok ht
  | _, _, .empty a cap tok ht hc, hn => by
    have : TV.settle (.slice false [] tok) = .slice false [] tok := by
      cases tok with
      | tip i => exact absurd rfl (ht i)
      | _ => rfl
    rw [this]
    exact .empty a cap tok ht hc
  | _, _, .slice b off n cap size vs es tok h1 h2 h3 h4 h5 h6 h7 h8, hn => by
    have hn' : noObjs es = true := by simpa [noObj] using hn
    refine .slice b off n cap size vs (settles es) _ ?_ (by rw [settles_length]; exact h2) h3 h4 (fun e he => ?_) (h6.sub h) ?_ ?_
    · intro e
      have := congrArg List.length e
      rw [settles_length] at this
      exact h1 (List.length_eq_zero_iff.1 this)
    · obtain ⟨x, hx, rfl⟩ := settles_mem he
      rw [settle_cells, settles_length]
      exact h5 x hx
    · rw [settles_flat]
      exact VRels.settle h h7 (noObjs_flat hn')
    · cases tok with
      | tip i => trivial
      | unk => trivial
      | exact => exact h8
  | _, _, .osl _ _ _ _ _ _ _ _ _, hn => by simp [noObj] at hn
  | _, _, .gsl _ _ _ _ _ _ _ _, hn => by simp [noObj] at hn
  | _, _, .nomap, _ => .nomap
  | _, _, .map _ _ _, hn => by simp [noObj] at hn
  | _, _, .fn f a c a' c' r1 r2, hn => by
    simp only [noObj, Bool.and_eq_true] at hn
    exact .fn f a c _ _ (VRels.settle h r1 hn.1) (VRels.settle h r2 hn.2)
  | _, _, .nilfn, _ => .nilfn
  | _, _, .iface t v v' r, hn => .iface t v _ (VRel.settle h r (by simpa [noObj] using hn))
  | _, _, .niliface, _ => .niliface
  | _, _, .agg vs cs r, hn => .agg vs _ (VRels.settle h r (by simpa [noObj] using hn))
  | _, _, .tup vs cs r, hn => .tup vs _ (VRels.settle h r (by simpa [noObj] using hn))
theorem VRels.settle {g g' : G} (h : Sub g g') : ∀ {vs : List Value} {xs : List TV}, VRels g vs xs → noObjs xs = true → VRels g' vs (settles xs)
  | _, _, .nil, _ => .nil
  | _, _, .cons v t vs ts r rs, hn => by
    simp only [noObjs, Bool.and_eq_true] at hn
    exact .cons v _ vs _ (VRel.settle h r hn.1) (VRels.settle h rs hn.2)
end
mutual
theorem plain_settle : ∀ x : TV, plain x = true → settle x = x ∧ noObj x = true
  | .junk, _ | .nilp, _ | .nilfn, _ | .niliface, _ | .bool _, _ | .int _ _, _ | .str _, _ => by simp [settle, noObj]
  | .ptr _ _, h | .osl _ _ _ _, h | .gsl _ _, h => by simp [plain] at h
  | .map o, h => by simpa [settle, noObj, plain] using h
  | .eptr x, h => by
    have := plains_settle x (by simpa [plain] using h)
    simp [settle, noObj, this]
  | .slice b x t, h => by
    simp only [plain, Bool.and_eq_true] at h
    have := plains_settle x h.1
    cases t <;> simp_all [settle, noObj]
  | .fn f x y, h => by
    simp only [plain, Bool.and_eq_true] at h
    have h1 := plains_settle x h.1
    have h2 := plains_settle y h.2
    simp [settle, noObj, h1, h2]
  | .iface t x, h => by
    have := plain_settle x (by simpa [plain] using h)
    simp [settle, noObj, this]
  | .agg x, h => by
    have := plains_settle x (by simpa [plain] using h)
    simp [settle, noObj, this]
  | .tup x, h => by
    have := plains_settle x (by simpa [plain] using h)
    simp [settle, noObj, this]
theorem plains_settle : ∀ x : List TV, plains x = true → settles x = x ∧ noObjs x = true
  | [], _ => by simp [settles, noObjs]
  | x :: l, h => by
    simp only [plains, Bool.and_eq_true] at h
    have h1 := plain_settle x h.1
    have h2 := plains_settle l h.2
    simp [settles, noObjs, h1, h2]
end

section
variable {P : Program}
/-- The same cells stay; all else is new. -/
def fresh (g : G) (w : World) (hb : g.base ≤ w.heap.size) (hV : VarsOk w.heap.size w) : G := ⟨w.heap.size, w, hV, fun _ => none, g.sol, 0, fun _ => 0, fun _ => none, fun _ => none, fun n i k z h => ⟨by have := (g.hG n i k z h).1; omega, (g.hG n i k z h).2⟩⟩
theorem Rel.fresh {g : G} {w : World} {s : St} (h : Rel P g w s) {hV : VarsOk w.heap.size w} : Rel P (fresh g w h.bsize hV) w St.none where
  below := Below.refl _ _
  bsize := Nat.le_refl _
  sol := fun b i v e => h.sol b i v e
  ids := fun o b h => by cases h
  inj := fun o o' b h => by cases h
  nosol := fun o b i h => by cases h
  rows := fun o b c e h => by cases h
  apart := fun i o b c h => absurd h (Nat.not_lt_zero i)
  rcs := fun o x h => by cases h
  obj := fun o b h => by cases h
  nts := rfl
  toks := fun i h => absurd h (Nat.not_lt_zero i)
  tinj := fun i j b c c' h => absurd h (Nat.not_lt_zero i)

/-- What a call has made, beside what was there. -/
def G.join (g g' : G) (n : Nat) : G := { g with
  sol := fun b i => if b < n then g.sol b i else g'.sol b i
  hG := fun n i k z h => ⟨(g.hG n i k z h).1, by split; exact (g.hG n i k z h).2; exact (g'.hG n i k z h).2⟩ }
theorem Rel.join {g g' : G} {w w' : World} {s s' : St} (h : Rel P g w s) (hb : Below w.heap.size w w') (h' : Rel P g' w' s') : g.le (g.join g' w.heap.size) ∧ Rel P (g.join g' w.heap.size) w' s := by
  have hle : g.le (g.join g' w.heap.size) := by
    refine ⟨rfl, rfl, fun _ _ e => e, fun b i v e => ?_, Nat.le_refl _, fun _ _ => Nat.le_refl _, fun _ _ _ => rfl, fun b i v hbb e => ?_, fun _ _ e => e⟩
    · simp only [G.join]
      rw [if_pos (h.sol_lt e)]
      exact e
    · simp only [G.join] at e
      rw [if_pos (Nat.lt_of_lt_of_le hbb h.bsize)] at e
      exact e
  have k := h.keep hb
  refine ⟨hle, ⟨k.below, k.bsize, fun b i v e => ?_, k.ids, k.inj, fun o b i e hne => ?_, k.rows, k.apart, k.rcs, fun o b e => ?_, k.nts, fun i hi => ?_, k.tinj⟩⟩
  · simp only [G.join] at e
    split at e
    · exact k.sol b i v e
    · exact h'.sol b i v e
  · simp only [G.join]
    rw [if_pos (h.obj_lt e)]
    exact h.nosol o b i e hne
  · obtain ⟨ob, h1, h2⟩ := k.obj o b e
    exact ⟨ob, h1, h2.mono hle⟩
  · obtain ⟨b, cap, e, xs, h1, h2, h3⟩ := k.toks i hi
    obtain ⟨b', cap', e', xs', h1', h2', h3'⟩ := h.toks i hi
    rw [h1] at h1'
    cases h1'
    refine ⟨b, cap, e, xs, h1, h2, ⟨h3.own, h3.size, h3.tip, fun j => ?_⟩⟩
    simp only [G.join]
    rw [if_pos h3'.lt.2]
    exact h3.sol j

theorem Sim.pure {f : FuncId} {args : List TV} {v : TV} {s' : St} (h : Sim P f args St.none v s') (ha : plains args = true) (hv : noObj v = true) : Pure P f args (settle v) := by
  intro s
  refine ⟨h.1, fun g w rargs hR hA => ?_⟩
  have hV := g.hV.keep hR.below hR.bsize
  have hA' : VRels (fresh g w hR.bsize hV) rargs args := by
    have := VRels.settle (g := g) (g' := fresh g w hR.bsize hV) (fun b i v e => e) hA (plains_settle args ha).2
    rw [(plains_settle args ha).1] at this
    exact this
  refine (h.2 (fresh g w hR.bsize hV) w rargs hR.fresh hA').mono fun e w' ⟨rv, g', he, hle, hR', hv'⟩ => ?_
  have hb : Below w.heap.size w w' := by
    have := hR'.below
    rw [hle.base, hle.w0] at this
    exact this
  obtain ⟨h1, h2⟩ := hR.join hb hR'
  refine ⟨rv, g.join g' w.heap.size, he, h1, h2, VRel.settle (fun b i v e => ?_) hv' hv⟩
  simp only [G.join]
  split
  · rename_i hlt
    exact hle.old b i v hlt e
  · exact e
theorem Pure.of {f : FuncId} {args : List TV} {v v' : TV} {s' : St} (h : Sim P f args St.none v s') (ha : plains args = true) (hv : noObj v = true) (he : settle v = v') : Pure P f args v' := he ▸ h.pure ha hv

/-- A call, run by the kernel: it answers true. -/
theorem Pure.of_run (hm : P.follows .mixedOrders = true) (hN : Named P) {n : Nat} {f : FuncId} {args : List TV} (h : answersTrue P n f args = true) (ha : plains args = true) : Pure P f args (.bool true) := by
  unfold answersTrue at h
  split at h
  · rename_i s' hr
    exact .of (run_ok hm hN hr) ha rfl rfl
  · cases h

/-- A body, told from an empty store. -/
theorem Pure.body0 {f : FuncId} {fn : Func} {c : Code} {args : List TV} {v : TV} (hf : P.funcs[f]? = some fn) (hb : fn.body = some c) (ha : plains args = true)
    (h : Do P c (args ++ List.replicate (fn.ntmps - args.length) undefT) St.none (Ends P fn fun v' _ => noObj v' = true ∧ settle v' = v)) : Pure P f args v := by
  obtain ⟨v', s', h1, h2, h3⟩ := Does.body hf hb h
  exact .of h1 ha h2 h3
end
end Go.Proofs.YtmmofmkencnldaaGreatDoor.TV
