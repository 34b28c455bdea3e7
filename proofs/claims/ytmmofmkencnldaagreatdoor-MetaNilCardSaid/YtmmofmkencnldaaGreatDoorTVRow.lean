/-
  TV: from a row's inputs to plain values: what comes in, as the evaluator sees it; and the row, closed.
-/
import Derived.Test.YtmmofmkencnldaaGreatDoorTVCall
import Derived.ProofKit
import Derived.SizedLaws
import Derived.OpenShut
namespace Go.Proofs.YtmmofmkencnldaaGreatDoor.TV
open Go Go.RowKit Go.ChangeShapes Go.WideShapes Go.ChangeAt
set_option linter.unusedSimpArgs false
set_option linter.unusedVariables false

/-- All that is there at the call stays. -/
def start (W : World) (hV : VarsOk W.heap.size W) : G := ⟨W.heap.size, W, hV, fun _ => none, fun b i => W.cell? ⟨b, i, none⟩, 0, fun _ => 0, fun _ => none, fun _ => none, fun n i k z h => hV.glob n i k z h⟩

theorem Rel.start (P : Program) (W : World) (hV : VarsOk W.heap.size W) : Rel P (start W hV) W St.none where
  below := Below.refl _ _
  bsize := Nat.le_refl _
  sol := fun b i v h => h
  ids := fun o b h => by cases h
  inj := fun o o' b h => by cases h
  nosol := fun o b i h => by cases h
  rows := fun o b c e h => by cases h
  apart := fun i o b c h => absurd h (Nat.not_lt_zero i)
  rcs := fun o x h => by cases h
  obj := fun o b h => by cases h
  nts := rfl
  toks := fun i h => absurd h (Nat.not_lt_zero i)
  tinj := fun i j b c c' h => absurd h (Nat.not_lt_zero i)

/-- Fields, one behind the other. -/
def OkFields (R : TypeId → List TV → Prop) : List Field → List TV → Prop
  | [], ts => ts = []
  | f :: fs, ts => ∃ a b, ts = a ++ b ∧ R f.type a ∧ OkFields R fs b
def OkMany (R : List TV → Prop) : Nat → List TV → Prop
  | 0, ts => ts = []
  | n + 1, ts => ∃ a b, ts = a ++ b ∧ R a ∧ OkMany R n b

/-- An element's value out of its cells. -/
def mkE (P : Program) (e : TypeId) (ts : List TV) : TV := if isAggT P e then .agg ts else ts.headD .junk

/-- What may come in at a type. -/
def OkT (P : Program) : Nat → TypeId → List TV → Prop
  | 0, _, _ => False
  | f + 1, t, ts => match P.underlying t with
    | some .bool => ∃ b, ts = [.bool b]
    | some (.int k) => ∃ n, ts = [.int k n] ∧ (Lit.int k n).wf = true
    | some .string => ∃ l : List UInt8, ts = [.str l] ∧ l.length ≤ reachBytes
    | some (.slice e) => ts = [.slice true [] .unk] ∨ ∃ ess : List (List TV), ts = [.slice false (ess.map (mkE P e)) .unk] ∧ ess.length * P.bytesOf e ≤ reachBytes ∧ ∀ x ∈ ess, OkT P f e x
    | some (.struct fs) => OkFields (OkT P f) fs.toList ts
    | some (.array n e) => OkMany (OkT P f e) n ts
    | _ => False

/-- Fields that lie one behind the other from 'at' on. -/
def contig (P : Program) : List Field → Nat → Bool
  | [], _ => true
  | f :: fs, n => f.offset == n && contig P fs (n + P.cellsOf f.type)
def total (P : Program) : List Field → Nat
  | [] => 0
  | f :: fs => P.cellsOf f.type + total P fs

/-- The types that are served. -/
def serves (P : Program) : Nat → TypeId → Bool
  | 0, _ => false
  | f + 1, t => match P.underlying t with
    | some .bool | some (.int _) | some .string => P.cellsOf t == 1
    | some (.slice e) => P.cellsOf t == 1 && decide (0 < P.cellsOf e) && serves P f e && (isAggT P e || P.cellsOf e == 1)
    | some (.struct fs) => contig P fs.toList 0 && total P fs.toList == P.cellsOf t && fs.toList.all (fun fd => serves P f fd.type)
    | some (.array n e) => serves P f e && n * P.cellsOf e == P.cellsOf t
    | _ => false

theorem flatMap_same {α β : Type} {f g : α → List β} : ∀ l : List α, (∀ x ∈ l, f x = g x) → l.flatMap f = l.flatMap g
  | [], _ => rfl
  | x :: l, h => by rw [List.flatMap_cons, List.flatMap_cons, h x (by simp), flatMap_same l fun y hy => h y (by simp [hy])]

theorem weights_mem_all {H : Type} {P : Program} {e : TypeId} : ∀ {l : List (DataW H)} {d : DataW H}, d ∈ l → ∀ n ∈ d.weights P e, n ∈ DataW.weightsAll P e l
  | d0 :: l, d, h, n, hn => by
    rw [DataW.weightsAll]
    rcases List.mem_cons.1 h with rfl | h
    · exact List.mem_append_left _ hn
    · exact List.mem_append_right _ (weights_mem_all h n hn)

section
variable {P : Program} {H : Type} {enc : TypeId × Value → H} {W : World} {hV : VarsOk W.heap.size W}

theorem cells_mkE {e : TypeId} {ts : List TV} (h : isAggT P e = true ∨ ∃ x, ts = [x] ∧ x.cells = [x]) : (mkE P e ts).cells = ts := by
  unfold mkE
  rcases h with h | ⟨x, rfl, hx⟩
  · rw [if_pos h]; rfl
  · split
    · rfl
    · simpa using hx

theorem OkT.single {f : Nat} {t : TypeId} {ts : List TV} (h : OkT P f t ts) (ha : isAggT P t = false) : ∃ x, ts = [x] ∧ x.cells = [x] := by
  cases f with
  | zero => exact h.elim
  | succ f =>
    unfold OkT at h
    unfold isAggT at ha
    split at h
    · obtain ⟨b, rfl⟩ := h; exact ⟨_, rfl, rfl⟩
    · obtain ⟨n, rfl, _⟩ := h; exact ⟨_, rfl, rfl⟩
    · obtain ⟨l, rfl, _⟩ := h; exact ⟨_, rfl, rfl⟩
    · rcases h with rfl | ⟨ess, rfl, _⟩ <;> exact ⟨_, rfl, rfl⟩
    · rename_i ht; rw [ht] at ha; cases ha
    · rename_i ht; rw [ht] at ha; cases ha
    · exact h.elim

theorem trod_ok : ∀ (f : Nat) (t : TypeId), serves P f t = true → ∀ (n : Nat) (cs : List Value) (x : DataW H × List MemPlace), DataW.trod enc P W 0 (fun _ => true) true n t cs = some x →
    (∀ m ∈ x.1.weights P t, m ≤ reachBytes) → cs.length = P.cellsOf t ∧ ∃ ts, VRels (start W hV) cs ts ∧ OkT P f t ts := by
  intro f
  induction f with
  | zero => intro t h; cases h
  | succ f ih =>
    intro t hs n cs x hx hw
    unfold serves at hs
    unfold OkT
    split at hs
    · rename_i ht
      obtain ⟨b, rfl, _⟩ := DataW.trod_bool ht hx
      exact ⟨by simpa using (beq_iff_eq.1 hs).symm, [.bool b], .cons _ _ _ _ (.bool b) .nil, b, rfl⟩
    · rename_i k ht
      obtain ⟨z, rfl, rfl, hwf⟩ := DataW.trod_int ht hx
      exact ⟨by simpa using (beq_iff_eq.1 hs).symm, [.int k z], .cons _ _ _ _ (.int k z) .nil, z, rfl, hwf⟩
    · rename_i ht
      obtain ⟨s, rfl, rfl, hsz⟩ := DataW.trod_string ht hx
      refine ⟨by simpa using (beq_iff_eq.1 hs).symm, [.str s.data.toList], .cons _ _ _ _ (.str s _ rfl) .nil, s.data.toList, rfl, ?_⟩
      exact hw _ (by simp [DataW.weights])
    · rename_i e ht
      simp only [Bool.and_eq_true, decide_eq_true_eq, Bool.or_eq_true] at hs
      obtain ⟨⟨⟨h1, h2⟩, h3⟩, h4⟩ := hs
      have h1' : P.cellsOf t = 1 := by simpa using h1
      rcases DataW.trod_slice ht hx with ⟨rfl, rfl⟩ | ⟨a, len, cap, elems, rest, m, rfl, rfl, rfl, hb, hl, hm, hlen, hel, hsp, _⟩
      · exact ⟨by simpa using h1'.symm, [.slice true [] .unk], .cons _ _ _ _ (.nils .unk fun i h => by cases h) .nil, .inl rfl⟩
      · refine ⟨by simpa using h1'.symm, ?_⟩
        have hbig : len * P.bytesOf e ≤ reachBytes := by
          have := hw ((elems.length + rest.length) * P.bytesOf e) (by simp [DataW.weights, ht])
          rw [hlen] at this
          exact Nat.le_trans (Nat.mul_le_mul_right _ (Nat.le_add_right _ _)) this
        -- each element
        have each : ∀ i, i < len → ∃ vs ts, vs.length = P.cellsOf e ∧ (∀ j v, vs[j]? = some v → W.cell? (a.add (i * P.cellsOf e + j)) = some v) ∧ VRels (start W hV) vs ts ∧ OkT P f e ts := fun i hi => by
          have h5 := hel i hi
          have hi' : i < elems.length := by omega
          rw [List.getElem?_eq_getElem hi'] at h5
          obtain ⟨vs, hvs, htr⟩ := Option.bind_eq_some_iff.1 h5
          obtain ⟨_, hvl, hvc⟩ := World.cells?_some hvs
          obtain ⟨hcl, ts, hr, hok⟩ := ih e h3 m vs _ htr fun q hq => hw q (by
            simp only [DataW.weights, ht]
            refine List.mem_cons_of_mem _ (List.mem_append_left _ (weights_mem_all (d := elems[i].1) ?_ q hq))
            exact List.mem_map.2 ⟨elems[i], List.getElem_mem hi', rfl⟩)
          refine ⟨vs, ts, hcl, fun j v hj => ?_, hr, hok⟩
          have hj' : j < P.cellsOf e := by rw [← hvl]; exact (List.getElem?_eq_some_iff.1 hj).1
          have := hvc j hj'
          rw [hj] at this
          rw [← this]
          congr 1
          unfold Addr.add
          by_cases q1 : i * P.cellsOf e = 0 <;> by_cases q2 : j = 0 <;> simp [q1, q2, Nat.add_assoc]
        -- all of them
        have all : ∀ k, k ≤ len → ∃ (vss : List Value) (ess : List (List TV)), vss.length = k * P.cellsOf e ∧ ess.length = k ∧ (∀ j v, vss[j]? = some v → W.cell? (a.add j) = some v) ∧ VRels (start W hV) vss ess.flatten ∧
            (∀ x ∈ ess, OkT P f e x) ∧ (∀ x ∈ ess, x.length = P.cellsOf e) := by
          intro k
          induction k with
          | zero => intro _; exact ⟨[], [], by simp, rfl, fun j v h => by simp at h, .nil, fun x h => by simp at h, fun x h => by simp at h⟩
          | succ k ihk =>
            intro hk
            obtain ⟨vss, ess, g1, g2, g3, g4, g5, g6⟩ := ihk (by omega)
            obtain ⟨vs, ts, q1, q2, q3, q4⟩ := each k (by omega)
            refine ⟨vss ++ vs, ess ++ [ts], by rw [List.length_append, g1, q1, Nat.succ_mul], by simp [g2], fun j v hj => ?_, ?_, fun x hx => ?_, fun x hx => ?_⟩
            · by_cases hjl : j < vss.length
              · rw [List.getElem?_append_left hjl] at hj
                exact g3 j v hj
              · rw [List.getElem?_append_right (by omega)] at hj
                have := q2 _ v hj
                rw [g1] at this
                rw [← this]
                congr 2
                omega
            · rw [List.flatten_append]
              simpa using g4.append q3
            · rcases List.mem_append.1 hx with hx | hx
              · exact g5 x hx
              · rw [List.mem_singleton.1 hx]; exact q4
            · rcases List.mem_append.1 hx with hx | hx
              · exact g6 x hx
              · rw [List.mem_singleton.1 hx, ← q3.length]; exact q1
        obtain ⟨vss, ess, g1, g2, g3, g4, g5, g6⟩ := all len (Nat.le_refl _)
        have hc : ∀ x ∈ ess, (mkE P e x).cells = x := fun x hx => cells_mkE (by
          cases ha : isAggT P e with
          | true => exact .inl rfl
          | false => exact .inr ((g5 x hx).single ha))
        refine ⟨[.slice false (ess.map (mkE P e)) .unk], .cons _ _ _ _ ?_ .nil, .inr ⟨ess, rfl, by rw [g2]; exact hbig, g5⟩⟩
        by_cases h0 : len = 0
        · subst h0
          rw [List.length_eq_zero_iff.1 g2]
          exact .empty a cap .unk (fun i h => by cases h) (fun h => by cases h)
        · have hspot : a.spot = none := by
            have hv : 0 < vss.length := by rw [g1]; exact Nat.mul_pos (by omega) h2
            have := World.cell?_spot (g3 0 _ (List.getElem?_eq_getElem hv))
            simpa [Addr.add] using this
          obtain ⟨b, off, spot⟩ := a
          simp only at hspot
          subst hspot
          refine .slice b off len cap (P.cellsOf e) vss _ .unk ?_ (by simp [g2]) hl h2 (fun y hy => ?_) (fun j v hj => by have := g3 j v hj; rw [add_plain'] at this; exact this) ?_ trivial
          · intro hnil
            have : (ess.map (mkE P e)).length = 0 := by rw [hnil]; rfl
            rw [List.length_map, g2] at this
            exact h0 this
          · obtain ⟨x, hx, rfl⟩ := List.mem_map.1 hy
            rw [hc x hx]
            exact g6 x hx
          · have : (ess.map (mkE P e)).flatMap TV.cells = ess.flatten := by
              rw [List.flatMap_map, ← List.flatMap_id]
              exact flatMap_same ess fun x hx => hc x hx
            rw [this]
            exact g4
    · rename_i fs ht
      simp only [Bool.and_eq_true, List.all_eq_true] at hs
      obtain ⟨⟨h1, h2⟩, h3⟩ := hs
      have h2' : total P fs.toList = P.cellsOf t := by simpa using h2
      obtain ⟨xs, m, rfl, rfl, hl, hxl, hf⟩ := DataW.trod_struct ht hx
      refine ⟨hl, ?_⟩
      have key : ∀ (l : List Field) (off : Nat) (k : Nat), (∀ j fd, l[j]? = some fd → fs.toList[k + j]? = some fd) → contig P l off = true → off + total P l = cs.length →
          ∃ ts, VRels (start W hV) (cs.drop off) ts ∧ OkFields (OkT P f) l ts := by
        intro l
        induction l with
        | nil =>
          intro off k _ _ hoff
          refine ⟨[], ?_, rfl⟩
          rw [List.drop_eq_nil_of_le (by simp [total] at hoff; omega)]
          exact .nil
        | cons fd l ihl =>
          intro off k hfd hc hoff
          simp only [contig, Bool.and_eq_true, beq_iff_eq] at hc
          obtain ⟨hc1, hc2⟩ := hc
          simp only [total] at hoff
          have hk : fs.toList[k]? = some fd := by simpa using hfd 0 fd rfl
          have hk' : fs[k]? = some fd := by simpa using hk
          have htr := hf k fd hk'
          have hkl : k < xs.length := by rw [hxl]; exact (Array.getElem?_eq_some_iff.1 hk').1
          rw [List.getElem?_eq_getElem hkl, hc1] at htr
          obtain ⟨ts2, r2, o2⟩ := ihl (off + P.cellsOf fd.type) (k + 1) (fun j fd' hj => by
            have := hfd (j + 1) fd' (by simpa using hj)
            rw [show k + 1 + j = k + (j + 1) by omega]; exact this) hc2 (by omega)
          obtain ⟨_, ts1, r1, o1⟩ := ih fd.type (h3 fd (List.mem_of_getElem? hk)) m _ _ htr fun q hq => hw q (by
            simp only [DataW.weights, ht]
            exact DataW.weights_mem_each (j := k) (t := fd.type) (d := (xs[k]).1) (by simp [hk]) (by simp [List.getElem?_eq_getElem hkl]) q hq)
          refine ⟨ts1 ++ ts2, ?_, ts1, ts2, rfl, o1, o2⟩
          have : cs.drop off = (cs.drop off).take (P.cellsOf fd.type) ++ cs.drop (off + P.cellsOf fd.type) := by
            rw [← List.drop_drop, List.take_append_drop]
          rw [this]
          exact r1.append r2
      obtain ⟨ts, r, o⟩ := key fs.toList 0 0 (fun j fd h => by simpa using h) h1 (by rw [h2', hl]; simp)
      exact ⟨ts, by simpa using r, o⟩
    · rename_i q e ht
      simp only [Bool.and_eq_true] at hs
      obtain ⟨h1, h2⟩ := hs
      have h2' : q * P.cellsOf e = P.cellsOf t := by simpa using h2
      obtain ⟨xs, m, rfl, rfl, hl, hxl, hf⟩ := DataW.trod_array ht hx
      refine ⟨hl, ?_⟩
      have key : ∀ (k : Nat), k ≤ q → ∃ ts, VRels (start W hV) (cs.drop ((q - k) * P.cellsOf e)) ts ∧ OkMany (OkT P f e) k ts := by
        intro k
        induction k with
        | zero =>
          intro _
          refine ⟨[], ?_, rfl⟩
          rw [List.drop_eq_nil_of_le (by rw [hl, ← h2']; simp)]
          exact .nil
        | succ k ihk =>
          intro hk
          obtain ⟨ts2, r2, o2⟩ := ihk (by omega)
          have htr := hf (q - (k + 1)) (by omega)
          have hkl : q - (k + 1) < xs.length := by omega
          rw [List.getElem?_eq_getElem hkl] at htr
          obtain ⟨_, ts1, r1, o1⟩ := ih e h1 m _ _ htr fun p hp => hw p (by
            simp only [DataW.weights, ht]
            exact weights_mem_all (List.mem_map.2 ⟨xs[q - (k + 1)], List.getElem_mem hkl, rfl⟩) p hp)
          refine ⟨ts1 ++ ts2, ?_, ts1, ts2, rfl, o1, o2⟩
          have : cs.drop ((q - (k + 1)) * P.cellsOf e) = (cs.drop ((q - (k + 1)) * P.cellsOf e)).take (P.cellsOf e) ++ cs.drop ((q - k) * P.cellsOf e) := by
            have e1 : (q - k) * P.cellsOf e = (q - (k + 1)) * P.cellsOf e + P.cellsOf e := by
              rw [← Nat.succ_mul]; congr 1; omega
            rw [e1, ← List.drop_drop, List.take_append_drop]
          rw [this]
          exact r1.append r2
      obtain ⟨ts, r, o⟩ := key q (Nat.le_refl _)
      exact ⟨ts, by simpa using r, o⟩
    · cases hs
end
end Go.Proofs.YtmmofmkencnldaaGreatDoor.TV
