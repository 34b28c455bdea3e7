/-
  WAL: opening a log in plain words. (2 texts, one behind the other)
-/
import Derived.Test.YthnhbejjikgifaaGreatDoorM14
import Derived.Test.YthnhbejjikgifaaGreatDoorM13

namespace Go.Proofs.YthnhbejjikgifaaGreatDoor.TV
open Go Go.RowKit
set_option linter.unusedSimpArgs false
set_option linter.unusedVariables false
set_option maxRecDepth 100000

theorem names_eq {m : MapB} {K : Nat} (h : m.map (fun x => x.1) = (List.range' 1 K).map wn) (hK : K ≤ 40) : dNames m false = some (sortT (m.map fun x => x.1), (m, ())) := by
  have hl : m.length = K := by
    have := congrArg List.length h
    simpa using this
  have hall : (m.all fun e => decide (e.1.length ≤ 1000)) = true := by
    rw [List.all_eq_true]
    intro e he
    have : e.1 ∈ m.map (fun x => x.1) := List.mem_map.2 ⟨e, he, rfl⟩
    rw [h] at this
    obtain ⟨k, hk, hk2⟩ := List.mem_map.1 this
    have hk := List.mem_range'_1.1 hk
    rw [← hk2]
    have := (wn_length (k := k) (by omega)).2
    simp only [decide_eq_true_eq]
    omega
  have h1 : m.length ≤ 1000 := by omega
  rw [dNames_un, dNames_b]
  simp only [cond_false, cond_if, if_pos h1]
  rw [show (List.all m fun (e : List UInt8 × Ty.den Ty.str) => decide (List.length e.fst ≤ 1000)) = true from hall]
  rfl
/-- The beginning of reading: the files' numbers. -/
theorem read_names {m : MapB} {K : Nat} (h : m.map (fun x => x.1) = (List.range' 1 K).map wn) (hK : K ≤ 40) {r : (Int × List Int × Bool × List Seg × MapB × Unit) ⊕ (List Int × Bool × Int × List Seg × MapB × Unit)}
    (hr : ∀ x11 : List Int, sortI x11 = (List.range' 1 K).map (fun k : Nat => (k : Int)) → ∃ r', loop (wRead_l1 false x11) (0, ([], (false, ([], (m, ()))))) = some r' ∧ r' = r) :
    wRead m false = (match r with
      | .inl (_, (g, (t, (sg, (m', _))))) => some (g, (t, (0, (sg, (m', ())))))
      | .inr (g, (t, (e, (sg, (m', _))))) => some (g, (t, (e, (sg, (m', ())))))) := by
  have hp : (sortT (m.map fun x => x.1)).Perm ((List.range' 1 K).map wn) := by
    rw [← h]
    exact sortT_perm _
  obtain ⟨ks, h1, h2⟩ := names_list hp hK
  have hkl : ks.length = K := by have := h2.length_eq; simpa using this
  have hnl : (sortT (m.map fun x => x.1)).length ≤ 1000 := by rw [h1, List.length_map]; omega
  have hloop := names_loop (m := m) ks [] (sortT (m.map fun x => x.1)) (by simpa using h1) hnl (fun k hk => by
    have := List.mem_range'_1.1 (h2.mem_iff.1 hk)
    omega)
  obtain ⟨r', h3, h4⟩ := hr _ (sort_range h2)
  subst h4
  have h1000 : (ks.map (fun k : Nat => (k : Int))).length ≤ 1000 := by rw [List.length_map]; omega
  rw [wRead_un, wRead_b, names_eq h hK]
  simp only [List.length_nil, List.map_nil, List.nil_append] at hloop
  have z : ((0 : Nat) : Int) = 0 := rfl
  rw [z] at hloop
  simp only [Option.bind_some, hloop, two_inl, cond_if, if_pos h1000, h3]
  rcases r' with ⟨a, b, c, d, e, _⟩ | ⟨a, b, c, d, e, _⟩ <;> rfl
theorem keysA {pre : CL} {v : List UInt8} : (F pre ++ [(wn (pre.length + 1), v)]).map (fun x => x.1) = (List.range' 1 (pre.length + 1)).map wn := by
  rw [List.map_append]
  unfold F
  rw [files_keys]
  rw [List.range'_concat, List.map_append]
  simp [Nat.add_comm]
theorem read_A {pre : CL} {c : List Ent} {q : List UInt8} (hok : OkC (pre ++ [c])) (hq : Tail q) :
    ∃ sg, SR (pre ++ [c]) sg ∧ wRead (F pre ++ [(wn (pre.length + 1), bse pre ++ (c.flatMap entB ++ q))]) false = some ([], (!q.isEmpty, (0, (sg, (F pre ++ [(wn (pre.length + 1), bse pre ++ (c.flatMap entB ++ q))], ()))))) := by
  have hle := hok.1
  rw [List.length_append, List.length_singleton] at hle
  have key : ∀ x11 : List Int, sortI x11 = (List.range' 1 (pre.length + 1)).map (fun k : Nat => (k : Int)) → ∃ sg, SR (pre ++ [c]) sg ∧ loop (wRead_l1 false x11) (0, ([], (false, ([], (F pre ++ [(wn (pre.length + 1), bse pre ++ (c.flatMap entB ++ q))], ()))))) = some (.inl (((pre.length + 1 : Nat) : Int), ([], (!q.isEmpty, (sg, (F pre ++ [(wn (pre.length + 1), bse pre ++ (c.flatMap entB ++ q))], ())))))) := by
    intro x11 hx
    obtain ⟨sgb, h1, h2⟩ := read_many (m := F pre ++ [(wn (pre.length + 1), bse pre ++ (c.flatMap entB ++ q))]) hx (by omega) pre [] [] (by simpa using hok.pre) (by simp) trivial (fun u c' v huv => by
      have huv : pre = u ++ c' :: v := huv
      rw [huv] at hle ⊢
      exact F_get (by rw [List.length_append] at hle; omega))
    obtain ⟨s, h3, h4⟩ := read_whole (tn := false) hx (by omega) (by omega) (get_last (by omega)) hok hq (.inr rfl) (by simpa using h1)
    refine ⟨_, h3, ?_⟩
    have z : ((([] : CL).length : Nat) : Int) = 0 := rfl
    rw [z, List.nil_append] at h2
    rw [h2, loop_eq, h4]
    simp only
    have h0 : ¬ ((pre.length + 1 : Nat) : Int) < ((((List.range' 1 (pre.length + 1)).map (fun k : Nat => (k : Int))).length : Nat) : Int) := by
      rw [List.length_map, List.length_range']
      omega
    rw [loop_eq]
    simp only [wRead_l1, hx, cond_if, if_neg h0]
  -- the segments do not hang on the order
  have hu : ∃ x11 : List Int, sortI x11 = (List.range' 1 (pre.length + 1)).map (fun k : Nat => (k : Int)) := ⟨_, sort_range (.refl _)⟩
  obtain ⟨x0, hx0⟩ := hu
  obtain ⟨sg, h1, h2⟩ := key x0 hx0
  refine ⟨sg, h1, ?_⟩
  refine read_names keysA (by omega) (r := .inl (((pre.length + 1 : Nat) : Int), ([], (!q.isEmpty, (sg, (F pre ++ [(wn (pre.length + 1), bse pre ++ (c.flatMap entB ++ q))], ())))))) fun x11 hx => ?_
  have e : wRead_l1 false x11 = wRead_l1 false x0 := by
    funext st
    simp only [wRead_l1, hx, hx0]
  rw [e]
  exact ⟨_, h2, rfl⟩
theorem read_B {cs : CL} {p r : List UInt8} (hok : OkC cs) (hpr : p ++ r = bse cs) (hr : r ≠ []) :
    ∃ sg, SR cs sg ∧ wRead (F cs ++ [(wn (cs.length + 1), p)]) false = some ([((cs.length + 1 : Nat) : Int)], (false, (0, (sg, (F cs ++ [(wn (cs.length + 1), p)], ()))))) := by
  have hle := hok.1
  have key : ∀ x11 : List Int, sortI x11 = (List.range' 1 (cs.length + 1)).map (fun k : Nat => (k : Int)) → ∃ sg, SR cs sg ∧ loop (wRead_l1 false x11) (0, ([], (false, ([], (F cs ++ [(wn (cs.length + 1), p)], ()))))) = some (.inr ([((cs.length + 1 : Nat) : Int)], (false, (0, (sg, (F cs ++ [(wn (cs.length + 1), p)], ())))))) := by
    intro x11 hx
    obtain ⟨sgb, h1, h2⟩ := read_many (m := F cs ++ [(wn (cs.length + 1), p)]) hx (by omega) cs [] [] (by simpa using hok) (by simp) trivial (fun u c' v huv => by
      have huv : cs = u ++ c' :: v := huv
      rw [huv] at hle ⊢
      exact F_get (by rw [List.length_append] at hle; omega))
    have h4 := read_torn (tn := false) (sga := sgb) hx hok (get_last (v := p) (by omega)) hpr hr
    refine ⟨sgb, by simpa using h1, ?_⟩
    have z : ((([] : CL).length : Nat) : Int) = 0 := rfl
    rw [z, List.nil_append] at h2
    rw [h2, loop_eq, h4]
  obtain ⟨x0, hx0⟩ : ∃ x11 : List Int, sortI x11 = (List.range' 1 (cs.length + 1)).map (fun k : Nat => (k : Int)) := ⟨_, sort_range (.refl _)⟩
  obtain ⟨sg, h1, h2⟩ := key x0 hx0
  refine ⟨sg, h1, ?_⟩
  refine read_names keysA (by omega) (r := .inr ([((cs.length + 1 : Nat) : Int)], (false, (0, (sg, (F cs ++ [(wn (cs.length + 1), p)], ())))))) fun x11 hx => ?_
  have e : wRead_l1 false x11 = wRead_l1 false x0 := by
    funext st
    simp only [wRead_l1, hx, hx0]
  rw [e]
  exact ⟨_, h2, rfl⟩
theorem read_nil : wRead [] false = some ([], (false, (0, ([], ([], ()))))) := by
  refine read_names (K := 0) rfl (by omega) (r := .inl (0, ([], (false, ([], ([], ())))))) fun x11 hx => ?_
  have h0 : ¬ (0 : Int) < ((((List.range' 1 0).map (fun k : Nat => (k : Int))).length : Nat) : Int) := by simp
  refine ⟨_, ?_, rfl⟩
  rw [loop_eq]
  simp only [wRead_l1, hx, cond_if, if_neg h0]

/-! ### Opening -/
theorem no_hard {m : MapB} {K : Nat} (h : m.map (fun x => x.1) = (List.range' 1 K).map wn) (hK : K ≤ 40) : mget [104, 97, 114, 100] m = none ∧ mget [104, 97, 114, 100, 46, 110, 101, 119] m = none := by
  have hk : ∀ e ∈ m, ∃ k, k < 41 ∧ e.1 = wn k := fun e he => by
    have : e.1 ∈ m.map (fun x => x.1) := List.mem_map.2 ⟨e, he, rfl⟩
    rw [h] at this
    obtain ⟨k, hk, hk2⟩ := List.mem_map.1 this
    have hk := List.mem_range'_1.1 hk
    exact ⟨k, by omega, hk2.symm⟩
  constructor
  · refine mget_none fun e he => ?_
    obtain ⟨k, h1, h2⟩ := hk e he
    rw [h2]
    exact (wn_hard ⟨k, h1⟩).1
  · refine mget_none fun e he => ?_
    obtain ⟨k, h1, h2⟩ := hk e he
    rw [h2]
    exact (wn_hard ⟨k, h1⟩).2
theorem hard_none {m : MapB} (h : mget [104, 97, 114, 100] m = none) : wHard 0 (-1) m false = some (0, (0, (-1, (m, ())))) := by
  rw [wHard_un, wHard_b, read_hard h]
  rfl
/-- What opening answers: the disk's state, and the segments. -/
def OpenIs (sure now : MapB) (wait : List Chg) (count : Int) (falls : List Fall) (sure' now' : MapB) (wait' : List Chg) (count' : Int) (sg : List Seg) : Prop :=
  wOpen sure now wait count false falls = some ((), ((), (sure', (now', (wait', (count', (false, (falls, ((), (0, (-1, (sg, ((), ()))))))))))))) 
theorem down_eq {b : Bool} : dDown b = some (b, ()) := by rw [dDown_un, dDown_b]
theorem open_clean {pre : CL} {c : List Ent} {sure : MapB} {wait : List Chg} {count : Int} {falls : List Fall} (hok : OkC (pre ++ [c])) : ∃ sg, SR (pre ++ [c]) sg ∧ OpenIs sure (F (pre ++ [c])) wait count falls sure (F (pre ++ [c])) wait count sg := by
  have hle := hok.1
  rw [List.length_append, List.length_singleton] at hle
  obtain ⟨sg, h1, h2⟩ := read_A hok (.inl rfl)
  rw [List.append_nil, ← F_snoc] at h2
  have hkeys : (F (pre ++ [c])).map (fun x => x.1) = (List.range' 1 (pre.length + 1)).map wn := by rw [F_snoc]; exact keysA
  obtain ⟨hh, hn⟩ := no_hard hkeys (by omega)
  refine ⟨sg, h1, ?_⟩
  have hsl := h1.length
  rw [List.length_append, List.length_singleton] at hsl
  have n0 : ¬ (0 : Int) < (([] : List Int).length : Int) := by simp
  have n1 : ¬ (sg.length : Int) = 0 := by omega
  have z4 : ¬ (4 : Int) = 0 := by decide
  unfold OpenIs
  rw [wOpen_un, wOpen_b]
  simp only [down_eq, Option.bind_some, cond_false, hard_none hh, decide_true, Bool.not_true, h2, read_hardnew hn, cond_if, if_neg z4, two_inl, if_neg n0, if_neg n1, List.isEmpty_nil]
theorem open_cut {pre : CL} {c : List Ent} {q : List UInt8} {sure : MapB} {wait : List Chg} {count : Nat} (hok : OkC (pre ++ [c])) (hq : Tail q) (hqn : q ≠ []) (hw : wait.length < 1000) (hc : count < 100000) :
    ∃ sg wait' sure' count', SR (pre ++ [c]) sg ∧ OpenIs sure (F pre ++ [(wn (pre.length + 1), bse pre ++ (c.flatMap entB ++ q))]) wait (count : Int) [] sure' (F (pre ++ [c])) wait' count' sg := by
  have hle := hok.1
  rw [List.length_append, List.length_singleton] at hle
  obtain ⟨sg, h1, h2⟩ := read_A hok hq
  have hqe : q.isEmpty = false := by cases q with | nil => exact (hqn rfl).elim | cons _ _ => rfl
  rw [hqe] at h2
  obtain ⟨hh, hn⟩ := no_hard (keysA (pre := pre) (v := bse pre ++ (c.flatMap entB ++ q))) (by omega)
  obtain ⟨sp, s, hsg, h3, hsl, g2, g3, g4, g5, g6⟩ := h1.last
  obtain ⟨n, i, t, es, ed⟩ := s
  simp only at g2 g3 g4 g5 g6
  subst g2 g3 g4 g5
  have hqlen : q.length < 100000 := by
    rcases hq with rfl | ⟨e, r, he, hqr, _, _⟩
    · simp
    · have := congrArg List.length hqr
      rw [List.length_append] at this
      have := (entB_length he).1
      omega
  have hL1 : (baseB pre.flatten.length (lastT 0 pre.flatten) ++ es.flatMap entB).length ≤ (bse pre ++ (es.flatMap entB ++ q)).length := by
    simp only [bse, List.length_append]
    omega
  have hsl2 : (bse pre ++ (es.flatMap entB ++ q)).length < 4611686018427387904 := by
    have e1 := bse_length hok.pre
    have e2 := ents_length hok.last.2
    have := hok.last.1
    rw [List.length_append, List.length_append]
    omega
  have htk : (bse pre ++ (es.flatMap entB ++ q)).take (baseB pre.flatten.length (lastT 0 pre.flatten) ++ es.flatMap entB).length = bse pre ++ es.flatMap entB := by
    rw [← List.append_assoc]
    exact List.take_left' rfl
  have hcut := cut_no (k := pre.length + 1) (L := (baseB pre.flatten.length (lastT 0 pre.flatten) ++ es.flatMap entB).length) (sure := sure) (now := F pre ++ [(wn (pre.length + 1), bse pre ++ (es.flatMap entB ++ q))]) (wait := wait) (count := count) (falls := []) (by omega) (.inl rfl) (by omega) (by omega) (get_last (by omega)) hL1 hsl2
  rw [htk, set_last (by omega), ← F_snoc] at hcut
  refine ⟨sg, [], F (pre ++ [es]), ((count + 1 : Nat) : Int), h1, ?_⟩
  have hsgl := h1.length
  rw [List.length_append, List.length_singleton] at hsgl
  have n0 : ¬ (0 : Int) < (([] : List Int).length : Int) := by simp
  have n1 : ¬ (sg.length : Int) = 0 := by omega
  have z4 : ¬ (4 : Int) = 0 := by decide
  have hlx := last_ix (s := (((pre.length + 1 : Nat) : Int), ((pre.flatten.length : Nat) : Int), ((lastT 0 pre.flatten : Nat) : Int), es, ed)) (show sp.length < 1000000 by omega)
  have c1 : (0 : Int) ≤ (sp.length : Int) := by omega
  have c2 : (sp.length : Int) < ((sp ++ [(((pre.length + 1 : Nat) : Int), ((pre.flatten.length : Nat) : Int), ((lastT 0 pre.flatten : Nat) : Int), es, ed)]).length : Int) := by rw [List.length_append, List.length_singleton]; omega
  have hlong := g6.2
  have hname := name_eq (k := pre.length + 1) (by omega)
  unfold OpenIs
  rw [wOpen_un, wOpen_b]
  simp only [down_eq, Option.bind_some, cond_false, hard_none hh, decide_true, Bool.not_true, h2, read_hardnew hn, cond_if, if_neg z4, two_inl, if_neg n0, if_neg n1, Bool.not_false, cond_true]
  rw [hsg]
  simp only [hlx, if_pos c1, if_pos c2, nat_at, last_at, Option.bind_some, hname, hlong, hcut, decide_true, Bool.not_true, cond_false, sync_eq]
theorem open_remove {cs : CL} {p r : List UInt8} {sure : MapB} {wait : List Chg} {count : Nat} (hok : OkC cs) (hne : cs ≠ []) (hpr : p ++ r = bse cs) (hr : r ≠ []) (hw : wait.length < 1000) (hc : count < 100000) :
    ∃ sg wait' sure' count', SR cs sg ∧ OpenIs sure (F cs ++ [(wn (cs.length + 1), p)]) wait (count : Int) [] sure' (F cs) wait' count' sg := by
  have hle := hok.1
  obtain ⟨sg, h1, h2⟩ := read_B hok hpr hr
  obtain ⟨hh, hn⟩ := no_hard (keysA (pre := cs) (v := p)) (by omega)
  have hrem := remove_no (k := cs.length + 1) (sure := sure) (now := F cs ++ [(wn (cs.length + 1), p)]) (wait := wait) (count := count) (falls := []) (by omega) (.inl rfl) (by omega) (by omega) (by rw [get_last (by omega)]; rfl)
  rw [del_last (by omega)] at hrem
  refine ⟨sg, [], F cs, ((count + 1 : Nat) : Int), h1, ?_⟩
  have hsgl := h1.length
  have hpos := List.length_pos_iff.2 hne
  have n0 : (0 : Int) < (([((cs.length + 1 : Nat) : Int)] : List Int).length : Int) := by simp
  have n2 : ¬ (1 : Int) < (([((cs.length + 1 : Nat) : Int)] : List Int).length : Int) := by simp
  have n1 : ¬ (sg.length : Int) = 0 := by omega
  have z4 : ¬ (4 : Int) = 0 := by decide
  have hname := name_eq (k := cs.length + 1) (by omega)
  unfold OpenIs
  rw [wOpen_un, wOpen_b]
  simp only [down_eq, Option.bind_some, cond_false, hard_none hh, decide_true, Bool.not_true, h2, read_hardnew hn, cond_if, if_neg z4, two_inl, if_pos n0, if_neg n2, if_neg n1, List.getElem?_cons_zero, hname, hrem, sync_eq]
theorem open_new : OpenIs [] [] [] 0 [] (F [[]]) (F [[]]) [] 1 [(1, 0, 0, [], [])] := by
  have hw := write_no (k := 1) (s := baseB 0 0) (sure := []) (now := []) (wait := []) (count := 0) (falls := []) (by omega) (.inl rfl) (by simp) (by omega)
  have hset : mset (wn 1) (baseB 0 0) [] = F [[]] := by simp [mset, F, filesFrom]
  rw [hset] at hw
  have hb := base_eq (i := 0) (t := 0) (by omega) (by omega)
  have hname := name_eq (k := 1) (by omega)
  have z0 : ((0 : Nat) : Int) = 0 := rfl
  have z1 : ((1 : Nat) : Int) = 1 := rfl
  rw [z0] at hb
  rw [z1] at hname
  simp only [z0] at hw
  have n0 : ¬ (0 : Int) < (([] : List Int).length : Int) := by simp
  have n1 : (([] : List Seg).length : Int) = 0 := by simp
  have z4 : ¬ (4 : Int) = 0 := by decide
  unfold OpenIs
  rw [wOpen_un, wOpen_b]
  simp only [down_eq, Option.bind_some, cond_false, hard_none (m := []) rfl, decide_true, Bool.not_true, read_nil, read_hardnew (now := []) rfl, cond_if, if_neg z4, two_inl, if_neg n0, if_pos n1, hname, hb, hw, sync_eq]
  rfl
end Go.Proofs.YthnhbejjikgifaaGreatDoor.TV

/-
  WAL: what was told as laid is there, in plain words: the printed law answers true.
-/
namespace Go.Proofs.YthnhbejjikgifaaGreatDoor.TV
open Go Go.RowKit
set_option linter.unusedSimpArgs false
set_option linter.unusedVariables false
set_option maxRecDepth 100000

/-! ### All entries; copies; beginnings -/
theorem from_loop {sg : List Seg} : ∀ (rest done : List Seg) (cs : CL) (k i t : Nat) (acc : List Ent), sg = done ++ rest → SegsR k i t cs rest → sg.length < 1000 → (∀ c ∈ cs, c.length ≤ 8) → i + 8 * cs.length < 100000 → acc.length + 8 * cs.length < 100000 →
    loop (wFrom_l0 0 sg) (acc, ((done.length : Int), ())) = some (.inl (acc ++ cs.flatten, ((sg.length : Int), ())))
  | [], done, [], k, i, t, acc, hsg, _, _, _, _, _ => by
    have hl : sg.length = done.length := by rw [hsg]; simp
    have h0 : ¬ (done.length : Int) < (done.length : Int) := by omega
    rw [loop_eq]
    simp only [wFrom_l0, cond_if, hl, if_neg h0, List.flatten_nil, List.append_nil]
  | s :: rest, done, c :: cs, k, i, t, acc, hsg, hr, hl, h8, hi, ha => by
    obtain ⟨⟨g2, g3, g4, g5, g6⟩, hr'⟩ := hr
    obtain ⟨n, x, y, es, ed⟩ := s
    simp only at g2 g3 g4 g5 g6
    subst g2 g3 g4 g5
    have hc8 := h8 es (by simp)
    rw [List.length_cons] at hi ha
    have hlen : sg.length = done.length + (rest.length + 1) := by rw [hsg]; simp
    have h0 : (done.length : Int) < (sg.length : Int) := by omega
    have h1 : (0 : Int) ≤ (done.length : Int) := by omega
    have hg : sg[done.length]? = some ((k : Int), ((i : Int), ((t : Int), (es, ed)))) := by rw [hsg, List.getElem?_append_right (Nat.le_refl _)]; simp
    have w1 : IntKind.wrap .i64 ((i : Int) + (es.length : Int)) = ((i + es.length : Nat) : Int) := by rw [w64 (by omega)]; omega
    have h2 : (0 : Int) ≤ ((i + es.length : Nat) : Int) := by omega
    have w2 : IntKind.wrap .i64 (0 - (i : Int)) = - (i : Int) := by rw [w64 (by omega)]; omega
    have w3 : IntKind.wrap .i64 (- (i : Int) - 1) = - (i : Int) - 1 := w64 (by omega)
    have h3 : (0 : Int) > - (i : Int) - 1 := by omega
    have h4 : within es.length (some 0) none = true := by simp only [within, decide_eq_true_eq]; omega
    have hsg' : sg = (done ++ [((k : Int), ((i : Int), ((t : Int), (es, ed))))]) ++ rest := by rw [hsg]; simp
    have e1 : (done ++ [((k : Int), ((i : Int), ((t : Int), (es, ed))))]).length = done.length + 1 := by simp
    rw [loop_eq]
    simp only [wFrom_l0, cond_if, if_pos h0, if_pos h1, nat_at, hg, Option.bind_some, w1, if_pos h2, w2, w3, if_pos h3, h4, cond_true, cut, Int.reduceToNat, List.drop_zero, wsucc (i := done.length) (by omega)]
    by_cases hes : es = []
    · subst hes
      have ih := from_loop rest _ cs _ _ _ acc hsg' hr' hl (fun c hc => h8 c (by simp [hc])) (by simp only [List.length_nil]; omega) (by omega)
      rw [e1] at ih
      simp only [List.isEmpty_nil, cond_true, List.flatten_cons, List.nil_append]
      exact ih
    · have he : es.isEmpty = false := by cases es with | nil => exact (hes rfl).elim | cons _ _ => rfl
      have h5 : (acc.length + es.length) * 32 ≤ 140737488355328 := by omega
      have ih := from_loop rest _ cs _ _ _ (acc ++ es) hsg' hr' hl (fun c hc => h8 c (by simp [hc])) (by omega) (by rw [List.length_append]; omega)
      rw [e1, List.append_assoc] at ih
      simp only [he, cond_false, if_pos h5, List.flatten_cons]
      exact ih
  | [], _, _ :: _, _, _, _, _, _, h, _, _, _, _ => h.elim
  | _ :: _, _, [], _, _, _, _, _, h, _, _, _, _ => h.elim
theorem from_eq {cs : CL} {sg : List Seg} (h : SR cs sg) (hok : OkC cs) : wFrom 0 sg = some (cs.flatten, (sg, ())) := by
  have hle := hok.1
  have := from_loop (sg := sg) sg [] cs 1 0 0 [] rfl h (by rw [h.length]; omega) (fun c hc => (hok.2 c hc).1) (by omega) (by simp only [List.length_nil]; omega)
  have z : ((([] : List Seg).length : Nat) : Int) = 0 := rfl
  rw [z, List.nil_append] at this
  rw [wFrom_un, wFrom_b, this]
  rfl
theorem refs_loop {l : List Ent} (hl : l.length < 1000000) : ∀ (rest done : List Ent), l = done ++ rest → loop (lRefs_l0 l) (done, ((done.length : Int), ())) = some (.inl (l, ((l.length : Int), ())))
  | [], done, h => by
    have h : l = done := by simpa using h
    subst h
    have h0 : ¬ (l.length : Int) < (l.length : Int) := by omega
    rw [loop_eq]
    simp only [lRefs_l0, cond_if, if_neg h0]
  | e :: rest, done, h => by
    have hlen : l.length = done.length + (rest.length + 1) := by rw [h]; simp
    have h0 : (done.length : Int) < (l.length : Int) := by omega
    have h1 : (0 : Int) ≤ (done.length : Int) := by omega
    have hg : l[done.length]? = some e := by rw [h, List.getElem?_append_right (Nat.le_refl _)]; simp
    have h2 : (done.length + 1) * 32 ≤ 140737488355328 := by omega
    have ih := refs_loop hl rest (done ++ [e]) (by rw [h]; simp)
    have e1 : (done ++ [e]).length = done.length + 1 := by simp
    rw [e1] at ih
    rw [loop_eq]
    obtain ⟨a, b, c⟩ := e
    simp only [lRefs_l0, cond_if, if_pos h0, if_pos h1, nat_at, hg, Option.bind_some, if_pos h2, wsucc (i := done.length) (by omega)]
    exact ih
theorem refs_eq {l : List Ent} (hl : l.length < 1000000) : lRefs l = some (l, ()) := by
  have := refs_loop hl l [] rfl
  have z : ((([] : List Ent).length : Nat) : Int) = 0 := rfl
  rw [z] at this
  rw [lRefs_un, lRefs_b, this]
  rfl
theorem beg_loop {l m : List Ent} (h : l <+: m) (hl : l.length < 1000000) : loop (lBeg_l0 l m) (0, ()) = some (.inl ((l.length : Int), ())) := by
  obtain ⟨r, h1, h2⟩ := loop_spec (lBeg_l0 l m) (fun st => ∃ i : Nat, st = ((i : Int), ()) ∧ i ≤ l.length) (fun st => l.length - st.1.toNat) (fun r => r = .inl ((l.length : Int), ())) (fun st hst => by
    obtain ⟨i, rfl, hi⟩ := hst
    by_cases hlt : i < l.length
    · left
      have h0 : (i : Int) < (l.length : Int) := by omega
      have h1 : (0 : Int) ≤ (i : Int) := by omega
      have hg : l[i]? = some l[i] := List.getElem?_eq_getElem hlt
      have hm : m[i]? = some l[i] := by
        obtain ⟨t, rfl⟩ := h
        rw [List.getElem?_append_left hlt]
        exact hg
      generalize l[i] = e at hg hm
      obtain ⟨a, b, c⟩ := e
      refine ⟨(((i + 1 : Nat) : Int), ()), ?_, ⟨i + 1, rfl, by omega⟩, ?_⟩
      · simp only [lBeg_l0, cond_if, if_pos h0, if_pos h1, nat_at, hg, hm, Option.bind_some, decide_true, Bool.and_self, Bool.not_true, cond_false, wsucc (i := i) (by omega)]
      · simp only [Int.toNat_natCast]
        omega
    · right; left
      have : i = l.length := by omega
      subst this
      have h0 : ¬ ((l.length : Nat) : Int) < (l.length : Int) := by omega
      exact ⟨_, by simp only [lBeg_l0, cond_if, if_neg h0], rfl⟩) (0, ()) ⟨0, rfl, by omega⟩
  subst h2
  exact h1
theorem beg_eq {l m : List Ent} (h : l <+: m) (hl : l.length < 1000000) : lBeg l m = some (true, ()) := by
  have hle : ¬ (m.length : Int) < (l.length : Int) := by have := h.length_le; omega
  rw [lBeg_un, lBeg_b]
  simp only [cond_if, if_neg hle, beg_loop h hl, two_inl]

/-! ### The power fails where nothing waits -/
theorem fail_nil {K T : Int} {m now : MapB} : dFail K T m now [] false = some (m, (m, ([], (true, ())))) := by
  obtain ⟨kn, hkk, hk⟩ := clamp K 0
  have hk0 : kn = 0 := by omega
  subst hk0
  have hkk' : (if ((([] : List Chg).length : Nat) : Int) < (if 0 > K then 0 else K) then ((([] : List Chg).length : Nat) : Int) else (if 0 > K then 0 else K)) = 0 := hkk
  have hin : within ([] : List Chg).length none (some 0) = true := by decide
  have hcl : (cut ([] : List Chg) none (some 0)).length = 0 := rfl
  have hl : loop (dFail_l0 K []) (0, (m, ())) = some (.inl (0, (m, ()))) := by
    rw [loop_eq]
    simp only [dFail_l0, hkk', hcl]
    rfl
  have n0 : ¬ (0 : Int) < ((([] : List Chg).length : Nat) : Int) := by simp
  rw [dFail_un, dFail_b, dDown_un, dDown_b]
  simp only [Option.bind_some, cond_false, hkk', hin, cond_true, hl, two_inl, cond_if, if_neg n0]
theorem fail_down {K T : Int} {m now : MapB} {ws : List Chg} : dFail K T m now ws true = some (m, (now, (ws, (true, ())))) := by
  rw [dFail_un, dFail_b, dDown_un, dDown_b]
  rfl

/-! ### The law -/
abbrev SureSt := List Ent × Int × Int × MapB × MapB × List Chg × Int × Bool × List Fall × List Seg × Bool × Unit
/-- All goes well so far. -/
def Well (fl : List Fall) : SureSt → Prop
  | (all, (sure, (i, (sm, (nm, (ws, (count, (down, (falls, (sg, (lost, _))))))))))) => ∃ (cs : CL) (n c : Nat), i = (n : Int) ∧ n ≤ 12 ∧ all = cs.flatten ∧ all.length ≤ 20 * n ∧ sure = (all.length : Int) ∧ sm = F cs ∧ nm = F cs ∧ ws = [] ∧ count = (c : Int) ∧ c ≤ 1 + 20 * n ∧ down = false ∧ falls = fl ∧ Live cs sg ∧ lost = false
/-- The power failed. -/
def Fell : SureSt → Prop
  | (all, (sure, (i, (sm, (nm, (ws, (count, (down, (falls, (sg, (lost, _))))))))))) => ∃ (a d : CL) (n c : Nat), i = (n : Int) ∧ sm = nm ∧ ws = [] ∧ count = (c : Int) ∧ c ≤ 1000 ∧ down = true ∧ falls = [] ∧ Rec sm a d ∧ sure = (a.flatten.length : Int) ∧ d.flatten <+: all ∧ all.length ≤ 300
theorem sure_loop (lists : List (List Ent)) {fl : List Fall} (hfl : fl.length ≤ 1) {st : SureSt} (h : Well fl st) : ∃ st', loop (lWalSure_l0 lists) st = some (.inl st') ∧ (Well fl st' ∨ Fell st') := by
  obtain ⟨r, h1, h2⟩ := loop_spec (lWalSure_l0 lists) (fun st => Well fl st ∨ Fell st) (fun st => 13 - st.2.2.1.toNat + (if st.2.2.2.2.2.2.2.1 then 0 else 1)) (fun r => ∃ st', r = .inl st' ∧ (Well fl st' ∨ Fell st')) (fun st hst => by
    rcases hst with hst | hst
    · obtain ⟨all, sure, i, sm, nm, ws, count, down, falls, sg, lost, ⟨⟩⟩ := st
      obtain ⟨cs, n, c, rfl, hn, rfl, hall, rfl, rfl, rfl, rfl, rfl, hc, rfl, rfl, hlive, rfl⟩ := hst
      by_cases hin : n < lists.length ∧ n < 12
      · obtain ⟨hin1, hin2⟩ := hin
        have g1 : (n : Int) < (lists.length : Int) := by omega
        have g2 : (n : Int) < 12 := by omega
        have g3 : (0 : Int) ≤ (n : Int) := by omega
        have hg : lists[n]? = some lists[n] := List.getElem?_eq_getElem hin1
        generalize lists[n] = es at hg
        by_cases h20 : (20 : Int) < (es.length : Int)
        · left
          refine ⟨_, by simp only [lWalSure_l0, cond_if, if_pos g1, if_pos g2, down_eq, Option.bind_some, Bool.not_false, two_inl, if_true, if_pos g3, nat_at, hg, if_pos h20, wsucc (i := n) (by omega)]; rfl, .inl ⟨cs, n + 1, c, rfl, by omega, rfl, (by show cs.flatten.length ≤ 20 * (n + 1); omega), rfl, rfl, rfl, rfl, rfl, by omega, rfl, rfl, hlive, rfl⟩, ?_⟩
          simp only [Int.toNat_natCast, Bool.false_eq_true, if_false]
          omega
        · have hes : es.length ≤ 20 := by omega
          have hok : OkC cs := shape_ok hlive.sh hlive.good (by omega)
          have hend := end_eq hlive.sr hlive.sh.ne hok
          have hrefs := refs_eq (l := es) (by omega)
          have w1 : IntKind.wrap .i64 (((cs.flatten.length : Nat) : Int) + 1) = ((cs.flatten.length + 1 : Nat) : Int) := wsucc (by omega)
          left
          rcases append_eq (es := es) (count := c) hlive (by omega) (by omega) hfl with ⟨x, hx, hap⟩ | ⟨hgood, sg', cs', c', hap, hl', hfl', hc'⟩ | ⟨hgood, sg', m, d, c', hap, hrec, hpre, hc'⟩
          · refine ⟨(cs.flatten, ((cs.flatten.length : Int), (((n + 1 : Nat) : Int), (F cs, (F cs, ([], ((c : Int), (false, (falls, (sg, (false, ()))))))))))), ?_, .inl ⟨cs, n + 1, c, rfl, by omega, rfl, by omega, rfl, rfl, rfl, rfl, rfl, by omega, rfl, rfl, hlive, rfl⟩, ?_⟩
            · simp only [lWalSure_l0, cond_if, if_pos g1, if_pos g2, down_eq, Option.bind_some, Bool.not_false, two_inl, if_true, if_pos g3, nat_at, hg, if_neg h20, hend, w1, hap, wsucc (i := n) (by omega)]
              rcases hx with rfl | rfl
              · rfl
              · rfl
            · simp only [Int.toNat_natCast, Bool.false_eq_true, if_false]
              omega
          · refine ⟨(cs'.flatten, ((cs'.flatten.length : Int), (((n + 1 : Nat) : Int), (F cs', (F cs', ([], ((c' : Int), (false, (falls, (sg', (false, ()))))))))))), ?_, .inl ⟨cs', n + 1, c', rfl, by omega, rfl, by rw [hfl', List.length_append]; omega, rfl, rfl, rfl, rfl, rfl, by omega, rfl, rfl, hl', rfl⟩, ?_⟩
            · have n1 : ¬ (0 : Int) = 1 := by decide
              have n2 : ¬ (0 : Int) = 2 := by decide
              have h32 : (cs.flatten.length + es.length) * 32 ≤ 140737488355328 := by omega
              simp only [lWalSure_l0, cond_if, if_pos g1, if_pos g2, down_eq, Option.bind_some, Bool.not_false, two_inl, if_true, if_pos g3, nat_at, hg, if_neg h20, hend, w1, hap, wsucc (i := n) (by omega), if_neg n1, if_neg n2, hrefs]
              by_cases he : es = []
              · subst he
                rw [hfl', List.append_nil]
                rfl
              · have hee : es.isEmpty = false := by cases es with | nil => exact (he rfl).elim | cons _ _ => rfl
                simp only [hee, cond_false, if_pos h32, cond_true]
                rw [hfl']
            · simp only [Int.toNat_natCast, Bool.false_eq_true, if_false]
              omega
          · refine ⟨(cs.flatten ++ es, ((cs.flatten.length : Int), (((n + 1 : Nat) : Int), (m, (m, ([], ((c' : Int), (true, ([], (sg', (true, ()))))))))))), ?_, .inr ⟨cs, d, n + 1, c', rfl, rfl, rfl, rfl, by omega, rfl, rfl, hrec, rfl, hpre, by rw [List.length_append]; omega⟩, ?_⟩
            · have n1 : ¬ (21 : Int) = 1 := by decide
              have n2 : ¬ (21 : Int) = 2 := by decide
              have n0 : ¬ (21 : Int) = 0 := by decide
              have h32 : (cs.flatten.length + es.length) * 32 ≤ 140737488355328 := by omega
              simp only [lWalSure_l0, cond_if, if_pos g1, if_pos g2, down_eq, Option.bind_some, Bool.not_false, two_inl, if_true, if_pos g3, nat_at, hg, if_neg h20, hend, w1, hap, wsucc (i := n) (by omega), if_neg n1, if_neg n2, if_neg n0, hrefs, decide_true, Bool.not_true, cond_false]
              by_cases he : es = []
              · subst he
                rw [List.append_nil]
                rfl
              · have hee : es.isEmpty = false := by cases es with | nil => exact (he rfl).elim | cons _ _ => rfl
                simp only [hee, cond_false, if_pos h32, cond_true]
            · simp only [Int.toNat_natCast, if_true]
              omega
      · right; left
        refine ⟨(cs.flatten, ((cs.flatten.length : Int), ((n : Int), (F cs, (F cs, ([], ((c : Int), (false, (falls, (sg, (false, ()))))))))))), ?_, _, rfl, .inl ⟨cs, n, c, rfl, hn, rfl, hall, rfl, rfl, rfl, rfl, rfl, hc, rfl, rfl, hlive, rfl⟩⟩
        by_cases g1 : (n : Int) < (lists.length : Int)
        · have g2 : ¬ (n : Int) < 12 := by omega
          simp only [lWalSure_l0, cond_if, if_pos g1, if_neg g2, two_inl, Bool.false_eq_true, if_false]
          rfl
        · simp only [lWalSure_l0, cond_if, if_neg g1, two_inl, Bool.false_eq_true, if_false]
          rfl
    · obtain ⟨all, sure, i, sm, nm, ws, count, down, falls, sg, lost, ⟨⟩⟩ := st
      have hst' := hst
      obtain ⟨a, d, n, c, rfl, rfl, rfl, rfl, hc, rfl, rfl, hrec, hsure, hpre, hall⟩ := hst
      right; left
      refine ⟨_, ?_, _, rfl, .inr hst'⟩
      by_cases g1 : (n : Int) < (lists.length : Int)
      · by_cases g2 : (n : Int) < 12
        · simp only [lWalSure_l0, cond_if, if_pos g1, if_pos g2, down_eq, Option.bind_some, Bool.not_true, two_inl, Bool.false_eq_true, if_false]
          rfl
        · simp only [lWalSure_l0, cond_if, if_pos g1, if_neg g2, two_inl, Bool.false_eq_true, if_false]
          rfl
      · simp only [lWalSure_l0, cond_if, if_neg g1, two_inl, Bool.false_eq_true, if_false]
        rfl) st (.inl h)
  obtain ⟨st', rfl, h3⟩ := h2
  exact ⟨st', h1, h3⟩
/-- Behind a fall, and a standing up. -/
theorem opened {K T : Int} {fl : List Fall} {st : SureSt} (h : Well fl st ∨ Fell st) : ∃ (m m' : MapB) (ws : List Chg) (sm' nm' : MapB) (ws' : List Chg) (count' : Int) (sg : List Seg) (cs : CL),
    dFail K T st.2.2.2.1 st.2.2.2.2.1 st.2.2.2.2.2.1 st.2.2.2.2.2.2.2.1 = some (m, (m', (ws, (true, ())))) ∧ OpenIs m m' ws st.2.2.2.2.2.2.1 st.2.2.2.2.2.2.2.2.1 sm' nm' ws' count' sg ∧ SR cs sg ∧ OkC cs ∧ cs ≠ [] ∧ st.2.1 ≤ (cs.flatten.length : Int) ∧ cs.flatten <+: st.1 := by
  obtain ⟨all, sure, i, sm, nm, ws, count, down, falls, sg, lost, ⟨⟩⟩ := st
  rcases h with h | h
  · obtain ⟨cs, n, c, rfl, hn, rfl, hall, rfl, rfl, rfl, rfl, rfl, hc, rfl, rfl, hlive, rfl⟩ := h
    have hok : OkC cs := shape_ok hlive.sh hlive.good (by omega)
    have hne := hlive.sh.ne
    obtain ⟨pre, cl, rfl, _⟩ := hlive.sh
    obtain ⟨sg', h1, h2⟩ := open_clean (sure := F (pre ++ [cl])) (wait := []) (count := (c : Int)) (falls := falls) hok
    exact ⟨_, _, _, _, _, _, _, sg', pre ++ [cl], fail_nil, h2, h1, hok, hne, Int.le_refl _, List.prefix_rfl⟩
  · obtain ⟨a, d, n, c, rfl, rfl, rfl, rfl, hc, rfl, rfl, hrec, rfl, hpre, hall⟩ := h
    obtain ⟨cs, p1, p2, hok, hne, hm⟩ := hrec
    have hle : ((a.flatten.length : Nat) : Int) ≤ (cs.flatten.length : Int) := by have := p1.length_le; omega
    have hpp := p2.trans hpre
    rcases hm with ⟨pre, cl, q, rfl, hq, rfl⟩ | ⟨p, r, hpr, hr, rfl⟩
    · by_cases hq0 : q = []
      · subst hq0
        obtain ⟨sg', h1, h2⟩ := open_clean (sure := F (pre ++ [cl])) (wait := []) (count := (c : Int)) (falls := []) hok
        rw [List.append_nil, ← F_snoc]
        exact ⟨_, _, _, _, _, _, _, sg', pre ++ [cl], fail_down, h2, h1, hok, hne, hle, hpp⟩
      · obtain ⟨sg', ws', sm', c', h1, h2⟩ := open_cut (sure := F pre ++ [(wn (pre.length + 1), bse pre ++ (cl.flatMap entB ++ q))]) (wait := []) (count := c) hok hq hq0 (by simp) (by omega)
        exact ⟨_, _, _, _, _, _, _, sg', pre ++ [cl], fail_down, h2, h1, hok, hne, hle, hpp⟩
    · obtain ⟨sg', ws', sm', c', h1, h2⟩ := open_remove (sure := F cs ++ [(wn (cs.length + 1), p)]) (wait := []) (count := c) hok hne hpr hr (by simp) (by omega)
      exact ⟨_, _, _, _, _, _, _, sg', cs, fail_down, h2, h1, hok, hne, hle, hpp⟩
theorem live_new : Live [[]] [(1, 0, 0, [], [])] :=
  ⟨⟨⟨rfl, rfl, rfl, rfl, by
      have := segL_new (n := 1) (i := 0) (t := 0) (by omega) (by omega)
      simpa using this⟩, trivial⟩, ⟨[], [], rfl, by simp, by simp, by simp⟩, by simp⟩
theorem walSure_true (lists : List (List Ent)) (At K T : Int) : lWalSure lists At K T = some (true, ()) := by
  have hnew := open_new
  unfold OpenIs at hnew
  have hch : dChanges 1 = some (1, ()) := by rw [dChanges_un, dChanges_b]
  have hplan : ∀ f : Fall, dPlan [f] [] = some ([f], ()) := fun f => by
    rw [dPlan_un, dPlan_b, cloneU_eq (by omega) (by simp)]
    rfl
  obtain ⟨st, h1, h2⟩ := sure_loop lists (fl := [(IntKind.wrap .i64 (1 + Int.tmod (IntKind.wrap .i64 (Int.tmod At 20 + 20)) 20), K, T)]) (by simp) (st := ([], (0, (0, (F [[]], (F [[]], ([], (1, (false, ([(IntKind.wrap .i64 (1 + Int.tmod (IntKind.wrap .i64 (Int.tmod At 20 + 20)) 20), K, T)], ([(1, 0, 0, [], [])], (false, ())))))))))))) ⟨[[]], 0, 1, rfl, by omega, rfl, by simp, rfl, rfl, rfl, rfl, rfl, by omega, rfl, rfl, live_new, rfl⟩
  obtain ⟨m, m', ws, sm', nm', ws', count', sg, cs, hf, ho, hsr, hok, hne, hle, hpp⟩ := opened (K := K) (T := T) h2
  obtain ⟨all, sure, i, sm, nm, ws0, count, down, falls, sg0, lost, ⟨⟩⟩ := st
  simp only at hf ho hle hpp
  have hup : dUp true = some (true, (false, ())) := by rw [dUp_un, dUp_b]
  have hfrom := from_eq hsr hok
  have hlen := hok.len
  have hrefs := refs_eq (l := cs.flatten) (by omega)
  have hbase : wBase sg = some (0, (0, (sg, ()))) := by
    cases cs with
    | nil => exact (hne rfl).elim
    | cons c cs => exact base_seg hsr
  have hbeg := beg_eq hpp (by omega)
  unfold OpenIs at ho
  rw [lWalSure_un, lWalSure_b, dNew_un, dNew_b]
  simp only [Option.bind_some, hnew, hch, hplan, h1, two_inl, hf, hup, ho, hfrom, hrefs, hbase, cond_if, if_true, if_pos hle, hbeg]
end Go.Proofs.YthnhbejjikgifaaGreatDoor.TV
