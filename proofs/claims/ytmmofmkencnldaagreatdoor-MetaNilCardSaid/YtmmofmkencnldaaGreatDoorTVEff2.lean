/-
  TV: what makes or changes something (2): append, copy, make.
-/
import Derived.Test.YtmmofmkencnldaaGreatDoorTVEff1
namespace Go.Proofs.YtmmofmkencnldaaGreatDoor.TV
open Go Go.RowKit
set_option linter.unusedSimpArgs false
set_option linter.unusedVariables false

section
variable {P : Program} {g : G} {w : World} {s : St}

/-- A source of elements, as the model sees it. -/
structure Src (P : Program) (g : G) (w : World) (size : Nat) (ry : Value) (ys : List TV) (news : List Value) : Prop where
  len : ∀ w1, (Builtin.lenOf ry).run P w1 = .ok ys.length w1
  first : ∀ w1 m, w1.heap = w.heap → m ≤ ys.length → (Builtin.firstCells size m ry).run P w1 = .ok (news.take (m * size)).toArray w1
  rel : VRels g news (ys.flatMap TV.cells)
  size : ∀ e, e ∈ ys → e.cells.length = size

theorem cell_of_heap {w w1 : World} (h : w1.heap = w.heap) (a : Addr) : w1.cell? a = w.cell? a := by simp [World.cell?, h]

theorem first_cells {w1 : World} (h : w1.heap = w.heap) {b off len cap size m : Nat} {vs : List Value} (hl : m * size ≤ vs.length) (hc : ∀ i v, vs[i]? = some v → w.cell? ⟨b, off + i, none⟩ = some v) :
    (Builtin.firstCells size m (.slice (some ⟨b, off, none⟩) len cap)).run P w1 = .ok (vs.take (m * size)).toArray w1 :=
  run_firstCells_some w1 size m ⟨b, off, none⟩ len cap (vs.take (m * size)) (by rw [List.length_take]; omega) (fun j v hv => by
    rw [add_plain', cell_of_heap h]
    rw [List.getElem?_take] at hv
    split at hv
    · exact hc j v hv
    · cases hv)

theorem chunk_length (size : Nat) : ∀ (n : Nat) (cs : List TV), (chunk size n cs).length = n
  | 0, _ => rfl
  | n + 1, cs => by simp [chunk, chunk_length size n]
theorem chunk_flat {size : Nat} (hs : 0 < size) : ∀ (n : Nat) (cs : List TV), n * size ≤ cs.length → (cs.take (n * size)).all cellOk = true → (chunk size n cs).flatMap TV.cells = cs.take (n * size) ∧ ∀ e, e ∈ chunk size n cs → e.cells.length = size
  | 0, cs, _, _ => ⟨by simp [chunk], fun e he => by simp [chunk] at he⟩
  | n + 1, cs, hl, hok => by
    rw [Nat.succ_mul] at hl hok
    obtain ⟨h1, h2⟩ := chunk_flat hs n (cs.drop size) (by rw [List.length_drop]; omega) (by
      simp only [List.all_eq_true] at hok ⊢
      intro c hc
      refine hok c ?_
      rw [Nat.add_comm, List.take_add]
      exact List.mem_append_right _ hc)
    have hfirst : (if size = 1 then cs.headD .junk else .agg (cs.take size)).cells = cs.take size := by
      split
      · rename_i h; subst h
        cases cs with
        | nil => simp at hl
        | cons c cs =>
          have hc : cellOk c = true := by
            simp only [List.all_eq_true] at hok
            refine hok c ?_
            rw [Nat.add_comm, List.take_add]
            exact List.mem_append_left _ (by simp)
          simp only [List.headD_cons]
          cases c <;> first | rfl | simp [cellOk] at hc
      · rfl
    refine ⟨?_, fun e he => ?_⟩
    · simp only [chunk, List.flatMap_cons, hfirst, h1]
      rw [Nat.succ_mul, Nat.add_comm, List.take_add]
    · simp only [chunk, List.mem_cons] at he
      rcases he with rfl | he
      · rw [hfirst, List.length_take]; omega
      · exact h2 e he

theorem srcT_ok (hR : Rel P g w s) {size : Nat} (hs : 0 < size) {y : TV} {ry : Value} {ys : List TV} (hy : VRel g ry y) (h : srcT s size y = some ys) (hh : headOk size ys = true) (hok : slotOk ys = true) :
    ∃ news, Src P g w size ry ys news := by
  unfold srcT at h
  split at h
  · rename_i b es tok
    obtain rfl : es = ys := by simpa using h
    cases hy with
    | nils _ _ => exact ⟨[], fun w1 => rfl, fun w1 m _ hm => by simp [Builtin.firstCells], .nil, fun e he => by simp at he⟩
    | empty a cap _ _ _ =>
      refine ⟨[], fun w1 => rfl, fun w1 m _ hm => ?_, .nil, fun e he => by simp at he⟩
      have : m = 0 := by simpa using hm
      subst this
      simp [Builtin.firstCells, loadCells, loadCellsFrom]
    | slice bl off n cap size' vs _ _ hne hn hcap hs0 hse hsol hrel htok =>
      have hsz : size' = size := by
        cases es with
        | nil => exact absurd rfl hne
        | cons e _ => have := hse e List.mem_cons_self; simp [headOk] at hh; omega
      subst hsz
      have hl : vs.length = es.length * size' := by rw [hrel.length, flat_length hse]
      exact ⟨vs, fun w1 => by rw [← hn]; rfl, fun w1 m he hm => first_cells he (by rw [hl]; exact Nat.mul_le_mul_right _ hm) (fun i v hv => hR.sol _ _ _ (hsol i v hv)), hrel, hse⟩
  · rename_i b
    cases h
    cases hy with
    | str sb _ e =>
      have hsz : sb.size = b.length := by rw [← e]; exact Array.length_toList.symm
      refine ⟨b.map fun c => Value.int .u8 c.toNat, fun w1 => by simp [Builtin.lenOf, hsz], fun w1 m _ hm => ?_, ?_, fun e he => ?_⟩
      · rw [List.length_map] at hm
        by_cases hb : b = []
        · subst hb
          have : m = 0 := by simpa using hm
          subst this
          have : sb.data.toList = [] := e
          have h0 : sb.data = #[] := Array.toList_eq_nil_iff.1 this
          simp [Builtin.firstCells, ByteArray.data_extract, h0]
        · have h1 : size = 1 := by
            cases b with
            | nil => exact absurd rfl hb
            | cons c b => simp [headOk, TV.cells] at hh; omega
          subst h1
          simp only [Builtin.firstCells, Sem.run_pure, Nat.mul_one]
          congr 1
          apply Array.ext'
          simp [ByteArray.data_extract, Array.toList_extract, ← e, List.map_take]
      · have e1 : (b.map fun c => TV.int .u8 c.toNat) = (b.map fun c => (c.toNat : Int)).map (TV.int .u8) := by simp
        rw [e1, flat_ints]
        exact bytes_rel g b
      · obtain ⟨c, hc, rfl⟩ := List.mem_map.1 he
        cases b with
        | nil => simp at hc
        | cons c' b => simp [headOk, TV.cells] at hh ⊢; omega
  · rename_i o off len cap
    split at h
    · rename_i cs t' ho
      split at h
      · rename_i hl
        simp only [Bool.and_eq_true, decide_eq_true_eq] at hl
        cases h
        cases hy with
        | osl a _ _ _ _ cap' ha hlc hcc =>
          have hcl := chunk_length size len (cs.drop off)
          by_cases hc : len = 0
          · subst hc
            refine ⟨[], fun w1 => rfl, fun w1 m _ hm => ?_, .nil, fun e he => by simp [chunk] at he⟩
            have : m = 0 := by simpa [chunk] using hm
            subst this
            simp [Builtin.firstCells, loadCells, loadCellsFrom]
          · obtain ⟨b, e1, rfl⟩ := ha (by omega)
            obtain ⟨vs, h1, h2⟩ := objCells_rel hR e1 ho
            obtain ⟨h3, h4⟩ := chunk_flat hs len (cs.drop off) (by rw [List.length_drop]; omega) hl.2
            have hvl : vs.length = cs.length := h2.length
            refine ⟨(vs.drop off).take (len * size), fun w1 => by rw [hcl]; rfl, fun w1 m he hm => ?_, ?_, h4⟩
            · rw [hcl] at hm
              have hm' : m * size ≤ len * size := Nat.mul_le_mul_right _ hm
              refine first_cells he (by rw [List.length_take, List.length_drop]; omega) (fun i v hv => ?_)
              rw [List.getElem?_take] at hv
              split at hv
              · rw [List.getElem?_drop] at hv; exact h1 _ _ hv
              · cases hv
            · rw [h3]
              exact (h2.drop off).take _
      · cases h
    · cases h
  · cases h

theorem slot_cells {ys : List TV} (h : slotOk ys = true) : (ys.flatMap TV.cells).all cellOk = true := by
  simp only [slotOk, List.all_eq_true] at h
  simp only [List.all_eq_true, List.mem_flatMap]
  rintro c ⟨y, hy, hc⟩
  exact h y hy c hc

def noInt (P : Program) (u : TypeId) : Prop := (∃ e, P.underlying u = some (.slice e)) ∨ P.underlying u = some .string

theorem app_none {t u ty e : TypeId} (ht : P.underlying t = some (.slice e)) (hu : noInt P u) (hz : P.cellsOf e ≠ 0) {base : Option Addr} {n cap : Nat} (hn : n ≤ cap) {ry : Value} {news : List Value} (hy : Src P g w (P.cellsOf e) ry [] news) :
    (Builtin.append_ #[t, u] ty #[.slice base n cap, ry]).run P w = .ok (.slice base n cap) w := by
  have h1 := hy.len w
  have h2 := hy.first w 0 rfl (Nat.le_refl _)
  rcases hu with ⟨e', hd⟩ | hd
  all_goals
    cases base <;> simp [Builtin.append_, run_underlying ht, run_underlying hd, sizeOf_run' (w := w) hz, h1, h2, hn, storeCells]

theorem app_room {t u ty e : TypeId} (ht : P.underlying t = some (.slice e)) (hu : noInt P u) (hz : P.cellsOf e ≠ 0) {b n cap : Nat} {cur : Array Value} (hb : w.heap[b]? = some (.cells cur e (0, 0)))
    {ry : Value} {ys : List TV} {news : List Value} (hy : Src P g w (P.cellsOf e) ry ys news) (hl : news.length = ys.length * P.cellsOf e) (hroom : n + ys.length ≤ cap) (hfit : n * P.cellsOf e + news.length ≤ cur.size) (h1 : ∀ v ∈ news, v.oneCell' = true) :
    (Builtin.append_ #[t, u] ty #[.slice (some ⟨b, 0, none⟩) n cap, ry]).run P w =
      .ok (.slice (some ⟨b, 0, none⟩) (n + ys.length) cap) (w.setRow b (cur.toList.take (n * P.cellsOf e) ++ news ++ cur.toList.drop (n * P.cellsOf e + news.length)).toArray) := by
  have e1 := hy.len w
  have e2 := hy.first w ys.length rfl (Nat.le_refl _)
  rw [← hl, List.take_length] at e2
  have hst := run_storeCells_at P b (n * P.cellsOf e) e news 0 cur w hb (by simpa using hfit) h1
  simp only [Nat.add_zero] at hst
  rcases hu with ⟨e', hd⟩ | hd
  all_goals
    simp [Builtin.append_, run_underlying ht, run_underlying hd, sizeOf_run' (w := w) hz, e1, e2, hroom, add_plain', hst]

theorem app_grow {t u ty e : TypeId} (ht : P.underlying t = some (.slice e)) (hu : noInt P u) {i : TypeInfo} (hi : P.info? e = some i) {rz : Value} (hzv : i.zero = some rz) (hz : P.cellsOf e ≠ 0) {base : Option Addr} {n cap : Nat} {olds : List Value}
    (hold : (Builtin.firstCells (P.cellsOf e) n (.slice base n cap)).run P w.drew = .ok olds.toArray w.drew)
    {ry : Value} {ys : List TV} {news : List Value} (hy : Src P g w (P.cellsOf e) ry ys news) (hl : news.length = ys.length * P.cellsOf e) (hg : cap < n + ys.length) (hb : (n + ys.length) * P.bytesOf e ≤ 140737488355328) (hb0 : 0 < P.bytesOf e) :
    (Builtin.append_ #[t, u] ty #[.slice base n cap, ry]).run P w = .ok (.slice (some ⟨w.heap.size, 0, none⟩) (n + ys.length) (grownCap w (n + ys.length) cap e))
      (w.drew.alloc (.cells ((olds ++ news).toArray ++ Builtin.zeroCells rz.cells (grownCap w (n + ys.length) cap e - (n + ys.length))) e)) := by
  have e1 := hy.len w
  have e2 := hy.first w.drew ys.length rfl (Nat.le_refl _)
  rw [← hl, List.take_length] at e2
  have hby : i.bytes = P.bytesOf e := by simp [Program.bytesOf, hi]
  have hsz : i.size = P.cellsOf e := (cellsOf_info hi).symm
  have hn : ¬ (n + ys.length ≤ cap) := by omega
  have hlen : n + ys.length ≤ 140737488355328 := Nat.le_trans (Nat.le_mul_of_pos_right _ hb0) hb
  have hmax : IntKind.i64.max = 9223372036854775807 := rfl
  have hfit := growslice_fits (old := cap) (by omega) hb
  have h63 : ¬ ((9223372036854775807 : Int) < (n : Int) + (ys.length : Int)) := by omega
  have h48 : ¬ (281474976710656 < Builtin.nextslicecap (n + ys.length) cap * P.bytesOf e) := by omega
  have hs1 := sizeOf_run' (w := w) hz
  rcases hu with ⟨e', hd⟩ | hd
  all_goals
    simp [Builtin.append_, run_underlying ht, run_underlying hd, hs1, typeInfo, zeroValue, hi, hzv, hby, e1, hn, h63, h48, hmax, Question.forced, hold, e2, newRow, grownCap]
    congr 2
    apply Array.ext'
    simp

theorem own_grown {cap n cap' : Nat} {e : TypeId} {size base : Nat} {xs : List Value} {zs : Array Value} (hbase : base ≤ w.heap.size) (hn : n ≤ cap') (hc : cap' ≤ maxLen) (hl : xs.length = n * size) (hz : zs.size = (cap' - n) * size) :
    (w.drew.alloc (.cells (xs.toArray ++ zs) e)).ownsRow base e size (.slice (some ⟨w.heap.size, 0, none⟩) n cap') n xs := by
  refine ⟨hl, .inr ⟨w.heap.size, cap', xs.toArray ++ zs, rfl, hbase, heap_alloc_new w.drew _, hn, hc, ?_, ?_⟩⟩
  · simp only [Array.size_append, List.size_toArray, hl, hz, ← Nat.add_mul]
    congr 1
    omega
  · rw [Array.toList_append, ← hl]
    exact List.take_left

theorem tip_val {i n b cap size : Nat} {xs : List Value} {es : List TV} (hne : es ≠ []) (hlen : es.length = n) (hn : n ≤ cap) (hs : 0 < size) (hse : ∀ e, e ∈ es → e.cells.length = size) (hrel : VRels (g.addTip i n b cap xs) xs (es.flatMap TV.cells)) (hbb : g.base ≤ b) :
    VRel (g.addTip i n b cap xs) (.slice (some ⟨b, 0, none⟩) n cap) (.slice false es (.tip i)) := by
  refine .slice b 0 n cap size xs es _ hne hlen hn hs hse (fun j v hv => ?_) hrel ⟨?_, rfl, ?_, fun _ => ?_⟩
  · simp [G.addTip, hv, hbb]
  · show i < max g.ntips (i + 1)
    omega
  · simp [G.addTip]
  · simp [G.addTip]

/-- A slice of the call's that is laid anew. -/
theorem grow_ok (hR : Rel P g w s) {t u ty elem : TypeId} (ht : P.underlying t = some (.slice elem)) (hu : noInt P u) {ti : TypeInfo} (hti : P.info? elem = some ti) {rz : Value} (hrz : ti.zero = some rz) (hrzs : rz.cells.size = P.cellsOf elem)
    (hz0 : 0 < P.cellsOf elem) {base : Option Addr} {cap : Nat} {olds news : List Value} {es ys : List TV} (hold : (Builtin.firstCells (P.cellsOf elem) es.length (.slice base es.length cap)).run P w.drew = .ok olds.toArray w.drew)
    {ry : Value} (hn : Src P g w (P.cellsOf elem) ry ys news) (hyne : ys ≠ []) (horel : VRels g olds (es.flatMap TV.cells)) (hse : ∀ e, e ∈ es → e.cells.length = P.cellsOf elem) (hg : cap < es.length + ys.length)
    (hb : (es.length + ys.length) * P.bytesOf elem ≤ 140737488355328) (hb0 : 0 < P.bytesOf elem) {i : Nat} (hi : i ≤ s.ntips) (hit : i < s.ntips → g.tip i < es.length + ys.length) :
    ∃ rv w' g', (Builtin.append_ #[t, u] ty #[.slice base es.length cap, ry]).run P w = .ok rv w' ∧ g.le g' ∧ Rel P g' w' (s.addTip i (es.length + ys.length) elem) ∧ VRel g' rv (.slice false (es ++ ys) (.tip i)) := by
  have hylen : 0 < ys.length := List.length_pos_iff.2 hyne
  have hnl : news.length = ys.length * P.cellsOf elem := by rw [hn.rel.length, flat_length hn.size]
  have hol : olds.length = es.length * P.cellsOf elem := by rw [horel.length, flat_length hse]
  have hlen : es.length + ys.length ≤ 140737488355328 := Nat.le_trans (Nat.le_mul_of_pos_right _ hb0) hb
  have hmx : es.length + ys.length ≤ maxLen := by simp only [maxLen]; omega
  have hrun := app_grow (ty := ty) ht hu hti hrz (by omega) hold hn hnl hg hb hb0
  have hge := grownCap_ge w (es.length + ys.length) cap elem
  have hown := own_grown (w := w) (e := elem) (cap := cap) (n := es.length + ys.length) (size := P.cellsOf elem) (base := g.base) (xs := olds ++ news) (zs := Builtin.zeroCells rz.cells (grownCap w (es.length + ys.length) cap elem - (es.length + ys.length)))
    hR.bsize hge (grownCap_le_maxLen w _ _ _ hmx) (by rw [List.length_append, hol, hnl, Nat.add_mul]) (by rw [size_zeroCells, hrzs])
  obtain ⟨h1, h2⟩ := hR.appendNew (i := i) (e := elem) (((Below.refl _ w).drew).alloc (Nat.le_refl _) _) hi hit (by omega) (Nat.le_refl _) hz0 hown
  refine ⟨_, _, _, hrun, h1, h2, tip_val (fun e => ?_) (by rw [List.length_append]) hge hz0 (fun e he => ?_) ?_ hR.bsize⟩
  · exact hyne (List.append_eq_nil_iff.1 e).2
  · rcases List.mem_append.1 he with he | he
    · exact hse e he
    · exact hn.size e he
  · rw [List.flatMap_append]
    exact (horel.append hn.rel).mono h1

theorem appendT_ok (hR : Rel P g w s) {t u ty : TypeId} {x y v : TV} {rx ry : Value} (hx : VRel g rx x) (hy : VRel g ry y) {s' : St} (h : appendT P s t u x y = some (v, s')) :
    ∃ rv w' g', (Builtin.append_ #[t, u] ty #[rx, ry]).run P w = .ok rv w' ∧ g.le g' ∧ Rel P g' w' s' ∧ VRel g' rv v := by
  unfold appendT at h
  split at h
  · rename_i elem ud ht hud
    split at h
    · cases h
    · rename_i hni
      have hu : noInt P u := by
        cases ud <;> first | exact .inl ⟨_, hud⟩ | exact .inr hud | exact absurd rfl hni
      split at h
      · rename_i b es tok ys hsrc
        split at h
        · rename_i hemp
          split at h
          · rename_i hz
            cases h
            obtain rfl : ys = [] := by simpa using hemp
            obtain ⟨news, hn⟩ := srcT_ok hR hz hy hsrc rfl rfl
            cases hx with
            | nils _ hnt => exact ⟨_, w, g, app_none ht hu (by omega) (Nat.le_refl _) hn, .refl g, hR, .nils _ hnt⟩
            | empty a cap _ hnt hex => exact ⟨_, w, g, app_none ht hu (by omega) (Nat.zero_le _) hn, .refl g, hR, .empty _ _ _ hnt hex⟩
            | slice bl off n cap size vs _ _ hne hn' hcap hs0 hse hsol hrel htok => exact ⟨_, w, g, app_none ht hu (by omega) hcap hn, .refl g, hR, .slice bl off n cap size vs _ _ hne hn' hcap hs0 hse hsol hrel htok⟩
          · cases h
        · rename_i hemp
          have hyne : ys ≠ [] := by simpa using hemp
          have hylen : 0 < ys.length := List.length_pos_iff.2 hyne
          split at h
          · rename_i hc
            simp only [Bool.and_eq_true, decide_eq_true_eq] at hc
            obtain ⟨⟨⟨⟨⟨⟨hb, hb0⟩, hz0⟩, hhy⟩, hhe⟩, hok⟩, hzi⟩ := hc
            have hz : P.cellsOf elem ≠ 0 := by omega
            obtain ⟨news, hn⟩ := srcT_ok hR hz0 hy hsrc hhy hok
            obtain ⟨i, rz, hi, hrz, hrzs⟩ : ∃ i rz, P.info? elem = some i ∧ i.zero = some rz ∧ rz.cells.size = P.cellsOf elem := by
              unfold zeroFits at hzi
              split at hzi
              · rename_i z hzz
                simp only [Bool.and_eq_true, beq_iff_eq, Bool.not_eq_true'] at hzi
                obtain ⟨i, rz, h1, h2, _, h4⟩ := zero_cells hzz g (by intro e; subst e; simp [isJunk] at hzi)
                exact ⟨i, rz, h1, h2, by rw [← hzi.1, ← h4.length]; simp⟩
              · cases hzi
            have hnl : news.length = ys.length * P.cellsOf elem := by rw [hn.rel.length, flat_length hn.size]
            have hone : ∀ v ∈ news, v.oneCell' = true := hn.rel.oneCell (slot_cells hok)
            have hlen : es.length + ys.length ≤ 140737488355328 := Nat.le_trans (Nat.le_mul_of_pos_right _ hb0) hb
            have hmx : es.length + ys.length ≤ maxLen := by simp only [maxLen]; omega
            have hzl : ∀ k, (Builtin.zeroCells rz.cells k).size = k * P.cellsOf elem := fun k => by rw [size_zeroCells, hrzs]
            split at h
            · cases h
            · split at h
              · rename_i hoke
                have hs' : s.addTip s.ntips (es.length + ys.length) elem = { s with ntips := s.ntips + 1, tips := s.tips.set s.ntips (es.length + ys.length, elem) } := by
                  unfold St.addTip
                  rw [Nat.max_eq_right (Nat.le_succ _)]
                rw [← hs'] at h
                cases h
                cases hx with
                | nils _ _ => exact grow_ok hR ht hu hi hrz hrzs hz0 (es := []) (olds := []) (by simp [Builtin.firstCells]) hn hyne .nil (by intro e he; simp at he) (by simpa using hylen) hb hb0 (Nat.le_refl _) (fun h => absurd h (by omega))
                | empty a cap _ _ hex =>
                  have := hex rfl
                  subst this
                  exact grow_ok hR ht hu hi hrz hrzs hz0 (es := []) (olds := []) (by simp [Builtin.firstCells, loadCells, loadCellsFrom]) hn hyne .nil (by intro e he; simp at he) (by simpa using hylen) hb hb0 (Nat.le_refl _) (fun h => absurd h (by omega))
                | slice bl off n cap size vs _ _ hne hn' hcap hs0 hse hsol hrel htok =>
                  have hsz : size = P.cellsOf elem := by
                    cases es with
                    | nil => exact absurd rfl hne
                    | cons e _ => have := hse e List.mem_cons_self; simp [headOk] at hhe; omega
                  subst hsz
                  subst hn'
                  have hcn : cap = es.length := htok
                  have hvl : vs.length = es.length * P.cellsOf elem := by rw [hrel.length, flat_length hse]
                  have hf := first_cells (P := P) (w := w) (w1 := w.drew) rfl (b := bl) (off := off) (len := es.length) (cap := cap) (size := P.cellsOf elem) (m := es.length) (vs := vs) (by omega) (fun i v hv => hR.sol _ _ _ (hsol i v hv))
                  rw [List.take_of_length_le (by omega)] at hf
                  exact grow_ok hR ht hu hi hrz hrzs hz0 hf hn hyne hrel hse (by omega) hb hb0 (Nat.le_refl _) (fun h => absurd h (by omega))
              · cases h
            · rename_i i0
              split at h
              · rename_i n e hget
                split at h
                · rename_i hne'
                  simp only [Bool.and_eq_true, decide_eq_true_eq, beq_iff_eq] at hne'
                  obtain ⟨rfl, rfl⟩ := hne'
                  cases hx with
                  | nils _ hnt => exact absurd rfl (hnt _)
                  | empty _ _ _ hnt _ => exact absurd rfl (hnt _)
                  | slice bl off n cap size vs _ _ hne hn' hcap hs0 hse hsol hrel htok =>
                    have hsz : size = P.cellsOf e := by
                      cases es with
                      | nil => exact absurd rfl hne
                      | cons e _ => have := hse e List.mem_cons_self; simp [headOk] at hhe; omega
                    subst hsz
                    subst hn'
                    obtain ⟨k1, rfl, k3, k4⟩ := htok
                    obtain ⟨b0, cap0, e0, xs, t1, t2, t3⟩ := hR.toks i0 k1
                    rw [hget] at t2
                    simp only [Option.some.injEq, Prod.mk.injEq] at t2
                    obtain ⟨t4, rfl⟩ := t2
                    have t5 := k4 t4
                    rw [t1] at t5
                    cases t5
                    have hi0 : i0 < s.ntips := by rw [← hR.nts]; exact k1
                    have hs' : s.addTip i0 (es.length + ys.length) e = { s with tips := s.tips.set i0 (es.length + ys.length, e) } := by
                      unfold St.addTip
                      rw [Nat.max_eq_left (by omega)]
                    rw [← hs'] at h
                    cases h
                    have hvl : vs.length = es.length * P.cellsOf e := by rw [hrel.length, flat_length hse]
                    have hxl : xs.length = es.length * P.cellsOf e := by rw [t3.own.1, ← t4]
                    have hvx : vs = xs := by
                      apply List.ext_getElem?
                      intro j
                      by_cases hj : j < vs.length
                      · have h1 := hsol j _ (List.getElem?_eq_getElem hj)
                        rw [Nat.zero_add, t3.sol] at h1
                        rw [h1, List.getElem?_eq_getElem hj]
                      · rw [List.getElem?_eq_none (by omega), List.getElem?_eq_none (by omega)]
                    subst hvx
                    have hf := first_cells (P := P) (w := w) (w1 := w.drew) rfl (b := bl) (off := 0) (len := es.length) (cap := cap) (size := P.cellsOf e) (m := es.length) (vs := vs) (by omega) (fun i v hv => hR.sol _ _ _ (hsol i v hv))
                    rw [List.take_of_length_le (by omega)] at hf
                    by_cases hroom : es.length + ys.length ≤ cap
                    · rcases t3.own.2 with ⟨hnil, _⟩ | ⟨g0, cap1, cur, e1, hbase, hcur, hnc, hcm, hcs, htk⟩
                      · cases hnil
                      · injection e1 with e1 _ e3
                        injection e1 with e1
                        injection e1 with e1
                        subst e1
                        subst e3
                        have hmul : (es.length + ys.length) * P.cellsOf e ≤ cap * P.cellsOf e := Nat.mul_le_mul_right _ hroom
                        rw [Nat.add_mul] at hmul
                        have hrun := app_room (ty := ty) ht hu hz (n := es.length) (cap := cap) hcur hn hnl hroom (by omega) hone
                        rw [← t4] at htk
                        rw [htk] at hrun
                        have hown : (w.setRow bl (vs ++ news ++ cur.toList.drop (es.length * P.cellsOf e + news.length)).toArray).ownsRow g.base e (P.cellsOf e) (.slice (some ⟨bl, 0, none⟩) (es.length + ys.length) cap) (es.length + ys.length) (vs ++ news) := by
                          refine ⟨by rw [List.length_append, hvl, hnl, Nat.add_mul], .inr ⟨bl, cap, _, rfl, hbase, setRow_heap w bl cur _ e (0, 0) hcur, hroom, hcm, ?_, ?_⟩⟩
                          · simp only [List.size_toArray, List.length_append, List.length_drop, hvl, hnl, Array.length_toList, hcs]
                            omega
                          · rw [Nat.add_mul, ← hvl, ← hnl, ← List.length_append]
                            exact List.take_left
                        obtain ⟨h1, h2⟩ := hR.appendIn k1 t1 (by rw [← t4]; exact hget) (n := es.length + ys.length) (by omega) hcur hz0 (xs := vs ++ news) (fun j v hv => by
                          rw [t3.sol] at hv
                          rw [List.getElem?_append_left (List.getElem?_eq_some_iff.1 hv).1]
                          exact hv) hown
                        refine ⟨_, _, _, hrun, h1, h2, tip_val (fun e => ?_) (by rw [List.length_append]) hroom hz0 (fun e he => ?_) ?_ t3.lt.1⟩
                        · exact hyne (List.append_eq_nil_iff.1 e).2
                        · rcases List.mem_append.1 he with he | he
                          · exact hse e he
                          · exact hn.size e he
                        · rw [List.flatMap_append]
                          exact (hrel.append hn.rel).mono h1
                    · exact grow_ok hR ht hu hi hrz hrzs hz0 hf hn hyne hrel hse (by omega) hb hb0 (by omega) (fun _ => by omega)
                · cases h
              · cases h
          · cases h
      · cases h
  · cases h
end
end Go.Proofs.YtmmofmkencnldaaGreatDoor.TV
