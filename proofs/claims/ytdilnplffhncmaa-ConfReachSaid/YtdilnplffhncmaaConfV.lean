/-
  CONF: the statement ConfChanges on plain data.
-/
import Derived.Test.YtdilnplffhncmaaConfU
namespace Go.Proofs.Ytdilnplffhncmaa.TV
open Go Go.RowKit
set_option linter.unusedSimpArgs false
set_option linter.unusedVariables false
set_option maxRecDepth 100000

/-- What is given back: a list (which may be nil) and an error. -/
theorem confV_form (r : Option (List Int) × Int) : ∃ b l t, confV r = .tup [intsV b l t, .int .i64 r.2] ∧ (r.1 = none → l = []) ∧ (∀ l', r.1 = some l' → l = l') := by
  obtain ⟨o, e⟩ := r
  cases o with
  | none => exact ⟨_, _, _, rfl, fun _ => rfl, fun l' h => by cases h⟩
  | some l => exact ⟨_, _, _, rfl, fun h => by (cases h), fun l' h => by (cases h; rfl)⟩
theorem more_len (zs : List Int) (x : Int) : (moreL zs x).length ≤ 7 := List.length_filter_le _ cfL
theorem addL_len {zs : List Int} {x : Int} {l : List Int} (h : (addL zs x).1 = some l) : l.length ≤ 8 := by
  rw [← refAdd_eq] at h
  unfold refAddL at h
  split at h
  · cases h
  · split at h
    · cases h
    · split at h
      · cases h
      · cases h
        have := more_len zs x
        omega
theorem dropL_len {zs : List Int} {x : Int} {l : List Int} (h : (dropL zs x).1 = some l) : l.length ≤ zs.length := by
  unfold dropL at h
  split at h
  · cases h
  · split at h
    · cases h
    · split at h
      · cases h
      · cases h
        exact List.length_filter_le _ _

attribute [local go_sem] rt_nil rt_move rt_assign rt_read rt_guard wt_guard wt_none ir_move ir_assign ir_pick ir_build ir_buildSlice ir_load ir_nilCheck ir_bin ir_un ir_convert ir_makeInterface ir_makeFunc ir_slice ir_fieldAddr ir_field ir_indexAddr ir_index ir_lookup ir_extract ir_len ir_min ir_max ir_call ir_append ir_copy ir_alloc ir_box ir_store ir_makeSlice ir_makeMap ir_mapUpdate rd_move rd_assign rd_pick rd_build rd_buildSlice rd_load rd_nilCheck rd_bin rd_un rd_convert rd_slice rd_fieldAddr rd_field rd_indexAddr rd_index rd_extract rd_makeFunc rd_len rd_min rd_max gd_int gd_str gd_bool bn_add bn_sub bn_mul bn_quo bn_rem bn_eql bn_neq bn_lss bn_leq bn_gtr bn_geq bn_sadd bn_seql bn_sneq un_not un_neg oc_int oc_bool putE_some putE_none ev_const ev_tmp ev_func Env.at_set_ne Env.at_set_eq List.length_set if_true if_false Bool.false_eq_true ne_eq not_false_eq_true decide_true decide_false Option.bind_some List.getElem?_cons_zero List.getElem?_cons_succ Nat.succ_ne_zero Bool.true_eq_false Bool.not_true Bool.not_false beq_self_eq_true List.toList_toArray Option.bind_none bq_tl bq_fl bq_tr bq_fr undefT List.map_cons List.map_nil ints_len_i ints_at_i load_i bne_self_eq_false Int.natCast_zero List.length_nil
attribute [local go_sem] none_n newO_n setO_n ld_get set_get get_newO get_setO get_none sp_0 sp_s sp_c sp_n ok_c ok_n cells_agg cells_int cells_str cells_bool cells_ptr cells_slice cells_nilp ok_int ok_str ok_bool ok_ptr ok_slice ok_nilp List.drop_succ_cons List.drop_zero List.length_cons List.length_nil List.take_succ_cons List.take_zero Bool.and_true Bool.and_self List.take_nil List.drop_nil oc_nils eq_self
set_option maxHeartbeats 8000000 in
theorem changes_ok (b : Bool) (zs : List Int) (b' : Bool) (ws : List Int) (x : Int) (hb : b = true → zs = []) (hl : zs.length < 4611686018427387904) (hl' : ws.length < 4611686018427387904) :
    Pure Try.prog 5 [intsV b zs .unk, intsV b' ws .unk, .int .i64 x] (.bool true) := by
  have a1 := add_ok b zs .unk x (by intro i h; cases h) hb hl
  have a2 := refAdd_ok b zs .unk x (by intro i h; cases h) hl
  have d1 := drop_ok b zs .unk x (by intro i h; cases h) hb hl
  have d2 := refDrop_ok b zs .unk x (by intro i h; cases h) hl
  have n1 := near_ok b zs .unk b' ws .unk hl hl'
  have n2 := refNear_ok b zs .unk b' ws .unk hl hl'
  obtain ⟨ab, al, at', hA, hA1, hA2⟩ := confV_form (addL zs x)
  obtain ⟨db, dl, dt, hD, hD1, hD2⟩ := confV_form (dropL zs x)
  have hal : al.length < 4611686018427387904 := by
    cases h : (addL zs x).1 with
    | none => rw [hA1 h]; simp
    | some l => rw [hA2 l h]; have := addL_len h; omega
  have hdl : dl.length < 4611686018427387904 := by
    cases h : (dropL zs x).1 with
    | none => rw [hD1 h]; simp
    | some l => rw [hD2 l h]; have := dropL_len h; omega
  rw [hA] at a1 a2
  rw [hD] at d1 d2
  have i1 := intsEq_ok ab ab al al at' at' hal hal
  have i2 := intsEq_ok db db dl dl dt dt hdl hdl
  rw [decide_eq_true rfl] at i1 i2
  have bb : ∀ q : Bool, (q == q) = true := fun q => by cases q <;> rfl
  have ii : ∀ q : Int, (q == q) = true := fun q => by simp
  refine Pure.body Try.func5 rfl fun s => ?_
  generalize he : ([intsV b zs .unk, intsV b' ws .unk, TV.int .i64 x] ++ List.replicate (Try.f5.ntmps - [intsV b zs .unk, intsV b' ws .unk, TV.int .i64 x].length) undefT) = e
  have h0 : Env.at e 0 = intsV b zs .unk := by rw [← he]; rfl
  have h1 : Env.at e 1 = intsV b' ws .unk := by rw [← he]; rfl
  have h2 : Env.at e 2 = TV.int .i64 x := by rw [← he]; rfl
  have hn : List.length e = 69 := by rw [← he]; rfl
  clear he
  repeat (first | (refine Do.seq ?_) | (refine Do.block ?_) | (apply Do.reads follows; (case hr => first | kernel_rfl | rfl); (case h => (repeat (first | with_reducible exact rt_nil | (apply readsTo.put; (case hw => simp only [go_sem, Nat.reduceEqDiff, Nat.reduceLT, Nat.reduceAdd, Nat.reduceLeDiff, Int.reduceLT, Int.reduceLE, h0, h1, h2, hn, bn_beql Try.underlying4, bb, ii]; done); (case hr => rfl); (case hd => rfl); (case hv => simp only [go_sem, Nat.reduceEqDiff, Nat.reduceLT, Nat.reduceAdd, Nat.reduceLeDiff, Int.reduceLT, Int.reduceLE, h0, h1, h2, hn, bn_beql Try.underlying4, bb, ii]; rfl)) | (apply readsTo.drop; (case hw => simp only [go_sem, Nat.reduceEqDiff, Nat.reduceLT, Nat.reduceAdd, Nat.reduceLeDiff, Int.reduceLT, Int.reduceLE, h0, h1, h2, hn, bn_beql Try.underlying4, bb, ii]; done); (case hd => rfl)) | (apply readsTo.stop; (case hw => simp only [go_sem, Nat.reduceEqDiff, Nat.reduceLT, Nat.reduceAdd, Nat.reduceLeDiff, Int.reduceLT, Int.reduceLE, h0, h1, h2, hn, bn_beql Try.underlying4, bb, ii]; done); (case hr => rfl)))))) | (apply Do.regionS) | (refine DoS.nil ?_) | (apply DoS.sim named; (case hw => simp only [go_sem, Nat.reduceEqDiff, Nat.reduceLT, Nat.reduceAdd, Nat.reduceLeDiff, Int.reduceLT, Int.reduceLE, h0, h1, h2, hn, bn_beql Try.underlying4, bb, ii]; done); (case hc => simp only [calleeT, List.nil_append, List.append_nil, List.map_cons, List.map_nil, go_sem, Nat.reduceEqDiff, Nat.reduceLT, Nat.reduceAdd, Nat.reduceLeDiff, Int.reduceLT, Int.reduceLE, h0, h1, h2, hn, bn_beql Try.underlying4, bb, ii]; rfl); (case hs => first | exact a1 | exact Pure.at (a1) _ | exact a2 | exact Pure.at (a2) _ | exact d1 | exact Pure.at (d1) _ | exact d2 | exact Pure.at (d2) _ | exact awake_ok | exact Pure.at (awake_ok) _ | exact i1 | exact Pure.at (i1) _ | exact i2 | exact Pure.at (i2) _ | exact n1 | exact Pure.at (n1) _ | exact n2 | exact Pure.at (n2) _)) | (apply DoS.eff; (case hw => simp only [go_sem, Nat.reduceEqDiff, Nat.reduceLT, Nat.reduceAdd, Nat.reduceLeDiff, Int.reduceLT, Int.reduceLE, h0, h1, h2, hn, bn_beql Try.underlying4, bb, ii]; done); (case hv => simp only [ef_append, ef_copy, ef_alloc, ef_box, ef_store, mkObj_new, go_sem, Nat.reduceEqDiff, Nat.reduceLT, Nat.reduceAdd, Nat.reduceLeDiff, Int.reduceLT, Int.reduceLE, h0, h1, h2, hn, bn_beql Try.underlying4, bb, ii]; rfl)) | (apply DoS.rd; (case h => (repeat (first | with_reducible exact rt_nil | (apply readsTo.put; (case hw => simp only [go_sem, Nat.reduceEqDiff, Nat.reduceLT, Nat.reduceAdd, Nat.reduceLeDiff, Int.reduceLT, Int.reduceLE, h0, h1, h2, hn, bn_beql Try.underlying4, bb, ii]; done); (case hr => rfl); (case hd => rfl); (case hv => simp only [go_sem, Nat.reduceEqDiff, Nat.reduceLT, Nat.reduceAdd, Nat.reduceLeDiff, Int.reduceLT, Int.reduceLE, h0, h1, h2, hn, bn_beql Try.underlying4, bb, ii]; rfl)) | (apply readsTo.drop; (case hw => simp only [go_sem, Nat.reduceEqDiff, Nat.reduceLT, Nat.reduceAdd, Nat.reduceLeDiff, Int.reduceLT, Int.reduceLE, h0, h1, h2, hn, bn_beql Try.underlying4, bb, ii]; done); (case hd => rfl)) | (apply readsTo.stop; (case hw => simp only [go_sem, Nat.reduceEqDiff, Nat.reduceLT, Nat.reduceAdd, Nat.reduceLeDiff, Int.reduceLT, Int.reduceLE, h0, h1, h2, hn, bn_beql Try.underlying4, bb, ii]; done); (case hr => rfl))))); first | (refine DoS.nil ?_) | (apply DoS.sim named; (case hw => simp only [go_sem, Nat.reduceEqDiff, Nat.reduceLT, Nat.reduceAdd, Nat.reduceLeDiff, Int.reduceLT, Int.reduceLE, h0, h1, h2, hn, bn_beql Try.underlying4, bb, ii]; done); (case hc => simp only [calleeT, List.nil_append, List.append_nil, List.map_cons, List.map_nil, go_sem, Nat.reduceEqDiff, Nat.reduceLT, Nat.reduceAdd, Nat.reduceLeDiff, Int.reduceLT, Int.reduceLE, h0, h1, h2, hn, bn_beql Try.underlying4, bb, ii]; rfl); (case hs => first | exact a1 | exact Pure.at (a1) _ | exact a2 | exact Pure.at (a2) _ | exact d1 | exact Pure.at (d1) _ | exact d2 | exact Pure.at (d2) _ | exact awake_ok | exact Pure.at (awake_ok) _ | exact i1 | exact Pure.at (i1) _ | exact i2 | exact Pure.at (i2) _ | exact n1 | exact Pure.at (n1) _ | exact n2 | exact Pure.at (n2) _)) | (apply DoS.eff; (case hw => simp only [go_sem, Nat.reduceEqDiff, Nat.reduceLT, Nat.reduceAdd, Nat.reduceLeDiff, Int.reduceLT, Int.reduceLE, h0, h1, h2, hn, bn_beql Try.underlying4, bb, ii]; done); (case hv => simp only [ef_append, ef_copy, ef_alloc, ef_box, ef_store, mkObj_new, go_sem, Nat.reduceEqDiff, Nat.reduceLT, Nat.reduceAdd, Nat.reduceLeDiff, Int.reduceLT, Int.reduceLE, h0, h1, h2, hn, bn_beql Try.underlying4, bb, ii]; rfl)))| ((apply Do.region follows; (case hr => first | kernel_rfl | rfl)); (repeat (first | (apply DoU.sim named; (case hw => simp only [go_sem, Nat.reduceEqDiff, Nat.reduceLT, Nat.reduceAdd, Nat.reduceLeDiff, Int.reduceLT, Int.reduceLE, h0, h1, h2, hn, bn_beql Try.underlying4, bb, ii]; done); (case hr => rfl); (case hc => simp only [calleeT, List.nil_append, List.append_nil, List.map_cons, List.map_nil, go_sem, Nat.reduceEqDiff, Nat.reduceLT, Nat.reduceAdd, Nat.reduceLeDiff, Int.reduceLT, Int.reduceLE, h0, h1, h2, hn, bn_beql Try.underlying4, bb, ii]; rfl); (case hp => first | exact a1 | exact Pure.at (a1) _ | exact a2 | exact Pure.at (a2) _ | exact d1 | exact Pure.at (d1) _ | exact d2 | exact Pure.at (d2) _ | exact awake_ok | exact Pure.at (awake_ok) _ | exact i1 | exact Pure.at (i1) _ | exact i2 | exact Pure.at (i2) _ | exact n1 | exact Pure.at (n1) _ | exact n2 | exact Pure.at (n2) _)) | (apply DoU.rd; (case h => (repeat (first | with_reducible exact rt_nil | (apply readsTo.put; (case hw => simp only [go_sem, Nat.reduceEqDiff, Nat.reduceLT, Nat.reduceAdd, Nat.reduceLeDiff, Int.reduceLT, Int.reduceLE, h0, h1, h2, hn, bn_beql Try.underlying4, bb, ii]; done); (case hr => rfl); (case hd => rfl); (case hv => simp only [go_sem, Nat.reduceEqDiff, Nat.reduceLT, Nat.reduceAdd, Nat.reduceLeDiff, Int.reduceLT, Int.reduceLE, h0, h1, h2, hn, bn_beql Try.underlying4, bb, ii]; rfl)) | (apply readsTo.drop; (case hw => simp only [go_sem, Nat.reduceEqDiff, Nat.reduceLT, Nat.reduceAdd, Nat.reduceLeDiff, Int.reduceLT, Int.reduceLE, h0, h1, h2, hn, bn_beql Try.underlying4, bb, ii]; done); (case hd => rfl)) | (apply readsTo.stop; (case hw => simp only [go_sem, Nat.reduceEqDiff, Nat.reduceLT, Nat.reduceAdd, Nat.reduceLeDiff, Int.reduceLT, Int.reduceLE, h0, h1, h2, hn, bn_beql Try.underlying4, bb, ii]; done); (case hr => rfl))))); (apply DoU.sim named; (case hw => simp only [go_sem, Nat.reduceEqDiff, Nat.reduceLT, Nat.reduceAdd, Nat.reduceLeDiff, Int.reduceLT, Int.reduceLE, h0, h1, h2, hn, bn_beql Try.underlying4, bb, ii]; done); (case hr => rfl); (case hc => simp only [calleeT, List.nil_append, List.append_nil, List.map_cons, List.map_nil, go_sem, Nat.reduceEqDiff, Nat.reduceLT, Nat.reduceAdd, Nat.reduceLeDiff, Int.reduceLT, Int.reduceLE, h0, h1, h2, hn, bn_beql Try.underlying4, bb, ii]; rfl); (case hp => first | exact a1 | exact Pure.at (a1) _ | exact a2 | exact Pure.at (a2) _ | exact d1 | exact Pure.at (d1) _ | exact d2 | exact Pure.at (d2) _ | exact awake_ok | exact Pure.at (awake_ok) _ | exact i1 | exact Pure.at (i1) _ | exact i2 | exact Pure.at (i2) _ | exact n1 | exact Pure.at (n1) _ | exact n2 | exact Pure.at (n2) _))))); first | (refine DoU.nil ?_) | (apply DoU.rd; (case h => (repeat (first | with_reducible exact rt_nil | (apply readsTo.put; (case hw => simp only [go_sem, Nat.reduceEqDiff, Nat.reduceLT, Nat.reduceAdd, Nat.reduceLeDiff, Int.reduceLT, Int.reduceLE, h0, h1, h2, hn, bn_beql Try.underlying4, bb, ii]; done); (case hr => rfl); (case hd => rfl); (case hv => simp only [go_sem, Nat.reduceEqDiff, Nat.reduceLT, Nat.reduceAdd, Nat.reduceLeDiff, Int.reduceLT, Int.reduceLE, h0, h1, h2, hn, bn_beql Try.underlying4, bb, ii]; rfl)) | (apply readsTo.drop; (case hw => simp only [go_sem, Nat.reduceEqDiff, Nat.reduceLT, Nat.reduceAdd, Nat.reduceLeDiff, Int.reduceLT, Int.reduceLE, h0, h1, h2, hn, bn_beql Try.underlying4, bb, ii]; done); (case hd => rfl)) | (apply readsTo.stop; (case hw => simp only [go_sem, Nat.reduceEqDiff, Nat.reduceLT, Nat.reduceAdd, Nat.reduceLeDiff, Int.reduceLT, Int.reduceLE, h0, h1, h2, hn, bn_beql Try.underlying4, bb, ii]; done); (case hr => rfl))))); refine DoU.nil ?_)) | (refine Do.yes ?_ ?_; focus (simp only [go_sem, Nat.reduceEqDiff, Nat.reduceLT, Nat.reduceAdd, Nat.reduceLeDiff, Int.reduceLT, Int.reduceLE, h0, h1, h2, hn, bn_beql Try.underlying4, bb, ii]; done)) | (refine Do.no ?_ ?_; focus (simp only [go_sem, Nat.reduceEqDiff, Nat.reduceLT, Nat.reduceAdd, Nat.reduceLeDiff, Int.reduceLT, Int.reduceLE, h0, h1, h2, hn, bn_beql Try.underlying4, bb, ii]; done)) | (refine Do.skip ?_) | (refine Do.exit ?_) | (refine Do.ret ?_) | (refine Then.ret ?_) | (refine Then.normal ?_) | (refine Then.exit ?_) | (refine Out.ret ?_) | (refine Out.normal ?_) | (refine Out.here ?_) | (refine Out.off (by decide) ?_))
  exact Ends.one rfl ⟨by simp only [go_sem, Nat.reduceEqDiff, Nat.reduceLT, Nat.reduceAdd, Nat.reduceLeDiff, Int.reduceLT, Int.reduceLE, hn], rfl⟩
end Go.Proofs.Ytdilnplffhncmaa.TV
