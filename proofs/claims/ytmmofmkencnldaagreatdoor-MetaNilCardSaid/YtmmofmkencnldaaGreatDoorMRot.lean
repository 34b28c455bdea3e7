/-
  META: a number's bits, turned round.
-/
import Derived.Test.YtmmofmkencnldaaGreatDoorTVPure
import Derived.Test.YtmmofmkencnldaaGreatDoorProg
import Derived.KernelRfl
namespace Go.Proofs.YtmmofmkencnldaaGreatDoor.TV
open Go Go.RowKit
set_option linter.unusedSimpArgs false
set_option linter.unusedVariables false
set_option maxRecDepth 100000

theorem follows : Tryz.prog.follows .mixedOrders = true := by kernel_rfl
theorem wrap_pos (z : Int) : (IntKind.u64.wrap z < 0) = False := by
  have : 0 ≤ IntKind.u64.wrap z := by
    unfold IntKind.wrap
    simp [IntKind.min, IntKind.max, IntKind.bits, IntKind.signed]
    omega
  simp
  omega
theorem bn_shl {P : Program} {t : TypeId} {k k' : IntKind} {a b : Int} (h : (b < 0) = False) : binT P .shl t (.int k a) (.int k' b) = some (.int k (k.wrap (a * 2 ^ (min b.toNat k.bits)))) := by simp only [binT, h, if_false]
theorem bn_shr {P : Program} {t : TypeId} {k k' : IntKind} {a b : Int} (h : (b < 0) = False) : binT P .shr t (.int k a) (.int k' b) = some (.int k (a.fdiv (2 ^ (min b.toNat k.bits)))) := by simp only [binT, h, if_false]
theorem bn_and {P : Program} {t : TypeId} {k : IntKind} {a b : Int} : binT P .and t (.int k a) (.int k b) = some (.int k (k.wrap ((BitVec.ofInt k.bits a &&& BitVec.ofInt k.bits b).toNat))) := by simp [binT]
theorem bn_or {P : Program} {t : TypeId} {k : IntKind} {a b : Int} : binT P .or t (.int k a) (.int k b) = some (.int k (k.wrap ((BitVec.ofInt k.bits a ||| BitVec.ofInt k.bits b).toNat))) := by simp [binT]
theorem cv_uint {s : St} {n : Int} : convT Tryz.prog s 3 177 (.int .i64 n) = some (.int .u64 (IntKind.u64.wrap n)) := by
  unfold convT
  rw [Tryz.underlying3, Tryz.underlying177]
/-- By how many places. -/
def rotBy (k : Int) : Int := IntKind.u64.wrap ((BitVec.ofInt IntKind.u64.bits (IntKind.u64.wrap k) &&& BitVec.ofInt IntKind.u64.bits 31).toNat)
def rotV (x k : Int) : Int := IntKind.u32.wrap ((BitVec.ofInt IntKind.u32.bits (IntKind.u32.wrap (x * 2 ^ (min (rotBy k).toNat IntKind.u32.bits))) ||| BitVec.ofInt IntKind.u32.bits (x.fdiv (2 ^ (min (IntKind.u64.wrap (32 - rotBy k)).toNat IntKind.u32.bits)))).toNat)
attribute [local go_sem] rt_nil rt_move rt_assign rt_read rt_guard wt_guard wt_none ir_move ir_assign ir_pick ir_build ir_buildSlice ir_load ir_nilCheck ir_bin ir_un ir_convert ir_makeInterface ir_makeFunc ir_slice ir_fieldAddr ir_field ir_indexAddr ir_index ir_lookup ir_extract ir_len ir_min ir_max ir_call ir_append ir_copy ir_alloc ir_box ir_store ir_makeSlice ir_makeMap ir_mapUpdate rd_move rd_assign rd_pick rd_build rd_buildSlice rd_load rd_nilCheck rd_bin rd_un rd_convert rd_slice rd_fieldAddr rd_field rd_indexAddr rd_index rd_extract rd_makeFunc rd_len rd_min rd_max gd_int gd_str gd_bool bn_add bn_sub bn_mul bn_quo bn_rem bn_eql bn_neq bn_lss bn_leq bn_gtr bn_geq bn_sadd bn_seql bn_sneq un_not un_neg oc_int oc_bool putE_some putE_none ev_const ev_tmp ev_func Env.at_set_ne Env.at_set_eq List.length_set if_true if_false Bool.false_eq_true ne_eq not_false_eq_true decide_true decide_false Option.bind_some List.getElem?_cons_zero List.getElem?_cons_succ Nat.succ_ne_zero Bool.true_eq_false Bool.not_true Bool.not_false beq_self_eq_true List.toList_toArray Option.bind_none bq_tl bq_fl bq_tr bq_fr undefT List.map_cons List.map_nil bn_shl bn_shr bn_and bn_or cv_uint wrap_pos
set_option maxHeartbeats 2000000 in
theorem rot_ok (x k : Int) : Pure Tryz.prog 195 [.int .u32 x, .int .i64 k] (.int .u32 (rotV x k)) := by
  refine Pure.body Tryz.func195 rfl fun s => ?_
  generalize he : ([TV.int .u32 x, TV.int .i64 k] ++ List.replicate (Tryz.f195.ntmps - [TV.int .u32 x, TV.int .i64 k].length) undefT) = e
  have h0 : Env.at e 0 = TV.int .u32 x := by rw [← he]; rfl
  have h1 : Env.at e 1 = TV.int .i64 k := by rw [← he]; rfl
  have hn : List.length e = 17 := by rw [← he]; rfl
  clear he
  repeat (first | (refine Do.seq ?_) | (refine Do.block ?_) | (apply Do.reads follows; (case hr => first | kernel_rfl | rfl); (case h => (repeat (first | with_reducible exact rt_nil | (apply readsTo.put; (case hw => simp only [go_sem, Nat.reduceEqDiff, Nat.reduceLT, Nat.reduceAdd, Nat.reduceLeDiff, Int.reduceLT, Int.reduceLE, h0, h1, hn]; done); (case hr => rfl); (case hd => rfl); (case hv => simp only [go_sem, Nat.reduceEqDiff, Nat.reduceLT, Nat.reduceAdd, Nat.reduceLeDiff, Int.reduceLT, Int.reduceLE, h0, h1, hn]; rfl)) | (apply readsTo.drop; (case hw => simp only [go_sem, Nat.reduceEqDiff, Nat.reduceLT, Nat.reduceAdd, Nat.reduceLeDiff, Int.reduceLT, Int.reduceLE, h0, h1, hn]; done); (case hd => rfl)) | (apply readsTo.stop; (case hw => simp only [go_sem, Nat.reduceEqDiff, Nat.reduceLT, Nat.reduceAdd, Nat.reduceLeDiff, Int.reduceLT, Int.reduceLE, h0, h1, hn]; done); (case hr => rfl))))))  | (refine Do.yes ?_ ?_; focus (simp only [go_sem, Nat.reduceEqDiff, Nat.reduceLT, Nat.reduceAdd, Nat.reduceLeDiff, Int.reduceLT, Int.reduceLE, h0, h1, hn]; done)) | (refine Do.no ?_ ?_; focus (simp only [go_sem, Nat.reduceEqDiff, Nat.reduceLT, Nat.reduceAdd, Nat.reduceLeDiff, Int.reduceLT, Int.reduceLE, h0, h1, hn]; done)) | (refine Do.skip ?_) | (refine Do.exit ?_) | (refine Do.ret ?_) | (refine Then.ret ?_) | (refine Then.normal ?_) | (refine Then.exit ?_) | (refine Out.ret ?_) | (refine Out.normal ?_) | (refine Out.here ?_) | (refine Out.off (by decide) ?_))
  refine Ends.one rfl ⟨?_, rfl⟩
  simp only [go_sem, Nat.reduceEqDiff, Nat.reduceLT, Nat.reduceAdd, Nat.reduceLeDiff, Int.reduceLT, Int.reduceLE, h0, h1, hn]
  rfl
end Go.Proofs.YtmmofmkencnldaaGreatDoor.TV
