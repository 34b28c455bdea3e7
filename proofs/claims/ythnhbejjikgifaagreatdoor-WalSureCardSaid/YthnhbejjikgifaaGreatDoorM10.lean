/-
  OCTET: a number in four bytes, the highest first (octet.Wide, four wide), as shapes take it. (5 texts, one behind the other)
-/
import Derived.Test.YthnhbejjikgifaaGreatDoorM09

namespace Go.Proofs.YthnhbejjikgifaaGreatDoor.TV
open Go Go.RowKit
set_option linter.unusedSimpArgs false
set_option linter.unusedVariables false
set_option maxRecDepth 100000

def wmkT (P : Program) (s : St) (t : TypeId) (l c : TV) : Option (TV × St) := match P.underlying t, l, c with
    | some (.slice elem), .int _ l, .int _ c =>
      if 0 ≤ l && l ≤ c && c * P.bytesOf elem ≤ 140737488355328 && c ≤ 9223372036854775807 && 0 < P.cellsOf elem then
        match zeroT P elem with
        | some z => if z.cells.all cellOk && z.cells.length == P.cellsOf elem then some (.osl s.n 0 l.toNat c.toNat, mkObj s (.cells ((List.replicate c.toNat z.cells).flatten) elem)) else none
        | none => none
      else none
    | _, _, _ => none
theorem wef_make {P : Program} {s : St} {dst : Option Tmp} {ty : TypeId} {pos : String} {after : Array Edge} {guard : Option (Nat × Bool)} {ρ : Operand → TV} {t : TypeId} {l c : Operand} :
    effT P s ρ ⟨dst, .makeSlice t l c, ty, pos, after, guard⟩ = wmkT P s t (ρ l) (ρ c) := rfl
theorem wmk4 {s : St} : wmkT Tryz.prog s 183 (.int .i64 4) (.int .i64 4) = some (.osl s.n 0 4 4, newO s [.int .u8 0, .int .u8 0, .int .u8 0, .int .u8 0] 5) := by
  have hz : zeroT Tryz.prog 5 = some (.int .u8 0) := by kernel_rfl
  have hb : Tryz.prog.bytesOf 5 = 1 := by kernel_rfl
  have hc : Tryz.prog.cellsOf 5 = 1 := by kernel_rfl
  simp [wmkT, Tryz.underlying183, hz, hb, hc, TV.cells, cellOk, mkObj, newO, List.replicate]
/-- Four bytes, the highest first. -/
def be4 (n : Nat) : List UInt8 := [UInt8.ofNat (n / 16777216 % 256), UInt8.ofNat (n / 65536 % 256), UInt8.ofNat (n / 256 % 256), UInt8.ofNat (n % 256)]
theorem be4_length (n : Nat) : (be4 n).length = 4 := rfl
/-- The row behind so many rounds. -/
def wrow (n : Nat) : Nat → List TV
  | 0 => [.int .u8 0, .int .u8 0, .int .u8 0, .int .u8 0]
  | 1 => [.int .u8 0, .int .u8 0, .int .u8 0, .int .u8 (n % 256 : Nat)]
  | 2 => [.int .u8 0, .int .u8 0, .int .u8 (n / 256 % 256 : Nat), .int .u8 (n % 256 : Nat)]
  | 3 => [.int .u8 0, .int .u8 (n / 65536 % 256 : Nat), .int .u8 (n / 256 % 256 : Nat), .int .u8 (n % 256 : Nat)]
  | _ => [.int .u8 (n / 16777216 % 256 : Nat), .int .u8 (n / 65536 % 256 : Nat), .int .u8 (n / 256 % 256 : Nat), .int .u8 (n % 256 : Nat)]
theorem wshr {t : TypeId} {n : Nat} {k : Int} {m : Nat} (h : (2 : Int) ^ min (Int.toNat k) IntKind.u64.bits = (m : Int)) (hk : ¬ k < 0) : binT Tryz.prog .shr t (.int .u64 n) (.int .i64 k) = some (.int .u64 ((n / m : Nat) : Int)) := by
  simp only [binT]
  rw [if_neg hk, h, Int.fdiv_eq_ediv_of_nonneg _ (by omega)]
  rfl
theorem wconv8 {s : St} {n : Nat} : convT Tryz.prog s 139 5 (.int .u64 n) = some (.int .u8 ((n % 256 : Nat) : Int)) := by
  simp [convT, Tryz.underlying139, Tryz.underlying5, wrap_u8]
theorem wat {o i : Nat} {z : Int} (hz : z = (i : Int)) (h : i < 4) : indexAddrT Tryz.prog 183 (.osl o 0 4 4) (.int .i64 z) = some (.ptr o i) := by
  subst hz
  have h1 : ¬ ((i : Int) < 0) := by omega
  have h2 : ((i : Int) < ((4 : Nat) : Int)) := by omega
  have hc : Tryz.prog.cellsOf 5 = 1 := by kernel_rfl
  simp [indexAddrT, Tryz.underlying183, h1, hc]
  omega
theorem wstr {s : St} {o n : Nat} (h : Is s o (wrow n 4) 5) : convT Tryz.prog s 183 9 (.osl o 0 4 4) = some (.str (be4 n)) := by
  simp [convT, Tryz.underlying183, Tryz.underlying9, Tryz.underlying5, objCells_is h, wrow, bytesOf, be4]
  refine ⟨?_, ?_, ?_, ?_⟩ <;> congr 1 <;> omega
theorem wcells_u8 {x : Int} : (TV.int .u8 x).cells = [.int .u8 x] := rfl
theorem wcellsOf_u8 : Tryz.prog.cellsOf 5 = 1 := by kernel_rfl
theorem wmul {x z : Int} (h : x * 1 = x) : True := trivial
attribute [local go_sem] rt_nil rt_move rt_assign rt_read rt_guard wt_guard wt_none ir_move ir_assign ir_pick ir_build ir_buildSlice ir_load ir_nilCheck ir_bin ir_un ir_convert ir_makeInterface ir_makeFunc ir_slice ir_fieldAddr ir_field ir_indexAddr ir_index ir_lookup ir_extract ir_len ir_min ir_max ir_call ir_append ir_copy ir_alloc ir_box ir_store ir_makeSlice ir_makeMap ir_mapUpdate rd_move rd_assign rd_pick rd_build rd_buildSlice rd_load rd_nilCheck rd_bin rd_un rd_convert rd_slice rd_fieldAddr rd_field rd_indexAddr rd_index rd_extract rd_makeFunc rd_len rd_min rd_max gd_int gd_str gd_bool bn_add bn_sub bn_mul bn_quo bn_rem bn_eql bn_neq bn_lss bn_leq bn_gtr bn_geq bn_sadd bn_seql bn_sneq un_not un_neg oc_int oc_bool putE_some putE_none ev_const ev_tmp ev_func Env.at_set_ne Env.at_set_eq List.length_set if_true if_false Bool.false_eq_true ne_eq not_false_eq_true decide_true decide_false Option.bind_some List.getElem?_cons_zero List.getElem?_cons_succ Nat.succ_ne_zero Bool.true_eq_false Bool.not_true Bool.not_false beq_self_eq_true List.toList_toArray Option.bind_none bq_tl bq_fl bq_tr bq_fr undefT List.map_cons List.map_nil bne_self_eq_false Int.natCast_zero List.length_nil
attribute [local go_sem] eq_self wef_make none_n newO_n List.length_cons List.length_nil Bool.and_true Bool.and_self Option.map_some
set_option maxHeartbeats 4000000 in
theorem wide_ok (n : Nat) (hlt : n < 4294967296) : Pure Tryz.prog 125 [.int .u64 n, .int .i64 4] (.tup [.str (be4 n), .int .i64 0]) := by
  have c1 : ¬ (4 : Int) < 1 := by decide
  have c2 : ¬ (8 : Int) < 4 := by decide
  have c3 : (4 : Int) < 8 := by decide
  have w32 : IntKind.i64.wrap 32 = 32 := by decide
  have w0 : IntKind.i64.wrap 0 = 0 := by decide
  have w8 : IntKind.i64.wrap 8 = 8 := by decide
  have w16 : IntKind.i64.wrap 16 = 16 := by decide
  have w24 : IntKind.i64.wrap 24 = 24 := by decide
  have w1 : IntKind.i64.wrap 1 = 1 := by decide
  have w2 : IntKind.i64.wrap 2 = 2 := by decide
  have w3 : IntKind.i64.wrap 3 = 3 := by decide
  have w4 : IntKind.i64.wrap 4 = 4 := by decide
  have s32 := wshr (t := 139) (n := n) (k := 32) (m := 4294967296) (by decide) (by decide)
  have s0 := wshr (t := 139) (n := n) (k := 0) (m := 1) (by decide) (by decide)
  have s8 := wshr (t := 139) (n := n) (k := 8) (m := 256) (by decide) (by decide)
  have s16 := wshr (t := 139) (n := n) (k := 16) (m := 65536) (by decide) (by decide)
  have s24 := wshr (t := 139) (n := n) (k := 24) (m := 16777216) (by decide) (by decide)
  have hz : n / 4294967296 = 0 := Nat.div_eq_of_lt hlt
  rw [hz] at s32
  have hz0 : ((0 : Nat) : Int) = 0 := rfl
  have b0 : ((0 : Int) != 0) = false := by decide
  refine Pure.body0 Tryz.func125 rfl rfl ?_
  generalize he : ([TV.int .u64 n, TV.int .i64 4] ++ List.replicate (Tryz.f125.ntmps - [TV.int .u64 n, TV.int .i64 4].length) undefT) = e
  have h0 : Env.at e 0 = TV.int .u64 n := by rw [← he]; rfl
  have h1 : Env.at e 1 = TV.int .i64 4 := by rw [← he]; rfl
  have hn : List.length e = 45 := by rw [← he]; rfl
  clear he
  repeat (first | (refine Do.seq ?_) | (refine Do.block ?_) | (apply Do.reads follows; (case hr => first | kernel_rfl | rfl); (case h => (repeat (first | with_reducible exact rt_nil | (apply readsTo.put; (case hw => simp only [go_sem, Nat.reduceEqDiff, Nat.reduceLT, Nat.reduceAdd, Nat.reduceLeDiff, Int.reduceLT, Int.reduceLE, h0, h1, hn, c1, c2, c3, w32, s32, hz0, b0, wmk4, Int.reduceMul]; done); (case hr => rfl); (case hd => rfl); (case hv => simp only [go_sem, Nat.reduceEqDiff, Nat.reduceLT, Nat.reduceAdd, Nat.reduceLeDiff, Int.reduceLT, Int.reduceLE, h0, h1, hn, c1, c2, c3, w32, s32, hz0, b0, wmk4, Int.reduceMul]; rfl)) | (apply readsTo.drop; (case hw => simp only [go_sem, Nat.reduceEqDiff, Nat.reduceLT, Nat.reduceAdd, Nat.reduceLeDiff, Int.reduceLT, Int.reduceLE, h0, h1, hn, c1, c2, c3, w32, s32, hz0, b0, wmk4, Int.reduceMul]; done); (case hd => rfl)) | (apply readsTo.stop; (case hw => simp only [go_sem, Nat.reduceEqDiff, Nat.reduceLT, Nat.reduceAdd, Nat.reduceLeDiff, Int.reduceLT, Int.reduceLE, h0, h1, hn, c1, c2, c3, w32, s32, hz0, b0, wmk4, Int.reduceMul]; done); (case hr => rfl)))))) | (apply Do.regionS) | (refine DoS.nil ?_) | (apply DoS.eff; (case hw => simp only [go_sem, Nat.reduceEqDiff, Nat.reduceLT, Nat.reduceAdd, Nat.reduceLeDiff, Int.reduceLT, Int.reduceLE, h0, h1, hn, c1, c2, c3, w32, s32, hz0, b0, wmk4, Int.reduceMul]; done); (case hv => simp only [ef_append, ef_copy, ef_alloc, ef_box, ef_store, mkObj_new, go_sem, Nat.reduceEqDiff, Nat.reduceLT, Nat.reduceAdd, Nat.reduceLeDiff, Int.reduceLT, Int.reduceLE, h0, h1, hn, c1, c2, c3, w32, s32, hz0, b0, wmk4, Int.reduceMul]; rfl)) | (apply DoS.rd; (case h => (repeat (first | with_reducible exact rt_nil | (apply readsTo.put; (case hw => simp only [go_sem, Nat.reduceEqDiff, Nat.reduceLT, Nat.reduceAdd, Nat.reduceLeDiff, Int.reduceLT, Int.reduceLE, h0, h1, hn, c1, c2, c3, w32, s32, hz0, b0, wmk4, Int.reduceMul]; done); (case hr => rfl); (case hd => rfl); (case hv => simp only [go_sem, Nat.reduceEqDiff, Nat.reduceLT, Nat.reduceAdd, Nat.reduceLeDiff, Int.reduceLT, Int.reduceLE, h0, h1, hn, c1, c2, c3, w32, s32, hz0, b0, wmk4, Int.reduceMul]; rfl)) | (apply readsTo.drop; (case hw => simp only [go_sem, Nat.reduceEqDiff, Nat.reduceLT, Nat.reduceAdd, Nat.reduceLeDiff, Int.reduceLT, Int.reduceLE, h0, h1, hn, c1, c2, c3, w32, s32, hz0, b0, wmk4, Int.reduceMul]; done); (case hd => rfl)) | (apply readsTo.stop; (case hw => simp only [go_sem, Nat.reduceEqDiff, Nat.reduceLT, Nat.reduceAdd, Nat.reduceLeDiff, Int.reduceLT, Int.reduceLE, h0, h1, hn, c1, c2, c3, w32, s32, hz0, b0, wmk4, Int.reduceMul]; done); (case hr => rfl))))); first | (refine DoS.nil ?_) | (apply DoS.eff; (case hw => simp only [go_sem, Nat.reduceEqDiff, Nat.reduceLT, Nat.reduceAdd, Nat.reduceLeDiff, Int.reduceLT, Int.reduceLE, h0, h1, hn, c1, c2, c3, w32, s32, hz0, b0, wmk4, Int.reduceMul]; done); (case hv => simp only [ef_append, ef_copy, ef_alloc, ef_box, ef_store, mkObj_new, go_sem, Nat.reduceEqDiff, Nat.reduceLT, Nat.reduceAdd, Nat.reduceLeDiff, Int.reduceLT, Int.reduceLE, h0, h1, hn, c1, c2, c3, w32, s32, hz0, b0, wmk4, Int.reduceMul]; rfl)))| ((apply Do.region follows; (case hr => first | kernel_rfl | rfl)); first | (refine DoU.nil ?_) | (apply DoU.rd; (case h => (repeat (first | with_reducible exact rt_nil | (apply readsTo.put; (case hw => simp only [go_sem, Nat.reduceEqDiff, Nat.reduceLT, Nat.reduceAdd, Nat.reduceLeDiff, Int.reduceLT, Int.reduceLE, h0, h1, hn, c1, c2, c3, w32, s32, hz0, b0, wmk4, Int.reduceMul]; done); (case hr => rfl); (case hd => rfl); (case hv => simp only [go_sem, Nat.reduceEqDiff, Nat.reduceLT, Nat.reduceAdd, Nat.reduceLeDiff, Int.reduceLT, Int.reduceLE, h0, h1, hn, c1, c2, c3, w32, s32, hz0, b0, wmk4, Int.reduceMul]; rfl)) | (apply readsTo.drop; (case hw => simp only [go_sem, Nat.reduceEqDiff, Nat.reduceLT, Nat.reduceAdd, Nat.reduceLeDiff, Int.reduceLT, Int.reduceLE, h0, h1, hn, c1, c2, c3, w32, s32, hz0, b0, wmk4, Int.reduceMul]; done); (case hd => rfl)) | (apply readsTo.stop; (case hw => simp only [go_sem, Nat.reduceEqDiff, Nat.reduceLT, Nat.reduceAdd, Nat.reduceLeDiff, Int.reduceLT, Int.reduceLE, h0, h1, hn, c1, c2, c3, w32, s32, hz0, b0, wmk4, Int.reduceMul]; done); (case hr => rfl))))); refine DoU.nil ?_)) | (refine Do.yes ?_ ?_; focus (simp only [go_sem, Nat.reduceEqDiff, Nat.reduceLT, Nat.reduceAdd, Nat.reduceLeDiff, Int.reduceLT, Int.reduceLE, h0, h1, hn, c1, c2, c3, w32, s32, hz0, b0, wmk4, Int.reduceMul]; done)) | (refine Do.no ?_ ?_; focus (simp only [go_sem, Nat.reduceEqDiff, Nat.reduceLT, Nat.reduceAdd, Nat.reduceLeDiff, Int.reduceLT, Int.reduceLE, h0, h1, hn, c1, c2, c3, w32, s32, hz0, b0, wmk4, Int.reduceMul]; done)) | (refine Do.skip ?_) | (refine Do.exit ?_) | (refine Do.ret ?_) | (refine Then.ret ?_) | (refine Then.normal ?_) | (refine Then.exit ?_) | (refine Out.ret ?_) | (refine Out.normal ?_) | (refine Out.here ?_) | (refine Out.off (by decide) ?_))
  refine Do.loop (fun m e' s' => List.length e' = 45 ∧ Env.at e' 0 = .int .u64 n ∧ Env.at e' 1 = .int .i64 4 ∧ Env.at e' 6 = .osl 0 0 4 4 ∧ Env.at e' 27 = .int .i64 4 ∧ Env.at e' 28 = .int .i64 ((4 - m : Nat) : Int) ∧ m ≤ 4 ∧ Is s' 0 (wrow n (4 - m)) 5) ?_ (n := 4) ?_
  · intro m e' s' ⟨hn, h0, h1, h6, h27, h28, hm, his⟩
    have hcase : m = 4 ∨ m = 3 ∨ m = 2 ∨ m = 1 ∨ m = 0 := by omega
    rcases hcase with rfl | rfl | rfl | rfl | rfl
    · have h28 : Env.at e' 28 = .int .i64 0 := h28
      have c : (0 : Int) < 4 := by decide
      have a := wat (o := 0) (z := 3) (i := 3) rfl (by decide)
      have st : setCellsT s' 0 3 [.int .u8 ((n / 1 % 256 : Nat) : Int)] = some (setO s' 0 (wrow n 1) 5) := by rw [Nat.div_one]; exact set_is his (by simp [wrow]) rfl
      repeat (first | (refine Do.seq ?_) | (refine Do.block ?_) | (apply Do.reads follows; (case hr => first | kernel_rfl | rfl); (case h => (repeat (first | with_reducible exact rt_nil | (apply readsTo.put; (case hw => simp only [go_sem, Nat.reduceEqDiff, Nat.reduceLT, Nat.reduceAdd, Nat.reduceLeDiff, Int.reduceLT, Int.reduceLE, h0, h1, h6, h27, h28, hn, c, w0, w1, w3, w4, s0, a, st, wconv8, wcells_u8, wcellsOf_u8, Int.reduceSub, Int.reduceMul, Int.reduceAdd, Int.reduceToNat, Nat.reduceMul, Nat.reduceAdd, Nat.zero_add]; done); (case hr => rfl); (case hd => rfl); (case hv => simp only [go_sem, Nat.reduceEqDiff, Nat.reduceLT, Nat.reduceAdd, Nat.reduceLeDiff, Int.reduceLT, Int.reduceLE, h0, h1, h6, h27, h28, hn, c, w0, w1, w3, w4, s0, a, st, wconv8, wcells_u8, wcellsOf_u8, Int.reduceSub, Int.reduceMul, Int.reduceAdd, Int.reduceToNat, Nat.reduceMul, Nat.reduceAdd, Nat.zero_add]; rfl)) | (apply readsTo.drop; (case hw => simp only [go_sem, Nat.reduceEqDiff, Nat.reduceLT, Nat.reduceAdd, Nat.reduceLeDiff, Int.reduceLT, Int.reduceLE, h0, h1, h6, h27, h28, hn, c, w0, w1, w3, w4, s0, a, st, wconv8, wcells_u8, wcellsOf_u8, Int.reduceSub, Int.reduceMul, Int.reduceAdd, Int.reduceToNat, Nat.reduceMul, Nat.reduceAdd, Nat.zero_add]; done); (case hd => rfl)) | (apply readsTo.stop; (case hw => simp only [go_sem, Nat.reduceEqDiff, Nat.reduceLT, Nat.reduceAdd, Nat.reduceLeDiff, Int.reduceLT, Int.reduceLE, h0, h1, h6, h27, h28, hn, c, w0, w1, w3, w4, s0, a, st, wconv8, wcells_u8, wcellsOf_u8, Int.reduceSub, Int.reduceMul, Int.reduceAdd, Int.reduceToNat, Nat.reduceMul, Nat.reduceAdd, Nat.zero_add]; done); (case hr => rfl)))))) | (apply Do.regionS) | (refine DoS.nil ?_) | (apply DoS.eff; (case hw => simp only [go_sem, Nat.reduceEqDiff, Nat.reduceLT, Nat.reduceAdd, Nat.reduceLeDiff, Int.reduceLT, Int.reduceLE, h0, h1, h6, h27, h28, hn, c, w0, w1, w3, w4, s0, a, st, wconv8, wcells_u8, wcellsOf_u8, Int.reduceSub, Int.reduceMul, Int.reduceAdd, Int.reduceToNat, Nat.reduceMul, Nat.reduceAdd, Nat.zero_add]; done); (case hv => simp only [ef_append, ef_copy, ef_alloc, ef_box, ef_store, mkObj_new, go_sem, Nat.reduceEqDiff, Nat.reduceLT, Nat.reduceAdd, Nat.reduceLeDiff, Int.reduceLT, Int.reduceLE, h0, h1, h6, h27, h28, hn, c, w0, w1, w3, w4, s0, a, st, wconv8, wcells_u8, wcellsOf_u8, Int.reduceSub, Int.reduceMul, Int.reduceAdd, Int.reduceToNat, Nat.reduceMul, Nat.reduceAdd, Nat.zero_add]; rfl)) | (apply DoS.rd; (case h => (repeat (first | with_reducible exact rt_nil | (apply readsTo.put; (case hw => simp only [go_sem, Nat.reduceEqDiff, Nat.reduceLT, Nat.reduceAdd, Nat.reduceLeDiff, Int.reduceLT, Int.reduceLE, h0, h1, h6, h27, h28, hn, c, w0, w1, w3, w4, s0, a, st, wconv8, wcells_u8, wcellsOf_u8, Int.reduceSub, Int.reduceMul, Int.reduceAdd, Int.reduceToNat, Nat.reduceMul, Nat.reduceAdd, Nat.zero_add]; done); (case hr => rfl); (case hd => rfl); (case hv => simp only [go_sem, Nat.reduceEqDiff, Nat.reduceLT, Nat.reduceAdd, Nat.reduceLeDiff, Int.reduceLT, Int.reduceLE, h0, h1, h6, h27, h28, hn, c, w0, w1, w3, w4, s0, a, st, wconv8, wcells_u8, wcellsOf_u8, Int.reduceSub, Int.reduceMul, Int.reduceAdd, Int.reduceToNat, Nat.reduceMul, Nat.reduceAdd, Nat.zero_add]; rfl)) | (apply readsTo.drop; (case hw => simp only [go_sem, Nat.reduceEqDiff, Nat.reduceLT, Nat.reduceAdd, Nat.reduceLeDiff, Int.reduceLT, Int.reduceLE, h0, h1, h6, h27, h28, hn, c, w0, w1, w3, w4, s0, a, st, wconv8, wcells_u8, wcellsOf_u8, Int.reduceSub, Int.reduceMul, Int.reduceAdd, Int.reduceToNat, Nat.reduceMul, Nat.reduceAdd, Nat.zero_add]; done); (case hd => rfl)) | (apply readsTo.stop; (case hw => simp only [go_sem, Nat.reduceEqDiff, Nat.reduceLT, Nat.reduceAdd, Nat.reduceLeDiff, Int.reduceLT, Int.reduceLE, h0, h1, h6, h27, h28, hn, c, w0, w1, w3, w4, s0, a, st, wconv8, wcells_u8, wcellsOf_u8, Int.reduceSub, Int.reduceMul, Int.reduceAdd, Int.reduceToNat, Nat.reduceMul, Nat.reduceAdd, Nat.zero_add]; done); (case hr => rfl))))); first | (refine DoS.nil ?_) | (apply DoS.eff; (case hw => simp only [go_sem, Nat.reduceEqDiff, Nat.reduceLT, Nat.reduceAdd, Nat.reduceLeDiff, Int.reduceLT, Int.reduceLE, h0, h1, h6, h27, h28, hn, c, w0, w1, w3, w4, s0, a, st, wconv8, wcells_u8, wcellsOf_u8, Int.reduceSub, Int.reduceMul, Int.reduceAdd, Int.reduceToNat, Nat.reduceMul, Nat.reduceAdd, Nat.zero_add]; done); (case hv => simp only [ef_append, ef_copy, ef_alloc, ef_box, ef_store, mkObj_new, go_sem, Nat.reduceEqDiff, Nat.reduceLT, Nat.reduceAdd, Nat.reduceLeDiff, Int.reduceLT, Int.reduceLE, h0, h1, h6, h27, h28, hn, c, w0, w1, w3, w4, s0, a, st, wconv8, wcells_u8, wcellsOf_u8, Int.reduceSub, Int.reduceMul, Int.reduceAdd, Int.reduceToNat, Nat.reduceMul, Nat.reduceAdd, Nat.zero_add]; rfl)))| ((apply Do.region follows; (case hr => first | kernel_rfl | rfl)); first | (refine DoU.nil ?_) | (apply DoU.rd; (case h => (repeat (first | with_reducible exact rt_nil | (apply readsTo.put; (case hw => simp only [go_sem, Nat.reduceEqDiff, Nat.reduceLT, Nat.reduceAdd, Nat.reduceLeDiff, Int.reduceLT, Int.reduceLE, h0, h1, h6, h27, h28, hn, c, w0, w1, w3, w4, s0, a, st, wconv8, wcells_u8, wcellsOf_u8, Int.reduceSub, Int.reduceMul, Int.reduceAdd, Int.reduceToNat, Nat.reduceMul, Nat.reduceAdd, Nat.zero_add]; done); (case hr => rfl); (case hd => rfl); (case hv => simp only [go_sem, Nat.reduceEqDiff, Nat.reduceLT, Nat.reduceAdd, Nat.reduceLeDiff, Int.reduceLT, Int.reduceLE, h0, h1, h6, h27, h28, hn, c, w0, w1, w3, w4, s0, a, st, wconv8, wcells_u8, wcellsOf_u8, Int.reduceSub, Int.reduceMul, Int.reduceAdd, Int.reduceToNat, Nat.reduceMul, Nat.reduceAdd, Nat.zero_add]; rfl)) | (apply readsTo.drop; (case hw => simp only [go_sem, Nat.reduceEqDiff, Nat.reduceLT, Nat.reduceAdd, Nat.reduceLeDiff, Int.reduceLT, Int.reduceLE, h0, h1, h6, h27, h28, hn, c, w0, w1, w3, w4, s0, a, st, wconv8, wcells_u8, wcellsOf_u8, Int.reduceSub, Int.reduceMul, Int.reduceAdd, Int.reduceToNat, Nat.reduceMul, Nat.reduceAdd, Nat.zero_add]; done); (case hd => rfl)) | (apply readsTo.stop; (case hw => simp only [go_sem, Nat.reduceEqDiff, Nat.reduceLT, Nat.reduceAdd, Nat.reduceLeDiff, Int.reduceLT, Int.reduceLE, h0, h1, h6, h27, h28, hn, c, w0, w1, w3, w4, s0, a, st, wconv8, wcells_u8, wcellsOf_u8, Int.reduceSub, Int.reduceMul, Int.reduceAdd, Int.reduceToNat, Nat.reduceMul, Nat.reduceAdd, Nat.zero_add]; done); (case hr => rfl))))); refine DoU.nil ?_)) | (refine Do.yes ?_ ?_; focus (simp only [go_sem, Nat.reduceEqDiff, Nat.reduceLT, Nat.reduceAdd, Nat.reduceLeDiff, Int.reduceLT, Int.reduceLE, h0, h1, h6, h27, h28, hn, c, w0, w1, w3, w4, s0, a, st, wconv8, wcells_u8, wcellsOf_u8, Int.reduceSub, Int.reduceMul, Int.reduceAdd, Int.reduceToNat, Nat.reduceMul, Nat.reduceAdd, Nat.zero_add]; done)) | (refine Do.no ?_ ?_; focus (simp only [go_sem, Nat.reduceEqDiff, Nat.reduceLT, Nat.reduceAdd, Nat.reduceLeDiff, Int.reduceLT, Int.reduceLE, h0, h1, h6, h27, h28, hn, c, w0, w1, w3, w4, s0, a, st, wconv8, wcells_u8, wcellsOf_u8, Int.reduceSub, Int.reduceMul, Int.reduceAdd, Int.reduceToNat, Nat.reduceMul, Nat.reduceAdd, Nat.zero_add]; done)) | (refine Do.skip ?_) | (refine Do.exit ?_) | (refine Do.ret ?_) | (refine Then.ret ?_) | (refine Then.normal ?_) | (refine Then.exit ?_) | (refine Out.ret ?_) | (refine Out.normal ?_) | (refine Out.here ?_) | (refine Out.off (by decide) ?_))
      exact ⟨3, by omega, (by simp only [go_sem, Nat.reduceEqDiff, Nat.reduceLT, Nat.reduceAdd, Nat.reduceLeDiff, Int.reduceLT, Int.reduceLE, hn]; done), (by simp only [go_sem, Nat.reduceEqDiff, Nat.reduceLT, Nat.reduceAdd, Nat.reduceLeDiff, Int.reduceLT, Int.reduceLE, hn, h0]; done), (by simp only [go_sem, Nat.reduceEqDiff, Nat.reduceLT, Nat.reduceAdd, Nat.reduceLeDiff, Int.reduceLT, Int.reduceLE, hn, h1]; done), (by simp only [go_sem, Nat.reduceEqDiff, Nat.reduceLT, Nat.reduceAdd, Nat.reduceLeDiff, Int.reduceLT, Int.reduceLE, hn, h6]; done), (by simp only [go_sem, Nat.reduceEqDiff, Nat.reduceLT, Nat.reduceAdd, Nat.reduceLeDiff, Int.reduceLT, Int.reduceLE, hn, h27]; done), (by simp only [go_sem, Nat.reduceEqDiff, Nat.reduceLT, Nat.reduceAdd, Nat.reduceLeDiff, Int.reduceLT, Int.reduceLE, hn]; rfl), by omega, Is.setO⟩
    · have h28 : Env.at e' 28 = .int .i64 1 := h28
      have c : (1 : Int) < 4 := by decide
      have a := wat (o := 0) (z := 2) (i := 2) rfl (by decide)
      have st : setCellsT s' 0 2 [.int .u8 ((n / 256 % 256 : Nat) : Int)] = some (setO s' 0 (wrow n 2) 5) := set_is his (by simp [wrow]) rfl
      repeat (first | (refine Do.seq ?_) | (refine Do.block ?_) | (apply Do.reads follows; (case hr => first | kernel_rfl | rfl); (case h => (repeat (first | with_reducible exact rt_nil | (apply readsTo.put; (case hw => simp only [go_sem, Nat.reduceEqDiff, Nat.reduceLT, Nat.reduceAdd, Nat.reduceLeDiff, Int.reduceLT, Int.reduceLE, h0, h1, h6, h27, h28, hn, c, w8, w1, w2, w3, w4, s8, a, st, wconv8, wcells_u8, wcellsOf_u8, Int.reduceSub, Int.reduceMul, Int.reduceAdd, Int.reduceToNat, Nat.reduceMul, Nat.reduceAdd, Nat.zero_add]; done); (case hr => rfl); (case hd => rfl); (case hv => simp only [go_sem, Nat.reduceEqDiff, Nat.reduceLT, Nat.reduceAdd, Nat.reduceLeDiff, Int.reduceLT, Int.reduceLE, h0, h1, h6, h27, h28, hn, c, w8, w1, w2, w3, w4, s8, a, st, wconv8, wcells_u8, wcellsOf_u8, Int.reduceSub, Int.reduceMul, Int.reduceAdd, Int.reduceToNat, Nat.reduceMul, Nat.reduceAdd, Nat.zero_add]; rfl)) | (apply readsTo.drop; (case hw => simp only [go_sem, Nat.reduceEqDiff, Nat.reduceLT, Nat.reduceAdd, Nat.reduceLeDiff, Int.reduceLT, Int.reduceLE, h0, h1, h6, h27, h28, hn, c, w8, w1, w2, w3, w4, s8, a, st, wconv8, wcells_u8, wcellsOf_u8, Int.reduceSub, Int.reduceMul, Int.reduceAdd, Int.reduceToNat, Nat.reduceMul, Nat.reduceAdd, Nat.zero_add]; done); (case hd => rfl)) | (apply readsTo.stop; (case hw => simp only [go_sem, Nat.reduceEqDiff, Nat.reduceLT, Nat.reduceAdd, Nat.reduceLeDiff, Int.reduceLT, Int.reduceLE, h0, h1, h6, h27, h28, hn, c, w8, w1, w2, w3, w4, s8, a, st, wconv8, wcells_u8, wcellsOf_u8, Int.reduceSub, Int.reduceMul, Int.reduceAdd, Int.reduceToNat, Nat.reduceMul, Nat.reduceAdd, Nat.zero_add]; done); (case hr => rfl)))))) | (apply Do.regionS) | (refine DoS.nil ?_) | (apply DoS.eff; (case hw => simp only [go_sem, Nat.reduceEqDiff, Nat.reduceLT, Nat.reduceAdd, Nat.reduceLeDiff, Int.reduceLT, Int.reduceLE, h0, h1, h6, h27, h28, hn, c, w8, w1, w2, w3, w4, s8, a, st, wconv8, wcells_u8, wcellsOf_u8, Int.reduceSub, Int.reduceMul, Int.reduceAdd, Int.reduceToNat, Nat.reduceMul, Nat.reduceAdd, Nat.zero_add]; done); (case hv => simp only [ef_append, ef_copy, ef_alloc, ef_box, ef_store, mkObj_new, go_sem, Nat.reduceEqDiff, Nat.reduceLT, Nat.reduceAdd, Nat.reduceLeDiff, Int.reduceLT, Int.reduceLE, h0, h1, h6, h27, h28, hn, c, w8, w1, w2, w3, w4, s8, a, st, wconv8, wcells_u8, wcellsOf_u8, Int.reduceSub, Int.reduceMul, Int.reduceAdd, Int.reduceToNat, Nat.reduceMul, Nat.reduceAdd, Nat.zero_add]; rfl)) | (apply DoS.rd; (case h => (repeat (first | with_reducible exact rt_nil | (apply readsTo.put; (case hw => simp only [go_sem, Nat.reduceEqDiff, Nat.reduceLT, Nat.reduceAdd, Nat.reduceLeDiff, Int.reduceLT, Int.reduceLE, h0, h1, h6, h27, h28, hn, c, w8, w1, w2, w3, w4, s8, a, st, wconv8, wcells_u8, wcellsOf_u8, Int.reduceSub, Int.reduceMul, Int.reduceAdd, Int.reduceToNat, Nat.reduceMul, Nat.reduceAdd, Nat.zero_add]; done); (case hr => rfl); (case hd => rfl); (case hv => simp only [go_sem, Nat.reduceEqDiff, Nat.reduceLT, Nat.reduceAdd, Nat.reduceLeDiff, Int.reduceLT, Int.reduceLE, h0, h1, h6, h27, h28, hn, c, w8, w1, w2, w3, w4, s8, a, st, wconv8, wcells_u8, wcellsOf_u8, Int.reduceSub, Int.reduceMul, Int.reduceAdd, Int.reduceToNat, Nat.reduceMul, Nat.reduceAdd, Nat.zero_add]; rfl)) | (apply readsTo.drop; (case hw => simp only [go_sem, Nat.reduceEqDiff, Nat.reduceLT, Nat.reduceAdd, Nat.reduceLeDiff, Int.reduceLT, Int.reduceLE, h0, h1, h6, h27, h28, hn, c, w8, w1, w2, w3, w4, s8, a, st, wconv8, wcells_u8, wcellsOf_u8, Int.reduceSub, Int.reduceMul, Int.reduceAdd, Int.reduceToNat, Nat.reduceMul, Nat.reduceAdd, Nat.zero_add]; done); (case hd => rfl)) | (apply readsTo.stop; (case hw => simp only [go_sem, Nat.reduceEqDiff, Nat.reduceLT, Nat.reduceAdd, Nat.reduceLeDiff, Int.reduceLT, Int.reduceLE, h0, h1, h6, h27, h28, hn, c, w8, w1, w2, w3, w4, s8, a, st, wconv8, wcells_u8, wcellsOf_u8, Int.reduceSub, Int.reduceMul, Int.reduceAdd, Int.reduceToNat, Nat.reduceMul, Nat.reduceAdd, Nat.zero_add]; done); (case hr => rfl))))); first | (refine DoS.nil ?_) | (apply DoS.eff; (case hw => simp only [go_sem, Nat.reduceEqDiff, Nat.reduceLT, Nat.reduceAdd, Nat.reduceLeDiff, Int.reduceLT, Int.reduceLE, h0, h1, h6, h27, h28, hn, c, w8, w1, w2, w3, w4, s8, a, st, wconv8, wcells_u8, wcellsOf_u8, Int.reduceSub, Int.reduceMul, Int.reduceAdd, Int.reduceToNat, Nat.reduceMul, Nat.reduceAdd, Nat.zero_add]; done); (case hv => simp only [ef_append, ef_copy, ef_alloc, ef_box, ef_store, mkObj_new, go_sem, Nat.reduceEqDiff, Nat.reduceLT, Nat.reduceAdd, Nat.reduceLeDiff, Int.reduceLT, Int.reduceLE, h0, h1, h6, h27, h28, hn, c, w8, w1, w2, w3, w4, s8, a, st, wconv8, wcells_u8, wcellsOf_u8, Int.reduceSub, Int.reduceMul, Int.reduceAdd, Int.reduceToNat, Nat.reduceMul, Nat.reduceAdd, Nat.zero_add]; rfl)))| ((apply Do.region follows; (case hr => first | kernel_rfl | rfl)); first | (refine DoU.nil ?_) | (apply DoU.rd; (case h => (repeat (first | with_reducible exact rt_nil | (apply readsTo.put; (case hw => simp only [go_sem, Nat.reduceEqDiff, Nat.reduceLT, Nat.reduceAdd, Nat.reduceLeDiff, Int.reduceLT, Int.reduceLE, h0, h1, h6, h27, h28, hn, c, w8, w1, w2, w3, w4, s8, a, st, wconv8, wcells_u8, wcellsOf_u8, Int.reduceSub, Int.reduceMul, Int.reduceAdd, Int.reduceToNat, Nat.reduceMul, Nat.reduceAdd, Nat.zero_add]; done); (case hr => rfl); (case hd => rfl); (case hv => simp only [go_sem, Nat.reduceEqDiff, Nat.reduceLT, Nat.reduceAdd, Nat.reduceLeDiff, Int.reduceLT, Int.reduceLE, h0, h1, h6, h27, h28, hn, c, w8, w1, w2, w3, w4, s8, a, st, wconv8, wcells_u8, wcellsOf_u8, Int.reduceSub, Int.reduceMul, Int.reduceAdd, Int.reduceToNat, Nat.reduceMul, Nat.reduceAdd, Nat.zero_add]; rfl)) | (apply readsTo.drop; (case hw => simp only [go_sem, Nat.reduceEqDiff, Nat.reduceLT, Nat.reduceAdd, Nat.reduceLeDiff, Int.reduceLT, Int.reduceLE, h0, h1, h6, h27, h28, hn, c, w8, w1, w2, w3, w4, s8, a, st, wconv8, wcells_u8, wcellsOf_u8, Int.reduceSub, Int.reduceMul, Int.reduceAdd, Int.reduceToNat, Nat.reduceMul, Nat.reduceAdd, Nat.zero_add]; done); (case hd => rfl)) | (apply readsTo.stop; (case hw => simp only [go_sem, Nat.reduceEqDiff, Nat.reduceLT, Nat.reduceAdd, Nat.reduceLeDiff, Int.reduceLT, Int.reduceLE, h0, h1, h6, h27, h28, hn, c, w8, w1, w2, w3, w4, s8, a, st, wconv8, wcells_u8, wcellsOf_u8, Int.reduceSub, Int.reduceMul, Int.reduceAdd, Int.reduceToNat, Nat.reduceMul, Nat.reduceAdd, Nat.zero_add]; done); (case hr => rfl))))); refine DoU.nil ?_)) | (refine Do.yes ?_ ?_; focus (simp only [go_sem, Nat.reduceEqDiff, Nat.reduceLT, Nat.reduceAdd, Nat.reduceLeDiff, Int.reduceLT, Int.reduceLE, h0, h1, h6, h27, h28, hn, c, w8, w1, w2, w3, w4, s8, a, st, wconv8, wcells_u8, wcellsOf_u8, Int.reduceSub, Int.reduceMul, Int.reduceAdd, Int.reduceToNat, Nat.reduceMul, Nat.reduceAdd, Nat.zero_add]; done)) | (refine Do.no ?_ ?_; focus (simp only [go_sem, Nat.reduceEqDiff, Nat.reduceLT, Nat.reduceAdd, Nat.reduceLeDiff, Int.reduceLT, Int.reduceLE, h0, h1, h6, h27, h28, hn, c, w8, w1, w2, w3, w4, s8, a, st, wconv8, wcells_u8, wcellsOf_u8, Int.reduceSub, Int.reduceMul, Int.reduceAdd, Int.reduceToNat, Nat.reduceMul, Nat.reduceAdd, Nat.zero_add]; done)) | (refine Do.skip ?_) | (refine Do.exit ?_) | (refine Do.ret ?_) | (refine Then.ret ?_) | (refine Then.normal ?_) | (refine Then.exit ?_) | (refine Out.ret ?_) | (refine Out.normal ?_) | (refine Out.here ?_) | (refine Out.off (by decide) ?_))
      exact ⟨2, by omega, (by simp only [go_sem, Nat.reduceEqDiff, Nat.reduceLT, Nat.reduceAdd, Nat.reduceLeDiff, Int.reduceLT, Int.reduceLE, hn]; done), (by simp only [go_sem, Nat.reduceEqDiff, Nat.reduceLT, Nat.reduceAdd, Nat.reduceLeDiff, Int.reduceLT, Int.reduceLE, hn, h0]; done), (by simp only [go_sem, Nat.reduceEqDiff, Nat.reduceLT, Nat.reduceAdd, Nat.reduceLeDiff, Int.reduceLT, Int.reduceLE, hn, h1]; done), (by simp only [go_sem, Nat.reduceEqDiff, Nat.reduceLT, Nat.reduceAdd, Nat.reduceLeDiff, Int.reduceLT, Int.reduceLE, hn, h6]; done), (by simp only [go_sem, Nat.reduceEqDiff, Nat.reduceLT, Nat.reduceAdd, Nat.reduceLeDiff, Int.reduceLT, Int.reduceLE, hn, h27]; done), (by simp only [go_sem, Nat.reduceEqDiff, Nat.reduceLT, Nat.reduceAdd, Nat.reduceLeDiff, Int.reduceLT, Int.reduceLE, hn]; rfl), by omega, Is.setO⟩
    · have h28 : Env.at e' 28 = .int .i64 2 := h28
      have c : (2 : Int) < 4 := by decide
      have a := wat (o := 0) (z := 1) (i := 1) rfl (by decide)
      have st : setCellsT s' 0 1 [.int .u8 ((n / 65536 % 256 : Nat) : Int)] = some (setO s' 0 (wrow n 3) 5) := set_is his (by simp [wrow]) rfl
      repeat (first | (refine Do.seq ?_) | (refine Do.block ?_) | (apply Do.reads follows; (case hr => first | kernel_rfl | rfl); (case h => (repeat (first | with_reducible exact rt_nil | (apply readsTo.put; (case hw => simp only [go_sem, Nat.reduceEqDiff, Nat.reduceLT, Nat.reduceAdd, Nat.reduceLeDiff, Int.reduceLT, Int.reduceLE, h0, h1, h6, h27, h28, hn, c, w16, w1, w2, w3, w4, s16, a, st, wconv8, wcells_u8, wcellsOf_u8, Int.reduceSub, Int.reduceMul, Int.reduceAdd, Int.reduceToNat, Nat.reduceMul, Nat.reduceAdd, Nat.zero_add]; done); (case hr => rfl); (case hd => rfl); (case hv => simp only [go_sem, Nat.reduceEqDiff, Nat.reduceLT, Nat.reduceAdd, Nat.reduceLeDiff, Int.reduceLT, Int.reduceLE, h0, h1, h6, h27, h28, hn, c, w16, w1, w2, w3, w4, s16, a, st, wconv8, wcells_u8, wcellsOf_u8, Int.reduceSub, Int.reduceMul, Int.reduceAdd, Int.reduceToNat, Nat.reduceMul, Nat.reduceAdd, Nat.zero_add]; rfl)) | (apply readsTo.drop; (case hw => simp only [go_sem, Nat.reduceEqDiff, Nat.reduceLT, Nat.reduceAdd, Nat.reduceLeDiff, Int.reduceLT, Int.reduceLE, h0, h1, h6, h27, h28, hn, c, w16, w1, w2, w3, w4, s16, a, st, wconv8, wcells_u8, wcellsOf_u8, Int.reduceSub, Int.reduceMul, Int.reduceAdd, Int.reduceToNat, Nat.reduceMul, Nat.reduceAdd, Nat.zero_add]; done); (case hd => rfl)) | (apply readsTo.stop; (case hw => simp only [go_sem, Nat.reduceEqDiff, Nat.reduceLT, Nat.reduceAdd, Nat.reduceLeDiff, Int.reduceLT, Int.reduceLE, h0, h1, h6, h27, h28, hn, c, w16, w1, w2, w3, w4, s16, a, st, wconv8, wcells_u8, wcellsOf_u8, Int.reduceSub, Int.reduceMul, Int.reduceAdd, Int.reduceToNat, Nat.reduceMul, Nat.reduceAdd, Nat.zero_add]; done); (case hr => rfl)))))) | (apply Do.regionS) | (refine DoS.nil ?_) | (apply DoS.eff; (case hw => simp only [go_sem, Nat.reduceEqDiff, Nat.reduceLT, Nat.reduceAdd, Nat.reduceLeDiff, Int.reduceLT, Int.reduceLE, h0, h1, h6, h27, h28, hn, c, w16, w1, w2, w3, w4, s16, a, st, wconv8, wcells_u8, wcellsOf_u8, Int.reduceSub, Int.reduceMul, Int.reduceAdd, Int.reduceToNat, Nat.reduceMul, Nat.reduceAdd, Nat.zero_add]; done); (case hv => simp only [ef_append, ef_copy, ef_alloc, ef_box, ef_store, mkObj_new, go_sem, Nat.reduceEqDiff, Nat.reduceLT, Nat.reduceAdd, Nat.reduceLeDiff, Int.reduceLT, Int.reduceLE, h0, h1, h6, h27, h28, hn, c, w16, w1, w2, w3, w4, s16, a, st, wconv8, wcells_u8, wcellsOf_u8, Int.reduceSub, Int.reduceMul, Int.reduceAdd, Int.reduceToNat, Nat.reduceMul, Nat.reduceAdd, Nat.zero_add]; rfl)) | (apply DoS.rd; (case h => (repeat (first | with_reducible exact rt_nil | (apply readsTo.put; (case hw => simp only [go_sem, Nat.reduceEqDiff, Nat.reduceLT, Nat.reduceAdd, Nat.reduceLeDiff, Int.reduceLT, Int.reduceLE, h0, h1, h6, h27, h28, hn, c, w16, w1, w2, w3, w4, s16, a, st, wconv8, wcells_u8, wcellsOf_u8, Int.reduceSub, Int.reduceMul, Int.reduceAdd, Int.reduceToNat, Nat.reduceMul, Nat.reduceAdd, Nat.zero_add]; done); (case hr => rfl); (case hd => rfl); (case hv => simp only [go_sem, Nat.reduceEqDiff, Nat.reduceLT, Nat.reduceAdd, Nat.reduceLeDiff, Int.reduceLT, Int.reduceLE, h0, h1, h6, h27, h28, hn, c, w16, w1, w2, w3, w4, s16, a, st, wconv8, wcells_u8, wcellsOf_u8, Int.reduceSub, Int.reduceMul, Int.reduceAdd, Int.reduceToNat, Nat.reduceMul, Nat.reduceAdd, Nat.zero_add]; rfl)) | (apply readsTo.drop; (case hw => simp only [go_sem, Nat.reduceEqDiff, Nat.reduceLT, Nat.reduceAdd, Nat.reduceLeDiff, Int.reduceLT, Int.reduceLE, h0, h1, h6, h27, h28, hn, c, w16, w1, w2, w3, w4, s16, a, st, wconv8, wcells_u8, wcellsOf_u8, Int.reduceSub, Int.reduceMul, Int.reduceAdd, Int.reduceToNat, Nat.reduceMul, Nat.reduceAdd, Nat.zero_add]; done); (case hd => rfl)) | (apply readsTo.stop; (case hw => simp only [go_sem, Nat.reduceEqDiff, Nat.reduceLT, Nat.reduceAdd, Nat.reduceLeDiff, Int.reduceLT, Int.reduceLE, h0, h1, h6, h27, h28, hn, c, w16, w1, w2, w3, w4, s16, a, st, wconv8, wcells_u8, wcellsOf_u8, Int.reduceSub, Int.reduceMul, Int.reduceAdd, Int.reduceToNat, Nat.reduceMul, Nat.reduceAdd, Nat.zero_add]; done); (case hr => rfl))))); first | (refine DoS.nil ?_) | (apply DoS.eff; (case hw => simp only [go_sem, Nat.reduceEqDiff, Nat.reduceLT, Nat.reduceAdd, Nat.reduceLeDiff, Int.reduceLT, Int.reduceLE, h0, h1, h6, h27, h28, hn, c, w16, w1, w2, w3, w4, s16, a, st, wconv8, wcells_u8, wcellsOf_u8, Int.reduceSub, Int.reduceMul, Int.reduceAdd, Int.reduceToNat, Nat.reduceMul, Nat.reduceAdd, Nat.zero_add]; done); (case hv => simp only [ef_append, ef_copy, ef_alloc, ef_box, ef_store, mkObj_new, go_sem, Nat.reduceEqDiff, Nat.reduceLT, Nat.reduceAdd, Nat.reduceLeDiff, Int.reduceLT, Int.reduceLE, h0, h1, h6, h27, h28, hn, c, w16, w1, w2, w3, w4, s16, a, st, wconv8, wcells_u8, wcellsOf_u8, Int.reduceSub, Int.reduceMul, Int.reduceAdd, Int.reduceToNat, Nat.reduceMul, Nat.reduceAdd, Nat.zero_add]; rfl)))| ((apply Do.region follows; (case hr => first | kernel_rfl | rfl)); first | (refine DoU.nil ?_) | (apply DoU.rd; (case h => (repeat (first | with_reducible exact rt_nil | (apply readsTo.put; (case hw => simp only [go_sem, Nat.reduceEqDiff, Nat.reduceLT, Nat.reduceAdd, Nat.reduceLeDiff, Int.reduceLT, Int.reduceLE, h0, h1, h6, h27, h28, hn, c, w16, w1, w2, w3, w4, s16, a, st, wconv8, wcells_u8, wcellsOf_u8, Int.reduceSub, Int.reduceMul, Int.reduceAdd, Int.reduceToNat, Nat.reduceMul, Nat.reduceAdd, Nat.zero_add]; done); (case hr => rfl); (case hd => rfl); (case hv => simp only [go_sem, Nat.reduceEqDiff, Nat.reduceLT, Nat.reduceAdd, Nat.reduceLeDiff, Int.reduceLT, Int.reduceLE, h0, h1, h6, h27, h28, hn, c, w16, w1, w2, w3, w4, s16, a, st, wconv8, wcells_u8, wcellsOf_u8, Int.reduceSub, Int.reduceMul, Int.reduceAdd, Int.reduceToNat, Nat.reduceMul, Nat.reduceAdd, Nat.zero_add]; rfl)) | (apply readsTo.drop; (case hw => simp only [go_sem, Nat.reduceEqDiff, Nat.reduceLT, Nat.reduceAdd, Nat.reduceLeDiff, Int.reduceLT, Int.reduceLE, h0, h1, h6, h27, h28, hn, c, w16, w1, w2, w3, w4, s16, a, st, wconv8, wcells_u8, wcellsOf_u8, Int.reduceSub, Int.reduceMul, Int.reduceAdd, Int.reduceToNat, Nat.reduceMul, Nat.reduceAdd, Nat.zero_add]; done); (case hd => rfl)) | (apply readsTo.stop; (case hw => simp only [go_sem, Nat.reduceEqDiff, Nat.reduceLT, Nat.reduceAdd, Nat.reduceLeDiff, Int.reduceLT, Int.reduceLE, h0, h1, h6, h27, h28, hn, c, w16, w1, w2, w3, w4, s16, a, st, wconv8, wcells_u8, wcellsOf_u8, Int.reduceSub, Int.reduceMul, Int.reduceAdd, Int.reduceToNat, Nat.reduceMul, Nat.reduceAdd, Nat.zero_add]; done); (case hr => rfl))))); refine DoU.nil ?_)) | (refine Do.yes ?_ ?_; focus (simp only [go_sem, Nat.reduceEqDiff, Nat.reduceLT, Nat.reduceAdd, Nat.reduceLeDiff, Int.reduceLT, Int.reduceLE, h0, h1, h6, h27, h28, hn, c, w16, w1, w2, w3, w4, s16, a, st, wconv8, wcells_u8, wcellsOf_u8, Int.reduceSub, Int.reduceMul, Int.reduceAdd, Int.reduceToNat, Nat.reduceMul, Nat.reduceAdd, Nat.zero_add]; done)) | (refine Do.no ?_ ?_; focus (simp only [go_sem, Nat.reduceEqDiff, Nat.reduceLT, Nat.reduceAdd, Nat.reduceLeDiff, Int.reduceLT, Int.reduceLE, h0, h1, h6, h27, h28, hn, c, w16, w1, w2, w3, w4, s16, a, st, wconv8, wcells_u8, wcellsOf_u8, Int.reduceSub, Int.reduceMul, Int.reduceAdd, Int.reduceToNat, Nat.reduceMul, Nat.reduceAdd, Nat.zero_add]; done)) | (refine Do.skip ?_) | (refine Do.exit ?_) | (refine Do.ret ?_) | (refine Then.ret ?_) | (refine Then.normal ?_) | (refine Then.exit ?_) | (refine Out.ret ?_) | (refine Out.normal ?_) | (refine Out.here ?_) | (refine Out.off (by decide) ?_))
      exact ⟨1, by omega, (by simp only [go_sem, Nat.reduceEqDiff, Nat.reduceLT, Nat.reduceAdd, Nat.reduceLeDiff, Int.reduceLT, Int.reduceLE, hn]; done), (by simp only [go_sem, Nat.reduceEqDiff, Nat.reduceLT, Nat.reduceAdd, Nat.reduceLeDiff, Int.reduceLT, Int.reduceLE, hn, h0]; done), (by simp only [go_sem, Nat.reduceEqDiff, Nat.reduceLT, Nat.reduceAdd, Nat.reduceLeDiff, Int.reduceLT, Int.reduceLE, hn, h1]; done), (by simp only [go_sem, Nat.reduceEqDiff, Nat.reduceLT, Nat.reduceAdd, Nat.reduceLeDiff, Int.reduceLT, Int.reduceLE, hn, h6]; done), (by simp only [go_sem, Nat.reduceEqDiff, Nat.reduceLT, Nat.reduceAdd, Nat.reduceLeDiff, Int.reduceLT, Int.reduceLE, hn, h27]; done), (by simp only [go_sem, Nat.reduceEqDiff, Nat.reduceLT, Nat.reduceAdd, Nat.reduceLeDiff, Int.reduceLT, Int.reduceLE, hn]; rfl), by omega, Is.setO⟩
    · have h28 : Env.at e' 28 = .int .i64 3 := h28
      have c : (3 : Int) < 4 := by decide
      have a := wat (o := 0) (z := 0) (i := 0) rfl (by decide)
      have st : setCellsT s' 0 0 [.int .u8 ((n / 16777216 % 256 : Nat) : Int)] = some (setO s' 0 (wrow n 4) 5) := set_is his (by simp [wrow]) rfl
      repeat (first | (refine Do.seq ?_) | (refine Do.block ?_) | (apply Do.reads follows; (case hr => first | kernel_rfl | rfl); (case h => (repeat (first | with_reducible exact rt_nil | (apply readsTo.put; (case hw => simp only [go_sem, Nat.reduceEqDiff, Nat.reduceLT, Nat.reduceAdd, Nat.reduceLeDiff, Int.reduceLT, Int.reduceLE, h0, h1, h6, h27, h28, hn, c, w24, w0, w1, w2, w3, w4, s24, a, st, wconv8, wcells_u8, wcellsOf_u8, Int.reduceSub, Int.reduceMul, Int.reduceAdd, Int.reduceToNat, Nat.reduceMul, Nat.reduceAdd, Nat.zero_add]; done); (case hr => rfl); (case hd => rfl); (case hv => simp only [go_sem, Nat.reduceEqDiff, Nat.reduceLT, Nat.reduceAdd, Nat.reduceLeDiff, Int.reduceLT, Int.reduceLE, h0, h1, h6, h27, h28, hn, c, w24, w0, w1, w2, w3, w4, s24, a, st, wconv8, wcells_u8, wcellsOf_u8, Int.reduceSub, Int.reduceMul, Int.reduceAdd, Int.reduceToNat, Nat.reduceMul, Nat.reduceAdd, Nat.zero_add]; rfl)) | (apply readsTo.drop; (case hw => simp only [go_sem, Nat.reduceEqDiff, Nat.reduceLT, Nat.reduceAdd, Nat.reduceLeDiff, Int.reduceLT, Int.reduceLE, h0, h1, h6, h27, h28, hn, c, w24, w0, w1, w2, w3, w4, s24, a, st, wconv8, wcells_u8, wcellsOf_u8, Int.reduceSub, Int.reduceMul, Int.reduceAdd, Int.reduceToNat, Nat.reduceMul, Nat.reduceAdd, Nat.zero_add]; done); (case hd => rfl)) | (apply readsTo.stop; (case hw => simp only [go_sem, Nat.reduceEqDiff, Nat.reduceLT, Nat.reduceAdd, Nat.reduceLeDiff, Int.reduceLT, Int.reduceLE, h0, h1, h6, h27, h28, hn, c, w24, w0, w1, w2, w3, w4, s24, a, st, wconv8, wcells_u8, wcellsOf_u8, Int.reduceSub, Int.reduceMul, Int.reduceAdd, Int.reduceToNat, Nat.reduceMul, Nat.reduceAdd, Nat.zero_add]; done); (case hr => rfl)))))) | (apply Do.regionS) | (refine DoS.nil ?_) | (apply DoS.eff; (case hw => simp only [go_sem, Nat.reduceEqDiff, Nat.reduceLT, Nat.reduceAdd, Nat.reduceLeDiff, Int.reduceLT, Int.reduceLE, h0, h1, h6, h27, h28, hn, c, w24, w0, w1, w2, w3, w4, s24, a, st, wconv8, wcells_u8, wcellsOf_u8, Int.reduceSub, Int.reduceMul, Int.reduceAdd, Int.reduceToNat, Nat.reduceMul, Nat.reduceAdd, Nat.zero_add]; done); (case hv => simp only [ef_append, ef_copy, ef_alloc, ef_box, ef_store, mkObj_new, go_sem, Nat.reduceEqDiff, Nat.reduceLT, Nat.reduceAdd, Nat.reduceLeDiff, Int.reduceLT, Int.reduceLE, h0, h1, h6, h27, h28, hn, c, w24, w0, w1, w2, w3, w4, s24, a, st, wconv8, wcells_u8, wcellsOf_u8, Int.reduceSub, Int.reduceMul, Int.reduceAdd, Int.reduceToNat, Nat.reduceMul, Nat.reduceAdd, Nat.zero_add]; rfl)) | (apply DoS.rd; (case h => (repeat (first | with_reducible exact rt_nil | (apply readsTo.put; (case hw => simp only [go_sem, Nat.reduceEqDiff, Nat.reduceLT, Nat.reduceAdd, Nat.reduceLeDiff, Int.reduceLT, Int.reduceLE, h0, h1, h6, h27, h28, hn, c, w24, w0, w1, w2, w3, w4, s24, a, st, wconv8, wcells_u8, wcellsOf_u8, Int.reduceSub, Int.reduceMul, Int.reduceAdd, Int.reduceToNat, Nat.reduceMul, Nat.reduceAdd, Nat.zero_add]; done); (case hr => rfl); (case hd => rfl); (case hv => simp only [go_sem, Nat.reduceEqDiff, Nat.reduceLT, Nat.reduceAdd, Nat.reduceLeDiff, Int.reduceLT, Int.reduceLE, h0, h1, h6, h27, h28, hn, c, w24, w0, w1, w2, w3, w4, s24, a, st, wconv8, wcells_u8, wcellsOf_u8, Int.reduceSub, Int.reduceMul, Int.reduceAdd, Int.reduceToNat, Nat.reduceMul, Nat.reduceAdd, Nat.zero_add]; rfl)) | (apply readsTo.drop; (case hw => simp only [go_sem, Nat.reduceEqDiff, Nat.reduceLT, Nat.reduceAdd, Nat.reduceLeDiff, Int.reduceLT, Int.reduceLE, h0, h1, h6, h27, h28, hn, c, w24, w0, w1, w2, w3, w4, s24, a, st, wconv8, wcells_u8, wcellsOf_u8, Int.reduceSub, Int.reduceMul, Int.reduceAdd, Int.reduceToNat, Nat.reduceMul, Nat.reduceAdd, Nat.zero_add]; done); (case hd => rfl)) | (apply readsTo.stop; (case hw => simp only [go_sem, Nat.reduceEqDiff, Nat.reduceLT, Nat.reduceAdd, Nat.reduceLeDiff, Int.reduceLT, Int.reduceLE, h0, h1, h6, h27, h28, hn, c, w24, w0, w1, w2, w3, w4, s24, a, st, wconv8, wcells_u8, wcellsOf_u8, Int.reduceSub, Int.reduceMul, Int.reduceAdd, Int.reduceToNat, Nat.reduceMul, Nat.reduceAdd, Nat.zero_add]; done); (case hr => rfl))))); first | (refine DoS.nil ?_) | (apply DoS.eff; (case hw => simp only [go_sem, Nat.reduceEqDiff, Nat.reduceLT, Nat.reduceAdd, Nat.reduceLeDiff, Int.reduceLT, Int.reduceLE, h0, h1, h6, h27, h28, hn, c, w24, w0, w1, w2, w3, w4, s24, a, st, wconv8, wcells_u8, wcellsOf_u8, Int.reduceSub, Int.reduceMul, Int.reduceAdd, Int.reduceToNat, Nat.reduceMul, Nat.reduceAdd, Nat.zero_add]; done); (case hv => simp only [ef_append, ef_copy, ef_alloc, ef_box, ef_store, mkObj_new, go_sem, Nat.reduceEqDiff, Nat.reduceLT, Nat.reduceAdd, Nat.reduceLeDiff, Int.reduceLT, Int.reduceLE, h0, h1, h6, h27, h28, hn, c, w24, w0, w1, w2, w3, w4, s24, a, st, wconv8, wcells_u8, wcellsOf_u8, Int.reduceSub, Int.reduceMul, Int.reduceAdd, Int.reduceToNat, Nat.reduceMul, Nat.reduceAdd, Nat.zero_add]; rfl)))| ((apply Do.region follows; (case hr => first | kernel_rfl | rfl)); first | (refine DoU.nil ?_) | (apply DoU.rd; (case h => (repeat (first | with_reducible exact rt_nil | (apply readsTo.put; (case hw => simp only [go_sem, Nat.reduceEqDiff, Nat.reduceLT, Nat.reduceAdd, Nat.reduceLeDiff, Int.reduceLT, Int.reduceLE, h0, h1, h6, h27, h28, hn, c, w24, w0, w1, w2, w3, w4, s24, a, st, wconv8, wcells_u8, wcellsOf_u8, Int.reduceSub, Int.reduceMul, Int.reduceAdd, Int.reduceToNat, Nat.reduceMul, Nat.reduceAdd, Nat.zero_add]; done); (case hr => rfl); (case hd => rfl); (case hv => simp only [go_sem, Nat.reduceEqDiff, Nat.reduceLT, Nat.reduceAdd, Nat.reduceLeDiff, Int.reduceLT, Int.reduceLE, h0, h1, h6, h27, h28, hn, c, w24, w0, w1, w2, w3, w4, s24, a, st, wconv8, wcells_u8, wcellsOf_u8, Int.reduceSub, Int.reduceMul, Int.reduceAdd, Int.reduceToNat, Nat.reduceMul, Nat.reduceAdd, Nat.zero_add]; rfl)) | (apply readsTo.drop; (case hw => simp only [go_sem, Nat.reduceEqDiff, Nat.reduceLT, Nat.reduceAdd, Nat.reduceLeDiff, Int.reduceLT, Int.reduceLE, h0, h1, h6, h27, h28, hn, c, w24, w0, w1, w2, w3, w4, s24, a, st, wconv8, wcells_u8, wcellsOf_u8, Int.reduceSub, Int.reduceMul, Int.reduceAdd, Int.reduceToNat, Nat.reduceMul, Nat.reduceAdd, Nat.zero_add]; done); (case hd => rfl)) | (apply readsTo.stop; (case hw => simp only [go_sem, Nat.reduceEqDiff, Nat.reduceLT, Nat.reduceAdd, Nat.reduceLeDiff, Int.reduceLT, Int.reduceLE, h0, h1, h6, h27, h28, hn, c, w24, w0, w1, w2, w3, w4, s24, a, st, wconv8, wcells_u8, wcellsOf_u8, Int.reduceSub, Int.reduceMul, Int.reduceAdd, Int.reduceToNat, Nat.reduceMul, Nat.reduceAdd, Nat.zero_add]; done); (case hr => rfl))))); refine DoU.nil ?_)) | (refine Do.yes ?_ ?_; focus (simp only [go_sem, Nat.reduceEqDiff, Nat.reduceLT, Nat.reduceAdd, Nat.reduceLeDiff, Int.reduceLT, Int.reduceLE, h0, h1, h6, h27, h28, hn, c, w24, w0, w1, w2, w3, w4, s24, a, st, wconv8, wcells_u8, wcellsOf_u8, Int.reduceSub, Int.reduceMul, Int.reduceAdd, Int.reduceToNat, Nat.reduceMul, Nat.reduceAdd, Nat.zero_add]; done)) | (refine Do.no ?_ ?_; focus (simp only [go_sem, Nat.reduceEqDiff, Nat.reduceLT, Nat.reduceAdd, Nat.reduceLeDiff, Int.reduceLT, Int.reduceLE, h0, h1, h6, h27, h28, hn, c, w24, w0, w1, w2, w3, w4, s24, a, st, wconv8, wcells_u8, wcellsOf_u8, Int.reduceSub, Int.reduceMul, Int.reduceAdd, Int.reduceToNat, Nat.reduceMul, Nat.reduceAdd, Nat.zero_add]; done)) | (refine Do.skip ?_) | (refine Do.exit ?_) | (refine Do.ret ?_) | (refine Then.ret ?_) | (refine Then.normal ?_) | (refine Then.exit ?_) | (refine Out.ret ?_) | (refine Out.normal ?_) | (refine Out.here ?_) | (refine Out.off (by decide) ?_))
      exact ⟨0, by omega, (by simp only [go_sem, Nat.reduceEqDiff, Nat.reduceLT, Nat.reduceAdd, Nat.reduceLeDiff, Int.reduceLT, Int.reduceLE, hn]; done), (by simp only [go_sem, Nat.reduceEqDiff, Nat.reduceLT, Nat.reduceAdd, Nat.reduceLeDiff, Int.reduceLT, Int.reduceLE, hn, h0]; done), (by simp only [go_sem, Nat.reduceEqDiff, Nat.reduceLT, Nat.reduceAdd, Nat.reduceLeDiff, Int.reduceLT, Int.reduceLE, hn, h1]; done), (by simp only [go_sem, Nat.reduceEqDiff, Nat.reduceLT, Nat.reduceAdd, Nat.reduceLeDiff, Int.reduceLT, Int.reduceLE, hn, h6]; done), (by simp only [go_sem, Nat.reduceEqDiff, Nat.reduceLT, Nat.reduceAdd, Nat.reduceLeDiff, Int.reduceLT, Int.reduceLE, hn, h27]; done), (by simp only [go_sem, Nat.reduceEqDiff, Nat.reduceLT, Nat.reduceAdd, Nat.reduceLeDiff, Int.reduceLT, Int.reduceLE, hn]; rfl), by omega, Is.setO⟩
    · have h28 : Env.at e' 28 = .int .i64 4 := h28
      have c : ¬ (4 : Int) < 4 := by decide
      have st := wstr his
      repeat (first | (refine Do.seq ?_) | (refine Do.block ?_) | (apply Do.reads follows; (case hr => first | kernel_rfl | rfl); (case h => (repeat (first | with_reducible exact rt_nil | (apply readsTo.put; (case hw => simp only [go_sem, Nat.reduceEqDiff, Nat.reduceLT, Nat.reduceAdd, Nat.reduceLeDiff, Int.reduceLT, Int.reduceLE, h0, h1, h6, h27, h28, hn, c, st]; done); (case hr => rfl); (case hd => rfl); (case hv => simp only [go_sem, Nat.reduceEqDiff, Nat.reduceLT, Nat.reduceAdd, Nat.reduceLeDiff, Int.reduceLT, Int.reduceLE, h0, h1, h6, h27, h28, hn, c, st]; rfl)) | (apply readsTo.drop; (case hw => simp only [go_sem, Nat.reduceEqDiff, Nat.reduceLT, Nat.reduceAdd, Nat.reduceLeDiff, Int.reduceLT, Int.reduceLE, h0, h1, h6, h27, h28, hn, c, st]; done); (case hd => rfl)) | (apply readsTo.stop; (case hw => simp only [go_sem, Nat.reduceEqDiff, Nat.reduceLT, Nat.reduceAdd, Nat.reduceLeDiff, Int.reduceLT, Int.reduceLE, h0, h1, h6, h27, h28, hn, c, st]; done); (case hr => rfl)))))) | (apply Do.regionS) | (refine DoS.nil ?_) | (apply DoS.eff; (case hw => simp only [go_sem, Nat.reduceEqDiff, Nat.reduceLT, Nat.reduceAdd, Nat.reduceLeDiff, Int.reduceLT, Int.reduceLE, h0, h1, h6, h27, h28, hn, c, st]; done); (case hv => simp only [ef_append, ef_copy, ef_alloc, ef_box, ef_store, mkObj_new, go_sem, Nat.reduceEqDiff, Nat.reduceLT, Nat.reduceAdd, Nat.reduceLeDiff, Int.reduceLT, Int.reduceLE, h0, h1, h6, h27, h28, hn, c, st]; rfl)) | (apply DoS.rd; (case h => (repeat (first | with_reducible exact rt_nil | (apply readsTo.put; (case hw => simp only [go_sem, Nat.reduceEqDiff, Nat.reduceLT, Nat.reduceAdd, Nat.reduceLeDiff, Int.reduceLT, Int.reduceLE, h0, h1, h6, h27, h28, hn, c, st]; done); (case hr => rfl); (case hd => rfl); (case hv => simp only [go_sem, Nat.reduceEqDiff, Nat.reduceLT, Nat.reduceAdd, Nat.reduceLeDiff, Int.reduceLT, Int.reduceLE, h0, h1, h6, h27, h28, hn, c, st]; rfl)) | (apply readsTo.drop; (case hw => simp only [go_sem, Nat.reduceEqDiff, Nat.reduceLT, Nat.reduceAdd, Nat.reduceLeDiff, Int.reduceLT, Int.reduceLE, h0, h1, h6, h27, h28, hn, c, st]; done); (case hd => rfl)) | (apply readsTo.stop; (case hw => simp only [go_sem, Nat.reduceEqDiff, Nat.reduceLT, Nat.reduceAdd, Nat.reduceLeDiff, Int.reduceLT, Int.reduceLE, h0, h1, h6, h27, h28, hn, c, st]; done); (case hr => rfl))))); first | (refine DoS.nil ?_) | (apply DoS.eff; (case hw => simp only [go_sem, Nat.reduceEqDiff, Nat.reduceLT, Nat.reduceAdd, Nat.reduceLeDiff, Int.reduceLT, Int.reduceLE, h0, h1, h6, h27, h28, hn, c, st]; done); (case hv => simp only [ef_append, ef_copy, ef_alloc, ef_box, ef_store, mkObj_new, go_sem, Nat.reduceEqDiff, Nat.reduceLT, Nat.reduceAdd, Nat.reduceLeDiff, Int.reduceLT, Int.reduceLE, h0, h1, h6, h27, h28, hn, c, st]; rfl)))| ((apply Do.region follows; (case hr => first | kernel_rfl | rfl)); first | (refine DoU.nil ?_) | (apply DoU.rd; (case h => (repeat (first | with_reducible exact rt_nil | (apply readsTo.put; (case hw => simp only [go_sem, Nat.reduceEqDiff, Nat.reduceLT, Nat.reduceAdd, Nat.reduceLeDiff, Int.reduceLT, Int.reduceLE, h0, h1, h6, h27, h28, hn, c, st]; done); (case hr => rfl); (case hd => rfl); (case hv => simp only [go_sem, Nat.reduceEqDiff, Nat.reduceLT, Nat.reduceAdd, Nat.reduceLeDiff, Int.reduceLT, Int.reduceLE, h0, h1, h6, h27, h28, hn, c, st]; rfl)) | (apply readsTo.drop; (case hw => simp only [go_sem, Nat.reduceEqDiff, Nat.reduceLT, Nat.reduceAdd, Nat.reduceLeDiff, Int.reduceLT, Int.reduceLE, h0, h1, h6, h27, h28, hn, c, st]; done); (case hd => rfl)) | (apply readsTo.stop; (case hw => simp only [go_sem, Nat.reduceEqDiff, Nat.reduceLT, Nat.reduceAdd, Nat.reduceLeDiff, Int.reduceLT, Int.reduceLE, h0, h1, h6, h27, h28, hn, c, st]; done); (case hr => rfl))))); refine DoU.nil ?_)) | (refine Do.yes ?_ ?_; focus (simp only [go_sem, Nat.reduceEqDiff, Nat.reduceLT, Nat.reduceAdd, Nat.reduceLeDiff, Int.reduceLT, Int.reduceLE, h0, h1, h6, h27, h28, hn, c, st]; done)) | (refine Do.no ?_ ?_; focus (simp only [go_sem, Nat.reduceEqDiff, Nat.reduceLT, Nat.reduceAdd, Nat.reduceLeDiff, Int.reduceLT, Int.reduceLE, h0, h1, h6, h27, h28, hn, c, st]; done)) | (refine Do.skip ?_) | (refine Do.exit ?_) | (refine Do.ret ?_) | (refine Then.ret ?_) | (refine Then.normal ?_) | (refine Then.exit ?_) | (refine Out.ret ?_) | (refine Out.normal ?_) | (refine Out.here ?_) | (refine Out.off (by decide) ?_))
      exact Ends.two rfl ⟨by simp only [go_sem, Nat.reduceEqDiff, Nat.reduceLT, Nat.reduceAdd, Nat.reduceLeDiff, Int.reduceLT, Int.reduceLE, hn]; rfl, by simp only [go_sem, Nat.reduceEqDiff, Nat.reduceLT, Nat.reduceAdd, Nat.reduceLeDiff, Int.reduceLT, Int.reduceLE, hn]; rfl⟩
  · exact ⟨(by simp only [go_sem, Nat.reduceEqDiff, Nat.reduceLT, Nat.reduceAdd, Nat.reduceLeDiff, Int.reduceLT, Int.reduceLE, hn]; done), (by simp only [go_sem, Nat.reduceEqDiff, Nat.reduceLT, Nat.reduceAdd, Nat.reduceLeDiff, Int.reduceLT, Int.reduceLE, hn, h0]; done), (by simp only [go_sem, Nat.reduceEqDiff, Nat.reduceLT, Nat.reduceAdd, Nat.reduceLeDiff, Int.reduceLT, Int.reduceLE, hn, h1]; done), (by simp only [go_sem, Nat.reduceEqDiff, Nat.reduceLT, Nat.reduceAdd, Nat.reduceLeDiff, Int.reduceLT, Int.reduceLE, hn]), (by simp only [go_sem, Nat.reduceEqDiff, Nat.reduceLT, Nat.reduceAdd, Nat.reduceLeDiff, Int.reduceLT, Int.reduceLE, hn]), (by simp only [go_sem, Nat.reduceEqDiff, Nat.reduceLT, Nat.reduceAdd, Nat.reduceLeDiff, Int.reduceLT, Int.reduceLE, hn]; rfl), by omega, Is.newO⟩

/-! ### As shapes take it -/
def wide4_b (n : Int) : Option (List UInt8) := if 0 ≤ n ∧ n < 4294967296 then some (be4 n.toNat) else none
noncomputable def wide4 (n : Int) : Option (List UInt8) := stuck (wide4_b n)
theorem wide4_eq {n : Nat} (h : n < 4294967296) : wide4 n = some (be4 n) := by
  unfold wide4 wide4_b
  rw [stuck_eq, if_pos ⟨by omega, by omega⟩]
  rfl
noncomputable def wideU : Spec := fun args h => match args with
  | [.int .u64 n, .int .i64 k] => .ite (decide (k = 4)) (.opt (wide4 n) fun x => .leaf (.tup [.str x, .int .i64 0], h, [])) .fail
  | _ => .fail
noncomputable def oWide_s : FuncId × Spec := (125, wideU)
theorem oWide_o0 : SpecOk0 Tryz.prog oWide_s.1 oWide_s.2 := by
  intro args h r hr s V targs hR hv
  simp only [oWide_s, wideU] at hr
  split at hr
  · rename_i n k
    simp only [Tree.Has] at hr
    rcases hr with ⟨hk, x, hx, rfl⟩ | ⟨_, hr⟩
    · simp only [decide_eq_true_eq] at hk
      subst hk
      unfold wide4 wide4_b at hx
      rw [stuck_eq] at hx
      split at hx
      · rename_i hn
        cases hx
        cases hv with
        | cons _ tv _ _ rx rs =>
          cases rs with
          | cons _ tv2 _ _ rx2 rs2 =>
            cases rs2
            cases rx
            cases rx2
            obtain ⟨m, rfl⟩ := Int.eq_ofNat_of_zero_le hn.1
            exact ⟨s, V, _, (wide_ok m (by omega)).at s, .tup _ _ (.cons _ _ _ _ (.str _) (.cons _ _ _ _ (.int _ _) .nil)), Eff.refl hR []⟩
      · cases hx
    · exact hr.elim
  · exact hr.elim
theorem oWide_o : SpecOk Tryz.prog oWide_s.1 oWide_s.2 := oWide_o0.up
end Go.Proofs.YthnhbejjikgifaaGreatDoor.TV

/-
  FRAME: frames and their sums, printed.
-/
namespace Go.Proofs.YthnhbejjikgifaaGreatDoor.TV
open Go Go.RowKit
set_option linter.unusedVariables false
set_option maxRecDepth 1000000

def oReadWide_g : Sig := ⟨[.ty (.str), .ty (.int .i64), .ty (.int .i64)], [], [], [.ty (.int .u64), .ty (.int .i64), .ty (.int .i64)], [], []⟩
def oReadWide_c : Cuts := ⟨[(0, ⟨[(9, .ty (.int .u64)), (34, .ty (.int .i64))], [], [], []⟩)], [(1, ⟨[(26, .ty (.bool))], [], [], []⟩)], []⟩
noncomputable def oReadWide_t : List (FuncId × Spec) := []
noncomputable def oReadWide_l0 (s : (List UInt8)) (at_ : Int) (wide : Int) : (Int × (Int × Unit)) → Option (Rnd (Int × (Int × Unit)) Unit) := fun (x3, (x4, _)) => (bif decide (x4 < wide) then (bif decide (0 ≤ IntKind.wrap .i64 (at_ + x4)) then ((s[Int.toNat (IntKind.wrap .i64 (at_ + x4))]?).bind fun x5 => some (.next (IntKind.wrap .u64 (↑(BitVec.toNat (BitVec.ofInt 64 (IntKind.wrap .u64 (x3 * 256)) ||| BitVec.ofInt 64 (IntKind.wrap .u64 (↑(UInt8.toNat x5) : Int)))) : Int), (IntKind.wrap .i64 (x4 + 1), ())))) else none) else some (.out (x3, (x4, ()))))
noncomputable def oReadWide_b (s : (List UInt8)) (at_ : Int) (wide : Int) : (Option (Int × (Int × (Int × Unit)))) := (two (β := (Bool × Unit)) (γ := Unit) (bif decide (wide < 1) then some (.inl (true, ())) else (bif decide (8 < wide) then some (.inl (true, ())) else (bif decide (at_ < 0) then some (.inl (true, ())) else some (.inl (decide ((↑(List.length s) : Int) < at_), ()))))) (fun (x2, _) => (bif x2 then some (0, (0, (1, ()))) else (bif decide (IntKind.wrap .i64 ((↑(List.length s) : Int) - at_) < wide) then some (0, (0, (5, ()))) else (two (β := (Int × (Int × Unit))) (γ := Unit) (loop (oReadWide_l0 s at_ wide) (0, (0, ()))) (fun (x7, (x8, _)) => some (x7, (IntKind.wrap .i64 (at_ + wide), (0, ())))) (fun _ => some (0, (0, (0, ())))))))) (fun _ => some (0, (0, (0, ())))))
noncomputable def oReadWide (s : (List UInt8)) (at_ : Int) (wide : Int) : (Option (Int × (Int × (Int × Unit)))) := stuck (oReadWide_b s at_ wide)
theorem oReadWide_un (s : (List UInt8)) (at_ : Int) (wide : Int) : oReadWide s at_ wide = oReadWide_b s at_ wide := stuck_eq _
theorem oReadWide_k : TabOk Tryz.prog oReadWide_t := .nil
theorem oReadWide_eq (d : dens oReadWide_g.inP) : fnU Tryz.prog (tabU oReadWide_t) oReadWide_c 100 oReadWide_g Tryz.f114 (Tryz.f114.body.getD .skip) d = oReadWide_b d.1 d.2.1 d.2.2.1 := by kernel_rfl
theorem oReadWide_ok : FnOk Tryz.prog 114 oReadWide_g fun d => oReadWide d.1 d.2.1 d.2.2.1 := (fn_ok follows named (tabU_ok oReadWide_k) Tryz.func114 rfl).congr fun d => (oReadWide_eq d).trans (stuck_eq _).symm
noncomputable def oReadWide_s : FuncId × Spec := (114, callOf oReadWide_g fun d => oReadWide d.1 d.2.1 d.2.2.1)
theorem oReadWide_o : SpecOk Tryz.prog oReadWide_s.1 oReadWide_s.2 := spec_ok oReadWide_ok
def mMore_g : Sig := ⟨[.ty (.int .u32), .ty (.str)], [], [], [.ty (.int .u32)], [], []⟩
def mMore_c : Cuts := ⟨[(2, ⟨[(0, .ty (.int .u32)), (17, .ty (.int .i64))], [], [], []⟩), (0, ⟨[(0, .ty (.int .u32)), (8, .ty (.int .i64))], [], [], []⟩)], [], []⟩
noncomputable def mMore_t : List (FuncId × Spec) := []
noncomputable def mMore_l1 : (Int × (Int × Unit)) → Option (Rnd (Int × (Int × Unit)) Unit) := fun (x4, (x5, _)) => (bif decide (x5 < 8) then some (.next (IntKind.wrap .u32 (↑(BitVec.toNat (BitVec.ofInt 32 (Int.fdiv x4 2) ^^^ BitVec.ofInt 32 (IntKind.wrap .u32 (↑(BitVec.toNat (BitVec.ofInt 32 3988292384 &&& BitVec.ofInt 32 (IntKind.wrap .u32 (0 - IntKind.wrap .u32 (↑(BitVec.toNat (BitVec.ofInt 32 x4 &&& BitVec.ofInt 32 1)) : Int))))) : Int)))) : Int), (IntKind.wrap .i64 (x5 + 1), ()))) else some (.out (x4, (x5, ()))))
noncomputable def mMore_l0 (s : (List UInt8)) : (Int × (Int × Unit)) → Option (Rnd (Int × (Int × Unit)) Unit) := fun (x1, (x2, _)) => (bif decide (x2 < (↑(List.length s) : Int)) then (bif decide (0 ≤ x2) then ((s[Int.toNat x2]?).bind fun x3 => (two (β := (Int × (Int × Unit))) (γ := Unit) (loop mMore_l1 (IntKind.wrap .u32 (↑(BitVec.toNat (BitVec.ofInt 32 x1 ^^^ BitVec.ofInt 32 (IntKind.wrap .u32 (↑(UInt8.toNat x3) : Int)))) : Int), (0, ()))) (fun (x7, (x8, _)) => some (.next (x7, (IntKind.wrap .i64 (x2 + 1), ())))) (fun _ => some (.ret ())))) else none) else some (.out (x1, (x2, ()))))
noncomputable def mMore_b (x : Int) (s : (List UInt8)) : (Option (Int × Unit)) := (two (β := (Int × (Int × Unit))) (γ := Unit) (loop (mMore_l0 s) (x, (0, ()))) (fun (x10, (x11, _)) => some (x10, ())) (fun _ => some (0, ())))
noncomputable def mMore (x : Int) (s : (List UInt8)) : (Option (Int × Unit)) := stuck (mMore_b x s)
theorem mMore_un (x : Int) (s : (List UInt8)) : mMore x s = mMore_b x s := stuck_eq _
theorem mMore_k : TabOk Tryz.prog mMore_t := .nil
theorem mMore_eq (d : dens mMore_g.inP) : fnU Tryz.prog (tabU mMore_t) mMore_c 100 mMore_g Tryz.f115 (Tryz.f115.body.getD .skip) d = mMore_b d.1 d.2.1 := by kernel_rfl
theorem mMore_ok : FnOk Tryz.prog 115 mMore_g fun d => mMore d.1 d.2.1 := (fn_ok follows named (tabU_ok mMore_k) Tryz.func115 rfl).congr fun d => (mMore_eq d).trans (stuck_eq _).symm
noncomputable def mMore_s : FuncId × Spec := (115, callOf mMore_g fun d => mMore d.1 d.2.1)
theorem mMore_o : SpecOk Tryz.prog mMore_s.1 mMore_s.2 := spec_ok mMore_ok
def mFrame_g : Sig := ⟨[.ty (.str)], [], [], [.ty (.str), .ty (.int .i64)], [], []⟩
def mFrame_c : Cuts := ⟨[], [], []⟩
noncomputable def mFrame_t : List (FuncId × Spec) := [oWide_s, mMore_s]
noncomputable def mFrame_b (body : (List UInt8)) : (Option ((List UInt8) × (Int × Unit))) := (bif decide (262144 < (↑(List.length body) : Int)) then some ([], (2, ())) else ((wide4 (IntKind.wrap .u64 (↑(List.length body) : Int))).bind fun x1 => ((mMore 4294967295 x1).bind fun (x2, _) => ((mMore x2 body).bind fun (x3, _) => ((wide4 (IntKind.wrap .u64 (IntKind.wrap .u32 (↑(BitVec.toNat (BitVec.ofInt 32 4294967295 ^^^ BitVec.ofInt 32 x3)) : Int)))).bind fun x4 => (bif decide (List.length x1 + List.length x4 ≤ 9223372036854775807) then (bif decide (List.length (x1 ++ x4) + List.length body ≤ 9223372036854775807) then some (x1 ++ x4 ++ body, (0, ())) else none) else none))))))
noncomputable def mFrame (body : (List UInt8)) : (Option ((List UInt8) × (Int × Unit))) := stuck (mFrame_b body)
theorem mFrame_un (body : (List UInt8)) : mFrame body = mFrame_b body := stuck_eq _
theorem mFrame_k : TabOk Tryz.prog mFrame_t := .cons oWide_o (.cons mMore_o (.nil))
theorem mFrame_eq (d : dens mFrame_g.inP) : fnU Tryz.prog (tabU mFrame_t) mFrame_c 100 mFrame_g Tryz.f88 (Tryz.f88.body.getD .skip) d = mFrame_b d.1 := by kernel_rfl
theorem mFrame_ok : FnOk Tryz.prog 88 mFrame_g fun d => mFrame d.1 := (fn_ok follows named (tabU_ok mFrame_k) Tryz.func88 rfl).congr fun d => (mFrame_eq d).trans (stuck_eq _).symm
noncomputable def mFrame_s : FuncId × Spec := (88, callOf mFrame_g fun d => mFrame d.1)
theorem mFrame_o : SpecOk Tryz.prog mFrame_s.1 mFrame_s.2 := spec_ok mFrame_ok
def mUnframe_g : Sig := ⟨[.ty (.str), .ty (.int .i64)], [], [], [.ty (.str), .ty (.int .i64), .ty (.int .i64)], [], []⟩
def mUnframe_c : Cuts := ⟨[], [], []⟩
noncomputable def mUnframe_t : List (FuncId × Spec) := [oReadWide_s, mMore_s]
noncomputable def mUnframe_b (s : (List UInt8)) (at_ : Int) : (Option ((List UInt8) × (Int × (Int × Unit)))) := ((oReadWide s at_ 4).bind fun (x1, (x2, (x3, _))) => (bif !decide (x3 = 0) then some ([], (0, (x3, ()))) else (bif decide (262144 < x1) then some ([], (0, (2, ()))) else (bif decide (IntKind.wrap .i64 ((↑(List.length s) : Int) - x2) < IntKind.wrap .i64 (4 + IntKind.wrap .i64 x1)) then some ([], (0, (5, ()))) else ((oReadWide s x2 4).bind fun (x4, (x5, (x6, _))) => (bif within (List.length s) (Option.some x5) (Option.some (IntKind.wrap .i64 (x5 + IntKind.wrap .i64 x1))) then (bif within (List.length s) (Option.some at_) (Option.some x2) then ((mMore 4294967295 (cut s (Option.some at_) (Option.some x2))).bind fun (x7, _) => ((mMore x7 (cut s (Option.some x5) (Option.some (IntKind.wrap .i64 (x5 + IntKind.wrap .i64 x1))))).bind fun (x8, _) => (bif !decide (IntKind.wrap .u32 x4 = IntKind.wrap .u32 (↑(BitVec.toNat (BitVec.ofInt 32 4294967295 ^^^ BitVec.ofInt 32 x8)) : Int)) then some ([], (0, (10, ()))) else some (cut s (Option.some x5) (Option.some (IntKind.wrap .i64 (x5 + IntKind.wrap .i64 x1))), (IntKind.wrap .i64 (x5 + IntKind.wrap .i64 x1), (0, ())))))) else none) else none))))))
noncomputable def mUnframe (s : (List UInt8)) (at_ : Int) : (Option ((List UInt8) × (Int × (Int × Unit)))) := stuck (mUnframe_b s at_)
theorem mUnframe_un (s : (List UInt8)) (at_ : Int) : mUnframe s at_ = mUnframe_b s at_ := stuck_eq _
theorem mUnframe_k : TabOk Tryz.prog mUnframe_t := .cons oReadWide_o (.cons mMore_o (.nil))
theorem mUnframe_eq (d : dens mUnframe_g.inP) : fnU Tryz.prog (tabU mUnframe_t) mUnframe_c 100 mUnframe_g Tryz.f72 (Tryz.f72.body.getD .skip) d = mUnframe_b d.1 d.2.1 := by kernel_rfl
theorem mUnframe_ok : FnOk Tryz.prog 72 mUnframe_g fun d => mUnframe d.1 d.2.1 := (fn_ok follows named (tabU_ok mUnframe_k) Tryz.func72 rfl).congr fun d => (mUnframe_eq d).trans (stuck_eq _).symm
noncomputable def mUnframe_s : FuncId × Spec := (72, callOf mUnframe_g fun d => mUnframe d.1 d.2.1)
theorem mUnframe_o : SpecOk Tryz.prog mUnframe_s.1 mUnframe_s.2 := spec_ok mUnframe_ok
end Go.Proofs.YthnhbejjikgifaaGreatDoor.TV

/-
  DX: laws whose loops lay new objects in the place of old ones: loops told by names and rows alone, nothing is said of the rest.
-/
namespace Go.Proofs.YthnhbejjikgifaaGreatDoor.TV
open Go Go.RowKit
set_option linter.unusedSimpArgs false
set_option linter.unusedVariables false

/-- A call's beginning: the rows that are found, and what they hold. -/
def enterU (g : Sig) (args : List UV) (h : UHeap) : Option (dens g.inP) :=
  match findRows args h g.from' [] with
  | none => none
  | some m =>
    if args.length = g.ins.length && m.length == g.rows.length && ((m.zip g.rows).all fun p => rowTy h p.1 == some p.2.2 && (rowCs h p.1).length == p.2.1.length) then
      (exL m h.tips g.inP (args ++ m.flatMap (rowCs h))).map (·.1)
    else none
/-- A loop of a law: the names and rows by which it is told, how many names there are, the law's answer. -/
structure WCut where
  vars : List Nat
  n : Nat
  g : Sig
  res : Nat
def setT : List Nat → List UV → UEnv → UEnv
  | p :: ps, u :: us, e => setT ps us (e.set p u)
  | _, _, e => e
def WCut.env (W : WCut) (d : dens W.g.inP) : UEnv := setT W.vars (W.g.start d).1 (List.replicate W.n .junk)
noncomputable def weakU (id : Nat) (W : WCut) (f : CodeU) : CodeU := fun e h =>
  if e.length = W.n then
    match enterU W.g (W.vars.map e.at) h with
    | none => .fail
    | some d => .two (loop (fun d =>
        (forceE (W.env d) fun e => forceH (W.g.start d).2 fun h => f e h).run fun o => match o.1 with
          | .normal => (enterU W.g (W.vars.map o.2.1.at) o.2.2).map fun d => Rnd.next d
          | .exit i => if i = id then (enterU W.g (W.vars.map o.2.1.at) o.2.2).map fun d => Rnd.out d else none
          | .ret => (decV .bool (o.2.1.at W.res)).map fun b => Rnd.ret b) d)
        (fun d => .leaf (.normal, W.env d, (W.g.start d).2))
        (fun b => .leaf (.ret, (List.replicate W.n .junk).set W.res (.bool b), ⟨[], []⟩))
  else .fail
section
variable (P : Program)
noncomputable def codeW (call : CallU) (C : Cuts) (fuel : Nat) (W : List (Nat × WCut)) : Code → CodeU
  | .seq a b, e, h => (codeW call C fuel W a e h).bind fun o => match o.1 with
    | .normal => forceE o.2.1 fun e => forceH o.2.2 fun h => codeW call C fuel W b e h
    | _ => .leaf o
  | .cond c a b, e, h => match (condKey c).bind fun t => C.conds.lookup t with
    | some _ => codeU P call C fuel (.cond c a b) e h
    | none => condU e c (codeW call C fuel W a e h) (codeW call C fuel W b e h)
  | .block id (.loop a), e, h => match W.lookup id with
    | some w => weakU id w (codeU P call C fuel a) e h
    | none => codeU P call C fuel (.block id (.loop a)) e h
  | c, e, h => codeU P call C fuel c e h
/-- What a law answers. -/
noncomputable def lawU (call : CallU) (C : Cuts) (fuel : Nat) (W : List (Nat × WCut)) (ps : List PC) (fn : Func) (c : Code) (d : dens ps) : Option Bool :=
  (forceE (injL [] 0 ps d ++ List.replicate (fn.ntmps - ps.length) undefU) fun e => codeW P call C fuel W c e ⟨[], []⟩).run fun o => match o.1 with
    | .exit _ => none
    | _ => match resultsU P o.2.2 o.2.1 fn.results.toList with
      | some [u] => decV .bool u
      | _ => none
end
def WOk (P : Program) (c : Code) (e : UEnv) (h : UHeap) (o : Ex × UEnv × UHeap) : Prop := ∀ s V te, HRel s V h → URels V e te →
  ∃ s' V' te', CodeSim P c te s o.1 te' s' ∧ HRel s' V' o.2.2 ∧ URels V' o.2.1 te'
def LawOk (P : Program) (f : FuncId) (ps : List PC) (F : dens ps → Option Bool) : Prop := ∀ d, F d = some true → ∀ tvs, URels ⟨[], []⟩ (injL [] 0 ps d) tvs → ∃ s2, Sim P f tvs St.none (.bool true) s2

section
variable {P : Program} {s s' s2 : St} {V V' V1 V2 V3 : Val} {h h' h1 h2 : UHeap} {e e2 : UEnv} {te te2 : Env}

theorem enter_ok {g : Sig} {args : List UV} {d : dens g.inP} (hd : enterU g args h = some d) {targs : List TV} (hR : HRel s V h) (hv : URels V args targs) : ∃ V1, HRel s V1 (g.start d).2 ∧ URels V1 (g.start d).1 targs := by
  unfold enterU at hd
  split at hd
  · cases hd
  · rename_i m hm
    split at hd
    · rename_i hc
      simp only [Bool.and_eq_true, decide_eq_true_eq, beq_iff_eq, List.all_eq_true] at hc
      obtain ⟨⟨hal, hml⟩, hty⟩ := hc
      obtain ⟨⟨d', tips⟩, hx', hdd⟩ := Option.map_eq_some_iff.1 hd
      have hx : exL m h.tips g.inP (args ++ m.flatMap (rowCs h)) = some (d, tips) := by rw [hx', ← hdd]
      obtain ⟨_, _, hnd⟩ := findRows_ok hm
      have hnd := hnd List.nodup_nil
      have rowK : ∀ (k K : Nat) (rc : List RC × TypeId), m[k]? = some K → g.rows[k]? = some rc → ∃ r0 o ts, h.objs[K]? = some r0 ∧ r0.ty = rc.2 ∧ r0.cs.length = rc.1.length ∧ V.ids[K]? = some o ∧ s.objs.get o = some (.cells ts r0.ty) ∧ URels V r0.cs ts ∧ rowTs s V K = ts := by
        intro k K rc hk hrc
        have hz : (m.zip g.rows)[k]? = some (K, rc) := by rw [List.getElem?_zip_eq_some]; exact ⟨hk, hrc⟩
        have := hty (K, rc) (List.mem_of_getElem? hz)
        simp only at this
        obtain ⟨r0, h1, h2⟩ := rowTy_get this.1
        have hlt : K < V.ids.length := by rw [hR.len]; exact (List.getElem?_eq_some_iff.1 h1).1
        have ho : V.ids[K]? = some V.ids[K] := List.getElem?_eq_getElem hlt
        obtain ⟨ts, h3, h4⟩ := hR.obj K _ r0 ho h1
        exact ⟨r0, _, ts, h1, h2, by rw [← this.2, rowCs_of h1], ho, h3, h4, rowTs_of hR ho h3⟩
      -- what is handed over
      have hl := exL_less hx
      have hin : URels V (args ++ m.flatMap (rowCs h)) (targs ++ m.flatMap (rowTs s V)) := hv.append (urels_flat hR)
      obtain ⟨tk1, tk2⟩ := exL_toks (V := V) hR.tips hR.tinj hx hin
      generalize hV1 : (⟨m.map (fun K => V.ids.getD K 0), tksOf g.inP (targs ++ m.flatMap (rowTs s V))⟩ : Val) = V1
      have hid1 : ∀ (k K : Nat), m[k]? = some K → ∃ o, V.ids[K]? = some o ∧ V1.ids[k]? = some o := fun k K hk => by
        have hlt : k < g.rows.length := by rw [← hml]; exact (List.getElem?_eq_some_iff.1 hk).1
        obtain ⟨r0, o, ts, _, _, _, ho, _⟩ := rowK k K _ hk (List.getElem?_eq_getElem hlt)
        refine ⟨o, ho, ?_⟩
        subst hV1
        simp only
        rw [List.getElem?_map, hk, Option.map_some, List.getD_eq_getElem?_getD, ho]
        rfl
      have hl1 : V1.ids.length = g.rows.length := by subst hV1; simp [hml]
      have hid1' : ∀ (k o : Nat), V1.ids[k]? = some o → ∃ K, m[k]? = some K ∧ V.ids[K]? = some o := fun k o hk => by
        have hlt : k < m.length := by rw [hml, ← hl1]; exact (List.getElem?_eq_some_iff.1 hk).1
        obtain ⟨o', h3, h4⟩ := hid1 k _ (List.getElem?_eq_getElem hlt)
        rw [hk] at h4
        cases h4
        exact ⟨_, List.getElem?_eq_getElem hlt, h3⟩
      have sub1 : ∀ o ∈ V1.ids, o ∈ V.ids := fun o ho => by
        obtain ⟨k, hk⟩ := List.mem_iff_getElem?.1 ho
        obtain ⟨K, _, h4⟩ := hid1' k o hk
        exact List.mem_of_getElem? h4
      have hus : URels V1 (injL (List.range g.rows.length) 0 g.inP d) (targs ++ m.flatMap (rowTs s V)) := by
        refine exL_rel (m' := List.range g.rows.length) (fun k K o h3 h4 => ?_) hR.tips hx hin fun i t hi => ?_
        · obtain ⟨o', h5, h6⟩ := hid1 k K h3
          rw [h4] at h5
          cases h5
          have hlt : k < g.rows.length := by rw [← hml]; exact (List.getElem?_eq_some_iff.1 h3).1
          rw [List.getD_eq_getElem?_getD, List.getElem?_range hlt]
          exact h6
        · subst hV1
          simpa using hi
      have hargs : URels V1 (g.start d).1 targs := by
        have := hus.take g.ins.length
        rw [← hal, hv.length, List.take_left] at this
        simp only [Sig.start]
        rw [← hal, hv.length]
        exact this
      have hrowsU : URels V1 ((injL (List.range g.rows.length) 0 g.inP d).drop g.ins.length) (m.map (rowTs s V)).flatten := by
        have := hus.drop g.ins.length
        rw [← hal, hv.length, List.drop_left] at this
        rw [← hal, hv.length, ← flat_map]
        exact this
      obtain ⟨rl1, rl2⟩ := rows_rel (rows := g.rows) hrowsU (by simp [hml]) (fun k ts rc h3 h4 => by
        rw [List.getElem?_map] at h3
        obtain ⟨K, h5, h6⟩ := Option.map_eq_some_iff.1 h3
        obtain ⟨r0, o, ts', _, _, h7, _, _, h8, h9⟩ := rowK k K rc h5 h4
        rw [← h6, h9, ← h8.length, h7])
      have tl : (tksOf g.inP (targs ++ m.flatMap (rowTs s V))).length = (toksL g.inP d).length := tksOf_length d (by rw [← hin.length, exL_length hx])
      have hR1 : HRel s V1 (g.start d).2 := by
        refine ⟨?_, ?_, fun o ho => hR.lt o (sub1 o ho), fun k o r1 hk h3 => ?_, ?_, fun j k e0 h3 h4 => ?_, fun j j' i k k' e0 e1 h3 h4 h5 h6 h7 h8 => ?_, fun j k o e0 h3 h3' h4 ho => ?_⟩
        · simp only [Sig.start]; rw [rl1, hl1]
        · rw [List.nodup_iff_pairwise_ne]
          rw [List.pairwise_iff_getElem]
          intro i j hi hj hij he
          obtain ⟨K, h3, h4⟩ := hid1' i _ (List.getElem?_eq_getElem hi)
          obtain ⟨K', h5, h6⟩ := hid1' j _ (List.getElem?_eq_getElem hj)
          rw [he] at h4
          have := ids_inj hR h4 h6
          subst this
          have := nodup_inj hnd h3 h5
          omega
        · simp only [Sig.start] at h3
          obtain ⟨ts, rc, h4, h5, h6, _, h7⟩ := rl2 k r1 h3
          rw [List.getElem?_map] at h4
          obtain ⟨K, h8, h9⟩ := Option.map_eq_some_iff.1 h4
          obtain ⟨K', h10, h11⟩ := hid1' k o hk
          rw [h8] at h10
          cases h10
          obtain ⟨r0, o', ts', _, q2, _, q4, q5, _, q7⟩ := rowK k K rc h8 h5
          rw [h11] at q4
          cases q4
          exact ⟨ts, by rw [← h9, q7, h6, ← q2]; exact q5, h7⟩
        · subst hV1; simp only [Sig.start]; exact tl
        · subst hV1
          simp only [Sig.start] at h3 h4
          obtain ⟨e1, q1, q2⟩ := tk1 j k h3
          rw [h4] at q1
          cases q1
          cases hid : k.id with
          | none => exact q2.2.2 hid s
          | some a =>
            obtain ⟨j1, q3, q4, _⟩ := q2.2.1 a hid
            exact hR.tips j1 k _ q3 q4
        · subst hV1
          exact tk2 j j' k k' i h3 h4 h5 h6
        · have hoV := sub1 o ho
          subst hV1
          obtain ⟨e1, q1, q2⟩ := tk1 j _ h3
          obtain ⟨j1, q3, q4, _⟩ := q2.2.1 (.obj o) h3'
          exact hR.out j1 k o e1 q3 h3' q4 hoV
      exact ⟨V1, hR1, hargs⟩
    · cases hd
theorem setT_rel : ∀ (vars : List Nat) (us : List UV) (e : UEnv), URels V e te → URels V us (vars.map te.at) → URels V (setT vars us e) te
  | [], us, e, h, hu => by cases us <;> exact h
  | p :: vars, [], e, h, hu => by cases hu
  | p :: vars, u :: us, e, h, hu => by
    cases hu with
    | cons _ _ _ _ r rs =>
      refine setT_rel vars us _ ?_ rs
      have := h.set p r
      have he : te.set p (te.at p) = te := by
        by_cases hp : p < te.length
        · rw [Env.at_eq]
          rw [List.getD_eq_getElem?_getD, List.getElem?_eq_getElem hp]
          exact List.set_getElem_self hp
        · exact List.set_eq_of_length_le (by omega)
      rwa [he] at this
theorem junk_rel : ∀ (te : List TV), URels V (List.replicate te.length .junk) te
  | [] => .nil
  | v :: te => .cons _ _ _ _ (.junk v) (junk_rel te)
theorem at_rel (r : URels V e te) (vars : List Nat) : URels V (vars.map e.at) (vars.map te.at) := URels.map fun p _ => r.at_ p
theorem HRel.empty (s : St) : HRel s ⟨[], []⟩ ⟨[], []⟩ :=
  ⟨rfl, List.nodup_nil, fun o h => (by cases h), fun k o r h => (by simp at h), rfl, fun j k e h => (by simp at h), fun j j' i k k' e e' h => (by simp at h), fun j k o e h => (by simp at h)⟩
theorem COk.weak {c : Code} {o : Ex × UEnv × UHeap} (k : COk P c e h o) : WOk P c e h o := fun s V te hR r => by
  obtain ⟨s', V', te', k1, k2, k3, _⟩ := k s V te hR r
  exact ⟨s', V', te', k1, k2, k3⟩
theorem WCut.env_rel {W : WCut} {d : dens W.g.inP} (h : URels V (W.g.start d).1 (W.vars.map te.at)) (hl : te.length = W.n) : URels V (W.env d) te := by
  unfold WCut.env
  rw [← hl]
  exact setT_rel _ _ _ (junk_rel te) h
theorem weakU_ok {a : Code} {id : Nat} {W : WCut} {f : CodeU} (hf : ∀ e h o, (f e h).Has o → COk P a e h o) {o : Ex × UEnv × UHeap} (ho : (weakU id W f e h).Has o) : WOk P (.block id (.loop a)) e h o := by
  intro s V te hR r
  unfold weakU at ho
  simp only [forceE_eq, forceH_eq] at ho
  split at ho
  · rename_i hlen
    have hlen : te.length = W.n := by rw [← hlen, r.length]
    split at ho
    · exact ho.elim
    · rename_i d0 hd0
      obtain ⟨V1, hR1, hv1⟩ := enter_ok hd0 hR (at_rel r W.vars)
      generalize hF : (fun d => ((f (W.env d) (W.g.start d).2).run fun o => match o.1 with
          | .normal => (enterU W.g (W.vars.map o.2.1.at) o.2.2).map fun d => Rnd.next d
          | .exit i => if i = id then (enterU W.g (W.vars.map o.2.1.at) o.2.2).map fun d => Rnd.out d else none
          | .ret => (decV .bool (o.2.1.at W.res)).map fun b => Rnd.ret b) : dens W.g.inP → Option (Rnd (dens W.g.inP) Bool)) = F at ho
      obtain ⟨y, hy, ho⟩ : ∃ y, loop F d0 = some y ∧ (match y with
        | .inl d => o = (.normal, W.env d, (W.g.start d).2)
        | .inr b => o = (.ret, (List.replicate W.n .junk).set W.res (.bool b), ⟨[], []⟩)) := by
        rcases ho with ⟨d, h1, h2⟩ | ⟨d, h1, h2⟩
        · exact ⟨.inl d, h1, h2.symm⟩
        · exact ⟨.inr d, h1, h2.symm⟩
      obtain ⟨n, hn⟩ := loop_some hy
      have key : ∀ (n : Nat) (d : dens W.g.inP) (s1 : St) (V1 : Val) (te1 : Env), iterN F n d = some y → HRel s1 V1 (W.g.start d).2 → URels V1 (W.g.start d).1 (W.vars.map te1.at) → te1.length = W.n →
          ∃ k x te2 s2 V3, RoundsSim P a k te1 s1 x te2 s2 ∧ HRel s2 V3 o.2.2 ∧ URels V3 o.2.1 te2 ∧ exBlock id x = o.1 := by
        intro n
        induction n with
        | zero => intro d s1 V1 te1 h1; cases h1
        | succ n ih =>
          intro d s1 V1 te1 h1 hR1 hv1 hl1
          simp only [iterN] at h1
          have r1 := WCut.env_rel hv1 hl1
          have body : ∀ {x}, F d = some x →
            ∃ (b : Ex × UEnv × UHeap) (s2 : St) (V2 : Val) (te2 : Env), CodeSim P a te1 s1 b.1 te2 s2 ∧ HRel s2 V2 b.2.2 ∧ URels V2 b.2.1 te2 ∧ te2.length = W.n ∧
              ((b.1 = .normal ∧ ∃ d2, enterU W.g (W.vars.map b.2.1.at) b.2.2 = some d2 ∧ x = .next d2) ∨
               (b.1 = .exit id ∧ ∃ d2, enterU W.g (W.vars.map b.2.1.at) b.2.2 = some d2 ∧ x = .out d2) ∨
               (b.1 = .ret ∧ ∃ b2, decV .bool (b.2.1.at W.res) = some b2 ∧ x = .ret b2)) := by
            intro x hx
            subst hF
            simp only at hx
            rw [Tree.run_has] at hx
            obtain ⟨b, h2, h3⟩ := hx
            obtain ⟨s2, V2, te2, k1, k2, k3, _, k5, _⟩ := hf _ _ b h2 s1 V1 te1 hR1 r1
            refine ⟨b, s2, V2, te2, k1, k2, k3, k5.trans hl1, ?_⟩
            split at h3
            · rename_i e1
              obtain ⟨d2, h5, h6⟩ := Option.map_eq_some_iff.1 h3
              exact .inl ⟨e1, d2, h5, h6.symm⟩
            · rename_i i e1
              split at h3
              · rename_i e2
                obtain ⟨d2, h5, h6⟩ := Option.map_eq_some_iff.1 h3
                exact .inr (.inl ⟨by rw [e1, e2], d2, h5, h6.symm⟩)
              · cases h3
            · rename_i e1
              obtain ⟨d2, h5, h6⟩ := Option.map_eq_some_iff.1 h3
              exact .inr (.inr ⟨e1, d2, h5, h6.symm⟩)
          split at h1
          · rename_i d2 hb
            obtain ⟨b, s2, V2, te2, k1, k2, k3, k5, k7⟩ := body hb
            rcases k7 with ⟨e1, d3, h5, h6⟩ | ⟨_, d3, _, h6⟩ | ⟨_, d3, _, h6⟩ <;> cases h6
            obtain ⟨V3, q1, q2⟩ := enter_ok h5 k2 (at_rel k3 W.vars)
            obtain ⟨k, x, te3, s3, V4, p1, p2⟩ := ih d2 s2 V3 te2 h1 q1 q2 k5
            rw [e1] at k1
            exact ⟨k + 1, x, te3, s3, V4, rounds_next k1 p1, p2⟩
          · rename_i d2 hb
            cases h1
            simp only at ho
            subst ho
            obtain ⟨b, s2, V2, te2, k1, k2, k3, k5, k7⟩ := body hb
            rcases k7 with ⟨_, d3, _, h6⟩ | ⟨e1, d3, h5, h6⟩ | ⟨_, d3, _, h6⟩ <;> cases h6
            obtain ⟨V3, q1, q2⟩ := enter_ok h5 k2 (at_rel k3 W.vars)
            rw [e1] at k1
            exact ⟨1, .exit id, te2, s2, V3, rounds_out (by simp) k1, q1, WCut.env_rel q2 k5, by simp [exBlock]⟩
          · rename_i d2 hb
            cases h1
            simp only at ho
            subst ho
            obtain ⟨b, s2, V2, te2, k1, k2, k3, k5, k7⟩ := body hb
            rcases k7 with ⟨_, d3, _, h6⟩ | ⟨_, d3, _, h6⟩ | ⟨e1, d3, h5, h6⟩ <;> cases h6
            rw [e1] at k1
            refine ⟨1, .ret, te2, s2, ⟨[], []⟩, rounds_out (by simp) k1, HRel.empty _, ?_, rfl⟩
            have hb2 : te2.at W.res = .bool d2 := by
              obtain ⟨g1, g2⟩ := decV_rel h5 (k3.at_ W.res)
              have hc := isAggV_cells g1
              rw [hc] at g2
              exact (List.cons.inj (show [te2.at W.res] = [.bool d2] from g2)).1
            show URels _ ((List.replicate W.n .junk).set W.res (.bool d2)) te2
            rw [← k5]
            refine setT_rel [W.res] [.bool d2] _ (junk_rel te2) ?_
            simp only [List.map_cons, List.map_nil]
            rw [hb2]
            exact .cons _ _ _ _ (.bool _) .nil
          · cases h1
      obtain ⟨k, x, te2, s2, V3, p1, p2, p3, p4⟩ := key n d0 s V1 te hn hR1 hv1 hlen
      refine ⟨s2, V3, te2, ?_, p2, p3⟩
      rw [← p4]
      exact (rounds_loop p1).blockX
  · exact ho.elim
theorem condW_ok {c : Operand} {a b : Code} {ta tb : Tree (Ex × UEnv × UHeap)} (ha : ∀ o, ta.Has o → WOk P a e h o) (hb : ∀ o, tb.Has o → WOk P b e h o) {o : Ex × UEnv × UHeap} (ho : (condU e c ta tb).Has o) : WOk P (.cond c a b) e h o := by
  intro s V te hR r
  unfold condU at ho
  have hc := evU_rel r c
  split at ho
  · rename_i x e1
    rw [e1] at hc
    cases hcv : ev te c <;> rw [hcv] at hc <;> cases hc
    rcases ho with ⟨rfl, ho⟩ | ⟨rfl, ho⟩
    · obtain ⟨s', V', te', k1, k2, k3⟩ := ha o ho s V te hR r
      exact ⟨s', V', te', .condX hcv k1, k2, k3⟩
    · obtain ⟨s', V', te', k1, k2, k3⟩ := hb o ho s V te hR r
      exact ⟨s', V', te', .condX hcv k1, k2, k3⟩
  · exact ho.elim
theorem codeW_ok (hm : P.follows .mixedOrders = true) (hN : Named P) {call : CallU} (hC : CallOkU P call) (C : Cuts) (fuel : Nat) (W : List (Nat × WCut)) : ∀ (c : Code) (e : UEnv) (h : UHeap) (o : Ex × UEnv × UHeap), (codeW P call C fuel W c e h).Has o → WOk P c e h o
  | .seq a b, e, h, o, ho => by
    simp only [codeW] at ho
    rw [Tree.has_bind] at ho
    obtain ⟨x, h1, h2⟩ := ho
    have ka := codeW_ok hm hN hC C fuel W a e h x h1
    intro s V te hR r
    obtain ⟨s1, V1, te1, k1, k2, k3⟩ := ka s V te hR r
    split at h2
    · rename_i e1
      simp only [forceE_eq, forceH_eq] at h2
      obtain ⟨s', V', te', q1, q2, q3⟩ := codeW_ok hm hN hC C fuel W b _ _ o h2 s1 V1 te1 k2 k3
      rw [e1] at k1
      exact ⟨s', V', te', k1.seq q1, q2, q3⟩
    · rename_i hx
      simp only [Tree.Has] at h2
      subst h2
      exact ⟨s1, V1, te1, CodeSim.seq_out hx k1, k2, k3⟩
  | .cond c a b, e, h, o, ho => by
    simp only [codeW] at ho
    split at ho
    · exact (codeU_ok hm hN hC C fuel _ e h o ho).weak
    · exact condW_ok (fun o ho => codeW_ok hm hN hC C fuel W a e h o ho) (fun o ho => codeW_ok hm hN hC C fuel W b e h o ho) ho
  | .block id a, e, h, o, ho => by
    cases a with
    | loop a =>
      simp only [codeW] at ho
      split at ho
      · exact weakU_ok (fun e h o ho => codeU_ok hm hN hC C fuel a e h o ho) ho
      · exact (codeU_ok hm hN hC C fuel _ e h o ho).weak
    | _ => exact (codeU_ok hm hN hC C fuel _ e h o ho).weak
  | .skip, e, h, o, ho => (codeU_ok hm hN hC C fuel _ e h o ho).weak
  | .exit id, e, h, o, ho => (codeU_ok hm hN hC C fuel _ e h o ho).weak
  | .ret, e, h, o, ho => (codeU_ok hm hN hC C fuel _ e h o ho).weak
  | .loop a, e, h, o, ho => (codeU_ok hm hN hC C fuel _ e h o ho).weak
  | .region id ops draw, e, h, o, ho => (codeU_ok hm hN hC C fuel _ e h o ho).weak
  | .rangeFunc f ps a b, e, h, o, ho => (codeU_ok hm hN hC C fuel _ e h o ho).weak
  | .scope b, e, h, o, ho => (codeU_ok hm hN hC C fuel _ e h o ho).weak
  | .label l, e, h, o, ho => (codeU_ok hm hN hC C fuel _ e h o ho).weak
  | .goto l, e, h, o, ho => (codeU_ok hm hN hC C fuel _ e h o ho).weak
  | .refuse w, e, h, o, ho => (codeU_ok hm hN hC C fuel _ e h o ho).weak
theorem lawU_ok (hm : P.follows .mixedOrders = true) (hN : Named P) {call : CallU} (hC : CallOkU P call) {C : Cuts} {fuel : Nat} {W : List (Nat × WCut)} {ps : List PC} {f : FuncId} {fn : Func} {c : Code} (hf : P.funcs[f]? = some fn) (hb : fn.body = some c) : LawOk P f ps (lawU P call C fuel W ps fn c) := by
  intro d hr tvs hv
  unfold lawU at hr
  simp only [forceE_eq] at hr
  rw [Tree.run_has] at hr
  obtain ⟨o, h1, h2⟩ := hr
  have hlen : ps.length = tvs.length := by rw [← hv.length, injL_length]
  have henv : URels ⟨[], []⟩ (injL [] 0 ps d ++ List.replicate (fn.ntmps - ps.length) undefU) (tvs ++ List.replicate (fn.ntmps - tvs.length) undefT) := by
    rw [hlen]
    exact hv.append (URels.replicate _ (.tup [] [] .nil))
  obtain ⟨s2, V2, te2, k1, k2, k3⟩ := codeW_ok hm hN hC C fuel W c _ _ o h1 St.none _ _ HRel.none henv
  have main : (∀ id, o.1 ≠ .exit id) → (match resultsU P o.2.2 o.2.1 fn.results.toList with
      | some [u] => decV .bool u
      | _ => none) = some true → ∃ s2, Sim P f tvs St.none (.bool true) s2 := by
    intro hne h2
    split at h2
    · rename_i u hvs
      obtain ⟨rvs, q1, q2⟩ := resultsU_rel k2 k3 _ _ hvs
      cases q2 with
      | cons _ w _ _ hr hnil =>
        cases hnil
        have hw : w = .bool true := by
          obtain ⟨g1, g2⟩ := decV_rel h2 hr
          have hc := isAggV_cells g1
          rw [hc] at g2
          exact (List.cons.inj (show [w] = [.bool true] from g2)).1
        subst hw
        refine ⟨s2, (Does.body hf hb (Q := fun v t => v = .bool true ∧ t = s2) ⟨o.1, te2, s2, k1, ?_⟩).sim⟩
        cases hx1 : o.1 with
        | exit id => exact absurd hx1 (hne id)
        | normal => exact ⟨_, resultT_of q1, rfl, rfl⟩
        | ret => exact ⟨_, resultT_of q1, rfl, rfl⟩
    · cases h2
  split at h2
  · cases h2
  · rename_i hx
    exact main (fun id hid => hx id hid) h2
theorem LawOk.congr {f : FuncId} {ps : List PC} {F G : dens ps → Option Bool} (h : LawOk P f ps F) (e : ∀ d, F d = G d) : LawOk P f ps G := fun d hr => h d (by rw [e]; exact hr)
/-- A law that answers true. -/
theorem law_simW {f : FuncId} {ps : List PC} {G : dens ps → Option Bool} (h : LawOk P f ps G) {F : Nat} {ts : List TypeId} (hf : fitsP P F ts ps = true)
    (hG : ∀ d, OkP ps d → G d = some true) {xs : List TV} (hx : ArgsOk P F ts xs) : ∃ s', Sim P f xs St.none (.bool true) s' := by
  obtain ⟨d, h1, h2⟩ := args_den (V := ⟨[], []⟩) (m := []) (j := 0) ts _ xs hf hx
  exact h d (hG d h2) xs h1
end
end Go.Proofs.YthnhbejjikgifaaGreatDoor.TV

/-
  DISK: names, a new disk, what hinders a call, printed.
-/
namespace Go.Proofs.YthnhbejjikgifaaGreatDoor.TV
open Go Go.RowKit
set_option linter.unusedVariables false
set_option maxRecDepth 1000000
def dName_g : Sig := ⟨[.ty (.str)], [], [], [.ty (.bool)], [], []⟩
def dName_c : Cuts := ⟨[(0, ⟨[(7, .ty (.int .i64))], [], [(2, .ty (.bool))], []⟩)], [(5, ⟨[(34, .ty (.bool))], [], [], []⟩)], []⟩
noncomputable def dName_t : List (FuncId × Spec) := []
noncomputable def dName_l0 (s : (List UInt8)) : (Int × Unit) → Option (Rnd (Int × Unit) (Bool × Unit)) := fun (x1, _) => (bif decide (x1 < (↑(List.length s) : Int)) then (bif decide (0 ≤ x1) then ((s[Int.toNat x1]?).bind fun x2 => (two (β := (Bool × Unit)) (γ := Unit) (bif decide ((↑(UInt8.toNat x2) : Int) < 97) then (bif decide ((↑(UInt8.toNat x2) : Int) < 48) then (bif !decide ((↑(UInt8.toNat x2) : Int) = 46) then some (.inl (!decide ((↑(UInt8.toNat x2) : Int) = 45), ())) else some (.inl (false, ()))) else (bif decide (57 < (↑(UInt8.toNat x2) : Int)) then (bif !decide ((↑(UInt8.toNat x2) : Int) = 46) then some (.inl (!decide ((↑(UInt8.toNat x2) : Int) = 45), ())) else some (.inl (false, ()))) else some (.inl (false, ())))) else (bif decide (122 < (↑(UInt8.toNat x2) : Int)) then (bif decide ((↑(UInt8.toNat x2) : Int) < 48) then (bif !decide ((↑(UInt8.toNat x2) : Int) = 46) then some (.inl (!decide ((↑(UInt8.toNat x2) : Int) = 45), ())) else some (.inl (false, ()))) else (bif decide (57 < (↑(UInt8.toNat x2) : Int)) then (bif !decide ((↑(UInt8.toNat x2) : Int) = 46) then some (.inl (!decide ((↑(UInt8.toNat x2) : Int) = 45), ())) else some (.inl (false, ()))) else some (.inl (false, ())))) else some (.inl (false, ())))) (fun (x4, _) => (bif x4 then some (.ret (false, ())) else some (.next (IntKind.wrap .i64 (x1 + 1), ())))) (fun _ => none))) else none) else some (.out (x1, ())))
noncomputable def dName_b (s : (List UInt8)) : (Option (Bool × Unit)) := (two (β := (Int × Unit)) (γ := (Bool × Unit)) (loop (dName_l0 s) (0, ())) (fun (x6, _) => (bif decide (0 < (↑(List.length s) : Int)) then some (decide ((↑(List.length s) : Int) ≤ 80), ()) else some (false, ()))) (fun (x7, _) => some (x7, ())))
noncomputable def dName (s : (List UInt8)) : (Option (Bool × Unit)) := stuck (dName_b s)
theorem dName_un (s : (List UInt8)) : dName s = dName_b s := stuck_eq _
theorem dName_k : TabOk Tryz.prog dName_t := .nil
theorem dName_eq (d : dens dName_g.inP) : fnU Tryz.prog (tabU dName_t) dName_c 100 dName_g Tryz.f127 (Tryz.f127.body.getD .skip) d = dName_b d.1 := by kernel_rfl
theorem dName_ok : FnOk Tryz.prog 127 dName_g fun d => dName d.1 := (fn_ok follows named (tabU_ok dName_k) Tryz.func127 rfl).congr fun d => (dName_eq d).trans (stuck_eq _).symm
noncomputable def dName_s : FuncId × Spec := (127, callOf dName_g fun d => dName d.1)
theorem dName_o : SpecOk Tryz.prog dName_s.1 dName_s.2 := spec_ok dName_ok
def dNew_g : Sig := ⟨[], [], [], [.ptr 0], [([.omap (.str), .omap (.str), .lit (.slice none 0 0), .lit (.int .i64 0), .lit (.bool false), .lit (.slice none 0 0), .lit (.int .i64 (-1))], 70)], [.val 0]⟩
def dNew_c : Cuts := ⟨[], [], []⟩
noncomputable def dNew_t : List (FuncId × Spec) := []
noncomputable def dNew_b : (Option (Unit × ((List ((List UInt8) × (List UInt8))) × ((List ((List UInt8) × (List UInt8))) × (Unit × (Unit × (Unit × (Unit × (Unit × Unit))))))))) := some ((), ([], ([], ((), ((), ((), ((), ((), ()))))))))
noncomputable def dNew : (Option (Unit × ((List ((List UInt8) × (List UInt8))) × ((List ((List UInt8) × (List UInt8))) × (Unit × (Unit × (Unit × (Unit × (Unit × Unit))))))))) := stuck (dNew_b)
theorem dNew_un : dNew = dNew_b := stuck_eq _
theorem dNew_k : TabOk Tryz.prog dNew_t := .nil
theorem dNew_eq (d : dens dNew_g.inP) : fnU Tryz.prog (tabU dNew_t) dNew_c 100 dNew_g Tryz.f6 (Tryz.f6.body.getD .skip) d = dNew_b := by kernel_rfl
theorem dNew_ok : FnOk Tryz.prog 6 dNew_g fun d => dNew := (fn_ok follows named (tabU_ok dNew_k) Tryz.func6 rfl).congr fun d => (dNew_eq d).trans (stuck_eq _).symm
noncomputable def dNew_s : FuncId × Spec := (6, callOf dNew_g fun d => dNew)
theorem dNew_o : SpecOk Tryz.prog dNew_s.1 dNew_s.2 := spec_ok dNew_ok
def dAsk_g : Sig := ⟨[.ptr 0, .ty (.slice (.str))], [([.ign, .ign, .ign, .ign, .ro (.ty (.bool)), .ign, .ign], 70)], [.val 0], [.ty (.int .i64)], [], []⟩
def dAsk_c : Cuts := ⟨[(0, ⟨[(17, .ty (.int .i64))], [], [(4, .ty (.int .i64))], []⟩)], [], []⟩
noncomputable def dAsk_t : List (FuncId × Spec) := [dName_s]
noncomputable def dAsk_l0 (names : (List (List UInt8))) : (Int × Unit) → Option (Rnd (Int × Unit) (Int × Unit)) := fun (x1, _) => (bif decide (x1 < (↑(List.length names) : Int)) then (bif decide (0 ≤ x1) then ((names[Int.toNat x1]?).bind fun x2 => ((dName x2).bind fun (x3, _) => (bif !x3 then some (.ret (20, ())) else some (.next (IntKind.wrap .i64 (x1 + 1), ()))))) else none) else some (.out (x1, ())))
noncomputable def dAsk_b (names : (List (List UInt8))) (down : Bool) : (Option (Int × Unit)) := (bif down then some (21, ()) else (two (β := (Int × Unit)) (γ := (Int × Unit)) (loop (dAsk_l0 names) (0, ())) (fun (x5, _) => some (0, ())) (fun (x6, _) => some (x6, ()))))
noncomputable def dAsk (names : (List (List UInt8))) (down : Bool) : (Option (Int × Unit)) := stuck (dAsk_b names down)
theorem dAsk_un (names : (List (List UInt8))) (down : Bool) : dAsk names down = dAsk_b names down := stuck_eq _
theorem dAsk_k : TabOk Tryz.prog dAsk_t := .cons dName_o (.nil)
theorem dAsk_eq (d : dens dAsk_g.inP) : fnU Tryz.prog (tabU dAsk_t) dAsk_c 100 dAsk_g Tryz.f97 (Tryz.f97.body.getD .skip) d = dAsk_b d.2.1 d.2.2.2.2.2.2.1 := by kernel_rfl
theorem dAsk_ok : FnOk Tryz.prog 97 dAsk_g fun d => dAsk d.2.1 d.2.2.2.2.2.2.1 := (fn_ok follows named (tabU_ok dAsk_k) Tryz.func97 rfl).congr fun d => (dAsk_eq d).trans (stuck_eq _).symm
noncomputable def dAsk_s : FuncId × Spec := (97, callOf dAsk_g fun d => dAsk d.2.1 d.2.2.2.2.2.2.1)
theorem dAsk_o : SpecOk Tryz.prog dAsk_s.1 dAsk_s.2 := spec_ok dAsk_ok
def dDo_c : Cuts := ⟨[], [], []⟩
noncomputable def dDo_t : List (FuncId × Spec) := []
theorem dDo_k : TabOk Tryz.prog dDo_t := .nil
noncomputable def dDo_s : FuncId × Spec := (46, inlU Tryz.prog (tabU dDo_t) dDo_c 100 Tryz.f46 (Tryz.f46.body.getD .skip))
theorem dDo_o : SpecOk Tryz.prog dDo_s.1 dDo_s.2 := inl_ok follows named (tabU_ok dDo_k) Tryz.func46 rfl
def dRead_g : Sig := ⟨[.ptr 0, .ty (.str)], [([.ign, .rw (.omap (.str)) (.omap (.str)), .ign, .ign, .ro (.ty (.bool)), .ign, .ign], 70)], [.val 0], [.ty (.str), .ty (.int .i64)], [], []⟩
def dRead_c : Cuts := ⟨[], [], []⟩
noncomputable def dRead_t : List (FuncId × Spec) := [dAsk_s]
noncomputable def dRead_b (name : (List UInt8)) (now : (List ((List UInt8) × (List UInt8)))) (down : Bool) : (Option ((List UInt8) × (Int × ((List ((List UInt8) × (List UInt8))) × Unit)))) := ((dAsk [name] down).bind fun (x1, _) => (bif !decide (x1 = 0) then some ([], (x1, (now, ()))) else (bif !Option.isSome (mget name now) then some ([], (4, (now, ()))) else some (Option.getD (mget name now) [], (0, (now, ()))))))
noncomputable def dRead (name : (List UInt8)) (now : (List ((List UInt8) × (List UInt8)))) (down : Bool) : (Option ((List UInt8) × (Int × ((List ((List UInt8) × (List UInt8))) × Unit)))) := stuck (dRead_b name now down)
theorem dRead_un (name : (List UInt8)) (now : (List ((List UInt8) × (List UInt8)))) (down : Bool) : dRead name now down = dRead_b name now down := stuck_eq _
theorem dRead_k : TabOk Tryz.prog dRead_t := .cons dAsk_o (.nil)
theorem dRead_eq (d : dens dRead_g.inP) : fnU Tryz.prog (tabU dRead_t) dRead_c 100 dRead_g Tryz.f50 (Tryz.f50.body.getD .skip) d = dRead_b d.2.1 d.2.2.2.1 d.2.2.2.2.2.2.1 := by kernel_rfl
theorem dRead_ok : FnOk Tryz.prog 50 dRead_g fun d => dRead d.2.1 d.2.2.2.1 d.2.2.2.2.2.2.1 := (fn_ok follows named (tabU_ok dRead_k) Tryz.func50 rfl).congr fun d => (dRead_eq d).trans (stuck_eq _).symm
noncomputable def dRead_s : FuncId × Spec := (50, callOf dRead_g fun d => dRead d.2.1 d.2.2.2.1 d.2.2.2.2.2.2.1)
theorem dRead_o : SpecOk Tryz.prog dRead_s.1 dRead_s.2 := spec_ok dRead_ok
end Go.Proofs.YthnhbejjikgifaaGreatDoor.TV

/-
  WAL: a log's pieces, printed.
-/
namespace Go.Proofs.YthnhbejjikgifaaGreatDoor.TV
open Go Go.RowKit
set_option linter.unusedVariables false
set_option maxRecDepth 1000000
def wBase0_g : Sig := ⟨[.ty (.int .i64), .ty (.int .i64)], [], [], [.ty (.str)], [], []⟩
def wBase0_c : Cuts := ⟨[], [], []⟩
noncomputable def wBase0_t : List (FuncId × Spec) := [oNumber_s, mFrame_s]
noncomputable def wBase0_b (index : Int) (term : Int) : (Option ((List UInt8) × Unit)) := ((oNumber (IntKind.wrap .u64 index)).bind fun (x1, _) => ((oNumber (IntKind.wrap .u64 term)).bind fun (x2, _) => (bif decide (List.length x1 + List.length x2 ≤ 9223372036854775807) then ((mFrame (x1 ++ x2)).bind fun (x3, (x4, _)) => some (x3, ())) else none)))
noncomputable def wBase0 (index : Int) (term : Int) : (Option ((List UInt8) × Unit)) := stuck (wBase0_b index term)
theorem wBase0_un (index : Int) (term : Int) : wBase0 index term = wBase0_b index term := stuck_eq _
theorem wBase0_k : TabOk Tryz.prog wBase0_t := .cons oNumber_o (.cons mFrame_o (.nil))
theorem wBase0_eq (d : dens wBase0_g.inP) : fnU Tryz.prog (tabU wBase0_t) wBase0_c 100 wBase0_g Tryz.f84 (Tryz.f84.body.getD .skip) d = wBase0_b d.1 d.2.1 := by kernel_rfl
theorem wBase0_ok : FnOk Tryz.prog 84 wBase0_g fun d => wBase0 d.1 d.2.1 := (fn_ok follows named (tabU_ok wBase0_k) Tryz.func84 rfl).congr fun d => (wBase0_eq d).trans (stuck_eq _).symm
noncomputable def wBase0_s : FuncId × Spec := (84, callOf wBase0_g fun d => wBase0 d.1 d.2.1)
theorem wBase0_o : SpecOk Tryz.prog wBase0_s.1 wBase0_s.2 := spec_ok wBase0_ok
def wLaid_g : Sig := ⟨[.ty (.cons (.int .i64) (.cons (.int .i64) (.str)))], [], [], [.ty (.str)], [], []⟩
def wLaid_c : Cuts := ⟨[], [], []⟩
noncomputable def wLaid_t : List (FuncId × Spec) := [oNumber_s, oText_s, mFrame_s]
noncomputable def wLaid_b (x_Term : Int) (x_Kind : Int) (x_Data : (List UInt8)) : (Option ((List UInt8) × Unit)) := ((oNumber (IntKind.wrap .u64 x_Term)).bind fun (x1, _) => ((oNumber (IntKind.wrap .u64 x_Kind)).bind fun (x2, _) => (bif decide (List.length x1 + List.length x2 ≤ 9223372036854775807) then ((oText x_Data).bind fun (x3, _) => (bif decide (List.length (x1 ++ x2) + List.length x3 ≤ 9223372036854775807) then ((mFrame (x1 ++ x2 ++ x3)).bind fun (x4, (x5, _)) => some (x4, ())) else none)) else none)))
noncomputable def wLaid (x_Term : Int) (x_Kind : Int) (x_Data : (List UInt8)) : (Option ((List UInt8) × Unit)) := stuck (wLaid_b x_Term x_Kind x_Data)
theorem wLaid_un (x_Term : Int) (x_Kind : Int) (x_Data : (List UInt8)) : wLaid x_Term x_Kind x_Data = wLaid_b x_Term x_Kind x_Data := stuck_eq _
theorem wLaid_k : TabOk Tryz.prog wLaid_t := .cons oNumber_o (.cons oText_o (.cons mFrame_o (.nil)))
theorem wLaid_eq (d : dens wLaid_g.inP) : fnU Tryz.prog (tabU wLaid_t) wLaid_c 100 wLaid_g Tryz.f126 (Tryz.f126.body.getD .skip) d = wLaid_b d.1.1 d.1.2.1 d.1.2.2 := by kernel_rfl
theorem wLaid_ok : FnOk Tryz.prog 126 wLaid_g fun d => wLaid d.1.1 d.1.2.1 d.1.2.2 := (fn_ok follows named (tabU_ok wLaid_k) Tryz.func126 rfl).congr fun d => (wLaid_eq d).trans (stuck_eq _).symm
noncomputable def wLaid_s : FuncId × Spec := (126, callOf wLaid_g fun d => wLaid d.1.1 d.1.2.1 d.1.2.2)
theorem wLaid_o : SpecOk Tryz.prog wLaid_s.1 wLaid_s.2 := spec_ok wLaid_ok
def wEntry0_g : Sig := ⟨[.ty (.str)], [], [], [.ty (.cons (.int .i64) (.cons (.int .i64) (.str))), .ty (.bool)], [], []⟩
def wEntry0_c : Cuts := ⟨[], [], []⟩
noncomputable def wEntry0_t : List (FuncId × Spec) := [oNewReader_s, oRdInt_s, oRdText_s, oRdEnd_s]
noncomputable def wEntry0_b (s : (List UInt8)) : (Option ((Int × (Int × (List UInt8))) × (Bool × Unit))) := ((oNewReader s).bind fun (_, (x1, (x2, (x3, _)))) => ((oRdInt 1099511627776 x1 x2 x3).bind fun (x4, (x5, (x6, _))) => ((oRdInt 255 x1 x5 x6).bind fun (x7, (x8, (x9, _))) => ((oRdText 65536 x1 x8 x9).bind fun (x10, (x11, (x12, _))) => ((oRdEnd x1 x11 x12).bind fun (x13, (x14, _)) => some ((x4, (x7, x10)), (decide (x13 = 0), ())))))))
noncomputable def wEntry0 (s : (List UInt8)) : (Option ((Int × (Int × (List UInt8))) × (Bool × Unit))) := stuck (wEntry0_b s)
theorem wEntry0_un (s : (List UInt8)) : wEntry0 s = wEntry0_b s := stuck_eq _
theorem wEntry0_k : TabOk Tryz.prog wEntry0_t := .cons oNewReader_o (.cons oRdInt_o (.cons oRdText_o (.cons oRdEnd_o (.nil))))
theorem wEntry0_eq (d : dens wEntry0_g.inP) : fnU Tryz.prog (tabU wEntry0_t) wEntry0_c 100 wEntry0_g Tryz.f124 (Tryz.f124.body.getD .skip) d = wEntry0_b d.1 := by kernel_rfl
theorem wEntry0_ok : FnOk Tryz.prog 124 wEntry0_g fun d => wEntry0 d.1 := (fn_ok follows named (tabU_ok wEntry0_k) Tryz.func124 rfl).congr fun d => (wEntry0_eq d).trans (stuck_eq _).symm
noncomputable def wEntry0_s : FuncId × Spec := (124, callOf wEntry0_g fun d => wEntry0 d.1)
theorem wEntry0_o : SpecOk Tryz.prog wEntry0_s.1 wEntry0_s.2 := spec_ok wEntry0_ok
def wLong_g : Sig := ⟨[.ty (.cons (.int .i64) (.cons (.int .i64) (.cons (.int .i64) (.cons (.slice (.cons (.int .i64) (.cons (.int .i64) (.str)))) (.slice (.int .i64))))))], [], [], [.ty (.int .i64)], [], []⟩
def wLong_c : Cuts := ⟨[], [], []⟩
noncomputable def wLong_t : List (FuncId × Spec) := [wBase0_s]
noncomputable def wLong_b (s_n : Int) (s_index : Int) (s_term : Int) (s_entries : (List (Int × (Int × (List UInt8))))) (s_ends : (List Int)) : (Option (Int × Unit)) := (bif decide (0 < (↑(List.length s_ends) : Int)) then (bif decide (0 ≤ IntKind.wrap .i64 ((↑(List.length s_ends) : Int) - 1)) then ((s_ends[Int.toNat (IntKind.wrap .i64 ((↑(List.length s_ends) : Int) - 1))]?).bind fun x2 => some (x2, ())) else none) else ((wBase0 s_index s_term).bind fun (x1, _) => some ((↑(List.length x1) : Int), ())))
noncomputable def wLong (s_n : Int) (s_index : Int) (s_term : Int) (s_entries : (List (Int × (Int × (List UInt8))))) (s_ends : (List Int)) : (Option (Int × Unit)) := stuck (wLong_b s_n s_index s_term s_entries s_ends)
theorem wLong_un (s_n : Int) (s_index : Int) (s_term : Int) (s_entries : (List (Int × (Int × (List UInt8))))) (s_ends : (List Int)) : wLong s_n s_index s_term s_entries s_ends = wLong_b s_n s_index s_term s_entries s_ends := stuck_eq _
theorem wLong_k : TabOk Tryz.prog wLong_t := .cons wBase0_o (.nil)
theorem wLong_eq (d : dens wLong_g.inP) : fnU Tryz.prog (tabU wLong_t) wLong_c 100 wLong_g Tryz.f87 (Tryz.f87.body.getD .skip) d = wLong_b d.1.1 d.1.2.1 d.1.2.2.1 d.1.2.2.2.1 d.1.2.2.2.2 := by kernel_rfl
theorem wLong_ok : FnOk Tryz.prog 87 wLong_g fun d => wLong d.1.1 d.1.2.1 d.1.2.2.1 d.1.2.2.2.1 d.1.2.2.2.2 := (fn_ok follows named (tabU_ok wLong_k) Tryz.func87 rfl).congr fun d => (wLong_eq d).trans (stuck_eq _).symm
noncomputable def wLong_s : FuncId × Spec := (87, callOf wLong_g fun d => wLong d.1.1 d.1.2.1 d.1.2.2.1 d.1.2.2.2.1 d.1.2.2.2.2)
theorem wLong_o : SpecOk Tryz.prog wLong_s.1 wLong_s.2 := spec_ok wLong_ok
def wSegEnd_g : Sig := ⟨[.ty (.cons (.int .i64) (.cons (.int .i64) (.cons (.int .i64) (.cons (.slice (.cons (.int .i64) (.cons (.int .i64) (.str)))) (.slice (.int .i64))))))], [], [], [.ty (.int .i64), .ty (.int .i64)], [], []⟩
def wSegEnd_c : Cuts := ⟨[], [], []⟩
noncomputable def wSegEnd_t : List (FuncId × Spec) := []
noncomputable def wSegEnd_b (s_n : Int) (s_index : Int) (s_term : Int) (s_entries : (List (Int × (Int × (List UInt8))))) (s_ends : (List Int)) : (Option (Int × (Int × Unit))) := (bif decide (0 < (↑(List.length s_entries) : Int)) then (bif decide (0 ≤ IntKind.wrap .i64 ((↑(List.length s_entries) : Int) - 1)) then ((s_entries[Int.toNat (IntKind.wrap .i64 ((↑(List.length s_entries) : Int) - 1))]?).bind fun (x1, (x2, x3)) => some (IntKind.wrap .i64 (s_index + (↑(List.length s_entries) : Int)), (x1, ()))) else none) else some (s_index, (s_term, ())))
noncomputable def wSegEnd (s_n : Int) (s_index : Int) (s_term : Int) (s_entries : (List (Int × (Int × (List UInt8))))) (s_ends : (List Int)) : (Option (Int × (Int × Unit))) := stuck (wSegEnd_b s_n s_index s_term s_entries s_ends)
theorem wSegEnd_un (s_n : Int) (s_index : Int) (s_term : Int) (s_entries : (List (Int × (Int × (List UInt8))))) (s_ends : (List Int)) : wSegEnd s_n s_index s_term s_entries s_ends = wSegEnd_b s_n s_index s_term s_entries s_ends := stuck_eq _
theorem wSegEnd_k : TabOk Tryz.prog wSegEnd_t := .nil
theorem wSegEnd_eq (d : dens wSegEnd_g.inP) : fnU Tryz.prog (tabU wSegEnd_t) wSegEnd_c 100 wSegEnd_g Tryz.f40 (Tryz.f40.body.getD .skip) d = wSegEnd_b d.1.1 d.1.2.1 d.1.2.2.1 d.1.2.2.2.1 d.1.2.2.2.2 := by kernel_rfl
theorem wSegEnd_ok : FnOk Tryz.prog 40 wSegEnd_g fun d => wSegEnd d.1.1 d.1.2.1 d.1.2.2.1 d.1.2.2.2.1 d.1.2.2.2.2 := (fn_ok follows named (tabU_ok wSegEnd_k) Tryz.func40 rfl).congr fun d => (wSegEnd_eq d).trans (stuck_eq _).symm
noncomputable def wSegEnd_s : FuncId × Spec := (40, callOf wSegEnd_g fun d => wSegEnd d.1.1 d.1.2.1 d.1.2.2.1 d.1.2.2.2.1 d.1.2.2.2.2)
theorem wSegEnd_o : SpecOk Tryz.prog wSegEnd_s.1 wSegEnd_s.2 := spec_ok wSegEnd_ok
def wAsk_g : Sig := ⟨[.ptr 0], [([.ign, .ign, .ign, .ign, .ro (.ty (.bool))], 73)], [.val 0], [.ty (.int .i64)], [], []⟩
def wAsk_c : Cuts := ⟨[], [], []⟩
noncomputable def wAsk_t : List (FuncId × Spec) := []
noncomputable def wAsk_b (lost : Bool) : (Option (Int × Unit)) := (bif lost then some (21, ()) else some (0, ()))
noncomputable def wAsk (lost : Bool) : (Option (Int × Unit)) := stuck (wAsk_b lost)
theorem wAsk_un (lost : Bool) : wAsk lost = wAsk_b lost := stuck_eq _
theorem wAsk_k : TabOk Tryz.prog wAsk_t := .nil
theorem wAsk_eq (d : dens wAsk_g.inP) : fnU Tryz.prog (tabU wAsk_t) wAsk_c 100 wAsk_g Tryz.f41 (Tryz.f41.body.getD .skip) d = wAsk_b d.2.2.2.2.2.1 := by kernel_rfl
theorem wAsk_ok : FnOk Tryz.prog 41 wAsk_g fun d => wAsk d.2.2.2.2.2.1 := (fn_ok follows named (tabU_ok wAsk_k) Tryz.func41 rfl).congr fun d => (wAsk_eq d).trans (stuck_eq _).symm
noncomputable def wAsk_s : FuncId × Spec := (41, callOf wAsk_g fun d => wAsk d.2.2.2.2.2.1)
theorem wAsk_o : SpecOk Tryz.prog wAsk_s.1 wAsk_s.2 := spec_ok wAsk_ok
def wBase_g : Sig := ⟨[.ptr 0], [([.ign, .ign, .ign, .rw (.olst (.cons (.int .i64) (.cons (.int .i64) (.cons (.int .i64) (.cons (.slice (.cons (.int .i64) (.cons (.int .i64) (.str)))) (.slice (.int .i64)))))) 86) (.olst (.cons (.int .i64) (.cons (.int .i64) (.cons (.int .i64) (.cons (.slice (.cons (.int .i64) (.cons (.int .i64) (.str)))) (.slice (.int .i64)))))) 86), .ign], 73)], [.val 0], [.ty (.int .i64), .ty (.int .i64)], [], []⟩
def wBase_c : Cuts := ⟨[], [], []⟩
noncomputable def wBase_t : List (FuncId × Spec) := []
noncomputable def wBase_b (segs : (List (Int × (Int × (Int × ((List (Int × (Int × (List UInt8)))) × (List Int))))))) : (Option (Int × (Int × ((List (Int × (Int × (Int × ((List (Int × (Int × (List UInt8)))) × (List Int)))))) × Unit)))) := (bif decide (0 < (↑(List.length segs) : Int)) then ((segs[0]?).bind fun (x1, (x2, (x3, (x4, x5)))) => (bif decide (0 < (↑(List.length segs) : Int)) then ((segs[0]?).bind fun (x6, (x7, (x8, (x9, x10)))) => some (x2, (x8, (segs, ())))) else none)) else none)
noncomputable def wBase (segs : (List (Int × (Int × (Int × ((List (Int × (Int × (List UInt8)))) × (List Int))))))) : (Option (Int × (Int × ((List (Int × (Int × (Int × ((List (Int × (Int × (List UInt8)))) × (List Int)))))) × Unit)))) := stuck (wBase_b segs)
theorem wBase_un (segs : (List (Int × (Int × (Int × ((List (Int × (Int × (List UInt8)))) × (List Int))))))) : wBase segs = wBase_b segs := stuck_eq _
theorem wBase_k : TabOk Tryz.prog wBase_t := .nil
theorem wBase_eq (d : dens wBase_g.inP) : fnU Tryz.prog (tabU wBase_t) wBase_c 100 wBase_g Tryz.f18 (Tryz.f18.body.getD .skip) d = wBase_b d.2.2.2.2.1 := by kernel_rfl
theorem wBase_ok : FnOk Tryz.prog 18 wBase_g fun d => wBase d.2.2.2.2.1 := (fn_ok follows named (tabU_ok wBase_k) Tryz.func18 rfl).congr fun d => (wBase_eq d).trans (stuck_eq _).symm
noncomputable def wBase_s : FuncId × Spec := (18, callOf wBase_g fun d => wBase d.2.2.2.2.1)
theorem wBase_o : SpecOk Tryz.prog wBase_s.1 wBase_s.2 := spec_ok wBase_ok
def wEnd_g : Sig := ⟨[.ptr 0], [([.ign, .ign, .ign, .rw (.olst (.cons (.int .i64) (.cons (.int .i64) (.cons (.int .i64) (.cons (.slice (.cons (.int .i64) (.cons (.int .i64) (.str)))) (.slice (.int .i64)))))) 86) (.olst (.cons (.int .i64) (.cons (.int .i64) (.cons (.int .i64) (.cons (.slice (.cons (.int .i64) (.cons (.int .i64) (.str)))) (.slice (.int .i64)))))) 86), .ign], 73)], [.val 0], [.ty (.int .i64), .ty (.int .i64)], [], []⟩
def wEnd_c : Cuts := ⟨[], [], []⟩
noncomputable def wEnd_t : List (FuncId × Spec) := [wSegEnd_s]
noncomputable def wEnd_b (segs : (List (Int × (Int × (Int × ((List (Int × (Int × (List UInt8)))) × (List Int))))))) : (Option (Int × (Int × ((List (Int × (Int × (Int × ((List (Int × (Int × (List UInt8)))) × (List Int)))))) × Unit)))) := (bif decide (0 ≤ IntKind.wrap .i64 ((↑(List.length segs) : Int) - 1)) then (bif decide (IntKind.wrap .i64 ((↑(List.length segs) : Int) - 1) < (↑(List.length segs) : Int)) then ((segs[Int.toNat (IntKind.wrap .i64 ((↑(List.length segs) : Int) - 1))]?).bind fun (x1, (x2, (x3, (x4, x5)))) => ((wSegEnd x1 x2 x3 x4 x5).bind fun (x6, (x7, _)) => some (x6, (x7, (segs, ()))))) else none) else none)
noncomputable def wEnd (segs : (List (Int × (Int × (Int × ((List (Int × (Int × (List UInt8)))) × (List Int))))))) : (Option (Int × (Int × ((List (Int × (Int × (Int × ((List (Int × (Int × (List UInt8)))) × (List Int)))))) × Unit)))) := stuck (wEnd_b segs)
theorem wEnd_un (segs : (List (Int × (Int × (Int × ((List (Int × (Int × (List UInt8)))) × (List Int))))))) : wEnd segs = wEnd_b segs := stuck_eq _
theorem wEnd_k : TabOk Tryz.prog wEnd_t := .cons wSegEnd_o (.nil)
theorem wEnd_eq (d : dens wEnd_g.inP) : fnU Tryz.prog (tabU wEnd_t) wEnd_c 100 wEnd_g Tryz.f12 (Tryz.f12.body.getD .skip) d = wEnd_b d.2.2.2.2.1 := by kernel_rfl
theorem wEnd_ok : FnOk Tryz.prog 12 wEnd_g fun d => wEnd d.2.2.2.2.1 := (fn_ok follows named (tabU_ok wEnd_k) Tryz.func12 rfl).congr fun d => (wEnd_eq d).trans (stuck_eq _).symm
noncomputable def wEnd_s : FuncId × Spec := (12, callOf wEnd_g fun d => wEnd d.2.2.2.2.1)
theorem wEnd_o : SpecOk Tryz.prog wEnd_s.1 wEnd_s.2 := spec_ok wEnd_ok
def wTold_g : Sig := ⟨[.ptr 0, .ty (.int .i64)], [([.ign, .ign, .ign, .ign, .rw (.ty (.bool)) (.ty (.bool))], 73)], [.val 0], [.ty (.int .i64)], [], []⟩
def wTold_c : Cuts := ⟨[], [], []⟩
noncomputable def wTold_t : List (FuncId × Spec) := []
noncomputable def wTold_b (e : Int) (lost : Bool) : (Option (Int × (Bool × Unit))) := (bif lost then some (e, (true, ())) else some (e, (decide (e = 21), ())))
noncomputable def wTold (e : Int) (lost : Bool) : (Option (Int × (Bool × Unit))) := stuck (wTold_b e lost)
theorem wTold_un (e : Int) (lost : Bool) : wTold e lost = wTold_b e lost := stuck_eq _
theorem wTold_k : TabOk Tryz.prog wTold_t := .nil
theorem wTold_eq (d : dens wTold_g.inP) : fnU Tryz.prog (tabU wTold_t) wTold_c 100 wTold_g Tryz.f44 (Tryz.f44.body.getD .skip) d = wTold_b d.2.1 d.2.2.2.2.2.2.1 := by kernel_rfl
theorem wTold_ok : FnOk Tryz.prog 44 wTold_g fun d => wTold d.2.1 d.2.2.2.2.2.2.1 := (fn_ok follows named (tabU_ok wTold_k) Tryz.func44 rfl).congr fun d => (wTold_eq d).trans (stuck_eq _).symm
noncomputable def wTold_s : FuncId × Spec := (44, callOf wTold_g fun d => wTold d.2.1 d.2.2.2.2.2.2.1)
theorem wTold_o : SpecOk Tryz.prog wTold_s.1 wTold_s.2 := spec_ok wTold_ok
def wFrom_g : Sig := ⟨[.ptr 0, .ty (.int .i64)], [([.ign, .ign, .ign, .rw (.olst (.cons (.int .i64) (.cons (.int .i64) (.cons (.int .i64) (.cons (.slice (.cons (.int .i64) (.cons (.int .i64) (.str)))) (.slice (.int .i64)))))) 86) (.olst (.cons (.int .i64) (.cons (.int .i64) (.cons (.int .i64) (.cons (.slice (.cons (.int .i64) (.cons (.int .i64) (.str)))) (.slice (.int .i64)))))) 86), .ign], 73)], [.val 0], [.ty (.slice (.cons (.int .i64) (.cons (.int .i64) (.str))))], [], []⟩
def wFrom_c : Cuts := ⟨[(0, ⟨[(5, .gsl (.cons (.int .i64) (.cons (.int .i64) (.str))) 80), (16, .ty (.int .i64))], [], [], []⟩)], [], []⟩
noncomputable def wFrom_t : List (FuncId × Spec) := []
noncomputable def wFrom_l0 (index : Int) (segs : (List (Int × (Int × (Int × ((List (Int × (Int × (List UInt8)))) × (List Int))))))) : ((List (Int × (Int × (List UInt8)))) × (Int × Unit)) → Option (Rnd ((List (Int × (Int × (List UInt8)))) × (Int × Unit)) Unit) := fun (x1, (x2, _)) => (bif decide (x2 < (↑(List.length segs) : Int)) then (bif decide (0 ≤ x2) then (bif decide (x2 < (↑(List.length segs) : Int)) then ((segs[Int.toNat x2]?).bind fun (x3, (x4, (x5, (x6, x7)))) => (bif decide (index ≤ IntKind.wrap .i64 (x4 + (↑(List.length x6) : Int))) then (bif within (List.length x6) (Option.some (if 0 > IntKind.wrap .i64 (IntKind.wrap .i64 (index - x4) - 1) then 0 else IntKind.wrap .i64 (IntKind.wrap .i64 (index - x4) - 1))) Option.none then (bif List.isEmpty (cut x6 (Option.some (if 0 > IntKind.wrap .i64 (IntKind.wrap .i64 (index - x4) - 1) then 0 else IntKind.wrap .i64 (IntKind.wrap .i64 (index - x4) - 1))) Option.none) then some (.next (x1, (IntKind.wrap .i64 (x2 + 1), ()))) else (bif decide ((List.length x1 + List.length (cut x6 (Option.some (if 0 > IntKind.wrap .i64 (IntKind.wrap .i64 (index - x4) - 1) then 0 else IntKind.wrap .i64 (IntKind.wrap .i64 (index - x4) - 1))) Option.none)) * 32 ≤ 140737488355328) then some (.next (x1 ++ cut x6 (Option.some (if 0 > IntKind.wrap .i64 (IntKind.wrap .i64 (index - x4) - 1) then 0 else IntKind.wrap .i64 (IntKind.wrap .i64 (index - x4) - 1))) Option.none, (IntKind.wrap .i64 (x2 + 1), ()))) else none)) else none) else some (.next (x1, (IntKind.wrap .i64 (x2 + 1), ()))))) else none) else none) else some (.out (x1, (x2, ()))))
noncomputable def wFrom_b (index : Int) (segs : (List (Int × (Int × (Int × ((List (Int × (Int × (List UInt8)))) × (List Int))))))) : (Option ((List (Int × (Int × (List UInt8)))) × ((List (Int × (Int × (Int × ((List (Int × (Int × (List UInt8)))) × (List Int)))))) × Unit))) := (two (β := ((List (Int × (Int × (List UInt8)))) × (Int × Unit))) (γ := Unit) (loop (wFrom_l0 index segs) ([], (0, ()))) (fun (x9, (x10, _)) => some (x9, (segs, ()))) (fun _ => some ([], (segs, ()))))
noncomputable def wFrom (index : Int) (segs : (List (Int × (Int × (Int × ((List (Int × (Int × (List UInt8)))) × (List Int))))))) : (Option ((List (Int × (Int × (List UInt8)))) × ((List (Int × (Int × (Int × ((List (Int × (Int × (List UInt8)))) × (List Int)))))) × Unit))) := stuck (wFrom_b index segs)
theorem wFrom_un (index : Int) (segs : (List (Int × (Int × (Int × ((List (Int × (Int × (List UInt8)))) × (List Int))))))) : wFrom index segs = wFrom_b index segs := stuck_eq _
theorem wFrom_k : TabOk Tryz.prog wFrom_t := .nil
theorem wFrom_eq (d : dens wFrom_g.inP) : fnU Tryz.prog (tabU wFrom_t) wFrom_c 100 wFrom_g Tryz.f17 (Tryz.f17.body.getD .skip) d = wFrom_b d.2.1 d.2.2.2.2.2.1 := by kernel_rfl
theorem wFrom_ok : FnOk Tryz.prog 17 wFrom_g fun d => wFrom d.2.1 d.2.2.2.2.2.1 := (fn_ok follows named (tabU_ok wFrom_k) Tryz.func17 rfl).congr fun d => (wFrom_eq d).trans (stuck_eq _).symm
noncomputable def wFrom_s : FuncId × Spec := (17, callOf wFrom_g fun d => wFrom d.2.1 d.2.2.2.2.2.1)
theorem wFrom_o : SpecOk Tryz.prog wFrom_s.1 wFrom_s.2 := spec_ok wFrom_ok
def wEntry_g : Sig := ⟨[.ptr 0, .ty (.int .i64)], [([.ign, .ign, .ign, .rw (.olst (.cons (.int .i64) (.cons (.int .i64) (.cons (.int .i64) (.cons (.slice (.cons (.int .i64) (.cons (.int .i64) (.str)))) (.slice (.int .i64)))))) 86) (.olst (.cons (.int .i64) (.cons (.int .i64) (.cons (.int .i64) (.cons (.slice (.cons (.int .i64) (.cons (.int .i64) (.str)))) (.slice (.int .i64)))))) 86), .ign], 73)], [.val 0], [.ty (.cons (.int .i64) (.cons (.int .i64) (.str))), .ty (.bool)], [], []⟩
def wEntry_c : Cuts := ⟨[(0, ⟨[(15, .ty (.int .i64))], [(1, 0, .lit (.int .i64 0)), (1, 1, .lit (.int .i64 0)), (1, 2, .lit (.string ⟨#[]⟩))], [(5, .ty (.bool))], [(1, 0, .ty (.int .i64)), (1, 1, .ty (.int .i64)), (1, 2, .ty (.str))]⟩)], [], []⟩
noncomputable def wEntry_t : List (FuncId × Spec) := []
noncomputable def wEntry_l0 (index : Int) (segs : (List (Int × (Int × (Int × ((List (Int × (Int × (List UInt8)))) × (List Int))))))) : (Int × (Unit × (Unit × (Unit × Unit)))) → Option (Rnd (Int × (Unit × (Unit × (Unit × Unit)))) (Bool × (Int × (Int × ((List UInt8) × Unit))))) := fun (x1, (_, (_, (_, _)))) => (bif decide (x1 < (↑(List.length segs) : Int)) then (bif decide (0 ≤ x1) then (bif decide (x1 < (↑(List.length segs) : Int)) then ((segs[Int.toNat x1]?).bind fun (x2, (x3, (x4, (x5, x6)))) => (bif decide (x3 < index) then (bif decide (index ≤ IntKind.wrap .i64 (x3 + (↑(List.length x5) : Int))) then (bif decide (0 ≤ IntKind.wrap .i64 (IntKind.wrap .i64 (index - x3) - 1)) then ((x5[Int.toNat (IntKind.wrap .i64 (IntKind.wrap .i64 (index - x3) - 1))]?).bind fun (x7, (x8, x9)) => some (.ret (true, (x7, (x8, (x9, ())))))) else none) else some (.next (IntKind.wrap .i64 (x1 + 1), ((), ((), ((), ())))))) else some (.next (IntKind.wrap .i64 (x1 + 1), ((), ((), ((), ()))))))) else none) else none) else some (.out (x1, ((), ((), ((), ()))))))
noncomputable def wEntry_b (index : Int) (segs : (List (Int × (Int × (Int × ((List (Int × (Int × (List UInt8)))) × (List Int))))))) : (Option ((Int × (Int × (List UInt8))) × (Bool × ((List (Int × (Int × (Int × ((List (Int × (Int × (List UInt8)))) × (List Int)))))) × Unit)))) := (two (β := (Int × (Unit × (Unit × (Unit × Unit))))) (γ := (Bool × (Int × (Int × ((List UInt8) × Unit))))) (loop (wEntry_l0 index segs) (0, ((), ((), ((), ()))))) (fun (x11, (_, (_, (_, _)))) => some ((0, (0, [])), (false, (segs, ())))) (fun (x12, (x13, (x14, (x15, _)))) => some ((x13, (x14, x15)), (x12, (segs, ())))))
noncomputable def wEntry (index : Int) (segs : (List (Int × (Int × (Int × ((List (Int × (Int × (List UInt8)))) × (List Int))))))) : (Option ((Int × (Int × (List UInt8))) × (Bool × ((List (Int × (Int × (Int × ((List (Int × (Int × (List UInt8)))) × (List Int)))))) × Unit)))) := stuck (wEntry_b index segs)
theorem wEntry_un (index : Int) (segs : (List (Int × (Int × (Int × ((List (Int × (Int × (List UInt8)))) × (List Int))))))) : wEntry index segs = wEntry_b index segs := stuck_eq _
theorem wEntry_k : TabOk Tryz.prog wEntry_t := .nil
theorem wEntry_eq (d : dens wEntry_g.inP) : fnU Tryz.prog (tabU wEntry_t) wEntry_c 100 wEntry_g Tryz.f37 (Tryz.f37.body.getD .skip) d = wEntry_b d.2.1 d.2.2.2.2.2.1 := by kernel_rfl
theorem wEntry_ok : FnOk Tryz.prog 37 wEntry_g fun d => wEntry d.2.1 d.2.2.2.2.2.1 := (fn_ok follows named (tabU_ok wEntry_k) Tryz.func37 rfl).congr fun d => (wEntry_eq d).trans (stuck_eq _).symm
noncomputable def wEntry_s : FuncId × Spec := (37, callOf wEntry_g fun d => wEntry d.2.1 d.2.2.2.2.2.1)
theorem wEntry_o : SpecOk Tryz.prog wEntry_s.1 wEntry_s.2 := spec_ok wEntry_ok
end Go.Proofs.YthnhbejjikgifaaGreatDoor.TV
