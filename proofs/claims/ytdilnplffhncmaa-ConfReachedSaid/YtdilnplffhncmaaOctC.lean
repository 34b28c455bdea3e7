/-
  OCTET: the document's number, as the code of the document lays it.
-/
import Derived.Test.YtdilnplffhncmaaOctB
namespace Go.Proofs.Ytdilnplffhncmaa.TV
open Go Go.RowKit
set_option linter.unusedSimpArgs false
set_option linter.unusedVariables false
set_option maxRecDepth 100000
attribute [local go_sem] rt_nil rt_move rt_assign rt_read rt_guard wt_guard wt_none ir_move ir_assign ir_pick ir_build ir_buildSlice ir_load ir_nilCheck ir_bin ir_un ir_convert ir_makeInterface ir_makeFunc ir_slice ir_fieldAddr ir_field ir_indexAddr ir_index ir_lookup ir_extract ir_len ir_min ir_max ir_call ir_append ir_copy ir_alloc ir_box ir_store ir_makeSlice ir_makeMap ir_mapUpdate rd_move rd_assign rd_pick rd_build rd_buildSlice rd_load rd_nilCheck rd_bin rd_un rd_convert rd_slice rd_fieldAddr rd_field rd_indexAddr rd_index rd_extract rd_makeFunc rd_len rd_min rd_max gd_int gd_str gd_bool bn_add bn_sub bn_mul bn_quo bn_rem bn_eql bn_neq bn_lss bn_leq bn_gtr bn_geq bn_sadd bn_seql bn_sneq un_not un_neg oc_int oc_bool putE_some putE_none ev_const ev_tmp ev_func Env.at_set_ne Env.at_set_eq List.length_set if_true if_false Bool.false_eq_true ne_eq not_false_eq_true decide_true decide_false Option.bind_some List.getElem?_cons_zero List.getElem?_cons_succ Nat.succ_ne_zero Bool.true_eq_false Bool.not_true Bool.not_false beq_self_eq_true List.toList_toArray Option.bind_none bq_tl bq_fl bq_tr bq_fr undefT List.map_cons List.map_nil ints_len_i ints_at_i load_i bs_byte conv_u8

theorem num_len : ∀ (k n : Nat), n < 128 ^ (k + 1) → (num n).length ≤ k + 1
  | k, n, h => by
    by_cases hn : n < 128
    · rw [num_small hn]; simp
    · rw [num_big hn]
      cases k with
      | zero => simp at h; omega
      | succ k =>
        have := num_len k (n / 128) (by rw [Nat.pow_succ] at h; exact Nat.div_lt_of_lt_mul (by rw [Nat.mul_comm]; exact h))
        simp; omega
theorem num_len10 {n : Nat} (h : n < 18446744073709551616) : (num n).length ≤ 10 := num_len 9 n (by omega)
theorem conv_one {s : St} {b : Bool} {c : Nat} {tok : Tok} (h : c < 256) : convT Try.prog s 72 9 (.slice b [.int .u8 c] tok) = some (.str [UInt8.ofNat c]) := by
  rw [← u8s_one h]
  exact conv_str
theorem wrap_u64 {n : Nat} (h : n < 18446744073709551616) : IntKind.u64.wrap (n : Int) = (n : Int) := by
  unfold IntKind.wrap
  simp [IntKind.min, IntKind.max, IntKind.bits, IntKind.signed]
  omega
theorem rem128 (n : Nat) : Int.tmod (n : Int) 128 = ((n % 128 : Nat) : Int) := by
  rw [Int.tmod_eq_emod_of_nonneg (by omega)]
  omega
theorem quo128 (n : Nat) : Int.tdiv (n : Int) 128 = ((n / 128 : Nat) : Int) := by
  rw [Int.tdiv_eq_ediv_of_nonneg (by omega)]
  omega

set_option maxHeartbeats 2000000 in
theorem refNumber_ok : ∀ (n : Nat), n < 18446744073709551616 → Pure Try.prog 42 [.int .u64 n] (.str (num n)) := by
  intro n
  induction n using Nat.strongRecOn with
  | _ n ih =>
    intro hn64
    refine Pure.body Try.func42 rfl fun s => ?_
    generalize he : ([TV.int .u64 n] ++ List.replicate (Try.f42.ntmps - [TV.int .u64 n].length) undefT) = e
    have h0 : Env.at e 0 = TV.int .u64 n := by rw [← he]; rfl
    have hn : List.length e = 19 := by rw [← he]; rfl
    clear he
    by_cases hk : n < 128
    · have hlt : ((n : Int) < 128) := by omega
      have hw : IntKind.u8.wrap (n : Int) = (n : Int) := by rw [wrap_u8]; congr 1; omega
      have hc := fun (s : St) (b : Bool) (tok : Tok) => conv_one (s := s) (b := b) (tok := tok) (c := n) (by omega)
      repeat (first | (refine Do.seq ?_) | (refine Do.block ?_) | (apply Do.reads follows; (case hr => first | kernel_rfl | rfl); (case h => (repeat (first | with_reducible exact rt_nil | (apply readsTo.put; (case hw => simp only [go_sem, Nat.reduceEqDiff, Nat.reduceLT, Nat.reduceAdd, Nat.reduceLeDiff, Int.reduceLT, Int.reduceLE, h0, hn, hlt, hw, hc]; done); (case hr => rfl); (case hd => rfl); (case hv => simp only [go_sem, Nat.reduceEqDiff, Nat.reduceLT, Nat.reduceAdd, Nat.reduceLeDiff, Int.reduceLT, Int.reduceLE, h0, hn, hlt, hw, hc]; rfl)) | (apply readsTo.drop; (case hw => simp only [go_sem, Nat.reduceEqDiff, Nat.reduceLT, Nat.reduceAdd, Nat.reduceLeDiff, Int.reduceLT, Int.reduceLE, h0, hn, hlt, hw, hc]; done); (case hd => rfl)) | (apply readsTo.stop; (case hw => simp only [go_sem, Nat.reduceEqDiff, Nat.reduceLT, Nat.reduceAdd, Nat.reduceLeDiff, Int.reduceLT, Int.reduceLE, h0, hn, hlt, hw, hc]; done); (case hr => rfl))))))  | (refine Do.yes ?_ ?_; focus (simp only [go_sem, Nat.reduceEqDiff, Nat.reduceLT, Nat.reduceAdd, Nat.reduceLeDiff, Int.reduceLT, Int.reduceLE, h0, hn, hlt, hw, hc]; done)) | (refine Do.no ?_ ?_; focus (simp only [go_sem, Nat.reduceEqDiff, Nat.reduceLT, Nat.reduceAdd, Nat.reduceLeDiff, Int.reduceLT, Int.reduceLE, h0, hn, hlt, hw, hc]; done)) | (refine Do.skip ?_) | (refine Do.exit ?_) | (refine Do.ret ?_) | (refine Then.ret ?_) | (refine Then.normal ?_) | (refine Then.exit ?_) | (refine Out.ret ?_) | (refine Out.normal ?_) | (refine Out.here ?_) | (refine Out.off (by decide) ?_))
      refine Ends.one rfl ⟨?_, rfl⟩
      rw [num_small hk]
      simp only [go_sem, Nat.reduceEqDiff, Nat.reduceLT, Nat.reduceAdd, Nat.reduceLeDiff, Int.reduceLT, Int.reduceLE, hn]
    · have hlt : ¬ ((n : Int) < 128) := by omega
      have hr := ih (n / 128) (by omega) (by omega)
      have q : (128 : Int) ≠ 0 := by decide
      have hadd : ((n % 128 : Nat) : Int) + 128 = ((n % 128 + 128 : Nat) : Int) := by omega
      have hw1 : IntKind.u64.wrap ((n % 128 + 128 : Nat) : Int) = ((n % 128 + 128 : Nat) : Int) := wrap_u64 (by omega)
      have hw2 : IntKind.u8.wrap ((n % 128 + 128 : Nat) : Int) = ((n % 128 + 128 : Nat) : Int) := by rw [wrap_u8]; congr 1; omega
      have hw3 : IntKind.u64.wrap ((n / 128 : Nat) : Int) = ((n / 128 : Nat) : Int) := wrap_u64 (by omega)
      have hc := fun (s : St) (b : Bool) (tok : Tok) => conv_one (s := s) (b := b) (tok := tok) (c := n % 128 + 128) (by omega)
      have hl := num_len10 (n := n / 128) (by omega)
      have hs : [UInt8.ofNat (n % 128 + 128)].length + (num (n / 128)).length ≤ 9223372036854775807 := by simp; omega
      repeat (first | (refine Do.seq ?_) | (refine Do.block ?_) | (apply Do.reads follows; (case hr => first | kernel_rfl | rfl); (case h => (repeat (first | with_reducible exact rt_nil | (apply readsTo.put; (case hw => simp only [go_sem, Nat.reduceEqDiff, Nat.reduceLT, Nat.reduceAdd, Nat.reduceLeDiff, Int.reduceLT, Int.reduceLE, h0, hn, hlt, bn_rem q, bn_quo q, rem128, quo128, hadd, hw1, hw2, hw3, hc, bn_sadd hs]; done); (case hr => rfl); (case hd => rfl); (case hv => simp only [go_sem, Nat.reduceEqDiff, Nat.reduceLT, Nat.reduceAdd, Nat.reduceLeDiff, Int.reduceLT, Int.reduceLE, h0, hn, hlt, bn_rem q, bn_quo q, rem128, quo128, hadd, hw1, hw2, hw3, hc, bn_sadd hs]; rfl)) | (apply readsTo.drop; (case hw => simp only [go_sem, Nat.reduceEqDiff, Nat.reduceLT, Nat.reduceAdd, Nat.reduceLeDiff, Int.reduceLT, Int.reduceLE, h0, hn, hlt, bn_rem q, bn_quo q, rem128, quo128, hadd, hw1, hw2, hw3, hc, bn_sadd hs]; done); (case hd => rfl)) | (apply readsTo.stop; (case hw => simp only [go_sem, Nat.reduceEqDiff, Nat.reduceLT, Nat.reduceAdd, Nat.reduceLeDiff, Int.reduceLT, Int.reduceLE, h0, hn, hlt, bn_rem q, bn_quo q, rem128, quo128, hadd, hw1, hw2, hw3, hc, bn_sadd hs]; done); (case hr => rfl)))))) | (apply Do.region follows; (case hr => first | kernel_rfl | rfl)) | (refine DoU.nil ?_) | (apply DoU.call named; (case hw => simp only [go_sem, Nat.reduceEqDiff, Nat.reduceLT, Nat.reduceAdd, Nat.reduceLeDiff, Int.reduceLT, Int.reduceLE, h0, hn, hlt, bn_rem q, bn_quo q, rem128, quo128, hadd, hw1, hw2, hw3, hc, bn_sadd hs]; done); (case hr => rfl); (case hc => simp only [calleeT, List.nil_append, List.append_nil, List.map_cons, List.map_nil, go_sem, Nat.reduceEqDiff, Nat.reduceLT, Nat.reduceAdd, Nat.reduceLeDiff, Int.reduceLT, Int.reduceLE, h0, hn, hlt, bn_rem q, bn_quo q, rem128, quo128, hadd, hw1, hw2, hw3, hc, bn_sadd hs]; rfl); (case hp => first | exact hr)) | (apply DoU.rd; (case h => (repeat (first | with_reducible exact rt_nil | (apply readsTo.put; (case hw => simp only [go_sem, Nat.reduceEqDiff, Nat.reduceLT, Nat.reduceAdd, Nat.reduceLeDiff, Int.reduceLT, Int.reduceLE, h0, hn, hlt, bn_rem q, bn_quo q, rem128, quo128, hadd, hw1, hw2, hw3, hc, bn_sadd hs]; done); (case hr => rfl); (case hd => rfl); (case hv => simp only [go_sem, Nat.reduceEqDiff, Nat.reduceLT, Nat.reduceAdd, Nat.reduceLeDiff, Int.reduceLT, Int.reduceLE, h0, hn, hlt, bn_rem q, bn_quo q, rem128, quo128, hadd, hw1, hw2, hw3, hc, bn_sadd hs]; rfl)) | (apply readsTo.drop; (case hw => simp only [go_sem, Nat.reduceEqDiff, Nat.reduceLT, Nat.reduceAdd, Nat.reduceLeDiff, Int.reduceLT, Int.reduceLE, h0, hn, hlt, bn_rem q, bn_quo q, rem128, quo128, hadd, hw1, hw2, hw3, hc, bn_sadd hs]; done); (case hd => rfl)) | (apply readsTo.stop; (case hw => simp only [go_sem, Nat.reduceEqDiff, Nat.reduceLT, Nat.reduceAdd, Nat.reduceLeDiff, Int.reduceLT, Int.reduceLE, h0, hn, hlt, bn_rem q, bn_quo q, rem128, quo128, hadd, hw1, hw2, hw3, hc, bn_sadd hs]; done); (case hr => rfl))))); first | (refine DoU.nil ?_) | (apply DoU.call named; (case hw => simp only [go_sem, Nat.reduceEqDiff, Nat.reduceLT, Nat.reduceAdd, Nat.reduceLeDiff, Int.reduceLT, Int.reduceLE, h0, hn, hlt, bn_rem q, bn_quo q, rem128, quo128, hadd, hw1, hw2, hw3, hc, bn_sadd hs]; done); (case hr => rfl); (case hc => simp only [calleeT, List.nil_append, List.append_nil, List.map_cons, List.map_nil, go_sem, Nat.reduceEqDiff, Nat.reduceLT, Nat.reduceAdd, Nat.reduceLeDiff, Int.reduceLT, Int.reduceLE, h0, hn, hlt, bn_rem q, bn_quo q, rem128, quo128, hadd, hw1, hw2, hw3, hc, bn_sadd hs]; rfl); (case hp => first | exact hr))) | (refine Do.yes ?_ ?_; focus (simp only [go_sem, Nat.reduceEqDiff, Nat.reduceLT, Nat.reduceAdd, Nat.reduceLeDiff, Int.reduceLT, Int.reduceLE, h0, hn, hlt, bn_rem q, bn_quo q, rem128, quo128, hadd, hw1, hw2, hw3, hc, bn_sadd hs]; done)) | (refine Do.no ?_ ?_; focus (simp only [go_sem, Nat.reduceEqDiff, Nat.reduceLT, Nat.reduceAdd, Nat.reduceLeDiff, Int.reduceLT, Int.reduceLE, h0, hn, hlt, bn_rem q, bn_quo q, rem128, quo128, hadd, hw1, hw2, hw3, hc, bn_sadd hs]; done)) | (refine Do.skip ?_) | (refine Do.exit ?_) | (refine Do.ret ?_) | (refine Then.ret ?_) | (refine Then.normal ?_) | (refine Then.exit ?_) | (refine Out.ret ?_) | (refine Out.normal ?_) | (refine Out.here ?_) | (refine Out.off (by decide) ?_))
      refine Ends.one rfl ⟨?_, rfl⟩
      rw [num_big hk]
      simp only [go_sem, Nat.reduceEqDiff, Nat.reduceLT, Nat.reduceAdd, Nat.reduceLeDiff, Int.reduceLT, Int.reduceLE, hn]
      rfl
end Go.Proofs.Ytdilnplffhncmaa.TV
