/-
  OCTET: a number that stands at a place, as the code reads it.
-/
import Derived.Test.YtdilnplffhncmaaOctC
namespace Go.Proofs.Ytdilnplffhncmaa.TV
open Go Go.RowKit
set_option linter.unusedSimpArgs false
set_option linter.unusedVariables false
set_option maxRecDepth 100000
attribute [local go_sem] rt_nil rt_move rt_assign rt_read rt_guard wt_guard wt_none ir_move ir_assign ir_pick ir_build ir_buildSlice ir_load ir_nilCheck ir_bin ir_un ir_convert ir_makeInterface ir_makeFunc ir_slice ir_fieldAddr ir_field ir_indexAddr ir_index ir_lookup ir_extract ir_len ir_min ir_max ir_call ir_append ir_copy ir_alloc ir_box ir_store ir_makeSlice ir_makeMap ir_mapUpdate rd_move rd_assign rd_pick rd_build rd_buildSlice rd_load rd_nilCheck rd_bin rd_un rd_convert rd_slice rd_fieldAddr rd_field rd_indexAddr rd_index rd_extract rd_makeFunc rd_len rd_min rd_max gd_int gd_str gd_bool bn_add bn_sub bn_mul bn_quo bn_rem bn_eql bn_neq bn_lss bn_leq bn_gtr bn_geq bn_sadd bn_seql bn_sneq un_not un_neg oc_int oc_bool putE_some putE_none ev_const ev_tmp ev_func Env.at_set_ne Env.at_set_eq List.length_set if_true if_false Bool.false_eq_true ne_eq not_false_eq_true decide_true decide_false Option.bind_some List.getElem?_cons_zero List.getElem?_cons_succ Nat.succ_ne_zero Bool.true_eq_false Bool.not_true Bool.not_false beq_self_eq_true List.toList_toArray Option.bind_none bq_tl bq_fl bq_tr bq_fr undefT List.map_cons List.map_nil ints_len_i ints_at_i load_i bs_byte conv_u8

/-- A number out of bytes: the i-th of its bytes is next, at place pos; what was read makes acc. Value, next place, error. -/
def rdN : List UInt8 → Nat → Nat → Nat → Nat × Nat × Nat
  | [], _, _, _ => (0, 0, 5)
  | b :: l, i, pos, acc =>
    if (i = 9 ∧ 1 < b.toNat) ∨ (0 < i ∧ b.toNat = 0) then (0, 0, 3) else
    if b.toNat < 128 then (acc + b.toNat % 128 * 128 ^ i, pos + 1, 0) else rdN l (i + 1) (pos + 1) (acc + b.toNat % 128 * 128 ^ i)
def rdAt (s : List UInt8) (a : Int) : Nat × Nat × Nat := if a < 0 ∨ (s.length : Int) < a then (0, 0, 1) else rdN (s.drop a.toNat) 0 a.toNat 0
def trip (r : Nat × Nat × Nat) : TV := .tup [.int .u64 r.1, .int .i64 r.2.1, .int .i64 r.2.2]

theorem str_at {l : List UInt8} {i : Nat} {c : UInt8} (h : l[i]? = some c) : indexT Try.prog 9 (.str l) (.int .i64 i) = some (.int .u8 c.toNat) := by
  have : ¬ ((i : Int) < 0) := by omega
  simp [indexT, Try.underlying9, this, h]
theorem str_len {s : St} {l : List UInt8} : lenT Try.prog s 9 (.str l) = some (.int .i64 l.length) := by
  simp [lenT, Try.underlying9]
theorem conv_8_64 {s : St} {k : IntKind} {n : Int} : convT Try.prog s 5 58 (.int k n) = some (.int .u64 (IntKind.u64.wrap n)) := by
  simp [convT, Try.underlying58, Try.underlying5]
theorem and_byte : ∀ m : Nat, m < 256 → IntKind.u8.wrap ((BitVec.ofInt IntKind.u8.bits (m : Int) &&& BitVec.ofInt IntKind.u8.bits 127).toNat) = ((m % 128 : Nat) : Int) := by decide +kernel
theorem bn_and127 {t : TypeId} {m : Nat} (h : m < 256) : binT Try.prog .and t (.int .u8 m) (.int .u8 127) = some (.int .u8 ((m % 128 : Nat) : Int)) := by
  simp only [binT, and_byte m h]
  rfl
theorem bn_shl {t : TypeId} {k : IntKind} {m j : Nat} (hj : j < 64) (hm : m * 2 ^ j < 18446744073709551616) : binT Try.prog .shl t (.int .u64 m) (.int k (j : Int)) = some (.int .u64 ((m * 2 ^ j : Nat) : Int)) := by
  simp only [binT]
  rw [if_neg (by omega)]
  have h1 : min (Int.toNat (j : Int)) IntKind.u64.bits = j := by
    have : IntKind.u64.bits = 64 := rfl
    rw [this]
    simp; omega
  have h2 : (m : Int) * 2 ^ j = ((m * 2 ^ j : Nat) : Int) := by simp
  rw [h1, h2, wrap_u64 hm]
theorem bn_or64 {t : TypeId} {a x j : Nat} (ha : a < 2 ^ j) (hx : x * 2 ^ j < 18446744073709551616) (h64 : a < 18446744073709551616) (hs : a + x * 2 ^ j < 18446744073709551616) :
    binT Try.prog .or t (.int .u64 a) (.int .u64 ((x * 2 ^ j : Nat) : Int)) = some (.int .u64 ((a + x * 2 ^ j : Nat) : Int)) := by
  have h1 : IntKind.u64.bits = 64 := rfl
  have h2 : (BitVec.ofInt 64 (a : Int) ||| BitVec.ofInt 64 ((x * 2 ^ j : Nat) : Int)).toNat = a + x * 2 ^ j := by
    rw [BitVec.toNat_or, BitVec.toNat_ofInt, BitVec.toNat_ofInt]
    have e1 : ((a : Int) % ((2 ^ 64 : Nat) : Int)).toNat = a := by omega
    have e2 : (((x * 2 ^ j : Nat) : Int) % ((2 ^ 64 : Nat) : Int)).toNat = x * 2 ^ j := by omega
    rw [e1, e2]
    have := Nat.shiftLeft_add_eq_or_of_lt ha x
    rw [Nat.shiftLeft_eq] at this
    rw [Nat.or_comm, ← this, Nat.add_comm]
  have h3 : (BitVec.ofInt IntKind.u64.bits (a : Int) ||| BitVec.ofInt IntKind.u64.bits ((x * 2 ^ j : Nat) : Int)).toNat = a + x * 2 ^ j := h2
  simp only [binT]
  rw [h3, wrap_u64 hs]
  rfl
theorem pow128 (i : Nat) : 128 ^ i = 2 ^ (7 * i) := by rw [Nat.pow_mul]

set_option maxHeartbeats 2000000 in
theorem octReadNumber_ok (l : List UInt8) (a : Int) (hl : l.length < 4611686018427387904) : Pure Try.prog 53 [.str l, .int .i64 a] (trip (rdAt l a)) := by
  unfold rdAt
  by_cases ha0 : a < 0
  · rw [if_pos (Or.inl ha0)]
    refine Pure.body Try.func53 rfl fun s => ?_
    generalize he : ([TV.str l, TV.int .i64 a] ++ List.replicate (Try.f53.ntmps - [TV.str l, TV.int .i64 a].length) undefT) = e
    have h0 : Env.at e 0 = TV.str l := by rw [← he]; rfl
    have h1 : Env.at e 1 = TV.int .i64 a := by rw [← he]; rfl
    have hn : List.length e = 62 := by rw [← he]; rfl
    clear he
    repeat (first | (refine Do.seq ?_) | (refine Do.block ?_) | (apply Do.reads follows; (case hr => first | kernel_rfl | rfl); (case h => (repeat (first | with_reducible exact rt_nil | (apply readsTo.put; (case hw => simp only [go_sem, Nat.reduceEqDiff, Nat.reduceLT, Nat.reduceAdd, Nat.reduceLeDiff, Int.reduceLT, Int.reduceLE, h0, h1, hn, ha0]; done); (case hr => rfl); (case hd => rfl); (case hv => simp only [go_sem, Nat.reduceEqDiff, Nat.reduceLT, Nat.reduceAdd, Nat.reduceLeDiff, Int.reduceLT, Int.reduceLE, h0, h1, hn, ha0]; rfl)) | (apply readsTo.drop; (case hw => simp only [go_sem, Nat.reduceEqDiff, Nat.reduceLT, Nat.reduceAdd, Nat.reduceLeDiff, Int.reduceLT, Int.reduceLE, h0, h1, hn, ha0]; done); (case hd => rfl)) | (apply readsTo.stop; (case hw => simp only [go_sem, Nat.reduceEqDiff, Nat.reduceLT, Nat.reduceAdd, Nat.reduceLeDiff, Int.reduceLT, Int.reduceLE, h0, h1, hn, ha0]; done); (case hr => rfl))))))  | (refine Do.yes ?_ ?_; focus (simp only [go_sem, Nat.reduceEqDiff, Nat.reduceLT, Nat.reduceAdd, Nat.reduceLeDiff, Int.reduceLT, Int.reduceLE, h0, h1, hn, ha0]; done)) | (refine Do.no ?_ ?_; focus (simp only [go_sem, Nat.reduceEqDiff, Nat.reduceLT, Nat.reduceAdd, Nat.reduceLeDiff, Int.reduceLT, Int.reduceLE, h0, h1, hn, ha0]; done)) | (refine Do.skip ?_) | (refine Do.exit ?_) | (refine Do.ret ?_) | (refine Then.ret ?_) | (refine Then.normal ?_) | (refine Then.exit ?_) | (refine Out.ret ?_) | (refine Out.normal ?_) | (refine Out.here ?_) | (refine Out.off (by decide) ?_))
    refine Ends.three rfl ⟨?_, rfl⟩
    simp only [go_sem, Nat.reduceEqDiff, Nat.reduceLT, Nat.reduceAdd, Nat.reduceLeDiff, Int.reduceLT, Int.reduceLE, hn]
    rfl
  · by_cases ha1 : (l.length : Int) < a
    · rw [if_pos (Or.inr ha1)]
      refine Pure.body Try.func53 rfl fun s => ?_
      generalize he : ([TV.str l, TV.int .i64 a] ++ List.replicate (Try.f53.ntmps - [TV.str l, TV.int .i64 a].length) undefT) = e
      have h0 : Env.at e 0 = TV.str l := by rw [← he]; rfl
      have h1 : Env.at e 1 = TV.int .i64 a := by rw [← he]; rfl
      have hn : List.length e = 62 := by rw [← he]; rfl
      clear he
      repeat (first | (refine Do.seq ?_) | (refine Do.block ?_) | (apply Do.reads follows; (case hr => first | kernel_rfl | rfl); (case h => (repeat (first | with_reducible exact rt_nil | (apply readsTo.put; (case hw => simp only [go_sem, Nat.reduceEqDiff, Nat.reduceLT, Nat.reduceAdd, Nat.reduceLeDiff, Int.reduceLT, Int.reduceLE, h0, h1, hn, ha0, ha1, str_len]; done); (case hr => rfl); (case hd => rfl); (case hv => simp only [go_sem, Nat.reduceEqDiff, Nat.reduceLT, Nat.reduceAdd, Nat.reduceLeDiff, Int.reduceLT, Int.reduceLE, h0, h1, hn, ha0, ha1, str_len]; rfl)) | (apply readsTo.drop; (case hw => simp only [go_sem, Nat.reduceEqDiff, Nat.reduceLT, Nat.reduceAdd, Nat.reduceLeDiff, Int.reduceLT, Int.reduceLE, h0, h1, hn, ha0, ha1, str_len]; done); (case hd => rfl)) | (apply readsTo.stop; (case hw => simp only [go_sem, Nat.reduceEqDiff, Nat.reduceLT, Nat.reduceAdd, Nat.reduceLeDiff, Int.reduceLT, Int.reduceLE, h0, h1, hn, ha0, ha1, str_len]; done); (case hr => rfl))))))  | (refine Do.yes ?_ ?_; focus (simp only [go_sem, Nat.reduceEqDiff, Nat.reduceLT, Nat.reduceAdd, Nat.reduceLeDiff, Int.reduceLT, Int.reduceLE, h0, h1, hn, ha0, ha1, str_len]; done)) | (refine Do.no ?_ ?_; focus (simp only [go_sem, Nat.reduceEqDiff, Nat.reduceLT, Nat.reduceAdd, Nat.reduceLeDiff, Int.reduceLT, Int.reduceLE, h0, h1, hn, ha0, ha1, str_len]; done)) | (refine Do.skip ?_) | (refine Do.exit ?_) | (refine Do.ret ?_) | (refine Then.ret ?_) | (refine Then.normal ?_) | (refine Then.exit ?_) | (refine Out.ret ?_) | (refine Out.normal ?_) | (refine Out.here ?_) | (refine Out.off (by decide) ?_))
      refine Ends.three rfl ⟨?_, rfl⟩
      simp only [go_sem, Nat.reduceEqDiff, Nat.reduceLT, Nat.reduceAdd, Nat.reduceLeDiff, Int.reduceLT, Int.reduceLE, hn]
      rfl
    · rw [if_neg (by omega)]
      obtain ⟨p, rfl⟩ : ∃ p : Nat, a = (p : Int) := ⟨a.toNat, by omega⟩
      simp only [Int.toNat_natCast]
      refine Pure.body Try.func53 rfl fun s => ?_
      generalize he : ([TV.str l, TV.int .i64 (p : Int)] ++ List.replicate (Try.f53.ntmps - [TV.str l, TV.int .i64 (p : Int)].length) undefT) = e
      have h0 : Env.at e 0 = TV.str l := by rw [← he]; rfl
      have h1 : Env.at e 1 = TV.int .i64 (p : Int) := by rw [← he]; rfl
      have hn : List.length e = 62 := by rw [← he]; rfl
      clear he
      repeat (first | (refine Do.seq ?_) | (refine Do.block ?_) | (apply Do.reads follows; (case hr => first | kernel_rfl | rfl); (case h => (repeat (first | with_reducible exact rt_nil | (apply readsTo.put; (case hw => simp only [go_sem, Nat.reduceEqDiff, Nat.reduceLT, Nat.reduceAdd, Nat.reduceLeDiff, Int.reduceLT, Int.reduceLE, h0, h1, hn, ha0, ha1, str_len]; done); (case hr => rfl); (case hd => rfl); (case hv => simp only [go_sem, Nat.reduceEqDiff, Nat.reduceLT, Nat.reduceAdd, Nat.reduceLeDiff, Int.reduceLT, Int.reduceLE, h0, h1, hn, ha0, ha1, str_len]; rfl)) | (apply readsTo.drop; (case hw => simp only [go_sem, Nat.reduceEqDiff, Nat.reduceLT, Nat.reduceAdd, Nat.reduceLeDiff, Int.reduceLT, Int.reduceLE, h0, h1, hn, ha0, ha1, str_len]; done); (case hd => rfl)) | (apply readsTo.stop; (case hw => simp only [go_sem, Nat.reduceEqDiff, Nat.reduceLT, Nat.reduceAdd, Nat.reduceLeDiff, Int.reduceLT, Int.reduceLE, h0, h1, hn, ha0, ha1, str_len]; done); (case hr => rfl))))))  | (refine Do.yes ?_ ?_; focus (simp only [go_sem, Nat.reduceEqDiff, Nat.reduceLT, Nat.reduceAdd, Nat.reduceLeDiff, Int.reduceLT, Int.reduceLE, h0, h1, hn, ha0, ha1, str_len]; done)) | (refine Do.no ?_ ?_; focus (simp only [go_sem, Nat.reduceEqDiff, Nat.reduceLT, Nat.reduceAdd, Nat.reduceLeDiff, Int.reduceLT, Int.reduceLE, h0, h1, hn, ha0, ha1, str_len]; done)) | (refine Do.skip ?_) | (refine Do.exit ?_) | (refine Do.ret ?_) | (refine Then.ret ?_) | (refine Then.normal ?_) | (refine Then.exit ?_) | (refine Out.ret ?_) | (refine Out.normal ?_) | (refine Out.here ?_) | (refine Out.off (by decide) ?_))
      refine Do.loop (fun n e' s' => s' = s ∧ List.length e' = 62 ∧ Env.at e' 0 = .str l ∧ Env.at e' 1 = .int .i64 (p : Int) ∧ ∃ (i acc : Nat), i + n = 10 ∧ i ≤ 9 ∧ Env.at e' 18 = .int .i64 i ∧ Env.at e' 7 = .int .u64 acc ∧
        acc < 128 ^ i ∧ rdN (l.drop p) 0 p 0 = rdN (l.drop (p + i)) i (p + i) acc) ?_ (n := 10) ?_
      · intro n e' s' ⟨hs, hn, h0, h1, i, acc, hi, hi9, h18, h7, hacc, hr⟩
        subst hs
        have hlt : ((i : Int) < 10) := by omega
        have hw : IntKind.i64.wrap ((p : Int) + (i : Int)) = ((p + i : Nat) : Int) := by rw [wrap_small (by omega)]; omega
        have hw1 : IntKind.i64.wrap ((i : Int) + 1) = ((i + 1 : Nat) : Int) := wrap_succ (by omega)
        have hw2 : IntKind.i64.wrap (((p + i : Nat) : Int) + 1) = ((p + i + 1 : Nat) : Int) := wrap_succ (by omega)
        have hw7 : IntKind.i64.wrap (7 * (i : Int)) = ((7 * i : Nat) : Int) := by rw [wrap_small (by omega)]; omega
        cases hb : l[p + i]? with
        | none =>
          have hge : (l.length : Int) ≤ ((p + i : Nat) : Int) := by have := List.getElem?_eq_none_iff.1 hb; omega
          have hd : l.drop (p + i) = [] := List.drop_eq_nil_of_le (by omega)
          rw [hd, rdN] at hr
          repeat (first | (refine Do.seq ?_) | (refine Do.block ?_) | (apply Do.reads follows; (case hr => first | kernel_rfl | rfl); (case h => (repeat (first | with_reducible exact rt_nil | (apply readsTo.put; (case hw => simp only [go_sem, Nat.reduceEqDiff, Nat.reduceLT, Nat.reduceAdd, Nat.reduceLeDiff, Int.reduceLT, Int.reduceLE, h0, h1, h18, h7, hn, hlt, hw, hge, str_len]; done); (case hr => rfl); (case hd => rfl); (case hv => simp only [go_sem, Nat.reduceEqDiff, Nat.reduceLT, Nat.reduceAdd, Nat.reduceLeDiff, Int.reduceLT, Int.reduceLE, h0, h1, h18, h7, hn, hlt, hw, hge, str_len]; rfl)) | (apply readsTo.drop; (case hw => simp only [go_sem, Nat.reduceEqDiff, Nat.reduceLT, Nat.reduceAdd, Nat.reduceLeDiff, Int.reduceLT, Int.reduceLE, h0, h1, h18, h7, hn, hlt, hw, hge, str_len]; done); (case hd => rfl)) | (apply readsTo.stop; (case hw => simp only [go_sem, Nat.reduceEqDiff, Nat.reduceLT, Nat.reduceAdd, Nat.reduceLeDiff, Int.reduceLT, Int.reduceLE, h0, h1, h18, h7, hn, hlt, hw, hge, str_len]; done); (case hr => rfl))))))  | (refine Do.yes ?_ ?_; focus (simp only [go_sem, Nat.reduceEqDiff, Nat.reduceLT, Nat.reduceAdd, Nat.reduceLeDiff, Int.reduceLT, Int.reduceLE, h0, h1, h18, h7, hn, hlt, hw, hge, str_len]; done)) | (refine Do.no ?_ ?_; focus (simp only [go_sem, Nat.reduceEqDiff, Nat.reduceLT, Nat.reduceAdd, Nat.reduceLeDiff, Int.reduceLT, Int.reduceLE, h0, h1, h18, h7, hn, hlt, hw, hge, str_len]; done)) | (refine Do.skip ?_) | (refine Do.exit ?_) | (refine Do.ret ?_) | (refine Then.ret ?_) | (refine Then.normal ?_) | (refine Then.exit ?_) | (refine Out.ret ?_) | (refine Out.normal ?_) | (refine Out.here ?_) | (refine Out.off (by decide) ?_))
          refine Ends.three rfl ⟨?_, rfl⟩
          rw [hr]
          simp only [go_sem, Nat.reduceEqDiff, Nat.reduceLT, Nat.reduceAdd, Nat.reduceLeDiff, Int.reduceLT, Int.reduceLE, hn]
          rfl
        | some c =>
          have hpl : p + i < l.length := (List.getElem?_eq_some_iff.1 hb).1
          have hge : ¬ (l.length : Int) ≤ ((p + i : Nat) : Int) := by omega
          rw [drop_of hb, rdN] at hr
          have hm : c.toNat < 256 := c.toNat_lt
          obtain ⟨x1, b1⟩ : ∃ x, ((i : Int) == 9) = x := ⟨_, rfl⟩
          obtain ⟨x2, b2⟩ : ∃ x, decide ((1 : Int) < (c.toNat : Int)) = x := ⟨_, rfl⟩
          obtain ⟨x3, b3⟩ : ∃ x, decide ((0 : Int) < (i : Int)) = x := ⟨_, rfl⟩
          obtain ⟨x4, b4⟩ : ∃ x, ((c.toNat : Int) == 0) = x := ⟨_, rfl⟩
          by_cases hC : (i = 9 ∧ 1 < c.toNat) ∨ (0 < i ∧ c.toNat = 0)
          · rw [if_pos hC] at hr
            have hx : ((x1 && x2) || (x3 && x4)) = true := by
              rw [← b1, ← b2, ← b3, ← b4]
              simpa using (by omega : ((i : Int) = 9 ∧ (1 : Int) < (c.toNat : Int)) ∨ ((0 : Int) < (i : Int) ∧ (c.toNat : Int) = 0))
            cases x1 <;> cases x2 <;> cases x3 <;> cases x4 <;> first
              | (exact absurd hx (by decide))
              | (repeat (first | (refine Do.seq ?_) | (refine Do.block ?_) | (apply Do.reads follows; (case hr => first | kernel_rfl | rfl); (case h => (repeat (first | with_reducible exact rt_nil | (apply readsTo.put; (case hw => simp only [go_sem, Nat.reduceEqDiff, Nat.reduceLT, Nat.reduceAdd, Nat.reduceLeDiff, Int.reduceLT, Int.reduceLE, h0, h1, h18, h7, hn, hlt, hw, hge, str_len, str_at hb, b1, b2, b3, b4]; done); (case hr => rfl); (case hd => rfl); (case hv => simp only [go_sem, Nat.reduceEqDiff, Nat.reduceLT, Nat.reduceAdd, Nat.reduceLeDiff, Int.reduceLT, Int.reduceLE, h0, h1, h18, h7, hn, hlt, hw, hge, str_len, str_at hb, b1, b2, b3, b4]; rfl)) | (apply readsTo.drop; (case hw => simp only [go_sem, Nat.reduceEqDiff, Nat.reduceLT, Nat.reduceAdd, Nat.reduceLeDiff, Int.reduceLT, Int.reduceLE, h0, h1, h18, h7, hn, hlt, hw, hge, str_len, str_at hb, b1, b2, b3, b4]; done); (case hd => rfl)) | (apply readsTo.stop; (case hw => simp only [go_sem, Nat.reduceEqDiff, Nat.reduceLT, Nat.reduceAdd, Nat.reduceLeDiff, Int.reduceLT, Int.reduceLE, h0, h1, h18, h7, hn, hlt, hw, hge, str_len, str_at hb, b1, b2, b3, b4]; done); (case hr => rfl))))))  | (refine Do.yes ?_ ?_; focus (simp only [go_sem, Nat.reduceEqDiff, Nat.reduceLT, Nat.reduceAdd, Nat.reduceLeDiff, Int.reduceLT, Int.reduceLE, h0, h1, h18, h7, hn, hlt, hw, hge, str_len, str_at hb, b1, b2, b3, b4]; done)) | (refine Do.no ?_ ?_; focus (simp only [go_sem, Nat.reduceEqDiff, Nat.reduceLT, Nat.reduceAdd, Nat.reduceLeDiff, Int.reduceLT, Int.reduceLE, h0, h1, h18, h7, hn, hlt, hw, hge, str_len, str_at hb, b1, b2, b3, b4]; done)) | (refine Do.skip ?_) | (refine Do.exit ?_) | (refine Do.ret ?_) | (refine Then.ret ?_) | (refine Then.normal ?_) | (refine Then.exit ?_) | (refine Out.ret ?_) | (refine Out.normal ?_) | (refine Out.here ?_) | (refine Out.off (by decide) ?_))
                 refine Ends.three rfl ⟨?_, rfl⟩
                 rw [hr]
                 simp only [go_sem, Nat.reduceEqDiff, Nat.reduceLT, Nat.reduceAdd, Nat.reduceLeDiff, Int.reduceLT, Int.reduceLE, hn]
                 rfl)
          · rw [if_neg hC] at hr
            have hx : ((x1 && x2) || (x3 && x4)) = false := by
              rw [← b1, ← b2, ← b3, ← b4]
              have h4 : ¬ (((i : Int) = 9 ∧ (1 : Int) < (c.toNat : Int)) ∨ ((0 : Int) < (i : Int) ∧ (c.toNat : Int) = 0)) := by omega
              simpa using h4
            have hpow : 128 ^ i = 2 ^ (7 * i) := pow128 i
            have hx9 : i = 9 → c.toNat % 128 ≤ 1 := fun h => by omega
            have hsh : c.toNat % 128 * 2 ^ (7 * i) < 18446744073709551616 ∧ acc + c.toNat % 128 * 2 ^ (7 * i) < 18446744073709551616 := by
              rw [hpow] at hacc
              by_cases h9 : i = 9
              · have := hx9 h9
                subst h9
                have h5 : c.toNat % 128 * 2 ^ (7 * 9) ≤ 1 * 2 ^ (7 * 9) := Nat.mul_le_mul_right _ this
                omega
              · have h6 : 2 ^ (7 * i) ≤ 2 ^ 56 := Nat.pow_le_pow_right (by omega) (by omega)
                have h5 : c.toNat % 128 * 2 ^ (7 * i) ≤ 127 * 2 ^ 56 := Nat.mul_le_mul (by omega) h6
                omega
            have hacc' : acc < 2 ^ (7 * i) := by rw [← hpow]; exact hacc
            have hshl := bn_shl (t := 58) (k := .i64) (m := c.toNat % 128) (j := 7 * i) (by omega) hsh.1
            have hor := bn_or64 (t := 58) hacc' hsh.1 (by omega) hsh.2
            have hand := bn_and127 (t := 5) hm
            have hcv : IntKind.u64.wrap ((c.toNat % 128 : Nat) : Int) = ((c.toNat % 128 : Nat) : Int) := wrap_u64 (by omega)
            rw [hpow] at hr
            by_cases hk : c.toNat < 128
            · rw [if_pos hk] at hr
              have hk' : ((c.toNat : Int) < 128) := by omega
              cases x1 <;> cases x2 <;> cases x3 <;> cases x4 <;> first
                | (exact absurd hx (by decide))
                | (repeat (first | (refine Do.seq ?_) | (refine Do.block ?_) | (apply Do.reads follows; (case hr => first | kernel_rfl | rfl); (case h => (repeat (first | with_reducible exact rt_nil | (apply readsTo.put; (case hw => simp only [go_sem, Nat.reduceEqDiff, Nat.reduceLT, Nat.reduceAdd, Nat.reduceLeDiff, Int.reduceLT, Int.reduceLE, h0, h1, h18, h7, hn, hlt, hw, hw2, hw7, hge, str_len, str_at hb, b1, b2, b3, b4, hshl, hor, hand, conv_8_64, hcv, hk']; done); (case hr => rfl); (case hd => rfl); (case hv => simp only [go_sem, Nat.reduceEqDiff, Nat.reduceLT, Nat.reduceAdd, Nat.reduceLeDiff, Int.reduceLT, Int.reduceLE, h0, h1, h18, h7, hn, hlt, hw, hw2, hw7, hge, str_len, str_at hb, b1, b2, b3, b4, hshl, hor, hand, conv_8_64, hcv, hk']; rfl)) | (apply readsTo.drop; (case hw => simp only [go_sem, Nat.reduceEqDiff, Nat.reduceLT, Nat.reduceAdd, Nat.reduceLeDiff, Int.reduceLT, Int.reduceLE, h0, h1, h18, h7, hn, hlt, hw, hw2, hw7, hge, str_len, str_at hb, b1, b2, b3, b4, hshl, hor, hand, conv_8_64, hcv, hk']; done); (case hd => rfl)) | (apply readsTo.stop; (case hw => simp only [go_sem, Nat.reduceEqDiff, Nat.reduceLT, Nat.reduceAdd, Nat.reduceLeDiff, Int.reduceLT, Int.reduceLE, h0, h1, h18, h7, hn, hlt, hw, hw2, hw7, hge, str_len, str_at hb, b1, b2, b3, b4, hshl, hor, hand, conv_8_64, hcv, hk']; done); (case hr => rfl))))))  | (refine Do.yes ?_ ?_; focus (simp only [go_sem, Nat.reduceEqDiff, Nat.reduceLT, Nat.reduceAdd, Nat.reduceLeDiff, Int.reduceLT, Int.reduceLE, h0, h1, h18, h7, hn, hlt, hw, hw2, hw7, hge, str_len, str_at hb, b1, b2, b3, b4, hshl, hor, hand, conv_8_64, hcv, hk']; done)) | (refine Do.no ?_ ?_; focus (simp only [go_sem, Nat.reduceEqDiff, Nat.reduceLT, Nat.reduceAdd, Nat.reduceLeDiff, Int.reduceLT, Int.reduceLE, h0, h1, h18, h7, hn, hlt, hw, hw2, hw7, hge, str_len, str_at hb, b1, b2, b3, b4, hshl, hor, hand, conv_8_64, hcv, hk']; done)) | (refine Do.skip ?_) | (refine Do.exit ?_) | (refine Do.ret ?_) | (refine Then.ret ?_) | (refine Then.normal ?_) | (refine Then.exit ?_) | (refine Out.ret ?_) | (refine Out.normal ?_) | (refine Out.here ?_) | (refine Out.off (by decide) ?_))
                   refine Ends.three rfl ⟨?_, rfl⟩
                   rw [hr]
                   simp only [go_sem, Nat.reduceEqDiff, Nat.reduceLT, Nat.reduceAdd, Nat.reduceLeDiff, Int.reduceLT, Int.reduceLE, hn]
                   rfl)
            · rw [if_neg hk] at hr
              have hk' : ¬ ((c.toNat : Int) < 128) := by omega
              have hi8 : i ≠ 9 := fun h => by have := hx9 h; omega
              have hnext : acc + c.toNat % 128 * 2 ^ (7 * i) < 128 ^ (i + 1) := by
                have h7 : c.toNat % 128 ≤ 127 := by omega
                have h8 : c.toNat % 128 * 2 ^ (7 * i) ≤ 127 * 2 ^ (7 * i) := Nat.mul_le_mul_right _ h7
                rw [Nat.pow_succ, hpow]
                omega
              cases x1 <;> cases x2 <;> cases x3 <;> cases x4 <;> first
                | (exact absurd hx (by decide))
                | (repeat (first | (refine Do.seq ?_) | (refine Do.block ?_) | (apply Do.reads follows; (case hr => first | kernel_rfl | rfl); (case h => (repeat (first | with_reducible exact rt_nil | (apply readsTo.put; (case hw => simp only [go_sem, Nat.reduceEqDiff, Nat.reduceLT, Nat.reduceAdd, Nat.reduceLeDiff, Int.reduceLT, Int.reduceLE, h0, h1, h18, h7, hn, hlt, hw, hw1, hw7, hge, str_len, str_at hb, b1, b2, b3, b4, hshl, hor, hand, conv_8_64, hcv, hk']; done); (case hr => rfl); (case hd => rfl); (case hv => simp only [go_sem, Nat.reduceEqDiff, Nat.reduceLT, Nat.reduceAdd, Nat.reduceLeDiff, Int.reduceLT, Int.reduceLE, h0, h1, h18, h7, hn, hlt, hw, hw1, hw7, hge, str_len, str_at hb, b1, b2, b3, b4, hshl, hor, hand, conv_8_64, hcv, hk']; rfl)) | (apply readsTo.drop; (case hw => simp only [go_sem, Nat.reduceEqDiff, Nat.reduceLT, Nat.reduceAdd, Nat.reduceLeDiff, Int.reduceLT, Int.reduceLE, h0, h1, h18, h7, hn, hlt, hw, hw1, hw7, hge, str_len, str_at hb, b1, b2, b3, b4, hshl, hor, hand, conv_8_64, hcv, hk']; done); (case hd => rfl)) | (apply readsTo.stop; (case hw => simp only [go_sem, Nat.reduceEqDiff, Nat.reduceLT, Nat.reduceAdd, Nat.reduceLeDiff, Int.reduceLT, Int.reduceLE, h0, h1, h18, h7, hn, hlt, hw, hw1, hw7, hge, str_len, str_at hb, b1, b2, b3, b4, hshl, hor, hand, conv_8_64, hcv, hk']; done); (case hr => rfl))))))  | (refine Do.yes ?_ ?_; focus (simp only [go_sem, Nat.reduceEqDiff, Nat.reduceLT, Nat.reduceAdd, Nat.reduceLeDiff, Int.reduceLT, Int.reduceLE, h0, h1, h18, h7, hn, hlt, hw, hw1, hw7, hge, str_len, str_at hb, b1, b2, b3, b4, hshl, hor, hand, conv_8_64, hcv, hk']; done)) | (refine Do.no ?_ ?_; focus (simp only [go_sem, Nat.reduceEqDiff, Nat.reduceLT, Nat.reduceAdd, Nat.reduceLeDiff, Int.reduceLT, Int.reduceLE, h0, h1, h18, h7, hn, hlt, hw, hw1, hw7, hge, str_len, str_at hb, b1, b2, b3, b4, hshl, hor, hand, conv_8_64, hcv, hk']; done)) | (refine Do.skip ?_) | (refine Do.exit ?_) | (refine Do.ret ?_) | (refine Then.ret ?_) | (refine Then.normal ?_) | (refine Then.exit ?_) | (refine Out.ret ?_) | (refine Out.normal ?_) | (refine Out.here ?_) | (refine Out.off (by decide) ?_))
                   exact ⟨n - 1, by omega, rfl, (by simp only [go_sem, Nat.reduceEqDiff, Nat.reduceLT, Nat.reduceAdd, Nat.reduceLeDiff, Int.reduceLT, Int.reduceLE, hn]; done), (by simp only [go_sem, Nat.reduceEqDiff, Nat.reduceLT, Nat.reduceAdd, Nat.reduceLeDiff, Int.reduceLT, Int.reduceLE, hn, h0]; done), (by simp only [go_sem, Nat.reduceEqDiff, Nat.reduceLT, Nat.reduceAdd, Nat.reduceLeDiff, Int.reduceLT, Int.reduceLE, hn, h1]; done), i + 1, _, by omega, by omega, (by simp only [go_sem, Nat.reduceEqDiff, Nat.reduceLT, Nat.reduceAdd, Nat.reduceLeDiff, Int.reduceLT, Int.reduceLE, hn]; done), (by simp only [go_sem, Nat.reduceEqDiff, Nat.reduceLT, Nat.reduceAdd, Nat.reduceLeDiff, Int.reduceLT, Int.reduceLE, hn]; done), hnext, hr⟩)
      · exact ⟨rfl, (by simp only [go_sem, Nat.reduceEqDiff, Nat.reduceLT, Nat.reduceAdd, Nat.reduceLeDiff, Int.reduceLT, Int.reduceLE, hn]; done), (by simp only [go_sem, Nat.reduceEqDiff, Nat.reduceLT, Nat.reduceAdd, Nat.reduceLeDiff, Int.reduceLT, Int.reduceLE, hn, h0]; done), (by simp only [go_sem, Nat.reduceEqDiff, Nat.reduceLT, Nat.reduceAdd, Nat.reduceLeDiff, Int.reduceLT, Int.reduceLE, hn, h1]; done), 0, 0, by omega, by omega, (by simp only [go_sem, Nat.reduceEqDiff, Nat.reduceLT, Nat.reduceAdd, Nat.reduceLeDiff, Int.reduceLT, Int.reduceLE, hn, Int.natCast_zero]; done), (by simp only [go_sem, Nat.reduceEqDiff, Nat.reduceLT, Nat.reduceAdd, Nat.reduceLeDiff, Int.reduceLT, Int.reduceLE, hn, Int.natCast_zero]; done), by decide, rfl⟩
end Go.Proofs.Ytdilnplffhncmaa.TV
