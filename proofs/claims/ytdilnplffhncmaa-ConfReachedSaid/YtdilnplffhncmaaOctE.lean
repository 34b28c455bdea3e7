/-
  OCTET: a number that stands at a place, as the code of the document reads it.
-/
import Derived.Test.YtdilnplffhncmaaOctD
namespace Go.Proofs.Ytdilnplffhncmaa.TV
open Go Go.RowKit
set_option linter.unusedSimpArgs false
set_option linter.unusedVariables false
set_option maxRecDepth 100000
attribute [local go_sem] rt_nil rt_move rt_assign rt_read rt_guard wt_guard wt_none ir_move ir_assign ir_pick ir_build ir_buildSlice ir_load ir_nilCheck ir_bin ir_un ir_convert ir_makeInterface ir_makeFunc ir_slice ir_fieldAddr ir_field ir_indexAddr ir_index ir_lookup ir_extract ir_len ir_min ir_max ir_call ir_append ir_copy ir_alloc ir_box ir_store ir_makeSlice ir_makeMap ir_mapUpdate rd_move rd_assign rd_pick rd_build rd_buildSlice rd_load rd_nilCheck rd_bin rd_un rd_convert rd_slice rd_fieldAddr rd_field rd_indexAddr rd_index rd_extract rd_makeFunc rd_len rd_min rd_max gd_int gd_str gd_bool bn_add bn_sub bn_mul bn_quo bn_rem bn_eql bn_neq bn_lss bn_leq bn_gtr bn_geq bn_sadd bn_seql bn_sneq un_not un_neg oc_int oc_bool putE_some putE_none ev_const ev_tmp ev_func Env.at_set_ne Env.at_set_eq List.length_set if_true if_false Bool.false_eq_true ne_eq not_false_eq_true decide_true decide_false Option.bind_some List.getElem?_cons_zero List.getElem?_cons_succ Nat.succ_ne_zero Bool.true_eq_false Bool.not_true Bool.not_false beq_self_eq_true List.toList_toArray Option.bind_none bq_tl bq_fl bq_tr bq_fr undefT List.map_cons List.map_nil ints_len_i ints_at_i load_i bs_byte conv_u8

set_option maxHeartbeats 2000000 in
theorem refReadNumber_ok (l : List UInt8) (a : Int) (hl : l.length < 4611686018427387904) : Pure Try.prog 56 [.str l, .int .i64 a] (trip (rdAt l a)) := by
  unfold rdAt
  by_cases ha0 : a < 0
  · rw [if_pos (Or.inl ha0)]
    refine Pure.body Try.func56 rfl fun s => ?_
    generalize he : ([TV.str l, TV.int .i64 a] ++ List.replicate (Try.f56.ntmps - [TV.str l, TV.int .i64 a].length) undefT) = e
    have h0 : Env.at e 0 = TV.str l := by rw [← he]; rfl
    have h1 : Env.at e 1 = TV.int .i64 a := by rw [← he]; rfl
    have hn : List.length e = 60 := by rw [← he]; rfl
    clear he
    repeat (first | (refine Do.seq ?_) | (refine Do.block ?_) | (apply Do.reads follows; (case hr => first | kernel_rfl | rfl); (case h => (repeat (first | with_reducible exact rt_nil | (apply readsTo.put; (case hw => simp only [go_sem, Nat.reduceEqDiff, Nat.reduceLT, Nat.reduceAdd, Nat.reduceLeDiff, Int.reduceLT, Int.reduceLE, h0, h1, hn, ha0]; done); (case hr => rfl); (case hd => rfl); (case hv => simp only [go_sem, Nat.reduceEqDiff, Nat.reduceLT, Nat.reduceAdd, Nat.reduceLeDiff, Int.reduceLT, Int.reduceLE, h0, h1, hn, ha0]; rfl)) | (apply readsTo.drop; (case hw => simp only [go_sem, Nat.reduceEqDiff, Nat.reduceLT, Nat.reduceAdd, Nat.reduceLeDiff, Int.reduceLT, Int.reduceLE, h0, h1, hn, ha0]; done); (case hd => rfl)) | (apply readsTo.stop; (case hw => simp only [go_sem, Nat.reduceEqDiff, Nat.reduceLT, Nat.reduceAdd, Nat.reduceLeDiff, Int.reduceLT, Int.reduceLE, h0, h1, hn, ha0]; done); (case hr => rfl))))))  | (refine Do.yes ?_ ?_; focus (simp only [go_sem, Nat.reduceEqDiff, Nat.reduceLT, Nat.reduceAdd, Nat.reduceLeDiff, Int.reduceLT, Int.reduceLE, h0, h1, hn, ha0]; done)) | (refine Do.no ?_ ?_; focus (simp only [go_sem, Nat.reduceEqDiff, Nat.reduceLT, Nat.reduceAdd, Nat.reduceLeDiff, Int.reduceLT, Int.reduceLE, h0, h1, hn, ha0]; done)) | (refine Do.skip ?_) | (refine Do.exit ?_) | (refine Do.ret ?_) | (refine Then.ret ?_) | (refine Then.normal ?_) | (refine Then.exit ?_) | (refine Out.ret ?_) | (refine Out.normal ?_) | (refine Out.here ?_) | (refine Out.off (by decide) ?_))
    refine Ends.three rfl ⟨?_, rfl⟩
    simp only [go_sem, Nat.reduceEqDiff, Nat.reduceLT, Nat.reduceAdd, Nat.reduceLeDiff, Int.reduceLT, Int.reduceLE, hn]
    rfl
  · by_cases ha1 : (l.length : Int) < a
    · rw [if_pos (Or.inr ha1)]
      refine Pure.body Try.func56 rfl fun s => ?_
      generalize he : ([TV.str l, TV.int .i64 a] ++ List.replicate (Try.f56.ntmps - [TV.str l, TV.int .i64 a].length) undefT) = e
      have h0 : Env.at e 0 = TV.str l := by rw [← he]; rfl
      have h1 : Env.at e 1 = TV.int .i64 a := by rw [← he]; rfl
      have hn : List.length e = 60 := by rw [← he]; rfl
      clear he
      repeat (first | (refine Do.seq ?_) | (refine Do.block ?_) | (apply Do.reads follows; (case hr => first | kernel_rfl | rfl); (case h => (repeat (first | with_reducible exact rt_nil | (apply readsTo.put; (case hw => simp only [go_sem, Nat.reduceEqDiff, Nat.reduceLT, Nat.reduceAdd, Nat.reduceLeDiff, Int.reduceLT, Int.reduceLE, h0, h1, hn, ha0, ha1, str_len]; done); (case hr => rfl); (case hd => rfl); (case hv => simp only [go_sem, Nat.reduceEqDiff, Nat.reduceLT, Nat.reduceAdd, Nat.reduceLeDiff, Int.reduceLT, Int.reduceLE, h0, h1, hn, ha0, ha1, str_len]; rfl)) | (apply readsTo.drop; (case hw => simp only [go_sem, Nat.reduceEqDiff, Nat.reduceLT, Nat.reduceAdd, Nat.reduceLeDiff, Int.reduceLT, Int.reduceLE, h0, h1, hn, ha0, ha1, str_len]; done); (case hd => rfl)) | (apply readsTo.stop; (case hw => simp only [go_sem, Nat.reduceEqDiff, Nat.reduceLT, Nat.reduceAdd, Nat.reduceLeDiff, Int.reduceLT, Int.reduceLE, h0, h1, hn, ha0, ha1, str_len]; done); (case hr => rfl))))))  | (refine Do.yes ?_ ?_; focus (simp only [go_sem, Nat.reduceEqDiff, Nat.reduceLT, Nat.reduceAdd, Nat.reduceLeDiff, Int.reduceLT, Int.reduceLE, h0, h1, hn, ha0, ha1, str_len]; done)) | (refine Do.no ?_ ?_; focus (simp only [go_sem, Nat.reduceEqDiff, Nat.reduceLT, Nat.reduceAdd, Nat.reduceLeDiff, Int.reduceLT, Int.reduceLE, h0, h1, hn, ha0, ha1, str_len]; done)) | (refine Do.skip ?_) | (refine Do.exit ?_) | (refine Do.ret ?_) | (refine Then.ret ?_) | (refine Then.normal ?_) | (refine Then.exit ?_) | (refine Out.ret ?_) | (refine Out.normal ?_) | (refine Out.here ?_) | (refine Out.off (by decide) ?_))
      refine Ends.three rfl ⟨?_, rfl⟩
      simp only [go_sem, Nat.reduceEqDiff, Nat.reduceLT, Nat.reduceAdd, Nat.reduceLeDiff, Int.reduceLT, Int.reduceLE, hn]
      rfl
    · rw [if_neg (by omega)]
      obtain ⟨p, rfl⟩ : ∃ p : Nat, a = (p : Int) := ⟨a.toNat, by omega⟩
      simp only [Int.toNat_natCast]
      refine Pure.body Try.func56 rfl fun s => ?_
      generalize he : ([TV.str l, TV.int .i64 (p : Int)] ++ List.replicate (Try.f56.ntmps - [TV.str l, TV.int .i64 (p : Int)].length) undefT) = e
      have h0 : Env.at e 0 = TV.str l := by rw [← he]; rfl
      have h1 : Env.at e 1 = TV.int .i64 (p : Int) := by rw [← he]; rfl
      have hn : List.length e = 60 := by rw [← he]; rfl
      clear he
      repeat (first | (refine Do.seq ?_) | (refine Do.block ?_) | (apply Do.reads follows; (case hr => first | kernel_rfl | rfl); (case h => (repeat (first | with_reducible exact rt_nil | (apply readsTo.put; (case hw => simp only [go_sem, Nat.reduceEqDiff, Nat.reduceLT, Nat.reduceAdd, Nat.reduceLeDiff, Int.reduceLT, Int.reduceLE, h0, h1, hn, ha0, ha1, str_len]; done); (case hr => rfl); (case hd => rfl); (case hv => simp only [go_sem, Nat.reduceEqDiff, Nat.reduceLT, Nat.reduceAdd, Nat.reduceLeDiff, Int.reduceLT, Int.reduceLE, h0, h1, hn, ha0, ha1, str_len]; rfl)) | (apply readsTo.drop; (case hw => simp only [go_sem, Nat.reduceEqDiff, Nat.reduceLT, Nat.reduceAdd, Nat.reduceLeDiff, Int.reduceLT, Int.reduceLE, h0, h1, hn, ha0, ha1, str_len]; done); (case hd => rfl)) | (apply readsTo.stop; (case hw => simp only [go_sem, Nat.reduceEqDiff, Nat.reduceLT, Nat.reduceAdd, Nat.reduceLeDiff, Int.reduceLT, Int.reduceLE, h0, h1, hn, ha0, ha1, str_len]; done); (case hr => rfl))))))  | (refine Do.yes ?_ ?_; focus (simp only [go_sem, Nat.reduceEqDiff, Nat.reduceLT, Nat.reduceAdd, Nat.reduceLeDiff, Int.reduceLT, Int.reduceLE, h0, h1, hn, ha0, ha1, str_len]; done)) | (refine Do.no ?_ ?_; focus (simp only [go_sem, Nat.reduceEqDiff, Nat.reduceLT, Nat.reduceAdd, Nat.reduceLeDiff, Int.reduceLT, Int.reduceLE, h0, h1, hn, ha0, ha1, str_len]; done)) | (refine Do.skip ?_) | (refine Do.exit ?_) | (refine Do.ret ?_) | (refine Then.ret ?_) | (refine Then.normal ?_) | (refine Then.exit ?_) | (refine Out.ret ?_) | (refine Out.normal ?_) | (refine Out.here ?_) | (refine Out.off (by decide) ?_))
      refine Do.loop (fun n e' s' => s' = s ∧ List.length e' = 60 ∧ Env.at e' 0 = .str l ∧ Env.at e' 1 = .int .i64 (p : Int) ∧ ∃ (i acc : Nat), i + n = 10 ∧ i ≤ 9 ∧ Env.at e' 9 = .int .i64 ((p + i : Nat) : Int) ∧ Env.at e' 7 = .int .u64 acc ∧ Env.at e' 8 = .int .u64 ((128 ^ i : Nat) : Int) ∧
        acc < 128 ^ i ∧ rdN (l.drop p) 0 p 0 = rdN (l.drop (p + i)) i (p + i) acc) ?_ (n := 10) ?_
      · intro n e' s' ⟨hs, hn, h0, h1, i, acc, hi, hi9, h9, h7, h8, hacc, hr⟩
        subst hs
        have hlt : IntKind.i64.wrap (((p + i : Nat) : Int) - (p : Int)) = (i : Int) := by rw [wrap_small (by omega)]; omega
        have hw : IntKind.i64.wrap ((p : Int) + (i : Int)) = ((p + i : Nat) : Int) := by rw [wrap_small (by omega)]; omega
        have hw1 : IntKind.i64.wrap ((i : Int) + 1) = ((i + 1 : Nat) : Int) := wrap_succ (by omega)
        have hw2 : IntKind.i64.wrap (((p + i : Nat) : Int) + 1) = ((p + i + 1 : Nat) : Int) := wrap_succ (by omega)
        have hw7 : IntKind.i64.wrap (7 * (i : Int)) = ((7 * i : Nat) : Int) := by rw [wrap_small (by omega)]; omega
        cases hb : l[p + i]? with
        | none =>
          have hge : (l.length : Int) ≤ ((p + i : Nat) : Int) := by have := List.getElem?_eq_none_iff.1 hb; omega
          have hd : l.drop (p + i) = [] := List.drop_eq_nil_of_le (by omega)
          rw [hd, rdN] at hr
          repeat (first | (refine Do.seq ?_) | (refine Do.block ?_) | (apply Do.reads follows; (case hr => first | kernel_rfl | rfl); (case h => (repeat (first | with_reducible exact rt_nil | (apply readsTo.put; (case hw => simp only [go_sem, Nat.reduceEqDiff, Nat.reduceLT, Nat.reduceAdd, Nat.reduceLeDiff, Int.reduceLT, Int.reduceLE, h0, h1, h9, h7, h8, hn, hlt, hw, hge, str_len]; done); (case hr => rfl); (case hd => rfl); (case hv => simp only [go_sem, Nat.reduceEqDiff, Nat.reduceLT, Nat.reduceAdd, Nat.reduceLeDiff, Int.reduceLT, Int.reduceLE, h0, h1, h9, h7, h8, hn, hlt, hw, hge, str_len]; rfl)) | (apply readsTo.drop; (case hw => simp only [go_sem, Nat.reduceEqDiff, Nat.reduceLT, Nat.reduceAdd, Nat.reduceLeDiff, Int.reduceLT, Int.reduceLE, h0, h1, h9, h7, h8, hn, hlt, hw, hge, str_len]; done); (case hd => rfl)) | (apply readsTo.stop; (case hw => simp only [go_sem, Nat.reduceEqDiff, Nat.reduceLT, Nat.reduceAdd, Nat.reduceLeDiff, Int.reduceLT, Int.reduceLE, h0, h1, h9, h7, h8, hn, hlt, hw, hge, str_len]; done); (case hr => rfl))))))  | (refine Do.yes ?_ ?_; focus (simp only [go_sem, Nat.reduceEqDiff, Nat.reduceLT, Nat.reduceAdd, Nat.reduceLeDiff, Int.reduceLT, Int.reduceLE, h0, h1, h9, h7, h8, hn, hlt, hw, hge, str_len]; done)) | (refine Do.no ?_ ?_; focus (simp only [go_sem, Nat.reduceEqDiff, Nat.reduceLT, Nat.reduceAdd, Nat.reduceLeDiff, Int.reduceLT, Int.reduceLE, h0, h1, h9, h7, h8, hn, hlt, hw, hge, str_len]; done)) | (refine Do.skip ?_) | (refine Do.exit ?_) | (refine Do.ret ?_) | (refine Then.ret ?_) | (refine Then.normal ?_) | (refine Then.exit ?_) | (refine Out.ret ?_) | (refine Out.normal ?_) | (refine Out.here ?_) | (refine Out.off (by decide) ?_))
          refine Ends.three rfl ⟨?_, rfl⟩
          rw [hr]
          simp only [go_sem, Nat.reduceEqDiff, Nat.reduceLT, Nat.reduceAdd, Nat.reduceLeDiff, Int.reduceLT, Int.reduceLE, hn]
          rfl
        | some c =>
          have hpl : p + i < l.length := (List.getElem?_eq_some_iff.1 hb).1
          have hge : ¬ (l.length : Int) ≤ ((p + i : Nat) : Int) := by omega
          rw [drop_of hb, rdN] at hr
          have hm : c.toNat < 256 := c.toNat_lt
          have hcv : IntKind.u64.wrap (c.toNat : Int) = (c.toNat : Int) := wrap_u64 (by omega)
          obtain ⟨x1, b1⟩ : ∃ x, ((i : Int) == 9) = x := ⟨_, rfl⟩
          obtain ⟨x2, b2⟩ : ∃ x, decide ((1 : Int) < (c.toNat : Int)) = x := ⟨_, rfl⟩
          obtain ⟨x3, b3⟩ : ∃ x, decide ((p : Int) < ((p + i : Nat) : Int)) = x := ⟨_, rfl⟩
          obtain ⟨x4, b4⟩ : ∃ x, ((c.toNat : Int) == 0) = x := ⟨_, rfl⟩
          by_cases hC : (i = 9 ∧ 1 < c.toNat) ∨ (0 < i ∧ c.toNat = 0)
          · rw [if_pos hC] at hr
            have hx : ((x1 && x2) || (x3 && x4)) = true := by
              rw [← b1, ← b2, ← b3, ← b4]
              simpa using (by omega : ((i : Int) = 9 ∧ (1 : Int) < (c.toNat : Int)) ∨ ((p : Int) < ((p + i : Nat) : Int) ∧ (c.toNat : Int) = 0))
            cases x1 <;> cases x2 <;> cases x3 <;> cases x4 <;> first
              | (exact absurd hx (by decide))
              | (repeat (first | (refine Do.seq ?_) | (refine Do.block ?_) | (apply Do.reads follows; (case hr => first | kernel_rfl | rfl); (case h => (repeat (first | with_reducible exact rt_nil | (apply readsTo.put; (case hw => simp only [go_sem, Nat.reduceEqDiff, Nat.reduceLT, Nat.reduceAdd, Nat.reduceLeDiff, Int.reduceLT, Int.reduceLE, h0, h1, h9, h7, h8, hn, hlt, hw, hge, str_len, str_at hb, b1, b2, b3, b4, conv_8_64, hcv]; done); (case hr => rfl); (case hd => rfl); (case hv => simp only [go_sem, Nat.reduceEqDiff, Nat.reduceLT, Nat.reduceAdd, Nat.reduceLeDiff, Int.reduceLT, Int.reduceLE, h0, h1, h9, h7, h8, hn, hlt, hw, hge, str_len, str_at hb, b1, b2, b3, b4, conv_8_64, hcv]; rfl)) | (apply readsTo.drop; (case hw => simp only [go_sem, Nat.reduceEqDiff, Nat.reduceLT, Nat.reduceAdd, Nat.reduceLeDiff, Int.reduceLT, Int.reduceLE, h0, h1, h9, h7, h8, hn, hlt, hw, hge, str_len, str_at hb, b1, b2, b3, b4, conv_8_64, hcv]; done); (case hd => rfl)) | (apply readsTo.stop; (case hw => simp only [go_sem, Nat.reduceEqDiff, Nat.reduceLT, Nat.reduceAdd, Nat.reduceLeDiff, Int.reduceLT, Int.reduceLE, h0, h1, h9, h7, h8, hn, hlt, hw, hge, str_len, str_at hb, b1, b2, b3, b4, conv_8_64, hcv]; done); (case hr => rfl))))))  | (refine Do.yes ?_ ?_; focus (simp only [go_sem, Nat.reduceEqDiff, Nat.reduceLT, Nat.reduceAdd, Nat.reduceLeDiff, Int.reduceLT, Int.reduceLE, h0, h1, h9, h7, h8, hn, hlt, hw, hge, str_len, str_at hb, b1, b2, b3, b4, conv_8_64, hcv]; done)) | (refine Do.no ?_ ?_; focus (simp only [go_sem, Nat.reduceEqDiff, Nat.reduceLT, Nat.reduceAdd, Nat.reduceLeDiff, Int.reduceLT, Int.reduceLE, h0, h1, h9, h7, h8, hn, hlt, hw, hge, str_len, str_at hb, b1, b2, b3, b4, conv_8_64, hcv]; done)) | (refine Do.skip ?_) | (refine Do.exit ?_) | (refine Do.ret ?_) | (refine Then.ret ?_) | (refine Then.normal ?_) | (refine Then.exit ?_) | (refine Out.ret ?_) | (refine Out.normal ?_) | (refine Out.here ?_) | (refine Out.off (by decide) ?_))
                 refine Ends.three rfl ⟨?_, rfl⟩
                 rw [hr]
                 simp only [go_sem, Nat.reduceEqDiff, Nat.reduceLT, Nat.reduceAdd, Nat.reduceLeDiff, Int.reduceLT, Int.reduceLE, hn]
                 rfl)
          · rw [if_neg hC] at hr
            have hx : ((x1 && x2) || (x3 && x4)) = false := by
              rw [← b1, ← b2, ← b3, ← b4]
              have h4 : ¬ (((i : Int) = 9 ∧ (1 : Int) < (c.toNat : Int)) ∨ ((p : Int) < ((p + i : Nat) : Int) ∧ (c.toNat : Int) = 0)) := by omega
              simpa using h4
            have hpow : 128 ^ i = 2 ^ (7 * i) := pow128 i
            have hx9 : i = 9 → c.toNat % 128 ≤ 1 := fun h => by omega
            have hsh : c.toNat % 128 * 2 ^ (7 * i) < 18446744073709551616 ∧ acc + c.toNat % 128 * 2 ^ (7 * i) < 18446744073709551616 := by
              rw [hpow] at hacc
              by_cases h9 : i = 9
              · have := hx9 h9
                subst h9
                have h5 : c.toNat % 128 * 2 ^ (7 * 9) ≤ 1 * 2 ^ (7 * 9) := Nat.mul_le_mul_right _ this
                omega
              · have h6 : 2 ^ (7 * i) ≤ 2 ^ 56 := Nat.pow_le_pow_right (by omega) (by omega)
                have h5 : c.toNat % 128 * 2 ^ (7 * i) ≤ 127 * 2 ^ 56 := Nat.mul_le_mul (by omega) h6
                omega
            have hacc' : acc < 2 ^ (7 * i) := by rw [← hpow]; exact hacc
            have q : (128 : Int) ≠ 0 := by decide
            have hmul : IntKind.u64.wrap (((c.toNat % 128 : Nat) : Int) * ((128 ^ i : Nat) : Int)) = ((c.toNat % 128 * 2 ^ (7 * i) : Nat) : Int) := by
              rw [← hpow] at hsh ⊢
              rw [← Int.natCast_mul]
              exact wrap_u64 hsh.1
            have hadd : IntKind.u64.wrap ((acc : Int) + ((c.toNat % 128 * 2 ^ (7 * i) : Nat) : Int)) = ((acc + c.toNat % 128 * 2 ^ (7 * i) : Nat) : Int) := by
              rw [← Int.natCast_add]
              exact wrap_u64 hsh.2
            rw [hpow] at hr
            by_cases hk : c.toNat < 128
            · rw [if_pos hk] at hr
              have hk' : ((c.toNat : Int) < 128) := by omega
              cases x1 <;> cases x2 <;> cases x3 <;> cases x4 <;> first
                | (exact absurd hx (by decide))
                | (repeat (first | (refine Do.seq ?_) | (refine Do.block ?_) | (apply Do.reads follows; (case hr => first | kernel_rfl | rfl); (case h => (repeat (first | with_reducible exact rt_nil | (apply readsTo.put; (case hw => simp only [go_sem, Nat.reduceEqDiff, Nat.reduceLT, Nat.reduceAdd, Nat.reduceLeDiff, Int.reduceLT, Int.reduceLE, h0, h1, h9, h7, h8, hn, hlt, hw, hw2, hw7, hge, str_len, str_at hb, b1, b2, b3, b4, bn_rem q, rem128, hmul, hadd, conv_8_64, hcv, hk']; done); (case hr => rfl); (case hd => rfl); (case hv => simp only [go_sem, Nat.reduceEqDiff, Nat.reduceLT, Nat.reduceAdd, Nat.reduceLeDiff, Int.reduceLT, Int.reduceLE, h0, h1, h9, h7, h8, hn, hlt, hw, hw2, hw7, hge, str_len, str_at hb, b1, b2, b3, b4, bn_rem q, rem128, hmul, hadd, conv_8_64, hcv, hk']; rfl)) | (apply readsTo.drop; (case hw => simp only [go_sem, Nat.reduceEqDiff, Nat.reduceLT, Nat.reduceAdd, Nat.reduceLeDiff, Int.reduceLT, Int.reduceLE, h0, h1, h9, h7, h8, hn, hlt, hw, hw2, hw7, hge, str_len, str_at hb, b1, b2, b3, b4, bn_rem q, rem128, hmul, hadd, conv_8_64, hcv, hk']; done); (case hd => rfl)) | (apply readsTo.stop; (case hw => simp only [go_sem, Nat.reduceEqDiff, Nat.reduceLT, Nat.reduceAdd, Nat.reduceLeDiff, Int.reduceLT, Int.reduceLE, h0, h1, h9, h7, h8, hn, hlt, hw, hw2, hw7, hge, str_len, str_at hb, b1, b2, b3, b4, bn_rem q, rem128, hmul, hadd, conv_8_64, hcv, hk']; done); (case hr => rfl))))))  | (refine Do.yes ?_ ?_; focus (simp only [go_sem, Nat.reduceEqDiff, Nat.reduceLT, Nat.reduceAdd, Nat.reduceLeDiff, Int.reduceLT, Int.reduceLE, h0, h1, h9, h7, h8, hn, hlt, hw, hw2, hw7, hge, str_len, str_at hb, b1, b2, b3, b4, bn_rem q, rem128, hmul, hadd, conv_8_64, hcv, hk']; done)) | (refine Do.no ?_ ?_; focus (simp only [go_sem, Nat.reduceEqDiff, Nat.reduceLT, Nat.reduceAdd, Nat.reduceLeDiff, Int.reduceLT, Int.reduceLE, h0, h1, h9, h7, h8, hn, hlt, hw, hw2, hw7, hge, str_len, str_at hb, b1, b2, b3, b4, bn_rem q, rem128, hmul, hadd, conv_8_64, hcv, hk']; done)) | (refine Do.skip ?_) | (refine Do.exit ?_) | (refine Do.ret ?_) | (refine Then.ret ?_) | (refine Then.normal ?_) | (refine Then.exit ?_) | (refine Out.ret ?_) | (refine Out.normal ?_) | (refine Out.here ?_) | (refine Out.off (by decide) ?_))
                   refine Ends.three rfl ⟨?_, rfl⟩
                   rw [hr]
                   simp only [go_sem, Nat.reduceEqDiff, Nat.reduceLT, Nat.reduceAdd, Nat.reduceLeDiff, Int.reduceLT, Int.reduceLE, hn]
                   rfl)
            · rw [if_neg hk] at hr
              have hk' : ¬ ((c.toNat : Int) < 128) := by omega
              have hi8 : i ≠ 9 := fun h => by have := hx9 h; omega
              have hnext : acc + c.toNat % 128 * 2 ^ (7 * i) < 128 ^ (i + 1) := by
                have h7 : c.toNat % 128 ≤ 127 := by omega
                have h8 : c.toNat % 128 * 2 ^ (7 * i) ≤ 127 * 2 ^ (7 * i) := Nat.mul_le_mul_right _ h7
                rw [Nat.pow_succ, hpow]
                omega
              have htimes : IntKind.u64.wrap (((128 ^ i : Nat) : Int) * 128) = ((128 ^ (i + 1) : Nat) : Int) := by
                have h6 : 128 ^ (i + 1) ≤ 128 ^ 9 := Nat.pow_le_pow_right (by omega) (by omega)
                have h5 : ((128 ^ i : Nat) : Int) * 128 = ((128 ^ (i + 1) : Nat) : Int) := by rw [Nat.pow_succ, Int.natCast_mul]; rfl
                rw [h5]
                exact wrap_u64 (by omega)
              cases x1 <;> cases x2 <;> cases x3 <;> cases x4 <;> first
                | (exact absurd hx (by decide))
                | (repeat (first | (refine Do.seq ?_) | (refine Do.block ?_) | (apply Do.reads follows; (case hr => first | kernel_rfl | rfl); (case h => (repeat (first | with_reducible exact rt_nil | (apply readsTo.put; (case hw => simp only [go_sem, Nat.reduceEqDiff, Nat.reduceLT, Nat.reduceAdd, Nat.reduceLeDiff, Int.reduceLT, Int.reduceLE, h0, h1, h9, h7, h8, hn, hlt, hw, htimes, hw2, hw7, hge, str_len, str_at hb, b1, b2, b3, b4, bn_rem q, rem128, hmul, hadd, conv_8_64, hcv, hk']; done); (case hr => rfl); (case hd => rfl); (case hv => simp only [go_sem, Nat.reduceEqDiff, Nat.reduceLT, Nat.reduceAdd, Nat.reduceLeDiff, Int.reduceLT, Int.reduceLE, h0, h1, h9, h7, h8, hn, hlt, hw, htimes, hw2, hw7, hge, str_len, str_at hb, b1, b2, b3, b4, bn_rem q, rem128, hmul, hadd, conv_8_64, hcv, hk']; rfl)) | (apply readsTo.drop; (case hw => simp only [go_sem, Nat.reduceEqDiff, Nat.reduceLT, Nat.reduceAdd, Nat.reduceLeDiff, Int.reduceLT, Int.reduceLE, h0, h1, h9, h7, h8, hn, hlt, hw, htimes, hw2, hw7, hge, str_len, str_at hb, b1, b2, b3, b4, bn_rem q, rem128, hmul, hadd, conv_8_64, hcv, hk']; done); (case hd => rfl)) | (apply readsTo.stop; (case hw => simp only [go_sem, Nat.reduceEqDiff, Nat.reduceLT, Nat.reduceAdd, Nat.reduceLeDiff, Int.reduceLT, Int.reduceLE, h0, h1, h9, h7, h8, hn, hlt, hw, htimes, hw2, hw7, hge, str_len, str_at hb, b1, b2, b3, b4, bn_rem q, rem128, hmul, hadd, conv_8_64, hcv, hk']; done); (case hr => rfl))))))  | (refine Do.yes ?_ ?_; focus (simp only [go_sem, Nat.reduceEqDiff, Nat.reduceLT, Nat.reduceAdd, Nat.reduceLeDiff, Int.reduceLT, Int.reduceLE, h0, h1, h9, h7, h8, hn, hlt, hw, htimes, hw2, hw7, hge, str_len, str_at hb, b1, b2, b3, b4, bn_rem q, rem128, hmul, hadd, conv_8_64, hcv, hk']; done)) | (refine Do.no ?_ ?_; focus (simp only [go_sem, Nat.reduceEqDiff, Nat.reduceLT, Nat.reduceAdd, Nat.reduceLeDiff, Int.reduceLT, Int.reduceLE, h0, h1, h9, h7, h8, hn, hlt, hw, htimes, hw2, hw7, hge, str_len, str_at hb, b1, b2, b3, b4, bn_rem q, rem128, hmul, hadd, conv_8_64, hcv, hk']; done)) | (refine Do.skip ?_) | (refine Do.exit ?_) | (refine Do.ret ?_) | (refine Then.ret ?_) | (refine Then.normal ?_) | (refine Then.exit ?_) | (refine Out.ret ?_) | (refine Out.normal ?_) | (refine Out.here ?_) | (refine Out.off (by decide) ?_))
                   exact ⟨n - 1, by omega, rfl, (by simp only [go_sem, Nat.reduceEqDiff, Nat.reduceLT, Nat.reduceAdd, Nat.reduceLeDiff, Int.reduceLT, Int.reduceLE, hn]; done), (by simp only [go_sem, Nat.reduceEqDiff, Nat.reduceLT, Nat.reduceAdd, Nat.reduceLeDiff, Int.reduceLT, Int.reduceLE, hn, h0]; done), (by simp only [go_sem, Nat.reduceEqDiff, Nat.reduceLT, Nat.reduceAdd, Nat.reduceLeDiff, Int.reduceLT, Int.reduceLE, hn, h1]; done), i + 1, _, by omega, by omega, (by simp only [go_sem, Nat.reduceEqDiff, Nat.reduceLT, Nat.reduceAdd, Nat.reduceLeDiff, Int.reduceLT, Int.reduceLE, hn, Nat.add_assoc]; done), (by simp only [go_sem, Nat.reduceEqDiff, Nat.reduceLT, Nat.reduceAdd, Nat.reduceLeDiff, Int.reduceLT, Int.reduceLE, hn]; done), (by simp only [go_sem, Nat.reduceEqDiff, Nat.reduceLT, Nat.reduceAdd, Nat.reduceLeDiff, Int.reduceLT, Int.reduceLE, hn]; done), hnext, hr⟩)
      · exact ⟨rfl, (by simp only [go_sem, Nat.reduceEqDiff, Nat.reduceLT, Nat.reduceAdd, Nat.reduceLeDiff, Int.reduceLT, Int.reduceLE, hn]; done), (by simp only [go_sem, Nat.reduceEqDiff, Nat.reduceLT, Nat.reduceAdd, Nat.reduceLeDiff, Int.reduceLT, Int.reduceLE, hn, h0]; done), (by simp only [go_sem, Nat.reduceEqDiff, Nat.reduceLT, Nat.reduceAdd, Nat.reduceLeDiff, Int.reduceLT, Int.reduceLE, hn, h1]; done), 0, 0, by omega, by omega, (by simp only [go_sem, Nat.reduceEqDiff, Nat.reduceLT, Nat.reduceAdd, Nat.reduceLeDiff, Int.reduceLT, Int.reduceLE, hn, Nat.add_zero]; done), (by simp only [go_sem, Nat.reduceEqDiff, Nat.reduceLT, Nat.reduceAdd, Nat.reduceLeDiff, Int.reduceLT, Int.reduceLE, hn, Int.natCast_zero]; done), (by simp only [go_sem, Nat.reduceEqDiff, Nat.reduceLT, Nat.reduceAdd, Nat.reduceLeDiff, Int.reduceLT, Int.reduceLE, hn, Nat.pow_zero, Int.natCast_one]; done), by decide, rfl⟩
end Go.Proofs.Ytdilnplffhncmaa.TV
