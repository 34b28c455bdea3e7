/-
  OCTET: a number's bytes.
-/
import Derived.Test.YtdilnplffhncmaaBase
import Derived.Test.YtdilnplffhncmaaTVGrow
namespace Go.Proofs.Ytdilnplffhncmaa.TV
open Go Go.RowKit
set_option linter.unusedSimpArgs false
set_option linter.unusedVariables false
set_option maxRecDepth 100000
attribute [local go_sem] rt_nil rt_move rt_assign rt_read rt_guard wt_guard wt_none ir_move ir_assign ir_pick ir_build ir_buildSlice ir_load ir_nilCheck ir_bin ir_un ir_convert ir_makeInterface ir_makeFunc ir_slice ir_fieldAddr ir_field ir_indexAddr ir_index ir_lookup ir_extract ir_len ir_min ir_max ir_call ir_append ir_copy ir_alloc ir_box ir_store ir_makeSlice ir_makeMap ir_mapUpdate rd_move rd_assign rd_pick rd_build rd_buildSlice rd_load rd_nilCheck rd_bin rd_un rd_convert rd_slice rd_fieldAddr rd_field rd_indexAddr rd_index rd_extract rd_makeFunc rd_len rd_min rd_max gd_int gd_str gd_bool bn_add bn_sub bn_mul bn_quo bn_rem bn_eql bn_neq bn_lss bn_leq bn_gtr bn_geq bn_sadd bn_seql bn_sneq un_not un_neg oc_int oc_bool putE_some putE_none ev_const ev_tmp ev_func Env.at_set_ne Env.at_set_eq List.length_set if_true if_false Bool.false_eq_true ne_eq not_false_eq_true decide_true decide_false Option.bind_some List.getElem?_cons_zero List.getElem?_cons_succ Nat.succ_ne_zero Bool.true_eq_false Bool.not_true Bool.not_false beq_self_eq_true List.toList_toArray Option.bind_none bq_tl bq_fl bq_tr bq_fr undefT List.map_cons List.map_nil ints_len_i ints_at_i load_i

/-- A number's bytes, seven bits each, the lowest first. -/
def num (n : Nat) : List UInt8 := if h : n < 128 then [UInt8.ofNat n] else UInt8.ofNat (n % 128 + 128) :: num (n / 128)
termination_by n
decreasing_by omega
theorem num_small {n : Nat} (h : n < 128) : num n = [UInt8.ofNat n] := by rw [num, dif_pos h]
theorem num_big {n : Nat} (h : ¬ n < 128) : num n = UInt8.ofNat (n % 128 + 128) :: num (n / 128) := by rw [num, dif_neg h]

/-- Bytes as elements. -/
def u8s (l : List UInt8) : List TV := l.map fun c => .int .u8 c.toNat
theorem bytesOf_u8s (l : List UInt8) : bytesOf (u8s l) = some l := by
  induction l with
  | nil => rfl
  | cons c l ih =>
    simp only [u8s, List.map_cons] at ih ⊢
    simp [bytesOf, ih]
theorem u8s_one {n : Nat} (h : n < 256) : u8s [UInt8.ofNat n] = [.int .u8 n] := by
  simp [u8s, UInt8.toNat_ofNat, Nat.mod_eq_of_lt h]
theorem u8s_append (a b : List UInt8) : u8s (a ++ b) = u8s a ++ u8s b := by simp [u8s]
theorem or_byte : ∀ m : Nat, m < 256 → IntKind.u8.wrap ((BitVec.ofInt IntKind.u8.bits (m : Int) ||| BitVec.ofInt IntKind.u8.bits 128).toNat) = ((m % 128 + 128 : Nat) : Int) := by decide +kernel
theorem wrap_u8 (n : Nat) : IntKind.u8.wrap (n : Int) = ((n % 256 : Nat) : Int) := by
  unfold IntKind.wrap
  simp [IntKind.min, IntKind.max, IntKind.bits, IntKind.signed]

theorem u8_zero : (match zeroT Try.prog 5 with | some z => z.cells.all cellOk && z.cells.length == Try.prog.cellsOf 5 | none => false) = true := by kernel_rfl
theorem bs_byte {x : Int} : buildSliceT Try.prog 72 1 [(0, .int .u8 x)] = some (.slice false [.int .u8 x] .exact) := bs_one Try.underlying72 (by kernel_rfl) u8_zero rfl rfl
theorem grow_byte {s : St} {v : TV} {l : List UInt8} {c : Nat} (g : Grows Try.prog s v (u8s l) 5) (hc : c < 256) (hl : l.length < 1000000) :
    ∃ v' s', appendT Try.prog s 72 72 v (.slice false [.int .u8 c] .exact) = some (v', s') ∧ Grows Try.prog s' v' (u8s (l ++ [UInt8.ofNat c])) 5 ∧ Apps s s' v := by
  have hb : Try.prog.bytesOf 5 = 1 := by kernel_rfl
  have hc1 : Try.prog.cellsOf 5 = 1 := by kernel_rfl
  obtain ⟨v', s', h1, h2, h3, _⟩ := g.append (y := .slice false [.int .u8 c] .exact) (ys := [.int .u8 c]) Try.underlying72 Try.underlying72 rfl rfl (by simp) (by rw [hb]; simp [u8s]; omega) (by rw [hb]; decide) (by rw [hc1]; decide) (by rw [hc1]; rfl) rfl rfl (by kernel_rfl)
  rw [u8s_append, u8s_one hc]
  exact ⟨v', s', h1, h2, h3⟩
end Go.Proofs.Ytdilnplffhncmaa.TV
