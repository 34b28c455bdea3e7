/-
  OCTET: the document's numbers and texts, printed.
-/
import Derived.Test.YtbnfooeeopmpiaaDNum
import Derived.Test.YtbnfooeeopmpiaaBase
namespace Go.Proofs.Ytbnfooeeopmpiaa.TV
open Go Go.RowKit
set_option linter.unusedVariables false
set_option maxRecDepth 1000000
def fNumber_g : Sig := ⟨[.ty (.int .u64)], [], [], [.ty (.str)], [], []⟩
def fNumber_c : Cuts := ⟨[], [], []⟩
noncomputable def fNumber_t (self : dens fNumber_g.inP → Option (dens fNumber_g.outP)) : List (FuncId × Spec) := (44, callOf fNumber_g self) :: []
noncomputable def fNumber_F (self : (Int × Unit) → (Option ((List UInt8) × Unit))) (n : Int) : (Option ((List UInt8) × Unit)) := (bif decide (n < 128) then some (bytesUV [IntKind.wrap .u8 n], ()) else ((self (IntKind.wrap .u64 (Int.tdiv n 128), ())).bind fun (x1, _) => (bif decide (List.length (bytesUV [IntKind.wrap .u8 (IntKind.wrap .u64 (Int.tmod n 128 + 128))]) + List.length x1 ≤ 9223372036854775807) then some (bytesUV [IntKind.wrap .u8 (IntKind.wrap .u64 (Int.tmod n 128 + 128))] ++ x1, ()) else none)))
theorem fNumber_k {self : dens fNumber_g.inP → Option (dens fNumber_g.outP)} (h : FnOk Try.prog 44 fNumber_g self) : TabOk Try.prog (fNumber_t self) := .cons (spec_ok h) (.nil)
theorem fNumber_eq (self : dens fNumber_g.inP → Option (dens fNumber_g.outP)) (d : dens fNumber_g.inP) : fnU Try.prog (tabU (fNumber_t self)) fNumber_c 100 fNumber_g Try.f44 (Try.f44.body.getD .skip) d = fNumber_F self d.1 := by kernel_rfl
theorem fNumber_rec : ∀ n, FnOk Try.prog 44 fNumber_g (recN (fun self d => fNumber_F self d.1) n) := FnOk.recN fun F h => (fn_ok follows named (tabU_ok (fNumber_k h)) Try.func44 rfl).congr (fNumber_eq F)
theorem fNumber_num : ∀ (k n : Nat), n < 128 ^ (k + 1) → n < 18446744073709551616 → recN (fun self d => fNumber_F self d.1) (k + 1) (((n : Int), ()) : Int × Unit) = some (num n, ()) := by
  intro k
  induction k with
  | zero =>
    intro n h _
    have h : n < 128 := by simpa using h
    have h1 : (n : Int) < 128 := by omega
    rw [num_small h]
    simp only [recN, fNumber_F, cond_if, if_pos h1, bytesUV, List.map_cons, List.map_nil, wrap_u8]
    have : n % 256 = n := by omega
    rw [this]
    simp
  | succ k ih =>
    intro n h h64
    by_cases hn : n < 128
    · have h1 : (n : Int) < 128 := by omega
      rw [num_small hn]
      simp only [recN, fNumber_F, cond_if, if_pos h1, bytesUV, List.map_cons, List.map_nil, wrap_u8]
      have : n % 256 = n := by omega
      rw [this]
      simp
    · have h1 : ¬ (n : Int) < 128 := by omega
      have h2 := ih (n / 128) (by rw [Nat.pow_succ] at h; exact Nat.div_lt_of_lt_mul (by rw [Nat.mul_comm]; exact h)) (by omega)
      rw [num_big hn]
      rw [show recN (fun self d => fNumber_F self d.1) (k + 1 + 1) (((n : Int), ()) : Int × Unit) = fNumber_F (recN (fun self d => fNumber_F self d.1) (k + 1)) (n : Int) from rfl]
      generalize recN (fun self d => fNumber_F self d.1) (k + 1) = G at h2 ⊢
      have e1 : IntKind.u64.wrap (Int.tmod (n : Int) 128 + 128) = ((n % 128 + 128 : Nat) : Int) := by
        rw [rem128, show ((n % 128 : Nat) : Int) + 128 = ((n % 128 + 128 : Nat) : Int) by omega, wrap_u64 (by omega)]
      have e2 : IntKind.u64.wrap (Int.tdiv (n : Int) 128) = ((n / 128 : Nat) : Int) := by rw [quo128, wrap_u64 (by omega)]
      have e3 : (n % 128 + 128) % 256 = n % 128 + 128 := by omega
      have hl := num_len10 (n := n / 128) (by omega)
      unfold fNumber_F
      rw [cond_if, if_neg h1]
      rw [e1, e2]
      rw [h2]
      simp only [Option.bind_some, cond_if, bytesUV, List.map_cons, List.map_nil, wrap_u8, e3]
      rw [if_pos (by simp; omega)]
      simp only [Int.toNat_natCast]
      rfl
/-- The document's number. -/
noncomputable def fNumber_b (n : Int) : Option (List UInt8 × Unit) := if 0 ≤ n ∧ n < 18446744073709551616 then some (num n.toNat, ()) else none
noncomputable def fNumber (n : Int) : Option (List UInt8 × Unit) := stuck (fNumber_b n)
theorem fNumber_un (n : Int) : fNumber n = fNumber_b n := stuck_eq _
theorem fNumber_ok : FnOk Try.prog 44 fNumber_g fun d => fNumber d.1 := by
  refine FnOk.of fNumber_rec fun d r h => ?_
  obtain ⟨n, u⟩ := d
  simp only [fNumber_un, fNumber_b] at h
  split at h
  · rename_i hn
    refine ⟨10, ?_⟩
    have := fNumber_num 9 n.toNat (by omega) (by omega)
    rw [show ((n.toNat : Nat) : Int) = n by omega] at this
    rw [← h]
    exact this
  · cases h
noncomputable def fNumber_s : FuncId × Spec := (44, callOf fNumber_g fun d => fNumber d.1)
theorem fNumber_o : SpecOk Try.prog fNumber_s.1 fNumber_s.2 := spec_ok fNumber_ok
def fText_g : Sig := ⟨[.ty (.str)], [], [], [.ty (.str)], [], []⟩
def fText_c : Cuts := ⟨[], [], []⟩
noncomputable def fText_t : List (FuncId × Spec) := [fNumber_s]
noncomputable def fText_b (s : (List UInt8)) : (Option ((List UInt8) × Unit)) := ((fNumber (IntKind.wrap .u64 (↑(List.length s) : Int))).bind fun (x1, _) => (bif decide (List.length x1 + List.length s ≤ 9223372036854775807) then some (x1 ++ s, ()) else none))
noncomputable def fText (s : (List UInt8)) : (Option ((List UInt8) × Unit)) := stuck (fText_b s)
theorem fText_un (s : (List UInt8)) : fText s = fText_b s := stuck_eq _
theorem fText_k : TabOk Try.prog fText_t := .cons fNumber_o (.nil)
theorem fText_eq (d : dens fText_g.inP) : fnU Try.prog (tabU fText_t) fText_c 100 fText_g Try.f45 (Try.f45.body.getD .skip) d = fText_b d.1 := by kernel_rfl
theorem fText_ok : FnOk Try.prog 45 fText_g fun d => fText d.1 := (fn_ok follows named (tabU_ok fText_k) Try.func45 rfl).congr fun d => (fText_eq d).trans (stuck_eq _).symm
noncomputable def fText_s : FuncId × Spec := (45, callOf fText_g fun d => fText d.1)
theorem fText_o : SpecOk Try.prog fText_s.1 fText_s.2 := spec_ok fText_ok
def fReadNumber_g : Sig := ⟨[.ty (.str), .ty (.int .i64)], [], [], [.ty (.int .u64), .ty (.int .i64), .ty (.int .i64)], [], []⟩
def fReadNumber_c : Cuts := ⟨[(0, ⟨[(4, .ty (.int .u64)), (5, .ty (.int .i64)), (6, .ty (.int .i64)), (7, .ty (.int .u64)), (8, .ty (.int .u64)), (9, .ty (.int .i64))], [], [(4, .ty (.int .u64)), (5, .ty (.int .i64)), (6, .ty (.int .i64))], []⟩)], [(10, ⟨[(46, .ty (.bool))], [], [], []⟩)], []⟩
noncomputable def fReadNumber_t : List (FuncId × Spec) := []
noncomputable def fReadNumber_l0 (s : (List UInt8)) (at_ : Int) : (Int × (Int × (Int × (Int × (Int × (Int × Unit)))))) → Option (Rnd (Int × (Int × (Int × (Int × (Int × (Int × Unit)))))) (Int × (Int × (Int × Unit)))) := fun (x1, (x2, (x3, (x4, (x5, (x6, _)))))) => (bif decide ((↑(List.length s) : Int) ≤ x6) then some (.ret (0, (0, (5, ())))) else (bif decide (0 ≤ x6) then ((s[Int.toNat x6]?).bind fun x7 => (two (β := (Bool × Unit)) (γ := Unit) (bif decide (IntKind.wrap .i64 (x6 - at_) = 9) then (bif decide (1 < IntKind.wrap .u64 (↑(UInt8.toNat x7) : Int)) then some (.inl (true, ())) else (bif decide (at_ < x6) then some (.inl (decide (IntKind.wrap .u64 (↑(UInt8.toNat x7) : Int) = 0), ())) else some (.inl (false, ())))) else (bif decide (at_ < x6) then some (.inl (decide (IntKind.wrap .u64 (↑(UInt8.toNat x7) : Int) = 0), ())) else some (.inl (false, ())))) (fun (x9, _) => (bif x9 then some (.ret (0, (0, (3, ())))) else (bif decide (IntKind.wrap .u64 (↑(UInt8.toNat x7) : Int) < 128) then some (.ret (IntKind.wrap .u64 (x4 + IntKind.wrap .u64 (Int.tmod (IntKind.wrap .u64 (↑(UInt8.toNat x7) : Int)) 128 * x5)), (IntKind.wrap .i64 (x6 + 1), (0, ())))) else some (.next (x1, (x2, (x3, (IntKind.wrap .u64 (x4 + IntKind.wrap .u64 (Int.tmod (IntKind.wrap .u64 (↑(UInt8.toNat x7) : Int)) 128 * x5)), (IntKind.wrap .u64 (x5 * 128), (IntKind.wrap .i64 (x6 + 1), ())))))))))) (fun _ => some (.ret (x1, (x2, (x3, ()))))))) else none))
noncomputable def fReadNumber_b (s : (List UInt8)) (at_ : Int) : (Option (Int × (Int × (Int × Unit)))) := (bif decide (at_ < 0) then some (0, (0, (1, ()))) else (bif decide ((↑(List.length s) : Int) < at_) then some (0, (0, (1, ()))) else (two (β := (Int × (Int × (Int × (Int × (Int × (Int × Unit))))))) (γ := (Int × (Int × (Int × Unit)))) (loop (fReadNumber_l0 s at_) (0, (0, (0, (0, (1, (at_, ()))))))) (fun (x11, (x12, (x13, (x14, (x15, (x16, _)))))) => some (x11, (x12, (x13, ())))) (fun (x17, (x18, (x19, _))) => some (x17, (x18, (x19, ())))))))
noncomputable def fReadNumber (s : (List UInt8)) (at_ : Int) : (Option (Int × (Int × (Int × Unit)))) := stuck (fReadNumber_b s at_)
theorem fReadNumber_un (s : (List UInt8)) (at_ : Int) : fReadNumber s at_ = fReadNumber_b s at_ := stuck_eq _
theorem fReadNumber_k : TabOk Try.prog fReadNumber_t := .nil
theorem fReadNumber_eq (d : dens fReadNumber_g.inP) : fnU Try.prog (tabU fReadNumber_t) fReadNumber_c 100 fReadNumber_g Try.f85 (Try.f85.body.getD .skip) d = fReadNumber_b d.1 d.2.1 := by kernel_rfl
theorem fReadNumber_ok : FnOk Try.prog 85 fReadNumber_g fun d => fReadNumber d.1 d.2.1 := (fn_ok follows named (tabU_ok fReadNumber_k) Try.func85 rfl).congr fun d => (fReadNumber_eq d).trans (stuck_eq _).symm
noncomputable def fReadNumber_s : FuncId × Spec := (85, callOf fReadNumber_g fun d => fReadNumber d.1 d.2.1)
theorem fReadNumber_o : SpecOk Try.prog fReadNumber_s.1 fReadNumber_s.2 := spec_ok fReadNumber_ok
def fReadText_g : Sig := ⟨[.ty (.str), .ty (.int .i64)], [], [], [.ty (.str), .ty (.int .i64), .ty (.int .i64)], [], []⟩
def fReadText_c : Cuts := ⟨[], [], []⟩
noncomputable def fReadText_t : List (FuncId × Spec) := [fReadNumber_s]
noncomputable def fReadText_b (s : (List UInt8)) (at_ : Int) : (Option ((List UInt8) × (Int × (Int × Unit)))) := ((fReadNumber s at_).bind fun (x1, (x2, (x3, _))) => (bif !decide (x3 = 0) then some ([], (0, (x3, ()))) else (bif decide (IntKind.wrap .u64 (↑(List.length s) : Int) < x1) then some ([], (0, (5, ()))) else (bif decide (IntKind.wrap .i64 ((↑(List.length s) : Int) - x2) < IntKind.wrap .i64 x1) then some ([], (0, (5, ()))) else (bif within (List.length s) (Option.some x2) (Option.some (IntKind.wrap .i64 (x2 + IntKind.wrap .i64 x1))) then some (cut s (Option.some x2) (Option.some (IntKind.wrap .i64 (x2 + IntKind.wrap .i64 x1))), (IntKind.wrap .i64 (x2 + IntKind.wrap .i64 x1), (0, ()))) else none)))))
noncomputable def fReadText (s : (List UInt8)) (at_ : Int) : (Option ((List UInt8) × (Int × (Int × Unit)))) := stuck (fReadText_b s at_)
theorem fReadText_un (s : (List UInt8)) (at_ : Int) : fReadText s at_ = fReadText_b s at_ := stuck_eq _
theorem fReadText_k : TabOk Try.prog fReadText_t := .cons fReadNumber_o (.nil)
theorem fReadText_eq (d : dens fReadText_g.inP) : fnU Try.prog (tabU fReadText_t) fReadText_c 100 fReadText_g Try.f86 (Try.f86.body.getD .skip) d = fReadText_b d.1 d.2.1 := by kernel_rfl
theorem fReadText_ok : FnOk Try.prog 86 fReadText_g fun d => fReadText d.1 d.2.1 := (fn_ok follows named (tabU_ok fReadText_k) Try.func86 rfl).congr fun d => (fReadText_eq d).trans (stuck_eq _).symm
noncomputable def fReadText_s : FuncId × Spec := (86, callOf fReadText_g fun d => fReadText d.1 d.2.1)
theorem fReadText_o : SpecOk Try.prog fReadText_s.1 fReadText_s.2 := spec_ok fReadText_ok
def fRdNumber_g : Sig := ⟨[.ty (.cons (.str) (.cons (.int .i64) (.int .i64))), .ty (.int .u64)], [], [], [.ty (.cons (.str) (.cons (.int .i64) (.int .i64))), .ty (.int .u64)], [], []⟩
def fRdNumber_c : Cuts := ⟨[], [], []⟩
noncomputable def fRdNumber_t : List (FuncId × Spec) := [fReadNumber_s]
noncomputable def fRdNumber_b (r_S : (List UInt8)) (r_At : Int) (r_E : Int) (most : Int) : (Option (((List UInt8) × (Int × Int)) × (Int × Unit))) := (bif !decide (r_E = 0) then some ((r_S, (r_At, r_E)), (0, ())) else ((fReadNumber r_S r_At).bind fun (x1, (x2, (x3, _))) => (bif !decide (x3 = 0) then some ((r_S, (r_At, x3)), (0, ())) else (bif decide (most < x1) then some ((r_S, (r_At, 2)), (0, ())) else some ((r_S, (x2, r_E)), (x1, ()))))))
noncomputable def fRdNumber (r_S : (List UInt8)) (r_At : Int) (r_E : Int) (most : Int) : (Option (((List UInt8) × (Int × Int)) × (Int × Unit))) := stuck (fRdNumber_b r_S r_At r_E most)
theorem fRdNumber_un (r_S : (List UInt8)) (r_At : Int) (r_E : Int) (most : Int) : fRdNumber r_S r_At r_E most = fRdNumber_b r_S r_At r_E most := stuck_eq _
theorem fRdNumber_k : TabOk Try.prog fRdNumber_t := .cons fReadNumber_o (.nil)
theorem fRdNumber_eq (d : dens fRdNumber_g.inP) : fnU Try.prog (tabU fRdNumber_t) fRdNumber_c 100 fRdNumber_g Try.f84 (Try.f84.body.getD .skip) d = fRdNumber_b d.1.1 d.1.2.1 d.1.2.2 d.2.1 := by kernel_rfl
theorem fRdNumber_ok : FnOk Try.prog 84 fRdNumber_g fun d => fRdNumber d.1.1 d.1.2.1 d.1.2.2 d.2.1 := (fn_ok follows named (tabU_ok fRdNumber_k) Try.func84 rfl).congr fun d => (fRdNumber_eq d).trans (stuck_eq _).symm
noncomputable def fRdNumber_s : FuncId × Spec := (84, callOf fRdNumber_g fun d => fRdNumber d.1.1 d.1.2.1 d.1.2.2 d.2.1)
theorem fRdNumber_o : SpecOk Try.prog fRdNumber_s.1 fRdNumber_s.2 := spec_ok fRdNumber_ok
def fRdInt_g : Sig := ⟨[.ty (.cons (.str) (.cons (.int .i64) (.int .i64))), .ty (.int .i64)], [], [], [.ty (.cons (.str) (.cons (.int .i64) (.int .i64))), .ty (.int .i64)], [], []⟩
def fRdInt_c : Cuts := ⟨[], [], []⟩
noncomputable def fRdInt_t : List (FuncId × Spec) := [fRdNumber_s, fReadNumber_s]
noncomputable def fRdInt_b (r_S : (List UInt8)) (r_At : Int) (r_E : Int) (most : Int) : (Option (((List UInt8) × (Int × Int)) × (Int × Unit))) := (bif decide (0 ≤ most) then ((fRdNumber r_S r_At r_E (IntKind.wrap .u64 most)).bind fun ((x4, (x5, x6)), (x7, _)) => some ((x4, (x5, x6)), (IntKind.wrap .i64 x7, ()))) else (bif !decide (r_E = 0) then some ((r_S, (r_At, r_E)), (0, ())) else ((fReadNumber r_S r_At).bind fun (x1, (x2, (x3, _))) => (bif decide (x3 = 0) then some ((r_S, (r_At, 2)), (0, ())) else some ((r_S, (r_At, x3)), (0, ()))))))
noncomputable def fRdInt (r_S : (List UInt8)) (r_At : Int) (r_E : Int) (most : Int) : (Option (((List UInt8) × (Int × Int)) × (Int × Unit))) := stuck (fRdInt_b r_S r_At r_E most)
theorem fRdInt_un (r_S : (List UInt8)) (r_At : Int) (r_E : Int) (most : Int) : fRdInt r_S r_At r_E most = fRdInt_b r_S r_At r_E most := stuck_eq _
theorem fRdInt_k : TabOk Try.prog fRdInt_t := .cons fRdNumber_o (.cons fReadNumber_o (.nil))
theorem fRdInt_eq (d : dens fRdInt_g.inP) : fnU Try.prog (tabU fRdInt_t) fRdInt_c 100 fRdInt_g Try.f51 (Try.f51.body.getD .skip) d = fRdInt_b d.1.1 d.1.2.1 d.1.2.2 d.2.1 := by kernel_rfl
theorem fRdInt_ok : FnOk Try.prog 51 fRdInt_g fun d => fRdInt d.1.1 d.1.2.1 d.1.2.2 d.2.1 := (fn_ok follows named (tabU_ok fRdInt_k) Try.func51 rfl).congr fun d => (fRdInt_eq d).trans (stuck_eq _).symm
noncomputable def fRdInt_s : FuncId × Spec := (51, callOf fRdInt_g fun d => fRdInt d.1.1 d.1.2.1 d.1.2.2 d.2.1)
theorem fRdInt_o : SpecOk Try.prog fRdInt_s.1 fRdInt_s.2 := spec_ok fRdInt_ok
def fRdBool_g : Sig := ⟨[.ty (.cons (.str) (.cons (.int .i64) (.int .i64)))], [], [], [.ty (.cons (.str) (.cons (.int .i64) (.int .i64))), .ty (.bool)], [], []⟩
def fRdBool_c : Cuts := ⟨[], [], []⟩
noncomputable def fRdBool_t : List (FuncId × Spec) := [fRdNumber_s]
noncomputable def fRdBool_b (r_S : (List UInt8)) (r_At : Int) (r_E : Int) : (Option (((List UInt8) × (Int × Int)) × (Bool × Unit))) := (bif !decide (r_E = 0) then some ((r_S, (r_At, r_E)), (false, ())) else ((fRdNumber r_S r_At r_E 1).bind fun ((x1, (x2, x3)), (x4, _)) => (bif decide (x3 = 2) then some ((x1, (x2, 3)), (decide (x4 = 1), ())) else some ((x1, (x2, x3)), (decide (x4 = 1), ())))))
noncomputable def fRdBool (r_S : (List UInt8)) (r_At : Int) (r_E : Int) : (Option (((List UInt8) × (Int × Int)) × (Bool × Unit))) := stuck (fRdBool_b r_S r_At r_E)
theorem fRdBool_un (r_S : (List UInt8)) (r_At : Int) (r_E : Int) : fRdBool r_S r_At r_E = fRdBool_b r_S r_At r_E := stuck_eq _
theorem fRdBool_k : TabOk Try.prog fRdBool_t := .cons fRdNumber_o (.nil)
theorem fRdBool_eq (d : dens fRdBool_g.inP) : fnU Try.prog (tabU fRdBool_t) fRdBool_c 100 fRdBool_g Try.f52 (Try.f52.body.getD .skip) d = fRdBool_b d.1.1 d.1.2.1 d.1.2.2 := by kernel_rfl
theorem fRdBool_ok : FnOk Try.prog 52 fRdBool_g fun d => fRdBool d.1.1 d.1.2.1 d.1.2.2 := (fn_ok follows named (tabU_ok fRdBool_k) Try.func52 rfl).congr fun d => (fRdBool_eq d).trans (stuck_eq _).symm
noncomputable def fRdBool_s : FuncId × Spec := (52, callOf fRdBool_g fun d => fRdBool d.1.1 d.1.2.1 d.1.2.2)
theorem fRdBool_o : SpecOk Try.prog fRdBool_s.1 fRdBool_s.2 := spec_ok fRdBool_ok
def fRdText_g : Sig := ⟨[.ty (.cons (.str) (.cons (.int .i64) (.int .i64))), .ty (.int .i64)], [], [], [.ty (.cons (.str) (.cons (.int .i64) (.int .i64))), .ty (.str)], [], []⟩
def fRdText_c : Cuts := ⟨[], [], []⟩
noncomputable def fRdText_t : List (FuncId × Spec) := [fReadText_s]
noncomputable def fRdText_b (r_S : (List UInt8)) (r_At : Int) (r_E : Int) (most : Int) : (Option (((List UInt8) × (Int × Int)) × ((List UInt8) × Unit))) := (bif !decide (r_E = 0) then some ((r_S, (r_At, r_E)), ([], ())) else ((fReadText r_S r_At).bind fun (x1, (x2, (x3, _))) => (bif !decide (x3 = 0) then some ((r_S, (r_At, x3)), ([], ())) else (bif decide (most < (↑(List.length x1) : Int)) then some ((r_S, (r_At, 2)), ([], ())) else some ((r_S, (x2, r_E)), (x1, ()))))))
noncomputable def fRdText (r_S : (List UInt8)) (r_At : Int) (r_E : Int) (most : Int) : (Option (((List UInt8) × (Int × Int)) × ((List UInt8) × Unit))) := stuck (fRdText_b r_S r_At r_E most)
theorem fRdText_un (r_S : (List UInt8)) (r_At : Int) (r_E : Int) (most : Int) : fRdText r_S r_At r_E most = fRdText_b r_S r_At r_E most := stuck_eq _
theorem fRdText_k : TabOk Try.prog fRdText_t := .cons fReadText_o (.nil)
theorem fRdText_eq (d : dens fRdText_g.inP) : fnU Try.prog (tabU fRdText_t) fRdText_c 100 fRdText_g Try.f53 (Try.f53.body.getD .skip) d = fRdText_b d.1.1 d.1.2.1 d.1.2.2 d.2.1 := by kernel_rfl
theorem fRdText_ok : FnOk Try.prog 53 fRdText_g fun d => fRdText d.1.1 d.1.2.1 d.1.2.2 d.2.1 := (fn_ok follows named (tabU_ok fRdText_k) Try.func53 rfl).congr fun d => (fRdText_eq d).trans (stuck_eq _).symm
noncomputable def fRdText_s : FuncId × Spec := (53, callOf fRdText_g fun d => fRdText d.1.1 d.1.2.1 d.1.2.2 d.2.1)
theorem fRdText_o : SpecOk Try.prog fRdText_s.1 fRdText_s.2 := spec_ok fRdText_ok
def fRdEnd_g : Sig := ⟨[.ty (.cons (.str) (.cons (.int .i64) (.int .i64)))], [], [], [.ty (.cons (.str) (.cons (.int .i64) (.int .i64)))], [], []⟩
def fRdEnd_c : Cuts := ⟨[], [], []⟩
noncomputable def fRdEnd_t : List (FuncId × Spec) := []
noncomputable def fRdEnd_b (r_S : (List UInt8)) (r_At : Int) (r_E : Int) : (Option (((List UInt8) × (Int × Int)) × Unit)) := (bif decide (r_E = 0) then (bif decide (r_At < (↑(List.length r_S) : Int)) then some ((r_S, (r_At, 2)), ()) else some ((r_S, (r_At, r_E)), ())) else some ((r_S, (r_At, r_E)), ()))
noncomputable def fRdEnd (r_S : (List UInt8)) (r_At : Int) (r_E : Int) : (Option (((List UInt8) × (Int × Int)) × Unit)) := stuck (fRdEnd_b r_S r_At r_E)
theorem fRdEnd_un (r_S : (List UInt8)) (r_At : Int) (r_E : Int) : fRdEnd r_S r_At r_E = fRdEnd_b r_S r_At r_E := stuck_eq _
theorem fRdEnd_k : TabOk Try.prog fRdEnd_t := .nil
theorem fRdEnd_eq (d : dens fRdEnd_g.inP) : fnU Try.prog (tabU fRdEnd_t) fRdEnd_c 100 fRdEnd_g Try.f54 (Try.f54.body.getD .skip) d = fRdEnd_b d.1.1 d.1.2.1 d.1.2.2 := by kernel_rfl
theorem fRdEnd_ok : FnOk Try.prog 54 fRdEnd_g fun d => fRdEnd d.1.1 d.1.2.1 d.1.2.2 := (fn_ok follows named (tabU_ok fRdEnd_k) Try.func54 rfl).congr fun d => (fRdEnd_eq d).trans (stuck_eq _).symm
noncomputable def fRdEnd_s : FuncId × Spec := (54, callOf fRdEnd_g fun d => fRdEnd d.1.1 d.1.2.1 d.1.2.2)
theorem fRdEnd_o : SpecOk Try.prog fRdEnd_s.1 fRdEnd_s.2 := spec_ok fRdEnd_ok
end Go.Proofs.Ytbnfooeeopmpiaa.TV
