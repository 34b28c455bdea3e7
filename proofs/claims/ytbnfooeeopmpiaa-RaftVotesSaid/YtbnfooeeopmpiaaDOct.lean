/-
  OCTET: numbers and texts, printed.
-/
import Derived.Test.YtbnfooeeopmpiaaDXp
import Derived.Test.YtbnfooeeopmpiaaBase
namespace Go.Proofs.Ytbnfooeeopmpiaa.TV
open Go Go.RowKit
set_option linter.unusedVariables false
set_option maxRecDepth 1000000
def oNumber_g : Sig := ⟨[.ty (.int .u64)], [], [], [.ty (.str)], [], []⟩
def oNumber_c : Cuts := ⟨[(0, ⟨[(0, .ty (.int .u64)), (3, .gsl (.int .u8) 5)], [], [], []⟩)], [], []⟩
noncomputable def oNumber_t : List (FuncId × Spec) := []
noncomputable def oNumber_l0 : (Int × ((List Int) × Unit)) → Option (Rnd (Int × ((List Int) × Unit)) Unit) := fun (x1, (x2, _)) => (bif decide (128 ≤ x1) then (bif decide ((List.length x2 + List.length [IntKind.wrap .u8 (↑(BitVec.toNat (BitVec.ofInt 8 (IntKind.wrap .u8 x1) ||| BitVec.ofInt 8 128)) : Int)]) * 1 ≤ 140737488355328) then some (.next (Int.fdiv x1 128, (x2 ++ [IntKind.wrap .u8 (↑(BitVec.toNat (BitVec.ofInt 8 (IntKind.wrap .u8 x1) ||| BitVec.ofInt 8 128)) : Int)], ()))) else none) else some (.out (x1, (x2, ()))))
noncomputable def oNumber_b (n : Int) : (Option ((List UInt8) × Unit)) := (two (β := (Int × ((List Int) × Unit))) (γ := Unit) (loop oNumber_l0 (n, ([], ()))) (fun (x4, (x5, _)) => (bif decide ((List.length x5 + List.length [IntKind.wrap .u8 x4]) * 1 ≤ 140737488355328) then some (bytesUV (x5 ++ [IntKind.wrap .u8 x4]), ()) else none)) (fun _ => some ([], ())))
noncomputable def oNumber (n : Int) : (Option ((List UInt8) × Unit)) := stuck (oNumber_b n)
theorem oNumber_un (n : Int) : oNumber n = oNumber_b n := stuck_eq _
theorem oNumber_k : TabOk Try.prog oNumber_t := .nil
theorem oNumber_eq (d : dens oNumber_g.inP) : fnU Try.prog (tabU oNumber_t) oNumber_c 100 oNumber_g Try.f41 (Try.f41.body.getD .skip) d = oNumber_b d.1 := by kernel_rfl
theorem oNumber_ok : FnOk Try.prog 41 oNumber_g fun d => oNumber d.1 := (fn_ok follows named (tabU_ok oNumber_k) Try.func41 rfl).congr fun d => (oNumber_eq d).trans (stuck_eq _).symm
noncomputable def oNumber_s : FuncId × Spec := (41, callOf oNumber_g fun d => oNumber d.1)
theorem oNumber_o : SpecOk Try.prog oNumber_s.1 oNumber_s.2 := spec_ok oNumber_ok
def oText_g : Sig := ⟨[.ty (.str)], [], [], [.ty (.str)], [], []⟩
def oText_c : Cuts := ⟨[], [], []⟩
noncomputable def oText_t : List (FuncId × Spec) := [oNumber_s]
noncomputable def oText_b (s : (List UInt8)) : (Option ((List UInt8) × Unit)) := ((oNumber (IntKind.wrap .u64 (↑(List.length s) : Int))).bind fun (x1, _) => (bif decide (List.length x1 + List.length s ≤ 9223372036854775807) then some (x1 ++ s, ()) else none))
noncomputable def oText (s : (List UInt8)) : (Option ((List UInt8) × Unit)) := stuck (oText_b s)
theorem oText_un (s : (List UInt8)) : oText s = oText_b s := stuck_eq _
theorem oText_k : TabOk Try.prog oText_t := .cons oNumber_o (.nil)
theorem oText_eq (d : dens oText_g.inP) : fnU Try.prog (tabU oText_t) oText_c 100 oText_g Try.f42 (Try.f42.body.getD .skip) d = oText_b d.1 := by kernel_rfl
theorem oText_ok : FnOk Try.prog 42 oText_g fun d => oText d.1 := (fn_ok follows named (tabU_ok oText_k) Try.func42 rfl).congr fun d => (oText_eq d).trans (stuck_eq _).symm
noncomputable def oText_s : FuncId × Spec := (42, callOf oText_g fun d => oText d.1)
theorem oText_o : SpecOk Try.prog oText_s.1 oText_s.2 := spec_ok oText_ok
def oReadNumber_g : Sig := ⟨[.ty (.str), .ty (.int .i64)], [], [], [.ty (.int .u64), .ty (.int .i64), .ty (.int .i64)], [], []⟩
def oReadNumber_c : Cuts := ⟨[(0, ⟨[(7, .ty (.int .u64)), (18, .ty (.int .i64))], [], [(4, .ty (.int .u64)), (5, .ty (.int .i64)), (6, .ty (.int .i64))], []⟩)], [(10, ⟨[(45, .ty (.bool))], [], [], []⟩)], []⟩
noncomputable def oReadNumber_t : List (FuncId × Spec) := []
noncomputable def oReadNumber_l0 (s : (List UInt8)) (at_ : Int) : (Int × (Int × Unit)) → Option (Rnd (Int × (Int × Unit)) (Int × (Int × (Int × Unit)))) := fun (x1, (x2, _)) => (bif decide (x2 < 10) then (bif decide ((↑(List.length s) : Int) ≤ IntKind.wrap .i64 (at_ + x2)) then some (.ret (0, (0, (5, ())))) else (bif decide (0 ≤ IntKind.wrap .i64 (at_ + x2)) then ((s[Int.toNat (IntKind.wrap .i64 (at_ + x2))]?).bind fun x3 => (two (β := (Bool × Unit)) (γ := Unit) (bif decide (x2 = 9) then (bif decide (1 < (↑(UInt8.toNat x3) : Int)) then some (.inl (true, ())) else (bif decide (0 < x2) then some (.inl (decide ((↑(UInt8.toNat x3) : Int) = 0), ())) else some (.inl (false, ())))) else (bif decide (0 < x2) then some (.inl (decide ((↑(UInt8.toNat x3) : Int) = 0), ())) else some (.inl (false, ())))) (fun (x5, _) => (bif x5 then some (.ret (0, (0, (3, ())))) else (bif decide (IntKind.wrap .i64 (7 * x2) < 0) then none else (bif decide ((↑(UInt8.toNat x3) : Int) < 128) then some (.ret (IntKind.wrap .u64 (↑(BitVec.toNat (BitVec.ofInt 64 x1 ||| BitVec.ofInt 64 (IntKind.wrap .u64 (IntKind.wrap .u64 (IntKind.wrap .u8 (↑(BitVec.toNat (BitVec.ofInt 8 (↑(UInt8.toNat x3) : Int) &&& BitVec.ofInt 8 127)) : Int)) * 2 ^ Min.min (Int.toNat (IntKind.wrap .i64 (7 * x2))) 64)))) : Int), (IntKind.wrap .i64 (IntKind.wrap .i64 (at_ + x2) + 1), (0, ())))) else some (.next (IntKind.wrap .u64 (↑(BitVec.toNat (BitVec.ofInt 64 x1 ||| BitVec.ofInt 64 (IntKind.wrap .u64 (IntKind.wrap .u64 (IntKind.wrap .u8 (↑(BitVec.toNat (BitVec.ofInt 8 (↑(UInt8.toNat x3) : Int) &&& BitVec.ofInt 8 127)) : Int)) * 2 ^ Min.min (Int.toNat (IntKind.wrap .i64 (7 * x2))) 64)))) : Int), (IntKind.wrap .i64 (x2 + 1), ()))))))) (fun _ => none))) else none)) else some (.out (x1, (x2, ()))))
noncomputable def oReadNumber_b (s : (List UInt8)) (at_ : Int) : (Option (Int × (Int × (Int × Unit)))) := (bif decide (at_ < 0) then some (0, (0, (1, ()))) else (bif decide ((↑(List.length s) : Int) < at_) then some (0, (0, (1, ()))) else (two (β := (Int × (Int × Unit))) (γ := (Int × (Int × (Int × Unit)))) (loop (oReadNumber_l0 s at_) (0, (0, ()))) (fun (x7, (x8, _)) => some (0, (0, (3, ())))) (fun (x9, (x10, (x11, _))) => some (x9, (x10, (x11, ())))))))
noncomputable def oReadNumber (s : (List UInt8)) (at_ : Int) : (Option (Int × (Int × (Int × Unit)))) := stuck (oReadNumber_b s at_)
theorem oReadNumber_un (s : (List UInt8)) (at_ : Int) : oReadNumber s at_ = oReadNumber_b s at_ := stuck_eq _
theorem oReadNumber_k : TabOk Try.prog oReadNumber_t := .nil
theorem oReadNumber_eq (d : dens oReadNumber_g.inP) : fnU Try.prog (tabU oReadNumber_t) oReadNumber_c 100 oReadNumber_g Try.f81 (Try.f81.body.getD .skip) d = oReadNumber_b d.1 d.2.1 := by kernel_rfl
theorem oReadNumber_ok : FnOk Try.prog 81 oReadNumber_g fun d => oReadNumber d.1 d.2.1 := (fn_ok follows named (tabU_ok oReadNumber_k) Try.func81 rfl).congr fun d => (oReadNumber_eq d).trans (stuck_eq _).symm
noncomputable def oReadNumber_s : FuncId × Spec := (81, callOf oReadNumber_g fun d => oReadNumber d.1 d.2.1)
theorem oReadNumber_o : SpecOk Try.prog oReadNumber_s.1 oReadNumber_s.2 := spec_ok oReadNumber_ok
def oReadText_g : Sig := ⟨[.ty (.str), .ty (.int .i64)], [], [], [.ty (.str), .ty (.int .i64), .ty (.int .i64)], [], []⟩
def oReadText_c : Cuts := ⟨[], [], []⟩
noncomputable def oReadText_t : List (FuncId × Spec) := [oReadNumber_s]
noncomputable def oReadText_b (s : (List UInt8)) (at_ : Int) : (Option ((List UInt8) × (Int × (Int × Unit)))) := ((oReadNumber s at_).bind fun (x1, (x2, (x3, _))) => (bif !decide (x3 = 0) then some ([], (0, (x3, ()))) else (bif decide (IntKind.wrap .u64 (IntKind.wrap .i64 ((↑(List.length s) : Int) - x2)) < x1) then some ([], (0, (5, ()))) else (bif within (List.length s) (Option.some x2) (Option.some (IntKind.wrap .i64 (x2 + IntKind.wrap .i64 x1))) then some (cut s (Option.some x2) (Option.some (IntKind.wrap .i64 (x2 + IntKind.wrap .i64 x1))), (IntKind.wrap .i64 (x2 + IntKind.wrap .i64 x1), (0, ()))) else none))))
noncomputable def oReadText (s : (List UInt8)) (at_ : Int) : (Option ((List UInt8) × (Int × (Int × Unit)))) := stuck (oReadText_b s at_)
theorem oReadText_un (s : (List UInt8)) (at_ : Int) : oReadText s at_ = oReadText_b s at_ := stuck_eq _
theorem oReadText_k : TabOk Try.prog oReadText_t := .cons oReadNumber_o (.nil)
theorem oReadText_eq (d : dens oReadText_g.inP) : fnU Try.prog (tabU oReadText_t) oReadText_c 100 oReadText_g Try.f83 (Try.f83.body.getD .skip) d = oReadText_b d.1 d.2.1 := by kernel_rfl
theorem oReadText_ok : FnOk Try.prog 83 oReadText_g fun d => oReadText d.1 d.2.1 := (fn_ok follows named (tabU_ok oReadText_k) Try.func83 rfl).congr fun d => (oReadText_eq d).trans (stuck_eq _).symm
noncomputable def oReadText_s : FuncId × Spec := (83, callOf oReadText_g fun d => oReadText d.1 d.2.1)
theorem oReadText_o : SpecOk Try.prog oReadText_s.1 oReadText_s.2 := spec_ok oReadText_ok
def oNewReader_g : Sig := ⟨[.ty (.str)], [], [], [.ptr 0], [([.ty (.str), .ty (.int .i64), .ty (.int .i64)], 138)], [.val 0]⟩
def oNewReader_c : Cuts := ⟨[], [], []⟩
noncomputable def oNewReader_t : List (FuncId × Spec) := []
noncomputable def oNewReader_b (s : (List UInt8)) : (Option (Unit × ((List UInt8) × (Int × (Int × Unit))))) := some ((), (s, (0, (0, ()))))
noncomputable def oNewReader (s : (List UInt8)) : (Option (Unit × ((List UInt8) × (Int × (Int × Unit))))) := stuck (oNewReader_b s)
theorem oNewReader_un (s : (List UInt8)) : oNewReader s = oNewReader_b s := stuck_eq _
theorem oNewReader_k : TabOk Try.prog oNewReader_t := .nil
theorem oNewReader_eq (d : dens oNewReader_g.inP) : fnU Try.prog (tabU oNewReader_t) oNewReader_c 100 oNewReader_g Try.f46 (Try.f46.body.getD .skip) d = oNewReader_b d.1 := by kernel_rfl
theorem oNewReader_ok : FnOk Try.prog 46 oNewReader_g fun d => oNewReader d.1 := (fn_ok follows named (tabU_ok oNewReader_k) Try.func46 rfl).congr fun d => (oNewReader_eq d).trans (stuck_eq _).symm
noncomputable def oNewReader_s : FuncId × Spec := (46, callOf oNewReader_g fun d => oNewReader d.1)
theorem oNewReader_o : SpecOk Try.prog oNewReader_s.1 oNewReader_s.2 := spec_ok oNewReader_ok
def oErr_g : Sig := ⟨[.ptr 0], [([.ign, .ign, .ro (.ty (.int .i64))], 138)], [.val 0], [.ty (.int .i64)], [], []⟩
def oErr_c : Cuts := ⟨[], [], []⟩
noncomputable def oErr_t : List (FuncId × Spec) := []
noncomputable def oErr_b (e : Int) : (Option (Int × Unit)) := some (e, ())
noncomputable def oErr (e : Int) : (Option (Int × Unit)) := stuck (oErr_b e)
theorem oErr_un (e : Int) : oErr e = oErr_b e := stuck_eq _
theorem oErr_k : TabOk Try.prog oErr_t := .nil
theorem oErr_eq (d : dens oErr_g.inP) : fnU Try.prog (tabU oErr_t) oErr_c 100 oErr_g Try.f80 (Try.f80.body.getD .skip) d = oErr_b d.2.2.2.1 := by kernel_rfl
theorem oErr_ok : FnOk Try.prog 80 oErr_g fun d => oErr d.2.2.2.1 := (fn_ok follows named (tabU_ok oErr_k) Try.func80 rfl).congr fun d => (oErr_eq d).trans (stuck_eq _).symm
noncomputable def oErr_s : FuncId × Spec := (80, callOf oErr_g fun d => oErr d.2.2.2.1)
theorem oErr_o : SpecOk Try.prog oErr_s.1 oErr_s.2 := spec_ok oErr_ok
def oRdNumber_g : Sig := ⟨[.ptr 0, .ty (.int .u64)], [([.ro (.ty (.str)), .rw (.ty (.int .i64)) (.ty (.int .i64)), .rw (.ty (.int .i64)) (.ty (.int .i64))], 138)], [.val 0], [.ty (.int .u64)], [], []⟩
def oRdNumber_c : Cuts := ⟨[], [], []⟩
noncomputable def oRdNumber_t : List (FuncId × Spec) := [oErr_s, oReadNumber_s]
noncomputable def oRdNumber_b (most : Int) (s : (List UInt8)) (at_ : Int) (e : Int) : (Option (Int × (Int × (Int × Unit)))) := ((oErr e).bind fun (x1, _) => (bif !decide (x1 = 0) then some (0, (at_, (e, ()))) else ((oReadNumber s at_).bind fun (x2, (x3, (x4, _))) => (bif decide (x4 = 0) then (bif decide (most < x2) then some (0, (at_, (2, ()))) else (bif !decide (x4 = 0) then some (0, (at_, (x4, ()))) else some (x2, (x3, (e, ()))))) else (bif !decide (x4 = 0) then some (0, (at_, (x4, ()))) else some (x2, (x3, (e, ()))))))))
noncomputable def oRdNumber (most : Int) (s : (List UInt8)) (at_ : Int) (e : Int) : (Option (Int × (Int × (Int × Unit)))) := stuck (oRdNumber_b most s at_ e)
theorem oRdNumber_un (most : Int) (s : (List UInt8)) (at_ : Int) (e : Int) : oRdNumber most s at_ e = oRdNumber_b most s at_ e := stuck_eq _
theorem oRdNumber_k : TabOk Try.prog oRdNumber_t := .cons oErr_o (.cons oReadNumber_o (.nil))
theorem oRdNumber_eq (d : dens oRdNumber_g.inP) : fnU Try.prog (tabU oRdNumber_t) oRdNumber_c 100 oRdNumber_g Try.f82 (Try.f82.body.getD .skip) d = oRdNumber_b d.2.1 d.2.2.1 d.2.2.2.1 d.2.2.2.2.1 := by kernel_rfl
theorem oRdNumber_ok : FnOk Try.prog 82 oRdNumber_g fun d => oRdNumber d.2.1 d.2.2.1 d.2.2.2.1 d.2.2.2.2.1 := (fn_ok follows named (tabU_ok oRdNumber_k) Try.func82 rfl).congr fun d => (oRdNumber_eq d).trans (stuck_eq _).symm
noncomputable def oRdNumber_s : FuncId × Spec := (82, callOf oRdNumber_g fun d => oRdNumber d.2.1 d.2.2.1 d.2.2.2.1 d.2.2.2.2.1)
theorem oRdNumber_o : SpecOk Try.prog oRdNumber_s.1 oRdNumber_s.2 := spec_ok oRdNumber_ok
def oRdInt_g : Sig := ⟨[.ptr 0, .ty (.int .i64)], [([.ro (.ty (.str)), .rw (.ty (.int .i64)) (.ty (.int .i64)), .rw (.ty (.int .i64)) (.ty (.int .i64))], 138)], [.val 0], [.ty (.int .i64)], [], []⟩
def oRdInt_c : Cuts := ⟨[], [], []⟩
noncomputable def oRdInt_t : List (FuncId × Spec) := [oErr_s, oReadNumber_s, oRdNumber_s]
noncomputable def oRdInt_b (most : Int) (s : (List UInt8)) (at_ : Int) (e : Int) : (Option (Int × (Int × (Int × Unit)))) := (bif decide (most < 0) then ((oErr e).bind fun (x4, _) => (bif decide (x4 = 0) then ((oReadNumber s at_).bind fun (x5, (x6, (x7, _))) => (bif decide (x7 = 0) then some (0, (at_, (2, ()))) else some (0, (at_, (x7, ()))))) else some (0, (at_, (e, ()))))) else ((oRdNumber (IntKind.wrap .u64 most) s at_ e).bind fun (x1, (x2, (x3, _))) => some (IntKind.wrap .i64 x1, (x2, (x3, ())))))
noncomputable def oRdInt (most : Int) (s : (List UInt8)) (at_ : Int) (e : Int) : (Option (Int × (Int × (Int × Unit)))) := stuck (oRdInt_b most s at_ e)
theorem oRdInt_un (most : Int) (s : (List UInt8)) (at_ : Int) (e : Int) : oRdInt most s at_ e = oRdInt_b most s at_ e := stuck_eq _
theorem oRdInt_k : TabOk Try.prog oRdInt_t := .cons oErr_o (.cons oReadNumber_o (.cons oRdNumber_o (.nil)))
theorem oRdInt_eq (d : dens oRdInt_g.inP) : fnU Try.prog (tabU oRdInt_t) oRdInt_c 100 oRdInt_g Try.f47 (Try.f47.body.getD .skip) d = oRdInt_b d.2.1 d.2.2.1 d.2.2.2.1 d.2.2.2.2.1 := by kernel_rfl
theorem oRdInt_ok : FnOk Try.prog 47 oRdInt_g fun d => oRdInt d.2.1 d.2.2.1 d.2.2.2.1 d.2.2.2.2.1 := (fn_ok follows named (tabU_ok oRdInt_k) Try.func47 rfl).congr fun d => (oRdInt_eq d).trans (stuck_eq _).symm
noncomputable def oRdInt_s : FuncId × Spec := (47, callOf oRdInt_g fun d => oRdInt d.2.1 d.2.2.1 d.2.2.2.1 d.2.2.2.2.1)
theorem oRdInt_o : SpecOk Try.prog oRdInt_s.1 oRdInt_s.2 := spec_ok oRdInt_ok
def oRdBool_g : Sig := ⟨[.ptr 0], [([.ro (.ty (.str)), .rw (.ty (.int .i64)) (.ty (.int .i64)), .rw (.ty (.int .i64)) (.ty (.int .i64))], 138)], [.val 0], [.ty (.bool)], [], []⟩
def oRdBool_c : Cuts := ⟨[], [], []⟩
noncomputable def oRdBool_t : List (FuncId × Spec) := [oErr_s, oRdNumber_s]
noncomputable def oRdBool_b (s : (List UInt8)) (at_ : Int) (e : Int) : (Option (Bool × (Int × (Int × Unit)))) := ((oErr e).bind fun (x1, _) => (bif !decide (x1 = 0) then some (false, (at_, (e, ()))) else ((oRdNumber 1 s at_ e).bind fun (x2, (x3, (x4, _))) => (bif decide (x4 = 2) then some (decide (x2 = 1), (x3, (3, ()))) else some (decide (x2 = 1), (x3, (x4, ())))))))
noncomputable def oRdBool (s : (List UInt8)) (at_ : Int) (e : Int) : (Option (Bool × (Int × (Int × Unit)))) := stuck (oRdBool_b s at_ e)
theorem oRdBool_un (s : (List UInt8)) (at_ : Int) (e : Int) : oRdBool s at_ e = oRdBool_b s at_ e := stuck_eq _
theorem oRdBool_k : TabOk Try.prog oRdBool_t := .cons oErr_o (.cons oRdNumber_o (.nil))
theorem oRdBool_eq (d : dens oRdBool_g.inP) : fnU Try.prog (tabU oRdBool_t) oRdBool_c 100 oRdBool_g Try.f48 (Try.f48.body.getD .skip) d = oRdBool_b d.2.1 d.2.2.1 d.2.2.2.1 := by kernel_rfl
theorem oRdBool_ok : FnOk Try.prog 48 oRdBool_g fun d => oRdBool d.2.1 d.2.2.1 d.2.2.2.1 := (fn_ok follows named (tabU_ok oRdBool_k) Try.func48 rfl).congr fun d => (oRdBool_eq d).trans (stuck_eq _).symm
noncomputable def oRdBool_s : FuncId × Spec := (48, callOf oRdBool_g fun d => oRdBool d.2.1 d.2.2.1 d.2.2.2.1)
theorem oRdBool_o : SpecOk Try.prog oRdBool_s.1 oRdBool_s.2 := spec_ok oRdBool_ok
def oRdText_g : Sig := ⟨[.ptr 0, .ty (.int .i64)], [([.ro (.ty (.str)), .rw (.ty (.int .i64)) (.ty (.int .i64)), .rw (.ty (.int .i64)) (.ty (.int .i64))], 138)], [.val 0], [.ty (.str)], [], []⟩
def oRdText_c : Cuts := ⟨[], [], []⟩
noncomputable def oRdText_t : List (FuncId × Spec) := [oErr_s, oReadText_s]
noncomputable def oRdText_b (most : Int) (s : (List UInt8)) (at_ : Int) (e : Int) : (Option ((List UInt8) × (Int × (Int × Unit)))) := ((oErr e).bind fun (x1, _) => (bif !decide (x1 = 0) then some ([], (at_, (e, ()))) else ((oReadText s at_).bind fun (x2, (x3, (x4, _))) => (bif decide (x4 = 0) then (bif decide (most < (↑(List.length x2) : Int)) then some ([], (at_, (2, ()))) else (bif !decide (x4 = 0) then some ([], (at_, (x4, ()))) else some (x2, (x3, (e, ()))))) else (bif !decide (x4 = 0) then some ([], (at_, (x4, ()))) else some (x2, (x3, (e, ()))))))))
noncomputable def oRdText (most : Int) (s : (List UInt8)) (at_ : Int) (e : Int) : (Option ((List UInt8) × (Int × (Int × Unit)))) := stuck (oRdText_b most s at_ e)
theorem oRdText_un (most : Int) (s : (List UInt8)) (at_ : Int) (e : Int) : oRdText most s at_ e = oRdText_b most s at_ e := stuck_eq _
theorem oRdText_k : TabOk Try.prog oRdText_t := .cons oErr_o (.cons oReadText_o (.nil))
theorem oRdText_eq (d : dens oRdText_g.inP) : fnU Try.prog (tabU oRdText_t) oRdText_c 100 oRdText_g Try.f49 (Try.f49.body.getD .skip) d = oRdText_b d.2.1 d.2.2.1 d.2.2.2.1 d.2.2.2.2.1 := by kernel_rfl
theorem oRdText_ok : FnOk Try.prog 49 oRdText_g fun d => oRdText d.2.1 d.2.2.1 d.2.2.2.1 d.2.2.2.2.1 := (fn_ok follows named (tabU_ok oRdText_k) Try.func49 rfl).congr fun d => (oRdText_eq d).trans (stuck_eq _).symm
noncomputable def oRdText_s : FuncId × Spec := (49, callOf oRdText_g fun d => oRdText d.2.1 d.2.2.1 d.2.2.2.1 d.2.2.2.2.1)
theorem oRdText_o : SpecOk Try.prog oRdText_s.1 oRdText_s.2 := spec_ok oRdText_ok
def oRdEnd_g : Sig := ⟨[.ptr 0], [([.ro (.ty (.str)), .ro (.ty (.int .i64)), .rw (.ty (.int .i64)) (.ty (.int .i64))], 138)], [.val 0], [.ty (.int .i64)], [], []⟩
def oRdEnd_c : Cuts := ⟨[], [], []⟩
noncomputable def oRdEnd_t : List (FuncId × Spec) := [oErr_s]
noncomputable def oRdEnd_b (s : (List UInt8)) (at_ : Int) (e : Int) : (Option (Int × (Int × Unit))) := ((oErr e).bind fun (x1, _) => (bif decide (x1 = 0) then (bif decide (at_ < (↑(List.length s) : Int)) then ((oErr 2).bind fun (x4, _) => some (x4, (2, ()))) else ((oErr e).bind fun (x3, _) => some (x3, (e, ())))) else ((oErr e).bind fun (x2, _) => some (x2, (e, ())))))
noncomputable def oRdEnd (s : (List UInt8)) (at_ : Int) (e : Int) : (Option (Int × (Int × Unit))) := stuck (oRdEnd_b s at_ e)
theorem oRdEnd_un (s : (List UInt8)) (at_ : Int) (e : Int) : oRdEnd s at_ e = oRdEnd_b s at_ e := stuck_eq _
theorem oRdEnd_k : TabOk Try.prog oRdEnd_t := .cons oErr_o (.nil)
theorem oRdEnd_eq (d : dens oRdEnd_g.inP) : fnU Try.prog (tabU oRdEnd_t) oRdEnd_c 100 oRdEnd_g Try.f50 (Try.f50.body.getD .skip) d = oRdEnd_b d.2.1 d.2.2.1 d.2.2.2.1 := by kernel_rfl
theorem oRdEnd_ok : FnOk Try.prog 50 oRdEnd_g fun d => oRdEnd d.2.1 d.2.2.1 d.2.2.2.1 := (fn_ok follows named (tabU_ok oRdEnd_k) Try.func50 rfl).congr fun d => (oRdEnd_eq d).trans (stuck_eq _).symm
noncomputable def oRdEnd_s : FuncId × Spec := (50, callOf oRdEnd_g fun d => oRdEnd d.2.1 d.2.2.1 d.2.2.2.1)
theorem oRdEnd_o : SpecOk Try.prog oRdEnd_s.1 oRdEnd_s.2 := spec_ok oRdEnd_ok
end Go.Proofs.Ytbnfooeeopmpiaa.TV
