/-
  WAL: cutting, laying entries, mending, opening, printed. (7 texts, one behind the other)
-/
import Derived.Test.YthnhbejjikgifaaGreatDoorM12
import Derived.Test.YthnhbejjikgifaaGreatDoorM11
import Derived.Test.YthnhbejjikgifaaGreatDoorM09
import Derived.Test.YthnhbejjikgifaaGreatDoorM04
import Derived.Test.YthnhbejjikgifaaGreatDoorRows
import Derived.Test.YthnhbejjikgifaaGreatDoorTie
import Derived.Test.YthnhbejjikgifaaGreatDoorCards
import Derived.LaidMore
import Derived.OpenShut
import Derived.Stop.Joined
import Derived.Stop.JoinedAt
import Derived.Stop.LaidErr
import Derived.SevenTiedAt
import Derived.Plain9
import Derived.Lay

namespace Go.Proofs.YthnhbejjikgifaaGreatDoor.TV
open Go Go.RowKit
set_option linter.unusedVariables false
set_option maxRecDepth 1000000
def wCutAll_g : Sig := ⟨[.ptr 0, .ty (.int .i64)], [([.ro (.ptr 1), .ign, .ign, .rw (.olst (.cons (.int .i64) (.cons (.int .i64) (.cons (.int .i64) (.cons (.slice (.cons (.int .i64) (.cons (.int .i64) (.str)))) (.slice (.int .i64)))))) 86) (.olst (.cons (.int .i64) (.cons (.int .i64) (.cons (.int .i64) (.cons (.slice (.cons (.int .i64) (.cons (.int .i64) (.str)))) (.slice (.int .i64)))))) 86), .ign], 73), ([.rw (.omap (.str)) (.omap (.str)), .rw (.omap (.str)) (.omap (.str)), .rw (.gsl (.cons (.int .i64) (.cons (.str) (.cons (.str) (.cons (.str) (.int .i64))))) 92) (.gsl (.cons (.int .i64) (.cons (.str) (.cons (.str) (.cons (.str) (.int .i64))))) 92), .rw (.ty (.int .i64)) (.ty (.int .i64)), .rw (.ty (.bool)) (.ty (.bool)), .rw (.ty (.slice (.cons (.int .i64) (.cons (.int .i64) (.int .i64))))) (.ty (.slice (.cons (.int .i64) (.cons (.int .i64) (.int .i64))))), .ro (.lit (.int .i64 (-1)))], 70)], [.val 0, .cell 0 0], [.ty (.int .i64)], [], []⟩
def wCutAll_c : Cuts := ⟨[], [], []⟩
noncomputable def wCutAll_t : List (FuncId × Spec) := [wName_s, dRemove_s, wLong_s, dCut_s]
noncomputable def wCutAll_b (at_ : Int) (segs : (List (Int × (Int × (Int × ((List (Int × (Int × (List UInt8)))) × (List Int))))))) (sure : (List ((List UInt8) × (List UInt8)))) (now : (List ((List UInt8) × (List UInt8)))) (wait : (List (Int × ((List UInt8) × ((List UInt8) × ((List UInt8) × Int)))))) (count : Int) (down : Bool) (falls : (List (Int × (Int × Int)))) : (Option (Int × ((List (Int × (Int × (Int × ((List (Int × (Int × (List UInt8)))) × (List Int)))))) × ((List ((List UInt8) × (List UInt8))) × ((List ((List UInt8) × (List UInt8))) × ((List (Int × ((List UInt8) × ((List UInt8) × ((List UInt8) × Int))))) × (Int × (Bool × ((List (Int × (Int × Int))) × Unit))))))))) := (bif decide (0 < IntKind.wrap .i64 ((↑(List.length segs) : Int) - 1)) then (bif decide (0 ≤ IntKind.wrap .i64 ((↑(List.length segs) : Int) - 1)) then (bif decide (IntKind.wrap .i64 ((↑(List.length segs) : Int) - 1) < (↑(List.length segs) : Int)) then ((segs[Int.toNat (IntKind.wrap .i64 ((↑(List.length segs) : Int) - 1))]?).bind fun (x50, (x51, (x52, (x53, x54)))) => (bif decide (IntKind.wrap .i64 (at_ - 1) ≤ x51) then (bif decide (0 ≤ IntKind.wrap .i64 ((↑(List.length segs) : Int) - 1)) then (bif decide (IntKind.wrap .i64 ((↑(List.length segs) : Int) - 1) < (↑(List.length segs) : Int)) then ((segs[Int.toNat (IntKind.wrap .i64 ((↑(List.length segs) : Int) - 1))]?).bind fun (x104, (x105, (x106, (x107, x108)))) => ((wName x104).bind fun (x109, _) => ((dRemove x109 sure now wait count down falls).bind fun (x110, (x111, (x112, (x113, (x114, (x115, (x116, _))))))) => (bif !decide (x110 = 0) then some (x110, (segs, (x111, (x112, (x113, (x114, (x115, (x116, ())))))))) else none)))) else none) else none) else (bif decide (0 ≤ IntKind.wrap .i64 ((↑(List.length segs) : Int) - 1)) then (bif decide (IntKind.wrap .i64 ((↑(List.length segs) : Int) - 1) < (↑(List.length segs) : Int)) then ((segs[Int.toNat (IntKind.wrap .i64 ((↑(List.length segs) : Int) - 1))]?).bind fun (x55, (x56, (x57, (x58, x59)))) => ((segs[Int.toNat (IntKind.wrap .i64 ((↑(List.length segs) : Int) - 1))]?).bind fun (x60, (x61, (x62, (x63, x64)))) => (bif decide (IntKind.wrap .i64 (IntKind.wrap .i64 (at_ - 1) - x56) < (↑(List.length x63) : Int)) then ((segs[Int.toNat (IntKind.wrap .i64 ((↑(List.length segs) : Int) - 1))]?).bind fun (x65, (x66, (x67, (x68, x69)))) => (bif within (List.length x68) Option.none (Option.some (IntKind.wrap .i64 (IntKind.wrap .i64 (at_ - 1) - x56))) then (bif decide (IntKind.wrap .i64 (IntKind.wrap .i64 (at_ - 1) - x56) ≤ IntKind.wrap .i64 (IntKind.wrap .i64 (at_ - 1) - x56) ∧ IntKind.wrap .i64 (IntKind.wrap .i64 (at_ - 1) - x56) ≤ (↑(List.length x68) : Int)) then ((segs[Int.toNat (IntKind.wrap .i64 ((↑(List.length segs) : Int) - 1))]?).bind fun (x70, (x71, (x72, (x73, x74)))) => (bif within (List.length x74) Option.none (Option.some (IntKind.wrap .i64 (IntKind.wrap .i64 (at_ - 1) - x56))) then (bif decide (IntKind.wrap .i64 (IntKind.wrap .i64 (at_ - 1) - x56) ≤ IntKind.wrap .i64 (IntKind.wrap .i64 (at_ - 1) - x56) ∧ IntKind.wrap .i64 (IntKind.wrap .i64 (at_ - 1) - x56) ≤ (↑(List.length x74) : Int)) then ((segs[Int.toNat (IntKind.wrap .i64 ((↑(List.length segs) : Int) - 1))]?).bind fun (x75, (x76, (x77, (x78, x79)))) => (((List.set segs (Int.toNat (IntKind.wrap .i64 ((↑(List.length segs) : Int) - 1))) (x75, x76, x77, cut x68 Option.none (Option.some (IntKind.wrap .i64 (IntKind.wrap .i64 (at_ - 1) - x56))), x79))[Int.toNat (IntKind.wrap .i64 ((↑(List.length segs) : Int) - 1))]?).bind fun (x80, (x81, (x82, (x83, x84)))) => (((List.set (List.set segs (Int.toNat (IntKind.wrap .i64 ((↑(List.length segs) : Int) - 1))) (x75, x76, x77, cut x68 Option.none (Option.some (IntKind.wrap .i64 (IntKind.wrap .i64 (at_ - 1) - x56))), x79)) (Int.toNat (IntKind.wrap .i64 ((↑(List.length segs) : Int) - 1))) (x80, x81, x82, x83, cut x74 Option.none (Option.some (IntKind.wrap .i64 (IntKind.wrap .i64 (at_ - 1) - x56)))))[Int.toNat (IntKind.wrap .i64 ((↑(List.length segs) : Int) - 1))]?).bind fun (x85, (x86, (x87, (x88, x89)))) => ((wName x85).bind fun (x90, _) => (((List.set (List.set segs (Int.toNat (IntKind.wrap .i64 ((↑(List.length segs) : Int) - 1))) (x75, x76, x77, cut x68 Option.none (Option.some (IntKind.wrap .i64 (IntKind.wrap .i64 (at_ - 1) - x56))), x79)) (Int.toNat (IntKind.wrap .i64 ((↑(List.length segs) : Int) - 1))) (x80, x81, x82, x83, cut x74 Option.none (Option.some (IntKind.wrap .i64 (IntKind.wrap .i64 (at_ - 1) - x56)))))[Int.toNat (IntKind.wrap .i64 ((↑(List.length segs) : Int) - 1))]?).bind fun (x91, (x92, (x93, (x94, x95)))) => ((wLong x91 x92 x93 x94 x95).bind fun (x96, _) => ((dCut x90 x96 sure now wait count down falls).bind fun (x97, (x98, (x99, (x100, (x101, (x102, (x103, _))))))) => some (x97, (List.set (List.set segs (Int.toNat (IntKind.wrap .i64 ((↑(List.length segs) : Int) - 1))) (x75, x76, x77, cut x68 Option.none (Option.some (IntKind.wrap .i64 (IntKind.wrap .i64 (at_ - 1) - x56))), x79)) (Int.toNat (IntKind.wrap .i64 ((↑(List.length segs) : Int) - 1))) (x80, x81, x82, x83, cut x74 Option.none (Option.some (IntKind.wrap .i64 (IntKind.wrap .i64 (at_ - 1) - x56)))), (x98, (x99, (x100, (x101, (x102, (x103, ()))))))))))))))) else none) else none)) else none) else none)) else some (0, (segs, (sure, (now, (wait, (count, (down, (falls, ()))))))))))) else none) else none))) else none) else none) else (bif decide (0 ≤ IntKind.wrap .i64 ((↑(List.length segs) : Int) - 1)) then (bif decide (IntKind.wrap .i64 ((↑(List.length segs) : Int) - 1) < (↑(List.length segs) : Int)) then ((segs[Int.toNat (IntKind.wrap .i64 ((↑(List.length segs) : Int) - 1))]?).bind fun (x1, (x2, (x3, (x4, x5)))) => ((segs[Int.toNat (IntKind.wrap .i64 ((↑(List.length segs) : Int) - 1))]?).bind fun (x6, (x7, (x8, (x9, x10)))) => (bif decide (IntKind.wrap .i64 (IntKind.wrap .i64 (at_ - 1) - x2) < (↑(List.length x9) : Int)) then ((segs[Int.toNat (IntKind.wrap .i64 ((↑(List.length segs) : Int) - 1))]?).bind fun (x11, (x12, (x13, (x14, x15)))) => (bif within (List.length x14) Option.none (Option.some (IntKind.wrap .i64 (IntKind.wrap .i64 (at_ - 1) - x2))) then (bif decide (IntKind.wrap .i64 (IntKind.wrap .i64 (at_ - 1) - x2) ≤ IntKind.wrap .i64 (IntKind.wrap .i64 (at_ - 1) - x2) ∧ IntKind.wrap .i64 (IntKind.wrap .i64 (at_ - 1) - x2) ≤ (↑(List.length x14) : Int)) then ((segs[Int.toNat (IntKind.wrap .i64 ((↑(List.length segs) : Int) - 1))]?).bind fun (x16, (x17, (x18, (x19, x20)))) => (bif within (List.length x20) Option.none (Option.some (IntKind.wrap .i64 (IntKind.wrap .i64 (at_ - 1) - x2))) then (bif decide (IntKind.wrap .i64 (IntKind.wrap .i64 (at_ - 1) - x2) ≤ IntKind.wrap .i64 (IntKind.wrap .i64 (at_ - 1) - x2) ∧ IntKind.wrap .i64 (IntKind.wrap .i64 (at_ - 1) - x2) ≤ (↑(List.length x20) : Int)) then ((segs[Int.toNat (IntKind.wrap .i64 ((↑(List.length segs) : Int) - 1))]?).bind fun (x21, (x22, (x23, (x24, x25)))) => (((List.set segs (Int.toNat (IntKind.wrap .i64 ((↑(List.length segs) : Int) - 1))) (x21, x22, x23, cut x14 Option.none (Option.some (IntKind.wrap .i64 (IntKind.wrap .i64 (at_ - 1) - x2))), x25))[Int.toNat (IntKind.wrap .i64 ((↑(List.length segs) : Int) - 1))]?).bind fun (x26, (x27, (x28, (x29, x30)))) => (((List.set (List.set segs (Int.toNat (IntKind.wrap .i64 ((↑(List.length segs) : Int) - 1))) (x21, x22, x23, cut x14 Option.none (Option.some (IntKind.wrap .i64 (IntKind.wrap .i64 (at_ - 1) - x2))), x25)) (Int.toNat (IntKind.wrap .i64 ((↑(List.length segs) : Int) - 1))) (x26, x27, x28, x29, cut x20 Option.none (Option.some (IntKind.wrap .i64 (IntKind.wrap .i64 (at_ - 1) - x2)))))[Int.toNat (IntKind.wrap .i64 ((↑(List.length segs) : Int) - 1))]?).bind fun (x31, (x32, (x33, (x34, x35)))) => ((wName x31).bind fun (x36, _) => (((List.set (List.set segs (Int.toNat (IntKind.wrap .i64 ((↑(List.length segs) : Int) - 1))) (x21, x22, x23, cut x14 Option.none (Option.some (IntKind.wrap .i64 (IntKind.wrap .i64 (at_ - 1) - x2))), x25)) (Int.toNat (IntKind.wrap .i64 ((↑(List.length segs) : Int) - 1))) (x26, x27, x28, x29, cut x20 Option.none (Option.some (IntKind.wrap .i64 (IntKind.wrap .i64 (at_ - 1) - x2)))))[Int.toNat (IntKind.wrap .i64 ((↑(List.length segs) : Int) - 1))]?).bind fun (x37, (x38, (x39, (x40, x41)))) => ((wLong x37 x38 x39 x40 x41).bind fun (x42, _) => ((dCut x36 x42 sure now wait count down falls).bind fun (x43, (x44, (x45, (x46, (x47, (x48, (x49, _))))))) => some (x43, (List.set (List.set segs (Int.toNat (IntKind.wrap .i64 ((↑(List.length segs) : Int) - 1))) (x21, x22, x23, cut x14 Option.none (Option.some (IntKind.wrap .i64 (IntKind.wrap .i64 (at_ - 1) - x2))), x25)) (Int.toNat (IntKind.wrap .i64 ((↑(List.length segs) : Int) - 1))) (x26, x27, x28, x29, cut x20 Option.none (Option.some (IntKind.wrap .i64 (IntKind.wrap .i64 (at_ - 1) - x2)))), (x44, (x45, (x46, (x47, (x48, (x49, ()))))))))))))))) else none) else none)) else none) else none)) else some (0, (segs, (sure, (now, (wait, (count, (down, (falls, ()))))))))))) else none) else none))
noncomputable def wCutAll (at_ : Int) (segs : (List (Int × (Int × (Int × ((List (Int × (Int × (List UInt8)))) × (List Int))))))) (sure : (List ((List UInt8) × (List UInt8)))) (now : (List ((List UInt8) × (List UInt8)))) (wait : (List (Int × ((List UInt8) × ((List UInt8) × ((List UInt8) × Int)))))) (count : Int) (down : Bool) (falls : (List (Int × (Int × Int)))) : (Option (Int × ((List (Int × (Int × (Int × ((List (Int × (Int × (List UInt8)))) × (List Int)))))) × ((List ((List UInt8) × (List UInt8))) × ((List ((List UInt8) × (List UInt8))) × ((List (Int × ((List UInt8) × ((List UInt8) × ((List UInt8) × Int))))) × (Int × (Bool × ((List (Int × (Int × Int))) × Unit))))))))) := stuck (wCutAll_b at_ segs sure now wait count down falls)
theorem wCutAll_un (at_ : Int) (segs : (List (Int × (Int × (Int × ((List (Int × (Int × (List UInt8)))) × (List Int))))))) (sure : (List ((List UInt8) × (List UInt8)))) (now : (List ((List UInt8) × (List UInt8)))) (wait : (List (Int × ((List UInt8) × ((List UInt8) × ((List UInt8) × Int)))))) (count : Int) (down : Bool) (falls : (List (Int × (Int × Int)))) : wCutAll at_ segs sure now wait count down falls = wCutAll_b at_ segs sure now wait count down falls := stuck_eq _
theorem wCutAll_k : TabOk Tryz.prog wCutAll_t := .cons wName_o (.cons dRemove_o (.cons wLong_o (.cons dCut_o (.nil))))
theorem wCutAll_eq (d : dens wCutAll_g.inP) : fnU Tryz.prog (tabU wCutAll_t) wCutAll_c 3 wCutAll_g Tryz.f42 (Tryz.f42.body.getD .skip) d = wCutAll_b d.2.1 d.2.2.2.2.2.1 d.2.2.2.2.2.2.2.1 d.2.2.2.2.2.2.2.2.1 d.2.2.2.2.2.2.2.2.2.1 d.2.2.2.2.2.2.2.2.2.2.1 d.2.2.2.2.2.2.2.2.2.2.2.1 d.2.2.2.2.2.2.2.2.2.2.2.2.1 := by kernel_rfl
theorem wCutAll_ok : FnOk Tryz.prog 42 wCutAll_g fun d => wCutAll d.2.1 d.2.2.2.2.2.1 d.2.2.2.2.2.2.2.1 d.2.2.2.2.2.2.2.2.1 d.2.2.2.2.2.2.2.2.2.1 d.2.2.2.2.2.2.2.2.2.2.1 d.2.2.2.2.2.2.2.2.2.2.2.1 d.2.2.2.2.2.2.2.2.2.2.2.2.1 := (fn_ok follows named (tabU_ok wCutAll_k) Tryz.func42 rfl).congr fun d => (wCutAll_eq d).trans (stuck_eq _).symm
noncomputable def wCutAll_s : FuncId × Spec := (42, callOf wCutAll_g fun d => wCutAll d.2.1 d.2.2.2.2.2.1 d.2.2.2.2.2.2.2.1 d.2.2.2.2.2.2.2.2.1 d.2.2.2.2.2.2.2.2.2.1 d.2.2.2.2.2.2.2.2.2.2.1 d.2.2.2.2.2.2.2.2.2.2.2.1 d.2.2.2.2.2.2.2.2.2.2.2.2.1)
theorem wCutAll_o : SpecOk Tryz.prog wCutAll_s.1 wCutAll_s.2 := spec_ok wCutAll_ok
def wAppend_g : Sig := ⟨[.ptr 0, .ty (.int .i64), .ty (.slice (.cons (.int .i64) (.cons (.int .i64) (.str))))], [([.ro (.ptr 1), .ign, .ign, .rw (.olst (.cons (.int .i64) (.cons (.int .i64) (.cons (.int .i64) (.cons (.slice (.cons (.int .i64) (.cons (.int .i64) (.str)))) (.slice (.int .i64)))))) 86) (.olst (.cons (.int .i64) (.cons (.int .i64) (.cons (.int .i64) (.cons (.slice (.cons (.int .i64) (.cons (.int .i64) (.str)))) (.slice (.int .i64)))))) 86), .rw (.ty (.bool)) (.ty (.bool))], 73), ([.rw (.omap (.str)) (.omap (.str)), .rw (.omap (.str)) (.omap (.str)), .rw (.gsl (.cons (.int .i64) (.cons (.str) (.cons (.str) (.cons (.str) (.int .i64))))) 92) (.gsl (.cons (.int .i64) (.cons (.str) (.cons (.str) (.cons (.str) (.int .i64))))) 92), .rw (.ty (.int .i64)) (.ty (.int .i64)), .rw (.ty (.bool)) (.ty (.bool)), .rw (.ty (.slice (.cons (.int .i64) (.cons (.int .i64) (.int .i64))))) (.ty (.slice (.cons (.int .i64) (.cons (.int .i64) (.int .i64))))), .ro (.lit (.int .i64 (-1)))], 70)], [.val 0, .cell 0 0], [.ty (.int .i64)], [], []⟩
def wAppend_c : Cuts := ⟨[(0, ⟨[(43, .ty (.int .i64))], [], [(6, .ty (.int .i64))], []⟩)], [(11, ⟨[(64, .ty (.bool))], [], [], []⟩)], []⟩
noncomputable def wAppend_t : List (FuncId × Spec) := [wAsk_s, wBase_s, wEnd_s, wCutAll_s, wLayAll_s, wTold_s, dSync_s]
noncomputable def wAppend_l0 (es : (List (Int × (Int × (List UInt8))))) : (Int × Unit) → Option (Rnd (Int × Unit) (Int × Unit)) := fun (x8, _) => (bif decide (x8 < (↑(List.length es) : Int)) then (bif decide (0 ≤ x8) then ((es[Int.toNat x8]?).bind fun (x9, (x10, x11)) => (two (β := (Bool × Unit)) (γ := Unit) (bif decide (x9 < 0) then some (.inl (true, ())) else (bif decide (1099511627776 < x9) then some (.inl (true, ())) else (bif decide (x10 < 0) then some (.inl (true, ())) else some (.inl (decide (255 < x10), ()))))) (fun (x13, _) => (bif x13 then some (.ret (1, ())) else (bif decide (65536 < (↑(List.length x11) : Int)) then some (.ret (2, ())) else some (.next (IntKind.wrap .i64 (x8 + 1), ()))))) (fun _ => none))) else none) else some (.out (x8, ())))
noncomputable def wAppend_b (at_ : Int) (es : (List (Int × (Int × (List UInt8))))) (segs : (List (Int × (Int × (Int × ((List (Int × (Int × (List UInt8)))) × (List Int))))))) (lost : Bool) (sure : (List ((List UInt8) × (List UInt8)))) (now : (List ((List UInt8) × (List UInt8)))) (wait : (List (Int × ((List UInt8) × ((List UInt8) × ((List UInt8) × Int)))))) (count : Int) (down : Bool) (falls : (List (Int × (Int × Int)))) : (Option (Int × ((List (Int × (Int × (Int × ((List (Int × (Int × (List UInt8)))) × (List Int)))))) × (Bool × ((List ((List UInt8) × (List UInt8))) × ((List ((List UInt8) × (List UInt8))) × ((List (Int × ((List UInt8) × ((List UInt8) × ((List UInt8) × Int))))) × (Int × (Bool × ((List (Int × (Int × Int))) × Unit)))))))))) := ((wAsk lost).bind fun (x1, _) => (bif !decide (x1 = 0) then some (x1, (segs, (lost, (sure, (now, (wait, (count, (down, (falls, ()))))))))) else ((wBase segs).bind fun (x2, (x3, (x4, _))) => ((wEnd x4).bind fun (x5, (x6, (x7, _))) => (bif decide (at_ ≤ x2) then some (30, (x7, (lost, (sure, (now, (wait, (count, (down, (falls, ()))))))))) else (bif decide (IntKind.wrap .i64 (x5 + 1) < at_) then some (30, (x7, (lost, (sure, (now, (wait, (count, (down, (falls, ()))))))))) else (two (β := (Int × Unit)) (γ := (Int × Unit)) (loop (wAppend_l0 es) (0, ())) (fun (x15, _) => ((wCutAll at_ x7 sure now wait count down falls).bind fun (x16, (x17, (x18, (x19, (x20, (x21, (x22, (x23, _)))))))) => (bif decide (x16 = 0) then ((wLayAll es x17 x18 x19 x20 x21 x22 x23).bind fun (x48, (x49, (x50, (x51, (x52, (x53, (x54, (x55, _)))))))) => (bif decide (x48 = 22) then ((wCutAll at_ x49 x50 x51 x52 x53 x54 x55).bind fun (x64, (x65, (x66, (x67, (x68, (x69, (x70, (x71, _)))))))) => (bif !decide (x64 = 0) then ((wTold x64 lost).bind fun (x78, (x79, _)) => some (x78, (x65, (x79, (x66, (x67, (x68, (x69, (x70, (x71, ())))))))))) else ((dSync x66 x67 x68 x70).bind fun (x72, (x73, (x74, (x75, _)))) => (bif !decide (x72 = 0) then ((wTold x72 lost).bind fun (x76, (x77, _)) => some (x76, (x65, (x77, (x73, (x74, (x75, (x69, (x70, (x71, ())))))))))) else some (22, (x65, (lost, (x73, (x74, (x75, (x69, (x70, (x71, ()))))))))))))) else (bif decide (x48 = 0) then ((dSync x50 x51 x52 x54).bind fun (x58, (x59, (x60, (x61, _)))) => ((wTold x58 lost).bind fun (x62, (x63, _)) => some (x62, (x49, (x63, (x59, (x60, (x61, (x53, (x54, (x55, ()))))))))))) else ((wTold x48 lost).bind fun (x56, (x57, _)) => some (x56, (x49, (x57, (x50, (x51, (x52, (x53, (x54, (x55, ()))))))))))))) else (bif decide (x16 = 22) then ((wCutAll at_ x17 x18 x19 x20 x21 x22 x23).bind fun (x32, (x33, (x34, (x35, (x36, (x37, (x38, (x39, _)))))))) => (bif !decide (x32 = 0) then ((wTold x32 lost).bind fun (x46, (x47, _)) => some (x46, (x33, (x47, (x34, (x35, (x36, (x37, (x38, (x39, ())))))))))) else ((dSync x34 x35 x36 x38).bind fun (x40, (x41, (x42, (x43, _)))) => (bif !decide (x40 = 0) then ((wTold x40 lost).bind fun (x44, (x45, _)) => some (x44, (x33, (x45, (x41, (x42, (x43, (x37, (x38, (x39, ())))))))))) else some (22, (x33, (lost, (x41, (x42, (x43, (x37, (x38, (x39, ()))))))))))))) else (bif decide (x16 = 0) then ((dSync x18 x19 x20 x22).bind fun (x26, (x27, (x28, (x29, _)))) => ((wTold x26 lost).bind fun (x30, (x31, _)) => some (x30, (x17, (x31, (x27, (x28, (x29, (x21, (x22, (x23, ()))))))))))) else ((wTold x16 lost).bind fun (x24, (x25, _)) => some (x24, (x17, (x25, (x18, (x19, (x20, (x21, (x22, (x23, ()))))))))))))))) (fun (x80, _) => some (x80, (x7, (lost, (sure, (now, (wait, (count, (down, (falls, ())))))))))))))))))
noncomputable def wAppend (at_ : Int) (es : (List (Int × (Int × (List UInt8))))) (segs : (List (Int × (Int × (Int × ((List (Int × (Int × (List UInt8)))) × (List Int))))))) (lost : Bool) (sure : (List ((List UInt8) × (List UInt8)))) (now : (List ((List UInt8) × (List UInt8)))) (wait : (List (Int × ((List UInt8) × ((List UInt8) × ((List UInt8) × Int)))))) (count : Int) (down : Bool) (falls : (List (Int × (Int × Int)))) : (Option (Int × ((List (Int × (Int × (Int × ((List (Int × (Int × (List UInt8)))) × (List Int)))))) × (Bool × ((List ((List UInt8) × (List UInt8))) × ((List ((List UInt8) × (List UInt8))) × ((List (Int × ((List UInt8) × ((List UInt8) × ((List UInt8) × Int))))) × (Int × (Bool × ((List (Int × (Int × Int))) × Unit)))))))))) := stuck (wAppend_b at_ es segs lost sure now wait count down falls)
theorem wAppend_un (at_ : Int) (es : (List (Int × (Int × (List UInt8))))) (segs : (List (Int × (Int × (Int × ((List (Int × (Int × (List UInt8)))) × (List Int))))))) (lost : Bool) (sure : (List ((List UInt8) × (List UInt8)))) (now : (List ((List UInt8) × (List UInt8)))) (wait : (List (Int × ((List UInt8) × ((List UInt8) × ((List UInt8) × Int)))))) (count : Int) (down : Bool) (falls : (List (Int × (Int × Int)))) : wAppend at_ es segs lost sure now wait count down falls = wAppend_b at_ es segs lost sure now wait count down falls := stuck_eq _
theorem wAppend_k : TabOk Tryz.prog wAppend_t := .cons wAsk_o (.cons wBase_o (.cons wEnd_o (.cons wCutAll_o (.cons wLayAll_o (.cons wTold_o (.cons dSync_o (.nil)))))))
theorem wAppend_eq (d : dens wAppend_g.inP) : fnU Tryz.prog (tabU wAppend_t) wAppend_c 100 wAppend_g Tryz.f13 (Tryz.f13.body.getD .skip) d = wAppend_b d.2.1 d.2.2.1 d.2.2.2.2.2.2.1 d.2.2.2.2.2.2.2.1 d.2.2.2.2.2.2.2.2.1 d.2.2.2.2.2.2.2.2.2.1 d.2.2.2.2.2.2.2.2.2.2.1 d.2.2.2.2.2.2.2.2.2.2.2.1 d.2.2.2.2.2.2.2.2.2.2.2.2.1 d.2.2.2.2.2.2.2.2.2.2.2.2.2.1 := by kernel_rfl
theorem wAppend_ok : FnOk Tryz.prog 13 wAppend_g fun d => wAppend d.2.1 d.2.2.1 d.2.2.2.2.2.2.1 d.2.2.2.2.2.2.2.1 d.2.2.2.2.2.2.2.2.1 d.2.2.2.2.2.2.2.2.2.1 d.2.2.2.2.2.2.2.2.2.2.1 d.2.2.2.2.2.2.2.2.2.2.2.1 d.2.2.2.2.2.2.2.2.2.2.2.2.1 d.2.2.2.2.2.2.2.2.2.2.2.2.2.1 := (fn_ok follows named (tabU_ok wAppend_k) Tryz.func13 rfl).congr fun d => (wAppend_eq d).trans (stuck_eq _).symm
noncomputable def wAppend_s : FuncId × Spec := (13, callOf wAppend_g fun d => wAppend d.2.1 d.2.2.1 d.2.2.2.2.2.2.1 d.2.2.2.2.2.2.2.1 d.2.2.2.2.2.2.2.2.1 d.2.2.2.2.2.2.2.2.2.1 d.2.2.2.2.2.2.2.2.2.2.1 d.2.2.2.2.2.2.2.2.2.2.2.1 d.2.2.2.2.2.2.2.2.2.2.2.2.1 d.2.2.2.2.2.2.2.2.2.2.2.2.2.1)
theorem wAppend_o : SpecOk Tryz.prog wAppend_s.1 wAppend_s.2 := spec_ok wAppend_ok
def wMend1_c : Cuts := ⟨[], [], []⟩
noncomputable def wMend1_t : List (FuncId × Spec) := [dRemove_s]
theorem wMend1_k : TabOk Tryz.prog wMend1_t := .cons dRemove_o (.nil)
noncomputable def wMend1_s : FuncId × Spec := (80, inlU Tryz.prog (tabU wMend1_t) wMend1_c 100 Tryz.f80 (Tryz.f80.body.getD .skip))
theorem wMend1_o : SpecOk Tryz.prog wMend1_s.1 wMend1_s.2 := inl_ok follows named (tabU_ok wMend1_k) Tryz.func80 rfl
def wMend2_c : Cuts := ⟨[], [], []⟩
noncomputable def wMend2_t : List (FuncId × Spec) := [wName_s, dRemove_s]
theorem wMend2_k : TabOk Tryz.prog wMend2_t := .cons wName_o (.cons dRemove_o (.nil))
noncomputable def wMend2_s : FuncId × Spec := (82, inlU Tryz.prog (tabU wMend2_t) wMend2_c 100 Tryz.f82 (Tryz.f82.body.getD .skip))
theorem wMend2_o : SpecOk Tryz.prog wMend2_s.1 wMend2_s.2 := inl_ok follows named (tabU_ok wMend2_k) Tryz.func82 rfl
def wMend3_c : Cuts := ⟨[], [], []⟩
noncomputable def wMend3_t : List (FuncId × Spec) := [wName_s, wBase0_s, dWrite_s]
theorem wMend3_k : TabOk Tryz.prog wMend3_t := .cons wName_o (.cons wBase0_o (.cons dWrite_o (.nil)))
noncomputable def wMend3_s : FuncId × Spec := (83, inlU Tryz.prog (tabU wMend3_t) wMend3_c 100 Tryz.f83 (Tryz.f83.body.getD .skip))
theorem wMend3_o : SpecOk Tryz.prog wMend3_s.1 wMend3_s.2 := inl_ok follows named (tabU_ok wMend3_k) Tryz.func83 rfl
def wMend4_c : Cuts := ⟨[], [], []⟩
noncomputable def wMend4_t : List (FuncId × Spec) := [wName_s, wLong_s, dCut_s]
theorem wMend4_k : TabOk Tryz.prog wMend4_t := .cons wName_o (.cons wLong_o (.cons dCut_o (.nil)))
noncomputable def wMend4_s : FuncId × Spec := (85, inlU Tryz.prog (tabU wMend4_t) wMend4_c 100 Tryz.f85 (Tryz.f85.body.getD .skip))
theorem wMend4_o : SpecOk Tryz.prog wMend4_s.1 wMend4_s.2 := inl_ok follows named (tabU_ok wMend4_k) Tryz.func85 rfl
def wMend_c : Cuts := ⟨[], [], [(25, ⟨[(7, .lit (.slice none 0 0))], [], [], []⟩)]⟩
noncomputable def wMend_t : List (FuncId × Spec) := [dRead_s, dSync_s, wMend1_s, wMend2_s, wMend3_s, wMend4_s]
theorem wMend_k : TabOk Tryz.prog wMend_t := .cons dRead_o (.cons dSync_o (.cons wMend1_o (.cons wMend2_o (.cons wMend3_o (.cons wMend4_o (.nil))))))
noncomputable def wMend_s : FuncId × Spec := (35, inlU Tryz.prog (tabU wMend_t) wMend_c 4 Tryz.f35 (Tryz.f35.body.getD .skip))
theorem wMend_o : SpecOk Tryz.prog wMend_s.1 wMend_s.2 := inl_ok follows named (tabU_ok wMend_k) Tryz.func35 rfl
def wOpen_g : Sig := ⟨[.ptr 0], [([.rw (.omap (.str)) (.omap (.str)), .rw (.omap (.str)) (.omap (.str)), .rw (.gsl (.cons (.int .i64) (.cons (.str) (.cons (.str) (.cons (.str) (.int .i64))))) 92) (.gsl (.cons (.int .i64) (.cons (.str) (.cons (.str) (.cons (.str) (.int .i64))))) 92), .rw (.ty (.int .i64)) (.ty (.int .i64)), .rw (.ty (.bool)) (.ty (.bool)), .rw (.ty (.slice (.cons (.int .i64) (.cons (.int .i64) (.int .i64))))) (.ty (.slice (.cons (.int .i64) (.cons (.int .i64) (.int .i64))))), .ro (.lit (.int .i64 (-1)))], 70)], [.val 0], [.ptr 1, .lit (.int .i64 0)], [([.ptr 0, .ty (.int .i64), .ty (.int .i64), .olst (.cons (.int .i64) (.cons (.int .i64) (.cons (.int .i64) (.cons (.slice (.cons (.int .i64) (.cons (.int .i64) (.str)))) (.slice (.int .i64)))))) 86, .lit (.bool false)], 73)], [.val 0]⟩
def wOpen_c : Cuts := ⟨[], [], []⟩
noncomputable def wOpen_t : List (FuncId × Spec) := [dDown_s, wHard_s, wRead_s, wMend_s]
noncomputable def wOpen_b (sure : (List ((List UInt8) × (List UInt8)))) (now : (List ((List UInt8) × (List UInt8)))) (wait : (List (Int × ((List UInt8) × ((List UInt8) × ((List UInt8) × Int)))))) (count : Int) (down : Bool) (falls : (List (Int × (Int × Int)))) : (Option (Unit × (Unit × ((List ((List UInt8) × (List UInt8))) × ((List ((List UInt8) × (List UInt8))) × ((List (Int × ((List UInt8) × ((List UInt8) × ((List UInt8) × Int))))) × (Int × (Bool × ((List (Int × (Int × Int))) × (Unit × (Int × (Int × ((List (Int × (Int × (Int × ((List (Int × (Int × (List UInt8)))) × (List Int)))))) × (Unit × Unit)))))))))))))) := ((dDown down).bind fun (x1, _) => (bif x1 then none else ((wHard 0 (-1) now down).bind fun (x2, (x3, (x4, (x5, _)))) => (bif !decide (x2 = 0) then none else ((wRead x5 down).bind fun (x6, (x7, (x8, (x9, (x10, _))))) => (bif !decide (x8 = 0) then none else ((dRead [104, 97, 114, 100, 46, 110, 101, 119] x10 down).bind fun (x11, (x12, (x13, _))) => (two (β := (Unit × Unit)) (γ := Unit) (bif decide (x12 = 0) then none else some (.inl ((), ()))) (fun (_, _) => (bif decide (0 < (↑(List.length x6) : Int)) then ((x6[0]?).bind fun x51 => (bif decide (1 < (↑(List.length x6) : Int)) then ((x6[1]?).bind fun x116 => (bif decide (2 < (↑(List.length x6) : Int)) then ((x6[2]?).bind fun x205 => (bif decide (3 < (↑(List.length x6) : Int)) then ((x6[3]?).bind fun x310 => none) else (bif decide ((↑(List.length x9) : Int) = 0) then ((wName x51).bind fun (x277, _) => ((dRemove x277 sure x13 wait count down falls).bind fun (x278, (x279, (x280, (x281, (x282, (x283, (x284, _))))))) => (bif !decide (x278 = 0) then (bif !decide (x278 = 0) then none else some ((), ((), (x279, (x280, (x281, (x282, (x283, (x284, ((), (x3, (x4, ([(1, 0, 0, [], [])], ((), ())))))))))))))) else ((wName x116).bind fun (x285, _) => ((dRemove x285 x279 x280 x281 x282 x283 x284).bind fun (x286, (x287, (x288, (x289, (x290, (x291, (x292, _))))))) => (bif !decide (x286 = 0) then (bif !decide (x286 = 0) then none else some ((), ((), (x287, (x288, (x289, (x290, (x291, (x292, ((), (x3, (x4, ([(1, 0, 0, [], [])], ((), ())))))))))))))) else ((wName x205).bind fun (x293, _) => ((dRemove x293 x287 x288 x289 x290 x291 x292).bind fun (x294, (x295, (x296, (x297, (x298, (x299, (x300, _))))))) => (bif !decide (x294 = 0) then (bif !decide (x294 = 0) then none else some ((), ((), (x295, (x296, (x297, (x298, (x299, (x300, ((), (x3, (x4, ([(1, 0, 0, [], [])], ((), ())))))))))))))) else ((wName 1).bind fun (x301, _) => ((wBase0 0 0).bind fun (x302, _) => ((dWrite x301 x302 x295 x296 x297 x298 x299 x300).bind fun (x303, (x304, (x305, (x306, (x307, (x308, (x309, _))))))) => (bif !decide (x303 = 0) then (bif !decide (x303 = 0) then none else some ((), ((), (x304, (x305, (x306, (x307, (x308, (x309, ((), (x3, (x4, ([(1, 0, 0, [], [])], ((), ())))))))))))))) else none))))))))))))) else (bif x7 then ((wName x51).bind fun (x234, _) => ((dRemove x234 sure x13 wait count down falls).bind fun (x235, (x236, (x237, (x238, (x239, (x240, (x241, _))))))) => (bif !decide (x235 = 0) then (bif !decide (x235 = 0) then none else some ((), ((), (x236, (x237, (x238, (x239, (x240, (x241, ((), (x3, (x4, (x9, ((), ())))))))))))))) else ((wName x116).bind fun (x242, _) => ((dRemove x242 x236 x237 x238 x239 x240 x241).bind fun (x243, (x244, (x245, (x246, (x247, (x248, (x249, _))))))) => (bif !decide (x243 = 0) then (bif !decide (x243 = 0) then none else some ((), ((), (x244, (x245, (x246, (x247, (x248, (x249, ((), (x3, (x4, (x9, ((), ())))))))))))))) else ((wName x205).bind fun (x250, _) => ((dRemove x250 x244 x245 x246 x247 x248 x249).bind fun (x251, (x252, (x253, (x254, (x255, (x256, (x257, _))))))) => (bif !decide (x251 = 0) then (bif !decide (x251 = 0) then none else some ((), ((), (x252, (x253, (x254, (x255, (x256, (x257, ((), (x3, (x4, (x9, ((), ())))))))))))))) else (bif decide (0 ≤ IntKind.wrap .i64 ((↑(List.length x9) : Int) - 1)) then (bif decide (IntKind.wrap .i64 ((↑(List.length x9) : Int) - 1) < (↑(List.length x9) : Int)) then ((x9[Int.toNat (IntKind.wrap .i64 ((↑(List.length x9) : Int) - 1))]?).bind fun (x258, (x259, (x260, (x261, x262)))) => ((wName x258).bind fun (x263, _) => (bif decide (0 ≤ IntKind.wrap .i64 ((↑(List.length x9) : Int) - 1)) then (bif decide (IntKind.wrap .i64 ((↑(List.length x9) : Int) - 1) < (↑(List.length x9) : Int)) then ((x9[Int.toNat (IntKind.wrap .i64 ((↑(List.length x9) : Int) - 1))]?).bind fun (x264, (x265, (x266, (x267, x268)))) => ((wLong x264 x265 x266 x267 x268).bind fun (x269, _) => ((dCut x263 x269 x252 x253 x254 x255 x256 x257).bind fun (x270, (x271, (x272, (x273, (x274, (x275, (x276, _))))))) => (bif !decide (x270 = 0) then (bif !decide (x270 = 0) then none else some ((), ((), (x271, (x272, (x273, (x274, (x275, (x276, ((), (x3, (x4, (x9, ((), ())))))))))))))) else none)))) else none) else none))) else none) else none)))))))))) else ((wName x51).bind fun (x206, _) => ((dRemove x206 sure x13 wait count down falls).bind fun (x207, (x208, (x209, (x210, (x211, (x212, (x213, _))))))) => (bif !decide (x207 = 0) then (bif !decide (x207 = 0) then none else some ((), ((), (x208, (x209, (x210, (x211, (x212, (x213, ((), (x3, (x4, (x9, ((), ())))))))))))))) else ((wName x116).bind fun (x214, _) => ((dRemove x214 x208 x209 x210 x211 x212 x213).bind fun (x215, (x216, (x217, (x218, (x219, (x220, (x221, _))))))) => (bif !decide (x215 = 0) then (bif !decide (x215 = 0) then none else some ((), ((), (x216, (x217, (x218, (x219, (x220, (x221, ((), (x3, (x4, (x9, ((), ())))))))))))))) else ((wName x205).bind fun (x222, _) => ((dRemove x222 x216 x217 x218 x219 x220 x221).bind fun (x223, (x224, (x225, (x226, (x227, (x228, (x229, _))))))) => (bif !decide (x223 = 0) then (bif !decide (x223 = 0) then none else some ((), ((), (x224, (x225, (x226, (x227, (x228, (x229, ((), (x3, (x4, (x9, ((), ())))))))))))))) else ((dSync x224 x225 x226 x228).bind fun (x230, (x231, (x232, (x233, _)))) => (bif !decide (x230 = 0) then (bif !decide (x230 = 0) then none else some ((), ((), (x231, (x232, (x233, (x227, (x228, (x229, ((), (x3, (x4, (x9, ((), ())))))))))))))) else none))))))))))))))) else (bif decide ((↑(List.length x9) : Int) = 0) then ((wName x51).bind fun (x176, _) => ((dRemove x176 sure x13 wait count down falls).bind fun (x177, (x178, (x179, (x180, (x181, (x182, (x183, _))))))) => (bif !decide (x177 = 0) then (bif !decide (x177 = 0) then none else some ((), ((), (x178, (x179, (x180, (x181, (x182, (x183, ((), (x3, (x4, ([(1, 0, 0, [], [])], ((), ())))))))))))))) else ((wName x116).bind fun (x184, _) => ((dRemove x184 x178 x179 x180 x181 x182 x183).bind fun (x185, (x186, (x187, (x188, (x189, (x190, (x191, _))))))) => (bif !decide (x185 = 0) then (bif !decide (x185 = 0) then none else some ((), ((), (x186, (x187, (x188, (x189, (x190, (x191, ((), (x3, (x4, ([(1, 0, 0, [], [])], ((), ())))))))))))))) else ((wName 1).bind fun (x192, _) => ((wBase0 0 0).bind fun (x193, _) => ((dWrite x192 x193 x186 x187 x188 x189 x190 x191).bind fun (x194, (x195, (x196, (x197, (x198, (x199, (x200, _))))))) => (bif !decide (x194 = 0) then (bif !decide (x194 = 0) then none else some ((), ((), (x195, (x196, (x197, (x198, (x199, (x200, ((), (x3, (x4, ([(1, 0, 0, [], [])], ((), ())))))))))))))) else ((dSync x195 x196 x197 x199).bind fun (x201, (x202, (x203, (x204, _)))) => (bif !decide (x201 = 0) then (bif !decide (x201 = 0) then none else some ((), ((), (x202, (x203, (x204, (x198, (x199, (x200, ((), (x3, (x4, ([(1, 0, 0, [], [])], ((), ())))))))))))))) else none)))))))))))) else (bif x7 then ((wName x51).bind fun (x137, _) => ((dRemove x137 sure x13 wait count down falls).bind fun (x138, (x139, (x140, (x141, (x142, (x143, (x144, _))))))) => (bif !decide (x138 = 0) then (bif !decide (x138 = 0) then none else some ((), ((), (x139, (x140, (x141, (x142, (x143, (x144, ((), (x3, (x4, (x9, ((), ())))))))))))))) else ((wName x116).bind fun (x145, _) => ((dRemove x145 x139 x140 x141 x142 x143 x144).bind fun (x146, (x147, (x148, (x149, (x150, (x151, (x152, _))))))) => (bif !decide (x146 = 0) then (bif !decide (x146 = 0) then none else some ((), ((), (x147, (x148, (x149, (x150, (x151, (x152, ((), (x3, (x4, (x9, ((), ())))))))))))))) else (bif decide (0 ≤ IntKind.wrap .i64 ((↑(List.length x9) : Int) - 1)) then (bif decide (IntKind.wrap .i64 ((↑(List.length x9) : Int) - 1) < (↑(List.length x9) : Int)) then ((x9[Int.toNat (IntKind.wrap .i64 ((↑(List.length x9) : Int) - 1))]?).bind fun (x153, (x154, (x155, (x156, x157)))) => ((wName x153).bind fun (x158, _) => (bif decide (0 ≤ IntKind.wrap .i64 ((↑(List.length x9) : Int) - 1)) then (bif decide (IntKind.wrap .i64 ((↑(List.length x9) : Int) - 1) < (↑(List.length x9) : Int)) then ((x9[Int.toNat (IntKind.wrap .i64 ((↑(List.length x9) : Int) - 1))]?).bind fun (x159, (x160, (x161, (x162, x163)))) => ((wLong x159 x160 x161 x162 x163).bind fun (x164, _) => ((dCut x158 x164 x147 x148 x149 x150 x151 x152).bind fun (x165, (x166, (x167, (x168, (x169, (x170, (x171, _))))))) => (bif !decide (x165 = 0) then (bif !decide (x165 = 0) then none else some ((), ((), (x166, (x167, (x168, (x169, (x170, (x171, ((), (x3, (x4, (x9, ((), ())))))))))))))) else ((dSync x166 x167 x168 x170).bind fun (x172, (x173, (x174, (x175, _)))) => (bif !decide (x172 = 0) then (bif !decide (x172 = 0) then none else some ((), ((), (x173, (x174, (x175, (x169, (x170, (x171, ((), (x3, (x4, (x9, ((), ())))))))))))))) else none)))))) else none) else none))) else none) else none))))))) else ((wName x51).bind fun (x117, _) => ((dRemove x117 sure x13 wait count down falls).bind fun (x118, (x119, (x120, (x121, (x122, (x123, (x124, _))))))) => (bif !decide (x118 = 0) then (bif !decide (x118 = 0) then none else some ((), ((), (x119, (x120, (x121, (x122, (x123, (x124, ((), (x3, (x4, (x9, ((), ())))))))))))))) else ((wName x116).bind fun (x125, _) => ((dRemove x125 x119 x120 x121 x122 x123 x124).bind fun (x126, (x127, (x128, (x129, (x130, (x131, (x132, _))))))) => (bif !decide (x126 = 0) then (bif !decide (x126 = 0) then none else some ((), ((), (x127, (x128, (x129, (x130, (x131, (x132, ((), (x3, (x4, (x9, ((), ())))))))))))))) else ((dSync x127 x128 x129 x131).bind fun (x133, (x134, (x135, (x136, _)))) => (bif !decide (x133 = 0) then (bif !decide (x133 = 0) then none else some ((), ((), (x134, (x135, (x136, (x130, (x131, (x132, ((), (x3, (x4, (x9, ((), ())))))))))))))) else some ((), ((), (x134, (x135, (x136, (x130, (x131, (x132, ((), (x3, (x4, (x9, ((), ()))))))))))))))))))))))))) else (bif decide ((↑(List.length x9) : Int) = 0) then ((wName x51).bind fun (x95, _) => ((dRemove x95 sure x13 wait count down falls).bind fun (x96, (x97, (x98, (x99, (x100, (x101, (x102, _))))))) => (bif !decide (x96 = 0) then (bif !decide (x96 = 0) then none else some ((), ((), (x97, (x98, (x99, (x100, (x101, (x102, ((), (x3, (x4, ([(1, 0, 0, [], [])], ((), ())))))))))))))) else ((wName 1).bind fun (x103, _) => ((wBase0 0 0).bind fun (x104, _) => ((dWrite x103 x104 x97 x98 x99 x100 x101 x102).bind fun (x105, (x106, (x107, (x108, (x109, (x110, (x111, _))))))) => (bif !decide (x105 = 0) then (bif !decide (x105 = 0) then none else some ((), ((), (x106, (x107, (x108, (x109, (x110, (x111, ((), (x3, (x4, ([(1, 0, 0, [], [])], ((), ())))))))))))))) else ((dSync x106 x107 x108 x110).bind fun (x112, (x113, (x114, (x115, _)))) => (bif !decide (x112 = 0) then (bif !decide (x112 = 0) then none else some ((), ((), (x113, (x114, (x115, (x109, (x110, (x111, ((), (x3, (x4, ([(1, 0, 0, [], [])], ((), ())))))))))))))) else some ((), ((), (x113, (x114, (x115, (x109, (x110, (x111, ((), (x3, (x4, ([(1, 0, 0, [], [])], ((), ())))))))))))))))))))))) else (bif x7 then ((wName x51).bind fun (x64, _) => ((dRemove x64 sure x13 wait count down falls).bind fun (x65, (x66, (x67, (x68, (x69, (x70, (x71, _))))))) => (bif !decide (x65 = 0) then (bif !decide (x65 = 0) then none else some ((), ((), (x66, (x67, (x68, (x69, (x70, (x71, ((), (x3, (x4, (x9, ((), ())))))))))))))) else (bif decide (0 ≤ IntKind.wrap .i64 ((↑(List.length x9) : Int) - 1)) then (bif decide (IntKind.wrap .i64 ((↑(List.length x9) : Int) - 1) < (↑(List.length x9) : Int)) then ((x9[Int.toNat (IntKind.wrap .i64 ((↑(List.length x9) : Int) - 1))]?).bind fun (x72, (x73, (x74, (x75, x76)))) => ((wName x72).bind fun (x77, _) => (bif decide (0 ≤ IntKind.wrap .i64 ((↑(List.length x9) : Int) - 1)) then (bif decide (IntKind.wrap .i64 ((↑(List.length x9) : Int) - 1) < (↑(List.length x9) : Int)) then ((x9[Int.toNat (IntKind.wrap .i64 ((↑(List.length x9) : Int) - 1))]?).bind fun (x78, (x79, (x80, (x81, x82)))) => ((wLong x78 x79 x80 x81 x82).bind fun (x83, _) => ((dCut x77 x83 x66 x67 x68 x69 x70 x71).bind fun (x84, (x85, (x86, (x87, (x88, (x89, (x90, _))))))) => (bif !decide (x84 = 0) then (bif !decide (x84 = 0) then none else some ((), ((), (x85, (x86, (x87, (x88, (x89, (x90, ((), (x3, (x4, (x9, ((), ())))))))))))))) else ((dSync x85 x86 x87 x89).bind fun (x91, (x92, (x93, (x94, _)))) => (bif !decide (x91 = 0) then (bif !decide (x91 = 0) then none else some ((), ((), (x92, (x93, (x94, (x88, (x89, (x90, ((), (x3, (x4, (x9, ((), ())))))))))))))) else some ((), ((), (x92, (x93, (x94, (x88, (x89, (x90, ((), (x3, (x4, (x9, ((), ()))))))))))))))))))) else none) else none))) else none) else none)))) else ((wName x51).bind fun (x52, _) => ((dRemove x52 sure x13 wait count down falls).bind fun (x53, (x54, (x55, (x56, (x57, (x58, (x59, _))))))) => (bif !decide (x53 = 0) then (bif !decide (x53 = 0) then none else some ((), ((), (x54, (x55, (x56, (x57, (x58, (x59, ((), (x3, (x4, (x9, ((), ())))))))))))))) else ((dSync x54 x55 x56 x58).bind fun (x60, (x61, (x62, (x63, _)))) => (bif !decide (x60 = 0) then (bif !decide (x60 = 0) then none else some ((), ((), (x61, (x62, (x63, (x57, (x58, (x59, ((), (x3, (x4, (x9, ((), ())))))))))))))) else some ((), ((), (x61, (x62, (x63, (x57, (x58, (x59, ((), (x3, (x4, (x9, ((), ())))))))))))))))))))))) else (bif decide ((↑(List.length x9) : Int) = 0) then ((wName 1).bind fun (x38, _) => ((wBase0 0 0).bind fun (x39, _) => ((dWrite x38 x39 sure x13 wait count down falls).bind fun (x40, (x41, (x42, (x43, (x44, (x45, (x46, _))))))) => (bif !decide (x40 = 0) then (bif !decide (x40 = 0) then none else some ((), ((), (x41, (x42, (x43, (x44, (x45, (x46, ((), (x3, (x4, ([(1, 0, 0, [], [])], ((), ())))))))))))))) else ((dSync x41 x42 x43 x45).bind fun (x47, (x48, (x49, (x50, _)))) => (bif !decide (x47 = 0) then (bif !decide (x47 = 0) then none else some ((), ((), (x48, (x49, (x50, (x44, (x45, (x46, ((), (x3, (x4, ([(1, 0, 0, [], [])], ((), ())))))))))))))) else some ((), ((), (x48, (x49, (x50, (x44, (x45, (x46, ((), (x3, (x4, ([(1, 0, 0, [], [])], ((), ()))))))))))))))))))) else (bif x7 then (bif decide (0 ≤ IntKind.wrap .i64 ((↑(List.length x9) : Int) - 1)) then (bif decide (IntKind.wrap .i64 ((↑(List.length x9) : Int) - 1) < (↑(List.length x9) : Int)) then ((x9[Int.toNat (IntKind.wrap .i64 ((↑(List.length x9) : Int) - 1))]?).bind fun (x15, (x16, (x17, (x18, x19)))) => ((wName x15).bind fun (x20, _) => (bif decide (0 ≤ IntKind.wrap .i64 ((↑(List.length x9) : Int) - 1)) then (bif decide (IntKind.wrap .i64 ((↑(List.length x9) : Int) - 1) < (↑(List.length x9) : Int)) then ((x9[Int.toNat (IntKind.wrap .i64 ((↑(List.length x9) : Int) - 1))]?).bind fun (x21, (x22, (x23, (x24, x25)))) => ((wLong x21 x22 x23 x24 x25).bind fun (x26, _) => ((dCut x20 x26 sure x13 wait count down falls).bind fun (x27, (x28, (x29, (x30, (x31, (x32, (x33, _))))))) => (bif !decide (x27 = 0) then (bif !decide (x27 = 0) then none else some ((), ((), (x28, (x29, (x30, (x31, (x32, (x33, ((), (x3, (x4, (x9, ((), ())))))))))))))) else ((dSync x28 x29 x30 x32).bind fun (x34, (x35, (x36, (x37, _)))) => (bif !decide (x34 = 0) then (bif !decide (x34 = 0) then none else some ((), ((), (x35, (x36, (x37, (x31, (x32, (x33, ((), (x3, (x4, (x9, ((), ())))))))))))))) else some ((), ((), (x35, (x36, (x37, (x31, (x32, (x33, ((), (x3, (x4, (x9, ((), ()))))))))))))))))))) else none) else none))) else none) else none) else some ((), ((), (sure, (x13, (wait, (count, (down, (falls, ((), (x3, (x4, (x9, ((), ()))))))))))))))))) (fun _ => some ((), ((), (sure, (x13, (wait, (count, (down, (falls, ((), (x3, (x4, (x9, ((), ()))))))))))))))))))))))
noncomputable def wOpen (sure : (List ((List UInt8) × (List UInt8)))) (now : (List ((List UInt8) × (List UInt8)))) (wait : (List (Int × ((List UInt8) × ((List UInt8) × ((List UInt8) × Int)))))) (count : Int) (down : Bool) (falls : (List (Int × (Int × Int)))) : (Option (Unit × (Unit × ((List ((List UInt8) × (List UInt8))) × ((List ((List UInt8) × (List UInt8))) × ((List (Int × ((List UInt8) × ((List UInt8) × ((List UInt8) × Int))))) × (Int × (Bool × ((List (Int × (Int × Int))) × (Unit × (Int × (Int × ((List (Int × (Int × (Int × ((List (Int × (Int × (List UInt8)))) × (List Int)))))) × (Unit × Unit)))))))))))))) := stuck (wOpen_b sure now wait count down falls)
theorem wOpen_un (sure : (List ((List UInt8) × (List UInt8)))) (now : (List ((List UInt8) × (List UInt8)))) (wait : (List (Int × ((List UInt8) × ((List UInt8) × ((List UInt8) × Int)))))) (count : Int) (down : Bool) (falls : (List (Int × (Int × Int)))) : wOpen sure now wait count down falls = wOpen_b sure now wait count down falls := stuck_eq _
theorem wOpen_k : TabOk Tryz.prog wOpen_t := .cons dDown_o (.cons wHard_o (.cons wRead_o (.cons wMend_o (.nil))))
theorem wOpen_eq (d : dens wOpen_g.inP) : fnU Tryz.prog (tabU wOpen_t) wOpen_c 100 wOpen_g Tryz.f7 (Tryz.f7.body.getD .skip) d = wOpen_b d.2.1 d.2.2.1 d.2.2.2.1 d.2.2.2.2.1 d.2.2.2.2.2.1 d.2.2.2.2.2.2.1 := by kernel_rfl
theorem wOpen_ok : FnOk Tryz.prog 7 wOpen_g fun d => wOpen d.2.1 d.2.2.1 d.2.2.2.1 d.2.2.2.2.1 d.2.2.2.2.2.1 d.2.2.2.2.2.2.1 := (fn_ok follows named (tabU_ok wOpen_k) Tryz.func7 rfl).congr fun d => (wOpen_eq d).trans (stuck_eq _).symm
noncomputable def wOpen_s : FuncId × Spec := (7, callOf wOpen_g fun d => wOpen d.2.1 d.2.2.1 d.2.2.2.1 d.2.2.2.2.1 d.2.2.2.2.2.1 d.2.2.2.2.2.2.1)
theorem wOpen_o : SpecOk Tryz.prog wOpen_s.1 wOpen_s.2 := spec_ok wOpen_ok
end Go.Proofs.YthnhbejjikgifaaGreatDoor.TV

/-
  WAL: an entry is there behind a loss of power (the law's own example): told by the evaluator, where four functions are given.
-/
namespace Go.Proofs.YthnhbejjikgifaaGreatDoor.TV
open Go Go.RowKit
set_option linter.unusedVariables false
set_option maxRecDepth 1000000

def awkAtoi : List TV → St → Option (TV × St)
  | [.str l], s => if l.length ≤ 1000 then some (.tup [.int .i64 (atoiV l), if atoiOk l then .niliface else .iface 210 .junk], s) else none
  | _, _ => none
/-- Some sums: what bytes are taken into, which, what comes. -/
def sums : List (Int × List UInt8 × Int) := [(4294967295, [0, 0, 0, 2], 817185231), (4294967295, [0, 0, 0, 4], 3654739194), (817185231, [0, 0], 1304005170), (817185231, [3, 3], 4288514123), (3654739194, [1, 0, 1, 97], 4098851260)]
def sumOf (x : Int) (l : List UInt8) : List (Int × List UInt8 × Int) → Option Int
  | [] => none
  | e :: t => if e.1 = x ∧ e.2.1 = l then some e.2.2 else sumOf x l t
def awkMore : List TV → St → Option (TV × St)
  | [.int .u32 x, .str l], s => match sumOf x l sums with
    | some y => some (.int .u32 y, s)
    | none => none
  | _, _ => none
def awkG : GivenT := fun f args s =>
  if f = 47 then clonedT args s
  else if f = 100 then sortedT args s
  else if f = 120 then awkAtoi args s
  else if f = 115 then awkMore args s
  else none
def saysTrue : Option (TV × St) → Bool
  | some (.bool true, _) => true
  | _ => false
theorem says_true {x : Option (TV × St)} (h : saysTrue x = true) : ∃ s', x = some (.bool true, s') := by
  unfold saysTrue at h
  split at h
  · exact ⟨_, rfl⟩
  · cases h
theorem sum0 (s : St) : runG Tryz.prog (fun _ _ _ => none) 100 115 [.int .u32 4294967295, .str [0, 0, 0, 2]] s = some (.int .u32 817185231, s) := by kernel_rfl
theorem sum1 (s : St) : runG Tryz.prog (fun _ _ _ => none) 100 115 [.int .u32 4294967295, .str [0, 0, 0, 4]] s = some (.int .u32 3654739194, s) := by kernel_rfl
theorem sum2 (s : St) : runG Tryz.prog (fun _ _ _ => none) 100 115 [.int .u32 817185231, .str [0, 0]] s = some (.int .u32 1304005170, s) := by kernel_rfl
theorem sum3 (s : St) : runG Tryz.prog (fun _ _ _ => none) 100 115 [.int .u32 817185231, .str [3, 3]] s = some (.int .u32 4288514123, s) := by kernel_rfl
theorem sum4 (s : St) : runG Tryz.prog (fun _ _ _ => none) 100 115 [.int .u32 3654739194, .str [1, 0, 1, 97]] s = some (.int .u32 4098851260, s) := by kernel_rfl
theorem none_ok : GivenOk Tryz.prog fun _ _ _ => none := fun f args s v s' h => by cases h
theorem sumOf_mem {x y : Int} {l : List UInt8} : ∀ {t : List (Int × List UInt8 × Int)}, sumOf x l t = some y → (x, l, y) ∈ t
  | e :: t, h => by
    unfold sumOf at h
    split at h
    · rename_i he
      obtain ⟨a, b, c⟩ := e
      obtain ⟨h1, h2⟩ := he
      cases h
      simp only at h1 h2
      subst h1 h2
      exact List.mem_cons_self
    · exact List.mem_cons_of_mem _ (sumOf_mem h)
  | [], h => by cases h
theorem sum_all {x y : Int} {l : List UInt8} (h : sumOf x l sums = some y) (s : St) : runG Tryz.prog (fun _ _ _ => none) 100 115 [.int .u32 x, .str l] s = some (.int .u32 y, s) := by
  have hm := sumOf_mem h
  simp only [sums, List.mem_cons, List.not_mem_nil, or_false, Prod.mk.injEq] at hm
  clear h
  rcases hm with ⟨h1, h2, h3⟩ | ⟨h1, h2, h3⟩ | ⟨h1, h2, h3⟩ | ⟨h1, h2, h3⟩ | ⟨h1, h2, h3⟩ <;> rw [h1, h2, h3]
  · exact sum0 s
  · exact sum1 s
  · exact sum2 s
  · exact sum3 s
  · exact sum4 s
theorem awkMore_ok {args : List TV} {s s' : St} {v : TV} (h : awkMore args s = some (v, s')) : Sim Tryz.prog 115 args s v s' := by
  unfold awkMore at h
  split at h
  · split at h
    · rename_i y hy
      cases h
      exact runG_ok follows named none_ok (sum_all hy _)
    · cases h
  · cases h
theorem awkAtoi_ok {args : List TV} {s s' : St} {v : TV} (h : awkAtoi args s = some (v, s')) : Sim Tryz.prog 120 args s v s' := by
  unfold awkAtoi at h
  split at h
  · split at h
    · rename_i l s hl
      cases h
      exact atoi_sim _ hl _
    · cases h
  · cases h
theorem awkG_ok : GivenOk Tryz.prog awkG := by
  intro f args s v s' h
  unfold awkG at h
  split at h
  · rename_i e; subst e; exact cloned_ok h
  · split at h
    · rename_i e; subst e; exact sorted_ok h
    · split at h
      · rename_i e; subst e; exact awkAtoi_ok h
      · split at h
        · rename_i e; subst e; exact awkMore_ok h
        · cases h
set_option maxHeartbeats 4000000 in
theorem awake_run : saysTrue (runG Tryz.prog awkG 1000 8 [] .none) = true := by decide +kernel
theorem awake_pure : Pure Tryz.prog 8 [] (.bool true) := by
  obtain ⟨s', h⟩ := says_true awake_run
  exact .of (runG_ok follows named awkG_ok h) rfl rfl rfl
end Go.Proofs.YthnhbejjikgifaaGreatDoor.TV

/-
  WAL: the law about what was told as laid, printed.
-/
namespace Go.Proofs.YthnhbejjikgifaaGreatDoor.TV
open Go Go.RowKit
set_option linter.unusedVariables false
set_option maxRecDepth 1000000
noncomputable def lAwake_s : FuncId × Spec := (8, callOf ⟨[], [], [], [.ty .bool], [], []⟩ fun _ => some (true, ()))
theorem lAwake_o : SpecOk Tryz.prog lAwake_s.1 lAwake_s.2 := spec_ok (FnOk.closed awake_pure)
def lRefs_g : Sig := ⟨[.ty (.slice (.cons (.int .i64) (.cons (.int .i64) (.str))))], [], [], [.ty (.slice (.cons (.int .i64) (.cons (.int .i64) (.str))))], [], []⟩
def lRefs_c : Cuts := ⟨[(0, ⟨[(3, .gsl (.cons (.int .i64) (.cons (.int .i64) (.str))) 90), (4, .ty (.int .i64))], [], [], []⟩)], [], []⟩
noncomputable def lRefs_t : List (FuncId × Spec) := []
noncomputable def lRefs_l0 (l : (List (Int × (Int × (List UInt8))))) : ((List (Int × (Int × (List UInt8)))) × (Int × Unit)) → Option (Rnd ((List (Int × (Int × (List UInt8)))) × (Int × Unit)) Unit) := fun (x1, (x2, _)) => (bif decide (x2 < (↑(List.length l) : Int)) then (bif decide (0 ≤ x2) then ((l[Int.toNat x2]?).bind fun (x3, (x4, x5)) => (bif decide ((List.length x1 + 1) * 32 ≤ 140737488355328) then some (.next (x1 ++ [(x3, x4, x5)], (IntKind.wrap .i64 (x2 + 1), ()))) else none)) else none) else some (.out (x1, (x2, ()))))
noncomputable def lRefs_b (l : (List (Int × (Int × (List UInt8))))) : (Option ((List (Int × (Int × (List UInt8)))) × Unit)) := (two (β := ((List (Int × (Int × (List UInt8)))) × (Int × Unit))) (γ := Unit) (loop (lRefs_l0 l) ([], (0, ()))) (fun (x7, (x8, _)) => some (x7, ())) (fun _ => some ([], ())))
noncomputable def lRefs (l : (List (Int × (Int × (List UInt8))))) : (Option ((List (Int × (Int × (List UInt8)))) × Unit)) := stuck (lRefs_b l)
theorem lRefs_un (l : (List (Int × (Int × (List UInt8))))) : lRefs l = lRefs_b l := stuck_eq _
theorem lRefs_k : TabOk Tryz.prog lRefs_t := .nil
theorem lRefs_eq (d : dens lRefs_g.inP) : fnU Tryz.prog (tabU lRefs_t) lRefs_c 100 lRefs_g Tryz.f14 (Tryz.f14.body.getD .skip) d = lRefs_b d.1 := by kernel_rfl
theorem lRefs_ok : FnOk Tryz.prog 14 lRefs_g fun d => lRefs d.1 := (fn_ok follows named (tabU_ok lRefs_k) Tryz.func14 rfl).congr fun d => (lRefs_eq d).trans (stuck_eq _).symm
noncomputable def lRefs_s : FuncId × Spec := (14, callOf lRefs_g fun d => lRefs d.1)
theorem lRefs_o : SpecOk Tryz.prog lRefs_s.1 lRefs_s.2 := spec_ok lRefs_ok
def lBeg_g : Sig := ⟨[.ty (.slice (.cons (.int .i64) (.cons (.int .i64) (.str)))), .ty (.slice (.cons (.int .i64) (.cons (.int .i64) (.str))))], [], [], [.ty (.bool)], [], []⟩
def lBeg_c : Cuts := ⟨[(0, ⟨[(5, .ty (.int .i64))], [], [(4, .ty (.bool))], []⟩)], [], []⟩
noncomputable def lBeg_t : List (FuncId × Spec) := []
noncomputable def lBeg_l0 (l : (List (Int × (Int × (List UInt8))))) (m : (List (Int × (Int × (List UInt8))))) : (Int × Unit) → Option (Rnd (Int × Unit) (Bool × Unit)) := fun (x1, _) => (bif decide (x1 < (↑(List.length l) : Int)) then (bif decide (0 ≤ x1) then ((l[Int.toNat x1]?).bind fun (x2, (x3, x4)) => (bif decide (0 ≤ x1) then ((m[Int.toNat x1]?).bind fun (x5, (x6, x7)) => (bif !(decide (x2 = x5) && (decide (x3 = x6) && (decide (x4 = x7) && true))) then some (.ret (false, ())) else some (.next (IntKind.wrap .i64 (x1 + 1), ())))) else none)) else none) else some (.out (x1, ())))
noncomputable def lBeg_b (l : (List (Int × (Int × (List UInt8))))) (m : (List (Int × (Int × (List UInt8))))) : (Option (Bool × Unit)) := (bif decide ((↑(List.length m) : Int) < (↑(List.length l) : Int)) then some (false, ()) else (two (β := (Int × Unit)) (γ := (Bool × Unit)) (loop (lBeg_l0 l m) (0, ())) (fun (x9, _) => some (true, ())) (fun (x10, _) => some (x10, ()))))
noncomputable def lBeg (l : (List (Int × (Int × (List UInt8))))) (m : (List (Int × (Int × (List UInt8))))) : (Option (Bool × Unit)) := stuck (lBeg_b l m)
theorem lBeg_un (l : (List (Int × (Int × (List UInt8))))) (m : (List (Int × (Int × (List UInt8))))) : lBeg l m = lBeg_b l m := stuck_eq _
theorem lBeg_k : TabOk Tryz.prog lBeg_t := .nil
theorem lBeg_eq (d : dens lBeg_g.inP) : fnU Tryz.prog (tabU lBeg_t) lBeg_c 100 lBeg_g Tryz.f19 (Tryz.f19.body.getD .skip) d = lBeg_b d.1 d.2.1 := by kernel_rfl
theorem lBeg_ok : FnOk Tryz.prog 19 lBeg_g fun d => lBeg d.1 d.2.1 := (fn_ok follows named (tabU_ok lBeg_k) Tryz.func19 rfl).congr fun d => (lBeg_eq d).trans (stuck_eq _).symm
noncomputable def lBeg_s : FuncId × Spec := (19, callOf lBeg_g fun d => lBeg d.1 d.2.1)
theorem lBeg_o : SpecOk Tryz.prog lBeg_s.1 lBeg_s.2 := spec_ok lBeg_ok
def lWalSure_g : Sig := ⟨[.ty (.slice (.slice (.cons (.int .i64) (.cons (.int .i64) (.str))))), .ty (.cons (.int .i64) (.cons (.int .i64) (.int .i64)))], [], [], [.ty (.bool)], [], []⟩
def lWalSure_c : Cuts := ⟨[(0, ⟨[(8, .gsl (.cons (.int .i64) (.cons (.int .i64) (.str))) 90), (9, .ty (.int .i64)), (10, .ty (.int .i64))], [(1, 0, .omap (.str)), (1, 1, .omap (.str)), (1, 2, .gsl (.cons (.int .i64) (.cons (.str) (.cons (.str) (.cons (.str) (.int .i64))))) 92), (1, 3, .ty (.int .i64)), (1, 4, .ty (.bool)), (1, 5, .ty (.slice (.cons (.int .i64) (.cons (.int .i64) (.int .i64))))), (2, 3, .olst (.cons (.int .i64) (.cons (.int .i64) (.cons (.int .i64) (.cons (.slice (.cons (.int .i64) (.cons (.int .i64) (.str)))) (.slice (.int .i64)))))) 86), (2, 4, .ty (.bool))], [(4, .ty (.bool))], [(1, 0, .omap (.str)), (1, 1, .omap (.str)), (1, 2, .gsl (.cons (.int .i64) (.cons (.str) (.cons (.str) (.cons (.str) (.int .i64))))) 92), (1, 3, .ty (.int .i64)), (1, 4, .ty (.bool)), (1, 5, .ty (.slice (.cons (.int .i64) (.cons (.int .i64) (.int .i64))))), (2, 3, .olst (.cons (.int .i64) (.cons (.int .i64) (.cons (.int .i64) (.cons (.slice (.cons (.int .i64) (.cons (.int .i64) (.str)))) (.slice (.int .i64)))))) 86), (2, 4, .ty (.bool))]⟩)], [(27, ⟨[(4, .ty (.bool))], [], [], []⟩), (9, ⟨[(63, .ty (.bool))], [], [], []⟩), (3, ⟨[(34, .ty (.bool))], [], [], []⟩)], []⟩
noncomputable def lWalSure_t : List (FuncId × Spec) := [dNew_s, wOpen_s, lAwake_s, dChanges_s, dPlan_s, dDown_s, wEnd_s, wAppend_s, lRefs_s, dFail_s, dUp_s, wFrom_s, wBase_s, lBeg_s]
noncomputable def lWalSure_l0 (lists : (List (List (Int × (Int × (List UInt8)))))) : ((List (Int × (Int × (List UInt8)))) × (Int × (Int × ((List ((List UInt8) × (List UInt8))) × ((List ((List UInt8) × (List UInt8))) × ((List (Int × ((List UInt8) × ((List UInt8) × ((List UInt8) × Int))))) × (Int × (Bool × ((List (Int × (Int × Int))) × ((List (Int × (Int × (Int × ((List (Int × (Int × (List UInt8)))) × (List Int)))))) × (Bool × Unit))))))))))) → Option (Rnd ((List (Int × (Int × (List UInt8)))) × (Int × (Int × ((List ((List UInt8) × (List UInt8))) × ((List ((List UInt8) × (List UInt8))) × ((List (Int × ((List UInt8) × ((List UInt8) × ((List UInt8) × Int))))) × (Int × (Bool × ((List (Int × (Int × Int))) × ((List (Int × (Int × (Int × ((List (Int × (Int × (List UInt8)))) × (List Int)))))) × (Bool × Unit))))))))))) (Bool × ((List ((List UInt8) × (List UInt8))) × ((List ((List UInt8) × (List UInt8))) × ((List (Int × ((List UInt8) × ((List UInt8) × ((List UInt8) × Int))))) × (Int × (Bool × ((List (Int × (Int × Int))) × ((List (Int × (Int × (Int × ((List (Int × (Int × (List UInt8)))) × (List Int)))))) × (Bool × Unit)))))))))) := fun (x14, (x15, (x16, (x17, (x18, (x19, (x20, (x21, (x22, (x23, (x24, _))))))))))) => (two (β := (Bool × Unit)) (γ := Unit) (bif decide (x16 < (↑(List.length lists) : Int)) then (bif decide (x16 < 12) then ((dDown x21).bind fun (x25, _) => some (.inl (!x25, ()))) else some (.inl (false, ()))) else some (.inl (false, ()))) (fun (x27, _) => (bif x27 then (bif decide (0 ≤ x16) then ((lists[Int.toNat x16]?).bind fun x28 => (bif decide (20 < (↑(List.length x28) : Int)) then some (.next (x14, (x15, (IntKind.wrap .i64 (x16 + 1), (x17, (x18, (x19, (x20, (x21, (x22, (x23, (x24, ())))))))))))) else ((wEnd x23).bind fun (x29, (x30, (x31, _))) => (bif decide (0 ≤ x16) then ((lists[Int.toNat x16]?).bind fun x32 => ((wAppend (IntKind.wrap .i64 (x29 + 1)) x32 x31 x24 x17 x18 x19 x20 x21 x22).bind fun (x33, (x34, (x35, (x36, (x37, (x38, (x39, (x40, (x41, _))))))))) => (bif decide (x33 = 1) then some (.next (x14, (x15, (IntKind.wrap .i64 (x16 + 1), (x36, (x37, (x38, (x39, (x40, (x41, (x34, (x35, ())))))))))))) else (bif decide (x33 = 2) then some (.next (x14, (x15, (IntKind.wrap .i64 (x16 + 1), (x36, (x37, (x38, (x39, (x40, (x41, (x34, (x35, ())))))))))))) else (bif decide (0 ≤ x16) then ((lists[Int.toNat x16]?).bind fun x42 => ((lRefs x42).bind fun (x43, _) => (bif List.isEmpty x43 then (bif decide (x33 = 0) then some (.next (x14, ((↑(List.length x14) : Int), (IntKind.wrap .i64 (x16 + 1), (x36, (x37, (x38, (x39, (x40, (x41, (x34, (x35, ())))))))))))) else (bif !decide (x33 = 21) then some (.ret (false, (x36, (x37, (x38, (x39, (x40, (x41, (x34, (x35, ())))))))))) else some (.next (x14, (x15, (IntKind.wrap .i64 (x16 + 1), (x36, (x37, (x38, (x39, (x40, (x41, (x34, (x35, ())))))))))))))) else (bif decide ((List.length x14 + List.length x43) * 32 ≤ 140737488355328) then (bif decide (x33 = 0) then some (.next (x14 ++ x43, ((↑(List.length (x14 ++ x43)) : Int), (IntKind.wrap .i64 (x16 + 1), (x36, (x37, (x38, (x39, (x40, (x41, (x34, (x35, ())))))))))))) else (bif !decide (x33 = 21) then some (.ret (false, (x36, (x37, (x38, (x39, (x40, (x41, (x34, (x35, ())))))))))) else some (.next (x14 ++ x43, (x15, (IntKind.wrap .i64 (x16 + 1), (x36, (x37, (x38, (x39, (x40, (x41, (x34, (x35, ())))))))))))))) else none)))) else none))))) else none)))) else none) else some (.out (x14, (x15, (x16, (x17, (x18, (x19, (x20, (x21, (x22, (x23, (x24, ())))))))))))))) (fun _ => none))
noncomputable def lWalSure_b (lists : (List (List (Int × (Int × (List UInt8)))))) (f_At : Int) (f_Keep : Int) (f_Torn : Int) : (Option (Bool × Unit)) := ((dNew).bind fun (_, (x1, (x2, (_, (_, (_, (_, (_, _)))))))) => ((wOpen x1 x2 [] 0 false []).bind fun (_, (_, (x3, (x4, (x5, (x6, (x7, (x8, (_, (x9, (x10, (x11, (_, _))))))))))))) => ((dChanges x6).bind fun (x12, _) => ((dPlan [(IntKind.wrap .i64 (x12 + Int.tmod (IntKind.wrap .i64 (Int.tmod f_At 20 + 20)) 20), f_Keep, f_Torn)] x8).bind fun (x13, _) => (two (β := ((List (Int × (Int × (List UInt8)))) × (Int × (Int × ((List ((List UInt8) × (List UInt8))) × ((List ((List UInt8) × (List UInt8))) × ((List (Int × ((List UInt8) × ((List UInt8) × ((List UInt8) × Int))))) × (Int × (Bool × ((List (Int × (Int × Int))) × ((List (Int × (Int × (Int × ((List (Int × (Int × (List UInt8)))) × (List Int)))))) × (Bool × Unit)))))))))))) (γ := (Bool × ((List ((List UInt8) × (List UInt8))) × ((List ((List UInt8) × (List UInt8))) × ((List (Int × ((List UInt8) × ((List UInt8) × ((List UInt8) × Int))))) × (Int × (Bool × ((List (Int × (Int × Int))) × ((List (Int × (Int × (Int × ((List (Int × (Int × (List UInt8)))) × (List Int)))))) × (Bool × Unit)))))))))) (loop (lWalSure_l0 lists) ([], (0, (0, (x3, (x4, (x5, (x6, (x7, (x13, (x11, (false, ())))))))))))) (fun (x45, (x46, (x47, (x48, (x49, (x50, (x51, (x52, (x53, (x54, (x55, _))))))))))) => ((dFail f_Keep f_Torn x48 x49 x50 x52).bind fun (x56, (x57, (x58, (x59, _)))) => ((dUp x59).bind fun (x60, (x61, _)) => ((wOpen x56 x57 x58 x51 x61 x53).bind fun (_, (_, (x62, (x63, (x64, (x65, (x66, (x67, (_, (x68, (x69, (x70, (_, _))))))))))))) => ((wFrom 0 x70).bind fun (x71, (x72, _)) => ((lRefs x71).bind fun (x73, _) => ((wBase x72).bind fun (x74, (x75, (x76, _))) => (two (β := (Bool × Unit)) (γ := Unit) (bif decide (x74 = 0) then (bif decide (x46 ≤ (↑(List.length x73) : Int)) then ((lBeg x73 x45).bind fun (x77, _) => some (.inl (x77, ()))) else some (.inl (false, ()))) else some (.inl (false, ()))) (fun (x79, _) => some (x79, ())) (fun _ => none))))))))) (fun (x80, (x81, (x82, (x83, (x84, (x85, (x86, (x87, (x88, _))))))))) => some (x80, ())))))))
noncomputable def lWalSure (lists : (List (List (Int × (Int × (List UInt8)))))) (f_At : Int) (f_Keep : Int) (f_Torn : Int) : (Option (Bool × Unit)) := stuck (lWalSure_b lists f_At f_Keep f_Torn)
theorem lWalSure_un (lists : (List (List (Int × (Int × (List UInt8)))))) (f_At : Int) (f_Keep : Int) (f_Torn : Int) : lWalSure lists f_At f_Keep f_Torn = lWalSure_b lists f_At f_Keep f_Torn := stuck_eq _
theorem lWalSure_k : TabOk Tryz.prog lWalSure_t := .cons dNew_o (.cons wOpen_o (.cons lAwake_o (.cons dChanges_o (.cons dPlan_o (.cons dDown_o (.cons wEnd_o (.cons wAppend_o (.cons lRefs_o (.cons dFail_o (.cons dUp_o (.cons wFrom_o (.cons wBase_o (.cons lBeg_o (.nil))))))))))))))
theorem lWalSure_eq (d : dens lWalSure_g.inP) : fnU Tryz.prog (tabU lWalSure_t) lWalSure_c 100 lWalSure_g Tryz.f3 (Tryz.f3.body.getD .skip) d = lWalSure_b d.1 d.2.1.1 d.2.1.2.1 d.2.1.2.2 := by kernel_rfl
theorem lWalSure_ok : FnOk Tryz.prog 3 lWalSure_g fun d => lWalSure d.1 d.2.1.1 d.2.1.2.1 d.2.1.2.2 := (fn_ok follows named (tabU_ok lWalSure_k) Tryz.func3 rfl).congr fun d => (lWalSure_eq d).trans (stuck_eq _).symm
noncomputable def lWalSure_s : FuncId × Spec := (3, callOf lWalSure_g fun d => lWalSure d.1 d.2.1.1 d.2.1.2.1 d.2.1.2.2)
theorem lWalSure_o : SpecOk Tryz.prog lWalSure_s.1 lWalSure_s.2 := spec_ok lWalSure_ok
end Go.Proofs.YthnhbejjikgifaaGreatDoor.TV

/-
  WAL: rows of laws with laid variables, out of what their printed forms answer.
-/
namespace Go.Proofs.YthnhbejjikgifaaGreatDoor
open Go Go.ChangeShapes Go.WideShapes Go.ChangeAt Go.RowKit Go.Proofs.YthnhbejjikgifaaGreatDoor.TV
set_option maxRecDepth 100000
set_option linter.unusedVariables false

theorem own : ownKnob Tryz.prog.godebug = none := by kernel_rfl
theorem laidOut : laidOutB Tryz.prog = true := by kernel_rfl
/-- A law of plain data, with laid variables. -/
theorem law_laidA {C : Checked} (os : Os) (started : os.Started) {H : Type} {enc : TypeId × Value → H} {f : FuncId} {fn : Func} {s : ChangeSpec} {conds : List PathCond} {F : Nat} {bt : TypeId} {X : World → Prop} (hX : ∀ w w' : World, w.heap = w'.heap → X w → X w')
    (own : ownKnob C.prog.godebug = none) (noInit : C.prog.inits.idxOf? f = none) (hfn : C.prog.funcs[f]? = some fn) (hlo : laidOutB C.prog = true)
    (hr : fn.params.toList.all (fun t => C.prog.readableRec t && decide (t < C.prog.types.size)) = true) (hs : fn.params.toList.all (serves C.prog F) = true) (hres : fn.resultTypes = #[bt]) (hbt : C.prog.underlying bt = some .bool)
    (spec : LawSpec s fn.params.toList.length)
    (witness : ∃ (w : World) (tape : Tape) (i : Input), w.os = os ∧ (w.forCall tape i).Shaped C.prog ∧ i.vars = [] ∧ Input.okWide C.prog (w.forCall tape i) .any w.heap.size f i ∧
      ((s.pre enc C.prog fn conds false (w.forCall tape i).memory i.args ∧ X (w.forCall tape i).memory) ∧ sizedMet enc C.prog fn (OpenSpec.ofChange s) false (w.forCall tape i).memory i.args) ∧ ({} : Assume).holds C.prog (lone (Frame.enter C.prog f i.args .normal) [] (w.forCall tape i)))
    (vars : ∀ W : World, X W → VarsOk W.heap.size W) (law : ∀ xs, ArgsOk C.prog F fn.params.toList xs → ∃ s', Sim C.prog f xs St.none (.bool true) s') :
    ReturnsInHanded {} C os f .any (fun w args => (s.pre enc C.prog fn conds false w args ∧ X w) ∧ sizedMet enc C.prog fn (OpenSpec.ofChange s) false w args) (s.post enc C.prog fn false true false false) := by
  refine returnsInHanded_of_change_and (X := fun w _ => X w) (fun w w' _ h hx => hX w w' h hx) own started noInit hfn witness ?_
  intro W base args ds gs before hval hW _ hsz hXW _
  have hW' := hW
  obtain ⟨p, q, hA, hV, rfl, _, _⟩ := hW
  rw [spec.vars] at hV
  obtain ⟨rfl, rfl⟩ := trodVars_none hV
  have hvt : s.plain.varTypes C.prog = [] := by
    unfold DataSpec.varTypes ChangeSpec.plain
    simp [spec.vars]
  rw [hvt, List.append_nil, List.append_nil] at hsz
  have hlt : ∀ x ∈ p, x.block < W.heap.size := fun x hx => hW'.lt x (List.mem_append_left _ hx)
  obtain ⟨xs, hrel, hok⟩ := args_ok (F := F) (base := base) (hV := vars W hXW) fn.params.toList args.toList ds p hs hA (fun j t v h1 h2 => hval j t v (by simpa using h1) (by simpa using h2)) (fun m hm => by
    have := List.all_eq_true.1 hsz m hm
    simpa using this)
  obtain ⟨s', hsim⟩ := law xs hok
  have hcall := hsim.2 (Go.Proofs.YthnhbejjikgifaaGreatDoor.TV.start W (vars W hXW)) W args.toList (Rel.start C.prog W (vars W hXW)) hrel
  rw [Array.toArray_toList] at hcall
  refine hcall.mono fun e W' ⟨rv, g', he, hle, hR', hv⟩ => ?_
  cases hv
  have hbel : Below W.heap.size W W' := by
    have := hR'.below
    rw [hle.base, hle.w0] at this
    exact this
  have hlen : (ds ++ []).length = fn.params.toList.length := by rw [List.append_nil]; exact trodAll_length _ _ _ _ hA
  refine ⟨_, he, ds, [], p ++ [], [], p, [], hW', ?_, ?_, ?_, hbel.frame _, fun h => by cases h⟩
  · rw [spec.fn H _ hlen, hres]
    exact trodAll_mk1 ⟨1, by simp [DataW.trod, hbt, Value.cells]⟩
  · rw [spec.fn H _ hlen, List.append_nil]
    exact args_stay hlo hbel _ _ _ _ hr hA hlt
  · rw [spec.vars, spec.fn H _ hlen]
    exact rfl

/-! ### What is laid -/
def laidL : List (String × DataW Unit) := [("math/bits.deBruijn32tab", Rows.laid_math_bits_deBruijn32tab), ("math/bits.deBruijn64tab", Rows.laid_math_bits_deBruijn64tab), ("internal/strconv.uint64pow10", Rows.laid_internal_strconv_uint64pow10), ("strconv.ErrRange", Rows.laid_strconv_ErrRange), ("strconv.ErrSyntax", Rows.laid_strconv_ErrSyntax)]
theorem gS : Tryz.prog.globalNamed "strconv.ErrSyntax" = some 0 := by kernel_rfl
theorem tS : (Tryz.prog.globals[0]?).map (·.type) = some 175 := by kernel_rfl
theorem gE : Tryz.prog.globalNamed "strconv.ErrRange" = some 1 := by kernel_rfl
theorem tE : (Tryz.prog.globals[1]?).map (·.type) = some 175 := by kernel_rfl
theorem tP : (Tryz.prog.globals[2]?).map (·.type) = some 245 := by kernel_rfl
theorem cU : Tryz.prog.cellsOf 139 = 1 := by kernel_rfl
theorem star : "*" ++ "errors.errorString" = "*errors.errorString" := by decide
theorem rowE (u : TypeId) (h : Tryz.prog.typeName? 3 u = some "*errors.errorString") : u = 241 :=
  typeName_ptr_named (nm := "errors.errorString") (by rw [star]; kernel_rfl) (by kernel_rfl) (by decide) u (by rw [star]; exact h)
theorem cE : Tryz.prog.cellsOf 243 = 1 := by kernel_rfl
theorem c9 : Tryz.prog.cellsOf 9 = 1 := by kernel_rfl
theorem laid_block {P : Program} {n : String} {zs : List Int} {r : List (String × DataW Unit)} {W : World} {g N : Nat} {k : IntKind} {ti te : TypeId}
    (h : laidMet P ((n, .agg (zs.map fun z => .lit (.int k z))) :: r) W) (hg : P.globalNamed n = some g) (ht : (P.globals[g]?).map (·.type) = some ti) (hi : P.underlying ti = some (.array N te)) (he : P.underlying te = some (.int k)) (hc : P.cellsOf te = 1) (hti : P.cellsOf ti = N) :
    ∃ t fz, W.heap[g]? = some (.cells (zs.map fun z => Value.int k z).toArray t fz) := by
  obtain ⟨ps, ⟨g0, t0, cs0, f0, p0, q0, hg0, ht0, hv0, hd0, _, e0⟩, _, _⟩ := h
  obtain rfl := Option.some.inj (hg.symm.trans hg0)
  obtain rfl := Option.some.inj (ht.symm.trans ht0)
  obtain ⟨xs, m, rfl, hx, hl, hn, hall⟩ := DataW.trod_array hi hd0
  simp only [Prod.mk.injEq, DataW.agg.injEq] at hx
  obtain ⟨hx1, _⟩ := hx
  have hzl : zs.length = N := by
    have := congrArg List.length hx1
    simp only [List.length_map] at this
    omega
  have hcs : cs0 = (zs.map fun z => Value.int k z).toArray := by
    apply Array.ext'
    apply List.ext_getElem?
    intro i
    by_cases hi' : i < N
    · have hd := hall i hi'
      rw [hc, Nat.mul_one] at hd
      obtain ⟨z, hz⟩ : ∃ z, zs[i]? = some z := ⟨_, List.getElem?_eq_getElem (by omega)⟩
      have hxi : (xs.map (·.1))[i]? = some (.lit (.int k z)) := by
        rw [← hx1, List.getElem?_map, hz]
        rfl
      rw [List.getElem?_map] at hxi
      obtain ⟨y, hy, hy1⟩ := Option.map_eq_some_iff.1 hxi
      rw [hy] at hd
      obtain ⟨n', hcs, rfl, _⟩ := DataW.trod_int he hd
      simp only [DataW.lit.injEq, Lit.int.injEq, true_and] at hy1
      subst hy1
      have h0 : (cs0.toList.drop i)[0]? = some (.int k n') := by
        have h1 : ((cs0.toList.drop i).take 1)[0]? = some (.int k n') := by rw [hcs]; rfl
        rw [List.getElem?_take_of_lt (by omega)] at h1
        exact h1
      rw [List.getElem?_drop, Nat.add_zero] at h0
      rw [h0]
      simp [List.getElem?_map, hz]
    · rw [List.getElem?_eq_none (by omega), List.getElem?_eq_none (by simp; omega)]
  unfold World.var? at hv0
  rw [hg] at hv0
  simp only [Option.bind_some] at hv0
  split at hv0
  · rename_i t fz hcell
    cases hv0
    exact ⟨t, fz, by rw [hcell, hcs]⟩
  · cases hv0
theorem pow_form : (Rows.laid_internal_strconv_uint64pow10 : DataW Unit) = .agg (pow10.map fun z => .lit (.int .u64 z)) := by kernel_rfl
theorem vars_ok (W : World) (h : laidMetH Tryz.prog laidL W) : VarsOk W.heap.size W := by
  rw [MakeChecks.laidMetH_plain _ _ _ (by kernel_rfl)] at h
  have h2 := h.tail.tail
  rw [pow_form] at h2
  obtain ⟨t, fz, hp⟩ := laid_block h2 gPow tP Tryz.underlying245 Tryz.underlying139 cU (by kernel_rfl)
  obtain ⟨a, s, hv, _, _, _⟩ := laid_sentinel h.tail.tail.tail.tail gS tS Tryz.underlying175 rowE Tryz.underlying241 Tryz.underlying243 rfl rfl Tryz.underlying9 cE c9
  obtain ⟨a', s', hv', _, _, _⟩ := laid_sentinel h.tail.tail.tail gE tE Tryz.underlying175 rowE Tryz.underlying241 Tryz.underlying243 rfl rfl Tryz.underlying9 cE c9
  have hc := World.var?_cell gS hv 0
  have hc' : W.cell? ⟨0, 0, none⟩ = some (.iface 241 (.pointer (some a))) := by simpa using hc
  have hd := World.var?_cell gE hv' 0
  have hd' : W.cell? ⟨1, 0, none⟩ = some (.iface 241 (.pointer (some a'))) := by simpa using hd
  refine ⟨?_, ⟨_, _, hc'⟩, ⟨_, _, hd'⟩, t, fz, hp⟩
  rcases Nat.lt_or_ge 2 W.heap.size with h | h
  · exact h
  · rw [Array.getElem?_eq_none h] at hp; cases hp
theorem walSure_spec : LawSpec Rows.walSureSpec 2 := ⟨rfl, fun H ds h => by
  match ds, h with
  | [_, _], _ => rfl⟩
/-- What may come in. -/
def InSure (d : dens [.ty (.slice (.slice (.cons (.int .i64) (.cons (.int .i64) .str)))), .ty (.cons (.int .i64) (.cons (.int .i64) (.int .i64)))]) : Prop := OkP [.ty (.slice (.slice (.cons (.int .i64) (.cons (.int .i64) .str)))), .ty (.cons (.int .i64) (.cons (.int .i64) (.int .i64)))] d
theorem walSure_lifted (hG : ∀ d, InSure d → lWalSure d.1 d.2.1.1 d.2.1.2.1 d.2.1.2.2 = some (true, ())) (os : Os) (started : os.Started) (H : Type) (enc : TypeId × Value → H) :
    ReturnsInHanded {} Tryz.checked os 3 .any (fun w args => (Rows.walSureSpec.pre enc Tryz.prog Tryz.f3 [] false w args ∧ laidMetH Tryz.prog laidL w) ∧ sizedMet enc Tryz.prog Tryz.f3 (OpenSpec.ofChange Rows.walSureSpec) false w args)
      (Rows.walSureSpec.post enc Tryz.prog Tryz.f3 false true false false) :=
  law_laidA (C := Tryz.checked) (F := 8) (bt := 4) (X := fun w => laidMetH Tryz.prog laidL w) os started (fun _ _ hh h => h.of_heap hh) own (by kernel_rfl) Tryz.func3 laidOut (by kernel_rfl) (by kernel_rfl) rfl Tryz.underlying4 walSure_spec
    (ChangeSpec.witness_shaped (enc := enc) (C := Tryz.checked) (os := os) (X := fun w _ => laidMetH Tryz.prog laidL w) false (World.laidAll Tryz.prog os laidL) #[.slice none 0 0, .agg #[.int .i64 0, .int .i64 0, .int .i64 0]] 8 rfl (World.shaped_of_RefB (by kernel_rfl) (by kernel_rfl)) (by kernel_rfl) (by kernel_rfl) (by kernel_rfl)
      (by rw [MakeChecks.laidMetH_plain _ _ _ (by kernel_rfl)]; exact laidMet_laidAll _ (by kernel_rfl) (by kernel_rfl)))
    vars_ok fun xs hxs => law_sim lWalSure_ok (F := 8) (ts := [22, 24]) (by kernel_rfl) (fun d h => hG d h) hxs
theorem walSure_row (hG : ∀ d, InSure d → lWalSure d.1 d.2.1.1 d.2.1.2.1 d.2.1.2.2 = some (true, ())) : Rows.WalSureSaid :=
  OpenClaim.holds_of_wide 3 Tryz.f3 rfl rfl rfl rfl rfl rfl rfl ⟨rfl, rfl, rfl, rfl, rfl⟩ rfl rfl rfl rfl rfl (by kernel_rfl) Tryz.func3 (by kernel_rfl)
    (of_decide_eq_true (by kernel_rfl)) (by unfold Func.isWrapper; first | (rw [if_pos (by decide +kernel)]; kernel_rfl) | (rw [if_neg (by decide +kernel)]; exact ⟨rfl, rfl⟩))
    (fun os started H enc _ => walSure_lifted hG os started H enc)
theorem walSure_card (hG : ∀ d, InSure d → lWalSure d.1 d.2.1.1 d.2.1.2.1 d.2.1.2.2 = some (true, ())) : Rows.WalSureCardSaid :=
  Claim7.holds_tied_plain_at .later [] [.data, .data, .data, .sentinel, .sentinel] true (true, "e8342e7115be1c06c18e20d023a61f1f25a7cbb3d9c876e7f5902a0c1e0ac816") true
    (walSure_row hG) (fun _ h => by cases h) (by kernel_rfl) (fun _ h => by cases h) walSure_row_tie rfl ⟨rfl, rfl⟩ (by kernel_rfl) rfl
    (fun f fn hf hfn => by
      obtain rfl : f = 3 := Option.some.inj ((show Tryz.prog.funcNamed "stowage/stowagelaw05.WalSure" = some 3 by kernel_rfl).symm.trans hf) |>.symm
      obtain rfl : fn = Tryz.f3 := (Option.some.inj (Tryz.func3.symm.trans hfn)).symm
      exact ⟨by kernel_rfl, fun j t ht => by
        rw [Tryz.params3] at ht
        have hm : t ∈ [22, 24] := by simpa using Array.mem_of_getElem? ht
        have hall : ([22, 24].all fun u => !Tryz.prog.wantsStandIn u) = true := by kernel_rfl
        exact (show Tryz.prog.wantsStandIn t = false by simpa using List.all_eq_true.1 hall t hm)⟩)
    (by kernel_rfl)
end Go.Proofs.YthnhbejjikgifaaGreatDoor

/-
  Numbers and texts: what is printed of the program's and the document's is what they are in plain words.
-/
namespace Go.Proofs.YthnhbejjikgifaaGreatDoor.TV
open Go Go.RowKit
set_option linter.unusedSimpArgs false
set_option linter.unusedVariables false
set_option maxRecDepth 100000

theorem two_inl {β γ δ : Type} (b : β) (f : β → Option δ) (g : γ → Option δ) : two (some (.inl b)) f g = f b := rfl
theorem two_inr {β γ δ : Type} (c : γ) (f : β → Option δ) (g : γ → Option δ) : two (some (.inr c)) f g = g c := rfl
theorem w64 {a : Int} (h : -9223372036854775808 ≤ a ∧ a ≤ 9223372036854775807) : IntKind.wrap .i64 a = a := wrap_small h
theorem wu64 {a : Int} (h : 0 ≤ a ∧ a < 18446744073709551616) : IntKind.wrap .u64 a = a := by
  have := wrap_u64 (n := a.toNat) (by omega)
  rw [show ((a.toNat : Nat) : Int) = a by omega] at this
  exact this
theorem or_byte' {m : Nat} : IntKind.wrap .u8 ((BitVec.toNat (BitVec.ofInt 8 (IntKind.wrap .u8 (m : Int)) ||| BitVec.ofInt 8 128) : Nat) : Int) = ((m % 128 + 128 : Nat) : Int) := by
  rw [wrap_u8]
  have := or_byte (m % 256) (by omega)
  rw [show m % 256 % 128 = m % 128 by omega] at this
  exact this
theorem bytesUV_append (a b : List Int) : bytesUV (a ++ b) = bytesUV a ++ bytesUV b := by simp [bytesUV]

theorem oNumber_loop : ∀ (k n : Nat) (acc : List Int), n < 128 ^ (k + 1) → n < 18446744073709551616 → acc.length + k < 1000000 →
    ∃ (m : Nat) (acc' : List Int), loop oNumber_l0 ((n : Int), (acc, ())) = some (.inl ((m : Int), (acc', ()))) ∧ m < 128 ∧ acc'.length ≤ acc.length + k ∧ bytesUV acc' ++ [UInt8.ofNat m] = bytesUV acc ++ num n
  | k, n, acc, h, h64, hl => by
    by_cases hn : n < 128
    · have h1 : ¬ (128 : Int) ≤ (n : Int) := by omega
      refine ⟨n, acc, ?_, hn, by omega, by rw [num_small hn]⟩
      rw [loop_eq]
      simp only [oNumber_l0, cond_if, if_neg h1]
    · have h1 : (128 : Int) ≤ (n : Int) := by omega
      cases k with
      | zero => simp at h; omega
      | succ k =>
        obtain ⟨m, acc', h2, h3, h4, h5⟩ := oNumber_loop k (n / 128) (acc ++ [((n % 128 + 128 : Nat) : Int)]) (by rw [Nat.pow_succ] at h; exact Nat.div_lt_of_lt_mul (by rw [Nat.mul_comm]; exact h)) (by omega) (by simp; omega)
        refine ⟨m, acc', ?_, h3, by simp at h4; omega, ?_⟩
        · rw [loop_eq]
          have h6 : (List.length acc + List.length [((n % 128 + 128 : Nat) : Int)]) * 1 ≤ 140737488355328 := by simp; omega
          have h7 : Int.fdiv (n : Int) 128 = ((n / 128 : Nat) : Int) := by rw [Int.fdiv_eq_ediv_of_nonneg _ (by decide)]; omega
          simp only [oNumber_l0, cond_if, if_pos h1, or_byte', if_pos h6, h7, h2]
        · have h8 : bytesUV [((n % 128 + 128 : Nat) : Int)] = [UInt8.ofNat (n % 128 + 128)] := rfl
          rw [h5, num_big hn, bytesUV_append, h8, List.append_assoc]
          rfl
theorem oNumber_eq' {n : Nat} (h : n < 18446744073709551616) : oNumber (n : Int) = some (num n, ()) := by
  obtain ⟨m, acc', h1, h2, h3, h4⟩ := oNumber_loop 9 n [] (by omega) h (by simp)
  have h5 : (List.length acc' + List.length [((m % 256 : Nat) : Int)]) * 1 ≤ 140737488355328 := by simp at h3 ⊢; omega
  have h6 : m % 256 = m := by omega
  simp only [oNumber_un, oNumber_b, h1, two_inl, cond_if, wrap_u8, if_pos h5]
  rw [bytesUV_append, h6]
  have : bytesUV [((m : Nat) : Int)] = [UInt8.ofNat m] := rfl
  rw [this, h4]
  rfl
theorem oText_eq' {s : List UInt8} (h : s.length < 4611686018427387904) : oText s = some (txt s, ()) := by
  have hl := num_len10 (n := s.length) (by omega)
  simp only [oText_un, oText_b, wrap_u64 (n := s.length) (by omega), oNumber_eq' (n := s.length) (by omega), Option.bind_some, cond_if]
  rw [if_pos (by omega)]
  rfl
theorem and_byte' {c : UInt8} : IntKind.wrap .u8 ((BitVec.toNat (BitVec.ofInt 8 ((c.toNat : Nat) : Int) &&& BitVec.ofInt 8 127) : Nat) : Int) = ((c.toNat % 128 : Nat) : Int) := and_byte c.toNat c.toNat_lt
theorem or64 {a x j : Nat} (ha : a < 2 ^ j) (hs : a + x * 2 ^ j < 18446744073709551616) : IntKind.wrap .u64 ((BitVec.toNat (BitVec.ofInt 64 (a : Int) ||| BitVec.ofInt 64 ((x * 2 ^ j : Nat) : Int)) : Nat) : Int) = ((a + x * 2 ^ j : Nat) : Int) := by
  have h2 : (BitVec.ofInt 64 (a : Int) ||| BitVec.ofInt 64 ((x * 2 ^ j : Nat) : Int)).toNat = a + x * 2 ^ j := by
    rw [BitVec.toNat_or, BitVec.toNat_ofInt, BitVec.toNat_ofInt]
    have e1 : ((a : Int) % ((2 ^ 64 : Nat) : Int)).toNat = a := by omega
    have e2 : (((x * 2 ^ j : Nat) : Int) % ((2 ^ 64 : Nat) : Int)).toNat = x * 2 ^ j := by omega
    rw [e1, e2]
    have := Nat.shiftLeft_add_eq_or_of_lt ha x
    rw [Nat.shiftLeft_eq] at this
    rw [Nat.or_comm, ← this, Nat.add_comm]
  rw [h2, wrap_u64 hs]
/-- What a number's reading answers, as it is told. -/
def trip3 (r : Nat × Nat × Nat) : Int × Int × Int × Unit := ((r.1 : Int), (r.2.1 : Int), (r.2.2 : Int), ())
theorem oReadNumber_loop (S : List UInt8) (a : Nat) (hl : S.length < 4611686018427387904) (ha : a ≤ S.length) : ∀ (n i acc : Nat), i + n = 10 → i ≤ 9 → acc < 128 ^ i →
    two (β := Int × Int × Unit) (γ := Int × Int × Int × Unit) (loop (oReadNumber_l0 S (a : Int)) ((acc : Int), ((i : Int), ()))) (fun _ => some (0, (0, (3, ())))) (fun x => some x) = some (trip3 (rdN (S.drop (a + i)) i (a + i) acc))
  | 0, i, acc, h, hi, _ => by omega
  | n + 1, i, acc, h, hi, hacc => by
    rw [loop_eq]
    have e1 : IntKind.wrap .i64 ((a : Int) + (i : Int)) = ((a + i : Nat) : Int) := by rw [w64 (by omega)]; omega
    have h0 : (i : Int) < 10 := by omega
    by_cases hlen : S.length ≤ a + i
    · have h1 : (S.length : Int) ≤ ((a + i : Nat) : Int) := by omega
      have h2 : S.drop (a + i) = [] := List.drop_of_length_le hlen
      simp only [oReadNumber_l0, cond_if, if_pos h0, e1, if_pos h1, h2, rdN, two_inr]
      rfl
    · have h1 : ¬ (S.length : Int) ≤ ((a + i : Nat) : Int) := by omega
      have h2 : (0 : Int) ≤ ((a + i : Nat) : Int) := by omega
      have hc : S[a + i]? = some S[a + i] := List.getElem?_eq_getElem (by omega)
      have hdrop : S.drop (a + i) = S[a + i] :: S.drop (a + i + 1) := List.drop_eq_getElem_cons (by omega)
      generalize S[a + i] = c at hc hdrop
      have hcb := c.toNat_lt
      have e2 : IntKind.wrap .i64 (7 * (i : Int)) = ((7 * i : Nat) : Int) := by rw [w64 (by omega)]; omega
      have e3 : ¬ ((7 * i : Nat) : Int) < 0 := by omega
      have e4 : Min.min (Int.toNat ((7 * i : Nat) : Int)) 64 = 7 * i := by rw [Int.toNat_natCast]; omega
      have e5 : IntKind.wrap .i64 ((i : Int) + 1) = ((i + 1 : Nat) : Int) := by rw [w64 (by omega)]; omega
      have e6 : IntKind.wrap .i64 (((a + i : Nat) : Int) + 1) = ((a + i + 1 : Nat) : Int) := by rw [w64 (by omega)]; omega
      rw [hdrop]
      -- is the byte refused?
      have hbad : (bif decide ((i : Int) = 9) then (bif decide (1 < ((c.toNat : Nat) : Int)) then some (.inl (true, ())) else (bif decide (0 < (i : Int)) then some (.inl (decide (((c.toNat : Nat) : Int) = 0), ())) else some (.inl (false, ())))) else (bif decide (0 < (i : Int)) then some (.inl (decide (((c.toNat : Nat) : Int) = 0), ())) else some (.inl (false, ()))) : Option ((Bool × Unit) ⊕ Unit)) = some (.inl (decide ((i = 9 ∧ 1 < c.toNat) ∨ (0 < i ∧ c.toNat = 0)), ())) := by
        simp only [cond_if]
        by_cases k1 : i = 9
        · by_cases k2 : 1 < c.toNat
          · have k3 : (1 : Int) < ((c.toNat : Nat) : Int) := by omega
            simp [k1, k2, k3]
          · have k3 : ¬ (1 : Int) < ((c.toNat : Nat) : Int) := by omega
            have k4 : (((c.toNat : Nat) : Int) = 0) ↔ c.toNat = 0 := by omega
            simp [k1, k2, k3, k4]
        · have k3 : ¬ (i : Int) = 9 := by omega
          by_cases k5 : 0 < i
          · have k6 : (0 : Int) < (i : Int) := by omega
            have k4 : (((c.toNat : Nat) : Int) = 0) ↔ c.toNat = 0 := by omega
            simp [k1, k3, k5, k6, k4]
          · have k6 : ¬ (0 : Int) < (i : Int) := by omega
            simp [k1, k3, k5, k6]
      simp only [oReadNumber_l0, cond_if, if_pos h0, e1, if_neg h1, if_pos h2, Int.toNat_natCast, hc, Option.bind_some]
      simp only [← cond_if (p := (i : Int) = 9), ← cond_if (p := (1 : Int) < ((c.toNat : Nat) : Int)), ← cond_if (p := (0 : Int) < (i : Int))]
      rw [hbad]
      simp only [two_inl]
      by_cases hb : (i = 9 ∧ 1 < c.toNat) ∨ (0 < i ∧ c.toNat = 0)
      · simp only [decide_eq_true hb, cond_true, two_inr]
        rw [rdN, if_pos hb]
        rfl
      · simp only [decide_eq_false hb, cond_false, e2, if_neg e3, and_byte', e4, e5, e6]
        have hx : c.toNat % 128 * 2 ^ (7 * i) < 18446744073709551616 ∧ acc + c.toNat % 128 * 2 ^ (7 * i) < 18446744073709551616 ∧ acc + c.toNat % 128 * 128 ^ i < 128 ^ (i + 1) := by
          rw [← pow128]
          have hm : c.toNat % 128 ≤ 127 := by omega
          have h3 : c.toNat % 128 * 128 ^ i ≤ 127 * 128 ^ i := Nat.mul_le_mul_right _ hm
          have h4 : 128 ^ (i + 1) = 128 ^ i * 128 := Nat.pow_succ ..
          by_cases k1 : i = 9
          · subst k1
            have : ¬ 1 < c.toNat := fun k => hb (.inl ⟨rfl, k⟩)
            have : c.toNat % 128 ≤ 1 := by omega
            have h5 : c.toNat % 128 * 128 ^ 9 ≤ 1 * 128 ^ 9 := Nat.mul_le_mul_right _ this
            omega
          · have h5 : 128 ^ (i + 1) ≤ 128 ^ 9 := Nat.pow_le_pow_right (by decide) (by omega)
            omega
        obtain ⟨hx1, hx2, hx3⟩ := hx
        have e7 : ((c.toNat % 128 : Nat) : Int) * 2 ^ (7 * i) = ((c.toNat % 128 * 2 ^ (7 * i) : Nat) : Int) := by simp
        have e8 : IntKind.wrap .u64 ((c.toNat % 128 : Nat) : Int) = ((c.toNat % 128 : Nat) : Int) := wrap_u64 (by omega)
        rw [e8, e7, wrap_u64 hx1, or64 (by rw [← pow128]; exact hacc) hx2]
        rw [rdN, if_neg hb]
        by_cases hc8 : c.toNat < 128
        · have k : ((c.toNat : Nat) : Int) < 128 := by omega
          simp only [if_pos k, two_inr, if_pos hc8]
          rw [pow128]
          rfl
        · have k : ¬ ((c.toNat : Nat) : Int) < 128 := by omega
          simp only [if_neg k, if_neg hc8]
          have hi8 : i + 1 ≤ 9 := by
            by_cases k1 : i = 9
            · have : ¬ 1 < c.toNat := fun k => hb (.inl ⟨k1, k⟩)
              omega
            · omega
          have := oReadNumber_loop S a hl ha n (i + 1) (acc + c.toNat % 128 * 2 ^ (7 * i)) (by omega) hi8 (by rw [← pow128]; exact hx3)
          rw [this, pow128]
          rfl
theorem oReadNumber_eq' {S : List UInt8} {a : Nat} (hl : S.length < 4611686018427387904) : oReadNumber S (a : Int) = some (trip3 (rdAt S a)) := by
  rw [oReadNumber_un, oReadNumber_b, rdAt]
  simp only [cond_if]
  rw [if_neg (by omega)]
  by_cases ha : S.length < a
  · rw [if_pos (by omega), if_pos (by omega)]
    rfl
  · rw [if_neg (by omega), if_neg (by omega)]
    have := oReadNumber_loop S a hl (by omega) 10 0 0 (by omega) (by omega) (by simp)
    exact this

/-! ### The document's -/
def trip4 (r : List UInt8 × Nat × Nat) : List UInt8 × Int × Int × Unit := (r.1, (r.2.1 : Int), (r.2.2 : Int), ())
theorem oReadText_eq' {S : List UInt8} {a : Nat} (hl : S.length < 4611686018427387904) : oReadText S (a : Int) = some (trip4 (rdT S a)) := by
  rw [oReadText_un, oReadText_b, oReadNumber_eq' hl]
  obtain ⟨hn, hk, he⟩ := rdAt_lt S a
  simp only [rdT, trip3, Option.bind_some]
  generalize rdAt S (a : Int) = x at hn hk he ⊢
  obtain ⟨n, k, e⟩ := x
  simp only at hn hk he ⊢
  by_cases h0 : e = 0
  · have h1 : ((e : Nat) : Int) = 0 := by omega
    have h2 : IntKind.wrap .u64 (IntKind.wrap .i64 ((S.length : Int) - (k : Int))) = ((S.length - k : Nat) : Int) := by
      rw [w64 (by omega), show (S.length : Int) - (k : Int) = ((S.length - k : Nat) : Int) by omega, wrap_u64 (by omega)]
    simp only [h1, decide_true, Bool.not_true, cond_false, h2, h0, ne_eq, not_true_eq_false, if_false]
    by_cases h3 : S.length - k < n
    · have h4 : ((S.length - k : Nat) : Int) < (n : Int) := by omega
      simp only [decide_eq_true h4, cond_true, if_pos h3]
      rfl
    · have h4 : ¬ ((S.length - k : Nat) : Int) < (n : Int) := by omega
      have h5 : IntKind.wrap .i64 ((k : Int) + IntKind.wrap .i64 (n : Int)) = ((k + n : Nat) : Int) := by
        rw [w64 (a := (n : Int)) (by omega), w64 (by omega)]; omega
      have h6 : within S.length (some (k : Int)) (some ((k + n : Nat) : Int)) = true := by
        simp only [within, decide_eq_true_eq]; omega
      simp only [decide_eq_false h4, cond_false, h5, h6, cond_true, if_neg h3, cut, Int.toNat_natCast]
      rfl
  · have h1 : ¬ ((e : Nat) : Int) = 0 := by omega
    simp only [decide_eq_false h1, Bool.not_false, cond_true, ne_eq, h0, not_false_eq_true, if_true]
    rfl
theorem oErr_eq' {e : Int} : oErr e = some (e, ()) := oErr_un e
theorem oRdNumber_eq' {S : List UInt8} {r : Nat × Nat} {most : Nat} (hl : S.length < 4611686018427387904) : oRdNumber (most : Int) S (r.1 : Int) (r.2 : Int) = some (((rdNum S r most).2 : Int), (((rdNum S r most).1.1 : Int), (((rdNum S r most).1.2 : Int), ()))) := by
  rw [oRdNumber_un, oRdNumber_b, oErr_eq', Option.bind_some, oReadNumber_eq' hl, rdNum]
  by_cases h0 : r.2 = 0
  · have h1 : ((r.2 : Nat) : Int) = 0 := by omega
    simp only [h1, decide_true, Bool.not_true, cond_false, h0, ne_eq, not_true_eq_false, if_false, trip3, Option.bind_some]
    generalize rdAt S (r.1 : Int) = x
    obtain ⟨n, k, e⟩ := x
    simp only
    by_cases h2 : e = 0
    · have h3 : ((e : Nat) : Int) = 0 := by omega
      simp only [h3, decide_true, Bool.not_true, cond_false, cond_true, h2, not_true_eq_false, if_false]
      by_cases h4 : most < n
      · have h5 : (most : Int) < (n : Int) := by omega
        simp only [decide_eq_true h5, cond_true, if_pos h4]
        rfl
      · have h5 : ¬ (most : Int) < (n : Int) := by omega
        simp only [decide_eq_false h5, cond_false, if_neg h4]
        rfl
    · have h3 : ¬ ((e : Nat) : Int) = 0 := by omega
      simp only [decide_eq_false h3, Bool.not_false, cond_false, cond_true, h2, not_false_eq_true, if_true]
      rfl
  · have h1 : ¬ ((r.2 : Nat) : Int) = 0 := by omega
    simp only [decide_eq_false h1, Bool.not_false, cond_true, ne_eq, h0, not_false_eq_true, if_true]
    rfl
theorem oRdInt_eq' {S : List UInt8} {r : Nat × Nat} {most : Nat} (hl : S.length < 4611686018427387904) (hm : most < 9223372036854775808) : oRdInt (most : Int) S (r.1 : Int) (r.2 : Int) = some (((rdNum S r most).2 : Int), (((rdNum S r most).1.1 : Int), (((rdNum S r most).1.2 : Int), ()))) := by
  have h1 : ¬ (most : Int) < 0 := by omega
  have h2 := rdNum_le S r most
  rw [oRdInt_un, oRdInt_b]
  simp only [decide_eq_false h1, cond_false, wrap_u64 (n := most) (by omega), oRdNumber_eq' hl, Option.bind_some]
  rw [w64 (by omega)]
theorem oRdText_eq' {S : List UInt8} {r : Nat × Nat} {most : Nat} (hl : S.length < 4611686018427387904) : oRdText (most : Int) S (r.1 : Int) (r.2 : Int) = some ((rdTxt S r most).2, (((rdTxt S r most).1.1 : Int), (((rdTxt S r most).1.2 : Int), ()))) := by
  rw [oRdText_un, oRdText_b, oErr_eq', Option.bind_some, oReadText_eq' hl, rdTxt]
  by_cases h0 : r.2 = 0
  · have h1 : ((r.2 : Nat) : Int) = 0 := by omega
    simp only [h1, decide_true, Bool.not_true, cond_false, h0, ne_eq, not_true_eq_false, if_false, trip4, Option.bind_some]
    generalize rdT S r.1 = x
    obtain ⟨n, k, e⟩ := x
    simp only
    by_cases h2 : e = 0
    · have h3 : ((e : Nat) : Int) = 0 := by omega
      simp only [h3, decide_true, Bool.not_true, cond_false, cond_true, h2, not_true_eq_false, if_false]
      by_cases h4 : most < n.length
      · have h5 : (most : Int) < (n.length : Int) := by omega
        simp only [decide_eq_true h5, cond_true, if_pos h4]
        rfl
      · have h5 : ¬ (most : Int) < (n.length : Int) := by omega
        simp only [decide_eq_false h5, cond_false, if_neg h4]
        rfl
    · have h3 : ¬ ((e : Nat) : Int) = 0 := by omega
      simp only [decide_eq_false h3, Bool.not_false, cond_false, cond_true, h2, not_false_eq_true, if_true]
      rfl
  · have h1 : ¬ ((r.2 : Nat) : Int) = 0 := by omega
    simp only [decide_eq_false h1, Bool.not_false, cond_true, ne_eq, h0, not_false_eq_true, if_true]
theorem oRdEnd_eq' {S : List UInt8} {r : Nat × Nat} : oRdEnd S (r.1 : Int) (r.2 : Int) = some (((rdEnd S r).2 : Int), (((rdEnd S r).2 : Int), ())) := by
  rw [oRdEnd_un, oRdEnd_b, oErr_eq', Option.bind_some, rdEnd]
  simp only [oErr_eq', Option.bind_some]
  by_cases h0 : r.2 = 0
  · have h1 : ((r.2 : Nat) : Int) = 0 := by omega
    by_cases h2 : r.1 < S.length
    · have h3 : ((r.1 : Nat) : Int) < (S.length : Int) := by omega
      simp only [h1, decide_true, cond_true, decide_eq_true h3, if_pos (And.intro h0 h2)]
      rfl
    · have h3 : ¬ ((r.1 : Nat) : Int) < (S.length : Int) := by omega
      rw [if_neg (fun h => h2 h.2)]
      simp only [h1, decide_true, cond_true, decide_eq_false h3, cond_false]
  · have h1 : ¬ ((r.2 : Nat) : Int) = 0 := by omega
    rw [if_neg (fun h => h0 h.1)]
    simp only [decide_eq_false h1, cond_false]

/-- The document's reader, as it is told. -/
def rd3 (S : List UInt8) (r : Nat × Nat) : List UInt8 × Int × Int := (S, ((r.1 : Int), (r.2 : Int)))
end Go.Proofs.YthnhbejjikgifaaGreatDoor.TV

/-
  Numbers and texts: what is told is read again (as in the seat of raft).
-/
namespace Go.Proofs.YthnhbejjikgifaaGreatDoor.TV
open Go Go.RowKit
set_option linter.unusedSimpArgs false
set_option linter.unusedVariables false
set_option maxRecDepth 100000

theorem rdT_txt {S rest d : List UInt8} {a : Nat} (h : S.drop a = txt d ++ rest) (hd : d.length < 18446744073709551616) : rdT S a = (d, a + (txt d).length, 0) := by
  have h1 : S.drop a = num d.length ++ (d ++ rest) := by rw [h, txt, List.append_assoc]
  have h2 := rdAt_num h1 hd
  have hlen : S.length - a = (txt d).length + rest.length := by rw [← List.length_drop, h, List.length_append]
  have htl : (txt d).length = (num d.length).length + d.length := by simp [txt]
  have hp := num_pos d.length
  have h4 : S.drop (a + (num d.length).length) = d ++ rest := by rw [← List.drop_drop, h1, List.drop_left]
  unfold rdT
  simp only [h2, ne_eq, not_true_eq_false, if_false]
  rw [if_neg (by omega), List.drop_take, h4, show a + (num d.length).length + d.length - (a + (num d.length).length) = d.length by omega, List.take_left, htl, Nat.add_assoc]
theorem rdT_inv {S : List UInt8} {a : Nat} (h : (rdT S a).2.2 = 0) : (rdT S a).2.1 = a + (txt (rdT S a).1).length ∧ S.drop a = txt (rdT S a).1 ++ S.drop (rdT S a).2.1 ∧ (rdT S a).2.1 ≤ S.length := by
  revert h
  unfold rdT
  rcases hx : rdAt S a with ⟨n, k, e⟩
  simp only
  split
  · intro h; simp only at h; contradiction
  · rename_i h0
    split
    · intro h; cases h
    · rename_i h1
      intro _
      simp only
      have h0 : e = 0 := by omega
      subst h0
      obtain ⟨h2, h3, h4, h5⟩ := rdAt_inv hx
      have h6 : ((S.take (k + n)).drop k).length = n := by simp; omega
      have h7 : (S.take (k + n)).drop k = (S.drop k).take n := by rw [List.drop_take, show k + n - k = n by omega]
      refine ⟨?_, ?_, by omega⟩
      · rw [txt, List.length_append, h6]; omega
      · rw [txt, h6, h3, h7, List.append_assoc]
        congr 1
        rw [← List.drop_drop, List.take_append_drop]
theorem rdTxt_txt {S rest d : List UInt8} {a most : Nat} (h : S.drop a = txt d ++ rest) (hm : d.length ≤ most) (hd : most < 18446744073709551616) : rdTxt S (a, 0) most = ((a + (txt d).length, 0), d) := by
  have h1 := rdT_txt h (by omega)
  simp only [rdTxt, h1, ne_eq, not_true_eq_false, if_false]
  rw [if_neg (by omega)]
theorem rdTxt_inv {S : List UInt8} {r : Nat × Nat} {most : Nat} (h : (rdTxt S r most).1.2 = 0) :
    r.2 = 0 ∧ (rdTxt S r most).1.1 = r.1 + (txt (rdTxt S r most).2).length ∧ S.drop r.1 = txt (rdTxt S r most).2 ++ S.drop (rdTxt S r most).1.1 ∧ (rdTxt S r most).2.length ≤ most ∧ (rdTxt S r most).1.1 ≤ S.length := by
  revert h
  unfold rdTxt
  split
  · intro h; simp only at h; contradiction
  · rename_i h0
    simp only
    have hi := @rdT_inv S r.1
    generalize rdT S r.1 = x at hi
    obtain ⟨d, k, e⟩ := x
    simp only at hi ⊢
    split
    · intro h; simp only at h; contradiction
    · rename_i he
      split
      · intro h; cases h
      · rename_i h1
        intro _
        simp only
        obtain ⟨h2, h3, h4⟩ := hi (by omega)
        exact ⟨by omega, h2, h3, by omega, h4⟩
def yesN (b : Bool) : Nat := if b then 1 else 0
theorem rdBool_num {S rest : List UInt8} {a : Nat} {b : Bool} (h : S.drop a = num (yesN b) ++ rest) : rdBool S (a, 0) = ((a + (num (yesN b)).length, 0), b) := by
  have h1 := rdNum_num (most := 1) h (by cases b <;> simp [yesN]) (by omega)
  simp only [rdBool, h1, ne_eq, not_true_eq_false, if_false]
  cases b <;> simp [yesN]
theorem rdBool_inv {S : List UInt8} {r : Nat × Nat} (h : (rdBool S r).1.2 = 0) :
    r.2 = 0 ∧ (rdBool S r).1.1 = r.1 + (num (yesN (rdBool S r).2)).length ∧ S.drop r.1 = num (yesN (rdBool S r).2) ++ S.drop (rdBool S r).1.1 := by
  revert h
  unfold rdBool
  split
  · intro h; simp only at h; contradiction
  · rename_i h0
    simp only
    intro h
    have h1 : (rdNum S r 1).1.2 = 0 := by
      split at h
      · cases h
      · exact h
    obtain ⟨h2, h3, h4, h5⟩ := rdNum_inv h1
    have h6 : yesN ((rdNum S r 1).2 == 1) = (rdNum S r 1).2 := by
      have : (rdNum S r 1).2 = 0 ∨ (rdNum S r 1).2 = 1 := by omega
      rcases this with h7 | h7 <;> rw [h7] <;> rfl
    rw [h6]
    exact ⟨h2, h3, h4⟩
theorem rdEnd_inv {S : List UInt8} {r : Nat × Nat} (h : (rdEnd S r).2 = 0) : r.2 = 0 ∧ S.length ≤ r.1 := by
  revert h
  unfold rdEnd
  split
  · intro h; cases h
  · rename_i h0
    intro h
    exact ⟨h, by omega⟩

/-! ### Rows of numbers -/
/-- Numbers are taken, each of them up to the same. -/
def rdMany (S : List UInt8) (most : Nat) : Nat → Nat × Nat → (Nat × Nat) × List Int
  | 0, r => (r, [])
  | n + 1, r => let x := rdMany S most n (rdNum S r most).1; (x.1, ((rdNum S r most).2 : Int) :: x.2)
def numsB (l : List Int) : List UInt8 := l.flatMap fun z => num z.toNat
theorem rdMany_nums {S : List UInt8} {most : Nat} (hm : most < 18446744073709551616) : ∀ {l : List Int} {rest : List UInt8} {a : Nat}, S.drop a = numsB l ++ rest → (∀ z ∈ l, 0 ≤ z ∧ z ≤ most) → rdMany S most l.length (a, 0) = ((a + (numsB l).length, 0), l)
  | [], rest, a, _, _ => by simp [rdMany, numsB]
  | z :: l, rest, a, h, hz => by
    have h0 := hz z (by simp)
    have h1 : S.drop a = num z.toNat ++ (numsB l ++ rest) := by rw [h]; simp [numsB]
    have h2 := rdNum_num (most := most) h1 (by omega) hm
    have h3 : S.drop (a + (num z.toNat).length) = numsB l ++ rest := by rw [← List.drop_drop, h1, List.drop_left]
    have h4 := rdMany_nums hm h3 fun y hy => hz y (by simp [hy])
    simp only [rdMany, List.length_cons, h2, h4]
    have h5 : ((z.toNat : Nat) : Int) = z := by omega
    rw [h5]
    simp [numsB, Nat.add_assoc]
theorem rdMany_inv {S : List UInt8} {most : Nat} : ∀ {n : Nat} {r : Nat × Nat}, (rdMany S most n r).1.2 = 0 → r.2 = 0 ∧ (rdMany S most n r).1.1 = r.1 + (numsB (rdMany S most n r).2).length ∧ S.drop r.1 = numsB (rdMany S most n r).2 ++ S.drop (rdMany S most n r).1.1 ∧ ∀ z ∈ (rdMany S most n r).2, 0 ≤ z ∧ z ≤ most
  | 0, r, h => ⟨h, by simp [rdMany, numsB], by simp [rdMany, numsB], fun z hz => by simp [rdMany] at hz⟩
  | n + 1, r, h => by
    simp only [rdMany] at h ⊢
    obtain ⟨h1, h2, h3, h4⟩ := rdMany_inv h
    obtain ⟨h5, h6, h7, h8⟩ := rdNum_inv h1
    refine ⟨h5, ?_, ?_, fun z hz => ?_⟩
    · rw [h2, h6]; simp [numsB]; omega
    · rw [h7, h3]; simp [numsB]
    · rcases List.mem_cons.1 hz with rfl | hz
      · omega
      · exact h4 z hz
theorem rdMany_length {S : List UInt8} {most : Nat} : ∀ (n : Nat) (r : Nat × Nat), (rdMany S most n r).2.length = n
  | 0, r => rfl
  | n + 1, r => by simp [rdMany, rdMany_length n]
end Go.Proofs.YthnhbejjikgifaaGreatDoor.TV

/-
  WAL: frames in plain words: what is framed is found again; what was cut off is not.
-/
namespace Go.Proofs.YthnhbejjikgifaaGreatDoor.TV
open Go Go.RowKit
set_option linter.unusedSimpArgs false
set_option linter.unusedVariables false
set_option maxRecDepth 100000

/-! ### Loops -/
theorem loop_spec {σ ρ : Type} (f : σ → Option (Rnd σ ρ)) (I : σ → Prop) (μ : σ → Nat) (Q : σ ⊕ ρ → Prop)
    (step : ∀ st, I st → (∃ st', f st = some (.next st') ∧ I st' ∧ μ st' < μ st) ∨ (∃ st', f st = some (.out st') ∧ Q (.inl st')) ∨ (∃ r, f st = some (.ret r) ∧ Q (.inr r))) (st : σ) (h : I st) : ∃ r, loop f st = some r ∧ Q r := by
  have key : ∀ n st, μ st = n → I st → ∃ r, loop f st = some r ∧ Q r := by
    intro n
    induction n using Nat.strongRecOn with
    | _ n ih =>
      intro st hn hI
      rcases step st hI with ⟨st', h1, h2, h3⟩ | ⟨st', h1, h2⟩ | ⟨r, h1, h2⟩
      · obtain ⟨r, h4, h5⟩ := ih (μ st') (by omega) st' rfl h2
        exact ⟨r, by rw [loop_eq, h1]; exact h4, h5⟩
      · exact ⟨_, by rw [loop_eq, h1], h2⟩
      · exact ⟨_, by rw [loop_eq, h1], h2⟩
  exact key _ st rfl h
theorem nat_at {α : Type} {l : List α} {i : Nat} : l[Int.toNat (i : Int)]? = l[i]? := by rw [Int.toNat_natCast]
theorem wsucc {i : Nat} (h : i < 9223372036854775807) : IntKind.wrap .i64 ((i : Int) + 1) = ((i + 1 : Nat) : Int) := by rw [w64 (by omega)]; omega

/-! ### The sum -/
theorem more_l1 (x : Int) : ∃ y, loop mMore_l1 (x, (0, ())) = some (.inl (y, (8, ()))) := by
  obtain ⟨r, h1, y, h2⟩ := loop_spec mMore_l1 (fun st => ∃ (x : Int) (i : Nat), st = (x, ((i : Int), ())) ∧ i ≤ 8) (fun st => 8 - st.2.1.toNat) (fun r => ∃ y, r = .inl (y, (8, ()))) (fun st hst => by
    obtain ⟨x, i, rfl, hi⟩ := hst
    by_cases h : i < 8
    · left
      have h0 : (i : Int) < 8 := by omega
      refine ⟨_, by simp only [mMore_l1, cond_if, if_pos h0]; rfl, ⟨_, i + 1, by rw [wsucc (by omega)], by omega⟩, ?_⟩
      simp only [wsucc (i := i) (by omega), Int.toNat_natCast]
      omega
    · right; left
      have h0 : ¬ (i : Int) < 8 := by omega
      have : i = 8 := by omega
      subst this
      exact ⟨_, by simp only [mMore_l1, cond_if, if_neg h0]; rfl, x, rfl⟩) (x, (0, ())) ⟨x, 0, rfl, by omega⟩
  exact ⟨y, by rw [h1, h2]⟩
theorem more_tot (x : Int) (s : List UInt8) (hs : s.length < 4611686018427387904) : ∃ y, mMore x s = some (y, ()) := by
  obtain ⟨r, h1, y, i, h2⟩ := loop_spec (mMore_l0 s) (fun st => ∃ (x : Int) (i : Nat), st = (x, ((i : Int), ())) ∧ i ≤ s.length) (fun st => s.length - st.2.1.toNat) (fun r => ∃ y i, r = .inl (y, (i, ()))) (fun st hst => by
    obtain ⟨x, i, rfl, hi⟩ := hst
    by_cases h : i < s.length
    · left
      have h0 : (i : Int) < (s.length : Int) := by omega
      have h1 : (0 : Int) ≤ (i : Int) := by omega
      obtain ⟨y, hy⟩ := more_l1 (IntKind.wrap .u32 (↑(BitVec.toNat (BitVec.ofInt 32 x ^^^ BitVec.ofInt 32 (IntKind.wrap .u32 (↑(UInt8.toNat s[i]) : Int)))) : Int))
      refine ⟨(y, (((i + 1 : Nat) : Int), ())), ?_, ⟨_, i + 1, rfl, by omega⟩, ?_⟩
      · simp only [mMore_l0, cond_if, if_pos h0, if_pos h1, nat_at, List.getElem?_eq_getElem h, Option.bind_some, hy, two_inl, wsucc (i := i) (by omega)]
      · simp only [Int.toNat_natCast]
        omega
    · right; left
      have h0 : ¬ (i : Int) < (s.length : Int) := by omega
      exact ⟨_, by simp only [mMore_l0, cond_if, if_neg h0]; rfl, x, _, rfl⟩) (x, (0, ())) ⟨x, 0, rfl, by omega⟩
  subst h2
  have h1 : loop (mMore_l0 s) (x, (0, ())) = some (.inl (y, (i, ()))) := h1
  exact ⟨y, by rw [mMore_un, mMore_b, h1, two_inl]⟩
noncomputable def moreV (x : Int) (s : List UInt8) : Int := ((mMore x s).getD (0, ())).1
theorem more_eq {x : Int} {s : List UInt8} (hs : s.length < 4611686018427387904) : mMore x s = some (moreV x s, ()) := by
  obtain ⟨y, hy⟩ := more_tot x s hs
  unfold moreV
  rw [hy]
  rfl
noncomputable def crcOf (body : List UInt8) : Nat := BitVec.toNat (BitVec.ofInt 32 4294967295 ^^^ BitVec.ofInt 32 (moreV (moreV 4294967295 (be4 body.length)) body))
theorem crc_lt (body : List UInt8) : crcOf body < 4294967296 := BitVec.isLt _
theorem wrap_u32 {n : Nat} (h : n < 4294967296) : IntKind.wrap .u32 (n : Int) = (n : Int) := by
  unfold IntKind.wrap
  simp [IntKind.min, IntKind.max, IntKind.bits, IntKind.signed]
  omega

/-! ### Frames -/
/-- A body's frame. -/
noncomputable def frm (body : List UInt8) : List UInt8 := be4 body.length ++ (be4 (crcOf body) ++ body)
theorem frm_length (body : List UInt8) : (frm body).length = 8 + body.length := by simp [frm, be4_length]; omega
theorem frame_eq {body : List UInt8} (h : body.length ≤ 262144) : mFrame body = some (frm body, (0, ())) := by
  have h0 : ¬ (262144 : Int) < (body.length : Int) := by omega
  have hc := crc_lt body
  have e1 : wide4 (IntKind.wrap .u64 (body.length : Int)) = some (be4 body.length) := by rw [wrap_u64 (by omega)]; exact wide4_eq (by omega)
  have e2 : wide4 (IntKind.wrap .u64 (IntKind.wrap .u32 ((BitVec.toNat (BitVec.ofInt 32 4294967295 ^^^ BitVec.ofInt 32 (moreV (moreV 4294967295 (be4 body.length)) body)) : Nat) : Int))) = some (be4 (crcOf body)) := by
    show wide4 (IntKind.wrap .u64 (IntKind.wrap .u32 (crcOf body : Int))) = _
    rw [wrap_u32 hc, wrap_u64 (by omega)]
    exact wide4_eq hc
  rw [mFrame_un, mFrame_b]
  simp only [cond_if, if_neg h0, e1, Option.bind_some, more_eq (s := be4 body.length) (by rw [be4_length]; omega), more_eq (s := body) (by omega), e2]
  rw [if_pos (by rw [be4_length, be4_length]; omega), if_pos (by rw [List.length_append, be4_length, be4_length]; omega)]
  simp [frm]

/-! ### Reading four bytes -/
def de4 : List UInt8 → Nat
  | [a, b, c, d] => a.toNat * 16777216 + b.toNat * 65536 + c.toNat * 256 + d.toNat
  | _ => 0
theorem de4_be4 {n : Nat} (h : n < 4294967296) : de4 (be4 n) = n := by
  have e : ∀ m : Nat, (UInt8.ofNat (m % 256)).toNat = m % 256 := fun m => u8_ofNat (Nat.mod_lt _ (by decide))
  simp only [be4, de4, e]
  omega
theorem or_step {x : Nat} {c : UInt8} (h : x < 16777216) : IntKind.wrap .u64 ((BitVec.toNat (BitVec.ofInt 64 (IntKind.wrap .u64 ((x : Int) * 256)) ||| BitVec.ofInt 64 (IntKind.wrap .u64 ((c.toNat : Nat) : Int))) : Nat) : Int) = ((x * 256 + c.toNat : Nat) : Int) := by
  have hc := c.toNat_lt
  have e1 : IntKind.wrap .u64 ((x : Int) * 256) = ((x * 2 ^ 8 : Nat) : Int) := by
    have : (x : Int) * 256 = ((x * 256 : Nat) : Int) := by omega
    rw [this, wrap_u64 (by omega)]
  have e2 : IntKind.wrap .u64 ((c.toNat : Nat) : Int) = ((c.toNat : Nat) : Int) := wrap_u64 (by omega)
  rw [e1, e2, BitVec.or_comm, or64 (a := c.toNat) (x := x) (j := 8) (by omega) (by omega)]
  congr 1
  omega
theorem readWide_loop {s : List UInt8} {a : Nat} {p q r t : UInt8} {rest : List UInt8} (h : s.drop a = p :: q :: r :: t :: rest) (hl : s.length < 4611686018427387904) :
    loop (oReadWide_l0 s (a : Int) 4) (0, (0, ())) = some (.inl (((de4 [p, q, r, t] : Nat) : Int), (4, ()))) := by
  have hp := p.toNat_lt
  have hq := q.toNat_lt
  have hr := r.toNat_lt
  have ht := t.toNat_lt
  have hla : a + 4 ≤ s.length := by
    have := congrArg List.length h
    simp only [List.length_drop, List.length_cons] at this
    omega
  have g : ∀ i c, (s.drop a)[i]? = some c → s[a + i]? = some c := fun i c hi => by rw [List.getElem?_drop] at hi; exact hi
  have g0 := g 0 p (by rw [h]; rfl)
  have g1 := g 1 q (by rw [h]; rfl)
  have g2 := g 2 r (by rw [h]; rfl)
  have g3 := g 3 t (by rw [h]; rfl)
  have step : ∀ (x i : Nat) (c : UInt8), i < 4 → x < 16777216 → s[a + i]? = some c → oReadWide_l0 s (a : Int) 4 ((x : Int), ((i : Int), ())) = some (.next (((x * 256 + c.toNat : Nat) : Int), (((i + 1 : Nat) : Int), ()))) := fun x i c hi hx hc => by
    have h0 : (i : Int) < 4 := by omega
    have e1 : IntKind.wrap .i64 ((a : Int) + (i : Int)) = ((a + i : Nat) : Int) := by rw [w64 (by omega)]; omega
    have h1 : (0 : Int) ≤ ((a + i : Nat) : Int) := by omega
    simp only [oReadWide_l0, cond_if, if_pos h0, e1, if_pos h1, nat_at, hc, Option.bind_some, or_step hx, wsucc (i := i) (by omega)]
  have z : ((0 : Int), ((0 : Int), ())) = ((((0 : Nat) : Int)), (((0 : Nat) : Int), ())) := rfl
  rw [z, loop_eq, step 0 0 p (by omega) (by omega) g0]
  simp only
  rw [loop_eq, step _ 1 q (by omega) (by omega) g1]
  simp only
  rw [loop_eq, step _ 2 r (by omega) (by omega) g2]
  simp only
  rw [loop_eq, step _ 3 t (by omega) (by omega) g3]
  simp only
  rw [loop_eq]
  have h4 : ¬ (((3 + 1 : Nat) : Int)) < 4 := by omega
  simp only [oReadWide_l0, cond_if, if_neg h4]
  congr 3
  simp only [de4]
  omega
theorem readWide_eq {s : List UInt8} {a : Nat} {w rest : List UInt8} (h : s.drop a = w ++ rest) (hw : w.length = 4) (hl : s.length < 4611686018427387904) :
    oReadWide s (a : Int) 4 = some (((de4 w : Nat) : Int), (((a + 4 : Nat) : Int), (0, ()))) := by
  match w, hw with
  | [p, q, r, t], _ =>
    have hlen := congrArg List.length h
    simp only [List.length_drop, List.length_append, List.length_cons, List.length_nil] at hlen
    have hloop := readWide_loop (p := p) (q := q) (r := r) (t := t) (rest := rest) (by rw [h]; rfl) hl
    have c1 : ¬ (4 : Int) < 1 := by decide
    have c2 : ¬ (8 : Int) < 4 := by decide
    have c3 : ¬ (a : Int) < 0 := by omega
    have c4 : ¬ (s.length : Int) < (a : Int) := by omega
    have c5 : ¬ IntKind.wrap .i64 ((s.length : Int) - (a : Int)) < 4 := by rw [w64 (by omega)]; omega
    have e1 : IntKind.wrap .i64 ((a : Int) + 4) = ((a + 4 : Nat) : Int) := by rw [w64 (by omega)]; omega
    rw [oReadWide_un, oReadWide_b]
    simp only [cond_if, if_neg c1, if_neg c2, if_neg c3, two_inl, c4, decide_false, Bool.false_eq_true, if_false, if_neg c5, hloop, e1]
    rfl
theorem readWide_short {s : List UInt8} {a : Nat} (ha : a ≤ s.length) (h : s.length < a + 4) (hl : s.length < 4611686018427387904) :
    oReadWide s (a : Int) 4 = some (0, (0, (5, ()))) := by
  have c1 : ¬ (4 : Int) < 1 := by decide
  have c2 : ¬ (8 : Int) < 4 := by decide
  have c3 : ¬ (a : Int) < 0 := by omega
  have c4 : ¬ (s.length : Int) < (a : Int) := by omega
  have c5 : IntKind.wrap .i64 ((s.length : Int) - (a : Int)) < 4 := by rw [w64 (by omega)]; omega
  rw [oReadWide_un, oReadWide_b]
  simp only [cond_if, if_neg c1, if_neg c2, if_neg c3, two_inl, c4, decide_false, Bool.false_eq_true, if_false, if_pos c5]
  rfl
theorem cut_drop {s w rest : List UInt8} {a n : Nat} (h : s.drop a = w ++ rest) (hn : w.length = n) : cut s (some (a : Int)) (some ((a + n : Nat) : Int)) = w := by
  subst hn
  simp only [cut, Int.toNat_natCast]
  rw [List.drop_take, h, show a + w.length - a = w.length by omega, List.take_left']
  rfl
/-- A frame is found. -/
theorem unframe_eq {s body rest : List UInt8} {a : Nat} (h : s.drop a = frm body ++ rest) (hb : body.length ≤ 262144) (hl : s.length < 4611686018427387904) :
    mUnframe s (a : Int) = some (body, (((a + (frm body).length : Nat) : Int), (0, ()))) := by
  have hc := crc_lt body
  have hlen := congrArg List.length h
  rw [List.length_drop, List.length_append, frm_length] at hlen
  have h1 : s.drop a = be4 body.length ++ (be4 (crcOf body) ++ body ++ rest) := by rw [h, frm]; simp
  have h2 : s.drop (a + 4) = be4 (crcOf body) ++ (body ++ rest) := by
    rw [← List.drop_drop, h1, List.drop_append_of_le_length (by rw [be4_length]; omega)]
    have : (be4 body.length).drop 4 = [] := rfl
    rw [this]
    simp
  have h3 : s.drop (a + 4 + 4) = body ++ rest := by
    rw [← List.drop_drop, h2, List.drop_append_of_le_length (by rw [be4_length]; omega)]
    have : (be4 (crcOf body)).drop 4 = [] := rfl
    rw [this]
    simp
  have r1 := readWide_eq h1 (be4_length _) hl
  rw [de4_be4 (by omega)] at r1
  have r2 := readWide_eq h2 (be4_length _) hl
  rw [de4_be4 hc] at r2
  have c0 : (!decide ((0 : Int) = 0)) = false := rfl
  have c1 : ¬ (262144 : Int) < (body.length : Int) := by omega
  have w1 : IntKind.wrap .i64 (body.length : Int) = (body.length : Int) := w64 (by omega)
  have w2 : IntKind.wrap .i64 (4 + (body.length : Int)) = 4 + (body.length : Int) := w64 (by omega)
  have w3 : IntKind.wrap .i64 ((s.length : Int) - ((a + 4 : Nat) : Int)) = (s.length : Int) - ((a + 4 : Nat) : Int) := w64 (by omega)
  have c2 : ¬ (s.length : Int) - ((a + 4 : Nat) : Int) < 4 + (body.length : Int) := by omega
  have w4 : IntKind.wrap .i64 (((a + 4 + 4 : Nat) : Int) + (body.length : Int)) = ((a + 4 + 4 + body.length : Nat) : Int) := by rw [w64 (by omega)]; omega
  have c3 : within s.length (some ((a + 4 + 4 : Nat) : Int)) (some ((a + 4 + 4 + body.length : Nat) : Int)) = true := by simp only [within, decide_eq_true_eq]; omega
  have c4 : within s.length (some (a : Int)) (some ((a + 4 : Nat) : Int)) = true := by simp only [within, decide_eq_true_eq]; omega
  have e1 : cut s (some (a : Int)) (some ((a + 4 : Nat) : Int)) = be4 body.length := cut_drop h1 (be4_length _)
  have e2 : cut s (some ((a + 4 + 4 : Nat) : Int)) (some ((a + 4 + 4 + body.length : Nat) : Int)) = body := cut_drop h3 rfl
  have e3 : IntKind.wrap .u32 ((crcOf body : Nat) : Int) = IntKind.wrap .u32 ((BitVec.toNat (BitVec.ofInt 32 4294967295 ^^^ BitVec.ofInt 32 (moreV (moreV 4294967295 (be4 body.length)) body)) : Nat) : Int) := rfl
  rw [mUnframe_un, mUnframe_b]
  simp only [r1, Option.bind_some, c0, cond_false, cond_if, if_neg c1, w1, w2, w3, if_neg c2, r2, w4, c3, cond_true, c4, e1, more_eq (s := be4 body.length) (by rw [be4_length]; omega), e2, more_eq (s := body) (by omega), ← e3, decide_true, Bool.not_true, if_true, Bool.false_eq_true, if_false]
  rw [frm_length]
  congr 3
  omega
/-- A frame of which not all is there is none. -/
theorem unframe_short {s body q rest : List UInt8} {a : Nat} (h : s.drop a = q) (hq : q ++ rest = frm body) (hne : rest ≠ []) (ha : a ≤ s.length) (hb : body.length ≤ 262144) (hl : s.length < 4611686018427387904) :
    mUnframe s (a : Int) = some ([], (0, (5, ()))) := by
  have hlen := congrArg List.length h
  rw [List.length_drop] at hlen
  have hql : q.length < 8 + body.length := by
    have := congrArg List.length hq
    rw [List.length_append, frm_length] at this
    have : 0 < rest.length := List.length_pos_iff.2 hne
    omega
  have c5 : (!decide ((5 : Int) = 0)) = true := rfl
  by_cases h4 : q.length < 4
  · have r1 := readWide_short ha (by omega) hl
    rw [mUnframe_un, mUnframe_b]
    simp only [r1, Option.bind_some, c5, cond_true]
  · have hq4 : q.take 4 = be4 body.length := by
      have := congrArg (List.take 4) hq
      rw [List.take_append_of_le_length (by omega), frm, List.take_append_of_le_length (by rw [be4_length]; omega)] at this
      rw [this]
      rfl
    have h1 : s.drop a = be4 body.length ++ q.drop 4 := by rw [h, ← hq4, List.take_append_drop]
    have r1 := readWide_eq h1 (be4_length _) hl
    rw [de4_be4 (by omega)] at r1
    have c0 : (!decide ((0 : Int) = 0)) = false := rfl
    have c1 : ¬ (262144 : Int) < (body.length : Int) := by omega
    have w1 : IntKind.wrap .i64 (body.length : Int) = (body.length : Int) := w64 (by omega)
    have w2 : IntKind.wrap .i64 (4 + (body.length : Int)) = 4 + (body.length : Int) := w64 (by omega)
    have w3 : IntKind.wrap .i64 ((s.length : Int) - ((a + 4 : Nat) : Int)) = (s.length : Int) - ((a + 4 : Nat) : Int) := w64 (by omega)
    have c2 : (s.length : Int) - ((a + 4 : Nat) : Int) < 4 + (body.length : Int) := by omega
    rw [mUnframe_un, mUnframe_b]
    simp only [r1, Option.bind_some, c0, cond_false, cond_if, if_neg c1, w1, w2, w3, if_pos c2, Bool.false_eq_true, if_false]
    rfl
end Go.Proofs.YthnhbejjikgifaaGreatDoor.TV
