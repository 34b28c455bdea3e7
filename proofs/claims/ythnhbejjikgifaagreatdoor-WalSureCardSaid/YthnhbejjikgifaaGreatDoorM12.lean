/-
  DISK: what is sure, the power's failing, changes, names, printed. (5 texts, one behind the other)
-/
import Derived.Test.YthnhbejjikgifaaGreatDoorM10
import Derived.Test.YthnhbejjikgifaaGreatDoorM11
import Derived.Test.YthnhbejjikgifaaGreatDoorM09
import Derived.Shelf.SortM.Plain
import Derived.Shelf.SortM.SortNone

namespace Go.Proofs.YthnhbejjikgifaaGreatDoor.TV
open Go Go.RowKit
set_option linter.unusedVariables false
set_option maxRecDepth 1000000





set_option maxRecDepth 100000 in
theorem fClone_ok : FnOk Tryz.prog 39 ⟨[.ty (.slice (.cons (.int .i64) (.cons (.int .i64) (.int .i64))))], [], [], [.ty (.slice (.cons (.int .i64) (.cons (.int .i64) (.int .i64))))], [], []⟩ fun d => cloneU 24 d.1 :=
  clone_ok follows named (tabU_ok .nil) (C := ⟨[], [], []⟩) (fuel := 100) Tryz.func39 rfl (t := .cons (.int .i64) (.cons (.int .i64) (.int .i64))) (F := cloneU 24) (by kernel_rfl) (fun l => by kernel_rfl)
noncomputable def fClone_s : FuncId × Spec := (39, callOf ⟨[.ty (.slice (.cons (.int .i64) (.cons (.int .i64) (.int .i64))))], [], [], [.ty (.slice (.cons (.int .i64) (.cons (.int .i64) (.int .i64))))], [], []⟩ fun d => cloneU 24 d.1)
theorem fClone_o : SpecOk Tryz.prog fClone_s.1 fClone_s.2 := spec_ok fClone_ok
def dDown_g : Sig := ⟨[.ptr 0], [([.ign, .ign, .ign, .ign, .ro (.ty (.bool)), .ign, .ign], 70)], [.val 0], [.ty (.bool)], [], []⟩
def dDown_c : Cuts := ⟨[], [], []⟩
noncomputable def dDown_t : List (FuncId × Spec) := []
noncomputable def dDown_b (down : Bool) : (Option (Bool × Unit)) := some (down, ())
noncomputable def dDown (down : Bool) : (Option (Bool × Unit)) := stuck (dDown_b down)
theorem dDown_un (down : Bool) : dDown down = dDown_b down := stuck_eq _
theorem dDown_k : TabOk Tryz.prog dDown_t := .nil
theorem dDown_eq (d : dens dDown_g.inP) : fnU Tryz.prog (tabU dDown_t) dDown_c 100 dDown_g Tryz.f11 (Tryz.f11.body.getD .skip) d = dDown_b d.2.2.2.2.2.1 := by kernel_rfl
theorem dDown_ok : FnOk Tryz.prog 11 dDown_g fun d => dDown d.2.2.2.2.2.1 := (fn_ok follows named (tabU_ok dDown_k) Tryz.func11 rfl).congr fun d => (dDown_eq d).trans (stuck_eq _).symm
noncomputable def dDown_s : FuncId × Spec := (11, callOf dDown_g fun d => dDown d.2.2.2.2.2.1)
theorem dDown_o : SpecOk Tryz.prog dDown_s.1 dDown_s.2 := spec_ok dDown_ok
def dUp_g : Sig := ⟨[.ptr 0], [([.ign, .ign, .ign, .ign, .rw (.ty (.bool)) (.ty (.bool)), .ign, .ign], 70)], [.val 0], [.ty (.bool)], [], []⟩
def dUp_c : Cuts := ⟨[], [], []⟩
noncomputable def dUp_t : List (FuncId × Spec) := []
noncomputable def dUp_b (down : Bool) : (Option (Bool × (Bool × Unit))) := some (down, (false, ()))
noncomputable def dUp (down : Bool) : (Option (Bool × (Bool × Unit))) := stuck (dUp_b down)
theorem dUp_un (down : Bool) : dUp down = dUp_b down := stuck_eq _
theorem dUp_k : TabOk Tryz.prog dUp_t := .nil
theorem dUp_eq (d : dens dUp_g.inP) : fnU Tryz.prog (tabU dUp_t) dUp_c 100 dUp_g Tryz.f16 (Tryz.f16.body.getD .skip) d = dUp_b d.2.2.2.2.2.1 := by kernel_rfl
theorem dUp_ok : FnOk Tryz.prog 16 dUp_g fun d => dUp d.2.2.2.2.2.1 := (fn_ok follows named (tabU_ok dUp_k) Tryz.func16 rfl).congr fun d => (dUp_eq d).trans (stuck_eq _).symm
noncomputable def dUp_s : FuncId × Spec := (16, callOf dUp_g fun d => dUp d.2.2.2.2.2.1)
theorem dUp_o : SpecOk Tryz.prog dUp_s.1 dUp_s.2 := spec_ok dUp_ok
def dChanges_g : Sig := ⟨[.ptr 0], [([.ign, .ign, .ign, .ro (.ty (.int .i64)), .ign, .ign, .ign], 70)], [.val 0], [.ty (.int .i64)], [], []⟩
def dChanges_c : Cuts := ⟨[], [], []⟩
noncomputable def dChanges_t : List (FuncId × Spec) := []
noncomputable def dChanges_b (count : Int) : (Option (Int × Unit)) := some (count, ())
noncomputable def dChanges (count : Int) : (Option (Int × Unit)) := stuck (dChanges_b count)
theorem dChanges_un (count : Int) : dChanges count = dChanges_b count := stuck_eq _
theorem dChanges_k : TabOk Tryz.prog dChanges_t := .nil
theorem dChanges_eq (d : dens dChanges_g.inP) : fnU Tryz.prog (tabU dChanges_t) dChanges_c 100 dChanges_g Tryz.f10 (Tryz.f10.body.getD .skip) d = dChanges_b d.2.2.2.2.1 := by kernel_rfl
theorem dChanges_ok : FnOk Tryz.prog 10 dChanges_g fun d => dChanges d.2.2.2.2.1 := (fn_ok follows named (tabU_ok dChanges_k) Tryz.func10 rfl).congr fun d => (dChanges_eq d).trans (stuck_eq _).symm
noncomputable def dChanges_s : FuncId × Spec := (10, callOf dChanges_g fun d => dChanges d.2.2.2.2.1)
theorem dChanges_o : SpecOk Tryz.prog dChanges_s.1 dChanges_s.2 := spec_ok dChanges_ok
def dWaits_g : Sig := ⟨[.ptr 0], [([.ign, .ign, .ro (.ty (.slice (.cons (.int .i64) (.cons (.str) (.cons (.str) (.cons (.str) (.int .i64))))))), .ign, .ign, .ign, .ign], 70)], [.val 0], [.ty (.int .i64)], [], []⟩
def dWaits_c : Cuts := ⟨[], [], []⟩
noncomputable def dWaits_t : List (FuncId × Spec) := []
noncomputable def dWaits_b (wait : (List (Int × ((List UInt8) × ((List UInt8) × ((List UInt8) × Int)))))) : (Option (Int × Unit)) := some ((↑(List.length wait) : Int), ())
noncomputable def dWaits (wait : (List (Int × ((List UInt8) × ((List UInt8) × ((List UInt8) × Int)))))) : (Option (Int × Unit)) := stuck (dWaits_b wait)
theorem dWaits_un (wait : (List (Int × ((List UInt8) × ((List UInt8) × ((List UInt8) × Int)))))) : dWaits wait = dWaits_b wait := stuck_eq _
theorem dWaits_k : TabOk Tryz.prog dWaits_t := .nil
theorem dWaits_eq (d : dens dWaits_g.inP) : fnU Tryz.prog (tabU dWaits_t) dWaits_c 100 dWaits_g Tryz.f26 (Tryz.f26.body.getD .skip) d = dWaits_b d.2.2.2.1 := by kernel_rfl
theorem dWaits_ok : FnOk Tryz.prog 26 dWaits_g fun d => dWaits d.2.2.2.1 := (fn_ok follows named (tabU_ok dWaits_k) Tryz.func26 rfl).congr fun d => (dWaits_eq d).trans (stuck_eq _).symm
noncomputable def dWaits_s : FuncId × Spec := (26, callOf dWaits_g fun d => dWaits d.2.2.2.1)
theorem dWaits_o : SpecOk Tryz.prog dWaits_s.1 dWaits_s.2 := spec_ok dWaits_ok
def dPlan_g : Sig := ⟨[.ptr 0, .ty (.slice (.cons (.int .i64) (.cons (.int .i64) (.int .i64))))], [([.ign, .ign, .ign, .ign, .ign, .rw (.ty (.slice (.cons (.int .i64) (.cons (.int .i64) (.int .i64))))) (.ty (.slice (.cons (.int .i64) (.cons (.int .i64) (.int .i64))))), .ign], 70)], [.val 0], [], [], []⟩
def dPlan_c : Cuts := ⟨[], [], []⟩
noncomputable def dPlan_t : List (FuncId × Spec) := [fClone_s]
noncomputable def dPlan_b (l : (List (Int × (Int × Int)))) (falls : (List (Int × (Int × Int)))) : (Option ((List (Int × (Int × Int))) × Unit)) := ((cloneU 24 l).bind fun (x1, _) => some (x1, ()))
noncomputable def dPlan (l : (List (Int × (Int × Int)))) (falls : (List (Int × (Int × Int)))) : (Option ((List (Int × (Int × Int))) × Unit)) := stuck (dPlan_b l falls)
theorem dPlan_un (l : (List (Int × (Int × Int)))) (falls : (List (Int × (Int × Int)))) : dPlan l falls = dPlan_b l falls := stuck_eq _
theorem dPlan_k : TabOk Tryz.prog dPlan_t := .cons fClone_o (.nil)
theorem dPlan_eq (d : dens dPlan_g.inP) : fnU Tryz.prog (tabU dPlan_t) dPlan_c 100 dPlan_g Tryz.f9 (Tryz.f9.body.getD .skip) d = dPlan_b d.2.1 d.2.2.2.2.2.2.2.1 := by kernel_rfl
theorem dPlan_ok : FnOk Tryz.prog 9 dPlan_g fun d => dPlan d.2.1 d.2.2.2.2.2.2.2.1 := (fn_ok follows named (tabU_ok dPlan_k) Tryz.func9 rfl).congr fun d => (dPlan_eq d).trans (stuck_eq _).symm
noncomputable def dPlan_s : FuncId × Spec := (9, callOf dPlan_g fun d => dPlan d.2.1 d.2.2.2.2.2.2.2.1)
theorem dPlan_o : SpecOk Tryz.prog dPlan_s.1 dPlan_s.2 := spec_ok dPlan_ok
def dSync_g : Sig := ⟨[.ptr 0], [([.rw (.omap (.str)) (.omap (.str)), .rw (.omap (.str)) (.omap (.str)), .rw (.gsl (.cons (.int .i64) (.cons (.str) (.cons (.str) (.cons (.str) (.int .i64))))) 92) (.gsl (.cons (.int .i64) (.cons (.str) (.cons (.str) (.cons (.str) (.int .i64))))) 92), .ign, .ro (.ty (.bool)), .ign, .ign], 70)], [.val 0], [.ty (.int .i64)], [], []⟩
def dSync_c : Cuts := ⟨[], [], []⟩
noncomputable def dSync_t : List (FuncId × Spec) := [dAsk_s, mapClone_s]
noncomputable def dSync_b (sure : (List ((List UInt8) × (List UInt8)))) (now : (List ((List UInt8) × (List UInt8)))) (wait : (List (Int × ((List UInt8) × ((List UInt8) × ((List UInt8) × Int)))))) (down : Bool) : (Option (Int × ((List ((List UInt8) × (List UInt8))) × ((List ((List UInt8) × (List UInt8))) × ((List (Int × ((List UInt8) × ((List UInt8) × ((List UInt8) × Int))))) × Unit))))) := ((dAsk [] down).bind fun (x1, _) => (bif !decide (x1 = 0) then some (x1, (sure, (now, (wait, ())))) else some (0, (now, (now, ([], ()))))))
noncomputable def dSync (sure : (List ((List UInt8) × (List UInt8)))) (now : (List ((List UInt8) × (List UInt8)))) (wait : (List (Int × ((List UInt8) × ((List UInt8) × ((List UInt8) × Int)))))) (down : Bool) : (Option (Int × ((List ((List UInt8) × (List UInt8))) × ((List ((List UInt8) × (List UInt8))) × ((List (Int × ((List UInt8) × ((List UInt8) × ((List UInt8) × Int))))) × Unit))))) := stuck (dSync_b sure now wait down)
theorem dSync_un (sure : (List ((List UInt8) × (List UInt8)))) (now : (List ((List UInt8) × (List UInt8)))) (wait : (List (Int × ((List UInt8) × ((List UInt8) × ((List UInt8) × Int)))))) (down : Bool) : dSync sure now wait down = dSync_b sure now wait down := stuck_eq _
theorem dSync_k : TabOk Tryz.prog dSync_t := .cons dAsk_o (.cons mapClone_o (.nil))
theorem dSync_eq (d : dens dSync_g.inP) : fnU Tryz.prog (tabU dSync_t) dSync_c 100 dSync_g Tryz.f45 (Tryz.f45.body.getD .skip) d = dSync_b d.2.1 d.2.2.1 d.2.2.2.1 d.2.2.2.2.2.1 := by kernel_rfl
theorem dSync_ok : FnOk Tryz.prog 45 dSync_g fun d => dSync d.2.1 d.2.2.1 d.2.2.2.1 d.2.2.2.2.2.1 := (fn_ok follows named (tabU_ok dSync_k) Tryz.func45 rfl).congr fun d => (dSync_eq d).trans (stuck_eq _).symm
noncomputable def dSync_s : FuncId × Spec := (45, callOf dSync_g fun d => dSync d.2.1 d.2.2.1 d.2.2.2.1 d.2.2.2.2.2.1)
theorem dSync_o : SpecOk Tryz.prog dSync_s.1 dSync_s.2 := spec_ok dSync_ok
def dFail_g : Sig := ⟨[.ptr 0, .ty (.int .i64), .ty (.int .i64)], [([.rw (.omap (.str)) (.omap (.str)), .rw (.omap (.str)) (.omap (.str)), .rw (.gsl (.cons (.int .i64) (.cons (.str) (.cons (.str) (.cons (.str) (.int .i64))))) 92) (.gsl (.cons (.int .i64) (.cons (.str) (.cons (.str) (.cons (.str) (.int .i64))))) 92), .ign, .rw (.ty (.bool)) (.ty (.bool)), .ign, .ign], 70)], [.val 0], [], [], []⟩
def dFail_c : Cuts := ⟨[(0, ⟨[(26, .ty (.int .i64))], [(0, 0, .omap (.str))], [], [(0, 0, .omap (.str))]⟩)], [], []⟩
noncomputable def dFail_t : List (FuncId × Spec) := [dDown_s, dDo_s, mapClone_s]
noncomputable def dFail_l0 (keep : Int) (wait : (List (Int × ((List UInt8) × ((List UInt8) × ((List UInt8) × Int)))))) : (Int × ((List ((List UInt8) × (List UInt8))) × Unit)) → Option (Rnd (Int × ((List ((List UInt8) × (List UInt8))) × Unit)) ((List ((List UInt8) × (List UInt8))) × Unit)) := fun (x2, (x3, _)) => (bif decide (x2 < (↑(List.length (cut wait Option.none (Option.some (if (↑(List.length wait) : Int) < if 0 > keep then 0 else keep then (↑(List.length wait) : Int) else if 0 > keep then 0 else keep)))) : Int)) then (bif decide (0 ≤ x2) then (((cut wait Option.none (Option.some (if (↑(List.length wait) : Int) < if 0 > keep then 0 else keep then (↑(List.length wait) : Int) else if 0 > keep then 0 else keep)))[Int.toNat x2]?).bind fun (x4, (x5, (x6, (x7, x8)))) => (bif decide (x4 = 0) then (bif decide (List.length (Option.getD (mget x5 x3) []) + List.length x7 ≤ 9223372036854775807) then some (.next (IntKind.wrap .i64 (x2 + 1), (mset x5 (Option.getD (mget x5 x3) [] ++ x7) x3, ()))) else none) else (bif decide (x4 = 1) then some (.next (IntKind.wrap .i64 (x2 + 1), (mset x5 x7 x3, ()))) else (bif decide (x4 = 2) then some (.next (IntKind.wrap .i64 (x2 + 1), (mdel x5 (mset x6 (Option.getD (mget x5 x3) []) x3), ()))) else (bif decide (x4 = 3) then some (.next (IntKind.wrap .i64 (x2 + 1), (mdel x5 x3, ()))) else (bif decide (x4 = 4) then (bif within (List.length (Option.getD (mget x5 x3) [])) Option.none (Option.some x8) then some (.next (IntKind.wrap .i64 (x2 + 1), (mset x5 (cut (Option.getD (mget x5 x3) []) Option.none (Option.some x8)) x3, ()))) else none) else some (.next (IntKind.wrap .i64 (x2 + 1), (x3, ()))))))))) else none) else some (.out (x2, (x3, ()))))
noncomputable def dFail_b (keep : Int) (torn : Int) (sure : (List ((List UInt8) × (List UInt8)))) (now : (List ((List UInt8) × (List UInt8)))) (wait : (List (Int × ((List UInt8) × ((List UInt8) × ((List UInt8) × Int)))))) (down : Bool) : (Option ((List ((List UInt8) × (List UInt8))) × ((List ((List UInt8) × (List UInt8))) × ((List (Int × ((List UInt8) × ((List UInt8) × ((List UInt8) × Int))))) × (Bool × Unit))))) := ((dDown down).bind fun (x1, _) => (bif x1 then some (sure, (now, (wait, (down, ())))) else (bif within (List.length wait) Option.none (Option.some (if (↑(List.length wait) : Int) < if 0 > keep then 0 else keep then (↑(List.length wait) : Int) else if 0 > keep then 0 else keep)) then (two (β := (Int × ((List ((List UInt8) × (List UInt8))) × Unit))) (γ := ((List ((List UInt8) × (List UInt8))) × Unit)) (loop (dFail_l0 keep wait) (0, (sure, ()))) (fun (x10, (x11, _)) => (bif decide ((if (↑(List.length wait) : Int) < if 0 > keep then 0 else keep then (↑(List.length wait) : Int) else if 0 > keep then 0 else keep) < (↑(List.length wait) : Int)) then (bif decide (0 < torn) then (bif decide (0 ≤ if (↑(List.length wait) : Int) < if 0 > keep then 0 else keep then (↑(List.length wait) : Int) else if 0 > keep then 0 else keep) then ((wait[Int.toNat (if (↑(List.length wait) : Int) < if 0 > keep then 0 else keep then (↑(List.length wait) : Int) else if 0 > keep then 0 else keep)]?).bind fun (x12, (x13, (x14, (x15, x16)))) => (bif decide (x12 = 0) then (bif within (List.length x15) Option.none (Option.some (if (↑(List.length x15) : Int) < torn then (↑(List.length x15) : Int) else torn)) then (bif decide (x12 = 0) then (bif decide (List.length (Option.getD (mget x13 x11) []) + List.length (cut x15 Option.none (Option.some (if (↑(List.length x15) : Int) < torn then (↑(List.length x15) : Int) else torn))) ≤ 9223372036854775807) then some (mset x13 (Option.getD (mget x13 x11) [] ++ cut x15 Option.none (Option.some (if (↑(List.length x15) : Int) < torn then (↑(List.length x15) : Int) else torn))) x11, (mset x13 (Option.getD (mget x13 x11) [] ++ cut x15 Option.none (Option.some (if (↑(List.length x15) : Int) < torn then (↑(List.length x15) : Int) else torn))) x11, ([], (true, ())))) else none) else (bif decide (x12 = 1) then some (mset x13 (cut x15 Option.none (Option.some (if (↑(List.length x15) : Int) < torn then (↑(List.length x15) : Int) else torn))) x11, (mset x13 (cut x15 Option.none (Option.some (if (↑(List.length x15) : Int) < torn then (↑(List.length x15) : Int) else torn))) x11, ([], (true, ())))) else (bif decide (x12 = 2) then some (mdel x13 (mset x14 (Option.getD (mget x13 x11) []) x11), (mdel x13 (mset x14 (Option.getD (mget x13 x11) []) x11), ([], (true, ())))) else (bif decide (x12 = 3) then some (mdel x13 x11, (mdel x13 x11, ([], (true, ())))) else (bif decide (x12 = 4) then (bif within (List.length (Option.getD (mget x13 x11) [])) Option.none (Option.some x16) then some (mset x13 (cut (Option.getD (mget x13 x11) []) Option.none (Option.some x16)) x11, (mset x13 (cut (Option.getD (mget x13 x11) []) Option.none (Option.some x16)) x11, ([], (true, ())))) else none) else some (x11, (x11, ([], (true, ()))))))))) else none) else (bif decide (x12 = 1) then (bif within (List.length x15) Option.none (Option.some (if (↑(List.length x15) : Int) < torn then (↑(List.length x15) : Int) else torn)) then (bif decide (x12 = 0) then (bif decide (List.length (Option.getD (mget x13 x11) []) + List.length (cut x15 Option.none (Option.some (if (↑(List.length x15) : Int) < torn then (↑(List.length x15) : Int) else torn))) ≤ 9223372036854775807) then some (mset x13 (Option.getD (mget x13 x11) [] ++ cut x15 Option.none (Option.some (if (↑(List.length x15) : Int) < torn then (↑(List.length x15) : Int) else torn))) x11, (mset x13 (Option.getD (mget x13 x11) [] ++ cut x15 Option.none (Option.some (if (↑(List.length x15) : Int) < torn then (↑(List.length x15) : Int) else torn))) x11, ([], (true, ())))) else none) else (bif decide (x12 = 1) then some (mset x13 (cut x15 Option.none (Option.some (if (↑(List.length x15) : Int) < torn then (↑(List.length x15) : Int) else torn))) x11, (mset x13 (cut x15 Option.none (Option.some (if (↑(List.length x15) : Int) < torn then (↑(List.length x15) : Int) else torn))) x11, ([], (true, ())))) else (bif decide (x12 = 2) then some (mdel x13 (mset x14 (Option.getD (mget x13 x11) []) x11), (mdel x13 (mset x14 (Option.getD (mget x13 x11) []) x11), ([], (true, ())))) else (bif decide (x12 = 3) then some (mdel x13 x11, (mdel x13 x11, ([], (true, ())))) else (bif decide (x12 = 4) then (bif within (List.length (Option.getD (mget x13 x11) [])) Option.none (Option.some x16) then some (mset x13 (cut (Option.getD (mget x13 x11) []) Option.none (Option.some x16)) x11, (mset x13 (cut (Option.getD (mget x13 x11) []) Option.none (Option.some x16)) x11, ([], (true, ())))) else none) else some (x11, (x11, ([], (true, ()))))))))) else none) else some (x11, (x11, ([], (true, ()))))))) else none) else some (x11, (x11, ([], (true, ()))))) else some (x11, (x11, ([], (true, ())))))) (fun (x17, _) => some (x17, (now, (wait, (down, ())))))) else none)))
noncomputable def dFail (keep : Int) (torn : Int) (sure : (List ((List UInt8) × (List UInt8)))) (now : (List ((List UInt8) × (List UInt8)))) (wait : (List (Int × ((List UInt8) × ((List UInt8) × ((List UInt8) × Int)))))) (down : Bool) : (Option ((List ((List UInt8) × (List UInt8))) × ((List ((List UInt8) × (List UInt8))) × ((List (Int × ((List UInt8) × ((List UInt8) × ((List UInt8) × Int))))) × (Bool × Unit))))) := stuck (dFail_b keep torn sure now wait down)
theorem dFail_un (keep : Int) (torn : Int) (sure : (List ((List UInt8) × (List UInt8)))) (now : (List ((List UInt8) × (List UInt8)))) (wait : (List (Int × ((List UInt8) × ((List UInt8) × ((List UInt8) × Int)))))) (down : Bool) : dFail keep torn sure now wait down = dFail_b keep torn sure now wait down := stuck_eq _
theorem dFail_k : TabOk Tryz.prog dFail_t := .cons dDown_o (.cons dDo_o (.cons mapClone_o (.nil)))
theorem dFail_eq (d : dens dFail_g.inP) : fnU Tryz.prog (tabU dFail_t) dFail_c 100 dFail_g Tryz.f15 (Tryz.f15.body.getD .skip) d = dFail_b d.2.1 d.2.2.1 d.2.2.2.1 d.2.2.2.2.1 d.2.2.2.2.2.1 d.2.2.2.2.2.2.2.1 := by kernel_rfl
theorem dFail_ok : FnOk Tryz.prog 15 dFail_g fun d => dFail d.2.1 d.2.2.1 d.2.2.2.1 d.2.2.2.2.1 d.2.2.2.2.2.1 d.2.2.2.2.2.2.2.1 := (fn_ok follows named (tabU_ok dFail_k) Tryz.func15 rfl).congr fun d => (dFail_eq d).trans (stuck_eq _).symm
noncomputable def dFail_s : FuncId × Spec := (15, callOf dFail_g fun d => dFail d.2.1 d.2.2.1 d.2.2.2.1 d.2.2.2.2.1 d.2.2.2.2.2.1 d.2.2.2.2.2.2.2.1)
theorem dFail_o : SpecOk Tryz.prog dFail_s.1 dFail_s.2 := spec_ok dFail_ok
def dChange_g : Sig := ⟨[.ptr 0, .ty (.cons (.int .i64) (.cons (.str) (.cons (.str) (.cons (.str) (.int .i64)))))], [([.rw (.omap (.str)) (.omap (.str)), .rw (.omap (.str)) (.omap (.str)), .rw (.gsl (.cons (.int .i64) (.cons (.str) (.cons (.str) (.cons (.str) (.int .i64))))) 92) (.gsl (.cons (.int .i64) (.cons (.str) (.cons (.str) (.cons (.str) (.int .i64))))) 92), .rw (.ty (.int .i64)) (.ty (.int .i64)), .rw (.ty (.bool)) (.ty (.bool)), .rw (.ty (.slice (.cons (.int .i64) (.cons (.int .i64) (.int .i64))))) (.ty (.slice (.cons (.int .i64) (.cons (.int .i64) (.int .i64))))), .ign], 70)], [.val 0], [.ty (.int .i64)], [], []⟩
def dChange_c : Cuts := ⟨[(0, ⟨[(12, .ty (.int .i64))], [(0, 0, .omap (.str)), (0, 1, .omap (.str)), (0, 2, .gsl (.cons (.int .i64) (.cons (.str) (.cons (.str) (.cons (.str) (.int .i64))))) 92), (0, 4, .ty (.bool)), (0, 5, .ty (.slice (.cons (.int .i64) (.cons (.int .i64) (.int .i64)))))], [(4, .ty (.int .i64))], [(0, 0, .omap (.str)), (0, 1, .omap (.str)), (0, 2, .gsl (.cons (.int .i64) (.cons (.str) (.cons (.str) (.cons (.str) (.int .i64))))) 92), (0, 4, .ty (.bool)), (0, 5, .ty (.slice (.cons (.int .i64) (.cons (.int .i64) (.int .i64)))))]⟩)], [], []⟩
noncomputable def dChange_t : List (FuncId × Spec) := [fallClone_s, fallDel_s, dFail_s, dDo_s]
noncomputable def dChange_l0 (c_kind : Int) (c_name : (List UInt8)) (c_to : (List UInt8)) (c_s : (List UInt8)) (c_long : Int) (count : Int) (falls : (List (Int × (Int × Int)))) : (Int × ((List ((List UInt8) × (List UInt8))) × ((List ((List UInt8) × (List UInt8))) × ((List (Int × ((List UInt8) × ((List UInt8) × ((List UInt8) × Int))))) × (Bool × ((List (Int × (Int × Int))) × Unit)))))) → Option (Rnd (Int × ((List ((List UInt8) × (List UInt8))) × ((List ((List UInt8) × (List UInt8))) × ((List (Int × ((List UInt8) × ((List UInt8) × ((List UInt8) × Int))))) × (Bool × ((List (Int × (Int × Int))) × Unit)))))) (Int × ((List ((List UInt8) × (List UInt8))) × ((List ((List UInt8) × (List UInt8))) × ((List (Int × ((List UInt8) × ((List UInt8) × ((List UInt8) × Int))))) × (Bool × ((List (Int × (Int × Int))) × Unit))))))) := fun (x1, (x2, (x3, (x4, (x5, (x6, _)))))) => (bif decide (x1 < (↑(List.length falls) : Int)) then (bif decide (0 ≤ x1) then ((falls[Int.toNat x1]?).bind fun (x7, (x8, x9)) => (bif decide (x7 = count) then (bif decide (List.length x6 = 1) then (bif decide (x1 = 0) then (bif decide (IntKind.wrap .i64 (x1 + 1) = 1) then (bif decide (List.length x6 = 1) then (bif decide ((List.length x4 + 1) * 64 ≤ 140737488355328) then ((dFail x8 x9 x2 x3 (x4 ++ [(c_kind, c_name, c_to, c_s, c_long)]) x5).bind fun (x10, (x11, (x12, (x13, _)))) => some (.ret (21, (x10, (x11, (x12, (x13, ([], ())))))))) else none) else none) else none) else none) else none) else some (.next (IntKind.wrap .i64 (x1 + 1), (x2, (x3, (x4, (x5, (x6, ()))))))))) else none) else some (.out (x1, (x2, (x3, (x4, (x5, (x6, ()))))))))
noncomputable def dChange_b (c_kind : Int) (c_name : (List UInt8)) (c_to : (List UInt8)) (c_s : (List UInt8)) (c_long : Int) (sure : (List ((List UInt8) × (List UInt8)))) (now : (List ((List UInt8) × (List UInt8)))) (wait : (List (Int × ((List UInt8) × ((List UInt8) × ((List UInt8) × Int)))))) (count : Int) (down : Bool) (falls : (List (Int × (Int × Int)))) : (Option (Int × ((List ((List UInt8) × (List UInt8))) × ((List ((List UInt8) × (List UInt8))) × ((List (Int × ((List UInt8) × ((List UInt8) × ((List UInt8) × Int))))) × (Int × (Bool × ((List (Int × (Int × Int))) × Unit)))))))) := (two (β := (Int × ((List ((List UInt8) × (List UInt8))) × ((List ((List UInt8) × (List UInt8))) × ((List (Int × ((List UInt8) × ((List UInt8) × ((List UInt8) × Int))))) × (Bool × ((List (Int × (Int × Int))) × Unit))))))) (γ := (Int × ((List ((List UInt8) × (List UInt8))) × ((List ((List UInt8) × (List UInt8))) × ((List (Int × ((List UInt8) × ((List UInt8) × ((List UInt8) × Int))))) × (Bool × ((List (Int × (Int × Int))) × Unit))))))) (loop (dChange_l0 c_kind c_name c_to c_s c_long count falls) (0, (sure, (now, (wait, (down, (falls, ()))))))) (fun (x15, (x16, (x17, (x18, (x19, (x20, _)))))) => (bif decide ((List.length x18 + 1) * 64 ≤ 140737488355328) then (bif decide (c_kind = 0) then (bif decide (List.length (Option.getD (mget c_name x17) []) + List.length c_s ≤ 9223372036854775807) then some (0, (x16, (mset c_name (Option.getD (mget c_name x17) [] ++ c_s) x17, (x18 ++ [(c_kind, c_name, c_to, c_s, c_long)], (IntKind.wrap .i64 (count + 1), (x19, (x20, ()))))))) else none) else (bif decide (c_kind = 1) then some (0, (x16, (mset c_name c_s x17, (x18 ++ [(c_kind, c_name, c_to, c_s, c_long)], (IntKind.wrap .i64 (count + 1), (x19, (x20, ()))))))) else (bif decide (c_kind = 2) then some (0, (x16, (mdel c_name (mset c_to (Option.getD (mget c_name x17) []) x17), (x18 ++ [(c_kind, c_name, c_to, c_s, c_long)], (IntKind.wrap .i64 (count + 1), (x19, (x20, ()))))))) else (bif decide (c_kind = 3) then some (0, (x16, (mdel c_name x17, (x18 ++ [(c_kind, c_name, c_to, c_s, c_long)], (IntKind.wrap .i64 (count + 1), (x19, (x20, ()))))))) else (bif decide (c_kind = 4) then (bif within (List.length (Option.getD (mget c_name x17) [])) Option.none (Option.some c_long) then some (0, (x16, (mset c_name (cut (Option.getD (mget c_name x17) []) Option.none (Option.some c_long)) x17, (x18 ++ [(c_kind, c_name, c_to, c_s, c_long)], (IntKind.wrap .i64 (count + 1), (x19, (x20, ()))))))) else none) else some (0, (x16, (x17, (x18 ++ [(c_kind, c_name, c_to, c_s, c_long)], (IntKind.wrap .i64 (count + 1), (x19, (x20, ())))))))))))) else none)) (fun (x21, (x22, (x23, (x24, (x25, (x26, _)))))) => some (x21, (x22, (x23, (x24, (count, (x25, (x26, ())))))))))
noncomputable def dChange (c_kind : Int) (c_name : (List UInt8)) (c_to : (List UInt8)) (c_s : (List UInt8)) (c_long : Int) (sure : (List ((List UInt8) × (List UInt8)))) (now : (List ((List UInt8) × (List UInt8)))) (wait : (List (Int × ((List UInt8) × ((List UInt8) × ((List UInt8) × Int)))))) (count : Int) (down : Bool) (falls : (List (Int × (Int × Int)))) : (Option (Int × ((List ((List UInt8) × (List UInt8))) × ((List ((List UInt8) × (List UInt8))) × ((List (Int × ((List UInt8) × ((List UInt8) × ((List UInt8) × Int))))) × (Int × (Bool × ((List (Int × (Int × Int))) × Unit)))))))) := stuck (dChange_b c_kind c_name c_to c_s c_long sure now wait count down falls)
theorem dChange_un (c_kind : Int) (c_name : (List UInt8)) (c_to : (List UInt8)) (c_s : (List UInt8)) (c_long : Int) (sure : (List ((List UInt8) × (List UInt8)))) (now : (List ((List UInt8) × (List UInt8)))) (wait : (List (Int × ((List UInt8) × ((List UInt8) × ((List UInt8) × Int)))))) (count : Int) (down : Bool) (falls : (List (Int × (Int × Int)))) : dChange c_kind c_name c_to c_s c_long sure now wait count down falls = dChange_b c_kind c_name c_to c_s c_long sure now wait count down falls := stuck_eq _
theorem dChange_k : TabOk Tryz.prog dChange_t := .cons fallClone_o (.cons fallDel_o (.cons dFail_o (.cons dDo_o (.nil))))
theorem dChange_eq (d : dens dChange_g.inP) : fnU Tryz.prog (tabU dChange_t) dChange_c 100 dChange_g Tryz.f99 (Tryz.f99.body.getD .skip) d = dChange_b d.2.1.1 d.2.1.2.1 d.2.1.2.2.1 d.2.1.2.2.2.1 d.2.1.2.2.2.2 d.2.2.1 d.2.2.2.1 d.2.2.2.2.1 d.2.2.2.2.2.1 d.2.2.2.2.2.2.1 d.2.2.2.2.2.2.2.1 := by kernel_rfl
theorem dChange_ok : FnOk Tryz.prog 99 dChange_g fun d => dChange d.2.1.1 d.2.1.2.1 d.2.1.2.2.1 d.2.1.2.2.2.1 d.2.1.2.2.2.2 d.2.2.1 d.2.2.2.1 d.2.2.2.2.1 d.2.2.2.2.2.1 d.2.2.2.2.2.2.1 d.2.2.2.2.2.2.2.1 := (fn_ok follows named (tabU_ok dChange_k) Tryz.func99 rfl).congr fun d => (dChange_eq d).trans (stuck_eq _).symm
noncomputable def dChange_s : FuncId × Spec := (99, callOf dChange_g fun d => dChange d.2.1.1 d.2.1.2.1 d.2.1.2.2.1 d.2.1.2.2.2.1 d.2.1.2.2.2.2 d.2.2.1 d.2.2.2.1 d.2.2.2.2.1 d.2.2.2.2.2.1 d.2.2.2.2.2.2.1 d.2.2.2.2.2.2.2.1)
theorem dChange_o : SpecOk Tryz.prog dChange_s.1 dChange_s.2 := spec_ok dChange_ok
def dWrite_g : Sig := ⟨[.ptr 0, .ty (.str), .ty (.str)], [([.rw (.omap (.str)) (.omap (.str)), .rw (.omap (.str)) (.omap (.str)), .rw (.gsl (.cons (.int .i64) (.cons (.str) (.cons (.str) (.cons (.str) (.int .i64))))) 92) (.gsl (.cons (.int .i64) (.cons (.str) (.cons (.str) (.cons (.str) (.int .i64))))) 92), .rw (.ty (.int .i64)) (.ty (.int .i64)), .rw (.ty (.bool)) (.ty (.bool)), .rw (.ty (.slice (.cons (.int .i64) (.cons (.int .i64) (.int .i64))))) (.ty (.slice (.cons (.int .i64) (.cons (.int .i64) (.int .i64))))), .ro (.lit (.int .i64 (-1)))], 70)], [.val 0], [.ty (.int .i64)], [], []⟩
def dWrite_c : Cuts := ⟨[], [(5, ⟨[(47, .ty (.bool))], [], [], []⟩)], []⟩
noncomputable def dWrite_t : List (FuncId × Spec) := [dAsk_s, dChange_s]
noncomputable def dWrite_b (name : (List UInt8)) (s : (List UInt8)) (sure : (List ((List UInt8) × (List UInt8)))) (now : (List ((List UInt8) × (List UInt8)))) (wait : (List (Int × ((List UInt8) × ((List UInt8) × ((List UInt8) × Int)))))) (count : Int) (down : Bool) (falls : (List (Int × (Int × Int)))) : (Option (Int × ((List ((List UInt8) × (List UInt8))) × ((List ((List UInt8) × (List UInt8))) × ((List (Int × ((List UInt8) × ((List UInt8) × ((List UInt8) × Int))))) × (Int × (Bool × ((List (Int × (Int × Int))) × Unit)))))))) := ((dAsk [name] down).bind fun (x1, _) => (bif !decide (x1 = 0) then some (x1, (sure, (now, (wait, (count, (down, (falls, ()))))))) else ((dChange 1 name [] s 0 sure now wait count down falls).bind fun (x2, (x3, (x4, (x5, (x6, (x7, (x8, _))))))) => some (x2, (x3, (x4, (x5, (x6, (x7, (x8, ()))))))))))
noncomputable def dWrite (name : (List UInt8)) (s : (List UInt8)) (sure : (List ((List UInt8) × (List UInt8)))) (now : (List ((List UInt8) × (List UInt8)))) (wait : (List (Int × ((List UInt8) × ((List UInt8) × ((List UInt8) × Int)))))) (count : Int) (down : Bool) (falls : (List (Int × (Int × Int)))) : (Option (Int × ((List ((List UInt8) × (List UInt8))) × ((List ((List UInt8) × (List UInt8))) × ((List (Int × ((List UInt8) × ((List UInt8) × ((List UInt8) × Int))))) × (Int × (Bool × ((List (Int × (Int × Int))) × Unit)))))))) := stuck (dWrite_b name s sure now wait count down falls)
theorem dWrite_un (name : (List UInt8)) (s : (List UInt8)) (sure : (List ((List UInt8) × (List UInt8)))) (now : (List ((List UInt8) × (List UInt8)))) (wait : (List (Int × ((List UInt8) × ((List UInt8) × ((List UInt8) × Int)))))) (count : Int) (down : Bool) (falls : (List (Int × (Int × Int)))) : dWrite name s sure now wait count down falls = dWrite_b name s sure now wait count down falls := stuck_eq _
theorem dWrite_k : TabOk Tryz.prog dWrite_t := .cons dAsk_o (.cons dChange_o (.nil))
theorem dWrite_eq (d : dens dWrite_g.inP) : fnU Tryz.prog (tabU dWrite_t) dWrite_c 100 dWrite_g Tryz.f48 (Tryz.f48.body.getD .skip) d = dWrite_b d.2.1 d.2.2.1 d.2.2.2.1 d.2.2.2.2.1 d.2.2.2.2.2.1 d.2.2.2.2.2.2.1 d.2.2.2.2.2.2.2.1 d.2.2.2.2.2.2.2.2.1 := by kernel_rfl
theorem dWrite_ok : FnOk Tryz.prog 48 dWrite_g fun d => dWrite d.2.1 d.2.2.1 d.2.2.2.1 d.2.2.2.2.1 d.2.2.2.2.2.1 d.2.2.2.2.2.2.1 d.2.2.2.2.2.2.2.1 d.2.2.2.2.2.2.2.2.1 := (fn_ok follows named (tabU_ok dWrite_k) Tryz.func48 rfl).congr fun d => (dWrite_eq d).trans (stuck_eq _).symm
noncomputable def dWrite_s : FuncId × Spec := (48, callOf dWrite_g fun d => dWrite d.2.1 d.2.2.1 d.2.2.2.1 d.2.2.2.2.1 d.2.2.2.2.2.1 d.2.2.2.2.2.2.1 d.2.2.2.2.2.2.2.1 d.2.2.2.2.2.2.2.2.1)
theorem dWrite_o : SpecOk Tryz.prog dWrite_s.1 dWrite_s.2 := spec_ok dWrite_ok
def dAppend_g : Sig := ⟨[.ptr 0, .ty (.str), .ty (.str)], [([.rw (.omap (.str)) (.omap (.str)), .rw (.omap (.str)) (.omap (.str)), .rw (.gsl (.cons (.int .i64) (.cons (.str) (.cons (.str) (.cons (.str) (.int .i64))))) 92) (.gsl (.cons (.int .i64) (.cons (.str) (.cons (.str) (.cons (.str) (.int .i64))))) 92), .rw (.ty (.int .i64)) (.ty (.int .i64)), .rw (.ty (.bool)) (.ty (.bool)), .rw (.ty (.slice (.cons (.int .i64) (.cons (.int .i64) (.int .i64))))) (.ty (.slice (.cons (.int .i64) (.cons (.int .i64) (.int .i64))))), .ro (.lit (.int .i64 (-1)))], 70)], [.val 0], [.ty (.int .i64)], [], []⟩
def dAppend_c : Cuts := ⟨[], [(4, ⟨[(35, .ty (.bool))], [], [], []⟩)], []⟩
noncomputable def dAppend_t : List (FuncId × Spec) := [dAsk_s, dChange_s]
noncomputable def dAppend_b (name : (List UInt8)) (s : (List UInt8)) (sure : (List ((List UInt8) × (List UInt8)))) (now : (List ((List UInt8) × (List UInt8)))) (wait : (List (Int × ((List UInt8) × ((List UInt8) × ((List UInt8) × Int)))))) (count : Int) (down : Bool) (falls : (List (Int × (Int × Int)))) : (Option (Int × ((List ((List UInt8) × (List UInt8))) × ((List ((List UInt8) × (List UInt8))) × ((List (Int × ((List UInt8) × ((List UInt8) × ((List UInt8) × Int))))) × (Int × (Bool × ((List (Int × (Int × Int))) × Unit)))))))) := ((dAsk [name] down).bind fun (x1, _) => (bif !decide (x1 = 0) then some (x1, (sure, (now, (wait, (count, (down, (falls, ()))))))) else (two (β := (Bool × Unit)) (γ := Unit) (bif !decide (s = []) then some (.inl (false, ())) else some (.inl (false, ()))) (fun (x3, _) => (bif x3 then some (22, (sure, (now, (wait, (count, (down, (falls, ()))))))) else ((dChange 0 name [] s 0 sure now wait count down falls).bind fun (x4, (x5, (x6, (x7, (x8, (x9, (x10, _))))))) => some (x4, (x5, (x6, (x7, (x8, (x9, (x10, ())))))))))) (fun _ => some (0, (sure, (now, (wait, (count, (down, (falls, ())))))))))))
noncomputable def dAppend (name : (List UInt8)) (s : (List UInt8)) (sure : (List ((List UInt8) × (List UInt8)))) (now : (List ((List UInt8) × (List UInt8)))) (wait : (List (Int × ((List UInt8) × ((List UInt8) × ((List UInt8) × Int)))))) (count : Int) (down : Bool) (falls : (List (Int × (Int × Int)))) : (Option (Int × ((List ((List UInt8) × (List UInt8))) × ((List ((List UInt8) × (List UInt8))) × ((List (Int × ((List UInt8) × ((List UInt8) × ((List UInt8) × Int))))) × (Int × (Bool × ((List (Int × (Int × Int))) × Unit)))))))) := stuck (dAppend_b name s sure now wait count down falls)
theorem dAppend_un (name : (List UInt8)) (s : (List UInt8)) (sure : (List ((List UInt8) × (List UInt8)))) (now : (List ((List UInt8) × (List UInt8)))) (wait : (List (Int × ((List UInt8) × ((List UInt8) × ((List UInt8) × Int)))))) (count : Int) (down : Bool) (falls : (List (Int × (Int × Int)))) : dAppend name s sure now wait count down falls = dAppend_b name s sure now wait count down falls := stuck_eq _
theorem dAppend_k : TabOk Tryz.prog dAppend_t := .cons dAsk_o (.cons dChange_o (.nil))
theorem dAppend_eq (d : dens dAppend_g.inP) : fnU Tryz.prog (tabU dAppend_t) dAppend_c 100 dAppend_g Tryz.f96 (Tryz.f96.body.getD .skip) d = dAppend_b d.2.1 d.2.2.1 d.2.2.2.1 d.2.2.2.2.1 d.2.2.2.2.2.1 d.2.2.2.2.2.2.1 d.2.2.2.2.2.2.2.1 d.2.2.2.2.2.2.2.2.1 := by kernel_rfl
theorem dAppend_ok : FnOk Tryz.prog 96 dAppend_g fun d => dAppend d.2.1 d.2.2.1 d.2.2.2.1 d.2.2.2.2.1 d.2.2.2.2.2.1 d.2.2.2.2.2.2.1 d.2.2.2.2.2.2.2.1 d.2.2.2.2.2.2.2.2.1 := (fn_ok follows named (tabU_ok dAppend_k) Tryz.func96 rfl).congr fun d => (dAppend_eq d).trans (stuck_eq _).symm
noncomputable def dAppend_s : FuncId × Spec := (96, callOf dAppend_g fun d => dAppend d.2.1 d.2.2.1 d.2.2.2.1 d.2.2.2.2.1 d.2.2.2.2.2.1 d.2.2.2.2.2.2.1 d.2.2.2.2.2.2.2.1 d.2.2.2.2.2.2.2.2.1)
theorem dAppend_o : SpecOk Tryz.prog dAppend_s.1 dAppend_s.2 := spec_ok dAppend_ok
def dRemove_g : Sig := ⟨[.ptr 0, .ty (.str)], [([.rw (.omap (.str)) (.omap (.str)), .rw (.omap (.str)) (.omap (.str)), .rw (.gsl (.cons (.int .i64) (.cons (.str) (.cons (.str) (.cons (.str) (.int .i64))))) 92) (.gsl (.cons (.int .i64) (.cons (.str) (.cons (.str) (.cons (.str) (.int .i64))))) 92), .rw (.ty (.int .i64)) (.ty (.int .i64)), .rw (.ty (.bool)) (.ty (.bool)), .rw (.ty (.slice (.cons (.int .i64) (.cons (.int .i64) (.int .i64))))) (.ty (.slice (.cons (.int .i64) (.cons (.int .i64) (.int .i64))))), .ro (.lit (.int .i64 (-1)))], 70)], [.val 0], [.ty (.int .i64)], [], []⟩
def dRemove_c : Cuts := ⟨[], [], []⟩
noncomputable def dRemove_t : List (FuncId × Spec) := [dAsk_s, dChange_s]
noncomputable def dRemove_b (name : (List UInt8)) (sure : (List ((List UInt8) × (List UInt8)))) (now : (List ((List UInt8) × (List UInt8)))) (wait : (List (Int × ((List UInt8) × ((List UInt8) × ((List UInt8) × Int)))))) (count : Int) (down : Bool) (falls : (List (Int × (Int × Int)))) : (Option (Int × ((List ((List UInt8) × (List UInt8))) × ((List ((List UInt8) × (List UInt8))) × ((List (Int × ((List UInt8) × ((List UInt8) × ((List UInt8) × Int))))) × (Int × (Bool × ((List (Int × (Int × Int))) × Unit)))))))) := ((dAsk [name] down).bind fun (x1, _) => (bif !decide (x1 = 0) then some (x1, (sure, (now, (wait, (count, (down, (falls, ()))))))) else (bif !Option.isSome (mget name now) then some (4, (sure, (now, (wait, (count, (down, (falls, ()))))))) else ((dChange 3 name [] [] 0 sure now wait count down falls).bind fun (x2, (x3, (x4, (x5, (x6, (x7, (x8, _))))))) => some (x2, (x3, (x4, (x5, (x6, (x7, (x8, ())))))))))))
noncomputable def dRemove (name : (List UInt8)) (sure : (List ((List UInt8) × (List UInt8)))) (now : (List ((List UInt8) × (List UInt8)))) (wait : (List (Int × ((List UInt8) × ((List UInt8) × ((List UInt8) × Int)))))) (count : Int) (down : Bool) (falls : (List (Int × (Int × Int)))) : (Option (Int × ((List ((List UInt8) × (List UInt8))) × ((List ((List UInt8) × (List UInt8))) × ((List (Int × ((List UInt8) × ((List UInt8) × ((List UInt8) × Int))))) × (Int × (Bool × ((List (Int × (Int × Int))) × Unit)))))))) := stuck (dRemove_b name sure now wait count down falls)
theorem dRemove_un (name : (List UInt8)) (sure : (List ((List UInt8) × (List UInt8)))) (now : (List ((List UInt8) × (List UInt8)))) (wait : (List (Int × ((List UInt8) × ((List UInt8) × ((List UInt8) × Int)))))) (count : Int) (down : Bool) (falls : (List (Int × (Int × Int)))) : dRemove name sure now wait count down falls = dRemove_b name sure now wait count down falls := stuck_eq _
theorem dRemove_k : TabOk Tryz.prog dRemove_t := .cons dAsk_o (.cons dChange_o (.nil))
theorem dRemove_eq (d : dens dRemove_g.inP) : fnU Tryz.prog (tabU dRemove_t) dRemove_c 100 dRemove_g Tryz.f81 (Tryz.f81.body.getD .skip) d = dRemove_b d.2.1 d.2.2.1 d.2.2.2.1 d.2.2.2.2.1 d.2.2.2.2.2.1 d.2.2.2.2.2.2.1 d.2.2.2.2.2.2.2.1 := by kernel_rfl
theorem dRemove_ok : FnOk Tryz.prog 81 dRemove_g fun d => dRemove d.2.1 d.2.2.1 d.2.2.2.1 d.2.2.2.2.1 d.2.2.2.2.2.1 d.2.2.2.2.2.2.1 d.2.2.2.2.2.2.2.1 := (fn_ok follows named (tabU_ok dRemove_k) Tryz.func81 rfl).congr fun d => (dRemove_eq d).trans (stuck_eq _).symm
noncomputable def dRemove_s : FuncId × Spec := (81, callOf dRemove_g fun d => dRemove d.2.1 d.2.2.1 d.2.2.2.1 d.2.2.2.2.1 d.2.2.2.2.2.1 d.2.2.2.2.2.2.1 d.2.2.2.2.2.2.2.1)
theorem dRemove_o : SpecOk Tryz.prog dRemove_s.1 dRemove_s.2 := spec_ok dRemove_ok
def dCut_g : Sig := ⟨[.ptr 0, .ty (.str), .ty (.int .i64)], [([.rw (.omap (.str)) (.omap (.str)), .rw (.omap (.str)) (.omap (.str)), .rw (.gsl (.cons (.int .i64) (.cons (.str) (.cons (.str) (.cons (.str) (.int .i64))))) 92) (.gsl (.cons (.int .i64) (.cons (.str) (.cons (.str) (.cons (.str) (.int .i64))))) 92), .rw (.ty (.int .i64)) (.ty (.int .i64)), .rw (.ty (.bool)) (.ty (.bool)), .rw (.ty (.slice (.cons (.int .i64) (.cons (.int .i64) (.int .i64))))) (.ty (.slice (.cons (.int .i64) (.cons (.int .i64) (.int .i64))))), .ro (.lit (.int .i64 (-1)))], 70)], [.val 0], [.ty (.int .i64)], [], []⟩
def dCut_c : Cuts := ⟨[], [], []⟩
noncomputable def dCut_t : List (FuncId × Spec) := [dAsk_s, dChange_s]
noncomputable def dCut_b (name : (List UInt8)) (long : Int) (sure : (List ((List UInt8) × (List UInt8)))) (now : (List ((List UInt8) × (List UInt8)))) (wait : (List (Int × ((List UInt8) × ((List UInt8) × ((List UInt8) × Int)))))) (count : Int) (down : Bool) (falls : (List (Int × (Int × Int)))) : (Option (Int × ((List ((List UInt8) × (List UInt8))) × ((List ((List UInt8) × (List UInt8))) × ((List (Int × ((List UInt8) × ((List UInt8) × ((List UInt8) × Int))))) × (Int × (Bool × ((List (Int × (Int × Int))) × Unit)))))))) := ((dAsk [name] down).bind fun (x1, _) => (bif !decide (x1 = 0) then some (x1, (sure, (now, (wait, (count, (down, (falls, ()))))))) else (bif !Option.isSome (mget name now) then some (4, (sure, (now, (wait, (count, (down, (falls, ()))))))) else (bif decide (long < 0) then some (1, (sure, (now, (wait, (count, (down, (falls, ()))))))) else (bif decide ((↑(List.length (Option.getD (mget name now) [])) : Int) < long) then some (1, (sure, (now, (wait, (count, (down, (falls, ()))))))) else ((dChange 4 name [] [] long sure now wait count down falls).bind fun (x2, (x3, (x4, (x5, (x6, (x7, (x8, _))))))) => some (x2, (x3, (x4, (x5, (x6, (x7, (x8, ())))))))))))))
noncomputable def dCut (name : (List UInt8)) (long : Int) (sure : (List ((List UInt8) × (List UInt8)))) (now : (List ((List UInt8) × (List UInt8)))) (wait : (List (Int × ((List UInt8) × ((List UInt8) × ((List UInt8) × Int)))))) (count : Int) (down : Bool) (falls : (List (Int × (Int × Int)))) : (Option (Int × ((List ((List UInt8) × (List UInt8))) × ((List ((List UInt8) × (List UInt8))) × ((List (Int × ((List UInt8) × ((List UInt8) × ((List UInt8) × Int))))) × (Int × (Bool × ((List (Int × (Int × Int))) × Unit)))))))) := stuck (dCut_b name long sure now wait count down falls)
theorem dCut_un (name : (List UInt8)) (long : Int) (sure : (List ((List UInt8) × (List UInt8)))) (now : (List ((List UInt8) × (List UInt8)))) (wait : (List (Int × ((List UInt8) × ((List UInt8) × ((List UInt8) × Int)))))) (count : Int) (down : Bool) (falls : (List (Int × (Int × Int)))) : dCut name long sure now wait count down falls = dCut_b name long sure now wait count down falls := stuck_eq _
theorem dCut_k : TabOk Tryz.prog dCut_t := .cons dAsk_o (.cons dChange_o (.nil))
theorem dCut_eq (d : dens dCut_g.inP) : fnU Tryz.prog (tabU dCut_t) dCut_c 100 dCut_g Tryz.f86 (Tryz.f86.body.getD .skip) d = dCut_b d.2.1 d.2.2.1 d.2.2.2.1 d.2.2.2.2.1 d.2.2.2.2.2.1 d.2.2.2.2.2.2.1 d.2.2.2.2.2.2.2.1 d.2.2.2.2.2.2.2.2.1 := by kernel_rfl
theorem dCut_ok : FnOk Tryz.prog 86 dCut_g fun d => dCut d.2.1 d.2.2.1 d.2.2.2.1 d.2.2.2.2.1 d.2.2.2.2.2.1 d.2.2.2.2.2.2.1 d.2.2.2.2.2.2.2.1 d.2.2.2.2.2.2.2.2.1 := (fn_ok follows named (tabU_ok dCut_k) Tryz.func86 rfl).congr fun d => (dCut_eq d).trans (stuck_eq _).symm
noncomputable def dCut_s : FuncId × Spec := (86, callOf dCut_g fun d => dCut d.2.1 d.2.2.1 d.2.2.2.1 d.2.2.2.2.1 d.2.2.2.2.2.1 d.2.2.2.2.2.2.1 d.2.2.2.2.2.2.2.1 d.2.2.2.2.2.2.2.2.1)
theorem dCut_o : SpecOk Tryz.prog dCut_s.1 dCut_s.2 := spec_ok dCut_ok
def mKeys_c : Cuts := ⟨[], [], []⟩
noncomputable def mKeys_t : List (FuncId × Spec) := []
theorem mKeys_k : TabOk Tryz.prog mKeys_t := .nil
noncomputable def mKeys_s : FuncId × Spec := (101, inlU Tryz.prog (tabU mKeys_t) mKeys_c 100 Tryz.f101 (Tryz.f101.body.getD .skip))
theorem mKeys_o : SpecOk Tryz.prog mKeys_s.1 mKeys_s.2 := inl_ok follows named (tabU_ok mKeys_k) Tryz.func101 rfl
def dNames_g : Sig := ⟨[.ptr 0], [([.ign, .rw (.omap (.str)) (.omap (.str)), .ign, .ign, .ro (.ty (.bool)), .ign, .ign], 70)], [.val 0], [.ty (.slice (.str))], [], []⟩
def dNames_c : Cuts := ⟨[], [], []⟩
noncomputable def dNames_t : List (FuncId × Spec) := [mKeys_s, sorted_s]
noncomputable def dNames_b (now : (List ((List UInt8) × (List UInt8)))) (down : Bool) : (Option ((List (List UInt8)) × ((List ((List UInt8) × (List UInt8))) × Unit))) := (bif down then some ([], (now, ())) else (bif decide (List.length now ≤ 1000) then (bif List.all now fun (e : List UInt8 × Ty.den Ty.str) => decide (List.length e.fst ≤ 1000) then some (sortT (List.map (fun (x : List UInt8 × Ty.den Ty.str) => x.fst) now), (now, ())) else none) else none))
noncomputable def dNames (now : (List ((List UInt8) × (List UInt8)))) (down : Bool) : (Option ((List (List UInt8)) × ((List ((List UInt8) × (List UInt8))) × Unit))) := stuck (dNames_b now down)
theorem dNames_un (now : (List ((List UInt8) × (List UInt8)))) (down : Bool) : dNames now down = dNames_b now down := stuck_eq _
theorem dNames_k : TabOk Tryz.prog dNames_t := .cons mKeys_o (.cons sorted_o (.nil))
theorem dNames_eq (d : dens dNames_g.inP) : fnU Tryz.prog (tabU dNames_t) dNames_c 100 dNames_g Tryz.f49 (Tryz.f49.body.getD .skip) d = dNames_b d.2.2.1 d.2.2.2.2.2.1 := by kernel_rfl
theorem dNames_ok : FnOk Tryz.prog 49 dNames_g fun d => dNames d.2.2.1 d.2.2.2.2.2.1 := (fn_ok follows named (tabU_ok dNames_k) Tryz.func49 rfl).congr fun d => (dNames_eq d).trans (stuck_eq _).symm
noncomputable def dNames_s : FuncId × Spec := (49, callOf dNames_g fun d => dNames d.2.2.1 d.2.2.2.2.2.1)
theorem dNames_o : SpecOk Tryz.prog dNames_s.1 dNames_s.2 := spec_ok dNames_ok
def wName_g : Sig := ⟨[.ty (.int .i64)], [], [], [.ty (.str)], [], []⟩
def wName_c : Cuts := ⟨[], [], []⟩
noncomputable def wName_t : List (FuncId × Spec) := [itoa_s]
noncomputable def wName_b (n : Int) : (Option ((List UInt8) × Unit)) := (bif decide (-9223372036854775808 ≤ n) then (bif decide (n ≤ 9223372036854775807) then (bif decide (2 + List.length (Go.Lib.itoa n) ≤ 9223372036854775807) then some ([119, 46] ++ Go.Lib.itoa n, ()) else none) else none) else none)
noncomputable def wName (n : Int) : (Option ((List UInt8) × Unit)) := stuck (wName_b n)
theorem wName_un (n : Int) : wName n = wName_b n := stuck_eq _
theorem wName_k : TabOk Tryz.prog wName_t := .cons itoa_o (.nil)
theorem wName_eq (d : dens wName_g.inP) : fnU Tryz.prog (tabU wName_t) wName_c 100 wName_g Tryz.f78 (Tryz.f78.body.getD .skip) d = wName_b d.1 := by kernel_rfl
theorem wName_ok : FnOk Tryz.prog 78 wName_g fun d => wName d.1 := (fn_ok follows named (tabU_ok wName_k) Tryz.func78 rfl).congr fun d => (wName_eq d).trans (stuck_eq _).symm
noncomputable def wName_s : FuncId × Spec := (78, quietIS wName)
theorem wName_o : SpecOk Tryz.prog wName_s.1 wName_s.2 := quietIS_ok wName_ok
end Go.Proofs.YthnhbejjikgifaaGreatDoor.TV

/-
  DX: copies of slices that may grow: the slice is nil or not, one answer.
-/
namespace Go.Proofs.YthnhbejjikgifaaGreatDoor.TV
open Go Go.RowKit
set_option linter.unusedSimpArgs false
set_option linter.unusedVariables false

section
variable {P : Program}
def outPC (p : PC) (r : UV × UHeap × List Nat) : Option (p.den × Unit) := match exV [] r.2.1.tips p r.1 with
  | some (x, _) => some (x, ())
  | none => none
theorem clone_okP (hm : P.follows .mixedOrders = true) (hN : Named P) {call : CallU} (hC : CallOkU P call) {C : Cuts} {fuel : Nat} {f : FuncId} {fn : Func} {c : Code} (hf : P.funcs[f]? = some fn) (hb : fn.body = some c) {t : Ty} {p : PC} {F : List t.den → Option (p.den × Unit)}
    (hA : (inlU P call C fuel fn c [.slice t (some true) [] .no] ⟨[], []⟩).run (outPC p) = F [])
    (hB : ∀ l, (inlU P call C fuel fn c [.slice t (some false) l .no] ⟨[], []⟩).run (outPC p) = F l) :
    FnOk P f ⟨[.ty (.slice t)], [], [], [p], [], []⟩ fun d => F d.1 := by
  intro d r hr s V tvs hR hv
  obtain ⟨l, d⟩ := d
  have hv : URels V [.slice t none l .no] tvs := hv
  have hR : HRel s V ⟨[], []⟩ := hR
  have hr : F l = some r := hr
  have key : ∀ (b : Bool) (args : List TV), URels V [.slice t (some b) l .no] args → (inlU P call C fuel fn c [.slice t (some b) l .no] ⟨[], []⟩).run (outPC p) = F l → ∃ s2 v V2 h2 vs rvs m tips2, Sim P f args s v s2 ∧ Answer ⟨[.ty (.slice t)], [], [], [p], [], []⟩ r s V ⟨[], []⟩ s2 v V2 h2 vs rvs m tips2 := by
    intro b args ha hrun
    obtain ⟨u, hu, ho⟩ := (Tree.run_has _ _ _).1 (hrun.trans hr)
    obtain ⟨s2, V2, v, hs, hv2, he⟩ := inl_ok0 hm hN hC hf hb _ _ u hu s V args hR ha
    unfold outPC at ho
    split at ho
    · rename_i l' tips' hl'
      cases ho
      refine ⟨s2, v, V2, u.2.1, [u.1], [v], [], tips', hs, ⟨he.rel, he.step, .cons _ _ _ _ hv2 .nil, rfl, rfl, List.prefix_rfl, rfl, List.nodup_nil, fun i K n h => by simp at h, ?_⟩⟩
      have e1 : outUs ⟨[.ty (.slice t)], [], [], [p], [], []⟩ [u.1] u.2.1 [] = [u.1] := rfl
      rw [e1]
      show exL [] u.2.1.tips [p] [u.1] = _
      simp only [exL, hl']
      rfl
    · cases ho
  cases hv with
  | cons _ v _ vs rv rvs =>
    cases rvs
    cases rv with
    | slice _ _ b' _ es _ tok' h1 h2 h3 =>
      cases b' with
      | false => exact key false _ (.cons _ _ _ _ (.slice _ _ _ _ _ _ _ (fun x hx => by cases hx; rfl) h2 trivial) .nil) (hB l)
      | true =>
        by_cases hes : es = []
        · subst hes
          have hl : l = [] := by
            cases l with
            | nil => rfl
            | cons _ _ => exact h2.elim
          subst hl
          exact key true _ (.cons _ _ _ _ (.slice _ _ _ _ _ _ _ (fun x hx => by cases hx; rfl) h2 trivial) .nil) hA
        · obtain ⟨s2, v, V2, h2', vs, rvs, m, tips2, hs, A⟩ := key false [.slice false es tok'] (.cons _ _ _ _ (.slice _ _ _ _ _ _ _ (fun x hx => by cases hx; rfl) h2 trivial) .nil) (hB l)
          exact ⟨s2, v, V2, h2', vs, rvs, m, tips2, Sim.wf ⟨fn, c, hf, hb⟩ fun hw => absurd (hw rfl) hes, A⟩
end
end Go.Proofs.YthnhbejjikgifaaGreatDoor.TV

/-
  WAL: segments' names, files and entries, printed.
-/
namespace Go.Proofs.YthnhbejjikgifaaGreatDoor.TV
open Go Go.RowKit
set_option linter.unusedVariables false
set_option maxRecDepth 1000000
def ssHas_c : Cuts := ⟨[], [], []⟩
noncomputable def ssHas_t : List (FuncId × Spec) := []
theorem ssHas_k : TabOk Tryz.prog ssHas_t := .nil
noncomputable def ssHas_s : FuncId × Spec := (156, inlU Tryz.prog (tabU ssHas_t) ssHas_c 100 Tryz.f156 (Tryz.f156.body.getD .skip))
theorem ssHas_o : SpecOk Tryz.prog ssHas_s.1 ssHas_s.2 := inl_ok follows named (tabU_ok ssHas_k) Tryz.func156 rfl
def ssCut_c : Cuts := ⟨[], [], []⟩
noncomputable def ssCut_t : List (FuncId × Spec) := [ssHas_s]
theorem ssCut_k : TabOk Tryz.prog ssCut_t := .cons ssHas_o (.nil)
noncomputable def ssCut_s : FuncId × Spec := (136, inlU Tryz.prog (tabU ssCut_t) ssCut_c 100 Tryz.f136 (Tryz.f136.body.getD .skip))
theorem ssCut_o : SpecOk Tryz.prog ssCut_s.1 ssCut_s.2 := inl_ok follows named (tabU_ok ssCut_k) Tryz.func136 rfl
def sCut_c : Cuts := ⟨[], [], []⟩
noncomputable def sCut_t : List (FuncId × Spec) := [ssCut_s]
theorem sCut_k : TabOk Tryz.prog sCut_t := .cons ssCut_o (.nil)
noncomputable def sCut_s : FuncId × Spec := (119, inlU Tryz.prog (tabU sCut_t) sCut_c 100 Tryz.f119 (Tryz.f119.body.getD .skip))
theorem sCut_o : SpecOk Tryz.prog sCut_s.1 sCut_s.2 := inl_ok follows named (tabU_ok sCut_k) Tryz.func119 rfl
def wNumber_g : Sig := ⟨[.ty (.str)], [], [], [.ty (.int .i64), .ty (.bool)], [], []⟩
def wNumber_c : Cuts := ⟨[], [(3, ⟨[(2, .ty (.int .i64)), (3, .ty (.bool))], [], [], []⟩)], []⟩
noncomputable def wNumber_t : List (FuncId × Spec) := [sCut_s, atoi_s, itoa_s]
noncomputable def wNumber_b (s : (List UInt8)) : (Option (Int × (Bool × Unit))) := (bif decide (2 ≤ (↑(List.length s) : Int)) then (bif within (List.length s) Option.none (Option.some 2) then (bif !decide (cut s Option.none (Option.some 2) = [119, 46]) then (bif decide (List.length s ≤ 1000) then (bif atoiOk s then some (atoiV s, (false, ())) else some (atoiV s, (false, ()))) else none) else (bif within (List.length s) (Option.some 2) Option.none then (bif decide (List.length (cut s (Option.some 2) Option.none) ≤ 1000) then (bif atoiOk (cut s (Option.some 2) Option.none) then (two (β := (Int × (Bool × Unit))) (γ := Unit) (bif decide (0 < atoiV (cut s (Option.some 2) Option.none)) then (bif decide (atoiV (cut s (Option.some 2) Option.none) < 4611686018427387904) then (bif decide (-9223372036854775808 ≤ atoiV (cut s (Option.some 2) Option.none)) then (bif decide (atoiV (cut s (Option.some 2) Option.none) ≤ 9223372036854775807) then some (.inl (atoiV (cut s (Option.some 2) Option.none), (decide (Go.Lib.itoa (atoiV (cut s (Option.some 2) Option.none)) = cut s (Option.some 2) Option.none), ()))) else none) else none) else some (.inl (atoiV (cut s (Option.some 2) Option.none), (false, ())))) else some (.inl (atoiV (cut s (Option.some 2) Option.none), (false, ())))) (fun (x2, (x3, _)) => some (x2, (x3, ()))) (fun _ => none)) else some (atoiV (cut s (Option.some 2) Option.none), (false, ()))) else none) else none)) else none) else (bif decide (List.length s ≤ 1000) then (bif atoiOk s then some (atoiV s, (false, ())) else some (atoiV s, (false, ()))) else none))
noncomputable def wNumber (s : (List UInt8)) : (Option (Int × (Bool × Unit))) := stuck (wNumber_b s)
theorem wNumber_un (s : (List UInt8)) : wNumber s = wNumber_b s := stuck_eq _
theorem wNumber_k : TabOk Tryz.prog wNumber_t := .cons sCut_o (.cons atoi_o (.cons itoa_o (.nil)))
theorem wNumber_eq (d : dens wNumber_g.inP) : fnU Tryz.prog (tabU wNumber_t) wNumber_c 100 wNumber_g Tryz.f76 (Tryz.f76.body.getD .skip) d = wNumber_b d.1 := by kernel_rfl
theorem wNumber_ok : FnOk Tryz.prog 76 wNumber_g fun d => wNumber d.1 := (fn_ok follows named (tabU_ok wNumber_k) Tryz.func76 rfl).congr fun d => (wNumber_eq d).trans (stuck_eq _).symm
noncomputable def wNumber_s : FuncId × Spec := (76, callOf wNumber_g fun d => wNumber d.1)
theorem wNumber_o : SpecOk Tryz.prog wNumber_s.1 wNumber_s.2 := spec_ok wNumber_ok
def wHard_g : Sig := ⟨[.ptr 0], [([.ro (.ptr 1), .rw (.ty (.int .i64)) (.ty (.int .i64)), .rw (.ty (.int .i64)) (.ty (.int .i64)), .ign, .ign], 73), ([.ign, .rw (.omap (.str)) (.omap (.str)), .ign, .ign, .ro (.ty (.bool)), .ign, .ign], 70)], [.val 0, .cell 0 0], [.ty (.int .i64)], [], []⟩
def wHard_c : Cuts := ⟨[], [], []⟩
noncomputable def wHard_t : List (FuncId × Spec) := [dRead_s, mUnframe_s, oNewReader_s, oRdInt_s, oRdEnd_s]
noncomputable def wHard_b (term : Int) (vote : Int) (now : (List ((List UInt8) × (List UInt8)))) (down : Bool) : (Option (Int × (Int × (Int × ((List ((List UInt8) × (List UInt8))) × Unit))))) := ((dRead [104, 97, 114, 100] now down).bind fun (x1, (x2, (x3, _))) => (bif !decide (x2 = 0) then (bif decide (x2 = 4) then some (0, (term, (vote, (x3, ())))) else some (x2, (term, (vote, (x3, ()))))) else ((mUnframe x1 0).bind fun (x4, (x5, (x6, _))) => ((oNewReader x4).bind fun (_, (x7, (x8, (x9, _)))) => ((oRdInt 1099511627776 x7 x8 x9).bind fun (x10, (x11, (x12, _))) => ((oRdInt 7 x7 x11 x12).bind fun (x13, (x14, (x15, _))) => (bif !decide (x6 = 0) then some (31, (term, (vote, (x3, ())))) else (bif !decide (x5 = (↑(List.length x1) : Int)) then some (31, (term, (vote, (x3, ())))) else ((oRdEnd x7 x14 x15).bind fun (x16, (x17, _)) => (bif !decide (x16 = 0) then some (31, (term, (vote, (x3, ())))) else some (0, (x10, (IntKind.wrap .i64 (x13 - 1), (x3, ()))))))))))))))
noncomputable def wHard (term : Int) (vote : Int) (now : (List ((List UInt8) × (List UInt8)))) (down : Bool) : (Option (Int × (Int × (Int × ((List ((List UInt8) × (List UInt8))) × Unit))))) := stuck (wHard_b term vote now down)
theorem wHard_un (term : Int) (vote : Int) (now : (List ((List UInt8) × (List UInt8)))) (down : Bool) : wHard term vote now down = wHard_b term vote now down := stuck_eq _
theorem wHard_k : TabOk Tryz.prog wHard_t := .cons dRead_o (.cons mUnframe_o (.cons oNewReader_o (.cons oRdInt_o (.cons oRdEnd_o (.nil)))))
theorem wHard_eq (d : dens wHard_g.inP) : fnU Tryz.prog (tabU wHard_t) wHard_c 100 wHard_g Tryz.f33 (Tryz.f33.body.getD .skip) d = wHard_b d.2.2.1 d.2.2.2.1 d.2.2.2.2.2.2.2.1 d.2.2.2.2.2.2.2.2.2.2.1 := by kernel_rfl
theorem wHard_ok : FnOk Tryz.prog 33 wHard_g fun d => wHard d.2.2.1 d.2.2.2.1 d.2.2.2.2.2.2.2.1 d.2.2.2.2.2.2.2.2.2.2.1 := (fn_ok follows named (tabU_ok wHard_k) Tryz.func33 rfl).congr fun d => (wHard_eq d).trans (stuck_eq _).symm
noncomputable def wHard_s : FuncId × Spec := (33, callOf wHard_g fun d => wHard d.2.2.1 d.2.2.2.1 d.2.2.2.2.2.2.2.1 d.2.2.2.2.2.2.2.2.2.2.1)
theorem wHard_o : SpecOk Tryz.prog wHard_s.1 wHard_s.2 := spec_ok wHard_ok
def wLay_g : Sig := ⟨[.ptr 0, .ty (.cons (.int .i64) (.cons (.int .i64) (.str)))], [([.ro (.ty (.int .i64)), .ro (.ty (.int .i64)), .ro (.ty (.int .i64)), .rw (.gsl (.cons (.int .i64) (.cons (.int .i64) (.str))) 80) (.gsl (.cons (.int .i64) (.cons (.int .i64) (.str))) 80), .rw (.gsl (.int .i64) 3) (.gsl (.int .i64) 3)], 86)], [.val 0], [.ty (.str)], [], []⟩
def wLay_c : Cuts := ⟨[], [], []⟩
noncomputable def wLay_t : List (FuncId × Spec) := [wLaid_s, wLong_s]
noncomputable def wLay_b (x_Term : Int) (x_Kind : Int) (x_Data : (List UInt8)) (n : Int) (index : Int) (term : Int) (entries : (List (Int × (Int × (List UInt8))))) (ends : (List Int)) : (Option ((List UInt8) × ((List (Int × (Int × (List UInt8)))) × ((List Int) × Unit)))) := ((wLaid x_Term x_Kind x_Data).bind fun (x1, _) => ((wLong n index term entries ends).bind fun (x2, _) => (bif decide ((List.length ends + 1) * 8 ≤ 140737488355328) then (bif decide ((List.length entries + 1) * 32 ≤ 140737488355328) then some (x1, (entries ++ [(x_Term, x_Kind, x_Data)], (ends ++ [IntKind.wrap .i64 (x2 + (↑(List.length x1) : Int))], ()))) else none) else none)))
noncomputable def wLay (x_Term : Int) (x_Kind : Int) (x_Data : (List UInt8)) (n : Int) (index : Int) (term : Int) (entries : (List (Int × (Int × (List UInt8))))) (ends : (List Int)) : (Option ((List UInt8) × ((List (Int × (Int × (List UInt8)))) × ((List Int) × Unit)))) := stuck (wLay_b x_Term x_Kind x_Data n index term entries ends)
theorem wLay_un (x_Term : Int) (x_Kind : Int) (x_Data : (List UInt8)) (n : Int) (index : Int) (term : Int) (entries : (List (Int × (Int × (List UInt8))))) (ends : (List Int)) : wLay x_Term x_Kind x_Data n index term entries ends = wLay_b x_Term x_Kind x_Data n index term entries ends := stuck_eq _
theorem wLay_k : TabOk Tryz.prog wLay_t := .cons wLaid_o (.cons wLong_o (.nil))
theorem wLay_eq (d : dens wLay_g.inP) : fnU Tryz.prog (tabU wLay_t) wLay_c 100 wLay_g Tryz.f95 (Tryz.f95.body.getD .skip) d = wLay_b d.2.1.1 d.2.1.2.1 d.2.1.2.2 d.2.2.1 d.2.2.2.1 d.2.2.2.2.1 d.2.2.2.2.2.1 d.2.2.2.2.2.2.1 := by kernel_rfl
theorem wLay_ok : FnOk Tryz.prog 95 wLay_g fun d => wLay d.2.1.1 d.2.1.2.1 d.2.1.2.2 d.2.2.1 d.2.2.2.1 d.2.2.2.2.1 d.2.2.2.2.2.1 d.2.2.2.2.2.2.1 := (fn_ok follows named (tabU_ok wLay_k) Tryz.func95 rfl).congr fun d => (wLay_eq d).trans (stuck_eq _).symm
noncomputable def wLay_s : FuncId × Spec := (95, callOf wLay_g fun d => wLay d.2.1.1 d.2.1.2.1 d.2.1.2.2 d.2.2.1 d.2.2.2.1 d.2.2.2.2.1 d.2.2.2.2.2.1 d.2.2.2.2.2.2.1)
theorem wLay_o : SpecOk Tryz.prog wLay_s.1 wLay_s.2 := spec_ok wLay_ok
def wParse_g : Sig := ⟨[.ty (.int .i64), .ty (.str)], [], [], [.ty (.cons (.int .i64) (.cons (.int .i64) (.cons (.int .i64) (.cons (.slice (.cons (.int .i64) (.cons (.int .i64) (.str)))) (.slice (.int .i64)))))), .ty (.bool), .ty (.bool), .ty (.int .i64)], [], []⟩
def wParse_c : Cuts := ⟨[(0, ⟨[(9, .ty (.int .i64))], [(0, 0, .ty (.int .i64)), (0, 1, .ty (.int .i64)), (0, 2, .ty (.int .i64)), (0, 3, .gsl (.cons (.int .i64) (.cons (.int .i64) (.str))) 80), (0, 4, .gsl (.int .i64) 3)], [(5, .ty (.bool)), (6, .ty (.bool)), (7, .ty (.int .i64))], [(0, 0, .ty (.int .i64)), (0, 1, .ty (.int .i64)), (0, 2, .ty (.int .i64)), (0, 3, .ty (.slice (.cons (.int .i64) (.cons (.int .i64) (.str))))), (0, 4, .ty (.slice (.int .i64)))]⟩)], [], []⟩
noncomputable def wParse_t : List (FuncId × Spec) := [mUnframe_s, oNewReader_s, oRdInt_s, oRdEnd_s, wEntry0_s, wLay_s]
noncomputable def wParse_l0 (s : (List UInt8)) : (Int × (Int × (Int × (Int × ((List (Int × (Int × (List UInt8)))) × ((List Int) × Unit)))))) → Option (Rnd (Int × (Int × (Int × (Int × ((List (Int × (Int × (List UInt8)))) × ((List Int) × Unit)))))) (Bool × (Bool × (Int × (Int × (Int × (Int × ((List (Int × (Int × (List UInt8)))) × ((List Int) × Unit))))))))) := fun (x15, (x16, (x17, (x18, (x19, (x20, _)))))) => (bif decide (x15 < (↑(List.length s) : Int)) then ((mUnframe s x15).bind fun (x21, (x22, (x23, _))) => (bif !decide (x23 = 0) then some (.ret (true, (true, (0, (x16, (x17, (x18, (x19, (x20, ()))))))))) else ((wEntry0 x21).bind fun ((x24, (x25, x26)), (x27, _)) => (bif !x27 then some (.ret (true, (true, (31, (x16, (x17, (x18, (x19, (x20, ()))))))))) else (bif decide ((↑(List.length x19) : Int) = 8) then some (.ret (true, (true, (31, (x16, (x17, (x18, (x19, (x20, ()))))))))) else ((wLay x24 x25 x26 x16 x17 x18 x19 x20).bind fun (x28, (x29, (x30, _))) => some (.next (x22, (x16, (x17, (x18, (x29, (x30, ()))))))))))))) else some (.out (x15, (x16, (x17, (x18, (x19, (x20, ()))))))))
noncomputable def wParse_b (n : Int) (s : (List UInt8)) : (Option ((Int × (Int × (Int × ((List (Int × (Int × (List UInt8)))) × (List Int))))) × (Bool × (Bool × (Int × Unit))))) := ((mUnframe s 0).bind fun (x1, (x2, (x3, _))) => (bif !decide (x3 = 0) then some ((n, (0, (0, ([], [])))), (false, (true, (0, ())))) else ((oNewReader x1).bind fun (_, (x4, (x5, (x6, _)))) => ((oRdInt 4611686018427387903 x4 x5 x6).bind fun (x7, (x8, (x9, _))) => ((oRdInt 1099511627776 x4 x8 x9).bind fun (x10, (x11, (x12, _))) => ((oRdEnd x4 x11 x12).bind fun (x13, (x14, _)) => (bif !decide (x13 = 0) then some ((n, (x7, (x10, ([], [])))), (false, (true, (31, ())))) else (two (β := (Int × (Int × (Int × (Int × ((List (Int × (Int × (List UInt8)))) × ((List Int) × Unit))))))) (γ := (Bool × (Bool × (Int × (Int × (Int × (Int × ((List (Int × (Int × (List UInt8)))) × ((List Int) × Unit))))))))) (loop (wParse_l0 s) (x2, (n, (x7, (x10, ([], ([], ()))))))) (fun (x32, (x33, (x34, (x35, (x36, (x37, _)))))) => some ((x33, (x34, (x35, (x36, x37)))), (true, (false, (0, ()))))) (fun (x38, (x39, (x40, (x41, (x42, (x43, (x44, (x45, _)))))))) => some ((x41, (x42, (x43, (x44, x45)))), (x38, (x39, (x40, ())))))))))))))
noncomputable def wParse (n : Int) (s : (List UInt8)) : (Option ((Int × (Int × (Int × ((List (Int × (Int × (List UInt8)))) × (List Int))))) × (Bool × (Bool × (Int × Unit))))) := stuck (wParse_b n s)
theorem wParse_un (n : Int) (s : (List UInt8)) : wParse n s = wParse_b n s := stuck_eq _
theorem wParse_k : TabOk Tryz.prog wParse_t := .cons mUnframe_o (.cons oNewReader_o (.cons oRdInt_o (.cons oRdEnd_o (.cons wEntry0_o (.cons wLay_o (.nil))))))
theorem wParse_eq (d : dens wParse_g.inP) : fnU Tryz.prog (tabU wParse_t) wParse_c 100 wParse_g Tryz.f79 (Tryz.f79.body.getD .skip) d = wParse_b d.1 d.2.1 := by kernel_rfl
theorem wParse_ok : FnOk Tryz.prog 79 wParse_g fun d => wParse d.1 d.2.1 := (fn_ok follows named (tabU_ok wParse_k) Tryz.func79 rfl).congr fun d => (wParse_eq d).trans (stuck_eq _).symm
noncomputable def wParse_s : FuncId × Spec := (79, callOf wParse_g fun d => wParse d.1 d.2.1)
theorem wParse_o : SpecOk Tryz.prog wParse_s.1 wParse_s.2 := spec_ok wParse_ok
end Go.Proofs.YthnhbejjikgifaaGreatDoor.TV

/-
  WAL: slices.Sort of numbers that are owned, by the kit's contract, as shapes take it.
-/
namespace Go.Proofs.YthnhbejjikgifaaGreatDoor
open Go.Shelf Go.RowKit Go.Proofs
set_option maxRecDepth 100000
def Tryz.sortI_ren : Go.Shelf.Ren := ⟨fun | 5 => 77 | 8 => 123 | 7 => 122 | 19 => 149 | 20 => 150 | 10 => 140 | 11 => 141 | 12 => 142 | 13 => 143 | 14 => 144 | 15 => 145 | 16 => 146 | 17 => 147 | 18 => 148 | 30 => 163 | 31 => 164 | 32 => 165 | 33 => 166 | 34 => 167 | 35 => 168 | 40 => 186 | n => n, fun | 23 => 75 | 25 => 3 | 3 => 3 | 32 => 180 | 22 => 75 | 0 => 0 | 44 => 154 | 46 => 139 | 4 => 4 | 36 => 195 | 35 => 194 | 41 => 102 | 5 => 5 | 9 => 9 | 53 => 214 | 57 => 218 | 63 => 235 | 64 => 37 | n => n, fun | n => n⟩
theorem Tryz.sortI : Go.Proofs.SlLaysM.n5 Tryz.prog Tryz.sortI_ren := {
  mixed := by kernel_rfl,
  f5 := ⟨Tryz.f77.name, by decide, Tryz.func77.trans (congrArg some (by kernel_rfl))⟩,
  f7 := ⟨Tryz.f122.name, by decide, Tryz.func122.trans (congrArg some (by kernel_rfl))⟩,
  f8 := Tryz.func123.trans (congrArg some (by kernel_rfl)),
  f10 := ⟨Tryz.f140.name, by decide, Tryz.func140.trans (congrArg some (by kernel_rfl))⟩,
  f11 := ⟨Tryz.f141.name, by decide, Tryz.func141.trans (congrArg some (by kernel_rfl))⟩,
  f12 := ⟨Tryz.f142.name, by decide, Tryz.func142.trans (congrArg some (by kernel_rfl))⟩,
  f13 := ⟨Tryz.f143.name, by decide, Tryz.func143.trans (congrArg some (by kernel_rfl))⟩,
  f14 := ⟨Tryz.f144.name, by decide, Tryz.func144.trans (congrArg some (by kernel_rfl))⟩,
  f15 := ⟨Tryz.f145.name, by decide, Tryz.func145.trans (congrArg some (by kernel_rfl))⟩,
  f16 := ⟨Tryz.f146.name, by decide, Tryz.func146.trans (congrArg some (by kernel_rfl))⟩,
  f17 := ⟨Tryz.f147.name, by decide, Tryz.func147.trans (congrArg some (by kernel_rfl))⟩,
  f18 := ⟨Tryz.f148.name, by decide, Tryz.func148.trans (congrArg some (by kernel_rfl))⟩,
  f19 := Tryz.func149.trans (congrArg some (by kernel_rfl)),
  f20 := Tryz.func150.trans (congrArg some (by kernel_rfl)),
  f30 := ⟨Tryz.f163.name, by decide, Tryz.func163.trans (congrArg some (by kernel_rfl))⟩,
  f31 := Tryz.func164.trans (congrArg some (by kernel_rfl)),
  f32 := Tryz.func165.trans (congrArg some (by kernel_rfl)),
  f33 := ⟨Tryz.f166.name, by decide, Tryz.func166.trans (congrArg some (by kernel_rfl))⟩,
  f34 := ⟨Tryz.f167.name, by decide, Tryz.func167.trans (congrArg some (by kernel_rfl))⟩,
  f35 := ⟨Tryz.f168.name, by decide, Tryz.func168.trans (congrArg some (by kernel_rfl))⟩,
  f40 := ⟨Tryz.f186.name, by decide, Tryz.func186.trans (congrArg some (by kernel_rfl))⟩,
  t0 := Tryz.underlying0,
  a0 := Tryz.isAgg0,
  z0 := Tryz.sizeOf0,
  v0 := Tryz.zeroValue0,
  t3 := Tryz.underlying3,
  a3 := Tryz.isAgg3,
  z3 := Tryz.sizeOf3,
  v3 := Tryz.zeroValue3,
  t4 := Tryz.underlying4,
  a4 := Tryz.isAgg4,
  z4 := Tryz.sizeOf4,
  v4 := Tryz.zeroValue4,
  t5 := Tryz.underlying5,
  a5 := Tryz.isAgg5,
  z5 := Tryz.sizeOf5,
  v5 := Tryz.zeroValue5,
  t9 := Tryz.underlying9,
  a9 := Tryz.isAgg9,
  z9 := Tryz.sizeOf9,
  v9 := Tryz.zeroValue9,
  t22 := Tryz.underlying75,
  a22 := Tryz.isAgg75,
  z22 := Tryz.sizeOf75,
  v22 := Tryz.zeroValue75,
  t23 := Tryz.underlying75,
  a23 := Tryz.isAgg75,
  z23 := Tryz.sizeOf75,
  v23 := Tryz.zeroValue75,
  t25 := Tryz.underlying3,
  a25 := Tryz.isAgg3,
  z25 := Tryz.sizeOf3,
  v25 := Tryz.zeroValue3,
  t32 := Tryz.underlying180,
  a32 := Tryz.isAgg180,
  z32 := Tryz.sizeOf180,
  v32 := Tryz.zeroValue180,
  t35 := Tryz.underlying194,
  a35 := Tryz.isAgg194,
  z35 := Tryz.sizeOf194,
  v35 := Tryz.zeroValue194,
  t36 := Tryz.underlying195,
  a36 := Tryz.isAgg195,
  z36 := Tryz.sizeOf195,
  v36 := Tryz.zeroValue195,
  t41 := Tryz.underlying102,
  a41 := Tryz.isAgg102,
  z41 := Tryz.sizeOf102,
  v41 := Tryz.zeroValue102,
  t44 := Tryz.underlying154,
  a44 := Tryz.isAgg154,
  z44 := Tryz.sizeOf154,
  v44 := Tryz.zeroValue154,
  t46 := Tryz.underlying139,
  a46 := Tryz.isAgg139,
  z46 := Tryz.sizeOf139,
  v46 := Tryz.zeroValue139,
  t53 := Tryz.underlying214,
  a53 := Tryz.isAgg214,
  z53 := Tryz.sizeOf214,
  v53 := Tryz.zeroValue214,
  t57 := Tryz.underlying218,
  a57 := Tryz.isAgg218,
  z57 := Tryz.sizeOf218,
  v57 := Tryz.zeroValue218,
  t63 := Tryz.underlying235,
  a63 := Tryz.isAgg235,
  z63 := Tryz.sizeOf235,
  v63 := Tryz.zeroValue235,
  t64 := Tryz.underlying37,
  a64 := Tryz.isAgg37,
  z64 := Tryz.sizeOf37,
  v64 := Tryz.zeroValue37 }
end Go.Proofs.YthnhbejjikgifaaGreatDoor
namespace Go.Proofs.YthnhbejjikgifaaGreatDoor.TV
open Go Go.RowKit Go.Shelf Go.Proofs
open Go.Sort (grow putRow Holds putCells mapBlock onCells)
set_option linter.unusedVariables false
set_option linter.unusedSimpArgs false
set_option maxRecDepth 100000

/-- Numbers, rising. -/
def insI (x : Int) : List Int → List Int
  | [] => [x]
  | y :: l => if x ≤ y then x :: y :: l else y :: insI x l
def sortI : List Int → List Int
  | [] => []
  | x :: l => insI x (sortI l)
theorem insI_perm (x : Int) : ∀ l, (insI x l).Perm (x :: l)
  | [] => .refl _
  | y :: l => by
    unfold insI
    split
    · exact .refl _
    · exact ((insI_perm x l).cons y).trans (.swap x y l)
theorem sortI_perm : ∀ l, (sortI l).Perm l
  | [] => .refl _
  | x :: l => (insI_perm x (sortI l)).trans ((sortI_perm l).cons x)
theorem insI_sorted {x : Int} : ∀ {l : List Int}, l.Pairwise (· ≤ ·) → (insI x l).Pairwise (· ≤ ·)
  | [], _ => by simp [insI]
  | y :: l, h => by
    unfold insI
    rw [List.pairwise_cons] at h
    split
    · rename_i hxy
      refine List.pairwise_cons.2 ⟨fun z hz => ?_, List.pairwise_cons.2 h⟩
      rcases List.mem_cons.1 hz with rfl | hz
      · exact hxy
      · have := h.1 z hz; omega
    · rename_i hxy
      refine List.pairwise_cons.2 ⟨fun z hz => ?_, insI_sorted h.2⟩
      rcases List.mem_cons.1 ((insI_perm x l).mem_iff.1 hz) with rfl | hz
      · omega
      · exact h.1 z hz
theorem sortI_sorted : ∀ l : List Int, (sortI l).Pairwise (· ≤ ·)
  | [] => .nil
  | _ :: l => insI_sorted (sortI_sorted l)
theorem sorted_unique {l m : List Int} (h : l.Perm m) (hl : l.Pairwise (· ≤ ·)) (hm : m.Pairwise (· ≤ ·)) : l = m :=
  h.eq_of_pairwise (le := (· ≤ ·)) (fun a b _ _ h1 h2 => by omega) hl hm
theorem sortI_eq (l : List Int) : l.mergeSort (fun x y => decide (x ≤ y)) = sortI l := by
  have h := List.pairwise_mergeSort (le := fun x y : Int => decide (x ≤ y)) (fun a b c h1 h2 => by simp only [decide_eq_true_eq] at *; omega) (fun a b => by simp only [Bool.or_eq_true, decide_eq_true_eq]; omega) l
  exact sorted_unique ((List.mergeSort_perm l _).trans (sortI_perm l).symm) (h.imp fun h => by simpa using h) (sortI_sorted l)

theorem grow_below {w : World} {os : Array Go.Obj} : Below w.heap.size w (grow w os) := ⟨rfl, rfl, rfl, by simp [grow], fun k hk => by simp [grow, Array.getElem?_append, hk]⟩
theorem ahead_below {b : Nat} {w : World} {n : Nat} : Below b w (Go.Sort.ahead w n) := ⟨rfl, rfl, rfl, Nat.le_refl _, fun k hk => rfl⟩
theorem sort_gsl {s : St} {o : Nat} {l : List Int} {ty : TypeId} (h : Is s o (l.map (TV.int .i64)) ty) (hlen : l.length < 4611686018427387904) :
    Sim Tryz.prog 77 [.gsl o l.length] s (.tup []) (setO s o ((sortI l).map (TV.int .i64)) ty) := by
  refine ⟨⟨_, _, Tryz.func77, rfl⟩, fun g w rargs hR hA => ?_⟩
  cases hA with
  | cons rv _ _ _ r rs =>
    cases rs
    cases r with
    | gsl _ b _ cap e hb hc hle =>
      by_cases hl : l = []
      · subst hl
        have hs : setO s o ((sortI []).map (TV.int .i64)) ty = s := by
          unfold setO
          have h' : s.objs.get o = some (.cells [] ty) := h
          rw [show ((sortI []).map (TV.int .i64)) = [] from rfl, Tr.set_same _ _ _ h']
        rw [hs]
        refine Calls.mono (AnyM.slices_Sort_int_none Tryz.sortI (some ⟨b, 0, none⟩) cap w) fun e' w' ⟨he, hw⟩ => ?_
        subst hw
        exact ⟨_, g, he, .refl g, hR, .tup _ _ .nil⟩
      · obtain ⟨ob, h1, h2⟩ := hR.obj o b hb
        rw [show s.objs.get o = _ from h] at h1
        cases h1
        obtain ⟨vs, h3, h4⟩ := h2
        rw [List.length_map] at h4
        have hvl : l.length ≤ vs.size := by have := h4.length; rw [List.length_take, Array.length_toList (xs := vs), List.length_map] at this; omega
        have hcell : ∀ j, j < l.length → vs[j]? = some (.int .i64 l[j]!) := fun j hj => by
          obtain ⟨v, hv, rv⟩ := h4.get (i := j) (by rw [List.getElem?_map, List.getElem?_eq_getElem hj]; rfl)
          rw [List.getElem?_take, if_pos hj] at hv
          cases rv
          rw [← Array.getElem?_toList, hv, getElem!_pos l j hj]
        have hH : Holds (Value.int .i64) w b 0 l.toArray := fun j hj => by
          have hj : j < l.length := by simpa using hj
          have hx : l.toArray[j]! = l[j]! := by simp
          rw [hx]
          constructor
          · simp [World.cell?, h3, hcell j hj]
          · simp [World.frozen?, h3]
        have hlt : b < w.heap.size := by
          rcases Nat.lt_or_ge b w.heap.size with h | h
          · exact h
          · rw [Array.getElem?_eq_none h] at h3; cases h3
        refine Calls.mono (AnyM.slices_Sort_int Tryz.sortI b 0 cap l w hH hlt hlen) fun e' w' ⟨he, n, os, hw⟩ => ?_
        subst hw
        rw [sortI_eq]
        have hne : ¬ Empty s o := fun ⟨t, ht⟩ => by
          rw [show s.objs.get o = _ from h] at ht
          cases l with
          | nil => exact hl rfl
          | cons _ _ => cases ht
        have hsl : (sortI l).length = l.length := (sortI_perm l).length_eq
        have hR1 : Rel Tryz.prog g (Go.Sort.ahead w n) s := hR.keep ahead_below
        have hmod : ∀ k, (putRow (Value.int .i64) (Go.Sort.ahead w n) b 0 (sortI l).toArray).heap[k]? = if b = k then (w.heap[k]?).map (onCells (putCells (Value.int .i64) 0 (sortI l).toArray)) else w.heap[k]? := fun k => by
          simp only [putRow, mapBlock, Go.Sort.ahead, Array.getElem?_modify]
        have hb1 : (putRow (Value.int .i64) (Go.Sort.ahead w n) b 0 (sortI l).toArray).heap[b]? = some (.cells (putCells (Value.int .i64) 0 (sortI l).toArray vs) ty (0, 0)) := by
          rw [hmod, if_pos rfl, h3]
          rfl
        have hR2 : Rel Tryz.prog g (putRow (Value.int .i64) (Go.Sort.ahead w n) b 0 (sortI l).toArray) (setO s o ((sortI l).map (TV.int .i64)) ty) := by
          refine hR1.setObj (w' := putRow (Value.int .i64) (Go.Sort.ahead w n) b 0 (sortI l).toArray) (ob := .cells ((sortI l).map (TV.int .i64)) ty) hb (fun k hk => by rw [hmod, if_neg (fun e => hk e.symm)]; rfl) rfl rfl rfl (by simp [putRow, mapBlock]) hne (fun us e' he' => ?_) ⟨_, hb1, ?_⟩
          · have he'' : w.heap[b]? = some (.cells us e' (0, 0)) := he'
            rw [h3] at he''
            cases he''
            exact ⟨_, hb1, by simp [putCells]⟩
          · refine VRels.of (by simp [putCells, hsl]; omega) fun i v x hv hx => ?_
            rw [List.getElem?_map] at hx
            obtain ⟨z, hz, rfl⟩ := Option.map_eq_some_iff.1 hx
            have hi : i < (sortI l).length := (List.getElem?_eq_some_iff.1 hz).1
            rw [List.getElem?_take, List.length_map, if_pos hi, Array.getElem?_toList] at hv
            simp only [putCells, Array.getElem?_mapIdx] at hv
            rw [Array.getElem?_eq_getElem (show i < vs.size by omega)] at hv
            have hz' := (List.getElem?_eq_some_iff.1 hz).2
            have hv : Value.int .i64 z = v := by simpa [hi, hz'] using hv
            subst hv
            exact .int _ _
        exact ⟨_, g, he, .refl g, hR2.keep grow_below, .tup _ _ .nil⟩

/-! ### As shapes take it -/
theorem elR_int {x : Int} {e : TV} (h : ElR (.int .i64) x e) : e = .int .i64 x := by
  obtain ⟨h1, h2⟩ := h
  have h2 : TV.cells e = [TV.int .i64 x] := h2
  cases e <;> first | (cases h1; done) | (simp only [TV.cells, List.cons.injEq, and_true] at h2; exact h2)
theorem elRs_int : ∀ {l : List Int} {es : List TV}, All2 (ElR (.int .i64)) l es → es = l.map (TV.int .i64)
  | [], [], _ => rfl
  | x :: l, e :: es, h => by rw [elR_int h.1, elRs_int h.2]; rfl
  | [], _ :: _, h => h.elim
  | _ :: _, [], h => h.elim
theorem ints_rel : ∀ l : List Int, All2 (ElR (.int .i64)) l (l.map (TV.int .i64))
  | [] => trivial
  | x :: l => ⟨⟨rfl, rfl⟩, ints_rel l⟩
theorem flat_i64 : ∀ l : List Int, (l.map (TV.int .i64)).flatMap TV.cells = l.map (TV.int .i64)
  | [] => rfl
  | x :: l => by simp [TV.cells, flat_i64 l]
theorem set_self' {α : Type} : ∀ {l : List α} {j : Nat} {a : α}, l[j]? = some a → l.set j a = l
  | x :: l, 0, a, h => by simp at h; simp [h]
  | x :: l, j + 1, a, h => by simp at h; simp [set_self' h]
  | [], _, _, h => by simp at h
def sortU : Spec := fun args h => match args with
  | [.oref j] => (match (ownOf h.tips j).bind (asLst (.int .i64) 3) with
    | some l => .ite (decide (l.length ≤ 1000)) (.leaf (.tup [], setOwn h j (.lst (.int .i64) 3 (sortI l)), [])) .fail
    | none => .fail)
  | _ => .fail
noncomputable def sortI_s : FuncId × Spec := (77, sortU)
theorem sortI_o0 : SpecOk0 Tryz.prog sortI_s.1 sortI_s.2 := by
  intro args h r hr s V targs hR hv
  simp only [sortI_s, sortU] at hr
  split at hr
  · rename_i j
    split at hr
    · rename_i l hl
      obtain ⟨c, hc1, hc2⟩ := Option.bind_eq_some_iff.1 hl
      have hcl := asLst_eq hc2
      subst hcl
      simp only [Tree.Has] at hr
      rcases hr with ⟨h1, rfl⟩ | ⟨_, hr⟩
      · simp only [decide_eq_true_eq] at h1
        cases hv with
        | cons _ tv _ _ rx rs =>
          cases rs
          rcases oref_cases rx with ⟨o, rfl, hj⟩ | ⟨o, n, rfl, hj⟩ | ⟨rfl, hj⟩
          · exact (own_get hR (ownOf_read hc1) hj).elim
          · obtain ⟨q0, ⟨q1, q2⟩, es, q3, q4⟩ := own_lst hR (ownOf_read hc1) hj
            have q2 : n = l.length := q2
            subst q2
            rw [elRs_int q4, flat_i64] at q3
            have hsl : (sortI l).length = l.length := (sortI_perm l).length_eq
            refine ⟨_, V, _, sort_gsl (l := l) q3 (by omega), .tup _ _ .nil, ?_⟩
            refine own_eff hR hj rfl (own_live hc1) (by rfl) (by rfl) (by rfl) (fun o' ho' => ?_) ?_ []
            · simp [setO, Tr.get_set, ho']
            · refine Good.lst (es := (sortI l).map (TV.int .i64)) q0 q1 hsl.symm ?_ (ints_rel _)
              simp [setO, Tr.get_set, flat_i64]
          · have hl0 := own_nil hR (ownOf_read hc1) hj
            have hl0 : l = [] := hl0
            subst hl0
            have hself : setOwn h j (.lst (.int .i64) 3 (sortI [])) = h := by
              have h2 : h.tips[j]? = some (some (.own (.lst (.int .i64) 3 []))) := own_live hc1
              obtain ⟨objs, tips⟩ := h
              simp only [setOwn, sortI]
              congr 1
              exact set_self' h2
            refine ⟨s, V, .tup [], ⟨⟨_, _, Tryz.func77, rfl⟩, fun g w rargs hR' hA => ?_⟩, .tup _ _ .nil, ?_⟩
            · cases hA with
              | cons rv _ _ _ r rs =>
                cases rs
                cases r
                refine Calls.mono (AnyM.slices_Sort_int_none Tryz.sortI none 0 w) fun e' w' ⟨he, hw⟩ => ?_
                subst hw
                exact ⟨_, g, he, .refl g, hR', .tup _ _ .nil⟩
            · show Eff s V h [] s V (setOwn h j (.lst (.int .i64) 3 (sortI [])))
              rw [hself]
              exact Eff.refl hR []
      · exact hr.elim
    · exact hr.elim
  · exact hr.elim
theorem sortI_o : SpecOk Tryz.prog sortI_s.1 sortI_s.2 := sortI_o0.up
end Go.Proofs.YthnhbejjikgifaaGreatDoor.TV

/-
  WAL: reading, laying, printed.
-/
namespace Go.Proofs.YthnhbejjikgifaaGreatDoor.TV
open Go Go.RowKit
set_option linter.unusedVariables false
set_option maxRecDepth 1000000

def wRead_g : Sig := ⟨[.ptr 0], [([.ro (.ptr 1), .ign, .ign, .rw (.lit (.slice none 0 0)) (.olst (.cons (.int .i64) (.cons (.int .i64) (.cons (.int .i64) (.cons (.slice (.cons (.int .i64) (.cons (.int .i64) (.str)))) (.slice (.int .i64)))))) 86), .ign], 73), ([.ign, .rw (.omap (.str)) (.omap (.str)), .ign, .ign, .ro (.ty (.bool)), .ign, .ign], 70)], [.val 0, .cell 0 0], [.ty (.slice (.int .i64)), .ty (.bool), .ty (.int .i64)], [], []⟩
def wRead_c : Cuts := ⟨[(4, ⟨[(123, .ty (.int .i64)), (2, .gsl (.int .i64) 3)], [], [], []⟩), (2, ⟨[(48, .ty (.int .i64)), (2, .gsl (.int .i64) 3), (3, .ty (.bool))], [(0, 3, .olst (.cons (.int .i64) (.cons (.int .i64) (.cons (.int .i64) (.cons (.slice (.cons (.int .i64) (.cons (.int .i64) (.str)))) (.slice (.int .i64)))))) 86), (1, 1, .omap (.str))], [(2, .ty (.slice (.int .i64))), (3, .ty (.bool)), (4, .ty (.int .i64))], [(0, 3, .olst (.cons (.int .i64) (.cons (.int .i64) (.cons (.int .i64) (.cons (.slice (.cons (.int .i64) (.cons (.int .i64) (.str)))) (.slice (.int .i64)))))) 86), (1, 1, .omap (.str))]⟩), (0, ⟨[(29, .ty (.int .i64)), (5, .olst (.int .i64) 3)], [(1, 1, .omap (.str))], [], [(1, 1, .omap (.str))]⟩)], [(15, ⟨[(82, .ty (.bool))], [], [], []⟩)], []⟩
noncomputable def wRead_t : List (FuncId × Spec) := [dNames_s, wNumber_s, sortI_s, wName_s, dRead_s, wParse_s, wSegEnd_s]
noncomputable def wRead_l0 (x1 : (List (List UInt8))) : (Int × ((List Int) × ((List ((List UInt8) × (List UInt8))) × Unit))) → Option (Rnd (Int × ((List Int) × ((List ((List UInt8) × (List UInt8))) × Unit))) ((List ((List UInt8) × (List UInt8))) × Unit)) := fun (x3, (x4, (x5, _))) => (bif decide (x3 < (↑(List.length x1) : Int)) then (bif decide (0 ≤ x3) then ((x1[Int.toNat x3]?).bind fun x6 => ((wNumber x6).bind fun (x7, (x8, _)) => (bif x8 then (bif decide ((List.length x4 + 1) * 8 ≤ 140737488355328) then some (.next (IntKind.wrap .i64 (x3 + 1), (x4 ++ [x7], (x5, ())))) else none) else some (.next (IntKind.wrap .i64 (x3 + 1), (x4, (x5, ()))))))) else none) else some (.out (x3, (x4, (x5, ())))))
noncomputable def wRead_l2 (x16 : (List (Int × (Int × (Int × ((List (Int × (Int × (List UInt8)))) × (List Int))))))) : (Int × ((List Int) × Unit)) → Option (Rnd (Int × ((List Int) × Unit)) Unit) := fun (x40, (x41, _)) => (bif decide (x40 < (↑(List.length x16) : Int)) then (bif decide (0 ≤ x40) then (bif decide (x40 < (↑(List.length x16) : Int)) then ((x16[Int.toNat x40]?).bind fun (x42, (x43, (x44, (x45, x46)))) => (bif decide ((List.length x41 + 1) * 8 ≤ 140737488355328) then some (.next (IntKind.wrap .i64 (x40 + 1), (x41 ++ [x42], ()))) else none)) else none) else none) else some (.out (x40, (x41, ()))))
noncomputable def wRead_l3 (x16 : (List (Int × (Int × (Int × ((List (Int × (Int × (List UInt8)))) × (List Int))))))) : (Int × ((List Int) × Unit)) → Option (Rnd (Int × ((List Int) × Unit)) Unit) := fun (x50, (x51, _)) => (bif decide (x50 < (↑(List.length x16) : Int)) then (bif decide (0 ≤ x50) then (bif decide (x50 < (↑(List.length x16) : Int)) then ((x16[Int.toNat x50]?).bind fun (x52, (x53, (x54, (x55, x56)))) => (bif decide ((List.length x51 + 1) * 8 ≤ 140737488355328) then some (.next (IntKind.wrap .i64 (x50 + 1), (x51 ++ [x52], ()))) else none)) else none) else none) else some (.out (x50, (x51, ()))))
noncomputable def wRead_l1 (down : Bool) (x11 : (List Int)) : (Int × ((List Int) × (Bool × ((List (Int × (Int × (Int × ((List (Int × (Int × (List UInt8)))) × (List Int)))))) × ((List ((List UInt8) × (List UInt8))) × Unit))))) → Option (Rnd (Int × ((List Int) × (Bool × ((List (Int × (Int × (Int × ((List (Int × (Int × (List UInt8)))) × (List Int)))))) × ((List ((List UInt8) × (List UInt8))) × Unit))))) ((List Int) × (Bool × (Int × ((List (Int × (Int × (Int × ((List (Int × (Int × (List UInt8)))) × (List Int)))))) × ((List ((List UInt8) × (List UInt8))) × Unit)))))) := fun (x13, (x14, (x15, (x16, (x17, _))))) => (bif decide (x13 < (↑(List.length (sortI x11)) : Int)) then (bif decide (0 ≤ x13) then (bif decide (x13 < (↑(List.length (sortI x11)) : Int)) then (((sortI x11)[Int.toNat x13]?).bind fun x18 => ((wName x18).bind fun (x19, _) => ((dRead x19 x17 down).bind fun (x20, (x21, (x22, _))) => ((wParse x18 x20).bind fun ((x23, (x24, (x25, (x26, x27)))), (x28, (x29, (x30, _)))) => (two (β := (Bool × Unit)) (γ := Unit) (bif !decide (x30 = 0) then some (.inl (true, ())) else (bif x29 then some (.inl (decide (x13 < IntKind.wrap .i64 ((↑(List.length (sortI x11)) : Int) - 1)), ())) else some (.inl (false, ())))) (fun (x32, _) => (bif x32 then some (.ret ([], (false, (31, (x16, (x22, ())))))) else (bif !x28 then (bif decide ((List.length x14 + 1) * 8 ≤ 140737488355328) then some (.ret (x14 ++ [x18], (false, (0, (x16, (x22, ())))))) else none) else (bif decide (0 < (↑(List.length x16) : Int)) then (bif decide (0 ≤ IntKind.wrap .i64 ((↑(List.length x16) : Int) - 1)) then (bif decide (IntKind.wrap .i64 ((↑(List.length x16) : Int) - 1) < (↑(List.length x16) : Int)) then ((x16[Int.toNat (IntKind.wrap .i64 ((↑(List.length x16) : Int) - 1))]?).bind fun (x33, (x34, (x35, (x36, x37)))) => ((wSegEnd x33 x34 x35 x36 x37).bind fun (x38, (x39, _)) => (bif !decide (x38 = x24) then (two (β := (Int × ((List Int) × Unit))) (γ := Unit) (loop (wRead_l3 x16) (0, (x14, ()))) (fun (x58, (x59, _)) => some (.next (IntKind.wrap .i64 (x13 + 1), (x59, (x29, ([(x23, x24, x25, x26, x27)], (x22, ()))))))) (fun _ => none)) else (bif !decide (x39 = x25) then (two (β := (Int × ((List Int) × Unit))) (γ := Unit) (loop (wRead_l2 x16) (0, (x14, ()))) (fun (x48, (x49, _)) => some (.next (IntKind.wrap .i64 (x13 + 1), (x49, (x29, ([(x23, x24, x25, x26, x27)], (x22, ()))))))) (fun _ => none)) else (bif decide ((List.length x16 + 1) * 72 ≤ 140737488355328) then some (.next (IntKind.wrap .i64 (x13 + 1), (x14, (x29, (x16 ++ [(x23, x24, x25, x26, x27)], (x22, ())))))) else none))))) else none) else none) else (bif decide ((List.length x16 + 1) * 72 ≤ 140737488355328) then some (.next (IntKind.wrap .i64 (x13 + 1), (x14, (x29, (x16 ++ [(x23, x24, x25, x26, x27)], (x22, ())))))) else none))))) (fun _ => none)))))) else none) else none) else some (.out (x13, (x14, (x15, (x16, (x17, ())))))))
noncomputable def wRead_b (now : (List ((List UInt8) × (List UInt8)))) (down : Bool) : (Option ((List Int) × (Bool × (Int × ((List (Int × (Int × (Int × ((List (Int × (Int × (List UInt8)))) × (List Int)))))) × ((List ((List UInt8) × (List UInt8))) × Unit)))))) := ((dNames now down).bind fun (x1, (x2, _)) => (two (β := (Int × ((List Int) × ((List ((List UInt8) × (List UInt8))) × Unit)))) (γ := ((List ((List UInt8) × (List UInt8))) × Unit)) (loop (wRead_l0 x1) (0, ([], (x2, ())))) (fun (x10, (x11, (x12, _))) => (bif decide (List.length x11 ≤ 1000) then (two (β := (Int × ((List Int) × (Bool × ((List (Int × (Int × (Int × ((List (Int × (Int × (List UInt8)))) × (List Int)))))) × ((List ((List UInt8) × (List UInt8))) × Unit)))))) (γ := ((List Int) × (Bool × (Int × ((List (Int × (Int × (Int × ((List (Int × (Int × (List UInt8)))) × (List Int)))))) × ((List ((List UInt8) × (List UInt8))) × Unit)))))) (loop (wRead_l1 down x11) (0, ([], (false, ([], (x12, ())))))) (fun (x61, (x62, (x63, (x64, (x65, _))))) => some (x62, (x63, (0, (x64, (x65, ())))))) (fun (x66, (x67, (x68, (x69, (x70, _))))) => some (x66, (x67, (x68, (x69, (x70, ()))))))) else none)) (fun (x71, _) => some ([], (false, (0, ([], (x71, ()))))))))
noncomputable def wRead (now : (List ((List UInt8) × (List UInt8)))) (down : Bool) : (Option ((List Int) × (Bool × (Int × ((List (Int × (Int × (Int × ((List (Int × (Int × (List UInt8)))) × (List Int)))))) × ((List ((List UInt8) × (List UInt8))) × Unit)))))) := stuck (wRead_b now down)
theorem wRead_un (now : (List ((List UInt8) × (List UInt8)))) (down : Bool) : wRead now down = wRead_b now down := stuck_eq _
theorem wRead_k : TabOk Tryz.prog wRead_t := .cons dNames_o (.cons wNumber_o (.cons sortI_o (.cons wName_o (.cons dRead_o (.cons wParse_o (.cons wSegEnd_o (.nil)))))))
theorem wRead_eq (d : dens wRead_g.inP) : fnU Tryz.prog (tabU wRead_t) wRead_c 100 wRead_g Tryz.f34 (Tryz.f34.body.getD .skip) d = wRead_b d.2.2.2.2.2.2.2.1 d.2.2.2.2.2.2.2.2.2.2.1 := by kernel_rfl
theorem wRead_ok : FnOk Tryz.prog 34 wRead_g fun d => wRead d.2.2.2.2.2.2.2.1 d.2.2.2.2.2.2.2.2.2.2.1 := (fn_ok follows named (tabU_ok wRead_k) Tryz.func34 rfl).congr fun d => (wRead_eq d).trans (stuck_eq _).symm
noncomputable def wRead_s : FuncId × Spec := (34, callOf wRead_g fun d => wRead d.2.2.2.2.2.2.2.1 d.2.2.2.2.2.2.2.2.2.2.1)
theorem wRead_o : SpecOk Tryz.prog wRead_s.1 wRead_s.2 := spec_ok wRead_ok
set_option maxRecDepth 100000 in

theorem eClone_ok : FnOk Tryz.prog 93 ⟨[.ty (.slice (.cons (.int .i64) (.cons (.int .i64) .str)))], [], [], [.gsl (.cons (.int .i64) (.cons (.int .i64) (.str))) 80], [], []⟩ fun d => cloneU 32 d.1 :=
  clone_okP follows named (tabU_ok .nil) (C := ⟨[], [], []⟩) (fuel := 100) Tryz.func93 rfl (t := .cons (.int .i64) (.cons (.int .i64) .str)) (p := .gsl (.cons (.int .i64) (.cons (.int .i64) (.str))) 80) (F := cloneU 32) (by kernel_rfl) (fun l => by kernel_rfl)
noncomputable def eClone_s : FuncId × Spec := (93, callOf ⟨[.ty (.slice (.cons (.int .i64) (.cons (.int .i64) .str)))], [], [], [.gsl (.cons (.int .i64) (.cons (.int .i64) (.str))) 80], [], []⟩ fun d => cloneU 32 d.1)
theorem eClone_o : SpecOk Tryz.prog eClone_s.1 eClone_s.2 := spec_ok eClone_ok
set_option maxRecDepth 100000 in

theorem iClone_ok : FnOk Tryz.prog 94 ⟨[.ty (.slice (.int .i64))], [], [], [.gsl (.int .i64) 3], [], []⟩ fun d => cloneU 8 d.1 :=
  clone_okP follows named (tabU_ok .nil) (C := ⟨[], [], []⟩) (fuel := 100) Tryz.func94 rfl (t := .int .i64) (p := .gsl (.int .i64) 3) (F := cloneU 8) (by kernel_rfl) (fun l => by kernel_rfl)
noncomputable def iClone_s : FuncId × Spec := (94, callOf ⟨[.ty (.slice (.int .i64))], [], [], [.gsl (.int .i64) 3], [], []⟩ fun d => cloneU 8 d.1)
theorem iClone_o : SpecOk Tryz.prog iClone_s.1 iClone_s.2 := spec_ok iClone_ok
def wLayAll_g : Sig := ⟨[.ptr 0, .ty (.slice (.cons (.int .i64) (.cons (.int .i64) (.str))))], [([.ro (.ptr 1), .ign, .ign, .rw (.olst (.cons (.int .i64) (.cons (.int .i64) (.cons (.int .i64) (.cons (.slice (.cons (.int .i64) (.cons (.int .i64) (.str)))) (.slice (.int .i64)))))) 86) (.olst (.cons (.int .i64) (.cons (.int .i64) (.cons (.int .i64) (.cons (.slice (.cons (.int .i64) (.cons (.int .i64) (.str)))) (.slice (.int .i64)))))) 86), .ign], 73), ([.rw (.omap (.str)) (.omap (.str)), .rw (.omap (.str)) (.omap (.str)), .rw (.gsl (.cons (.int .i64) (.cons (.str) (.cons (.str) (.cons (.str) (.int .i64))))) 92) (.gsl (.cons (.int .i64) (.cons (.str) (.cons (.str) (.cons (.str) (.int .i64))))) 92), .rw (.ty (.int .i64)) (.ty (.int .i64)), .rw (.ty (.bool)) (.ty (.bool)), .rw (.ty (.slice (.cons (.int .i64) (.cons (.int .i64) (.int .i64))))) (.ty (.slice (.cons (.int .i64) (.cons (.int .i64) (.int .i64))))), .ro (.lit (.int .i64 (-1)))], 70)], [.val 0, .cell 0 0], [.ty (.int .i64)], [], []⟩
def wLayAll_c : Cuts := ⟨[(2, ⟨[(1, .ty (.slice (.cons (.int .i64) (.cons (.int .i64) (.str))))), (8, .ty (.str))], [(2, 3, .gsl (.cons (.int .i64) (.cons (.int .i64) (.str))) 80), (2, 4, .gsl (.int .i64) 3)], [], [(2, 3, .gsl (.cons (.int .i64) (.cons (.int .i64) (.str))) 80), (2, 4, .gsl (.int .i64) 3)]⟩), (0, ⟨[(1, .ty (.slice (.cons (.int .i64) (.cons (.int .i64) (.str)))))], [(0, 3, .olst (.cons (.int .i64) (.cons (.int .i64) (.cons (.int .i64) (.cons (.slice (.cons (.int .i64) (.cons (.int .i64) (.str)))) (.slice (.int .i64)))))) 86), (1, 0, .omap (.str)), (1, 1, .omap (.str)), (1, 2, .gsl (.cons (.int .i64) (.cons (.str) (.cons (.str) (.cons (.str) (.int .i64))))) 92), (1, 3, .ty (.int .i64)), (1, 4, .ty (.bool)), (1, 5, .ty (.slice (.cons (.int .i64) (.cons (.int .i64) (.int .i64)))))], [(4, .ty (.int .i64))], [(0, 3, .olst (.cons (.int .i64) (.cons (.int .i64) (.cons (.int .i64) (.cons (.slice (.cons (.int .i64) (.cons (.int .i64) (.str)))) (.slice (.int .i64)))))) 86), (1, 0, .omap (.str)), (1, 1, .omap (.str)), (1, 2, .gsl (.cons (.int .i64) (.cons (.str) (.cons (.str) (.cons (.str) (.int .i64))))) 92), (1, 3, .ty (.int .i64)), (1, 4, .ty (.bool)), (1, 5, .ty (.slice (.cons (.int .i64) (.cons (.int .i64) (.int .i64)))))]⟩)], [], [(38, ⟨[(8, .ty (.str))], [(2, 0, .ty (.int .i64)), (2, 1, .ty (.int .i64)), (2, 2, .ty (.int .i64)), (2, 3, .ty (.slice (.cons (.int .i64) (.cons (.int .i64) (.str))))), (2, 4, .ty (.slice (.int .i64)))], [], [(2, 0, .ty (.int .i64)), (2, 1, .ty (.int .i64)), (2, 2, .ty (.int .i64)), (2, 3, .ty (.slice (.cons (.int .i64) (.cons (.int .i64) (.str))))), (2, 4, .ty (.slice (.int .i64)))]⟩)]⟩
noncomputable def wLayAll_t : List (FuncId × Spec) := [wSegEnd_s, wBase0_s, eClone_s, iClone_s, wLay_s, wName_s, dWrite_s, dAppend_s]
noncomputable def wLayAll_l1 (x24 : Int) (x25 : Int) (x26 : Int) : ((List (Int × (Int × (List UInt8)))) × ((List UInt8) × ((List (Int × (Int × (List UInt8)))) × ((List Int) × Unit)))) → Option (Rnd ((List (Int × (Int × (List UInt8)))) × ((List UInt8) × ((List (Int × (Int × (List UInt8)))) × ((List Int) × Unit)))) ((List (Int × (Int × (List UInt8)))) × ((List Int) × Unit))) := fun (x31, (x32, (x33, (x34, _)))) => (bif decide (0 < (↑(List.length x31) : Int)) then (bif decide ((↑(List.length x33) : Int) < 8) then ((x31[0]?).bind fun (x35, (x36, x37)) => ((wLay x35 x36 x37 x24 x25 x26 x33 x34).bind fun (x38, (x39, (x40, _))) => (bif decide (List.length x32 + List.length x38 ≤ 9223372036854775807) then (bif within (List.length x31) (Option.some 1) Option.none then some (.next (cut x31 (Option.some 1) Option.none, (x32 ++ x38, (x39, (x40, ()))))) else none) else none))) else some (.out (x31, (x32, (x33, (x34, ())))))) else some (.out (x31, (x32, (x33, (x34, ()))))))
noncomputable def wLayAll_l0 : ((List (Int × (Int × (List UInt8)))) × ((List (Int × (Int × (Int × ((List (Int × (Int × (List UInt8)))) × (List Int)))))) × ((List ((List UInt8) × (List UInt8))) × ((List ((List UInt8) × (List UInt8))) × ((List (Int × ((List UInt8) × ((List UInt8) × ((List UInt8) × Int))))) × (Int × (Bool × ((List (Int × (Int × Int))) × Unit)))))))) → Option (Rnd ((List (Int × (Int × (List UInt8)))) × ((List (Int × (Int × (Int × ((List (Int × (Int × (List UInt8)))) × (List Int)))))) × ((List ((List UInt8) × (List UInt8))) × ((List ((List UInt8) × (List UInt8))) × ((List (Int × ((List UInt8) × ((List UInt8) × ((List UInt8) × Int))))) × (Int × (Bool × ((List (Int × (Int × Int))) × Unit)))))))) (Int × ((List (Int × (Int × (Int × ((List (Int × (Int × (List UInt8)))) × (List Int)))))) × ((List ((List UInt8) × (List UInt8))) × ((List ((List UInt8) × (List UInt8))) × ((List (Int × ((List UInt8) × ((List UInt8) × ((List UInt8) × Int))))) × (Int × (Bool × ((List (Int × (Int × Int))) × Unit))))))))) := fun (x1, (x2, (x3, (x4, (x5, (x6, (x7, (x8, _)))))))) => (bif decide (0 < (↑(List.length x1) : Int)) then (bif decide (0 ≤ IntKind.wrap .i64 ((↑(List.length x2) : Int) - 1)) then (bif decide (IntKind.wrap .i64 ((↑(List.length x2) : Int) - 1) < (↑(List.length x2) : Int)) then ((x2[Int.toNat (IntKind.wrap .i64 ((↑(List.length x2) : Int) - 1))]?).bind fun (x9, (x10, (x11, (x12, x13)))) => (bif decide (0 ≤ IntKind.wrap .i64 ((↑(List.length x2) : Int) - 1)) then (bif decide (IntKind.wrap .i64 ((↑(List.length x2) : Int) - 1) < (↑(List.length x2) : Int)) then ((x2[Int.toNat (IntKind.wrap .i64 ((↑(List.length x2) : Int) - 1))]?).bind fun (x14, (x15, (x16, (x17, x18)))) => (two (β := ((List UInt8) × (Int × (Int × (Int × ((List (Int × (Int × (List UInt8)))) × ((List Int) × Unit))))))) (γ := (Int × (Int × (Int × ((List (Int × (Int × (List UInt8)))) × ((List Int) × Unit)))))) (bif decide ((↑(List.length x12) : Int) = 8) then ((wSegEnd x14 x15 x16 x17 x18).bind fun (x19, (x20, _)) => ((wBase0 x19 x20).bind fun (x21, _) => some (.inl (x21, (IntKind.wrap .i64 (x14 + 1), (x19, (x20, ([], ([], ()))))))))) else some (.inl ([], (x14, (x15, (x16, (x17, (x18, ())))))))) (fun (x23, (x24, (x25, (x26, (x27, (x28, _)))))) => ((cloneU 32 x27).bind fun (x29, _) => ((cloneU 8 x28).bind fun (x30, _) => (two (β := ((List (Int × (Int × (List UInt8)))) × ((List UInt8) × ((List (Int × (Int × (List UInt8)))) × ((List Int) × Unit))))) (γ := ((List (Int × (Int × (List UInt8)))) × ((List Int) × Unit))) (loop (wLayAll_l1 x24 x25 x26) (x1, (x23, (x29, (x30, ()))))) (fun (x42, (x43, (x44, (x45, _)))) => (bif decide ((↑(List.length x12) : Int) = 8) then ((wName x24).bind fun (x59, _) => ((dWrite x59 x43 x3 x4 x5 x6 x7 x8).bind fun (x60, (x61, (x62, (x63, (x64, (x65, (x66, _))))))) => (bif !decide (x60 = 0) then some (.ret (x60, (x2, (x61, (x62, (x63, (x64, (x65, (x66, ()))))))))) else (bif decide ((↑(List.length x12) : Int) = 8) then (bif decide ((List.length x2 + 1) * 72 ≤ 140737488355328) then some (.next (x42, (x2 ++ [(x24, x25, x26, x44, x45)], (x61, (x62, (x63, (x64, (x65, (x66, ()))))))))) else none) else (bif decide (0 ≤ IntKind.wrap .i64 ((↑(List.length x2) : Int) - 1)) then (bif decide (IntKind.wrap .i64 ((↑(List.length x2) : Int) - 1) < (↑(List.length x2) : Int)) then ((x2[Int.toNat (IntKind.wrap .i64 ((↑(List.length x2) : Int) - 1))]?).bind fun (x67, (x68, (x69, (x70, x71)))) => some (.next (x42, (List.set x2 (Int.toNat (IntKind.wrap .i64 ((↑(List.length x2) : Int) - 1))) (x24, x25, x26, x44, x45), (x61, (x62, (x63, (x64, (x65, (x66, ())))))))))) else none) else none))))) else ((wName x24).bind fun (x46, _) => ((dAppend x46 x43 x3 x4 x5 x6 x7 x8).bind fun (x47, (x48, (x49, (x50, (x51, (x52, (x53, _))))))) => (bif !decide (x47 = 0) then some (.ret (x47, (x2, (x48, (x49, (x50, (x51, (x52, (x53, ()))))))))) else (bif decide ((↑(List.length x12) : Int) = 8) then (bif decide ((List.length x2 + 1) * 72 ≤ 140737488355328) then some (.next (x42, (x2 ++ [(x24, x25, x26, x44, x45)], (x48, (x49, (x50, (x51, (x52, (x53, ()))))))))) else none) else (bif decide (0 ≤ IntKind.wrap .i64 ((↑(List.length x2) : Int) - 1)) then (bif decide (IntKind.wrap .i64 ((↑(List.length x2) : Int) - 1) < (↑(List.length x2) : Int)) then ((x2[Int.toNat (IntKind.wrap .i64 ((↑(List.length x2) : Int) - 1))]?).bind fun (x54, (x55, (x56, (x57, x58)))) => some (.next (x42, (List.set x2 (Int.toNat (IntKind.wrap .i64 ((↑(List.length x2) : Int) - 1))) (x24, x25, x26, x44, x45), (x48, (x49, (x50, (x51, (x52, (x53, ())))))))))) else none) else none))))))) (fun (x72, (x73, _)) => none))))) (fun (x74, (x75, (x76, (x77, (x78, _))))) => none))) else none) else none)) else none) else none) else some (.out (x1, (x2, (x3, (x4, (x5, (x6, (x7, (x8, ()))))))))))
noncomputable def wLayAll_b (es : (List (Int × (Int × (List UInt8))))) (segs : (List (Int × (Int × (Int × ((List (Int × (Int × (List UInt8)))) × (List Int))))))) (sure : (List ((List UInt8) × (List UInt8)))) (now : (List ((List UInt8) × (List UInt8)))) (wait : (List (Int × ((List UInt8) × ((List UInt8) × ((List UInt8) × Int)))))) (count : Int) (down : Bool) (falls : (List (Int × (Int × Int)))) : (Option (Int × ((List (Int × (Int × (Int × ((List (Int × (Int × (List UInt8)))) × (List Int)))))) × ((List ((List UInt8) × (List UInt8))) × ((List ((List UInt8) × (List UInt8))) × ((List (Int × ((List UInt8) × ((List UInt8) × ((List UInt8) × Int))))) × (Int × (Bool × ((List (Int × (Int × Int))) × Unit))))))))) := (two (β := ((List (Int × (Int × (List UInt8)))) × ((List (Int × (Int × (Int × ((List (Int × (Int × (List UInt8)))) × (List Int)))))) × ((List ((List UInt8) × (List UInt8))) × ((List ((List UInt8) × (List UInt8))) × ((List (Int × ((List UInt8) × ((List UInt8) × ((List UInt8) × Int))))) × (Int × (Bool × ((List (Int × (Int × Int))) × Unit))))))))) (γ := (Int × ((List (Int × (Int × (Int × ((List (Int × (Int × (List UInt8)))) × (List Int)))))) × ((List ((List UInt8) × (List UInt8))) × ((List ((List UInt8) × (List UInt8))) × ((List (Int × ((List UInt8) × ((List UInt8) × ((List UInt8) × Int))))) × (Int × (Bool × ((List (Int × (Int × Int))) × Unit))))))))) (loop wLayAll_l0 (es, (segs, (sure, (now, (wait, (count, (down, (falls, ()))))))))) (fun (x80, (x81, (x82, (x83, (x84, (x85, (x86, (x87, _)))))))) => some (0, (x81, (x82, (x83, (x84, (x85, (x86, (x87, ()))))))))) (fun (x88, (x89, (x90, (x91, (x92, (x93, (x94, (x95, _)))))))) => some (x88, (x89, (x90, (x91, (x92, (x93, (x94, (x95, ()))))))))))
noncomputable def wLayAll (es : (List (Int × (Int × (List UInt8))))) (segs : (List (Int × (Int × (Int × ((List (Int × (Int × (List UInt8)))) × (List Int))))))) (sure : (List ((List UInt8) × (List UInt8)))) (now : (List ((List UInt8) × (List UInt8)))) (wait : (List (Int × ((List UInt8) × ((List UInt8) × ((List UInt8) × Int)))))) (count : Int) (down : Bool) (falls : (List (Int × (Int × Int)))) : (Option (Int × ((List (Int × (Int × (Int × ((List (Int × (Int × (List UInt8)))) × (List Int)))))) × ((List ((List UInt8) × (List UInt8))) × ((List ((List UInt8) × (List UInt8))) × ((List (Int × ((List UInt8) × ((List UInt8) × ((List UInt8) × Int))))) × (Int × (Bool × ((List (Int × (Int × Int))) × Unit))))))))) := stuck (wLayAll_b es segs sure now wait count down falls)
theorem wLayAll_un (es : (List (Int × (Int × (List UInt8))))) (segs : (List (Int × (Int × (Int × ((List (Int × (Int × (List UInt8)))) × (List Int))))))) (sure : (List ((List UInt8) × (List UInt8)))) (now : (List ((List UInt8) × (List UInt8)))) (wait : (List (Int × ((List UInt8) × ((List UInt8) × ((List UInt8) × Int)))))) (count : Int) (down : Bool) (falls : (List (Int × (Int × Int)))) : wLayAll es segs sure now wait count down falls = wLayAll_b es segs sure now wait count down falls := stuck_eq _
theorem wLayAll_k : TabOk Tryz.prog wLayAll_t := .cons wSegEnd_o (.cons wBase0_o (.cons eClone_o (.cons iClone_o (.cons wLay_o (.cons wName_o (.cons dWrite_o (.cons dAppend_o (.nil))))))))
theorem wLayAll_eq (d : dens wLayAll_g.inP) : fnU Tryz.prog (tabU wLayAll_t) wLayAll_c 100 wLayAll_g Tryz.f43 (Tryz.f43.body.getD .skip) d = wLayAll_b d.2.1 d.2.2.2.2.2.1 d.2.2.2.2.2.2.2.1 d.2.2.2.2.2.2.2.2.1 d.2.2.2.2.2.2.2.2.2.1 d.2.2.2.2.2.2.2.2.2.2.1 d.2.2.2.2.2.2.2.2.2.2.2.1 d.2.2.2.2.2.2.2.2.2.2.2.2.1 := by kernel_rfl
theorem wLayAll_ok : FnOk Tryz.prog 43 wLayAll_g fun d => wLayAll d.2.1 d.2.2.2.2.2.1 d.2.2.2.2.2.2.2.1 d.2.2.2.2.2.2.2.2.1 d.2.2.2.2.2.2.2.2.2.1 d.2.2.2.2.2.2.2.2.2.2.1 d.2.2.2.2.2.2.2.2.2.2.2.1 d.2.2.2.2.2.2.2.2.2.2.2.2.1 := (fn_ok follows named (tabU_ok wLayAll_k) Tryz.func43 rfl).congr fun d => (wLayAll_eq d).trans (stuck_eq _).symm
noncomputable def wLayAll_s : FuncId × Spec := (43, callOf wLayAll_g fun d => wLayAll d.2.1 d.2.2.2.2.2.1 d.2.2.2.2.2.2.2.1 d.2.2.2.2.2.2.2.2.1 d.2.2.2.2.2.2.2.2.2.1 d.2.2.2.2.2.2.2.2.2.2.1 d.2.2.2.2.2.2.2.2.2.2.2.1 d.2.2.2.2.2.2.2.2.2.2.2.2.1)
theorem wLayAll_o : SpecOk Tryz.prog wLayAll_s.1 wLayAll_s.2 := spec_ok wLayAll_ok
end Go.Proofs.YthnhbejjikgifaaGreatDoor.TV
