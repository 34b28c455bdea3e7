/-
  RAFT: a node as it stands up; what it says then.
-/
import Derived.Test.YtbnfooeeopmpiaaDRaftM
import Derived.Test.YtbnfooeeopmpiaaDXr
namespace Go.Proofs.Ytbnfooeeopmpiaa.TV
open Go Go.RowKit
set_option linter.unusedVariables false
set_option maxRecDepth 1000000
def sCheck_g : Sig := ⟨[.ty (.cons (.int .i64) (.cons (.int .i64) (.cons (.slice (.int .i64)) (.str))))], [], [], [.ty (.int .i64)], [], []⟩
def sCheck_c : Cuts := ⟨[(0, ⟨[(3, .ty (.int .i64)), (39, .ty (.int .i64))], [], [(2, .ty (.int .i64))], []⟩)], [(1, ⟨[(35, .ty (.bool))], [], [], []⟩)], []⟩
noncomputable def sCheck_t : List (FuncId × Spec) := []
noncomputable def sCheck_l0 (s_Members : (List Int)) : (Int × (Int × Unit)) → Option (Rnd (Int × (Int × Unit)) (Int × Unit)) := fun (x3, (x4, _)) => (bif decide (x4 < (↑(List.length s_Members) : Int)) then (bif decide (0 ≤ x4) then ((s_Members[Int.toNat x4]?).bind fun x5 => (bif decide (x5 ≤ x3) then some (.ret (1, ())) else (bif decide (7 ≤ x5) then some (.ret (1, ())) else some (.next (x5, (IntKind.wrap .i64 (x4 + 1), ())))))) else none) else some (.out (x3, (x4, ()))))
noncomputable def sCheck_b (s_Index : Int) (s_Term : Int) (s_Members : (List Int)) (s_Data : (List UInt8)) : (Option (Int × Unit)) := (two (β := (Bool × Unit)) (γ := Unit) (bif decide (s_Index < 0) then some (.inl (true, ())) else (bif decide (1099511627776 < s_Index) then some (.inl (true, ())) else (bif decide (s_Term < 0) then some (.inl (true, ())) else (bif decide (1099511627776 < s_Term) then some (.inl (true, ())) else (bif decide ((↑(List.length s_Members) : Int) = 0) then some (.inl (true, ())) else some (.inl (decide (7 < (↑(List.length s_Members) : Int)), ()))))))) (fun (x2, _) => (bif x2 then some (1, ()) else (two (β := (Int × (Int × Unit))) (γ := (Int × Unit)) (loop (sCheck_l0 s_Members) (-1, (0, ()))) (fun (x7, (x8, _)) => (bif decide (131072 < (↑(List.length s_Data) : Int)) then some (2, ()) else some (0, ()))) (fun (x9, _) => some (x9, ()))))) (fun _ => some (0, ())))
noncomputable def sCheck (s_Index : Int) (s_Term : Int) (s_Members : (List Int)) (s_Data : (List UInt8)) : (Option (Int × Unit)) := stuck (sCheck_b s_Index s_Term s_Members s_Data)
theorem sCheck_un (s_Index : Int) (s_Term : Int) (s_Members : (List Int)) (s_Data : (List UInt8)) : sCheck s_Index s_Term s_Members s_Data = sCheck_b s_Index s_Term s_Members s_Data := stuck_eq _
theorem sCheck_k : TabOk Try.prog sCheck_t := .nil
theorem sCheck_eq (d : dens sCheck_g.inP) : fnU Try.prog (tabU sCheck_t) sCheck_c 100 sCheck_g Try.f57 (Try.f57.body.getD .skip) d = sCheck_b d.1.1 d.1.2.1 d.1.2.2.1 d.1.2.2.2 := by kernel_rfl
theorem sCheck_ok : FnOk Try.prog 57 sCheck_g fun d => sCheck d.1.1 d.1.2.1 d.1.2.2.1 d.1.2.2.2 := (fn_ok follows named (tabU_ok sCheck_k) Try.func57 rfl).congr fun d => (sCheck_eq d).trans (stuck_eq _).symm
noncomputable def sCheck_s : FuncId × Spec := (57, callOf sCheck_g fun d => sCheck d.1.1 d.1.2.1 d.1.2.2.1 d.1.2.2.2)
theorem sCheck_o : SpecOk Try.prog sCheck_s.1 sCheck_s.2 := spec_ok sCheck_ok
set_option maxRecDepth 100000 in
theorem iClone_ok : FnOk Try.prog 58 ⟨[.ty (.slice (.int .i64))], [], [], [.ty (.slice (.int .i64))], [], []⟩ fun d => cloneU 8 d.1 :=
  clone_ok follows named (tabU_ok .nil) (C := ⟨[], [], []⟩) (fuel := 100) Try.func58 rfl (t := .int .i64) (F := cloneU 8) (by kernel_rfl) (fun l => by kernel_rfl)
noncomputable def iClone_s : FuncId × Spec := (58, callOf ⟨[.ty (.slice (.int .i64))], [], [], [.ty (.slice (.int .i64))], [], []⟩ fun d => cloneU 8 d.1)
theorem iClone_o : SpecOk Try.prog iClone_s.1 iClone_s.2 := spec_ok iClone_ok
set_option maxRecDepth 100000 in
theorem eClone_ok : FnOk Try.prog 59 ⟨[.ty (.slice (.cons (.int .i64) (.cons (.int .i64) .str)))], [], [], [.ty (.slice (.cons (.int .i64) (.cons (.int .i64) .str)))], [], []⟩ fun d => cloneU 32 d.1 :=
  clone_ok follows named (tabU_ok .nil) (C := ⟨[], [], []⟩) (fuel := 100) Try.func59 rfl (t := .cons (.int .i64) (.cons (.int .i64) .str)) (F := cloneU 32) (by kernel_rfl) (fun l => by kernel_rfl)
noncomputable def eClone_s : FuncId × Spec := (59, callOf ⟨[.ty (.slice (.cons (.int .i64) (.cons (.int .i64) .str)))], [], [], [.ty (.slice (.cons (.int .i64) (.cons (.int .i64) .str)))], [], []⟩ fun d => cloneU 32 d.1)
theorem eClone_o : SpecOk Try.prog eClone_s.1 eClone_s.2 := spec_ok eClone_ok
def gNew_g : Sig := ⟨[], [], [], [.ptr 0], [([.lit (.bool false), .lit (.int .i64 0), .lit (.int .i64 0), .lit (.slice none 0 0)], 151)], [.val 0]⟩
def gNew_c : Cuts := ⟨[], [], []⟩
noncomputable def gNew_t : List (FuncId × Spec) := []
noncomputable def gNew_b : (Option (Unit × (Unit × (Unit × (Unit × (Unit × Unit)))))) := some ((), ((), ((), ((), ((), ())))))
noncomputable def gNew : (Option (Unit × (Unit × (Unit × (Unit × (Unit × Unit)))))) := stuck (gNew_b)
theorem gNew_un : gNew = gNew_b := stuck_eq _
theorem gNew_k : TabOk Try.prog gNew_t := .nil
theorem gNew_eq (d : dens gNew_g.inP) : fnU Try.prog (tabU gNew_t) gNew_c 100 gNew_g Try.f60 (Try.f60.body.getD .skip) d = gNew_b := by kernel_rfl
theorem gNew_ok : FnOk Try.prog 60 gNew_g fun d => gNew := (fn_ok follows named (tabU_ok gNew_k) Try.func60 rfl).congr fun d => (gNew_eq d).trans (stuck_eq _).symm
noncomputable def gNew_s : FuncId × Spec := (60, callOf gNew_g fun d => gNew)
theorem gNew_o : SpecOk Try.prog gNew_s.1 gNew_s.2 := spec_ok gNew_ok
def nRest_c : Cuts := ⟨[], [], []⟩
noncomputable def nRest_t : List (FuncId × Spec) := []
theorem nRest_k : TabOk Try.prog nRest_t := .nil
noncomputable def nRest_s : FuncId × Spec := (61, inlU Try.prog (tabU nRest_t) nRest_c 100 Try.f61 (Try.f61.body.getD .skip))
theorem nRest_o : SpecOk Try.prog nRest_s.1 nRest_s.2 := inl_ok follows named (tabU_ok nRest_k) Try.func61 rfl
def nNew_c : Cuts := ⟨[], [(1, ⟨[(51, .ty (.bool))], [], [(12, .ign), (13, .ign)], []⟩)], []⟩
noncomputable def nNew_t : List (FuncId × Spec) := [sCheck_s, rRight_s, iClone_s, eClone_s, gNew_s, nRest_s]
theorem nNew_k : TabOk Try.prog nNew_t := .cons sCheck_o (.cons rRight_o (.cons iClone_o (.cons eClone_o (.cons gNew_o (.cons nRest_o (.nil))))))
noncomputable def nNew_s : FuncId × Spec := (18, inlU Try.prog (tabU nNew_t) nNew_c 100 Try.f18 (Try.f18.body.getD .skip))
theorem nNew_o : SpecOk Try.prog nNew_s.1 nNew_s.2 := inl_ok follows named (tabU_ok nNew_k) Try.func18 rfl
def nHard_c : Cuts := ⟨[], [], []⟩
noncomputable def nHard_t : List (FuncId × Spec) := []
theorem nHard_k : TabOk Try.prog nHard_t := .nil
noncomputable def nHard_s : FuncId × Spec := (20, inlU Try.prog (tabU nHard_t) nHard_c 100 Try.f20 (Try.f20.body.getD .skip))
theorem nHard_o : SpecOk Try.prog nHard_s.1 nHard_s.2 := inl_ok follows named (tabU_ok nHard_k) Try.func20 rfl
def nCommit_c : Cuts := ⟨[], [], []⟩
noncomputable def nCommit_t : List (FuncId × Spec) := []
theorem nCommit_k : TabOk Try.prog nCommit_t := .nil
noncomputable def nCommit_s : FuncId × Spec := (29, inlU Try.prog (tabU nCommit_t) nCommit_c 100 Try.f29 (Try.f29.body.getD .skip))
theorem nCommit_o : SpecOk Try.prog nCommit_s.1 nCommit_s.2 := inl_ok follows named (tabU_ok nCommit_k) Try.func29 rfl
def nRole_c : Cuts := ⟨[], [], []⟩
noncomputable def nRole_t : List (FuncId × Spec) := []
theorem nRole_k : TabOk Try.prog nRole_t := .nil
noncomputable def nRole_s : FuncId × Spec := (27, inlU Try.prog (tabU nRole_t) nRole_c 100 Try.f27 (Try.f27.body.getD .skip))
theorem nRole_o : SpecOk Try.prog nRole_s.1 nRole_s.2 := inl_ok follows named (tabU_ok nRole_k) Try.func27 rfl
def nLeader_c : Cuts := ⟨[], [], []⟩
noncomputable def nLeader_t : List (FuncId × Spec) := []
theorem nLeader_k : TabOk Try.prog nLeader_t := .nil
noncomputable def nLeader_s : FuncId × Spec := (35, inlU Try.prog (tabU nLeader_t) nLeader_c 100 Try.f35 (Try.f35.body.getD .skip))
theorem nLeader_o : SpecOk Try.prog nLeader_s.1 nLeader_s.2 := inl_ok follows named (tabU_ok nLeader_k) Try.func35 rfl
def nAt__g : Sig := ⟨[.ptr 0, .ty (.int .i64)], [([.ign, .ign, .ign, .ro (.ty (.int .i64)), .ro (.ty (.int .i64)), .ign, .ign, .ro (.ty (.slice (.cons (.int .i64) (.cons (.int .i64) (.str))))), .ign, .ign, .ign, .ign, .ign, .ign, .ign, .ign, .ign, .ign, .ign, .ign, .ign, .ign, .ign, .ign, .ign, .ign, .ign, .ign, .ign, .ign, .ign, .ign, .ign, .ign, .ign, .ign, .ign, .ign, .ign, .ign, .ign, .ign, .ign, .ign, .ign, .ign, .ign, .ign, .ign, .ign, .ign, .ign, .ign, .ign, .ign, .ign, .ign, .ign, .ign], 123)], [.val 0], [.ty (.int .i64), .ty (.bool)], [], []⟩
def nAt__c : Cuts := ⟨[], [], []⟩
noncomputable def nAt__t : List (FuncId × Spec) := []
noncomputable def nAt__b (i : Int) (shot_Index : Int) (shot_Term : Int) (log : (List (Int × (Int × (List UInt8))))) : (Option (Int × (Bool × Unit))) := (bif decide (IntKind.wrap .i64 (i - shot_Index) = 0) then some (shot_Term, (true, ())) else (bif decide (0 < IntKind.wrap .i64 (i - shot_Index)) then (bif decide (IntKind.wrap .i64 (i - shot_Index) ≤ (↑(List.length log) : Int)) then (bif decide (0 ≤ IntKind.wrap .i64 (IntKind.wrap .i64 (i - shot_Index) - 1)) then ((log[Int.toNat (IntKind.wrap .i64 (IntKind.wrap .i64 (i - shot_Index) - 1))]?).bind fun (x1, (x2, x3)) => some (x1, (true, ()))) else none) else some (0, (false, ()))) else some (0, (false, ()))))
noncomputable def nAt_ (i : Int) (shot_Index : Int) (shot_Term : Int) (log : (List (Int × (Int × (List UInt8))))) : (Option (Int × (Bool × Unit))) := stuck (nAt__b i shot_Index shot_Term log)
theorem nAt__un (i : Int) (shot_Index : Int) (shot_Term : Int) (log : (List (Int × (Int × (List UInt8))))) : nAt_ i shot_Index shot_Term log = nAt__b i shot_Index shot_Term log := stuck_eq _
theorem nAt__k : TabOk Try.prog nAt__t := .nil
theorem nAt__eq (d : dens nAt__g.inP) : fnU Try.prog (tabU nAt__t) nAt__c 100 nAt__g Try.f75 (Try.f75.body.getD .skip) d = nAt__b d.2.1 d.2.2.2.2.2.1 d.2.2.2.2.2.2.1 d.2.2.2.2.2.2.2.2.2.1 := by kernel_rfl
theorem nAt__ok : FnOk Try.prog 75 nAt__g fun d => nAt_ d.2.1 d.2.2.2.2.2.1 d.2.2.2.2.2.2.1 d.2.2.2.2.2.2.2.2.2.1 := (fn_ok follows named (tabU_ok nAt__k) Try.func75 rfl).congr fun d => (nAt__eq d).trans (stuck_eq _).symm
noncomputable def nAt__s : FuncId × Spec := (75, callOf nAt__g fun d => nAt_ d.2.1 d.2.2.2.2.2.1 d.2.2.2.2.2.2.1 d.2.2.2.2.2.2.2.2.2.1)
theorem nAt__o : SpecOk Try.prog nAt__s.1 nAt__s.2 := spec_ok nAt__ok
def nLast_g : Sig := ⟨[.ptr 0], [([.ign, .ign, .ign, .ro (.ty (.int .i64)), .ro (.ty (.int .i64)), .ign, .ign, .ro (.ty (.slice (.cons (.int .i64) (.cons (.int .i64) (.str))))), .ign, .ign, .ign, .ign, .ign, .ign, .ign, .ign, .ign, .ign, .ign, .ign, .ign, .ign, .ign, .ign, .ign, .ign, .ign, .ign, .ign, .ign, .ign, .ign, .ign, .ign, .ign, .ign, .ign, .ign, .ign, .ign, .ign, .ign, .ign, .ign, .ign, .ign, .ign, .ign, .ign, .ign, .ign, .ign, .ign, .ign, .ign, .ign, .ign, .ign, .ign], 123)], [.val 0], [.ty (.int .i64), .ty (.int .i64)], [], []⟩
def nLast_c : Cuts := ⟨[], [], []⟩
noncomputable def nLast_t : List (FuncId × Spec) := [nAt__s]
noncomputable def nLast_b (shot_Index : Int) (shot_Term : Int) (log : (List (Int × (Int × (List UInt8))))) : (Option (Int × (Int × Unit))) := ((nAt_ (IntKind.wrap .i64 (shot_Index + (↑(List.length log) : Int))) shot_Index shot_Term log).bind fun (x1, (x2, _)) => some (IntKind.wrap .i64 (shot_Index + (↑(List.length log) : Int)), (x1, ())))
noncomputable def nLast (shot_Index : Int) (shot_Term : Int) (log : (List (Int × (Int × (List UInt8))))) : (Option (Int × (Int × Unit))) := stuck (nLast_b shot_Index shot_Term log)
theorem nLast_un (shot_Index : Int) (shot_Term : Int) (log : (List (Int × (Int × (List UInt8))))) : nLast shot_Index shot_Term log = nLast_b shot_Index shot_Term log := stuck_eq _
theorem nLast_k : TabOk Try.prog nLast_t := .cons nAt__o (.nil)
theorem nLast_eq (d : dens nLast_g.inP) : fnU Try.prog (tabU nLast_t) nLast_c 100 nLast_g Try.f34 (Try.f34.body.getD .skip) d = nLast_b d.2.2.2.2.1 d.2.2.2.2.2.1 d.2.2.2.2.2.2.2.2.1 := by kernel_rfl
theorem nLast_ok : FnOk Try.prog 34 nLast_g fun d => nLast d.2.2.2.2.1 d.2.2.2.2.2.1 d.2.2.2.2.2.2.2.2.1 := (fn_ok follows named (tabU_ok nLast_k) Try.func34 rfl).congr fun d => (nLast_eq d).trans (stuck_eq _).symm
noncomputable def nLast_s : FuncId × Spec := (34, callOf nLast_g fun d => nLast d.2.2.2.2.1 d.2.2.2.2.2.1 d.2.2.2.2.2.2.2.2.1)
theorem nLast_o : SpecOk Try.prog nLast_s.1 nLast_s.2 := spec_ok nLast_ok
def nEntry_g : Sig := ⟨[.ptr 0, .ty (.int .i64)], [([.ign, .ign, .ign, .ro (.ty (.int .i64)), .ign, .ign, .ign, .ro (.ty (.slice (.cons (.int .i64) (.cons (.int .i64) (.str))))), .ign, .ign, .ign, .ign, .ign, .ign, .ign, .ign, .ign, .ign, .ign, .ign, .ign, .ign, .ign, .ign, .ign, .ign, .ign, .ign, .ign, .ign, .ign, .ign, .ign, .ign, .ign, .ign, .ign, .ign, .ign, .ign, .ign, .ign, .ign, .ign, .ign, .ign, .ign, .ign, .ign, .ign, .ign, .ign, .ign, .ign, .ign, .ign, .ign, .ign, .ign], 123)], [.val 0], [.ty (.cons (.int .i64) (.cons (.int .i64) (.str))), .ty (.bool)], [], []⟩
def nEntry_c : Cuts := ⟨[], [(1, ⟨[(31, .ty (.bool))], [], [], []⟩)], []⟩
noncomputable def nEntry_t : List (FuncId × Spec) := []
noncomputable def nEntry_b (i : Int) (shot_Index : Int) (log : (List (Int × (Int × (List UInt8))))) : (Option ((Int × (Int × (List UInt8))) × (Bool × Unit))) := (two (β := (Bool × Unit)) (γ := Unit) (bif decide (i ≤ shot_Index) then some (.inl (true, ())) else some (.inl (decide (IntKind.wrap .i64 (shot_Index + (↑(List.length log) : Int)) < i), ()))) (fun (x2, _) => (bif x2 then some ((0, (0, [])), (false, ())) else (bif decide (0 ≤ IntKind.wrap .i64 (IntKind.wrap .i64 (i - shot_Index) - 1)) then ((log[Int.toNat (IntKind.wrap .i64 (IntKind.wrap .i64 (i - shot_Index) - 1))]?).bind fun (x3, (x4, x5)) => some ((x3, (x4, x5)), (true, ()))) else none))) (fun _ => some ((0, (0, [])), (false, ()))))
noncomputable def nEntry (i : Int) (shot_Index : Int) (log : (List (Int × (Int × (List UInt8))))) : (Option ((Int × (Int × (List UInt8))) × (Bool × Unit))) := stuck (nEntry_b i shot_Index log)
theorem nEntry_un (i : Int) (shot_Index : Int) (log : (List (Int × (Int × (List UInt8))))) : nEntry i shot_Index log = nEntry_b i shot_Index log := stuck_eq _
theorem nEntry_k : TabOk Try.prog nEntry_t := .nil
theorem nEntry_eq (d : dens nEntry_g.inP) : fnU Try.prog (tabU nEntry_t) nEntry_c 100 nEntry_g Try.f55 (Try.f55.body.getD .skip) d = nEntry_b d.2.1 d.2.2.2.2.2.1 d.2.2.2.2.2.2.2.2.2.1 := by kernel_rfl
theorem nEntry_ok : FnOk Try.prog 55 nEntry_g fun d => nEntry d.2.1 d.2.2.2.2.2.1 d.2.2.2.2.2.2.2.2.2.1 := (fn_ok follows named (tabU_ok nEntry_k) Try.func55 rfl).congr fun d => (nEntry_eq d).trans (stuck_eq _).symm
noncomputable def nEntry_s : FuncId × Spec := (55, callOf nEntry_g fun d => nEntry d.2.1 d.2.2.2.2.2.1 d.2.2.2.2.2.2.2.2.2.1)
theorem nEntry_o : SpecOk Try.prog nEntry_s.1 nEntry_s.2 := spec_ok nEntry_ok
def nBase_g : Sig := ⟨[.ptr 0], [([.ign, .ign, .ign, .ro (.ty (.int .i64)), .ro (.ty (.int .i64)), .ro (.ty (.slice (.int .i64))), .ro (.ty (.str)), .ign, .ign, .ign, .ign, .ign, .ign, .ign, .ign, .ign, .ign, .ign, .ign, .ign, .ign, .ign, .ign, .ign, .ign, .ign, .ign, .ign, .ign, .ign, .ign, .ign, .ign, .ign, .ign, .ign, .ign, .ign, .ign, .ign, .ign, .ign, .ign, .ign, .ign, .ign, .ign, .ign, .ign, .ign, .ign, .ign, .ign, .ign, .ign, .ign, .ign, .ign, .ign], 123)], [.val 0], [.ty (.cons (.int .i64) (.cons (.int .i64) (.cons (.slice (.int .i64)) (.str))))], [], []⟩
def nBase_c : Cuts := ⟨[], [], []⟩
noncomputable def nBase_t : List (FuncId × Spec) := [iClone_s]
noncomputable def nBase_b (shot_Index : Int) (shot_Term : Int) (shot_Members : (List Int)) (shot_Data : (List UInt8)) : (Option ((Int × (Int × ((List Int) × (List UInt8)))) × Unit)) := ((cloneU 8 shot_Members).bind fun (x1, _) => some ((shot_Index, (shot_Term, (x1, shot_Data))), ()))
noncomputable def nBase (shot_Index : Int) (shot_Term : Int) (shot_Members : (List Int)) (shot_Data : (List UInt8)) : (Option ((Int × (Int × ((List Int) × (List UInt8)))) × Unit)) := stuck (nBase_b shot_Index shot_Term shot_Members shot_Data)
theorem nBase_un (shot_Index : Int) (shot_Term : Int) (shot_Members : (List Int)) (shot_Data : (List UInt8)) : nBase shot_Index shot_Term shot_Members shot_Data = nBase_b shot_Index shot_Term shot_Members shot_Data := stuck_eq _
theorem nBase_k : TabOk Try.prog nBase_t := .cons iClone_o (.nil)
theorem nBase_eq (d : dens nBase_g.inP) : fnU Try.prog (tabU nBase_t) nBase_c 100 nBase_g Try.f21 (Try.f21.body.getD .skip) d = nBase_b d.2.2.2.2.1 d.2.2.2.2.2.1 d.2.2.2.2.2.2.1 d.2.2.2.2.2.2.2.1 := by kernel_rfl
theorem nBase_ok : FnOk Try.prog 21 nBase_g fun d => nBase d.2.2.2.2.1 d.2.2.2.2.2.1 d.2.2.2.2.2.2.1 d.2.2.2.2.2.2.2.1 := (fn_ok follows named (tabU_ok nBase_k) Try.func21 rfl).congr fun d => (nBase_eq d).trans (stuck_eq _).symm
noncomputable def nBase_s : FuncId × Spec := (21, callOf nBase_g fun d => nBase d.2.2.2.2.1 d.2.2.2.2.2.1 d.2.2.2.2.2.2.1 d.2.2.2.2.2.2.2.1)
theorem nBase_o : SpecOk Try.prog nBase_s.1 nBase_s.2 := spec_ok nBase_ok
end Go.Proofs.Ytbnfooeeopmpiaa.TV
