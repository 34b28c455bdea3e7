/-
  RAFT: one that is asked for a vote, printed.
-/
import Derived.Test.YtbnfooeeopmpiaaDNode
import Derived.Test.YtbnfooeeopmpiaaDRaftL
import Derived.Test.YtbnfooeeopmpiaaDXw
namespace Go.Proofs.Ytbnfooeeopmpiaa.TV
open Go Go.RowKit
set_option linter.unusedVariables false
set_option maxRecDepth 1000000
def lAmong_g : Sig := ⟨[.ty (.int .i64), .ty (.int .i64)], [], [], [.ty (.int .i64)], [], []⟩
def lAmong_c : Cuts := ⟨[], [], []⟩
noncomputable def lAmong_t : List (FuncId × Spec) := []
noncomputable def lAmong_b (x : Int) (n : Int) : (Option (Int × Unit)) := (bif decide (n = 0) then none else (bif decide (n = 0) then none else some (Int.tmod (IntKind.wrap .i64 (Int.tmod x n + n)) n, ())))
noncomputable def lAmong (x : Int) (n : Int) : (Option (Int × Unit)) := stuck (lAmong_b x n)
theorem lAmong_un (x : Int) (n : Int) : lAmong x n = lAmong_b x n := stuck_eq _
theorem lAmong_k : TabOk Try.prog lAmong_t := .nil
theorem lAmong_eq (d : dens lAmong_g.inP) : fnU Try.prog (tabU lAmong_t) lAmong_c 100 lAmong_g Try.f17 (Try.f17.body.getD .skip) d = lAmong_b d.1 d.2.1 := by kernel_rfl
theorem lAmong_ok : FnOk Try.prog 17 lAmong_g fun d => lAmong d.1 d.2.1 := (fn_ok follows named (tabU_ok lAmong_k) Try.func17 rfl).congr fun d => (lAmong_eq d).trans (stuck_eq _).symm
noncomputable def lAmong_s : FuncId × Spec := (17, callOf lAmong_g fun d => lAmong d.1 d.2.1)
theorem lAmong_o : SpecOk Try.prog lAmong_s.1 lAmong_s.2 := spec_ok lAmong_ok
def vFollow_g : Sig := ⟨[.ptr 0, .ty (.int .i64), .lit (.int .i64 (-1))], [([.ign, .rw (.ty (.int .i64)) (.ty (.int .i64)), .rw (.ty (.int .i64)) (.ty (.int .i64)), .ign, .ign, .ign, .ign, .ign, .ign, .rw (.lit (.int .i64 0)) (.lit (.int .i64 0)), .rw (.lit (.int .i64 (-1))) (.lit (.int .i64 (-1))), .ign, .ign, .ign, .ign, .ign, .ign, .ign, .ign, .ign, .ign, .ign, .ign, .ign, .ign, .ign, .ign, .ign, .ign, .ign, .ign, .ign, .ign, .ign, .ign, .ign, .ign, .ign, .ign, .ign, .ign, .ign, .ign, .ign, .ign, .ign, .ign, .ign, .ign, .ign, .ign, .ign, .ign, .ign, .ign, .ign, .ign, .ign, .ign], 123)], [.val 0], [], [], []⟩
def vFollow_c : Cuts := ⟨[], [], []⟩
noncomputable def vFollow_t : List (FuncId × Spec) := [nRest_s]
noncomputable def vFollow_b (t : Int) (term : Int) (vote : Int) : (Option (Int × (Int × (Unit × (Unit × Unit))))) := (bif decide (term < t) then some (t, (-1, ((), ((), ())))) else some (term, (vote, ((), ((), ())))))
noncomputable def vFollow (t : Int) (term : Int) (vote : Int) : (Option (Int × (Int × (Unit × (Unit × Unit))))) := stuck (vFollow_b t term vote)
theorem vFollow_un (t : Int) (term : Int) (vote : Int) : vFollow t term vote = vFollow_b t term vote := stuck_eq _
theorem vFollow_k : TabOk Try.prog vFollow_t := .cons nRest_o (.nil)
theorem vFollow_eq (d : dens vFollow_g.inP) : fnU Try.prog (tabU vFollow_t) vFollow_c 100 vFollow_g Try.f62 (Try.f62.body.getD .skip) d = vFollow_b d.2.1 d.2.2.2.2.1 d.2.2.2.2.2.1 := by kernel_rfl
theorem vFollow_ok : FnOk Try.prog 62 vFollow_g fun d => vFollow d.2.1 d.2.2.2.2.1 d.2.2.2.2.2.1 := (fn_ok follows named (tabU_ok vFollow_k) Try.func62 rfl).congr fun d => (vFollow_eq d).trans (stuck_eq _).symm
noncomputable def vFollow_s : FuncId × Spec := (62, callOf vFollow_g fun d => vFollow d.2.1 d.2.2.2.2.1 d.2.2.2.2.2.1)
theorem vFollow_o : SpecOk Try.prog vFollow_s.1 vFollow_s.2 := spec_ok vFollow_ok
def vVoted_g : Sig := ⟨[.ptr 0, .ty (.cons (.int .i64) (.cons (.int .i64) (.cons (.int .i64) (.cons (.int .i64) (.cons (.int .i64) (.cons (.int .i64) (.cons (.int .i64) (.cons (.int .i64) (.cons (.int .i64) (.cons (.bool) (.cons (.slice (.cons (.int .i64) (.cons (.int .i64) (.str)))) (.str))))))))))))], [([.ign, .ro (.ty (.int .i64)), .rw (.ty (.int .i64)) (.ty (.int .i64)), .ro (.ty (.int .i64)), .ro (.ty (.int .i64)), .ign, .ign, .ro (.ty (.slice (.cons (.int .i64) (.cons (.int .i64) (.str))))), .ign, .ign, .ign, .ro (.ty (.int .i64)), .rw (.ign) (.ign), .ign, .ign, .ign, .ign, .ign, .ign, .ign, .ign, .ign, .ign, .ign, .ign, .ign, .ign, .ign, .ign, .ign, .ign, .ign, .ign, .ign, .ign, .ign, .ign, .ign, .ign, .ign, .ign, .ign, .ign, .ign, .ign, .ign, .ign, .ign, .ign, .ign, .ign, .ign, .ign, .ign, .ign, .ign, .ign, .ign, .ign], 123)], [.val 0], [.ty (.bool)], [], []⟩
def vVoted_c : Cuts := ⟨[], [(2, ⟨[(52, .ty (.bool))], [], [], []⟩)], []⟩
noncomputable def vVoted_t : List (FuncId × Spec) := [nLast_s, nRest_s]
noncomputable def vVoted_b (m_Kind : Int) (m_From : Int) (m_To : Int) (m_Term : Int) (m_Index : Int) (m_LogTerm : Int) (m_Commit : Int) (m_Round : Int) (m_At : Int) (m_Yes : Bool) (m_Entries : (List (Int × (Int × (List UInt8))))) (m_Data : (List UInt8)) (term : Int) (vote : Int) (shot_Index : Int) (shot_Term : Int) (log : (List (Int × (Int × (List UInt8))))) (draw : Int) : (Option (Bool × (Int × (Unit × Unit)))) := ((nLast shot_Index shot_Term log).bind fun (x1, (x2, _)) => (two (β := (Bool × Unit)) (γ := Unit) (bif decide (m_Term < term) then some (.inl (true, ())) else (bif !decide (vote = -1) then (bif !decide (vote = m_From) then some (.inl (true, ())) else (bif decide (m_LogTerm < x2) then some (.inl (true, ())) else (bif decide (m_LogTerm = x2) then some (.inl (decide (m_Index < x1), ())) else some (.inl (false, ()))))) else (bif decide (m_LogTerm < x2) then some (.inl (true, ())) else (bif decide (m_LogTerm = x2) then some (.inl (decide (m_Index < x1), ())) else some (.inl (false, ())))))) (fun (x4, _) => (bif x4 then some (false, (vote, ((), ()))) else some (true, (m_From, ((), ()))))) (fun _ => some (false, (vote, ((), ()))))))
noncomputable def vVoted (m_Kind : Int) (m_From : Int) (m_To : Int) (m_Term : Int) (m_Index : Int) (m_LogTerm : Int) (m_Commit : Int) (m_Round : Int) (m_At : Int) (m_Yes : Bool) (m_Entries : (List (Int × (Int × (List UInt8))))) (m_Data : (List UInt8)) (term : Int) (vote : Int) (shot_Index : Int) (shot_Term : Int) (log : (List (Int × (Int × (List UInt8))))) (draw : Int) : (Option (Bool × (Int × (Unit × Unit)))) := stuck (vVoted_b m_Kind m_From m_To m_Term m_Index m_LogTerm m_Commit m_Round m_At m_Yes m_Entries m_Data term vote shot_Index shot_Term log draw)
theorem vVoted_un (m_Kind : Int) (m_From : Int) (m_To : Int) (m_Term : Int) (m_Index : Int) (m_LogTerm : Int) (m_Commit : Int) (m_Round : Int) (m_At : Int) (m_Yes : Bool) (m_Entries : (List (Int × (Int × (List UInt8))))) (m_Data : (List UInt8)) (term : Int) (vote : Int) (shot_Index : Int) (shot_Term : Int) (log : (List (Int × (Int × (List UInt8))))) (draw : Int) : vVoted m_Kind m_From m_To m_Term m_Index m_LogTerm m_Commit m_Round m_At m_Yes m_Entries m_Data term vote shot_Index shot_Term log draw = vVoted_b m_Kind m_From m_To m_Term m_Index m_LogTerm m_Commit m_Round m_At m_Yes m_Entries m_Data term vote shot_Index shot_Term log draw := stuck_eq _
theorem vVoted_k : TabOk Try.prog vVoted_t := .cons nLast_o (.cons nRest_o (.nil))
theorem vVoted_eq (d : dens vVoted_g.inP) : fnU Try.prog (tabU vVoted_t) vVoted_c 100 vVoted_g Try.f63 (Try.f63.body.getD .skip) d = vVoted_b d.2.1.1 d.2.1.2.1 d.2.1.2.2.1 d.2.1.2.2.2.1 d.2.1.2.2.2.2.1 d.2.1.2.2.2.2.2.1 d.2.1.2.2.2.2.2.2.1 d.2.1.2.2.2.2.2.2.2.1 d.2.1.2.2.2.2.2.2.2.2.1 d.2.1.2.2.2.2.2.2.2.2.2.1 d.2.1.2.2.2.2.2.2.2.2.2.2.1 d.2.1.2.2.2.2.2.2.2.2.2.2.2 d.2.2.2.1 d.2.2.2.2.1 d.2.2.2.2.2.1 d.2.2.2.2.2.2.1 d.2.2.2.2.2.2.2.2.2.1 d.2.2.2.2.2.2.2.2.2.2.2.2.2.1 := by kernel_rfl
theorem vVoted_ok : FnOk Try.prog 63 vVoted_g fun d => vVoted d.2.1.1 d.2.1.2.1 d.2.1.2.2.1 d.2.1.2.2.2.1 d.2.1.2.2.2.2.1 d.2.1.2.2.2.2.2.1 d.2.1.2.2.2.2.2.2.1 d.2.1.2.2.2.2.2.2.2.1 d.2.1.2.2.2.2.2.2.2.2.1 d.2.1.2.2.2.2.2.2.2.2.2.1 d.2.1.2.2.2.2.2.2.2.2.2.2.1 d.2.1.2.2.2.2.2.2.2.2.2.2.2 d.2.2.2.1 d.2.2.2.2.1 d.2.2.2.2.2.1 d.2.2.2.2.2.2.1 d.2.2.2.2.2.2.2.2.2.1 d.2.2.2.2.2.2.2.2.2.2.2.2.2.1 := (fn_ok follows named (tabU_ok vVoted_k) Try.func63 rfl).congr fun d => (vVoted_eq d).trans (stuck_eq _).symm
noncomputable def vVoted_s : FuncId × Spec := (63, callOf vVoted_g fun d => vVoted d.2.1.1 d.2.1.2.1 d.2.1.2.2.1 d.2.1.2.2.2.1 d.2.1.2.2.2.2.1 d.2.1.2.2.2.2.2.1 d.2.1.2.2.2.2.2.2.1 d.2.1.2.2.2.2.2.2.2.1 d.2.1.2.2.2.2.2.2.2.2.1 d.2.1.2.2.2.2.2.2.2.2.2.1 d.2.1.2.2.2.2.2.2.2.2.2.2.1 d.2.1.2.2.2.2.2.2.2.2.2.2.2 d.2.2.2.1 d.2.2.2.2.1 d.2.2.2.2.2.1 d.2.2.2.2.2.2.1 d.2.2.2.2.2.2.2.2.2.1 d.2.2.2.2.2.2.2.2.2.2.2.2.2.1)
theorem vVoted_o : SpecOk Try.prog vVoted_s.1 vVoted_s.2 := spec_ok vVoted_ok
def vStep_c : Cuts := ⟨[], [(1, ⟨[(40, .ty (.bool))], [], [], []⟩)], []⟩
noncomputable def vStep_t : List (FuncId × Spec) := [rCheck_s, vFollow_s, vVoted_s]
theorem vStep_k : TabOk Try.prog vStep_t := .cons rCheck_o (.cons vFollow_o (.cons vVoted_o (.nil)))
noncomputable def vStep_s : FuncId × Spec := (19, inlU Try.prog (tabU vStep_t) vStep_c 100 Try.f19 (Try.f19.body.getD .skip))
theorem vStep_o : SpecOk Try.prog vStep_s.1 vStep_s.2 := inl_ok follows named (tabU_ok vStep_k) Try.func19 rfl
end Go.Proofs.Ytbnfooeeopmpiaa.TV
