/-
  WAL: some sums of bytes, told by the evaluator.
-/
import Derived.Test.YtpfeekihlibbaaaGreatDoorWDef
namespace Go.Proofs.YtpfeekihlibbaaaGreatDoor.TV
open Go Go.RowKit
set_option maxRecDepth 1000000
set_option linter.unusedVariables false

theorem sum0 (s : St) : runG Tryz.prog (fun _ _ _ => none) 100 57 [.int .u32 4294967295, .str [0, 0, 0, 2]] s = some (.int .u32 817185231, s) := by kernel_rfl
theorem sum1 (s : St) : runG Tryz.prog (fun _ _ _ => none) 100 57 [.int .u32 4294967295, .str [0, 0, 0, 4]] s = some (.int .u32 3654739194, s) := by kernel_rfl
theorem sum2 (s : St) : runG Tryz.prog (fun _ _ _ => none) 100 57 [.int .u32 817185231, .str [0, 0]] s = some (.int .u32 1304005170, s) := by kernel_rfl
theorem sum3 (s : St) : runG Tryz.prog (fun _ _ _ => none) 100 57 [.int .u32 817185231, .str [3, 3]] s = some (.int .u32 4288514123, s) := by kernel_rfl
theorem sum4 (s : St) : runG Tryz.prog (fun _ _ _ => none) 100 57 [.int .u32 3654739194, .str [1, 0, 1, 97]] s = some (.int .u32 4098851260, s) := by kernel_rfl
theorem follows' : Tryz.prog.follows .mixedOrders = true := by kernel_rfl
theorem named' : Named Tryz.prog := by
  have h : Tryz.prog.funcs.toList.all (fun fn => !(fn.name == "runtime.NumGoroutine")) = true := by kernel_rfl
  intro f fn hf
  have := List.all_eq_true.1 h fn (Array.mem_toList_iff.2 (Array.mem_of_getElem? hf))
  simpa using this
theorem none_ok : GivenOk Tryz.prog fun _ _ _ => none := fun f args s v s' h => by cases h
theorem sumOf_mem {x y : Int} {l : List UInt8} : ∀ {t : List (Int × List UInt8 × Int)}, sumOf x l t = some y → (x, l, y) ∈ t
  | e :: t, h => by
    unfold sumOf at h
    split at h
    · rename_i he
      obtain ⟨a, b, c⟩ := e
      obtain ⟨h1, h2⟩ := he
      cases h
      simp only at h1 h2
      subst h1 h2
      exact List.mem_cons_self
    · exact List.mem_cons_of_mem _ (sumOf_mem h)
  | [], h => by cases h
theorem sum_all {x y : Int} {l : List UInt8} (h : sumOf x l sums = some y) (s : St) : runG Tryz.prog (fun _ _ _ => none) 100 57 [.int .u32 x, .str l] s = some (.int .u32 y, s) := by
  have hm := sumOf_mem h
  simp only [sums, List.mem_cons, List.not_mem_nil, or_false, Prod.mk.injEq] at hm
  clear h
  rcases hm with ⟨h1, h2, h3⟩ | ⟨h1, h2, h3⟩ | ⟨h1, h2, h3⟩ | ⟨h1, h2, h3⟩ | ⟨h1, h2, h3⟩ <;> rw [h1, h2, h3]
  · exact sum0 s
  · exact sum1 s
  · exact sum2 s
  · exact sum3 s
  · exact sum4 s
theorem more_ok {args : List TV} {s s' : St} {v : TV} (h : moreT args s = some (v, s')) : Sim Tryz.prog 57 args s v s' := by
  unfold moreT at h
  split at h
  · split at h
    · rename_i y hy
      cases h
      exact runG_ok follows' named' none_ok (sum_all hy _)
    · cases h
  · cases h
end Go.Proofs.YtpfeekihlibbaaaGreatDoor.TV
