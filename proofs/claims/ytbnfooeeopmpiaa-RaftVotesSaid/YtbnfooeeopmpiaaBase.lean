/-
  What all proofs about this program's code lean on: slices of whole numbers, loads.
-/
import Derived.Test.YtbnfooeeopmpiaaTVPure
import Derived.Test.YtbnfooeeopmpiaaProg
import Derived.KernelRfl
namespace Go.Proofs.Ytbnfooeeopmpiaa.TV
open Go Go.RowKit
set_option linter.unusedSimpArgs false
set_option linter.unusedVariables false
set_option maxRecDepth 100000

theorem follows : Try.prog.follows .mixedOrders = true := by kernel_rfl
theorem named : Named Try.prog := by
  have h : Try.prog.funcs.toList.all (fun fn => !(fn.name == "runtime.NumGoroutine")) = true := by kernel_rfl
  intro f fn hf
  have := List.all_eq_true.1 h fn (Array.mem_toList_iff.2 (Array.mem_of_getElem? hf))
  simpa using this
theorem ints_len_i {s : St} {b : Bool} {zs : List Int} {tok : Tok} : lenT Try.prog s 47 (intsV b zs tok) = some (.int .i64 zs.length) := ints_len Try.underlying47
theorem ints_at_i {b : Bool} {zs : List Int} {tok : Tok} {i : Nat} {z : Int} (h : zs[i]? = some z) : indexAddrT Try.prog 47 (intsV b zs tok) (.int .i64 i) = some (.eptr [.int .i64 z]) := ints_at Try.underlying47 (by kernel_rfl) h
theorem load_i {s : St} {x : TV} : loadT Try.prog s 3 (.eptr [x]) = some x := load1 Try.underlying3 (by kernel_rfl)

end Go.Proofs.Ytbnfooeeopmpiaa.TV
