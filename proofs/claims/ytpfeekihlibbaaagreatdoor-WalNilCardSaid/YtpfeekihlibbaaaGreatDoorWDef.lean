/-
  WAL: three functions of Go's library, told by hand.
-/
import Derived.Test.YtpfeekihlibbaaaGreatDoorTVCall
import Derived.Test.YtpfeekihlibbaaaGreatDoorProg
import Derived.KernelRfl
namespace Go.Proofs.YtpfeekihlibbaaaGreatDoor.TV
open Go Go.RowKit
set_option linter.unusedVariables false

/-- Texts, rising. -/
def insT (x : List UInt8) : List (List UInt8) → List (List UInt8)
  | [] => [x]
  | y :: l => if x ≤ y then x :: y :: l else y :: insT x l
def sortT : List (List UInt8) → List (List UInt8)
  | [] => []
  | x :: l => insT x (sortT l)
/-- A map's keys, all of them texts. -/
def keysT : List (TV × TV × Nat) → Option (List (List UInt8))
  | [] => some []
  | (.str k, _) :: es => match keysT es with
    | some l => some (k :: l)
    | none => none
  | _ => none
def clonedT : List TV → St → Option (TV × St)
  | [.map (some o)], s => match s.objs.get o with
    | some (.map es c) => some (.map (some s.n), mkObj s (.map es c))
    | _ => none
  | _, _ => none
def sortedT : List TV → St → Option (TV × St)
  | [.fn (.func f) [] [.ptr o 0]], s => if f = 84 then (match s.objs.get o with
      | some (.cells [.map (some m)] t) => if t = 50 then (match s.objs.get m with
        | some (.map es c) => if es.length ≤ 1000 then (match keysT es with
          | some l => if (es.all fun e => decide (e.2.2 < c)) && decide (es.map fun e => e.2.2).Nodup && decide l.Nodup && (l.all fun k => decide (k.length ≤ 1000)) then some (.slice l.isEmpty ((sortT l).map TV.str) .unk, s) else none
          | none => none) else none
        | _ => none) else none
      | _ => none) else none
  | _, _ => none
def atoiT : List TV → St → Option (TV × St)
  | [.str l], s => if l = [104, 97, 114, 100] then some (.tup [.int .i64 0, .iface 142 .junk], s) else none
  | _, _ => none
/-- Some sums: what bytes are taken into, which, what comes. -/
def sums : List (Int × List UInt8 × Int) := [(4294967295, [0, 0, 0, 2], 817185231), (4294967295, [0, 0, 0, 4], 3654739194), (817185231, [0, 0], 1304005170), (817185231, [3, 3], 4288514123), (3654739194, [1, 0, 1, 97], 4098851260)]
def sumOf (x : Int) (l : List UInt8) : List (Int × List UInt8 × Int) → Option Int
  | [] => none
  | e :: t => if e.1 = x ∧ e.2.1 = l then some e.2.2 else sumOf x l t
def moreT : List TV → St → Option (TV × St)
  | [.int .u32 x, .str l], s => match sumOf x l sums with
    | some y => some (.int .u32 y, s)
    | none => none
  | _, _ => none
def givenW : GivenT := fun f args s =>
  if f = 22 then clonedT args s
  else if f = 70 then sortedT args s
  else if f = 73 then atoiT args s
  else if f = 57 then moreT args s
  else none
def saysTrue : Option (TV × St) → Bool
  | some (.bool true, _) => true
  | _ => false
theorem says_true {x : Option (TV × St)} (h : saysTrue x = true) : ∃ s', x = some (.bool true, s') := by
  unfold saysTrue at h
  split at h
  · exact ⟨_, rfl⟩
  · cases h
end Go.Proofs.YtpfeekihlibbaaaGreatDoor.TV
