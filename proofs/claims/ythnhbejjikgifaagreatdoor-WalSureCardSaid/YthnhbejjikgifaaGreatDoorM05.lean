/-
  DX: an evaluator of the model's operations on values of which only the shape is known: what it tells is a tree of cases. This text: the definitions.
  DX: what makes or changes something; regions, code, loops that are cut, calls. Definitions. (2 texts, one behind the other)
-/
import Derived.Test.YthnhbejjikgifaaGreatDoorM04

namespace Go.Proofs.YthnhbejjikgifaaGreatDoor.TV
open Go Go.RowKit
set_option linter.unusedVariables false
noncomputable section

/-! ### Kinds of elements -/
inductive Ty where
  | int (k : IntKind) | bool | str | slice (t : Ty) | nil | cons (a b : Ty)
  deriving DecidableEq
@[reducible] def Ty.den : Ty → Type
  | .int _ => Int
  | .bool => Bool
  | .str => List UInt8
  | .slice t => List t.den
  | .nil => Unit
  | .cons a b => a.den × b.den
def Ty.isAgg : Ty → Bool
  | .nil | .cons _ _ => true
  | _ => false
def Ty.size : Ty → Nat
  | .nil => 0
  | .cons a b => a.size + b.size
  | _ => 1

/-! ### Values -/
/-- What is owned: a map; a list whose elements may be written. -/
inductive Own where
  | map (v : Ty) (l : List (List UInt8 × v.den)) | lst (t : Ty) (e : TypeId) (l : List t.den)
/-- A token: of a slice that may grow, by the type of its elements; of something that is owned; of something that may be read, and is not changed. -/
inductive Tip where
  | gr (e : TypeId) | own (c : Own) | ro (c : Own)
/-- May a slice grow? No; it has no room; its row is one of those that are kept count of. -/
inductive UTok where
  | no | ex | gr (j : Nat)
inductive UV where
  | junk
  | bool (b : Bool)
  | int (k : IntKind) (n : Int)
  | str (s : List UInt8)
  | nilp
  | oref (j : Nat)
  | lptr (j sz : Nat) (i : Int) (off : Nat)
  | nilm
  | ptr (k off : Nat)
  | eptr (cs : List UV)
  | slice (t : Ty) (b : Option Bool) (l : List t.den) (tok : UTok)
  | lslice (b : Bool) (es : List UV) (tok : UTok)
  | fn (f : Fn) (a c : List UV)
  | nilfn
  | niliface
  | iface (t : TypeId) (v : UV)
  | agg (cs : List UV)
  | tup (cs : List UV)
  deriving Inhabited
def UV.cells : UV → List UV
  | .agg cs => cs
  | v => [v]
def isJunkU : UV → Bool
  | .junk => true
  | _ => false
def cellOkU : UV → Bool
  | .junk | .agg _ | .tup _ => false
  | _ => true
abbrev UEnv := List UV
/-- Written by recursors: the kernel lays them open fast. -/
def atStep (x : UV) (_ : List UV) (ih : Nat → UV) (n : Nat) : UV := Nat.rec (motive := fun _ => UV) x (fun m _ => ih m) n
def UEnv.at (e : UEnv) (t : Nat) : UV := List.rec (motive := fun _ => Nat → UV) (fun _ => .junk) atStep e t
/-- A row of cells, of which some may not be changed. -/
structure Row where
  cs : List UV
  ty : TypeId
  fz : List Bool
structure UHeap where
  objs : List Row
  tips : List (Option Tip)

/-- Two ways on. -/
def two {β γ δ : Type} (x : Option (β ⊕ γ)) (f : β → Option δ) (g : γ → Option δ) : Option δ := match x with
  | none => none
  | some (.inl b) => f b
  | some (.inr c) => g c
/-- Cases. -/
inductive Tree (α : Type) : Type 1 where
  | fail
  | leaf (a : α)
  | ite (b : Bool) (t e : Tree α)
  | opt {β : Type} (x : Option β) (k : β → Tree α)
  | two {β γ : Type} (x : Option (β ⊕ γ)) (k : β → Tree α) (k' : γ → Tree α)
namespace Tree
variable {α β : Type}
def rFail (_ : α → Option β) : Option β := none
def rLeaf (a : α) (f : α → Option β) : Option β := f a
def rIte (b : Bool) (_ _ : Tree α) (it ie : (α → Option β) → Option β) (f : α → Option β) : Option β := bif b then it f else ie f
def rOpt {γ : Type} (x : Option γ) (_ : γ → Tree α) (ih : γ → (α → Option β) → Option β) (f : α → Option β) : Option β := x.bind fun y => ih y f
def rTwo {γ δ : Type} (x : Option (γ ⊕ δ)) (_ : γ → Tree α) (_ : δ → Tree α) (ih : γ → (α → Option β) → Option β) (ih' : δ → (α → Option β) → Option β) (f : α → Option β) : Option β := TV.two x (fun y => ih y f) (fun y => ih' y f)
def run (t : Tree α) (f : α → Option β) : Option β := Tree.rec (motive := fun _ => (α → Option β) → Option β) rFail rLeaf rIte (@rOpt α β) (@rTwo α β) t f
def bFail (_ : α → Tree β) : Tree β := .fail
def bLeaf (a : α) (f : α → Tree β) : Tree β := f a
def bIte (b : Bool) (_ _ : Tree α) (it ie : (α → Tree β) → Tree β) (f : α → Tree β) : Tree β := .ite b (it f) (ie f)
def bOpt {γ : Type} (x : Option γ) (_ : γ → Tree α) (ih : γ → (α → Tree β) → Tree β) (f : α → Tree β) : Tree β := .opt x fun y => ih y f
def bTwo {γ δ : Type} (x : Option (γ ⊕ δ)) (_ : γ → Tree α) (_ : δ → Tree α) (ih : γ → (α → Tree β) → Tree β) (ih' : δ → (α → Tree β) → Tree β) (f : α → Tree β) : Tree β := .two x (fun y => ih y f) (fun y => ih' y f)
def bind (t : Tree α) (f : α → Tree β) : Tree β := Tree.rec (motive := fun _ => (α → Tree β) → Tree β) bFail bLeaf bIte (@bOpt α β) (@bTwo α β) t f
def ofOpt (x : Option α) : Tree α := match x with
  | some a => .leaf a
  | none => .fail
end Tree

mutual
def constU : Value → UV
  | .bool b => .bool b
  | .int k n => .int k n
  | .string s => .str s.data.toList
  | .pointer none => .nilp
  | .slice none 0 0 => .lslice true [] .ex
  | .map none => .nilm
  | .nilFunc => .nilfn
  | .nilIface => .niliface
  | .agg ⟨cs⟩ => .agg (constsU cs)
  | .tuple ⟨vs⟩ => .tup (constsU vs)
  | .iface t v => .iface t (constU v)
  | _ => .junk
def constsU : List Value → List UV
  | [] => []
  | v :: l => constU v :: constsU l
end
def evU (e : UEnv) : Operand → UV
  | .tmp t => e.at t
  | .const v => constU v
  | .global _ => .junk
  | .func f => .fn (.func f) [] []

/-! ### Elements as cells -/
def cellsU : (t : Ty) → t.den → List UV
  | .int k, n => [.int k n]
  | .bool, b => [.bool b]
  | .str, s => [.str s]
  | .slice t, l => [.slice t none l .no]
  | .nil, _ => []
  | .cons a b, x => cellsU a x.1 ++ cellsU b x.2
def elemU (t : Ty) (x : t.den) : UV := if t.isAgg then .agg (cellsU t x) else (cellsU t x).headD .junk
/-- What cells say. -/
def decE {α : Type} (agg : Bool) (f : List UV → Option (α × List UV)) (v : UV) : Option α :=
  match v with
  | .agg cs => if agg then (match f cs with
    | some (x, []) => some x
    | _ => none) else none
  | v => if agg then none else (match f [v] with
    | some (x, []) => some x
    | _ => none)
def decL {α : Type} (f : UV → Option α) : List UV → Option (List α)
  | [] => some []
  | e :: es => match f e, decL f es with
    | some x, some l => some (x :: l)
    | _, _ => none
def castL {t t' : Ty} (h : t' = t) (l : List t'.den) : List t.den := h ▸ l
def decU : (t : Ty) → List UV → Option (t.den × List UV)
  | .int k, .int k' n :: r => if k = k' then some (n, r) else none
  | .bool, .bool b :: r => some (b, r)
  | .str, .str s :: r => some (s, r)
  | .slice t, .slice t' _ l _ :: r => if h : t' = t then some (castL h l, r) else none
  | .slice t, .lslice _ es _ :: r => (decL (decE t.isAgg (decU t)) es).map fun l => (l, r)
  | .nil, r => some ((), r)
  | .cons a b, r => match decU a r with
    | some (x, r') => match decU b r' with
      | some (y, r'') => some ((x, y), r'')
      | none => none
    | none => none
  | _, _ => none
def decV (t : Ty) (v : UV) : Option t.den := decE t.isAgg (decU t) v

/-! ### Operations -/
variable (P : Program)

def takeU (t : TypeId) (cs : List UV) : Option UV :=
  if (P.underlying t).isNone then none else
  if isAggT P t then (if P.cellsOf t ≤ cs.length then some (.agg (cs.take (P.cellsOf t))) else none)
  else cs.head?
def spliceU (cs : List UV) (off : Nat) (vs : List UV) : List UV := cs.take off ++ vs ++ cs.drop (off + vs.length)
def fillU (place : Nat → Option (Nat × Nat)) : List UV → List (Nat × UV) → Option (List UV)
  | cells, [] => some cells
  | cells, (i, v) :: rest =>
    match place i with
    | none => none
    | some (off, size) => if v.cells.length ≠ size || off + size > cells.length || isJunkU v then none else fillU place (spliceU cells off v.cells) rest
def zeroU (t : TypeId) : Option UV := match P.info? t with
  | some i => i.zero.map constU
  | none => none
def buildU (t : TypeId) (parts : List (Nat × UV)) : Option UV :=
  match zeroU P t, P.underlying t with
  | some z, some (.struct fields) => if isJunkU z || !(fields.toList.all fun f => (P.info? f.type).isSome) then none else
    (fillU (fun i => (fields[i]?).map fun f => (f.offset, P.cellsOf f.type)) z.cells parts).map .agg
  | some z, some (.array _ elem) => if isJunkU z || (P.info? elem).isNone then none else (fillU (fun i => some (i * P.cellsOf elem, P.cellsOf elem)) z.cells parts).map .agg
  | _, _ => none
def setEsU : List UV → List (Nat × UV) → List UV
  | es, [] => es
  | es, (i, v) :: rest => setEsU (es.set i v) rest
def buildSliceU (t : TypeId) (len : Nat) (parts : List (Nat × UV)) : Option UV :=
  match P.underlying t with
  | some (.slice elem) =>
    if parts.all (fun p => p.1 < len && (p.2.cells.length == P.cellsOf elem) && p.2.cells.all cellOkU) && 0 < P.cellsOf elem && len * P.cellsOf elem ≤ 2 ^ 24 then
      match zeroU P elem with
      | some z => if z.cells.all cellOkU && z.cells.length == P.cellsOf elem then some (.lslice false (setEsU (List.replicate len z) parts) .ex) else none
      | none => none
    else none
  | _ => none

/-- Bounds of a piece. -/
def loOf (x : Option UV) : Option Int := match x with
  | none => some 0
  | some (.int _ n) => some n
  | some _ => none
def hiOf (x : Option UV) (n : Nat) : Option Int := match x with
  | none => some n
  | some (.int _ n) => some n
  | some _ => none
def cut {α : Type} (l : List α) (lo hi : Option Int) : List α := match lo, hi with
  | none, none => l
  | some a, none => l.drop a.toNat
  | none, some b => l.take b.toNat
  | some a, some b => (l.take b.toNat).drop a.toNat
def intOf (x : Option UV) : Option (Option Int) := match x with
  | none => some none
  | some (.int _ n) => some (some n)
  | some _ => none
/-- Do the bounds lie within n? -/
def within (n : Nat) (lo hi : Option Int) : Bool := match lo, hi with
  | none, none => true
  | some a, none => decide (0 ≤ a ∧ a ≤ n)
  | none, some b => decide (0 ≤ b ∧ b ≤ n)
  | some a, some b => decide (0 ≤ a ∧ a ≤ b ∧ b ≤ n)
def sliceU (t : TypeId) (x : UV) (lo hi mx : Option UV) : Tree UV :=
  match intOf lo, intOf hi with
  | some lo, some hi =>
    match P.underlying t, x, mx with
    | some .string, .str s, none => .ite (within s.length lo hi) (.leaf (.str (cut s lo hi))) .fail
    | some (.slice elem), .slice ty b l tok, none => if P.cellsOf elem = 0 || ty.size != P.cellsOf elem then .fail else
      .ite (within l.length lo hi) (.leaf (.slice ty b (cut l lo hi) (match lo, hi with
        | none, none => tok
        | _, none => (match tok with
          | .ex => .ex
          | _ => .no)
        | _, _ => .no))) .fail
    | some (.slice elem), .slice ty b l tok, some (.int _ m) => if P.cellsOf elem = 0 || ty.size != P.cellsOf elem then .fail else
      match hi with
      | some h => .ite (within l.length lo hi) (.ite (decide (h ≤ m ∧ m ≤ l.length)) (.leaf (.slice ty b (cut l lo hi) (if h = m then .ex else .no))) .fail) .fail
      | none => .fail
    | some (.slice elem), .lslice b es tok, none => if P.cellsOf elem = 0 || !(es.all fun e => e.cells.length == P.cellsOf elem && !isJunkU e) then .fail else
      .ite (within es.length lo hi) (.leaf (.lslice b (cut es lo hi) (match lo, hi with
        | none, none => tok
        | _, none => (match tok with
          | .ex => .ex
          | _ => .no)
        | _, _ => .no))) .fail
    | _, _, _ => .fail
  | _, _ => .fail

def fieldAddrU (s : TypeId) (x : UV) (f : Nat) : Option UV :=
  match P.underlying s with
  | some (.struct fields) => match fields[f]? with
    | some fd => if P.cellsOf fd.type = 0 then none else
      match x with
      | .ptr k off => some (.ptr k (off + fd.offset))
      | .eptr cs => some (.eptr (cs.drop fd.offset))
      | .lptr j sz i off => some (.lptr j sz i (off + fd.offset))
      | _ => none
    | none => none
  | _ => none
/-- One of a few, by its number. -/
def nthU {α : Type} : Nat → Int → (Nat → Tree α) → Nat → Tree α
  | 0, _, _, _ => .fail
  | n + 1, i, f, k => .ite (decide (i = k)) (f k) (nthU n i f (k + 1))
def indexAddrU (t : TypeId) (x i : UV) : Tree UV :=
  match i with
  | .int _ n =>
    match P.underlying t, x with
    | some (.slice elem), .slice ty _ l _ => if ty.size = P.cellsOf elem then .ite (decide (0 ≤ n)) (.opt (l[n.toNat]?) fun x => .leaf (.eptr (cellsU ty x))) .fail else .fail
    | some (.slice elem), .lslice _ es _ => .ite (decide (0 ≤ n)) (match es[n.toNat]? with
      | some e => if e.cells.length = P.cellsOf elem && !isJunkU e then .leaf (.eptr e.cells) else .fail
      | none => .fail) .fail
    | some (.array len elem), .ptr k off => if 0 < P.cellsOf elem then nthU len n (fun i => .leaf (.ptr k (off + i * P.cellsOf elem))) 0 else .fail
    | some (.array len elem), .eptr cs => if 0 < P.cellsOf elem then nthU len n (fun i => .leaf (.eptr (cs.drop (i * P.cellsOf elem)))) 0 else .fail
    | _, _ => .fail
  | _ => .fail
def indexU (t : TypeId) (x i : UV) : Tree UV :=
  match i with
  | .int _ n =>
    match P.underlying t, x with
    | some (.array len elem), .agg cs => nthU len n (fun i => .ofOpt (takeU P elem (cs.drop (i * P.cellsOf elem)))) 0
    | some .string, .str s => .ite (decide (0 ≤ n)) (.opt (s[n.toNat]?) fun b => .leaf (.int .u8 b.toNat)) .fail
    | _, _ => .fail
  | _ => .fail
def fieldU (t : TypeId) (x : UV) (f : Nat) : Option UV :=
  match P.underlying t, x with
  | some (.struct fields), .agg cs => match fields[f]? with
    | some fd => takeU P fd.type (cs.drop fd.offset)
    | none => none
  | _, _ => none

/-! ### What is owned -/
def castP {v v' : Ty} (h : v' = v) (l : List (List UInt8 × v'.den)) : List (List UInt8 × v.den) := h ▸ l
def asMap (v : Ty) : Own → Option (List (List UInt8 × v.den))
  | .map v' l => if h : v' = v then some (castP h l) else none
  | _ => none
def asLst (t : Ty) (e : TypeId) : Own → Option (List t.den)
  | .lst t' e' l => if h : t' = t then (if e' = e then some (castL h l) else none) else none
  | _ => none
/-- What a token owns. -/
def ownOf (tips : List (Option Tip)) (j : Nat) : Option Own := match tips[j]? with
  | some (some (.own c)) => some c
  | _ => none
/-- What may be read of it. -/
def readOf (tips : List (Option Tip)) (j : Nat) : Option Own := match tips[j]? with
  | some (some (.own c)) => some c
  | some (some (.ro c)) => some c
  | _ => none
/-- Maps as lists of keys and values. -/
def mget {α : Type} (k : List UInt8) : List (List UInt8 × α) → Option α
  | [] => none
  | e :: l => if k = e.1 then some e.2 else mget k l
def mset {α : Type} (k : List UInt8) (x : α) : List (List UInt8 × α) → List (List UInt8 × α)
  | [] => [(k, x)]
  | e :: l => if k = e.1 then (k, x) :: l else e :: mset k x l
def mdel {α : Type} (k : List UInt8) : List (List UInt8 × α) → List (List UInt8 × α)
  | [] => []
  | e :: l => if k = e.1 then l else e :: mdel k l
def tyE (t : TypeId) : Option Ty := match P.underlying t with
  | some .string => some .str
  | some (.int k) => some (.int k)
  | some .bool => some .bool
  | _ => none
def lookupU (h : UHeap) (t : TypeId) (m k : UV) (ok : Bool) : Tree UV :=
  match P.underlying t, m, k with
  | some (.map key elem), .oref j, .str s => (match P.underlying key, readOf h.tips j, zeroU P elem with
    | some .string, some (.map v l), some z0 => (match decV v z0 with
      | some z => .leaf (if ok then .tup [elemU v ((mget s l).getD z), .bool (mget s l).isSome] else elemU v ((mget s l).getD z))
      | none => .fail)
    | _, _, _ => .fail)
  | _, _, _ => .fail
def lenO (h : UHeap) (j : Nat) (sl : Bool) : Tree UV := match readOf h.tips j, sl with
  | some (.map _ l), false => .leaf (.int .i64 l.length)
  | some (.lst _ _ l), true => .leaf (.int .i64 l.length)
  | _, _ => .fail
/-- An element's place; what lies there. -/
def idxO (h : UHeap) (t : TypeId) (j : Nat) (i : UV) : Tree UV := match P.underlying t, i, readOf h.tips j with
  | some (.slice elem), .int _ n, some (.lst ty e l) => if ty.size = P.cellsOf elem && decide (0 < ty.size) then .ite (decide (0 ≤ n)) (.ite (decide (n < l.length)) (.leaf (.lptr j ty.size n 0)) .fail) .fail else .fail
  | _, _, _ => .fail
def loadO (h : UHeap) (t : TypeId) (j sz : Nat) (i : Int) (off : Nat) : Tree UV := match readOf h.tips j with
  | some (.lst ty e l) => if sz = ty.size && decide (off + P.cellsOf t ≤ sz) && decide (0 < P.cellsOf t) then .opt (l[i.toNat]?) fun x => .ofOpt (takeU P t ((cellsU ty x).drop off)) else .fail
  | _ => .fail

def nilOf : UV → Option Bool
  | .slice _ b _ _ => b
  | .lslice b _ _ => some b
  | _ => none
def eqU : Nat → TypeId → UV → UV → Option Bool
  | 0, _, _, _ => none
  | d + 1, t, x, y =>
    match P.underlying t, x, y with
    | some .bool, .bool a, .bool b => some (a == b)
    | some (.int _), .int k a, .int k' b => if k = k' then some (decide (a = b)) else none
    | some .string, .str a, .str b => some (decide (a = b))
    | some (.pointer _), .nilp, .nilp => some true
    | some (.pointer _), .nilp, .ptr _ _ | some (.pointer _), .ptr _ _, .nilp => some false
    | some (.interface _), .niliface, .niliface => some true
    | some (.interface _), .niliface, .iface _ _ | some (.interface _), .iface _ _, .niliface => some false
    | some (.struct fields), .agg xs, .agg ys =>
      if P.stoodInHeld t then none else
      fields.toList.foldr (fun f r => if f.name == "_" then r else
        match takeU P f.type (xs.drop f.offset), takeU P f.type (ys.drop f.offset) with
        | some a, some b => match eqU d f.type a b, r with
          | some p, some q => some (p && q)
          | _, _ => none
        | _, _ => none) (some true)
    | some (.array n elem), .agg xs, .agg ys =>
      if (P.info? elem).isNone then none else
      (List.range n).foldr (fun i r =>
        match takeU P elem (xs.drop (i * P.cellsOf elem)), takeU P elem (ys.drop (i * P.cellsOf elem)) with
        | some a, some b => match eqU d elem a b, r with
          | some p, some q => some (p && q)
          | _, _ => none
        | _, _ => none) (some true)
    | some (.slice _), .slice _ (some a) _ _, .lslice true _ _ => some a
    | some (.slice _), .lslice true _ _, .slice _ (some a) _ _ => some a
    | some (.slice _), .lslice a _ _, .lslice true _ _ => some a
    | some (.func _ _ _), .nilfn, .nilfn => some true
    | some (.func _ _ _), .nilfn, .fn .. | some (.func _ _ _), .fn .., .nilfn => some false
    | _, _, _ => none

def binU (op : BinOp) (t : TypeId) (x y : UV) : Tree UV :=
  match x, y with
  | .int k a, .int yk b =>
    match op with
    | .shl => .ite (decide (b < 0)) .fail (.leaf (.int k (k.wrap (a * 2 ^ (min b.toNat k.bits)))))
    | .shr => .ite (decide (b < 0)) .fail (.leaf (.int k (a.fdiv (2 ^ (min b.toNat k.bits)))))
    | _ => if k ≠ yk then .fail else
      match op with
      | .add => .leaf (.int k (k.wrap (a + b)))
      | .sub => .leaf (.int k (k.wrap (a - b)))
      | .mul => .leaf (.int k (k.wrap (a * b)))
      | .quo => .ite (decide (b = 0)) .fail (.leaf (.int k (k.wrap (a.tdiv b))))
      | .rem => .ite (decide (b = 0)) .fail (.leaf (.int k (a.tmod b)))
      | .and => .leaf (.int k (k.wrap ((BitVec.ofInt k.bits a &&& BitVec.ofInt k.bits b).toNat)))
      | .or => .leaf (.int k (k.wrap ((BitVec.ofInt k.bits a ||| BitVec.ofInt k.bits b).toNat)))
      | .xor => .leaf (.int k (k.wrap ((BitVec.ofInt k.bits a ^^^ BitVec.ofInt k.bits b).toNat)))
      | .andNot => .leaf (.int k (k.wrap ((BitVec.ofInt k.bits a &&& ~~~ (BitVec.ofInt k.bits b)).toNat)))
      | .eql => .leaf (.bool (decide (a = b)))
      | .neq => .leaf (.bool (!decide (a = b)))
      | .lss => .leaf (.bool (decide (a < b)))
      | .leq => .leaf (.bool (decide (a ≤ b)))
      | .gtr => .leaf (.bool (decide (b < a)))
      | .geq => .leaf (.bool (decide (b ≤ a)))
      | _ => .fail
  | .str a, .str b =>
    match op with
    | .add => .ite (decide (a.length + b.length ≤ 9223372036854775807)) (.leaf (.str (a ++ b))) .fail
    | .eql => .leaf (.bool (decide (a = b)))
    | .neq => .leaf (.bool (!decide (a = b)))
    | .lss => .leaf (.bool (Op.bytesLess a b))
    | .leq => .leaf (.bool (Op.bytesLess a b || decide (a = b)))
    | .gtr => .leaf (.bool (!(Op.bytesLess a b || decide (a = b))))
    | .geq => .leaf (.bool (!Op.bytesLess a b))
    | _ => .fail
  | x, y =>
    match op with
    | .eql => .ofOpt ((eqU P 100 t x y).map .bool)
    | .neq => .ofOpt ((eqU P 100 t x y).map fun b => .bool (!b))
    | _ => .fail
def guardU (op : BinOp) (t : TypeId) (x y : Operand) (a b : UV) : Bool :=
  match op with
  | .eql | .neq => match a, b with
    | .niliface, .niliface => (match x with | .const _ => true | _ => false) || (match y with | .const _ => true | _ => false)
    | .agg _, .agg _ => !(P.eqGuardType P.depth t)
    | .junk, _ | _, .junk => false
    | _, _ => true
  | _ => true
def unU (op : UnOp) (x : UV) : Option UV :=
  match op, x with
  | .neg, .int k n => some (.int k (k.wrap (0 - n)))
  | .xor, .int k n => some (.int k (k.wrap ((BitVec.ofInt k.bits (if k.signed then -1 else k.max) ^^^ BitVec.ofInt k.bits n).toNat)))
  | .not, .bool b => some (.bool !b)
  | _, _ => none
def bytesUV (l : List Int) : List UInt8 := l.map fun n => UInt8.ofNat n.toNat
def byteInts (s : List UInt8) : List Int := s.map fun c => (c.toNat : Int)
def convU (src dst : TypeId) (x : UV) : Option UV :=
  match P.underlying src, P.underlying dst, x with
  | some _, some (.int k), .int _ n => some (.int k (k.wrap n))
  | some .string, some .string, .str b => some (.str b)
  | some .string, some (.slice e), .str b =>
    match P.underlying e with
    | some (.int .u8) => some (.slice (.int .u8) (some false) (byteInts b) .no)
    | _ => none
  | some (.slice e), some .string, .slice (.int .u8) _ l _ =>
    match P.underlying e with
    | some (.int .u8) => some (.str (bytesUV l))
    | _ => none
  | some (.slice e), some .string, .lslice _ es _ =>
    match P.underlying e with
    | some (.int .u8) => (decL (decV (.int .u8)) es).map fun l => .str (bytesUV l)
    | _ => none
  | _, _, _ => none
def lenU (t : TypeId) (x : UV) : Option UV :=
  match P.underlying t, x with
  | some .string, .str b => some (.int .i64 b.length)
  | some (.array n _), _ => some (.int .i64 n)
  | some (.slice _), .slice _ _ l _ => some (.int .i64 l.length)
  | some (.slice _), .lslice _ es _ => some (.int .i64 es.length)
  | _, _ => none
def minU (x y : UV) : Option UV := match x, y with
  | .int k a, .int _ b => some (.int k (if b < a then b else a))
  | _, _ => none
def maxU (x y : UV) : Option UV := match x, y with
  | .int k a, .int _ b => some (.int k (if b > a then b else a))
  | _, _ => none
def loadU (h : UHeap) (t : TypeId) (p : UV) : Option UV :=
  match p with
  | .eptr cs => takeU P t cs
  | .ptr k off => match h.objs[k]? with
    | some r => takeU P t (r.cs.drop off)
    | none => none
  | _ => none

/-- What only reads. -/
def readU (h : UHeap) (ρ : Operand → UV) (o : Oper) : Tree UV :=
  match o.op with
  | .move x | .assign x => .leaf (ρ x)
  | .pick c a b => match ρ c with
    | .bool c => .ite c (.leaf (ρ a)) (.leaf (ρ b))
    | _ => .fail
  | .build t parts => .ofOpt (buildU P t (parts.toList.map fun p => (p.1, ρ p.2)))
  | .buildSlice t len parts => .ofOpt (buildSliceU P t len (parts.toList.map fun p => (p.1, ρ p.2)))
  | .load t a => match ρ a with
    | .lptr j sz i off => loadO P h t j sz i off
    | a => .ofOpt (loadU P h t a)
  | .nilCheck x => match ρ x with
    | .ptr k off => .leaf (.ptr k off)
    | .lptr j sz i off => .leaf (.lptr j sz i off)
    | .eptr cs => .leaf (.eptr cs)
    | .fn (.func f) a b => .leaf (.fn (.func f) a b)
    | _ => .fail
  | .binOp op t x y _ => if guardU P op t x y (ρ x) (ρ y) then binU P op t (ρ x) (ρ y) else .fail
  | .unOp op _ x => .ofOpt (unU op (ρ x))
  | .convert src dst x => .ofOpt (convU P src dst (ρ x))
  | .makeInterface t x => match P.underlying t with
    | some (.interface _) => .fail
    | some _ => .leaf (.iface t (ρ x))
    | none => .fail
  | .makeFunc f a b => .leaf (.fn f (a.toList.map ρ) (b.toList.map ρ))
  | .slice t x lo hi mx => sliceU P t (ρ x) (lo.map ρ) (hi.map ρ) (mx.map ρ)
  | .fieldAddr t x f => .ofOpt (fieldAddrU P t (ρ x) f)
  | .field t x f => .ofOpt (fieldU P t (ρ x) f)
  | .indexAddr t x i => match ρ x with
    | .oref j => idxO P h t j (ρ i)
    | x => indexAddrU P t x (ρ i)
  | .index t x i => indexU P t (ρ x) (ρ i)
  | .extract x i => match ρ x with
    | .tup vs => .ofOpt vs[i]?
    | _ => .fail
  | .lookup t m k ok => lookupU P h t (ρ m) (ρ k) ok
  | .call { callee := .builtin b, args := args, argTypes := ts } =>
    match b, args.toList, ts.toList with
    | .len, [x], [t] => (match ρ x with
      | .oref j => (match P.underlying t with
        | some (.map _ _) => lenO h j false
        | some (.slice _) => lenO h j true
        | _ => .fail)
      | x => .ofOpt (lenU P t x))
    | .min, [x, y], _ => .ofOpt (minU (ρ x) (ρ y))
    | .max, [x, y], _ => .ofOpt (maxU (ρ x) (ρ y))
    | _, _, _ => .fail
  | _ => .fail
end
end Go.Proofs.YthnhbejjikgifaaGreatDoor.TV

namespace Go.Proofs.YthnhbejjikgifaaGreatDoor.TV
open Go Go.RowKit
set_option linter.unusedVariables false
noncomputable section

variable (P : Program)

/-! ### What makes or changes something -/
/-- May a slice with this token grow? What is left then. -/
def useTok (e : TypeId) (tips : List (Option Tip)) : UTok → Option (List (Option Tip))
  | .no => none
  | .ex => some tips
  | .gr j => match tips[j]? with
    | some (some (.gr e')) => if e' = e then some (tips.set j none) else none
    | _ => none
def byteKind : Ty → Bool
  | .int .u8 => true
  | _ => false
def asL (t : Ty) (v : UV) : Option (List t.den) := match v with
  | .slice t' _ l _ => if h : t' = t then some (castL h l) else none
  | .lslice _ es _ => decL (decV t) es
  | .str s => match t with
    | .int .u8 => some (byteInts s)
    | _ => none
  | _ => none
def tokOf : UV → UTok
  | .slice _ _ _ t => t
  | .lslice _ _ t => t
  | _ => .no
def appendTyU (h : UHeap) (ty : Ty) (elem : TypeId) (x y : UV) : Tree (UV × UHeap) :=
  if ty.size = P.cellsOf elem then
    match asL ty x, asL ty y with
    | some l, some l' => .ite l'.isEmpty (.leaf (x, h)) (.ite (decide ((l.length + l'.length) * P.bytesOf elem ≤ 140737488355328))
      (match useTok elem h.tips (tokOf x) with
        | some tips => .leaf (.slice ty (some false) (l ++ l') (.gr tips.length), { h with tips := tips ++ [some (.gr elem)] })
        | none => .fail) .fail)
    | _, _ => .fail
  else .fail
def fineU (n : Nat) (e : UV) : Bool := e.cells.length == n && e.cells.all cellOkU
def appendU (h : UHeap) (t u : TypeId) (x y : UV) : Tree (UV × UHeap) :=
  match P.underlying t, P.underlying u with
  | some (.slice elem), some ud =>
    if srcKind ud && decide (0 < P.bytesOf elem) && decide (0 < P.cellsOf elem) && zeroFits P elem then
      match x, y with
      | .lslice b es tok, .lslice _ es' _ =>
        if es'.isEmpty then .leaf (x, h) else
        if es.all (fineU (P.cellsOf elem)) && es'.all (fineU (P.cellsOf elem)) && decide ((es.length + es'.length) * P.bytesOf elem ≤ 140737488355328) then
          (match useTok elem h.tips tok with
          | some tips => .leaf (.lslice false (es ++ es') (.gr tips.length), { h with tips := tips ++ [some (.gr elem)] })
          | none => .fail)
        else .fail
      | .slice ty _ _ _, _ => appendTyU P h ty elem x y
      | .lslice .., .slice ty _ _ _ => appendTyU P h ty elem x y
      | .lslice .., .str _ => appendTyU P h (.int .u8) elem x y
      | _, _ => .fail
    else .fail
  | _, _ => .fail
def storeU (h : UHeap) (k off : Nat) (vs : List UV) : Option UHeap := match h.objs[k]? with
  | some r => if off + vs.length ≤ r.cs.length && vs.all cellOkU && !((r.fz.drop off).take vs.length).any id then some { h with objs := h.objs.set k { r with cs := spliceU r.cs off vs } } else none
  | none => none
def newU (h : UHeap) (cs : List UV) (t : TypeId) : UHeap := { h with objs := h.objs ++ [⟨cs, t, []⟩] }
def undefU : UV := .tup []
/-- Another content. -/
def setOwn (h : UHeap) (j : Nat) (c : Own) : UHeap := { h with tips := h.tips.set j (some (.own c)) }
def mapSetU (h : UHeap) (t : TypeId) (m k v : UV) : Tree (UV × UHeap × List Nat) :=
  match P.underlying t, m, k with
  | some (.map key _), .oref j, .str s => (match P.underlying key, ownOf h.tips j with
    | some .string, some (.map vt l) => (match decV vt v with
      | some x => .leaf (undefU, setOwn h j (.map vt (mset s x l)), [])
      | none => .fail)
    | _, _ => .fail)
  | _, _, _ => .fail
def mapDelU (h : UHeap) (t : TypeId) (m k : UV) : Tree (UV × UHeap × List Nat) :=
  match P.underlying t, m, k with
  | some (.map key _), .oref j, .str s => (match P.underlying key, ownOf h.tips j with
    | some .string, some (.map vt l) => .leaf (undefU, setOwn h j (.map vt (mdel s l)), [])
    | _, _ => .fail)
  | _, _, _ => .fail
/-- What is written into an element. -/
def storeO (h : UHeap) (t : TypeId) (j sz : Nat) (i : Int) (off : Nat) (vs : List UV) : Tree (UV × UHeap × List Nat) := match ownOf h.tips j with
  | some (.lst ty e l) => if sz = ty.size && decide (vs.length = P.cellsOf t) && decide (0 < P.cellsOf t) && decide (off + vs.length ≤ sz) && vs.all cellOkU then
      .opt (l[i.toNat]?) fun x => match decU ty (spliceU (cellsU ty x) off vs) with
        | some (y, []) => .leaf (undefU, setOwn h j (.lst ty e (l.set i.toNat y)), [])
        | _ => .fail
    else .fail
  | _ => .fail
/-- A kind of elements, out of the program's types. -/
def tyOf : Nat → TypeId → Option Ty
  | 0, _ => none
  | f + 1, t => match P.underlying t with
    | some .string => some .str
    | some (.int k) => some (.int k)
    | some .bool => some .bool
    | some (.slice e) => (tyOf f e).map .slice
    | some (.struct fields) => tyFs (tyOf f) fields.toList
    | _ => none
where tyFs (g : TypeId → Option Ty) : List Field → Option Ty
  | [] => some .nil
  | [x] => g x.type
  | x :: l => match g x.type, tyFs g l with
    | some a, some b => some (.cons a b)
    | _, _ => none
def ownTyOf (t : TypeId) : Option Ty := match P.underlying t with
  | some (.slice e) => tyOf P 8 e
  | _ => none
/-- What is appended. -/
def lstY (h : UHeap) (elem : TypeId) (ty : Ty) (y : UV) : Option (List ty.den) := match y with
  | .oref j => if ty.isAgg && decide (1 < ty.size) then (readOf h.tips j).bind (asLst ty elem) else none
  | y => asL ty y
/-- append to what is owned, or to nothing: all is owned. -/
def ownAppU (h : UHeap) (t u : TypeId) (ty : Ty) (x y : UV) : Tree (UV × UHeap × List Nat) :=
  match P.underlying t, P.underlying u with
  | some (.slice elem), some ud =>
    if srcKind ud && decide (0 < P.bytesOf elem) && decide (0 < P.cellsOf elem) && zeroFits P elem && decide (ty.size = P.cellsOf elem) then
      match lstY h elem ty y with
      | some l' => .ite l'.isEmpty .fail (match x with
        | .oref j => (match (ownOf h.tips j).bind (asLst ty elem) with
          | some l => .ite (decide ((l.length + l'.length) * P.bytesOf elem ≤ 140737488355328)) (.leaf (.oref h.tips.length, { h with tips := h.tips.set j none ++ [some (.own (.lst ty elem (l ++ l')))] }, [])) .fail
          | none => .fail)
        | .lslice true [] .ex => .ite (decide (l'.length * P.bytesOf elem ≤ 140737488355328)) (.leaf (.oref h.tips.length, { h with tips := h.tips ++ [some (.own (.lst ty elem l'))] }, [])) .fail
        | _ => .fail)
      | none => .fail
    else .fail
  | _, _ => .fail
/-- A slice that is built, and is owned. -/
def ownBuildU (h : UHeap) (t : TypeId) (ty : Ty) (len : Nat) (parts : List (Nat × UV)) : Tree (UV × UHeap × List Nat) :=
  match P.underlying t, buildSliceU P t len parts with
  | some (.slice elem), some v => (match asL ty v with
    | some l => if decide (ty.size = P.cellsOf elem) && decide (0 < len) then .ite (decide (l.length = len)) (.leaf (.oref h.tips.length, { h with tips := h.tips ++ [some (.own (.lst ty elem l))] }, [])) .fail else .fail
    | none => .fail)
  | _, _ => .fail
/-- What is changed, which rows are written. -/
def effU (h : UHeap) (ρ : Operand → UV) (o : Oper) : Tree (UV × UHeap × List Nat) :=
  match o.op with
  | .alloc t => match zeroU P t with
    | some z => if z.cells.all cellOkU then .leaf (.ptr h.objs.length 0, newU h z.cells t, []) else .fail
    | none => .fail
  | .box t x => if (ρ x).cells.all cellOkU then .leaf (.ptr h.objs.length 0, newU h (ρ x).cells t, []) else .fail
  | .store t a x => match ρ a with
    | .ptr k off => if (ρ x).cells.length = P.cellsOf t && 0 < P.cellsOf t then (match storeU h k off (ρ x).cells with
      | some h => .leaf (undefU, h, [k])
      | none => .fail) else .fail
    | .lptr j sz i off => storeO P h t j sz i off (ρ x).cells
    | _ => .fail
  | .call { callee := .builtin b, args := args, argTypes := ts } =>
    match b, args.toList, ts.toList with
    | .append, [x, y], [t, u] => if ownedT t || ownedAt t o.dst then (match ownTyOf P t with
      | some ty => ownAppU P h t u ty (ρ x) (ρ y)
      | none => .fail) else (appendU P h t u (ρ x) (ρ y)).bind fun r => .leaf (r.1, r.2, [])
    | .delete, [m, k], [t, _] => mapDelU P h t (ρ m) (ρ k)
    | _, _, _ => .fail
  | .makeMap t none => (match P.underlying t with
    | some (.map _ elem) => (match tyE P elem with
      | some v => .leaf (.oref h.tips.length, { h with tips := h.tips ++ [some (.own (.map v []))] }, [])
      | none => .fail)
    | _ => .fail)
  | .mapUpdate t m k v | .insert t m k v => mapSetU P h t (ρ m) (ρ k) (ρ v)
  | .buildSlice t len parts => if ownedT t then (match ownTyOf P t with
    | some ty => ownBuildU P h t ty len (parts.toList.map fun p => (p.1, ρ p.2))
    | none => .fail) else .fail
  | _ => .fail
def calleeU (ρ : Operand → UV) (o : Oper) : Option (FuncId × List UV) := match o.op with
  | .call { callee := .value f, args := args, .. } => match ρ f with
    | .fn (.func g) first captured => some (g, first ++ args.toList.map ρ ++ captured)
    | _ => none
  | _ => none

/-! ### Laying open: identities that make the kernel reckon -/
section
universe u
variable {ρ : Sort u}
def forceN (n : Nat) (k : Nat → ρ) : ρ := match n with
  | 0 => k 0
  | m + 1 => k (m + 1)
def flNil {α : Type} (k : List α → ρ) : ρ := k []
def flStep {α : Type} (x : α) (_ : List α) (ih : (List α → ρ) → ρ) (k : List α → ρ) : ρ := ih fun l => k (x :: l)
def forceL {α : Type} (l : List α) (k : List α → ρ) : ρ := List.rec (motive := fun _ => (List α → ρ) → ρ) flNil flStep l k
def fu_junk (k : UV → ρ) : ρ := k .junk
def fu_bool (b : Bool) (k : UV → ρ) : ρ := k (.bool b)
def fu_int (kd : IntKind) (n : Int) (k : UV → ρ) : ρ := k (.int kd n)
def fu_str (s : List UInt8) (k : UV → ρ) : ρ := k (.str s)
def fu_nilp (k : UV → ρ) : ρ := k .nilp
def fu_oref (j : Nat) (k : UV → ρ) : ρ := forceN j fun j => k (.oref j)
def fu_lptr (j sz : Nat) (i : Int) (off : Nat) (k : UV → ρ) : ρ := forceN j fun j => forceN sz fun sz => forceN off fun off => k (.lptr j sz i off)
def fu_nilm (k : UV → ρ) : ρ := k .nilm
def fu_ptr (o : Nat) (off : Nat) (k : UV → ρ) : ρ := forceN o fun o => forceN off fun off => k (.ptr o off)
def fu_eptr (cs : List UV) (k : UV → ρ) : ρ := forceL cs fun cs => k (.eptr cs)
def fu_slice (t : Ty) (b : Option Bool) (l : List t.den) (tok : UTok) (k : UV → ρ) : ρ := k (.slice t b l tok)
def fu_lslice (b : Bool) (es : List UV) (tok : UTok) (k : UV → ρ) : ρ := forceL es fun es => k (.lslice b es tok)
def fu_fn (f : Fn) (a : List UV) (c : List UV) (k : UV → ρ) : ρ := k (.fn f a c)
def fu_nilfn (k : UV → ρ) : ρ := k .nilfn
def fu_niliface (k : UV → ρ) : ρ := k .niliface
def fu_iface (t : TypeId) (v : UV) (k : UV → ρ) : ρ := k (.iface t v)
def fu_agg (cs : List UV) (k : UV → ρ) : ρ := forceL cs fun cs => k (.agg cs)
def fu_tup (cs : List UV) (k : UV → ρ) : ρ := forceL cs fun cs => k (.tup cs)
/-- The head of a value. -/
def forceU (v : UV) (k : UV → ρ) : ρ := UV.casesOn (motive_1 := fun _ => (UV → ρ) → ρ) v fu_junk fu_bool fu_int fu_str fu_nilp fu_oref fu_lptr fu_nilm fu_ptr fu_eptr fu_slice fu_lslice fu_fn fu_nilfn fu_niliface fu_iface fu_agg fu_tup k
def feStep (x : UV) (_ : List UV) (ih : (List UV → ρ) → ρ) (k : List UV → ρ) : ρ := forceU x fun x => ih fun l => k (x :: l)
def forceE (l : List UV) (k : List UV → ρ) : ρ := List.rec (motive := fun _ => (List UV → ρ) → ρ) flNil feStep l k
def frStep (r : Row) (_ : List Row) (ih : (List Row → ρ) → ρ) (k : List Row → ρ) : ρ := match r with
  | ⟨cs, ty, fz⟩ => forceE cs fun cs => forceL fz fun fz => ih fun l => k (⟨cs, ty, fz⟩ :: l)
def forceR (l : List Row) (k : List Row → ρ) : ρ := List.rec (motive := fun _ => (List Row → ρ) → ρ) flNil frStep l k
def forceH (h : UHeap) (k : UHeap → ρ) : ρ := match h with
  | ⟨objs, tips⟩ => forceR objs fun objs => forceL tips fun tips => k ⟨objs, tips⟩
def setNil (_ : Nat) (_ : UV) (k : List UV → ρ) : ρ := k []
def setStep (x : UV) (l : List UV) (ih : Nat → UV → (List UV → ρ) → ρ) (n : Nat) (v : UV) (k : List UV → ρ) : ρ := Nat.rec (motive := fun _ => ρ) (forceU v fun v => k (v :: l)) (fun m _ => ih m v fun l => k (x :: l)) n
def setKU (l : List UV) (n : Nat) (v : UV) (k : List UV → ρ) : ρ := List.rec (motive := fun _ => Nat → UV → (List UV → ρ) → ρ) setNil setStep l n v k
end

/-! ### Regions -/
abbrev CallU := FuncId → List UV → UHeap → Tree (UV × UHeap × List Nat)
def opU (call : CallU) (e : UEnv) (h : UHeap) (o : Oper) : Tree (UV × UHeap × List Nat) :=
  if isRead o then (readU P h (evU e) o).bind fun v => .leaf (v, h, [])
  else match calleeU (evU e) o with
    | some (f, args) => call f args h
    | none => effU P h (evU e) o
/-- What an operation tells; a store that was only read is not laid open again. -/
def openU {ρ : Type 1} (rd : Bool) (r : UV × UHeap × List Nat) (k : UV → UHeap → List Nat → ρ) : ρ := match r with
  | (v, h, w) => match rd with
    | true => k v h w
    | false => forceH h fun h => k v h w
/-- The same of names and store. -/
def goU {ρ : Type 1} (open_ : Bool) (r : UEnv × UHeap) (k : UEnv → UHeap → ρ) : ρ := match r with
  | (e, h) => match open_ with
    | true => k e h
    | false => forceE e fun e => forceH h fun h => k e h
def putU (dst : Option Tmp) (v : UV) (e : UEnv) : UEnv := match dst with
  | some d => e.set d v
  | none => e
def putKU {ρ : Type 1} (dst : Option Tmp) (v : UV) (e : UEnv) (k : UEnv → ρ) : ρ := match dst with
  | some d => setKU e d v k
  | none => k e
/-- Is it wanted? Where that is open: both, each with the name told. -/
def wantU {α : Type} (ops : List Oper) (o : Oper) (e : UEnv) (f : UEnv → Bool → Tree α) : Tree α := match o.guard with
  | none => f e true
  | some (j, want) => match (ops[j]?).bind (·.dst) with
    | some d => match e.at d with
      | .bool b => .ite b (setKU e d (.bool true) fun e => f e (true == want)) (setKU e d (.bool false) fun e => f e (false == want))
      | .tup [] => f e false
      | _ => .fail
    | none => .fail
def opsNil (e : UEnv) (h : UHeap) : Tree (UEnv × UHeap) := .leaf (e, h)
def opsStep (call : CallU) (ops : List Oper) (o : Oper) (_ : List Oper) (ih : UEnv → UHeap → Tree (UEnv × UHeap)) (e : UEnv) (h : UHeap) : Tree (UEnv × UHeap) := wantU ops o e fun e w => match w with
    | true => (opU P call e h o).bind fun r => openU (isRead o) r fun v h _ => putKU o.dst v e fun e => ih e h
    | false => putKU o.dst undefU e fun e => ih e h
def opsU (call : CallU) (ops : List Oper) (l : List Oper) : UEnv → UHeap → Tree (UEnv × UHeap) := List.rec (motive := fun _ => UEnv → UHeap → Tree (UEnv × UHeap)) opsNil (opsStep P call ops) l
/-- The row from which is loaded. -/
def rowOf (ρ : Operand → UV) (o : Oper) : Option (Option Nat) := match o.op with
  | .load _ a => match ρ a with
    | .ptr k _ => some (some k)
    | .lptr .. => some none
    | _ => none
  | .lookup .. => some none
  | .call { callee := .builtin .len, args := args, .. } => (match args.toList with
    | [x] => (match ρ x with
      | .oref _ => some none
      | _ => none)
    | _ => none)
  | _ => none
/-- Does it leave the store as it is? -/
def quietOp (o : Oper) : Bool := match o.op with
  | .call { callee := .value (.func f), .. } => quietF f
  | _ => false
def quietAt (ops : List Oper) (p : Nat) : Bool := match (ops.filter fun o => !isRead o)[p]? with
  | some o => quietOp o
  | none => false
def drawChk (ops : List Oper) (rd : List (Nat × Nat × Option Nat)) (wr : List (List Nat × Nat)) : Bool :=
  let b := bits ops
  let es := ops.zipIdx.filterMap fun p => if isRead p.1 then none else some p.2
  rd.all fun (i, k0, k) => decide (winLo b es i ≤ k0) && decide (k0 ≤ winHi b es i) && (List.range wr.length).all fun p => !(decide (winLo b es i ≤ p) && decide (p < winHi b es i)) || (match k with
    | some k => !(wr.getD p ([], 0)).1.contains k && decide (k < (wr.getD p ([], 0)).2)
    | none => quietAt ops p)
def drawU (call : CallU) (ops : List Oper) : List Oper → Nat → UEnv → UHeap → List (Nat × Nat × Option Nat) → List (List Nat × Nat) → Tree (UEnv × UHeap)
  | [], _, e, h, rd, wr => if drawChk ops rd.reverse wr.reverse then .leaf (e, h) else .fail
  | o :: rest, i, e, h, rd, wr => wantU ops o e fun e w => match w with
    | true => (opU P call e h o).bind fun r => openU (isRead o) r fun v h' w => putKU o.dst v e fun e' => drawU call ops rest (i + 1) e' h'
        (match rowOf (evU e) o with
          | some k => (i, wr.length, k) :: rd
          | none => rd)
        (if isRead o then wr else (w, h.objs.length) :: wr)
    | false => putKU o.dst undefU e fun e => drawU call ops rest (i + 1) e h rd (if isRead o then wr else ([], h.objs.length) :: wr)

/-! ### Shapes -/
/-- A value's shape: of elements; a slice that may grow; a row; nil; not looked at. -/
inductive PC where
  | ty (t : Ty) | gsl (t : Ty) (e : TypeId) | ptr (k : Nat) | nilp | ign | lit (v : Value) | omap (v : Ty) | olst (t : Ty) (e : TypeId)
@[reducible] def PC.den : PC → Type
  | .ty t => t.den
  | .gsl t _ => List t.den
  | .omap v => List (List UInt8 × v.den)
  | .olst t _ => List t.den
  | _ => Unit
@[reducible] def dens : List PC → Type
  | [] => Unit
  | p :: ps => p.den × dens ps
def PC.toks : (p : PC) → p.den → List (Option Tip)
  | .gsl _ e, _ => [some (.gr e)]
  | .omap v, l => [some (.own (.map v l))]
  | .olst t e, l => [some (.own (.lst t e l))]
  | _, _ => []
def PC.ntok : PC → Nat
  | .gsl .. | .omap .. | .olst .. => 1
  | _ => 0
def toksL : (ps : List PC) → dens ps → List (Option Tip)
  | [], _ => []
  | p :: ps, d => p.toks d.1 ++ toksL ps d.2
/-- Is the value that constant? -/
def sameU : Value → UV → Bool
  | .bool b, .bool c => b == c
  | .int k n, .int k' m => decide (k = k') && decide (n = m)
  | .string s, .str t => decide (s.data.toList = t)
  | .pointer none, .nilp => true
  | .slice none 0 0, .lslice true [] .ex => true
  | .nilFunc, .nilfn => true
  | .nilIface, .niliface => true
  | _, _ => false
def injV (m : List Nat) (j : Nat) : (p : PC) → p.den → UV
  | .ty t, x => elemU t x
  | .gsl t _, l => .slice t none l (.gr j)
  | .ptr k, _ => .ptr (m.getD k 0) 0
  | .nilp, _ => .nilp
  | .lit v, _ => constU v
  | .omap _, _ => .oref j
  | .olst _ _, _ => .oref j
  | .ign, _ => .junk
def injL (m : List Nat) : Nat → (ps : List PC) → dens ps → List UV
  | _, [], _ => []
  | j, p :: ps, d => injV m j p d.1 :: injL m (j + p.ntok) ps d.2
def exV (m : List Nat) (tips : List (Option Tip)) : (p : PC) → UV → Option (p.den × List (Option Tip))
  | .ty t, u => match decV t u with
    | some x => some (x, tips)
    | none => none
  | .gsl t e, u => match u with
    | .slice .. | .lslice .. => (match asL t u, useTok e tips (tokOf u) with
      | some l, some tips => some (l, tips)
      | _, _ => none)
    | _ => none
  | .ptr k, .ptr K 0 => if m[k]? = some K then some ((), tips) else none
  | .nilp, .nilp => some ((), tips)
  | .lit v, u => if sameU v u then some ((), tips) else none
  | .omap v, .oref j => match (ownOf tips j).bind (asMap v) with
    | some l => some (l, tips.set j none)
    | none => none
  | .olst t e, .oref j => match (ownOf tips j).bind (asLst t e) with
    | some l => some (l, tips.set j none)
    | none => none
  | .olst _ _, .lslice true [] .ex => some ([], tips)
  | .ign, _ => some ((), tips)
  | _, _ => none
def exL (m : List Nat) : List (Option Tip) → (ps : List PC) → List UV → Option (dens ps × List (Option Tip))
  | tips, [], [] => some ((), tips)
  | tips, p :: ps, u :: us => match exV m tips p u with
    | some (x, tips) => match exL m tips ps us with
      | some (y, tips) => some ((x, y), tips)
      | none => none
    | none => none
  | _, _, _ => none

/-! ### Places in a state: names and cells -/
structure Cut where
  vars : List (Nat × PC)
  cells : List (Nat × Nat × PC)
  retv : List (Nat × PC)
  retc : List (Nat × Nat × PC)
def pcs (vs : List (Nat × PC)) (cs : List (Nat × Nat × PC)) : List PC := vs.map (·.2) ++ cs.map (·.2.2)
def cellAt (h : UHeap) (k off : Nat) : UV := match h.objs[k]? with
  | some r => r.cs.getD off .junk
  | none => .junk
def gather (vs : List (Nat × PC)) (cs : List (Nat × Nat × PC)) (e : UEnv) (h : UHeap) : List UV := vs.map (fun p => e.at p.1) ++ cs.map fun p => cellAt h p.1 p.2.1
def setVars : List (Nat × PC) → List UV → UEnv → UEnv
  | p :: ps, u :: us, e => setVars ps us (e.set p.1 u)
  | _, _, e => e
def setCell (objs : List Row) (k off : Nat) (u : UV) : List Row := objs.modify k fun r => { r with cs := r.cs.set off u }
def setCells : List (Nat × Nat × PC) → List UV → List Row → List Row
  | p :: ps, u :: us, o => setCells ps us (setCell o p.1 p.2.1 u)
  | _, _, o => o
/-- Nothing but these cells may be changed. -/
def fzOne (k : Nat) (cs : List (Nat × Nat × PC)) (n : Nat) : List Bool := (List.range n).map fun off => !(cs.any fun p => p.1 == k && p.2.1 == off)
def freezeGo (cs : List (Nat × Nat × PC)) : Nat → List Row → List Row
  | _, [] => []
  | k, r :: l => { r with fz := fzOne k cs r.cs.length } :: freezeGo cs (k + 1) l
def freeze (cs : List (Nat × Nat × PC)) (objs : List Row) : List Row := freezeGo cs 0 objs
def cellsFree (h : UHeap) (cs : List (Nat × Nat × PC)) : Bool := cs.all fun p => match h.objs[p.1]? with
  | some r => decide (p.2.1 < r.cs.length) && !(r.fz.getD p.2.1 false)
  | none => false
/-- The cells of both outcomes are the same. -/
def sameCells (a b : List (Nat × Nat × PC)) : Bool := a.map (fun p => (p.1, p.2.1)) == b.map (fun p => (p.1, p.2.1))
def deadT : Option Tip → Option Tip
  | some (.own c) => some (.ro c)
  | some (.ro c) => some (.ro c)
  | _ => none
def dead (tips : List (Option Tip)) : List (Option Tip) := tips.map deadT

def asgOps : List Oper → Nat → Bool
  | [], _ => false
  | o :: l, d => (o.dst == some d) || asgOps l d
def asg : Code → Nat → Bool
  | .region _ ops _, d => asgOps ops.toList d
  | .seq a b, d => asg a d || asg b d
  | .cond _ a b, d => asg a d || asg b d
  | .block _ a, d => asg a d
  | .loop a, d => asg a d
  | _, _ => false
def clearGo (c : Code) : Nat → UEnv → UEnv
  | _, [] => []
  | i, v :: l => (if asg c i then .junk else v) :: clearGo c (i + 1) l
def clear (c : Code) (e : UEnv) : UEnv := clearGo c 0 e
/-- The state with the places told anew; ahead of it stand the tokens tips; the rows' freezing is fr. -/
def scatter (c : Code) (vs : List (Nat × PC)) (cs : List (Nat × Nat × PC)) (m : List Nat) (tips : List (Option Tip)) (fr : List Row → List Row) (e : UEnv) (h : UHeap) (d : dens (pcs vs cs)) : UEnv × UHeap :=
  let us := injL m tips.length (pcs vs cs) d
  (setVars vs us (clear c e), ⟨fr (setCells cs (us.drop vs.length) h.objs), tips ++ toksL (pcs vs cs) d⟩)
def ids (h : UHeap) : List Nat := List.range h.objs.length

/-! ### Loops -/
inductive Rnd (σ ρ : Type) where
  | next (s : σ) | out (s : σ) | ret (r : ρ)
def iterN {σ ρ : Type} (f : σ → Option (Rnd σ ρ)) : Nat → σ → Option (σ ⊕ ρ)
  | 0, _ => none
  | n + 1, st => match f st with
    | some (.next st) => iterN f n st
    | some (.out st) => some (.inl st)
    | some (.ret r) => some (.inr r)
    | none => none
open Classical in
def loop {σ ρ : Type} (f : σ → Option (Rnd σ ρ)) (st : σ) : Option (σ ⊕ ρ) :=
  if h : ∃ n r, iterN f n st = some r then some (Classical.choose (Classical.choose_spec h)) else none

/-! ### Code -/
structure Cuts where
  loops : List (Nat × Cut)
  regs : List (Nat × Cut)
  conds : List (Nat × Cut)
abbrev CodeU := UEnv → UHeap → Tree (Ex × UEnv × UHeap)
/-- A piece of code whose outcome is told by the places alone. -/
def joinU (c : Code) (C : Cut) (f : CodeU) : CodeU := fun e h =>
  if cellsFree h C.cells && sameCells C.cells C.retc then
    .two ((forceH ⟨freeze C.cells h.objs, dead h.tips⟩ fun h => f e h).run fun o => match o.1 with
        | .normal => (exL (ids h) o.2.2.tips (pcs C.vars C.cells) (gather C.vars C.cells o.2.1 o.2.2)).map fun r => Sum.inl r.1
        | .ret => (exL (ids h) o.2.2.tips (pcs C.retv C.retc) (gather C.retv C.retc o.2.1 o.2.2)).map fun r => Sum.inr r.1
        | .exit _ => none)
      (fun d => .leaf (.normal, scatter c C.vars C.cells (ids h) h.tips (fun x => x) e h d))
      (fun d => .leaf (.ret, scatter c C.retv C.retc (ids h) h.tips (fun x => x) e h d))
  else .fail
def cutU (c : Code) (id : Nat) (C : Cut) (f : CodeU) : CodeU := fun e h =>
  if cellsFree h C.cells && sameCells C.cells C.retc then
    match exL (ids h) h.tips (pcs C.vars C.cells) (gather C.vars C.cells e h) with
    | none => .fail
    | some (d, tips) =>
      .two (loop (fun d =>
          let s := scatter c C.vars C.cells (ids h) (dead tips) (freeze C.cells) e h d
          (forceE s.1 fun e => forceH s.2 fun h => f e h).run fun o => match o.1 with
            | .normal => (exL (ids h) o.2.2.tips (pcs C.vars C.cells) (gather C.vars C.cells o.2.1 o.2.2)).map fun r => Rnd.next r.1
            | .exit i => if i = id then (exL (ids h) o.2.2.tips (pcs C.vars C.cells) (gather C.vars C.cells o.2.1 o.2.2)).map fun r => Rnd.out r.1 else none
            | .ret => (exL (ids h) o.2.2.tips (pcs C.retv C.retc) (gather C.retv C.retc o.2.1 o.2.2)).map fun r => Rnd.ret r.1) d)
        (fun d => .leaf (.normal, scatter c C.vars C.cells (TV.ids h) tips (fun x => x) e h d))
        (fun d => .leaf (.ret, scatter c C.retv C.retc (TV.ids h) tips (fun x => x) e h d))
  else .fail
def loopU (f : CodeU) : Nat → CodeU
  | 0, _, _ => .fail
  | n + 1, e, h => (f e h).bind fun o => match o.1 with
    | .normal => forceE o.2.1 fun e => forceH o.2.2 fun h => loopU f n e h
    | _ => .leaf o
def condKey : Operand → Option Nat
  | .tmp t => some t
  | _ => none
def condU (e : UEnv) (c : Operand) (a b : Tree (Ex × UEnv × UHeap)) : Tree (Ex × UEnv × UHeap) := match evU e c with
  | .bool x => .ite x a b
  | _ => .fail
/-- Behind this piece all lies open. -/
def openC (C : Cuts) : Code → Bool
  | .region id _ _ => (C.regs.lookup id).isNone
  | .skip => true
  | _ => false
def codeU (call : CallU) (C : Cuts) (fuel : Nat) : Code → CodeU
  | .skip, e, h => .leaf (.normal, e, h)
  | .seq a b, e, h => (codeU call C fuel a e h).bind fun o => match o.1 with
    | .normal => goU (openC C a) o.2 fun e h => codeU call C fuel b e h
    | _ => .leaf o
  | .cond c a b, e, h => match (condKey c).bind fun t => C.conds.lookup t with
    | some K => joinU (.cond c a b) K (fun e h => condU e c (codeU call C fuel a e h) (codeU call C fuel b e h)) e h
    | none => condU e c (codeU call C fuel a e h) (codeU call C fuel b e h)
  | .block id (.loop a), e, h => match C.loops.lookup id with
    | some K => cutU (.loop a) id K (codeU call C fuel a) e h
    | none => (loopU (codeU call C fuel a) fuel e h).bind fun o => match o.1 with
      | .exit i => if i = id then .leaf (.normal, o.2.1, o.2.2) else .leaf o
      | _ => .leaf o
  | .block id a, e, h => (codeU call C fuel a e h).bind fun o => match o.1 with
    | .exit i => if i = id then .leaf (.normal, o.2.1, o.2.2) else .leaf o
    | _ => .leaf o
  | .loop a, e, h => loopU (codeU call C fuel a) fuel e h
  | .exit id, e, h => .leaf (.exit id, e, h)
  | .ret, e, h => .leaf (.ret, e, h)
  | .region id ops draw, e, h =>
    let f : CodeU := fun e h => (if draw then (if regionOk ops.toList then drawU P call ops.toList ops.toList 0 e h [] [] else .fail) else opsU P call ops.toList ops.toList e h).bind fun r => .leaf (.normal, r.1, r.2)
    match C.regs.lookup id with
    | some K => joinU (.region id ops draw) K f e h
    | none => f e h
  | _, _, _ => .fail

/-! ### Functions -/
/-- A cell of a row that is handed over: not looked at; read; changed. -/
inductive RC where
  | ign | ro (p : PC) | rw (p q : PC)
def RC.inP : RC → PC
  | .ign => .ign
  | .ro p => p
  | .rw p _ => p
def RC.frozen : RC → Bool
  | .rw _ _ => false
  | _ => true
/-- Where a row is found: a value of the list; a cell of a row. -/
inductive Path where
  | val (i : Nat) | cell (k off : Nat)
structure Sig where
  ins : List PC
  rows : List (List RC × TypeId)
  from' : List Path
  outs : List PC
  news : List (List PC × TypeId)
  newFrom : List Path
def Sig.inP (g : Sig) : List PC := g.ins ++ g.rows.flatMap fun r => r.1.map RC.inP
/-- The cells that are changed, by their places. -/
def rwGo : Nat → Nat → List RC → List (Nat × Nat × PC)
  | _, _, [] => []
  | k, off, .rw _ q :: l => (k, off, q) :: rwGo k (off + 1) l
  | k, off, _ :: l => rwGo k (off + 1) l
def rwRows : Nat → List (List RC × TypeId) → List (Nat × Nat × PC)
  | _, [] => []
  | k, r :: l => rwGo k 0 r.1 ++ rwRows (k + 1) l
def Sig.rw (g : Sig) : List (Nat × Nat × PC) := rwRows 0 g.rows
def Sig.outP (g : Sig) : List PC := g.outs ++ g.rw.map (·.2.2) ++ g.news.flatMap (·.1)
/-- Rows out of a list of cells. -/
def rowsOf : List (List RC × TypeId) → List UV → List Row
  | [], _ => []
  | r :: l, us => ⟨us.take r.1.length, r.2, r.1.map RC.frozen⟩ :: rowsOf l (us.drop r.1.length)
def Sig.start (g : Sig) (d : dens g.inP) : List UV × UHeap :=
  let us := injL (List.range g.rows.length) 0 g.inP d
  (us.take g.ins.length, ⟨rowsOf g.rows (us.drop g.ins.length), toksL g.inP d⟩)
/-- The rows' numbers, as they are found. -/
def findRows (vals : List UV) (h : UHeap) : List Path → List Nat → Option (List Nat)
  | [], m => some m
  | p :: ps, m => match (match p with
      | .val i => vals.getD i .junk
      | .cell k off => match m[k]? with
        | some K => cellAt h K off
        | none => .junk) with
    | .ptr K 0 => if m.contains K then none else findRows vals h ps (m ++ [K])
    | _ => none
def valsOf (v : UV) (n : Nat) : List UV := if n = 1 then [v] else match v with
  | .tup vs => vs
  | _ => []
def rowCs (h : UHeap) (k : Nat) : List UV := match h.objs[k]? with
  | some r => r.cs
  | none => []
def rowTy (h : UHeap) (k : Nat) : Option TypeId := (h.objs[k]?).map (·.ty)
def resultsU (h : UHeap) (e : UEnv) : List ResultVar → Option (List UV)
  | [] => some []
  | .tmp t :: l => match resultsU h e l with
    | some r => some (e.at t :: r)
    | none => none
  | .cell a t :: l => match loadU P h t (e.at a), resultsU h e l with
    | some v, some r => some (v :: r)
    | _, _ => none
/-- What a function answers. -/
def fnU (call : CallU) (C : Cuts) (fuel : Nat) (g : Sig) (fn : Func) (c : Code) (d : dens g.inP) : Option (dens g.outP) :=
  (forceE ((g.start d).1 ++ List.replicate (fn.ntmps - (g.start d).1.length) undefU) fun e => forceH (g.start d).2 fun h => codeU P call C fuel c e h).run fun o => match o.1 with
    | .exit _ => none
    | _ => match resultsU P o.2.2 o.2.1 fn.results.toList with
      | some vs => if vs.length = g.outs.length ∧ g.newFrom.length = g.news.length then
          (match findRows (vs ++ g.rw.map fun p => cellAt o.2.2 p.1 p.2.1) o.2.2 g.newFrom (List.range g.rows.length) with
          | some m => if (m.drop g.rows.length).zip g.news |>.all fun p => rowTy o.2.2 p.1 == some p.2.2 && (rowCs o.2.2 p.1).length == p.2.1.length then
              (exL m o.2.2.tips g.outP (vs ++ (g.rw.map fun p => cellAt o.2.2 p.1 p.2.1) ++ (m.drop g.rows.length).flatMap (rowCs o.2.2))).map (·.1) else none
          | none => none) else none
      | none => none
/-- A call of a function that is told so. -/
def callOf (g : Sig) (f : dens g.inP → Option (dens g.outP)) (args : List UV) (h : UHeap) : Tree (UV × UHeap × List Nat) :=
  match findRows args h g.from' [] with
  | none => .fail
  | some m =>
    if args.length = g.ins.length && m.length == g.rows.length && ((m.zip g.rows).all fun p => rowTy h p.1 == some p.2.2 && (rowCs h p.1).length == p.2.1.length) && cellsFree h (g.rw.map fun p => (m.getD p.1 0, p.2)) then
      match exL m h.tips g.inP (args ++ m.flatMap (rowCs h)) with
      | none => .fail
      | some (d, tips) => .opt (f d) fun r =>
        let m' := m ++ (List.range g.news.length).map (h.objs.length + ·)
        let us := injL m' tips.length g.outP r
        .leaf (if g.outs.length = 1 then us.headD .junk else .tup (us.take g.outs.length),
          ⟨setCells (g.rw.map fun p => (m.getD p.1 0, p.2)) (us.drop g.outs.length) h.objs ++ (rowsOf (g.news.map fun r => (r.1.map fun p => .rw p p, r.2)) (us.drop (g.outs.length + g.rw.length))), tips ++ toksL g.outP r⟩,
          (g.rw.map fun p => m.getD p.1 0))
    else .fail
end
end Go.Proofs.YthnhbejjikgifaaGreatDoor.TV

/-
  DX: how shapes stand to plain values.
  DX: what is read of shapes is what is read of plain values.
  DX: what is read of shapes is what is read of plain values: the operations.
  DX: what is read of shapes is what is read of plain values: places, comparisons, numbers, texts.
-/
namespace Go.Proofs.YthnhbejjikgifaaGreatDoor.TV
open Go Go.RowKit
set_option linter.unusedSimpArgs false
set_option linter.unusedVariables false

/-! ### Cases -/
namespace Tree
variable {α β : Type}
def Has : Tree α → α → Prop
  | .fail, _ => False
  | .leaf b, a => b = a
  | .ite b t e, a => (b = true ∧ t.Has a) ∨ (b = false ∧ e.Has a)
  | .opt x k, a => ∃ y, x = some y ∧ (k y).Has a
  | .two x k k', a => (∃ y, x = some (.inl y) ∧ (k y).Has a) ∨ ∃ y, x = some (.inr y) ∧ (k' y).Has a
theorem run_fail (f : α → Option β) : (Tree.fail : Tree α).run f = none := rfl
theorem run_leaf (a : α) (f : α → Option β) : (Tree.leaf a).run f = f a := rfl
theorem run_ite (b : Bool) (t e : Tree α) (f : α → Option β) : (Tree.ite b t e).run f = bif b then t.run f else e.run f := rfl
theorem run_opt {γ : Type} (x : Option γ) (k : γ → Tree α) (f : α → Option β) : (Tree.opt x k).run f = x.bind fun y => (k y).run f := rfl
theorem run_two {γ δ : Type} (x : Option (γ ⊕ δ)) (k : γ → Tree α) (k' : δ → Tree α) (f : α → Option β) : (Tree.two x k k').run f = TV.two x (fun y => (k y).run f) (fun y => (k' y).run f) := rfl
theorem bind_fail (f : α → Tree β) : (Tree.fail : Tree α).bind f = .fail := rfl
theorem bind_leaf (a : α) (f : α → Tree β) : (Tree.leaf a).bind f = f a := rfl
theorem bind_ite (b : Bool) (t e : Tree α) (f : α → Tree β) : (Tree.ite b t e).bind f = .ite b (t.bind f) (e.bind f) := rfl
theorem bind_opt {γ : Type} (x : Option γ) (k : γ → Tree α) (f : α → Tree β) : (Tree.opt x k).bind f = .opt x fun y => (k y).bind f := rfl
theorem bind_two {γ δ : Type} (x : Option (γ ⊕ δ)) (k : γ → Tree α) (k' : δ → Tree α) (f : α → Tree β) : (Tree.two x k k').bind f = .two x (fun y => (k y).bind f) (fun y => (k' y).bind f) := rfl
theorem run_has : ∀ (t : Tree α) (f : α → Option β) (r : β), t.run f = some r ↔ ∃ a, t.Has a ∧ f a = some r
  | .fail, f, r => by simp [run_fail, run_leaf, run_ite, Has]
  | .leaf a, f, r => by simp [run_fail, run_leaf, run_ite, Has]
  | .ite b t e, f, r => by cases b <;> simp [run_fail, run_leaf, run_ite, Has, run_has t, run_has e]
  | .opt x k, f, r => by
    simp only [run_opt, run_two, Has]
    constructor
    · intro h
      obtain ⟨y, h1, h2⟩ := Option.bind_eq_some_iff.1 h
      obtain ⟨a, h3, h4⟩ := (run_has (k y) f r).1 h2
      exact ⟨a, ⟨y, h1, h3⟩, h4⟩
    · rintro ⟨a, ⟨y, h1, h2⟩, h3⟩
      rw [h1]
      exact (run_has (k y) f r).2 ⟨a, h2, h3⟩
  | .two x k k', f, r => by
    simp only [run_opt, run_two, Has]
    cases x with
    | none => simp [TV.two]
    | some y => cases y with
      | inl b => simp [TV.two, run_has (k b) f r]
      | inr b => simp [TV.two, run_has (k' b) f r]
theorem has_bind : ∀ (t : Tree α) (f : α → Tree β) (b : β), (t.bind f).Has b ↔ ∃ a, t.Has a ∧ (f a).Has b
  | .fail, f, r => by simp [bind_fail, bind_leaf, bind_ite, Has]
  | .leaf a, f, r => by simp [bind_fail, bind_leaf, bind_ite, Has]
  | .ite b t e, f, r => by cases b <;> simp [bind_fail, bind_leaf, bind_ite, Has, has_bind t, has_bind e]
  | .opt x k, f, r => by
    simp only [bind_opt, bind_two, Has]
    constructor
    · rintro ⟨y, h1, h2⟩
      obtain ⟨a, h3, h4⟩ := (has_bind (k y) f r).1 h2
      exact ⟨a, ⟨y, h1, h3⟩, h4⟩
    · rintro ⟨a, ⟨y, h1, h2⟩, h3⟩
      exact ⟨y, h1, (has_bind (k y) f r).2 ⟨a, h2, h3⟩⟩
  | .two x k k', f, r => by
    simp only [bind_opt, bind_two, Has]
    cases x with
    | none => simp
    | some y => cases y with
      | inl b => simp [has_bind (k b) f r]
      | inr b => simp [has_bind (k' b) f r]
theorem has_ofOpt {x : Option α} {a : α} : (ofOpt x).Has a ↔ x = some a := by
  cases x <;> simp [ofOpt, Has]
end Tree

/-! ### Laying open changes nothing -/
section
universe u
variable {ρ : Sort u}
@[simp] theorem forceN_eq (n : Nat) (k : Nat → ρ) : forceN n k = k n := by cases n <;> rfl
@[simp] theorem forceL_eq {α : Type} : ∀ (l : List α) (k : List α → ρ), forceL l k = k l
  | [], k => rfl
  | x :: l, k => (forceL_eq l fun l => k (x :: l) :)
@[simp] theorem forceU_eq (v : UV) (k : UV → ρ) : forceU v k = k v := by
  cases v with
  | ptr o off =>
    show forceN o (fun o => forceN off fun off => k (.ptr o off)) = _
    simp
  | oref j =>
    show forceN j (fun j => k (.oref j)) = _
    simp
  | lptr j sz i off =>
    show forceN j (fun j => forceN sz fun sz => forceN off fun off => k (.lptr j sz i off)) = _
    simp
  | eptr cs => exact forceL_eq cs fun cs => k (.eptr cs)
  | agg cs => exact forceL_eq cs fun cs => k (.agg cs)
  | tup cs => exact forceL_eq cs fun cs => k (.tup cs)
  | lslice b es tok => exact forceL_eq es fun es => k (.lslice b es tok)
  | _ => rfl
@[simp] theorem forceE_eq : ∀ (l : List UV) (k : List UV → ρ), forceE l k = k l
  | [], k => rfl
  | x :: l, k => by
    show forceU x (fun x => forceE l fun l => k (x :: l)) = _
    rw [forceU_eq, forceE_eq l]
@[simp] theorem forceR_eq : ∀ (l : List Row) (k : List Row → ρ), forceR l k = k l
  | [], k => rfl
  | ⟨cs, ty, fz⟩ :: l, k => by
    show forceE cs (fun cs => forceL fz fun fz => forceR l fun l => k (⟨cs, ty, fz⟩ :: l)) = _
    rw [forceE_eq, forceL_eq, forceR_eq l]
@[simp] theorem forceH_eq (h : UHeap) (k : UHeap → ρ) : forceH h k = k h := by
  obtain ⟨a, b⟩ := h
  simp [forceH]
@[simp] theorem setKU_eq : ∀ (l : List UV) (n : Nat) (v : UV) (k : List UV → ρ), setKU l n v k = k (l.set n v)
  | [], n, v, k => by
    show k [] = _
    simp
  | x :: l, 0, v, k => by
    show forceU v (fun v => k (v :: l)) = _
    rw [forceU_eq]
    rfl
  | x :: l, n + 1, v, k => by
    show setKU l n v (fun l => k (x :: l)) = _
    rw [setKU_eq l]
    rfl
end
@[simp] theorem openU_eq {ρ : Type 1} (rd : Bool) (r : UV × UHeap × List Nat) (k : UV → UHeap → List Nat → ρ) : openU rd r k = k r.1 r.2.1 r.2.2 := by
  obtain ⟨v, h, w⟩ := r
  cases rd <;> simp [openU]
@[simp] theorem goU_eq {ρ : Type 1} (p : Bool) (r : UEnv × UHeap) (k : UEnv → UHeap → ρ) : goU p r k = k r.1 r.2 := by
  obtain ⟨e, h⟩ := r
  cases p <;> simp [goU]
@[simp] theorem putKU_eq {ρ : Type 1} (dst : Option Tmp) (v : UV) (e : UEnv) (k : UEnv → ρ) : putKU dst v e k = k (putU dst v e) := by
  cases dst <;> simp [putKU, putU]

/-! ### The relation -/
def All2 {α β : Type} (R : α → β → Prop) : List α → List β → Prop
  | [], [] => True
  | a :: l, b :: m => R a b ∧ All2 R l m
  | _, _ => False
namespace All2
variable {α β : Type} {R : α → β → Prop}
theorem length : ∀ {l : List α} {m : List β}, All2 R l m → l.length = m.length
  | [], [], _ => rfl
  | a :: l, b :: m, h => by simp [length h.2]
  | [], _ :: _, h => h.elim
  | _ :: _, [], h => h.elim
theorem append : ∀ {l l' : List α} {m m' : List β}, All2 R l m → All2 R l' m' → All2 R (l ++ l') (m ++ m')
  | [], l', [], m', _, h => h
  | a :: l, l', b :: m, m', h, h' => ⟨h.1, append h.2 h'⟩
  | [], _, _ :: _, _, h, _ => h.elim
  | _ :: _, _, [], _, h, _ => h.elim
theorem take : ∀ (n : Nat) {l : List α} {m : List β}, All2 R l m → All2 R (l.take n) (m.take n)
  | 0, _, _, _ => by simp [All2]
  | n + 1, [], [], _ => by simp [All2]
  | n + 1, a :: l, b :: m, h => ⟨h.1, take n h.2⟩
  | _ + 1, [], _ :: _, h => h.elim
  | _ + 1, _ :: _, [], h => h.elim
theorem drop : ∀ (n : Nat) {l : List α} {m : List β}, All2 R l m → All2 R (l.drop n) (m.drop n)
  | 0, _, _, h => h
  | n + 1, [], [], _ => by simp [All2]
  | n + 1, a :: l, b :: m, h => drop n h.2
  | _ + 1, [], _ :: _, h => h.elim
  | _ + 1, _ :: _, [], h => h.elim
theorem get : ∀ {l : List α} {m : List β} {n : Nat} {a : α}, All2 R l m → l[n]? = some a → ∃ b, m[n]? = some b ∧ R a b
  | [], [], n, a, _, h => by simp at h
  | x :: l, y :: m, 0, a, h, e => by simp at e; subst e; exact ⟨y, by simp, h.1⟩
  | x :: l, y :: m, n + 1, a, h, e => by
    obtain ⟨b, h1, h2⟩ := get h.2 (by simpa using e)
    exact ⟨b, by simpa using h1, h2⟩
  | [], _ :: _, _, _, h, _ => h.elim
  | _ :: _, [], _, _, h, _ => h.elim
theorem mem {l : List α} {m : List β} {b : β} (h : All2 R l m) (hb : b ∈ m) : ∃ a, R a b := by
  induction l generalizing m with
  | nil => cases m with
    | nil => cases hb
    | cons _ _ => exact h.elim
  | cons x l ih => cases m with
    | nil => exact h.elim
    | cons y m =>
      rcases List.mem_cons.1 hb with rfl | hb
      · exact ⟨x, h.1⟩
      · exact ih h.2 hb
theorem map {γ : Type} {f : γ → α} {g : γ → β} : ∀ {l : List γ}, (∀ x ∈ l, R (f x) (g x)) → All2 R (l.map f) (l.map g)
  | [], _ => trivial
  | x :: l, h => ⟨h x (by simp), map fun y hy => h y (by simp [hy])⟩
end All2

def isAggV : TV → Bool
  | .agg _ => true
  | _ => false
def CellsR : (t : Ty) → t.den → List TV → Prop
  | .int k, n, cs => cs = [.int k n]
  | .bool, b, cs => cs = [.bool b]
  | .str, s, cs => cs = [.str s]
  | .slice t, l, cs => ∃ b es tok, cs = [.slice b es tok] ∧ All2 (fun x e => isAggV e = t.isAgg ∧ CellsR t x e.cells) l es
  | .nil, _, cs => cs = []
  | .cons a b, x, cs => ∃ c1 c2, cs = c1 ++ c2 ∧ CellsR a x.1 c1 ∧ CellsR b x.2 c2
def ElR (t : Ty) (x : t.den) (e : TV) : Prop := isAggV e = t.isAgg ∧ CellsR t x e.cells

theorem CellsR.length : ∀ {t : Ty} {x : t.den} {cs : List TV}, CellsR t x cs → cs.length = t.size
  | .int k, n, cs, h => by rw [show cs = _ from h]; rfl
  | .bool, b, cs, h => by rw [show cs = _ from h]; rfl
  | .str, s, cs, h => by rw [show cs = _ from h]; rfl
  | .slice t, l, cs, h => by obtain ⟨b, es, tok, rfl, _⟩ := h; rfl
  | .nil, _, cs, h => by rw [show cs = _ from h]; rfl
  | .cons a b, x, cs, h => by
    obtain ⟨c1, c2, rfl, h1, h2⟩ := h
    simp [Ty.size, CellsR.length h1, CellsR.length h2]
theorem CellsR.fine : ∀ {t : Ty} {x : t.den} {cs : List TV}, CellsR t x cs → cs.all cellOk = true
  | .int k, n, cs, h => by rw [show cs = _ from h]; rfl
  | .bool, b, cs, h => by rw [show cs = _ from h]; rfl
  | .str, s, cs, h => by rw [show cs = _ from h]; rfl
  | .slice t, l, cs, h => by obtain ⟨b, es, tok, rfl, _⟩ := h; rfl
  | .nil, _, cs, h => by rw [show cs = _ from h]; rfl
  | .cons a b, x, cs, h => by
    obtain ⟨c1, c2, rfl, h1, h2⟩ := h
    simp [List.all_append, CellsR.fine h1, CellsR.fine h2]

/-- What a token stands for: a slice's token, and how many elements it has; something that is owned; a list that is nil. -/
inductive TK where
  | tok (t : Tok) (n : Nat) | mp (o : Nat) | ls (o n : Nat) | nl
/-- Which object stands for a row, which token and how many elements for a slice that may grow. -/
structure Val where
  ids : List Nat
  tks : List TK
def TokR (V : Val) : UTok → Nat → Tok → Prop
  | .no, _, _ => True
  | .ex, _, t => t = .exact
  | .gr j, n, t => V.tks[j]? = some (.tok t n) ∧ t ≠ .unk

mutual
inductive URel (V : Val) : UV → TV → Prop where
  | junk (v : TV) : URel V .junk v
  | bool (b : Bool) : URel V (.bool b) (.bool b)
  | int (k : IntKind) (n : Int) : URel V (.int k n) (.int k n)
  | str (s : List UInt8) : URel V (.str s) (.str s)
  | nilp : URel V .nilp .nilp
  | oref (j o : Nat) : V.tks[j]? = some (.mp o) → URel V (.oref j) (.map (some o))
  | ols (j o n : Nat) : V.tks[j]? = some (.ls o n) → URel V (.oref j) (.gsl o n)
  | onl (j : Nat) : V.tks[j]? = some .nl → URel V (.oref j) (.slice true [] .exact)
  | lptr (j sz o n : Nat) (i : Int) (off : Nat) : V.tks[j]? = some (.ls o n) → 0 ≤ i → URel V (.lptr j sz i off) (.ptr o (i.toNat * sz + off))
  | nilm : URel V .nilm (.map none)
  | ptr (k off o : Nat) : V.ids[k]? = some o → URel V (.ptr k off) (.ptr o off)
  | eptr (us : List UV) (vs : List TV) : URels V us vs → URel V (.eptr us) (.eptr vs)
  | slice (t : Ty) (b : Option Bool) (b' : Bool) (l : List t.den) (es : List TV) (tok : UTok) (tok' : Tok) : (∀ x, b = some x → b' = x) → All2 (ElR t) l es → TokR V tok l.length tok' → URel V (.slice t b l tok) (.slice b' es tok')
  | lslice (b : Bool) (us : List UV) (es : List TV) (tok : UTok) (tok' : Tok) : URels V us es → TokR V tok us.length tok' → URel V (.lslice b us tok) (.slice b es tok')
  | fn (f : Fn) (a c : List UV) (a' c' : List TV) : URels V a a' → URels V c c' → URel V (.fn f a c) (.fn f a' c')
  | nilfn : URel V .nilfn .nilfn
  | niliface : URel V .niliface .niliface
  | iface (t : TypeId) (u : UV) (v : TV) : URel V u v → URel V (.iface t u) (.iface t v)
  | agg (us : List UV) (vs : List TV) : URels V us vs → URel V (.agg us) (.agg vs)
  | tup (us : List UV) (vs : List TV) : URels V us vs → URel V (.tup us) (.tup vs)
inductive URels (V : Val) : List UV → List TV → Prop where
  | nil : URels V [] []
  | cons (u : UV) (v : TV) (us : List UV) (vs : List TV) : URel V u v → URels V us vs → URels V (u :: us) (v :: vs)
end

structure Val.le (V V' : Val) : Prop where
  ids : V.ids <+: V'.ids
  tks : V.tks <+: V'.tks
theorem Val.le.refl (V : Val) : V.le V := ⟨List.prefix_rfl, List.prefix_rfl⟩
theorem Val.le.trans {a b c : Val} (h : a.le b) (k : b.le c) : a.le c := ⟨h.ids.trans k.ids, h.tks.trans k.tks⟩
theorem prefix_get {α : Type} {l m : List α} (h : l <+: m) {n : Nat} {a : α} (e : l[n]? = some a) : m[n]? = some a := by
  obtain ⟨t, rfl⟩ := h
  have hlt := (List.getElem?_eq_some_iff.1 e).1
  rw [List.getElem?_append_left hlt]
  exact e
theorem TokR.mono {V V' : Val} (h : V.le V') : ∀ {tok : UTok} {n : Nat} {t : Tok}, TokR V tok n t → TokR V' tok n t
  | .no, _, _, k => k
  | .ex, _, _, k => k
  | .gr j, _, _, k => ⟨prefix_get h.tks k.1, k.2⟩
mutual
theorem URel.mono {V V' : Val} (h : V.le V') : ∀ {u : UV} {v : TV}, URel V u v → URel V' u v
  | _, _, .junk v => .junk v
  | _, _, .bool b => .bool b
  | _, _, .int k n => .int k n
  | _, _, .str s => .str s
  | _, _, .nilp => .nilp
  | _, _, .oref j o e => .oref j o (prefix_get h.tks e)
  | _, _, .ols j o n e => .ols j o n (prefix_get h.tks e)
  | _, _, .onl j e => .onl j (prefix_get h.tks e)
  | _, _, .lptr j sz o n i off e c => .lptr j sz o n i off (prefix_get h.tks e) c
  | _, _, .nilm => .nilm
  | _, _, .ptr k off o e => .ptr k off o (prefix_get h.ids e)
  | _, _, .eptr us vs r => .eptr us vs (URels.mono h r)
  | _, _, .slice t b b' l es tok tok' h1 h2 h3 => .slice t b b' l es tok tok' h1 h2 (h3.mono h)
  | _, _, .lslice b us es tok tok' h1 h2 => .lslice b us es tok tok' (URels.mono h h1) (h2.mono h)
  | _, _, .fn f a c a' c' h1 h2 => .fn f a c a' c' (URels.mono h h1) (URels.mono h h2)
  | _, _, .nilfn => .nilfn
  | _, _, .niliface => .niliface
  | _, _, .iface t u v r => .iface t u v (URel.mono h r)
  | _, _, .agg us vs r => .agg us vs (URels.mono h r)
  | _, _, .tup us vs r => .tup us vs (URels.mono h r)
theorem URels.mono {V V' : Val} (h : V.le V') : ∀ {us : List UV} {vs : List TV}, URels V us vs → URels V' us vs
  | _, _, .nil => .nil
  | _, _, .cons u v us vs r rs => .cons u v us vs (URel.mono h r) (URels.mono h rs)
end

theorem UEnv.at_eq : ∀ (e : UEnv) (t : Nat), e.at t = e.getD t .junk
  | [], t => rfl
  | x :: e, 0 => rfl
  | x :: e, t + 1 => by
    show UEnv.at e t = _
    rw [UEnv.at_eq e t]
    simp
namespace URels
variable {V : Val}
theorem length {us : List UV} {vs : List TV} (h : URels V us vs) : us.length = vs.length := by
  induction us generalizing vs with
  | nil => cases h; rfl
  | cons u us ih => cases h with | cons _ _ _ _ r rs => simp [ih rs]
theorem append {us us' : List UV} {vs vs' : List TV} (h : URels V us vs) (h' : URels V us' vs') : URels V (us ++ us') (vs ++ vs') := by
  induction us generalizing vs with
  | nil => cases h; exact h'
  | cons u us ih => cases h with | cons _ _ _ _ r rs => exact .cons _ _ _ _ r (ih rs)
theorem take {us : List UV} {vs : List TV} (n : Nat) (h : URels V us vs) : URels V (us.take n) (vs.take n) := by
  induction n generalizing us vs with
  | zero => simp only [List.take_zero]; exact .nil
  | succ n ih => cases h with
    | nil => exact .nil
    | cons _ _ _ _ r rs => exact .cons _ _ _ _ r (ih rs)
theorem drop {us : List UV} {vs : List TV} (n : Nat) (h : URels V us vs) : URels V (us.drop n) (vs.drop n) := by
  induction n generalizing us vs with
  | zero => exact h
  | succ n ih => cases h with
    | nil => exact .nil
    | cons _ _ _ _ r rs => exact ih rs
theorem get {us : List UV} {vs : List TV} {n : Nat} {u : UV} (h : URels V us vs) (e : us[n]? = some u) : ∃ v, vs[n]? = some v ∧ URel V u v := by
  induction us generalizing vs n with
  | nil => simp at e
  | cons x us ih => cases h with
    | cons _ y _ vs r rs => cases n with
      | zero => simp at e; subst e; exact ⟨y, by simp, r⟩
      | succ n =>
        obtain ⟨v, h1, h2⟩ := ih rs (by simpa using e)
        exact ⟨v, by simpa using h1, h2⟩
theorem getD {us : List UV} {vs : List TV} (h : URels V us vs) (n : Nat) (d : TV) : URel V (us.getD n .junk) (vs.getD n d) := by
  cases e : us[n]? with
  | none => rw [List.getD_eq_getElem?_getD, e]; exact .junk _
  | some u =>
    obtain ⟨v, h1, h2⟩ := h.get e
    rw [List.getD_eq_getElem?_getD, List.getD_eq_getElem?_getD, e, h1]
    exact h2
theorem at_ {us : List UV} {vs : List TV} (h : URels V us vs) (n : Nat) : URel V (UEnv.at us n) (Env.at vs n) := by
  rw [UEnv.at_eq, Env.at_eq]
  exact h.getD n _
theorem set {us : List UV} {vs : List TV} (h : URels V us vs) (n : Nat) {u : UV} {v : TV} (r : URel V u v) : URels V (us.set n u) (vs.set n v) := by
  induction us generalizing vs n with
  | nil => cases h; exact .nil
  | cons x us ih => cases h with
    | cons _ y _ vs r' rs => cases n with
      | zero => exact .cons _ _ _ _ r rs
      | succ n => exact .cons _ _ _ _ r' (ih rs n)
theorem head {us : List UV} {vs : List TV} {u : UV} (h : URels V us vs) (e : us.head? = some u) : ∃ v, vs.head? = some v ∧ URel V u v := by
  cases h with
  | nil => cases e
  | cons x y _ _ r rs => cases e; exact ⟨y, rfl, r⟩
theorem replicate {u : UV} {v : TV} (n : Nat) (r : URel V u v) : URels V (List.replicate n u) (List.replicate n v) := by
  induction n with
  | zero => exact .nil
  | succ n ih => exact .cons _ _ _ _ r ih
theorem map {α : Type} {f : α → UV} {g : α → TV} {l : List α} (h : ∀ x ∈ l, URel V (f x) (g x)) : URels V (l.map f) (l.map g) := by
  induction l with
  | nil => exact .nil
  | cons x l ih => exact .cons _ _ _ _ (h x (by simp)) (ih fun y hy => h y (by simp [hy]))
theorem allOk {us : List UV} {vs : List TV} (h : URels V us vs) (e : us.all cellOkU = true) : vs.all cellOk = true := by
  induction us generalizing vs with
  | nil => cases h; rfl
  | cons x us ih => cases h with
    | cons _ y _ vs r rs =>
      simp only [List.all_cons, Bool.and_eq_true] at e ⊢
      refine ⟨?_, ih rs e.2⟩
      cases r <;> first | rfl | exact absurd e.1 (by simp [cellOkU])
end URels
theorem URel.cells {V : Val} {u : UV} {v : TV} (r : URel V u v) (h : isJunkU u = false) : URels V u.cells v.cells := by
  cases r with
  | junk v => simp [isJunkU] at h
  | agg us vs rs => exact rs
  | bool b => exact .cons _ _ _ _ (.bool b) .nil
  | int k n => exact .cons _ _ _ _ (.int k n) .nil
  | str s => exact .cons _ _ _ _ (.str s) .nil
  | nilp => exact .cons _ _ _ _ .nilp .nil
  | oref j o e => exact .cons _ _ _ _ (.oref j o e) .nil
  | ols j o n e => exact .cons _ _ _ _ (.ols j o n e) .nil
  | onl j e => exact .cons _ _ _ _ (.onl j e) .nil
  | lptr j sz o n i off e c => exact .cons _ _ _ _ (.lptr j sz o n i off e c) .nil
  | nilm => exact .cons _ _ _ _ .nilm .nil
  | ptr k off o e => exact .cons _ _ _ _ (.ptr k off o e) .nil
  | eptr us vs rs => exact .cons _ _ _ _ (.eptr us vs rs) .nil
  | slice t b b' l es tok tok' h1 h2 h3 => exact .cons _ _ _ _ (.slice t b b' l es tok tok' h1 h2 h3) .nil
  | lslice b us es tok tok' h1 h2 => exact .cons _ _ _ _ (.lslice b us es tok tok' h1 h2) .nil
  | fn f a c a' c' h1 h2 => exact .cons _ _ _ _ (.fn f a c a' c' h1 h2) .nil
  | nilfn => exact .cons _ _ _ _ .nilfn .nil
  | niliface => exact .cons _ _ _ _ .niliface .nil
  | iface t u v r => exact .cons _ _ _ _ (.iface t u v r) .nil
  | tup us vs rs => exact .cons _ _ _ _ (.tup us vs rs) .nil
theorem notJunk_of_ok {u : UV} (h : u.cells.all cellOkU = true) : isJunkU u = false := by
  cases u <;> first | rfl | simp [UV.cells, cellOkU] at h
theorem URel.notJunk {V : Val} {u : UV} {v : TV} (r : URel V u v) (h : isJunkU u = false) : isJunk v = false := by
  cases r <;> first | rfl | simp [isJunkU] at h

mutual
theorem constU_rel (V : Val) : ∀ v : Value, URel V (constU v) (ofConst v)
  | v => by
    unfold constU ofConst
    split <;> first
      | exact .bool _
      | exact .int _ _
      | exact .str _
      | exact .nilp
      | exact .nilm
      | exact .lslice true [] [] .ex .exact .nil rfl
      | exact .nilfn
      | exact .niliface
      | exact .agg _ _ (constsU_rel V _)
      | exact .tup _ _ (constsU_rel V _)
      | exact .iface _ _ _ (constU_rel V _)
      | exact .junk _
theorem constsU_rel (V : Val) : ∀ l : List Value, URels V (constsU l) (ofConsts l)
  | [] => .nil
  | v :: l => .cons _ _ _ _ (constU_rel V v) (constsU_rel V l)
end
end Go.Proofs.YthnhbejjikgifaaGreatDoor.TV

namespace Go.Proofs.YthnhbejjikgifaaGreatDoor.TV
open Go Go.RowKit
set_option linter.unusedSimpArgs false
set_option linter.unusedVariables false

section
variable {V : Val}

/-! ### Elements -/
theorem cellsU_rel : ∀ {t : Ty} {x : t.den} {cs : List TV}, CellsR t x cs → URels V (cellsU t x) cs
  | .int k, n, cs, h => by rw [show cs = _ from h]; exact .cons _ _ _ _ (.int k n) .nil
  | .bool, b, cs, h => by rw [show cs = _ from h]; exact .cons _ _ _ _ (.bool b) .nil
  | .str, s, cs, h => by rw [show cs = _ from h]; exact .cons _ _ _ _ (.str s) .nil
  | .slice t, l, cs, h => by
    obtain ⟨b, es, tok, rfl, h1⟩ := h
    exact .cons _ _ _ _ (.slice t none b l es .no tok (fun x h => by cases h) h1 trivial) .nil
  | .nil, _, cs, h => by rw [show cs = _ from h]; exact .nil
  | .cons a b, x, cs, h => by
    obtain ⟨c1, c2, rfl, h1, h2⟩ := h
    exact (cellsU_rel h1).append (cellsU_rel h2)
theorem isAggV_cells {v : TV} (h : isAggV v = false) : v.cells = [v] := by cases v <;> first | rfl | simp [isAggV] at h
theorem isAggV_agg {v : TV} (h : isAggV v = true) : v = .agg v.cells := by cases v <;> first | rfl | simp [isAggV] at h
theorem elemU_rel {t : Ty} {x : t.den} {v : TV} (h : ElR t x v) : URel V (elemU t x) v := by
  obtain ⟨h1, h2⟩ := h
  have h3 := cellsU_rel (V := V) h2
  unfold elemU
  cases ha : t.isAgg with
  | true =>
    rw [ha] at h1
    rw [if_pos rfl, isAggV_agg h1]
    exact .agg _ _ h3
  | false =>
    rw [ha] at h1
    rw [if_neg (by simp)]
    rw [isAggV_cells h1] at h3
    cases h : cellsU t x with
    | nil => exact .junk _
    | cons u us => rw [h] at h3; cases h3 with | cons _ _ _ _ r _ => exact r
theorem castL_rel {t t' : Ty} (h : t' = t) {l : List t'.den} {es : List TV} (k : All2 (ElR t') l es) : All2 (ElR t) (castL h l) es := by
  subst h
  exact k
theorem castL_length {t t' : Ty} (h : t' = t) {l : List t'.den} : (castL h l).length = l.length := by
  subst h
  rfl
theorem decE_rel {t : Ty} (ih : ∀ {us : List UV} {vs : List TV} {x : t.den} {r : List UV}, decU t us = some (x, r) → URels V us vs → ∃ c1 c2, vs = c1 ++ c2 ∧ CellsR t x c1 ∧ URels V r c2)
    {u : UV} {v : TV} {x : t.den} (h : decE t.isAgg (decU t) u = some x) (r : URel V u v) : ElR t x v := by
  have key : ∀ us vs, decU t us = some (x, []) → URels V us vs → CellsR t x vs := by
    intro us vs h rs
    obtain ⟨c1, c2, rfl, h1, h2⟩ := ih h rs
    cases h2
    simpa using h1
  unfold decE at h
  split at h
  · split at h
    · rename_i ha
      cases r with
      | agg us vs rs =>
        split at h
        · rename_i e; cases h; exact ⟨by rw [ha]; rfl, key _ _ e rs⟩
        · cases h
    · cases h
  · rename_i hna
    split at h
    · cases h
    · rename_i ha
      have ha : t.isAgg = false := by simpa using ha
      have hc : CellsR t x [v] := by
        split at h
        · rename_i e; cases h; exact key _ _ e (URels.cons _ _ _ _ r .nil)
        · cases h
      have hv : isAggV v = false := by
        cases t with
        | int k => have := (show [v] = _ from hc); cases this; rfl
        | bool => have := (show [v] = _ from hc); cases this; rfl
        | str => have := (show [v] = _ from hc); cases this; rfl
        | slice t => obtain ⟨b, es, tok, h1, _⟩ := hc; cases h1; rfl
        | nil => cases ha
        | cons a b => cases ha
      exact ⟨by rw [hv, ha], by rw [isAggV_cells hv]; exact hc⟩
theorem decL_rel {α : Type} {R : α → TV → Prop} {f : UV → Option α} (hf : ∀ {u v x}, f u = some x → URel V u v → R x v) : ∀ {us : List UV} {vs : List TV} {l : List α}, decL f us = some l → URels V us vs → All2 R l vs
  | [], vs, l, h, r => by cases r; cases h; trivial
  | u :: us, vs, l, h, r => by
    cases r with
    | cons _ v _ vs r rs =>
      simp only [decL] at h
      split at h
      · rename_i x l' h1 h2
        cases h
        exact ⟨hf h1 r, decL_rel hf h2 rs⟩
      · cases h
theorem decU_rel : ∀ {t : Ty} {us : List UV} {vs : List TV} {x : t.den} {r : List UV}, decU t us = some (x, r) → URels V us vs → ∃ c1 c2, vs = c1 ++ c2 ∧ CellsR t x c1 ∧ URels V r c2 := by
  intro t
  induction t with
  | int k =>
    intro us vs x r h rs
    cases us with
    | nil => simp [decU] at h
    | cons u us => cases rs with
      | cons _ v _ vs r1 r2 =>
        cases u <;> try (simp [decU] at h; done)
        simp only [decU] at h
        split at h
        · rename_i e; cases h; cases r1; subst e; exact ⟨[_], _, rfl, rfl, r2⟩
        · cases h
  | bool =>
    intro us vs x r h rs
    cases us with
    | nil => simp [decU] at h
    | cons u us => cases rs with
      | cons _ v _ vs r1 r2 => cases u <;> simp [decU] at h; obtain ⟨rfl, rfl⟩ := h; cases r1; exact ⟨[_], _, rfl, rfl, r2⟩
  | str =>
    intro us vs x r h rs
    cases us with
    | nil => simp [decU] at h
    | cons u us => cases rs with
      | cons _ v _ vs r1 r2 => cases u <;> simp [decU] at h; obtain ⟨rfl, rfl⟩ := h; cases r1; exact ⟨[_], _, rfl, rfl, r2⟩
  | slice t ih =>
    intro us vs x r h rs
    cases us with
    | nil => simp [decU] at h
    | cons u us => cases rs with
      | cons _ v _ vs r1 r2 =>
        cases u <;> try (simp [decU] at h; done)
        · rename_i t' b l tok
          simp only [decU] at h
          split at h
          · rename_i e
            cases h
            cases r1 with
            | slice _ _ b' _ es _ tok' h1 h2 h3 => exact ⟨[_], _, rfl, ⟨b', es, tok', rfl, castL_rel e h2⟩, r2⟩
          · cases h
        · rename_i b es tok
          simp only [decU, Option.map_eq_some_iff] at h
          obtain ⟨l, h1, h2⟩ := h
          cases h2
          cases r1 with
          | lslice _ _ es' _ tok' h3 h4 => exact ⟨[_], _, rfl, ⟨b, es', tok', rfl, decL_rel (R := fun x e => isAggV e = t.isAgg ∧ CellsR t x e.cells) (fun h r => decE_rel ih h r) h1 h3⟩, r2⟩
  | nil =>
    intro us vs x r h rs
    have : decU .nil us = some ((), us) := by cases us <;> rfl
    rw [this] at h
    cases h
    exact ⟨[], vs, rfl, rfl, rs⟩
  | cons a b iha ihb =>
    intro us vs x r h rs
    have : decU (.cons a b) us = match decU a us with
      | some (x, r') => match decU b r' with
        | some (y, r'') => some ((x, y), r'')
        | none => none
      | none => none := by cases us <;> rfl
    rw [this] at h
    split at h
    · rename_i x1 r1 h1
      split at h
      · rename_i y1 r2 h2
        cases h
        obtain ⟨c1, c2, rfl, h3, h4⟩ := iha h1 rs
        obtain ⟨c3, c4, rfl, h5, h6⟩ := ihb h2 h4
        exact ⟨c1 ++ c3, c4, by rw [List.append_assoc], ⟨c1, c3, rfl, h3, h5⟩, h6⟩
      · cases h
    · cases h
theorem decV_rel {t : Ty} {u : UV} {v : TV} {x : t.den} (h : decV t u = some x) (r : URel V u v) : ElR t x v := decE_rel decU_rel h r
end
end Go.Proofs.YthnhbejjikgifaaGreatDoor.TV

namespace Go.Proofs.YthnhbejjikgifaaGreatDoor.TV
open Go Go.RowKit
set_option linter.unusedSimpArgs false
set_option linter.unusedVariables false

section
variable {P : Program} {V : Val} {s : St}

theorem take_rel {t : TypeId} {us : List UV} {vs : List TV} {u : UV} (h : takeU P t us = some u) (r : URels V us vs) : ∃ v, take P t vs = some v ∧ URel V u v := by
  unfold takeU at h
  unfold take
  split at h
  · cases h
  · rename_i h1
    rw [if_neg h1]
    split at h
    · rename_i h2
      rw [if_pos h2]
      split at h
      · rename_i h3
        cases h
        rw [if_pos (by rw [← r.length]; exact h3)]
        exact ⟨_, rfl, .agg _ _ (r.take _)⟩
      · cases h
    · rename_i h2
      rw [if_neg h2]
      exact r.head h
theorem splice_rel {us ws : List UV} {vs xs : List TV} (n : Nat) (h : URels V us vs) (k : URels V ws xs) : URels V (spliceU us n ws) (splice vs n xs) := by
  unfold spliceU splice
  rw [k.length]
  exact ((h.take n).append k).append (h.drop _)
theorem fill_rel {place : Nat → Option (Nat × Nat)} {ρ : Operand → UV} {τ : Operand → TV} (hρ : ∀ x, URel V (ρ x) (τ x)) : ∀ {ps : List (Nat × Operand)} {us : List UV} {vs : List TV} {cs : List UV},
    fillU place us (ps.map fun p => (p.1, ρ p.2)) = some cs → URels V us vs → ∃ cs', fillT place vs (ps.map fun p => (p.1, τ p.2)) = some cs' ∧ URels V cs cs'
  | [], us, vs, cs, h, r => by cases h; exact ⟨vs, rfl, r⟩
  | p :: ps, us, vs, cs, h, r => by
    simp only [List.map_cons, fillU] at h
    simp only [List.map_cons, fillT]
    split at h
    · cases h
    · rename_i off size hp
      rw [hp]
      simp only
      split at h
      · cases h
      · rename_i h1
        simp only [ne_eq, Bool.or_eq_true, decide_eq_true_eq, not_or, Bool.not_eq_true, Decidable.not_not] at h1
        obtain ⟨⟨h2, h3⟩, h4⟩ := h1
        have hc := (hρ p.2).cells h4
        rw [if_neg (by
          simp only [ne_eq, Bool.or_eq_true, decide_eq_true_eq, not_or, Bool.not_eq_true, Decidable.not_not]
          exact ⟨⟨by rw [← hc.length]; exact h2, by rw [← r.length]; exact h3⟩, (hρ p.2).notJunk h4⟩)]
        exact fill_rel hρ h (splice_rel off r hc)
theorem zero_rel {t : TypeId} {z : UV} (h : zeroU P t = some z) : ∃ z', zeroT P t = some z' ∧ URel V z z' := by
  unfold zeroU at h
  unfold zeroT
  split at h
  · rename_i i hi
    rw [hi]
    simp only [Option.map_eq_some_iff] at h ⊢
    obtain ⟨v, h1, h2⟩ := h
    subst h2
    exact ⟨_, ⟨v, h1, rfl⟩, constU_rel V v⟩
  · cases h
theorem build_rel {t : TypeId} {ρ : Operand → UV} {τ : Operand → TV} (hρ : ∀ x, URel V (ρ x) (τ x)) {ps : List (Nat × Operand)} {u : UV} (h : buildU P t (ps.map fun p => (p.1, ρ p.2)) = some u) :
    ∃ v, buildT P t (ps.map fun p => (p.1, τ p.2)) = some v ∧ URel V u v := by
  unfold buildU at h
  unfold buildT
  split at h
  · rename_i z fields hz hu
    obtain ⟨z', hz', rz⟩ := zero_rel (V := V) hz
    rw [hz', hu]
    simp only
    split at h
    · cases h
    · rename_i h1
      simp only [Bool.or_eq_true, Bool.not_eq_true', not_or, Bool.not_eq_true, Bool.not_eq_false] at h1
      rw [if_neg (by simp only [Bool.or_eq_true, Bool.not_eq_true', not_or, Bool.not_eq_true, Bool.not_eq_false]; exact ⟨rz.notJunk h1.1, h1.2⟩)]
      simp only [Option.map_eq_some_iff] at h ⊢
      obtain ⟨cs, h2, rfl⟩ := h
      obtain ⟨cs', h3, h4⟩ := fill_rel hρ h2 (rz.cells h1.1)
      exact ⟨_, ⟨cs', h3, rfl⟩, .agg _ _ h4⟩
  · rename_i z n elem hz hu
    obtain ⟨z', hz', rz⟩ := zero_rel (V := V) hz
    rw [hz', hu]
    simp only
    split at h
    · cases h
    · rename_i h1
      simp only [Bool.or_eq_true, not_or, Bool.not_eq_true] at h1
      rw [if_neg (by simp only [Bool.or_eq_true, not_or, Bool.not_eq_true]; exact ⟨rz.notJunk h1.1, h1.2⟩)]
      simp only [Option.map_eq_some_iff] at h ⊢
      obtain ⟨cs, h2, rfl⟩ := h
      obtain ⟨cs', h3, h4⟩ := fill_rel hρ h2 (rz.cells h1.1)
      exact ⟨_, ⟨cs', h3, rfl⟩, .agg _ _ h4⟩
  · cases h
theorem setEs_rel {ρ : Operand → UV} {τ : Operand → TV} (hρ : ∀ x, URel V (ρ x) (τ x)) : ∀ {ps : List (Nat × Operand)} {us : List UV} {vs : List TV}, URels V us vs →
    URels V (setEsU us (ps.map fun p => (p.1, ρ p.2))) (setEs vs (ps.map fun p => (p.1, τ p.2)))
  | [], us, vs, r => r
  | p :: ps, us, vs, r => by
    simp only [List.map_cons, setEsU, setEs]
    exact setEs_rel hρ (r.set _ (hρ p.2))
theorem fineU_ok {n : Nat} {u : UV} {v : TV} (r : URel V u v) (h : u.cells.all cellOkU = true) (hn : u.cells.length = n) : v.cells.length = n ∧ v.cells.all cellOk = true := by
  have hc := r.cells (notJunk_of_ok h)
  exact ⟨by rw [← hc.length]; exact hn, hc.allOk h⟩
theorem buildSlice_rel {t : TypeId} {len : Nat} {ρ : Operand → UV} {τ : Operand → TV} (hρ : ∀ x, URel V (ρ x) (τ x)) {ps : List (Nat × Operand)} {u : UV} (h : buildSliceU P t len (ps.map fun p => (p.1, ρ p.2)) = some u) :
    ∃ v, buildSliceT P t len (ps.map fun p => (p.1, τ p.2)) = some v ∧ URel V u v := by
  unfold buildSliceU at h
  unfold buildSliceT
  split at h
  · rename_i elem hu
    rw [hu]
    simp only
    split at h
    · rename_i h1
      simp only [Bool.and_eq_true, List.all_eq_true, decide_eq_true_eq, List.mem_map, forall_exists_index, and_imp, forall_apply_eq_imp_iff₂, beq_iff_eq] at h1
      obtain ⟨⟨h2, h3⟩, h4⟩ := h1
      rw [if_pos (by
        simp only [Bool.and_eq_true, List.all_eq_true, decide_eq_true_eq, List.mem_map, forall_exists_index, and_imp, forall_apply_eq_imp_iff₂, beq_iff_eq]
        refine ⟨⟨fun p hp => ?_, h3⟩, h4⟩
        obtain ⟨⟨a, b⟩, c⟩ := h2 p hp
        obtain ⟨x, y⟩ := fineU_ok (hρ p.2) (List.all_eq_true.2 c) b
        exact ⟨⟨a, x⟩, List.all_eq_true.1 y⟩)]
      split at h
      · rename_i z hz
        obtain ⟨z', hz', rz⟩ := zero_rel (V := V) hz
        rw [hz']
        simp only
        split at h
        · rename_i h5
          cases h
          simp only [Bool.and_eq_true, beq_iff_eq] at h5
          obtain ⟨x, y⟩ := fineU_ok rz h5.1 h5.2
          rw [if_pos (by simp only [Bool.and_eq_true, beq_iff_eq]; exact ⟨y, x⟩)]
          exact ⟨_, rfl, .lslice _ _ _ _ _ (setEs_rel hρ (URels.replicate _ rz)) rfl⟩
        · cases h
      · cases h
    · cases h
  · cases h

/-! ### Pieces -/
inductive OptR (V : Val) : Option UV → Option TV → Prop where
  | none : OptR V none none
  | some (u : UV) (v : TV) : URel V u v → OptR V (some u) (some v)
theorem OptR.map {ρ : Operand → UV} {τ : Operand → TV} (hρ : ∀ x, URel V (ρ x) (τ x)) (x : Option Operand) : OptR V (x.map ρ) (x.map τ) := by
  cases x with
  | none => exact .none
  | some x => exact .some _ _ (hρ x)
theorem intOf_rel {x : Option UV} {y : Option TV} (r : OptR V x y) {a : Option Int} (h : intOf x = some a) : (a = none ∧ y = none) ∨ ∃ n k, a = some n ∧ y = some (.int k n) := by
  cases r with
  | none => cases h; exact .inl ⟨rfl, rfl⟩
  | some u v r => cases u <;> simp [intOf] at h; cases r; subst h; exact .inr ⟨_, _, rfl, rfl⟩
theorem natOf_none (n : Nat) : natOf none n = some n := rfl
theorem within_ok {n : Nat} {x y : Option TV} {lo hi : Option Int} (hx : (lo = none ∧ x = none) ∨ ∃ z k, lo = some z ∧ x = some (.int k z)) (hy : (hi = none ∧ y = none) ∨ ∃ z k, hi = some z ∧ y = some (.int k z)) (h : within n lo hi = true) :
    ∃ l b, natOf x 0 = some l ∧ natOf y n = some b ∧ l ≤ b ∧ b ≤ n ∧ (hi = none → b = n) ∧ (lo = none → l = 0) ∧ (∀ z, hi = some z → z = b) ∧ ∀ (α : Type) (xs : List α), xs.length = n → (xs.take b).drop l = cut xs lo hi := by
  rcases hx with ⟨rfl, rfl⟩ | ⟨a, k, rfl, rfl⟩ <;> rcases hy with ⟨rfl, rfl⟩ | ⟨b, k', rfl, rfl⟩
  · exact ⟨0, n, rfl, rfl, by omega, by omega, fun _ => rfl, fun _ => rfl, fun _ h => (by cases h), fun α xs hl => by simp [cut, ← hl]⟩
  · simp only [within, decide_eq_true_eq] at h
    exact ⟨0, b.toNat, rfl, by simp [natOf, h.1], by omega, by omega, fun h => (by cases h), fun _ => rfl, fun z h => (by cases h; omega), fun α xs hl => by simp [cut]⟩
  · simp only [within, decide_eq_true_eq] at h
    exact ⟨a.toNat, n, by simp [natOf, h.1], rfl, by omega, by omega, fun _ => rfl, fun h => (by cases h), fun _ h => (by cases h), fun α xs hl => by simp [cut, ← hl]⟩
  · simp only [within, decide_eq_true_eq] at h
    exact ⟨a.toNat, b.toNat, by simp [natOf, h.1], by simp [natOf]; omega, by omega, by omega, fun h => (by cases h), fun h => (by cases h), fun z h => (by cases h; omega), fun α xs hl => by simp [cut]⟩
theorem cut_rel {α β : Type} {R : α → β → Prop} {l : List α} {m : List β} (h : All2 R l m) (lo hi : Option Int) : All2 R (cut l lo hi) (cut m lo hi) := by
  cases lo <;> cases hi <;> simp only [cut]
  · exact h
  · exact h.take _
  · exact h.drop _
  · exact (h.take _).drop _
theorem cut_urels {l : List UV} {m : List TV} (h : URels V l m) (lo hi : Option Int) : URels V (cut l lo hi) (cut m lo hi) := by
  cases lo <;> cases hi <;> simp only [cut]
  · exact h
  · exact h.take _
  · exact h.drop _
  · exact (h.take _).drop _
theorem headOk_all {n : Nat} {es : List TV} (h : ∀ e ∈ es, e.cells.length = n) : headOk n es = true := by
  cases es with
  | nil => rfl
  | cons e es => simp [headOk, h e (by simp)]
theorem ElR.size {t : Ty} {x : t.den} {e : TV} (h : ElR t x e) : e.cells.length = t.size := h.2.length
theorem ElRs.size {t : Ty} {l : List t.den} {es : List TV} (h : All2 (ElR t) l es) : ∀ e ∈ es, e.cells.length = t.size := fun e he => by
  obtain ⟨x, hx⟩ := h.mem he
  exact hx.size
theorem lsl_size {n : Nat} {us : List UV} {vs : List TV} (r : URels V us vs) (h : us.all (fun e => e.cells.length == n && !isJunkU e) = true) : ∀ e ∈ vs, e.cells.length = n := by
  induction us generalizing vs with
  | nil => cases r; simp
  | cons u us ih => cases r with
    | cons _ v _ vs r rs =>
      simp only [List.all_cons, Bool.and_eq_true, beq_iff_eq, Bool.not_eq_true'] at h
      intro e he
      rcases List.mem_cons.1 he with rfl | he
      · rw [← (r.cells h.1.2).length]; exact h.1.1
      · exact ih rs (by simpa using h.2) e he
theorem slice_rel {t : TypeId} {x : UV} {lo hi mx : Option UV} {x' : TV} {lo' hi' mx' : Option TV} (rx : URel V x x') (rl : OptR V lo lo') (rh : OptR V hi hi') (rm : OptR V mx mx') {u : UV} (h : (sliceU P t x lo hi mx).Has u) :
    ∃ v, sliceT P t x' lo' hi' mx' = some v ∧ URel V u v := by
  unfold sliceU at h
  split at h
  · rename_i lo1 hi1 hlo hhi
    have bl := intOf_rel rl hlo
    have bh := intOf_rel rh hhi
    split at h
    · rename_i s1 hu
      cases rm
      cases rx
      simp only [Tree.Has, and_false, or_false] at h
      obtain ⟨hw, rfl⟩ := h
      obtain ⟨l, b, h1, h2, h3, h4, h5, h6, h7, h8⟩ := within_ok bl bh hw
      refine ⟨.str (cut s1 lo1 hi1), ?_, .str _⟩
      unfold sliceT
      rw [hu]
      simp [sliceBounds, natOf_none, h1, h2, h3, h4, h8]
    · rename_i elem ty b0 l0 tok hu
      cases rm
      cases rx with
      | slice _ _ b' _ es _ tok' k1 k2 k3 =>
        split at h
        · cases h
        · rename_i hc
          simp only [Bool.or_eq_true, decide_eq_true_eq, bne_iff_ne, ne_eq, not_or, Decidable.not_not] at hc
          simp only [Tree.Has, and_false, or_false] at h
          obtain ⟨hw, rfl⟩ := h
          obtain ⟨l, b, h1, h2, h3, h4, h5, h6, h7, h8⟩ := within_ok bl bh hw
          have hes := ElRs.size k2
          rw [hc.2] at hes
          have hlen : es.length = l0.length := k2.length.symm
          refine ⟨.slice b' (cut es lo1 hi1) (sliceTok tok' es.length l b es.length false), ?_, .slice _ _ _ _ _ _ _ k1 (cut_rel k2 _ _) ?_⟩
          · unfold sliceT
            rw [hu]
            simp only
            rw [if_neg (by simp [hc.1, headOk_all hes])]
            simp [sliceBounds, natOf_none, h1, h2, h3, h4, hlen, h8 _ es hlen]
          · cases hi1 with
            | none =>
              have hb := h5 rfl
              subst hb
              cases lo1 with
              | none =>
                have hl := h6 rfl
                subst hl
                simp only [cut]
                have : sliceTok tok' es.length 0 l0.length es.length false = tok' := by cases tok' <;> simp [sliceTok, hlen]
                rw [this]
                exact k3
              | some z =>
                cases tok with
                | no => trivial
                | ex => have : tok' = .exact := k3; subst this; simp [sliceTok, TokR, hlen]
                | gr j => trivial
            | some z => cases lo1 <;> trivial
    · rename_i elem ty b0 l0 tok k0 m0 hu
      cases rm with
      | some _ _ rm =>
      cases rm
      cases rx with
      | slice _ _ b' _ es _ tok' k1 k2 k3 =>
        split at h
        · cases h
        · rename_i hc
          simp only [Bool.or_eq_true, decide_eq_true_eq, bne_iff_ne, ne_eq, not_or, Decidable.not_not] at hc
          split at h
          · rename_i z
            simp only [Tree.Has, and_false, or_false, decide_eq_true_eq] at h
            obtain ⟨hw, hm, rfl⟩ := h
            obtain ⟨l, b, h1, h2, h3, h4, h5, h6, h7, h8⟩ := within_ok bl bh hw
            have hes := ElRs.size k2
            rw [hc.2] at hes
            have hlen : es.length = l0.length := k2.length.symm
            have hz := h7 z rfl
            have hhi' : hi'.isSome = true := by
              rcases bh with ⟨h, _⟩ | ⟨_, _, _, h⟩
              · cases h
              · simp [h]
            refine ⟨.slice b' (cut es lo1 (some z)) (sliceTok tok' es.length l b m0.toNat true), ?_, .slice _ _ _ _ _ _ _ k1 (cut_rel k2 _ _) ?_⟩
            · unfold sliceT
              rw [hu]
              simp only
              rw [if_neg (by simp [hc.1, headOk_all hes])]
              have hm0 : natOf (some (.int k0 m0)) es.length = some m0.toNat := by simp [natOf]; omega
              have hbm : b ≤ m0.toNat := by omega
              have hml : m0.toNat ≤ l0.length := by omega
              rw [hlen] at hm0
              simp [sliceBounds, hlen, hm0, h1, h2, h3, hhi', hbm, hml, h8 _ es hlen]
            · split
              · rename_i e
                have : b = m0.toNat := by omega
                simp [sliceTok, this, TokR]
              · trivial
          · cases h
    · rename_i elem b0 es0 tok hu
      cases rm
      cases rx with
      | lslice _ _ es _ tok' k1 k2 =>
        split at h
        · cases h
        · rename_i hc
          simp only [Bool.or_eq_true, decide_eq_true_eq, Bool.not_eq_true', not_or, Bool.not_eq_false] at hc
          simp only [Tree.Has, and_false, or_false] at h
          obtain ⟨hw, rfl⟩ := h
          obtain ⟨l, b, h1, h2, h3, h4, h5, h6, h7, h8⟩ := within_ok bl bh hw
          have hes := lsl_size k1 hc.2
          have hlen : es.length = es0.length := k1.length.symm
          refine ⟨.slice b0 (cut es lo1 hi1) (sliceTok tok' es.length l b es.length false), ?_, .lslice _ _ _ _ _ (cut_urels k1 _ _) ?_⟩
          · unfold sliceT
            rw [hu]
            simp only
            rw [if_neg (by simp [hc.1, headOk_all hes])]
            simp [sliceBounds, natOf_none, h1, h2, h3, h4, hlen, h8 _ es hlen]
          · cases hi1 with
            | none =>
              have hb := h5 rfl
              subst hb
              cases lo1 with
              | none =>
                have hl := h6 rfl
                subst hl
                simp only [cut]
                have : sliceTok tok' es.length 0 es0.length es.length false = tok' := by cases tok' <;> simp [sliceTok, hlen]
                rw [this]
                exact k2
              | some z =>
                cases tok with
                | no => trivial
                | ex => have : tok' = .exact := k2; subst this; simp [sliceTok, TokR, hlen]
                | gr j => trivial
            | some z => cases lo1 <;> trivial
    · cases h
  · cases h
end
end Go.Proofs.YthnhbejjikgifaaGreatDoor.TV

namespace Go.Proofs.YthnhbejjikgifaaGreatDoor.TV
open Go Go.RowKit
set_option linter.unusedSimpArgs false
set_option linter.unusedVariables false

section
variable {P : Program} {V : Val} {s : St}

theorem fieldAddr_rel {t : TypeId} {x : UV} {x' : TV} {f : Nat} (r : URel V x x') {u : UV} (h : fieldAddrU P t x f = some u) : ∃ v, fieldAddrT P t x' f = some v ∧ URel V u v := by
  unfold fieldAddrU at h
  unfold fieldAddrT
  split at h
  · rename_i fields hu
    rw [hu]
    simp only
    split at h
    · rename_i fd hf
      rw [hf]
      simp only
      split at h
      · cases h
      · rename_i h0
        rw [if_neg h0]
        split at h
        · cases h; cases r with | ptr k off o e => exact ⟨_, rfl, .ptr _ _ _ e⟩
        · cases h; cases r with | eptr us vs rs => exact ⟨_, rfl, .eptr _ _ (rs.drop _)⟩
        · cases h; cases r with | lptr _ _ o n i off e c => exact ⟨_, rfl, by rw [Nat.add_assoc]; exact .lptr _ _ _ _ _ _ e c⟩
        · cases h
    · cases h
  · cases h
theorem field_rel {t : TypeId} {x : UV} {x' : TV} {f : Nat} (r : URel V x x') {u : UV} (h : fieldU P t x f = some u) : ∃ v, fieldT P t x' f = some v ∧ URel V u v := by
  unfold fieldU at h
  unfold fieldT
  split at h
  · rename_i fields cs hu
    cases r with
    | agg _ vs rs =>
      rw [hu]
      simp only
      split at h
      · rename_i fd hf
        rw [hf]
        exact take_rel h (rs.drop _)
      · cases h
  · cases h
theorem nthU_has {α : Type} {i : Int} {f : Nat → Tree α} {a : α} : ∀ {n k : Nat}, (nthU n i f k).Has a → ∃ j, k ≤ j ∧ j < k + n ∧ i = j ∧ (f j).Has a
  | 0, k, h => h.elim
  | n + 1, k, h => by
    simp only [nthU, Tree.Has, decide_eq_true_eq] at h
    rcases h with ⟨h1, h2⟩ | ⟨_, h⟩
    · exact ⟨k, Nat.le_refl _, by omega, h1, h2⟩
    · obtain ⟨j, h1, h2, h3, h4⟩ := nthU_has h
      exact ⟨j, by omega, by omega, h3, h4⟩
theorem indexAddr_rel {t : TypeId} {x i : UV} {x' i' : TV} (r : URel V x x') (ri : URel V i i') {u : UV} (h : (indexAddrU P t x i).Has u) : ∃ v, indexAddrT P t x' i' = some v ∧ URel V u v := by
  unfold indexAddrU at h
  split at h
  · rename_i k n
    cases ri
    unfold indexAddrT
    simp only
    split at h
    · rename_i elem ty b l tok hu
      cases r with
      | slice _ _ b' _ es _ tok' h1 h2 h3 =>
        split at h
        · rename_i hs
          simp only [Tree.Has, and_false, or_false, decide_eq_true_eq] at h
          obtain ⟨hn, y, hy, rfl⟩ := h
          rw [if_neg (by omega), hu]
          simp only
          obtain ⟨e, he, hr⟩ := h2.get hy
          rw [he]
          simp only
          rw [if_pos (by rw [← hs]; exact hr.2.length)]
          exact ⟨_, rfl, .eptr _ _ (cellsU_rel hr.2)⟩
        · cases h
    · rename_i elem b us tok hu
      cases r with
      | lslice _ _ es _ tok' h1 h2 =>
        simp only [Tree.Has, and_false, or_false, decide_eq_true_eq] at h
        obtain ⟨hn, h⟩ := h
        rw [if_neg (by omega), hu]
        simp only
        split at h
        · rename_i e he
          split at h
          · rename_i hc
            simp only [Tree.Has] at h
            subst h
            simp only [Bool.and_eq_true, decide_eq_true_eq, Bool.not_eq_true'] at hc
            obtain ⟨e', he', hr⟩ := h1.get he
            rw [he']
            simp only
            have hcs := hr.cells hc.2
            rw [if_pos (by rw [← hcs.length]; exact hc.1)]
            exact ⟨_, rfl, .eptr _ _ hcs⟩
          · cases h
        · cases h
    · rename_i len elem k0 off hu
      cases r with
      | ptr _ _ o e =>
        split at h
        · rename_i h0
          obtain ⟨j, _, h2, h3, h4⟩ := nthU_has h
          simp only [Tree.Has] at h4
          subst h4 h3
          rw [if_neg (by omega), hu]
          simp only
          rw [if_pos (by simp only [Bool.and_eq_true, decide_eq_true_eq]; exact ⟨by omega, h0⟩)]
          exact ⟨_, rfl, .ptr _ _ _ e⟩
        · cases h
    · rename_i len elem cs hu
      cases r with
      | eptr _ vs rs =>
        split at h
        · rename_i h0
          obtain ⟨j, _, h2, h3, h4⟩ := nthU_has h
          simp only [Tree.Has] at h4
          subst h4 h3
          rw [if_neg (by omega), hu]
          simp only
          rw [if_pos (by simp only [Bool.and_eq_true, decide_eq_true_eq]; exact ⟨by omega, h0⟩)]
          exact ⟨_, rfl, .eptr _ _ (rs.drop _)⟩
        · cases h
    · cases h
  · cases h
theorem index_rel {t : TypeId} {x i : UV} {x' i' : TV} (r : URel V x x') (ri : URel V i i') {u : UV} (h : (indexU P t x i).Has u) : ∃ v, indexT P t x' i' = some v ∧ URel V u v := by
  unfold indexU at h
  split at h
  · rename_i k n
    cases ri
    unfold indexT
    simp only
    split at h
    · rename_i len elem cs hu
      cases r with
      | agg _ vs rs =>
        obtain ⟨j, _, h2, h3, h4⟩ := nthU_has h
        rw [Tree.has_ofOpt] at h4
        subst h3
        rw [if_neg (by omega), hu]
        simp only
        rw [if_pos (by omega)]
        exact take_rel h4 (rs.drop _)
    · rename_i s1 hu
      cases r
      simp only [Tree.Has, and_false, or_false, decide_eq_true_eq] at h
      obtain ⟨hn, y, hy, rfl⟩ := h
      rw [if_neg (by omega), hu]
      simp only [hy, Option.map_some]
      exact ⟨_, rfl, .int _ _⟩
    · cases h
  · cases h

/-! ### Comparisons -/
theorem fold_rel {α : Type} {F : α → Option Bool → Option Bool} {G : α → Option Bool → Option Bool} (hFG : ∀ a q b, F a q = some b → ∃ c, q = some c ∧ ∀ q', q' = some c → G a q' = some b) :
    ∀ (l : List α) (b : Bool), l.foldr F (some true) = some b → l.foldr G (some true) = some b
  | [], b, h => h
  | a :: l, b, h => by
    simp only [List.foldr_cons] at h ⊢
    obtain ⟨c, h1, h2⟩ := hFG _ _ _ h
    exact h2 _ (fold_rel hFG l c h1)
theorem eq_rel : ∀ (d : Nat) {t : TypeId} {x y : UV} {x' y' : TV} {b : Bool}, URel V x x' → URel V y y' → eqU P d t x y = some b → eqT P d t x' y' = some b
  | 0, t, x, y, x', y', b, _, _, h => by simp [eqU] at h
  | d + 1, t, x, y, x', y', b, rx, ry, h => by
    unfold eqU at h
    unfold eqT
    split at h
    · rename_i hu; cases rx; cases ry; rw [hu]; exact h
    · rename_i hu
      cases rx; cases ry; rw [hu]; simp only
      split at h
      · rename_i hk; rw [if_pos hk]; exact h
      · cases h
    · rename_i hu; cases rx; cases ry; rw [hu]; simp only; cases h; congr 1; rw [Bool.eq_iff_iff]; simp
    · rename_i hu; cases rx; cases ry; rw [hu]; exact h
    · rename_i hu; cases rx; cases ry; rw [hu]; exact h
    · rename_i hu; cases rx; cases ry; rw [hu]; exact h
    · rename_i hu; cases rx; cases ry; rw [hu]; exact h
    · rename_i hu; cases rx; cases ry; rw [hu]; exact h
    · rename_i hu; cases rx; cases ry; rw [hu]; exact h
    · rename_i fields xs ys hu
      cases rx with
      | agg _ xs' rx =>
      cases ry with
      | agg _ ys' ry =>
        rw [hu]
        simp only
        split at h
        · cases h
        · rename_i h0
          rw [if_neg h0]
          refine fold_rel (fun f q b h => ?_) _ _ h
          split at h
          · rename_i hn
            subst h
            exact ⟨b, rfl, fun q' hq' => by rw [if_pos hn]; exact hq'⟩
          · rename_i hn
            split at h
            · rename_i a1 b1 ha hb
              split at h
              · rename_i p q1 hp
                cases h
                refine ⟨q1, rfl, fun q' hq' => ?_⟩
                obtain ⟨a2, ha2, ra⟩ := take_rel ha (rx.drop f.offset)
                obtain ⟨b2, hb2, rb⟩ := take_rel hb (ry.drop f.offset)
                rw [if_neg hn, ha2, hb2]
                simp only
                rw [eq_rel d ra rb hp, hq']
                cases p <;> rfl
              · cases h
            · cases h
    · rename_i n elem xs ys hu
      cases rx with
      | agg _ xs' rx =>
      cases ry with
      | agg _ ys' ry =>
        rw [hu]
        simp only
        split at h
        · cases h
        · rename_i h0
          rw [if_neg h0]
          refine fold_rel (fun i q b h => ?_) _ _ h
          split at h
          · rename_i a1 b1 ha hb
            split at h
            · rename_i p q1 hp
              cases h
              refine ⟨q1, rfl, fun q' hq' => ?_⟩
              obtain ⟨a2, ha2, ra⟩ := take_rel ha (rx.drop (i * P.cellsOf elem))
              obtain ⟨b2, hb2, rb⟩ := take_rel hb (ry.drop (i * P.cellsOf elem))
              rw [ha2, hb2]
              simp only
              rw [eq_rel d ra rb hp, hq']
              cases p <;> rfl
            · cases h
          · cases h
    · rename_i hu
      cases rx with
      | slice _ _ b' _ es _ tok' h1 h2 h3 =>
        cases ry with
        | lslice _ us vs _ tok'' h4 h5 => cases h; rw [h1 _ rfl, hu]; cases b <;> rfl
    · rename_i hu
      cases ry with
      | slice _ _ b' _ es _ tok' h1 h2 h3 =>
        cases rx with
        | lslice _ us vs _ tok'' h4 h5 => cases h; rw [h1 _ rfl, hu]; rfl
    · rename_i hu
      cases rx with
      | lslice _ us vs _ tok' h1 h2 =>
        cases ry with
        | lslice _ us' vs' _ tok'' h4 h5 => cases h; rw [hu]; cases b <;> rfl
    · rename_i hu; cases rx; cases ry; rw [hu]; exact h
    · rename_i hu; cases rx; cases ry; rw [hu]; exact h
    · rename_i hu; cases rx; cases ry; rw [hu]; exact h
    · cases h

/-! ### Numbers and texts -/
theorem eqU_junk {d : Nat} {t : TypeId} {y : UV} {b : Bool} (h : eqU P d t .junk y = some b) : False := by
  cases d with
  | zero => simp [eqU] at h
  | succ d =>
    unfold eqU at h
    split at h <;> simp_all
theorem eqU_junk' {d : Nat} {t : TypeId} {x : UV} {b : Bool} (h : eqU P d t x .junk = some b) : False := by
  cases d with
  | zero => simp [eqU] at h
  | succ d =>
    unfold eqU at h
    split at h <;> simp_all
theorem bin_rel {op : BinOp} {t : TypeId} {x y : UV} {x' y' : TV} (rx : URel V x x') (ry : URel V y y') {u : UV} (h : (binU P op t x y).Has u) : ∃ v, binT P op t x' y' = some v ∧ URel V u v := by
  unfold binU at h
  split at h
  · rename_i k a yk b
    cases rx; cases ry
    unfold binT
    simp only
    split at h
    · simp only [Tree.Has, false_and, and_false, false_or, decide_eq_false_iff_not] at h
      obtain ⟨h1, rfl⟩ := h
      rw [if_neg h1]
      exact ⟨_, rfl, .int _ _⟩
    · simp only [Tree.Has, false_and, and_false, false_or, decide_eq_false_iff_not] at h
      obtain ⟨h1, rfl⟩ := h
      simp only [if_neg h1]
      exact ⟨_, rfl, .int _ _⟩
    · split at h
      · cases h
      · rename_i hk
        simp only [if_neg hk]
        split at h <;> simp only [Tree.Has, false_and, and_false, false_or, decide_eq_false_iff_not] at h <;>
          first
          | (subst h; exact ⟨_, rfl, .int _ _⟩)
          | (obtain ⟨h1, rfl⟩ := h; simp only [if_neg h1]; exact ⟨_, rfl, .int _ _⟩)
          | (subst h; refine ⟨_, rfl, ?_⟩; first | exact .bool _ | (simp only [bne, gt_iff_lt, ge_iff_le]; exact .bool _))
  · rename_i a b
    cases rx; cases ry
    unfold binT
    simp only
    have hd : (a == b) = decide (a = b) := by rw [Bool.eq_iff_iff]; simp
    split at h <;> simp only [Tree.Has, and_false, or_false, decide_eq_true_eq] at h
    · obtain ⟨h1, rfl⟩ := h
      rw [if_pos h1]
      exact ⟨_, rfl, .str _⟩
    all_goals (subst h; simp only [hd]; exact ⟨_, rfl, .bool _⟩)
  · have key : ∀ {b}, eqU P 100 t x y = some b → ∀ (f : Bool → TV), (match x', y' with
        | .int _ _, .int _ _ => none
        | .str _, .str _ => none
        | x, y => (eqT P 100 t x y).map f) = some (f b) ∧ (∀ k a yk c, ¬ (x' = .int k a ∧ y' = .int yk c)) ∧ ∀ a c, ¬ (x' = .str a ∧ y' = .str c) := by
      intro b hb f
      have h1 : ∀ k a yk c, ¬ (x' = .int k a ∧ y' = .int yk c) := by
        rintro k a yk c ⟨rfl, rfl⟩
        cases rx with
        | junk => exact eqU_junk hb
        | int => cases ry with
          | junk => exact eqU_junk' hb
          | int => rename_i hx1 hx2; exact hx1 _ _ _ _ rfl rfl
      have h2 : ∀ a c, ¬ (x' = .str a ∧ y' = .str c) := by
        rintro a c ⟨rfl, rfl⟩
        cases rx with
        | junk => exact eqU_junk hb
        | str => cases ry with
          | junk => exact eqU_junk' hb
          | str => rename_i hx1 hx2; exact hx2 _ _ rfl rfl
      refine ⟨?_, h1, h2⟩
      split
      · exact absurd ⟨rfl, rfl⟩ (h1 _ _ _ _)
      · exact absurd ⟨rfl, rfl⟩ (h2 _ _)
      · rw [eq_rel 100 rx ry hb]; rfl
    split at h
    · rw [Tree.has_ofOpt, Option.map_eq_some_iff] at h
      obtain ⟨b, hb, rfl⟩ := h
      obtain ⟨_, h1, h2⟩ := key hb .bool
      refine ⟨.bool b, ?_, .bool b⟩
      unfold binT
      split
      · exact absurd ⟨rfl, rfl⟩ (h1 _ _ _ _)
      · exact absurd ⟨rfl, rfl⟩ (h2 _ _)
      · rw [eq_rel 100 rx ry hb]; rfl
    · rw [Tree.has_ofOpt, Option.map_eq_some_iff] at h
      obtain ⟨b, hb, rfl⟩ := h
      obtain ⟨_, h1, h2⟩ := key hb .bool
      refine ⟨.bool !b, ?_, .bool _⟩
      unfold binT
      split
      · exact absurd ⟨rfl, rfl⟩ (h1 _ _ _ _)
      · exact absurd ⟨rfl, rfl⟩ (h2 _ _)
      · rw [eq_rel 100 rx ry hb]; rfl
    · cases h
theorem guard_rel {op : BinOp} {t : TypeId} {a b : Operand} {x y : UV} {x' y' : TV} (rx : URel V x x') (ry : URel V y y') (h : guardU P op t a b x y = true) : guardT P op t a b x' y' = true := by
  unfold guardU at h
  unfold guardT
  split at h
  · split at h
    · cases rx; cases ry; exact h
    · cases rx; cases ry; exact h
    · cases h
    · cases h
    · rename_i h1 h2 h3 h4
      simp only
      split
      · cases rx <;> cases ry <;> simp_all
      · cases rx <;> cases ry <;> simp_all
      · rfl
  · split at h
    · cases rx; cases ry; exact h
    · cases rx; cases ry; exact h
    · cases h
    · cases h
    · rename_i h1 h2 h3 h4
      simp only
      split
      · cases rx <;> cases ry <;> simp_all
      · cases rx <;> cases ry <;> simp_all
      · rfl
  · rename_i h1 h2
    split
    · exact absurd rfl h1
    · exact absurd rfl h2
    · rfl
theorem un_rel {op : UnOp} {x : UV} {x' : TV} (r : URel V x x') {u : UV} (h : unU op x = some u) : ∃ v, unT op x' = some v ∧ URel V u v := by
  unfold unU at h
  split at h <;> first | (cases h; done) | (cases h; cases r; exact ⟨_, rfl, by constructor⟩)
theorem bytesUV_rel : ∀ {l : List Int} {es : List TV}, All2 (ElR (.int .u8)) l es → TV.bytesOf es = some (bytesUV l)
  | [], [], _ => rfl
  | n :: l, e :: es, h => by
    have h1 := h.1.2
    have he : e = .int .u8 n := by
      have := isAggV_cells h.1.1
      rw [this] at h1
      exact (List.cons.inj (show [e] = [_] from h1)).1
    subst he
    simp only [TV.bytesOf, bytesUV_rel h.2]
    rfl
  | [], _ :: _, h => h.elim
  | _ :: _, [], h => h.elim
theorem byteInts_rel (s : List UInt8) : All2 (ElR (.int .u8)) (byteInts s) (s.map fun c => .int .u8 c.toNat) := by
  unfold byteInts
  exact All2.map fun x hx => ⟨rfl, rfl⟩
theorem conv_rel {src dst : TypeId} {x : UV} {x' : TV} (r : URel V x x') {u : UV} (h : convU P src dst x = some u) : ∃ v, (∀ s, convT P s src dst x' = some v) ∧ URel V u v := by
  unfold convU at h
  split at h
  · rename_i h1 h2; cases h; cases r; exact ⟨_, fun s => by unfold convT; rw [h1, h2], .int _ _⟩
  · rename_i h1 h2; cases h; cases r; exact ⟨_, fun s => by unfold convT; rw [h1, h2], .str _⟩
  · rename_i h1 h2
    cases r
    split at h
    · rename_i h3
      cases h
      exact ⟨_, fun s => by unfold convT; rw [h1, h2]; simp only; rw [h3], .slice _ _ _ _ _ _ _ (fun x h => by cases h; rfl) (byteInts_rel _) trivial⟩
    · cases h
  · rename_i h1 h2
    cases r with
    | slice _ _ b' _ es _ tok' k1 k2 k3 =>
      split at h
      · rename_i h3
        cases h
        exact ⟨_, fun s => by unfold convT; rw [h1, h2]; simp only; rw [h3]; simp only [bytesUV_rel k2]; rfl, .str _⟩
      · cases h
  · rename_i h1 h2
    cases r with
    | lslice _ _ es _ tok' k1 k2 =>
      split at h
      · rename_i h3
        rw [Option.map_eq_some_iff] at h
        obtain ⟨l, hl, rfl⟩ := h
        have k3 := decL_rel (R := ElR (.int .u8)) (fun h r => decV_rel h r) hl k1
        exact ⟨_, fun s => by unfold convT; rw [h1, h2]; simp only; rw [h3]; simp only [bytesUV_rel k3]; rfl, .str _⟩
      · cases h
  · cases h
theorem len_rel {t : TypeId} {x : UV} {x' : TV} (r : URel V x x') {u : UV} (h : lenU P t x = some u) : ∃ v, (∀ s, lenT P s t x' = some v) ∧ URel V u v := by
  unfold lenU at h
  split at h
  · rename_i h1; cases h; cases r; exact ⟨_, fun s => by unfold lenT; rw [h1], .int _ _⟩
  · rename_i h1; cases h; exact ⟨_, fun s => by unfold lenT; rw [h1], .int _ _⟩
  · rename_i h1; cases h; cases r with | slice _ _ b' _ es _ tok' k1 k2 k3 => exact ⟨_, fun s => by unfold lenT; rw [h1], by rw [← k2.length]; exact .int _ _⟩
  · rename_i h1; cases h; cases r with | lslice _ _ es _ tok' k1 k2 => exact ⟨_, fun s => by unfold lenT; rw [h1], by rw [← k1.length]; exact .int _ _⟩
  · cases h
theorem min_rel {x y : UV} {x' y' : TV} (rx : URel V x x') (ry : URel V y y') {u : UV} (h : minU x y = some u) : ∃ v, minT x' y' = some v ∧ URel V u v := by
  unfold minU at h
  split at h
  · cases h; cases rx; cases ry; exact ⟨_, rfl, .int _ _⟩
  · cases h
theorem max_rel {x y : UV} {x' y' : TV} (rx : URel V x x') (ry : URel V y y') {u : UV} (h : maxU x y = some u) : ∃ v, maxT x' y' = some v ∧ URel V u v := by
  unfold maxU at h
  split at h
  · cases h; cases rx; cases ry; exact ⟨_, rfl, .int _ _⟩
  · cases h
end
end Go.Proofs.YthnhbejjikgifaaGreatDoor.TV
