/-
  DX: an evaluator of the model's operations on values of which only the shape is known: what it tells is a tree of cases. This text: the definitions.
  DX: what makes or changes something; regions, code, loops that are cut, calls. Definitions.
-/
import Derived.Test.YtbnfooeeopmpiaaTVDrawn
namespace Go.Proofs.Ytbnfooeeopmpiaa.TV
open Go Go.RowKit
set_option linter.unusedVariables false
noncomputable section

/-! ### Kinds of elements -/
inductive Ty where
  | int (k : IntKind) | bool | str | slice (t : Ty) | nil | cons (a b : Ty)
  deriving DecidableEq
@[reducible] def Ty.den : Ty → Type
  | .int _ => Int
  | .bool => Bool
  | .str => List UInt8
  | .slice t => List t.den
  | .nil => Unit
  | .cons a b => a.den × b.den
def Ty.isAgg : Ty → Bool
  | .nil | .cons _ _ => true
  | _ => false
def Ty.size : Ty → Nat
  | .nil => 0
  | .cons a b => a.size + b.size
  | _ => 1

/-! ### Values -/
/-- May a slice grow? No; it has no room; its row is one of those that are kept count of. -/
inductive UTok where
  | no | ex | gr (j : Nat)
inductive UV where
  | junk
  | bool (b : Bool)
  | int (k : IntKind) (n : Int)
  | str (s : List UInt8)
  | nilp
  | ptr (k off : Nat)
  | eptr (cs : List UV)
  | slice (t : Ty) (b : Option Bool) (l : List t.den) (tok : UTok)
  | lslice (b : Bool) (es : List UV) (tok : UTok)
  | fn (f : Fn) (a c : List UV)
  | nilfn
  | niliface
  | iface (t : TypeId) (v : UV)
  | agg (cs : List UV)
  | tup (cs : List UV)
  deriving Inhabited
def UV.cells : UV → List UV
  | .agg cs => cs
  | v => [v]
def isJunkU : UV → Bool
  | .junk => true
  | _ => false
def cellOkU : UV → Bool
  | .junk | .agg _ | .tup _ => false
  | _ => true
abbrev UEnv := List UV
/-- Written by recursors: the kernel lays them open fast. -/
def atStep (x : UV) (_ : List UV) (ih : Nat → UV) (n : Nat) : UV := Nat.rec (motive := fun _ => UV) x (fun m _ => ih m) n
def UEnv.at (e : UEnv) (t : Nat) : UV := List.rec (motive := fun _ => Nat → UV) (fun _ => .junk) atStep e t
/-- A row of cells, of which some may not be changed. -/
structure Row where
  cs : List UV
  ty : TypeId
  fz : List Bool
structure UHeap where
  objs : List Row
  tips : List (Option TypeId)

/-- Two ways on. -/
def two {β γ δ : Type} (x : Option (β ⊕ γ)) (f : β → Option δ) (g : γ → Option δ) : Option δ := match x with
  | none => none
  | some (.inl b) => f b
  | some (.inr c) => g c
/-- Cases. -/
inductive Tree (α : Type) : Type 1 where
  | fail
  | leaf (a : α)
  | ite (b : Bool) (t e : Tree α)
  | opt {β : Type} (x : Option β) (k : β → Tree α)
  | two {β γ : Type} (x : Option (β ⊕ γ)) (k : β → Tree α) (k' : γ → Tree α)
namespace Tree
variable {α β : Type}
def rFail (_ : α → Option β) : Option β := none
def rLeaf (a : α) (f : α → Option β) : Option β := f a
def rIte (b : Bool) (_ _ : Tree α) (it ie : (α → Option β) → Option β) (f : α → Option β) : Option β := bif b then it f else ie f
def rOpt {γ : Type} (x : Option γ) (_ : γ → Tree α) (ih : γ → (α → Option β) → Option β) (f : α → Option β) : Option β := x.bind fun y => ih y f
def rTwo {γ δ : Type} (x : Option (γ ⊕ δ)) (_ : γ → Tree α) (_ : δ → Tree α) (ih : γ → (α → Option β) → Option β) (ih' : δ → (α → Option β) → Option β) (f : α → Option β) : Option β := TV.two x (fun y => ih y f) (fun y => ih' y f)
def run (t : Tree α) (f : α → Option β) : Option β := Tree.rec (motive := fun _ => (α → Option β) → Option β) rFail rLeaf rIte (@rOpt α β) (@rTwo α β) t f
def bFail (_ : α → Tree β) : Tree β := .fail
def bLeaf (a : α) (f : α → Tree β) : Tree β := f a
def bIte (b : Bool) (_ _ : Tree α) (it ie : (α → Tree β) → Tree β) (f : α → Tree β) : Tree β := .ite b (it f) (ie f)
def bOpt {γ : Type} (x : Option γ) (_ : γ → Tree α) (ih : γ → (α → Tree β) → Tree β) (f : α → Tree β) : Tree β := .opt x fun y => ih y f
def bTwo {γ δ : Type} (x : Option (γ ⊕ δ)) (_ : γ → Tree α) (_ : δ → Tree α) (ih : γ → (α → Tree β) → Tree β) (ih' : δ → (α → Tree β) → Tree β) (f : α → Tree β) : Tree β := .two x (fun y => ih y f) (fun y => ih' y f)
def bind (t : Tree α) (f : α → Tree β) : Tree β := Tree.rec (motive := fun _ => (α → Tree β) → Tree β) bFail bLeaf bIte (@bOpt α β) (@bTwo α β) t f
def ofOpt (x : Option α) : Tree α := match x with
  | some a => .leaf a
  | none => .fail
end Tree

mutual
def constU : Value → UV
  | .bool b => .bool b
  | .int k n => .int k n
  | .string s => .str s.data.toList
  | .pointer none => .nilp
  | .slice none 0 0 => .lslice true [] .ex
  | .nilFunc => .nilfn
  | .nilIface => .niliface
  | .agg ⟨cs⟩ => .agg (constsU cs)
  | .tuple ⟨vs⟩ => .tup (constsU vs)
  | .iface t v => .iface t (constU v)
  | _ => .junk
def constsU : List Value → List UV
  | [] => []
  | v :: l => constU v :: constsU l
end
def evU (e : UEnv) : Operand → UV
  | .tmp t => e.at t
  | .const v => constU v
  | .global _ => .junk
  | .func f => .fn (.func f) [] []

/-! ### Elements as cells -/
def cellsU : (t : Ty) → t.den → List UV
  | .int k, n => [.int k n]
  | .bool, b => [.bool b]
  | .str, s => [.str s]
  | .slice t, l => [.slice t none l .no]
  | .nil, _ => []
  | .cons a b, x => cellsU a x.1 ++ cellsU b x.2
def elemU (t : Ty) (x : t.den) : UV := if t.isAgg then .agg (cellsU t x) else (cellsU t x).headD .junk
/-- What cells say. -/
def decE {α : Type} (agg : Bool) (f : List UV → Option (α × List UV)) (v : UV) : Option α :=
  match v with
  | .agg cs => if agg then (match f cs with
    | some (x, []) => some x
    | _ => none) else none
  | v => if agg then none else (match f [v] with
    | some (x, []) => some x
    | _ => none)
def decL {α : Type} (f : UV → Option α) : List UV → Option (List α)
  | [] => some []
  | e :: es => match f e, decL f es with
    | some x, some l => some (x :: l)
    | _, _ => none
def castL {t t' : Ty} (h : t' = t) (l : List t'.den) : List t.den := h ▸ l
def decU : (t : Ty) → List UV → Option (t.den × List UV)
  | .int k, .int k' n :: r => if k = k' then some (n, r) else none
  | .bool, .bool b :: r => some (b, r)
  | .str, .str s :: r => some (s, r)
  | .slice t, .slice t' _ l _ :: r => if h : t' = t then some (castL h l, r) else none
  | .slice t, .lslice _ es _ :: r => (decL (decE t.isAgg (decU t)) es).map fun l => (l, r)
  | .nil, r => some ((), r)
  | .cons a b, r => match decU a r with
    | some (x, r') => match decU b r' with
      | some (y, r'') => some ((x, y), r'')
      | none => none
    | none => none
  | _, _ => none
def decV (t : Ty) (v : UV) : Option t.den := decE t.isAgg (decU t) v

/-! ### Operations -/
variable (P : Program)

def takeU (t : TypeId) (cs : List UV) : Option UV :=
  if (P.underlying t).isNone then none else
  if isAggT P t then (if P.cellsOf t ≤ cs.length then some (.agg (cs.take (P.cellsOf t))) else none)
  else cs.head?
def spliceU (cs : List UV) (off : Nat) (vs : List UV) : List UV := cs.take off ++ vs ++ cs.drop (off + vs.length)
def fillU (place : Nat → Option (Nat × Nat)) : List UV → List (Nat × UV) → Option (List UV)
  | cells, [] => some cells
  | cells, (i, v) :: rest =>
    match place i with
    | none => none
    | some (off, size) => if v.cells.length ≠ size || off + size > cells.length || isJunkU v then none else fillU place (spliceU cells off v.cells) rest
def zeroU (t : TypeId) : Option UV := match P.info? t with
  | some i => i.zero.map constU
  | none => none
def buildU (t : TypeId) (parts : List (Nat × UV)) : Option UV :=
  match zeroU P t, P.underlying t with
  | some z, some (.struct fields) => if isJunkU z || !(fields.toList.all fun f => (P.info? f.type).isSome) then none else
    (fillU (fun i => (fields[i]?).map fun f => (f.offset, P.cellsOf f.type)) z.cells parts).map .agg
  | some z, some (.array _ elem) => if isJunkU z || (P.info? elem).isNone then none else (fillU (fun i => some (i * P.cellsOf elem, P.cellsOf elem)) z.cells parts).map .agg
  | _, _ => none
def setEsU : List UV → List (Nat × UV) → List UV
  | es, [] => es
  | es, (i, v) :: rest => setEsU (es.set i v) rest
def buildSliceU (t : TypeId) (len : Nat) (parts : List (Nat × UV)) : Option UV :=
  match P.underlying t with
  | some (.slice elem) =>
    if parts.all (fun p => p.1 < len && (p.2.cells.length == P.cellsOf elem) && p.2.cells.all cellOkU) && 0 < P.cellsOf elem && len * P.cellsOf elem ≤ 2 ^ 24 then
      match zeroU P elem with
      | some z => if z.cells.all cellOkU && z.cells.length == P.cellsOf elem then some (.lslice false (setEsU (List.replicate len z) parts) .ex) else none
      | none => none
    else none
  | _ => none

/-- Bounds of a piece. -/
def loOf (x : Option UV) : Option Int := match x with
  | none => some 0
  | some (.int _ n) => some n
  | some _ => none
def hiOf (x : Option UV) (n : Nat) : Option Int := match x with
  | none => some n
  | some (.int _ n) => some n
  | some _ => none
def cut {α : Type} (l : List α) (lo hi : Option Int) : List α := match lo, hi with
  | none, none => l
  | some a, none => l.drop a.toNat
  | none, some b => l.take b.toNat
  | some a, some b => (l.take b.toNat).drop a.toNat
def intOf (x : Option UV) : Option (Option Int) := match x with
  | none => some none
  | some (.int _ n) => some (some n)
  | some _ => none
/-- Do the bounds lie within n? -/
def within (n : Nat) (lo hi : Option Int) : Bool := match lo, hi with
  | none, none => true
  | some a, none => decide (0 ≤ a ∧ a ≤ n)
  | none, some b => decide (0 ≤ b ∧ b ≤ n)
  | some a, some b => decide (0 ≤ a ∧ a ≤ b ∧ b ≤ n)
def sliceU (t : TypeId) (x : UV) (lo hi mx : Option UV) : Tree UV :=
  match intOf lo, intOf hi with
  | some lo, some hi =>
    match P.underlying t, x, mx with
    | some .string, .str s, none => .ite (within s.length lo hi) (.leaf (.str (cut s lo hi))) .fail
    | some (.slice elem), .slice ty b l tok, none => if P.cellsOf elem = 0 || ty.size != P.cellsOf elem then .fail else
      .ite (within l.length lo hi) (.leaf (.slice ty b (cut l lo hi) (match lo, hi with
        | none, none => tok
        | _, none => (match tok with
          | .ex => .ex
          | _ => .no)
        | _, _ => .no))) .fail
    | some (.slice elem), .slice ty b l tok, some (.int _ m) => if P.cellsOf elem = 0 || ty.size != P.cellsOf elem then .fail else
      match hi with
      | some h => .ite (within l.length lo hi) (.ite (decide (h ≤ m ∧ m ≤ l.length)) (.leaf (.slice ty b (cut l lo hi) (if h = m then .ex else .no))) .fail) .fail
      | none => .fail
    | some (.slice elem), .lslice b es tok, none => if P.cellsOf elem = 0 || !(es.all fun e => e.cells.length == P.cellsOf elem && !isJunkU e) then .fail else
      .ite (within es.length lo hi) (.leaf (.lslice b (cut es lo hi) (match lo, hi with
        | none, none => tok
        | _, none => (match tok with
          | .ex => .ex
          | _ => .no)
        | _, _ => .no))) .fail
    | _, _, _ => .fail
  | _, _ => .fail

def fieldAddrU (s : TypeId) (x : UV) (f : Nat) : Option UV :=
  match P.underlying s with
  | some (.struct fields) => match fields[f]? with
    | some fd => if P.cellsOf fd.type = 0 then none else
      match x with
      | .ptr k off => some (.ptr k (off + fd.offset))
      | .eptr cs => some (.eptr (cs.drop fd.offset))
      | _ => none
    | none => none
  | _ => none
/-- One of a few, by its number. -/
def nthU {α : Type} : Nat → Int → (Nat → Tree α) → Nat → Tree α
  | 0, _, _, _ => .fail
  | n + 1, i, f, k => .ite (decide (i = k)) (f k) (nthU n i f (k + 1))
def indexAddrU (t : TypeId) (x i : UV) : Tree UV :=
  match i with
  | .int _ n =>
    match P.underlying t, x with
    | some (.slice elem), .slice ty _ l _ => if ty.size = P.cellsOf elem then .ite (decide (0 ≤ n)) (.opt (l[n.toNat]?) fun x => .leaf (.eptr (cellsU ty x))) .fail else .fail
    | some (.slice elem), .lslice _ es _ => .ite (decide (0 ≤ n)) (match es[n.toNat]? with
      | some e => if e.cells.length = P.cellsOf elem && !isJunkU e then .leaf (.eptr e.cells) else .fail
      | none => .fail) .fail
    | some (.array len elem), .ptr k off => if 0 < P.cellsOf elem then nthU len n (fun i => .leaf (.ptr k (off + i * P.cellsOf elem))) 0 else .fail
    | some (.array len elem), .eptr cs => if 0 < P.cellsOf elem then nthU len n (fun i => .leaf (.eptr (cs.drop (i * P.cellsOf elem)))) 0 else .fail
    | _, _ => .fail
  | _ => .fail
def indexU (t : TypeId) (x i : UV) : Tree UV :=
  match i with
  | .int _ n =>
    match P.underlying t, x with
    | some (.array len elem), .agg cs => nthU len n (fun i => .ofOpt (takeU P elem (cs.drop (i * P.cellsOf elem)))) 0
    | some .string, .str s => .ite (decide (0 ≤ n)) (.opt (s[n.toNat]?) fun b => .leaf (.int .u8 b.toNat)) .fail
    | _, _ => .fail
  | _ => .fail
def fieldU (t : TypeId) (x : UV) (f : Nat) : Option UV :=
  match P.underlying t, x with
  | some (.struct fields), .agg cs => match fields[f]? with
    | some fd => takeU P fd.type (cs.drop fd.offset)
    | none => none
  | _, _ => none

def nilOf : UV → Option Bool
  | .slice _ b _ _ => b
  | .lslice b _ _ => some b
  | _ => none
def eqU : Nat → TypeId → UV → UV → Option Bool
  | 0, _, _, _ => none
  | d + 1, t, x, y =>
    match P.underlying t, x, y with
    | some .bool, .bool a, .bool b => some (a == b)
    | some (.int _), .int k a, .int k' b => if k = k' then some (decide (a = b)) else none
    | some .string, .str a, .str b => some (decide (a = b))
    | some (.pointer _), .nilp, .nilp => some true
    | some (.pointer _), .nilp, .ptr _ _ | some (.pointer _), .ptr _ _, .nilp => some false
    | some (.interface _), .niliface, .niliface => some true
    | some (.interface _), .niliface, .iface _ _ | some (.interface _), .iface _ _, .niliface => some false
    | some (.struct fields), .agg xs, .agg ys =>
      if P.stoodInHeld t then none else
      fields.toList.foldr (fun f r => if f.name == "_" then r else
        match takeU P f.type (xs.drop f.offset), takeU P f.type (ys.drop f.offset) with
        | some a, some b => match eqU d f.type a b, r with
          | some p, some q => some (p && q)
          | _, _ => none
        | _, _ => none) (some true)
    | some (.array n elem), .agg xs, .agg ys =>
      if (P.info? elem).isNone then none else
      (List.range n).foldr (fun i r =>
        match takeU P elem (xs.drop (i * P.cellsOf elem)), takeU P elem (ys.drop (i * P.cellsOf elem)) with
        | some a, some b => match eqU d elem a b, r with
          | some p, some q => some (p && q)
          | _, _ => none
        | _, _ => none) (some true)
    | some (.slice _), .slice _ (some a) _ _, .lslice true _ _ => some a
    | some (.slice _), .lslice true _ _, .slice _ (some a) _ _ => some a
    | some (.slice _), .lslice a _ _, .lslice true _ _ => some a
    | some (.func _ _ _), .nilfn, .nilfn => some true
    | some (.func _ _ _), .nilfn, .fn .. | some (.func _ _ _), .fn .., .nilfn => some false
    | _, _, _ => none

def binU (op : BinOp) (t : TypeId) (x y : UV) : Tree UV :=
  match x, y with
  | .int k a, .int yk b =>
    match op with
    | .shl => .ite (decide (b < 0)) .fail (.leaf (.int k (k.wrap (a * 2 ^ (min b.toNat k.bits)))))
    | .shr => .ite (decide (b < 0)) .fail (.leaf (.int k (a.fdiv (2 ^ (min b.toNat k.bits)))))
    | _ => if k ≠ yk then .fail else
      match op with
      | .add => .leaf (.int k (k.wrap (a + b)))
      | .sub => .leaf (.int k (k.wrap (a - b)))
      | .mul => .leaf (.int k (k.wrap (a * b)))
      | .quo => .ite (decide (b = 0)) .fail (.leaf (.int k (k.wrap (a.tdiv b))))
      | .rem => .ite (decide (b = 0)) .fail (.leaf (.int k (a.tmod b)))
      | .and => .leaf (.int k (k.wrap ((BitVec.ofInt k.bits a &&& BitVec.ofInt k.bits b).toNat)))
      | .or => .leaf (.int k (k.wrap ((BitVec.ofInt k.bits a ||| BitVec.ofInt k.bits b).toNat)))
      | .xor => .leaf (.int k (k.wrap ((BitVec.ofInt k.bits a ^^^ BitVec.ofInt k.bits b).toNat)))
      | .andNot => .leaf (.int k (k.wrap ((BitVec.ofInt k.bits a &&& ~~~ (BitVec.ofInt k.bits b)).toNat)))
      | .eql => .leaf (.bool (decide (a = b)))
      | .neq => .leaf (.bool (!decide (a = b)))
      | .lss => .leaf (.bool (decide (a < b)))
      | .leq => .leaf (.bool (decide (a ≤ b)))
      | .gtr => .leaf (.bool (decide (b < a)))
      | .geq => .leaf (.bool (decide (b ≤ a)))
      | _ => .fail
  | .str a, .str b =>
    match op with
    | .add => .ite (decide (a.length + b.length ≤ 9223372036854775807)) (.leaf (.str (a ++ b))) .fail
    | .eql => .leaf (.bool (decide (a = b)))
    | .neq => .leaf (.bool (!decide (a = b)))
    | .lss => .leaf (.bool (Op.bytesLess a b))
    | .leq => .leaf (.bool (Op.bytesLess a b || decide (a = b)))
    | .gtr => .leaf (.bool (!(Op.bytesLess a b || decide (a = b))))
    | .geq => .leaf (.bool (!Op.bytesLess a b))
    | _ => .fail
  | x, y =>
    match op with
    | .eql => .ofOpt ((eqU P 100 t x y).map .bool)
    | .neq => .ofOpt ((eqU P 100 t x y).map fun b => .bool (!b))
    | _ => .fail
def guardU (op : BinOp) (t : TypeId) (x y : Operand) (a b : UV) : Bool :=
  match op with
  | .eql | .neq => match a, b with
    | .niliface, .niliface => (match x with | .const _ => true | _ => false) || (match y with | .const _ => true | _ => false)
    | .agg _, .agg _ => !(P.eqGuardType P.depth t)
    | .junk, _ | _, .junk => false
    | _, _ => true
  | _ => true
def unU (op : UnOp) (x : UV) : Option UV :=
  match op, x with
  | .neg, .int k n => some (.int k (k.wrap (0 - n)))
  | .xor, .int k n => some (.int k (k.wrap ((BitVec.ofInt k.bits (if k.signed then -1 else k.max) ^^^ BitVec.ofInt k.bits n).toNat)))
  | .not, .bool b => some (.bool !b)
  | _, _ => none
def bytesUV (l : List Int) : List UInt8 := l.map fun n => UInt8.ofNat n.toNat
def byteInts (s : List UInt8) : List Int := s.map fun c => (c.toNat : Int)
def convU (src dst : TypeId) (x : UV) : Option UV :=
  match P.underlying src, P.underlying dst, x with
  | some _, some (.int k), .int _ n => some (.int k (k.wrap n))
  | some .string, some .string, .str b => some (.str b)
  | some .string, some (.slice e), .str b =>
    match P.underlying e with
    | some (.int .u8) => some (.slice (.int .u8) (some false) (byteInts b) .no)
    | _ => none
  | some (.slice e), some .string, .slice (.int .u8) _ l _ =>
    match P.underlying e with
    | some (.int .u8) => some (.str (bytesUV l))
    | _ => none
  | some (.slice e), some .string, .lslice _ es _ =>
    match P.underlying e with
    | some (.int .u8) => (decL (decV (.int .u8)) es).map fun l => .str (bytesUV l)
    | _ => none
  | _, _, _ => none
def lenU (t : TypeId) (x : UV) : Option UV :=
  match P.underlying t, x with
  | some .string, .str b => some (.int .i64 b.length)
  | some (.array n _), _ => some (.int .i64 n)
  | some (.slice _), .slice _ _ l _ => some (.int .i64 l.length)
  | some (.slice _), .lslice _ es _ => some (.int .i64 es.length)
  | _, _ => none
def minU (x y : UV) : Option UV := match x, y with
  | .int k a, .int _ b => some (.int k (if b < a then b else a))
  | _, _ => none
def maxU (x y : UV) : Option UV := match x, y with
  | .int k a, .int _ b => some (.int k (if b > a then b else a))
  | _, _ => none
def loadU (h : UHeap) (t : TypeId) (p : UV) : Option UV :=
  match p with
  | .eptr cs => takeU P t cs
  | .ptr k off => match h.objs[k]? with
    | some r => takeU P t (r.cs.drop off)
    | none => none
  | _ => none

/-- What only reads. -/
def readU (h : UHeap) (ρ : Operand → UV) (o : Oper) : Tree UV :=
  match o.op with
  | .move x | .assign x => .leaf (ρ x)
  | .pick c a b => match ρ c with
    | .bool c => .ite c (.leaf (ρ a)) (.leaf (ρ b))
    | _ => .fail
  | .build t parts => .ofOpt (buildU P t (parts.toList.map fun p => (p.1, ρ p.2)))
  | .buildSlice t len parts => .ofOpt (buildSliceU P t len (parts.toList.map fun p => (p.1, ρ p.2)))
  | .load t a => .ofOpt (loadU P h t (ρ a))
  | .nilCheck x => match ρ x with
    | .ptr k off => .leaf (.ptr k off)
    | .eptr cs => .leaf (.eptr cs)
    | .fn (.func f) a b => .leaf (.fn (.func f) a b)
    | _ => .fail
  | .binOp op t x y _ => if guardU P op t x y (ρ x) (ρ y) then binU P op t (ρ x) (ρ y) else .fail
  | .unOp op _ x => .ofOpt (unU op (ρ x))
  | .convert src dst x => .ofOpt (convU P src dst (ρ x))
  | .makeInterface t x => match P.underlying t with
    | some (.interface _) => .fail
    | some _ => .leaf (.iface t (ρ x))
    | none => .fail
  | .makeFunc f a b => .leaf (.fn f (a.toList.map ρ) (b.toList.map ρ))
  | .slice t x lo hi mx => sliceU P t (ρ x) (lo.map ρ) (hi.map ρ) (mx.map ρ)
  | .fieldAddr t x f => .ofOpt (fieldAddrU P t (ρ x) f)
  | .field t x f => .ofOpt (fieldU P t (ρ x) f)
  | .indexAddr t x i => indexAddrU P t (ρ x) (ρ i)
  | .index t x i => indexU P t (ρ x) (ρ i)
  | .extract x i => match ρ x with
    | .tup vs => .ofOpt vs[i]?
    | _ => .fail
  | .call { callee := .builtin b, args := args, argTypes := ts } =>
    match b, args.toList, ts.toList with
    | .len, [x], [t] => .ofOpt (lenU P t (ρ x))
    | .min, [x, y], _ => .ofOpt (minU (ρ x) (ρ y))
    | .max, [x, y], _ => .ofOpt (maxU (ρ x) (ρ y))
    | _, _, _ => .fail
  | _ => .fail
end
end Go.Proofs.Ytbnfooeeopmpiaa.TV

namespace Go.Proofs.Ytbnfooeeopmpiaa.TV
open Go Go.RowKit
set_option linter.unusedVariables false
noncomputable section

variable (P : Program)

/-! ### What makes or changes something -/
/-- May a slice with this token grow? What is left then. -/
def useTok (e : TypeId) (tips : List (Option TypeId)) : UTok → Option (List (Option TypeId))
  | .no => none
  | .ex => some tips
  | .gr j => match tips[j]? with
    | some (some e') => if e' = e then some (tips.set j none) else none
    | _ => none
def byteKind : Ty → Bool
  | .int .u8 => true
  | _ => false
def asL (t : Ty) (v : UV) : Option (List t.den) := match v with
  | .slice t' _ l _ => if h : t' = t then some (castL h l) else none
  | .lslice _ es _ => decL (decV t) es
  | .str s => match t with
    | .int .u8 => some (byteInts s)
    | _ => none
  | _ => none
def tokOf : UV → UTok
  | .slice _ _ _ t => t
  | .lslice _ _ t => t
  | _ => .no
def appendTyU (h : UHeap) (ty : Ty) (elem : TypeId) (x y : UV) : Tree (UV × UHeap) :=
  if ty.size = P.cellsOf elem then
    match asL ty x, asL ty y with
    | some l, some l' => .ite l'.isEmpty (.leaf (x, h)) (.ite (decide ((l.length + l'.length) * P.bytesOf elem ≤ 140737488355328))
      (match useTok elem h.tips (tokOf x) with
        | some tips => .leaf (.slice ty (some false) (l ++ l') (.gr tips.length), { h with tips := tips ++ [some elem] })
        | none => .fail) .fail)
    | _, _ => .fail
  else .fail
def fineU (n : Nat) (e : UV) : Bool := e.cells.length == n && e.cells.all cellOkU
def appendU (h : UHeap) (t u : TypeId) (x y : UV) : Tree (UV × UHeap) :=
  match P.underlying t, P.underlying u with
  | some (.slice elem), some ud =>
    if srcKind ud && decide (0 < P.bytesOf elem) && decide (0 < P.cellsOf elem) && zeroFits P elem then
      match x, y with
      | .lslice b es tok, .lslice _ es' _ =>
        if es'.isEmpty then .leaf (x, h) else
        if es.all (fineU (P.cellsOf elem)) && es'.all (fineU (P.cellsOf elem)) && decide ((es.length + es'.length) * P.bytesOf elem ≤ 140737488355328) then
          (match useTok elem h.tips tok with
          | some tips => .leaf (.lslice false (es ++ es') (.gr tips.length), { h with tips := tips ++ [some elem] })
          | none => .fail)
        else .fail
      | .slice ty _ _ _, _ => appendTyU P h ty elem x y
      | .lslice .., .slice ty _ _ _ => appendTyU P h ty elem x y
      | .lslice .., .str _ => appendTyU P h (.int .u8) elem x y
      | _, _ => .fail
    else .fail
  | _, _ => .fail
def storeU (h : UHeap) (k off : Nat) (vs : List UV) : Option UHeap := match h.objs[k]? with
  | some r => if off + vs.length ≤ r.cs.length && vs.all cellOkU && !((r.fz.drop off).take vs.length).any id then some { h with objs := h.objs.set k { r with cs := spliceU r.cs off vs } } else none
  | none => none
def newU (h : UHeap) (cs : List UV) (t : TypeId) : UHeap := { h with objs := h.objs ++ [⟨cs, t, []⟩] }
def undefU : UV := .tup []
/-- What is changed, which rows are written. -/
def effU (h : UHeap) (ρ : Operand → UV) (o : Oper) : Tree (UV × UHeap × List Nat) :=
  match o.op with
  | .alloc t => match zeroU P t with
    | some z => if z.cells.all cellOkU then .leaf (.ptr h.objs.length 0, newU h z.cells t, []) else .fail
    | none => .fail
  | .box t x => if (ρ x).cells.all cellOkU then .leaf (.ptr h.objs.length 0, newU h (ρ x).cells t, []) else .fail
  | .store t a x => match ρ a with
    | .ptr k off => if (ρ x).cells.length = P.cellsOf t && 0 < P.cellsOf t then (match storeU h k off (ρ x).cells with
      | some h => .leaf (undefU, h, [k])
      | none => .fail) else .fail
    | _ => .fail
  | .call { callee := .builtin b, args := args, argTypes := ts } =>
    match b, args.toList, ts.toList with
    | .append, [x, y], [t, u] => (appendU P h t u (ρ x) (ρ y)).bind fun r => .leaf (r.1, r.2, [])
    | _, _, _ => .fail
  | _ => .fail
def calleeU (ρ : Operand → UV) (o : Oper) : Option (FuncId × List UV) := match o.op with
  | .call { callee := .value f, args := args, .. } => match ρ f with
    | .fn (.func g) first captured => some (g, first ++ args.toList.map ρ ++ captured)
    | _ => none
  | _ => none

/-! ### Laying open: identities that make the kernel reckon -/
section
universe u
variable {ρ : Sort u}
def forceN (n : Nat) (k : Nat → ρ) : ρ := match n with
  | 0 => k 0
  | m + 1 => k (m + 1)
def flNil {α : Type} (k : List α → ρ) : ρ := k []
def flStep {α : Type} (x : α) (_ : List α) (ih : (List α → ρ) → ρ) (k : List α → ρ) : ρ := ih fun l => k (x :: l)
def forceL {α : Type} (l : List α) (k : List α → ρ) : ρ := List.rec (motive := fun _ => (List α → ρ) → ρ) flNil flStep l k
def fu_junk (k : UV → ρ) : ρ := k .junk
def fu_bool (b : Bool) (k : UV → ρ) : ρ := k (.bool b)
def fu_int (kd : IntKind) (n : Int) (k : UV → ρ) : ρ := k (.int kd n)
def fu_str (s : List UInt8) (k : UV → ρ) : ρ := k (.str s)
def fu_nilp (k : UV → ρ) : ρ := k .nilp
def fu_ptr (o : Nat) (off : Nat) (k : UV → ρ) : ρ := forceN o fun o => forceN off fun off => k (.ptr o off)
def fu_eptr (cs : List UV) (k : UV → ρ) : ρ := forceL cs fun cs => k (.eptr cs)
def fu_slice (t : Ty) (b : Option Bool) (l : List t.den) (tok : UTok) (k : UV → ρ) : ρ := k (.slice t b l tok)
def fu_lslice (b : Bool) (es : List UV) (tok : UTok) (k : UV → ρ) : ρ := forceL es fun es => k (.lslice b es tok)
def fu_fn (f : Fn) (a : List UV) (c : List UV) (k : UV → ρ) : ρ := k (.fn f a c)
def fu_nilfn (k : UV → ρ) : ρ := k .nilfn
def fu_niliface (k : UV → ρ) : ρ := k .niliface
def fu_iface (t : TypeId) (v : UV) (k : UV → ρ) : ρ := k (.iface t v)
def fu_agg (cs : List UV) (k : UV → ρ) : ρ := forceL cs fun cs => k (.agg cs)
def fu_tup (cs : List UV) (k : UV → ρ) : ρ := forceL cs fun cs => k (.tup cs)
/-- The head of a value. -/
def forceU (v : UV) (k : UV → ρ) : ρ := UV.casesOn (motive_1 := fun _ => (UV → ρ) → ρ) v fu_junk fu_bool fu_int fu_str fu_nilp fu_ptr fu_eptr fu_slice fu_lslice fu_fn fu_nilfn fu_niliface fu_iface fu_agg fu_tup k
def feStep (x : UV) (_ : List UV) (ih : (List UV → ρ) → ρ) (k : List UV → ρ) : ρ := forceU x fun x => ih fun l => k (x :: l)
def forceE (l : List UV) (k : List UV → ρ) : ρ := List.rec (motive := fun _ => (List UV → ρ) → ρ) flNil feStep l k
def frStep (r : Row) (_ : List Row) (ih : (List Row → ρ) → ρ) (k : List Row → ρ) : ρ := match r with
  | ⟨cs, ty, fz⟩ => forceE cs fun cs => forceL fz fun fz => ih fun l => k (⟨cs, ty, fz⟩ :: l)
def forceR (l : List Row) (k : List Row → ρ) : ρ := List.rec (motive := fun _ => (List Row → ρ) → ρ) flNil frStep l k
def forceH (h : UHeap) (k : UHeap → ρ) : ρ := match h with
  | ⟨objs, tips⟩ => forceR objs fun objs => forceL tips fun tips => k ⟨objs, tips⟩
def setNil (_ : Nat) (_ : UV) (k : List UV → ρ) : ρ := k []
def setStep (x : UV) (l : List UV) (ih : Nat → UV → (List UV → ρ) → ρ) (n : Nat) (v : UV) (k : List UV → ρ) : ρ := Nat.rec (motive := fun _ => ρ) (forceU v fun v => k (v :: l)) (fun m _ => ih m v fun l => k (x :: l)) n
def setKU (l : List UV) (n : Nat) (v : UV) (k : List UV → ρ) : ρ := List.rec (motive := fun _ => Nat → UV → (List UV → ρ) → ρ) setNil setStep l n v k
end

/-! ### Regions -/
abbrev CallU := FuncId → List UV → UHeap → Tree (UV × UHeap × List Nat)
def opU (call : CallU) (e : UEnv) (h : UHeap) (o : Oper) : Tree (UV × UHeap × List Nat) :=
  if isRead o then (readU P h (evU e) o).bind fun v => .leaf (v, h, [])
  else match calleeU (evU e) o with
    | some (f, args) => call f args h
    | none => effU P h (evU e) o
/-- What an operation tells; a store that was only read is not laid open again. -/
def openU {ρ : Type 1} (rd : Bool) (r : UV × UHeap × List Nat) (k : UV → UHeap → List Nat → ρ) : ρ := match r with
  | (v, h, w) => match rd with
    | true => k v h w
    | false => forceH h fun h => k v h w
/-- The same of names and store. -/
def goU {ρ : Type 1} (open_ : Bool) (r : UEnv × UHeap) (k : UEnv → UHeap → ρ) : ρ := match r with
  | (e, h) => match open_ with
    | true => k e h
    | false => forceE e fun e => forceH h fun h => k e h
def putU (dst : Option Tmp) (v : UV) (e : UEnv) : UEnv := match dst with
  | some d => e.set d v
  | none => e
def putKU {ρ : Type 1} (dst : Option Tmp) (v : UV) (e : UEnv) (k : UEnv → ρ) : ρ := match dst with
  | some d => setKU e d v k
  | none => k e
/-- Is it wanted? Where that is open: both, each with the name told. -/
def wantU {α : Type} (ops : List Oper) (o : Oper) (e : UEnv) (f : UEnv → Bool → Tree α) : Tree α := match o.guard with
  | none => f e true
  | some (j, want) => match (ops[j]?).bind (·.dst) with
    | some d => match e.at d with
      | .bool b => .ite b (setKU e d (.bool true) fun e => f e (true == want)) (setKU e d (.bool false) fun e => f e (false == want))
      | .tup [] => f e false
      | _ => .fail
    | none => .fail
def opsNil (e : UEnv) (h : UHeap) : Tree (UEnv × UHeap) := .leaf (e, h)
def opsStep (call : CallU) (ops : List Oper) (o : Oper) (_ : List Oper) (ih : UEnv → UHeap → Tree (UEnv × UHeap)) (e : UEnv) (h : UHeap) : Tree (UEnv × UHeap) := wantU ops o e fun e w => match w with
    | true => (opU P call e h o).bind fun r => openU (isRead o) r fun v h _ => putKU o.dst v e fun e => ih e h
    | false => putKU o.dst undefU e fun e => ih e h
def opsU (call : CallU) (ops : List Oper) (l : List Oper) : UEnv → UHeap → Tree (UEnv × UHeap) := List.rec (motive := fun _ => UEnv → UHeap → Tree (UEnv × UHeap)) opsNil (opsStep P call ops) l
/-- The row from which is loaded. -/
def rowOf (ρ : Operand → UV) (o : Oper) : Option Nat := match o.op with
  | .load _ a => match ρ a with
    | .ptr k _ => some k
    | _ => none
  | _ => none
def drawChk (ops : List Oper) (rd : List (Nat × Nat × Nat)) (wr : List (List Nat × Nat)) : Bool :=
  let b := bits ops
  let es := ops.zipIdx.filterMap fun p => if isRead p.1 then none else some p.2
  rd.all fun (i, k0, k) => decide (winLo b es i ≤ k0) && decide (k0 ≤ winHi b es i) && (List.range wr.length).all fun p => !(decide (winLo b es i ≤ p) && decide (p < winHi b es i)) || (!(wr.getD p ([], 0)).1.contains k && decide (k < (wr.getD p ([], 0)).2))
def drawU (call : CallU) (ops : List Oper) : List Oper → Nat → UEnv → UHeap → List (Nat × Nat × Nat) → List (List Nat × Nat) → Tree (UEnv × UHeap)
  | [], _, e, h, rd, wr => if drawChk ops rd.reverse wr.reverse then .leaf (e, h) else .fail
  | o :: rest, i, e, h, rd, wr => wantU ops o e fun e w => match w with
    | true => (opU P call e h o).bind fun r => openU (isRead o) r fun v h' w => putKU o.dst v e fun e' => drawU call ops rest (i + 1) e' h'
        (match rowOf (evU e) o with
          | some k => (i, wr.length, k) :: rd
          | none => rd)
        (if isRead o then wr else (w, h.objs.length) :: wr)
    | false => putKU o.dst undefU e fun e => drawU call ops rest (i + 1) e h rd (if isRead o then wr else ([], h.objs.length) :: wr)

/-! ### Shapes -/
/-- A value's shape: of elements; a slice that may grow; a row; nil; not looked at. -/
inductive PC where
  | ty (t : Ty) | gsl (t : Ty) (e : TypeId) | ptr (k : Nat) | nilp | ign | lit (v : Value)
@[reducible] def PC.den : PC → Type
  | .ty t => t.den
  | .gsl t _ => List t.den
  | _ => Unit
@[reducible] def dens : List PC → Type
  | [] => Unit
  | p :: ps => p.den × dens ps
def PC.toks : PC → List (Option TypeId)
  | .gsl _ e => [some e]
  | _ => []
def toksL (ps : List PC) : List (Option TypeId) := ps.flatMap PC.toks
/-- Is the value that constant? -/
def sameU : Value → UV → Bool
  | .bool b, .bool c => b == c
  | .int k n, .int k' m => decide (k = k') && decide (n = m)
  | .string s, .str t => decide (s.data.toList = t)
  | .pointer none, .nilp => true
  | .slice none 0 0, .lslice true [] .ex => true
  | .nilFunc, .nilfn => true
  | .nilIface, .niliface => true
  | _, _ => false
def injV (m : List Nat) (j : Nat) : (p : PC) → p.den → UV
  | .ty t, x => elemU t x
  | .gsl t _, l => .slice t none l (.gr j)
  | .ptr k, _ => .ptr (m.getD k 0) 0
  | .nilp, _ => .nilp
  | .lit v, _ => constU v
  | .ign, _ => .junk
def injL (m : List Nat) : Nat → (ps : List PC) → dens ps → List UV
  | _, [], _ => []
  | j, p :: ps, d => injV m j p d.1 :: injL m (j + p.toks.length) ps d.2
def exV (m : List Nat) (tips : List (Option TypeId)) : (p : PC) → UV → Option (p.den × List (Option TypeId))
  | .ty t, u => match decV t u with
    | some x => some (x, tips)
    | none => none
  | .gsl t e, u => match u with
    | .slice .. | .lslice .. => (match asL t u, useTok e tips (tokOf u) with
      | some l, some tips => some (l, tips)
      | _, _ => none)
    | _ => none
  | .ptr k, .ptr K 0 => if m[k]? = some K then some ((), tips) else none
  | .nilp, .nilp => some ((), tips)
  | .lit v, u => if sameU v u then some ((), tips) else none
  | .ign, _ => some ((), tips)
  | _, _ => none
def exL (m : List Nat) : List (Option TypeId) → (ps : List PC) → List UV → Option (dens ps × List (Option TypeId))
  | tips, [], [] => some ((), tips)
  | tips, p :: ps, u :: us => match exV m tips p u with
    | some (x, tips) => match exL m tips ps us with
      | some (y, tips) => some ((x, y), tips)
      | none => none
    | none => none
  | _, _, _ => none

/-! ### Places in a state: names and cells -/
structure Cut where
  vars : List (Nat × PC)
  cells : List (Nat × Nat × PC)
  retv : List (Nat × PC)
  retc : List (Nat × Nat × PC)
def pcs (vs : List (Nat × PC)) (cs : List (Nat × Nat × PC)) : List PC := vs.map (·.2) ++ cs.map (·.2.2)
def cellAt (h : UHeap) (k off : Nat) : UV := match h.objs[k]? with
  | some r => r.cs.getD off .junk
  | none => .junk
def gather (vs : List (Nat × PC)) (cs : List (Nat × Nat × PC)) (e : UEnv) (h : UHeap) : List UV := vs.map (fun p => e.at p.1) ++ cs.map fun p => cellAt h p.1 p.2.1
def setVars : List (Nat × PC) → List UV → UEnv → UEnv
  | p :: ps, u :: us, e => setVars ps us (e.set p.1 u)
  | _, _, e => e
def setCell (objs : List Row) (k off : Nat) (u : UV) : List Row := objs.modify k fun r => { r with cs := r.cs.set off u }
def setCells : List (Nat × Nat × PC) → List UV → List Row → List Row
  | p :: ps, u :: us, o => setCells ps us (setCell o p.1 p.2.1 u)
  | _, _, o => o
/-- Nothing but these cells may be changed. -/
def fzOne (k : Nat) (cs : List (Nat × Nat × PC)) (n : Nat) : List Bool := (List.range n).map fun off => !(cs.any fun p => p.1 == k && p.2.1 == off)
def freezeGo (cs : List (Nat × Nat × PC)) : Nat → List Row → List Row
  | _, [] => []
  | k, r :: l => { r with fz := fzOne k cs r.cs.length } :: freezeGo cs (k + 1) l
def freeze (cs : List (Nat × Nat × PC)) (objs : List Row) : List Row := freezeGo cs 0 objs
def cellsFree (h : UHeap) (cs : List (Nat × Nat × PC)) : Bool := cs.all fun p => match h.objs[p.1]? with
  | some r => decide (p.2.1 < r.cs.length) && !(r.fz.getD p.2.1 false)
  | none => false
/-- The cells of both outcomes are the same. -/
def sameCells (a b : List (Nat × Nat × PC)) : Bool := a.map (fun p => (p.1, p.2.1)) == b.map (fun p => (p.1, p.2.1))
def dead (tips : List (Option TypeId)) : List (Option TypeId) := tips.map fun _ => none

def asgOps : List Oper → Nat → Bool
  | [], _ => false
  | o :: l, d => (o.dst == some d) || asgOps l d
def asg : Code → Nat → Bool
  | .region _ ops _, d => asgOps ops.toList d
  | .seq a b, d => asg a d || asg b d
  | .cond _ a b, d => asg a d || asg b d
  | .block _ a, d => asg a d
  | .loop a, d => asg a d
  | _, _ => false
def clearGo (c : Code) : Nat → UEnv → UEnv
  | _, [] => []
  | i, v :: l => (if asg c i then .junk else v) :: clearGo c (i + 1) l
def clear (c : Code) (e : UEnv) : UEnv := clearGo c 0 e
/-- The state with the places told anew; ahead of it stand the tokens tips; the rows' freezing is fr. -/
def scatter (c : Code) (vs : List (Nat × PC)) (cs : List (Nat × Nat × PC)) (m : List Nat) (tips : List (Option TypeId)) (fr : List Row → List Row) (e : UEnv) (h : UHeap) (d : dens (pcs vs cs)) : UEnv × UHeap :=
  let us := injL m tips.length (pcs vs cs) d
  (setVars vs us (clear c e), ⟨fr (setCells cs (us.drop vs.length) h.objs), tips ++ toksL (pcs vs cs)⟩)
def ids (h : UHeap) : List Nat := List.range h.objs.length

/-! ### Loops -/
inductive Rnd (σ ρ : Type) where
  | next (s : σ) | out (s : σ) | ret (r : ρ)
def iterN {σ ρ : Type} (f : σ → Option (Rnd σ ρ)) : Nat → σ → Option (σ ⊕ ρ)
  | 0, _ => none
  | n + 1, st => match f st with
    | some (.next st) => iterN f n st
    | some (.out st) => some (.inl st)
    | some (.ret r) => some (.inr r)
    | none => none
open Classical in
def loop {σ ρ : Type} (f : σ → Option (Rnd σ ρ)) (st : σ) : Option (σ ⊕ ρ) :=
  if h : ∃ n r, iterN f n st = some r then some (Classical.choose (Classical.choose_spec h)) else none

/-! ### Code -/
structure Cuts where
  loops : List (Nat × Cut)
  regs : List (Nat × Cut)
  conds : List (Nat × Cut)
abbrev CodeU := UEnv → UHeap → Tree (Ex × UEnv × UHeap)
/-- A piece of code whose outcome is told by the places alone. -/
def joinU (c : Code) (C : Cut) (f : CodeU) : CodeU := fun e h =>
  if cellsFree h C.cells && sameCells C.cells C.retc then
    .two ((forceH ⟨freeze C.cells h.objs, dead h.tips⟩ fun h => f e h).run fun o => match o.1 with
        | .normal => (exL (ids h) o.2.2.tips (pcs C.vars C.cells) (gather C.vars C.cells o.2.1 o.2.2)).map fun r => Sum.inl r.1
        | .ret => (exL (ids h) o.2.2.tips (pcs C.retv C.retc) (gather C.retv C.retc o.2.1 o.2.2)).map fun r => Sum.inr r.1
        | .exit _ => none)
      (fun d => .leaf (.normal, scatter c C.vars C.cells (ids h) h.tips (fun x => x) e h d))
      (fun d => .leaf (.ret, scatter c C.retv C.retc (ids h) h.tips (fun x => x) e h d))
  else .fail
def cutU (c : Code) (id : Nat) (C : Cut) (f : CodeU) : CodeU := fun e h =>
  if cellsFree h C.cells && sameCells C.cells C.retc then
    match exL (ids h) h.tips (pcs C.vars C.cells) (gather C.vars C.cells e h) with
    | none => .fail
    | some (d, tips) =>
      .two (loop (fun d =>
          let s := scatter c C.vars C.cells (ids h) (dead tips) (freeze C.cells) e h d
          (forceE s.1 fun e => forceH s.2 fun h => f e h).run fun o => match o.1 with
            | .normal => (exL (ids h) o.2.2.tips (pcs C.vars C.cells) (gather C.vars C.cells o.2.1 o.2.2)).map fun r => Rnd.next r.1
            | .exit i => if i = id then (exL (ids h) o.2.2.tips (pcs C.vars C.cells) (gather C.vars C.cells o.2.1 o.2.2)).map fun r => Rnd.out r.1 else none
            | .ret => (exL (ids h) o.2.2.tips (pcs C.retv C.retc) (gather C.retv C.retc o.2.1 o.2.2)).map fun r => Rnd.ret r.1) d)
        (fun d => .leaf (.normal, scatter c C.vars C.cells (TV.ids h) tips (fun x => x) e h d))
        (fun d => .leaf (.ret, scatter c C.retv C.retc (TV.ids h) tips (fun x => x) e h d))
  else .fail
def loopU (f : CodeU) : Nat → CodeU
  | 0, _, _ => .fail
  | n + 1, e, h => (f e h).bind fun o => match o.1 with
    | .normal => forceE o.2.1 fun e => forceH o.2.2 fun h => loopU f n e h
    | _ => .leaf o
def condKey : Operand → Option Nat
  | .tmp t => some t
  | _ => none
def condU (e : UEnv) (c : Operand) (a b : Tree (Ex × UEnv × UHeap)) : Tree (Ex × UEnv × UHeap) := match evU e c with
  | .bool x => .ite x a b
  | _ => .fail
/-- Behind this piece all lies open. -/
def openC (C : Cuts) : Code → Bool
  | .region id _ _ => (C.regs.lookup id).isNone
  | .skip => true
  | _ => false
def codeU (call : CallU) (C : Cuts) (fuel : Nat) : Code → CodeU
  | .skip, e, h => .leaf (.normal, e, h)
  | .seq a b, e, h => (codeU call C fuel a e h).bind fun o => match o.1 with
    | .normal => goU (openC C a) o.2 fun e h => codeU call C fuel b e h
    | _ => .leaf o
  | .cond c a b, e, h => match (condKey c).bind fun t => C.conds.lookup t with
    | some K => joinU (.cond c a b) K (fun e h => condU e c (codeU call C fuel a e h) (codeU call C fuel b e h)) e h
    | none => condU e c (codeU call C fuel a e h) (codeU call C fuel b e h)
  | .block id (.loop a), e, h => match C.loops.lookup id with
    | some K => cutU (.loop a) id K (codeU call C fuel a) e h
    | none => (loopU (codeU call C fuel a) fuel e h).bind fun o => match o.1 with
      | .exit i => if i = id then .leaf (.normal, o.2.1, o.2.2) else .leaf o
      | _ => .leaf o
  | .block id a, e, h => (codeU call C fuel a e h).bind fun o => match o.1 with
    | .exit i => if i = id then .leaf (.normal, o.2.1, o.2.2) else .leaf o
    | _ => .leaf o
  | .loop a, e, h => loopU (codeU call C fuel a) fuel e h
  | .exit id, e, h => .leaf (.exit id, e, h)
  | .ret, e, h => .leaf (.ret, e, h)
  | .region id ops draw, e, h =>
    let f : CodeU := fun e h => (if draw then (if regionOk ops.toList then drawU P call ops.toList ops.toList 0 e h [] [] else .fail) else opsU P call ops.toList ops.toList e h).bind fun r => .leaf (.normal, r.1, r.2)
    match C.regs.lookup id with
    | some K => joinU (.region id ops draw) K f e h
    | none => f e h
  | _, _, _ => .fail

/-! ### Functions -/
/-- A cell of a row that is handed over: not looked at; read; changed. -/
inductive RC where
  | ign | ro (p : PC) | rw (p q : PC)
def RC.inP : RC → PC
  | .ign => .ign
  | .ro p => p
  | .rw p _ => p
def RC.frozen : RC → Bool
  | .rw _ _ => false
  | _ => true
/-- Where a row is found: a value of the list; a cell of a row. -/
inductive Path where
  | val (i : Nat) | cell (k off : Nat)
structure Sig where
  ins : List PC
  rows : List (List RC × TypeId)
  from' : List Path
  outs : List PC
  news : List (List PC × TypeId)
  newFrom : List Path
def Sig.inP (g : Sig) : List PC := g.ins ++ g.rows.flatMap fun r => r.1.map RC.inP
/-- The cells that are changed, by their places. -/
def rwGo : Nat → Nat → List RC → List (Nat × Nat × PC)
  | _, _, [] => []
  | k, off, .rw _ q :: l => (k, off, q) :: rwGo k (off + 1) l
  | k, off, _ :: l => rwGo k (off + 1) l
def rwRows : Nat → List (List RC × TypeId) → List (Nat × Nat × PC)
  | _, [] => []
  | k, r :: l => rwGo k 0 r.1 ++ rwRows (k + 1) l
def Sig.rw (g : Sig) : List (Nat × Nat × PC) := rwRows 0 g.rows
def Sig.outP (g : Sig) : List PC := g.outs ++ g.rw.map (·.2.2) ++ g.news.flatMap (·.1)
/-- Rows out of a list of cells. -/
def rowsOf : List (List RC × TypeId) → List UV → List Row
  | [], _ => []
  | r :: l, us => ⟨us.take r.1.length, r.2, r.1.map RC.frozen⟩ :: rowsOf l (us.drop r.1.length)
def Sig.start (g : Sig) (d : dens g.inP) : List UV × UHeap :=
  let us := injL (List.range g.rows.length) 0 g.inP d
  (us.take g.ins.length, ⟨rowsOf g.rows (us.drop g.ins.length), toksL g.inP⟩)
/-- The rows' numbers, as they are found. -/
def findRows (vals : List UV) (h : UHeap) : List Path → List Nat → Option (List Nat)
  | [], m => some m
  | p :: ps, m => match (match p with
      | .val i => vals.getD i .junk
      | .cell k off => match m[k]? with
        | some K => cellAt h K off
        | none => .junk) with
    | .ptr K 0 => if m.contains K then none else findRows vals h ps (m ++ [K])
    | _ => none
def valsOf (v : UV) (n : Nat) : List UV := if n = 1 then [v] else match v with
  | .tup vs => vs
  | _ => []
def rowCs (h : UHeap) (k : Nat) : List UV := match h.objs[k]? with
  | some r => r.cs
  | none => []
def rowTy (h : UHeap) (k : Nat) : Option TypeId := (h.objs[k]?).map (·.ty)
def resultsU (h : UHeap) (e : UEnv) : List ResultVar → Option (List UV)
  | [] => some []
  | .tmp t :: l => match resultsU h e l with
    | some r => some (e.at t :: r)
    | none => none
  | .cell a t :: l => match loadU P h t (e.at a), resultsU h e l with
    | some v, some r => some (v :: r)
    | _, _ => none
/-- What a function answers. -/
def fnU (call : CallU) (C : Cuts) (fuel : Nat) (g : Sig) (fn : Func) (c : Code) (d : dens g.inP) : Option (dens g.outP) :=
  (forceE ((g.start d).1 ++ List.replicate (fn.ntmps - (g.start d).1.length) undefU) fun e => forceH (g.start d).2 fun h => codeU P call C fuel c e h).run fun o => match o.1 with
    | .exit _ => none
    | _ => match resultsU P o.2.2 o.2.1 fn.results.toList with
      | some vs => if vs.length = g.outs.length ∧ g.newFrom.length = g.news.length then
          (match findRows (vs ++ g.rw.map fun p => cellAt o.2.2 p.1 p.2.1) o.2.2 g.newFrom (List.range g.rows.length) with
          | some m => if (m.drop g.rows.length).zip g.news |>.all fun p => rowTy o.2.2 p.1 == some p.2.2 && (rowCs o.2.2 p.1).length == p.2.1.length then
              (exL m o.2.2.tips g.outP (vs ++ (g.rw.map fun p => cellAt o.2.2 p.1 p.2.1) ++ (m.drop g.rows.length).flatMap (rowCs o.2.2))).map (·.1) else none
          | none => none) else none
      | none => none
/-- A call of a function that is told so. -/
def callOf (g : Sig) (f : dens g.inP → Option (dens g.outP)) (args : List UV) (h : UHeap) : Tree (UV × UHeap × List Nat) :=
  match findRows args h g.from' [] with
  | none => .fail
  | some m =>
    if args.length = g.ins.length && m.length == g.rows.length && ((m.zip g.rows).all fun p => rowTy h p.1 == some p.2.2 && (rowCs h p.1).length == p.2.1.length) && cellsFree h (g.rw.map fun p => (m.getD p.1 0, p.2)) then
      match exL m h.tips g.inP (args ++ m.flatMap (rowCs h)) with
      | none => .fail
      | some (d, tips) => .opt (f d) fun r =>
        let m' := m ++ (List.range g.news.length).map (h.objs.length + ·)
        let us := injL m' tips.length g.outP r
        .leaf (if g.outs.length = 1 then us.headD .junk else .tup (us.take g.outs.length),
          ⟨setCells (g.rw.map fun p => (m.getD p.1 0, p.2)) (us.drop g.outs.length) h.objs ++ (rowsOf (g.news.map fun r => (r.1.map fun p => .rw p p, r.2)) (us.drop (g.outs.length + g.rw.length))), tips ++ toksL g.outP⟩,
          (g.rw.map fun p => m.getD p.1 0))
    else .fail
end
end Go.Proofs.Ytbnfooeeopmpiaa.TV
