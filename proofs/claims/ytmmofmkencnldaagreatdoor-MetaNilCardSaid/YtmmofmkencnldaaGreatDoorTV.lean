/-
  TV: an evaluator of the model's operations on plain values (trees): slices are lists, objects lie in a store of their own, nothing is drawn. This text: the definitions.
-/
import GoSem.Step
import Derived.Control
import Derived.Test.YtmmofmkencnldaaGreatDoorTVOwn
namespace Go.Proofs.YtmmofmkencnldaaGreatDoor.TV
open Go
noncomputable section

/-- What may be appended to a slice: unknown room; no room beyond its end; the tip of a row that only it may be appended to. -/
inductive Tok where
  | unk | exact | tip (id : Nat)

/-- Plain values. -/
inductive TV where
  | junk
  | bool (b : Bool)
  | int (k : IntKind) (n : Int)
  | str (s : List UInt8)
  | nilp
  | ptr (o off : Nat)
  | eptr (cs : List TV)
  | slice (isnil : Bool) (es : List TV) (tok : Tok)
  | osl (o off len cap : Nat)
  | gsl (o len : Nat)
  | map (o : Option Nat)
  | fn (f : Fn) (first captured : List TV)
  | nilfn
  | iface (t : TypeId) (v : TV)
  | niliface
  | agg (cs : List TV)
  | tup (vs : List TV)
  deriving Inhabited

def TV.cells : TV → List TV
  | .agg cs => cs
  | v => [v]

def isJunk : TV → Bool
  | .junk => true
  | _ => false

/-- What may lie in a cell. -/
def cellOk : TV → Bool
  | .junk | .agg _ | .tup _ => false
  | _ => true

/-- An object of the store: cells (with the type of its elements), or a map. -/
inductive Obj where
  | cells (cs : List TV) (t : TypeId)
  | map (es : List (TV × TV × Nat)) (clock : Nat)

/-- A store by numbers. -/
inductive Tr (α : Type) where
  | nil
  | node (v : Option α) (l r : Tr α)

namespace Tr
variable {α : Type}
def get : Tr α → Nat → Option α
  | .nil, _ => none
  | .node v l r, n => if n = 0 then v else if n % 2 = 1 then get l (n / 2) else get r (n / 2 - 1)
def one : Nat → Nat → α → Tr α
  | 0, _, v => .node (some v) .nil .nil
  | f + 1, n, v => if n = 0 then .node (some v) .nil .nil else if n % 2 = 1 then .node none (one f (n / 2) v) .nil else .node none .nil (one f (n / 2 - 1) v)
def set : Tr α → Nat → α → Tr α
  | .nil, n, v => one n n v
  | .node u l r, n, v => if n = 0 then .node (some v) l r else if n % 2 = 1 then .node u (set l (n / 2) v) r else .node u l (set r (n / 2 - 1) v)
/-- The same, laid open on its way. -/
def setK {ρ : Type} : Tr α → Nat → α → (Tr α → ρ) → ρ
  | .nil, n, v, k => k (one n n v)
  | .node u l r, n, v, k => if n = 0 then k (.node (some v) l r) else if n % 2 = 1 then setK l (n / 2) v (fun l => k (.node u l r)) else setK r (n / 2 - 1) v (fun r => k (.node u l r))
end Tr

structure St where
  n : Nat
  objs : Tr Obj
  ntips : Nat
  tips : Tr (Nat × TypeId)

def St.none : St := ⟨0, .nil, 0, .nil⟩

/-! ### Laying open: identities that make the kernel reckon -/
section
variable {ρ : Type}
def forceNat (n : Nat) (k : Nat → ρ) : ρ := match n with
  | 0 => k 0
  | m + 1 => k (m + 1)
def forceInt (n : Int) (k : Int → ρ) : ρ := match n with
  | .ofNat m => forceNat m fun m => k (.ofNat m)
  | .negSucc m => forceNat m fun m => k (.negSucc m)
def flN {α : Type} (k : List α → ρ) : ρ := k []
def flS {α : Type} (x : α) (_ : List α) (ih : (List α → ρ) → ρ) (k : List α → ρ) : ρ := ih fun l => k (x :: l)
/-- Written by recursors with named parts: the kernel lays them open fast. -/
def forceList {α : Type} (l : List α) (k : List α → ρ) : ρ := List.rec (motive := fun _ => (List α → ρ) → ρ) flN flS l k
def fv_junk (k : TV → ρ) : ρ := k .junk
def fv_bool (b : Bool) (k : TV → ρ) : ρ := match b with | true => k (.bool true) | false => k (.bool false)
def fv_int (kd : IntKind) (n : Int) (k : TV → ρ) : ρ := forceInt n fun n => k (.int kd n)
def fv_str (s : List UInt8) (k : TV → ρ) : ρ := forceList s fun s => k (.str s)
def fv_nilp (k : TV → ρ) : ρ := k .nilp
def fv_ptr (o off : Nat) (k : TV → ρ) : ρ := forceNat o fun o => forceNat off fun off => k (.ptr o off)
def fv_eptr (cs : List TV) (k : TV → ρ) : ρ := forceList cs fun cs => k (.eptr cs)
def fv_slice (b : Bool) (es : List TV) (t : Tok) (k : TV → ρ) : ρ := match b with | true => forceList es fun es => k (.slice true es t) | false => forceList es fun es => k (.slice false es t)
def fv_osl (o off len cap : Nat) (k : TV → ρ) : ρ := forceNat o fun o => forceNat off fun off => forceNat len fun len => forceNat cap fun cap => k (.osl o off len cap)
def fv_gsl (o len : Nat) (k : TV → ρ) : ρ := forceNat o fun o => forceNat len fun len => k (.gsl o len)
def fv_map (o : Option Nat) (k : TV → ρ) : ρ := match o with | some o => forceNat o fun o => k (.map (some o)) | none => k (.map none)
def fv_fn (f : Fn) (a c : List TV) (k : TV → ρ) : ρ := k (.fn f a c)
def fv_nilfn (k : TV → ρ) : ρ := k .nilfn
def fv_iface (t : TypeId) (v : TV) (k : TV → ρ) : ρ := k (.iface t v)
def fv_niliface (k : TV → ρ) : ρ := k .niliface
def fv_agg (cs : List TV) (k : TV → ρ) : ρ := forceList cs fun cs => k (.agg cs)
def fv_tup (cs : List TV) (k : TV → ρ) : ρ := forceList cs fun cs => k (.tup cs)
def forceV (v : TV) (k : TV → ρ) : ρ := TV.casesOn (motive_1 := fun _ => (TV → ρ) → ρ) v fv_junk fv_bool fv_int fv_str fv_nilp fv_ptr fv_eptr fv_slice fv_osl fv_gsl fv_map fv_fn fv_nilfn fv_iface fv_niliface fv_agg fv_tup k
def forceTr {α : Type} (t : Tr α) (k : Tr α → ρ) : ρ := match t with
  | .nil => k .nil
  | .node v l r => k (.node v l r)
def forceSt (s : St) (k : St → ρ) : ρ := match s with
  | ⟨n, objs, nt, tips⟩ => forceNat n fun n => forceTr objs fun objs => forceNat nt fun nt => forceTr tips fun tips => k ⟨n, objs, nt, tips⟩
def skN (_ : Nat) (_ : TV) (k : List TV → ρ) : ρ := k []
def skS (x : TV) (l : List TV) (ih : Nat → TV → (List TV → ρ) → ρ) (n : Nat) (v : TV) (k : List TV → ρ) : ρ := Nat.rec (motive := fun _ => ρ) (k (v :: l)) (fun m _ => ih m v fun l => k (x :: l)) n
def setK (l : List TV) (n : Nat) (v : TV) (k : List TV → ρ) : ρ := List.rec (motive := fun _ => Nat → TV → (List TV → ρ) → ρ) skN skS l n v k
end

/-! ### Values of the code's constants -/
mutual
def ofConst : Value → TV
  | .bool b => .bool b
  | .int k n => .int k n
  | .string s => .str s.data.toList
  | .pointer none => .nilp
  | .slice none 0 0 => .slice true [] .exact
  | .map none => .map none
  | .nilFunc => .nilfn
  | .nilIface => .niliface
  | .agg ⟨cs⟩ => .agg (ofConsts cs)
  | .tuple ⟨vs⟩ => .tup (ofConsts vs)
  | .iface t v => .iface t (ofConst v)
  | _ => .junk
def ofConsts : List Value → List TV
  | [] => []
  | v :: l => ofConst v :: ofConsts l
end

abbrev Env := List TV
def atS (x : TV) (_ : List TV) (ih : Nat → TV) (n : Nat) : TV := Nat.rec (motive := fun _ => TV) x (fun m _ => ih m) n
def Env.at (e : Env) (t : Nat) : TV := List.rec (motive := fun _ => Nat → TV) (fun _ => .junk) atS e t
def ev (e : Env) : Operand → TV
  | .tmp t => e.at t
  | .const v => ofConst v
  | .global n => match globC n with
    | [] => .junk
    | cs => .eptr (cs.map fun p => .int p.1 p.2)
  | .func f => .fn (.func f) [] []

/-! ### Operations -/
variable (P : Program)

def isAggT (t : TypeId) : Bool := match P.underlying t with
  | some (.struct _) | some (.array _ _) => true
  | _ => false

/-- A value of type t out of cells. -/
def take (t : TypeId) (cs : List TV) : Option TV :=
  if (P.underlying t).isNone then none else
  if isAggT P t then (if P.cellsOf t ≤ cs.length then some (.agg (cs.take (P.cellsOf t))) else none)
  else cs.head?

def splice (cs : List TV) (off : Nat) (vs : List TV) : List TV := cs.take off ++ vs ++ cs.drop (off + vs.length)

def fillT (place : Nat → Option (Nat × Nat)) : List TV → List (Nat × TV) → Option (List TV)
  | cells, [] => some cells
  | cells, (i, v) :: rest =>
    match place i with
    | none => none
    | some (off, size) => if v.cells.length ≠ size || off + size > cells.length || isJunk v then none else fillT place (splice cells off v.cells) rest

def zeroT (t : TypeId) : Option TV := match P.info? t with
  | some i => i.zero.map ofConst
  | none => none

def buildT (t : TypeId) (parts : List (Nat × TV)) : Option TV :=
  match zeroT P t, P.underlying t with
  | some z, some (.struct fields) => if isJunk z || !(fields.toList.all fun f => (P.info? f.type).isSome) then none else
    (fillT (fun i => (fields[i]?).map fun f => (f.offset, P.cellsOf f.type)) z.cells parts).map .agg
  | some z, some (.array _ elem) => if isJunk z || (P.info? elem).isNone then none else (fillT (fun i => some (i * P.cellsOf elem, P.cellsOf elem)) z.cells parts).map .agg
  | _, _ => none

def setEs : List TV → List (Nat × TV) → List TV
  | es, [] => es
  | es, (i, v) :: rest => setEs (es.set i v) rest

def buildSliceT (t : TypeId) (len : Nat) (parts : List (Nat × TV)) : Option TV :=
  match P.underlying t with
  | some (.slice elem) =>
    if parts.all (fun p => p.1 < len && (p.2.cells.length == P.cellsOf elem) && p.2.cells.all cellOk) && 0 < P.cellsOf elem && len * P.cellsOf elem ≤ 2 ^ 24 then
      match zeroT P elem with
      | some z => if z.cells.all cellOk && z.cells.length == P.cellsOf elem then some (.slice false (setEs (List.replicate len z) parts) .exact) else none
      | none => none
    else none
  | _ => none

def natOf (x : Option TV) (d : Nat) : Option Nat := match x with
  | none => some d
  | some (.int _ n) => if 0 ≤ n then some n.toNat else none
  | some _ => none
def sliceBounds (len cap : Nat) (lo hi mx : Option TV) : Option (Nat × Nat × Nat) :=
  match natOf mx cap, natOf hi len, natOf lo 0 with
  | some m, some h, some l => if l ≤ h && h ≤ m && m ≤ cap && (mx.isNone || hi.isSome) then some (l, h, m) else none
  | _, _, _ => none
/-- What may be appended to a piece of a slice. -/
def sliceTok (tok : Tok) (n l h m : Nat) (mx : Bool) : Tok :=
  if mx && h == m then .exact else match tok with
  | .exact => if h == n then .exact else .unk
  | .tip i => if l == 0 && h == n then .tip i else .unk
  | .unk => .unk

def headOk (n : Nat) : List TV → Bool
  | [] => true
  | e :: _ => e.cells.length == n

def sliceT (t : TypeId) (x : TV) (lo hi mx : Option TV) : Option TV :=
  match P.underlying t, x with
  | some .string, .str s => if mx.isSome then none else match sliceBounds s.length s.length lo hi mx with
    | some (l, h, _) => some (.str ((s.take h).drop l))
    | none => none
  | some (.slice elem), .slice b es tok => if P.cellsOf elem = 0 || !headOk (P.cellsOf elem) es then none else match sliceBounds es.length es.length lo hi mx with
    | some (l, h, m) => some (.slice b ((es.take h).drop l) (sliceTok tok es.length l h m mx.isSome))
    | none => none
  | some (.slice elem), .osl o off len cap => if P.cellsOf elem = 0 then none else match sliceBounds len cap lo hi mx with
    | some (l, h, m) => some (.osl o (off + l * P.cellsOf elem) (h - l) (m - l))
    | none => none
  | some (.array n elem), .ptr o off => if P.cellsOf elem = 0 then none else match sliceBounds n n lo hi mx with
    | some (l, h, m) => some (.osl o (off + l * P.cellsOf elem) (h - l) (m - l))
    | none => none
  | _, _ => none

def fieldAddrT (s : TypeId) (x : TV) (f : Nat) : Option TV :=
  match P.underlying s with
  | some (.struct fields) => match fields[f]? with
    | some fd => if P.cellsOf fd.type = 0 then none else
      match x with
      | .ptr o off => some (.ptr o (off + fd.offset))
      | .eptr cs => some (.eptr (cs.drop fd.offset))
      | _ => none
    | none => none
  | _ => none

def indexAddrT (t : TypeId) (x i : TV) : Option TV :=
  match i with
  | .int _ n => if n < 0 then none else
    match P.underlying t, x with
    | some (.slice elem), .slice _ es _ => match es[n.toNat]? with
      | some e => if e.cells.length = P.cellsOf elem then some (.eptr e.cells) else none
      | none => none
    | some (.slice elem), .osl o off len _ => if n < len && 0 < P.cellsOf elem then some (.ptr o (off + n.toNat * P.cellsOf elem)) else none
    | some (.array len elem), .ptr o off => if n < len && 0 < P.cellsOf elem then some (.ptr o (off + n.toNat * P.cellsOf elem)) else none
    | some (.array len elem), .eptr cs => if n < len && 0 < P.cellsOf elem then some (.eptr (cs.drop (n.toNat * P.cellsOf elem))) else none
    | _, _ => none
  | _ => none

def indexT (t : TypeId) (x i : TV) : Option TV :=
  match i with
  | .int _ n => if n < 0 then none else
    match P.underlying t, x with
    | some (.array len elem), .agg cs => if n < len then take P elem (cs.drop (n.toNat * P.cellsOf elem)) else none
    | some .string, .str s => (s[n.toNat]?).map fun b => .int .u8 b.toNat
    | _, _ => none
  | _ => none

def fieldT (t : TypeId) (x : TV) (f : Nat) : Option TV :=
  match P.underlying t, x with
  | some (.struct fields), .agg cs => match fields[f]? with
    | some fd => take P fd.type (cs.drop fd.offset)
    | none => none
  | _, _ => none

/-- Equal? Of whole numbers, bools, texts, what is nil, structs of these. -/
def eqT : Nat → TypeId → TV → TV → Option Bool
  | 0, _, _, _ => none
  | d + 1, t, x, y =>
    match P.underlying t, x, y with
    | some .bool, .bool a, .bool b => some (a == b)
    | some (.int _), .int k a, .int k' b => if k = k' then some (a == b) else none
    | some .string, .str a, .str b => some (a == b)
    | some (.pointer _), .nilp, .nilp => some true
    | some (.pointer _), .nilp, .ptr _ _ | some (.pointer _), .ptr _ _, .nilp => some false
    | some (.pointer e), .ptr o a, .ptr o' b => if P.cellsOf e = 0 then none else if o = o' then some (a == b) else none
    | some (.interface _), .niliface, .niliface => some true
    | some (.interface _), .niliface, .iface _ _ | some (.interface _), .iface _ _, .niliface => some false
    | some (.struct fields), .agg xs, .agg ys =>
      if P.stoodInHeld t then none else
      fields.toList.foldr (fun f r => if f.name == "_" then r else
        match take P f.type (xs.drop f.offset), take P f.type (ys.drop f.offset) with
        | some a, some b => match eqT d f.type a b with
          | some true => r
          | z => z
        | _, _ => none) (some true)
    | some (.array n elem), .agg xs, .agg ys =>
      if (P.info? elem).isNone then none else
      (List.range n).foldr (fun i r =>
        match take P elem (xs.drop (i * P.cellsOf elem)), take P elem (ys.drop (i * P.cellsOf elem)) with
        | some a, some b => match eqT d elem a b with
          | some true => r
          | z => z
        | _, _ => none) (some true)
    | some (.slice _), .slice a _ _, .slice b _ _ => if a then some b else if b then some false else none
    | some (.slice _), .slice true _ _, .osl .. | some (.slice _), .osl .., .slice true _ _ => some false
    | some (.map _ _), .map none, .map b => some b.isNone
    | some (.map _ _), .map (some _), .map none => some false
    | some (.func _ _ _), .nilfn, .nilfn => some true
    | some (.func _ _ _), .nilfn, .fn .. | some (.func _ _ _), .fn .., .nilfn => some false
    | _, _, _ => none

def binT (op : BinOp) (t : TypeId) (x y : TV) : Option TV :=
  match x, y with
  | .int k a, .int yk b =>
    match op with
    | .shl => if b < 0 then none else some (.int k (k.wrap (a * 2 ^ (min b.toNat k.bits))))
    | .shr => if b < 0 then none else some (.int k (a.fdiv (2 ^ (min b.toNat k.bits))))
    | _ => if k ≠ yk then none else
      match op with
      | .add => some (.int k (k.wrap (a + b)))
      | .sub => some (.int k (k.wrap (a - b)))
      | .mul => some (.int k (k.wrap (a * b)))
      | .quo => if b = 0 then none else some (.int k (k.wrap (a.tdiv b)))
      | .rem => if b = 0 then none else some (.int k (a.tmod b))
      | .and => some (.int k (k.wrap ((BitVec.ofInt k.bits a &&& BitVec.ofInt k.bits b).toNat)))
      | .or => some (.int k (k.wrap ((BitVec.ofInt k.bits a ||| BitVec.ofInt k.bits b).toNat)))
      | .xor => some (.int k (k.wrap ((BitVec.ofInt k.bits a ^^^ BitVec.ofInt k.bits b).toNat)))
      | .andNot => some (.int k (k.wrap ((BitVec.ofInt k.bits a &&& ~~~ (BitVec.ofInt k.bits b)).toNat)))
      | .eql => some (.bool (a == b))
      | .neq => some (.bool (a != b))
      | .lss => some (.bool (a < b))
      | .leq => some (.bool (a ≤ b))
      | .gtr => some (.bool (a > b))
      | .geq => some (.bool (a ≥ b))
      | _ => none
  | .str a, .str b =>
    match op with
    | .add => if a.length + b.length ≤ 9223372036854775807 then some (.str (a ++ b)) else none
    | .eql => some (.bool (a == b))
    | .neq => some (.bool (!(a == b)))
    | .lss => some (.bool (Op.bytesLess a b))
    | .leq => some (.bool (Op.bytesLess a b || a == b))
    | .gtr => some (.bool (!(Op.bytesLess a b || a == b)))
    | .geq => some (.bool (!Op.bytesLess a b))
    | _ => none
  | x, y =>
    match op with
    | .eql => (eqT P 100 t x y).map .bool
    | .neq => (eqT P 100 t x y).map fun b => .bool (!b)
    | _ => none

/-- The comparison of two nil interfaces, or of structs that hold some, is not looked at. -/
def guardT (op : BinOp) (t : TypeId) (x y : Operand) (a b : TV) : Bool :=
  match op with
  | .eql | .neq => match a, b with
    | .niliface, .niliface => (match x with | .const _ => true | _ => false) || (match y with | .const _ => true | _ => false)
    | .agg _, .agg _ => !(P.eqGuardType P.depth t)
    | _, _ => true
  | _ => true

def unT (op : UnOp) (x : TV) : Option TV :=
  match op, x with
  | .neg, .int k n => some (.int k (k.wrap (0 - n)))
  | .xor, .int k n => some (.int k (k.wrap ((BitVec.ofInt k.bits (if k.signed then -1 else k.max) ^^^ BitVec.ofInt k.bits n).toNat)))
  | .not, .bool b => some (.bool !b)
  | _, _ => none

def bytesOf : List TV → Option (List UInt8)
  | [] => some []
  | .int .u8 n :: l => match bytesOf l with
    | some r => some (UInt8.ofNat n.toNat :: r)
    | none => none
  | _ :: _ => none

def objCells (s : St) (o : Nat) : Option (List TV × TypeId) := match s.objs.get o with
  | some (.cells cs t) => some (cs, t)
  | _ => none

/-- The elements of an object's slice. -/
def chunk (size : Nat) : Nat → List TV → List TV
  | 0, _ => []
  | n + 1, cs => (if size = 1 then cs.headD .junk else .agg (cs.take size)) :: chunk size n (cs.drop size)

def convT (s : St) (src dst : TypeId) (x : TV) : Option TV :=
  match P.underlying src, P.underlying dst, x with
  | some _, some (.int k), .int _ n => some (.int k (k.wrap n))
  | some .string, some .string, .str b => some (.str b)
  | some .string, some (.slice e), .str b =>
    match P.underlying e with
    | some (.int .u8) => some (.slice false (b.map fun c => .int .u8 c.toNat) .unk)
    | _ => none
  | some (.slice e), some .string, .slice _ es _ =>
    match P.underlying e with
    | some (.int .u8) => (bytesOf es).map .str
    | _ => none
  | some (.slice e), some .string, .osl o off len _ =>
    match P.underlying e, objCells s o with
    | some (.int .u8), some (cs, _) => if off + len ≤ cs.length then (bytesOf ((cs.drop off).take len)).map .str else none
    | _, _ => none
  | _, _, _ => none

def lenT (s : St) (t : TypeId) (x : TV) : Option TV :=
  match P.underlying t, x with
  | some .string, .str b => some (.int .i64 b.length)
  | some (.array n _), _ => some (.int .i64 n)
  | some (.slice _), .slice _ es _ => some (.int .i64 es.length)
  | some (.slice _), .osl _ _ len _ => some (.int .i64 len)
  | some (.map _ _), .map none => some (.int .i64 0)
  | some (.map _ _), .map (some o) => match s.objs.get o with
    | some (.map es _) => some (.int .i64 es.length)
    | _ => none
  | _, _ => none

def minT (x y : TV) : Option TV := match x, y with
  | .int k a, .int _ b => some (.int k (if b < a then b else a))
  | _, _ => none
def maxT (x y : TV) : Option TV := match x, y with
  | .int k a, .int _ b => some (.int k (if b > a then b else a))
  | _, _ => none

def loadT (s : St) (t : TypeId) (p : TV) : Option TV :=
  match p with
  | .eptr cs => take P t cs
  | .ptr o off => match objCells s o with
    | some (cs, _) => take P t (cs.drop off)
    | none => none
  | _ => none

def keyEq (kd : TypeDesc) (a b : TV) : Option Bool := match kd, a, b with
  | .int _, .int k x, .int k' y => if k = k' then some (x == y) else none
  | .string, .str x, .str y => some (x == y)
  | .bool, .bool x, .bool y => some (x == y)
  | _, _, _ => none
def simpleKey : TypeDesc → Bool
  | .int _ | .string | .bool => true
  | _ => false
def findT (kd : TypeDesc) (k : TV) : List (TV × TV × Nat) → Nat → Option (Option (Nat × TV))
  | [], _ => some none
  | e :: es, i => match keyEq kd k e.1 with
    | some true => some (some (i, e.2.1))
    | some false => findT kd k es (i + 1)
    | none => none

def lookupT (s : St) (t : TypeId) (m k : TV) (ok : Bool) : Option TV :=
  match P.underlying t with
  | some (.map key elem) =>
    let es := match m with
      | .map none => some []
      | .map (some o) => match s.objs.get o with
        | some (.map es _) => some es
        | _ => none
      | _ => none
    match P.underlying key, es with
    | some kd, some es =>
      if !simpleKey kd then none else
      (match findT kd k es 0 with
      | some (some (_, v)) => some (if ok then .tup [v, .bool true] else v)
      | some none => (zeroT P elem).map fun z => if ok then .tup [z, .bool false] else z
      | none => none)
    | _, _ => none
  | _ => none

/-- What only reads. -/
def readT (s : St) (ρ : Operand → TV) (o : Oper) : Option TV :=
  match o.op with
  | .move x | .assign x => some (ρ x)
  | .pick c a b => match ρ c with
    | .bool true => some (ρ a)
    | .bool false => some (ρ b)
    | _ => none
  | .build t parts => buildT P t (parts.toList.map fun p => (p.1, ρ p.2))
  | .buildSlice t len parts => buildSliceT P t len (parts.toList.map fun p => (p.1, ρ p.2))
  | .load t a => loadT P s t (ρ a)
  | .nilCheck x => match ρ x with
    | .ptr o off => some (.ptr o off)
    | .eptr cs => some (.eptr cs)
    | .fn (.func f) a b => some (.fn (.func f) a b)
    | _ => none
  | .binOp op t x y _ => if guardT P op t x y (ρ x) (ρ y) then binT P op t (ρ x) (ρ y) else none
  | .unOp op _ x => unT op (ρ x)
  | .convert src dst x => convT P s src dst (ρ x)
  | .makeInterface t x => match P.underlying t with
    | some (.interface _) => none
    | some _ => some (.iface t (ρ x))
    | none => none
  | .makeFunc f a b => some (.fn f (a.toList.map ρ) (b.toList.map ρ))
  | .slice t x lo hi mx => sliceT P t (ρ x) (lo.map ρ) (hi.map ρ) (mx.map ρ)
  | .fieldAddr t x f => fieldAddrT P t (ρ x) f
  | .field t x f => fieldT P t (ρ x) f
  | .indexAddr t x i => indexAddrT P t (ρ x) (ρ i)
  | .index t x i => indexT P t (ρ x) (ρ i)
  | .lookup t m k ok => lookupT P s t (ρ m) (ρ k) ok
  | .extract x i => match ρ x with
    | .tup vs => vs[i]?
    | _ => none
  | .call { callee := .builtin b, args := args, argTypes := ts } =>
    match b, args.toList, ts.toList with
    | .len, [x], [t] => lenT P s t (ρ x)
    | .min, [x, y], _ => minT (ρ x) (ρ y)
    | .max, [x, y], _ => maxT (ρ x) (ρ y)
    | _, _, _ => none
  | _ => none

def mkObj (s : St) (o : Obj) : St := { s with n := s.n + 1, objs := s.objs.set s.n o }
def setCellsT (s : St) (o : Nat) (off : Nat) (vs : List TV) : Option St := match s.objs.get o with
  | some (.cells cs t) => if off + vs.length ≤ cs.length && vs.all cellOk then some { s with objs := s.objs.set o (.cells (splice cs off vs) t) } else none
  | _ => none

/-- The elements that are appended. -/
def srcT (s : St) (size : Nat) (y : TV) : Option (List TV) := match y with
  | .slice _ es _ => some es
  | .str b => some (b.map fun c => .int .u8 c.toNat)
  | .osl o off len _ => match objCells s o with
    | some (cs, _) => if off + len * size ≤ cs.length && ((cs.drop off).take (len * size)).all cellOk then some (chunk size len (cs.drop off)) else none
    | none => none
  | _ => none

def srcKind : TypeDesc → Bool
  | .slice _ | .string => true
  | _ => false
def zeroFits (t : TypeId) : Bool := match zeroT P t with
  | some z => z.cells.length == P.cellsOf t && !isJunk z
  | none => false
def slotOk (es : List TV) : Bool := es.all fun y => y.cells.all cellOk

/-- append: a slice of one's own grows; one without room is laid anew. -/
def appendT (s : St) (t u : TypeId) (x y : TV) : Option (TV × St) :=
  match P.underlying t, P.underlying u with
  | some (.slice elem), some ud =>
    if !srcKind ud then none else
    match x, srcT s (P.cellsOf elem) y with
    | .slice b es tok, some ys =>
      if ys.isEmpty then (if 0 < P.cellsOf elem then some (.slice b es tok, s) else none) else
      if (es.length + ys.length) * P.bytesOf elem ≤ 140737488355328 && 0 < P.bytesOf elem && 0 < P.cellsOf elem && headOk (P.cellsOf elem) ys && headOk (P.cellsOf elem) es && slotOk ys && zeroFits P elem then
        (match tok with
        | .unk => none
        | .exact => if slotOk es then some (.slice false (es ++ ys) (.tip s.ntips), { s with ntips := s.ntips + 1, tips := s.tips.set s.ntips (es.length + ys.length, elem) }) else none
        | .tip i => match s.tips.get i with
          | some (n, e) => if n = es.length && e == elem then some (.slice false (es ++ ys) (.tip i), { s with tips := s.tips.set i (es.length + ys.length, elem) }) else none
          | none => none)
      else none
    | _, _ => none
  | _, _ => none

/-- append in place: there is room. -/
def appInT (s : St) (t u : TypeId) (o off len cap : Nat) (y : TV) : Option (TV × St) :=
  match P.underlying t, P.underlying u with
  | some (.slice elem), some ud =>
    if !srcKind ud then none else
    match srcT s (P.cellsOf elem) y with
    | some ys => if decide (0 < P.cellsOf elem) && headOk (P.cellsOf elem) ys && slotOk ys && decide (0 < ys.length) && decide (len + ys.length ≤ cap) then
        (setCellsT s o (off + len * P.cellsOf elem) (ys.flatMap TV.cells)).map fun s => (.osl o off (len + ys.length) cap, s) else none
    | none => none
  | _, _ => none
/-- append to nothing: an object. -/
def appNewT (s : St) (t u : TypeId) (y : TV) : Option (TV × St) :=
  match P.underlying t, P.underlying u with
  | some (.slice elem), some ud =>
    if !srcKind ud then none else
    match srcT s (P.cellsOf elem) y with
    | some ys => if decide (0 < P.cellsOf elem) && headOk (P.cellsOf elem) ys && slotOk ys && decide (0 < ys.length) && decide (ys.length * P.bytesOf elem ≤ 140737488355328) && decide (0 < P.bytesOf elem) && zeroFits P elem then
        some (.osl s.n 0 ys.length ys.length, mkObj s (.cells (ys.flatMap TV.cells) elem)) else none
    | none => none
  | _, _ => none
def appendX (s : St) (t u : TypeId) (x y : TV) : Option (TV × St) := match x with
  | .osl o off len cap => appInT P s t u o off len cap y
  | .slice true [] _ => if ownedT t then appNewT P s t u y else appendT P s t u x y
  | _ => appendT P s t u x y

def copyT (s : St) (t : TypeId) (x y : TV) : Option (TV × St) :=
  match P.underlying t with
  | some (.slice elem) =>
    if P.cellsOf elem = 0 then none else
    match x, srcT s (P.cellsOf elem) y with
    | .osl o off len _, some ys =>
      if headOk (P.cellsOf elem) ys && slotOk ys then
        (if min ys.length len = 0 then some (.int .i64 0, s) else
        match setCellsT s o off ((ys.take (min ys.length len)).flatMap TV.cells) with
        | some s => some (.int .i64 (min ys.length len : Nat), s)
        | none => none)
      else none
    | .slice _ [] _, some _ => some (.int .i64 0, s)
    | _, _ => none
  | _ => none

def mapSetT (s : St) (t : TypeId) (m k v : TV) : Option St :=
  match P.underlying t, m with
  | some (.map key _), .map (some o) =>
    match P.underlying key, s.objs.get o with
    | some kd, some (.map es clock) =>
      if !simpleKey kd then none else
      (match findT kd k es 0 with
      | some (some (i, _)) => some { s with objs := s.objs.set o (.map (es.modify i fun e => (k, v, e.2.2)) clock) }
      | some none => some { s with objs := s.objs.set o (.map (es ++ [(k, v, clock)]) (clock + 1)) }
      | none => none)
    | _, _ => none
  | _, _ => none

def deleteT (s : St) (t : TypeId) (m k : TV) : Option St :=
  match P.underlying t, m with
  | some (.map key _), .map (some o) =>
    match P.underlying key, s.objs.get o with
    | some kd, some (.map es clock) =>
      if !simpleKey kd then none else
      (match findT kd k es 0 with
      | some (some (i, _)) => some { s with objs := s.objs.set o (.map (es.eraseIdx i) clock) }
      | some none => some s
      | none => none)
    | _, _ => none
  | some (.map key _), .map none => (match P.underlying key with
    | some kd => if simpleKey kd then some s else none
    | none => none)
  | _, _ => none

def undefT : TV := .tup []

/-- What makes or changes something. -/
def effT (s : St) (ρ : Operand → TV) (o : Oper) : Option (TV × St) :=
  match o.op with
  | .alloc t => match zeroT P t with
    | some z => if z.cells.all cellOk then some (.ptr s.n 0, mkObj s (.cells z.cells t)) else none
    | none => none
  | .box t x => if !isJunk (ρ x) then some (.ptr s.n 0, mkObj s (.cells (ρ x).cells t)) else none
  | .store t a x => match ρ a with
    | .ptr o off => if (ρ x).cells.length = P.cellsOf t && 0 < P.cellsOf t then (setCellsT s o off (ρ x).cells).map fun s => (undefT, s) else none
    | _ => none
  | .makeMap _ none => some (.map (some s.n), mkObj s (.map [] 0))
  | .buildSlice t len parts => match P.underlying t, buildSliceT P t len (parts.toList.map fun p => (p.1, ρ p.2)) with
    | some (.slice elem), some (.slice false es _) => if (es.flatMap TV.cells).all cellOk then some (.osl s.n 0 len len, mkObj s (.cells (es.flatMap TV.cells) elem)) else none
    | _, _ => none
  | .makeSlice t l c => match P.underlying t, ρ l, ρ c with
    | some (.slice elem), .int _ l, .int _ c =>
      if 0 ≤ l && l ≤ c && c * P.bytesOf elem ≤ 140737488355328 && c ≤ 9223372036854775807 && 0 < P.cellsOf elem then
        match zeroT P elem with
        | some z => if z.cells.all cellOk && z.cells.length == P.cellsOf elem then some (.osl s.n 0 l.toNat c.toNat, mkObj s (.cells ((List.replicate c.toNat z.cells).flatten) elem)) else none
        | none => none
      else none
    | _, _, _ => none
  | .mapUpdate t m k v | .insert t m k v => (mapSetT P s t (ρ m) (ρ k) (ρ v)).map fun s => (undefT, s)
  | .call { callee := .builtin b, args := args, argTypes := ts } =>
    match b, args.toList, ts.toList with
    | .append, [x, y], [t, u] => appendX P s t u (ρ x) (ρ y)
    | .copy, [x, y], [t, _] => copyT P s t (ρ x) (ρ y)
    | .delete, [m, k], [t, _] => (deleteT P s t (ρ m) (ρ k)).map fun s => (.tup [], s)
    | _, _, _ => none
  | _ => none

/-- Is it such an operation? -/
def isRead (o : Oper) : Bool := match o.op with
  | .buildSlice t _ _ => !ownedT t
  | .move _ | .assign _ | .pick .. | .build .. | .load .. | .nilCheck _ | .binOp .. | .unOp .. | .convert .. | .makeInterface .. | .makeFunc .. | .slice .. | .fieldAddr ..
  | .field .. | .indexAddr .. | .index .. | .lookup .. | .extract .. | .call { callee := .builtin .len, .. } | .call { callee := .builtin .min, .. } | .call { callee := .builtin .max, .. } => true
  | _ => false

/-- A call of a function of the program: whose, with what. -/
def calleeT (ρ : Operand → TV) (o : Oper) : Option (FuncId × List TV) := match o.op with
  | .call { callee := .value f, args := args, .. } => match ρ f with
    | .fn (.func g) first captured => some (g, first ++ args.toList.map ρ ++ captured)
    | _ => none
  | _ => none

inductive Ex where
  | normal | exit (id : Nat) | ret

section
variable {ρ : Type}
/-- A call, in the way of what goes on behind it. -/
abbrev CallK (ρ : Type) := FuncId → List TV → St → (TV → St → Option ρ) → Option ρ

def wantedT (ops : List Oper) (e : Env) (o : Oper) : Option Bool := match o.guard with
  | none => some true
  | some (j, want) => match (ops[j]?).bind (·.dst) with
    | some d => match e.at d with
      | .bool b => some (b == want)
      | .tup [] => some false
      | _ => none
    | none => none

def putK (dst : Option Tmp) (v : TV) (e : Env) (k : Env → Option ρ) : Option ρ := match dst with
  | some d => setK e d v k
  | none => k e

def opK (call : CallK ρ) (o : Oper) (e : Env) (s : St) (k : TV → St → Option ρ) : Option ρ :=
  if isRead o then (match readT P s (ev e) o with
    | some v => forceV v fun v => k v s
    | none => none)
  else match calleeT (ev e) o with
    | some (f, args) => forceList args fun args => call f args s k
    | none => match effT P s (ev e) o with
      | some (v, s) => forceV v fun v => forceSt s fun s => k v s
      | none => none

/-- The operations of a region, in the text's order. -/
def opsN (e : Env) (s : St) (k : Env → St → Option ρ) : Option ρ := k e s
def opsS (call : CallK ρ) (ops : List Oper) (o : Oper) (_ : List Oper) (ih : Env → St → (Env → St → Option ρ) → Option ρ) (e : Env) (s : St) (k : Env → St → Option ρ) : Option ρ := match wantedT ops e o with
    | some true => opK P call o e s fun v s => putK o.dst v e fun e => ih e s k
    | some false => putK o.dst undefT e fun e => ih e s k
    | none => none
def opsK (call : CallK ρ) (ops : List Oper) (l : List Oper) : Env → St → (Env → St → Option ρ) → Option ρ := List.rec (motive := fun _ => Env → St → (Env → St → Option ρ) → Option ρ) opsN (opsS P call ops) l

/-! ### A region whose order is drawn: told in the text's order; each thing that is read is the same wherever it may be read -/
def directs (o : Oper) : List Nat := (o.after.toList.filter fun e => Region.binds .any e).map (·.on)
def bitsGo : List Oper → List Nat → List Nat
  | [], acc => acc
  | o :: r, acc => forceNat ((directs o).foldl (fun b j => b ||| 2 ^ j ||| acc.getD j 0) 0) fun b => bitsGo r (acc ++ [b])
def bits (ops : List Oper) : List Nat := bitsGo ops []
def namesOf (ops : List Oper) (o : Oper) : List Nat :=
  o.dst.toList ++ (o.op.operands.toList.filterMap fun | .tmp t => some t | _ => none) ++ (match o.guard with
    | some (j, _) => ((ops[j]?).bind (·.dst)).toList
    | none => [])
/-- i and j stand in an order that is fixed. -/
def tied (b : List Nat) (i j : Nat) : Bool := if i < j then (b.getD j 0).testBit i else (b.getD i 0).testBit j
def regionOk (ops : List Oper) : Bool :=
  let b := bits ops
  let z := ops.zipIdx
  let ws := z.filterMap fun p => p.1.dst.map fun d => (d, p.2)
  let es := z.filterMap fun p => if isRead p.1 then none else some p.2
  z.all (fun p => (directs p.1).all (· < p.2)) &&
  z.all (fun p => (namesOf ops p.1).all fun t => ws.all fun q => q.1 != t || q.2 == p.2 || tied b q.2 p.2) &&
  es.all (fun i => es.all fun j => i == j || tied b i j)

mutual
def TV.beq : TV → TV → Bool
  | .junk, .junk | .nilp, .nilp | .nilfn, .nilfn | .niliface, .niliface => true
  | .bool a, .bool b => a == b
  | .int k a, .int l b => k == l && a == b
  | .str a, .str b => a == b
  | .ptr o a, .ptr p b => o == p && a == b
  | .eptr a, .eptr b => TV.beqs a b
  | .slice a x t, .slice b y u => a == b && TV.beqs x y && (match t, u with | .unk, .unk | .exact, .exact => true | .tip i, .tip j => i == j | _, _ => false)
  | .osl a b c d, .osl e f g h => a == e && b == f && c == g && d == h
  | .gsl a b, .gsl c d => a == c && b == d
  | .map a, .map b => a == b
  | .fn f a b, .fn g c d => f == g && TV.beqs a c && TV.beqs b d
  | .iface t a, .iface u b => t == u && TV.beq a b
  | .agg a, .agg b => TV.beqs a b
  | .tup a, .tup b => TV.beqs a b
  | _, _ => false
def TV.beqs : List TV → List TV → Bool
  | [], [] => true
  | a :: l, b :: m => TV.beq a b && TV.beqs l m
  | _, _ => false
end

structure DItem where
  o : Oper
  e : Env
  v : TV
  w : Bool

def countB (l : List Nat) (p : Nat → Bool) : Nat := (l.filter p).length
/-- Each read is the same at each stage at which it may be made. -/
def drawOk (ops : List Oper) (items : List DItem) (sts : List St) : Bool :=
  match sts with
  | [_] => true
  | _ =>
    let b := bits ops
    let es := ops.zipIdx.filterMap fun p => if isRead p.1 then none else some p.2
    items.zipIdx.all fun (it, i) => !(isRead it.o && it.w) ||
      (sts.zipIdx.all fun (s, k) => k < countB es (fun e => (b.getD i 0).testBit e) || countB es (fun e => !((b.getD e 0).testBit i)) < k ||
        (match readT P s (ev it.e) it.o with
        | some v => TV.beq v it.v
        | none => false))

def drawN (ops : List Oper) (e : Env) (s : St) (acc : List DItem) (sts : List St) (k : Env → St → Option ρ) : Option ρ := if drawOk P ops acc.reverse sts.reverse then k e s else none
def drawS (call : CallK ρ) (ops : List Oper) (o : Oper) (_ : List Oper) (ih : Env → St → List DItem → List St → (Env → St → Option ρ) → Option ρ) (e : Env) (s : St) (acc : List DItem) (sts : List St) (k : Env → St → Option ρ) : Option ρ := match wantedT ops e o with
    | some true => opK P call o e s fun v s => putK o.dst v e fun e' => ih e' s (⟨o, e, v, true⟩ :: acc) (if isRead o then sts else s :: sts) k
    | some false => putK o.dst undefT e fun e' => ih e' s (⟨o, e, undefT, false⟩ :: acc) (if isRead o then sts else s :: sts) k
    | none => none
def drawK (call : CallK ρ) (ops : List Oper) (l : List Oper) : Env → St → List DItem → List St → (Env → St → Option ρ) → Option ρ := List.rec (motive := fun _ => Env → St → List DItem → List St → (Env → St → Option ρ) → Option ρ) (drawN P ops) (drawS P call ops) l

abbrev RunK (ρ : Type) := Env → St → (Ex → Env → St → Option ρ) → Option ρ
def loopN (_ : Env) (_ : St) (_ : Ex → Env → St → Option ρ) : Option ρ := none
def loopS (f : RunK ρ) (_ : Nat) (ih : RunK ρ) (e : Env) (s : St) (k : Ex → Env → St → Option ρ) : Option ρ := f e s fun x e s => match x with
    | .normal => ih e s k
    | x => k x e s
def loopK (f : RunK ρ) (n : Nat) : RunK ρ := Nat.rec (motive := fun _ => RunK ρ) loopN (loopS f) n

def cSkip (e : Env) (s : St) (k : Ex → Env → St → Option ρ) : Option ρ := k .normal e s
def cSeq (_ _ : Code) (a b : RunK ρ) (e : Env) (s : St) (k : Ex → Env → St → Option ρ) : Option ρ := a e s fun x e s => match x with
    | .normal => b e s k
    | x => k x e s
def cCond (c : Operand) (_ _ : Code) (a b : RunK ρ) (e : Env) (s : St) (k : Ex → Env → St → Option ρ) : Option ρ := match ev e c with
    | .bool true => a e s k
    | .bool false => b e s k
    | _ => none
def cBlock (id : Nat) (_ : Code) (a : RunK ρ) (e : Env) (s : St) (k : Ex → Env → St → Option ρ) : Option ρ := a e s fun x e s => match x with
    | .exit i => if i = id then k .normal e s else k (.exit i) e s
    | x => k x e s
def cLoop (fuel : Nat) (_ : Code) (a : RunK ρ) (e : Env) (s : St) (k : Ex → Env → St → Option ρ) : Option ρ := loopK a fuel e s k
def cExit (id : Nat) (e : Env) (s : St) (k : Ex → Env → St → Option ρ) : Option ρ := k (.exit id) e s
def cRet (e : Env) (s : St) (k : Ex → Env → St → Option ρ) : Option ρ := k .ret e s
def cRegion (call : CallK ρ) (_ : Nat) (ops : Array Oper) (draw : Bool) (e : Env) (s : St) (k : Ex → Env → St → Option ρ) : Option ρ :=
  if draw then (if regionOk ops.toList then drawK P call ops.toList ops.toList e s [] [s] (k .normal) else none) else opsK P call ops.toList ops.toList e s (k .normal)
def cNone (_ : Env) (_ : St) (_ : Ex → Env → St → Option ρ) : Option ρ := none
def codeK (call : CallK ρ) (fuel : Nat) (c : Code) : RunK ρ :=
  Code.rec (motive := fun _ => RunK ρ) cSkip (cRegion P call) cSeq cCond cBlock (cLoop fuel) (fun _ _ _ _ _ _ => cNone) cExit (fun _ _ => cNone) (fun _ => cNone) (fun _ => cNone) cRet (fun _ => cNone) c

def resultsT (s : St) (e : Env) : List ResultVar → Option (List TV)
  | [] => some []
  | .tmp t :: l => match resultsT s e l with
    | some r => some (e.at t :: r)
    | none => none
  | .cell a t :: l => match loadT P s t (e.at a), resultsT s e l with
    | some v, some r => some (v :: r)
    | _, _ => none
def resultT (s : St) (e : Env) (l : List ResultVar) : Option TV := match resultsT P s e l with
  | some [v] => some v
  | some vs => some (.tup vs)
  | none => none

def callK : Nat → CallK ρ
  | 0, _, _, _, _ => none
  | n + 1, f, args, s, k => match P.funcs[f]? with
    | some fn => match fn.body with
      | some c => forceList (args ++ List.replicate (fn.ntmps - args.length) undefT) fun e => codeK P (callK n) n c e s fun x e s => match x with
        | .exit _ => none
        | _ => match resultT P s e fn.results.toList with
          | some v => forceV v fun v => k v s
          | none => none
      | none => none
    | none => none
end

/-- Functions whose answers are given. -/
abbrev GivenT := FuncId → List TV → St → Option (TV × St)
/-- What a call answers, where some functions are given. -/
def callG {ρ : Type} (given : GivenT) : Nat → CallK ρ
  | 0, _, _, _, _ => none
  | n + 1, f, args, s, k => match given f args s with
    | some (v, s) => forceV v fun v => forceSt s fun s => k v s
    | none => match P.funcs[f]? with
      | some fn => match fn.body with
        | some c => forceList (args ++ List.replicate (fn.ntmps - args.length) undefT) fun e => codeK P (callG given n) n c e s fun x e s => match x with
          | .exit _ => none
          | _ => match resultT P s e fn.results.toList with
            | some v => forceV v fun v => k v s
            | none => none
        | none => none
      | none => none
def runG (given : GivenT) (n : Nat) (f : FuncId) (args : List TV) (s : St) : Option (TV × St) := callG P given n f args s fun v s => some (v, s)
/-- What a call answers. -/
def run (n : Nat) (f : FuncId) (args : List TV) (s : St) : Option (TV × St) := callK P n f args s fun v s => some (v, s)
def answersTrue (n : Nat) (f : FuncId) (args : List TV) : Bool := match run P n f args .none with
  | some (.bool true, _) => true
  | _ => false

end
end Go.Proofs.YtmmofmkencnldaaGreatDoor.TV
