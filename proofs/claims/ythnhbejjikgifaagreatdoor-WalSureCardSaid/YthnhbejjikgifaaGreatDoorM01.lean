/-
  TV: what differs from seat to seat: slices that are told as objects, for they are written; what is known of package variables. (6 texts, one behind the other)
-/
import GoSem.Step
import Derived.Control
import Derived.Below
import Derived.WalkKit
import Derived.ChangeKeysEq

namespace Go.Proofs.YthnhbejjikgifaaGreatDoor.TV
open Go Go.RowKit
/-- Package variables whose numbers are known. -/
def globC (_ : Nat) : List (IntKind × Int) := []
/-- The log's segments are written in place. -/
def ownedT (t : TypeId) : Bool := t == 71
/-- So is what is appended to at this place (the numbers of a log's files, that are put in order). -/
def ownedAt (t : TypeId) (d : Option Nat) : Bool := t == 75 && d == some 42
/-- Functions that leave the store as it is. -/
def quietF (f : FuncId) : Bool := f == 78
/-- Powers of ten. -/
def pow10 : List Int := [1, 10, 100, 1000, 10000, 100000, 1000000, 10000000, 100000000, 1000000000, 10000000000, 100000000000, 1000000000000, 10000000000000, 100000000000000, 1000000000000000, 10000000000000000, 100000000000000000, 1000000000000000000, 10000000000000000000]
/-- The variables strconv.ErrSyntax and strconv.ErrRange hold some errors, a table holds the powers of ten; all lie below b. -/
def VarsOk (b : Nat) (W : World) : Prop := 2 < b ∧ (∃ tp p, W.cell? ⟨0, 0, none⟩ = some (.iface tp p)) ∧ (∃ tp p, W.cell? ⟨1, 0, none⟩ = some (.iface tp p)) ∧ ∃ t fz, W.heap[2]? = some (.cells (pow10.map fun z => Value.int .u64 z).toArray t fz)
theorem VarsOk.glob {b : Nat} {W : World} (_ : VarsOk b W) (n i : Nat) (k : IntKind) (z : Int) (h : (globC n)[i]? = some (k, z)) : n < b ∧ W.cell? ⟨n, i, none⟩ = some (.int k z) := by simp [globC] at h
theorem VarsOk.keep {b : Nat} {W w : World} (h : VarsOk b W) (hB : Below b W w) (hs : b ≤ w.heap.size) : VarsOk w.heap.size w := by
  obtain ⟨h0, ⟨tp, p, hv⟩, ⟨tp', p', hv'⟩, t, fz, hz⟩ := h
  exact ⟨by omega, ⟨tp, p, (hB.cell (p := ⟨0, 0, none⟩) (by show 0 < b; omega)).trans hv⟩, ⟨tp', p', (hB.cell (p := ⟨1, 0, none⟩) (by show 1 < b; omega)).trans hv'⟩, t, fz, (hB.block 2 h0).trans hz⟩
end Go.Proofs.YthnhbejjikgifaaGreatDoor.TV

/-
  TV: an evaluator of the model's operations on plain values (trees): slices are lists, objects lie in a store of their own, nothing is drawn. This text: the definitions.
-/
namespace Go.Proofs.YthnhbejjikgifaaGreatDoor.TV
open Go
noncomputable section

/-- What may be appended to a slice: unknown room; no room beyond its end; the tip of a row that only it may be appended to. -/
inductive Tok where
  | unk | exact | tip (id : Nat)

/-- Plain values. -/
inductive TV where
  | junk
  | bool (b : Bool)
  | int (k : IntKind) (n : Int)
  | str (s : List UInt8)
  | nilp
  | ptr (o off : Nat)
  | eptr (cs : List TV)
  | slice (isnil : Bool) (es : List TV) (tok : Tok)
  | osl (o off len cap : Nat)
  | gsl (o len : Nat)
  | map (o : Option Nat)
  | fn (f : Fn) (first captured : List TV)
  | nilfn
  | iface (t : TypeId) (v : TV)
  | niliface
  | agg (cs : List TV)
  | tup (vs : List TV)
  deriving Inhabited

def TV.cells : TV → List TV
  | .agg cs => cs
  | v => [v]

def isJunk : TV → Bool
  | .junk => true
  | _ => false

/-- What may lie in a cell. -/
def cellOk : TV → Bool
  | .junk | .agg _ | .tup _ => false
  | _ => true

/-- An object of the store: cells (with the type of its elements), or a map. -/
inductive Obj where
  | cells (cs : List TV) (t : TypeId)
  | map (es : List (TV × TV × Nat)) (clock : Nat)

/-- A store by numbers. -/
inductive Tr (α : Type) where
  | nil
  | node (v : Option α) (l r : Tr α)

namespace Tr
variable {α : Type}
def get : Tr α → Nat → Option α
  | .nil, _ => none
  | .node v l r, n => if n = 0 then v else if n % 2 = 1 then get l (n / 2) else get r (n / 2 - 1)
def one : Nat → Nat → α → Tr α
  | 0, _, v => .node (some v) .nil .nil
  | f + 1, n, v => if n = 0 then .node (some v) .nil .nil else if n % 2 = 1 then .node none (one f (n / 2) v) .nil else .node none .nil (one f (n / 2 - 1) v)
def set : Tr α → Nat → α → Tr α
  | .nil, n, v => one n n v
  | .node u l r, n, v => if n = 0 then .node (some v) l r else if n % 2 = 1 then .node u (set l (n / 2) v) r else .node u l (set r (n / 2 - 1) v)
/-- The same, laid open on its way. -/
def setK {ρ : Type} : Tr α → Nat → α → (Tr α → ρ) → ρ
  | .nil, n, v, k => k (one n n v)
  | .node u l r, n, v, k => if n = 0 then k (.node (some v) l r) else if n % 2 = 1 then setK l (n / 2) v (fun l => k (.node u l r)) else setK r (n / 2 - 1) v (fun r => k (.node u l r))
end Tr

structure St where
  n : Nat
  objs : Tr Obj
  ntips : Nat
  tips : Tr (Nat × TypeId)

def St.none : St := ⟨0, .nil, 0, .nil⟩

/-! ### Laying open: identities that make the kernel reckon -/
section
variable {ρ : Type}
def forceNat (n : Nat) (k : Nat → ρ) : ρ := match n with
  | 0 => k 0
  | m + 1 => k (m + 1)
def forceInt (n : Int) (k : Int → ρ) : ρ := match n with
  | .ofNat m => forceNat m fun m => k (.ofNat m)
  | .negSucc m => forceNat m fun m => k (.negSucc m)
def flN {α : Type} (k : List α → ρ) : ρ := k []
def flS {α : Type} (x : α) (_ : List α) (ih : (List α → ρ) → ρ) (k : List α → ρ) : ρ := ih fun l => k (x :: l)
/-- Written by recursors with named parts: the kernel lays them open fast. -/
def forceList {α : Type} (l : List α) (k : List α → ρ) : ρ := List.rec (motive := fun _ => (List α → ρ) → ρ) flN flS l k
def fv_junk (k : TV → ρ) : ρ := k .junk
def fv_bool (b : Bool) (k : TV → ρ) : ρ := match b with | true => k (.bool true) | false => k (.bool false)
def fv_int (kd : IntKind) (n : Int) (k : TV → ρ) : ρ := forceInt n fun n => k (.int kd n)
def fv_str (s : List UInt8) (k : TV → ρ) : ρ := forceList s fun s => k (.str s)
def fv_nilp (k : TV → ρ) : ρ := k .nilp
def fv_ptr (o off : Nat) (k : TV → ρ) : ρ := forceNat o fun o => forceNat off fun off => k (.ptr o off)
def fv_eptr (cs : List TV) (k : TV → ρ) : ρ := forceList cs fun cs => k (.eptr cs)
def fv_slice (b : Bool) (es : List TV) (t : Tok) (k : TV → ρ) : ρ := match b with | true => forceList es fun es => k (.slice true es t) | false => forceList es fun es => k (.slice false es t)
def fv_osl (o off len cap : Nat) (k : TV → ρ) : ρ := forceNat o fun o => forceNat off fun off => forceNat len fun len => forceNat cap fun cap => k (.osl o off len cap)
def fv_gsl (o len : Nat) (k : TV → ρ) : ρ := forceNat o fun o => forceNat len fun len => k (.gsl o len)
def fv_map (o : Option Nat) (k : TV → ρ) : ρ := match o with | some o => forceNat o fun o => k (.map (some o)) | none => k (.map none)
def fv_fn (f : Fn) (a c : List TV) (k : TV → ρ) : ρ := k (.fn f a c)
def fv_nilfn (k : TV → ρ) : ρ := k .nilfn
def fv_iface (t : TypeId) (v : TV) (k : TV → ρ) : ρ := k (.iface t v)
def fv_niliface (k : TV → ρ) : ρ := k .niliface
def fv_agg (cs : List TV) (k : TV → ρ) : ρ := forceList cs fun cs => k (.agg cs)
def fv_tup (cs : List TV) (k : TV → ρ) : ρ := forceList cs fun cs => k (.tup cs)
def forceV (v : TV) (k : TV → ρ) : ρ := TV.casesOn (motive_1 := fun _ => (TV → ρ) → ρ) v fv_junk fv_bool fv_int fv_str fv_nilp fv_ptr fv_eptr fv_slice fv_osl fv_gsl fv_map fv_fn fv_nilfn fv_iface fv_niliface fv_agg fv_tup k
def forceTr {α : Type} (t : Tr α) (k : Tr α → ρ) : ρ := match t with
  | .nil => k .nil
  | .node v l r => k (.node v l r)
def forceSt (s : St) (k : St → ρ) : ρ := match s with
  | ⟨n, objs, nt, tips⟩ => forceNat n fun n => forceTr objs fun objs => forceNat nt fun nt => forceTr tips fun tips => k ⟨n, objs, nt, tips⟩
def skN (_ : Nat) (_ : TV) (k : List TV → ρ) : ρ := k []
def skS (x : TV) (l : List TV) (ih : Nat → TV → (List TV → ρ) → ρ) (n : Nat) (v : TV) (k : List TV → ρ) : ρ := Nat.rec (motive := fun _ => ρ) (k (v :: l)) (fun m _ => ih m v fun l => k (x :: l)) n
def setK (l : List TV) (n : Nat) (v : TV) (k : List TV → ρ) : ρ := List.rec (motive := fun _ => Nat → TV → (List TV → ρ) → ρ) skN skS l n v k
end

/-! ### Values of the code's constants -/
mutual
def ofConst : Value → TV
  | .bool b => .bool b
  | .int k n => .int k n
  | .string s => .str s.data.toList
  | .pointer none => .nilp
  | .slice none 0 0 => .slice true [] .exact
  | .map none => .map none
  | .nilFunc => .nilfn
  | .nilIface => .niliface
  | .agg ⟨cs⟩ => .agg (ofConsts cs)
  | .tuple ⟨vs⟩ => .tup (ofConsts vs)
  | .iface t v => .iface t (ofConst v)
  | _ => .junk
def ofConsts : List Value → List TV
  | [] => []
  | v :: l => ofConst v :: ofConsts l
end

abbrev Env := List TV
def atS (x : TV) (_ : List TV) (ih : Nat → TV) (n : Nat) : TV := Nat.rec (motive := fun _ => TV) x (fun m _ => ih m) n
def Env.at (e : Env) (t : Nat) : TV := List.rec (motive := fun _ => Nat → TV) (fun _ => .junk) atS e t
def ev (e : Env) : Operand → TV
  | .tmp t => e.at t
  | .const v => ofConst v
  | .global n => match globC n with
    | [] => .junk
    | cs => .eptr (cs.map fun p => .int p.1 p.2)
  | .func f => .fn (.func f) [] []

/-! ### Operations -/
variable (P : Program)

def isAggT (t : TypeId) : Bool := match P.underlying t with
  | some (.struct _) | some (.array _ _) => true
  | _ => false

/-- A value of type t out of cells. -/
def take (t : TypeId) (cs : List TV) : Option TV :=
  if (P.underlying t).isNone then none else
  if isAggT P t then (if P.cellsOf t ≤ cs.length then some (.agg (cs.take (P.cellsOf t))) else none)
  else cs.head?

def splice (cs : List TV) (off : Nat) (vs : List TV) : List TV := cs.take off ++ vs ++ cs.drop (off + vs.length)

def fillT (place : Nat → Option (Nat × Nat)) : List TV → List (Nat × TV) → Option (List TV)
  | cells, [] => some cells
  | cells, (i, v) :: rest =>
    match place i with
    | none => none
    | some (off, size) => if v.cells.length ≠ size || off + size > cells.length || isJunk v then none else fillT place (splice cells off v.cells) rest

def zeroT (t : TypeId) : Option TV := match P.info? t with
  | some i => i.zero.map ofConst
  | none => none

def buildT (t : TypeId) (parts : List (Nat × TV)) : Option TV :=
  match zeroT P t, P.underlying t with
  | some z, some (.struct fields) => if isJunk z || !(fields.toList.all fun f => (P.info? f.type).isSome) then none else
    (fillT (fun i => (fields[i]?).map fun f => (f.offset, P.cellsOf f.type)) z.cells parts).map .agg
  | some z, some (.array _ elem) => if isJunk z || (P.info? elem).isNone then none else (fillT (fun i => some (i * P.cellsOf elem, P.cellsOf elem)) z.cells parts).map .agg
  | _, _ => none

def setEs : List TV → List (Nat × TV) → List TV
  | es, [] => es
  | es, (i, v) :: rest => setEs (es.set i v) rest

def buildSliceT (t : TypeId) (len : Nat) (parts : List (Nat × TV)) : Option TV :=
  match P.underlying t with
  | some (.slice elem) =>
    if parts.all (fun p => p.1 < len && (p.2.cells.length == P.cellsOf elem) && p.2.cells.all cellOk) && 0 < P.cellsOf elem && len * P.cellsOf elem ≤ 2 ^ 24 then
      match zeroT P elem with
      | some z => if z.cells.all cellOk && z.cells.length == P.cellsOf elem then some (.slice false (setEs (List.replicate len z) parts) .exact) else none
      | none => none
    else none
  | _ => none

def natOf (x : Option TV) (d : Nat) : Option Nat := match x with
  | none => some d
  | some (.int _ n) => if 0 ≤ n then some n.toNat else none
  | some _ => none
def sliceBounds (len cap : Nat) (lo hi mx : Option TV) : Option (Nat × Nat × Nat) :=
  match natOf mx cap, natOf hi len, natOf lo 0 with
  | some m, some h, some l => if l ≤ h && h ≤ m && m ≤ cap && (mx.isNone || hi.isSome) then some (l, h, m) else none
  | _, _, _ => none
/-- What may be appended to a piece of a slice. -/
def sliceTok (tok : Tok) (n l h m : Nat) (mx : Bool) : Tok :=
  if mx && h == m then .exact else match tok with
  | .exact => if h == n then .exact else .unk
  | .tip i => if l == 0 && h == n then .tip i else .unk
  | .unk => .unk

def headOk (n : Nat) : List TV → Bool
  | [] => true
  | e :: _ => e.cells.length == n

def sliceT (t : TypeId) (x : TV) (lo hi mx : Option TV) : Option TV :=
  match P.underlying t, x with
  | some .string, .str s => if mx.isSome then none else match sliceBounds s.length s.length lo hi mx with
    | some (l, h, _) => some (.str ((s.take h).drop l))
    | none => none
  | some (.slice elem), .slice b es tok => if P.cellsOf elem = 0 || !headOk (P.cellsOf elem) es then none else match sliceBounds es.length es.length lo hi mx with
    | some (l, h, m) => some (.slice b ((es.take h).drop l) (sliceTok tok es.length l h m mx.isSome))
    | none => none
  | some (.slice elem), .osl o off len cap => if P.cellsOf elem = 0 then none else match sliceBounds len cap lo hi mx with
    | some (l, h, m) => some (.osl o (off + l * P.cellsOf elem) (h - l) (m - l))
    | none => none
  | some (.array n elem), .ptr o off => if P.cellsOf elem = 0 then none else match sliceBounds n n lo hi mx with
    | some (l, h, m) => some (.osl o (off + l * P.cellsOf elem) (h - l) (m - l))
    | none => none
  | _, _ => none

def fieldAddrT (s : TypeId) (x : TV) (f : Nat) : Option TV :=
  match P.underlying s with
  | some (.struct fields) => match fields[f]? with
    | some fd => if P.cellsOf fd.type = 0 then none else
      match x with
      | .ptr o off => some (.ptr o (off + fd.offset))
      | .eptr cs => some (.eptr (cs.drop fd.offset))
      | _ => none
    | none => none
  | _ => none

def indexAddrT (t : TypeId) (x i : TV) : Option TV :=
  match i with
  | .int _ n => if n < 0 then none else
    match P.underlying t, x with
    | some (.slice elem), .slice _ es _ => match es[n.toNat]? with
      | some e => if e.cells.length = P.cellsOf elem then some (.eptr e.cells) else none
      | none => none
    | some (.slice elem), .osl o off len _ => if n < len && 0 < P.cellsOf elem then some (.ptr o (off + n.toNat * P.cellsOf elem)) else none
    | some (.array len elem), .ptr o off => if n < len && 0 < P.cellsOf elem then some (.ptr o (off + n.toNat * P.cellsOf elem)) else none
    | some (.array len elem), .eptr cs => if n < len && 0 < P.cellsOf elem then some (.eptr (cs.drop (n.toNat * P.cellsOf elem))) else none
    | _, _ => none
  | _ => none

def indexT (t : TypeId) (x i : TV) : Option TV :=
  match i with
  | .int _ n => if n < 0 then none else
    match P.underlying t, x with
    | some (.array len elem), .agg cs => if n < len then take P elem (cs.drop (n.toNat * P.cellsOf elem)) else none
    | some .string, .str s => (s[n.toNat]?).map fun b => .int .u8 b.toNat
    | _, _ => none
  | _ => none

def fieldT (t : TypeId) (x : TV) (f : Nat) : Option TV :=
  match P.underlying t, x with
  | some (.struct fields), .agg cs => match fields[f]? with
    | some fd => take P fd.type (cs.drop fd.offset)
    | none => none
  | _, _ => none

/-- Equal? Of whole numbers, bools, texts, what is nil, structs of these. -/
def eqT : Nat → TypeId → TV → TV → Option Bool
  | 0, _, _, _ => none
  | d + 1, t, x, y =>
    match P.underlying t, x, y with
    | some .bool, .bool a, .bool b => some (a == b)
    | some (.int _), .int k a, .int k' b => if k = k' then some (a == b) else none
    | some .string, .str a, .str b => some (a == b)
    | some (.pointer _), .nilp, .nilp => some true
    | some (.pointer _), .nilp, .ptr _ _ | some (.pointer _), .ptr _ _, .nilp => some false
    | some (.pointer e), .ptr o a, .ptr o' b => if P.cellsOf e = 0 then none else if o = o' then some (a == b) else none
    | some (.interface _), .niliface, .niliface => some true
    | some (.interface _), .niliface, .iface _ _ | some (.interface _), .iface _ _, .niliface => some false
    | some (.struct fields), .agg xs, .agg ys =>
      if P.stoodInHeld t then none else
      fields.toList.foldr (fun f r => if f.name == "_" then r else
        match take P f.type (xs.drop f.offset), take P f.type (ys.drop f.offset) with
        | some a, some b => match eqT d f.type a b with
          | some true => r
          | z => z
        | _, _ => none) (some true)
    | some (.array n elem), .agg xs, .agg ys =>
      if (P.info? elem).isNone then none else
      (List.range n).foldr (fun i r =>
        match take P elem (xs.drop (i * P.cellsOf elem)), take P elem (ys.drop (i * P.cellsOf elem)) with
        | some a, some b => match eqT d elem a b with
          | some true => r
          | z => z
        | _, _ => none) (some true)
    | some (.slice _), .slice a _ _, .slice b _ _ => if a then some b else if b then some false else none
    | some (.slice _), .slice true _ _, .osl .. | some (.slice _), .osl .., .slice true _ _ => some false
    | some (.map _ _), .map none, .map b => some b.isNone
    | some (.map _ _), .map (some _), .map none => some false
    | some (.func _ _ _), .nilfn, .nilfn => some true
    | some (.func _ _ _), .nilfn, .fn .. | some (.func _ _ _), .fn .., .nilfn => some false
    | _, _, _ => none

def binT (op : BinOp) (t : TypeId) (x y : TV) : Option TV :=
  match x, y with
  | .int k a, .int yk b =>
    match op with
    | .shl => if b < 0 then none else some (.int k (k.wrap (a * 2 ^ (min b.toNat k.bits))))
    | .shr => if b < 0 then none else some (.int k (a.fdiv (2 ^ (min b.toNat k.bits))))
    | _ => if k ≠ yk then none else
      match op with
      | .add => some (.int k (k.wrap (a + b)))
      | .sub => some (.int k (k.wrap (a - b)))
      | .mul => some (.int k (k.wrap (a * b)))
      | .quo => if b = 0 then none else some (.int k (k.wrap (a.tdiv b)))
      | .rem => if b = 0 then none else some (.int k (a.tmod b))
      | .and => some (.int k (k.wrap ((BitVec.ofInt k.bits a &&& BitVec.ofInt k.bits b).toNat)))
      | .or => some (.int k (k.wrap ((BitVec.ofInt k.bits a ||| BitVec.ofInt k.bits b).toNat)))
      | .xor => some (.int k (k.wrap ((BitVec.ofInt k.bits a ^^^ BitVec.ofInt k.bits b).toNat)))
      | .andNot => some (.int k (k.wrap ((BitVec.ofInt k.bits a &&& ~~~ (BitVec.ofInt k.bits b)).toNat)))
      | .eql => some (.bool (a == b))
      | .neq => some (.bool (a != b))
      | .lss => some (.bool (a < b))
      | .leq => some (.bool (a ≤ b))
      | .gtr => some (.bool (a > b))
      | .geq => some (.bool (a ≥ b))
      | _ => none
  | .str a, .str b =>
    match op with
    | .add => if a.length + b.length ≤ 9223372036854775807 then some (.str (a ++ b)) else none
    | .eql => some (.bool (a == b))
    | .neq => some (.bool (!(a == b)))
    | .lss => some (.bool (Op.bytesLess a b))
    | .leq => some (.bool (Op.bytesLess a b || a == b))
    | .gtr => some (.bool (!(Op.bytesLess a b || a == b)))
    | .geq => some (.bool (!Op.bytesLess a b))
    | _ => none
  | x, y =>
    match op with
    | .eql => (eqT P 100 t x y).map .bool
    | .neq => (eqT P 100 t x y).map fun b => .bool (!b)
    | _ => none

/-- The comparison of two nil interfaces, or of structs that hold some, is not looked at. -/
def guardT (op : BinOp) (t : TypeId) (x y : Operand) (a b : TV) : Bool :=
  match op with
  | .eql | .neq => match a, b with
    | .niliface, .niliface => (match x with | .const _ => true | _ => false) || (match y with | .const _ => true | _ => false)
    | .agg _, .agg _ => !(P.eqGuardType P.depth t)
    | _, _ => true
  | _ => true

def unT (op : UnOp) (x : TV) : Option TV :=
  match op, x with
  | .neg, .int k n => some (.int k (k.wrap (0 - n)))
  | .xor, .int k n => some (.int k (k.wrap ((BitVec.ofInt k.bits (if k.signed then -1 else k.max) ^^^ BitVec.ofInt k.bits n).toNat)))
  | .not, .bool b => some (.bool !b)
  | _, _ => none

def bytesOf : List TV → Option (List UInt8)
  | [] => some []
  | .int .u8 n :: l => match bytesOf l with
    | some r => some (UInt8.ofNat n.toNat :: r)
    | none => none
  | _ :: _ => none

def objCells (s : St) (o : Nat) : Option (List TV × TypeId) := match s.objs.get o with
  | some (.cells cs t) => some (cs, t)
  | _ => none

/-- The elements of an object's slice. -/
def chunk (size : Nat) : Nat → List TV → List TV
  | 0, _ => []
  | n + 1, cs => (if size = 1 then cs.headD .junk else .agg (cs.take size)) :: chunk size n (cs.drop size)

def convT (s : St) (src dst : TypeId) (x : TV) : Option TV :=
  match P.underlying src, P.underlying dst, x with
  | some _, some (.int k), .int _ n => some (.int k (k.wrap n))
  | some .string, some .string, .str b => some (.str b)
  | some .string, some (.slice e), .str b =>
    match P.underlying e with
    | some (.int .u8) => some (.slice false (b.map fun c => .int .u8 c.toNat) .unk)
    | _ => none
  | some (.slice e), some .string, .slice _ es _ =>
    match P.underlying e with
    | some (.int .u8) => (bytesOf es).map .str
    | _ => none
  | some (.slice e), some .string, .osl o off len _ =>
    match P.underlying e, objCells s o with
    | some (.int .u8), some (cs, _) => if off + len ≤ cs.length then (bytesOf ((cs.drop off).take len)).map .str else none
    | _, _ => none
  | _, _, _ => none

def lenT (s : St) (t : TypeId) (x : TV) : Option TV :=
  match P.underlying t, x with
  | some .string, .str b => some (.int .i64 b.length)
  | some (.array n _), _ => some (.int .i64 n)
  | some (.slice _), .slice _ es _ => some (.int .i64 es.length)
  | some (.slice _), .osl _ _ len _ => some (.int .i64 len)
  | some (.map _ _), .map none => some (.int .i64 0)
  | some (.map _ _), .map (some o) => match s.objs.get o with
    | some (.map es _) => some (.int .i64 es.length)
    | _ => none
  | _, _ => none

def minT (x y : TV) : Option TV := match x, y with
  | .int k a, .int _ b => some (.int k (if b < a then b else a))
  | _, _ => none
def maxT (x y : TV) : Option TV := match x, y with
  | .int k a, .int _ b => some (.int k (if b > a then b else a))
  | _, _ => none

def loadT (s : St) (t : TypeId) (p : TV) : Option TV :=
  match p with
  | .eptr cs => take P t cs
  | .ptr o off => match objCells s o with
    | some (cs, _) => take P t (cs.drop off)
    | none => none
  | _ => none

def keyEq (kd : TypeDesc) (a b : TV) : Option Bool := match kd, a, b with
  | .int _, .int k x, .int k' y => if k = k' then some (x == y) else none
  | .string, .str x, .str y => some (x == y)
  | .bool, .bool x, .bool y => some (x == y)
  | _, _, _ => none
def simpleKey : TypeDesc → Bool
  | .int _ | .string | .bool => true
  | _ => false
def findT (kd : TypeDesc) (k : TV) : List (TV × TV × Nat) → Nat → Option (Option (Nat × TV))
  | [], _ => some none
  | e :: es, i => match keyEq kd k e.1 with
    | some true => some (some (i, e.2.1))
    | some false => findT kd k es (i + 1)
    | none => none

def lookupT (s : St) (t : TypeId) (m k : TV) (ok : Bool) : Option TV :=
  match P.underlying t with
  | some (.map key elem) =>
    let es := match m with
      | .map none => some []
      | .map (some o) => match s.objs.get o with
        | some (.map es _) => some es
        | _ => none
      | _ => none
    match P.underlying key, es with
    | some kd, some es =>
      if !simpleKey kd then none else
      (match findT kd k es 0 with
      | some (some (_, v)) => some (if ok then .tup [v, .bool true] else v)
      | some none => (zeroT P elem).map fun z => if ok then .tup [z, .bool false] else z
      | none => none)
    | _, _ => none
  | _ => none

/-- A slice that may grow, read: one of known room. -/
def ungsl : TV → TV
  | .gsl o n => .osl o 0 n n
  | v => v
/-- What only reads. -/
def readT (s : St) (ρ : Operand → TV) (o : Oper) : Option TV :=
  match o.op with
  | .move x | .assign x => some (ρ x)
  | .pick c a b => match ρ c with
    | .bool true => some (ρ a)
    | .bool false => some (ρ b)
    | _ => none
  | .build t parts => buildT P t (parts.toList.map fun p => (p.1, ρ p.2))
  | .buildSlice t len parts => buildSliceT P t len (parts.toList.map fun p => (p.1, ρ p.2))
  | .load t a => loadT P s t (ρ a)
  | .nilCheck x => match ρ x with
    | .ptr o off => some (.ptr o off)
    | .eptr cs => some (.eptr cs)
    | .fn (.func f) a b => some (.fn (.func f) a b)
    | _ => none
  | .binOp op t x y _ => if guardT P op t x y (ρ x) (ρ y) then binT P op t (ρ x) (ρ y) else none
  | .unOp op _ x => unT op (ρ x)
  | .convert src dst x => convT P s src dst (ρ x)
  | .makeInterface t x => match P.underlying t with
    | some (.interface _) => none
    | some _ => some (.iface t (ρ x))
    | none => none
  | .makeFunc f a b => some (.fn f (a.toList.map ρ) (b.toList.map ρ))
  | .slice t x lo hi mx => sliceT P t (ungsl (ρ x)) (lo.map ρ) (hi.map ρ) (mx.map ρ)
  | .fieldAddr t x f => fieldAddrT P t (ρ x) f
  | .field t x f => fieldT P t (ρ x) f
  | .indexAddr t x i => indexAddrT P t (ungsl (ρ x)) (ρ i)
  | .index t x i => indexT P t (ρ x) (ρ i)
  | .lookup t m k ok => lookupT P s t (ρ m) (ρ k) ok
  | .extract x i => match ρ x with
    | .tup vs => vs[i]?
    | _ => none
  | .call { callee := .builtin b, args := args, argTypes := ts } =>
    match b, args.toList, ts.toList with
    | .len, [x], [t] => lenT P s t (ungsl (ρ x))
    | .min, [x, y], _ => minT (ρ x) (ρ y)
    | .max, [x, y], _ => maxT (ρ x) (ρ y)
    | _, _, _ => none
  | _ => none

def mkObj (s : St) (o : Obj) : St := { s with n := s.n + 1, objs := s.objs.set s.n o }
def setCellsT (s : St) (o : Nat) (off : Nat) (vs : List TV) : Option St := match s.objs.get o with
  | some (.cells cs t) => if off + vs.length ≤ cs.length && vs.all cellOk then some { s with objs := s.objs.set o (.cells (splice cs off vs) t) } else none
  | _ => none

/-- The elements that are appended. -/
def srcT (s : St) (size : Nat) (y : TV) : Option (List TV) := match y with
  | .slice _ es _ => some es
  | .str b => some (b.map fun c => .int .u8 c.toNat)
  | .osl o off len _ => match objCells s o with
    | some (cs, _) => if off + len * size ≤ cs.length && ((cs.drop off).take (len * size)).all cellOk then some (chunk size len (cs.drop off)) else none
    | none => none
  | _ => none

def srcKind : TypeDesc → Bool
  | .slice _ | .string => true
  | _ => false
def zeroFits (t : TypeId) : Bool := match zeroT P t with
  | some z => z.cells.length == P.cellsOf t && !isJunk z
  | none => false
def slotOk (es : List TV) : Bool := es.all fun y => y.cells.all cellOk

/-- append: a slice of one's own grows; one without room is laid anew. -/
def appendT (s : St) (t u : TypeId) (x y : TV) : Option (TV × St) :=
  match P.underlying t, P.underlying u with
  | some (.slice elem), some ud =>
    if !srcKind ud then none else
    match x, srcT s (P.cellsOf elem) y with
    | .slice b es tok, some ys =>
      if ys.isEmpty then (if 0 < P.cellsOf elem then some (.slice b es tok, s) else none) else
      if (es.length + ys.length) * P.bytesOf elem ≤ 140737488355328 && 0 < P.bytesOf elem && 0 < P.cellsOf elem && headOk (P.cellsOf elem) ys && headOk (P.cellsOf elem) es && slotOk ys && zeroFits P elem then
        (match tok with
        | .unk => none
        | .exact => if slotOk es then some (.slice false (es ++ ys) (.tip s.ntips), { s with ntips := s.ntips + 1, tips := s.tips.set s.ntips (es.length + ys.length, elem) }) else none
        | .tip i => match s.tips.get i with
          | some (n, e) => if n = es.length && e == elem then some (.slice false (es ++ ys) (.tip i), { s with tips := s.tips.set i (es.length + ys.length, elem) }) else none
          | none => none)
      else none
    | _, _ => none
  | _, _ => none

/-- append in place: there is room. -/
def appInT (s : St) (t u : TypeId) (o off len cap : Nat) (y : TV) : Option (TV × St) :=
  match P.underlying t, P.underlying u with
  | some (.slice elem), some ud =>
    if !srcKind ud then none else
    match srcT s (P.cellsOf elem) y with
    | some ys => if decide (0 < P.cellsOf elem) && headOk (P.cellsOf elem) ys && slotOk ys && decide (0 < ys.length) && decide (len + ys.length ≤ cap) then
        (setCellsT s o (off + len * P.cellsOf elem) (ys.flatMap TV.cells)).map fun s => (.osl o off (len + ys.length) cap, s) else none
    | none => none
  | _, _ => none
/-- append to nothing: an object. -/
def appNewT (s : St) (t u : TypeId) (y : TV) : Option (TV × St) :=
  match P.underlying t, P.underlying u with
  | some (.slice elem), some ud =>
    if !srcKind ud then none else
    match srcT s (P.cellsOf elem) y with
    | some ys => if decide (0 < P.cellsOf elem) && headOk (P.cellsOf elem) ys && slotOk ys && decide (0 < ys.length) && decide (ys.length * P.bytesOf elem ≤ 140737488355328) && decide (0 < P.bytesOf elem) && zeroFits P elem then
        some (.osl s.n 0 ys.length ys.length, mkObj s (.cells (ys.flatMap TV.cells) elem)) else none
    | none => none
  | _, _ => none
def appendX (s : St) (t u : TypeId) (x y : TV) : Option (TV × St) := match x with
  | .osl o off len cap => appInT P s t u o off len cap y
  | .slice true [] _ => if ownedT t then appNewT P s t u y else appendT P s t u x y
  | _ => appendT P s t u x y

def copyT (s : St) (t : TypeId) (x y : TV) : Option (TV × St) :=
  match P.underlying t with
  | some (.slice elem) =>
    if P.cellsOf elem = 0 then none else
    match x, srcT s (P.cellsOf elem) y with
    | .osl o off len _, some ys =>
      if headOk (P.cellsOf elem) ys && slotOk ys then
        (if min ys.length len = 0 then some (.int .i64 0, s) else
        match setCellsT s o off ((ys.take (min ys.length len)).flatMap TV.cells) with
        | some s => some (.int .i64 (min ys.length len : Nat), s)
        | none => none)
      else none
    | .slice _ [] _, some _ => some (.int .i64 0, s)
    | _, _ => none
  | _ => none

def mapSetT (s : St) (t : TypeId) (m k v : TV) : Option St :=
  match P.underlying t, m with
  | some (.map key _), .map (some o) =>
    match P.underlying key, s.objs.get o with
    | some kd, some (.map es clock) =>
      if !simpleKey kd then none else
      (match findT kd k es 0 with
      | some (some (i, _)) => some { s with objs := s.objs.set o (.map (es.modify i fun e => (k, v, e.2.2)) clock) }
      | some none => some { s with objs := s.objs.set o (.map (es ++ [(k, v, clock)]) (clock + 1)) }
      | none => none)
    | _, _ => none
  | _, _ => none

def deleteT (s : St) (t : TypeId) (m k : TV) : Option St :=
  match P.underlying t, m with
  | some (.map key _), .map (some o) =>
    match P.underlying key, s.objs.get o with
    | some kd, some (.map es clock) =>
      if !simpleKey kd then none else
      (match findT kd k es 0 with
      | some (some (i, _)) => some { s with objs := s.objs.set o (.map (es.eraseIdx i) clock) }
      | some none => some s
      | none => none)
    | _, _ => none
  | some (.map key _), .map none => (match P.underlying key with
    | some kd => if simpleKey kd then some s else none
    | none => none)
  | _, _ => none

def undefT : TV := .tup []

/-- What makes or changes something. -/
def effT (s : St) (ρ : Operand → TV) (o : Oper) : Option (TV × St) :=
  match o.op with
  | .alloc t => match zeroT P t with
    | some z => if z.cells.all cellOk then some (.ptr s.n 0, mkObj s (.cells z.cells t)) else none
    | none => none
  | .box t x => if !isJunk (ρ x) then some (.ptr s.n 0, mkObj s (.cells (ρ x).cells t)) else none
  | .store t a x => match ρ a with
    | .ptr o off => if (ρ x).cells.length = P.cellsOf t && 0 < P.cellsOf t then (setCellsT s o off (ρ x).cells).map fun s => (undefT, s) else none
    | _ => none
  | .makeMap _ none => some (.map (some s.n), mkObj s (.map [] 0))
  | .buildSlice t len parts => match P.underlying t, buildSliceT P t len (parts.toList.map fun p => (p.1, ρ p.2)) with
    | some (.slice elem), some (.slice false es _) => if (es.flatMap TV.cells).all cellOk then some (.osl s.n 0 len len, mkObj s (.cells (es.flatMap TV.cells) elem)) else none
    | _, _ => none
  | .makeSlice t l c => match P.underlying t, ρ l, ρ c with
    | some (.slice elem), .int _ l, .int _ c =>
      if 0 ≤ l && l ≤ c && c * P.bytesOf elem ≤ 140737488355328 && c ≤ 9223372036854775807 && 0 < P.cellsOf elem then
        match zeroT P elem with
        | some z => if z.cells.all cellOk && z.cells.length == P.cellsOf elem then some (.osl s.n 0 l.toNat c.toNat, mkObj s (.cells ((List.replicate c.toNat z.cells).flatten) elem)) else none
        | none => none
      else none
    | _, _, _ => none
  | .mapUpdate t m k v | .insert t m k v => (mapSetT P s t (ρ m) (ρ k) (ρ v)).map fun s => (undefT, s)
  | .call { callee := .builtin b, args := args, argTypes := ts } =>
    match b, args.toList, ts.toList with
    | .append, [x, y], [t, u] => appendX P s t u (ρ x) (ρ y)
    | .copy, [x, y], [t, _] => copyT P s t (ρ x) (ρ y)
    | .delete, [m, k], [t, _] => (deleteT P s t (ρ m) (ρ k)).map fun s => (.tup [], s)
    | _, _, _ => none
  | _ => none

/-- Is it such an operation? -/
def isRead (o : Oper) : Bool := match o.op with
  | .buildSlice t _ _ => !ownedT t
  | .move _ | .assign _ | .pick .. | .build .. | .load .. | .nilCheck _ | .binOp .. | .unOp .. | .convert .. | .makeInterface .. | .makeFunc .. | .slice .. | .fieldAddr ..
  | .field .. | .indexAddr .. | .index .. | .lookup .. | .extract .. | .call { callee := .builtin .len, .. } | .call { callee := .builtin .min, .. } | .call { callee := .builtin .max, .. } => true
  | _ => false

/-- A call of a function of the program: whose, with what. -/
def calleeT (ρ : Operand → TV) (o : Oper) : Option (FuncId × List TV) := match o.op with
  | .call { callee := .value f, args := args, .. } => match ρ f with
    | .fn (.func g) first captured => some (g, first ++ args.toList.map ρ ++ captured)
    | _ => none
  | _ => none

inductive Ex where
  | normal | exit (id : Nat) | ret

section
variable {ρ : Type}
/-- A call, in the way of what goes on behind it. -/
abbrev CallK (ρ : Type) := FuncId → List TV → St → (TV → St → Option ρ) → Option ρ

def wantedT (ops : List Oper) (e : Env) (o : Oper) : Option Bool := match o.guard with
  | none => some true
  | some (j, want) => match (ops[j]?).bind (·.dst) with
    | some d => match e.at d with
      | .bool b => some (b == want)
      | .tup [] => some false
      | _ => none
    | none => none

def putK (dst : Option Tmp) (v : TV) (e : Env) (k : Env → Option ρ) : Option ρ := match dst with
  | some d => setK e d v k
  | none => k e

def opK (call : CallK ρ) (o : Oper) (e : Env) (s : St) (k : TV → St → Option ρ) : Option ρ :=
  if isRead o then (match readT P s (ev e) o with
    | some v => forceV v fun v => k v s
    | none => none)
  else match calleeT (ev e) o with
    | some (f, args) => forceList args fun args => call f args s k
    | none => match effT P s (ev e) o with
      | some (v, s) => forceV v fun v => forceSt s fun s => k v s
      | none => none

/-- The operations of a region, in the text's order. -/
def opsN (e : Env) (s : St) (k : Env → St → Option ρ) : Option ρ := k e s
def opsS (call : CallK ρ) (ops : List Oper) (o : Oper) (_ : List Oper) (ih : Env → St → (Env → St → Option ρ) → Option ρ) (e : Env) (s : St) (k : Env → St → Option ρ) : Option ρ := match wantedT ops e o with
    | some true => opK P call o e s fun v s => putK o.dst v e fun e => ih e s k
    | some false => putK o.dst undefT e fun e => ih e s k
    | none => none
def opsK (call : CallK ρ) (ops : List Oper) (l : List Oper) : Env → St → (Env → St → Option ρ) → Option ρ := List.rec (motive := fun _ => Env → St → (Env → St → Option ρ) → Option ρ) opsN (opsS P call ops) l

/-! ### A region whose order is drawn: told in the text's order; each thing that is read is the same wherever it may be read -/
def directs (o : Oper) : List Nat := (o.after.toList.filter fun e => Region.binds .any e).map (·.on)
def bitsGo : List Oper → List Nat → List Nat
  | [], acc => acc
  | o :: r, acc => forceNat ((directs o).foldl (fun b j => b ||| 2 ^ j ||| acc.getD j 0) 0) fun b => bitsGo r (acc ++ [b])
def bits (ops : List Oper) : List Nat := bitsGo ops []
def namesOf (ops : List Oper) (o : Oper) : List Nat :=
  o.dst.toList ++ (o.op.operands.toList.filterMap fun | .tmp t => some t | _ => none) ++ (match o.guard with
    | some (j, _) => ((ops[j]?).bind (·.dst)).toList
    | none => [])
/-- i and j stand in an order that is fixed. -/
def tied (b : List Nat) (i j : Nat) : Bool := if i < j then (b.getD j 0).testBit i else (b.getD i 0).testBit j
def regionOk (ops : List Oper) : Bool :=
  let b := bits ops
  let z := ops.zipIdx
  let ws := z.filterMap fun p => p.1.dst.map fun d => (d, p.2)
  let es := z.filterMap fun p => if isRead p.1 then none else some p.2
  z.all (fun p => (directs p.1).all (· < p.2)) &&
  z.all (fun p => (namesOf ops p.1).all fun t => ws.all fun q => q.1 != t || q.2 == p.2 || tied b q.2 p.2) &&
  es.all (fun i => es.all fun j => i == j || tied b i j)

mutual
def TV.beq : TV → TV → Bool
  | .junk, .junk | .nilp, .nilp | .nilfn, .nilfn | .niliface, .niliface => true
  | .bool a, .bool b => a == b
  | .int k a, .int l b => k == l && a == b
  | .str a, .str b => a == b
  | .ptr o a, .ptr p b => o == p && a == b
  | .eptr a, .eptr b => TV.beqs a b
  | .slice a x t, .slice b y u => a == b && TV.beqs x y && (match t, u with | .unk, .unk | .exact, .exact => true | .tip i, .tip j => i == j | _, _ => false)
  | .osl a b c d, .osl e f g h => a == e && b == f && c == g && d == h
  | .gsl a b, .gsl c d => a == c && b == d
  | .map a, .map b => a == b
  | .fn f a b, .fn g c d => f == g && TV.beqs a c && TV.beqs b d
  | .iface t a, .iface u b => t == u && TV.beq a b
  | .agg a, .agg b => TV.beqs a b
  | .tup a, .tup b => TV.beqs a b
  | _, _ => false
def TV.beqs : List TV → List TV → Bool
  | [], [] => true
  | a :: l, b :: m => TV.beq a b && TV.beqs l m
  | _, _ => false
end

structure DItem where
  o : Oper
  e : Env
  v : TV
  w : Bool

def countB (l : List Nat) (p : Nat → Bool) : Nat := (l.filter p).length
/-- Each read is the same at each stage at which it may be made. -/
def drawOk (ops : List Oper) (items : List DItem) (sts : List St) : Bool :=
  match sts with
  | [_] => true
  | _ =>
    let b := bits ops
    let es := ops.zipIdx.filterMap fun p => if isRead p.1 then none else some p.2
    items.zipIdx.all fun (it, i) => !(isRead it.o && it.w) ||
      (sts.zipIdx.all fun (s, k) => k < countB es (fun e => (b.getD i 0).testBit e) || countB es (fun e => !((b.getD e 0).testBit i)) < k ||
        (match readT P s (ev it.e) it.o with
        | some v => TV.beq v it.v
        | none => false))

def drawN (ops : List Oper) (e : Env) (s : St) (acc : List DItem) (sts : List St) (k : Env → St → Option ρ) : Option ρ := if drawOk P ops acc.reverse sts.reverse then k e s else none
def drawS (call : CallK ρ) (ops : List Oper) (o : Oper) (_ : List Oper) (ih : Env → St → List DItem → List St → (Env → St → Option ρ) → Option ρ) (e : Env) (s : St) (acc : List DItem) (sts : List St) (k : Env → St → Option ρ) : Option ρ := match wantedT ops e o with
    | some true => opK P call o e s fun v s => putK o.dst v e fun e' => ih e' s (⟨o, e, v, true⟩ :: acc) (if isRead o then sts else s :: sts) k
    | some false => putK o.dst undefT e fun e' => ih e' s (⟨o, e, undefT, false⟩ :: acc) (if isRead o then sts else s :: sts) k
    | none => none
def drawK (call : CallK ρ) (ops : List Oper) (l : List Oper) : Env → St → List DItem → List St → (Env → St → Option ρ) → Option ρ := List.rec (motive := fun _ => Env → St → List DItem → List St → (Env → St → Option ρ) → Option ρ) (drawN P ops) (drawS P call ops) l

abbrev RunK (ρ : Type) := Env → St → (Ex → Env → St → Option ρ) → Option ρ
def loopN (_ : Env) (_ : St) (_ : Ex → Env → St → Option ρ) : Option ρ := none
def loopS (f : RunK ρ) (_ : Nat) (ih : RunK ρ) (e : Env) (s : St) (k : Ex → Env → St → Option ρ) : Option ρ := f e s fun x e s => match x with
    | .normal => ih e s k
    | x => k x e s
def loopK (f : RunK ρ) (n : Nat) : RunK ρ := Nat.rec (motive := fun _ => RunK ρ) loopN (loopS f) n

def cSkip (e : Env) (s : St) (k : Ex → Env → St → Option ρ) : Option ρ := k .normal e s
def cSeq (_ _ : Code) (a b : RunK ρ) (e : Env) (s : St) (k : Ex → Env → St → Option ρ) : Option ρ := a e s fun x e s => match x with
    | .normal => b e s k
    | x => k x e s
def cCond (c : Operand) (_ _ : Code) (a b : RunK ρ) (e : Env) (s : St) (k : Ex → Env → St → Option ρ) : Option ρ := match ev e c with
    | .bool true => a e s k
    | .bool false => b e s k
    | _ => none
def cBlock (id : Nat) (_ : Code) (a : RunK ρ) (e : Env) (s : St) (k : Ex → Env → St → Option ρ) : Option ρ := a e s fun x e s => match x with
    | .exit i => if i = id then k .normal e s else k (.exit i) e s
    | x => k x e s
def cLoop (fuel : Nat) (_ : Code) (a : RunK ρ) (e : Env) (s : St) (k : Ex → Env → St → Option ρ) : Option ρ := loopK a fuel e s k
def cExit (id : Nat) (e : Env) (s : St) (k : Ex → Env → St → Option ρ) : Option ρ := k (.exit id) e s
def cRet (e : Env) (s : St) (k : Ex → Env → St → Option ρ) : Option ρ := k .ret e s
def cRegion (call : CallK ρ) (_ : Nat) (ops : Array Oper) (draw : Bool) (e : Env) (s : St) (k : Ex → Env → St → Option ρ) : Option ρ :=
  if draw then (if regionOk ops.toList then drawK P call ops.toList ops.toList e s [] [s] (k .normal) else none) else opsK P call ops.toList ops.toList e s (k .normal)
def cNone (_ : Env) (_ : St) (_ : Ex → Env → St → Option ρ) : Option ρ := none
def codeK (call : CallK ρ) (fuel : Nat) (c : Code) : RunK ρ :=
  Code.rec (motive := fun _ => RunK ρ) cSkip (cRegion P call) cSeq cCond cBlock (cLoop fuel) (fun _ _ _ _ _ _ => cNone) cExit (fun _ _ => cNone) (fun _ => cNone) (fun _ => cNone) cRet (fun _ => cNone) c

def resultsT (s : St) (e : Env) : List ResultVar → Option (List TV)
  | [] => some []
  | .tmp t :: l => match resultsT s e l with
    | some r => some (e.at t :: r)
    | none => none
  | .cell a t :: l => match loadT P s t (e.at a), resultsT s e l with
    | some v, some r => some (v :: r)
    | _, _ => none
def resultT (s : St) (e : Env) (l : List ResultVar) : Option TV := match resultsT P s e l with
  | some [v] => some v
  | some vs => some (.tup vs)
  | none => none

def callK : Nat → CallK ρ
  | 0, _, _, _, _ => none
  | n + 1, f, args, s, k => match P.funcs[f]? with
    | some fn => match fn.body with
      | some c => forceList (args ++ List.replicate (fn.ntmps - args.length) undefT) fun e => codeK P (callK n) n c e s fun x e s => match x with
        | .exit _ => none
        | _ => match resultT P s e fn.results.toList with
          | some v => forceV v fun v => k v s
          | none => none
      | none => none
    | none => none
end

/-- Functions whose answers are given. -/
abbrev GivenT := FuncId → List TV → St → Option (TV × St)
/-- What a call answers, where some functions are given. -/
def callG {ρ : Type} (given : GivenT) : Nat → CallK ρ
  | 0, _, _, _, _ => none
  | n + 1, f, args, s, k => match given f args s with
    | some (v, s) => forceV v fun v => forceSt s fun s => k v s
    | none => match P.funcs[f]? with
      | some fn => match fn.body with
        | some c => forceList (args ++ List.replicate (fn.ntmps - args.length) undefT) fun e => codeK P (callG given n) n c e s fun x e s => match x with
          | .exit _ => none
          | _ => match resultT P s e fn.results.toList with
            | some v => forceV v fun v => k v s
            | none => none
        | none => none
      | none => none
def runG (given : GivenT) (n : Nat) (f : FuncId) (args : List TV) (s : St) : Option (TV × St) := callG P given n f args s fun v s => some (v, s)
/-- What a call answers. -/
def run (n : Nat) (f : FuncId) (args : List TV) (s : St) : Option (TV × St) := callK P n f args s fun v s => some (v, s)
def answersTrue (n : Nat) (f : FuncId) (args : List TV) : Bool := match run P n f args .none with
  | some (.bool true, _) => true
  | _ => false

end
end Go.Proofs.YthnhbejjikgifaaGreatDoor.TV

/-
  TV: how plain values stand to the model's own: the relation, and what keeps it.
-/
namespace Go.Proofs.YthnhbejjikgifaaGreatDoor.TV
open Go Go.RowKit
set_option linter.unusedSimpArgs false
set_option linter.unusedVariables false

/-! ### The store -/
namespace Tr
variable {α : Type}
theorem get_one : ∀ (f n : Nat) (v : α) (m : Nat), n ≤ f → (one f n v).get m = if m = n then some v else none
  | 0, n, v, m, h => by
    have : n = 0 := by omega
    subst this
    simp only [one, get]
    split
    · rfl
    · split <;> rfl
  | f + 1, n, v, m, h => by
    simp only [one]
    split
    · rename_i h0
      subst h0
      simp only [get]
      split
      · rfl
      · split <;> rfl
    · rename_i h0
      split
      · rename_i h1
        simp only [get]
        split
        · rename_i hm; subst hm; rw [if_neg (by omega)]
        · split
          · rw [get_one f _ v _ (by omega)]
            by_cases e : m = n
            · subst e; simp
            · rw [if_neg (by omega), if_neg e]
          · rw [if_neg (by omega)]
      · rename_i h1
        simp only [get]
        split
        · rename_i hm; subst hm; rw [if_neg (by omega)]
        · split
          · rw [if_neg (by omega)]
          · rw [get_one f _ v _ (by omega)]
            by_cases e : m = n
            · subst e; simp
            · rw [if_neg (by omega), if_neg e]
theorem get_set : ∀ (t : Tr α) (n : Nat) (v : α) (m : Nat), (t.set n v).get m = if m = n then some v else t.get m
  | .nil, n, v, m => by simp only [set, get_one n n v m (Nat.le_refl _), get]
  | .node u l r, n, v, m => by
    simp only [set]
    split
    · rename_i h0
      subst h0
      simp only [get]
      split <;> rfl
    · rename_i h0
      split
      · rename_i h1
        simp only [get]
        split
        · rename_i hm; subst hm; rw [if_neg (by omega)]
        · split
          · rw [get_set l]
            by_cases e : m = n
            · subst e; simp
            · rw [if_neg (by omega), if_neg e]
          · rw [if_neg (by omega)]
      · rename_i h1
        simp only [get]
        split
        · rename_i hm; subst hm; rw [if_neg (by omega)]
        · split
          · rw [if_neg (by omega)]
          · rw [get_set r]
            by_cases e : m = n
            · subst e; simp
            · rw [if_neg (by omega), if_neg e]
theorem set_same : ∀ (t : Tr α) (n : Nat) (v : α), t.get n = some v → t.set n v = t
  | .nil, n, v, h => by simp [get] at h
  | .node u l r, n, v, h => by
    simp only [get] at h
    simp only [set]
    split
    · rename_i h0; rw [if_pos h0] at h; rw [h]
    · rename_i h0
      rw [if_neg h0] at h
      split
      · rename_i h1; rw [if_pos h1] at h; rw [set_same l _ _ h]
      · rename_i h1; rw [if_neg h1] at h; rw [set_same r _ _ h]
end Tr

/-! ### Laying open changes nothing -/
section
variable {ρ : Type}
@[simp] theorem forceNat_eq (n : Nat) (k : Nat → ρ) : forceNat n k = k n := by cases n <;> rfl
@[simp] theorem forceInt_eq (n : Int) (k : Int → ρ) : forceInt n k = k n := by cases n <;> simp [forceInt]
@[simp] theorem forceList_eq {α : Type} : ∀ (l : List α) (k : List α → ρ), forceList l k = k l
  | [], k => rfl
  | x :: l, k => (forceList_eq l fun l => k (x :: l) :)
@[simp] theorem forceTr_eq {α : Type} (t : Tr α) (k : Tr α → ρ) : forceTr t k = k t := by cases t <;> rfl
@[simp] theorem forceSt_eq (s : St) (k : St → ρ) : forceSt s k = k s := by cases s; simp [forceSt]
@[simp] theorem forceV_eq (v : TV) (k : TV → ρ) : forceV v k = k v := by
  cases v with
  | bool b => cases b <;> rfl
  | int kd n => exact forceInt_eq n fun n => k (.int kd n)
  | str s => exact forceList_eq s fun s => k (.str s)
  | ptr o off =>
    show forceNat o (fun o => forceNat off fun off => k (.ptr o off)) = _
    simp
  | eptr cs => exact forceList_eq cs fun cs => k (.eptr cs)
  | slice b es t =>
    cases b
    · exact forceList_eq es fun es => k (.slice false es t)
    · exact forceList_eq es fun es => k (.slice true es t)
  | osl o off len cap =>
    show forceNat o (fun o => forceNat off fun off => forceNat len fun len => forceNat cap fun cap => k (.osl o off len cap)) = _
    simp
  | gsl o len =>
    show forceNat o (fun o => forceNat len fun len => k (.gsl o len)) = _
    simp
  | map o =>
    cases o with
    | none => rfl
    | some o => exact forceNat_eq o fun o => k (.map (some o))
  | agg cs => exact forceList_eq cs fun cs => k (.agg cs)
  | tup cs => exact forceList_eq cs fun cs => k (.tup cs)
  | _ => rfl
@[simp] theorem setK_eq : ∀ (l : List TV) (n : Nat) (v : TV) (k : List TV → ρ), setK l n v k = k (l.set n v)
  | [], n, v, k => by
    show k [] = _
    simp
  | x :: l, 0, v, k => rfl
  | x :: l, n + 1, v, k => by
    show setK l n v (fun l => k (x :: l)) = _
    rw [setK_eq l]
    rfl
theorem Env.at_eq : ∀ (e : Env) (t : Nat), e.at t = e.getD t .junk
  | [], t => rfl
  | x :: e, 0 => rfl
  | x :: e, t + 1 => by
    show Env.at e t = _
    rw [Env.at_eq e t]
    simp
end

/-! ### The relation of values -/
/-- What is known of memory: where objects lie, which cells stay for ever, where rows that may be appended to lie. -/
structure G where
  base : Nat
  w0 : World
  hV : VarsOk base w0
  φ : Nat → Option Nat
  sol : Nat → Nat → Option Value
  ntips : Nat
  tip : Nat → Nat
  loc : Nat → Option (Nat × Nat)
  rc : Nat → Option (Nat × TypeId)
  hG : ∀ (n i : Nat) (k : IntKind) (z : Int), (globC n)[i]? = some (k, z) → n < base ∧ sol n i = some (.int k z)

structure G.le (g g' : G) : Prop where
  base : g'.base = g.base
  w0 : g'.w0 = g.w0
  φ : ∀ o b, g.φ o = some b → g'.φ o = some b
  sol : ∀ b i v, g.sol b i = some v → g'.sol b i = some v
  nt : g.ntips ≤ g'.ntips
  tip : ∀ i, i < g.ntips → g.tip i ≤ g'.tip i
  loc : ∀ i, i < g.ntips → g'.tip i = g.tip i → g'.loc i = g.loc i
  old : ∀ b i v, b < g.base → g'.sol b i = some v → g.sol b i = some v
  rc : ∀ o x, g.rc o = some x → g'.rc o = some x

theorem G.le.refl (g : G) : g.le g := ⟨rfl, rfl, fun _ _ h => h, fun _ _ _ h => h, Nat.le_refl _, fun _ _ => Nat.le_refl _, fun _ _ _ => rfl, fun _ _ _ _ h => h, fun _ _ h => h⟩
theorem G.le.trans {a b c : G} (h : a.le b) (k : b.le c) : a.le c where
  base := k.base.trans h.base
  w0 := k.w0.trans h.w0
  φ := fun o x e => k.φ o x (h.φ o x e)
  sol := fun x i v e => k.sol x i v (h.sol x i v e)
  old := fun b i v hb e => h.old b i v hb (k.old b i v (by rw [h.base]; exact hb) e)
  nt := Nat.le_trans h.nt k.nt
  rc := fun o x e => k.rc o x (h.rc o x e)
  tip := fun i hi => Nat.le_trans (h.tip i hi) (k.tip i (Nat.lt_of_lt_of_le hi h.nt))
  loc := fun i hi e => by
    have h1 := h.tip i hi
    have h2 := k.tip i (Nat.lt_of_lt_of_le hi h.nt)
    rw [k.loc i (Nat.lt_of_lt_of_le hi h.nt) (by omega), h.loc i hi (by omega)]

def SolAt (g : G) (b off : Nat) (vs : List Value) : Prop := ∀ i v, vs[i]? = some v → g.sol b (off + i) = some v
def TokOk (g : G) (tok : Tok) (b off n cap : Nat) : Prop := match tok with
  | .unk => True
  | .exact => cap = n
  | .tip i => i < g.ntips ∧ off = 0 ∧ n ≤ g.tip i ∧ (n = g.tip i → g.loc i = some (b, cap))

mutual
inductive VRel (g : G) : Value → TV → Prop where
  | junk (v : Value) : VRel g v .junk
  | bool (b : Bool) : VRel g (.bool b) (.bool b)
  | int (k : IntKind) (n : Int) : VRel g (.int k n) (.int k n)
  | str (s : ByteArray) (l : List UInt8) : s.data.toList = l → VRel g (.string s) (.str l)
  | nilp : VRel g (.pointer none) .nilp
  | ptr (o b off : Nat) : g.φ o = some b → VRel g (.pointer (some ⟨b, off, none⟩)) (.ptr o off)
  | eptr (b off : Nat) (vs : List Value) (cs : List TV) : SolAt g b off vs → VRels g vs cs → VRel g (.pointer (some ⟨b, off, none⟩)) (.eptr cs)
  | nils (tok : Tok) : (∀ i, tok ≠ .tip i) → VRel g (.slice none 0 0) (.slice true [] tok)
  | empty (a : Addr) (cap : Nat) (tok : Tok) : (∀ i, tok ≠ .tip i) → (tok = .exact → cap = 0) → VRel g (.slice (some a) 0 cap) (.slice false [] tok)
  | slice (b off n cap size : Nat) (vs : List Value) (es : List TV) (tok : Tok) : es ≠ [] → es.length = n → n ≤ cap → 0 < size → (∀ e, e ∈ es → e.cells.length = size) →
      SolAt g b off vs → VRels g vs (es.flatMap TV.cells) → TokOk g tok b off n cap → VRel g (.slice (some ⟨b, off, none⟩) n cap) (.slice false es tok)
  | osl (a : Addr) (o off len cap cap' : Nat) : (cap ≠ 0 → ∃ b, g.φ o = some b ∧ a = ⟨b, off, none⟩) → len ≤ cap → cap ≤ cap' → VRel g (.slice (some a) len cap') (.osl o off len cap)
  | gsl (o b len cap : Nat) (e : TypeId) : g.φ o = some b → g.rc o = some (cap, e) → len ≤ cap → VRel g (.slice (some ⟨b, 0, none⟩) len cap) (.gsl o len)
  | nomap : VRel g (.map none) (.map none)
  | map (o b : Nat) : g.φ o = some b → VRel g (.map (some b)) (.map (some o))
  | fn (f : Fn) (a c : Array Value) (a' c' : List TV) : VRels g a.toList a' → VRels g c.toList c' → VRel g (.func f a c) (.fn f a' c')
  | nilfn : VRel g .nilFunc .nilfn
  | iface (t : TypeId) (v : Value) (v' : TV) : VRel g v v' → VRel g (.iface t v) (.iface t v')
  | niliface : VRel g .nilIface .niliface
  | agg (vs : Array Value) (cs : List TV) : VRels g vs.toList cs → VRel g (.agg vs) (.agg cs)
  | tup (vs : Array Value) (cs : List TV) : VRels g vs.toList cs → VRel g (.tuple vs) (.tup cs)
inductive VRels (g : G) : List Value → List TV → Prop where
  | nil : VRels g [] []
  | cons (v : Value) (t : TV) (vs : List Value) (ts : List TV) : VRel g v t → VRels g vs ts → VRels g (v :: vs) (t :: ts)
end

theorem TokOk.mono {g g' : G} (h : g.le g') {tok : Tok} {b off n cap : Nat} (k : TokOk g tok b off n cap) : TokOk g' tok b off n cap := by
  cases tok with
  | unk => trivial
  | exact => exact k
  | tip i =>
    obtain ⟨k1, k2, k3, k4⟩ := k
    have h1 := h.tip i k1
    refine ⟨Nat.lt_of_lt_of_le k1 h.nt, k2, by omega, fun e => ?_⟩
    rw [h.loc i k1 (by omega)]
    exact k4 (by omega)
theorem SolAt.mono {g g' : G} (h : g.le g') {b off : Nat} {vs : List Value} (k : SolAt g b off vs) : SolAt g' b off vs := fun i v e => h.sol _ _ _ (k i v e)

mutual
theorem VRel.mono {g g' : G} (h : g.le g') : ∀ {v : Value} {t : TV}, VRel g v t → VRel g' v t
  | _, _, .junk v => .junk v
  | _, _, .bool b => .bool b
  | _, _, .int k n => .int k n
  | _, _, .str s l e => .str s l e
  | _, _, .nilp => .nilp
  | _, _, .ptr o b off e => .ptr o b off (h.φ _ _ e)
  | _, _, .eptr b off vs cs e r => .eptr b off vs cs (e.mono h) (VRels.mono h r)
  | _, _, .nils tok e => .nils tok e
  | _, _, .empty a cap tok e e' => .empty a cap tok e e'
  | _, _, .slice b off n cap size vs es tok e1 e2 e3 e4 e5 e6 r e7 => .slice b off n cap size vs es tok e1 e2 e3 e4 e5 (e6.mono h) (VRels.mono h r) (e7.mono h)
  | _, _, .osl a o off len cap cap' e e' e'' => .osl a o off len cap cap' (fun hc => by obtain ⟨b, h1, h2⟩ := e hc; exact ⟨b, h.φ _ _ h1, h2⟩) e' e''
  | _, _, .gsl o b len cap e h1 h2 h3 => .gsl o b len cap e (h.φ _ _ h1) (h.rc _ _ h2) h3
  | _, _, .nomap => .nomap
  | _, _, .map o b e => .map o b (h.φ _ _ e)
  | _, _, .fn f a c a' c' r r' => .fn f a c a' c' (VRels.mono h r) (VRels.mono h r')
  | _, _, .nilfn => .nilfn
  | _, _, .iface t v v' r => .iface t v v' (VRel.mono h r)
  | _, _, .niliface => .niliface
  | _, _, .agg vs cs r => .agg vs cs (VRels.mono h r)
  | _, _, .tup vs cs r => .tup vs cs (VRels.mono h r)
theorem VRels.mono {g g' : G} (h : g.le g') : ∀ {vs : List Value} {ts : List TV}, VRels g vs ts → VRels g' vs ts
  | _, _, .nil => .nil
  | _, _, .cons v t vs ts r rs => .cons v t vs ts (VRel.mono h r) (VRels.mono h rs)
end

section
variable {g : G}
theorem VRels.length {vs : List Value} {ts : List TV} (h : VRels g vs ts) : vs.length = ts.length := by
  induction vs generalizing ts with
  | nil => cases h; rfl
  | cons v vs ih => cases h with | cons _ _ _ _ r rs => simp [ih rs]
theorem VRels.get {vs : List Value} {ts : List TV} (h : VRels g vs ts) : ∀ {i : Nat} {t : TV}, ts[i]? = some t → ∃ v, vs[i]? = some v ∧ VRel g v t := by
  induction vs generalizing ts with
  | nil => cases h; intro i t e; simp at e
  | cons v vs ih =>
    cases h with
    | cons _ _ _ _ r rs =>
      intro i t e
      cases i with
      | zero => simp at e; subst e; exact ⟨v, rfl, r⟩
      | succ i => simpa using ih rs (by simpa using e)
theorem VRels.get' {vs : List Value} {ts : List TV} (h : VRels g vs ts) {i : Nat} {v : Value} (e : vs[i]? = some v) : ∃ t, ts[i]? = some t ∧ VRel g v t := by
  have hi : i < ts.length := by rw [← h.length]; exact (List.getElem?_eq_some_iff.1 e).1
  obtain ⟨v', e', r⟩ := h.get (List.getElem?_eq_getElem hi)
  rw [e] at e'
  cases e'
  exact ⟨_, List.getElem?_eq_getElem hi, r⟩
theorem VRels.of {vs : List Value} {ts : List TV} (hl : vs.length = ts.length) (h : ∀ (i : Nat) (v : Value) (t : TV), vs[i]? = some v → ts[i]? = some t → VRel g v t) : VRels g vs ts := by
  induction vs generalizing ts with
  | nil => cases ts with | nil => exact .nil | cons => simp at hl
  | cons v vs ih =>
    cases ts with
    | nil => simp at hl
    | cons t ts => exact .cons _ _ _ _ (h 0 v t rfl rfl) (ih (by simpa using hl) fun i v t e1 e2 => h (i + 1) v t (by simpa using e1) (by simpa using e2))
theorem VRels.append {vs vs' : List Value} {ts ts' : List TV} (h : VRels g vs ts) (h' : VRels g vs' ts') : VRels g (vs ++ vs') (ts ++ ts') := by
  induction vs generalizing ts with
  | nil => cases h; exact h'
  | cons v vs ih => cases h with | cons _ _ _ _ r rs => exact .cons _ _ _ _ r (ih rs)
theorem VRels.drop {vs : List Value} {ts : List TV} (h : VRels g vs ts) (n : Nat) : VRels g (vs.drop n) (ts.drop n) := by
  induction n generalizing vs ts with
  | zero => simpa using h
  | succ n ih => cases h with | nil => simpa using .nil | cons _ _ _ _ r rs => simpa using ih rs
theorem VRels.take {vs : List Value} {ts : List TV} (h : VRels g vs ts) (n : Nat) : VRels g (vs.take n) (ts.take n) := by
  induction n generalizing vs ts with
  | zero => simpa using .nil
  | succ n ih => cases h with | nil => simpa using .nil | cons _ _ _ _ r rs => exact .cons _ _ _ _ r (ih rs)
theorem VRels.set {vs : List Value} {ts : List TV} (h : VRels g vs ts) (n : Nat) {v : Value} {t : TV} (r : VRel g v t) : VRels g (vs.set n v) (ts.set n t) := by
  induction n generalizing vs ts with
  | zero => cases h with | nil => exact .nil | cons _ _ _ _ _ rs => exact .cons _ _ _ _ r rs
  | succ n ih => cases h with | nil => exact .nil | cons _ _ _ _ r' rs => exact .cons _ _ _ _ r' (ih rs)
theorem VRels.replicate (n : Nat) {v : Value} {t : TV} (r : VRel g v t) : VRels g (List.replicate n v) (List.replicate n t) := by
  induction n with
  | zero => exact .nil
  | succ n ih => exact .cons _ _ _ _ r ih

theorem VRel.cells {v : Value} {t : TV} (h : VRel g v t) (hj : t ≠ .junk) : VRels g v.cells.toList t.cells := by
  cases h with
  | junk => exact absurd rfl hj
  | agg vs cs r => exact r
  | _ => exact .cons _ _ _ _ (by constructor <;> assumption) .nil
theorem VRel.oneCell {v : Value} {t : TV} (h : VRel g v t) (hc : cellOk t = true) : v.oneCell' = true := by
  cases h <;> first | rfl | simp [cellOk] at hc
theorem VRels.oneCell {vs : List Value} {ts : List TV} (h : VRels g vs ts) (hc : ts.all cellOk = true) : ∀ v ∈ vs, v.oneCell' = true := by
  intro v hv
  obtain ⟨i, hi, rfl⟩ := List.getElem_of_mem hv
  obtain ⟨t, e, r⟩ := h.get' (List.getElem?_eq_getElem hi)
  exact r.oneCell (List.all_eq_true.1 hc t (List.mem_of_getElem? e))
end

/-! ### Constants -/
mutual
theorem VRel.const (g : G) : ∀ v : Value, VRel g v (ofConst v)
  | .bool b => by simpa [ofConst] using .bool b
  | .int k n => by simpa [ofConst] using .int k n
  | .string s => by simpa [ofConst] using .str s _ rfl
  | .pointer none => by simpa [ofConst] using .nilp
  | .pointer (some a) => by simpa [ofConst] using .junk _
  | .slice a n c => by
    by_cases h : a = none ∧ n = 0 ∧ c = 0
    · obtain ⟨rfl, rfl, rfl⟩ := h
      simpa [ofConst] using .nils _ (by intro i e; cases e)
    · have : ofConst (.slice a n c) = .junk := by
        unfold ofConst
        split <;> simp_all
      rw [this]
      exact .junk _
  | .map none => by simpa [ofConst] using .nomap
  | .map (some r) => by simpa [ofConst] using .junk _
  | .chan r => by simpa [ofConst] using .junk _
  | .func f a c => by simpa [ofConst] using .junk _
  | .nilFunc => by simpa [ofConst] using .nilfn
  | .iface t v => by simpa [ofConst] using .iface t v _ (VRel.const g v)
  | .nilIface => by simpa [ofConst] using .niliface
  | .agg ⟨cs⟩ => by simpa [ofConst] using .agg ⟨cs⟩ _ (VRels.const g cs)
  | .tuple ⟨cs⟩ => by simpa [ofConst] using .tup ⟨cs⟩ _ (VRels.const g cs)
  | .float k b => by simpa [ofConst] using .junk _
  | .complex k a b => by simpa [ofConst] using .junk _
theorem VRels.const (g : G) : ∀ vs : List Value, VRels g vs (ofConsts vs)
  | [] => by simpa [ofConsts] using .nil
  | v :: l => by simpa [ofConsts] using .cons _ _ _ _ (VRel.const g v) (VRels.const g l)
end

/-- A slice that may grow is one. -/
theorem VRel.ungrow {g : G} {v : Value} {o len : Nat} (h : VRel g v (.gsl o len)) : VRel g v (.osl o 0 len len) := by
  cases h with
  | gsl _ b _ cap e h1 h2 h3 => exact .osl _ _ _ _ _ _ (fun _ => ⟨b, h1, rfl⟩) (Nat.le_refl _) h3
theorem VRel.ungsl {g : G} {v : Value} {x : TV} (h : VRel g v x) : VRel g v (ungsl x) := by
  cases x with
  | gsl o len => exact h.ungrow
  | _ => exact h

end Go.Proofs.YthnhbejjikgifaaGreatDoor.TV

/-
  TV: the world's relation to the store; new rows, new objects, objects written, rows appended to.
-/
namespace Go.Proofs.YthnhbejjikgifaaGreatDoor.TV
open Go Go.RowKit
set_option linter.unusedSimpArgs false
set_option linter.unusedVariables false

inductive EntRel (g : G) : List MapEntry → List (TV × TV × Nat) → Prop where
  | nil : EntRel g [] []
  | cons (e : MapEntry) (k v : TV) (n : Nat) (es : List MapEntry) (ts : List (TV × TV × Nat)) : VRel g e.key k → VRel g e.val v → e.born = n → EntRel g es ts → EntRel g (e :: es) ((k, v, n) :: ts)
theorem EntRel.mono {g g' : G} (h : g.le g') {es : List MapEntry} {ts : List (TV × TV × Nat)} (r : EntRel g es ts) : EntRel g' es ts := by
  induction r with
  | nil => exact .nil
  | cons e k v n es ts h1 h2 h3 _ ih => exact .cons e k v n es ts (h1.mono h) (h2.mono h) h3 ih

/-- What lies at block b begins with the object. -/
def ObjRel (g : G) (w : World) (b : Nat) : Obj → Prop
  | .cells cs t => ∃ vs : Array Value, w.heap[b]? = some (.cells vs t (0, 0)) ∧ VRels g (vs.toList.take cs.length) cs
  | .map es clock => ∃ rs : Array MapEntry, w.heap[b]? = some (.map rs clock) ∧ EntRel g rs.toList es

theorem ObjRel.mono {g g' : G} (h : g.le g') {w : World} {b : Nat} {o : Obj} (r : ObjRel g w b o) : ObjRel g' w b o := by
  cases o with
  | cells cs t => obtain ⟨vs, h1, h2⟩ := r; exact ⟨vs, h1, h2.mono h⟩
  | map es clock => obtain ⟨rs, h1, h2⟩ := r; exact ⟨rs, h1, h2.mono h⟩
theorem ObjRel.block {g : G} {w w' : World} {b : Nat} {o : Obj} (r : ObjRel g w b o) (e : w'.heap[b]? = w.heap[b]?) : ObjRel g w' b o := by
  cases o with
  | cells cs t => obtain ⟨vs, h1, h2⟩ := r; exact ⟨vs, e.trans h1, h2⟩
  | map es clock => obtain ⟨rs, h1, h2⟩ := r; exact ⟨rs, e.trans h1, h2⟩
theorem ObjRel.lt {g : G} {w : World} {b : Nat} {o : Obj} (r : ObjRel g w b o) : b < w.heap.size := by
  cases o with
  | cells cs t => obtain ⟨vs, h1, h2⟩ := r; exact (Array.getElem?_eq_some_iff.1 h1).1
  | map es clock => obtain ⟨rs, h1, h2⟩ := r; exact (Array.getElem?_eq_some_iff.1 h1).1

/-- A row that may be appended to. -/
structure TokAt (P : Program) (g : G) (w : World) (i b cap : Nat) (e : TypeId) (xs : List Value) : Prop where
  own : w.ownsRow g.base e (P.cellsOf e) (.slice (some ⟨b, 0, none⟩) (g.tip i) cap) (g.tip i) xs
  size : 0 < P.cellsOf e
  tip : 0 < g.tip i
  sol : ∀ j, g.sol b j = xs[j]?

/-- An object of which nothing is told. -/
def Empty (s : St) (o : Nat) : Prop := ∃ t, s.objs.get o = some (.cells [] t)

structure Rel (P : Program) (g : G) (w : World) (s : St) : Prop where
  below : Below g.base g.w0 w
  bsize : g.base ≤ w.heap.size
  sol : ∀ b i v, g.sol b i = some v → w.cell? ⟨b, i, none⟩ = some v
  ids : ∀ o b, g.φ o = some b → o < s.n ∧ g.base ≤ b
  inj : ∀ o o' b, g.φ o = some b → g.φ o' = some b → ¬ Empty s o → ¬ Empty s o' → o = o'
  nosol : ∀ o b i, g.φ o = some b → ¬ Empty s o → g.sol b i = none
  rows : ∀ o b cap e, g.φ o = some b → g.rc o = some (cap, e) → ∃ vs : Array Value, w.heap[b]? = some (.cells vs e (0, 0)) ∧ vs.size = cap * P.cellsOf e
  apart : ∀ i o b c, i < g.ntips → g.loc i = some (b, c) → g.φ o = some b → False
  rcs : ∀ o x, g.rc o = some x → o < s.n
  obj : ∀ o b, g.φ o = some b → ∃ ob, s.objs.get o = some ob ∧ ObjRel g w b ob
  nts : g.ntips = s.ntips
  toks : ∀ i, i < g.ntips → ∃ b cap e xs, g.loc i = some (b, cap) ∧ s.tips.get i = some (g.tip i, e) ∧ TokAt P g w i b cap e xs
  tinj : ∀ i j b c c', i < g.ntips → j < g.ntips → g.loc i = some (b, c) → g.loc j = some (b, c') → i = j

section
variable {P : Program} {g : G} {w w' : World} {s : St}

theorem Rel.sol_lt (h : Rel P g w s) {b i : Nat} {v : Value} (e : g.sol b i = some v) : b < w.heap.size :=
  World.block_lt_of_cell? w ⟨b, i, none⟩ (h.sol b i v e)
theorem Rel.obj_lt (h : Rel P g w s) {o b : Nat} (e : g.φ o = some b) : b < w.heap.size := by
  obtain ⟨ob, _, r⟩ := h.obj o b e
  exact r.lt
theorem TokAt.lt {i b cap : Nat} {e : TypeId} {xs : List Value} (t : TokAt P g w i b cap e xs) : g.base ≤ b ∧ b < w.heap.size := t.own.lt b rfl
theorem TokAt.sol0 {i b cap : Nat} {e : TypeId} {xs : List Value} (t : TokAt P g w i b cap e xs) : ∃ v, g.sol b 0 = some v := by
  have hl : xs.length = g.tip i * P.cellsOf e := t.own.1
  have : 0 < xs.length := by rw [hl]; exact Nat.mul_pos t.tip t.size
  exact ⟨xs[0], by rw [t.sol 0, List.getElem?_eq_getElem this]⟩
theorem TokAt.block {i b cap : Nat} {e : TypeId} {xs : List Value} (t : TokAt P g w i b cap e xs) (hb : w'.heap[b]? = w.heap[b]?) : TokAt P g w' i b cap e xs :=
  ⟨by
    refine ⟨t.own.1, ?_⟩
    rcases t.own.2 with h | ⟨g', c', cur, h1, h2, h3, h4⟩
    · exact .inl h
    · have : g' = b := by injection h1 with h1; injection h1 with h1; injection h1 with h1; exact h1.symm
      subst this
      exact .inr ⟨g', c', cur, h1, h2, hb.trans h3, h4⟩, t.size, t.tip, t.sol⟩

/-- Nothing that was there has turned. -/
theorem Rel.keep (h : Rel P g w s) (hb : Below w.heap.size w w') : Rel P g w' s where
  below := h.below.trans (hb.mono h.bsize)
  bsize := Nat.le_trans h.bsize hb.size
  sol := fun b i v e => by
    have := h.sol b i v e
    rw [← this]
    exact hb.cell (p := ⟨b, i, none⟩) (h.sol_lt e)
  ids := h.ids
  inj := h.inj
  nosol := h.nosol
  rows := fun o b cap e ho hr => by
    obtain ⟨vs, h1, h2⟩ := h.rows o b cap e ho hr
    exact ⟨vs, (hb.block b (h.obj_lt ho)).trans h1, h2⟩
  apart := h.apart
  rcs := h.rcs
  obj := fun o b e => by
    obtain ⟨ob, h1, h2⟩ := h.obj o b e
    exact ⟨ob, h1, h2.block (hb.block b h2.lt)⟩
  nts := h.nts
  toks := fun i hi => by
    obtain ⟨b, cap, e, xs, h1, h2, h3⟩ := h.toks i hi
    exact ⟨b, cap, e, xs, h1, h2, h3.block (hb.block b h3.lt.2)⟩
  tinj := h.tinj

theorem Rel.drew (h : Rel P g w s) : Rel P g w.drew s := h.keep ((Below.refl _ _).drew)

/-- New cells that stay for ever. -/
def G.addSol (g : G) (b : Nat) (vs : List Value) : G := { g with
  sol := fun c i => if c = b ∧ g.base ≤ b then vs[i]? else g.sol c i
  hG := fun n i k z h => by
    obtain ⟨h1, h2⟩ := g.hG n i k z h
    exact ⟨h1, by rw [if_neg (by omega)]; exact h2⟩ }

theorem Rel.newData (h : Rel P g w s) (hb : Below w.heap.size w w') {b : Nat} (hlt : w.heap.size ≤ b) {vs : List Value}
    (hc : ∀ i v, vs[i]? = some v → w'.cell? ⟨b, i, none⟩ = some v) : g.le (g.addSol b vs) ∧ Rel P (g.addSol b vs) w' s ∧ SolAt (g.addSol b vs) b 0 vs := by
  have hle : g.le (g.addSol b vs) := by
    refine ⟨rfl, rfl, fun _ _ e => e, fun c i v e => ?_, Nat.le_refl _, fun _ _ => Nat.le_refl _, fun _ _ _ => rfl, fun c i v hc e => by
      have := h.bsize
      simp only [G.addSol] at e
      rw [if_neg (by omega)] at e
      exact e, fun _ _ e => e⟩
    have := h.sol_lt e
    simp only [G.addSol]
    rw [if_neg (by omega)]
    exact e
  have k := h.keep hb
  refine ⟨hle, ⟨k.below, k.bsize, fun c i v e => ?_, k.ids, k.inj, fun o c i e hne => ?_, k.rows, k.apart, k.rcs, fun o c e => ?_, k.nts, fun i hi => ?_, k.tinj⟩, fun i v e => ?_⟩
  · simp only [G.addSol] at e
    split at e
    · rename_i hcb; obtain ⟨rfl, _⟩ := hcb; exact hc i v e
    · exact k.sol c i v e
  · have := h.obj_lt e
    simp only [G.addSol]
    rw [if_neg (by omega)]
    exact k.nosol o c i e hne
  · obtain ⟨ob, h1, h2⟩ := k.obj o c e
    exact ⟨ob, h1, h2.mono hle⟩
  · obtain ⟨c, cap, e, xs, h1, h2, h3⟩ := h.toks i hi
    obtain ⟨c', cap', e', xs', h1', h2', h3'⟩ := k.toks i hi
    refine ⟨c', cap', e', xs', h1', h2', ⟨h3'.own, h3'.size, h3'.tip, fun j => ?_⟩⟩
    rw [h1] at h1'
    cases h1'
    have := h3.lt.2
    simp only [G.addSol]
    rw [if_neg (by omega)]
    exact h3'.sol j
  · have hbb : g.base ≤ b := Nat.le_trans h.bsize hlt
    simp [G.addSol, e, hbb]

/-- A new object. -/
def G.addObj (g : G) (o b : Nat) : G := { g with φ := fun p => if p = o then some b else g.φ p }

theorem Rel.newObj (h : Rel P g w s) (hb : Below w.heap.size w w') {b : Nat} (hlt : w.heap.size ≤ b) {ob : Obj} (hr : ObjRel g w' b ob) :
    g.le (g.addObj s.n b) ∧ Rel P (g.addObj s.n b) w' (mkObj s ob) ∧ (g.addObj s.n b).φ s.n = some b := by
  have hφ : g.φ s.n = none := by
    cases e : g.φ s.n with
    | none => rfl
    | some c => have := (h.ids _ _ e).1; omega
  have hle : g.le (g.addObj s.n b) := by
    refine ⟨rfl, rfl, fun o c e => ?_, fun _ _ _ e => e, Nat.le_refl _, fun _ _ => Nat.le_refl _, fun _ _ _ => rfl, fun _ _ _ _ e => e, fun _ _ e => e⟩
    simp only [G.addObj]
    rw [if_neg (fun eo => by subst eo; rw [hφ] at e; cases e)]
    exact e
  have k := h.keep hb
  have hemp : ∀ o, o ≠ s.n → (Empty (mkObj s ob) o ↔ Empty s o) := fun o ho => by
    unfold Empty mkObj
    simp only [Tr.get_set, if_neg ho]
  refine ⟨hle, ⟨k.below, k.bsize, k.sol, fun o c e => ?_, fun o o' c e e' n1 n2 => ?_, fun o c i e n1 => ?_, fun o c cap el e hr => ?_, fun i o c c' hi hl e => ?_, fun o x e => ?_, fun o c e => ?_, k.nts, fun i hi => ?_, k.tinj⟩, by simp [G.addObj]⟩
  · simp only [G.addObj] at e
    simp only [mkObj]
    split at e
    · rename_i ho; subst ho; cases e; exact ⟨by omega, Nat.le_trans h.bsize hlt⟩
    · have := k.ids o c e; exact ⟨by omega, this.2⟩
  · simp only [G.addObj] at e e'
    split at e <;> split at e'
    · simp_all
    · rename_i h1 h2; cases e; have := h.obj_lt e'; omega
    · rename_i h1 h2; cases e'; have := h.obj_lt e; omega
    · rename_i h1 h2; exact k.inj _ _ _ e e' (fun q => n1 ((hemp _ h1).2 q)) (fun q => n2 ((hemp _ h2).2 q))
  · simp only [G.addObj] at e
    split at e
    · cases e
      show g.sol _ i = none
      cases es : g.sol b i with
      | none => rfl
      | some v => have := h.sol_lt es; omega
    · rename_i h1; exact k.nosol o c i e (fun q => n1 ((hemp _ h1).2 q))
  · simp only [G.addObj] at e
    split at e
    · rename_i ho; subst ho; have hlt' := h.rcs _ _ hr; omega
    · exact k.rows o c cap el e hr
  · simp only [G.addObj] at e
    split at e
    · cases e
      obtain ⟨c1, cap1, e1, xs1, h1, h2, h3⟩ := h.toks i hi
      have hl' : g.loc i = some (b, c') := hl
      rw [h1] at hl'
      cases hl'
      have := h3.lt.2
      omega
    · exact k.apart i o c c' hi hl e
  · have hlt' := h.rcs o x e
    show o < s.n + 1
    omega
  · simp only [G.addObj] at e
    show ∃ ob', (s.objs.set s.n ob).get o = some ob' ∧ _
    simp only [Tr.get_set]
    split at e
    · rename_i ho; subst ho; cases e; exact ⟨ob, by simp, hr.mono hle⟩
    · rename_i ho
      obtain ⟨ob', h1, h2⟩ := k.obj o c e
      exact ⟨ob', by rw [if_neg ho]; exact h1, h2.mono hle⟩
  · obtain ⟨c, cap, e, xs, h1, h2, h3⟩ := k.toks i hi
    exact ⟨c, cap, e, xs, h1, h2, ⟨h3.own, h3.size, h3.tip, h3.sol⟩⟩

/-- An object is written. -/
theorem Rel.setObj (h : Rel P g w s) {o b : Nat} (ho : g.φ o = some b) (hb : ∀ k, k ≠ b → w'.heap[k]? = w.heap[k]?) (hos : w'.os = w.os) (htape : w'.tape = w.tape) (hout : w'.output = w.output)
    (hsize : w'.heap.size = w.heap.size) (hne : ¬ Empty s o) (hsh : ∀ (vs : Array Value) (e : TypeId), w.heap[b]? = some (.cells vs e (0, 0)) → ∃ vs' : Array Value, w'.heap[b]? = some (.cells vs' e (0, 0)) ∧ vs'.size = vs.size) {ob : Obj} (hr : ObjRel g w' b ob) : Rel P g w' { s with objs := s.objs.set o ob } where
  below := h.below.trans ⟨hos, htape, hout, by omega, fun k hk => hb k (by have := (h.ids o b ho).2; omega)⟩
  bsize := by rw [hsize]; exact h.bsize
  sol := fun c i v e => by
    rw [← h.sol c i v e]
    refine World.cell?_of_block (w := w) (hb c (fun ec => ?_))
    subst ec
    rw [h.nosol o c i ho hne] at e
    cases e
  ids := h.ids
  inj := fun p q c e e' n1 n2 => by
    have hem : ∀ p, p ≠ o → Empty s p → Empty { s with objs := s.objs.set o ob } p := fun p hp ⟨t, ht⟩ => ⟨t, by simp only [Tr.get_set, if_neg hp]; exact ht⟩
    refine h.inj p q c e e' (fun k => ?_) (fun k => ?_)
    · by_cases hp : p = o
      · subst hp; exact hne k
      · exact n1 (hem p hp k)
    · by_cases hp : q = o
      · subst hp; exact hne k
      · exact n2 (hem q hp k)
  nosol := fun p c i e n1 => by
    refine h.nosol p c i e (fun k => ?_)
    by_cases hp : p = o
    · subst hp; exact hne k
    · obtain ⟨t, ht⟩ := k
      exact n1 ⟨t, by simp only [Tr.get_set, if_neg hp]; exact ht⟩
  rows := fun p c cap e hp hrc => by
    obtain ⟨vs, h1, h2⟩ := h.rows p c cap e hp hrc
    by_cases hc : c = b
    · subst hc
      obtain ⟨vs', h3, h4⟩ := hsh vs e h1
      exact ⟨vs', h3, h4.trans h2⟩
    · exact ⟨vs, (hb c hc).trans h1, h2⟩
  apart := h.apart
  rcs := h.rcs
  obj := fun p c e => by
    show ∃ ob', (s.objs.set o ob).get p = some ob' ∧ _
    simp only [Tr.get_set]
    by_cases hp : p = o
    · subst hp
      rw [ho] at e
      cases e
      exact ⟨ob, by simp, hr⟩
    · obtain ⟨ob', h1, h2⟩ := h.obj p c e
      by_cases hc : c = b
      · subst hc
        have hpe : Empty s p := Classical.byContradiction fun k => hp (h.inj _ _ _ e ho k hne)
        obtain ⟨t, ht⟩ := hpe
        rw [h1] at ht
        cases ht
        obtain ⟨vs, h3, _⟩ := h2
        obtain ⟨vs', h5, _⟩ := hsh vs t h3
        exact ⟨.cells [] t, by rw [if_neg hp]; exact h1, vs', h5, by simpa using VRels.nil⟩
      · exact ⟨ob', by rw [if_neg hp]; exact h1, h2.block (hb c hc)⟩
  nts := h.nts
  toks := fun i hi => by
    obtain ⟨c, cap, e, xs, h1, h2, h3⟩ := h.toks i hi
    refine ⟨c, cap, e, xs, h1, h2, h3.block (hb c (fun ec => ?_))⟩
    subst ec
    exact h.apart i o c cap hi h1 ho
  tinj := h.tinj

theorem heap_setRow_ne (w : World) (b : Nat) (cs : Array Value) (k : Nat) (hk : k ≠ b) : (w.setRow b cs).heap[k]? = w.heap[k]? := by
  simp only [World.setRow, Array.getElem?_modify]
  rw [if_neg (fun e => hk e.symm)]
theorem size_setRow (w : World) (b : Nat) (cs : Array Value) : (w.setRow b cs).heap.size = w.heap.size := by simp [World.setRow]

/-- Cells of an object are written. -/
theorem Rel.setCells (h : Rel P g w s) {o b : Nat} (ho : g.φ o = some b) {vs : Array Value} {t : TypeId} (hv : w.heap[b]? = some (.cells vs t (0, 0))) {vs' : Array Value} {cs : List TV}
    (hne : ¬ Empty s o) (hsz : vs'.size = vs.size) (hr : VRels g (vs'.toList.take cs.length) cs) : Rel P g (w.setRow b vs') { s with objs := s.objs.set o (.cells cs t) } :=
  h.setObj ho (fun k hk => heap_setRow_ne w b vs' k hk) rfl rfl rfl (size_setRow w b vs') hne (fun us e he => by
    rw [hv] at he
    cases he
    exact ⟨vs', setRow_heap w b vs vs' t (0, 0) hv, hsz⟩) ⟨vs', setRow_heap w b vs vs' t (0, 0) hv, hr⟩

/-- A row is appended to: it lies now at block b (its own still, or a new one). -/
def G.addTip (g : G) (i n b cap : Nat) (xs : List Value) : G :=
  { g with
    sol := fun c j => if c = b ∧ g.base ≤ b then xs[j]? else g.sol c j
    hG := fun n i k z h => by
      obtain ⟨h1, h2⟩ := g.hG n i k z h
      exact ⟨h1, by rw [if_neg (by omega)]; exact h2⟩
    tip := fun j => if j = i then n else g.tip j
    loc := fun j => if j = i then some (b, cap) else g.loc j
    ntips := max g.ntips (i + 1) }
def St.addTip (s : St) (i n : Nat) (e : TypeId) : St := { s with ntips := max s.ntips (i + 1), tips := s.tips.set i (n, e) }

theorem Rel.appendNew (h : Rel P g w s) (hb : Below w.heap.size w w') {i n b cap : Nat} {e : TypeId} {xs : List Value} (hi : i ≤ s.ntips) (hn : i < s.ntips → g.tip i < n) (hn0 : 0 < n)
    (hlt : w.heap.size ≤ b) (hs : 0 < P.cellsOf e) (ho : w'.ownsRow g.base e (P.cellsOf e) (.slice (some ⟨b, 0, none⟩) n cap) n xs) :
    g.le (g.addTip i n b cap xs) ∧ Rel P (g.addTip i n b cap xs) w' (s.addTip i n e) := by
  have hbb : g.base ≤ b := Nat.le_trans h.bsize hlt
  have hle : g.le (g.addTip i n b cap xs) := by
    refine ⟨rfl, rfl, fun _ _ e => e, fun c j v e => ?_, Nat.le_max_left _ _, fun j hj => ?_, fun j hj e => ?_, fun c j v hc e => by
      have := h.bsize
      simp only [G.addTip] at e
      rw [if_neg (by omega)] at e
      exact e, fun _ _ e => e⟩
    · have := h.sol_lt e
      simp only [G.addTip]
      rw [if_neg (by omega)]
      exact e
    · simp only [G.addTip]
      split
      · rename_i hji; subst hji; have := hn (by rw [← h.nts]; exact hj); omega
      · exact Nat.le_refl _
    · simp only [G.addTip] at e ⊢
      split
      · rename_i hji; subst hji; rw [if_pos rfl] at e; have := hn (by rw [← h.nts]; exact hj); omega
      · rfl
  have k := h.keep hb
  have hcell : ∀ j v, xs[j]? = some v → w'.cell? ⟨b, j, none⟩ = some v := fun j v e => by
    have := ho.cells (g := b) rfl j v e
    have hadd : (⟨b, 0, none⟩ : Addr).add j = ⟨b, j, none⟩ := by unfold Addr.add; split <;> simp_all
    rwa [hadd] at this
  refine ⟨hle, ⟨k.below, k.bsize, fun c j v e => ?_, k.ids, k.inj, fun o c j e hne => ?_, k.rows, fun j o c c' hj hl e => ?_, k.rcs, fun o c e => ?_, ?_, fun j hj => ?_, fun j l c c1 c2 hj hl e1 e2 => ?_⟩⟩
  · simp only [G.addTip] at e
    split at e
    · rename_i hcb; obtain ⟨rfl, _⟩ := hcb; exact hcell j v e
    · exact k.sol c j v e
  · have := h.obj_lt e
    simp only [G.addTip]
    rw [if_neg (by omega)]
    exact k.nosol o c j e hne
  · have hlt' := h.obj_lt e
    have hj' : j < max g.ntips (i + 1) := hj
    have hnt := h.nts
    simp only [G.addTip] at hl
    split at hl
    · cases hl; omega
    · exact h.apart j o c c' (by omega) hl e
  · obtain ⟨ob, h1, h2⟩ := k.obj o c e
    exact ⟨ob, h1, h2.mono hle⟩
  · show max g.ntips (i + 1) = max s.ntips (i + 1)
    rw [h.nts]
  · show ∃ b1 cap1 e1 xs1, _ ∧ (s.tips.set i (n, e)).get j = _ ∧ _
    simp only [Tr.get_set]
    by_cases hji : j = i
    · subst hji
      refine ⟨b, cap, e, xs, by simp [G.addTip], by simp [G.addTip], ?_, hs, by simpa [G.addTip] using hn0, fun l => by simp [G.addTip, hbb]⟩
      simpa [G.addTip] using ho
    · have hj' : j < g.ntips := by
        have : j < max g.ntips (i + 1) := hj
        have := h.nts
        omega
      obtain ⟨c, cap1, e1, xs1, h1, h2, h3⟩ := h.toks j hj'
      obtain ⟨c', cap1', e1', xs1', h1', h2', h3'⟩ := k.toks j hj'
      rw [h1] at h1'
      cases h1'
      refine ⟨c, cap1, e1', xs1', by simp [G.addTip, hji, h1], by simp [G.addTip, hji, h2'], ?_, h3'.size, by simpa [G.addTip, hji] using h3'.tip, fun l => ?_⟩
      · simpa [G.addTip, hji] using h3'.own
      · have := h3.lt.2
        simp only [G.addTip]
        rw [if_neg (by omega)]
        exact h3'.sol l
  · have hj' : j < max g.ntips (i + 1) := hj
    have hl' : l < max g.ntips (i + 1) := hl
    have hnt := h.nts
    simp only [G.addTip] at e1 e2
    by_cases hji : j = i <;> by_cases hli : l = i
    · omega
    · rw [if_pos hji] at e1
      rw [if_neg hli] at e2
      cases e1
      obtain ⟨c', _, _, _, h1, _, h3⟩ := h.toks l (by omega)
      rw [h1] at e2
      cases e2
      have := h3.lt.2
      omega
    · rw [if_neg hji] at e1
      rw [if_pos hli] at e2
      cases e2
      obtain ⟨c', _, _, _, h1, _, h3⟩ := h.toks j (by omega)
      rw [h1] at e1
      cases e1
      have := h3.lt.2
      omega
    · rw [if_neg hji] at e1
      rw [if_neg hli] at e2
      exact k.tinj j l c c1 c2 (by omega) (by omega) e1 e2

theorem Rel.appendIn (h : Rel P g w s) {i n b cap : Nat} {e : TypeId} {xs : List Value} {cur cur' : Array Value} (hi : i < g.ntips) (hl : g.loc i = some (b, cap)) (ht : s.tips.get i = some (g.tip i, e))
    (hn : g.tip i < n) (hcur : w.heap[b]? = some (.cells cur e (0, 0))) (hs : 0 < P.cellsOf e) (hpre : ∀ j v, g.sol b j = some v → xs[j]? = some v)
    (ho : (w.setRow b cur').ownsRow g.base e (P.cellsOf e) (.slice (some ⟨b, 0, none⟩) n cap) n xs) :
    g.le (g.addTip i n b cap xs) ∧ Rel P (g.addTip i n b cap xs) (w.setRow b cur') (s.addTip i n e) := by
  obtain ⟨b0, cap0, e0, xs0, h1, h2, h3⟩ := h.toks i hi
  rw [hl] at h1
  cases h1
  rw [ht] at h2
  cases h2
  have hbb : g.base ≤ b := h3.lt.1
  have hle : g.le (g.addTip i n b cap xs) := by
    refine ⟨rfl, rfl, fun _ _ e => e, fun c j v e => ?_, Nat.le_max_left _ _, fun j hj => ?_, fun j hj e => ?_, fun c j v hc e => by
      have := h3.lt.1
      simp only [G.addTip] at e
      rw [if_neg (by omega)] at e
      exact e, fun _ _ e => e⟩
    · simp only [G.addTip]
      split
      · rename_i hc; obtain ⟨rfl, _⟩ := hc; exact hpre j v e
      · exact e
    · simp only [G.addTip]
      split
      · rename_i hji; subst hji; omega
      · exact Nat.le_refl _
    · simp only [G.addTip] at e ⊢
      split
      · rename_i hji; subst hji; rw [if_pos rfl] at e; omega
      · rfl
  have hne : ∀ k, k ≠ b → (w.setRow b cur').heap[k]? = w.heap[k]? := fun k hk => heap_setRow_ne w b cur' k hk
  have hcell : ∀ j v, xs[j]? = some v → (w.setRow b cur').cell? ⟨b, j, none⟩ = some v := fun j v e => by
    have := ho.cells (g := b) rfl j v e
    have hadd : (⟨b, 0, none⟩ : Addr).add j = ⟨b, j, none⟩ := by unfold Addr.add; split <;> simp_all
    rwa [hadd] at this
  have hobj : ∀ o c, g.φ o = some c → c ≠ b := fun o c e ec => by
    subst ec
    exact h.apart i o c _ hi hl e
  refine ⟨hle, ⟨h.below.trans ⟨rfl, rfl, rfl, by rw [size_setRow]; exact Nat.le_refl _, fun k hk => hne k (by have := h3.lt.1; omega)⟩, by rw [size_setRow]; exact h.bsize, fun c j v e => ?_, h.ids, h.inj, fun o c j e hne' => ?_, fun o c cap' el e hr => ?_, fun j o c c' hj hl' e => ?_, h.rcs, fun o c e => ?_, ?_,
    fun j hj => ?_, fun j l c c1 c2 hj hl e1 e2 => ?_⟩⟩
  · simp only [G.addTip] at e
    split at e
    · rename_i hcb; obtain ⟨rfl, _⟩ := hcb; exact hcell j v e
    · rename_i hcb0
      have hcb : c ≠ b := fun ec => hcb0 ⟨ec, h3.lt.1⟩
      rw [← h.sol c j v e]
      exact World.cell?_of_block (w := w) (hne c hcb)
  · simp only [G.addTip]
    rw [if_neg (fun hh => hobj o c e hh.1)]
    exact h.nosol o c j e hne'
  · obtain ⟨vs, q1, q2⟩ := h.rows o c cap' el e hr
    exact ⟨vs, (hne c (hobj o c e)).trans q1, q2⟩
  · have hj' : j < max g.ntips (i + 1) := hj
    simp only [G.addTip] at hl'
    split at hl'
    · cases hl'; exact hobj o _ e rfl
    · exact h.apart j o c c' (by omega) hl' e
  · obtain ⟨ob, h4, h5⟩ := h.obj o c e
    exact ⟨ob, h4, (h5.block (hne c (hobj o c e))).mono hle⟩
  · show max g.ntips (i + 1) = max s.ntips (i + 1)
    rw [h.nts]
  · show ∃ b1 cap1 e1 xs1, _ ∧ (s.tips.set i (n, e)).get j = _ ∧ _
    simp only [Tr.get_set]
    by_cases hji : j = i
    · subst hji
      refine ⟨b, cap, e, xs, by simp [G.addTip], by simp [G.addTip], ?_, hs, by simp only [G.addTip, if_true]; omega, fun l => by simp [G.addTip, hbb]⟩
      simpa [G.addTip] using ho
    · have hj' : j < g.ntips := by
        have : j < max g.ntips (i + 1) := hj
        omega
      obtain ⟨c, cap1, e1, xs1, h4, h5, h6⟩ := h.toks j hj'
      have hcb : c ≠ b := fun ec => by subst ec; exact hji (h.tinj _ _ _ _ _ hj' hi h4 hl)
      refine ⟨c, cap1, e1, xs1, by simp [G.addTip, hji, h4], by simp [G.addTip, hji, h5], ?_, h6.size, by simpa [G.addTip, hji] using h6.tip, fun l => ?_⟩
      · simpa [G.addTip, hji] using (h6.block (hne c hcb)).own
      · simp only [G.addTip]
        rw [if_neg (fun hh => hcb hh.1)]
        exact h6.sol l
  · have hj' : j < max g.ntips (i + 1) := hj
    have hl' : l < max g.ntips (i + 1) := hl
    simp only [G.addTip] at e1 e2
    by_cases hji : j = i <;> by_cases hli : l = i
    · omega
    · rw [if_pos hji] at e1
      rw [if_neg hli] at e2
      cases e1
      have := h.tinj _ _ _ _ _ (show l < g.ntips by omega) hi e2 (by assumption)
      omega
    · rw [if_neg hji] at e1
      rw [if_pos hli] at e2
      cases e2
      have := h.tinj _ _ _ _ _ (show j < g.ntips by omega) hi e1 (by assumption)
      omega
    · rw [if_neg hji] at e1
      rw [if_neg hli] at e2
      exact h.tinj j l c c1 c2 (by omega) (by omega) e1 e2
end

end Go.Proofs.YthnhbejjikgifaaGreatDoor.TV

/-
  TV: each operation on plain values is the model's own (1): comparisons, arithmetic.
-/
namespace Go.Proofs.YthnhbejjikgifaaGreatDoor.TV
open Go Go.RowKit
set_option linter.unusedSimpArgs false
set_option linter.unusedVariables false

section
variable {P : Program} {g : G} {w : World} {s : St}

theorem bytes_of {s : ByteArray} {l : List UInt8} (h : s.data.toList = l) : s.toList = l := by rw [ByteArray.toList_eq]; exact h

theorem cellsOf_info {t : TypeId} {i : TypeInfo} (h : P.info? t = some i) : P.cellsOf t = i.size := by simp [Program.cellsOf, h]
theorem info_of_underlying {t : TypeId} {d : TypeDesc} (h : P.underlying t = some d) : ∃ i, P.info? t = some i := by
  cases e : P.info? t with
  | some i => exact ⟨i, rfl⟩
  | none => simp [Program.underlying, e] at h
theorem isAgg_run (t : TypeId) {d : TypeDesc} (h : P.underlying t = some d) : (isAgg t).run P w = .ok (isAggT P t) w := by
  unfold isAgg isAggT
  rw [Sem.run_bind, run_underlying h, h]
  cases d <;> rfl
theorem sizeOf_run {t : TypeId} {i : TypeInfo} (h : P.info? t = some i) : (sizeOf t).run P w = .ok (P.cellsOf t) w := by
  simp [sizeOf, typeInfo, h, cellsOf_info h]

/-- A type that the program knows. -/
def known (P : Program) (t : TypeId) : Prop := ∃ d i, P.underlying t = some d ∧ P.info? t = some i
theorem known_of {t : TypeId} {d : TypeDesc} (h : P.underlying t = some d) : known P t := by
  obtain ⟨i, hi⟩ := info_of_underlying h
  exact ⟨d, i, h, hi⟩

theorem take_known {t : TypeId} {cs : List TV} {v : TV} (h : take P t cs = some v) : known P t := by
  unfold take at h
  split at h
  · cases h
  · rename_i hn
    cases hu : P.underlying t with
    | none => rw [hu] at hn; exact absurd rfl hn
    | some d => exact known_of hu
theorem take_eq {t : TypeId} (hk : known P t) (cs : List TV) : take P t cs = if isAggT P t then (if P.cellsOf t ≤ cs.length then some (.agg (cs.take (P.cellsOf t))) else none) else cs.head? := by
  obtain ⟨d, i, hd, hi⟩ := hk
  unfold take
  rw [hd]
  rfl

/-- A part of an aggregate's cells. -/
theorem part_ok {t : TypeId} {vs : Array Value} {cs : List TV} (h : VRels g vs.toList cs) (off : Nat) {v : TV} (hv : take P t (cs.drop off) = some v) :
    ∃ rv, (part t vs off).run P w = .ok rv w ∧ VRel g rv v := by
  have hk := take_known hv
  rw [take_eq hk] at hv
  obtain ⟨d, i, hd, hi⟩ := hk
  unfold part
  rw [Sem.run_bind, isAgg_run t hd]
  simp only [Result.andThen_ok]
  cases hagg : isAggT P t with
  | true =>
    rw [hagg] at hv
    simp only [if_true] at hv ⊢
    rw [Sem.run_bind, sizeOf_run hi]
    simp only [Result.andThen_ok, Sem.run_pure]
    split at hv
    · cases hv
      refine ⟨_, rfl, .agg _ _ ?_⟩
      have : (vs.extract off (off + P.cellsOf t)).toList = (vs.toList.drop off).take (P.cellsOf t) := by
        simp [Array.toList_extract]
      rw [this]
      exact (h.drop off).take _
    · cases hv
  | false =>
    rw [hagg] at hv
    simp only [Bool.false_eq_true, if_false] at hv ⊢
    have hd' : (cs.drop off)[0]? = some v := by rw [← List.head?_eq_getElem?]; exact hv
    rw [List.getElem?_drop] at hd'
    obtain ⟨rv, h1, h2⟩ := h.get hd'
    have h1' : vs[off]? = some rv := by simpa using h1
    rw [h1']
    exact ⟨rv, rfl, h2⟩

theorem known_of_take {t : TypeId} (h : ∃ i, P.info? t = some i) (hu : ∃ d, P.underlying t = some d) : known P t := by
  obtain ⟨i, hi⟩ := h
  obtain ⟨d, hd⟩ := hu
  exact ⟨d, i, hd, hi⟩

theorem eqT_known {d : Nat} {t : TypeId} {x y : TV} {b : Bool} (h : eqT P d t x y = some b) : known P t := by
  cases d with
  | zero => simp [eqT] at h
  | succ d =>
    cases hu : P.underlying t with
    | none => unfold eqT at h; rw [hu] at h; simp at h
    | some de => exact known_of hu

theorem frozen_obj (h : Rel P g w s) {o b : Nat} (e : g.φ o = some b) (i : Nat) : w.frozen? ⟨b, i, none⟩ = false := by
  obtain ⟨ob, _, r⟩ := h.obj o b e
  cases ob with
  | cells cs t => obtain ⟨vs, h1, _⟩ := r; simp [World.frozen?, h1]
  | map es c => obtain ⟨vs, h1, _⟩ := r; simp [World.frozen?, h1]
theorem noView_obj (h : Rel P g w s) {o b : Nat} (e : g.φ o = some b) (i : Nat) : (noView ⟨b, i, none⟩).run P w = .ok () w := by
  obtain ⟨ob, _, r⟩ := h.obj o b e
  cases ob with
  | cells cs t => obtain ⟨vs, h1, _⟩ := r; simp [noView, viewAt, shape, Sem.run, World.shape?, h1]
  | map es c => obtain ⟨vs, h1, _⟩ := r; simp [noView, viewAt, shape, getObj, Sem.run, World.shape?, h1]
theorem stringish_obj (h : Rel P g w s) {o b : Nat} (e : g.φ o = some b) (i : Nat) : (stringish ⟨b, i, none⟩).run P w = .ok false w := by
  have hf := frozen_obj h e
  obtain ⟨ob, _, r⟩ := h.obj o b e
  cases ob with
  | cells cs t => obtain ⟨vs, h1, _⟩ := r; simp [stringish, frozen, shape, Sem.run, World.shape?, h1, hf]
  | map es c => obtain ⟨vs, h1, _⟩ := r; simp [stringish, frozen, shape, Sem.run, World.shape?, h1, hf]
theorem sameAddr_other (h : Rel P g w s) {o o' b b' i i' : Nat} (e : g.φ o = some b) (e' : g.φ o' = some b') (hne : b ≠ b') : (sameAddr ⟨b, i, none⟩ ⟨b', i', none⟩).run P w = .ok false w := by
  have hf := frozen_obj h e i
  have hf' := frozen_obj h e' i'
  have hb : (b == b') = false := by simpa using hne
  have f1 : (frozen ⟨b, i, none⟩).run P w = .ok false w := by simp [frozen, Sem.run, hf]
  have f2 : (frozen ⟨b', i', none⟩).run P w = .ok false w := by simp [frozen, Sem.run, hf']
  simp [sameAddr, hb, Sem.run_bind, f1, f2, noView_obj h e, noView_obj h e', mayBeOne, stringish_obj h e, stringish_obj h e']

set_option maxHeartbeats 1000000 in
theorem eqT_ok : ∀ (d D : Nat) (t : TypeId) (x y : TV) (rx ry : Value) (b : Bool), d ≤ D → Rel P g w s → VRel g rx x → VRel g ry y → eqT P d t x y = some b → (Op.equalIn D t rx ry).run P w = .ok b w := by
  intro d
  induction d with
  | zero => intro D t x y rx ry b _ _ _ _ h; simp [eqT] at h
  | succ d ih =>
    intro D t x y rx ry b hD hR hx hy h
    obtain ⟨D, rfl⟩ : ∃ m, D = m + 1 := ⟨D - 1, by omega⟩
    unfold eqT at h
    split at h
    · rename_i hu; cases hx; cases hy; cases h; simp [Op.equalIn, run_underlying hu]
    · rename_i hu; cases hx; cases hy
      split at h
      · rename_i hk; subst hk; cases h; simp [Op.equalIn, run_underlying hu]
      · cases h
    · rename_i hu; cases hx with | str _ _ e1 => cases hy with | str _ _ e2 => cases h; rw [run_equalIn_string w D t _ _ hu, bytes_of e1, bytes_of e2]
    · rename_i hu; cases hx; cases hy; cases h; simp [Op.equalIn, run_underlying hu]
    · rename_i hu; cases hx; cases hy; cases h; simp [Op.equalIn, run_underlying hu]
    · rename_i hu; cases hx; cases hy; cases h; simp [Op.equalIn, run_underlying hu]
    · rename_i e o a o' a' hu
      cases hx with
      | ptr _ b1 _ p1 =>
        cases hy with
        | ptr _ b2 _ p2 =>
          split at h
          · cases h
          · rename_i hs
            have hoo : o = o' := Classical.byContradiction fun k => by rw [if_neg k] at h; cases h
            rw [if_pos hoo] at h
            subst hoo
            cases h
            obtain ⟨i, hi⟩ : ∃ i, P.info? e = some i := by
              cases hq : P.info? e with
              | some i => exact ⟨i, rfl⟩
              | none => simp [Program.cellsOf, hq] at hs
            have hz : i.size ≠ 0 := by rw [← cellsOf_info hi]; exact hs
            have hsa : (sameAddr ⟨b1, a, none⟩ ⟨b2, a', none⟩).run P w = .ok (a == a') w := by
              rw [p1] at p2
              cases p2
              have : ((⟨b1, a, none⟩ : Addr) == ⟨b1, a', none⟩) = (a == a') := by rw [Bool.eq_iff_iff]; simp
              simp [sameAddr, this]
            simp [Op.equalIn, run_underlying hu, sizeOf, typeInfo, hi, hz, hsa]
    · rename_i hu; cases hx; cases hy; cases h; simp [Op.equalIn, run_underlying hu]
    · rename_i hu; cases hx; cases hy; cases h; simp [Op.equalIn, run_underlying hu]
    · rename_i hu; cases hx; cases hy; cases h; simp [Op.equalIn, run_underlying hu]
    · rename_i fields xs ys hu
      cases hx with
      | agg vx _ rx =>
        cases hy with
        | agg vy _ ry =>
          split at h
          · cases h
          · rename_i hp
            have hf : P.fieldsOf t = fields := by simp [Program.fieldsOf, hu]
            rw [run_equalIn_struct w D t vx vy (by rw [hf]; exact hu) (by simpa using hp), hf]
            revert h
            generalize fields.toList = fs
            intro h
            induction fs with
            | nil => simp only [List.foldr_nil] at h; cases h; rfl
            | cons f fs ihf =>
              simp only [List.foldr_cons] at h
              simp only [Op.eqFields]
              by_cases hn : f.name = "_"
              · simp only [hn, beq_self_eq_true, if_true] at h
                simp only [hn, ne_eq, not_true_eq_false, if_false]
                exact ihf h
              · have hn' : (f.name == "_") = false := by simpa using hn
                rw [hn'] at h
                simp only [Bool.false_eq_true, if_false] at h
                rw [if_pos hn]
                split at h
                · rename_i a a' e1 e2
                  cases e3 : eqT P d f.type a a' with
                  | none => rw [e3] at h; cases h
                  | some z =>
                    rw [e3] at h
                    obtain ⟨ra, h1, h2⟩ := part_ok (w := w) rx f.offset e1
                    obtain ⟨rb, h3, h4⟩ := part_ok (w := w) ry f.offset e2
                    simp only [Sem.run_bind, h1, h3, Result.andThen_ok, ih D _ _ _ _ _ _ (by omega) hR h2 h4 e3]
                    cases z with
                    | true =>
                      simp only [Bool.not_true, Bool.false_eq_true, if_false]
                      exact ihf h
                    | false => cases h; simp
                · cases h
    · rename_i n elem xs ys hu
      cases hx with
      | agg vx _ rx =>
        cases hy with
        | agg vy _ ry =>
          split at h
          · cases h
          · rename_i hin
            obtain ⟨i, hi⟩ : ∃ i, P.info? elem = some i := by
              cases hq : P.info? elem with
              | some i => exact ⟨i, rfl⟩
              | none => simp [hq] at hin
            rw [run_equalIn_array (w := w) D vx vy hu hi]
            revert h
            generalize List.range n = is
            intro h
            induction is with
            | nil => simp only [List.foldr_nil] at h; cases h; rfl
            | cons j is ihf =>
              simp only [List.foldr_cons] at h
              simp only [Op.eqItems]
              split at h
              · rename_i a a' e1 e2
                cases e3 : eqT P d elem a a' with
                | none => rw [e3] at h; cases h
                | some z =>
                  rw [e3] at h
                  obtain ⟨ra, h1, h2⟩ := part_ok (w := w) rx (j * P.cellsOf elem) e1
                  obtain ⟨rb, h3, h4⟩ := part_ok (w := w) ry (j * P.cellsOf elem) e2
                  simp only [Sem.run_bind, h1, h3, Result.andThen_ok, ih D _ _ _ _ _ _ (by omega) hR h2 h4 e3]
                  cases z with
                  | true =>
                    simp only [Bool.not_true, Bool.false_eq_true, if_false]
                    exact ihf h
                  | false => cases h; simp
              · cases h
    · rename_i es1 _ _ _ hu
      cases hx <;> cases hy <;> simp at h <;> cases h <;> simp [Op.equalIn, run_underlying hu]
    · rename_i hu; cases hx; cases hy; cases h; simp [Op.equalIn, run_underlying hu]
    · rename_i hu; cases hx; cases hy; cases h; simp [Op.equalIn, run_underlying hu]
    · rename_i hu; cases hx; cases hy <;> cases h <;> simp [Op.equalIn, run_underlying hu]
    · rename_i hu; cases hx; cases hy; cases h; simp [Op.equalIn, run_underlying hu]
    · rename_i hu; cases hx; cases hy; cases h; simp [Op.equalIn, run_underlying hu]
    · rename_i hu; cases hx; cases hy; cases h; simp [Op.equalIn, run_underlying hu]
    · rename_i hu; cases hx; cases hy; cases h; simp [Op.equalIn, run_underlying hu]
    · cases h
end
end Go.Proofs.YthnhbejjikgifaaGreatDoor.TV

/-
  TV: each operation on plain values is the model's own (2): operators, conversions of numbers, slices of texts and lists, addresses.
-/
namespace Go.Proofs.YthnhbejjikgifaaGreatDoor.TV
open Go Go.RowKit
set_option linter.unusedSimpArgs false
set_option linter.unusedVariables false

section
variable {P : Program} {g : G} {w : World} {s : St}

def plainV : Value → Bool
  | .int .. | .float .. | .complex .. | .string _ => false
  | _ => true
def plainT : TV → Bool
  | .int .. | .str _ | .junk => false
  | _ => true
theorem plainV_of {rx : Value} {x : TV} (h : VRel g rx x) (hp : plainT x = true) : plainV rx = true := by
  cases h <;> first | rfl | simp [plainT] at hp
theorem binOp_eql_plain (t : TypeId) {rx ry : Value} (h : plainV rx = true) : binOp .eql t rx ry = (do pure (.bool (← Op.equal t rx ry))) := by
  cases rx <;> simp [plainV] at h <;> cases ry <;> rfl
theorem binOp_neq_plain (t : TypeId) {rx ry : Value} (h : plainV rx = true) : binOp .neq t rx ry = (do pure (.bool (!(← Op.equal t rx ry)))) := by
  cases rx <;> simp [plainV] at h <;> cases ry <;> rfl

theorem eqT_form {d : Nat} {t : TypeId} {x y : TV} {b : Bool} (h : eqT P d t x y = some b) : (∃ k a k' b', x = .int k a ∧ y = .int k' b') ∨ (∃ a b', x = .str a ∧ y = .str b') ∨ plainT x = true := by
  cases d with
  | zero => simp [eqT] at h
  | succ d =>
    unfold eqT at h
    split at h <;> first | (exact .inr (.inr rfl)) | (exact .inl ⟨_, _, _, _, rfl, rfl⟩) | (exact .inr (.inl ⟨_, _, rfl, rfl⟩)) | (cases h)

set_option maxHeartbeats 1000000 in
theorem binT_ok {op : BinOp} {t : TypeId} {x y v : TV} {rx ry : Value} (hR : Rel P g w s) (hx : VRel g rx x) (hy : VRel g ry y) (h : binT P op t x y = some v) :
    ∃ rv, (binOp op t rx ry).run P w = .ok rv w ∧ VRel g rv v := by
  unfold binT at h
  split at h
  · rename_i k a yk b
    cases hx
    cases hy
    split at h
    · split at h
      · cases h
      · rename_i hb
        cases h
        exact ⟨_, by simp [binOp, Op.shift, hb], .int _ _⟩
    · split at h
      · cases h
      · rename_i hb
        cases h
        exact ⟨_, by simp [binOp, Op.shift, hb], .int _ _⟩
    · split at h
      · cases h
      · rename_i hk
        have hk' : k = yk := by simpa using hk
        subst hk'
        split at h
        · cases h; exact ⟨_, by simp [binOp, Op.intArith], .int _ _⟩
        · cases h; exact ⟨_, by simp [binOp, Op.intArith], .int _ _⟩
        · cases h; exact ⟨_, by simp [binOp, Op.intArith], .int _ _⟩
        · split at h
          · cases h
          · rename_i hb; cases h; exact ⟨_, by simp [binOp, Op.intDiv, hb], .int _ _⟩
        · split at h
          · cases h
          · rename_i hb; cases h; exact ⟨_, by simp [binOp, Op.intDiv, hb], .int _ _⟩
        · cases h; exact ⟨_, by simp [binOp, Op.intBits], .int _ _⟩
        · cases h; exact ⟨_, by simp [binOp, Op.intBits], .int _ _⟩
        · cases h; exact ⟨_, by simp [binOp, Op.intBits], .int _ _⟩
        · cases h; exact ⟨_, by simp [binOp, Op.intBits], .int _ _⟩
        · cases h; exact ⟨_, by simp [binOp, Op.intCmp], .bool _⟩
        · cases h; exact ⟨_, by simp [binOp, Op.intCmp], .bool _⟩
        · cases h; exact ⟨_, by simp [binOp, Op.intCmp], .bool _⟩
        · cases h; exact ⟨_, by simp [binOp, Op.intCmp], .bool _⟩
        · cases h; exact ⟨_, by simp [binOp, Op.intCmp], .bool _⟩
        · cases h; exact ⟨_, by simp [binOp, Op.intCmp], .bool _⟩
        · cases h
  · rename_i a b
    cases hx with
    | str sa _ ea =>
      cases hy with
      | str sb _ eb =>
        have la : sa.size = a.length := by rw [← ea]; exact Array.length_toList.symm
        have lb : sb.size = b.length := by rw [← eb]; exact Array.length_toList.symm
        have ha := bytes_of ea
        have hb := bytes_of eb
        split at h
        · split at h
          · rename_i hl
            cases h
            have hl' : ¬ ((9223372036854775807 : Int) < (sa.size : Int) + (sb.size : Int)) := by omega
            have hmax : IntKind.i64.max = 9223372036854775807 := rfl
            refine ⟨.string (sa ++ sb), ?_, .str _ _ ?_⟩
            · simp [binOp, Op.stringOp, hmax, hl']
            · rw [← ea, ← eb]; simp [ByteArray.data_append]
          · cases h
        · cases h; exact ⟨_, by simp only [binOp, Op.stringOp, ha, hb, Sem.run_pure], .bool _⟩
        · cases h; exact ⟨_, by simp only [binOp, Op.stringOp, ha, hb, Sem.run_pure], .bool _⟩
        · cases h; exact ⟨_, by simp only [binOp, Op.stringOp, ha, hb, Sem.run_pure], .bool _⟩
        · cases h; exact ⟨_, by simp only [binOp, Op.stringOp, ha, hb, Sem.run_pure], .bool _⟩
        · cases h; exact ⟨_, by simp only [binOp, Op.stringOp, ha, hb, Sem.run_pure], .bool _⟩
        · cases h; exact ⟨_, by simp only [binOp, Op.stringOp, ha, hb, Sem.run_pure], .bool _⟩
        · cases h
  · rename_i h1 h2
    split at h
    · obtain ⟨b, hb, rfl⟩ := Option.map_eq_some_iff.1 h
      have hf : plainT x = true := by
        rcases eqT_form hb with ⟨k, a, k', b', rfl, rfl⟩ | ⟨a, b', rfl, rfl⟩ | hp
        · exact absurd rfl (h1 _ _ _ _ rfl)
        · exact absurd rfl (h2 _ _ rfl)
        · exact hp
      refine ⟨_, ?_, .bool _⟩
      rw [binOp_eql_plain t (plainV_of hx hf)]
      simp [Op.equal, eqT_ok 100 Op.maxDepth t x y rx ry b (by decide) hR hx hy hb]
    · obtain ⟨b, hb, rfl⟩ := Option.map_eq_some_iff.1 h
      have hf : plainT x = true := by
        rcases eqT_form hb with ⟨k, a, k', b', rfl, rfl⟩ | ⟨a, b', rfl, rfl⟩ | hp
        · exact absurd rfl (h1 _ _ _ _ rfl)
        · exact absurd rfl (h2 _ _ rfl)
        · exact hp
      refine ⟨_, ?_, .bool _⟩
      rw [binOp_neq_plain t (plainV_of hx hf)]
      simp [Op.equal, eqT_ok 100 Op.maxDepth t x y rx ry b (by decide) hR hx hy hb]
    · cases h

theorem guardT_ok {op : BinOp} {t : TypeId} {x y : Operand} {a b : TV} {ra rb : Value} (ha : VRel g ra a) (hb : VRel g rb b) (hja : a ≠ .junk) (hjb : b ≠ .junk) (h : guardT P op t x y a b = true) :
    (eqGuard op t x y ra rb).run P w = .ok () w := by
  have key : ∀ op', (op' = .eql ∨ op' = .neq) → guardT P op' t x y a b = true → (eqGuard op' t x y ra rb).run P w = .ok () w := by
    intro op' ho hg
    have e1 : (eqGuard op' t x y ra rb) = (eqGuard .eql t x y ra rb) := by rcases ho with rfl | rfl <;> rfl
    have e2 : guardT P .eql t x y a b = true := by rcases ho with rfl | rfl <;> exact hg
    rw [e1]
    clear e1 hg ho h
    cases ha <;> first | exact absurd rfl hja | skip
    all_goals (cases hb <;> first | exact absurd rfl hjb | rfl | skip)
    · simp only [guardT, Bool.or_eq_true] at e2
      rcases e2 with e2 | e2
      · cases x with
        | const v => rfl
        | _ => simp at e2
      · cases y with
        | const v => cases x <;> rfl
        | _ => simp at e2
    · have hq : P.eqGuardType P.depth t = false := by simpa [guardT] using e2
      simp [eqGuard, run_program, hq]
  by_cases ho : op = .eql ∨ op = .neq
  · exact key op ho h
  · cases op <;> first | rfl | exact absurd (Or.inl rfl) ho | exact absurd (Or.inr rfl) ho

theorem unT_ok {op : UnOp} {x v : TV} {rx : Value} (hx : VRel g rx x) (h : unT op x = some v) : ∃ rv, (Op.unary op rx).run P w = .ok rv w ∧ VRel g rv v := by
  unfold unT at h
  split at h
  · cases hx; cases h; exact ⟨_, by simp [Op.unary, Op.intArith], .int _ _⟩
  · cases hx; cases h; exact ⟨_, by simp [Op.unary, Op.intBits], .int _ _⟩
  · cases hx; cases h; exact ⟨_, by simp [Op.unary], .bool _⟩
  · cases h
end
end Go.Proofs.YthnhbejjikgifaaGreatDoor.TV
