/- The core of our own, in one with others. -/
import Derived.Calls
import Derived.Orders
import Derived.Below
/- The words of an abstract reading of the translated code: pure types, abstract values, and what each operation does to them. Nothing is proved here. -/
namespace Go.GG

/-! ### Pure types and what they hold -/
inductive T where
  | int (k : IntKind)
  | bool
  | str
  | slice (t : T)
  | pair (a b : T)
  | opt (t : T)
  | pb
  | raw
  | ib
  | box (g : Nat) (s : T)
  deriving DecidableEq

@[reducible] def T.den : T → Type
  | .int _ => Int
  | .bool => Bool
  | .str => List UInt8
  | .slice t => List t.den
  | .pair a b => a.den × b.den
  | .opt t => Option t.den
  | .pb => Bool
  | .raw => Option Addr
  | .ib => Bool
  | .box _ s => s.den

def T.cnt : T → Nat
  | .pair a b => a.cnt + b.cnt
  | _ => 1

def T.leaf : T → Bool
  | .pair _ _ => false
  | _ => true

/-- Has a type no slice in it? -/
def T.flat : T → Bool
  | .slice _ => false
  | .opt _ => false
  | .pb => false
  | .raw => false
  | .ib => false
  | .box _ _ => false
  | .pair a b => a.flat && b.flat
  | _ => true

def cast? {t : T} (t' : T) (x : t.den) : Option t'.den := if h : t = t' then some (h ▸ x) else none

/-! ### Products without a last unit -/
@[reducible] def RD {K : Type} (den : K → Type) : List K → Type
  | [] => Unit
  | [k] => den k
  | k :: k' :: r => den k × RD den (k' :: r)
def RD.mk {K : Type} {den : K → Type} {k : K} : {r : List K} → den k → RD den r → RD den (k :: r)
  | [], a, _ => a
  | _ :: _, a, b => (a, b)
def RD.hd {K : Type} {den : K → Type} {k : K} : {r : List K} → RD den (k :: r) → den k
  | [], a => a
  | _ :: _, a => a.1
def RD.tl {K : Type} {den : K → Type} {k : K} : {r : List K} → RD den (k :: r) → RD den r
  | [], _ => ()
  | _ :: _, a => a.2

structure AK where
  t : T
  agg : Bool
  deriving DecidableEq
@[reducible] def AK.den (a : AK) : Type := a.t.den

/-! ### Abstract values -/
inductive L where
  | unk
  | skipped
  | val (t : T) (x : t.den)
  | nnil (t : T) (xs : List t.den)
  | nils
  | full (t : T) (xs : List t.den)
  | sref (r : Nat)
  | ptr (r off : Nat)
  | nilp
  | eptr (t : T) (x : t.den) (off : Nat)
  | aptr (r cnt : Nat) (i : Nat) (off : Nat)
  | clos (f : FuncId) (caps : List (Nat × Nat))
  | fn (ps : List AK) (b : T) (p : RD AK.den ps → Option b.den)
  | fptr (ps : List AK) (b : T) (p : RD AK.den ps → Option b.den)
  | agg (ls : List L)
  | tup (ls : List L)
  | vw (r cnt lo n : Nat)
  | mref (r : Nat)
  | nilm
  | zd
  | zp (r : Nat)
  | keys (r g : Nat)
  | tab (g : Nat)
  | dref (r : Nat)
  | dptr (r i : Nat)
  | nili

/-- A thing that a map's pointers lead to: a row of bytes, and a number. -/
@[reducible] def FT : Type := List Int × Int
@[reducible] def FL : Type := List (List UInt8 × FT)
/-- A thing that a row's pointers lead to: two numbers, a row of numbers, a row of texts. -/
@[reducible] def SG : Type := Int × Int × List Int × List (List Int)
@[reducible] def sgT : T := .pair (.int .i64) (.pair (.int .u64) (.pair (.slice (.int .i64)) (.slice (.slice (.int .u8)))))
/-- What a block of the function's own holds: a variable's cells, or a row of elements. -/
inductive C where
  | cells (ls : List L)
  | arr (t : T) (xs : List t.den)
  | app (t : T) (xs : List t.den)
  | blk (t : T) (xs : List t.den) (c : Nat)
  | map (kt vt : T) (l : List (kt.den × vt.den))
  | pm (l : FL) (pin : Option (List UInt8 × Nat))
  | segs (l : List SG) (pin : Option (Nat × Nat))
/-- A row's elements, where it may be written. -/
def rowAll : Option C → Option ((t : T) × List t.den)
  | some (.arr t xs) => some ⟨t, xs⟩
  | some (.blk t xs _) => some ⟨t, xs⟩
  | _ => none
/-- A row's elements. -/
def rowOf : Option C → Option ((t : T) × List t.den)
  | some (.arr t xs) => some ⟨t, xs⟩
  | some (.app t xs) => some ⟨t, xs⟩
  | _ => none

structure St where
  env : Nat → L
  mem : Nat → Option C
  used : Nat → Bool

def T.explode : (t : T) → t.den → List L
  | .pair a b, x => a.explode x.1 ++ b.explode x.2
  | .int k, x => [.val (.int k) x]
  | .bool, x => [.val .bool x]
  | .str, x => [.val .str x]
  | .slice t, x => [.val (.slice t) x]
  | .opt t, x => [.val (.opt t) x]
  | .pb, x => [.val .pb x]
  | .raw, x => [.val .raw x]
  | .ib, x => [.val .ib x]
  | .box g s, x => [.val (.box g s) x]

/-- An abstract value as one of a pure type. -/
def leafVal? (t : T) : L → Option t.den
  | .val t' x => cast? (t := t') t x
  | .nils => match t with | .slice _ => some [] | _ => none
  | .nilp => match t with | .opt _ => some none | .pb => some false | .raw => some none | _ => none
  | .ptr _ _ => match t with | .pb => some true | _ => none
  | .nili => match t with | .ib => some false | _ => none
  | .full t' xs => cast? (t := .slice t') t xs
  | .nnil t' xs => cast? (t := .slice t') t xs
  | _ => none

def T.implodeGo : (t : T) → List L → Option (t.den × List L)
  | .pair a b, ls => match a.implodeGo ls with
    | none => none
    | some (x, r) => match b.implodeGo r with
      | none => none
      | some (y, r') => some ((x, y), r')
  | .int k, l :: r => match leafVal? (.int k) l with | none => none | some x => some (x, r)
  | .bool, l :: r => match leafVal? .bool l with | none => none | some x => some (x, r)
  | .str, l :: r => match leafVal? .str l with | none => none | some x => some (x, r)
  | .slice t, l :: r => match leafVal? (.slice t) l with | none => none | some x => some (x, r)
  | .opt t, l :: r => match leafVal? (.opt t) l with | none => none | some x => some (x, r)
  | .pb, l :: r => match leafVal? .pb l with | none => none | some x => some (x, r)
  | .raw, l :: r => match leafVal? .raw l with | none => none | some x => some (x, r)
  | .ib, l :: r => match leafVal? .ib l with | none => none | some x => some (x, r)
  | .box g s, l :: r => match leafVal? (.box g s) l with | none => none | some x => some (x, r)
  | _, [] => none
def T.implode (t : T) (ls : List L) : Option t.den := match t.implodeGo ls with
  | some (x, []) => some x
  | _ => none

/-! ### What is known of the program's types -/
inductive TK where
  | int (k : IntKind)
  | bool
  | str
  | slice (e : TypeId)
  | ptr (e : TypeId)
  | struct (fs : List (TypeId × Nat))
  | array (n : Nat) (e : TypeId)
  | map (k e : TypeId)
  | iface
  | other
def summ : TypeDesc → TK
  | .int k => .int k
  | .bool => .bool
  | .string => .str
  | .slice e => .slice e
  | .pointer e => .ptr e
  | .struct fs => .struct (fs.toList.map fun f => (f.type, f.offset))
  | .array n e => .array n e
  | .map k e => .map k e
  | .interface _ => .iface
  | _ => .other
structure TI where
  kind : TK
  size : Nat
  bytes : Nat
  zero : List Value
  t : Option T
  eq : Bool
abbrev Tab := List (TypeId × TI)
def Tab.get : Tab → TypeId → Option TI
  | [], _ => none
  | (t, i) :: r, n => cond (Nat.beq t n) (some i) (Tab.get r n)
def TI.isAgg (i : TI) : Bool := match i.kind with | .struct _ => true | .array _ _ => true | _ => false

def absLeaf : Value → L
  | .bool b => .val .bool b
  | .int k n => .val (.int k) n
  | .string s => .val .str s.data.toList
  | .slice none 0 0 => .nils
  | .pointer none => .nilp
  | .map none => .nilm
  | .nilIface => .nili
  | _ => .unk
def absV : Value → L
  | .agg cs => .agg (cs.toList.map absLeaf)
  | v => absLeaf v

/-! ### Reading memory -/
inductive RM (α : Type) : Type 1 where
  | pure (a : α)
  | fail
  | get (r : Nat) (k : Option C → RM α)
  | assume (b : Bool) (m : RM α)
  | opt {β : Type} (o : Option β) (k : β → RM α)
  | cases {β : Type} (o : Option β) (m : RM α) (k : β → RM α)
  | br (b : Bool) (m n : RM α)
def RM.bind {α β : Type} : RM α → (α → RM β) → RM β
  | .pure a, f => f a
  | .fail, _ => .fail
  | .get r k, f => .get r fun c => (k c).bind f
  | .assume b m, f => .assume b (m.bind f)
  | .opt o k, f => .opt o fun x => (k x).bind f
  | .cases o m k, f => .cases o (m.bind f) fun x => (k x).bind f
  | .br b m n, f => .br b (m.bind f) (n.bind f)
def RM.lift {α : Type} : Option α → RM α
  | none => .fail
  | some a => .pure a
/-- Reckoned on, with what was read. -/
def RM.run {α R : Type} : RM α → (Nat → Option C) → List Nat → (α → List Nat → Option R) → Option R
  | .pure a, _, rs, K => K a rs
  | .fail, _, _, _ => none
  | .get r k, μ, rs, K => (k (μ r)).run μ (r :: rs) K
  | .assume b m, μ, rs, K => cond b (m.run μ rs K) none
  | .opt o k, μ, rs, K => o.bind fun x => (k x).run μ rs K
  | .cases o m k, μ, rs, K => o.elim (m.run μ rs K) fun x => (k x).run μ rs K
  | .br b m n, μ, rs, K => cond b (m.run μ rs K) (n.run μ rs K)

structure Res where
  val : L
  edits : List (Nat × Option C)
  allocs : List Nat
def Res.of (l : L) : Res := ⟨l, [], []⟩

/-- Where the blocks stand that are lent to the function: they keep their numbers. -/
def lentBase : Nat := 1000000

/-! ### Arithmetic, by names of its own -/
def shlv (k : IntKind) (x y : Int) : Int := k.wrap (x * 2 ^ (min y.toNat k.bits))
def shrv (k : IntKind) (x y : Int) : Int := x.fdiv (2 ^ (min y.toNat k.bits))
def bitv (op : BinOp) (k : IntKind) (x y : Int) : Int :=
  let a := BitVec.ofInt k.bits x
  let b := BitVec.ofInt k.bits y
  match op with
  | .and => k.wrap (a &&& b).toNat
  | .or => k.wrap (a ||| b).toNat
  | .xor => k.wrap (a ^^^ b).toNat
  | _ => k.wrap (a &&& ~~~b).toNat
def strLess (x y : List UInt8) : Bool := Op.bytesLess x y
def strMin (x y : List UInt8) : List UInt8 := cond (strLess x y || x == y) x y
def strMax (x y : List UInt8) : List UInt8 := cond (strLess x y) y x
def intMin (x y : Int) : Int := if y < x then y else x
def intMax (x y : Int) : Int := if y > x then y else x
def toBytes (xs : List Int) : List UInt8 := xs.map fun n => UInt8.ofNat n.toNat
def ofBytes (s : List UInt8) : List Int := s.map fun b => (b.toNat : Int)
/-- The element at a place, if there is one. -/
def at? {α : Type} (xs : List α) (i : Int) : Option α := cond (decide (0 ≤ i)) xs[i.toNat]? none
/-- From one place to another. -/
def cut {α : Type} (xs : List α) (lo hi : Int) : List α := (xs.take hi.toNat).drop lo.toNat

def binInt (op : BinOp) (k : IntKind) (a b : Int) : RM L :=
  match op with
  | .add => .pure (.val (.int k) (k.wrap (a + b)))
  | .sub => .pure (.val (.int k) (k.wrap (a - b)))
  | .mul => .pure (.val (.int k) (k.wrap (a * b)))
  | .quo => .assume (b != 0) (.pure (.val (.int k) (k.wrap (a.tdiv b))))
  | .rem => .assume (b != 0) (.pure (.val (.int k) (a.tmod b)))
  | .and => .pure (.val (.int k) (bitv .and k a b))
  | .or => .pure (.val (.int k) (bitv .or k a b))
  | .xor => .pure (.val (.int k) (bitv .xor k a b))
  | .andNot => .pure (.val (.int k) (bitv .andNot k a b))
  | .eql => .pure (.val .bool (a == b))
  | .neq => .pure (.val .bool (a != b))
  | .lss => .pure (.val .bool (decide (a < b)))
  | .leq => .pure (.val .bool (decide (a ≤ b)))
  | .gtr => .pure (.val .bool (decide (a > b)))
  | .geq => .pure (.val .bool (decide (a ≥ b)))
  | _ => .fail
def binStr (op : BinOp) (a b : List UInt8) : RM L :=
  match op with
  | .add => .assume (Nat.ble (a.length + b.length) 9223372036854775807) (.pure (.val .str (a ++ b)))
  | .eql => .pure (.val .bool (a == b))
  | .neq => .pure (.val .bool (!(a == b)))
  | .lss => .pure (.val .bool (strLess a b))
  | .leq => .pure (.val .bool (strLess a b || a == b))
  | .gtr => .pure (.val .bool (!(strLess a b || a == b)))
  | .geq => .pure (.val .bool (!strLess a b))
  | _ => .fail
def binShift (op : BinOp) (k : IntKind) (a b : Int) : RM L :=
  match op with
  | .shl => .assume (decide (0 ≤ b)) (.pure (.val (.int k) (shlv k a b)))
  | .shr => .assume (decide (0 ≤ b)) (.pure (.val (.int k) (shrv k a b)))
  | _ => .fail
def eqNeq (op : BinOp) (b : Bool) : RM L :=
  match op with
  | .eql => .pure (.val .bool b)
  | .neq => .pure (.val .bool (!b))
  | _ => .fail
/-- Is a slice the nil one, as far as that is known? -/
def isNils : L → RM Bool
  | .nils => .pure true
  | .nnil _ _ => .pure false
  | .val (.slice _) xs => .assume (!xs.isEmpty) (.pure false)
  | .full _ xs => .assume (!xs.isEmpty) (.pure false)
  | .sref r => .get r fun c => match rowOf c with
    | some ⟨_, xs⟩ => .assume (!xs.isEmpty) (.pure false)
    | _ => .fail
  | _ => .fail
def isNilp : L → RM Bool
  | .nilp => .pure true
  | .ptr _ _ => .pure false
  | .eptr _ _ _ => .pure false
  | .aptr _ _ _ _ => .pure false
  | .zd => .pure false
  | .val (.opt _) o => .pure o.isNone
  | .val .pb b => .pure (!b)
  | .val .raw o => .pure o.isNone
  | _ => .fail
def isNilm : L → RM Bool
  | .nilm => .pure true
  | .mref _ => .pure false
  | _ => .fail
/-- Equality of flat values, leaf by leaf. -/
def T.eqb : (t : T) → t.den → t.den → Bool
  | .int _, a, b => a == b
  | .bool, a, b => a == b
  | .str, a, b => a == b
  | .slice _, _, _ => false
  | .opt _, _, _ => false
  | .pb, _, _ => false
  | .raw, _, _ => false
  | .ib, _, _ => false
  | .box _ _, _, _ => false
  | .pair p q, x, y => p.eqb x.1 y.1 && q.eqb x.2 y.2
def kindIs (i? : Option TI) (f : TK → Bool) : Bool := match i? with | some i => f i.kind | none => false
def TK.isBool : TK → Bool | .bool => true | _ => false
def TK.isPtr : TK → Bool | .ptr _ => true | _ => false
def TK.isIface : TK → Bool | .iface => true | _ => false
def TK.isMap : TK → Bool | .map _ _ => true | _ => false
def TK.isStr : TK → Bool | .str => true | _ => false
def TK.isSlice : TK → Bool | .slice _ => true | _ => false
def TK.isText : TK → Bool | .slice _ => true | .str => true | _ => false
def binop (i? : Option TI) (op : BinOp) : L → L → RM L
  | .val (.int k) a, .val (.int k') b =>
    match op with
    | .shl => binShift op k a b
    | .shr => binShift op k a b
    | _ => if k = k' then binInt op k a b else .fail
  | .val .str a, .val .str b => binStr op a b
  | .val .bool a, .val .bool b => cond (kindIs i? TK.isBool) (eqNeq op (a == b)) .fail
  | .agg xs, .agg ys => match i? with
    | none => .fail
    | some i => match i.t with
      | none => .fail
      | some t => cond (i.eq && t.flat) ((RM.lift (t.implode xs)).bind fun x => (RM.lift (t.implode ys)).bind fun y => eqNeq op (t.eqb x y)) .fail
  | .nilp, y => cond (kindIs i? TK.isPtr) ((isNilp y).bind (eqNeq op)) .fail
  | x, .nilp => cond (kindIs i? TK.isPtr) ((isNilp x).bind (eqNeq op)) .fail
  | .nils, y => cond (kindIs i? TK.isSlice) ((isNils y).bind (eqNeq op)) .fail
  | x, .nils => cond (kindIs i? TK.isSlice) ((isNils x).bind (eqNeq op)) .fail
  | .nilm, y => cond (kindIs i? TK.isMap) ((isNilm y).bind (eqNeq op)) .fail
  | x, .nilm => cond (kindIs i? TK.isMap) ((isNilm x).bind (eqNeq op)) .fail
  | _, _ => .fail
def unop (op : UnOp) : L → RM L
  | .val .bool b => match op with | .not => .pure (.val .bool (!b)) | _ => .fail
  | .val (.int k) n => match op with
    | .neg => .pure (.val (.int k) (k.wrap (0 - n)))
    | .xor => .pure (.val (.int k) (bitv .xor k (if k.signed then -1 else k.max) n))
    | _ => .fail
  | _ => .fail

/-! ### Slices -/
/-- A slice's elements; a row of the function's own is read. -/
def elems (t : T) : L → RM (List t.den)
  | .sref r => .get r fun c => match rowOf c with
    | some ⟨t', xs⟩ => RM.lift (cast? (t := .slice t') (.slice t) xs)
    | _ => .fail
  | .vw r cnt lo n => .get r fun c => match rowAll c with
    | some ⟨t', xs⟩ => .assume (Nat.ble (lo + n) xs.length && Nat.beq t'.cnt cnt) (RM.lift (cast? (t := .slice t') (.slice t) ((xs.drop lo).take n)))
    | _ => .fail
  | l => RM.lift (leafVal? (.slice t) l)
/-- No more than so many of a slice's elements. -/
def elemsUpTo (t : T) (k : Nat) : L → RM (List t.den)
  | .vw r cnt lo n => elems t (.vw r cnt lo (min n k))
  | l => (elems t l).bind fun ys => .pure (ys.take k)
/-- A slice with its element's type. -/
def elemsAny : L → RM ((t : T) × List t.den)
  | .val (.slice t) xs => .pure ⟨t, xs⟩
  | .full t xs => .pure ⟨t, xs⟩
  | .nnil t xs => .pure ⟨t, xs⟩
  | .sref r => .get r fun c => match rowOf c with
    | some ⟨t, xs⟩ => .pure ⟨t, xs⟩
    | _ => .fail
  | _ => .fail
/-- Rows of the function's own are given away: they never change again. -/
def purify : List L → RM (List L × List (Nat × Option C))
  | [] => .pure ([], [])
  | .sref r :: ls => .get r fun c => match rowOf c with
    | some ⟨t, xs⟩ => (purify ls).bind fun (a, b) => .pure (.val (.slice t) xs :: a, (r, none) :: b)
    | _ => .fail
  | l :: ls => (purify ls).bind fun (a, b) => .pure (l :: a, b)
/-- Is a value one cell? -/
def L.one : L → Bool
  | .unk => false
  | .skipped => false
  | .agg _ => false
  | .tup _ => false
  | .tab _ => false
  | _ => true
/-- Is a value one whose cells are known to be its leaves? -/
def L.plain : L → Bool
  | .agg _ => true
  | l => l.one
def nodup : List Nat → Bool
  | [] => true
  | a :: r => !(r.contains a) && nodup r
def disjoint (a b : List Nat) : Bool := a.all fun x => !b.contains x
def gone (rs : List Nat) : List (Nat × Option C) := rs.map fun r => (r, none)
def leavesOf : L → List L
  | .agg ls => ls
  | l => [l]
def asInt? : L → RM Int
  | .val (.int _) n => .pure n
  | _ => .fail
def boundOr (d : Int) : Option L → RM Int
  | none => .pure d
  | some l => asInt? l

def givenBy : L → List (Nat × Option C)
  | .sref r => [(r, none)]
  | _ => []
/-- A slice of a slice whose row may be written: a view. -/
def viewOp (size : Nat) (x : L) (lo hi mx : Option L) : RM Res :=
  match x with
  | .nils => (boundOr 0 lo).bind fun l => (boundOr 0 hi).bind fun h => .assume (l == 0 && h == 0) (.pure (.of .nils))
  | .vw r cnt lo0 n => .get r fun c => match c with
    | some (.blk t _ c) => (boundOr 0 lo).bind fun l => (boundOr n hi).bind fun h =>
        match mx with
        | none => .assume (decide (0 ≤ l) && decide (l ≤ h) && decide (h + lo0 ≤ c)) (cond (Nat.beq t.cnt cnt && Nat.beq cnt size) (.pure (.of (.vw r cnt (lo0 + l.toNat) (h.toNat - l.toNat)))) .fail)
        | some m => cond hi.isSome ((asInt? m).bind fun m => .assume (decide (0 ≤ l) && decide (l ≤ h) && decide (h ≤ m) && decide (m + lo0 ≤ c)) (.pure (.of .unk))) .fail
    | _ => .fail
  | .sref r => .get r fun c => match c with
    | some (.arr t xs) => (boundOr 0 lo).bind fun l => .assume (decide (0 ≤ l) && decide (l ≤ xs.length)) (cond (Nat.beq t.cnt size) (.pure (.of (.vw r t.cnt l.toNat (xs.length - l.toNat)))) .fail)
    | _ => .fail
  | _ => .fail
/-- Is a slice taken as a view? -/
def isView : L → Option L → Option L → Option L → Bool
  | .nils, _, _, none => true
  | .vw _ _ _ _, _, none, none => true
  | .vw _ _ _ _, _, some _, _ => true
  | .sref _, some _, none, none => true
  | _, _, _, _ => false
/-- A row's beginning: the row goes on under another name. -/
def cutOp (size : Nat) (dst : Nat) (r : Nat) (hi : L) : RM Res := .get r fun c => match c with
  | some (.arr t xs) => (asInt? hi).bind fun h => .assume (decide (0 ≤ h) && decide (h ≤ xs.length)) <| cond (!Nat.beq t.cnt size) .fail (.pure ⟨.sref dst, [(r, none), (dst, some (.arr t (cut xs 0 h)))], [dst]⟩)
  | _ => .fail
def sliceOp (tab : Tab) (i : TI) (x : L) (lo hi mx : Option L) : RM Res :=
  match i.kind with
  | .str => match x, mx with
    | .val .str s, none =>
      (boundOr 0 lo).bind fun l => (boundOr s.length hi).bind fun h =>
        .assume (decide (0 ≤ l) && decide (l ≤ h) && decide (h ≤ s.length)) (.pure (.of (.val .str (cut s l h))))
    | _, _ => .fail
  | .slice e => (RM.lift (tab.get e)).bind fun ei => (elemsAny x).bind fun ⟨t, xs⟩ =>
      (boundOr 0 lo).bind fun l => (boundOr xs.length hi).bind fun h =>
        .assume (decide (0 ≤ l) && decide (l ≤ h) && decide (h ≤ xs.length)) <| cond (!Nat.beq t.cnt ei.size) .fail <|
          match mx, hi with
          | none, _ => .pure ⟨.val (.slice t) (cut xs l h), givenBy x, []⟩
          | some m, some _ => (asInt? m).bind fun m => .assume (m == h) (.pure ⟨.full t (cut xs l h), givenBy x, []⟩)
          | some _, none => .fail
  | _ => .fail

/-- What is written over a row. -/
def splice {α : Type} (xs : List α) (lo : Nat) (ys : List α) : List α := xs.take lo ++ ys ++ xs.drop (lo + ys.length)
/-- Room enough for so many elements. -/
def room (n bytes : Nat) : Bool := decide (n * bytes ≤ 140737488355328)

def appendOp (dst : Nat) (t : T) (bytes : Nat) (base : L) (more : List t.den) : RM Res :=
  match base with
  | .sref r => .get r fun c => match c with
    | some (.arr t' xs) => match cast? (t := .slice t') (.slice t) xs with
      | some xs => .assume (room (xs ++ more).length bytes) (.pure ⟨.sref dst, [(r, none), (dst, some (.arr t (xs ++ more)))], [dst]⟩)
      | none => .fail
    | some (.app t' xs) => match cast? (t := .slice t') (.slice t) xs with
      | some xs => .assume (!more.isEmpty) (.assume (room (xs ++ more).length bytes) (.pure ⟨.sref dst, [(r, none), (dst, some (.arr t (xs ++ more)))], [dst]⟩))
      | none => .fail
    | _ => .fail
  | .nils => .assume (room more.length bytes) (.pure ⟨.sref dst, [(dst, some (.arr t more))], [dst]⟩)
  | .full t' xs => match cast? (t := .slice t') (.slice t) xs with
    | some xs => .assume (!more.isEmpty) (.assume (room (xs ++ more).length bytes) (.pure ⟨.sref dst, [(dst, some (.arr t (xs ++ more)))], [dst]⟩))
    | none => .fail
  | .vw r cnt lo n => .get r fun c => match c with
    | some (.blk t' xs c) => match cast? (t := .slice t') (.slice t) xs with
      | some xs => .assume (Nat.ble (lo + n) xs.length && Nat.beq t.cnt cnt) (.br (Nat.ble (lo + n + more.length) c)
          (.pure ⟨.vw r cnt lo (n + more.length), [(r, some (.blk t (splice xs (lo + n) more) c))], [dst]⟩)
          (.assume (room ((xs.drop lo).take n ++ more).length bytes) (.pure ⟨.sref dst, [(dst, some (.arr t ((xs.drop lo).take n ++ more)))], [dst]⟩)))
      | none => .fail
    | _ => .fail
  | _ => .fail

/-! ### What functions take and give -/
/-- What the cells of a thing of one's own hold: a value, a row of one's own, a row of pointers, a disk; or a disk that another one has. -/
inductive FK where
  | imm (t : T)
  | row (t : T)
  | segs
  | dsk
  | als
  deriving DecidableEq
@[reducible] def FK.den : FK → Type
  | .imm t => t.den
  | .row t => List t.den
  | .segs => List SG
  | .dsk => FL
  | .als => Unit
inductive PK where
  | imm (t : T)
  | agg (t : T)
  | lent (t : T)
  | lentp (t : T)
  | ro (t : T)
  | own (t : T)
  | fn (ps : List AK) (b : T)
  | rof (ps : List AK) (b : T)
  | nilp
  | nils
  | nnil (t : T)
  | blk (t : T)
  | view
  | ext (t : T)
  | lrow (t : T)
  | disk
  | zd
  | mapk (g : Nat)
  | seqk (g : Nat)
  | lento (fs : List FK)
  | wend
  | iter (t : T)
@[reducible] def PK.den : PK → Type
  | .imm t => t.den
  | .agg t => t.den
  | .lent t => t.den
  | .lentp t => t.den
  | .ro t => t.den
  | .own t => List t.den
  | .fn ps b => RD AK.den ps → Option b.den
  | .rof ps b => RD AK.den ps → Option b.den
  | .nilp => Unit
  | .nils => Unit
  | .nnil t => List t.den
  | .blk t => List t.den × Nat
  | .view => Unit
  | .ext t => t.den
  | .lrow t => List t.den
  | .disk => FL
  | .zd => Unit
  | .mapk _ => Unit
  | .seqk _ => FL
  | .lento fs => RD FK.den fs
  | .wend => Unit
  | .iter _ => Unit
inductive RK where
  | imm (t : T)
  | agg (t : T)
  | own (t : T)
  | full (t : T)
  | fresh (t : T)
  | ofresh (t : T)
  | nsl (t : T)
  | nilp
  | nils
  | back (t : T)
  | backp (t : T)
  | backd
  | find
  | freshd
  | ofreshd
  | backo (fs : List FK)
  | ofresho (fs : List FK)
  | owns
  | nili
@[reducible] def RK.den : RK → Type
  | .imm t => t.den
  | .agg t => t.den
  | .own t => List t.den
  | .full t => List t.den
  | .fresh t => t.den
  | .ofresh t => Option t.den
  | .nsl t => Option (List t.den)
  | .nilp => Unit
  | .nils => Unit
  | .back t => t.den
  | .backp t => t.den
  | .backd => FL
  | .find => FL × Option (List UInt8)
  | .freshd => FL
  | .ofreshd => Option FL
  | .backo fs => RD FK.den fs
  | .ofresho fs => Option (RD FK.den fs)
  | .owns => List SG
  | .nili => Unit
def FK.leads : FK → Bool
  | .imm t => !t.flat
  | .row t => !t.flat
  | .segs => true
  | .dsk => false
  | .als => false
def FK.isDsk : FK → Bool
  | .dsk => true
  | _ => false
def FK.isAls : FK → Bool
  | .als => true
  | _ => false
/-- May a function take a thing with such fields? -/
def fieldsFine (fs : List FK) : Bool := Nat.ble fs.length 900 && Nat.ble (fs.countP FK.isDsk) 1 && !fs.any FK.isAls
/-- May a result lead to memory that was handed in? -/
def RK.leads : RK → Bool
  | .imm t => !t.flat
  | .agg t => !t.flat
  | .own t => !t.flat
  | .full _ => true
  | .fresh t => !t.flat
  | .ofresh t => !t.flat
  | .nsl _ => true
  | .nilp => false
  | .nils => false
  | .back t => !t.flat
  | .backp t => !t.flat
  | .backd => false
  | .find => false
  | .freshd => false
  | .ofreshd => false
  | .backo fs => fs.any FK.leads
  | .ofresho fs => fs.any FK.leads
  | .owns => true
  | .nili => false
structure FSpec where
  ps : List PK
  rs : List RK
  F : Nat → RD PK.den ps → Option (RD RK.den rs)
abbrev Env := FuncId → List FSpec

/-- What a caller hands over: what it holds, which rows are given away, which blocks are lent, which are shown. -/
structure Handed (α : Type) where
  x : α
  refs : List Nat
  given : List Nat
  lent : List Nat
  shown : List Nat
def showLeaves : List L → RM (List L × List Nat)
  | [] => .pure ([], [])
  | .sref r :: ls => .get r fun c => match rowOf c with
    | some ⟨t, xs⟩ => (showLeaves ls).bind fun (a, b) => .pure (.val (.slice t) xs :: a, r :: b)
    | _ => .fail
  | .dref r :: ls => .get r fun c => match c with
    | some (.segs xs none) => (showLeaves ls).bind fun (a, b) => .pure (.val (.slice (.opt sgT)) (xs.map some) :: a, r :: b)
    | _ => .fail
  | l :: ls => (showLeaves ls).bind fun (a, b) => .pure (l :: a, b)

def capTypes : List (Nat × Nat) → RM (List (List L) × List Nat)
  | [] => .pure ([], [])
  | (r, off) :: cs => .get r fun c => match c, off with
    | some (.cells ls), 0 => (showLeaves ls).bind fun (a, b) => (capTypes cs).bind fun (a', b') => .pure (a :: a', r :: (b ++ b'))
    | _, _ => .fail
def closArgs : (ps : List PK) → (as : List AK) → RD AK.den as → List (List L) → Option (RD PK.den ps)
  | [], [], _, [] => some ()
  | .imm t :: ps, ⟨t', false⟩ :: as, x, caps => match cast? (t := t') t (RD.hd (k := (⟨t', false⟩ : AK)) x) with
    | none => none
    | some y => match closArgs ps as (RD.tl (k := (⟨t', false⟩ : AK)) x) caps with
      | none => none
      | some z => some (RD.mk (k := PK.imm t) y z)
  | .agg t :: ps, ⟨t', true⟩ :: as, x, caps => match cast? (t := t') t (RD.hd (k := (⟨t', true⟩ : AK)) x) with
    | none => none
    | some y => match closArgs ps as (RD.tl (k := (⟨t', true⟩ : AK)) x) caps with
      | none => none
      | some z => some (RD.mk (k := PK.agg t) y z)
  | .ro t :: ps, [], x, c :: caps => match t.implode c with
    | none => none
    | some y => match closArgs ps [] x caps with
      | none => none
      | some z => some (RD.mk (k := PK.ro t) y z)
  | .rof qs b :: ps, [], x, c :: caps => match c with
    | [.fn qs' b' p] => if h : qs' = qs ∧ b' = b then (match closArgs ps [] x caps with
      | none => none
      | some z => some (RD.mk (k := PK.rof qs b) (h.1 ▸ h.2 ▸ p) z)) else none
    | _ => none
  | _, _, _, _ => none
def single? : (rs : List RK) → (b : T) → RD RK.den rs → Option b.den
  | [.imm b'], b, y => cast? (t := b') b y
  | _, _, _ => none
/-- Does a closure's specification fit a function's parameter? -/
def closFits : List PK → List AK → List (Nat × Nat) → Bool
  | [], [], [] => true
  | .imm t :: ps, ⟨t', false⟩ :: as, cs => decide (t = t') && closFits ps as cs
  | .agg t :: ps, ⟨t', true⟩ :: as, cs => decide (t = t') && closFits ps as cs
  | .ro _ :: ps, [], _ :: cs => closFits ps [] cs
  | .rof _ _ :: ps, [], _ :: cs => closFits ps [] cs
  | _, _, _ => false
def closFn (k : Nat) (s : FSpec) (as : List AK) (b : T) (caps : List (List L)) : RD AK.den as → Option b.den := fun x =>
  match closArgs s.ps as x caps with
  | none => none
  | some y => (s.F k y).bind (single? s.rs b)

/-! Rows of pointers at things of one's own. -/
def rowRM (t : T) : L → RM (List t.den × List Nat)
  | .sref r => .get r fun c => match c with
    | some (.arr t' xs) => match cast? (t := .slice t') (.slice t) xs with
      | some xs => .pure (xs, [r])
      | none => .fail
    | _ => .fail
  | .nils => .pure ([], [])
  | _ => .fail
def sgRM : List L → RM (SG × List Nat)
  | [.val (.int .i64) n, .val (.int .u64) f, a, b] => (rowRM (.int .i64) a).bind fun (x, r1) => (rowRM (.slice (.int .u8)) b).bind fun (y, r2) => .pure ((n, f, x, y), r1 ++ r2)
  | _ => .fail
/-- What a row of pointers holds, the one that was taken out put back; which names are gone then. -/
def segsRM (r : Nat) (l : List SG) : Option (Nat × Nat) → RM (List SG × List Nat)
  | none => .pure (l, [])
  | some (i, R) => .get R fun c => match c with
    | some (.cells ls) => (sgRM ls).bind fun (x, rs) => cond (nodup (r :: R :: rs) && Nat.blt R lentBase) (.pure (l.set i x, R :: rs)) .fail
    | _ => .fail
def settleEd (r : Nat) (l : List SG) (g : List Nat) : List (Nat × Option C) := (r, some (.segs l none)) :: gone g
/-- What the fields of a thing of one's own hand over. -/
def handF : (fs : List FK) → List L → RM (Handed (RD FK.den fs))
  | [], [] => .pure ⟨(), [], [], [], []⟩
  | .imm t :: fs, l :: ls => cond t.leaf ((RM.lift (leafVal? t l)).bind fun x => (handF fs ls).bind fun b => .pure ⟨RD.mk (k := FK.imm t) x b.x, b.refs, b.given, b.lent, []⟩) .fail
  | .row t :: fs, l :: ls => (rowRM t l).bind fun (x, rs) => (handF fs ls).bind fun b => .pure ⟨RD.mk (k := FK.row t) x b.x, rs ++ b.refs, rs ++ b.given, b.lent, []⟩
  | .segs :: fs, .nils :: ls => (handF fs ls).bind fun b => .pure ⟨RD.mk (k := FK.segs) [] b.x, b.refs, b.given, b.lent, []⟩
  | .segs :: fs, .dref r :: ls => .get r fun c => match c with
    | some (.segs l none) => (handF fs ls).bind fun b => .pure ⟨RD.mk (k := FK.segs) l b.x, r :: b.refs, r :: b.given, b.lent, []⟩
    | _ => .fail
  | .dsk :: fs, .ptr r 0 :: ls => .get r fun c => match c with
    | some (.cells [.mref r']) => .get r' fun c' => match c' with
      | some (.pm l none) => (handF fs ls).bind fun b => .pure ⟨RD.mk (k := FK.dsk) l b.x, r :: r' :: b.refs, b.given, r :: r' :: b.lent, []⟩
      | _ => .fail
    | _ => .fail
  | _, _ => .fail
def handOne (Γ : Env) (k : Nat) : (p : PK) → L → RM (Handed p.den)
  | .imm t, .sref r => .get r fun c => match rowOf c with
    | some ⟨t', xs⟩ => match cast? (t := .slice t') t xs with
      | some x => .pure ⟨x, [], [], [], [r]⟩
      | none => .fail
    | _ => .fail
  | .imm t, .dref r => .get r fun c => match c with
    | some (.segs xs none) => (RM.lift (cast? (t := .slice (.opt sgT)) t (xs.map some))).bind fun x => .pure ⟨x, [], [], [], [r]⟩
    | _ => .fail
  | .imm t, l => (RM.lift (leafVal? t l)).bind fun x => .pure ⟨x, [], [], [], []⟩
  | .agg t, .agg ls => (showLeaves ls).bind fun (ls, rs) => (RM.lift (t.implode ls)).bind fun x => .pure ⟨x, [], [], [], rs⟩
  | .lent t, .ptr r 0 => .get r fun c => match c with
    | some (.cells ls) => (RM.lift (t.implode ls)).bind fun x => .pure ⟨x, [r], [], [r], []⟩
    | _ => .fail
  | .lentp t, .ptr r 0 => .get r fun c => match c with
    | some (.cells [.ptr r' 0]) => .get r' fun c' => match c' with
      | some (.cells ls) => (RM.lift (t.implode ls)).bind fun x => .pure ⟨x, [r, r'], [], [r, r'], []⟩
      | _ => .fail
    | _ => .fail
  | .ro t, .eptr t' x 0 => (RM.lift (cast? (t := t') t x)).bind fun x => .pure ⟨x, [], [], [], []⟩
  | .ro t, .ptr r 0 => .get r fun c => match c with
    | some (.cells ls) => (showLeaves ls).bind fun (ls, rs) => (RM.lift (t.implode ls)).bind fun x => .pure ⟨x, [], [], [], r :: rs⟩
    | _ => .fail
  | .own t, .sref r => .get r fun c => match c with
    | some (.arr t' xs) => match cast? (t := .slice t') (.slice t) xs with
      | some x => .pure ⟨x, [r], [r], [], []⟩
      | none => .fail
    | _ => .fail
  | .own _, .nils => .pure ⟨[], [], [], [], []⟩
  | .fn ps b, .fn ps' b' p => if h : ps' = ps ∧ b' = b then .pure ⟨h.1 ▸ h.2 ▸ p, [], [], [], []⟩ else .fail
  | .fn ps b, .clos f caps => match (Γ f).find? fun s => closFits s.ps ps caps with
    | none => .fail
    | some s => (capTypes caps).bind fun (cs, rs) => .pure ⟨closFn k s ps b cs, [], [], [], rs⟩
  | .nilp, .nilp => .pure ⟨(), [], [], [], []⟩
  | .nils, .nils => .pure ⟨(), [], [], [], []⟩
  | .view, .vw r _ _ _ => .get r fun c => match rowAll c with
    | some ⟨t, _⟩ => cond (decide (t = .int .u8)) .fail (.pure ⟨(), [], [], [], [r]⟩)
    | none => .fail
  | .view, .sref r => .get r fun c => match rowAll c with
    | some ⟨t, _⟩ => cond (decide (t = .int .u8)) .fail (.pure ⟨(), [], [], [], [r]⟩)
    | none => .fail
  | .ext t, l => (RM.lift (leafVal? t l)).bind fun x => .pure ⟨x, [], [], [], []⟩
  | .nnil t, .nnil t' xs => (RM.lift (cast? (t := .slice t') (.slice t) xs)).bind fun x => .pure ⟨x, [], [], [], []⟩
  | .disk, .ptr r 0 => .get r fun c => match c with
    | some (.cells [.mref r']) => .get r' fun c' => match c' with
      | some (.pm l none) => .pure ⟨l, [r, r'], [], [r, r'], []⟩
      | _ => .fail
    | _ => .fail
  | .zd, .zp r => .get r fun c => match c with
    | some (.cells [.nilm]) => .pure ⟨(), [], [], [], [r]⟩
    | _ => .fail
  | .zd, .zd => .pure ⟨(), [], [], [], []⟩
  | .ro t, .val (.opt t') o => .opt o fun x => (RM.lift (cast? (t := t') t x)).bind fun x => .pure ⟨x, [], [], [], []⟩
  | .lento fs, .ptr r 0 => cond (fieldsFine fs) (.get r fun c => match c with
    | some (.cells ls) => (handF fs ls).bind fun b => .pure ⟨b.x, r :: b.refs, b.given, r :: b.lent, []⟩
    | _ => .fail) .fail
  | _, _ => .fail
def handAll (Γ : Env) (k : Nat) : (ps : List PK) → List L → RM (Handed (RD PK.den ps))
  | [], [] => .pure ⟨(), [], [], [], []⟩
  | p :: ps, l :: ls => (handOne Γ k p l).bind fun a => (handAll Γ k ps ls).bind fun b =>
      .pure ⟨RD.mk a.x b.x, a.refs ++ b.refs, a.given ++ b.given, a.lent ++ b.lent, a.shown ++ b.shown⟩
  | _, _ => .fail
/-- Does a value's form fit a parameter? -/
def fitsOne : PK → L → Bool
  | .imm _, .val _ _ => true
  | .imm _, .nils => true
  | .imm _, .full _ _ => true
  | .imm _, .nnil _ _ => true
  | .imm _, .sref _ => true
  | .agg _, .agg _ => true
  | .lent _, .ptr _ _ => true
  | .lentp _, .ptr _ _ => true
  | .ro _, .eptr _ _ _ => true
  | .ro _, .ptr _ _ => true
  | .own _, .sref _ => true
  | .own _, .nils => true
  | .fn _ _, .fn _ _ _ => true
  | .fn _ _, .clos _ _ => true
  | .nilp, .nilp => true
  | .nils, .nils => true
  | .view, .vw _ _ _ _ => true
  | .view, .sref _ => true
  | .ext _, .val _ _ => true
  | .lrow _, .sref _ => true
  | .nnil _, .nnil _ _ => true
  | .disk, .ptr _ _ => true
  | .zd, .zp _ => true
  | .zd, .zd => true
  | .mapk _, .mref _ => true
  | .seqk _, .keys _ _ => true
  | .ro _, .val (.opt _) _ => true
  | .imm _, .dref _ => true
  | .lento _, .ptr _ _ => true
  | .wend, .ptr _ _ => true
  | _, _ => false
def fits : List PK → List L → Bool
  | [], [] => true
  | p :: ps, l :: ls => fitsOne p l && fits ps ls
  | _, _ => false
/-- What comes back: values, edits, new blocks. -/
def resId (dst j : Nat) : Nat := match j with | 0 => dst | j + 1 => 1000 * (dst + 1) + j + 1
/-- Maps that the function made: what they hold, in the order in which it came. -/
def mfind {kt : T} {β : Type} (k : kt.den) : List (kt.den × β) → Option β
  | [] => none
  | (a, b) :: r => cond (kt.eqb k a) (some b) (mfind k r)
def mset {kt : T} {β : Type} (k : kt.den) (v : β) : List (kt.den × β) → List (kt.den × β)
  | [] => [(k, v)]
  | (a, b) :: r => cond (kt.eqb k a) ((k, v) :: r) ((a, b) :: mset k v r)
def mdel {kt : T} {β : Type} (k : kt.den) : List (kt.den × β) → List (kt.den × β)
  | [] => []
  | (a, b) :: r => cond (kt.eqb k a) r ((a, b) :: mdel k r)
/-- The row behind a thing that was taken out of a map. -/
def rowId (id : Nat) : Nat := 1000 * (id + 1)
structure Back where
  ls : List L
  news : List (Nat × C)
  backs : List (Nat × C)
/-- The rows behind a thing of one's own, by its fields. -/
def fldId (id i : Nat) : Nat := id + i
def fldBase (dst j : Nat) : Nat := 1000 * (dst + 1) + 500 + 20 * j
/-- What the cells of a thing of one's own hold, when it comes back; what is left of the names that were lent. -/
structure BackF where
  ls : List L
  news : List (Nat × C)
  backs : List (Nat × C)
  lent : List Nat
def backF (id : Nat) : (fs : List FK) → Nat → List Nat → RD FK.den fs → RM BackF
  | [], _, lent, _ => .pure ⟨[], [], [], lent⟩
  | .imm t :: fs, i, lent, y => (backF id fs (i + 1) lent (RD.tl (k := FK.imm t) y)).bind fun b => .pure ⟨.val t (RD.hd (k := FK.imm t) y) :: b.ls, b.news, b.backs, b.lent⟩
  | .row t :: fs, i, lent, y => (backF id fs (i + 1) lent (RD.tl (k := FK.row t) y)).bind fun b => .pure ⟨.sref (fldId id i) :: b.ls, (fldId id i, .arr t (RD.hd (k := FK.row t) y)) :: b.news, b.backs, b.lent⟩
  | .segs :: fs, i, lent, y => (backF id fs (i + 1) lent (RD.tl (k := FK.segs) y)).bind fun b => .pure ⟨.dref (fldId id i) :: b.ls, (fldId id i, .segs (RD.hd (k := FK.segs) y) none) :: b.news, b.backs, b.lent⟩
  | .dsk :: fs, i, r :: r' :: lent, y => .get r fun c => match c with
    | some (.cells [.mref q]) => .get r' fun c' => match c' with
      | some (.pm _ _) => .assume (Nat.beq q r') ((backF id fs (i + 1) lent (RD.tl (k := FK.dsk) y)).bind fun b => .pure ⟨.ptr r 0 :: b.ls, b.news, (r', .pm (RD.hd (k := FK.dsk) y) none) :: b.backs, b.lent⟩)
      | _ => .fail
    | _ => .fail
  | .als :: fs, i, r :: lent, y => .get r fun c => match c with
    | some (.cells _) => (backF id fs (i + 1) (r :: lent) (RD.tl (k := FK.als) y)).bind fun b => .pure ⟨.ptr r 0 :: b.ls, b.news, b.backs, b.lent⟩
    | _ => .fail
  | _, _, _, _ => .fail
def backAll (dst : Nat) : (rs : List RK) → (j : Nat) → List Nat → RD RK.den rs → RM Back
  | [], _, [], _ => .pure ⟨[], [], []⟩
  | .imm t :: rs, j, lent, y => (backAll dst rs (j + 1) lent (RD.tl (k := RK.imm t) y)).bind fun b => .pure ⟨.val t (RD.hd (k := RK.imm t) y) :: b.ls, b.news, b.backs⟩
  | .agg t :: rs, j, lent, y => (backAll dst rs (j + 1) lent (RD.tl (k := RK.agg t) y)).bind fun b => .pure ⟨.agg (t.explode (RD.hd (k := RK.agg t) y)) :: b.ls, b.news, b.backs⟩
  | .own t :: rs, j, lent, y => (backAll dst rs (j + 1) lent (RD.tl (k := RK.own t) y)).bind fun b => .pure ⟨.sref (resId dst j) :: b.ls, (resId dst j, .arr t (RD.hd (k := RK.own t) y)) :: b.news, b.backs⟩
  | .full t :: rs, j, lent, y => (backAll dst rs (j + 1) lent (RD.tl (k := RK.full t) y)).bind fun b => .pure ⟨.full t (RD.hd (k := RK.full t) y) :: b.ls, b.news, b.backs⟩
  | .fresh t :: rs, j, lent, y => (backAll dst rs (j + 1) lent (RD.tl (k := RK.fresh t) y)).bind fun b => .pure ⟨.ptr (resId dst j) 0 :: b.ls, (resId dst j, .cells (t.explode (RD.hd (k := RK.fresh t) y))) :: b.news, b.backs⟩
  | .ofresh t :: rs, j, lent, y => (backAll dst rs (j + 1) lent (RD.tl (k := RK.ofresh t) y)).bind fun b => .cases (RD.hd (k := RK.ofresh t) y)
      (.pure ⟨.nilp :: b.ls, b.news, b.backs⟩) fun x => .pure ⟨.ptr (resId dst j) 0 :: b.ls, (resId dst j, .cells (t.explode x)) :: b.news, b.backs⟩
  | .nsl t :: rs, j, lent, y => (backAll dst rs (j + 1) lent (RD.tl (k := RK.nsl t) y)).bind fun b => .cases (RD.hd (k := RK.nsl t) y)
      (.pure ⟨.nils :: b.ls, b.news, b.backs⟩) fun xs => .pure ⟨.nnil t xs :: b.ls, b.news, b.backs⟩
  | .nils :: rs, j, lent, y => (backAll dst rs (j + 1) lent (RD.tl (k := RK.nils) y)).bind fun b => .pure ⟨.nils :: b.ls, b.news, b.backs⟩
  | .nili :: rs, j, lent, y => (backAll dst rs (j + 1) lent (RD.tl (k := RK.nili) y)).bind fun b => .pure ⟨.nili :: b.ls, b.news, b.backs⟩
  | .nilp :: rs, j, lent, y => (backAll dst rs (j + 1) lent (RD.tl (k := RK.nilp) y)).bind fun b => .pure ⟨.nilp :: b.ls, b.news, b.backs⟩
  | .backp t :: rs, j, r :: r' :: lent, y => .get r fun c => match c with
    | some (.cells [.ptr q 0]) => .get r' fun c' => match c' with
      | some (.cells _) => .assume (Nat.beq q r') ((backAll dst rs j lent (RD.tl (k := RK.backp t) y)).bind fun b => .pure ⟨b.ls, b.news, (r', .cells (t.explode (RD.hd (k := RK.backp t) y))) :: b.backs⟩)
      | _ => .fail
    | _ => .fail
  | .backd :: rs, j, r :: r' :: lent, y => .get r fun c => match c with
    | some (.cells [.mref q]) => .get r' fun c' => match c' with
      | some (.pm _ _) => .assume (Nat.beq q r') ((backAll dst rs j lent (RD.tl (k := RK.backd) y)).bind fun b => .pure ⟨b.ls, b.news, (r', .pm (RD.hd (k := RK.backd) y) none) :: b.backs⟩)
      | _ => .fail
    | _ => .fail
  | .find :: rs, j, r :: r' :: lent, y => .get r fun c => match c with
    | some (.cells [.mref q]) => .get r' fun c' => match c' with
      | some (.pm _ _) => .assume (Nat.beq q r') ((backAll dst rs (j + 1) lent (RD.tl (k := RK.find) y)).bind fun b =>
       .cases (RD.hd (k := RK.find) y).2 (.pure ⟨.nilp :: b.ls, b.news, (r', .pm (RD.hd (k := RK.find) y).1 none) :: b.backs⟩) fun k =>
        .opt (mfind (kt := .str) k (RD.hd (k := RK.find) y).1) fun x => .pure ⟨.ptr (resId dst j) 0 :: b.ls,
          (resId dst j, .cells [.sref (rowId (resId dst j)), .val (.int .i64) x.2]) :: (rowId (resId dst j), .arr (.int .u8) x.1) :: b.news,
          (r', .pm (RD.hd (k := RK.find) y).1 (some (k, resId dst j))) :: b.backs⟩)
      | _ => .fail
    | _ => .fail
  | .freshd :: rs, j, lent, y => (backAll dst rs (j + 1) lent (RD.tl (k := RK.freshd) y)).bind fun b => .pure ⟨.ptr (resId dst j) 0 :: b.ls,
      (resId dst j, .cells [.mref (rowId (resId dst j))]) :: (rowId (resId dst j), .pm (RD.hd (k := RK.freshd) y) none) :: b.news, b.backs⟩
  | .ofreshd :: rs, j, lent, y => (backAll dst rs (j + 1) lent (RD.tl (k := RK.ofreshd) y)).bind fun b => .cases (RD.hd (k := RK.ofreshd) y)
      (.pure ⟨.nilp :: b.ls, b.news, b.backs⟩) fun l => .pure ⟨.ptr (resId dst j) 0 :: b.ls,
        (resId dst j, .cells [.mref (rowId (resId dst j))]) :: (rowId (resId dst j), .pm l none) :: b.news, b.backs⟩
  | .backo fs :: rs, j, q :: lent, y => .get q fun c => match c with
    | some (.cells _) => (backF (fldBase dst j) fs 0 lent (RD.hd (k := RK.backo fs) y)).bind fun f => (backAll dst rs j f.lent (RD.tl (k := RK.backo fs) y)).bind fun b => .pure ⟨b.ls, f.news ++ b.news, (q, .cells f.ls) :: (f.backs ++ b.backs)⟩
    | _ => .fail
  | .ofresho fs :: rs, j, lent, y => (backAll dst rs (j + 1) lent (RD.tl (k := RK.ofresho fs) y)).bind fun b => .cases (RD.hd (k := RK.ofresho fs) y)
      (.pure ⟨.nilp :: b.ls, b.news, b.backs⟩) fun x => cond (fs.any FK.isDsk) .fail <| (backF (fldBase dst j) fs 0 lent x).bind fun f => .pure ⟨.ptr (resId dst j) 0 :: b.ls, (resId dst j, .cells f.ls) :: (f.news ++ b.news), b.backs⟩
  | .owns :: rs, j, lent, y => (backAll dst rs (j + 1) lent (RD.tl (k := RK.owns) y)).bind fun b => .pure ⟨.dref (resId dst j) :: b.ls, (resId dst j, .segs (RD.hd (k := RK.owns) y) none) :: b.news, b.backs⟩
  | .back t :: rs, j, r :: lent, y => .get r fun c => match c with
    | some (.cells _) => (backAll dst rs j lent (RD.tl (k := RK.back t) y)).bind fun b => .pure ⟨b.ls, b.news, (r, .cells (t.explode (RD.hd (k := RK.back t) y))) :: b.backs⟩
    | _ => .fail
  | _, _, _, _ => .fail
def oneOrTup : List L → L
  | [l] => l
  | ls => .tup ls
def puts (l : List (Nat × C)) : List (Nat × Option C) := l.map fun p => (p.1, some p.2)
def callSpec (Γ : Env) (k : Nat) (s : FSpec) (dst : Nat) (args : List L) : RM Res :=
  (handAll Γ k s.ps args).bind fun h =>
    .assume (nodup (h.refs ++ h.shown)) <|
      .opt (s.F k h.x) fun y => (backAll dst s.rs 0 h.lent y).bind fun b =>
        .assume (nodup (b.news.map (·.1)))
          (.pure ⟨oneOrTup b.ls, gone h.given ++ (cond (s.rs.any RK.leads) (gone h.shown) [] ++ (puts b.backs ++ puts b.news)), b.news.map (·.1)⟩)
/-- A function that turns its row in place; one that hands a map's keys out; one that brings them into order. -/
def FSpec.row (s : FSpec) : Bool := match s.ps with
  | [.lrow _] => true
  | [.mapk _] => true
  | [.seqk _] => true
  | [.wend] => true
  | [.iter _] => true
  | _ => false
/-- A thing is taken out of a row of pointers; it stays there by its pointer. -/
def pinOp (dst r n : Nat) (l : List SG) (pin : Option (Nat × Nat)) : RM Res := (segsRM r l pin).bind fun (l', g) => .opt l'[n]? fun x =>
  .pure ⟨.ptr dst 0, settleEd r l' g ++ [(r, some (.segs l' (some (n, dst)))), (dst, some (.cells [.val (.int .i64) x.1, .val (.int .u64) x.2.1, .sref (rowId dst), .sref (rowId dst + 1)])),
    (rowId dst, some (.arr (.int .i64) x.2.2.1)), (rowId dst + 1, some (.arr (.slice (.int .u8)) x.2.2.2))], [dst, rowId dst, rowId dst + 1]⟩
def rowCall (k : Nat) (s : FSpec) (dst : Nat) (args : List L) : RM Res := match s, args with
  | ⟨[.mapk g], _, _⟩, [.mref r] => .get r fun c => match c with
    | some (.pm _ none) => .pure (.of (.keys r g))
    | _ => .fail
  | ⟨[.seqk g], [.own u], F⟩, [.keys r g'] => .get r fun c => match c with
    | some (.pm l none) => cond (Nat.beq g g') (.opt (F k l) fun y => .pure ⟨.sref dst, [(dst, some (.arr u y))], [dst]⟩) .fail
    | _ => .fail
  | ⟨[.wend], _, _⟩, [.ptr q 0] => .get q fun c => match c with
    | some (.cells [.ptr _ 0, .nils]) => .pure (.of .nilp)
    | some (.cells [.ptr _ 0, .dref r]) => .get r fun c => match c with
      | some (.segs l pin) => .assume (Nat.ble l.length 4611686018427387904) (.br (Nat.beq l.length 0) (.pure (.of .nilp)) (pinOp dst r (l.length - 1) l pin))
      | _ => .fail
    | _ => .fail
  | ⟨[.lrow t], [.own u], F⟩, [.sref r] => .get r fun c => match c with
    | some (.arr t' xs) => match cast? (t := .slice t') (.slice t) xs with
      | some x => .opt (F k x) fun y => .pure ⟨.tup [], [(r, some (.arr u y))], []⟩
      | none => .fail
    | _ => .fail
  | _, _ => .fail
def PK.isZd : PK → Bool
  | .zd => true
  | _ => false
/-- Pointers at what nobody made are told from others. -/
def zview : List L → RM (List L)
  | [] => .pure []
  | .ptr r 0 :: ls => .get r fun c => match c with
    | some (.cells [.nilm]) => (zview ls).bind fun ls => .pure (.zp r :: ls)
    | _ => (zview ls).bind fun ls => .pure (.ptr r 0 :: ls)
  | l :: ls => (zview ls).bind fun ls => .pure (l :: ls)
def callOne (Γ : Env) (k : Nat) (f : FuncId) (dst : Nat) (args : List L) : RM Res :=
  match (Γ f).find? fun s => fits s.ps args with
  | none => .fail
  | some s => cond s.row (rowCall k s dst args) (callSpec Γ k s dst args)
def callFn (Γ : Env) (k : Nat) (f : FuncId) (dst : Nat) (args : List L) : RM Res :=
  cond ((Γ f).any fun s => s.ps.any PK.isZd) ((zview args).bind fun args => callOne Γ k f dst args) (callOne Γ k f dst args)
/-- A function value that came in is called. -/
def valArgs : (as : List AK) → List L → Option (RD AK.den as)
  | [], [] => some ()
  | ⟨t, false⟩ :: as, l :: ls => match leafVal? t l with
    | none => none
    | some x => match valArgs as ls with
      | none => none
      | some y => some (RD.mk (k := ⟨t, false⟩) x y)
  | ⟨t, true⟩ :: as, .agg ms :: ls => match t.implode ms with
    | none => none
    | some x => match valArgs as ls with
      | none => none
      | some y => some (RD.mk (k := ⟨t, true⟩) x y)
  | _, _ => none

/-! ### Builtins -/
def lenOp : L → RM L
  | .val .str s => .pure (.val (.int .i64) (s.length : Int))
  | .nils => .pure (.val (.int .i64) 0)
  | .vw _ _ _ n => .pure (.val (.int .i64) (n : Int))
  | l => (elemsAny l).bind fun ⟨_, xs⟩ => .pure (.val (.int .i64) (xs.length : Int))
def min2 : L → L → RM L
  | .val (.int k) a, .val (.int _) b => .pure (.val (.int k) (intMin a b))
  | .val .str a, .val .str b => .pure (.val .str (strMin a b))
  | _, _ => .fail
def max2 : L → L → RM L
  | .val (.int k) a, .val (.int _) b => .pure (.val (.int k) (intMax a b))
  | .val .str a, .val .str b => .pure (.val .str (strMax a b))
  | _, _ => .fail
def foldRM (f : L → L → RM L) : L → List L → RM L
  | a, [] => .pure a
  | a, b :: r => (f a b).bind fun c => foldRM f c r
def appended (t : T) : L → RM (List t.den)
  | .val .str s => match t with
    | .int .u8 => .pure (ofBytes s)
    | _ => .fail
  | l => elems t l
def zeroLs (i : TI) : List L := i.zero.map absLeaf
/-- So many zero values behind a slice: a row of its own. -/
def zerosOp (dst : Nat) (t : T) (ei j : TI) (base x : L) : RM Res :=
  match j.kind, t.implode (zeroLs ei) with
  | .int _, some z => (asInt? x).bind fun n => .assume (decide (0 ≤ n)) <| match base with
    | .nils => .assume (room n.toNat ei.bytes) (.pure ⟨.sref dst, [(dst, some (.arr t (List.replicate n.toNat z)))], [dst]⟩)
    | .vw r cnt lo m => .get r fun c => match c with
      | some (.blk t' xs c) => match cast? (t := .slice t') (.slice t) xs with
        | some xs => .assume (Nat.ble (lo + m) xs.length && Nat.beq t.cnt cnt && Nat.blt c (lo + m + n.toNat) && room (m + n.toNat) ei.bytes) (.pure ⟨.sref dst, [(dst, some (.arr t ((xs.drop lo).take m ++ List.replicate n.toNat z)))], [dst]⟩)
        | none => .fail
      | _ => .fail
    | _ => .fail
  | _, _ => .fail
def writeOp (r cnt lo n : Nat) (l : L) (k : (t : T) → RM (List t.den)) : RM Res := .get r fun c => match c with
  | some (.arr t xs) => (k t).bind fun ys => .assume (Nat.beq t.cnt cnt && Nat.ble ys.length n && Nat.ble (lo + n) xs.length) (.pure ⟨l, [(r, some (.arr t (splice xs lo ys)))], []⟩)
  | some (.blk t xs c) => (k t).bind fun ys => .assume (Nat.beq t.cnt cnt && Nat.ble ys.length n && Nat.ble (lo + n) c && Nat.ble lo xs.length) (.pure ⟨l, [(r, some (.blk t (splice xs lo ys) c))], []⟩)
  | _ => .fail
def capOp (tab : Tab) (argTypes : List TypeId) (x : L) : RM Res := match argTypes with
  | [t] => match tab.get t with
    | some i => cond i.kind.isSlice (match x with
      | .nils => .pure (.of (.val (.int .i64) 0))
      | .vw r _ lo _ => .get r fun c => match c with
        | some (.blk _ _ c) => .pure (.of (.val (.int .i64) ((c - lo : Nat) : Int)))
        | _ => .fail
      | _ => .fail) .fail
    | none => .fail
  | _ => .fail
def clearOp (tab : Tab) (argTypes : List TypeId) (x : L) : RM Res := match argTypes, x with
  | [sT], .vw r cnt lo n => match tab.get sT with
    | some i => match i.kind with
      | .slice e => match tab.get e with
        | some ei => writeOp r cnt lo n (.tup []) fun t => match t.implode (zeroLs ei) with
          | some z => cond (Nat.beq t.cnt ei.size) (.pure (List.replicate n z)) .fail
          | none => .fail
        | none => .fail
      | _ => .fail
    | none => .fail
  | _, _ => .fail
def copyOp (tab : Tab) (argTypes : List TypeId) (d x : L) : RM Res := match argTypes, d with
  | [sT, _], .vw r cnt lo n => match tab.get sT with
    | some i => match i.kind with
      | .slice e => match tab.get e with
        | some ei => writeOp r cnt lo n .unk fun t => cond (Nat.beq t.cnt ei.size) (elemsUpTo t n x) .fail
        | none => .fail
      | _ => .fail
    | none => .fail
  | _, _ => .fail
def mapTI (tab : Tab) (t : TypeId) : Option (TI × TI) := match tab.get t with
  | some i => match i.kind with
    | .map k e => match tab.get k, tab.get e with
      | some ki, some ei => some (ki, ei)
      | _, _ => none
    | _ => none
  | none => none
def isNilPtr : List Value → Bool
  | [.pointer none] => true
  | _ => false
/-- A map from texts to pointers at things of the said form. -/
def pmTI (tab : Tab) (t : TypeId) : Bool := match mapTI tab t with
  | some (ki, ei) => match ki.kind, ei.kind with
    | .str, .ptr e => match tab.get e with
      | some i => decide (i.t = some (.pair (.slice (.int .u8)) (.int .i64))) && isNilPtr ei.zero
      | none => false
    | _, _ => false
  | none => false
def deleteOp (tab : Tab) (argTypes : List TypeId) (x y : L) : RM Res := match argTypes, x, y with
  | t :: _, .mref r, .val .str key => cond (pmTI tab t) (.get r fun c => match c with
    | some (.pm l none) => .pure ⟨.tup [], [(r, some (.pm (mdel (kt := .str) key l) none))], []⟩
    | some (.pm l (some (k, _))) => .assume (T.str.eqb key k) (.pure ⟨.tup [], [(r, some (.pm (mdel (kt := .str) key l) none))], []⟩)
    | _ => .fail) .fail
  | _, _, _ => .fail
/-- Rows of pointers at things of one's own: made, put together, cut. -/
def segsAppend (dst : Nat) : L → L → RM Res
  | .nils, .dref r2 => .get r2 fun c => match c with
    | some (.segs l2 pin2) => .assume (room l2.length 8) (.pure ⟨.dref dst, [(r2, none), (dst, some (.segs l2 pin2))], [dst]⟩)
    | _ => .fail
  | .dref r, .dref r2 => .get r2 fun c => match c with
    | some (.segs l2 pin2) => .get r fun c => match c with
      | some (.segs l pin) => (segsRM r l pin).bind fun (l', g) => .assume (room (l'.length + l2.length) 8) (cond (nodup (r2 :: r :: g) && (match pin2 with | none => true | some (_, R) => !(g.contains R)))
          (.pure ⟨.dref dst, settleEd r l' g ++ [(r, none), (r2, none), (dst, some (.segs (l' ++ l2) (pin2.map fun p => (l'.length + p.1, p.2))))], [dst]⟩) .fail)
      | _ => .fail
    | _ => .fail
  | _, _ => .fail
def segsSlice (dst r : Nat) (lo hi : Option L) : RM Res := .get r fun c => match c with
  | some (.segs l pin) => (segsRM r l pin).bind fun (l', g) => (boundOr 0 lo).bind fun a => (boundOr l'.length hi).bind fun b =>
      .assume (decide (0 ≤ a) && decide (a ≤ b) && decide (b ≤ l'.length)) (.pure ⟨.dref dst, settleEd r l' g ++ [(r, none), (dst, some (.segs (cut l' a b) none))], [dst]⟩)
  | _ => .fail
/-- A row of one pointer. -/
def segsOne (dst R : Nat) : RM Res := .get R fun c => match c with
  | some (.cells ls) => (sgRM ls).bind fun (x, _) => cond (Nat.blt R lentBase) (.pure ⟨.dref dst, [(dst, some (.segs [x] (some (0, R))))], [dst]⟩) .fail
  | _ => .fail
def builtinOp (tab : Tab) (b : Builtin) (dst : Nat) (argTypes : List TypeId) (args : List L) : RM Res :=
  match b, args with
  | .len, [x] => match argTypes with
    | [t] => match tab.get t with
      | some i => match x with
        | .mref r => cond i.kind.isMap (.get r fun c => match c with
          | some (.pm l _) => .pure (.of (.val (.int .i64) (l.length : Int)))
          | _ => .fail) .fail
        | .val .str s => cond i.kind.isStr (.pure (.of (.val (.int .i64) (s.length : Int)))) .fail
        | .dref r => cond i.kind.isSlice (.get r fun c => match c with
          | some (.segs l _) => .pure (.of (.val (.int .i64) (l.length : Int)))
          | _ => .fail) .fail
        | x => cond i.kind.isSlice ((lenOp x).bind fun l => .pure (.of l)) .fail
      | none => .fail
    | _ => .fail
  | .min, a :: r => (foldRM min2 a r).bind fun l => .pure (.of l)
  | .cap, [x] => capOp tab argTypes x
  | .clear, [x] => clearOp tab argTypes x
  | .copy, [d, x] => copyOp tab argTypes d x
  | .max, a :: r => (foldRM max2 a r).bind fun l => .pure (.of l)
  | .delete, [x, y] => deleteOp tab argTypes x y
  | .append, [base, x] => match argTypes with
    | [sT, xT] => match tab.get sT, tab.get xT with
      | some i, some j => match i.kind, i.t with
        | .slice e, some (.slice t) => match tab.get e with
          | some ei => cond (Nat.beq t.cnt ei.size && !Nat.beq ei.bytes 0 && j.kind.isText) (match x with
            | .dref _ => cond (Nat.beq ei.bytes 8 && Nat.beq ei.size 1) (segsAppend dst base x) .fail
            | _ => (appended t x).bind fun more => appendOp dst t ei.bytes base more) <|
              cond (Nat.beq t.cnt ei.size && !Nat.beq ei.bytes 0) (zerosOp dst t ei j base x) .fail
          | none => .fail
        | _, _ => .fail
      | _, _ => .fail
    | _ => .fail
  | _, _ => .fail

/-! ### Memory -/
def fillLs (place : Nat → Option (Nat × Nat)) (cells : List L) : List (Nat × L) → Option (List L)
  | [] => some cells
  | (i, l) :: rest => match place i with
    | none => none
    | some (off, size) =>
      let ls := leavesOf l
      cond (Nat.beq ls.length size && Nat.ble (off + size) cells.length) (fillLs place (cells.take off ++ ls ++ cells.drop (off + size)) rest) none
def fieldPlaces (tab : Tab) : List (TypeId × Nat) → Option (List (Nat × Nat))
  | [] => some []
  | (t, off) :: r => match tab.get t with
    | none => none
    | some i => match fieldPlaces tab r with
      | none => none
      | some l => some ((off, i.size) :: l)
def takeElems (t : T) (size : Nat) : Nat → List L → Option (List t.den)
  | 0, _ => some []
  | n + 1, ls => match t.implode (ls.take size) with
    | none => none
    | some x => match takeElems t size n (ls.drop size) with
      | none => none
      | some xs => some (x :: xs)
def repeatLs : Nat → List L → List L
  | 0, _ => []
  | n + 1, ls => ls ++ repeatLs n ls
def loadLs (i : TI) (ls : List L) (off : Nat) : RM L :=
  cond i.isAgg
    (cond (Nat.ble (off + i.size) ls.length) (.pure (.agg ((ls.drop off).take i.size))) .fail)
    (match ls[off]? with | some l => .pure l | none => .fail)
def storeLs (i : TI) (ls : List L) (off : Nat) (v : List L) : Option (List L) :=
  cond (Nat.beq v.length i.size && Nat.ble (off + i.size) ls.length) (some (ls.take off ++ v ++ ls.drop (off + i.size))) none
def loadOp (i : TI) : L → RM L
  | .ptr r off => .get r fun c => match c with
    | some (.cells ls) => loadLs i ls off
    | _ => .fail
  | .eptr t x off => loadLs i (t.explode x) off
  | .fptr ps b p => loadLs i [.fn ps b p] 0
  | .zd => loadLs i [.nilm] 0
  | .aptr r cnt n off => .get r fun c => match rowOf c with
    | some ⟨t, xs⟩ => cond (Nat.beq t.cnt cnt) (.opt xs[n]? fun x => loadLs i (t.explode x) off) .fail
    | _ => .fail
  | _ => .fail
def storeOp (i : TI) (v : L) : L → RM Res
  | .ptr r off => .get r fun c => match c with
    | some (.cells ls) => match storeLs i ls off (leavesOf v) with
      | some ls' => cond ((leavesOf v).all L.one) (.pure ⟨.skipped, [(r, some (.cells ls'))], []⟩) .fail
      | none => .fail
    | _ => .fail
  | .aptr r cnt n off => (purify (leavesOf v)).bind fun (vs, gone) => .get r fun c => match c with
    | some (.arr t xs) => cond (Nat.beq t.cnt cnt && vs.all L.one && disjoint [r] (gone.map (·.1))) (.opt xs[n]? fun x => match storeLs i (t.explode x) off vs with
      | some ls' => match t.implode ls' with
        | some x' => .pure ⟨.skipped, gone ++ [(r, some (.arr t (xs.set n x')))], []⟩
        | none => .fail
      | none => .fail) .fail
    | _ => .fail
  | _ => .fail
def shiftPtr (o : Nat) : L → RM L
  | .ptr r off => .pure (.ptr r (off + o))
  | .eptr t x off => .pure (.eptr t x (off + o))
  | .aptr r c i off => .pure (.aptr r c i (off + o))
  | .zd => cond (Nat.beq o 0) (.pure .zd) .fail
  | _ => .fail
/-- Tables of numbers that the program's text lays: by the variable's number. -/
class Tabs where
  at? : Nat → Option (IntKind × List Int)
def arrAddr [Tabs] (size : Nat) (n : Int) : L → RM L
  | .tab g => match Tabs.at? g with
    | some (k, zs) => cond (Nat.beq size 1) (.opt (GG.at? zs n) fun y => .pure (.eptr (.int k) y 0)) .fail
    | none => .fail
  | x => shiftPtr (n.toNat * size) x
def indexAddrOp (size : Nat) (x i : L) : RM L :=
  (asInt? i).bind fun n => match x with
    | .sref r => .get r fun c => match rowOf c with
      | some ⟨t, xs⟩ => cond (Nat.beq t.cnt size) (.assume (decide (0 ≤ n) && decide (n < xs.length)) (.pure (.aptr r t.cnt n.toNat 0))) .fail
      | _ => .fail
    | .dref r => .get r fun c => match c with
      | some (.segs l _) => cond (Nat.beq 1 size) (.assume (decide (0 ≤ n) && decide (n < l.length)) (.pure (.dptr r n.toNat))) .fail
      | _ => .fail
    | x => (elemsAny x).bind fun ⟨t, xs⟩ => cond (Nat.beq t.cnt size) (.opt (at? xs n) fun y => .pure (.eptr t y 0)) .fail
/-- Is a type's element a byte? -/
def isBytes (tab : Tab) (i : TI) : Bool := match i.kind with
  | .slice e => match tab.get e with
    | some ei => match ei.kind with
      | .int .u8 => true
      | _ => false
    | none => false
  | _ => false
def convertOp (tab : Tab) (same : Bool) (s d : TI) (dst : Nat) : L → RM Res
  | .val (.int _) n => match d.kind with
    | .int k' => .pure (.of (.val (.int k') (k'.wrap n)))
    | _ => .fail
  | .val .str x => match s.kind with
    | .str => match d.kind with
      | .str => .pure (.of (.val .str x))
      | _ => cond (isBytes tab d) (.pure ⟨.sref dst, [(dst, some (.arr (.int .u8) (ofBytes x)))], [dst]⟩) .fail
    | _ => .fail
  | l => match d.kind with
    | .str => cond (isBytes tab s) ((elems (.int .u8) l).bind fun xs => .pure (.of (.val .str (toBytes xs)))) .fail
    | .slice _ => match l with
      | .sref r => cond (same && isBytes tab s) (.get r fun c => match c with
        | some (.arr (.int .u8) xs) => .assume (!xs.isEmpty) (.pure ⟨.sref dst, [(r, none), (dst, some (.arr (.int .u8) xs))], [dst]⟩)
        | _ => .fail) .fail
      | _ => .fail
    | _ => .fail

def opVal (m : RM L) : RM Res := m.bind fun l => .pure (.of l)
def tabRM {α : Type} (tab : Tab) (t : TypeId) (k : TI → RM α) : RM α := match tab.get t with
  | some i => k i
  | none => .fail
def okCaps : List L → Option (List (Nat × Nat))
  | [] => some []
  | .ptr r off :: ls => match okCaps ls with | some cs => some ((r, off) :: cs) | none => none
  | _ => none

def pval? (t : T) : L → Option t.den
  | .agg ls => cond t.leaf none (t.implode ls)
  | l => cond t.leaf (leafVal? t l) none
def pL (t : T) (x : t.den) : L := cond t.leaf (.val t x) (.agg (t.explode x))
def leafTI : Option TI → Bool
  | some i => match i.kind with
    | .int _ => true
    | .bool => true
    | .str => true
    | _ => false
  | none => false
def keyTI (tab : Tab) (i : TI) (t : T) : Bool := match i.kind, t with
  | .int q, .int q' => decide (q = q')
  | .bool, .bool => true
  | .str, .str => true
  | .struct fs, .pair a b => i.eq && decide (i.t = some (.pair a b)) && fs.all fun f => leafTI (tab.get f.1) && Nat.blt f.2 (T.pair a b).cnt
  | _, _ => false
def makeMapOp (tab : Tab) (t : TypeId) (dst : Nat) : RM Res := cond (pmTI tab t) (.pure ⟨.mref dst, [(dst, some (.pm [] none))], [dst]⟩) <| match mapTI tab t with
  | some (ki, ei) => match ki.t, ei.t with
    | some kt, some et => cond (kt.flat && et.flat) (.pure ⟨.mref dst, [(dst, some (.map kt et []))], [dst]⟩) .fail
    | _, _ => .fail
  | none => .fail
def lookupOp (tab : Tab) (t : TypeId) (x y : L) : RM L := match mapTI tab t with
  | some (ki, ei) => match x with
    | .mref r => .get r fun c => match c with
      | some (.map kt et l) => cond (keyTI tab ki kt && (ei.isAgg == !et.leaf)) ((RM.lift (pval? kt y)).bind fun key => (RM.lift (et.implode (zeroLs ei))).bind fun z => .pure (pL et ((mfind key l).getD z))) .fail
      | _ => .fail
    | _ => .fail
  | none => .fail
/-- A thing is taken out of a map; it stays there by its pointer. -/
def takeOut (r dst : Nat) (l : FL) (key : List UInt8) (x : FT) (v : L) : Res :=
  ⟨v, [(r, some (.pm l (some (key, dst)))), (dst, some (.cells [.sref (rowId dst), .val (.int .i64) x.2])), (rowId dst, some (.arr (.int .u8) x.1))], [dst, rowId dst]⟩
def pmLookup (tab : Tab) (t : TypeId) (ok : Bool) (dst : Nat) (x y : L) : RM Res := match x, y with
  | .mref r, .val .str key => .get r fun c => match c with
    | some (.pm l none) => cond ok
        (.cases (mfind (kt := .str) key l) (.pure (.of (.tup [.nilp, .val .bool false]))) fun x => .pure (takeOut r dst l key x (.tup [.ptr dst 0, .val .bool true])))
        (.opt (mfind (kt := .str) key l) fun x => .pure (takeOut r dst l key x (.ptr dst 0)))
    | _ => .fail
  | _, _ => .fail
/-- What a thing's cells hold, and which row stands behind them. -/
def thing (μ : Nat → Option C) : List L → Option (FT × List Nat)
  | [.sref r, .val (.int .i64) n] => match μ r with
    | some (.arr (.int .u8) xs) => some ((xs, n), [r])
    | _ => none
  | [.nils, .val (.int .i64) n] => some (([], n), [])
  | _ => none
def thingRM : List L → RM (FT × List Nat)
  | [.sref r, .val (.int .i64) n] => .get r fun c => match c with
    | some (.arr (.int .u8) xs) => .pure ((xs, n), [r])
    | _ => .fail
  | [.nils, .val (.int .i64) n] => .pure (([], n), [])
  | _ => .fail
/-- A thing comes into a map: one that stands there already, or a new one. -/
def pmUpdate (x y z : L) : RM Res := match x, y, z with
  | .mref r, .val .str key, .ptr R 0 => .get r fun c => match c with
    | some (.pm l pin) => .get R fun c => match c with
      | some (.cells ls) => (thingRM ls).bind fun (x, rs) =>
        .assume (match pin with | none => true | some (k, R') => T.str.eqb key k && Nat.beq R R') <|
          cond (nodup (r :: R :: rs) && Nat.blt R lentBase) (.pure ⟨.skipped, (r, some (.pm (mset (kt := .str) key x l) none)) :: (R, none) :: gone rs, []⟩) .fail
      | _ => .fail
    | _ => .fail
  | _, _, _ => .fail
def mapUpdateOp (tab : Tab) (t : TypeId) (x y z : L) : RM Res := match mapTI tab t with
  | some (ki, _) => match x with
    | .mref r => .get r fun c => match c with
      | some (.map kt et l) => cond (keyTI tab ki kt) ((RM.lift (pval? kt y)).bind fun key => (RM.lift (pval? et z)).bind fun v => .pure ⟨.skipped, [(r, some (.map kt et (mset key v l)))], []⟩) .fail
      | _ => .fail
    | _ => .fail
  | none => .fail
def isConst : Operand → Bool
  | .const _ => true
  | _ => false
def aop [Tabs] (tab : Tab) (Γ : Env) (k : Nat) (dst : Nat) (ρ : Operand → L) : Op → RM Res
  | .move x => .pure (.of (ρ x))
  | .assign x => .pure (.of (ρ x))
  | .pick c a b => match ρ c with
    | .val .bool t => .br t (.pure (.of (ρ a))) (.pure (.of (ρ b)))
    | _ => .fail
  | .alloc t => tabRM tab t fun i => .pure ⟨.ptr dst 0, [(dst, some (.cells (zeroLs i)))], [dst]⟩
  | .box _ x => cond (ρ x).plain (.pure ⟨.ptr dst 0, [(dst, some (.cells (leavesOf (ρ x))))], [dst]⟩) .fail
  | .build t parts => cond (parts.toList.all fun p => (ρ p.2).plain) (tabRM tab t fun i => match i.kind with
    | .struct fs => match fieldPlaces tab fs with
      | some pl => match fillLs (fun j => pl[j]?) (zeroLs i) (parts.toList.map fun p => (p.1, ρ p.2)) with
        | some ls => .pure (.of (.agg ls))
        | none => .fail
      | none => .fail
    | .array _ e => tabRM tab e fun ei => match fillLs (fun j => some (j * ei.size, ei.size)) (zeroLs i) (parts.toList.map fun p => (p.1, ρ p.2)) with
      | some ls => .pure (.of (.agg ls))
      | none => .fail
    | _ => .fail) .fail
  | .buildSlice t len parts => cond (parts.toList.all fun p => (ρ p.2).plain) (tabRM tab t fun i => match i.kind, i.t with
    | .slice e, some (.slice et) => tabRM tab e fun ei =>
      match fillLs (fun j => some (j * ei.size, ei.size)) (repeatLs len (zeroLs ei)) (parts.toList.map fun p => (p.1, ρ p.2)) with
      | some ls => cond (!Nat.beq et.cnt ei.size) .fail <| match ls with
        | [.ptr R 0] => segsOne dst R
        | ls => (purify ls).bind fun (ls, gone) => match takeElems et ei.size len ls with
          | some xs => .assume (Nat.ble (len * ei.size) 16777216) (.pure ⟨.sref dst, gone ++ [(dst, some (.arr et xs))], [dst]⟩)
          | none => .fail
      | none => .fail
    | _, _ => .fail) .fail
  | .load t a => tabRM tab t fun i => match ρ a with
    | .dptr r n => cond i.isAgg .fail (.get r fun c => match c with
      | some (.segs l pin) => pinOp dst r n l pin
      | _ => .fail)
    | x => opVal (loadOp i x)
  | .store t a x => tabRM tab t fun i => storeOp i (ρ x) (ρ a)
  | .makeMap t none => makeMapOp tab t dst
  | .lookup t x y ok => cond (pmTI tab t) (pmLookup tab t ok dst (ρ x) (ρ y)) (cond ok .fail (opVal (lookupOp tab t (ρ x) (ρ y))))
  | .mapUpdate t x y z => cond (pmTI tab t) (pmUpdate (ρ x) (ρ y) (ρ z)) (mapUpdateOp tab t (ρ x) (ρ y) (ρ z))
  | .nilCheck x => match ρ x with
    | .ptr r off => .pure (.of (.ptr r off))
    | .eptr t x off => .pure (.of (.eptr t x off))
    | .fptr ps b p => .pure (.of (.fptr ps b p))
    | .aptr r c i off => .pure (.of (.aptr r c i off))
    | .clos f cs => .pure (.of (.clos f cs))
    | .fn ps b p => .pure (.of (.fn ps b p))
    | .zd => .pure (.of .zd)
    | .tab g => .pure (.of (.tab g))
    | .dptr r n => .pure (.of (.dptr r n))
    | .val (.opt t) o => .opt o fun x => .pure (.of (.eptr t x 0))
    | _ => .fail
  | .binOp op t x y _ => match ρ x, ρ y with
    | .nili, .nili => cond (kindIs (tab.get t) TK.isIface && isConst y) (opVal (eqNeq op true)) .fail
    | a, b => opVal (binop (tab.get t) op a b)
  | .unOp op _ x => opVal (unop op (ρ x))
  | .convert s d x => tabRM tab s fun i => tabRM tab d fun j => convertOp tab (Nat.beq s d) i j dst (ρ x)
  | .slice t x lo hi mx => tabRM tab t fun i => match i.kind with
    | .slice e => tabRM tab e fun ei => cond (isView (ρ x) (lo.map ρ) (hi.map ρ) (mx.map ρ)) (viewOp ei.size (ρ x) (lo.map ρ) (hi.map ρ) (mx.map ρ)) <|
        match ρ x, lo.map ρ, hi.map ρ, mx.map ρ with
        | .sref r, none, some h, none => .get r fun c => match c with
          | some (.arr _ _) => cutOp ei.size dst r h
          | _ => sliceOp tab i (ρ x) (lo.map ρ) (hi.map ρ) (mx.map ρ)
        | .dref r, a, b, none => cond (Nat.beq ei.size 1 && (a.isSome || b.isSome)) (segsSlice dst r a b) .fail
        | _, _, _, _ => sliceOp tab i (ρ x) (lo.map ρ) (hi.map ρ) (mx.map ρ)
    | _ => sliceOp tab i (ρ x) (lo.map ρ) (hi.map ρ) (mx.map ρ)
  | .fieldAddr s x f => tabRM tab s fun i => match i.kind with
    | .struct fs => match fs[f]? with
      | some (ft, o) => tabRM tab ft fun fi => cond (Nat.beq fi.size 0) .fail (opVal (shiftPtr o (ρ x)))
      | none => .fail
    | _ => .fail
  | .field s x f => tabRM tab s fun i => match i.kind with
    | .struct fs => match fs[f]?, ρ x with
      | some (ft, o), .agg ls => tabRM tab ft fun j => opVal (loadLs j ls o)
      | _, _ => .fail
    | _ => .fail
  | .indexAddr t x i => tabRM tab t fun ti => match ti.kind with
    | .slice e => tabRM tab e fun ei => opVal (indexAddrOp ei.size (ρ x) (ρ i))
    | .array len e => tabRM tab e fun ei => opVal ((asInt? (ρ i)).bind fun n => .assume (decide (0 ≤ n) && decide (n < len)) (arrAddr ei.size n (ρ x)))
    | _ => .fail
  | .index t x i => tabRM tab t fun ti => match ti.kind, ρ x with
    | .str, .val .str s => (asInt? (ρ i)).bind fun n => .opt (at? s n) fun b => .pure (.of (.val (.int .u8) (b.toNat : Int)))
    | .array len e, .agg ls => match ρ i with
      | .val (.int _) n => tabRM tab e fun ei => .assume (decide (0 ≤ n) && decide (n < len)) (opVal (loadLs ei ls (n.toNat * ei.size)))
      | _ => .fail
    | _, _ => .fail
  | .extract t i => match ρ t with
    | .tup ls => match ls[i]? with
      | some l => .pure (.of l)
      | none => .fail
    | _ => .fail
  | .makeFunc fn first caps => match fn, first.toList with
    | .func f, [] => match okCaps (caps.toList.map ρ) with
      | some cs => .pure (.of (.clos f cs))
      | none => .fail
    | _, _ => .fail
  | .makeSlice t n c => tabRM tab t fun i => match i.kind, i.t with
    | .slice e, some (.slice et) => tabRM tab e fun ei => (asInt? (ρ n)).bind fun n => (asInt? (ρ c)).bind fun c =>
      match et.implode (zeroLs ei) with
      | some z => cond (!Nat.beq et.cnt ei.size || Nat.beq ei.bytes 0) .fail <| .assume (n == c && decide (0 ≤ n) && room n.toNat ei.bytes) (.pure ⟨.sref dst, [(dst, some (.arr et (List.replicate n.toNat z)))], [dst]⟩)
      | none => .fail
    | _, _ => .fail
  | .call c => match c.callee with
    | .builtin b => builtinOp tab b dst c.argTypes.toList (c.args.toList.map ρ)
    | .value (.func f) => callFn Γ k f dst (c.args.toList.map ρ)
    | .value x => match ρ x with
      | .clos f caps => callFn Γ k f dst (c.args.toList.map ρ ++ caps.map fun p => .ptr p.1 p.2)
      | .fn ps b p => match valArgs ps (c.args.toList.map ρ) with
        | some y => .opt (p y) fun z => .pure (.of (.val b z))
        | none => .fail
      | _ => .fail
    | .invoke _ _ => .fail
  | _ => .fail

/-! ### Regions -/
def ev (s : St) : Operand → L
  | .tmp t => s.env t
  | .const v => absV v
  | .func f => .clos f []
  | .global g => .tab g
def put (s : St) (d : Option Nat) (l : L) : St := match d with
  | none => s
  | some d => { s with env := fun t => cond (Nat.beq t d) l (s.env t) }
def editMem : List (Nat × Option C) → (Nat → Option C) → Nat → Option C
  | [], μ => μ
  | (r, c) :: es, μ => editMem es fun r' => cond (Nat.beq r' r) c (μ r')
def addUsed : List Nat → (Nat → Bool) → Nat → Bool
  | [], u => u
  | a :: as, u => addUsed as fun r => cond (Nat.beq r a) true (u r)
def apply (s : St) (d : Option Nat) (r : Res) : St :=
  put { s with mem := editMem r.edits s.mem, used := addUsed r.allocs s.used } d r.val
/-- What an operation has read and written. -/
structure Foot where
  i : Nat
  reads : List Nat
  writes : List Nat
def needsDst : Op → Bool
  | .alloc _ => true
  | .box _ _ => true
  | .buildSlice _ _ _ => true
  | .makeSlice _ _ _ => true
  | .makeMap _ _ => true
  | .lookup _ _ _ _ => true
  | .convert _ _ _ => true
  | .call c => match c.callee with | .builtin .clear => false | .builtin .copy => false | .builtin .delete => false | .builtin _ => true | _ => false
  | .slice _ _ none (some _) none => true
  | .slice _ _ (some _) _ none => true
  | .load _ _ => true
  | _ => false
def execOpA {R : Type} [Tabs] (tab : Tab) (Γ : Env) (k : Nat) (i : Nat) (o : Oper) (s : St) (K : St → Foot → Option R) : Option R :=
  (aop tab Γ k (o.dst.getD 0) (ev s) o.op).run s.mem [] fun r rs =>
    cond ((r.allocs.all fun a => !s.used a && Nat.blt a lentBase) && (!needsDst o.op || o.dst.isSome)) (K (apply s o.dst r) ⟨i, rs, r.edits.map (·.1) ++ r.allocs⟩) none
def dstOf (ops : List Oper) (j : Nat) : Option Nat := match ops[j]? with
  | some o => o.dst
  | none => none
def stepA {R : Type} [Tabs] (tab : Tab) (Γ : Env) (k : Nat) (ops : List Oper) (i : Nat) (o : Oper) (s : St) (K : St → List Foot → Option R) : Option R :=
  match o.guard with
  | none => execOpA tab Γ k i o s fun s f => K s [f]
  | some (j, want) => match dstOf ops j with
    | none => none
    | some d => match s.env d with
      | .val .bool b => cond b
          (match want with
            | true => execOpA tab Γ k i o (put s (some d) (.val .bool true)) fun s f => K s [f]
            | false => K (put (put s (some d) (.val .bool true)) o.dst .skipped) [])
          (match want with
            | false => execOpA tab Γ k i o (put s (some d) (.val .bool false)) fun s f => K s [f]
            | true => K (put (put s (some d) (.val .bool false)) o.dst .skipped) [])
      | .skipped => K (put s o.dst .skipped) []
      | _ => none
def opsA {R : Type} [Tabs] (tab : Tab) (Γ : Env) (k : Nat) (ops : List Oper) : Nat → List Oper → St → List Foot → (St → List Foot → Option R) → Option R
  | _, [], s, fs, K => K s fs
  | i, o :: rest, s, fs, K => stepA tab Γ k ops i o s fun s f => opsA tab Γ k ops (i + 1) rest s (f ++ fs) K
/-! Where the order is open: whatever is not ordered touches nothing in common. -/
def Foot.apart (f g : Foot) : Bool := disjoint f.writes g.reads && disjoint f.writes g.writes && disjoint g.writes f.reads
def footsOk (before : Array Nat) : List Foot → Bool
  | [] => true
  | f :: fs => fs.all (fun g => f.apart g || (before.getD f.i 0).testBit g.i) && footsOk before fs
def regionA {R : Type} [Tabs] (tab : Tab) (Γ : Env) (k : Nat) (ops : Array Oper) (draw : Bool) (s : St) (K : St → Option R) : Option R :=
  opsA tab Γ k ops.toList 0 ops.toList s [] fun s fs => match draw with
    | false => K s
    | true => cond (footsOk (Region.before ops) fs) (K s) none
/-! What is asked of the regions themselves. -/
def numbered : Nat → List Oper → List (Nat × Oper)
  | _, [] => []
  | i, o :: r => (i, o) :: numbered (i + 1) r
def tmpsOk (ops : Array Oper) (before : Array Nat) : List (Nat × Oper) → Bool
  | [] => true
  | (j, o) :: r => r.all (fun p => o.apart ops p.2 || (before.getD p.1 0).testBit j) && tmpsOk ops before r
def edgesOk : List (Nat × Oper) → Bool
  | [] => true
  | (i, o) :: r => o.after.toList.all (fun e => !Region.binds .any e || Nat.blt e.on i) && edgesOk r
def dstsOk (N : Nat) : List Oper → Bool
  | [] => true
  | o :: r => (match o.dst with | none => true | some d => Nat.blt d N) && dstsOk N r
def regionsOk (N : Nat) : Code → Bool
  | .region _ ops draw => dstsOk N ops.toList && (!draw || (tmpsOk ops (Region.before ops) (numbered 0 ops.toList) && edgesOk (numbered 0 ops.toList)))
  | .seq a b => regionsOk N a && regionsOk N b
  | .cond _ x y => regionsOk N x && regionsOk N y
  | .block _ c => regionsOk N c
  | .loop c => regionsOk N c
  | .rangeFunc _ ps a c => ps.all (fun t => Nat.blt t N) && (regionsOk N a && regionsOk N c)
  | _ => true
/-- The names that a code writes. -/
def dstsC : Code → List Nat
  | .region _ ops _ => ops.toList.filterMap (·.dst)
  | .seq a b => dstsC a ++ dstsC b
  | .cond _ x y => dstsC x ++ dstsC y
  | .block _ c => dstsC c
  | .loop c => dstsC c
  | .rangeFunc _ ps a c => ps.toList ++ (dstsC a ++ dstsC c)
  | _ => []
def notDefer : Op → Bool
  | .defer _ => false
  | _ => true
/-- No deferred call, no range over a function. -/
def plainC : Code → Bool
  | .region _ ops _ => ops.toList.all fun o => notDefer o.op
  | .seq a b => plainC a && plainC b
  | .cond _ x y => plainC x && plainC y
  | .block _ c => plainC c
  | .loop c => plainC c
  | .rangeFunc _ _ _ _ => false
  | _ => true

/-! ### Patterns -/
inductive PLeaf where
  | dyn (t : T)
  | stat (l : L)
inductive PE where
  | val (i : Nat) (t : T)
  | agg (i : Nat) (t : T)
  | full (i : Nat) (t : T)
  | nnil (i : Nat) (t : T)
  | eptr (i : Nat) (t : T) (off : Nat)
  | fn (i : Nat) (ps : List AK) (b : T)
  | cells (r : Nat) (ls : List PLeaf)
  | arr (r : Nat) (t : T)
  | app (r : Nat) (t : T)
  | map (r : Nat) (kt vt : T)
  | pm (r : Nat)
  | segs (r : Nat)
def dynTs : List PLeaf → List T
  | [] => []
  | .dyn t :: r => t :: dynTs r
  | .stat _ :: r => dynTs r
@[reducible] def PE.den : PE → Type
  | .val _ t => t.den
  | .agg _ t => t.den
  | .full _ t => List t.den
  | .nnil _ t => List t.den
  | .eptr _ t _ => t.den
  | .fn _ ps b => RD AK.den ps → Option b.den
  | .cells _ ls => RD T.den (dynTs ls)
  | .arr _ t => List t.den
  | .app _ t => List t.den
  | .map _ kt vt => List (kt.den × vt.den)
  | .pm _ => FL
  | .segs _ => List SG
structure Pat where
  stat : List (Nat × L)
  dyn : List PE
/-- What of the state stands for a pattern's block: a block, a nil row, a row without room behind it. -/
inductive Src where
  | ref (d : Nat)
  | nil
  | dnil
  | full (t : T) (xs : List t.den)
abbrev Sub := List (Nat × Src)
def Sub.get : Sub → Nat → Option Src
  | [], _ => none
  | (a, b) :: r, n => cond (Nat.beq a n) (some b) (Sub.get r n)
def bindRef (θ : Sub) (R : Nat) (d : Src) : Option Sub := match θ.get R with
  | none => some ((R, d) :: θ)
  | some (.ref a) => match d with
    | .ref b => cond (Nat.beq a b) (some θ) none
    | _ => none
  | some .nil => match d with
    | .nil => some θ
    | _ => none
  | some .dnil => match d with
    | .dnil => some θ
    | _ => none
  | some (.full _ _) => none
def bindCaps : Sub → List (Nat × Nat) → List (Nat × Nat) → Option Sub
  | θ, [], [] => some θ
  | θ, (R, o) :: cs, (r, o') :: cs' => if o = o' then (match bindRef θ R (.ref r) with | some θ => bindCaps θ cs cs' | none => none) else none
  | _, _, _ => none
def bindStat (θ : Sub) : L → L → Option Sub
  | .sref R, .sref r => bindRef θ R (.ref r)
  | .sref R, .nils => bindRef θ R .nil
  | .sref R, .full t xs => bindRef θ R (.full t xs)
  | .ptr R o, .ptr r o' => if o = o' then bindRef θ R (.ref r) else none
  | .mref R, .mref r => bindRef θ R (.ref r)
  | .dref R, .dref r => bindRef θ R (.ref r)
  | .dref R, .nils => bindRef θ R .dnil
  | .nils, .nils => some θ
  | .nilp, .nilp => some θ
  | .nilm, .nilm => some θ
  | .nili, .nili => some θ
  | .skipped, .skipped => some θ
  | .unk, _ => some θ
  | .clos f cs, .clos f' cs' => if f = f' then bindCaps θ cs cs' else none
  | _, _ => none
def bindStats (s : St) : Sub → List (Nat × L) → Option Sub
  | θ, [] => some θ
  | θ, (i, l) :: r => match bindStat θ l (s.env i) with
    | none => none
    | some θ => bindStats s θ r
/-- A value for a pattern's place; rows of the state's own may be given away. -/
def pickVal (s : St) (t : T) : L → Option (t.den × List Nat)
  | .sref r => match rowOf (s.mem r) with
    | some ⟨t', xs⟩ => match cast? (t := .slice t') t xs with
      | some x => some (x, [r])
      | none => none
    | _ => none
  | l => match leafVal? t l with
    | some x => some (x, [])
    | none => none
def pickLeaves (s : St) : List L → Option (List L × List Nat)
  | [] => some ([], [])
  | .sref r :: ls => match rowOf (s.mem r) with
    | some ⟨t, xs⟩ => match pickLeaves s ls with
      | some (a, b) => some (.val (.slice t) xs :: a, r :: b)
      | none => none
    | _ => none
  | l :: ls => match pickLeaves s ls with
    | some (a, b) => some (l :: a, b)
    | none => none
def pickCells (s : St) (θ : Sub) : (ps : List PLeaf) → List L → Option (RD T.den (dynTs ps) × Sub × List Nat)
  | [], [] => some ((), θ, [])
  | .dyn t :: ps, l :: ls => match pickVal s t l with
    | none => none
    | some (x, g) => match pickCells s θ ps ls with
      | none => none
      | some (y, θ, g') => some (RD.mk (k := t) x y, θ, g ++ g')
  | .stat e :: ps, l :: ls => match bindStat θ e l with
    | none => none
    | some θ => pickCells s θ ps ls
  | _, _ => none
def pickOne (s : St) (θ : Sub) : (p : PE) → Option (p.den × Sub × List Nat)
  | .val i t => match pickVal s t (s.env i) with
    | some (x, g) => some (x, θ, g)
    | none => none
  | .agg i t => match s.env i with
    | .agg ls => match pickLeaves s ls with
      | some (ls, g) => match t.implode ls with
        | some x => some (x, θ, g)
        | none => none
      | none => none
    | _ => none
  | .full i t => match s.env i with
    | .full t' xs => match cast? (t := .slice t') (.slice t) xs with
      | some x => some (x, θ, [])
      | none => none
    | _ => none
  | .nnil i t => match s.env i with
    | .nnil t' xs => match cast? (t := .slice t') (.slice t) xs with
      | some x => some (x, θ, [])
      | none => none
    | _ => none
  | .eptr i t off => match s.env i with
    | .eptr t' x off' => if off = off' then (match cast? (t := t') t x with
      | some x => some (x, θ, [])
      | none => none) else none
    | _ => none
  | .fn i ps b => match s.env i with
    | .fn ps' b' p => if h : ps' = ps ∧ b' = b then some (h.1 ▸ h.2 ▸ p, θ, []) else none
    | _ => none
  | .cells R ls => match θ.get R with
    | some (.ref r) => match s.mem r with
      | some (.cells ms) => pickCells s θ ls ms
      | _ => none
    | _ => none
  | .arr R t => match θ.get R with
    | some (.ref r) => match s.mem r with
      | some (.arr t' xs) => match cast? (t := .slice t') (.slice t) xs with
        | some x => some (x, θ, [])
        | none => none
      | _ => none
    | some .nil => some ([], θ, [])
    | _ => none
  | .app R t => match θ.get R with
    | some (.ref r) => match rowOf (s.mem r) with
      | some ⟨t', xs⟩ => match cast? (t := .slice t') (.slice t) xs with
        | some x => some (x, θ, [])
        | none => none
      | _ => none
    | some .nil => some ([], θ, [])
    | some (.full t' xs) => match cast? (t := .slice t') (.slice t) xs with
      | some x => some (x, θ, [])
      | none => none
    | _ => none
  | .map R kt vt => match θ.get R with
    | some (.ref r) => match s.mem r with
      | some (.map kt' vt' l) => match cast? (t := .slice (.pair kt' vt')) (.slice (.pair kt vt)) l with
        | some x => some (x, θ, [])
        | none => none
      | _ => none
    | _ => none
  | .pm R => match θ.get R with
    | some (.ref r) => match s.mem r with
      | some (.pm l none) => some (l, θ, [])
      | _ => none
    | _ => none
  | .segs R => match θ.get R with
    | some (.ref r) => match s.mem r with
      | some (.segs l none) => some (l, θ, [])
      | _ => none
    | some .dnil => some ([], θ, [])
    | _ => none
def pickAll (s : St) : (θ : Sub) → (ps : List PE) → Option (RD PE.den ps × Sub × List Nat)
  | θ, [] => some ((), θ, [])
  | θ, p :: ps => match pickOne s θ p with
    | none => none
    | some (x, θ, g) => match pickAll s θ ps with
      | none => none
      | some (y, θ, g') => some (RD.mk x y, θ, g ++ g')
def Sub.olds : Sub → List Nat
  | [] => []
  | (_, .ref d) :: r => d :: Sub.olds r
  | _ :: r => Sub.olds r
def lentOk : Sub → Bool
  | [] => true
  | (a, d) :: r => (match d with
    | .ref d => cond (Nat.ble lentBase a || Nat.ble lentBase d) (Nat.beq a d) true
    | _ => !Nat.ble lentBase a) && lentOk r
def patRefs : List PE → List Nat
  | [] => []
  | .cells r _ :: ps => r :: patRefs ps
  | .arr r _ :: ps => r :: patRefs ps
  | .app r _ :: ps => r :: patRefs ps
  | .map r _ _ :: ps => r :: patRefs ps
  | .pm r :: ps => r :: patRefs ps
  | .segs r :: ps => r :: patRefs ps
  | _ :: ps => patRefs ps
def pmRefs : List PE → List Nat
  | [] => []
  | .pm r :: ps => r :: pmRefs ps
  | _ :: ps => pmRefs ps
/-- What was taken out of a map is put back. -/
def sgOf (μ : Nat → Option C) (ls : List L) : Option (SG × List Nat) := (sgRM ls).run μ [] fun p _ => some p
def settle (s : St) (r : Nat) : St := match s.mem r with
  | some (.pm l (some (k, R))) => match s.mem R with
    | some (.cells ls) => match thing s.mem ls with
      | some (x, rs) => cond (nodup (r :: R :: rs) && Nat.blt R lentBase) { s with mem := editMem ((r, some (.pm (mset (kt := .str) k x l) none)) :: (R, none) :: gone rs) s.mem } s
      | none => s
    | _ => s
  | some (.segs l (some (i, R))) => match s.mem R with
    | some (.cells ls) => match sgOf s.mem ls with
      | some (x, rs) => cond (nodup (r :: R :: rs) && Nat.blt R lentBase) { s with mem := editMem ((r, some (.segs (l.set i x) none)) :: (R, none) :: gone rs) s.mem } s
      | none => s
    | _ => s
  | _ => s
def settles (s : St) (rs : List Nat) : St := rs.foldl settle s
def coerce0 (p : Pat) (s : St) : Option (RD PE.den p.dyn) := match bindStats s [] p.stat with
  | none => none
  | some θ => match pickAll s θ p.dyn with
    | none => none
    | some (x, θ, g) => cond (nodup θ.olds && disjoint θ.olds g && (lentOk θ && θ.all fun q => (patRefs p.dyn).contains q.1)) (some x) none
/-- The rows of pointers that a state's places name. -/
def drefs : List L → List Nat
  | [] => []
  | .dref r :: ls => r :: drefs ls
  | _ :: ls => drefs ls
def patDrefs (s : St) : List PE → List Nat
  | [] => []
  | .cells r _ :: ps => (match s.mem r with | some (.cells ls) => drefs ls | _ => []) ++ patDrefs s ps
  | _ :: ps => patDrefs s ps
def coerce (p : Pat) (s : St) : Option (RD PE.den p.dyn) := coerce0 p (settles s (pmRefs p.dyn ++ (drefs (p.stat.map fun q => s.env q.1) ++ patDrefs s p.dyn)))
def cellsOf : (ps : List PLeaf) → RD T.den (dynTs ps) → List L
  | [], _ => []
  | .dyn t :: ps, x => .val t (RD.hd (k := t) x) :: cellsOf ps (RD.tl (k := t) x)
  | .stat l :: ps, x => l :: cellsOf ps x
def dynEnv : (ps : List PE) → RD PE.den ps → (Nat → L) → Nat → L
  | [], _, e => e
  | .val i t :: ps, x, e => dynEnv ps (RD.tl (k := PE.val i t) x) fun n => cond (Nat.beq n i) (.val t (RD.hd (k := PE.val i t) x)) (e n)
  | .agg i t :: ps, x, e => dynEnv ps (RD.tl (k := PE.agg i t) x) fun n => cond (Nat.beq n i) (.agg (t.explode (RD.hd (k := PE.agg i t) x))) (e n)
  | .full i t :: ps, x, e => dynEnv ps (RD.tl (k := PE.full i t) x) fun n => cond (Nat.beq n i) (.full t (RD.hd (k := PE.full i t) x)) (e n)
  | .nnil i t :: ps, x, e => dynEnv ps (RD.tl (k := PE.nnil i t) x) fun n => cond (Nat.beq n i) (.nnil t (RD.hd (k := PE.nnil i t) x)) (e n)
  | .eptr i t off :: ps, x, e => dynEnv ps (RD.tl (k := PE.eptr i t off) x) fun n => cond (Nat.beq n i) (.eptr t (RD.hd (k := PE.eptr i t off) x) off) (e n)
  | .fn i qs b :: ps, x, e => dynEnv ps (RD.tl (k := PE.fn i qs b) x) fun n => cond (Nat.beq n i) (.fn qs b (RD.hd (k := PE.fn i qs b) x)) (e n)
  | .cells r ls :: ps, x, e => dynEnv ps (RD.tl (k := PE.cells r ls) x) e
  | .arr r t :: ps, x, e => dynEnv ps (RD.tl (k := PE.arr r t) x) e
  | .app r t :: ps, x, e => dynEnv ps (RD.tl (k := PE.app r t) x) e
  | .map r kt vt :: ps, x, e => dynEnv ps (RD.tl (k := PE.map r kt vt) x) e
  | .pm r :: ps, x, e => dynEnv ps (RD.tl (k := PE.pm r) x) e
  | .segs r :: ps, x, e => dynEnv ps (RD.tl (k := PE.segs r) x) e
def dynMem : (ps : List PE) → RD PE.den ps → Nat → Option C
  | [], _ => fun _ => none
  | .cells r ls :: ps, x => fun n => cond (Nat.beq n r) (some (.cells (cellsOf ls (RD.hd (k := PE.cells r ls) x)))) (dynMem ps (RD.tl (k := PE.cells r ls) x) n)
  | .arr r t :: ps, x => fun n => cond (Nat.beq n r) (some (.arr t (RD.hd (k := PE.arr r t) x))) (dynMem ps (RD.tl (k := PE.arr r t) x) n)
  | .app r t :: ps, x => fun n => cond (Nat.beq n r) (some (.app t (RD.hd (k := PE.app r t) x))) (dynMem ps (RD.tl (k := PE.app r t) x) n)
  | .map r kt vt :: ps, x => fun n => cond (Nat.beq n r) (some (.map kt vt (RD.hd (k := PE.map r kt vt) x))) (dynMem ps (RD.tl (k := PE.map r kt vt) x) n)
  | .pm r :: ps, x => fun n => cond (Nat.beq n r) (some (.pm (RD.hd (k := PE.pm r) x) none)) (dynMem ps (RD.tl (k := PE.pm r) x) n)
  | .segs r :: ps, x => fun n => cond (Nat.beq n r) (some (.segs (RD.hd (k := PE.segs r) x) none)) (dynMem ps (RD.tl (k := PE.segs r) x) n)
  | .val i t :: ps, x => dynMem ps (RD.tl (k := PE.val i t) x)
  | .agg i t :: ps, x => dynMem ps (RD.tl (k := PE.agg i t) x)
  | .full i t :: ps, x => dynMem ps (RD.tl (k := PE.full i t) x)
  | .nnil i t :: ps, x => dynMem ps (RD.tl (k := PE.nnil i t) x)
  | .eptr i t off :: ps, x => dynMem ps (RD.tl (k := PE.eptr i t off) x)
  | .fn i qs b :: ps, x => dynMem ps (RD.tl (k := PE.fn i qs b) x)
def statEnv : List (Nat × L) → Nat → L
  | [] => fun _ => .unk
  | (i, l) :: r => fun n => cond (Nat.beq n i) l (statEnv r n)
def Pat.state (p : Pat) (x : RD PE.den p.dyn) : St where
  env := dynEnv p.dyn x (statEnv p.stat)
  mem := dynMem p.dyn x
  used := fun r => (patRefs p.dyn).contains r

/-! ### Code -/
inductive AE where
  | normal
  | exit (id : Nat)
  | ret
  deriving DecidableEq
@[reducible] def OD : List (AE × Pat) → Type
  | [] => Empty
  | [o] => RD PE.den o.2.dyn
  | o :: o' :: r => RD PE.den o.2.dyn ⊕ OD (o' :: r)
/-- A part of the code with a function of its own. -/
structure Part where
  head : Pat
  outs : List (AE × Pat)
  F : Nat → RD PE.den head.dyn → Option (OD outs)
def dispatch {R : Type} : (outs : List (AE × Pat)) → OD outs → (AE → St → Option R) → Option R
  | [], _, _ => none
  | [o], x, K => K o.1 (o.2.state x)
  | o :: _ :: _, x, K => Sum.elim (fun a => K o.1 (o.2.state a)) (fun b => dispatch _ b K) x
def leave : (outs : List (AE × Pat)) → AE → St → Option (OD outs)
  | [], _, _ => none
  | [o], e, s => if o.1 = e then coerce o.2 s else none
  | o :: o' :: r, e, s => if o.1 = e then (match coerce o.2 s with | some x => some (.inl x) | none => none)
      else (match leave (o' :: r) e s with | some y => some (.inr y) | none => none)
abbrev Parts := Nat → Option Part
def nodes : Code → Nat
  | .seq a b => 1 + nodes a + nodes b
  | .cond _ x y => 1 + nodes x + nodes y
  | .block _ c => 1 + nodes c
  | .loop c => 1 + nodes c
  | .scope c => 1 + nodes c
  | .rangeFunc _ _ a c => 1 + nodes a + nodes c
  | _ => 1
def thenA {R : Type} (K : AE → St → Option R) (N : St → Option R) : AE → St → Option R := fun e s => match e with
  | .normal => N s
  | e => K e s
def viaPart {R : Type} (u : Part) (k : Nat) (s : St) (K : AE → St → Option R) : Option R := match coerce u.head s with
  | none => none
  | some x => (u.F k x).bind fun o => dispatch u.outs o K
def aexec {R : Type} [Tabs] (tab : Tab) (Γ : Env) (Λ : Parts) (k : Nat) : Nat → Code → St → (AE → St → Option R) → Option R
  | _, .region _ ops draw, s, K => regionA tab Γ k ops draw s (K .normal)
  | n, .seq a b, s, K =>
    let N := fun s => aexec tab Γ Λ k (n + 1 + nodes a) b s K
    match Λ n with
    | none => aexec tab Γ Λ k (n + 1) a s (thenA K N)
    | some u => viaPart u k s (thenA K N)
  | n, .cond c x y, s, K => match ev s c with
    | .val .bool b => cond b (aexec tab Γ Λ k (n + 1) x s K) (aexec tab Γ Λ k (n + 1 + nodes x) y s K)
    | _ => none
  | n, .block id c, s, K => aexec tab Γ Λ k (n + 1) c s fun e s => match e with
    | .exit id' => cond (Nat.beq id' id) (K .normal s) (K (.exit id') s)
    | e => K e s
  | n, .loop _, s, K => match Λ n with
    | none => none
    | some u => viaPart u k s K
  | n, .rangeFunc _ _ _ _, s, K => match Λ n with
    | none => none
    | some u => viaPart u k s K
  | _, .exit id, s, K => K (.exit id) s
  | _, .ret, s, K => K .ret s
  | _, .skip, s, K => K .normal s
  | _, .label _, s, K => K .normal s
  | _, _, _, _ => none
/-! ### A list from its end to its beginning -/
def backN {X α : Type} (f : Nat → α → X → Option X) (xs : List α) : Nat → X → Option X
  | 0, x => some x
  | i + 1, x => xs[i]?.bind fun e => (f i e x).bind fun y => backN f xs i y
/-- The names that a pattern's state has. -/
def dynTemps : List PE → List Nat
  | [] => []
  | .val i _ :: ps => i :: dynTemps ps
  | .agg i _ :: ps => i :: dynTemps ps
  | .full i _ :: ps => i :: dynTemps ps
  | .nnil i _ :: ps => i :: dynTemps ps
  | .eptr i _ _ :: ps => i :: dynTemps ps
  | .fn i _ _ :: ps => i :: dynTemps ps
  | _ :: ps => dynTemps ps
def patTemps (p : Pat) : List Nat := dynTemps p.dyn ++ p.stat.map (·.1)
def elemSt (s : St) (p0 p1 i : Nat) (t : T) (e : t.den) : St := put (put s (some p0) (.val (.int .i64) (i : Int))) (some p1) (.agg (t.explode e))
/-- One round over a list from its end. -/
def roundA [Tabs] (tab : Tab) (Γ : Env) (Λ : Parts) (k n : Nat) (assign body : Code) (p : Pat) (p0 p1 : Nat) (t : T) (i : Nat) (e : t.den) (x : RD PE.den p.dyn) : Option (RD PE.den p.dyn) :=
  aexec tab Γ Λ k (n + 1) assign (elemSt (p.state x) p0 p1 i t e) (thenA (fun _ _ => none) fun s => aexec tab Γ Λ k (n + 1 + nodes assign) body s fun e s => match e with
    | .normal => coerce p s
    | _ => none)
def rangeFine (p : Pat) (p0 p1 : Nat) (assign body : Code) : Bool :=
  !Nat.beq p0 p1 && (plainC assign && (plainC body && (patTemps p).all fun t => !(p0 :: p1 :: (dstsC assign ++ dstsC body)).contains t))
/-- A range over a list from its end, as a part. -/
def RangeOk [Tabs] (tab : Tab) (Γ : Env) (Λ : Parts) (n : Nat) (x : Operand) (ps : Array Tmp) (assign body : Code) (u : Part) : Prop :=
  ∃ (p : Pat) (t : T) (g gt p0 p1 : Nat) (get : RD PE.den p.dyn → List t.den) (B : Nat → Nat → t.den → RD PE.den p.dyn → Option (RD PE.den p.dyn)) (sp : FSpec),
    u = ⟨p, [(.normal, p)], fun k x => cond (Nat.ble (get x).length 4611686018427387904) (backN (B k) (get x) (get x).length x) none⟩ ∧ x = .tmp gt ∧ ps = #[p0, p1] ∧ t.leaf = false ∧ sp ∈ Γ g ∧ sp.ps = [.iter t] ∧
    (∀ x, (p.state x).env gt = .val (.box g (.slice t)) (get x)) ∧ (∀ k i e x, B k i e x = roundA tab Γ Λ k n assign body p p0 p1 t i e x) ∧ rangeFine p p0 p1 assign body = true
/-- The parts' functions are what their code does. -/
def PartOk [Tabs] (tab : Tab) (Γ : Env) (Λ : Parts) (n : Nat) (c : Code) (u : Part) : Prop :=
  match c with
  | .seq a _ => ∀ k x, u.F k x = aexec tab Γ Λ k (n + 1) a (u.head.state x) fun e s => leave u.outs e s
  | .loop c => (∀ x, u.F 0 x = none) ∧ ∀ k x, u.F (k + 1) x = aexec tab Γ Λ k (n + 1) c (u.head.state x) fun e s => match e with
      | .normal => (match coerce u.head s with | none => none | some y => u.F k y)
      | e => leave u.outs e s
  | _ => False
/-- All parts of a code. -/
def PartsOk [Tabs] (tab : Tab) (Γ : Env) (Λ : Parts) : Nat → Code → Prop
  | n, .seq a b => (match Λ n with | none => True | some u => PartOk tab Γ Λ n (.seq a b) u) ∧ PartsOk tab Γ Λ (n + 1) a ∧ PartsOk tab Γ Λ (n + 1 + nodes a) b
  | n, .cond _ x y => PartsOk tab Γ Λ (n + 1) x ∧ PartsOk tab Γ Λ (n + 1 + nodes x) y
  | n, .block _ c => PartsOk tab Γ Λ (n + 1) c
  | n, .loop c => (match Λ n with | none => True | some u => PartOk tab Γ Λ n (.loop c) u) ∧ PartsOk tab Γ Λ (n + 1) c
  | n, .rangeFunc x ps a c => (match Λ n with | none => True | some u => RangeOk tab Γ Λ n x ps a c u) ∧ (PartsOk tab Γ Λ (n + 1) a ∧ PartsOk tab Γ Λ (n + 1 + nodes a) c)
  | _, _ => True

/-! ### Functions -/
/-- A thing of one's own, as a function has it at its beginning: its cells, and what stands behind them. -/
def ownId (j i : Nat) : Nat := lentBase - 1 - (1000 * (i + 1) + j)
def fldLs (j : Nat) : (fs : List FK) → Nat → RD FK.den fs → List L
  | [], _, _ => []
  | .imm t :: fs, i, x => .val t (RD.hd (k := FK.imm t) x) :: fldLs j fs (i + 1) (RD.tl (k := FK.imm t) x)
  | .row t :: fs, i, x => .sref (ownId j i) :: fldLs j fs (i + 1) (RD.tl (k := FK.row t) x)
  | .segs :: fs, i, x => .dref (ownId j i) :: fldLs j fs (i + 1) (RD.tl (k := FK.segs) x)
  | .dsk :: fs, i, x => .ptr (2 * lentBase + j) 0 :: fldLs j fs (i + 1) (RD.tl (k := FK.dsk) x)
  | .als :: fs, i, x => .unk :: fldLs j fs (i + 1) (RD.tl (k := FK.als) x)
def fldMem (j : Nat) : (fs : List FK) → Nat → RD FK.den fs → List (Nat × C)
  | [], _, _ => []
  | .imm t :: fs, i, x => fldMem j fs (i + 1) (RD.tl (k := FK.imm t) x)
  | .row t :: fs, i, x => (ownId j i, .arr t (RD.hd (k := FK.row t) x)) :: fldMem j fs (i + 1) (RD.tl (k := FK.row t) x)
  | .segs :: fs, i, x => (ownId j i, .segs (RD.hd (k := FK.segs) x) none) :: fldMem j fs (i + 1) (RD.tl (k := FK.segs) x)
  | .dsk :: fs, i, x => (2 * lentBase + j, .cells [.mref (lentBase + j)]) :: (lentBase + j, .pm (RD.hd (k := FK.dsk) x) none) :: fldMem j fs (i + 1) (RD.tl (k := FK.dsk) x)
  | .als :: fs, i, x => fldMem j fs (i + 1) (RD.tl (k := FK.als) x)
def fldRefs (j : Nat) : List FK → List Nat
  | [] => []
  | .dsk :: fs => (2 * lentBase + j) :: (lentBase + j) :: fldRefs j fs
  | _ :: fs => fldRefs j fs
def paramLs : (ps : List PK) → (j : Nat) → RD PK.den ps → List L
  | [], _, _ => []
  | .imm t :: ps, j, x => .val t (RD.hd (k := PK.imm t) x) :: paramLs ps (j + 1) (RD.tl (k := PK.imm t) x)
  | .agg t :: ps, j, x => .agg (t.explode (RD.hd (k := PK.agg t) x)) :: paramLs ps (j + 1) (RD.tl (k := PK.agg t) x)
  | .lent t :: ps, j, x => .ptr (lentBase + j) 0 :: paramLs ps (j + 1) (RD.tl (k := PK.lent t) x)
  | .lentp t :: ps, j, x => .ptr (2 * lentBase + j) 0 :: paramLs ps (j + 1) (RD.tl (k := PK.lentp t) x)
  | .ro t :: ps, j, x => .eptr t (RD.hd (k := PK.ro t) x) 0 :: paramLs ps (j + 1) (RD.tl (k := PK.ro t) x)
  | .own t :: ps, j, x => .sref (lentBase - 1 - j) :: paramLs ps (j + 1) (RD.tl (k := PK.own t) x)
  | .fn qs b :: ps, j, x => .fn qs b (RD.hd (k := PK.fn qs b) x) :: paramLs ps (j + 1) (RD.tl (k := PK.fn qs b) x)
  | .rof qs b :: ps, j, x => .fptr qs b (RD.hd (k := PK.rof qs b) x) :: paramLs ps (j + 1) (RD.tl (k := PK.rof qs b) x)
  | .nilp :: ps, j, x => .nilp :: paramLs ps (j + 1) (RD.tl (k := PK.nilp) x)
  | .nils :: ps, j, x => .nils :: paramLs ps (j + 1) (RD.tl (k := PK.nils) x)
  | .nnil t :: ps, j, x => .nnil t (RD.hd (k := PK.nnil t) x) :: paramLs ps (j + 1) (RD.tl (k := PK.nnil t) x)
  | .blk t :: ps, j, x => .vw (lentBase - 1 - j) t.cnt 0 (RD.hd (k := PK.blk t) x).1.length :: paramLs ps (j + 1) (RD.tl (k := PK.blk t) x)
  | .view :: ps, j, x => .unk :: paramLs ps (j + 1) (RD.tl (k := PK.view) x)
  | .lrow t :: ps, j, x => .unk :: paramLs ps (j + 1) (RD.tl (k := PK.lrow t) x)
  | .ext t :: ps, j, x => .unk :: paramLs ps (j + 1) (RD.tl (k := PK.ext t) x)
  | .disk :: ps, j, x => .ptr (2 * lentBase + j) 0 :: paramLs ps (j + 1) (RD.tl (k := PK.disk) x)
  | .zd :: ps, j, x => .zd :: paramLs ps (j + 1) (RD.tl (k := PK.zd) x)
  | .mapk g :: ps, j, x => .unk :: paramLs ps (j + 1) (RD.tl (k := PK.mapk g) x)
  | .seqk g :: ps, j, x => .unk :: paramLs ps (j + 1) (RD.tl (k := PK.seqk g) x)
  | .lento fs :: ps, j, x => .ptr (3 * lentBase + j) 0 :: paramLs ps (j + 1) (RD.tl (k := PK.lento fs) x)
  | .wend :: ps, j, x => .unk :: paramLs ps (j + 1) (RD.tl (k := PK.wend) x)
  | .iter t :: ps, j, x => .unk :: paramLs ps (j + 1) (RD.tl (k := PK.iter t) x)
def paramMem : (ps : List PK) → (j : Nat) → RD PK.den ps → List (Nat × C)
  | [], _, _ => []
  | .lent t :: ps, j, x => (lentBase + j, .cells (t.explode (RD.hd (k := PK.lent t) x))) :: paramMem ps (j + 1) (RD.tl (k := PK.lent t) x)
  | .lentp t :: ps, j, x => (2 * lentBase + j, .cells [.ptr (lentBase + j) 0]) :: (lentBase + j, .cells (t.explode (RD.hd (k := PK.lentp t) x))) :: paramMem ps (j + 1) (RD.tl (k := PK.lentp t) x)
  | .own t :: ps, j, x => (lentBase - 1 - j, .arr t (RD.hd (k := PK.own t) x)) :: paramMem ps (j + 1) (RD.tl (k := PK.own t) x)
  | .imm t :: ps, j, x => paramMem ps (j + 1) (RD.tl (k := PK.imm t) x)
  | .agg t :: ps, j, x => paramMem ps (j + 1) (RD.tl (k := PK.agg t) x)
  | .ro t :: ps, j, x => paramMem ps (j + 1) (RD.tl (k := PK.ro t) x)
  | .fn qs b :: ps, j, x => paramMem ps (j + 1) (RD.tl (k := PK.fn qs b) x)
  | .rof qs b :: ps, j, x => paramMem ps (j + 1) (RD.tl (k := PK.rof qs b) x)
  | .nilp :: ps, j, x => paramMem ps (j + 1) (RD.tl (k := PK.nilp) x)
  | .nils :: ps, j, x => paramMem ps (j + 1) (RD.tl (k := PK.nils) x)
  | .nnil t :: ps, j, x => paramMem ps (j + 1) (RD.tl (k := PK.nnil t) x)
  | .blk t :: ps, j, x => (lentBase - 1 - j, .blk t (RD.hd (k := PK.blk t) x).1 (RD.hd (k := PK.blk t) x).2) :: paramMem ps (j + 1) (RD.tl (k := PK.blk t) x)
  | .view :: ps, j, x => paramMem ps (j + 1) (RD.tl (k := PK.view) x)
  | .lrow t :: ps, j, x => paramMem ps (j + 1) (RD.tl (k := PK.lrow t) x)
  | .ext t :: ps, j, x => paramMem ps (j + 1) (RD.tl (k := PK.ext t) x)
  | .disk :: ps, j, x => (2 * lentBase + j, .cells [.mref (lentBase + j)]) :: (lentBase + j, .pm (RD.hd (k := PK.disk) x) none) :: paramMem ps (j + 1) (RD.tl (k := PK.disk) x)
  | .zd :: ps, j, x => paramMem ps (j + 1) (RD.tl (k := PK.zd) x)
  | .mapk g :: ps, j, x => paramMem ps (j + 1) (RD.tl (k := PK.mapk g) x)
  | .seqk g :: ps, j, x => paramMem ps (j + 1) (RD.tl (k := PK.seqk g) x)
  | .lento fs :: ps, j, x => (3 * lentBase + j, .cells (fldLs j fs 0 (RD.hd (k := PK.lento fs) x))) :: (fldMem j fs 0 (RD.hd (k := PK.lento fs) x) ++ paramMem ps (j + 1) (RD.tl (k := PK.lento fs) x))
  | .wend :: ps, j, x => paramMem ps (j + 1) (RD.tl (k := PK.wend) x)
  | .iter t :: ps, j, x => paramMem ps (j + 1) (RD.tl (k := PK.iter t) x)
def envOf : List L → Nat → L
  | [], _ => .unk
  | l :: _, 0 => l
  | _ :: ls, n + 1 => envOf ls n
def memOf : List (Nat × C) → Nat → Option C
  | [], _ => none
  | (r, c) :: l, n => cond (Nat.beq n r) (some c) (memOf l n)
def startSt (ps : List PK) (x : RD PK.den ps) : St where
  env := envOf (paramLs ps 0 x)
  mem := memOf (paramMem ps 0 x)
  used := fun r => ((paramMem ps 0 x).map (·.1)).contains r
def lentRefs : List PK → Nat → List Nat
  | [], _ => []
  | .lent _ :: ps, j => (lentBase + j) :: lentRefs ps (j + 1)
  | .lentp _ :: ps, j => (2 * lentBase + j) :: (lentBase + j) :: lentRefs ps (j + 1)
  | .disk :: ps, j => (2 * lentBase + j) :: (lentBase + j) :: lentRefs ps (j + 1)
  | .lento fs :: ps, j => (3 * lentBase + j) :: (fldRefs j fs ++ lentRefs ps (j + 1))
  | _ :: ps, j => lentRefs ps (j + 1)
def diskRefs : List PK → Nat → List Nat
  | [], _ => []
  | .disk :: ps, j => (lentBase + j) :: diskRefs ps (j + 1)
  | _ :: ps, j => diskRefs ps (j + 1)
/-- The rows of pointers that a function's end leads to. -/
def lentoDrefs (s : St) : List PK → Nat → List Nat
  | [], _ => []
  | .lento _ :: ps, j => (match s.mem (3 * lentBase + j) with | some (.cells ls) => drefs ls | _ => []) ++ lentoDrefs s ps (j + 1)
  | _ :: ps, j => lentoDrefs s ps (j + 1)
def resDrefs (s : St) : List ResultVar → List Nat
  | [] => []
  | .tmp t :: vs => (match s.env t with
    | .dref r => [r]
    | .ptr q 0 => (match s.mem q with | some (.cells ls) => drefs ls | _ => [])
    | _ => []) ++ resDrefs s vs
  | _ :: vs => resDrefs s vs
def resultL (tab : Tab) (s : St) : ResultVar → Option L
  | .tmp t => some (s.env t)
  | .cell a t => match tab.get t, s.env a with
    | some i, .ptr r off => match s.mem r with
      | some (.cells ls) => cond i.isAgg
          (cond (Nat.ble (off + i.size) ls.length) (some (.agg ((ls.drop off).take i.size))) none)
          ls[off]?
      | _ => none
    | _, _ => none
def resultLs (tab : Tab) (s : St) : List ResultVar → Option (List L)
  | [] => some []
  | v :: vs => match resultL tab s v with
    | none => none
    | some l => match resultLs tab s vs with
      | none => none
      | some ls => some (l :: ls)
/-- A result in its form; which blocks are given away, which are handed on. -/
def outOne (s : St) : (r : RK) → L → Option (r.den × List Nat)
  | .imm t, l => pickVal s t l
  | .agg t, .agg ls => match pickLeaves s ls with
    | some (ls, g) => match t.implode ls with
      | some x => some (x, g)
      | none => none
    | none => none
  | .own t, .sref r => match s.mem r with
    | some (.arr t' xs) => match cast? (t := .slice t') (.slice t) xs with
      | some x => some (x, [r])
      | none => none
    | _ => none
  | .own _, .nils => some ([], [])
  | .own t, .vw r _ 0 n => match s.mem r with
    | some (.blk t' xs _) => match cast? (t := .slice t') (.slice t) xs with
      | some x => some (x.take n, [r])
      | none => none
    | _ => none
  | .full t, .full t' xs => match cast? (t := .slice t') (.slice t) xs with
    | some x => some (x, [])
    | none => none
  | .fresh t, .ptr r 0 => match s.mem r with
    | some (.cells ls) => match pickLeaves s ls with
      | some (ls, g) => match t.implode ls with
        | some x => cond (Nat.ble lentBase r) none (some (x, r :: g))
        | none => none
      | none => none
    | _ => none
  | .ofresh _, .nilp => some (none, [])
  | .ofresh t, .ptr r 0 => match s.mem r with
    | some (.cells ls) => match pickLeaves s ls with
      | some (ls, g) => match t.implode ls with
        | some x => cond (Nat.ble lentBase r) none (some (some x, r :: g))
        | none => none
      | none => none
    | _ => none
  | .nsl _, .nils => some (none, [])
  | .nsl t, .nnil t' xs => match cast? (t := .slice t') (.slice t) xs with
    | some x => some (some x, [])
    | none => none
  | .nilp, .nilp => some ((), [])
  | .nils, .nils => some ((), [])
  | .nili, .nili => some ((), [])
  | .freshd, .ptr r 0 => match s.mem r with
    | some (.cells [.mref r']) => match s.mem r' with
      | some (.pm l none) => cond (Nat.ble lentBase r || Nat.ble lentBase r') none (some (l, [r, r']))
      | _ => none
    | _ => none
  | .ofreshd, .nilp => some (none, [])
  | .ofreshd, .ptr r 0 => match s.mem r with
    | some (.cells [.mref r']) => match s.mem r' with
      | some (.pm l none) => cond (Nat.ble lentBase r || Nat.ble lentBase r') none (some (some l, [r, r']))
      | _ => none
    | _ => none
  | .owns, .dref r => match s.mem r with
    | some (.segs l none) => some (l, [r])
    | _ => none
  | .owns, .nils => some ([], [])
  | _, _ => none
/-- What the cells of a thing of one's own are given back as; which names that takes; what is left of the names that were lent. -/
def outF (s : St) : (fs : List FK) → List L → List Nat → Option (RD FK.den fs × List Nat × List Nat)
  | [], [], lent => some ((), [], lent)
  | .imm t :: fs, l :: ls, lent => match pickVal s t l with
    | some (x, g) => match outF s fs ls lent with
      | some (y, g', lent) => cond t.leaf (some (RD.mk (k := FK.imm t) x y, g ++ g', lent)) none
      | none => none
    | none => none
  | .row t :: fs, .sref r :: ls, lent => match s.mem r with
    | some (.arr t' xs) => match cast? (t := .slice t') (.slice t) xs with
      | some x => match outF s fs ls lent with
        | some (y, g, lent) => some (RD.mk (k := FK.row t) x y, r :: g, lent)
        | none => none
      | none => none
    | _ => none
  | .row t :: fs, .nils :: ls, lent => match outF s fs ls lent with
    | some (y, g, lent) => some (RD.mk (k := FK.row t) [] y, g, lent)
    | none => none
  | .segs :: fs, .dref r :: ls, lent => match s.mem r with
    | some (.segs l none) => match outF s fs ls lent with
      | some (y, g, lent) => some (RD.mk (k := FK.segs) l y, r :: g, lent)
      | none => none
    | _ => none
  | .segs :: fs, .nils :: ls, lent => match outF s fs ls lent with
    | some (y, g, lent) => some (RD.mk (k := FK.segs) [] y, g, lent)
    | none => none
  | .dsk :: fs, .ptr r 0 :: ls, r0 :: r1 :: lent => match s.mem r0 with
    | some (.cells [.mref r']) => match s.mem r1 with
      | some (.pm l none) => match outF s fs ls lent with
        | some (y, g, lent) => cond (Nat.beq r r0 && Nat.beq r' r1) (some (RD.mk (k := FK.dsk) l y, r0 :: r1 :: g, lent)) none
        | none => none
      | _ => none
    | _ => none
  | .als :: fs, .ptr r 0 :: ls, r0 :: lent => match outF s fs ls (r0 :: lent) with
    | some (y, g, lent) => cond (Nat.beq r r0) (some (RD.mk (k := FK.als) () y, g, lent)) none
    | none => none
  | _, _, _ => none
/-- Are a view's elements known? -/
def outFit (s : St) : L → Bool
  | .vw r _ _ n => match s.mem r with
    | some (.blk _ xs _) => Nat.ble n xs.length
    | _ => true
  | _ => true
def outAll (s : St) : (rs : List RK) → List L → List Nat → Option (RD RK.den rs × List Nat)
  | [], [], [] => some ((), [])
  | .back t :: rs, ls, r :: lent => match s.mem r with
    | some (.cells ms) => match pickLeaves s ms with
      | some (ms, g) => match t.implode ms with
        | some x => match outAll s rs ls lent with
          | some (y, g') => some (RD.mk (k := RK.back t) x y, r :: (g ++ g'))
          | none => none
        | none => none
      | none => none
    | _ => none
  | .backp t :: rs, ls, r0 :: r :: lent => match s.mem r0 with
    | some (.cells [.ptr r' 0]) => cond (Nat.beq r' r) (match s.mem r with
      | some (.cells ms) => match pickLeaves s ms with
        | some (ms, g) => match t.implode ms with
          | some x => match outAll s rs ls lent with
            | some (y, g') => some (RD.mk (k := RK.backp t) x y, r0 :: r :: (g ++ g'))
            | none => none
          | none => none
        | none => none
      | _ => none) none
    | _ => none
  | .backd :: rs, ls, r0 :: r :: lent => match s.mem r0 with
    | some (.cells [.mref r']) => cond (Nat.beq r' r) (match s.mem r with
      | some (.pm l none) => match outAll s rs ls lent with
        | some (y, g') => some (RD.mk (k := RK.backd) l y, r0 :: r :: g')
        | none => none
      | _ => none) none
    | _ => none
  | .find :: rs, l :: ls, r0 :: r :: lent => match s.mem r0 with
    | some (.cells [.mref r']) => cond (Nat.beq r' r) (match s.mem r with
      | some (.pm f none) => match l with
        | .nilp => match outAll s rs ls lent with
          | some (y, g') => some (RD.mk (k := RK.find) (f, none) y, r0 :: r :: g')
          | none => none
        | _ => none
      | some (.pm f (some (k, R))) => match l with
        | .ptr R' 0 => match s.mem R with
          | some (.cells ls0) => match thing s.mem ls0 with
            | some (x, rs0) => cond (Nat.beq R R') (match outAll s rs ls lent with
              | some (y, g') => some (RD.mk (k := RK.find) (mset (kt := .str) k x f, some k) y, r0 :: r :: R :: (rs0 ++ g'))
              | none => none) none
            | none => none
          | _ => none
        | _ => none
      | _ => none) none
    | _ => none
  | .backo fs :: rs, ls, q :: lent => match s.mem q with
    | some (.cells ms) => match outF s fs ms lent with
      | some (x, g, lent) => match outAll s rs ls lent with
        | some (y, g') => cond (fs.any FK.isAls) none (some (RD.mk (k := RK.backo fs) x y, q :: (g ++ g')))
        | none => none
      | none => none
    | _ => none
  | .ofresho fs :: rs, l :: ls, lent => match l with
    | .nilp => match outAll s rs ls lent with
      | some (y, g') => some (RD.mk (k := RK.ofresho fs) none y, g')
      | none => none
    | .ptr q 0 => match s.mem q with
      | some (.cells ms) => match outF s fs ms lent with
        | some (x, g, _) => match outAll s rs ls lent with
          | some (y, g') => cond (Nat.ble lentBase q || fs.any FK.isDsk) none (some (RD.mk (k := RK.ofresho fs) (some x) y, q :: (g ++ g')))
          | none => none
        | none => none
      | _ => none
    | _ => none
  | r :: rs, l :: ls, lent => match outOne s r l with
    | some (x, g) => match outAll s rs ls lent with
      | some (y, g') => some (RD.mk x y, g ++ g')
      | none => none
    | none => none
  | _, _, _ => none
def RK.isFind : RK → Bool
  | .find => true
  | _ => false
def finish0 (tab : Tab) (fn : Func) (sp : FSpec) : AE → St → Option (RD RK.den sp.rs) := fun e s => match e with
  | .exit _ => none
  | _ => match resultLs tab s fn.results.toList with
    | none => none
    | some ls => cond (ls.all (outFit s)) (match outAll s sp.rs ls (lentRefs sp.ps 0) with
      | none => none
      | some (y, g) => cond (nodup g) (some y) none) none
def finish (tab : Tab) (fn : Func) (sp : FSpec) : AE → St → Option (RD RK.den sp.rs) := fun e s => finish0 tab fn sp e (cond (sp.rs.any RK.isFind) s (settles s (diskRefs sp.ps 0 ++ (lentoDrefs s sp.ps 0 ++ resDrefs s fn.results.toList))))
def FuncOk [Tabs] (tab : Tab) (Γ : Env) (Λ : Parts) (fn : Func) (c : Code) (sp : FSpec) : Prop :=
  ∀ k x, sp.F k x = aexec tab Γ Λ k 0 c (startSt sp.ps x) (finish tab fn sp)
end Go.GG
