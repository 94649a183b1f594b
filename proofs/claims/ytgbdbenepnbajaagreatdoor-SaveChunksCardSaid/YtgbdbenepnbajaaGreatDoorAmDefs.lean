/- An interpreter over abstract values (read-only slices by value, own memory by name), for the functions of this seat; it is proved sound in AmSound. -/
import Derived.Below
import Derived.Orders
import Derived.Laws.Sem
namespace Go.Proofs.YtgbdbenepnbajaaGreatDoor.AM
open Go
set_option linter.unusedVariables false

inductive Ex where
  | normal
  | exit (id : Nat)
  | ret
  /-- A panic with a whole number of this type. -/
  | pan (t : Nat) (k : IntKind) (n : Int)
  deriving DecidableEq

inductive AV where
  | val (v : Value)
  | ro (n : Bool) (es : List (List AV))
  | emp
  | rptr (cs : List AV)
  | sl (l sz off len : Nat)
  | arr (l sz len : Nat)
  | ptr (l i f : Nat)
  | fn (f : Nat) (caps : List AV)
  /-- A method's value: the receiver is bound. -/
  | fm (f : Nat) (b : AV) (caps : List AV)
  | yld (l : Nat)
  | lp (st : Nat) (j : Ex) (m : Nat) (t : Nat → AV) (ps : List Nat) (a b : Code)
  | agg (cs : List AV)
  | tup (vs : List AV)
  | mp (l : Nat)
  | mpr (es : List (List AV))
  | ifc
  | pan (t : Nat) (k : IntKind) (n : Int)
  | bad
  deriving Inhabited

def Ex.isPan : Ex → Bool
  | .pan .. => true
  | _ => false

structure Blk where
  sz : Nat
  es : List (List AV)
  /-- What the block's cells are laid as, where that is known. -/
  ty : Option Nat

abbrev Heap := Nat → Option Blk
def Heap.put (h : Heap) (l : Nat) (b : Option Blk) : Heap := fun k => if k = l then b else h k
/-- The names from c to c1 alone. -/
def Heap.cut (h : Heap) (c c1 : Nat) : Heap := fun l => if c ≤ l ∧ l < c1 then h l else Option.none
/-- The first where it tells something, else the second. -/
def Heap.over (h k : Heap) : Heap := fun l => (h l).or (k l)
def Heap.none : Heap := fun _ => Option.none

def AV.isBad : AV → Bool
  | .bad => true
  | _ => false

/-- What a call that panics answers. -/
def AV.isPan : AV → Bool
  | .pan .. => true
  | _ => false

def AV.cells : AV → List AV
  | .agg cs => cs
  | v => [v]

def lit : Value → AV
  | .slice none 0 0 => .ro true []
  | .bool b => .val (.bool b)
  | .int k n => .val (.int k n)
  | .string s => .val (.string s)
  | .nilFunc => .val .nilFunc
  | .nilIface => .val .nilIface
  | .pointer none => .val (.pointer none)
  | _ => .bad

/-! ### types -/
def szT (P : Program) (t : TypeId) : Option Nat := (P.info? t).map (·.size)
def byT (P : Program) (t : TypeId) : Option Nat := (P.info? t).map (·.bytes)
def aggT (P : Program) (t : TypeId) : Option Bool := (P.underlying t).map fun | .struct _ => true | .array _ _ => true | _ => false
def slT (P : Program) (t : TypeId) : Option TypeId := (P.underlying t).bind fun | .slice e => some e | _ => none
def arT (P : Program) (t : TypeId) : Option (Nat × TypeId) := (P.underlying t).bind fun | .array n e => some (n, e) | _ => none
def fdT (P : Program) (t : TypeId) (i : Nat) : Option (Nat × TypeId) := (P.underlying t).bind fun | .struct fs => (fs[i]?).map fun f => (f.offset, f.type) | _ => none
/-- What a pointer type points to, if that type is known. -/
def ptT (P : Program) (t : TypeId) : Option TypeId := (P.underlying t).bind fun | .pointer e => if (P.info? e).isSome then some e else none | _ => none
def usT (P : Program) (t : TypeId) : Bool := (P.underlying t) matches some .unsafePointer
def stT (P : Program) (t : TypeId) : Bool := (P.underlying t) matches some .string
def boT (P : Program) (t : TypeId) : Bool := (P.underlying t) matches some .bool
/-- The sizes of all fields are known. -/
def blT (P : Program) (t : TypeId) : Bool := match P.underlying t with
  | some (.struct fs) => (fs.toList.mapM (fun f => (P.info? f.type).map fun i => (f.offset, i.size))).isSome
  | some (.array _ e) => (P.info? e).isSome
  | _ => false
def zeT (P : Program) (t : TypeId) : Option (List AV) := ((P.info? t).bind (·.zero)).bind fun v => if v.cells.toList.all Value.oneCell' then some (v.cells.toList.map lit) else none
/-- The zero of a type of whole numbers. -/
def ziT (P : Program) (t : TypeId) : Option AV := match (P.info? t).bind (·.zero) with
  | some (.int k n) => some (.val (.int k n))
  | _ => none
/-- All fields are integers, a cell each. -/
def inT (P : Program) (t : TypeId) : Bool := match P.underlying t with
  | some (.struct fs) => !P.eqGuardType P.depth t && !P.stoodInHeld t && ((P.info? t).map (·.size) == some fs.size) && fs.toList.zipIdx.all fun (f, i) => f.name != "_" && f.offset == i && ((P.info? f.type).map (·.size) == some 1) && (match P.underlying f.type with | some (.int _) => true | _ => false)
  | _ => false

/-- What a map holds for its keys, if they are strings. -/
def mpT (P : Program) (t : TypeId) : Option TypeId := (P.underlying t).bind fun | .map k e => (if stT P k then some e else none) | _ => none
/-- A type of interfaces. -/
def ifT (P : Program) (t : TypeId) : Bool := (P.underlying t) matches some (.interface _)
/-- A type that is no interface. -/
def coT (P : Program) (t : TypeId) : Bool := match P.underlying t with
  | some (.interface _) => false
  | some _ => true
  | none => false

/-- What may lie in a cell. -/
def okc : AV → Bool
  | .bad | .agg _ | .tup _ | .lp .. | .mpr _ | .pan .. => false
  | _ => true

/-- The first of some rows has this length. -/
def hd (xs : List (List AV)) (sz : Nat) : Bool := match xs with | [] => true | x :: _ => x.length == sz

def mk (a : Bool) (cs : List AV) : AV := bif a then .agg cs else match cs with | [v] => v | _ => .bad

/-! ### memory -/
def ld (h : Heap) (n : Nat) : AV → Option (List AV)
  | .ptr l i f => (h l).bind fun b => (b.es[i]?).bind fun e => if f + n ≤ e.length then some ((e.drop f).take n) else none
  | .rptr cs => if n ≤ cs.length then some (cs.take n) else none
  | _ => none

def setCells {α : Type} : List α → Nat → List α → List α
  | e, _, [] => e
  | e, f, c :: cs => setCells (e.set f c) (f + 1) cs

def stA (h : Heap) (cs : List AV) : AV → Option Heap
  | .ptr l i f => (h l).bind fun b => (b.es[i]?).bind fun e => if f + cs.length ≤ e.length then some (h.put l (some { b with es := b.es.set i (setCells e f cs) })) else none
  | _ => none

/-- The elements that a slice leads to. -/
def els (h : Heap) : AV → Option (List (List AV))
  | .ro _ es => some es
  | .emp => some []
  | .sl l _ off len => (h l).bind fun b => if off + len ≤ b.es.length then some ((b.es.drop off).take len) else none
  | _ => none

def lenA : AV → Option Nat
  | .ro _ es => some es.length
  | .emp => some 0
  | .sl _ _ _ len => some len
  | _ => none

/-- No memory of the call's own is led to. -/
def lf : AV → Bool
  | .val _ | .ro .. | .emp | .rptr _ | .ifc => true
  | .agg cs => lfs cs
  | .tup cs => lfs cs
  | _ => false
where lfs : List AV → Bool
  | [] => true
  | c :: cs => lf c && lfs cs

/-- No slice, no pointer. -/
def flat : AV → Bool
  | .val _ => true
  | .ifc => true
  | .agg cs => flats cs
  | .tup cs => flats cs
  | _ => false
where flats : List AV → Bool
  | [] => true
  | c :: cs => flat c && flats cs

/-- What is led to, as a value. -/
def frz (h : Heap) : Nat → AV → Option AV
  | 0, _ => none
  | n + 1, v =>
    match v with
    | .val x => some (.val x)
    | .ifc => some .ifc
    | .ro b es => some (.ro b es)
    | .emp => some (.ro false [])
    | .fn f [] => some (.fn f [])
    | .sl l sz off len => (els h (.sl l sz off len)).bind fun es => (es.mapM fun (e : List AV) => e.mapM (frz h n)).map (.ro false)
    | .agg cs => (cs.mapM (frz h n)).map .agg
    | .tup cs => (cs.mapM (frz h n)).map .tup
    | _ => none

/-- All that is led to is the call's own. -/
def okO (h : Heap) : Nat → AV → Bool
  | 0, _ => false
  | n + 1, v =>
    match v with
    | .val _ => true
    | .ifc => true
    | .ro _ es => es.isEmpty
    | .emp => true
    | .sl l sz off len => (match els h (.sl l sz off len) with | some es => es.all fun (e : List AV) => e.all (okO h n) | none => false)
    | .agg cs => cs.all (okO h n)
    | .tup cs => cs.all (okO h n)
    | _ => false

/-! ### operations -/
def intV (k : IntKind) (n : Int) : AV := .val (.int k n)
def boolV (b : Bool) : AV := .val (.bool b)

def asI : AV → Option Int
  | .val (.int _ n) => some n
  | _ => none

/-! bits -/
def andI (k : IntKind) (a b : Int) : Int := k.wrap (BitVec.ofInt k.bits a &&& BitVec.ofInt k.bits b).toNat
def orI (k : IntKind) (a b : Int) : Int := k.wrap (BitVec.ofInt k.bits a ||| BitVec.ofInt k.bits b).toNat
def xorI (k : IntKind) (a b : Int) : Int := k.wrap (BitVec.ofInt k.bits a ^^^ BitVec.ofInt k.bits b).toNat
def notI (k : IntKind) (n : Int) : Int := k.wrap (BitVec.ofInt k.bits (if k.signed then -1 else k.max) ^^^ BitVec.ofInt k.bits n).toNat
def shlI (k : IntKind) (a b : Int) : Int := k.wrap (a * 2 ^ (min b.toNat k.bits))
def shrI (k : IntKind) (a b : Int) : Int := a.fdiv (2 ^ (min b.toNat k.bits))
/-- A shift; the count's kind is any. -/
def shA (op : BinOp) (k : IntKind) (a b : Int) : Option AV :=
  if b < 0 then none else
  match op with
  | .shl => some (intV k (shlI k a b))
  | .shr => some (intV k (shrI k a b))
  | _ => none

def binI (op : BinOp) (k : IntKind) (a b : Int) : Option AV :=
  match op with
  | .shl => shA .shl k a b
  | .shr => shA .shr k a b
  | .and => some (intV k (andI k a b))
  | .or => some (intV k (orI k a b))
  | .xor => some (intV k (xorI k a b))
  | .add => some (intV k (k.wrap (a + b)))
  | .sub => some (intV k (k.wrap (a - b)))
  | .mul => some (intV k (k.wrap (a * b)))
  | .quo => if b = 0 then none else some (intV k (k.wrap (a.tdiv b)))
  | .rem => if b = 0 then none else some (intV k (a.tmod b))
  | .eql => some (boolV (a == b))
  | .neq => some (boolV (a != b))
  | .lss => some (boolV (decide (a < b)))
  | .leq => some (boolV (decide (a ≤ b)))
  | .gtr => some (boolV (decide (a > b)))
  | .geq => some (boolV (decide (a ≥ b)))
  | _ => none

def binS (op : BinOp) (a b : ByteArray) : Option AV :=
  match op with
  | .add => if a.size + b.size ≤ 140737488355328 then some (.val (.string (a ++ b))) else none
  | .eql => some (boolV (a.toList == b.toList))
  | .neq => some (boolV (!(a.toList == b.toList)))
  | _ => none

def isNil : AV → Option Bool
  | .ro b _ => some b
  | .emp => some false
  | .sl .. => some false
  | _ => none

def eqs : List AV → List AV → Option Bool
  | [], [] => some true
  | .val (.int k a) :: xs, .val (.int k' b) :: ys => if k = k' then (if a = b then eqs xs ys else some false) else none
  | _, _ => none

/-- Which fields of a struct of whole numbers and truth values are truth values. -/
def inK (P : Program) (t : TypeId) : Option (List Bool) := match P.underlying t with
  | some (.struct fs) => if (!P.eqGuardType P.depth t && !P.stoodInHeld t && ((P.info? t).map (·.size) == some fs.size) && fs.toList.zipIdx.all fun (f, i) => f.name != "_" && f.offset == i && ((P.info? f.type).map (·.size) == some 1)) = true
      then fs.toList.mapM fun f => match P.underlying f.type with | some (.int _) => some false | some .bool => some true | _ => none else none
  | _ => none
def eqK : List Bool → List AV → List AV → Option Bool
  | [], [], [] => some true
  | false :: ks, .val (.int k a) :: xs, .val (.int k' b) :: ys => if k = k' then (if a = b then eqK ks xs ys else some false) else none
  | true :: ks, .val (.bool a) :: xs, .val (.bool b) :: ys => if a = b then eqK ks xs ys else some false
  | _, _, _ => none

def binA (P : Program) (op : BinOp) (t : TypeId) (x y : AV) : Option AV :=
  match x, y with
  | .val (.int k a), .val (.int k' b) => if k = k' then binI op k a b else shA op k a b
  | .val (.string a), .val (.string b) => binS op a b
  | .val (.bool a), .val (.bool b) => if boT P t then (match op with | .eql => some (boolV (a == b)) | .neq => some (boolV (!(a == b))) | _ => none) else none
  | .agg xs, .agg ys => if inT P t && (szT P t == some xs.length) then (match op with | .eql => (eqs xs ys).map boolV | .neq => (eqs xs ys).map fun b => boolV !b | _ => none) else (inK P t).bind fun ks => if szT P t = some xs.length then (match op with | .eql => (eqK ks xs ys).map boolV | .neq => (eqK ks xs ys).map fun b => boolV !b | _ => none) else none
  | .val (.pointer none), .val (.pointer none) => if (ptT P t).isSome then (match op with | .eql => some (boolV true) | .neq => some (boolV false) | _ => none) else none
  | .ptr _ _ _, .val (.pointer none) => if (ptT P t).isSome then (match op with | .eql => some (boolV false) | .neq => some (boolV true) | _ => none) else none
  | .ptr l i f, .ptr l' i' f' => if (ptT P t).isSome && l == l' && i == i' && f == f' then (match op with | .eql => some (boolV true) | .neq => some (boolV false) | _ => none) else none
  | s, .ro true [] => if (slT P t).isSome then (match op with | .eql => (isNil s).map boolV | .neq => (isNil s).map fun b => boolV !b | _ => none) else none
  | _, _ => none

/-- An interface value beside nil. -/
def ifcA (P : Program) (op : BinOp) (t : TypeId) (x : AV) : Option AV :=
  if ifT P t then (match x, op with
    | .ifc, .eql => some (boolV false)
    | .ifc, .neq => some (boolV true)
    | .val (.iface _ _), .eql => some (boolV false)
    | .val (.iface _ _), .neq => some (boolV true)
    | .val .nilIface, .eql => some (boolV true)
    | .val .nilIface, .neq => some (boolV false)
    | _, _ => none) else none
def nilC : Operand → Bool
  | .const .nilIface => true
  | _ => false

def unA (op : UnOp) (x : AV) : Option AV :=
  match op, x with
  | .neg, .val (.int k n) => some (intV k (k.wrap (0 - n)))
  | .xor, .val (.int k n) => some (intV k (notI k n))
  | .not, .val (.bool b) => some (boolV !b)
  | _, _ => none

def pickA (c a b : AV) : Option AV :=
  match c with
  | .val (.bool t) => some (bif t then a else b)
  | _ => none

/-- Where a part of a struct or of an array lies. -/
def fpT (P : Program) (t : TypeId) (i : Nat) : Option (Nat × TypeId) := match arT P t with
  | some (_, e) => (szT P e).map fun s => (i * s, e)
  | none => fdT P t i

def buildA (P : Program) (t : TypeId) : List (Nat × AV) → List AV → Option (List AV)
  | [], cs => some cs
  | (i, v) :: r, cs => (fpT P t i).bind fun (off, ft) => (szT P ft).bind fun sz => if v.cells.length = sz ∧ off + sz ≤ cs.length ∧ v.isBad = false then buildA P t r (setCells cs off v.cells) else none

def buildRow (sz : Nat) : List (Nat × AV) → List (List AV) → Option (List (List AV))
  | [], es => some es
  | (i, v) :: r, es => if v.cells.length = sz ∧ i < es.length ∧ v.cells.all okc = true then buildRow sz r (es.set i v.cells) else none

def fieldAddrA (P : Program) (s : TypeId) (x : AV) (f : Nat) : Option AV :=
  (fdT P s f).bind fun (off, ft) => (szT P ft).bind fun sz => if sz = 0 then none else
    match x with
    | .ptr l i k => some (.ptr l i (k + off))
    | .rptr cs => some (.rptr (cs.drop off))
    | _ => none

def fieldA (P : Program) (s : TypeId) (x : AV) (f : Nat) : Option AV :=
  (fdT P s f).bind fun (off, ft) => (szT P ft).bind fun sz => (aggT P ft).bind fun a =>
    match x with
    | .agg cs => if off + sz ≤ cs.length ∧ ¬ (a = false ∧ sz ≠ 1) then some (mk a ((cs.drop off).take sz)) else none
    | _ => none

def indexAddrA (P : Program) (t : TypeId) (x : AV) (ix : AV) : Option AV :=
  match ix with
  | .val (.int _ i) =>
    if 0 ≤ i then
      match x with
      | .sl l sz off len => (slT P t).bind fun e => (szT P e).bind fun s => if s = sz ∧ i < len then some (.ptr l (off + i.toNat) 0) else none
      | .ro _ es => (slT P t).bind fun e => (szT P e).bind fun s => (es[i.toNat]?).bind fun cs => if cs.length = s then some (.rptr cs) else none
      | .arr l sz len => (arT P t).bind fun (n, e) => (szT P e).bind fun s => if s = sz ∧ n = len ∧ i < n ∧ 1 < n then some (.ptr l i.toNat 0) else none
      | _ => none
    else none
  | _ => none

def indexA (P : Program) (t : TypeId) (x : AV) (ix : AV) : Option AV :=
  match ix, x with
  | .val (.int _ i), .val (.string s) => if stT P t then (if 0 ≤ i then (s[i.toNat]?).map fun b => intV .u8 b.toNat else none) else none
  | .val (.int _ i), .agg cs => (arT P t).bind fun (n, e) => (szT P e).bind fun sz => (aggT P e).bind fun a => if a = false ∧ sz = 1 ∧ 0 ≤ i ∧ i < n then cs[i.toNat]? else none
  | _, _ => none

def bnd (v : Option AV) (d : Nat) (m : Nat) : Option Nat :=
  match v with
  | none => some d
  | some (.val (.int _ i)) => if 0 ≤ i ∧ i ≤ m then some i.toNat else none
  | _ => none

def sliceA (P : Program) (t : TypeId) (x : AV) (lo hi mx : Option AV) : Option AV :=
  match x, mx with
  | .val (.string s), none => if stT P t then (bnd hi s.size s.size).bind fun h => (bnd lo 0 h).bind fun l => some (.val (.string (s.extract l h))) else none
  | .ro b es, none => (slT P t).bind fun e => (szT P e).bind fun s => if hd es s = false then none else (bnd hi es.length es.length).bind fun h => (bnd lo 0 h).bind fun l => some (.ro b ((es.take h).drop l))
  | .sl p sz off len, none => (slT P t).bind fun e => (szT P e).bind fun s => if s = sz then (bnd hi len len).bind fun h => (bnd lo 0 h).bind fun l => some (if l < h ∨ l = 0 then .sl p sz (off + l) (h - l) else .ro false []) else none
  | .arr p sz len, none => (arT P t).bind fun (n, e) => (szT P e).bind fun s => if s = sz ∧ n = len then (bnd hi len len).bind fun h => (bnd lo 0 h).bind fun l => some (if l < h then .sl p sz l (h - l) else .ro false []) else none
  | .ro b _, some (.val (.int _ 0)) => (slT P t).bind fun e => (szT P e).bind fun _ => (hi.bind fun x => bnd (some x) 0 0).bind fun _ => (bnd lo 0 0).bind fun _ => some (bif b then .ro true [] else .emp)
  | .sl .., some (.val (.int _ 0)) => (slT P t).bind fun e => (szT P e).bind fun _ => (hi.bind fun x => bnd (some x) 0 0).bind fun _ => (bnd lo 0 0).bind fun _ => some .emp
  | .emp, some (.val (.int _ 0)) => (slT P t).bind fun e => (szT P e).bind fun _ => (hi.bind fun x => bnd (some x) 0 0).bind fun _ => (bnd lo 0 0).bind fun _ => some .emp
  | _, _ => none

/-- A byte of a row. -/
def byteA : List AV → Option UInt8
  | [.val (.int .u8 n)] => if 0 ≤ n ∧ n < 256 then some (UInt8.ofNat n.toNat) else none
  | _ => none
/-- Bytes as a string. -/
def convA (P : Program) (src dst : TypeId) (h : Heap) (x : AV) : Option AV :=
  match x with
  | .val (.int _ n) => if (P.underlying src).isSome then (match P.underlying dst with | some (.int k) => some (intV k (k.wrap n)) | _ => none) else none
  | .ptr l i f => if f = 0 then (h l).bind fun b => if i < b.es.length ∧ 0 < b.sz then
      (match ptT P src, ptT P dst with
      | some t, none => if usT P dst && szT P t == some b.sz then some (.ptr l i 0) else none
      | none, some u => if usT P src && szT P u == some b.sz && b.ty == some u then some (.ptr l i 0) else none
      | _, _ => none) else none else none
  | x =>
  (slT P src).bind fun e => match P.underlying e with
    | some (.int .u8) => if stT P dst then (els h x).bind fun es => (es.mapM byteA).map fun bs => .val (.string ⟨bs.toArray⟩) else none
    | _ => none

abbrev Res := Option (AV × Heap × Nat)

/-- The record of a map. -/
def mpBlk (es : List (List AV)) : Blk := ⟨0, [[.mpr es]], none⟩
def mpOf : Option Blk → Option (List (List AV))
  | some ⟨_, [[.mpr es]], _⟩ => some es
  | _ => none
@[simp] theorem mpOf_blk (es : List (List AV)) : mpOf (some (mpBlk es)) = some es := rfl
/-- What a map of strings holds under a key. -/
def mpGet (s : ByteArray) : List (List AV) → Option (Option AV)
  | [] => some none
  | [.val (.string k), v] :: r => if k == s then some (some v) else mpGet s r
  | _ => none
/-- .. is set. -/
def mpSet (s : ByteArray) (x : AV) : List (List AV) → Option (List (List AV))
  | [] => some [[.val (.string s), x]]
  | [.val (.string k), v] :: r => if k == s then some ([.val (.string s), x] :: r) else (mpSet s x r).map fun r => [.val (.string k), v] :: r
  | _ => none

/-- How many bytes a row may have. -/
def room : Nat := 140737488355328

/-- What an append takes: a row's elements, or a string's bytes. -/
def srcA (h : Heap) : AV → Option (List (List AV))
  | .val (.string s) => some (s.data.toList.map fun b => [intV .u8 b.toNat])
  | x => els h x
def okSrc (P : Program) (t : TypeId) : AV → Bool
  | .val (.string _) => stT P t
  | _ => (slT P t).isSome

/-- The type of a row that is appended to. -/
def tyK (b : Option Blk) (e : Nat) : Option Nat := match b with
  | some b => if b.ty = some e then some e else none
  | none => none

def appendA (P : Program) (t : TypeId) (h : Heap) (c : Nat) (s x : AV) : Res :=
  (slT P t).bind fun e => (szT P e).bind fun sz => (byT P e).bind fun by_ => (zeT P e).bind fun z => (srcA h x).bind fun xs =>
    if z.length = sz ∧ hd xs sz = true then
      if xs.isEmpty then (match s with | .ro .. | .emp | .sl .. => some (s, h, c) | _ => none) else
      match s with
      | .ro true [] | .emp => if xs.length * by_ ≤ room ∧ xs.length ≤ room then some (.sl c sz 0 xs.length, h.put c (some ⟨sz, xs, some e⟩), c + 1) else none
      | .sl l sz' off len => (els h (.sl l sz' off len)).bind fun ys =>
        if sz' = sz ∧ (len + xs.length) * by_ ≤ room ∧ len + xs.length ≤ room then some (.sl c sz 0 (len + xs.length), (h.put l none).put c (some ⟨sz, ys ++ xs, tyK (h l) e⟩), c + 1) else none
      | _ => none
    else none

def max2 (a b : AV) : Option AV := match a, b with
  | .val (.int k x), .val (.int _ y) => some (.val (.int k (if y > x then y else x)))
  | _, _ => none
def min2 (a b : AV) : Option AV := match a, b with
  | .val (.int k x), .val (.int _ y) => some (.val (.int k (if y < x then y else x)))
  | _, _ => none

def builtinA (P : Program) (b : Builtin) (ts : List TypeId) (h : Heap) (c : Nat) (args : List AV) : Res :=
  match b, ts, args with
  | .len, t :: _, x :: _ => (match x with
    | .val (.string s) => if stT P t then some (intV .i64 s.size, h, c) else none
    | x => if (slT P t).isSome then (lenA x).map fun (n : Nat) => (intV .i64 (n : Int), h, c) else none)
  | .append, [t, t'], [s, x] => if okSrc P t' x then appendA P t h c s x else none
  | .max, _, x :: r => (r.foldlM max2 x).map fun v => (v, h, c)
  | .min, _, x :: r => (r.foldlM min2 x).map fun v => (v, h, c)
  | .unsafeSliceData, _, [.sl l _ off n] => if 0 < n then some (.ptr l off 0, h, c) else none
  | .unsafeSliceData, _, [.ro true []] => some (.val (.pointer none), h, c)
  | .unsafeString, [_, _], [.val (.pointer none), .val (.int .i64 0)] => some (.val (.string ⟨#[]⟩), h, c)
  | .unsafeString, [pt, _], [.ptr l i 0, .val (.int .i64 n)] => (h l).bind fun b => if 0 < n ∧ n ≤ room ∧ i + n.toNat ≤ b.es.length ∧ b.sz = 1 ∧ b.ty = ptT P pt ∧ (ptT P pt).bind (szT P) = some 1 then
      (((b.es.drop i).take n.toNat).mapM byteA).map fun bs => (.val (.string ⟨bs.toArray⟩), h.put l none, c) else none
  | .copy, [t, t'], [.sl l sz off n, x] => (slT P t).bind fun e => (szT P e).bind fun s => (h l).bind fun b => (srcA h x).bind fun xs =>
      if okSrc P t' x = true ∧ s = sz ∧ hd xs sz = true ∧ off + n ≤ b.es.length ∧ xs.length ≤ n then some (intV .i64 xs.length, h.put l (some { b with es := b.es.take off ++ xs ++ b.es.drop (off + xs.length) }), c) else none
  | _, _, _ => none

def makeA (P : Program) (t : TypeId) (h : Heap) (c : Nat) (len cap : AV) : Res :=
  match len, cap with
  | .val (.int _ n), .val (.int _ m) =>
    (slT P t).bind fun e => (szT P e).bind fun sz => (byT P e).bind fun by_ => (zeT P e).bind fun z =>
      if 0 ≤ n ∧ n ≤ m ∧ m * by_ ≤ room ∧ m ≤ room ∧ z.length = sz ∧ 0 < sz then some (.sl c sz 0 n.toNat, h.put c (some ⟨sz, List.replicate m.toNat z, some e⟩), c + 1) else none
  | _, _ => none

def allocA (P : Program) (t : TypeId) (h : Heap) (c : Nat) : Res :=
  match arT P t with
  | some (n, e) => (szT P e).bind fun sz => (zeT P t).bind fun z => if z.length = n * sz then some (.arr c sz n, h.put c (some ⟨sz, (List.range n).map fun i => (z.drop (i * sz)).take sz, some t⟩), c + 1) else none
  | none => (zeT P t).bind fun z => some (.ptr c 0 0, h.put c (some ⟨z.length, [z], some t⟩), c + 1)

inductive CMode where
  | pure
  | own
  | heap
  /-- The one number under which rounds of loops over functions are asked for. -/
  | rnd
  /-- The identity, as the model answers it. -/
  | idt
  /-- A function that is told of, not walked. -/
  | ext (g : List AV → Option AV)
  /-- A function that is told of with its memory. -/
  | told (g : List AV → Heap → Nat → Option (AV × Heap × Nat))

/-- Under this number a round is asked for. -/
def rndF : Nat := 1000000000

/-- A call's oracle: the function, its arguments (and what it captured), the memory, the next name. -/
abbrev Orc := Nat → List AV → Heap → Nat → Res

def depth : Nat := 12

def callA (md : Nat → Option CMode) (orc : Orc) (f : Nat) (args : List AV) (h : Heap) (c : Nat) : Res :=
  match md f with
  | none => none
  | some .heap => orc f args h c
  | some .rnd => none
  | some .idt => (match args with | [x] => some (x, h, c) | _ => none)
  | some (.told g) => g args h c
  | some (.ext g) => (args.mapM (frz h depth)).bind fun as => (g as).bind fun r => if flat r then some (r, h, c) else none
  | some .own => (orc f args Heap.none c).bind fun (r, h', c') => if r.isPan then none else some (r, (h'.cut c c').over h, c')
  | some .pure =>
    (args.mapM (frz h depth)).bind fun as => (orc f as Heap.none 0).bind fun (r, h', _) => (frz h' depth r).bind fun r' =>
      if lf.lfs args || flat r' || okO h' depth r then some (r', h, c) else none

def evA (t : Nat → AV) : Operand → AV
  | .tmp i => t i
  | .const v => lit v
  | .global _ => .bad
  | .func f => .fn f []

/-- The slice types whose literals nobody writes (of this seat: the arguments of cmp.Or). -/
def roSl (s : TypeId) : Bool := s == 385

def opA (P : Program) (md : Nat → Option CMode) (orc : Orc) (t : Nat → AV) (h : Heap) (c : Nat) (o : Op) : Res :=
  match o with
  | .move x | .assign x => some (evA t x, h, c)
  | .pick x a b => (pickA (evA t x) (evA t a) (evA t b)).map fun v => (v, h, c)
  | .alloc e => allocA P e h c
  | .box e x => if (evA t x).cells.all okc = true then some (.ptr c 0 0, h.put c (some ⟨(evA t x).cells.length, [(evA t x).cells], some e⟩), c + 1) else none
  | .build s parts => if blT P s = false then none else (zeT P s).bind fun z => (buildA P s (parts.toList.map fun p => (p.1, evA t p.2)) z).map fun cs => (.agg cs, h, c)
  | .buildSlice s n parts => (slT P s).bind fun e => (szT P e).bind fun sz => (zeT P e).bind fun z =>
      if n = 0 then (if parts.isEmpty then some (.emp, h, c) else none) else
      if z.length = sz ∧ 0 < sz ∧ n * sz ≤ 16777216 then (buildRow sz (parts.toList.map fun p => (p.1, evA t p.2)) (List.replicate n z)).bind fun es => bif roSl s then (if es.flatten.all flat = true then some (.ro false es, h, c) else none) else some (.sl c sz 0 n, h.put c (some ⟨sz, es, some e⟩), c + 1) else none
  | .load s a => (szT P s).bind fun n => (aggT P s).bind fun ag => if ag = false ∧ n ≠ 1 then none else (ld h n (evA t a)).map fun cs => (mk ag cs, h, c)
  | .store s a x => (szT P s).bind fun n => if (evA t x).cells.length = n ∧ (evA t x).cells.all okc = true then (stA h (evA t x).cells (evA t a)).map fun h' => (.bad, h', c) else none
  | .nilCheck x => (match evA t x with | .ptr l i f => some (.ptr l i f, h, c) | .rptr cs => some (.rptr cs, h, c) | .fn f cs => some (.fn f cs, h, c) | .fm f b cs => some (.fm f b cs, h, c) | .arr l s n => some (.arr l s n, h, c) | _ => none)
  | .binOp op ty x y _ => (bif nilC y then ifcA P op ty (evA t x) else binA P op ty (evA t x) (evA t y)).map fun v => (v, h, c)
  | .unOp op _ x => (unA op (evA t x)).map fun v => (v, h, c)
  | .fieldAddr s x f => (fieldAddrA P s (evA t x) f).map fun v => (v, h, c)
  | .field s x f => (fieldA P s (evA t x) f).map fun v => (v, h, c)
  | .indexAddr s x i => (indexAddrA P s (evA t x) (evA t i)).map fun v => (v, h, c)
  | .index s x i => (indexA P s (evA t x) (evA t i)).map fun v => (v, h, c)
  | .slice s x lo hi mx => (sliceA P s (evA t x) (lo.map (evA t)) (hi.map (evA t)) (mx.map (evA t))).map fun v => (v, h, c)
  | .extract x i => (match evA t x with | .tup vs => (vs[i]?).map fun v => (v, h, c) | _ => none)
  | .makeFunc (.func f) first caps => (match first.toList with | [] => some (.fn f (caps.toList.map (evA t)), h, c) | [b] => some (.fm f (evA t b) (caps.toList.map (evA t)), h, c) | _ => none)
  | .makeSlice s n m => makeA P s h c (evA t n) (evA t m)
  | .call { callee := .builtin b, args, argTypes } => builtinA P b argTypes.toList h c (args.toList.map (evA t))
  | .call { callee := .value f, args, .. } => (match evA t f with
    | .fn f caps => callA md orc f (args.toList.map (evA t) ++ caps) h c
    | .fm f b caps => callA md orc f (b :: (args.toList.map (evA t) ++ caps)) h c
    | .yld l => (match md rndF with | some .rnd => (orc rndF (.yld l :: args.toList.map (evA t)) h c).bind fun r => if r.1.isPan then none else some r | _ => none)
    | _ => none)
  | .convert src dst x => (convA P src dst h (evA t x)).map fun v => (v, h, c)
  | .makeInterface s x => (match evA t x with | .val (.int k n) => if coT P s then some (.val (.iface s (.int k n)), h, c) else none | _ => none)
  | .typeAssert x _ s true => (match evA t x with | .val (.iface s' (.int k n)) => if coT P s = true ∧ s' = s then some (.tup [.val (.int k n), boolV true], h, c) else none | _ => none)
  | .panic x => (match evA t x with | .val (.iface s (.int k n)) => some (.pan s k n, h, c) | _ => none)
  | .makeMap s none => some (.mp c, h.put c (some (mpBlk [])), c + 1)
  | .mapUpdate s m k x => (match evA t m, evA t k, evA t x with
    | .mp l, .val (.string b), .val (.int i n) => (mpT P s).bind fun _ => (mpOf (h l)).bind fun es => (mpSet b (.val (.int i n)) es).map fun es => (.bad, h.put l (some (mpBlk es)), c)
    | _, _, _ => none)
  | .insert s m k x => (match evA t m, evA t k, evA t x with
    | .mp l, .val (.string b), .val (.int i n) => (mpT P s).bind fun _ => (mpOf (h l)).bind fun es => (mpSet b (.val (.int i n)) es).map fun es => (.bad, h.put l (some (mpBlk es)), c)
    | _, _, _ => none)
  | .lookup s m k true => (match evA t m, evA t k with
    | .mp l, .val (.string b) => (mpT P s).bind fun e => (ziT P e).bind fun z => (mpOf (h l)).bind fun es => (mpGet b es).map fun r => (.tup [r.getD z, boolV r.isSome], h, c)
    | _, _ => none)
  | .lookup s m k false => (match evA t m, evA t k with
    | .mp l, .val (.string b) => (mpT P s).bind fun e => (ziT P e).bind fun z => (mpOf (h l)).bind fun es => (mpGet b es).map fun r => (r.getD z, h, c)
    | _, _ => none)
  | _ => none

/-- An operation that may panic. -/
def mayP : Op → Bool
  | .panic _ => true
  | .call cl => (match cl.callee with | .value _ => true | _ => false)
  | _ => false

structure St where
  t : Nat → AV
  h : Heap
  c : Nat

def upd (t : Nat → AV) (d : Option Tmp) (v : AV) : Nat → AV :=
  match d with
  | some d => fun k => if k = d then v else t k
  | none => t

/-- What an operation that was passed over leaves. -/
def skipV : AV := .tup []

def yldA (ops : Array Oper) (t : Nat → AV) (j : Nat) : Option (Option Bool) :=
  match (ops[j]?).bind (·.dst) with
  | some d => (match t d with | .val (.bool b) => some (some b) | .tup [] => some none | _ => none)
  | none => none

/-- The guard of an operation: 'none' where what it hangs on is not known. -/
def wantA (ops : Array Oper) (t : Nat → AV) (o : Oper) : Option Bool :=
  match o.guard with
  | none => some true
  | some (j, want) => (yldA ops t j).map fun b => b == some want

def nxt (K : St → Option (Ex × St)) : Ex × St → Option (Ex × St)
  | (.normal, s) => K s
  | (.exit i, s) => some (.exit i, s)
  | (.ret, s) => some (.ret, s)
  | (.pan t k n, s) => some (.pan t k n, s)

/-- What an operation leaves. -/
def putV (d : Option Tmp) (s : St) : AV × Heap × Nat → Ex × St
  | (.pan t k n, h, c) => (.pan t k n, ⟨s.t, h, c⟩)
  | (v, h, c) => (.normal, ⟨upd s.t d v, h, c⟩)

def stepA (P : Program) (md : Nat → Option CMode) (orc : Orc) (ops : Array Oper) (o : Oper) (s : St) : Option (Ex × St) :=
  (wantA ops s.t o).bind fun w => bif w then (bif mayP o.op then (opA P md orc s.t s.h s.c o.op).map (putV o.dst s) else (opA P md orc s.t s.h s.c o.op).map fun (v, h, c) => (.normal, ⟨upd s.t o.dst v, h, c⟩)) else some (.normal, ⟨upd s.t o.dst skipV, s.h, s.c⟩)

def regA (P : Program) (md : Nat → Option CMode) (orc : Orc) (ops : Array Oper) : List Oper → St → Option (Ex × St)
  | [], s => some (.normal, s)
  | o :: r, s => (stepA P md orc ops o s).bind (nxt (regA P md orc ops r))

/-! ### regions that draw their order -/
/-- Is this temporary an empty literal of the region's own? -/
def empT (ops : Array Oper) (t : Tmp) : Bool := ops.toList.any fun o => o.dst == some t && (match o.op with | .buildSlice _ 0 _ => true | _ => false)

/-- Does the region make a cell that this temporary alone leads to? -/
def newT (ops : Array Oper) (d : Tmp) : Bool := (ops.toList.filter fun o => o.dst == some d).length == 1 && ops.toList.any fun o => o.dst == some d && o.guard.isNone && (match o.op with | .alloc _ => true | _ => false)

/-- The addresses that loads of the region read, where no operation of it writes them. -/
def loadsAt (ops : Array Oper) : List Tmp := ops.toList.filterMap fun o => match o.op with
  | .load _ (.tmp r) => if ops.toList.all fun q => q.dst != some r then some r else none
  | _ => none

/-- What an operation waits for. -/
def edgesOn (o : Oper) : List Nat := (o.after.toList.filter (Region.binds .any ·)).map (·.on)

/-- What an append kills, none of these loads reads; what a store writes, none reads that may come behind it. -/
def killOk (ops : Array Oper) (t : Nat → AV) (o : Oper) : Bool := match o.op with
  | .call cl => (match cl.callee, cl.args.toList with
    | .builtin .append, x :: _ => (match evA t x with
      | .sl l _ _ _ => (loadsAt ops).all fun r => (match t r with | .ptr l' _ _ => l' != l | _ => true)
      | _ => true)
    | _, _ => true)
  | .store _ (.tmp a) _ => bif newT ops a then true else (match t a with
      | .ptr l _ _ => ops.toList.zipIdx.all fun p => (match p.1.op with
        | .load _ (.tmp r) => (edgesOn o).contains p.2 || r == a || (match t r with | .ptr l' _ _ => l' != l | _ => true)
        | _ => true)
      | _ => true)
  | _ => true

/-- 0: it looks at no memory; 1: it reads; 2: it makes memory (and reads); 3: all else. -/
def kindA (md : Nat → Option CMode) (ops : Array Oper) (o : Op) : Nat :=
  match o with
  | .move _ | .assign _ | .pick .. | .build .. | .nilCheck _ | .binOp .. | .unOp .. | .fieldAddr .. | .field .. | .indexAddr .. | .index .. | .slice .. | .extract .. | .makeFunc .. => 0
  | .load .. | .convert .. => 1
  | .lookup _ _ _ _ => 1
  | .alloc _ | .box .. | .buildSlice .. | .makeSlice .. => 2
  | .store _ a _ => (match a with | .tmp d => if newT ops d then 4 else 3 | _ => 3)
  | .call cl => (match cl.callee with
    | .builtin b => (match b with
      | .len => 0
      | .max => 0
      | .min => 0
      | .unsafeSliceData => 0
      | .append => (match cl.args.toList with | .tmp t :: _ => if empT ops t then 2 else 3 | _ => 3)
      | _ => 3)
    | .value (.func f) => (match md f with | some .pure => 1 | some .own => 2 | some (.ext _) => 1 | _ => 3)
    | _ => 3)
  | _ => 3

/-- An append onto nothing. -/
def freshA (t : Nat → AV) (o : Op) : Bool :=
  match o with
  | .call cl => (match cl.callee with
    | .builtin b => (match b with
      | .append => (match cl.args.toList with | x :: _ => (match evA t x with | .emp => true | .ro true [] => true | _ => false) | _ => false)
      | _ => true)
    | _ => true)
  | _ => true

/-- What was made, laid over the memory. -/
def Heap.lay (h1 : Heap) (c c1 : Nat) (h : Heap) : Heap := fun l => if c ≤ l ∧ l < c1 then h1 l else h l

def stepD (P : Program) (md : Nat → Option CMode) (orc : Orc) (ops : Array Oper) (h0 : Heap) (o : Oper) (s : St) : Option St :=
  (wantA ops s.t o).bind fun w => bif w then
    (if 3 ≤ kindA md ops o.op then (if killOk ops s.t o = false then none else (opA P md orc s.t s.h s.c o.op).bind fun (v, h, c) => if v.isPan = true then none else some ⟨upd s.t o.dst v, h, c⟩)
     else if freshA s.t o.op = false then none else (opA P md orc s.t h0 s.c o.op).map fun (v, h, c) => ⟨upd s.t o.dst v, h.lay s.c c s.h, c⟩)
    else some ⟨upd s.t o.dst skipV, s.h, s.c⟩

def regD (P : Program) (md : Nat → Option CMode) (orc : Orc) (ops : Array Oper) (h0 : Heap) : List Oper → St → Option St
  | [], s => some s
  | o :: r, s => (stepD P md orc ops h0 o s).bind (regD P md orc ops h0 r)

/-! ### what is asked of code -/
def dstOk (nt : Nat) (ops : Array Oper) : Bool := ops.toList.all fun o => match o.dst with | some d => decide (d < nt) | none => true

/-- Behind which operations each one comes in whatever order, as bits. -/
def ancs : List Oper → List Nat → List Nat
  | [], acc => acc
  | o :: r, acc => ancs r (acc ++ [(edgesOn o).foldl (fun s e => s ||| 2 ^ e ||| acc.getD e 0) 0])

def anc (B : List Nat) (i j : Nat) : Bool := (B.getD i 0).testBit j

/-- The temporary whose own cell a store fills. -/
def tgtA (md : Nat → Option CMode) (ops : Array Oper) (o : Op) : Option Tmp :=
  match o with
  | .store _ (.tmp d) _ => if newT ops d then some d else none
  | _ => none

/-- Nothing writes this temporary behind this place. -/
def lateR (ops : Array Oper) (r : Tmp) (k : Nat) : Bool := ops.toList.zipIdx.all fun q => q.1.dst != some r || decide (q.2 < k)

/-- A load beside an append, or beside a store. -/
def besides (ops : Array Oper) (k : Nat) (p o : Oper) : Bool :=
  match p.op, o.op with
  | .load _ (.tmp r), .call cl => (loadsAt ops).contains r && (match cl.callee with | .builtin .append => true | _ => false)
  | .load _ (.tmp r), .store _ (.tmp a) _ => lateR ops r k && r != a && !(newT ops a) && !(edgesOn o).contains k
  | _, _ => false

def pairOk (md : Nat → Option CMode) (ops : Array Oper) (B : List Nat) (i : Nat) (o : Oper) (k : Nat) : Bool :=
  match ops[k]? with
  | none => false
  | some p => (anc B i k || (p.apart ops o && (kindA md ops o.op != 3 || kindA md ops p.op == 0 || besides ops k p o) && (kindA md ops p.op != 3 || kindA md ops o.op == 0))) && (kindA md ops p.op != 3 || kindA md ops o.op == 0 || kindA md ops o.op == 3) &&
      ((tgtA md ops o.op).isNone || tgtA md ops o.op != tgtA md ops p.op)

def operOk (md : Nat → Option CMode) (ops : Array Oper) (B : List Nat) (i : Nat) : Bool :=
  match ops[i]? with
  | none => false
  | some o => (edgesOn o).all (fun e => decide (e < i)) && (List.range ops.size).all (fun j => !anc B i j || (edgesOn o).any fun e => e == j || anc B e j) && (List.range i).all (pairOk md ops B i o) &&
      (match tgtA md ops o.op with
       | some d => (List.range i).any fun a => anc B i a && ((ops[a]?).map fun q => q.dst == some d).getD false
       | none => true)

/-- An operation that does not panic. -/
def noPan (md : Nat → Option CMode) : Op → Bool
  | .panic _ => false
  | .call cl => (match cl.callee with | .value (.func f) => (match md f with | some .heap => false | some (.told _) => false | some .idt => false | _ => true) | .value _ => false | _ => true)
  | _ => true

def drawOk (md : Nat → Option CMode) (nt : Nat) (ops : Array Oper) : Bool := dstOk nt ops && (List.range ops.size).all (operOk md ops (ancs ops.toList []))

/-- The temporaries that code writes are below this. -/
def dstMax : Code → Nat
  | .region _ ops _ => ops.toList.foldl (fun m o => max m (match o.dst with | some d => d + 1 | none => 0)) 0
  | .seq a b => max (dstMax a) (dstMax b)
  | .cond _ a b => max (dstMax a) (dstMax b)
  | .block _ b => dstMax b
  | .loop b => dstMax b
  | .scope b => dstMax b
  | _ => 0
/-- How many temporaries a round needs. -/
def rngNt (ps : List Nat) (a b : Code) : Nat := max (ps.foldl (fun m p => max m (p + 1)) 0) (max (dstMax a) (dstMax b))

/-- What is asked of code; a loop over a function may stand in it where 'top' says so. -/
def okG (top : Bool) (md : Nat → Option CMode) (nt : Nat) : Code → Bool
  | .skip => true
  | .region _ ops false => dstOk nt ops
  | .region _ ops true => drawOk md nt ops
  | .seq a b => okG top md nt a && okG top md nt b
  | .cond _ a b => okG top md nt a && okG top md nt b
  | .block _ b => okG top md nt b
  | .loop b => okG top md nt b
  | .scope b => okG top md nt b
  | .label _ => true
  | .exit _ => true
  | .ret => true
  | .refuse _ => true
  | .rangeFunc _ ps a b => top && decide (rngNt ps.toList a b ≤ nt)
  | _ => false
/-- Code without a loop over a function. -/
abbrev okB (md : Nat → Option CMode) (nt : Nat) (c : Code) : Bool := okG false md nt c
abbrev okC (md : Nat → Option CMode) (nt : Nat) (c : Code) : Bool := okG true md nt c

def outOf (id : Nat) : Ex × St → Option (Ex × St)
  | (.exit i, s) => some (if i = id then .normal else .exit i, s)
  | (.normal, s) => some (.normal, s)
  | (.ret, s) => some (.ret, s)
  | (.pan t k n, s) => some (.pan t k n, s)

def iter (f : St → Option (Ex × St)) : Nat → St → Option (Ex × St)
  | 0, _ => none
  | n + 1, s => (f s).bind (nxt (iter f n))

def condA (v : AV) (x y : Option (Ex × St)) : Option (Ex × St) :=
  match v with
  | .val (.bool t) => bif t then x else y
  | _ => none

/-- The record of a loop over a function. -/
structure LP where
  st : Nat
  j : Ex
  m : Nat
  t : Nat → AV
  ps : List Nat
  a : Code
  b : Code
def LP.blk (p : LP) : Blk := ⟨0, [[.lp p.st p.j p.m p.t p.ps p.a p.b]], none⟩
def lpOf : Option Blk → Option LP
  | some ⟨_, [[.lp st j m t ps a b]], _⟩ => some ⟨st, j, m, t, ps, a, b⟩
  | _ => none
@[simp] theorem lpOf_blk (p : LP) : lpOf (some p.blk) = some p := rfl

/-- A loop over a function. -/
def rngA (md : Nat → Option CMode) (orc : Orc) (g : AV) (ps : List Nat) (a b : Code) (s : St) : Option (Ex × St) :=
  match g with
  | .fn f caps => (match md f with
    | some .heap => (orc f (.yld s.c :: caps) (s.h.put s.c (some (LP.blk ⟨0, .normal, rngNt ps a b, s.t, ps, a, b⟩))) (s.c + 1)).bind fun r =>
        if r.1.isPan then none else (lpOf (r.2.1 s.c)).bind fun p => if p.st = 1 ∨ p.j.isPan = true then none else some (p.j, ⟨s.t, r.2.1.put s.c none, r.2.2⟩)
    | _ => none)
  | _ => none

def exA (P : Program) (md : Nat → Option CMode) (orc : Orc) (n : Nat) : Code → St → Option (Ex × St)
  | .skip, s => some (.normal, s)
  | .region _ ops false, s => regA P md orc ops ops.toList s
  | .region _ ops true, s => (regD P md orc ops s.h ops.toList s).map fun s => (.normal, s)
  | .seq a b, s => (exA P md orc n a s).bind (nxt (exA P md orc n b))
  | .cond x a b, s => condA (evA s.t x) (exA P md orc n a s) (exA P md orc n b s)
  | .block id b, s => (exA P md orc n b s).bind (outOf id)
  | .loop b, s => iter (exA P md orc n b) n s
  | .exit id, s => some (.exit id, s)
  | .ret, s => some (.ret, s)
  | .rangeFunc g ps a b, s => rngA md orc (evA s.t g) ps.toList a b s
  | .scope b, s => exA P md orc n b s
  | .label _, s => some (.normal, s)
  | _, _ => none

def resA (P : Program) (s : St) : List ResultVar → Option (List AV)
  | [] => some []
  | .tmp t :: r => (resA P s r).map fun vs => s.t t :: vs
  | .cell a t :: r => (szT P t).bind fun n => (aggT P t).bind fun ag => if ag = false ∧ n ≠ 1 then none else (ld s.h n (s.t a)).bind fun cs => (resA P s r).map fun vs => mk ag cs :: vs

def one : List AV → AV
  | [v] => v
  | vs => .tup vs

def init (args : List AV) : Nat → AV := fun k => args.getD k .bad

def fin (P : Program) (fn : Func) : Ex × St → Res
  | (.exit _, _) => none
  | (.normal, s) => (resA P s fn.results.toList).map fun vs => (one vs, s.h, s.c)
  | (.ret, s) => (resA P s fn.results.toList).map fun vs => (one vs, s.h, s.c)
  | (.pan t k n, s) => some (.pan t k n, s.h, s.c)

/-- The loop's variables in a round. -/
def setP (t : Nat → AV) : List Nat → List AV → Nat → AV
  | p :: ps, v :: vs => setP (upd t (some p) v) ps vs
  | _, _ => t

/-- What a round leaves. -/
def endR (l : Nat) : Ex × St → Res
  | (.pan .., _) => none
  | (e, s) => (lpOf (s.h l)).map fun p => (.val (.bool (e == Ex.normal)), s.h.put l (some { p with st := if e == Ex.normal then 0 else 2, j := e }.blk), s.c)

/-- The body of a round. -/
def begR (l : Nat) (b : Code) (K : Code → St → Option (Ex × St)) : Ex × St → Option (Ex × St)
  | (.normal, s) => (lpOf (s.h l)).bind fun p => if p.st = 0 then K b ⟨s.t, s.h.put l (some { p with st := 1 }.blk), s.c⟩ else none
  | _ => none

/-- What is asked of a record ahead of a round. -/
def rndOk (md : Nat → Option CMode) (p : LP) : Bool := okB md p.m p.a && okB md p.m p.b && p.ps.all fun q => decide (q < p.m)

/-- A round of a loop over a function. -/
def rndA (md : Nat → Option CMode) (K : Code → St → Option (Ex × St)) (args : List AV) (h : Heap) (c : Nat) : Res :=
  match args with
  | .yld l :: vs => (lpOf (h l)).bind fun p => if p.ps.length = vs.length ∧ rndOk md p = true then
        ((K p.a ⟨setP p.t p.ps vs, h, c⟩).bind (begR l p.b K)).bind (endR l) else none
  | _ => none

def bodyA (P : Program) (md : Nat → Option CMode) (orc : Orc) (n : Nat) (fn : Func) (args : List AV) (h : Heap) (c : Nat) : Res :=
  fn.body.bind fun b => (exA P md orc n b ⟨init args, h, c⟩).bind (fin P fn)

def callN (P : Program) (md : Nat → Option CMode) : Nat → Orc
  | 0, _, _, _, _ => none
  | n + 1, f, args, h, c => (md f).bind fun m => match m with
    | .rnd => rndA md (exA P md (callN P md n) n) args h c
    | .ext _ => none
    | .told _ => none
    | .idt => none
    | _ => (P.funcs[f]?).bind fun fn => bodyA P md (callN P md n) n fn args h c

end Go.Proofs.YtgbdbenepnbajaaGreatDoor.AM
