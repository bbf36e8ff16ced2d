import GoSem.Step
import GoSem.Claims
import Derived.KernelRfl
namespace Go.Proofs.YtkhjmgchlbnkjaaDoor.Dg
open Go
inductive Ad where
 | old (b o : Nat)
 | new (i o : Nat)
 deriving DecidableEq, Repr, Inhabited
inductive V where
 | bool (b : Bool)
 | int (k : IntKind) (n : Int)
 | str (s : List UInt8)
 | ptr (a : Option Ad)
 | slice (a : Option Ad) (len : Nat) (lb : Nat) (ex : Bool)   -- its capacity: lb at least; just lb, if ex
 | map (r : Option Nat)
 | fn (f : FuncId) (cap : List V)
 | yld (l : Nat)
 | nilfn
 | nilif
 | agg (l : List V)
 | tup (l : List V)
 deriving Inhabited
abbrev V.undef : V := .tup []
def Ad.add : Ad → Nat → Ad
 | .old b o, n => .old b (o + n)
 | .new i o, n => .new i (o + n)
def V.cells : V → List V
 | .agg l => l
 | v => [v]
def V.one : V → Bool
 | .agg _ | .tup _ => false
 | _ => true
def lift1 : Value → Option V
 | .bool b => some (.bool b)
 | .int k n => some (.int k n)
 | .string s => some (.str s.data.toList)
 | .pointer none => some (.ptr none)
 | .pointer (some ⟨b, o, none⟩) => some (.ptr (some (.old b o)))
 | .slice none 0 0 => some (.slice none 0 0 true)
 | .slice (some ⟨b, o, s⟩) l c => if l ≤ c ∧ (s.isNone = true ∨ c = 0) then some (.slice (some (.old b o)) l c true) else none
 | .map none => some (.map none)
 | .func (.func f) ⟨[]⟩ ⟨[]⟩ => some (.fn f [])
 | .nilFunc => some .nilfn
 | .nilIface => some .nilif
 | _ => none
def liftL : List Value → Option (List V)
 | [] => some []
 | v :: vs => match lift1 v with
  | some x => match liftL vs with
   | some xs => some (x :: xs)
   | none => none
  | none => none
def lift : Value → Option V
 | .agg cs => match liftL cs.toList with | some l => some (.agg l) | none => none
 | .tuple cs => match liftL cs.toList with | some l => some (.tup l) | none => none
 | v => lift1 v
inductive AO where
 | cells (l : List V) (t : TypeId)
 | map (es : List (V × V))
 | siter (s : List UInt8) (pos : Nat)
 | loop (tmps : List V) (ps : Array Tmp) (assign body : Code) (state : LoopState) (pending : Option Code) (d : Nat)
 | dfr
 deriving Inhabited
inductive Tr where
 | leaf
 | node (v : Option AO) (l r : Tr)
 deriving Inhabited
def Tr.get : Tr → List Bool → Option AO
 | .leaf, _ => none
 | .node v _ _, [] => v
 | .node _ l r, b :: p => if b then r.get p else l.get p
def Tr.set : Tr → List Bool → Option AO → Tr
 | .leaf, [], v => .node v .leaf .leaf
 | .node _ l r, [], v => .node v l r
 | .leaf, b :: p, v => if b then .node none .leaf (Tr.set .leaf p v) else .node none (Tr.set .leaf p v) .leaf
 | .node w l r, b :: p, v => if b then .node w l (Tr.set r p v) else .node w (Tr.set l p v) r
 termination_by structural _ p => p
def path : Nat → Nat → List Bool
 | 0, _ => []
 | f + 1, n => if n = 0 then [] else (n % 2 == 1) :: path f (n / 2)
structure H where
 tr : Tr
 nx : Nat
 deriving Inhabited
def H.get (h : H) (i : Nat) : Option AO := h.tr.get (path i i)
def H.put (h : H) (i : Nat) (o : Option AO) : H := { h with tr := h.tr.set (path i i) o }
def H.alloc (h : H) (o : AO) : H := { tr := h.tr.set (path h.nx h.nx) (some o), nx := h.nx + 1 }
def H.empty : H := ⟨.leaf, 0⟩
section
variable (P : Program) (W : World)
def oldCells (b o : Nat) : Nat → Option (List V)
 | 0 => some []
 | n + 1 => match W.cell? ⟨b, o, none⟩ with
  | some v => match lift1 v with
   | some x => match oldCells b (o + 1) n with
    | some xs => some (x :: xs)
    | none => none
   | none => none
  | none => none
def ldCells (h : H) (a : Ad) (n : Nat) : Option (List V) :=
 if n = 0 then some [] else
 match a with
 | .old b o => oldCells W b o n
 | .new i o => match h.get i with
  | some (.cells l _) => if o + n ≤ l.length then some ((l.drop o).take n) else none
  | _ => none
def splice (l : List V) (o : Nat) (vs : List V) : List V := l.take o ++ (vs ++ l.drop (o + vs.length))
def stCells (h : H) (a : Ad) (vs : List V) : Option H :=
 match a with
 | .old _ _ => none
 | .new i o => match h.get i with
  | some (.cells l t) => if vs.all V.one then (if o + vs.length ≤ l.length then some (h.put i (some (.cells (splice l o vs) t))) else none) else none
  | _ => none
def isAgg (t : TypeId) : Option Bool :=
 match P.underlying t with
 | some (.struct _) => some true
 | some (.array _ _) => some true
 | some _ => some false
 | none => none
def sizeOf (t : TypeId) : Option Nat := (P.info? t).map (·.size)
def bytesOf (t : TypeId) : Option Nat := (P.info? t).map (·.bytes)
def zeroOf (t : TypeId) : Option V := match (P.info? t).bind (·.zero) with | some z => lift z | none => none
def ldVar (h : H) (t : TypeId) (a : Ad) : Option V :=
 match isAgg P t with
 | some true => match sizeOf P t with
  | some n => match ldCells W h a n with
   | some l => some (.agg l)
   | none => none
  | none => none
 | some false => match ldCells W h a 1 with
  | some [v] => some v
  | _ => none
 | none => none
def stVar (h : H) (t : TypeId) (a : Ad) (v : V) : Option H :=
 match sizeOf P t with
 | some n => if v.cells.length = n then stCells h a v.cells else none
 | none => none
def part (t : TypeId) (cs : List V) (off : Nat) : Option V :=
 match isAgg P t with
 | some true => match sizeOf P t with
  | some n => some (.agg ((cs.drop off).take n))
  | none => none
 | some false => cs[off]?
 | none => none
def intOp (op : BinOp) (k : IntKind) (x y : Int) : Option V :=
 match op with
 | .add => some (.int k (k.wrap (x + y)))
 | .sub => some (.int k (k.wrap (x - y)))
 | .mul => some (.int k (k.wrap (x * y)))
 | .quo => if y = 0 then none else some (.int k (k.wrap (x.tdiv y)))
 | .rem => if y = 0 then none else some (.int k (x.tmod y))
 | .and => some (.int k (k.wrap (BitVec.ofInt k.bits x &&& BitVec.ofInt k.bits y).toNat))
 | .or => some (.int k (k.wrap (BitVec.ofInt k.bits x ||| BitVec.ofInt k.bits y).toNat))
 | .xor => some (.int k (k.wrap (BitVec.ofInt k.bits x ^^^ BitVec.ofInt k.bits y).toNat))
 | .andNot => some (.int k (k.wrap (BitVec.ofInt k.bits x &&& ~~~BitVec.ofInt k.bits y).toNat))
 | .eql => some (.bool (x == y))
 | .neq => some (.bool (x != y))
 | .lss => some (.bool (x < y))
 | .leq => some (.bool (x ≤ y))
 | .gtr => some (.bool (x > y))
 | .geq => some (.bool (x ≥ y))
 | _ => none
def shiftOp (op : BinOp) (k : IntKind) (x y : Int) : Option V :=
 if y < 0 then none else
 match op with
 | .shl => some (.int k (k.wrap (x * 2 ^ (min y.toNat k.bits))))
 | .shr => some (.int k (x.fdiv (2 ^ (min y.toNat k.bits))))
 | _ => none
def strOp (op : BinOp) (x y : List UInt8) : Option V :=
 match op with
 | .add => if x.length + y.length ≤ 140737488355328 then some (.str (x ++ y)) else none
 | .eql => some (.bool (x == y))
 | .neq => some (.bool (!(x == y)))
 | .lss => some (.bool (Op.bytesLess x y))
 | .leq => some (.bool (Op.bytesLess x y || x == y))
 | .gtr => some (.bool (!(Op.bytesLess x y || x == y)))
 | .geq => some (.bool (!(Op.bytesLess x y)))
 | _ => none
def eqFs (eq : TypeId → V → V → Option Bool) (xs ys : List V) : List Field → Option Bool
 | [] => some true
 | f :: fs => if f.name = "_" then eqFs eq xs ys fs else
  match part P f.type xs f.offset, part P f.type ys f.offset with
  | some a, some b => match eq f.type a b with
   | some true => eqFs eq xs ys fs
   | some false => some false
   | none => none
  | _, _ => none
def eqIn : Nat → TypeId → V → V → Option Bool
 | 0, _, _, _ => none
 | d + 1, t, x, y =>
  match P.underlying t with
  | some .bool => match x, y with | .bool a, .bool b => some (a == b) | _, _ => none
  | some (.int _) => match x, y with | .int k a, .int k' b => if k = k' then some (a == b) else none | _, _ => none
  | some .string => match x, y with | .str a, .str b => some (a == b) | _, _ => none
  | some (.pointer _) => match x, y with
   | .ptr none, .ptr b => some b.isNone
   | .ptr (some _), .ptr none => some false
   | _, _ => none
  | some (.slice _) => match x, y with
   | .slice none _ _ _, .slice b _ _ _ => some b.isNone
   | .slice (some _) _ _ _, .slice none _ _ _ => some false
   | _, _ => none
  | some (.map _ _) => match x, y with
   | .map none, .map b => some b.isNone
   | .map (some _), .map none => some false
   | _, _ => none
  | some (.func _ _ _) => match x, y with
   | .nilfn, .nilfn => some true
   | .nilfn, .fn _ _ => some false
   | .fn _ _, .nilfn => some false
   | _, _ => none
  | some (.struct fs) => match x, y with
   | .agg xs, .agg ys => if P.stoodInHeld t then none else eqFs P (eqIn d) xs ys fs.toList
   | _, _ => none
  | _ => none
def eqOp (t : TypeId) (x y : V) : Option Bool :=
 match x with
 | .agg _ => if P.eqGuardType P.depth t then none else eqIn P 40 t x y
 | .nilif => none
 | _ => eqIn P 40 t x y
def binOp (op : BinOp) (t : TypeId) (x y : V) : Option V :=
 match x, y with
 | .int k a, .int k' b => match op with
  | .shl => shiftOp .shl k a b
  | .shr => shiftOp .shr k a b
  | _ => if k = k' then intOp op k a b else none
 | .str a, .str b => strOp op a b
 | _, _ => match op with
  | .eql => (eqOp P t x y).map .bool
  | .neq => (eqOp P t x y).map fun b => .bool (!b)
  | _ => none
def unOp (op : UnOp) (x : V) : Option V :=
 match op, x with
 | .neg, .int k n => some (.int k (k.wrap (0 - n)))
 | .xor, .int k n => some (.int k (k.wrap (BitVec.ofInt k.bits (if k.signed then -1 else k.max) ^^^ BitVec.ofInt k.bits n).toNat))
 | .not, .bool b => some (.bool (!b))
 | _, _ => none
def intsOf : List V → Option (List UInt8)
 | [] => some []
 | .int .u8 n :: vs => match intsOf vs with | some l => some (UInt8.ofNat n.toNat :: l) | none => none
 | _ => none
def convert (src dst : TypeId) (x : V) (h : H) : Option (V × H) :=
 match P.underlying src, P.underlying dst, x with
 | some _, some (.int k), .int _ n => some (.int k (k.wrap n), h)
 | some _, some .string, .int _ n => some (.str (Utf8.encode n).data.toList, h)
 | some _, some .string, .str s => some (.str s, h)
 | some _, some (.slice e), .str s =>
  match P.underlying e, sizeOf P e with
  | some (.int .u8), some 1 => some (.slice (some (.new h.nx 0)) s.length s.length false, h.alloc (.cells (s.map fun b => .int .u8 b.toNat) e))
  | _, _ => none
 | some (.slice e), some .string, .slice none _ _ _ => match P.underlying e with | some (.int .u8) => some (.str [], h) | _ => none
 | some (.slice e), some .string, .slice (some a) len _ _ =>
  match P.underlying e with
  | some (.int .u8) => match ldCells W h a len with
   | some l => match intsOf l with | some s => some (.str s, h) | none => none
   | none => none
  | _ => none
 | _, _, _ => none
def fillP (place : Nat → Option (Nat × Nat)) (cells : List V) : List (Nat × V) → Option (List V)
 | [] => some cells
 | (i, v) :: rest =>
  match place i with
  | none => none
  | some (off, size) => if v.cells.length = size ∧ off + v.cells.length ≤ cells.length then fillP place (splice cells off v.cells) rest else none
def places : List Field → Option (List (Nat × Nat))
 | [] => some []
 | f :: fs => match sizeOf P f.type, places fs with
  | some n, some l => some ((f.offset, n) :: l)
  | _, _ => none
def rep (z : List V) : Nat → List V
 | 0 => []
 | n + 1 => z ++ rep z n
def build (t : TypeId) (parts : List (Nat × V)) : Option V :=
 match zeroOf P t, P.underlying t with
 | some z, some (.struct fs) => match places P fs.toList with
  | some pl => match fillP (fun i => pl[i]?) z.cells parts with | some l => some (.agg l) | none => none
  | none => none
 | some z, some (.array _ e) => match sizeOf P e with
  | some n => match fillP (fun i => some (i * n, n)) z.cells parts with | some l => some (.agg l) | none => none
  | none => none
 | _, _ => none
def buildSlice (t : TypeId) (len : Nat) (parts : List (Nat × V)) (h : H) : Option (V × H) :=
 match P.underlying t with
 | some (.slice e) => match sizeOf P e, zeroOf P e with
  | some n, some z => if z.cells.length = n ∧ len * n ≤ 16777216 then
    match fillP (fun i => some (i * n, n)) (rep z.cells len) parts with
    | some l => if l.length ≤ 16777216 then some (.slice (some (.new h.nx 0)) len len true, h.alloc (.cells l e)) else none
    | none => none
   else none
  | _, _ => none
 | _ => none
def makeSlice (t : TypeId) (len cap : V) (h : H) : Option (V × H) :=
 match P.underlying t, len, cap with
 | some (.slice e), .int _ l, .int _ c => match sizeOf P e, bytesOf P e, zeroOf P e with
  | some n, some b, some z => if 0 ≤ l ∧ l ≤ c ∧ c.toNat * b ≤ 140737488355328 ∧ c ≤ 140737488355328 ∧ z.cells.length = n then
    some (.slice (some (.new h.nx 0)) l.toNat c.toNat true, h.alloc (.cells (rep z.cells c.toNat) e))
   else none
  | _, _, _ => none
 | _, _, _ => none
def natOf : V → Option Nat
 | .int _ n => if 0 ≤ n then some n.toNat else none
 | _ => none
def optNat : Option V → Option (Option Nat)
 | none => some none
 | some v => match natOf v with | some n => some (some n) | none => none
def cut (a : Option Ad) (size l h m : Nat) : V :=
 .slice (if m = l then a else a.map (·.add (l * size))) (h - l) (m - l) true
def sliceOp (t : TypeId) (x : V) (lo hi mx : Option V) : Option V :=
 match optNat lo, optNat hi, optNat mx with
 | some lo, some hi, some mx =>
  let l := lo.getD 0
  match P.underlying t, x with
  | some .string, .str s =>
   let h := hi.getD s.length
   if mx.isNone ∧ l ≤ h ∧ h ≤ s.length then some (.str ((s.take h).drop l)) else none
  | some (.slice e), .slice a len lb ex => match sizeOf P e with
   | some n =>
    let h := hi.getD len
    match mx with
    | none => if l ≤ h ∧ h ≤ lb then (if ex then some (cut a n l h lb) else some (.slice (a.map (·.add (l * n))) (h - l) (lb - l) false)) else none
    | some m => if hi.isSome ∧ l ≤ h ∧ h ≤ m ∧ m ≤ lb then some (cut a n l h m) else none
   | none => none
  | some (.array n e), .ptr (some a) => match sizeOf P e with
   | some z =>
    let h := hi.getD n
    match mx with
    | none => if l ≤ h ∧ h ≤ n then some (cut (some a) z l h n) else none
    | some m => if hi.isSome ∧ l ≤ h ∧ h ≤ m ∧ m ≤ n then some (cut (some a) z l h m) else none
   | none => none
  | _, _ => none
 | _, _, _ => none
def firstCells (h : H) (size n : Nat) : V → Option (List V)
 | .slice (some a) _ _ _ => ldCells W h a (n * size)
 | .slice none _ _ _ => if n = 0 then some [] else none
 | .str s => some ((s.take n).map fun b => .int .u8 b.toNat)
 | _ => none
def lenOf : V → Option Nat
 | .slice _ n _ _ => some n
 | .str s => some s.length
 | _ => none
def srcOk (at1 : TypeId) (size : Nat) (x : V) : Bool :=
 match P.underlying at1, x with
 | some (.slice _), .slice _ _ _ _ => true
 | some .string, .str _ => size == 1
 | _, _ => false
def appendTo (e : TypeId) (size bytes : Nat) (s : V) (n : Nat) (nc : List V) (h : H) : Option (V × H) :=
 match s with
 | .slice base len lb ex =>
  if nc.length = n * size ∧ nc.all V.one ∧ (len + n) * bytes ≤ 140737488355328 ∧ len + n ≤ 140737488355328 then
   if n = 0 then some (s, h) else
   match base with
   | none => if len = 0 then some (.slice (some (.new h.nx 0)) n n false, h.alloc (.cells nc e)) else none
   | some a =>
    if len + n ≤ lb then match stCells h (a.add (len * size)) nc with
     | some h' => some (.slice (some a) (len + n) lb ex, h')
     | none => none
    else if ex then match ldCells W h a (len * size) with
     | some oc => some (.slice (some (.new h.nx 0)) (len + n) (len + n) false, h.alloc (.cells (oc ++ nc) e))
     | none => none
    else match a with
     | .new i 0 => match h.get i with
      | some (.cells l t) => if t = e ∧ len * size ≤ l.length then
        some (.slice (some (.new h.nx 0)) (len + n) (len + n) false, (h.put i none).alloc (.cells (l.take (len * size) ++ nc) e))
       else none
      | _ => none
     | _ => none
  else none
 | _ => none
def appendOp (at0 at1 : TypeId) (s x : V) (h : H) : Option (V × H) :=
 match P.underlying at0 with
 | some (.slice e) => match sizeOf P e, bytesOf P e, zeroOf P e with
  | some size, some bytes, some z =>
   match lenOf x with
   | some n => if srcOk P at1 size x = true ∧ z.cells.length = size then match firstCells W h size n x with
     | some nc => appendTo W e size bytes s n nc h
     | none => none
    else none
   | none => none
  | _, _, _ => none
 | _ => none
def strSrc : V → Bool
 | .str _ => true
 | _ => false
def copyOp (at0 : TypeId) (d x : V) (h : H) : Option (V × H) :=
 match P.underlying at0, d with
 | some (.slice e), .slice base dl _ _ => match sizeOf P e, lenOf x with
  | some size, some sl =>
   let n := Nat.min sl dl
   if strSrc x = true → size = 1 then match firstCells W h size n x with
   | some cs => match base with
    | none => some (.int .i64 n, h)
    | some a => if n = 0 then some (.int .i64 n, h) else match stCells h a cs with
     | some h' => some (.int .i64 n, h')
     | none => none
   | none => none
   else none
  | _, _ => none
 | _, _ => none
def clearOp (at0 : TypeId) (x : V) (h : H) : Option (V × H) :=
 match P.underlying at0, x with
 | some _, .slice none _ _ _ => some (.undef, h)
 | some _, .map none => some (.undef, h)
 | some (.slice e), .slice (some a) n _ _ => if n = 0 then some (.undef, h) else match zeroOf P e with
  | some z => match stCells h a (rep z.cells n) with
   | some h' => some (.undef, h')
   | none => none
  | none => none
 | _, _ => none
def keyEq : V → V → Option Bool
 | .int k a, .int k' b => if k = k' then some (a == b) else none
 | .str a, .str b => some (a == b)
 | .bool a, .bool b => some (a == b)
 | _, _ => none
def keyOk (t : TypeId) (k : V) : Bool :=
 match P.underlying t, k with
 | some (.int _), .int _ _ => true
 | some .string, .str _ => true
 | some .bool, .bool _ => true
 | _, _ => false
def findKey (k : V) : List (V × V) → Option (Option V)
 | [] => some none
 | (k', v) :: es => match keyEq k k' with
  | some true => some (some v)
  | some false => findKey k es
  | none => none
def setKey (k v : V) : List (V × V) → Option (List (V × V))
 | [] => some [(k, v)]
 | (k', v') :: es => match keyEq k k' with
  | some true => some ((k, v) :: es)
  | some false => match setKey k v es with | some es' => some ((k', v') :: es') | none => none
  | none => none
def mapFind (m k : V) (h : H) : Option (Option V) :=
 match m with
 | .map none => some none
 | .map (some i) => match h.get i with | some (.map es) => findKey k es | _ => none
 | _ => none
def lookup (t : TypeId) (m k : V) (ok : Bool) (h : H) : Option V :=
 match P.underlying t with
 | some (.map kt et) => if keyOk P kt k then
   match zeroOf P et, mapFind m k h with
   | some _, some (some v) => some (if ok then .tup [v, .bool true] else v)
   | some z, some none => some (if ok then .tup [z, .bool false] else z)
   | _, _ => none
  else none
 | _ => none
def mapUpdate (t : TypeId) (m k v : V) (h : H) : Option H :=
 match P.underlying t, m with
 | some (.map kt _), .map (some i) => if keyOk P kt k then
   match h.get i with
   | some (.map es) => match setKey k v es with
    | some es' => some (h.put i (some (.map es')))
    | none => none
   | _ => none
  else none
 | _, _ => none
def decAt (l : List UInt8) (k : Nat) : Nat := (l.getD k 0).toNat
def decode (l : List UInt8) : Nat × Nat :=
 let cont (k : Nat) : Bool := k < l.length && decAt l k / 64 == 2
 let b0 := decAt l 0
 if b0 < 0x80 then (b0, 1)
 else if b0 / 32 == 6 && cont 1 then
  let c := (b0 % 32) * 64 + decAt l 1 % 64
  if c ≥ 0x80 then (c, 2) else (Utf8.runeError, 1)
 else if b0 / 16 == 14 && cont 1 && cont 2 then
  let c := (b0 % 16) * 4096 + (decAt l 1 % 64) * 64 + decAt l 2 % 64
  if c ≥ 0x800 && Utf8.valid c then (c, 3) else (Utf8.runeError, 1)
 else if b0 / 8 == 30 && cont 1 && cont 2 && cont 3 then
  let c := (b0 % 8) * 262144 + (decAt l 1 % 64) * 4096 + (decAt l 2 % 64) * 64 + decAt l 3 % 64
  if c ≥ 0x10000 && Utf8.valid c then (c, 4) else (Utf8.runeError, 1)
 else (Utf8.runeError, 1)
def nextOp (it : V) (h : H) : Option (V × H) :=
 match it with
 | .ptr (some (.new i 0)) => match h.get i with
  | some (.siter s pos) => if pos < s.length then
    let d := decode (s.drop pos)
    some (.tup [.bool true, .int .i64 pos, .int .i32 d.1], h.put i (some (.siter s (pos + d.2))))
   else some (.tup [.bool false], h)
  | _ => none
 | _ => none
inductive Res where
 | val (v : V) (h : H)
 | call (f : FuncId) (args : List V)
 | round (l : Nat) (args : List V)
 | bad
 deriving Inhabited
def ev (env : List V) : Operand → Option V
 | .tmp t => some (env.getD t .undef)
 | .const v => lift v
 | .global g => some (.ptr (some (.old g 0)))
 | .func f => some (.fn f [])
def evL (env : List V) : List Operand → Option (List V)
 | [] => some []
 | x :: xs => match ev env x with
  | some v => match evL env xs with | some vs => some (v :: vs) | none => none
  | none => none
def evP (env : List V) : List (Nat × Operand) → Option (List (Nat × V))
 | [] => some []
 | (i, x) :: xs => match ev env x with
  | some v => match evP env xs with | some vs => some ((i, v) :: vs) | none => none
  | none => none
def evO (env : List V) : Option Operand → Option (Option V)
 | none => some none
 | some x => match ev env x with | some v => some (some v) | none => none
def Res.of (r : Option (V × H)) : Res := match r with | some (v, h) => .val v h | none => .bad
def Res.pure (h : H) (r : Option V) : Res := match r with | some v => .val v h | none => .bad
def Res.unit (r : Option H) : Res := match r with | some h => .val .undef h | none => .bad
def builtinOp (b : Builtin) (ts : Array TypeId) (args : List V) (h : H) : Res :=
 match b, ts.toList, args with
 | .append, [t0, t1], [s, x] => .of (appendOp P W t0 t1 s x h)
 | .len, [t0], [x] => match P.underlying t0, x with
  | some .string, .str s => .val (.int .i64 s.length) h
  | some (.slice _), .slice _ n _ _ => .val (.int .i64 n) h
  | some (.array n _), _ => .val (.int .i64 n) h
  | some (.map _ _), .map none => .val (.int .i64 0) h
  | some (.map _ _), .map (some i) => match h.get i with | some (.map es) => .val (.int .i64 es.length) h | _ => .bad
  | _, _ => .bad
 | .cap, [t0], [x] => match P.underlying t0, x with
  | some (.slice _), .slice _ _ c true => .val (.int .i64 c) h
  | _, _ => .bad
 | .copy, [t0, _], [d, x] => .of (copyOp P W t0 d x h)
 | .clear, [t0], [x] => .of (clearOp P t0 x h)
 | .max, _, [.int k a, .int _ b] => .val (.int k (if b > a then b else a)) h
 | .min, _, [.int k a, .int _ b] => .val (.int k (if b < a then b else a)) h
 | _, _, _ => .bad
def opStep (o : Op) (env : List V) (h : H) : Res :=
 match o with
 | .move x | .assign x => .pure h (ev env x)
 | .pick c a b => match ev env c with
  | some (.bool t) => .pure h (ev env (if t then a else b))
  | _ => .bad
 | .alloc e => match zeroOf P e with
  | some z => if z.cells.length ≤ 16777216 then .val (.ptr (some (.new h.nx 0))) (h.alloc (.cells z.cells e)) else .bad
  | none => .bad
 | .box e x => match ev env x with
  | some v => if v.cells.all V.one then (if v.cells.length ≤ 16777216 then .val (.ptr (some (.new h.nx 0))) (h.alloc (.cells v.cells e)) else .bad) else .bad
  | none => .bad
 | .build t parts => match evP env parts.toList with | some ps => .pure h (build P t ps) | none => .bad
 | .buildSlice t n parts => match evP env parts.toList with | some ps => .of (buildSlice P t n ps h) | none => .bad
 | .load t a => match ev env a with | some (.ptr (some a)) => .pure h (ldVar P W h t a) | _ => .bad
 | .store t a x => match ev env a, ev env x with | some (.ptr (some a)), some v => .unit (stVar P h t a v) | _, _ => .bad
 | .nilCheck x => match ev env x with
  | some (.ptr (some a)) => .val (.ptr (some a)) h
  | some (.fn f c) => .val (.fn f c) h
  | some (.yld l) => .val (.yld l) h
  | _ => .bad
 | .binOp op t x y _ => match ev env x, ev env y with | some a, some b => .pure h (binOp P op t a b) | _, _ => .bad
 | .unOp op _ x => match ev env x with | some a => .pure h (unOp op a) | none => .bad
 | .convert s d x => match ev env x with | some a => .of (convert P W s d a h) | none => .bad
 | .makeFunc fn first cs => match fn, first.toList with
  | .func f, [] => match evL env cs.toList with | some vs => .val (.fn f vs) h | none => .bad
  | _, _ => .bad
 | .makeMap t r => match P.underlying t, r with | some (.map _ _), none => .val (.map (some h.nx)) (h.alloc (.map [])) | _, _ => .bad
 | .makeSlice t l c => match ev env l, ev env c with | some l, some c => .of (makeSlice P t l c h) | _, _ => .bad
 | .slice t x lo hi mx => match ev env x, evO env lo, evO env hi, evO env mx with
  | some x, some lo, some hi, some mx => .pure h (sliceOp P t x lo hi mx)
  | _, _, _, _ => .bad
 | .fieldAddr t x i => match P.underlying t, ev env x with
  | some (.struct fs), some (.ptr (some a)) => match fs[i]? with
   | some f => match sizeOf P f.type with
    | some (_ + 1) => .val (.ptr (some (a.add f.offset))) h
    | _ => .bad
   | none => .bad
  | _, _ => .bad
 | .field t x i => match P.underlying t, ev env x with
  | some (.struct fs), some (.agg cs) => match fs[i]? with
   | some f => .pure h (part P f.type cs f.offset)
   | none => .bad
  | _, _ => .bad
 | .indexAddr t x i => match P.underlying t, ev env x, ev env i with
  | some (.slice e), some (.slice (some a) len _ _), some (.int _ n) => match sizeOf P e with
   | some z => if 0 ≤ n ∧ n < len then .val (.ptr (some (a.add (n.toNat * z)))) h else .bad
   | none => .bad
  | some (.array len e), some (.ptr (some a)), some (.int _ n) => match sizeOf P e with
   | some z => if 0 ≤ n ∧ n < len then .val (.ptr (some (a.add (n.toNat * z)))) h else .bad
   | none => .bad
  | _, _, _ => .bad
 | .index t x i => match P.underlying t, ev env x, ev env i with
  | some .string, some (.str s), some (.int _ n) => if 0 ≤ n then match s[n.toNat]? with
    | some b => .val (.int .u8 b.toNat) h
    | none => .bad
   else .bad
  | some (.array len e), some (.agg cs), some (.int _ n) => match sizeOf P e with
   | some z => if 0 ≤ n ∧ n < len then .pure h (part P e cs (n.toNat * z)) else .bad
   | none => .bad
  | _, _, _ => .bad
 | .lookup t m k ok => match ev env m, ev env k with | some m, some k => .pure h (lookup P t m k ok h) | _, _ => .bad
 | .mapUpdate t m k x | .insert t m k x => match ev env m, ev env k, ev env x with
  | some m, some k, some x => .unit (mapUpdate P t m k x h)
  | _, _, _ => .bad
 | .range t x => match P.underlying t, ev env x with
  | some .string, some (.str s) => .val (.ptr (some (.new h.nx 0))) (h.alloc (.siter s 0))
  | _, _ => .bad
 | .next it str => if str then match ev env it with | some v => .of (nextOp v h) | none => .bad else .bad
 | .extract t i => match ev env t with
  | some (.tup l) => match l[i]? with | some v => .val v h | none => .bad
  | _ => .bad
 | .call c => match c.callee with
  | .value f => match ev env f, evL env c.args.toList with
   | some (.fn g cap), some args => .call g (args ++ cap)
   | some (.yld l), some args => .round l args
   | _, _ => .bad
  | .builtin b => match evL env c.args.toList with | some args => builtinOp P W b c.argTypes args h | none => .bad
  | .invoke _ _ => .bad
 | _ => .bad
structure St where
 env : List V
 ds : List Nat
 h : H
 deriving Inhabited
inductive Ex where
 | norm | ret | exit (id : Nat)
 deriving Inhabited
abbrev CodeF := Option Nat → Code → St → Option (Ex × St)
abbrev CallF := FuncId → List V → H → Option (V × H)
structure IH where
 code : CodeF
 call : CallF
def putTmp (dst : Option Tmp) (v : V) (st : St) : St :=
 match dst with
 | some d => { st with env := st.env.set d v }
 | none => st
def setTmps (env : List V) : List (Tmp × V) → List V
 | [] => env
 | (t, v) :: r => setTmps (env.set t v) r
def doRound (ih : IH) (l : Nat) (args : List V) (h : H) : Option (V × H) :=
 match h.get l with
 | some (.loop tmps ps assign body .ready _ _) =>
  if args.length = ps.size then
   match ih.code (some l) assign ⟨setTmps tmps (ps.toList.zip args), [], h⟩ with
   | some (.norm, st) => match st.ds, st.h.get l with
    | [], some (.loop tmps' ps' assign' body' .ready pd' d') =>
     match ih.code (some l) body { st with h := st.h.put l (some (.loop tmps' ps' assign' body' .busy pd' d')) } with
     | some (ex, st2) => match st2.ds, st2.h.get l with
      | [], some (.loop a b c e .busy _ g) =>
       match ex with
       | .norm => some (.bool true, st2.h.put l (some (.loop a b c e .ready none g)))
       | .ret => some (.bool false, st2.h.put l (some (.loop a b c e .done (some .ret) g)))
       | .exit id => some (.bool false, st2.h.put l (some (.loop a b c e .done (some (.exit id)) g)))
      | _, _ => none
     | none => none
    | _, _ => none
   | _ => none
  else none
 | _ => none
def guardOk (ops : Array Oper) (o : Oper) (env : List V) : Bool :=
 match o.guard with
 | none => true
 | some (j, want) => match (ops[j]?).bind (·.dst) with
  | some t => match env[t]? with
   | some (.bool b) => b == want
   | _ => false
  | none => false
def runOp (ih : IH) (o : Op) (env : List V) (h : H) : Option (V × H) :=
 match opStep P W o env h with
 | .val v h' => some (v, h')
 | .call f args => ih.call f args h
 | .round l args => doRound ih l args h
 | .bad => none
def doOp (ih : IH) (ops : Array Oper) (o : Oper) (st : St) : Option St :=
 if guardOk ops o st.env then
  match runOp P W ih o.op st.env st.h with
  | some (v, h) => some (putTmp o.dst v { st with h := h })
  | none => none
 else some (putTmp o.dst .undef st)
def doOps (ih : IH) (ops : Array Oper) : List Oper → St → Option St
 | [], st => some st
 | o :: os, st => match doOp P W ih ops o st with
  | some st' => doOps ih ops os st'
  | none => none
/-! ### A region that leaves its order open
 The order that is taken here: each operation that writes, in the text's order, and ahead of it what it hangs on; what is left comes last. What only reads must read the same wherever it may come. -/
def cls : Op → Nat
 | .move .. | .assign .. | .pick .. | .build .. | .nilCheck .. | .unOp .. | .binOp .. | .makeFunc .. | .slice .. | .fieldAddr .. | .field .. | .indexAddr .. | .index .. | .extract .. => 1
 | .load .. => 2
 | .alloc .. | .box .. | .buildSlice .. | .makeSlice .. => 3
 | .call c => match c.callee with
  | .builtin .len | .builtin .cap | .builtin .max | .builtin .min => 1
  | _ => 0
 | _ => 0
def reads (env : List V) : Op → Option Nat
 | .load _ a => match ev env a with | some (.ptr (some (.new i _))) => some i | _ => none
 | .call c => match evL env c.args.toList with | some [.map (some i)] => some i | _ => none
 | _ => none
def maskOf (acc : List Nat) (es : List Edge) : Nat := es.foldl (fun m e => if Region.binds .any e then m ||| 2 ^ e.on ||| acc.getD e.on 0 else m) 0
def masksGo : List Oper → List Nat → List Nat
 | [], acc => acc
 | o :: r, acc => masksGo r (acc ++ [maskOf acc o.after.toList])
def bit (ms : List Nat) (i j : Nat) : Bool := (ms.getD i 0).testBit j
def withEdge (ms : List Nat) : Option (Nat × Nat) → List Nat
 | none => ms
 | some (a, b) => (List.range ms.length).map fun i => if i = b ∨ bit ms i b = true then ms.getD i 0 ||| (2 ^ a ||| ms.getD a 0) else ms.getD i 0
def orderGo (ms : List Nat) : List Nat → List Nat → List Nat
 | [], rest => rest
 | w :: ws, rest => (rest.filter fun i => bit ms w i) ++ w :: orderGo ms ws (rest.filter fun i => !bit ms w i)
def isW (ops : Array Oper) (j : Nat) : Bool := match ops[j]? with | some o => cls o.op == 0 | none => false
def wList (ops : Array Oper) (x : Option (Nat × Nat)) : List Nat :=
 let ws := (List.range ops.size).filter fun j => isW ops j
 match x with
 | none => ws
 | some (a, b) => if a < b then ws else ws.filter (fun j => j != a && j != b) ++ [a, b]
def looks (ops : Array Oper) (o : Oper) : List Tmp :=
 (o.op.operands.toList.filterMap fun | .tmp t => some t | _ => none) ++
 (match o.guard with
  | some (g, _) => ((ops[g]?).bind (·.dst)).toList
  | none => [])
def tmpsOk (ops : Array Oper) (ms : List Nat) (D i : Nat) (ts : List Tmp) : List Nat → Bool
 | [] => true
 | j :: r => (match (ops[j]?).bind (·.dst) with
   | some t => if j ≠ i ∧ t ∈ ts then (if D.testBit j then bit ms i j else bit ms j i) else true
   | none => true) && tmpsOk ops ms D i ts r
def okGo (ops : Array Oper) (ms : List Nat) : List Nat → Nat → Bool
 | [], D => decide (D + 1 = 2 ^ ops.size)
 | i :: r, D => match ops[i]? with
  | none => false
  | some o => !D.testBit i && (!(cls o.op == 0) || decide (D &&& ms.getD i 0 = D)) && tmpsOk ops ms D i (o.dst.toList ++ looks ops o) (List.range ops.size) &&
   o.after.toList.all (fun e => !Region.binds .any e || decide (e.on < i)) && okGo ops ms r (D ||| 2 ^ i)
def plan (ops : Array Oper) (x : Option (Nat × Nat)) : Option (List Nat × List Nat) :=
 let ms := withEdge (masksGo ops.toList []) x
 let ws := wList ops x
 let L := orderGo ms ws ((List.range ops.size).filter fun j => !isW ops j)
 if okGo ops ms L 0 then some (L, ms) else none
structure Tie where
 M : List Nat
 A : List Nat
 B : List Nat
 ms : List Nat
 a : Nat
 b : Nat
 pa : Operand
 pb : Operand
def isStore (ops : Array Oper) (i : Nat) : Option Operand := match ops[i]? with
 | some o => match o.op, o.guard, o.dst with
  | .store _ a _, none, none => some a
  | _, _, _ => none
 | none => none
def calm (o : Oper) : Bool := o.guard.isNone && (cls o.op == 1) && (match o.op with | .call _ => false | _ => true)
def dstApart (o o' : Oper) : Bool := match o.dst with
 | some t => o'.op.operands.toList.all (fun | .tmp u => !(u == t) | _ => true) && !(o'.dst == some t)
 | none => true
def swapOk (ops : Array Oper) (i j : Nat) : Bool := match ops[i]?, ops[j]? with
 | some o, some o' => calm o && (calm o' || (isStore ops j).isSome) && dstApart o o' && dstApart o' o
 | _, _ => false
def tieOf (ops : Array Oper) : Option Tie :=
 let ms := masksGo ops.toList []
 match ((List.range ops.size).filter fun j => isW ops j).reverse with
 | b :: a :: ws =>
  let nw := (List.range ops.size).filter fun j => !isW ops j
  let L := orderGo ms ws.reverse nw
  let R := nw.filter fun i => !(ws.any fun w => bit ms w i)
  let M := L.take (L.length - R.length)
  let A := R.filter fun i => bit ms a i
  let B := R.filter fun i => !bit ms a i
  match isStore ops a, isStore ops b with
  | some pa, some pb => if okGo ops (withEdge ms (some (a, b))) (M ++ (A ++ a :: (B ++ [b]))) 0 && (okGo ops (withEdge ms (some (b, a))) (M ++ (B ++ b :: (A ++ [a]))) 0 &&
    ((A.all fun i => B.all fun j => swapOk ops i j) && ((B.all fun i => swapOk ops i a) && (A.all fun i => swapOk ops i b)))) then some ⟨M, A, B, ms, a, b, pa, pb⟩ else none
  | _, _ => none
 | _ => none
def tieB (env : List V) (pa pb : Operand) : Bool :=
 match ev env pa, ev env pb with
 | some (.ptr (some (.new i _))), some (.ptr (some (.new j _))) => !(i == j)
 | _, _ => false
mutual
def V.beq : V → V → Bool
 | .bool a, .bool b => a == b
 | .int k a, .int k' b => decide (k = k') && decide (a = b)
 | .str a, .str b => decide (a = b)
 | .ptr a, .ptr b => decide (a = b)
 | .slice a l c e, .slice a' l' c' e' => decide (a = a') && (decide (l = l') && (decide (c = c') && decide (e = e')))
 | .map a, .map b => decide (a = b)
 | .fn f c, .fn f' c' => decide (f = f') && V.beqL c c'
 | .yld a, .yld b => decide (a = b)
 | .nilfn, .nilfn => true
 | .nilif, .nilif => true
 | .agg a, .agg b => V.beqL a b
 | .tup a, .tup b => V.beqL a b
 | _, _ => false
def V.beqL : List V → List V → Bool
 | [], [] => true
 | a :: xs, b :: ys => V.beq a b && V.beqL xs ys
 | _, _ => false
end
def sameGo (o : Op) (env : List V) (v : V) (ms : List Nat) (i id : Nat) : List (Nat × H) → Bool
 | [] => true
 | (j, hs) :: r =>
  (bit ms i j || decide (hs.nx ≤ id) || (match opStep P W o env hs with
    | .val v' _ => V.beq v' v
    | _ => false)) && sameGo o env v ms i id r
def sameAt (o : Op) (env : List V) (v : V) (ms : List Nat) (i : Nat) (sn : List (Nat × H)) : Bool :=
 match reads env o with
 | none => true
 | some id => cls o == 2 && sameGo P W o env v ms i id sn
def drawGo (ih : IH) (ops : Array Oper) (ms : List Nat) : List Nat → List (Nat × H) → St → Option St
 | [], _, st => some st
 | i :: r, sn, st => match ops[i]? with
  | none => none
  | some o =>
   if guardOk ops o st.env then
    if cls o.op = 0 then match runOp P W ih o.op st.env st.h with
     | some (v, h) => drawGo ih ops ms r ((i, st.h) :: sn) (putTmp o.dst v { st with h := h })
     | none => none
    else match opStep P W o.op st.env st.h with
     | .val v h => if sameAt P W o.op st.env v ms i sn then drawGo ih ops ms r sn (putTmp o.dst v { st with h := h }) else none
     | _ => none
   else drawGo ih ops ms r sn (putTmp o.dst .undef st)
def doDraw (ih : IH) (ops : Array Oper) (st : St) : Option St :=
 match plan ops none with
 | some (L, ms) => drawGo P W ih ops ms L [] st
 | none => match tieOf ops with
  | some t => match drawGo P W ih ops t.ms (t.M ++ (t.A ++ t.B)) [] st with
   | some st1 => if tieB st1.env t.pa t.pb then drawGo P W ih ops t.ms [t.a, t.b] [] st1 else none
   | none => none
  | none => none
def doRange (ih : IH) (r : Option Nat) (g : Operand) (ps : Array Tmp) (assign body : Code) (st : St) : Option (Ex × St) :=
 match ev st.env g with
 | some (.fn gf cap) =>
  let start : Option (Nat × List Nat × H) := match r with
   | none => some (st.h.nx, st.h.nx :: st.ds, st.h.alloc .dfr)
   | some l => match st.h.get l with
    | some (.loop _ _ _ _ _ _ d) => some (d, st.ds, st.h)
    | _ => none
  match start with
  | none => none
  | some (d, ds, h1) =>
   match ih.call gf (.yld h1.nx :: cap) (h1.alloc (.loop st.env ps assign body .ready none d)) with
   | some (_, h3) => match h3.get h1.nx with
    | some (.loop a b c e .ready none g') => some (.norm, ⟨st.env, ds, h3.put h1.nx (some (.loop a b c e .exhausted none g'))⟩)
    | some (.loop a b c e .done (some j) g') => ih.code r j ⟨st.env, ds, h3.put h1.nx (some (.loop a b c e .exhausted (some j) g'))⟩
    | _ => none
   | none => none
 | _ => none
def loopGo (f : St → Option (Ex × St)) (k : Nat) : St → Option (Ex × St) :=
 Nat.rec (fun _ => none) (fun _ go st => match f st with
  | some (.norm, st') => go st'
  | x => x) k
def codeStep (k : Nat) (ih : IH) (r : Option Nat) (c : Code) (st : St) : Option (Ex × St) :=
 match c with
 | .skip => some (.norm, st)
 | .label _ => some (.norm, st)
 | .region _ ops false => match doOps P W ih ops ops.toList st with
  | some st' => some (.norm, st')
  | none => none
 | .region _ ops true => match doDraw P W ih ops st with
  | some st' => some (.norm, st')
  | none => none
 | .seq a b => match ih.code r a st with
  | some (.norm, st') => ih.code r b st'
  | x => x
 | .cond c a b => match ev st.env c with
  | some (.bool t) => ih.code r (if t then a else b) st
  | _ => none
 | .block id b => match ih.code r b st with
  | some (.exit i, st') => if i = id then some (.norm, st') else some (.exit i, st')
  | x => x
 | .loop b => loopGo (ih.code r b) k st
 | .rangeFunc g ps assign body => doRange ih r g ps assign body st
 | .exit id => some (.exit id, st)
 | .scope b => ih.code r b st
 | .ret => some (.ret, st)
 | .goto _ => none
 | .refuse _ => none
def resultsL (env : List V) (h : H) : List ResultVar → Option (List V)
 | [] => some []
 | .tmp t :: rs => match resultsL env h rs with | some l => some (env.getD t .undef :: l) | none => none
 | .cell a t :: rs => match env.getD a .undef with
  | .ptr (some ad) => match ldVar P W h t ad, resultsL env h rs with
   | some v, some l => some (v :: l)
   | _, _ => none
  | _ => none
def resultsOf (fn : Func) (env : List V) (h : H) : Option V :=
 match resultsL P W env h fn.results.toList with
 | some [v] => some v
 | some l => some (.tup l)
 | none => none
def shut : List Nat → H → Option H
 | [], h => some h
 | d :: ds, h => match h.get d with
  | some .dfr => shut ds (h.put d none)
  | _ => none
variable (prim : FuncId → Option (List V → H → Option (V × H)))
def callStep (ih : IH) (f : FuncId) (args : List V) (h : H) : Option (V × H) :=
 match prim f with
 | some p => p args h
 | none => match P.funcs[f]? with
  | some fn => match fn.body with
   | some c =>
    match ih.code none c ⟨args ++ List.replicate (fn.ntmps - args.length) .undef, [], h⟩ with
    | some (.norm, st) | some (.ret, st) => match shut st.ds st.h with
     | some h' => match resultsOf P W fn st.env h' with
      | some v => some (v, h')
      | none => none
     | none => none
    | _ => none
   | none => none
  | none => none
def run (n : Nat) : IH :=
 Nat.rec ⟨fun _ _ _ => none, fun _ _ _ => none⟩ (fun k ih => ⟨codeStep P W k ih, callStep P W prim ih⟩) n
end
end Go.Proofs.YtkhjmgchlbnkjaaDoor.Dg
