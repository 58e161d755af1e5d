/- One operation, carried out on abstract values and abstract memory. -/
import Derived.Test.YtkihnmpjpbfiaaaDoorEv1
set_option linter.unusedVariables false
set_option linter.unusedSimpArgs false
namespace Go.Proofs.YtkihnmpjpbfiaaaDoor.Ev
open Go

deriving instance DecidableEq for CK

def ofVal : Value → AV
  | .int k n => .n k n
  | .bool b => .b b
  | .string s => .str s
  | x => .v x

def AV.w : AV → Nat
  | .vec _ m _ => m
  | _ => 1

/-- Values that surely take one cell. -/
def AV.one : AV → Bool
  | .n .. | .i .. | .b .. | .c .. | .str .. | .p .. | .pe .. | .q .. | .s .. | .x .. | .xq .. | .f .. => true
  | .v y => y.oneCell'
  | _ => false

def takeW : List AV → Nat → Option (List AV × List AV)
  | [], n => if n = 0 then some ([], []) else none
  | a :: l, n => if n = 0 then some ([], a :: l) else
      if a.w ≤ n then match takeW l (n - a.w) with
        | some (x, y) => some (a :: x, y)
        | none => none
      else match a with
        | .vec k m xs => some ([.vec k n (xs.take n)], .vec k (m - n) (xs.drop n) :: l)
        | _ => none

def cellAt : List AV → Nat → Option AV
  | [], _ => none
  | .vec k n xs :: l, o => if o < n then some (.i k (xs.getD o 0)) else cellAt l (o - n)
  | a :: l, o => if o = 0 then some a else cellAt l (o - 1)

def setAt : List AV → Nat → AV → Option (List AV)
  | [], _, _ => none
  | .vec k n xs :: l, o, x => if o < n then
      match x with
      | .n k' i | .i k' i => if k' = k then some (.vec k n (xs.set o i) :: l) else none
      | _ => none
    else match setAt l (o - n) x with
      | some r => some (.vec k n xs :: r)
      | none => none
  | a :: l, o, x => if o = 0 then (if x.one then some (x :: l) else none) else match setAt l (o - 1) x with
      | some r => some (a :: r)
      | none => none

/-- The int row that begins at this place. -/
def vecAt : List AV → Nat → Option (IntKind × Nat × List Int)
  | [], _ => none
  | .vec k n xs :: l, o => if o = 0 then some (k, n, xs) else if n ≤ o then vecAt l (o - n) else none
  | _ :: l, o => if o = 0 then none else vecAt l (o - 1)

def setVec : List AV → Nat → List Int → Option (List AV)
  | [], _, _ => none
  | .vec k n xs :: l, o, ys => if o = 0 then some (.vec k n ys :: l) else if n ≤ o then (match setVec l (o - n) ys with
      | some r => some (.vec k n xs :: r)
      | none => none) else none
  | a :: l, o, ys => if o = 0 then none else match setVec l (o - 1) ys with
      | some r => some (a :: r)
      | none => none

def setSeg (l : List AV) (off n : Nat) (new : List AV) : Option (List AV) :=
  match takeW l off with
  | some (pre, rest) => match takeW rest n with
    | some (_, post) => some (pre ++ new ++ post)
    | none => none
  | none => none

def widths : List AV → Nat
  | [] => 0
  | a :: l => a.w + widths l

/-! ### Rows by their contents -/
def CK.av (c : CK) (x : Cell) : AV :=
  match c with
  | .int k => .i k x.i
  | .str => .str x.s
  | .bool => .c x.b

def recAVs : List CK → List Cell → List AV
  | [], _ => []
  | c :: cs, e => c.av (e.headD {}) :: recAVs cs e.tail

def RC.get (rc : RC) (idx fld : Nat) : Option AV :=
  match rc with
  | .bytes l => if fld = 0 then some (.i .u8 (l.getD idx 0).toNat) else none
  | .ints k l => if fld = 0 then some (.i k (l.getD idx 0)) else none
  | .strs l => if fld = 0 then some (.str (l.getD idx .empty)) else none
  | .recs s l => match s[fld]? with
    | some c => some (c.av ((l.getD idx []).getD fld {}))
    | none => none

def RC.elem (rc : RC) (idx : Nat) : Option (List AV) :=
  match rc with
  | .recs s l => some (recAVs s (l.getD idx []))
  | _ => none

def avInt? : AV → Option (IntKind × Int)
  | .n k i => some (k, i)
  | .i k i => some (k, i)
  | _ => none

def RC.set (rc : RC) (idx fld : Nat) (x : AV) : Option (RC × Prop) :=
  match rc, x with
  | .bytes l, .n .u8 e | .bytes l, .i .u8 e => if fld = 0 then some (.bytes (l.set idx (UInt8.ofNat e.toNat)), 0 ≤ e ∧ e < 256) else none
  | .ints k l, .n k' e | .ints k l, .i k' e => if fld = 0 ∧ k' = k then some (.ints k (l.set idx e), True) else none
  | .strs l, .str s => if fld = 0 then some (.strs (l.set idx s), True) else none
  | _, _ => none

def RC.sub (rc : RC) (lo n : Nat) : RC :=
  match rc with
  | .bytes l => .bytes ((l.drop lo).take n)
  | .ints k l => .ints k ((l.drop lo).take n)
  | .strs l => .strs ((l.drop lo).take n)
  | .recs s l => .recs s ((l.drop lo).take n)

def RC.app (a b : RC) : Option RC :=
  match a, b with
  | .bytes l, .bytes m => some (.bytes (l ++ m))
  | .ints k l, .ints k' m => if k = k' then some (.ints k (l ++ m)) else none
  | .strs l, .strs m => some (.strs (l ++ m))
  | .recs s l, .recs s' m => if s = s' then some (.recs s (l ++ m)) else none
  | _, _ => none

/-- The same kind of row, without elements. -/
def RC.nil : RC → RC
  | .bytes _ => .bytes []
  | .ints k _ => .ints k []
  | .strs _ => .strs []
  | .recs s _ => .recs s []

def allU8 : List Int → Prop
  | [] => True
  | x :: l => (0 ≤ x ∧ x < 256) ∧ allU8 l
def toBytes : List Int → List UInt8
  | [] => []
  | x :: l => UInt8.ofNat x.toNat :: toBytes l

def byteCells : List AV → Option (List UInt8 × Prop)
  | [] => some ([], True)
  | .n .u8 e :: r => match byteCells r with
    | some (l, p) => some (UInt8.ofNat e.toNat :: l, (0 ≤ e ∧ e < 256) ∧ p)
    | none => none
  | .i .u8 e :: r => match byteCells r with
    | some (l, p) => some (UInt8.ofNat e.toNat :: l, (0 ≤ e ∧ e < 256) ∧ p)
    | none => none
  | .vec .u8 _ xs :: r => match byteCells r with
    | some (l, p) => some (toBytes xs ++ l, allU8 xs ∧ p)
    | none => none
  | _ => none

def intCells (k : IntKind) : List AV → Option (List Int)
  | [] => some []
  | .n k' e :: r => if k' = k then match intCells k r with
    | some l => some (e :: l)
    | none => none else none
  | .i k' e :: r => if k' = k then match intCells k r with
    | some l => some (e :: l)
    | none => none else none
  | .vec k' n xs :: r => if k' = k then match intCells k r with
    | some l => some (xs ++ l)
    | none => none else none
  | _ => none

def strCells : List AV → Option (List ByteArray)
  | [] => some []
  | .str s :: r => match strCells r with
    | some l => some (s :: l)
    | none => none
  | _ => none

def recCell : List CK → List AV → Option (List Cell × List AV)
  | [], r => some ([], r)
  | .int k :: cs, .n k' e :: r => if k' = k then match recCell cs r with
    | some (l, r) => some ({ i := e } :: l, r)
    | none => none else none
  | .int k :: cs, .i k' e :: r => if k' = k then match recCell cs r with
    | some (l, r) => some ({ i := e } :: l, r)
    | none => none else none
  | .str :: cs, .str s :: r => match recCell cs r with
    | some (l, r) => some ({ s := s } :: l, r)
    | none => none
  | .bool :: cs, .b b :: r => match recCell cs r with
    | some (l, r) => some ({ b := b } :: l, r)
    | none => none
  | .bool :: cs, .c b :: r => match recCell cs r with
    | some (l, r) => some ({ b := b } :: l, r)
    | none => none
  | _, _ => none

def recCells (s : List CK) : Nat → List AV → Option (List (List Cell))
  | 0, r => match r with
    | [] => some []
    | _ => none
  | n + 1, r => match recCell s r with
    | some (c, r') => match recCells s n r' with
      | some l => some (c :: l)
      | none => none
    | none => none

/-- Written-out cells as the contents of a row of the kind of 'rc'; n: how many elements. -/
def fromCells (rc : RC) (n : Nat) (l : List AV) : Option (RC × Prop) :=
  match rc with
  | .bytes _ => match byteCells l with
    | some (x, p) => if x.length = n then some (.bytes x, p) else none
    | none => none
  | .ints k _ => match intCells k l with
    | some x => if x.length = n then some (.ints k x, True) else none
    | none => none
  | .strs _ => match strCells l with
    | some x => if x.length = n then some (.strs x, True) else none
    | none => none
  | .recs s _ => match recCells s n l with
    | some x => some (.recs s x, True)
    | none => none

/-- What a slice of this kind reads as; under which condition. -/
def view (H : Nat → AB) (kind : RC) (a : AV) : Option (RC × Prop) :=
  match a with
  | .v (.slice none 0 0) => some (kind.nil, True)
  | .x rc => some (rc, True)
  | .s id w lo len => match H id with
    | .row _ rc => if rc.w = w then some (rc.sub lo.v len.v, lo.v + len.v ≤ rc.len) else none
    | .cells _ l => match lo, len with
      | .l lo, .l n => match takeW l (lo * w) with
        | some (_, r) => match takeW r (n * w) with
          | some (x, _) => if kind.w = w then fromCells kind n x else none
          | none => none
        | none => none
      | lo, len => match l, kind with
        | [.vec k n xs], .ints k' _ => if k = k' ∧ w = 1 then some (.ints k ((xs.drop lo.v).take len.v), lo.v + len.v ≤ n) else none
        | [.vec .u8 n xs], .bytes _ => if w = 1 then some (.bytes (toBytes ((xs.drop lo.v).take len.v)), lo.v + len.v ≤ n ∧ allU8 ((xs.drop lo.v).take len.v)) else none
        | _, _ => none
    | _ => none
  | _ => none

/-! ### Types -/
def isAggT (P : Program) (t : TypeId) : Option Bool :=
  match P.underlying t with
  | some (.struct _) => some true
  | some (.array _ _) => some true
  | some _ => some false
  | none => none

def ckOf (P : Program) (t : TypeId) : Option CK :=
  match P.underlying t with
  | some (.int k) => some (.int k)
  | some .string => some .str
  | some .bool => some .bool
  | _ => none

def ckFields (P : Program) : List Field → Nat → Option (List CK)
  | [], _ => some []
  | f :: r, o => if f.offset = o then match ckOf P f.type with
    | some c => match ckFields P r (o + 1) with
      | some l => some (c :: l)
      | none => none
    | none => none else none

/-- The kind of a row whose elements have this type. -/
def kindOf (P : Program) (e : TypeId) : Option RC :=
  match P.underlying e with
  | some (.int .u8) => some (.bytes [])
  | some (.int k) => some (.ints k [])
  | some .string => some (.strs [])
  | some (.struct fs) => match ckFields P fs.toList 0 with
    | some s => some (.recs s [])
    | none => none
  | _ => none

def infoOk (P : Program) (t : TypeId) : Bool := (P.info? t).isSome

/-- Zero cells: rows of 16 and more ints are kept as one. -/
inductive Shape where
  | one
  | vec (k : IntKind) (n : Nat)

def shapeOf (P : Program) : Nat → TypeId → List Shape
  | 0, _ => []
  | d + 1, t => match P.underlying t with
    | some (.struct fs) => fs.toList.flatMap fun f => shapeOf P d f.type
    | some (.array n e) => match P.underlying e with
      | some (.int k) => if 16 ≤ n then [.vec k n] else List.replicate n .one
      | _ => (List.replicate n (shapeOf P d e)).flatten
    | _ => [.one]

def zerosN (k : IntKind) : Nat → List Value → Option (List Value)
  | 0, l => some l
  | n + 1, .int k' 0 :: l => if k' = k then zerosN k n l else none
  | _ + 1, _ => none

def group : List Shape → List Value → Option (List AV)
  | [], [] => some []
  | .one :: s, v :: l => if v.oneCell' then match group s l with
    | some r => some (ofVal v :: r)
    | none => none else none
  | .vec k n :: s, l => match zerosN k n l with
    | some l' => match group s l' with
      | some r => some (.vec k n (List.replicate n 0) :: r)
      | none => none
    | none => none
  | _, _ => none

def zeroOk (P : Program) (t : TypeId) : Bool := match (P.info? t).bind (·.zero) with
  | some z => z.cells.size == P.cellsOf t
  | none => false

def zeroOf (P : Program) (t : TypeId) : Option (List AV) :=
  match (P.info? t).bind (·.zero) with
  | some z => group (shapeOf P 8 t) z.cells.toList
  | none => none

/-! ### Numbers, texts, tests -/
def intBin (op : BinOp) (k : IntKind) (x y : Int) : Option Int :=
  match op with
  | .add => some (k.wrap (x + y))
  | .sub => some (k.wrap (x - y))
  | .mul => some (k.wrap (x * y))
  | .and => some (k.wrap (BitVec.ofInt k.bits x &&& BitVec.ofInt k.bits y).toNat)
  | .or => some (k.wrap (BitVec.ofInt k.bits x ||| BitVec.ofInt k.bits y).toNat)
  | .xor => some (k.wrap (BitVec.ofInt k.bits x ^^^ BitVec.ofInt k.bits y).toNat)
  | .andNot => some (k.wrap (BitVec.ofInt k.bits x &&& ~~~(BitVec.ofInt k.bits y)).toNat)
  | _ => none

def cmpBin (op : BinOp) (x y : Int) : Option Bool :=
  match op with
  | .eql => some (x == y)
  | .neq => some (x != y)
  | .lss => some (x < y)
  | .leq => some (x ≤ y)
  | .gtr => some (x > y)
  | .geq => some (x ≥ y)
  | _ => none

def strBin (op : BinOp) (x y : ByteArray) : Option Bool :=
  match op with
  | .eql => some (x.toList == y.toList)
  | .neq => some (!(x.toList == y.toList))
  | .lss => some (Op.bytesLess x.toList y.toList)
  | .leq => some (Op.bytesLess x.toList y.toList || x.toList == y.toList)
  | .gtr => some (!(Op.bytesLess x.toList y.toList || x.toList == y.toList))
  | .geq => some (!Op.bytesLess x.toList y.toList)
  | _ => none

def isKnown : AV → Bool
  | .n .. => true
  | .b .. => true
  | _ => false

def mkInt (known : Bool) (k : IntKind) (e : Int) : AV := match known with
  | true => .n k e
  | false => .i k e
def mkBool (known : Bool) (e : Bool) : AV := match known with
  | true => .b e
  | false => .c e

def avBool? : AV → Option Bool
  | .b x => some x
  | .c x => some x
  | _ => none

def cellEq : CK → AV → AV → Option Bool
  | .str, .str x, .str y => some (x == y)
  | .int k, x, y => match avInt? x, avInt? y with
    | some (k1, a), some (k2, b) => if k1 = k ∧ k2 = k then some (a == b) else none
    | _, _ => none
  | .bool, x, y => match avBool? x, avBool? y with
    | some a, some b => some (a == b)
    | _, _ => none
  | _, _, _ => none

def cellsEq : List CK → List AV → List AV → Option Bool
  | [], [], [] => some true
  | c :: s, x :: l, y :: m => match cellEq c x y, cellsEq s l m with
    | some a, some b => some (a && b)
    | _, _ => none
  | _, _, _ => none

/-- The cells of a type that are ints, texts, bools, one by one: equal where they are. -/
def kindsT (P : Program) : Nat → TypeId → Option (List CK)
  | 0, _ => none
  | d + 1, t => match P.underlying t with
    | some (.int k) => if P.cellsOf t = 1 then some [.int k] else none
    | some .string => if P.cellsOf t = 1 then some [.str] else none
    | some .bool => if P.cellsOf t = 1 then some [.bool] else none
    | some (.array n e) => match kindsT P d e with
      | some l => if P.cellsOf t = n * P.cellsOf e ∧ l.length = P.cellsOf e then some (List.replicate n l).flatten else none
      | none => none
    | some (.struct fs) => match fs.toList.foldl (fun (o : Option (List CK)) f => match o with
        | some l => match kindsT P d f.type with
          | some k => if f.offset = l.length ∧ f.name ≠ "_" ∧ k.length = P.cellsOf f.type then some (l ++ k) else none
          | none => none
        | none => none) (some []) with
      | some l => if l.length = P.cellsOf t ∧ P.stoodInHeld t = false then some l else none
      | none => none
    | _ => none

def ret (fid : Nat) (v : AV) : Option R := some ⟨True, v, [], fid⟩
def retS (fid : Nat) (p : Prop) (v : AV) : Option R := some ⟨p, v, [], fid⟩

/-- Two pointers held against each other: of each it is known which one it is. -/
def ptrEq (P : Program) (op : BinOp) (t : TypeId) (x y : AV) : Option Bool :=
  match op with
  | .eql => match P.underlying t with
    | some (.pointer _) => match x, y with
      | .v (.pointer none), .v (.pointer none) => some true
      | .p _ _, .v (.pointer none) => some false
      | .v (.pointer none), .p _ _ => some false
      | _, _ => none
    | _ => none
  | .neq => match P.underlying t with
    | some (.pointer e) => match x, y with
      | .p id off, .p id' off' => if id = id' ∧ off = off' ∧ infoOk P e = true then some false else none
      | .v (.pointer none), .v (.pointer none) => some false
      | .p _ _, .v (.pointer none) => some true
      | .v (.pointer none), .p _ _ => some true
      | _, _ => none
    | _ => none
  | _ => none

def binA (P : Program) (op : BinOp) (t : TypeId) (x y : AV) (fid : Nat) : Option R :=
  match op, x, y with
  | .shl, x, y => match avInt? x, avInt? y with
    | some (k, a), some (_, c) => match isKnown y with
      | true => if 0 ≤ c then ret fid (mkInt (isKnown x) k (k.wrap (a * 2 ^ (min c.toNat k.bits)))) else none
      | false => retS fid (0 ≤ c) (.i k (k.wrap (a * 2 ^ (min c.toNat k.bits))))
    | _, _ => none
  | .shr, x, y => match avInt? x, avInt? y with
    | some (k, a), some (_, c) => match isKnown y with
      | true => if 0 ≤ c then ret fid (mkInt (isKnown x) k (a.fdiv (2 ^ (min c.toNat k.bits)))) else none
      | false => retS fid (0 ≤ c) (.i k (a.fdiv (2 ^ (min c.toNat k.bits))))
    | _, _ => none
  | .quo, x, y => match avInt? x, avInt? y with
    | some (k, a), some (k', c) => if k = k' then (match isKnown y with
      | true => if c = 0 then none else ret fid (mkInt (isKnown x) k (k.wrap (a.tdiv c)))
      | false => retS fid (c ≠ 0) (.i k (k.wrap (a.tdiv c)))) else none
    | _, _ => none
  | .rem, x, y => match avInt? x, avInt? y with
    | some (k, a), some (k', c) => if k = k' then (match isKnown y with
      | true => if c = 0 then none else ret fid (mkInt (isKnown x) k (a.tmod c))
      | false => retS fid (c ≠ 0) (.i k (a.tmod c))) else none
    | _, _ => none
  | op, .str a, .str b => match op with
    | .add => retS fid (((a.size + b.size : Nat) : Int) ≤ IntKind.i64.max) (.str (a ++ b))
    | op => match strBin op a b with
      | some r => ret fid (.c r)
      | none => none
  | op, .a l, .a m => if P.eqGuardType P.depth t = false ∧ isAggT P t = some true then match kindsT P 8 t with
      | some s => match op, cellsEq s l m with
        | .eql, some r => ret fid (.c r)
        | .neq, some r => ret fid (.c (!r))
        | _, _ => none
      | none => none else none
  | op, x, y => match avInt? x, avInt? y with
    | some (k, a), some (k', b) => if k = k' then match intBin op k a b with
        | some r => ret fid (mkInt (isKnown x && isKnown y) k r)
        | none => match cmpBin op a b with
          | some r => ret fid (mkBool (isKnown x && isKnown y) r)
          | none => none
      else none
    | _, _ => match ptrEq P op t x y with
      | some b => ret fid (.b b)
      | none => match avBool? x, avBool? y, P.underlying t with
      | some a, some b, some .bool => match op with
        | .eql => ret fid (mkBool (isKnown x && isKnown y) (a == b))
        | .neq => ret fid (mkBool (isKnown x && isKnown y) (!(a == b)))
        | _ => none
      | _, _, _ => none

def unA (op : UnOp) (x : AV) (fid : Nat) : Option R :=
  match op, x with
  | .not, .b e => ret fid (.b (!e))
  | .not, .c e => ret fid (.c (!e))
  | .neg, x => match avInt? x with
    | some (k, a) => ret fid (mkInt (isKnown x) k (k.wrap (0 - a)))
    | none => none
  | .xor, x => match avInt? x with
    | some (k, a) => ret fid (mkInt (isKnown x) k (k.wrap (BitVec.ofInt k.bits (if k.signed then -1 else k.max) ^^^ BitVec.ofInt k.bits a).toNat))
    | none => none
  | _, _ => none

def sized (P : Program) (t : TypeId) : Bool := match P.info? t with
  | some i => i.size != 0
  | none => false

def bytesOf (s : ByteArray) : List UInt8 := s.data.toList

def convA (P : Program) (src dst : TypeId) (x : AV) (H : Nat → AB) (fid : Nat) : Option R :=
  match P.underlying src, P.underlying dst, x with
  | some _, some (.int k), .n _ e => ret fid (.n k (k.wrap e))
  | some _, some (.int k), .i _ e => ret fid (.i k (k.wrap e))
  | some .string, some .string, .str s => ret fid (.str s)
  | some .string, some (.slice e), .str s => match P.underlying e with
    | some (.int .u8) => some ⟨True, .s fid 1 (.l 0) (.e s.size), [(fid, .row none (.bytes (bytesOf s)))], fid + 1⟩
    | _ => none
  | some (.slice e), some .string, x => match P.underlying e with
    | some (.int .u8) => match view H (.bytes []) x with
      | some (.bytes l, p) => retS fid p (.str ⟨l.toArray⟩)
      | _ => none
    | _ => none
  | some (.pointer t), some .unsafePointer, .p id 0 => match H id with
    | .cells (some _) l => if 0 < widths l ∧ sized P t = true then ret fid (.p id 0) else none
    | _ => none
  | some .unsafePointer, some (.pointer u), .p id 0 => match H id with
    | .cells (some e) l => if liesAt P P.depth e (widths l / P.cellsOf e) 0 u 1 = true ∧ infoOk P u = true then ret fid (.p id 0) else none
    | _ => none
  | some _, some .string, .n _ e => ret fid (.str (Utf8.encode e))
  | some _, some .string, .i _ e => ret fid (.str (Utf8.encode e))
  | _, _, _ => none

/-- A bound of a slice expression; d: where none is written. -/
def numA (d : AN) : Option AV → Option AN
  | none => some d
  | some (.n _ i) => if 0 ≤ i then some (.l i.toNat) else none
  | some (.i _ e) => some (.e e.toNat)
  | _ => none
def posA : Option AV → Prop
  | some (.i _ e) => 0 ≤ e
  | _ => True

def sliceA (P : Program) (t : TypeId) (x : AV) (lo hi : Option AV) (fid : Nat) : Option R :=
  match P.underlying t, x with
  | some .string, .str s => match numA (.l 0) lo, numA (.e s.size) hi with
    | some l, some h => retS fid (posA lo ∧ posA hi ∧ l.v ≤ h.v ∧ h.v ≤ s.size) (.str (s.extract l.v h.v))
    | _, _ => none
  | some (.slice e), .s id w o n => if P.cellsOf e = w ∧ infoOk P e = true then match numA (.l 0) lo, numA n hi with
    | some l, some h => retS fid (posA lo ∧ posA hi ∧ l.v ≤ h.v ∧ h.v ≤ n.v) (.s id w (o.add l) (h.sub l))
    | _, _ => none else none
  | some (.slice e), .x rc => if P.cellsOf e = rc.w ∧ infoOk P e = true then match numA (.l 0) lo, numA (.e rc.len) hi with
    | some l, some h => retS fid (posA lo ∧ posA hi ∧ l.v ≤ h.v ∧ h.v ≤ rc.len) (.x (rc.sub l.v (h.v - l.v)))
    | _, _ => none else none
  | some (.slice e), .v (.slice none 0 0) => if infoOk P e = false then none else match numA (.l 0) lo, numA (.l 0) hi with
    | some (.l 0), some (.l 0) => ret fid (.v (.slice none 0 0))
    | _, _ => none
  | _, _ => none

/-- An array's variable, sliced: the whole block must be that array, one cell an element. -/
def sliceArrA (P : Program) (t : TypeId) (x : AV) (lo hi : Option AV) (H : Nat → AB) (fid : Nat) : Option R :=
  match P.underlying t, x with
  | some (.array n e), .p id 0 => match H id with
    | .cells _ l => if P.cellsOf e = 1 ∧ widths l = n ∧ infoOk P e = true then match numA (.l 0) lo, numA (.l n) hi with
        | some l, some h => retS fid (posA lo ∧ posA hi ∧ l.v ≤ h.v ∧ h.v ≤ n) (.s id 1 l (h.sub l))
        | _, _ => none
      else none
    | _ => none
  | _, _ => none

def fieldOf (P : Program) (t : TypeId) (f : Nat) : Option Field :=
  match P.underlying t with
  | some (.struct fs) => fs[f]?
  | _ => none

/-- A part of an aggregate's cells. -/
def partA (P : Program) (t : TypeId) (l : List AV) (off : Nat) : Option AV :=
  match isAggT P t with
  | some true => match takeW l off with
    | some (_, r) => match takeW r (P.cellsOf t) with
      | some (x, _) => some (.a x)
      | none => none
    | none => none
  | some false => cellAt l off
  | none => none

def loadA (P : Program) (t : TypeId) (a : AV) (H : Nat → AB) (fid : Nat) : Option R :=
  match a with
  | .p id off => match H id with
    | .cells _ l => match partA P t l off with
      | some v => ret fid v
      | none => none
    | _ => none
  | .pe id base j => match isAggT P t, H id with
    | some false, .cells _ l => match vecAt l base with
      | some (k, n, xs) => retS fid (j < n) (.i k (xs.getD j 0))
      | none => none
    | _, _ => none
  | .q id w idx fld => match H id with
    | .row _ rc => if rc.w = w then match isAggT P t with
        | some false => match rc.get idx.v fld with
          | some v => retS fid (idx.v < rc.len) v
          | none => none
        | some true => if fld = 0 ∧ P.cellsOf t = w then match rc.elem idx.v with
            | some l => retS fid (idx.v < rc.len) (.a l)
            | none => none
          else none
        | none => none
      else none
    | _ => none
  | .xq rc idx fld => match isAggT P t with
    | some false => match rc.get idx.v fld with
      | some v => retS fid (idx.v < rc.len) v
      | none => none
    | some true => if fld = 0 ∧ P.cellsOf t = rc.w then match rc.elem idx.v with
        | some l => retS fid (idx.v < rc.len) (.a l)
        | none => none
      else none
    | none => none
  | _ => none

def unit : AV := .v (.tuple #[])

def storeA (P : Program) (t : TypeId) (a x : AV) (H : Nat → AB) (fid : Nat) : Option R :=
  match a with
  | .p id off => match H id with
    | .cells ty l => match x with
      | .a new => if widths new = P.cellsOf t then match setSeg l off (widths new) new with
          | some l' => some ⟨True, unit, [(id, .cells ty l')], fid⟩
          | none => none
        else none
      | x => if x.one = true ∧ P.cellsOf t = 1 then match setAt l off x with
          | some l' => some ⟨True, unit, [(id, .cells ty l')], fid⟩
          | none => none
        else none
    | _ => none
  | .pe id base j => match H id with
    | .cells ty l => if P.cellsOf t = 1 then match vecAt l base, avInt? x with
        | some (k, n, xs), some (k', e) => if k' = k then match setVec l base (xs.set j e) with
            | some l' => some ⟨j < n, unit, [(id, .cells ty l')], fid⟩
            | none => none
          else none
        | _, _ => none
      else none
    | _ => none
  | .q id w idx fld => match H id with
    | .row ty rc => if rc.w = w ∧ P.cellsOf t = 1 then match rc.set idx.v fld x with
        | some (rc', p) => some ⟨idx.v < rc.len ∧ p, unit, [(id, .row ty rc')], fid⟩
        | none => none
      else none
    | _ => none
  | _ => none

def indexAddrA (P : Program) (t : TypeId) (x ix : AV) (H : Nat → AB) (fid : Nat) : Option R :=
  match P.underlying t, x with
  | some (.array n e), .p id off => match ix with
    | .n _ j => if 0 ≤ j ∧ j < n ∧ infoOk P e = true then ret fid (.p id (off + j.toNat * P.cellsOf e)) else none
    | .i _ j => if P.cellsOf e = 1 ∧ infoOk P e = true then retS fid (0 ≤ j ∧ j < n) (.pe id off j.toNat) else none
    | _ => none
  | some (.slice e), .s id w lo len => if P.cellsOf e = w ∧ infoOk P e = true then (match H id, ix, lo with
    | .cells _ _, .n _ j, .l o => retS fid (0 ≤ j ∧ j < len.v) (.p id (o * w + j.toNat * w))
    | .cells _ _, .n _ j, .e o => if w = 1 then retS fid (0 ≤ j ∧ j < len.v) (.pe id 0 (o + j.toNat)) else none
    | .cells _ _, .i _ j, lo => if w = 1 then retS fid (0 ≤ j ∧ j < len.v) (.pe id 0 (lo.v + j.toNat)) else none
    | .row _ _, .n _ j, lo => retS fid (0 ≤ j ∧ j < len.v) (.q id w (lo.add (.l j.toNat)) 0)
    | .row _ _, .i _ j, lo => retS fid (0 ≤ j ∧ j < len.v) (.q id w (lo.add (.e j.toNat)) 0)
    | _, _, _ => none) else none
  | some (.slice e), .x rc => if P.cellsOf e = rc.w ∧ infoOk P e = true then match avInt? ix with
      | some (_, j) => retS fid (0 ≤ j ∧ j < rc.len) (.xq rc (.e j.toNat) 0)
      | none => none
    else none
  | _, _ => none

def indexA (P : Program) (t : TypeId) (x ix : AV) (fid : Nat) : Option R :=
  match P.underlying t, x, avInt? ix with
  | some .string, .str s, some (_, j) => retS fid (0 ≤ j ∧ j < s.size) (.i .u8 ((bytesOf s).getD j.toNat 0).toNat)
  | some (.array n e), .a l, some (_, j) => match isKnown ix with
    | true => if 0 ≤ j ∧ j < n then match partA P e l (j.toNat * P.cellsOf e) with
        | some v => ret fid v
        | none => none
      else none
    | false => match l, isAggT P e with
      | [.vec k m xs], some false => if P.cellsOf e = 1 ∧ m = n then retS fid (0 ≤ j ∧ j < n) (.i k (xs.getD j.toNat 0)) else none
      | _, _ => none
  | _, _, _ => none

def lenA (P : Program) (t : TypeId) (x : AV) (fid : Nat) : Option R :=
  match P.underlying t, x with
  | some .string, .str s => ret fid (.i .i64 s.size)
  | some (.array n _), x => match x with
    | .u => none
    | _ => ret fid (.n .i64 n)
  | some (.slice _), .s _ _ _ len => ret fid len.av
  | some (.slice _), .x rc => ret fid (.i .i64 rc.len)
  | some (.slice _), .v (.slice none 0 0) => ret fid (.n .i64 0)
  | _, _ => none

def min2A : AV → AV → Option AV
  | x, y => match avInt? x, avInt? y with
    | some (k, a), some (_, b) => some (mkInt (isKnown x && isKnown y) k (if b < a then b else a))
    | _, _ => none
def max2A : AV → AV → Option AV
  | x, y => match avInt? x, avInt? y with
    | some (k, a), some (_, b) => some (mkInt (isKnown x && isKnown y) k (if b > a then b else a))
    | _, _ => none
def foldA (f : AV → AV → Option AV) : List AV → AV → Option AV
  | [], x => some x
  | y :: r, x => match f x y with
    | some z => foldA f r z
    | none => none

/-- 'append': to a nil slice, or to the end of a row of our own; what is appended: a text, or a slice. -/
def appendA (P : Program) (t t2 : TypeId) (s x : AV) (H : Nat → AB) (fid : Nat) : Option R :=
  match P.underlying t with
  | some (.slice e) => match kindOf P e with
    | some kind => if P.cellsOf e = kind.w ∧ zeroOk P e = true ∧ 0 < P.bytesOf e then
      (let src : Option (RC × Prop) := match P.underlying t2, x with
        | some .string, .str b => match kind with
          | .bytes _ => some (.bytes (bytesOf b), True)
          | _ => none
        | some (.slice _), x => view H kind x
        | _, _ => none
      match src with
      | some (new, p) => match s with
        | .v (.slice none 0 0) => match kind.nil.app new with
          | some rc => some ⟨p ∧ rc.len * P.bytesOf e ≤ 140737488355328, .s fid kind.w (.l 0) (.e rc.len), [(fid, .row (some e) rc)], fid + 1⟩
          | none => none
        | .s id w lo len => match H id with
          | .row told old => if old.w = w ∧ w = kind.w then match (old.sub lo.v len.v).app new with
            | some rc => some ⟨p ∧ lo.v + len.v = old.len ∧ rc.len * P.bytesOf e ≤ 140737488355328, .s fid w (.l 0) (.e rc.len), [(id, .gone), (fid, .row (if told = some e ∧ lo.v = 0 then some e else none) rc)], fid + 1⟩
            | none => none else none
          | _ => none
        | _ => none
      | none => none) else none
    | none => none
  | _ => none

def anOf (x : AV) (l : Int) : AN := match x with
  | .n _ i => .l i.toNat
  | _ => .e l.toNat

/-- The zero value of the type is the one of this kind of row. -/
def zeroKind (P : Program) (e : TypeId) (kind : RC) : Bool :=
  match (P.info? e).bind (·.zero), kind with
  | some (.int .u8 0), .bytes _ => true
  | some (.int k 0), .ints k' _ => k == k'
  | some (.string s), .strs _ => s.data.toList.isEmpty
  | _, _ => false

def makeSliceA (P : Program) (t : TypeId) (len cap : AV) (fid : Nat) : Option R :=
  match P.underlying t with
  | some (.slice e) => match kindOf P e, avInt? len, avInt? cap with
    | some kind, some (_, l), some (_, c) =>
      let side := 0 ≤ l ∧ l ≤ c ∧ c < 2 ^ 62 ∧ P.bytesOf e * c ≤ 2 ^ 47
      let an : AN := anOf len l
      if P.cellsOf e = 1 ∧ zeroKind P e kind = true then match kind with
        | .bytes _ => some ⟨side, .s fid 1 (.l 0) an, [(fid, .row (some e) (.bytes (List.replicate l.toNat 0)))], fid + 1⟩
        | .ints k _ => some ⟨side, .s fid 1 (.l 0) an, [(fid, .row (some e) (.ints k (List.replicate l.toNat 0)))], fid + 1⟩
        | .strs _ => some ⟨side, .s fid 1 (.l 0) an, [(fid, .row (some e) (.strs (List.replicate l.toNat .empty)))], fid + 1⟩
        | _ => none
      else none
    | _, _, _ => none
  | _ => none

/-- Parts into places, one behind the other. -/
def fillA (place : Nat → Option (Nat × Nat)) (cells : List AV) : List (Nat × AV) → Option (List AV)
  | [] => some cells
  | (i, v) :: rest => match place i with
    | none => none
    | some (off, size) => match v with
      | .a new => if widths new = size then match setSeg cells off size new with
          | some c => fillA place c rest
          | none => none
        else none
      | v => if size = 1 ∧ v.one = true then match setAt cells off v with
          | some c => fillA place c rest
          | none => none
        else none

def fieldPlaces (P : Program) (t : TypeId) (i : Nat) : Option (Nat × Nat) :=
  match P.underlying t with
  | some (.struct fs) => match fs[i]? with
    | some f => some (f.offset, P.cellsOf f.type)
    | none => none
  | some (.array _ e) => some (i * P.cellsOf e, P.cellsOf e)
  | _ => none

def placesOk (P : Program) (t : TypeId) : Bool :=
  match P.underlying t with
  | some (.struct fs) => fs.toList.all fun f => infoOk P f.type
  | some (.array _ e) => infoOk P e
  | _ => false

def strT (P : Program) (t : TypeId) : Bool :=
  match P.underlying t with
  | some .string => true
  | _ => false

structure FSpec where
  foot : List AV → Nat → List Nat
  run : List AV → (Nat → AB) → Nat → Option R

abbrev Specs := FuncId → Option FSpec

def within (H : Nat → AB) (l : List Nat) (id : Nat) : AB := if l.contains id then H id else .gone

def rop (ρ : Tmp → AV) : Operand → AV
  | .tmp t => ρ t
  | .const v => ofVal v
  | .global _ => .u
  | .func f => .f (.func f) [] []

def refOf : AV → List Nat
  | .p id _ => [id]
  | .pe id _ _ => [id]
  | .q id _ _ _ => [id]
  | .s id _ _ _ => [id]
  | .sd id _ _ => [id]
  | _ => []

/-- Where the account of a round is kept among the accounts of functions. -/
def yieldKey : Nat := 1000000

/-- The function that a call calls, and its arguments. -/
def calleeA (f : AV) (args : List AV) : Option (FuncId × List AV) :=
  match f with
  | .f (.func g) first captured => if g = yieldKey then none else some (g, first ++ args ++ captured)
  | .yl id => some (yieldKey, .yl id :: args)
  | _ => none

/-- The blocks that an operation looks at. -/
def footA (sp : Specs) (o : Op) (ρ : Operand → AV) (fid : Nat) : List Nat :=
  match o with
  | .call { callee := .value f, args, .. } => match calleeA (ρ f) (args.toList.map ρ) with
    | some (g, as) => match sp g with
      | some s => s.foot as fid
      | none => []
    | none => []
  | .load _ a => refOf (ρ a)
  | .store _ a _ => refOf (ρ a)
  | .convert _ _ x => refOf (ρ x)
  | .slice _ x _ _ _ => refOf (ρ x)
  | .indexAddr _ x _ => refOf (ρ x)
  | .next x _ => refOf (ρ x)
  | .call { callee := .builtin .append, args, .. } => args.toList.flatMap fun x => refOf (ρ x)
  | .call { callee := .builtin .unsafeString, args, .. } => args.toList.flatMap fun x => refOf (ρ x)
  | _ => []

def sdataA (x : AV) (fid : Nat) : Option R :=
  match x with
  | .s id 1 lo len => retS fid (0 < len.v) (.sd id lo len)
  | .v (.slice none 0 0) => ret fid (.v (.pointer none))
  | _ => none

def ustrA (P : Program) (t : TypeId) (x y : AV) (H : Nat → AB) (fid : Nat) : Option R :=
  match x, avInt? y with
  | .sd id (.l 0) len, some (.i64, i) => match P.underlying t with
    | some (.pointer e) => if P.cellsOf e = 1 then match H id with
        | .row (some e') (.bytes l) => if e' = e then some ⟨0 < len.v ∧ i = len.v ∧ len.v ≤ l.length ∧ len.v ≤ 2 ^ 62, .str ⟨(l.take len.v).toArray⟩, [(id, .gone)], fid⟩ else none
        | _ => none
      else none
    | _ => none
  | .v (.pointer none), some (.i64, 0) => ret fid (.str .empty)
  | _, _ => none

def coreA (P : Program) (sp : Specs) (o : Op) (ty : TypeId) (ρ : Operand → AV) (H : Nat → AB) (fid : Nat) : Option R :=
  match o with
  | .move x | .assign x => match ρ x with
    | .u => none
    | v => ret fid v
  | .pick c a b => match ρ c with
    | .b true => ret fid (ρ a)
    | .b false => ret fid (ρ b)
    | .c e => match avBool? (ρ a), avBool? (ρ b) with
      | some x, some y => ret fid (.c (if e = true then x else y))
      | _, _ => match avInt? (ρ a), avInt? (ρ b) with
        | some (k, x), some (k', y) => if k = k' then ret fid (.i k (if e = true then x else y)) else none
        | _, _ => none
    | _ => none
  | .alloc t => match zeroOf P t with
    | some l => some ⟨True, .p fid 0, [(fid, .cells (some t) l)], fid + 1⟩
    | none => none
  | .box t x => match ρ x with
    | .a l => some ⟨True, .p fid 0, [(fid, .cells (some t) l)], fid + 1⟩
    | v => if v.one = true then some ⟨True, .p fid 0, [(fid, .cells (some t) [v])], fid + 1⟩ else none
  | .build t parts => if placesOk P t = true then match zeroOf P t with
      | some l => match fillA (fieldPlaces P t) l (parts.toList.map fun (i, x) => (i, ρ x)) with
        | some l' => ret fid (.a l')
        | none => none
      | none => none else none
  | .buildSlice t len parts => match P.underlying t with
    | some (.slice e) => if len * P.cellsOf e ≤ 2 ^ 24 ∧ infoOk P e = true ∧ 0 < len * P.cellsOf e then match zeroOf P e with
        | some z => if widths z = P.cellsOf e then match fillA (fun i => some (i * P.cellsOf e, P.cellsOf e)) ((List.replicate len z).flatten) (parts.toList.map fun (i, x) => (i, ρ x)) with
          | some l => some ⟨True, .s fid (P.cellsOf e) (.l 0) (.l len), [(fid, .cells (some e) l)], fid + 1⟩
          | none => none
          else none
        | none => none else none
    | _ => none
  | .load t a => loadA P t (ρ a) H fid
  | .store t a x => if infoOk P t = true then storeA P t (ρ a) (ρ x) H fid else none
  | .nilCheck x => match ρ x with
    | .p id off => ret fid (.p id off)
    | .pe id b j => ret fid (.pe id b j)
    | .q id w i f => ret fid (.q id w i f)
    | .xq rc i f => ret fid (.xq rc i f)
    | .f (.func g) a b => ret fid (.f (.func g) a b)
    | _ => none
  | .binOp op t x y _ => binA P op t (ρ x) (ρ y) fid
  | .unOp op _ x => unA op (ρ x) fid
  | .convert s d x => convA P s d (ρ x) H fid
  | .makeFunc (.func g) first captured => ret fid (.f (.func g) (first.toList.map ρ) (captured.toList.map ρ))
  | .makeSlice t l c => makeSliceA P t (ρ l) (ρ c) fid
  | .slice t x lo hi none => match sliceA P t (ρ x) (lo.map ρ) (hi.map ρ) fid with
    | some r => some r
    | none => sliceArrA P t (ρ x) (lo.map ρ) (hi.map ρ) H fid
  | .fieldAddr t x f => match fieldOf P t f, ρ x with
    | some g, .p id off => if 0 < P.cellsOf g.type then ret fid (.p id (off + g.offset)) else none
    | some g, .q id w i o => if 0 < P.cellsOf g.type then ret fid (.q id w i (o + g.offset)) else none
    | some g, .xq rc i o => if 0 < P.cellsOf g.type then ret fid (.xq rc i (o + g.offset)) else none
    | _, _ => none
  | .field t x f => match fieldOf P t f, ρ x with
    | some g, .a l => match partA P g.type l g.offset with
      | some v => ret fid v
      | none => none
    | _, _ => none
  | .indexAddr t x i => indexAddrA P t (ρ x) (ρ i) H fid
  | .index t x i => if placesOk P t = true ∨ strT P t = true then indexA P t (ρ x) (ρ i) fid else none
  | .range t x => match P.underlying t, ρ x with
    | some .string, .str s => some ⟨True, .p fid 0, [(fid, .it s 0)], fid + 1⟩
    | _, _ => none
  | .next x true => match ρ x with
    | .p id 0 => match H id with
      | .it s pos => some ⟨True, .nx (decide (pos < s.size)) pos (Utf8.decode s pos).1, [(id, .it s (if pos < s.size then pos + (Utf8.decode s pos).2 else pos))], fid⟩
      | _ => none
    | _ => none
  | .extract x i => match ρ x with
    | .t l => match l[i]? with
      | some .u => none
      | some v => ret fid v
      | none => none
    | .nx e pos r => match i with
      | 0 => ret fid (.c e)
      | 1 => retS fid (e = true) (.i .i64 pos)
      | 2 => retS fid (e = true) (.i .i32 r)
      | _ => none
    | _ => none
  | .call { callee := .builtin b, args, argTypes } => match b, args.toList.map ρ, argTypes.toList with
    | .len, [x], [t] => lenA P t x fid
    | .min, x :: r, _ => match foldA min2A r x with
      | some v => match avInt? x with
        | some _ => ret fid v
        | none => none
      | none => none
    | .max, x :: r, _ => match foldA max2A r x with
      | some v => match avInt? x with
        | some _ => ret fid v
        | none => none
      | none => none
    | .append, [s, x], [t, t2] => appendA P t t2 s x H fid
    | .unsafeSliceData, [x], _ => sdataA x fid
    | .unsafeString, [x, y], [t, _] => ustrA P t x y H fid
    | _, _, _ => none
  | .call { callee := .value f, args, .. } => match calleeA (ρ f) (args.toList.map ρ) with
    | some (g, as) => match sp g with
      | some s => s.run as H fid
      | none => none
    | none => none
  | _ => none

def tmpsOf (o : Op) : List Nat := o.operands.toList.filterMap fun | .tmp t => some t | _ => none

def restr (l : List Nat) (ρ : Tmp → AV) (t : Tmp) : AV := if l.contains t then ρ t else .u

/-- An operation looks at the temporaries that it names, and at the blocks of its foot, at no others. -/
def opA (P : Program) (sp : Specs) (o : Op) (ty : TypeId) (ρ : Tmp → AV) (H : Nat → AB) (fid : Nat) : Option R :=
  coreA P sp o ty (rop (restr (tmpsOf o) ρ)) (within H (footA sp o (rop (restr (tmpsOf o) ρ)) fid)) fid

theorem opA_congr {P : Program} {sp : Specs} {o : Op} {ty : TypeId} {ρ ρ' : Tmp → AV} {H H' : Nat → AB} {fid : Nat} (h1 : ∀ t, t ∈ tmpsOf o → ρ t = ρ' t)
    (h2 : ∀ id, id ∈ footA sp o (rop (restr (tmpsOf o) ρ)) fid → H id = H' id) : opA P sp o ty ρ H fid = opA P sp o ty ρ' H' fid := by
  have e1 : restr (tmpsOf o) ρ = restr (tmpsOf o) ρ' := by
    funext t
    unfold restr
    split
    · rename_i h; exact h1 t (by simpa using h)
    · rfl
  unfold opA
  rw [← e1]
  congr 1
  funext id
  unfold within
  split
  · rename_i h; exact h2 id (by simpa using h)
  · rfl
end Go.Proofs.YtkihnmpjpbfiaaaDoor.Ev
