/-
  The evaluator's quiet operations: those that read memory, and change nothing. Definitions alone.
-/
import Derived.Test.YtmnjgdnmlopigaaGreatEngB
namespace Go.Eng

def cellsV : V → List V
  | .agg l => l
  | v => [v]
def oneV : V → Bool
  | .agg _ | .tup _ | .undef => false
  | _ => true

def ofCell : Value → Option V
  | .bool b => some (.bool b)
  | .int k n => some (.int k n)
  | .string s => some (.str (BS.ofList s.data.toList))
  | .pointer none => some .nilp
  | .slice none 0 0 => some .nils
  | .map none => some .nilm
  | .nilFunc => some .nilf
  | .nilIface => some .nili
  | _ => none
def ofCells : List Value → Option (List V)
  | [] => some []
  | v :: l => match ofCell v with
    | some x => match ofCells l with
      | some y => some (x :: y)
      | none => none
    | none => none
def ofVal : Value → Option V
  | .agg cs => match ofCells cs.toList with
    | some l => some (.agg l)
    | none => none
  | .tuple cs => match cs.toList with
    | [] => some .undef
    | _ => none
  | v => ofCell v

def evalOs (ev : Operand → Option V) : List Operand → Option (List V)
  | [] => some []
  | x :: l => match ev x with
    | some v => match evalOs ev l with
      | some vs => some (v :: vs)
      | none => none
    | none => none

noncomputable section
variable (P : Program)

def isAggE (t : TypeId) : Option Bool :=
  match P.underlying t with
  | some (.struct _) => some true
  | some (.array _ _) => some true
  | some _ => some false
  | none => none
def szE (t : TypeId) : Option Nat :=
  match P.info? t with
  | some i => some i.size
  | none => none
def zeroE (t : TypeId) : Option V :=
  match P.info? t with
  | some i => match i.zero with
    | some v => ofVal v
    | none => none
  | none => none

/-- a part of an aggregate -/
def partE (t : TypeId) (l : List V) (off : Nat) : Option V :=
  match isAggE P t with
  | some true => match szE P t with
    | some n => bif Nat.ble (off + n) (llen l) then some (.agg (ltake (ldrop l off) n)) else none
    | none => none
  | some false => lget l off
  | none => none

def cellsAt (s : St) (b : Nat) : Option (List V) :=
  match s.heap.get b with
  | some (.cells cs _ _) => some cs
  | _ => none

def qLoad (s : St) (t : TypeId) (a : V) : Option V :=
  match a with
  | .ptr b o => match cellsAt s b with
    | some cs => partE P t cs o
    | none => none
  | _ => none

def ofI (k : IntKind) (x : Int) : Nat := modN (kM k) x

def intBin (op : BinOp) (k : IntKind) (a b : Int) : Option V :=
  match op with
  | .add => some (.int k (wrapQ k (a + b)))
  | .sub => some (.int k (wrapQ k (a - b)))
  | .mul => some (.int k (wrapQ k (a * b)))
  | .quo => bif eqQ b 0 then none else some (.int k (wrapQ k (a.tdiv b)))
  | .rem => bif eqQ b 0 then none else some (.int k (a.tmod b))
  | .and => some (.int k (wrapQ k (.ofNat (Nat.land (ofI k a) (ofI k b)))))
  | .or => some (.int k (wrapQ k (.ofNat (Nat.lor (ofI k a) (ofI k b)))))
  | .xor => some (.int k (wrapQ k (.ofNat (Nat.xor (ofI k a) (ofI k b)))))
  | .andNot => some (.int k (wrapQ k (.ofNat (Nat.land (ofI k a) (kM k - 1 - ofI k b)))))
  | .eql => some (.bool (eqQ a b))
  | .neq => some (.bool (!eqQ a b))
  | .lss => some (.bool (ltQ a b))
  | .leq => some (.bool (!ltQ b a))
  | .gtr => some (.bool (ltQ b a))
  | .geq => some (.bool (!ltQ a b))
  | _ => none
def shiftE (op : BinOp) (k : IntKind) (a : Int) : Int → Option V
  | .ofNat n => match op with
    | .shl => some (.int k (wrapQ k (shlQ (bif Nat.ble n k.bits then n else k.bits) a)))
    | .shr => some (.int k (shrQ (bif Nat.ble n k.bits then n else k.bits) a))
    | _ => none
  | .negSucc _ => none
def strBin (op : BinOp) (a b : BS) : Option V :=
  match op with
  | .add => bif Nat.ble (a.n + b.n) 4611686018427387904 then some (.str (a.cat b)) else none
  | .eql => some (.bool (a.eq b))
  | .neq => some (.bool (!a.eq b))
  | .lss => some (.bool (BS.ltG a.list b.list))
  | .leq => some (.bool (BS.ltG a.list b.list || a.eq b))
  | .gtr => some (.bool (!(BS.ltG a.list b.list || a.eq b)))
  | .geq => some (.bool (!BS.ltG a.list b.list))
  | _ => none

def plainBlock (s : St) (b : Nat) : Bool :=
  match s.heap.get b with
  | some (.cells _ _ false) => true
  | _ => false

/-- '==' between two values that are no integers and no strings -/
def eqE (s : St) (t : TypeId) (a b : V) : Option Bool :=
  match P.underlying t with
  | some .bool => match a, b with
    | .bool x, .bool y => some (x == y)
    | _, _ => none
  | some (.pointer e) => match a, b with
    | .nilp, .nilp => some true
    | .nilp, .ptr .. => some false
    | .ptr .., .nilp => some false
    | .ptr x o, .ptr y q =>
      match szE P e with
      | some (_ + 1) => bif plainBlock s x && plainBlock s y then (bif Nat.beq x y then some (Nat.beq o q) else some false) else none
      | _ => none
    | _, _ => none
  | some (.slice _) => match a, b with
    | .nils, .nils => some true
    | .nils, .sl .. => some false
    | .nils, .slz _ => some false
    | .slz _, .nils => some false
    | .sl .., .nils => some false
    | _, _ => none
  | some (.map _ _) => match a, b with
    | .nilm, .nilm => some true
    | .nilm, .map _ => some false
    | .map _, .nilm => some false
    | _, _ => none
  | some (.func ..) => match a, b with
    | .nilf, .nilf => some true
    | .nilf, .fn .. => some false
    | .fn .., .nilf => some false
    | .nilf, .yld _ => some false
    | .yld _, .nilf => some false
    | _, _ => none
  | some (.interface _) => match a, b with
    | .nili, .iface .. => some false
    | .iface .., .nili => some false
    | _, _ => none
  | _ => none

/-- cell by cell: for structs whose fields are integers, bools, strings, and structs of such -/
def eqFields (nest : TypeId → V → V → Option Bool) (d : List Field) (l m : List V) : Option Bool :=
  match d with
  | [] => some true
  | f :: rest =>
    bif f.name == "_" then none else
    match P.underlying f.type with
    | some (.int _) => match lget l f.offset, lget m f.offset with
      | some (.int k x), some (.int k' y) => bif kEq k k' then (bif eqQ x y then eqFields nest rest l m else some false) else none
      | _, _ => none
    | some .bool => match lget l f.offset, lget m f.offset with
      | some (.bool x), some (.bool y) => bif x == y then eqFields nest rest l m else some false
      | _, _ => none
    | some .string => match lget l f.offset, lget m f.offset with
      | some (.str x), some (.str y) => bif x.eq y then eqFields nest rest l m else some false
      | _, _ => none
    | some (.struct _) => match partE P f.type l f.offset, partE P f.type m f.offset with
      | some x, some y => match nest f.type x y with
        | some true => eqFields nest rest l m
        | some false => some false
        | none => none
      | _, _ => none
    | _ => none
def eqNest : Nat → TypeId → V → V → Option Bool
  | 0, _, _, _ => none
  | n + 1, t, a, b => match P.underlying t with
    | some (.struct fs) => match a, b with
      | .agg l, .agg m => bif P.stoodInHeld t then none else eqFields P (eqNest n) fs.toList l m
      | _, _ => none
    | _ => none
def eqStruct (t : TypeId) (a b : V) : Option Bool :=
  match P.underlying t with
  | some (.struct fs) => match a, b with
    | .agg l, .agg m => bif P.stoodInHeld t || P.eqGuardType P.depth t then none else eqFields P (eqNest P 6) fs.toList l m
    | _, _ => none
  | _ => none

/-- two nils of an interface type without methods -/
def eqNil2 (t : TypeId) (a b : V) : Option Bool :=
  match P.underlying t with
  | some (.interface ms) => match a, b with
    | .nili, .nili => bif ms.isEmpty then some true else none
    | _, _ => none
  | _ => none
def eqAny (s : St) (t : TypeId) (a b : V) : Option Bool :=
  match eqE P s t a b with
  | some r => some r
  | none => match eqNil2 P t a b with
    | some r => some r
    | none => eqStruct P t a b

def qBin (s : St) (op : BinOp) (t : TypeId) (a b : V) : Option V :=
  match a, b with
  | .int k x, .int k' y =>
    match op with
    | .shl => shiftE .shl k x y
    | .shr => shiftE .shr k x y
    | _ => bif kEq k k' then intBin op k x y else none
  | .str x, .str y => strBin op x y
  | _, _ =>
    match op with
    | .eql => match eqAny P s t a b with
      | some r => some (.bool r)
      | none => none
    | .neq => match eqAny P s t a b with
      | some r => some (.bool (!r))
      | none => none
    | _ => none

def qUn (op : UnOp) (a : V) : Option V :=
  match op, a with
  | .neg, .int k n => some (.int k (wrapQ k (0 - n)))
  | .xor, .int k n => some (.int k (wrapQ k (.ofNat (Nat.xor (kM k - 1) (ofI k n)))))
  | .not, .bool b => some (.bool (!b))
  | _, _ => none

def bytesOf : List V → Option (List UInt8)
  | [] => some []
  | .int .u8 n :: l => match bytesOf l with
    | some r => some (UInt8.ofNat n.toNat :: r)
    | none => none
  | _ => none

def qConv (s : St) (src dst : TypeId) (a : V) : Option V :=
  match P.underlying src, P.underlying dst with
  | some sd, some dd =>
    match a with
    | .int _ n => match dd with
      | .int k => some (.int k (wrapQ k n))
      | _ => none
    | .str x => match dd with
      | .string => some (.str x)
      | _ => none
    | .nils => match sd, dd with
      | .slice e, .string => match P.underlying e with
        | some (.int .u8) => some (.str ⟨0, 0⟩)
        | _ => none
      | _, _ => none
    | .sl b o len _ _ _ => match sd, dd with
      | .slice e, .string => match P.underlying e with
        | some (.int .u8) => match cellsAt s b with
          | some cs => bif Nat.ble (o + len) (llen cs) then (match bytesOf (ltake (ldrop cs o) len) with
              | some r => some (.str (BS.ofList r))
              | none => none) else none
          | none => none
        | _ => none
      | _, _ => none
    | _ => none
  | _, _ => none

def qFieldAddr (t : TypeId) (a : V) (i : Nat) : Option V :=
  match P.underlying t with
  | some (.struct fs) => match fs[i]? with
    | some f => match szE P f.type with
      | some (_ + 1) => match a with
        | .ptr b o => some (.ptr b (o + f.offset))
        | _ => none
      | _ => none
    | none => none
  | _ => none

def qField (t : TypeId) (a : V) (i : Nat) : Option V :=
  match P.underlying t with
  | some (.struct fs) => match fs[i]? with
    | some f => match a with
      | .agg l => partE P f.type l f.offset
      | _ => none
    | none => none
  | _ => none

def natOf : V → Option Nat
  | .int _ (.ofNat n) => some n
  | _ => none

def qIndexAddr (t : TypeId) (a i : V) : Option V :=
  match natOf i with
  | some n => match P.underlying t with
    | some (.array len e) => match a, szE P e with
      | .ptr b o, some sz => bif Nat.blt n len then some (.ptr b (o + n * sz)) else none
      | _, _ => none
    | some (.slice e) => match a, szE P e with
      | .sl b o len _ _ _, some sz => bif Nat.blt n len then some (.ptr b (o + n * sz)) else none
      | _, _ => none
    | _ => none
  | none => none

def qIndex (t : TypeId) (a i : V) : Option V :=
  match natOf i with
  | some n => match P.underlying t with
    | some (.array len e) => match a, szE P e with
      | .agg l, some sz => bif Nat.blt n len then partE P e l (n * sz) else none
      | _, _ => none
    | some .string => match a with
      | .str x => bif Nat.blt n x.n then some (.int .u8 (Int.ofNat (x.get n))) else none
      | _ => none
    | _ => none
  | none => none

/-- a bound: none: it is not there -/
def boundE : Option V → Nat → Option Nat
  | none, d => some d
  | some v, _ => natOf v

/-- a part of a slice without elements -/
def qSliceZ (a : V) (l : Nat) (hi mx : Option V) : Option V :=
  bif Nat.beq l 0 then (match boundE hi 0 with
    | some 0 => match mx with
      | none => some a
      | some mv => match hi, natOf mv with
        | some _, some 0 => some (match a with
          | .slz _ => .slz true
          | a => a)
        | _, _ => none
    | _ => none) else none
def qSlice (s : St) (t : TypeId) (a : V) (lo hi mx : Option V) : Option V :=
  match boundE lo 0 with
  | none => none
  | some l =>
  match P.underlying t with
  | some .string => match a, mx with
    | .str x, none => match boundE hi x.n with
      | some h => bif Nat.ble l h && Nat.ble h x.n then some (.str (x.sub l h)) else none
      | none => none
    | _, _ => none
  | some (.slice e) => match szE P e with
    | none => none
    | some sz => match a with
      | .nils => qSliceZ .nils l hi mx
      | .slz x => qSliceZ (.slz x) l hi mx
      | .sl b o len cap x es =>
        bif !Nat.beq sz es then none else
        match boundE hi len with
        | none => none
        | some h =>
          bif !(Nat.ble l h && Nat.ble h cap) then none else
          match mx, hi with
          | none, _ =>
            bif Nat.beq l 0 then some (.sl b o h cap x es) else
            bif Nat.blt l cap then some (.sl b (o + l * es) (h - l) (cap - l) x es) else
            bif x then some (.sl b o 0 0 true es) else some (.slz false)
          | some mv, some _ => match natOf mv with
            | some m => bif Nat.ble h m && Nat.ble m cap then
                (bif Nat.beq m l then some (.sl b o (h - l) 0 true es) else some (.sl b (o + l * es) (h - l) (m - l) true es)) else none
            | none => none
          | some _, none => none
      | _ => none
  | some (.array n e) => match szE P e, mx with
    | some sz, none => match a with
      | .ptr b o => match cellsAt s b, boundE hi n with
        | some cs, some h =>
          bif Nat.ble l h && (Nat.ble h n && (Nat.ble n 1099511627776 && Nat.ble (o + n * sz) (llen cs))) then
            (bif Nat.beq n l then some (.sl b o (h - l) 0 true sz) else some (.sl b (o + l * sz) (h - l) (n - l) true sz)) else none
        | _, _ => none
      | _ => none
    | _, _ => none
  | _ => none

def keyEq : V → V → Option Bool
  | .int k a, .int k' b => bif kEq k k' then some (eqQ a b) else none
  | .str a, .str b => some (a.eq b)
  | .bool a, .bool b => some (a == b)
  | _, _ => none
def findE (k : V) : List (V × V × Nat) → Nat → Option (Option (Nat × V))
  | [], _ => some none
  | e :: l, i => match keyEq k e.1 with
    | some true => some (some (i, e.2.1))
    | some false => findE k l (i + 1)
    | none => none
def plainKeyE (t : TypeId) (k : V) : Bool :=
  match P.underlying t, k with
  | some (.int _), .int .. => true
  | some .string, .str _ => true
  | some .bool, .bool _ => true
  | _, _ => false

def qLookup (s : St) (t : TypeId) (m k : V) (ok : Bool) : Option V :=
  match P.underlying t with
  | some (.map kt e) =>
    bif !plainKeyE P kt k then none else
    match (match m with
      | .nilm => some []
      | .map b => (match s.heap.get b with
        | some (.map es _) => some es
        | _ => none)
      | _ => none) with
    | none => none
    | some es => match findE k es 0 with
      | some (some (_, v)) => some (bif ok then .tup [v, .bool true] else v)
      | some none => match zeroE P e with
        | some z => some (bif ok then .tup [z, .bool false] else z)
        | none => none
      | none => none
  | _ => none

def qLen (s : St) (t : TypeId) (a : V) : Option V :=
  match P.underlying t with
  | some .string => match a with
    | .str x => some (.int .i64 (Int.ofNat x.n))
    | _ => none
  | some (.array n _) => some (.int .i64 (Int.ofNat n))
  | some (.slice _) => match a with
    | .nils => some (.int .i64 0)
    | .slz _ => some (.int .i64 0)
    | .sl _ _ len _ _ _ => some (.int .i64 (Int.ofNat len))
    | _ => none
  | some (.map _ _) => match a with
    | .nilm => some (.int .i64 0)
    | .map b => match s.heap.get b with
      | some (.map es _) => some (.int .i64 (Int.ofNat (llen es)))
      | _ => none
    | _ => none
  | some (.pointer arr) => match P.underlying arr with
    | some (.array n _) => some (.int .i64 (Int.ofNat n))
    | _ => none
  | _ => none

def qCap (t : TypeId) (a : V) : Option V :=
  match P.underlying t with
  | some (.array n _) => some (.int .i64 (Int.ofNat n))
  | some (.slice _) => match a with
    | .nils => some (.int .i64 0)
    | .sl _ _ _ cap true _ => some (.int .i64 (Int.ofNat cap))
    | _ => none
  | _ => none

def minMax (isMax : Bool) : V → List V → Option V
  | a, [] => some a
  | .int k x, .int _ y :: l => minMax isMax (.int k (bif isMax then (bif ltQ x y then y else x) else (bif ltQ y x then y else x))) l
  | _, _ => none

def qBuiltin (s : St) (b : Builtin) (ts : Array TypeId) (args : List V) : Option V :=
  match b with
  | .len => match ts[0]?, args with
    | some t, [a] => qLen P s t a
    | _, _ => none
  | .cap => match ts[0]?, args with
    | some t, [a] => qCap P t a
    | _, _ => none
  | .min => match args with
    | .int k x :: l => minMax false (.int k x) l
    | _ => none
  | .max => match args with
    | .int k x :: l => minMax true (.int k x) l
    | _ => none
  | _ => none

def setAll0 : List V → Nat → List V → List V
  | cs, _, [] => cs
  | cs, off, c :: l => setAll0 (lset cs c off) (off + 1) l
/-- the same at once, where it fits -/
def setAll (cs : List V) (off : Nat) (l : List V) : List V := bif Nat.ble (off + llen l) (llen cs) then lapp (ltake cs off) (lapp l (ldrop cs (off + llen l))) else setAll0 cs off l
def fillE (place : Nat → Option (Nat × Nat)) : List V → List (Nat × V) → Option (List V)
  | cs, [] => some cs
  | cs, (i, v) :: rest => match place i with
    | some (off, size) => bif Nat.beq (llen (cellsV v)) size && Nat.ble (off + size) (llen cs) then fillE place (setAll cs off (cellsV v)) rest else none
    | none => none
def placesE : List Field → Option (List (Nat × Nat))
  | [] => some []
  | f :: l => match szE P f.type with
    | some n => match placesE l with
      | some r => some ((f.offset, n) :: r)
      | none => none
    | none => none
def evalParts (ev : Operand → Option V) : List (Nat × Operand) → Option (List (Nat × V))
  | [] => some []
  | (i, x) :: l => match ev x with
    | some v => match evalParts ev l with
      | some r => some ((i, v) :: r)
      | none => none
    | none => none
def qBuild (t : TypeId) (parts : List (Nat × V)) : Option V :=
  match zeroE P t with
  | none => none
  | some z =>
  match P.underlying t with
  | some (.struct fs) => match placesE P fs.toList with
    | some pl => match fillE (fun i => lget pl i) (cellsV z) parts with
      | some cs => some (.agg cs)
      | none => none
    | none => none
  | some (.array _ e) => match szE P e with
    | some n => match fillE (fun i => some (i * n, n)) (cellsV z) parts with
      | some cs => some (.agg cs)
      | none => none
    | none => none
  | _ => none

def optO (ev : Operand → Option V) : Option Operand → Option (Option V)
  | none => some none
  | some x => match ev x with
    | some v => some (some v)
    | none => none

def assertZ (t : TypeId) (ok : Bool) : Option V :=
  match ok, zeroE P t with
  | true, some z => some (.tup [z, .bool false])
  | _, _ => none
/-- the value of an interface value, at a type that is none itself -/
def qAssert (t : TypeId) (v : V) (ok : Bool) : Option V :=
  match P.underlying t with
  | some (.interface _) => none
  | some _ => match v with
    | .iface t' x => bif Nat.beq t' t then some (bif ok then .tup [x, .bool true] else x) else
        assertZ P t ok
    | .nili => assertZ P t ok
    | _ => none
  | none => none

/-- a quiet operation -/
def qop (s : St) (ev : Operand → Option V) (op : Op) : Option V :=
  match op with
  | .move x => ev x
  | .assign x => ev x
  | .pick c a b => match ev c with
    | some (.bool true) => ev a
    | some (.bool false) => ev b
    | _ => none
  | .load t a => match ev a with
    | some v => qLoad P s t v
    | none => none
  | .nilCheck x => match ev x with
    | some (.ptr b o) => some (.ptr b o)
    | some (.fn f a c) => some (.fn f a c)
    | some (.yld l) => some (.yld l)
    | _ => none
  | .binOp op t x y _ => match ev x, ev y with
    | some a, some b => qBin P s op t a b
    | _, _ => none
  | .unOp op _ x => match ev x with
    | some a => qUn op a
    | none => none
  | .convert src dst x => match ev x with
    | some a => qConv P s src dst a
    | none => none
  | .makeInterface t x => match P.underlying t with
    | some (.interface _) => none
    | some _ => match ev x with
      | some a => some (.iface t a)
      | none => none
    | none => none
  | .makeFunc fn first captured => match fn with
    | .func f => match evalOs ev first.toList, evalOs ev captured.toList with
      | some a, some c => some (.fn f a c)
      | _, _ => none
    | _ => none
  | .slice t x lo hi mx => match ev x, optO ev lo, optO ev hi, optO ev mx with
    | some a, some l, some h, some m => qSlice P s t a l h m
    | _, _, _, _ => none
  | .fieldAddr t x f => match ev x with
    | some a => qFieldAddr P t a f
    | none => none
  | .field t x f => match ev x with
    | some a => qField P t a f
    | none => none
  | .indexAddr t x i => match ev x, ev i with
    | some a, some n => qIndexAddr P t a n
    | _, _ => none
  | .index t x i => match ev x, ev i with
    | some a, some n => qIndex P t a n
    | _, _ => none
  | .lookup t x i ok => match ev x, ev i with
    | some a, some n => qLookup P s t a n ok
    | _, _ => none
  | .build t parts => match evalParts ev parts.toList with
    | some ps => qBuild P t ps
    | none => none
  | .extract x i => match ev x with
    | some (.tup l) => lget l i
    | _ => none
  | .typeAssert x _ t ok => match ev x with
    | some v => qAssert P t v ok
    | none => none
  | .call c => match c.callee with
    | .builtin b => match evalOs ev c.args.toList with
      | some vs => qBuiltin P s b c.argTypes vs
      | none => none
    | _ => none
  | _ => none
end
end Go.Eng
