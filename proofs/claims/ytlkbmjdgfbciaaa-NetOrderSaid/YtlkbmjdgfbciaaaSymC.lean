/-
  The evaluator's quiet operations: those that read memory, and change nothing. Definitions alone.
-/
import Derived.Test.YtlkbmjdgfbciaaaSymB
namespace Go.Sym

/-! ### What must hold for an answer -/
def andB (b : Bool) (q : Prop) : Prop := @Bool.rec (fun _ => Prop) False q b
def iteB (b : Bool) (p q : Prop) : Prop := @Bool.rec (fun _ => Prop) q p b
def needs : List Bool → Prop → Prop
  | [], q => q
  | b :: l, q => andB b (needs l q)
def allB : List Bool → Prop
  | [] => True
  | b :: l => b = true ∧ allB l
theorem andB_iff (b : Bool) (q : Prop) : andB b q ↔ b = true ∧ q := by cases b <;> simp [andB]
theorem iteB_iff (b : Bool) (p q : Prop) : iteB b p q ↔ (b = true → p) ∧ (b = false → q) := by cases b <;> simp [iteB]
theorem needs_iff : ∀ (l : List Bool) (q : Prop), needs l q ↔ allB l ∧ q
  | [], q => by simp [needs, allB]
  | b :: l, q => by simp only [needs, allB, andB_iff, needs_iff l q, and_assoc]
theorem allB_append : ∀ (l m : List Bool), allB (l ++ m) ↔ allB l ∧ allB m
  | [], m => by simp [allB]
  | b :: l, m => by simp only [List.cons_append, allB, allB_append l m, and_assoc]
abbrev Qr := Option (List Bool × V)
def ok0 (v : V) : Qr := some ([], v)
def okO : Option V → Qr
  | some v => some ([], v)
  | none => none

def cellsO : V → Option (List V)
  | .agg l => some l
  | .arr .. => none
  | .any => none
  | v => some [v]
def oneV : V → Bool
  | .agg _ | .tup _ | .undef | .arr .. | .any => false
  | _ => true

/-! ### Rows -/
def rowV : (e : List Ty) → rowDen e → List V
  | [], _ => []
  | [t], x => [toV t x]
  | t :: u :: ts, x => toV t x.1 :: rowV (u :: ts) x.2
mutual
def Ty.beq : Ty → Ty → Bool
  | .int k, .int k' => kEq k k'
  | .bool, .bool => true
  | .str, .str => true
  | .lst e, .lst e' => beqL e e'
  | _, _ => false
def beqL : List Ty → List Ty → Bool
  | [], [] => true
  | t :: ts, u :: us => Ty.beq t u && beqL ts us
  | _, _ => false
end
mutual
theorem Ty.beq_eq : ∀ (a b : Ty), Ty.beq a b = true → a = b
  | .int k, b, h => by
    cases b <;> simp only [Ty.beq, Bool.false_eq_true] at h
    rw [kEq_iff] at h; simp at h; rw [h]
  | .bool, b, h => by cases b <;> simp only [Ty.beq, Bool.false_eq_true] at h; rfl
  | .str, b, h => by cases b <;> simp only [Ty.beq, Bool.false_eq_true] at h; rfl
  | .lst e, b, h => by
    cases b <;> simp only [Ty.beq, Bool.false_eq_true] at h
    rw [beqL_eq e _ h]
theorem beqL_eq : ∀ (a b : List Ty), beqL a b = true → a = b
  | [], b, h => by cases b <;> simp only [beqL, Bool.false_eq_true] at h; rfl
  | t :: ts, b, h => by
    cases b <;> simp only [beqL, Bool.false_eq_true, Bool.and_eq_true] at h
    rw [Ty.beq_eq t _ h.1, beqL_eq ts _ h.2]
end
def castL {e e' : List Ty} (h : e' = e) (L : List (rowDen e')) : List (rowDen e) := @Eq.rec (List Ty) e' (fun x _ => List (rowDen x)) L e h
def asL (e e' : List Ty) (L : List (rowDen e')) : Option (List (rowDen e)) :=
  if h : beqL e' e = true then some (castL (beqL_eq e' e h) L) else none
/-- a cell's plain value -/
def ofInt (k : IntKind) (v : V) : Option Int := match v with
  | .int k' n => bif kEq k k' then some n else none
  | _ => none
def ofBool (v : V) : Option Bool := match v with
  | .bool b => some b
  | _ => none
def ofStr (v : V) : Option ByteArray := match v with
  | .str s => some s
  | _ => none
def ofLst (e : List Ty) (v : V) : Option (List (rowDen e)) := match v with
  | .lst e' L _ => asL e e' L
  | .nils => some []
  | _ => none
def ofV : (t : Ty) → V → Option t.den
  | .int k, v => ofInt k v
  | .bool, v => ofBool v
  | .str, v => ofStr v
  | .lst e, v => ofLst e v
def pairO {α β : Type} (x : Option α) (y : Option β) : Option (α × β) := match x, y with
  | some x, some y => some (x, y)
  | _, _ => none
def oneO {α : Type} (f : V → Option α) (l : List V) : Option α := match l with
  | [v] => f v
  | _ => none
def consO {α β : Type} (f : V → Option α) (g : List V → Option β) (l : List V) : Option (α × β) := match l with
  | v :: vs => pairO (f v) (g vs)
  | [] => none
def nilO (l : List V) : Option Unit := match l with
  | [] => some ()
  | _ => none
def ofRow : (e : List Ty) → List V → Option (rowDen e)
  | [], l => nilO l
  | [t], l => oneO (ofV t) l
  | t :: u :: ts, l => consO (ofV t) (ofRow (u :: ts)) l
/-- of cells in a row, so many rows -/
noncomputable def ofRows (e : List Ty) : Nat → List V → Option (List (rowDen e))
  | 0, l => (match l with
    | [] => some []
    | _ => none)
  | n + 1, l => match ofRow e (ltake l e.length), ofRows e n (ldrop l e.length) with
    | some x, some y => some (x :: y)
    | _, _ => none
/-- a text's byte -/
def bAt (s : ByteArray) (i : Nat) : Int := ((s.data.toList.getD i 0).toNat : Int)
def strOf (l : List Int) : ByteArray := ⟨(l.map fun n => UInt8.ofNat n.toNat).toArray⟩
def bytesL (s : ByteArray) : List Int := s.data.toList.map fun b => (b.toNat : Int)
def sEq (a b : ByteArray) : Bool := decide (a = b)
def sLt (a b : ByteArray) : Bool := Op.bytesLess a.data.toList b.data.toList

def ofCell : Value → Option V
  | .bool b => some (.bool b)
  | .int k n => some (.int k n)
  | .string s => some (.str s)
  | .pointer none => some .nilp
  | .slice none 0 0 => some .nils
  | .map none => some .nilm
  | .nilFunc => some .nilf
  | .nilIface => some .nili
  | _ => none
def ofCells : List Value → Option (List V)
  | [] => some []
  | v :: l => match ofCell v with
    | some x => match ofCells l with
      | some y => some (x :: y)
      | none => none
    | none => none
def ofVal : Value → Option V
  | .agg cs => match ofCells cs.toList with
    | some l => some (.agg l)
    | none => none
  | .tuple cs => match cs.toList with
    | [] => some .undef
    | _ => none
  | v => ofCell v

def evalOs (ev : Operand → Option V) : List Operand → Option (List V)
  | [] => some []
  | x :: l => match ev x with
    | some v => match evalOs ev l with
      | some vs => some (v :: vs)
      | none => none
    | none => none

noncomputable section
variable (P : Program)

def isAggE (t : TypeId) : Option Bool :=
  match P.underlying t with
  | some (.struct _) => some true
  | some (.array _ _) => some true
  | some _ => some false
  | none => none
def szE (t : TypeId) : Option Nat :=
  match P.info? t with
  | some i => some i.size
  | none => none
def zeroE (t : TypeId) : Option V :=
  match P.info? t with
  | some i => match i.zero with
    | some v => ofVal v
    | none => none
  | none => none

/-- the plain type of a type's cells -/
def rowTyE : Nat → TypeId → Option (List Ty)
  | 0, _ => none
  | n + 1, t => match P.underlying t with
    | some (.int k) => some [.int k]
    | some .bool => some [.bool]
    | some .string => some [.str]
    | some (.slice e) => match rowTyE n e with
      | some r => some [.lst r]
      | none => none
    | some (.struct fs) => fs.toList.foldr (fun f r => match rowTyE n f.type, r with
      | some a, some b => some (a ++ b)
      | _, _ => none) (some [])
    | _ => none

/-- a part of an aggregate -/
def partE (t : TypeId) (l : List V) (off : Nat) : Option V :=
  match isAggE P t with
  | some true => match szE P t with
    | some n => bif Nat.ble (off + n) (llen l) then some (.agg (ltake (ldrop l off) n)) else none
    | none => none
  | some false => lget l off
  | none => none

def cellsAt (s : St) (b : Nat) : Option (List V) :=
  match s.heap.get b with
  | some (.cells cs _ _) => some cs
  | _ => none

def rowsAt (s : St) (b : Nat) : Option ((e : List Ty) × List (rowDen e)) :=
  match s.heap.get b with
  | some (.rows e L _ _) => some ⟨e, L⟩
  | _ => none
def okB (b : Bool) : Option V → Qr
  | some v => some ([b], v)
  | none => none
def qLoad (s : St) (t : TypeId) (a : V) : Qr :=
  match a with
  | .ptr b o => match cellsAt s b with
    | some cs => okO (partE P t cs o)
    | none => none
  | .rptr b i j es => match rowsAt s b with
    | some ⟨e, L⟩ => bif Nat.beq es e.length then
        (match P.underlying t with
        | some (.array n _) => match i, j with
          | 0, 0 => match szE P t with
            | some z => bif Nat.beq z (n * e.length) then some ([decide (L.length = n)], .arr e L) else none
            | none => none
          | _, _ => none
        | _ => okB (decide (i < L.length)) (partE P t (rowV e (rowAt e L i)) j)) else none
    | none => none
  | .lptr e L i j => okB (decide (i < L.length)) (partE P t (rowV e (rowAt e L i)) j)
  | _ => none

def ofI (k : IntKind) (x : Int) : Nat := modN (kM k) x

/-- comparisons of numbers, their definitions out of sight (whnf would run through great literals) -/
noncomputable def ltI : Int → Int → Bool := hide fun a b => decide (a < b)
noncomputable def leI : Int → Int → Bool := hide fun a b => decide (a ≤ b)
noncomputable def inI : Int → Bool := hide fun n => decide (-9223372036854775808 ≤ n ∧ n ≤ 9223372036854775807)
theorem ltI_eq (a b : Int) : ltI a b = decide (a < b) := by unfold ltI; rw [hide_eq]
theorem leI_eq (a b : Int) : leI a b = decide (a ≤ b) := by unfold leI; rw [hide_eq]
theorem inI_eq (n : Int) : inI n = decide (-9223372036854775808 ≤ n ∧ n ≤ 9223372036854775807) := by unfold inI; rw [hide_eq]
/-- a number that stands in its kind: 64 bits with a sign: it must; without a sign: the rest -/
noncomputable def arithE (k : IntKind) (n : Int) : Qr :=
  match k with
  | .i64 => some ([inI n], .int .i64 n)
  | .u64 => some ([], .int .u64 (n % 18446744073709551616))
  | .u32 => some ([], .int .u32 (n % 4294967296))
  | .u16 => some ([], .int .u16 (n % 65536))
  | .u8 => some ([], .int .u8 (n % 256))
  | k => some ([], .int k (k.wrap n))
noncomputable def quoE (k : IntKind) (a b : Int) : Qr :=
  match k with
  | .i64 => some ([leI 0 a, ltI 0 b, inI a], .int .i64 (a / b))
  | .u64 => some ([leI 0 a, ltI 0 b, ltI a 18446744073709551616], .int .u64 (a / b))
  | .u32 => some ([leI 0 a, ltI 0 b, ltI a 4294967296], .int .u32 (a / b))
  | .u8 => some ([leI 0 a, ltI 0 b, ltI a 256], .int .u8 (a / b))
  | k => some ([!decide (b = 0)], .int k (k.wrap (a.tdiv b)))
noncomputable def remE (k : IntKind) (a b : Int) : Qr := some ([leI 0 a, ltI 0 b], .int k (a % b))
noncomputable def intBin (op : BinOp) (k : IntKind) (a b : Int) : Qr :=
  match op with
  | .add => arithE k (a + b)
  | .sub => arithE k (a - b)
  | .mul => arithE k (a * b)
  | .quo => quoE k a b
  | .rem => remE k a b
  | .and => ok0 (.int k (k.wrap (.ofNat (Nat.land (ofI k a) (ofI k b)))))
  | .or => ok0 (.int k (k.wrap (.ofNat (Nat.lor (ofI k a) (ofI k b)))))
  | .xor => ok0 (.int k (k.wrap (.ofNat (Nat.xor (ofI k a) (ofI k b)))))
  | .andNot => ok0 (.int k (k.wrap (.ofNat (Nat.land (ofI k a) (kM k - 1 - ofI k b)))))
  | .eql => ok0 (.bool (decide (a = b)))
  | .neq => ok0 (.bool (!decide (a = b)))
  | .lss => ok0 (.bool (ltI a b))
  | .leq => ok0 (.bool (leI a b))
  | .gtr => ok0 (.bool (ltI b a))
  | .geq => ok0 (.bool (leI b a))
  | _ => none
noncomputable def shiftE (op : BinOp) (k : IntKind) (a b : Int) : Qr :=
  match op with
  | .shl => match k with
    | .u64 => some ([leI 0 b], .int .u64 ((a * 2 ^ (min b.toNat 64)) % 18446744073709551616))
    | .u32 => some ([leI 0 b], .int .u32 ((a * 2 ^ (min b.toNat 32)) % 4294967296))
    | .u8 => some ([leI 0 b], .int .u8 ((a * 2 ^ (min b.toNat 8)) % 256))
    | k => some ([leI 0 b], .int k (k.wrap (a * 2 ^ (min b.toNat k.bits))))
  | .shr => some ([leI 0 b], .int k (a / (2 ^ (min b.toNat k.bits))))
  | _ => none
def strBin (op : BinOp) (a b : ByteArray) : Qr :=
  match op with
  | .add => some ([decide (a.size + b.size ≤ 4611686018427387904)], .str (a ++ b))
  | .eql => ok0 (.bool (sEq a b))
  | .neq => ok0 (.bool (!sEq a b))
  | .lss => ok0 (.bool (sLt a b))
  | .leq => ok0 (.bool (sLt a b || sEq a b))
  | .gtr => ok0 (.bool (!(sLt a b || sEq a b)))
  | .geq => ok0 (.bool (!sLt a b))
  | _ => none

def plainBlock (s : St) (b : Nat) : Bool :=
  match s.heap.get b with
  | some (.cells _ _ false) => true
  | _ => false

/-- '==' between two values that are no integers and no strings -/
def eqE (s : St) (t : TypeId) (a b : V) : Option Bool :=
  match P.underlying t with
  | some .bool => match a, b with
    | .bool x, .bool y => some (x == y)
    | _, _ => none
  | some (.pointer e) => match a, b with
    | .nilp, .nilp => some true
    | .nilp, .ptr .. => some false
    | .ptr .., .nilp => some false
    | .ptr x o, .ptr y q =>
      match szE P e with
      | some (_ + 1) => bif plainBlock s x && plainBlock s y then (bif Nat.beq x y then some (Nat.beq o q) else some false) else none
      | _ => none
    | _, _ => none
  | some (.slice _) => match a, b with
    | .nils, .nils => some true
    | .nils, .sl .. => some false
    | .sl .., .nils => some false
    | _, _ => none
  | some (.map _ _) => match a, b with
    | .nilm, .nilm => some true
    | .nilm, .map _ => some false
    | .map _, .nilm => some false
    | _, _ => none
  | some (.func ..) => match a, b with
    | .nilf, .nilf => some true
    | .nilf, .fn .. => some false
    | .fn .., .nilf => some false
    | .nilf, .yld _ => some false
    | .yld _, .nilf => some false
    | _, _ => none
  | some (.interface _) => match a, b with
    | .nili, .iface .. => some false
    | .iface .., .nili => some false
    | _, _ => none
  | _ => none

/-- cell by cell: for structs whose fields are integers, bools, strings, and structs of such -/
def eqFields (nest : TypeId → V → V → Option Bool) (d : List Field) (l m : List V) : Option Bool :=
  match d with
  | [] => some true
  | f :: rest =>
    bif f.name == "_" then none else
    match P.underlying f.type with
    | some (.int _) => match lget l f.offset, lget m f.offset with
      | some (.int k x), some (.int k' y) => bif kEq k k' then (match eqFields nest rest l m with
        | some r => some (decide (x = y) && r)
        | none => none) else none
      | _, _ => none
    | some .bool => match lget l f.offset, lget m f.offset with
      | some (.bool x), some (.bool y) => match eqFields nest rest l m with
        | some r => some ((x == y) && r)
        | none => none
      | _, _ => none
    | some .string => match lget l f.offset, lget m f.offset with
      | some (.str x), some (.str y) => match eqFields nest rest l m with
        | some r => some (sEq x y && r)
        | none => none
      | _, _ => none
    | some (.struct _) => match partE P f.type l f.offset, partE P f.type m f.offset with
      | some x, some y => match nest f.type x y, eqFields nest rest l m with
        | some q, some r => some (q && r)
        | _, _ => none
      | _, _ => none
    | _ => none
def eqNest : Nat → TypeId → V → V → Option Bool
  | 0, _, _, _ => none
  | n + 1, t, a, b => match P.underlying t with
    | some (.struct fs) => match a, b with
      | .agg l, .agg m => bif P.stoodInHeld t then none else eqFields P (eqNest n) fs.toList l m
      | _, _ => none
    | _ => none
def eqStruct (t : TypeId) (a b : V) : Option Bool :=
  match P.underlying t with
  | some (.struct fs) => match a, b with
    | .agg l, .agg m => bif P.stoodInHeld t || P.eqGuardType P.depth t then none else eqFields P (eqNest P 6) fs.toList l m
    | _, _ => none
  | _ => none

/-- two nils of an interface type without methods -/
def eqNil2 (t : TypeId) (a b : V) : Option Bool :=
  match P.underlying t with
  | some (.interface ms) => match a, b with
    | .nili, .nili => bif ms.isEmpty then some true else none
    | _, _ => none
  | _ => none
def eqAny (s : St) (t : TypeId) (a b : V) : Option Bool :=
  match eqE P s t a b with
  | some r => some r
  | none => match eqNil2 P t a b with
    | some r => some r
    | none => eqStruct P t a b

def qBin (s : St) (op : BinOp) (t : TypeId) (a b : V) : Qr :=
  match a, b with
  | .int k x, .int k' y =>
    match op with
    | .shl => shiftE .shl k x y
    | .shr => shiftE .shr k x y
    | _ => bif kEq k k' then intBin op k x y else none
  | .str x, .str y => strBin op x y
  | _, _ =>
    match op with
    | .eql => match eqAny P s t a b with
      | some r => ok0 (.bool r)
      | none => none
    | .neq => match eqAny P s t a b with
      | some r => ok0 (.bool (!r))
      | none => none
    | _ => none

def qUn (op : UnOp) (a : V) : Option V :=
  match op, a with
  | .neg, .int k n => some (.int k (k.wrap (0 - n)))
  | .xor, .int k n => some (.int k (k.wrap (.ofNat (Nat.xor (kM k - 1) (ofI k n)))))
  | .not, .bool b => some (.bool (!b))
  | _, _ => none

def bytesOf : List V → Option (List Int)
  | [] => some []
  | .int .u8 n :: l => match bytesOf l with
    | some r => some (n :: r)
    | none => none
  | _ => none
/-- rows of bytes -/
def asBytes (e : List Ty) (L : List (rowDen e)) : Option (List Int) := asL [.int .u8] e L

def qConv (s : St) (src dst : TypeId) (a : V) : Qr :=
  match P.underlying src, P.underlying dst with
  | some sd, some dd =>
    match a with
    | .int _ n => match dd with
      | .int k => arithE k n
      | _ => none
    | .str x => match dd with
      | .string => ok0 (.str x)
      | _ => none
    | .nils => match sd, dd with
      | .slice e, .string => match P.underlying e with
        | some (.int .u8) => ok0 (.str ⟨#[]⟩)
        | _ => none
      | _, _ => none
    | .lst e' L _ => match sd, dd with
      | .slice e, .string => match P.underlying e with
        | some (.int .u8) => match asBytes e' L with
          | some r => ok0 (.str (strOf r))
          | none => none
        | _ => none
      | _, _ => none
    | .rs b lo len _ _ es => match sd, dd with
      | .slice e, .string => match P.underlying e with
        | some (.int .u8) => match rowsAt s b with
          | some ⟨e', L⟩ => match asBytes e' L with
            | some r => bif Nat.beq es 1 then some ([decide (lo + len ≤ r.length)], .str (strOf ((r.drop lo).take len))) else none
            | none => none
          | none => none
        | _ => none
      | _, _ => none
    | .sl b o len _ _ _ => match sd, dd with
      | .slice e, .string => match P.underlying e with
        | some (.int .u8) => match cellsAt s b with
          | some cs => bif Nat.ble (o + len) (llen cs) then (match bytesOf (ltake (ldrop cs o) len) with
              | some r => ok0 (.str (strOf r))
              | none => none) else none
          | none => none
        | _ => none
      | _, _ => none
    | _ => none
  | _, _ => none

def qFieldAddr (t : TypeId) (a : V) (i : Nat) : Option V :=
  match P.underlying t with
  | some (.struct fs) => match fs[i]? with
    | some f => match szE P f.type with
      | some (_ + 1) => match a with
        | .ptr b o => some (.ptr b (o + f.offset))
        | .rptr b i j es => some (.rptr b i (j + f.offset) es)
        | .lptr e L i j => some (.lptr e L i (j + f.offset))
        | _ => none
      | _ => none
    | none => none
  | _ => none

def qField (t : TypeId) (a : V) (i : Nat) : Option V :=
  match P.underlying t with
  | some (.struct fs) => match fs[i]? with
    | some f => match a with
      | .agg l => partE P f.type l f.offset
      | _ => none
    | none => none
  | _ => none

/-- a number as a place: what must hold, and which -/
def natOf : V → Option (List Bool × Nat)
  | .int _ n => some ([decide (0 ≤ n)], n.toNat)
  | _ => none

def qIndexAddr (t : TypeId) (a i : V) : Qr :=
  match natOf i with
  | some (c, n) => match P.underlying t with
    | some (.array len e) => match a, szE P e with
      | .ptr b o, some sz => some (c ++ [decide (n < len)], .ptr b (o + n * sz))
      | .rptr b 0 0 es, some sz => bif Nat.beq sz es then some (c ++ [decide (n < len)], .rptr b n 0 es) else none
      | .lptr e' L i j, some sz => some (c ++ [decide (n < len)], .lptr e' L i (j + n * sz))
      | _, _ => none
    | some (.slice e) => match a, szE P e with
      | .sl b o len _ _ _, some sz => some (c ++ [decide (n < len)], .ptr b (o + n * sz))
      | .rs b lo len _ _ es, some sz => bif Nat.beq sz es then some (c ++ [decide (n < len)], .rptr b (lo + n) 0 es) else none
      | .lst e' L _, some sz => bif Nat.beq sz e'.length then some (c ++ [decide (n < L.length)], .lptr e' L n 0) else none
      | _, _ => none
    | _ => none
  | none => none

def qIndex (t : TypeId) (a i : V) : Qr :=
  match natOf i with
  | some (c, n) => match P.underlying t with
    | some (.array len e) => match a, szE P e with
      | .agg l, some sz => match partE P e l (n * sz) with
        | some v => some (c ++ [decide (n < len)], v)
        | none => none
      | .arr e' L, some sz => bif Nat.beq sz e'.length then (match partE P e (rowV e' (rowAt e' L n)) 0 with
        | some v => some (c ++ [decide (n < len), decide (n < L.length)], v)
        | none => none) else none
      | _, _ => none
    | some .string => match a with
      | .str x => some (c ++ [decide (n < x.size)], .int .u8 (bAt x n))
      | _ => none
    | _ => none
  | none => none

/-- a bound: none: it is not there -/
def boundE : Option V → Nat → Option (List Bool × Nat)
  | none, d => some ([], d)
  | some v, _ => natOf v

def qSlice (s : St) (t : TypeId) (a : V) (lo hi mx : Option V) : Qr :=
  match boundE lo 0 with
  | none => none
  | some (cl, l) =>
  match P.underlying t with
  | some .string => match a, mx with
    | .str x, none => match boundE hi x.size with
      | some (ch, h) => some (cl ++ (ch ++ [decide (l ≤ h), decide (h ≤ x.size)]), .str (x.extract l h))
      | none => none
    | _, _ => none
  | some (.slice e) => match szE P e with
    | none => none
    | some sz => match a with
      | .nils => match boundE hi 0, mx with
        | some (ch, h), none => some (cl ++ (ch ++ [decide (l ≤ h), decide (h ≤ 0)]), .nils)
        | _, _ => none
      | .rs b lo' len cap x es =>
        bif !Nat.beq sz es then none else
        match boundE hi len with
        | none => none
        | some (ch, h) => match mx, hi with
          | none, _ => some (cl ++ (ch ++ [decide (l ≤ h), decide (h ≤ cap)]), .rs b (lo' + l) (h - l) (cap - l) x es)
          | some mv, some _ => match natOf mv with
            | some (cm, m) => some (cl ++ (ch ++ (cm ++ [decide (l ≤ h), decide (h ≤ m), decide (m ≤ cap)])), .rs b (lo' + l) (h - l) (m - l) true es)
            | none => none
          | some _, none => none
      | .lst e' L x =>
        bif !Nat.beq sz e'.length then none else
        match boundE hi L.length with
        | none => none
        | some (ch, h) => match mx, hi with
          | none, none => some (cl ++ [decide (l ≤ L.length)], .lst e' (L.drop l) x)
          | none, some _ => some (cl ++ (ch ++ [decide (l ≤ h), decide (h ≤ L.length)]), .lst e' ((L.take h).drop l) false)
          | some mv, some _ => match natOf mv with
            | some (cm, m) => some (cl ++ (ch ++ (cm ++ [decide (l ≤ h), decide (h = m), decide (h ≤ L.length)])), .lst e' ((L.take h).drop l) true)
            | none => none
          | some _, none => none
      | .sl b o len cap x es =>
        bif !Nat.beq sz es then none else
        match boundE hi len with
        | none => none
        | some (ch, h) =>
          match mx, hi with
          | none, _ =>
            bif Nat.beq l 0 then some (cl ++ (ch ++ [decide (l ≤ h), decide (h ≤ cap)]), .sl b o h cap x es) else
            bif Nat.blt l cap then some (cl ++ (ch ++ [decide (l ≤ h), decide (h ≤ cap)]), .sl b (o + l * es) (h - l) (cap - l) x es) else none
          | some mv, some _ => match natOf mv with
            | some (cm, m) => bif Nat.beq m l then none else some (cl ++ (ch ++ (cm ++ [decide (l ≤ h), decide (h ≤ m), decide (m ≤ cap)])), .sl b (o + l * es) (h - l) (m - l) true es)
            | none => none
          | some _, none => none
      | _ => none
  | some (.array n e) => match szE P e, mx with
    | some sz, none => match a, boundE hi n with
      | .ptr b o, some (ch, h) => match cellsAt s b with
        | some cs =>
          bif Nat.ble (o + n * sz) (llen cs) then
            (bif Nat.beq n l then none else some (cl ++ (ch ++ [decide (l ≤ h), decide (h ≤ n)]), .sl b (o + l * sz) (h - l) (n - l) true sz)) else none
        | _ => none
      | .rptr b 0 0 es, some (ch, h) => match rowsAt s b with
        | some ⟨e', L⟩ => bif Nat.beq sz es && Nat.beq es e'.length then
            some (cl ++ (ch ++ [decide (l ≤ h), decide (h ≤ n), decide (n ≤ L.length)]), .rs b l (h - l) (n - l) true es) else none
        | none => none
      | _, _ => none
    | _, _ => none
  | _ => none

def keyEq : V → V → Option Bool
  | .int k a, .int k' b => bif kEq k k' then some (decide (a = b)) else none
  | .str a, .str b => some (sEq a b)
  | .bool a, .bool b => some (a == b)
  | _, _ => none
def findE (k : V) : List (V × V × Nat) → Nat → Option (Option (Nat × V))
  | [], _ => some none
  | e :: l, i => match keyEq k e.1 with
    | some true => some (some (i, e.2.1))
    | some false => findE k l (i + 1)
    | none => none
def plainKeyE (t : TypeId) (k : V) : Bool :=
  match P.underlying t, k with
  | some (.int _), .int .. => true
  | some .string, .str _ => true
  | some .bool, .bool _ => true
  | _, _ => false

/-! maps of plain keys and values -/
def eqI (a b : Int) : Bool := decide (a = b)
def eqBo (a b : Bool) : Bool := a == b
def kB : (k : Ty) → k.den → k.den → Bool
  | .int _, a, b => eqI a b
  | .bool, a, b => eqBo a b
  | .str, a, b => sEq a b
  | .lst _, _, _ => false
def pmF (k t : Ty) (d : k.den) : List (k.den × t.den × Nat) → Nat → Option (Nat × t.den × Nat)
  | [], _ => none
  | m :: M, i => bif kB k d m.1 then some (i, m.2) else pmF k t d M (i + 1)
/-- what stands at a key; whether something does -/
def pmGet0 (k t : Ty) (M : List (k.den × t.den × Nat)) (d : k.den) (z : t.den) : t.den := match pmF k t d M 0 with
  | some r => r.2.1
  | none => z
def pmHas0 (k t : Ty) (M : List (k.den × t.den × Nat)) (d : k.den) : Bool := match pmF k t d M 0 with
  | some _ => true
  | none => false
noncomputable def pmGet : (k t : Ty) → List (k.den × t.den × Nat) → k.den → t.den → t.den := hide pmGet0
noncomputable def pmHas : (k t : Ty) → List (k.den × t.den × Nat) → k.den → Bool := hide pmHas0
theorem pmGet_eq : pmGet = pmGet0 := hide_eq _
theorem pmHas_eq : pmHas = pmHas0 := hide_eq _
noncomputable def qLookP (ok : Bool) (k t : Ty) (M : List (k.den × t.den × Nat)) (d : k.den) (z : V) : Option V :=
  match ofV t z with
  | some dz => some (bif ok then .tup [toV t (pmGet k t M d dz), .bool (pmHas k t M d)] else toV t (pmGet k t M d dz))
  | none => none
def pmAt (s : St) (b : Nat) : Option ((k : Ty) × (t : Ty) × List (k.den × t.den × Nat) × Nat) :=
  match s.heap.get b with
  | some (.pm k t M c) => some ⟨k, t, M, c⟩
  | _ => none
noncomputable def qLookup1 (s : St) (t : TypeId) (m key : V) (ok : Bool) : Option V :=
  match P.underlying t, m with
  | some (.map kt e), .map b => (match pmAt s b with
    | some ⟨k, t', M, _⟩ => bif plainKeyE P kt key then (match ofV k key, zeroE P e with
      | some d, some z => qLookP ok k t' M d z
      | _, _ => none) else none
    | none => none)
  | _, _ => none
def qLookup (s : St) (t : TypeId) (m k : V) (ok : Bool) : Option V :=
  match P.underlying t with
  | some (.map kt e) =>
    bif !plainKeyE P kt k then none else
    match (match m with
      | .nilm => some []
      | .map b => (match s.heap.get b with
        | some (.map es _) => some es
        | _ => none)
      | _ => none) with
    | none => none
    | some es => match findE k es 0 with
      | some (some (_, v)) => some (bif ok then .tup [v, .bool true] else v)
      | some none => match zeroE P e with
        | some z => some (bif ok then .tup [z, .bool false] else z)
        | none => none
      | none => none
  | _ => none

noncomputable def qLookup2 (s : St) (t : TypeId) (m k : V) (ok : Bool) : Option V := match qLookup1 P s t m k ok with
  | some v => some v
  | none => qLookup P s t m k ok

def qLen (s : St) (t : TypeId) (a : V) : Option V :=
  match P.underlying t with
  | some .string => match a with
    | .str x => some (.int .i64 ((x.size : Nat) : Int))
    | _ => none
  | some (.array n _) => some (.int .i64 ((n : Nat) : Int))
  | some (.slice _) => match a with
    | .nils => some (.int .i64 0)
    | .sl _ _ len _ _ _ => some (.int .i64 ((len : Nat) : Int))
    | .rs _ _ len _ _ _ => some (.int .i64 ((len : Nat) : Int))
    | .lst _ L _ => some (.int .i64 ((L.length : Nat) : Int))
    | _ => none
  | some (.map _ _) => match a with
    | .nilm => some (.int .i64 0)
    | .map b => match s.heap.get b with
      | some (.map es _) => some (.int .i64 ((llen es : Nat) : Int))
      | some (.pm _ _ M _) => some (.int .i64 ((M.length : Nat) : Int))
      | _ => none
    | _ => none
  | some (.pointer arr) => match P.underlying arr with
    | some (.array n _) => some (.int .i64 ((n : Nat) : Int))
    | _ => none
  | _ => none

def qCap (t : TypeId) (a : V) : Option V :=
  match P.underlying t with
  | some (.array n _) => some (.int .i64 ((n : Nat) : Int))
  | some (.slice _) => match a with
    | .nils => some (.int .i64 0)
    | .sl _ _ _ cap true _ => some (.int .i64 ((cap : Nat) : Int))
    | .rs _ _ _ cap true _ => some (.int .i64 ((cap : Nat) : Int))
    | .lst _ L true => some (.int .i64 ((L.length : Nat) : Int))
    | _ => none
  | _ => none

/-- the greater one, not to be unfolded -/
noncomputable def maxI : Int → Int → Int := Classical.choose (⟨fun x y => max x y, rfl⟩ : ∃ f : Int → Int → Int, f = fun x y => max x y)
theorem maxI_eq (x y : Int) : maxI x y = max x y := congrFun (congrFun (Classical.choose_spec (⟨fun x y => max x y, rfl⟩ : ∃ f : Int → Int → Int, f = fun x y => max x y)) x) y
noncomputable def minMax (isMax : Bool) : V → List V → Option V
  | a, [] => some a
  | .int k x, .int _ y :: l => match isMax with
    | true => minMax true (.int k (maxI x y)) l
    | false => minMax false (.int k (min x y)) l
  | _, _ => none

def qBuiltin (s : St) (b : Builtin) (ts : Array TypeId) (args : List V) : Option V :=
  match b with
  | .len => match ts[0]?, args with
    | some t, [a] => qLen P s t a
    | _, _ => none
  | .cap => match ts[0]?, args with
    | some t, [a] => qCap P t a
    | _, _ => none
  | .min => match args with
    | .int k x :: l => minMax false (.int k x) l
    | _ => none
  | .max => match args with
    | .int k x :: l => minMax true (.int k x) l
    | _ => none
  | _ => none

def setAll : List V → Nat → List V → List V
  | cs, _, [] => cs
  | cs, off, c :: l => setAll (lset cs c off) (off + 1) l
def fillE (place : Nat → Option (Nat × Nat)) : List V → List (Nat × V) → Option (List V)
  | cs, [] => some cs
  | cs, (i, v) :: rest => match place i, cellsO v with
    | some (off, size), some c => bif Nat.beq (llen c) size && Nat.ble (off + size) (llen cs) then fillE place (setAll cs off c) rest else none
    | _, _ => none
def placesE : List Field → Option (List (Nat × Nat))
  | [] => some []
  | f :: l => match szE P f.type with
    | some n => match placesE l with
      | some r => some ((f.offset, n) :: r)
      | none => none
    | none => none
def evalParts (ev : Operand → Option V) : List (Nat × Operand) → Option (List (Nat × V))
  | [] => some []
  | (i, x) :: l => match ev x with
    | some v => match evalParts ev l with
      | some r => some ((i, v) :: r)
      | none => none
    | none => none
def qBuild (t : TypeId) (parts : List (Nat × V)) : Option V :=
  match zeroE P t with
  | none => none
  | some zv =>
  match cellsO zv with
  | none => none
  | some z =>
  match P.underlying t with
  | some (.struct fs) => match placesE P fs.toList with
    | some pl => match fillE (fun i => lget pl i) z parts with
      | some cs => some (.agg cs)
      | none => none
    | none => none
  | some (.array _ e) => match szE P e with
    | some n => match fillE (fun i => some (i * n, n)) z parts with
      | some cs => some (.agg cs)
      | none => none
    | none => none
  | _ => none

def optO (ev : Operand → Option V) : Option Operand → Option (Option V)
  | none => some none
  | some x => match ev x with
    | some v => some (some v)
    | none => none

def assertZ (t : TypeId) (ok : Bool) : Option V :=
  match ok, zeroE P t with
  | true, some z => some (.tup [z, .bool false])
  | _, _ => none
/-- the value of an interface value, at a type that is none itself -/
def qAssert (t : TypeId) (v : V) (ok : Bool) : Option V :=
  match P.underlying t with
  | some (.interface _) => none
  | some _ => match v with
    | .iface t' x => bif Nat.beq t' t then some (bif ok then .tup [x, .bool true] else x) else
        assertZ P t ok
    | .nili => assertZ P t ok
    | _ => none
  | none => none

/-- one of two values -/
def pickV (b : Bool) (x y : V) : Option V :=
  match x, y with
  | .int k m, .int k' n => bif kEq k k' then some (.int k (bif b then m else n)) else none
  | .bool m, .bool n => some (.bool (bif b then m else n))
  | .str m, .str n => some (.str (bif b then m else n))
  | x, y => match b with
    | true => some x
    | false => some y

/-- a quiet operation -/
def qop (s : St) (ev : Operand → Option V) (op : Op) : Qr :=
  match op with
  | .move x => okO (ev x)
  | .assign x => okO (ev x)
  | .pick c a b => match ev c, ev a, ev b with
    | some (.bool q), some x, some y => okO (pickV q x y)
    | _, _, _ => none
  | .load t a => match ev a with
    | some v => qLoad P s t v
    | none => none
  | .nilCheck x => match ev x with
    | some (.ptr b o) => ok0 (.ptr b o)
    | some (.fn f a c) => ok0 (.fn f a c)
    | some (.yld l) => ok0 (.yld l)
    | _ => none
  | .binOp op t x y _ => match ev x, ev y with
    | some a, some b => qBin P s op t a b
    | _, _ => none
  | .unOp op _ x => match ev x with
    | some a => okO (qUn op a)
    | none => none
  | .convert src dst x => match ev x with
    | some a => qConv P s src dst a
    | none => none
  | .makeInterface t x => match P.underlying t with
    | some (.interface _) => none
    | some _ => match ev x with
      | some a => ok0 (.iface t a)
      | none => none
    | none => none
  | .makeFunc fn first captured => match fn with
    | .func f => match evalOs ev first.toList, evalOs ev captured.toList with
      | some a, some c => ok0 (.fn f a c)
      | _, _ => none
    | _ => none
  | .slice t x lo hi mx => match ev x, optO ev lo, optO ev hi, optO ev mx with
    | some a, some l, some h, some m => qSlice P s t a l h m
    | _, _, _, _ => none
  | .fieldAddr t x f => match ev x with
    | some a => okO (qFieldAddr P t a f)
    | none => none
  | .field t x f => match ev x with
    | some a => okO (qField P t a f)
    | none => none
  | .indexAddr t x i => match ev x, ev i with
    | some a, some n => qIndexAddr P t a n
    | _, _ => none
  | .index t x i => match ev x, ev i with
    | some a, some n => qIndex P t a n
    | _, _ => none
  | .lookup t x i ok => match ev x, ev i with
    | some a, some n => okO (qLookup2 P s t a n ok)
    | _, _ => none
  | .build t parts => match evalParts ev parts.toList with
    | some ps => okO (qBuild P t ps)
    | none => none
  | .extract x i => match ev x with
    | some (.tup l) => okO (lget l i)
    | _ => none
  | .typeAssert x _ t ok => match ev x with
    | some v => okO (qAssert P t v ok)
    | none => none
  | .call c => match c.callee with
    | .builtin b => match evalOs ev c.args.toList with
      | some vs => okO (qBuiltin P s b c.argTypes vs)
      | none => none
    | _ => none
  | _ => none
end
end Go.Sym
