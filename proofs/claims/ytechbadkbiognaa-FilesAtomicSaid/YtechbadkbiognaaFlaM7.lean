/-
  Texts of this claim, one behind the other: SymC SymD. Each says its own conditions.
-/
import Derived.Test.YtechbadkbiognaaFlaM6
import Derived.Laws.Cells
import Derived.Laws.BytesString
import Derived.Laws.StructEq
import Derived.Laws.Strings

set_option linter.unusedVariables false
set_option linter.unusedSimpArgs false
set_option linter.unusedSectionVars false
section
namespace Go.Sym

def andB (b : Bool) (q : Prop) : Prop := @Bool.rec (fun _ => Prop) False q b
def iteB (b : Bool) (p q : Prop) : Prop := @Bool.rec (fun _ => Prop) q p b
def allB : List Bool → Prop
  | [] => True
  | b :: l => b = true ∧ allB l
theorem andB_iff (b : Bool) (q : Prop) : andB b q ↔ b = true ∧ q := by cases b <;> simp [andB]
theorem iteB_iff (b : Bool) (p q : Prop) : iteB b p q ↔ (b = true → p) ∧ (b = false → q) := by cases b <;> simp [iteB]
theorem allB_append : ∀ (l m : List Bool), allB (l ++ m) ↔ allB l ∧ allB m
  | [], m => by simp [allB]
  | b :: l, m => by simp only [List.cons_append, allB, allB_append l m, and_assoc]
abbrev Qr := Option (List Bool × V)
def ok0 (v : V) : Qr := some ([], v)
def okO : Option V → Qr
  | some v => some ([], v)
  | none => none

def cellsO : V → Option (List V)
  | .agg l => some l
  | .arr .. => none
  | .any => none
  | v => some [v]
def oneV : V → Bool
  | .agg _ | .tup _ | .undef | .arr .. | .any => false
  | _ => true

def rowV : (e : List Ty) → rowDen e → List V
  | [], _ => []
  | [t], x => [toV t x]
  | t :: u :: ts, x => toV t x.1 :: rowV (u :: ts) x.2
mutual
def Ty.beq : Ty → Ty → Bool
  | .int k, .int k' => kEq k k'
  | .bool, .bool => true
  | .str, .str => true
  | .lst e, .lst e' => beqL e e'
  | _, _ => false
def beqL : List Ty → List Ty → Bool
  | [], [] => true
  | t :: ts, u :: us => Ty.beq t u && beqL ts us
  | _, _ => false
end
mutual
theorem Ty.beq_eq : ∀ (a b : Ty), Ty.beq a b = true → a = b
  | .int k, b, h => by
    cases b <;> simp only [Ty.beq, Bool.false_eq_true] at h
    rw [kEq_iff] at h; simp at h; rw [h]
  | .bool, b, h => by cases b <;> simp only [Ty.beq, Bool.false_eq_true] at h; rfl
  | .str, b, h => by cases b <;> simp only [Ty.beq, Bool.false_eq_true] at h; rfl
  | .lst e, b, h => by
    cases b <;> simp only [Ty.beq, Bool.false_eq_true] at h
    rw [beqL_eq e _ h]
theorem beqL_eq : ∀ (a b : List Ty), beqL a b = true → a = b
  | [], b, h => by cases b <;> simp only [beqL, Bool.false_eq_true] at h; rfl
  | t :: ts, b, h => by
    cases b <;> simp only [beqL, Bool.false_eq_true, Bool.and_eq_true] at h
    rw [Ty.beq_eq t _ h.1, beqL_eq ts _ h.2]
end
def castL {e e' : List Ty} (h : e' = e) (L : List (rowDen e')) : List (rowDen e) := @Eq.rec (List Ty) e' (fun x _ => List (rowDen x)) L e h
def asL (e e' : List Ty) (L : List (rowDen e')) : Option (List (rowDen e)) :=
  if h : beqL e' e = true then some (castL (beqL_eq e' e h) L) else none
def ofInt (k : IntKind) (v : V) : Option Int := match v with
  | .int k' n => bif kEq k k' then some n else none
  | _ => none
def ofBool (v : V) : Option Bool := match v with
  | .bool b => some b
  | _ => none
def ofStr (v : V) : Option ByteArray := match v with
  | .str s => some s
  | _ => none
def ofLst (e : List Ty) (v : V) : Option (List (rowDen e)) := match v with
  | .lst e' L _ => asL e e' L
  | .nils => some []
  | _ => none
def ofV : (t : Ty) → V → Option t.den
  | .int k, v => ofInt k v
  | .bool, v => ofBool v
  | .str, v => ofStr v
  | .lst e, v => ofLst e v
def pairO {α β : Type} (x : Option α) (y : Option β) : Option (α × β) := match x, y with
  | some x, some y => some (x, y)
  | _, _ => none
def oneO {α : Type} (f : V → Option α) (l : List V) : Option α := match l with
  | [v] => f v
  | _ => none
def consO {α β : Type} (f : V → Option α) (g : List V → Option β) (l : List V) : Option (α × β) := match l with
  | v :: vs => pairO (f v) (g vs)
  | [] => none
def nilO (l : List V) : Option Unit := match l with
  | [] => some ()
  | _ => none
def ofRow : (e : List Ty) → List V → Option (rowDen e)
  | [], l => nilO l
  | [t], l => oneO (ofV t) l
  | t :: u :: ts, l => consO (ofV t) (ofRow (u :: ts)) l
noncomputable def ofRows (e : List Ty) : Nat → List V → Option (List (rowDen e))
  | 0, l => (match l with
    | [] => some []
    | _ => none)
  | n + 1, l => match ofRow e (ltake l e.length), ofRows e n (ldrop l e.length) with
    | some x, some y => some (x :: y)
    | _, _ => none
def bAt (s : ByteArray) (i : Nat) : Int := ((s.data.toList.getD i 0).toNat : Int)
def strOf (l : List Int) : ByteArray := ⟨(l.map fun n => UInt8.ofNat n.toNat).toArray⟩
def bytesL (s : ByteArray) : List Int := s.data.toList.map fun b => (b.toNat : Int)
def sEq (a b : ByteArray) : Bool := decide (a = b)
def sLt (a b : ByteArray) : Bool := Op.bytesLess a.data.toList b.data.toList

def ofCell : Value → Option V
  | .bool b => some (.bool b)
  | .int k n => some (.int k n)
  | .string s => some (.str s)
  | .pointer none => some .nilp
  | .slice none 0 0 => some .nils
  | .map none => some .nilm
  | .nilFunc => some .nilf
  | .nilIface => some .nili
  | _ => none
def ofCells : List Value → Option (List V)
  | [] => some []
  | v :: l => match ofCell v with
    | some x => match ofCells l with
      | some y => some (x :: y)
      | none => none
    | none => none
def ofVal : Value → Option V
  | .agg cs => match ofCells cs.toList with
    | some l => some (.agg l)
    | none => none
  | .tuple cs => match cs.toList with
    | [] => some .undef
    | _ => none
  | v => ofCell v

def evalOs (ev : Operand → Option V) : List Operand → Option (List V)
  | [] => some []
  | x :: l => match ev x with
    | some v => match evalOs ev l with
      | some vs => some (v :: vs)
      | none => none
    | none => none

noncomputable section
variable (P : Program)

def isAggE (t : TypeId) : Option Bool :=
  match P.underlying t with
  | some (.struct _) => some true
  | some (.array _ _) => some true
  | some _ => some false
  | none => none
def szE (t : TypeId) : Option Nat :=
  match P.info? t with
  | some i => some i.size
  | none => none
def zeroE (t : TypeId) : Option V :=
  match P.info? t with
  | some i => match i.zero with
    | some v => ofVal v
    | none => none
  | none => none

def rowTyE : Nat → TypeId → Option (List Ty)
  | 0, _ => none
  | n + 1, t => match P.underlying t with
    | some (.int k) => some [.int k]
    | some .bool => some [.bool]
    | some .string => some [.str]
    | some (.slice e) => match rowTyE n e with
      | some r => some [.lst r]
      | none => none
    | some (.struct fs) => fs.toList.foldr (fun f r => match rowTyE n f.type, r with
      | some a, some b => some (a ++ b)
      | _, _ => none) (some [])
    | _ => none

def partE (t : TypeId) (l : List V) (off : Nat) : Option V :=
  match isAggE P t with
  | some true => match szE P t with
    | some n => bif Nat.ble (off + n) (llen l) then some (.agg (ltake (ldrop l off) n)) else none
    | none => none
  | some false => lget l off
  | none => none

def cellsAt (s : St) (b : Nat) : Option (List V) :=
  match s.heap.get b with
  | some (.cells cs _ _) => some cs
  | _ => none

def rowsAt (s : St) (b : Nat) : Option ((e : List Ty) × List (rowDen e)) :=
  match s.heap.get b with
  | some (.rows e L _ _) => some ⟨e, L⟩
  | _ => none
def okB (b : Bool) : Option V → Qr
  | some v => some ([b], v)
  | none => none
def qLoad (s : St) (t : TypeId) (a : V) : Qr :=
  match a with
  | .ptr b o => match cellsAt s b with
    | some cs => okO (partE P t cs o)
    | none => none
  | .rptr b i j es => match rowsAt s b with
    | some ⟨e, L⟩ => bif Nat.beq es e.length then
        (match P.underlying t with
        | some (.array n _) => match i, j with
          | 0, 0 => match szE P t with
            | some z => bif Nat.beq z (n * e.length) then some ([decide (L.length = n)], .arr e L) else none
            | none => none
          | _, _ => none
        | _ => okB (decide (i < L.length)) (partE P t (rowV e (rowAt e L i)) j)) else none
    | none => none
  | .lptr e L i j => okB (decide (i < L.length)) (partE P t (rowV e (rowAt e L i)) j)
  | _ => none

def ofI (k : IntKind) (x : Int) : Nat := modN (kM k) x

noncomputable def cutS : ByteArray → Nat → Nat → ByteArray := hide fun s a b => s.extract a b
theorem cutS_eq (s : ByteArray) (a b : Nat) : cutS s a b = s.extract a b := by unfold cutS; rw [hide_eq]
theorem cutS_size (s : ByteArray) (a b : Nat) : (cutS s a b).size = min b s.size - a := by rw [cutS_eq, ByteArray.size_extract]
noncomputable def ltI : Int → Int → Bool := hide fun a b => decide (a < b)
noncomputable def leI : Int → Int → Bool := hide fun a b => decide (a ≤ b)
noncomputable def inI : Int → Bool := hide fun n => decide (-9223372036854775808 ≤ n ∧ n ≤ 9223372036854775807)
theorem ltI_eq (a b : Int) : ltI a b = decide (a < b) := by unfold ltI; rw [hide_eq]
theorem leI_eq (a b : Int) : leI a b = decide (a ≤ b) := by unfold leI; rw [hide_eq]
theorem inI_eq (n : Int) : inI n = decide (-9223372036854775808 ≤ n ∧ n ≤ 9223372036854775807) := by unfold inI; rw [hide_eq]
noncomputable def arithE (k : IntKind) (n : Int) : Qr :=
  match k with
  | .i64 => some ([inI n], .int .i64 n)
  | .u64 => some ([], .int .u64 (n % 18446744073709551616))
  | .u32 => some ([], .int .u32 (n % 4294967296))
  | .u16 => some ([], .int .u16 (n % 65536))
  | .u8 => some ([], .int .u8 (n % 256))
  | k => some ([], .int k (k.wrap n))
noncomputable def quoE (k : IntKind) (a b : Int) : Qr :=
  match k with
  | .i64 => some ([leI 0 a, ltI 0 b, inI a], .int .i64 (a / b))
  | .u64 => some ([leI 0 a, ltI 0 b, ltI a 18446744073709551616], .int .u64 (a / b))
  | .u32 => some ([leI 0 a, ltI 0 b, ltI a 4294967296], .int .u32 (a / b))
  | .u8 => some ([leI 0 a, ltI 0 b, ltI a 256], .int .u8 (a / b))
  | k => some ([!decide (b = 0)], .int k (k.wrap (a.tdiv b)))
noncomputable def remE (k : IntKind) (a b : Int) : Qr := some ([leI 0 a, ltI 0 b], .int k (a % b))
noncomputable def intBin (op : BinOp) (k : IntKind) (a b : Int) : Qr :=
  match op with
  | .add => arithE k (a + b)
  | .sub => arithE k (a - b)
  | .mul => arithE k (a * b)
  | .quo => quoE k a b
  | .rem => remE k a b
  | .and => ok0 (.int k (k.wrap (.ofNat (Nat.land (ofI k a) (ofI k b)))))
  | .or => ok0 (.int k (k.wrap (.ofNat (Nat.lor (ofI k a) (ofI k b)))))
  | .xor => ok0 (.int k (k.wrap (.ofNat (Nat.xor (ofI k a) (ofI k b)))))
  | .andNot => ok0 (.int k (k.wrap (.ofNat (Nat.land (ofI k a) (kM k - 1 - ofI k b)))))
  | .eql => ok0 (.bool (decide (a = b)))
  | .neq => ok0 (.bool (!decide (a = b)))
  | .lss => ok0 (.bool (ltI a b))
  | .leq => ok0 (.bool (leI a b))
  | .gtr => ok0 (.bool (ltI b a))
  | .geq => ok0 (.bool (leI b a))
  | _ => none
noncomputable def shiftE (op : BinOp) (k : IntKind) (a b : Int) : Qr :=
  match op with
  | .shl => match k with
    | .u64 => some ([leI 0 b], .int .u64 ((a * 2 ^ (min b.toNat 64)) % 18446744073709551616))
    | .u32 => some ([leI 0 b], .int .u32 ((a * 2 ^ (min b.toNat 32)) % 4294967296))
    | .u8 => some ([leI 0 b], .int .u8 ((a * 2 ^ (min b.toNat 8)) % 256))
    | k => some ([leI 0 b], .int k (k.wrap (a * 2 ^ (min b.toNat k.bits))))
  | .shr => some ([leI 0 b], .int k (a / (2 ^ (min b.toNat k.bits))))
  | _ => none
def strBin (op : BinOp) (a b : ByteArray) : Qr :=
  match op with
  | .add => some ([decide (a.size + b.size ≤ 4611686018427387904)], .str (a ++ b))
  | .eql => ok0 (.bool (sEq a b))
  | .neq => ok0 (.bool (!sEq a b))
  | .lss => ok0 (.bool (sLt a b))
  | .leq => ok0 (.bool (sLt a b || sEq a b))
  | .gtr => ok0 (.bool (!(sLt a b || sEq a b)))
  | .geq => ok0 (.bool (!sLt a b))
  | _ => none

def plainBlock (s : St) (b : Nat) : Bool :=
  match s.heap.get b with
  | some (.cells _ _ false) => true
  | _ => false

def eqE (s : St) (t : TypeId) (a b : V) : Option Bool :=
  match P.underlying t with
  | some .bool => match a, b with
    | .bool x, .bool y => some (x == y)
    | _, _ => none
  | some (.pointer e) => match a, b with
    | .nilp, .nilp => some true
    | .nilp, .ptr .. => some false
    | .ptr .., .nilp => some false
    | .nilp, .lptr .. => some false
    | .lptr .., .nilp => some false
    | .ptr x o, .ptr y q =>
      match szE P e with
      | some (_ + 1) => bif plainBlock s x && plainBlock s y then (bif Nat.beq x y then some (Nat.beq o q) else some false) else none
      | _ => none
    | _, _ => none
  | some (.slice _) => match a, b with
    | .nils, .nils => some true
    | .nils, .sl .. => some false
    | .sl .., .nils => some false
    | _, _ => none
  | some (.map _ _) => match a, b with
    | .nilm, .nilm => some true
    | .nilm, .map _ => some false
    | .map _, .nilm => some false
    | _, _ => none
  | some (.func ..) => match a, b with
    | .nilf, .nilf => some true
    | .nilf, .fn .. => some false
    | .fn .., .nilf => some false
    | .nilf, .yld _ => some false
    | .yld _, .nilf => some false
    | _, _ => none
  | some (.interface _) => match a, b with
    | .nili, .iface .. => some false
    | .iface .., .nili => some false
    | _, _ => none
  | _ => none

def eqFields (nest : TypeId → V → V → Option Bool) (d : List Field) (l m : List V) : Option Bool :=
  match d with
  | [] => some true
  | f :: rest =>
    bif f.name == "_" then none else
    match P.underlying f.type with
    | some (.int _) => match lget l f.offset, lget m f.offset with
      | some (.int k x), some (.int k' y) => bif kEq k k' then (match eqFields nest rest l m with
        | some r => some (decide (x = y) && r)
        | none => none) else none
      | _, _ => none
    | some .bool => match lget l f.offset, lget m f.offset with
      | some (.bool x), some (.bool y) => match eqFields nest rest l m with
        | some r => some ((x == y) && r)
        | none => none
      | _, _ => none
    | some .string => match lget l f.offset, lget m f.offset with
      | some (.str x), some (.str y) => match eqFields nest rest l m with
        | some r => some (sEq x y && r)
        | none => none
      | _, _ => none
    | some (.struct _) => match partE P f.type l f.offset, partE P f.type m f.offset with
      | some x, some y => match nest f.type x y, eqFields nest rest l m with
        | some q, some r => some (q && r)
        | _, _ => none
      | _, _ => none
    | _ => none
def eqNest : Nat → TypeId → V → V → Option Bool
  | 0, _, _, _ => none
  | n + 1, t, a, b => match P.underlying t with
    | some (.struct fs) => match a, b with
      | .agg l, .agg m => bif P.stoodInHeld t then none else eqFields P (eqNest n) fs.toList l m
      | _, _ => none
    | _ => none
def eqStruct (t : TypeId) (a b : V) : Option Bool :=
  match P.underlying t with
  | some (.struct fs) => match a, b with
    | .agg l, .agg m => bif P.stoodInHeld t || P.eqGuardType P.depth t then none else eqFields P (eqNest P 6) fs.toList l m
    | _, _ => none
  | _ => none

def eqNil2 (t : TypeId) (a b : V) : Option Bool :=
  match P.underlying t with
  | some (.interface ms) => match a, b with
    | .nili, .nili => bif ms.isEmpty then some true else none
    | _, _ => none
  | _ => none
def eqAny (s : St) (t : TypeId) (a b : V) : Option Bool :=
  match eqE P s t a b with
  | some r => some r
  | none => match eqNil2 P t a b with
    | some r => some r
    | none => eqStruct P t a b

def nilCmp (t : TypeId) (a b : V) : Option (List Bool) :=
  match P.underlying t with
  | some (.slice _) => match a, b with
    | .lst e L _, .nils => some [decide (0 < List.length (α := rowDen e) L)]
    | .nils, .lst e L _ => some [decide (0 < List.length (α := rowDen e) L)]
    | .rs _ _ len _ _ _, .nils => some [decide (0 < len)]
    | .nils, .rs _ _ len _ _ _ => some [decide (0 < len)]
    | _, _ => none
  | _ => none
def qBin (s : St) (op : BinOp) (t : TypeId) (a b : V) : Qr :=
  match a, b with
  | .int k x, .int k' y =>
    match op with
    | .shl => shiftE .shl k x y
    | .shr => shiftE .shr k x y
    | _ => bif kEq k k' then intBin op k x y else none
  | .str x, .str y => strBin op x y
  | _, _ =>
    match op with
    | .eql => match eqAny P s t a b with
      | some r => ok0 (.bool r)
      | none => (match nilCmp P t a b with
        | some c => some (c, .bool false)
        | none => none)
    | .neq => match eqAny P s t a b with
      | some r => ok0 (.bool (!r))
      | none => (match nilCmp P t a b with
        | some c => some (c, .bool true)
        | none => none)
    | _ => none

def qUn (op : UnOp) (a : V) : Option V :=
  match op, a with
  | .neg, .int k n => some (.int k (k.wrap (0 - n)))
  | .xor, .int k n => some (.int k (k.wrap (.ofNat (Nat.xor (kM k - 1) (ofI k n)))))
  | .not, .bool b => some (.bool (!b))
  | _, _ => none

def bytesOf : List V → Option (List Int)
  | [] => some []
  | .int .u8 n :: l => match bytesOf l with
    | some r => some (n :: r)
    | none => none
  | _ => none
def asBytes (e : List Ty) (L : List (rowDen e)) : Option (List Int) := asL [.int .u8] e L

def qConv (s : St) (src dst : TypeId) (a : V) : Qr :=
  match P.underlying src, P.underlying dst with
  | some sd, some dd =>
    match a with
    | .int _ n => match dd with
      | .int k => arithE k n
      | _ => none
    | .str x => match dd with
      | .string => ok0 (.str x)
      | _ => none
    | .nils => match sd, dd with
      | .slice e, .string => match P.underlying e with
        | some (.int .u8) => ok0 (.str ⟨#[]⟩)
        | _ => none
      | _, _ => none
    | .lst e' L _ => match sd, dd with
      | .slice e, .string => match P.underlying e with
        | some (.int .u8) => match asBytes e' L with
          | some r => ok0 (.str (strOf r))
          | none => none
        | _ => none
      | _, _ => none
    | .rs b lo len _ _ es => match sd, dd with
      | .slice e, .string => match P.underlying e with
        | some (.int .u8) => match rowsAt s b with
          | some ⟨e', L⟩ => match asBytes e' L with
            | some r => bif Nat.beq es 1 then some ([decide (lo + len ≤ r.length)], .str (strOf ((r.drop lo).take len))) else none
            | none => none
          | none => none
        | _ => none
      | _, _ => none
    | .sl b o len _ _ _ => match sd, dd with
      | .slice e, .string => match P.underlying e with
        | some (.int .u8) => match cellsAt s b with
          | some cs => bif Nat.ble (o + len) (llen cs) then (match bytesOf (ltake (ldrop cs o) len) with
              | some r => ok0 (.str (strOf r))
              | none => none) else none
          | none => none
        | _ => none
      | _, _ => none
    | _ => none
  | _, _ => none

def qFieldAddr (t : TypeId) (a : V) (i : Nat) : Option V :=
  match P.underlying t with
  | some (.struct fs) => match fs[i]? with
    | some f => match szE P f.type with
      | some (_ + 1) => match a with
        | .ptr b o => some (.ptr b (o + f.offset))
        | .rptr b i j es => some (.rptr b i (j + f.offset) es)
        | .lptr e L i j => some (.lptr e L i (j + f.offset))
        | _ => none
      | _ => none
    | none => none
  | _ => none

def qField (t : TypeId) (a : V) (i : Nat) : Option V :=
  match P.underlying t with
  | some (.struct fs) => match fs[i]? with
    | some f => match a with
      | .agg l => partE P f.type l f.offset
      | _ => none
    | none => none
  | _ => none

def natOf : V → Option (List Bool × Nat)
  | .int _ n => some ([decide (0 ≤ n)], n.toNat)
  | _ => none

def qIndexAddr (t : TypeId) (a i : V) : Qr :=
  match natOf i with
  | some (c, n) => match P.underlying t with
    | some (.array len e) => match a, szE P e with
      | .ptr b o, some sz => some (c ++ [decide (n < len)], .ptr b (o + n * sz))
      | .rptr b 0 0 es, some sz => bif Nat.beq sz es then some (c ++ [decide (n < len)], .rptr b n 0 es) else none
      | .lptr e' L i j, some sz => some (c ++ [decide (n < len)], .lptr e' L i (j + n * sz))
      | _, _ => none
    | some (.slice e) => match a, szE P e with
      | .sl b o len _ _ _, some sz => some (c ++ [decide (n < len)], .ptr b (o + n * sz))
      | .rs b lo len _ _ es, some sz => bif Nat.beq sz es then some (c ++ [decide (n < len)], .rptr b (lo + n) 0 es) else none
      | .lst e' L _, some sz => bif Nat.beq sz e'.length then some (c ++ [decide (n < L.length)], .lptr e' L n 0) else none
      | _, _ => none
    | _ => none
  | none => none

def qIndex (t : TypeId) (a i : V) : Qr :=
  match natOf i with
  | some (c, n) => match P.underlying t with
    | some (.array len e) => match a, szE P e with
      | .agg l, some sz => match partE P e l (n * sz) with
        | some v => some (c ++ [decide (n < len)], v)
        | none => none
      | .arr e' L, some sz => bif Nat.beq sz e'.length then (match partE P e (rowV e' (rowAt e' L n)) 0 with
        | some v => some (c ++ [decide (n < len), decide (n < L.length)], v)
        | none => none) else none
      | _, _ => none
    | some .string => match a with
      | .str x => some (c ++ [decide (n < x.size)], .int .u8 (bAt x n))
      | _ => none
    | _ => none
  | none => none

def boundE : Option V → Nat → Option (List Bool × Nat)
  | none, d => some ([], d)
  | some v, _ => natOf v

def qSlice (s : St) (t : TypeId) (a : V) (lo hi mx : Option V) : Qr :=
  match boundE lo 0 with
  | none => none
  | some (cl, l) =>
  match P.underlying t with
  | some .string => match a, mx with
    | .str x, none => match boundE hi x.size with
      | some (ch, h) => some (cl ++ (ch ++ [decide (l ≤ h), decide (h ≤ x.size)]), .str (cutS x l h))
      | none => none
    | _, _ => none
  | some (.slice e) => match szE P e with
    | none => none
    | some sz => match a with
      | .nils => match boundE hi 0, mx with
        | some (ch, h), none => some (cl ++ (ch ++ [decide (l ≤ h), decide (h ≤ 0)]), .nils)
        | _, _ => none
      | .rs b lo' len cap x es =>
        bif !Nat.beq sz es then none else
        match boundE hi len with
        | none => none
        | some (ch, h) => match mx, hi with
          | none, _ => some (cl ++ (ch ++ [decide (l ≤ h), decide (h ≤ cap)]), .rs b (lo' + l) (h - l) (cap - l) x es)
          | some mv, some _ => match natOf mv with
            | some (cm, m) => some (cl ++ (ch ++ (cm ++ [decide (l ≤ h), decide (h ≤ m), decide (m ≤ cap)])), .rs b (lo' + l) (h - l) (m - l) true es)
            | none => none
          | some _, none => none
      | .lst e' L x =>
        bif !Nat.beq sz e'.length then none else
        match boundE hi L.length with
        | none => none
        | some (ch, h) => match mx, hi with
          | none, none => some (cl ++ [decide (l ≤ L.length)], .lst e' (L.drop l) x)
          | none, some _ => some (cl ++ (ch ++ [decide (l ≤ h), decide (h ≤ L.length)]), .lst e' ((L.take h).drop l) false)
          | some mv, some _ => match natOf mv with
            | some (cm, m) => some (cl ++ (ch ++ (cm ++ [decide (l ≤ h), decide (h = m), decide (h ≤ L.length)])), .lst e' ((L.take h).drop l) true)
            | none => none
          | some _, none => none
      | .sl b o len cap x es =>
        bif !Nat.beq sz es then none else
        match boundE hi len with
        | none => none
        | some (ch, h) =>
          match mx, hi with
          | none, _ =>
            bif Nat.beq l 0 then some (cl ++ (ch ++ [decide (l ≤ h), decide (h ≤ cap)]), .sl b o h cap x es) else
            bif Nat.blt l cap then some (cl ++ (ch ++ [decide (l ≤ h), decide (h ≤ cap)]), .sl b (o + l * es) (h - l) (cap - l) x es) else none
          | some mv, some _ => match natOf mv with
            | some (cm, m) => bif Nat.beq m l then none else some (cl ++ (ch ++ (cm ++ [decide (l ≤ h), decide (h ≤ m), decide (m ≤ cap)])), .sl b (o + l * es) (h - l) (m - l) true es)
            | none => none
          | some _, none => none
      | _ => none
  | some (.array n e) => match szE P e, mx with
    | some sz, none => match a, boundE hi n with
      | .ptr b o, some (ch, h) => match cellsAt s b with
        | some cs =>
          bif Nat.ble (o + n * sz) (llen cs) then
            (bif Nat.beq n l then none else some (cl ++ (ch ++ [decide (l ≤ h), decide (h ≤ n)]), .sl b (o + l * sz) (h - l) (n - l) true sz)) else none
        | _ => none
      | .rptr b 0 0 es, some (ch, h) => match rowsAt s b with
        | some ⟨e', L⟩ => bif Nat.beq sz es && Nat.beq es e'.length then
            some (cl ++ (ch ++ [decide (l ≤ h), decide (h ≤ n), decide (n ≤ L.length)]), .rs b l (h - l) (n - l) true es) else none
        | none => none
      | _, _ => none
    | _, _ => none
  | _ => none

def keyEq : V → V → Option Bool
  | .int k a, .int k' b => bif kEq k k' then some (decide (a = b)) else none
  | .str a, .str b => some (sEq a b)
  | .bool a, .bool b => some (a == b)
  | _, _ => none
def findE (k : V) : List (V × V × Nat) → Nat → Option (Option (Nat × V))
  | [], _ => some none
  | e :: l, i => match keyEq k e.1 with
    | some true => some (some (i, e.2.1))
    | some false => findE k l (i + 1)
    | none => none
def plainKeyE (t : TypeId) (k : V) : Bool :=
  match P.underlying t, k with
  | some (.int _), .int .. => true
  | some .string, .str _ => true
  | some .bool, .bool _ => true
  | _, _ => false

def eqI (a b : Int) : Bool := decide (a = b)
def eqBo (a b : Bool) : Bool := a == b
def kB : (k : Ty) → k.den → k.den → Bool
  | .int _, a, b => eqI a b
  | .bool, a, b => eqBo a b
  | .str, a, b => sEq a b
  | .lst _, _, _ => false
def pmF (k t : Ty) (d : k.den) : List (k.den × t.den × Nat) → Nat → Option (Nat × t.den × Nat)
  | [], _ => none
  | m :: M, i => bif kB k d m.1 then some (i, m.2) else pmF k t d M (i + 1)
def pmGet0 (k t : Ty) (M : List (k.den × t.den × Nat)) (d : k.den) (z : t.den) : t.den := match pmF k t d M 0 with
  | some r => r.2.1
  | none => z
def pmHas0 (k t : Ty) (M : List (k.den × t.den × Nat)) (d : k.den) : Bool := match pmF k t d M 0 with
  | some _ => true
  | none => false
noncomputable def pmGet : (k t : Ty) → List (k.den × t.den × Nat) → k.den → t.den → t.den := hide pmGet0
noncomputable def pmHas : (k t : Ty) → List (k.den × t.den × Nat) → k.den → Bool := hide pmHas0
theorem pmGet_eq : pmGet = pmGet0 := hide_eq _
theorem pmHas_eq : pmHas = pmHas0 := hide_eq _
noncomputable def qLookP (ok : Bool) (k t : Ty) (M : List (k.den × t.den × Nat)) (d : k.den) (z : V) : Option V :=
  match ofV t z with
  | some dz => some (bif ok then .tup [toV t (pmGet k t M d dz), .bool (pmHas k t M d)] else toV t (pmGet k t M d dz))
  | none => none
def pmAt (s : St) (b : Nat) : Option ((k : Ty) × (t : Ty) × List (k.den × t.den × Nat) × Nat) :=
  match s.heap.get b with
  | some (.pm k t M c) => some ⟨k, t, M, c⟩
  | _ => none
noncomputable def qLookup1 (s : St) (t : TypeId) (m key : V) (ok : Bool) : Option V :=
  match P.underlying t, m with
  | some (.map kt e), .map b => (match pmAt s b with
    | some ⟨k, t', M, _⟩ => bif plainKeyE P kt key then (match ofV k key, zeroE P e with
      | some d, some z => qLookP ok k t' M d z
      | _, _ => none) else none
    | none => none)
  | _, _ => none
def qLookup (s : St) (t : TypeId) (m k : V) (ok : Bool) : Option V :=
  match P.underlying t with
  | some (.map kt e) =>
    bif !plainKeyE P kt k then none else
    match (match m with
      | .nilm => some []
      | .map b => (match s.heap.get b with
        | some (.map es _) => some es
        | _ => none)
      | _ => none) with
    | none => none
    | some es => match findE k es 0 with
      | some (some (_, v)) => some (bif ok then .tup [v, .bool true] else v)
      | some none => match zeroE P e with
        | some z => some (bif ok then .tup [z, .bool false] else z)
        | none => none
      | none => none
  | _ => none

noncomputable def qLookup2 (s : St) (t : TypeId) (m k : V) (ok : Bool) : Option V := match qLookup1 P s t m k ok with
  | some v => some v
  | none => qLookup P s t m k ok

def qLen (s : St) (t : TypeId) (a : V) : Option V :=
  match P.underlying t with
  | some .string => match a with
    | .str x => some (.int .i64 ((x.size : Nat) : Int))
    | _ => none
  | some (.array n _) => some (.int .i64 ((n : Nat) : Int))
  | some (.slice _) => match a with
    | .nils => some (.int .i64 0)
    | .sl _ _ len _ _ _ => some (.int .i64 ((len : Nat) : Int))
    | .rs _ _ len _ _ _ => some (.int .i64 ((len : Nat) : Int))
    | .lst _ L _ => some (.int .i64 ((L.length : Nat) : Int))
    | _ => none
  | some (.map _ _) => match a with
    | .nilm => some (.int .i64 0)
    | .map b => match s.heap.get b with
      | some (.map es _) => some (.int .i64 ((llen es : Nat) : Int))
      | some (.pm _ _ M _) => some (.int .i64 ((M.length : Nat) : Int))
      | _ => none
    | _ => none
  | some (.pointer arr) => match P.underlying arr with
    | some (.array n _) => some (.int .i64 ((n : Nat) : Int))
    | _ => none
  | _ => none

def qCap (t : TypeId) (a : V) : Option V :=
  match P.underlying t with
  | some (.array n _) => some (.int .i64 ((n : Nat) : Int))
  | some (.slice _) => match a with
    | .nils => some (.int .i64 0)
    | .sl _ _ _ cap true _ => some (.int .i64 ((cap : Nat) : Int))
    | .rs _ _ _ cap true _ => some (.int .i64 ((cap : Nat) : Int))
    | .lst _ L true => some (.int .i64 ((L.length : Nat) : Int))
    | _ => none
  | _ => none

noncomputable def maxI : Int → Int → Int := Classical.choose (⟨fun x y => max x y, rfl⟩ : ∃ f : Int → Int → Int, f = fun x y => max x y)
theorem maxI_eq (x y : Int) : maxI x y = max x y := congrFun (congrFun (Classical.choose_spec (⟨fun x y => max x y, rfl⟩ : ∃ f : Int → Int → Int, f = fun x y => max x y)) x) y
noncomputable def minMax (isMax : Bool) : V → List V → Option V
  | a, [] => some a
  | .int k x, .int _ y :: l => match isMax with
    | true => minMax true (.int k (maxI x y)) l
    | false => minMax false (.int k (min x y)) l
  | _, _ => none

def qBuiltin (s : St) (b : Builtin) (ts : Array TypeId) (args : List V) : Option V :=
  match b with
  | .len => match ts[0]?, args with
    | some t, [a] => qLen P s t a
    | _, _ => none
  | .cap => match ts[0]?, args with
    | some t, [a] => qCap P t a
    | _, _ => none
  | .min => match args with
    | .int k x :: l => minMax false (.int k x) l
    | _ => none
  | .max => match args with
    | .int k x :: l => minMax true (.int k x) l
    | _ => none
  | _ => none

def setAll : List V → Nat → List V → List V
  | cs, _, [] => cs
  | cs, off, c :: l => setAll (lset cs c off) (off + 1) l
def fillE (place : Nat → Option (Nat × Nat)) : List V → List (Nat × V) → Option (List V)
  | cs, [] => some cs
  | cs, (i, v) :: rest => match place i, cellsO v with
    | some (off, size), some c => bif Nat.beq (llen c) size && Nat.ble (off + size) (llen cs) then fillE place (setAll cs off c) rest else none
    | _, _ => none
def placesE : List Field → Option (List (Nat × Nat))
  | [] => some []
  | f :: l => match szE P f.type with
    | some n => match placesE l with
      | some r => some ((f.offset, n) :: r)
      | none => none
    | none => none
def evalParts (ev : Operand → Option V) : List (Nat × Operand) → Option (List (Nat × V))
  | [] => some []
  | (i, x) :: l => match ev x with
    | some v => match evalParts ev l with
      | some r => some ((i, v) :: r)
      | none => none
    | none => none
def qBuild (t : TypeId) (parts : List (Nat × V)) : Option V :=
  match zeroE P t with
  | none => none
  | some zv =>
  match cellsO zv with
  | none => none
  | some z =>
  match P.underlying t with
  | some (.struct fs) => match placesE P fs.toList with
    | some pl => match fillE (fun i => lget pl i) z parts with
      | some cs => some (.agg cs)
      | none => none
    | none => none
  | some (.array _ e) => match szE P e with
    | some n => match fillE (fun i => some (i * n, n)) z parts with
      | some cs => some (.agg cs)
      | none => none
    | none => none
  | _ => none

def optO (ev : Operand → Option V) : Option Operand → Option (Option V)
  | none => some none
  | some x => match ev x with
    | some v => some (some v)
    | none => none

def assertZ (t : TypeId) (ok : Bool) : Option V :=
  match ok, zeroE P t with
  | true, some z => some (.tup [z, .bool false])
  | _, _ => none
def qAssert (t : TypeId) (v : V) (ok : Bool) : Option V :=
  match P.underlying t with
  | some (.interface _) => none
  | some _ => match v with
    | .iface t' x => bif Nat.beq t' t then some (bif ok then .tup [x, .bool true] else x) else
        assertZ P t ok
    | .nili => assertZ P t ok
    | _ => none
  | none => none

def pickV (b : Bool) (x y : V) : Option V :=
  match x, y with
  | .int k m, .int k' n => bif kEq k k' then some (.int k (bif b then m else n)) else none
  | .bool m, .bool n => some (.bool (bif b then m else n))
  | .str m, .str n => some (.str (bif b then m else n))
  | x, y => match b with
    | true => some x
    | false => some y

def qop (s : St) (ev : Operand → Option V) (op : Op) : Qr :=
  match op with
  | .move x => okO (ev x)
  | .assign x => okO (ev x)
  | .pick c a b => match ev c, ev a, ev b with
    | some (.bool q), some x, some y => okO (pickV q x y)
    | _, _, _ => none
  | .load t a => match ev a with
    | some v => qLoad P s t v
    | none => none
  | .nilCheck x => match ev x with
    | some (.ptr b o) => ok0 (.ptr b o)
    | some (.fn f a c) => ok0 (.fn f a c)
    | some (.yld l) => ok0 (.yld l)
    | some (.lptr e L i j) => ok0 (.lptr e L i j)
    | some (.rptr b i j es) => ok0 (.rptr b i j es)
    | _ => none
  | .binOp op t x y _ => match ev x, ev y with
    | some a, some b => qBin P s op t a b
    | _, _ => none
  | .unOp op _ x => match ev x with
    | some a => okO (qUn op a)
    | none => none
  | .convert src dst x => match ev x with
    | some a => qConv P s src dst a
    | none => none
  | .makeInterface t x => match P.underlying t with
    | some (.interface _) => none
    | some _ => match ev x with
      | some a => ok0 (.iface t a)
      | none => none
    | none => none
  | .makeFunc fn first captured => match fn with
    | .func f => match evalOs ev first.toList, evalOs ev captured.toList with
      | some a, some c => ok0 (.fn f a c)
      | _, _ => none
    | _ => none
  | .slice t x lo hi mx => match ev x, optO ev lo, optO ev hi, optO ev mx with
    | some a, some l, some h, some m => qSlice P s t a l h m
    | _, _, _, _ => none
  | .fieldAddr t x f => match ev x with
    | some a => okO (qFieldAddr P t a f)
    | none => none
  | .field t x f => match ev x with
    | some a => okO (qField P t a f)
    | none => none
  | .indexAddr t x i => match ev x, ev i with
    | some a, some n => qIndexAddr P t a n
    | _, _ => none
  | .index t x i => match ev x, ev i with
    | some a, some n => qIndex P t a n
    | _, _ => none
  | .lookup t x i ok => match ev x, ev i with
    | some a, some n => okO (qLookup2 P s t a n ok)
    | _, _ => none
  | .build t parts => match evalParts ev parts.toList with
    | some ps => okO (qBuild P t ps)
    | none => none
  | .extract x i => match ev x with
    | some (.tup l) => okO (lget l i)
    | _ => none
  | .typeAssert x _ t ok => match ev x with
    | some v => okO (qAssert P t v ok)
    | none => none
  | .call c => match c.callee with
    | .builtin b => match evalOs ev c.args.toList with
      | some vs => okO (qBuiltin P s b c.argTypes vs)
      | none => none
    | _ => none
  | _ => none
end
end Go.Sym
end

section
namespace Go.Sym
set_option linter.unusedSimpArgs false
set_option linter.unusedVariables false

section
variable {P : Program} {own : Own} {ρ : Env} {s : St} {w : World}

theorem run_und {t : TypeId} {d : TypeDesc} (h : P.underlying t = some d) : (underlying t).run P w = .ok d w := run_underlying h w
theorem run_size {t : TypeId} {n : Nat} (h : szE P t = some n) : (sizeOf t).run P w = .ok n w := by
  unfold szE at h
  split at h
  · rename_i i hi
    cases h
    simp [sizeOf, typeInfo, hi]
  · cases h
theorem run_isAgg {t : TypeId} {b : Bool} (h : isAggE P t = some b) : (isAgg t).run P w = .ok b w := by
  unfold isAggE at h
  split at h
  · rename_i hd; cases h; simp [isAgg, run_und hd]
  · rename_i hd; cases h; simp [isAgg, run_und hd]
  · rename_i d h1 h2 hd
    cases h
    simp only [isAgg, Sem.run_bind, run_und hd, Result.andThen_ok]
    cases d <;> first | rfl | exact absurd rfl (h1 _) | exact absurd rfl (h2 _ _)
  · cases h

theorem ofCell_rel {v : Value} {x : V} (h : ofCell v = some x) : VRel ρ x v := by
  unfold ofCell at h
  split at h <;> first | cases h | skip
  all_goals simp only [VRel]
theorem ofCells_rel : ∀ {l : List Value} {x : List V}, ofCells l = some x → LRel ρ x l
  | [], x, h => by simp only [ofCells] at h; cases h; exact LRel.nil
  | v :: l, x, h => by
    simp only [ofCells] at h
    split at h
    · rename_i a ha
      split at h
      · rename_i b hb; cases h; exact LRel.cons (ofCell_rel ha) (ofCells_rel hb)
      · cases h
    · cases h
theorem ofVal_rel {v : Value} {x : V} (h : ofVal v = some x) : VRel ρ x v := by
  unfold ofVal at h
  split at h
  · rename_i cs
    split at h
    · rename_i l hl; cases h; simp only [VRel]; exact ⟨cs, rfl, ofCells_rel hl⟩
    · cases h
  · rename_i cs
    split at h
    · rename_i e
      cases h
      have : cs = #[] := by cases cs; simp at e; simp [e]
      simp only [VRel]; rw [this]
    · cases h
  · exact ofCell_rel h

def EvRel (ρ : Env) (ev : Operand → Option V) (A : Act) : Prop := ∀ x v, ev x = some v → VRel ρ v (A.eval x)
theorem evalO_rel {ev : Operand → Option V} {A : Act} (hA : EvRel ρ ev A) {x : Operand} {v : V} (h : ev x = some v) : VRel ρ v (A.eval x) := hA x v h
theorem evalOs_rel {ev : Operand → Option V} {A : Act} (hA : EvRel ρ ev A) : ∀ {xs : List Operand} {vs : List V}, evalOs ev xs = some vs → LRel ρ vs (xs.map A.eval)
  | [], vs, h => by simp only [evalOs] at h; cases h; exact LRel.nil
  | x :: xs, vs, h => by
    simp only [evalOs] at h
    split at h
    · rename_i v hv
      split at h
      · rename_i r hr; cases h; exact LRel.cons (evalO_rel hA hv) (evalOs_rel hA hr)
      · cases h
    · cases h

theorem partE_rel {t : TypeId} {l : List V} {off : Nat} {v : V} (h : partE P t l off = some v) {A : Array Value} (hl : LRel ρ l A.toList) :
    ∃ X, (part t A off).run P w = .ok X w ∧ VRel ρ v X := by
  unfold partE at h
  split at h
  · rename_i ha
    split at h
    · rename_i n hn
      simp only [llen_eq, ltake_eq, ldrop_eq] at h
      cases hb : Nat.ble (off + n) l.length with
      | false => simp [hb] at h
      | true =>
        simp only [hb, cond_true, Option.some.injEq] at h
        subst h
        refine ⟨.agg (A.extract off (off + n)), by simp [part, run_isAgg ha, run_size hn], ?_⟩
        simp only [VRel]
        refine ⟨_, rfl, ?_⟩
        simp only [Array.toList_extract, List.extract_eq_take_drop, Nat.add_sub_cancel_left]
        exact (hl.drop off).take n
    · cases h
  · rename_i ha
    rw [lget_eq] at h
    obtain ⟨X, h1, h2⟩ := hl.get h
    simp only [Array.getElem?_toList] at h1
    exact ⟨X, by simp [part, run_isAgg ha, h1], h2⟩
  · cases h

def CellsIn (ρ : Env) (w : World) (cs : List V) (B o : Nat) : Prop := ∀ i v, cs[i]? = some v → ∃ W, w.cell? ⟨B, o + i, none⟩ = some W ∧ VRel ρ v W

theorem SRel.cellsAt (h : SRel own ρ s w) {b : Nat} {cs : List V} (hc : cellsAt s b = some cs) {x : Blk} (hx : ρ b = some x) : CellsIn ρ w cs x.B x.O ∧ x.O + cs.length ≤ x.S := by
  unfold Sym.cellsAt at hc
  split at hc
  · rename_i cs' t ish hb
    cases hc
    obtain ⟨y, h1, _, C, t, fr, h3, h4, h5, h6, h7, _⟩ := h.obj' hb hx
    rw [hx] at h1; cases h1
    exact ⟨fun i v hi => by obtain ⟨W, a, b⟩ := h6 i v hi; exact ⟨W, by simp [World.cell?, h3, a], b⟩, h5⟩
  · cases hc

theorem addr_add (B o i : Nat) : (⟨B, o, none⟩ : Addr).add i = ⟨B, o + i, none⟩ := by
  unfold Addr.add; split
  · rename_i e; subst e; rfl
  · rfl

theorem ex_list {f : Nat → Option Value} : ∀ {l : List V}, (∀ i v, l[i]? = some v → ∃ W, f i = some W ∧ VRel ρ v W) → ∃ L, LRel ρ l L ∧ ∀ j X, L[j]? = some X → f j = some X
  | [], _ => ⟨[], LRel.nil, fun j X h => by simp at h⟩
  | v :: l, h => by
    obtain ⟨W, h1, h2⟩ := h 0 v rfl
    obtain ⟨L, h3, h4⟩ := ex_list (f := fun i => f (i + 1)) (l := l) fun i u hi => h (i + 1) u (by simpa using hi)
    refine ⟨W :: L, LRel.cons h2 h3, fun j X hj => ?_⟩
    cases j with
    | zero => simp at hj; subst hj; exact h1
    | succ j => exact h4 j X (by simpa using hj)
theorem load_of_cells {cs : List V} {B o : Nat} (h : CellsIn ρ w cs B o) (k n : Nat) (hn : k + n ≤ cs.length) :
    ∃ L : List Value, (loadCells ⟨B, o + k, none⟩ n).run P w = .ok L.toArray w ∧ LRel ρ ((cs.drop k).take n) L := by
  obtain ⟨L, h1, h2⟩ := ex_list (ρ := ρ) (f := fun i => w.cell? ⟨B, o + k + i, none⟩) (l := (cs.drop k).take n) fun i v hi => by
    have hi' : i < n := by
      have := (List.getElem?_eq_some_iff.1 hi).1
      simp at this; omega
    rw [List.getElem?_take_of_lt hi', List.getElem?_drop] at hi
    obtain ⟨W, a, b⟩ := h _ _ hi
    exact ⟨W, by rw [Nat.add_assoc]; exact a, b⟩
  refine ⟨L, ?_, h1⟩
  have hl : L.length = n := by
    have := h1.length
    simp at this; omega
  have := run_loadCells_list (P := P) w ⟨B, o + k, none⟩ L (fun j v hj => by rw [addr_add]; exact h2 j v hj)
  rwa [hl] at this

theorem toV_rel : ∀ (t : Ty) (x : t.den) (X : Value), TRel ρ.φ t x X → VRel ρ (toV t x) X
  | .int k, n, X, h => by rw [TRel] at h; simp only [toV, VRel]; exact h
  | .bool, b, X, h => by rw [TRel] at h; simp only [toV, VRel]; exact h
  | .str, s, X, h => by rw [TRel] at h; simp only [toV, VRel]; exact h
  | .lst e, L, X, h => by
    rw [TRel] at h
    obtain ⟨a, c, h1, h2, h3, h4⟩ := h
    simp only [toV, VRel]
    exact ⟨a, c, h1, h2, fun hh => (by cases hh), h3, fun hp => let ⟨B, o, g1, g2⟩ := h4 hp; ⟨B, o, g1, fun i hi => by simpa [Nat.add_assoc] using g2 i hi⟩⟩
theorem rowV_length : ∀ (e : List Ty) (x : rowDen e), (rowV e x).length = e.length
  | [], _ => rfl
  | [_], _ => rfl
  | t :: u :: ts, x => by rw [rowV]; simp [rowV_length (u :: ts)]
theorem rowV_get : ∀ (e : List Ty) (x : rowDen e) {C : Nat → Option Value}, CRel ρ.φ e x C → ∀ i v, (rowV e x)[i]? = some v → ∃ W, C i = some W ∧ VRel ρ v W
  | [], _, _, _, i, v, h => by simp [rowV] at h
  | [t], x, C, hc, i, v, h => by
    rw [CRel] at hc
    obtain ⟨X, h1, h2⟩ := hc
    cases i with
    | zero => simp [rowV] at h; subst h; exact ⟨X, h1, toV_rel t _ _ h2⟩
    | succ i => simp [rowV] at h
  | t :: u :: ts, x, C, hc, i, v, h => by
    rw [CRel] at hc
    obtain ⟨⟨X, h1, h2⟩, h3⟩ := hc
    cases i with
    | zero => rw [rowV] at h; simp at h; subst h; exact ⟨X, h1, toV_rel t _ _ h2⟩
    | succ i => exact rowV_get (u :: ts) x.2 h3 i v (by rw [rowV] at h; simpa using h)

theorem SRel.rowsAt (h : SRel own ρ s w) {b : Nat} {e : List Ty} {L : List (rowDen e)} (hc : rowsAt s b = some ⟨e, L⟩) {x : Blk} (hx : ρ b = some x) :
    RowsAt ρ.φ e L (fun k => w.cell? ⟨x.B, x.O + k, none⟩) ∧ x.O + L.length * e.length ≤ x.S := by
  unfold Sym.rowsAt at hc
  split at hc
  · rename_i e' L' t ish hb
    cases hc
    obtain ⟨y, h1, _, C, t, fr, h3, h4, h5, h6, h7, _⟩ := h.obj' hb hx
    rw [hx] at h1; cases h1
    exact ⟨fun i hi => CRel.mono (fun _ _ _ hv => hv) e _ (fun j v hv => by simpa [World.cell?, h3] using hv) (h6 i hi), h5⟩
  · cases hc

theorem row_cells {e : List Ty} {L : List (rowDen e)} {B o : Nat} (h : RowsAt ρ.φ e L (fun k => w.cell? ⟨B, o + k, none⟩)) {i : Nat} (hi : i < L.length) : CellsIn ρ w (rowV e (rowAt e L i)) B (o + i * e.length) := by
  intro j v hj
  obtain ⟨W, h1, h2⟩ := rowV_get e _ (h i hi) j v hj
  exact ⟨W, by simpa [Nat.add_assoc] using h1, h2⟩
theorem SRel.rowsφ (h : SRel own ρ s w) {e : List Ty} {L : List (rowDen e)} {B o : Nat} (hr : RowsAt ρ.φ e L (fun k => ρ.φ B (o + k))) : RowsAt ρ.φ e L (fun k => w.cell? ⟨B, o + k, none⟩) :=
  hr.mono (fun _ _ _ hv => hv) fun j v hv => h.fz _ _ _ hv

theorem loadPart_rel {t : TypeId} {cs : List V} {o B O : Nat} {v : V} (hq : partE P t cs o = some v) (hc : CellsIn ρ w cs B O) :
    ∃ X, (Instr.loadAt t (.pointer (some ⟨B, O + o, none⟩))).run P w = .ok X w ∧ VRel ρ v X := by
  unfold partE at hq
  split at hq
  · rename_i ht
    split at hq
    · rename_i n hn
      simp only [llen_eq, ltake_eq, ldrop_eq] at hq
      cases hb' : Nat.ble (o + n) cs.length with
      | false => simp [hb'] at hq
      | true =>
        simp only [hb', cond_true, Option.some.injEq] at hq
        subst hq
        obtain ⟨L, h1, h2⟩ := load_of_cells (P := P) hc o n (by simpa [Nat.ble_eq] using hb')
        refine ⟨.agg L.toArray, ?_, ?_⟩
        · simp [Instr.loadAt, Instr.sureAddr, loadVar, run_isAgg ht, run_size hn, h1]
        · simp only [VRel]; exact ⟨_, rfl, by simpa using h2⟩
    · cases hq
  · rename_i ht
    rw [lget_eq] at hq
    obtain ⟨W, h1, h2⟩ := hc _ _ hq
    exact ⟨W, by simp [Instr.loadAt, Instr.sureAddr, loadVar, run_isAgg ht, h1], h2⟩
  · cases hq

theorem okO_some {x : Option V} {ps : List Bool} {v : V} (h : okO x = some (ps, v)) : x = some v ∧ ps = [] := by
  cases x with
  | none => cases h
  | some u => cases h; exact ⟨rfl, rfl⟩
theorem okB_some {b : Bool} {x : Option V} {ps : List Bool} {v : V} (h : okB b x = some (ps, v)) : x = some v ∧ ps = [b] := by
  cases x with
  | none => cases h
  | some u => cases h; exact ⟨rfl, rfl⟩
theorem CRel.lt : ∀ (e : List Ty) (x : rowDen e) {C : Nat → Option Value}, CRel ρ.φ e x C → CRel ρ.φ e x (fun j => if j < e.length then C j else none)
  | [], _, _, _ => by rw [CRel]; trivial
  | [t], x, C, h => by
    rw [CRel] at h ⊢
    obtain ⟨X, h1, h2⟩ := h
    exact ⟨X, by simpa using h1, h2⟩
  | t :: u :: ts, x, C, h => by
    rw [CRel] at h ⊢
    obtain ⟨⟨X, h1, h2⟩, h3⟩ := h
    refine ⟨⟨X, by simpa using h1, h2⟩, ?_⟩
    refine CRel.mono (fun _ _ _ hv => hv) (u :: ts) x.2 ?_ (CRel.lt (u :: ts) x.2 h3)
    intro j v hv
    simp only [List.length_cons] at hv ⊢
    split at hv
    · rename_i hj; rw [if_pos (by omega)]; exact hv
    · cases hv
theorem rows_arr {e : List Ty} {L : List (rowDen e)} {A : Array Value} {C : Nat → Option Value} (h : RowsAt ρ.φ e L C) (hA : ∀ k, k < L.length * e.length → A[k]? = C k) : RowsAt ρ.φ e L (fun k => A[k]?) := by
  intro i hi
  refine CRel.mono (fun _ _ _ hv => hv) e _ ?_ (CRel.lt e _ (h i hi))
  intro j v hv
  split at hv
  · rename_i hj
    show A[i * e.length + j]? = some v
    rw [hA _ (by
      have h1 : (i + 1) * e.length ≤ L.length * e.length := Nat.mul_le_mul_right _ hi
      rw [Nat.succ_mul] at h1; omega)]
    exact hv
  · cases hv

theorem qLoad_rel (h : SRel own ρ s w) {t : TypeId} {a v : V} {A : Value} {ps : List Bool} (hq : qLoad P s t a = some (ps, v)) (hp : allB ps) (ha : VRel ρ a A) :
    ∃ X, (Instr.loadAt t A).run P w = .ok X w ∧ VRel ρ v X := by
  unfold qLoad at hq
  split at hq
  · rename_i b o
    split at hq
    · rename_i cs hcs
      simp only [VRel] at ha
      obtain ⟨B, O, S, hb, rfl⟩ := ha
      exact loadPart_rel (okO_some hq).1 (h.cellsAt hcs hb).1
    · cases hq
  · rename_i b i j es
    split at hq
    · rename_i e L hL
      cases he : Nat.beq es e.length with
      | false => rw [he] at hq; cases hq
      | true =>
      rw [he, cond_true] at hq
      have he := Nat.eq_of_beq_eq_true he
      subst he
      simp only [VRel] at ha
      obtain ⟨B, O, S, hb, rfl⟩ := ha
      obtain ⟨hr, hS⟩ := h.rowsAt hL hb
      split at hq
      · rename_i n el hd
        split at hq
        · split at hq
          · rename_i z hz
            cases hzz : Nat.beq z (n * e.length) with
            | false => rw [hzz] at hq; cases hq
            | true =>
            rw [hzz, cond_true] at hq
            have hzz := Nat.eq_of_beq_eq_true hzz
            cases hq
            have hn : L.length = n := by simpa using hp.1
            have hag : isAggE P t = some true := by simp [isAggE, hd]
            have hex : ∀ k, k < n * e.length → ∃ X, w.cell? ⟨B, O + k, none⟩ = some X := by
              intro k hk
              have he0 : 0 < e.length := by
                rcases Nat.eq_zero_or_pos e.length with h0 | h0
                · rw [h0] at hk; simp at hk
                · exact h0
              have hkk : k / e.length < L.length := by rw [hn]; exact (Nat.div_lt_iff_lt_mul he0).2 hk
              obtain ⟨X, h1, _⟩ := rowV_get e _ (hr _ hkk) (k % e.length) ((rowV e (rowAt e L (k / e.length)))[k % e.length]'(by rw [rowV_length]; exact Nat.mod_lt _ he0)) (List.getElem?_eq_getElem _)
              refine ⟨X, ?_⟩
              have e2 : k / e.length * e.length + k % e.length = k := by rw [Nat.mul_comm]; exact Nat.div_add_mod k e.length
              simpa [e2] using h1
            obtain ⟨g, hg⟩ : ∃ g : Nat → Value, ∀ k, k < n * e.length → w.cell? ⟨B, O + k, none⟩ = some (g k) :=
              ⟨fun k => if hk : k < n * e.length then (hex k hk).choose else undef, fun k hk => by simp only [hk, dif_pos]; exact (hex k hk).choose_spec⟩
            have hrun := run_loadCells_list (P := P) w ⟨B, O, none⟩ ((List.range (n * e.length)).map g) (fun j v hj => by
              rw [addr_add]
              have hj' : j < n * e.length := by have := (List.getElem?_eq_some_iff.1 hj).1; simpa using this
              rw [List.getElem?_map, List.getElem?_range hj'] at hj
              simp at hj; subst hj
              exact hg j hj')
            simp only [List.length_map, List.length_range] at hrun
            refine ⟨.agg ((List.range (n * e.length)).map g).toArray, by simp [Instr.loadAt, Instr.sureAddr, loadVar, run_isAgg hag, run_size hz, hzz, hrun], ?_⟩
            simp only [VRel]
            refine ⟨_, rfl, by simp [hn], rows_arr hr fun k hk => ?_⟩
            rw [hn] at hk
            rw [hg k hk]
            simp [List.getElem?_range hk]
          · cases hq
        · cases hq
      · obtain ⟨h1, rfl⟩ := okB_some hq
        have := loadPart_rel h1 (row_cells hr (by simpa using hp.1))
        simpa [Nat.add_assoc] using this
    · cases hq
  · rename_i e L i j
    obtain ⟨h1, rfl⟩ := okB_some hq
    simp only [VRel] at ha
    obtain ⟨B, o, rfl, hr⟩ := ha
    exact loadPart_rel h1 (row_cells (h.rowsφ hr) (by simpa using hp.1))
  · cases hq

theorem bits_toNat (k : IntKind) (x : Int) : (BitVec.ofInt k.bits x).toNat = ofI k x := by
  have h := modN_eq (kM k) (by cases k <;> decide) x
  rw [BitVec.toNat_ofInt, kM_eqN, ofI]
  omega

theorem wrap_in {n : Int} (h : -9223372036854775808 ≤ n) (h' : n ≤ 9223372036854775807) : IntKind.i64.wrap n = n := by
  simp only [IntKind.wrap, IntKind.bits, IntKind.signed, Bool.true_and, decide_eq_true_eq, ge_iff_le]; split <;> omega
theorem arithE_rel {k : IntKind} {n : Int} {v : V} {ps : List Bool} (h : arithE k n = some (ps, v)) (hp : allB ps) : VRel ρ v (.int k (k.wrap n)) := by
  unfold arithE at h
  split at h <;> cases h
  · obtain ⟨p1, _⟩ := hp
    rw [inI_eq] at p1
    have p1 := of_decide_eq_true p1
    rw [wrap_in p1.1 p1.2]
    simp only [VRel]
  all_goals simp only [VRel, IntKind.wrap, IntKind.bits, IntKind.signed, Bool.false_and, Bool.false_eq_true, if_false]
  all_goals rfl
theorem quoE_rel {k : IntKind} {a b : Int} {v : V} {ps : List Bool} (h : quoE k a b = some (ps, v)) (hp : allB ps) : b ≠ 0 ∧ VRel ρ v (.int k (k.wrap (a.tdiv b))) := by
  have key : ∀ M : Int, 0 ≤ a → 0 < b → a < M → a.tdiv b = a / b ∧ 0 ≤ a / b ∧ a / b < M := fun M h1 h2 h3 =>
    ⟨Int.tdiv_eq_ediv_of_nonneg h1, Int.ediv_nonneg h1 (Int.le_of_lt h2), Int.lt_of_le_of_lt (Int.ediv_le_self b h1) h3⟩
  unfold quoE at h
  split at h <;> cases h
  · obtain ⟨p1, p2, p3, _⟩ := hp
    rw [leI_eq] at p1
    rw [ltI_eq] at p2
    rw [inI_eq] at p3
    have h2 := of_decide_eq_true p2
    obtain ⟨k1, k2, k3⟩ := key 9223372036854775808 (of_decide_eq_true p1) h2 (by have := of_decide_eq_true p3; omega)
    rw [k1, wrap_in (by omega) (by omega)]
    exact ⟨by omega, by simp only [VRel]⟩
  · obtain ⟨p1, p2, p3, _⟩ := hp
    rw [leI_eq] at p1
    rw [ltI_eq] at p2 p3
    have h2 := of_decide_eq_true p2
    obtain ⟨k1, k2, k3⟩ := key _ (of_decide_eq_true p1) h2 (of_decide_eq_true p3)
    rw [k1]
    refine ⟨by omega, ?_⟩
    simp only [VRel, IntKind.wrap, IntKind.bits, IntKind.signed, Bool.false_and, Bool.false_eq_true, if_false]
    congr 1
    omega
  · obtain ⟨p1, p2, p3, _⟩ := hp
    rw [leI_eq] at p1
    rw [ltI_eq] at p2 p3
    have h2 := of_decide_eq_true p2
    obtain ⟨k1, k2, k3⟩ := key _ (of_decide_eq_true p1) h2 (of_decide_eq_true p3)
    rw [k1]
    refine ⟨by omega, ?_⟩
    simp only [VRel, IntKind.wrap, IntKind.bits, IntKind.signed, Bool.false_and, Bool.false_eq_true, if_false]
    congr 1
    omega
  · obtain ⟨p1, p2, p3, _⟩ := hp
    rw [leI_eq] at p1
    rw [ltI_eq] at p2 p3
    have h2 := of_decide_eq_true p2
    obtain ⟨k1, k2, k3⟩ := key _ (of_decide_eq_true p1) h2 (of_decide_eq_true p3)
    rw [k1]
    refine ⟨by omega, ?_⟩
    simp only [VRel, IntKind.wrap, IntKind.bits, IntKind.signed, Bool.false_and, Bool.false_eq_true, if_false]
    congr 1
    omega
  · exact ⟨by simpa using hp.1, by simp only [VRel]⟩
theorem intBin_rel {op : BinOp} {k : IntKind} {a b : Int} {v : V} {ps : List Bool} (h : intBin op k a b = some (ps, v)) (hp : allB ps) (h1 : op ≠ .shl) (h2 : op ≠ .shr) (t : TypeId) :
    ∃ X, (Go.binOp op t (.int k a) (.int k b)).run P w = .ok X w ∧ VRel ρ v X := by
  have e1 := bits_toNat k a
  have e2 := bits_toNat k b
  have e3 : (~~~ BitVec.ofInt k.bits b).toNat = kM k - 1 - ofI k b := by rw [BitVec.toNat_not, e2, kM_eqN]
  cases op
  case shl => exact absurd rfl h1
  case shr => exact absurd rfl h2
  case add => exact ⟨.int k (k.wrap (a + b)), by simp [Go.binOp, Op.intArith], arithE_rel h hp⟩
  case sub => exact ⟨.int k (k.wrap (a - b)), by simp [Go.binOp, Op.intArith], arithE_rel h hp⟩
  case mul => exact ⟨.int k (k.wrap (a * b)), by simp [Go.binOp, Op.intArith], arithE_rel h hp⟩
  case quo =>
    obtain ⟨hb', hv⟩ := quoE_rel (ρ := ρ) h hp
    exact ⟨.int k (k.wrap (a.tdiv b)), by simp [Go.binOp, Op.intDiv, hb'], hv⟩
  case rem =>
    cases h
    obtain ⟨p1, p2, _⟩ := hp
    rw [leI_eq] at p1
    rw [ltI_eq] at p2
    have ha' := of_decide_eq_true p1
    have hb' := of_decide_eq_true p2
    have hb : b ≠ 0 := by omega
    exact ⟨.int k (a.tmod b), by simp [Go.binOp, Op.intDiv, hb], by simp only [VRel]; rw [Int.tmod_eq_emod_of_nonneg ha']⟩
  case and => cases h; exact ⟨_, by simp only [Go.binOp, Op.intBits, ne_eq, not_true_eq_false, if_false, Sem.run_pure, BitVec.toNat_and, e1, e2]; rfl, by simp only [VRel]; rfl⟩
  case or => cases h; exact ⟨_, by simp only [Go.binOp, Op.intBits, ne_eq, not_true_eq_false, if_false, Sem.run_pure, BitVec.toNat_or, e1, e2]; rfl, by simp only [VRel]; rfl⟩
  case xor => cases h; exact ⟨_, by simp only [Go.binOp, Op.intBits, ne_eq, not_true_eq_false, if_false, Sem.run_pure, BitVec.toNat_xor, e1, e2]; rfl, by simp only [VRel]; rfl⟩
  case andNot => cases h; exact ⟨_, by simp only [Go.binOp, Op.intBits, ne_eq, not_true_eq_false, if_false, Sem.run_pure, BitVec.toNat_and, e1, e3]; rfl, by simp only [VRel]; rfl⟩
  case eql => cases h; exact ⟨.bool (a == b), by simp [Go.binOp, Op.intCmp], by simp only [VRel]; rfl⟩
  case neq => cases h; exact ⟨.bool (a != b), by simp [Go.binOp, Op.intCmp], by simp only [VRel]; rfl⟩
  case lss => cases h; exact ⟨.bool (decide (a < b)), by simp [Go.binOp, Op.intCmp], by simp only [VRel, ltI_eq]⟩
  case leq => cases h; exact ⟨.bool (decide (a ≤ b)), by simp [Go.binOp, Op.intCmp], by simp only [VRel, leI_eq]⟩
  case gtr => cases h; exact ⟨.bool (decide (a > b)), by simp [Go.binOp, Op.intCmp], by simp only [VRel, ltI_eq]⟩
  case geq => cases h; exact ⟨.bool (decide (a ≥ b)), by simp [Go.binOp, Op.intCmp], by simp only [VRel, leI_eq]⟩

theorem shiftE_rel {op : BinOp} {k k' : IntKind} {a b : Int} {v : V} {ps : List Bool} (h : shiftE op k a b = some (ps, v)) (hp : allB ps) :
    ∃ X, (Op.shift op k a k' b).run P w = .ok X w ∧ VRel ρ v X := by
  unfold shiftE at h
  split at h
  · have hb : 0 ≤ b := by split at h <;> (cases h; simpa [leI_eq] using hp.1)
    have hn : ¬ (b < 0) := by omega
    refine ⟨.int k (k.wrap (a * 2 ^ min b.toNat k.bits)), by simp [Op.shift, hn], ?_⟩
    split at h <;> cases h <;> simp only [VRel, IntKind.wrap, IntKind.bits, IntKind.signed, Bool.false_and, Bool.false_eq_true, if_false] <;> rfl
  · cases h
    have hb : 0 ≤ b := by simpa [leI_eq] using hp.1
    have hn : ¬ (b < 0) := by omega
    refine ⟨.int k (a.fdiv (2 ^ min b.toNat k.bits)), by simp [Op.shift, hn], ?_⟩
    simp only [VRel]
    rw [Int.fdiv_eq_ediv_of_nonneg _ (Int.le_of_lt (Int.pow_pos (by decide)))]
  · cases h

theorem i64max : IntKind.i64.max = 9223372036854775807 := by decide
theorem sEq_eq (a b : ByteArray) : sEq a b = (a.data.toList == b.data.toList) := by
  unfold sEq
  rw [Bool.eq_iff_iff]
  simp only [decide_eq_true_eq, beq_iff_eq]
  exact ⟨fun h => by rw [h], ba_ext⟩

theorem strBin_rel {op : BinOp} {a b : ByteArray} {v : V} {ps : List Bool} (h : strBin op a b = some (ps, v)) (hp : allB ps) :
    ∃ X, (Op.stringOp op a b).run P w = .ok X w ∧ VRel ρ v X := by
  have he := sEq_eq a b
  have hl : sLt a b = Op.bytesLess a.data.toList b.data.toList := rfl
  cases op <;> simp only [strBin, ok0, reduceCtorEq, Option.some.injEq, Prod.mk.injEq] at h
  case add =>
    obtain ⟨rfl, rfl⟩ := h
    have hb' : a.size + b.size ≤ 4611686018427387904 := by simpa using hp.1
    refine ⟨.string (a ++ b), ?_, by simp [VRel]⟩
    simp only [Op.stringOp, i64max]
    rw [if_neg (by omega)]
    rfl
  all_goals
    obtain ⟨rfl, rfl⟩ := h
    simp only [Op.stringOp, ByteArray.toList_eq, VRel, ← he, ← hl]
    exact ⟨_, rfl, rfl⟩

theorem plain_rel (h : SRel own ρ s w) {b : Nat} (hb : plainBlock s b = true) {x0 : Blk} (hx0 : ρ b = some x0) : ∃ x C t, ρ b = some x ∧ w.heap[x.B]? = some (.cells C t (0, 0)) := by
  unfold plainBlock at hb
  split at hb
  · rename_i cs t0 hg
    obtain ⟨x, h1, _, C, t, fr, h3, _, _, _, _, h8⟩ := h.obj' hg hx0
    rw [h8 rfl] at h3
    exact ⟨x, C, t, h1, h3⟩
  · cases hb

theorem run_mayBeOne {a b : Addr} {C D : Array Value} {t u : TypeId} (ha : w.heap[a.block]? = some (.cells C t (0, 0))) (hb : w.heap[b.block]? = some (.cells D u (0, 0))) :
    (mayBeOne a b).run P w = .ok false w := by
  have s1 : (stringish a).run P w = .ok false w := by simp [stringish, World.frozen?, World.shape?, ha]
  have s2 : (stringish b).run P w = .ok false w := by simp [stringish, World.frozen?, World.shape?, hb]
  have sh1 : w.shape? a.block = some (t, C.size) := by simp [World.shape?, ha]
  have sh2 : w.shape? b.block = some (u, D.size) := by simp [World.shape?, hb]
  simp [mayBeOne, s1, s2, sh1, sh2]

theorem run_sameAddr {a b : Addr} {C D : Array Value} {t u : TypeId} (ha : w.heap[a.block]? = some (.cells C t (0, 0))) (hb : w.heap[b.block]? = some (.cells D u (0, 0))) (hne : a.block ≠ b.block) :
    (sameAddr a b).run P w = .ok false w := by
  have n1 : (noView a).run P w = .ok () w := by simp [noView, viewAt, World.shape?, ha]
  have n2 : (noView b).run P w = .ok () w := by simp [noView, viewAt, World.shape?, hb]
  have e : (a.block == b.block) = false := by simpa using hne
  have f1 : w.frozen? a = false := by simp [World.frozen?, ha]
  simp [sameAddr, e, f1, n1, n2, run_mayBeOne ha hb]

set_option maxHeartbeats 800000 in
theorem eqE_rel (h : SRel own ρ s w) {t : TypeId} {a b : V} {r : Bool} (hq : eqE P s t a b = some r) {A B : Value} (ha : VRel ρ a A) (hb : VRel ρ b B) (d : Nat) :
    (Op.equalIn (d + 1) t A B).run P w = .ok r w := by
  unfold eqE at hq
  split at hq <;> rename_i hd
  · split at hq <;> cases hq
    simp only [VRel] at ha hb; subst ha; subst hb
    simp [Op.equalIn, run_und hd]
  · rename_i e
    split at hq
    · cases hq; simp only [VRel] at ha hb; subst ha; subst hb; simp [Op.equalIn, run_und hd]
    · cases hq; simp only [VRel] at ha hb; obtain ⟨_, _, _, _, rfl⟩ := hb; subst ha; simp [Op.equalIn, run_und hd]
    · cases hq; simp only [VRel] at ha hb; obtain ⟨_, _, _, _, rfl⟩ := ha; subst hb; simp [Op.equalIn, run_und hd]
    · cases hq; simp only [VRel] at ha hb; obtain ⟨_, _, rfl, _⟩ := hb; subst ha; simp [Op.equalIn, run_und hd]
    · cases hq; simp only [VRel] at ha hb; obtain ⟨_, _, rfl, _⟩ := ha; subst hb; simp [Op.equalIn, run_und hd]
    · rename_i x o y q
      split at hq
      · rename_i n hn
        cases hp : (plainBlock s x && plainBlock s y) with
        | false => simp [hp] at hq
        | true =>
          simp only [hp, cond_true] at hq
          simp only [Bool.and_eq_true] at hp
          simp only [VRel] at ha hb
          obtain ⟨B1, O1, S1, hB1, rfl⟩ := ha
          obtain ⟨B2, O2, S2, hB2, rfl⟩ := hb
          obtain ⟨x1, C1, t1, hx1, hw1⟩ := plain_rel h hp.1 hB1
          obtain ⟨x2, C2, t2, hx2, hw2⟩ := plain_rel h hp.2 hB2
          rw [hB1] at hx1; cases hx1
          rw [hB2] at hx2; cases hx2
          simp only [Op.equalIn, Sem.run_bind, run_und hd, Result.andThen_ok, run_size hn]
          cases hxy : Nat.beq x y with
          | true =>
            have e' : x = y := by simpa using hxy
            subst e'
            rw [hB1] at hB2; cases hB2
            simp only [hxy, cond_true, Option.some.injEq] at hq
            subst hq
            simp only [sameAddr]
            simp
            rw [Bool.eq_iff_iff]; simp
          | false =>
            simp only [hxy, cond_false, Option.some.injEq] at hq
            subst hq
            have hne : x ≠ y := by intro e; subst e; simp at hxy
            have hBne : B1 ≠ B2 := by
              unfold plainBlock at hp
              obtain ⟨p1, p2⟩ := hp
              split at p1
              · rename_i g1
                split at p2
                · rename_i g2
                  exact h.inj x y _ _ _ _ g1 g2 hB1 hB2 hne
                · cases p2
              · cases p1
            simp only [ne_eq, Nat.add_eq_zero_iff, Nat.succ_ne_self, and_false, not_false_eq_true, if_true, Nat.add_one_ne_zero]
            exact run_sameAddr hw1 hw2 hBne
      · cases hq
    · cases hq
  · split at hq <;> cases hq <;> simp only [VRel] at ha hb
    · subst ha; subst hb; simp [Op.equalIn, run_und hd]
    · obtain ⟨_, _, _, _, _, rfl, _⟩ := hb; subst ha; simp [Op.equalIn, run_und hd]
    · obtain ⟨_, _, _, _, _, rfl, _⟩ := ha; subst hb; simp [Op.equalIn, run_und hd]
  · split at hq <;> cases hq <;> simp only [VRel] at ha hb
    · subst ha; subst hb; simp [Op.equalIn, run_und hd]
    · obtain ⟨_, _, _, _, rfl⟩ := hb; subst ha; simp [Op.equalIn, run_und hd]
    · obtain ⟨_, _, _, _, rfl⟩ := ha; subst hb; simp [Op.equalIn, run_und hd]
  · split at hq <;> cases hq <;> simp only [VRel] at ha hb
    · subst ha; subst hb; simp [Op.equalIn, run_und hd]
    · obtain ⟨_, _, rfl, _⟩ := hb; subst ha; simp [Op.equalIn, run_und hd]
    · obtain ⟨_, _, rfl, _⟩ := ha; subst hb; simp [Op.equalIn, run_und hd]
    · obtain ⟨_, _, _, _, rfl⟩ := hb; subst ha; simp [Op.equalIn, run_und hd]
    · obtain ⟨_, _, _, _, rfl⟩ := ha; subst hb; simp [Op.equalIn, run_und hd]
  · split at hq <;> cases hq <;> simp only [VRel] at ha hb
    · obtain ⟨_, rfl, _⟩ := hb; subst ha; simp [Op.equalIn, run_und hd]
    · obtain ⟨_, rfl, _⟩ := ha; subst hb; simp [Op.equalIn, run_und hd]
  · cases hq

end
end Go.Sym
end
