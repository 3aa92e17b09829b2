/-
  The evaluator itself: regions, code, calls, ranges over functions. Definitions alone.
-/
import Derived.Test.YtmnjgdnmlopigaaGreatEngJ
import Derived.RangeFuncLeaves
import Derived.OrdersIn
namespace Go.Eng

inductive EDef where
  | mark (r : Nat)
  | call (f : FuncId) (args cap : List V)

structure Cfg where
  tmps : Frm
  defers : List EDef
  st : St

noncomputable section
def Frm.get (f : Frm) (k : Nat) : V := @Frm.rec (fun _ => V) (fun n t => @Bool.rec (fun _ => V) .undef (t.get k) (Nat.ble (Nat.succ k) n)) f
theorem Frm.get_eq (f : Frm) (k : Nat) : f.get k = bif Nat.blt k f.n then f.t.get k else .undef := by
  cases f with
  | mk n t =>
    show @Bool.rec (fun _ => V) .undef (t.get k) (Nat.blt k n) = _
    cases Nat.blt k n <;> rfl
def evF (f : Frm) (x : Operand) : Option V :=
  @Operand.rec (fun _ => Option V) (fun t => some (f.get t)) (fun v => ofVal v) (fun _ => none) (fun g => some (.fn g [] [])) x
def putE (f : Frm) (d : Option Tmp) (v : V) : Frm :=
  @Option.rec Tmp (fun _ => Frm) f (fun k => @Frm.rec (fun _ => Frm) (fun n t => @Bool.rec (fun _ => Frm) ⟨n, t⟩ ⟨n, B.set v t k⟩ (Nat.ble (Nat.succ k) n)) f) d
theorem putE_some (f : Frm) (k : Tmp) (v : V) : putE f (some k) v = bif Nat.blt k f.n then ⟨f.n, B.set v f.t k⟩ else f := by
  cases f with
  | mk n t =>
    show @Bool.rec (fun _ => Frm) ⟨n, t⟩ ⟨n, B.set v t k⟩ (Nat.blt k n) = _
    cases Nat.blt k n <;> rfl
theorem putE_none (f : Frm) (v : V) : putE f none v = f := rfl
def hOf : Nat → Nat
  | n => bif Nat.ble n 1 then 0 else bif Nat.ble n 2 then 1 else bif Nat.ble n 4 then 2 else bif Nat.ble n 8 then 3 else bif Nat.ble n 16 then 4 else bif Nat.ble n 32 then 5 else bif Nat.ble n 64 then 6 else bif Nat.ble n 128 then 7 else bif Nat.ble n 256 then 8 else bif Nat.ble n 512 then 9 else bif Nat.ble n 1024 then 10 else 12
def mkFrm (n : Nat) (args : List V) : Frm := ⟨n, B.ofList .undef (hOf n) args⟩
end

inductive EExit where
  | normal
  | exit (id : Nat)
  | ret
  | pan (v : V)

inductive ETgt where
  | fn (f : FuncId) (args : List V)
  | round (l : Nat) (args : List V)

inductive EEnd where
  | ret (v : V)
  | pan (v : V)

inductive EOut where
  | val (v : V)
  | skip
  | enter (t : ETgt)
  | pan (v : V)

abbrev ESelf := ETgt → St → Option (EEnd × St)


mutual
/-- the same value, written the same -/
def V.same : V → V → Bool
  | .undef, w => (match w with | .undef => true | _ => false)
  | .bool a, w => (match w with | .bool b => (bif a then b else !b) | _ => false)
  | .int k a, w => (match w with | .int k' b => bif kEq k k' then eqQ a b else false | _ => false)
  | .str s, w => (match w with | .str t => bif Nat.beq s.1 t.1 then Nat.beq s.2 t.2 else false | _ => false)
  | .nilp, w => (match w with | .nilp => true | _ => false)
  | .nils, w => (match w with | .nils => true | _ => false)
  | .slz a, w => (match w with | .slz b => (bif a then b else !b) | _ => false)
  | .nilm, w => (match w with | .nilm => true | _ => false)
  | .nilf, w => (match w with | .nilf => true | _ => false)
  | .nili, w => (match w with | .nili => true | _ => false)
  | .ptr b o, w => (match w with | .ptr b' o' => bif Nat.beq b b' then Nat.beq o o' else false | _ => false)
  | .sl b o l c x e, w => (match w with
    | .sl b' o' l' c' x' e' => bif Nat.beq b b' then bif Nat.beq o o' then bif Nat.beq l l' then bif Nat.beq c c' then bif (bif x then x' else !x') then Nat.beq e e' else false else false else false else false else false
    | _ => false)
  | .map b, w => (match w with | .map b' => Nat.beq b b' | _ => false)
  | .fn f a c, w => (match w with | .fn f' a' c' => bif Nat.beq f f' then bif sameL a a' then sameL c c' else false else false | _ => false)
  | .yld l, w => (match w with | .yld l' => Nat.beq l l' | _ => false)
  | .iface t v, w => (match w with | .iface t' v' => bif Nat.beq t t' then v.same v' else false | _ => false)
  | .agg l, w => (match w with | .agg l' => sameL l l' | _ => false)
  | .tup l, w => (match w with | .tup l' => sameL l l' | _ => false)
  | .it b, w => (match w with | .it b' => Nat.beq b b' | _ => false)
  | .any, _ => false
def sameL : List V → List V → Bool
  | [], w => (match w with | [] => true | _ :: _ => false)
  | v :: l, w => (match w with | [] => false | u :: m => bif v.same u then sameL l m else false)
end

noncomputable section
variable (P : Program)

def bodyOK (f : FuncId) : Bool :=
  match P.funcs[f]? with
  | some fn => !(fn.name == "runtime.NumGoroutine") && fn.body.isSome
  | none => false

def outV : Option (V × St) → Option (EOut × St)
  | some (v, s) => some (.val v, s)
  | none => none
def outS : Option St → Option (EOut × St)
  | some s => some (.skip, s)
  | none => none

def eBuiltin (s : St) (b : Builtin) (ts : Array TypeId) (args : List V) : Option (V × St) :=
  match b, args with
  | .append, [a, x] => eAppend P s ts a x
  | .copy, [a, x] => eCopy P s ts a x
  | .delete, [m, k] => eDelete P s ts m k
  | .clear, [m] => eClear P s ts m
  | _, _ => none

/-- an operation that makes or writes memory, calls, or panics -/
def eop (s : St) (ev : Operand → Option V) (op : Op) : Option (EOut × St) :=
  match op with
  | .alloc t => outV (eAlloc P s t)
  | .box t x => match ev x with
    | some v => outV (eBox s t v)
    | none => none
  | .buildSlice t len parts => match evalParts ev parts.toList with
    | some ps => outV (eBuildSlice P s t len ps)
    | none => none
  | .store t a x => match ev a, ev x with
    | some av, some v => outS (eStore P s t av v)
    | _, _ => none
  | .convert src dst x => match ev x with
    | some v => outV (eBytes P s src dst v)
    | none => none
  | .makeMap t r => match optO ev r with
    | some r => outV (eMakeMap P s t r)
    | none => none
  | .makeSlice t l c => match ev l, ev c with
    | some lv, some cv => outV (eMakeSlice P s t lv cv)
    | _, _ => none
  | .mapUpdate t m k x => match ev m, ev k, ev x with
    | some mv, some kv, some v => outS (eMapUpdate P s t mv kv v)
    | _, _, _ => none
  | .insert t m k x => match ev m, ev k, ev x with
    | some mv, some kv, some v => outS (eMapUpdate P s t mv kv v)
    | _, _, _ => none
  | .mapEntry t m k => match ev m, ev k with
    | some mv, some kv => outV (eMapEntry P s t mv kv)
    | _, _ => none
  | .entryStore _ m st x => match ev m, ev st, ev x with
    | some mv, some sv, some v => outS (eEntryStore s mv sv v)
    | _, _, _ => none
  | .panic x => match ev x with
    | some (.iface t v) => some (.pan (.iface t v), s)
    | _ => none
  | .range t x => match ev x with
    | some v => outV (eRange P s t v)
    | none => none
  | .next it isS => match ev it, isS with
    | some v, true => outV (eNext s v)
    | _, _ => none
  | .call c => match c.callee with
    | .builtin b => match evalOs ev c.args.toList with
      | some vs => outV (eBuiltin P s b c.argTypes vs)
      | none => none
    | .value f => match ev f, evalOs ev c.args.toList with
      | some (.fn g first cap), some vs => bif bodyOK P g then some (.enter (.fn g (lapp (lapp first vs) cap)), s) else none
      | some (.yld l), some vs => match s.heap.get l with
        | some (.loop r) => bif Nat.beq (llen vs) (llen r.params) then some (.enter (.round l vs), s) else none
        | _ => none
      | _, _ => none
    | _ => none
  | _ => none

def opE (s : St) (ev : Operand → Option V) (op : Op) : Option (EOut × St) :=
  match qop P s ev op with
  | some v => some (.val v, s)
  | none => eop P s ev op

/-! ### for speed: what hangs on the program's text alone is reckoned once -/
inductive OpF where
  | mk (f : St → (Operand → Option V) → Option (EOut × St))
inductive BinF where
  | mk (f : IntKind → Int → Int → Option V)

def toOut (s : St) : Option V → Option (EOut × St)
  | some v => some (.val v, s)
  | none => none

def binF (op : BinOp) : BinF :=
  match op with
  | .add => .mk fun k a b => some (.int k (wrapQ k (a + b)))
  | .sub => .mk fun k a b => some (.int k (wrapQ k (a - b)))
  | .mul => .mk fun k a b => some (.int k (wrapQ k (a * b)))
  | .and => .mk fun k a b => some (.int k (wrapQ k (.ofNat (Nat.land (ofI k a) (ofI k b)))))
  | .or => .mk fun k a b => some (.int k (wrapQ k (.ofNat (Nat.lor (ofI k a) (ofI k b)))))
  | .xor => .mk fun k a b => some (.int k (wrapQ k (.ofNat (Nat.xor (ofI k a) (ofI k b)))))
  | .eql => .mk fun _ a b => some (.bool (eqQ a b))
  | .neq => .mk fun _ a b => some (.bool (!eqQ a b))
  | .lss => .mk fun _ a b => some (.bool (ltQ a b))
  | .leq => .mk fun _ a b => some (.bool (!ltQ b a))
  | .gtr => .mk fun _ a b => some (.bool (ltQ b a))
  | .geq => .mk fun _ a b => some (.bool (!ltQ a b))
  | .quo => .mk (intBin .quo)
  | .rem => .mk (intBin .rem)
  | .andNot => .mk (intBin .andNot)
  | .shl => .mk fun _ _ _ => none
  | .shr => .mk fun _ _ _ => none
def binG (op : BinOp) (k : IntKind) (a b : Int) : Option V := match binF op with | .mk f => f k a b
theorem binG_eq (op : BinOp) (k : IntKind) (a b : Int) : binG op k a b = intBin op k a b := by cases op <;> rfl

def cBinI (op : BinOp) (t : TypeId) (s : St) (v u : V) : Option V :=
  match v with
  | .int k x => match u with
    | .int k' y => bif kEq k k' then binG op k x y else none
    | _ => qBin P s op t (.int k x) u
  | _ => qBin P s op t v u
def cBin (op : BinOp) (t : TypeId) (x y : Operand) (s : St) (ev : Operand → Option V) : Option (EOut × St) :=
  match ev x with
  | some a => match ev y with
    | some b => toOut s (cBinI P op t s a b)
    | none => none
  | none => none
def cShift (op : BinOp) (t : TypeId) (x y : Operand) (s : St) (ev : Operand → Option V) : Option (EOut × St) :=
  match ev x with
  | some a => match ev y with
    | some b => toOut s (qBin P s op t a b)
    | none => none
  | none => none
def cLoad (t : TypeId) (x : Operand) (s : St) (ev : Operand → Option V) : Option (EOut × St) :=
  match ev x with
  | some a => toOut s (qLoad P s t a)
  | none => none
def cStore (t : TypeId) (x y : Operand) (s : St) (ev : Operand → Option V) : Option (EOut × St) :=
  match ev x with
  | some a => match ev y with
    | some b => outS (eStore P s t a b)
    | none => none
  | none => none
def cIndexAddr (t : TypeId) (x y : Operand) (s : St) (ev : Operand → Option V) : Option (EOut × St) :=
  match ev x with
  | some a => match ev y with
    | some b => toOut s (qIndexAddr P t a b)
    | none => none
  | none => none
def cIndex (t : TypeId) (x y : Operand) (s : St) (ev : Operand → Option V) : Option (EOut × St) :=
  match ev x with
  | some a => match ev y with
    | some b => toOut s (qIndex P t a b)
    | none => none
  | none => none
def cFieldAddr (t : TypeId) (x : Operand) (i : Nat) (s : St) (ev : Operand → Option V) : Option (EOut × St) :=
  match ev x with
  | some a => toOut s (qFieldAddr P t a i)
  | none => none
def cUn (op : UnOp) (x : Operand) (s : St) (ev : Operand → Option V) : Option (EOut × St) :=
  match ev x with
  | some a => toOut s (qUn op a)
  | none => none
def cConv (src dst : TypeId) (x : Operand) (s : St) (ev : Operand → Option V) : Option (EOut × St) :=
  match ev x with
  | some a => match qConv P s src dst a with
    | some v => some (.val v, s)
    | none => outV (eBytes P s src dst a)
  | none => none
def cPick (c a b : Operand) (s : St) (ev : Operand → Option V) : Option (EOut × St) :=
  match ev c with
  | some (.bool true) => toOut s (ev a)
  | some (.bool false) => toOut s (ev b)
  | _ => none
def cCall (c : Call) (s : St) (ev : Operand → Option V) : Option (EOut × St) := opE P s ev (.call c)
def cAny (op : Op) (s : St) (ev : Operand → Option V) : Option (EOut × St) := opE P s ev op

def isShift : BinOp → Bool
  | .shl | .shr => true
  | _ => false
def compOp (op : Op) : OpF :=
  match op with
  | .move x => .mk fun s ev => toOut s (ev x)
  | .assign x => .mk fun s ev => toOut s (ev x)
  | .pick c a b => .mk (cPick c a b)
  | .load t a => .mk (cLoad P t a)
  | .store t a x => .mk (cStore P t a x)
  | .binOp op t x y _ => bif isShift op then .mk (cShift P op t x y) else .mk (cBin P op t x y)
  | .unOp op _ x => .mk (cUn op x)
  | .convert src dst x => .mk (cConv P src dst x)
  | .fieldAddr t x f => .mk (cFieldAddr P t x f)
  | .indexAddr t x i => .mk (cIndexAddr P t x i)
  | .index t x i => .mk (cIndex P t x i)
  | .call c => .mk (cCall P c)
  | op => .mk (cAny P op)
def runOpF (f : OpF) (s : St) (ev : Operand → Option V) : Option (EOut × St) := match f with | .mk f => f s ev

/-- a guard: the slot that is asked, and what is wanted there -/
inductive StepF where
  | mk (g : Option (Option Tmp × Bool)) (d : Option Tmp) (f : St → (Operand → Option V) → Option (EOut × St))
def guardOf (ops : Array Oper) (o : Oper) : Option (Option Tmp × Bool) :=
  match o.guard with
  | none => none
  | some (j, want) => match ops[j]? with
    | some o' => some (o'.dst, want)
    | none => some (none, want)
def compStep (ops : Array Oper) (o : Oper) : StepF :=
  match compOp P o.op with
  | .mk f => .mk (guardOf ops o) o.dst f
def compOps (ops : Array Oper) (l : List Oper) : List StepF := @List.rec Oper (fun _ => List StepF) [] (fun o _ ih => compStep P ops o :: ih) l

def wantedE (g : Option (Option Tmp × Bool)) (f : Frm) : Bool :=
  match g with
  | none => true
  | some (some d, want) => match f.get d with
    | .bool b => bif want then b else !b
    | _ => false
  | some (none, _) => false

/-- what an operation has given; what comes behind it -/
def nextE (self : ESelf) (d : Option Tmp) (rest : Cfg → Option (EExit × Cfg)) (f : Frm) (ds : List EDef) : Option (EOut × St) → Option (EExit × Cfg)
  | some (.val v, s) => rest ⟨putE f d v, ds, s⟩
  | some (.skip, s) => rest ⟨putE f d .undef, ds, s⟩
  | some (.pan v, s) => some (.pan v, ⟨f, ds, s⟩)
  | some (.enter t, s) => match self t s with
    | some (.ret v, s') => rest ⟨putE f d v, ds, s'⟩
    | some (.pan v, s') => some (.pan v, ⟨f, ds, s'⟩)
    | none => none
  | none => none
def stepE (self : ESelf) (rest : Cfg → Option (EExit × Cfg)) (x : StepF) (c : Cfg) : Option (EExit × Cfg) :=
  match x with
  | .mk g d f => match c with
    | ⟨fr, ds, s⟩ => bif wantedE g fr then nextE self d rest fr ds (f s (evF fr)) else rest ⟨putE fr d .undef, ds, s⟩
/-- operations in a row -/
def runOps (self : ESelf) (l : List StepF) : Cfg → Option (EExit × Cfg) :=
  @List.rec StepF (fun _ => Cfg → Option (EExit × Cfg)) (fun c => some (.normal, c)) (fun x _ ih => stepE self ih x) l

def iterE (body : Cfg → Option (EExit × Cfg)) (n : Nat) : Cfg → Option (EExit × Cfg) :=
  @Nat.rec (fun _ => Cfg → Option (EExit × Cfg)) (fun _ => none) (fun _ ih c => match body c with
    | some (.normal, c') => ih c'
    | r => r) n

def jumpE : Option Code → Option EExit
  | none => some .normal
  | some .ret => some .ret
  | some (.exit id) => some (.exit id)
  | _ => none

/-- a range over a function: the record is laid; the call; the jump that a round has left -/
def rangeE (self : ESelf) (round : Option Nat) (f : Operand) (ps : Array Tmp) (assign body : Code) (c : Cfg) : Option (EExit × Cfg) :=
  match (match round with
    | none => some ((c.st.new (.dfr false)), c.st.next, [EDef.mark c.st.next])
    | some l0 => match c.st.heap.get l0 with
      | some (.loop r) => some (c.st, r.defers, [])
      | _ => none : Option (St × Nat × List EDef)) with
  | none => none
  | some (s1, d, marks) =>
    match evF c.tmps f with
    | some (.fn g first cap) =>
      bif bodyOK P g then
        match self (.fn g (lapp (lapp first [.yld s1.next]) cap)) (s1.new (.loop ⟨.ready, none, c.tmps, ps.toList, assign, body, d⟩)) with
        | some (.ret _, s2) => match s2.heap.get s1.next with
          | some (.loop r) => match r.state with
            | .busy => none
            | _ => match jumpE r.pending with
              | some e => some (e, ⟨c.tmps, marks ++ c.defers, s2.upd s1.next (.loop { r with state := .exhausted })⟩)
              | none => none
          | _ => none
        | some (.pan v, s2) => some (.pan v, ⟨c.tmps, marks ++ c.defers, s2⟩)
        | none => none
      else none
    | _ => none

def seqE (a b : Cfg → Option (EExit × Cfg)) (c : Cfg) : Option (EExit × Cfg) :=
  match a c with
  | some (.normal, c') => b c'
  | r => r
def condE (x : Operand) (a b : Cfg → Option (EExit × Cfg)) (c : Cfg) : Option (EExit × Cfg) :=
  match evF c.tmps x with
  | some (.bool true) => a c
  | some (.bool false) => b c
  | _ => none
def blockE (id : Nat) (b : Cfg → Option (EExit × Cfg)) (c : Cfg) : Option (EExit × Cfg) :=
  match b c with
  | some (.exit id', c') => bif Nat.beq id' id then some (.normal, c') else some (.exit id', c')
  | r => r
/-! ### a region that draws its order: evaluated in the order of the text; what is quiet must give the same in every order -/
def tbQ (m i : Nat) : Bool := Nat.beq (Nat.mod (Nat.div m (Nat.pow 2 i)) 2) 1
def bindsQ (e : Edge) : Bool :=
  match e.ground with
  | .textOnly _ => false
  | .gcOnly _ => false
  | _ => true
def ogetN : Option Nat → Nat
  | some n => n
  | none => 0
/-- as bits: what stands ahead of an operation with these edges -/
def maskE (A : List Nat) : List Edge → Nat
  | [] => 0
  | e :: es => bif bindsQ e then Nat.lor (Nat.lor (Nat.pow 2 e.on) (ogetN (lget A e.on))) (maskE A es) else maskE A es
def ancsE : List Oper → List Nat → List Nat
  | [], A => A
  | o :: l, A => ancsE l (lapp A [maskE A o.after.toList])
def hasN (d : Nat) : List Nat → Bool
  | [] => false
  | x :: l => bif Nat.beq x d then true else hasN d l
/-- of two operations: what the one writes, the other neither writes nor reads, unless they stand one behind the other -/
def apartE (ops : Array Oper) (A : List Nat) (i : Nat) (d : Nat) : List Oper → Nat → Bool
  | [], _ => true
  | o :: l, j => (bif Nat.beq i j then true else
      (match o.dst with
        | some d' => !Nat.beq d' d
        | none => true) && (bif hasN d (o.looksAt ops) then tbQ (ogetN (lget A i)) j || tbQ (ogetN (lget A j)) i else true)) && apartE ops A i d l (Nat.succ j)
def backE (i : Nat) : List Edge → Bool
  | [] => true
  | e :: l => (bif bindsQ e then Nat.ble (Nat.succ e.on) i else true) && backE i l
def stE (ops : Array Oper) (A : List Nat) : List Oper → Nat → Bool
  | [], _ => true
  | o :: l, i => backE i o.after.toList && (match o.dst with
      | some d => apartE ops A i d ops.toList 0
      | none => true) && stE ops A l (Nat.succ i)
def stOK (ops : Array Oper) : Bool := stE ops (ancsE ops.toList []) ops.toList 0

def evL (L : List Tmp) (f : Frm) (x : Operand) : Option V :=
  match x with
  | .tmp t => bif hasN t L then some (f.get t) else none
  | .const v => ofVal v
  | .global _ => none
  | .func g => some (.fn g [] [])

/-- what an operation of a drawing region gave: at which place, from which frame and state; 'q': it changed nothing, and may be asked at other states; 'eff': the state behind it -/
structure DRec where
  i : Nat
  o : Oper
  f : Frm
  s : St
  v : V
  q : Bool
  eff : Option St
  mb : Option Nat

/-- an operation that makes one block, out of its operands alone -/
def mkQ (ev : Operand → Option V) (op : Op) : Option Mk :=
  match op with
  | .alloc t => mAlloc P t
  | .box t x => match ev x with
    | some v => mBox t v
    | none => none
  | .buildSlice t len parts => match evalParts ev parts.toList with
    | some ps => mBuildSlice P t len ps
    | none => none
  | .makeSlice t l c => match ev l, ev c with
    | some lv, some cv => mMakeSlice P t lv cv
    | _, _ => none
  | _ => none
def Mk.isAt (m : Mk) (o : Option EObj) : Bool :=
  match m with
  | .mk cs t _ => match o with
    | some (.cells cs' t' false) => bif Nat.beq t t' then sameL cs cs' else false
    | _ => false
/-- a quiet operation; or one whose block was named ahead -/
def qopM (mb : Option Nat) (s : St) (ev : Operand → Option V) (op : Op) : Option V :=
  match mb with
  | none => qop P s ev op
  | some b => match mkQ P ev op with
    | some m => bif m.isAt (s.heap.get b) then some (m.val b) else none
    | none => none
def findM (i : Nat) : List (Nat × Nat) → Option Nat
  | [] => none
  | e :: l => bif Nat.beq e.1 i then some e.2 else findM i l
def doneAll (D : Nat) : List Edge → Bool
  | [] => true
  | e :: l => (bif bindsQ e then tbQ D e.on else true) && doneAll D l
/-- the blocks that can be made ahead of all else are named, as they are made -/
def preRun (ops : Array Oper) : List Oper → Nat → Frm → St → Nat → List (Nat × Nat) → St × List (Nat × Nat)
  | [], _, _, s, _, M => (s, M)
  | o :: l, i, f, s, D, M =>
    bif doneAll D o.after.toList then
      bif wantedE (guardOf ops o) f then
        match qop P s (evL (o.looksAt ops) f) o.op with
        | some v => preRun ops l (Nat.succ i) (putE f o.dst v) s (Nat.lor D (Nat.pow 2 i)) M
        | none => match mkQ P (evL (o.looksAt ops) f) o.op with
          | some m => preRun ops l (Nat.succ i) (putE f o.dst (m.val s.next)) (s.new m.obj) (Nat.lor D (Nat.pow 2 i)) ((i, s.next) :: M)
          | none => preRun ops l (Nat.succ i) f s D M
      else preRun ops l (Nat.succ i) (putE f o.dst .undef) s (Nat.lor D (Nat.pow 2 i)) M
    else preRun ops l (Nat.succ i) f s D M
def loudOp (op : Op) : Bool :=
  match op with
  | .alloc _ | .box .. | .buildSlice .. | .insert .. | .store .. | .makeMap .. | .makeSlice .. | .mapUpdate .. | .mapEntry .. | .entryStore .. | .panic .. => true
  | .call c => match c.callee with
    | .builtin b => match b with
      | .append | .copy | .delete | .clear => true
      | _ => false
    | _ => true
  | _ => false
def effIdx : List Oper → Nat → List (Nat × St)
  | [], _ => []
  | o :: l, i => bif loudOp o.op then (i, ⟨.leaf, 0⟩) :: effIdx l (Nat.succ i) else effIdx l (Nat.succ i)

def opOut (self : ESelf) : Option (EOut × St) → Option (V × St)
  | some (.val v, s) => some (v, s)
  | some (.skip, s) => some (.undef, s)
  | some (.enter t, s) => match self t s with
    | some (.ret v, s') => some (v, s')
    | _ => none
  | _ => none
def drawStep (self : ESelf) (ops : Array Oper) (mb : Option Nat) (i : Nat) (o : Oper) (f : Frm) (s : St) : Option DRec :=
  bif wantedE (guardOf ops o) f then
    match qopM P mb s (evL (o.looksAt ops) f) o.op with
    | some v => some ⟨i, o, f, s, v, true, none, mb⟩
    | none => match mb with
      | some _ => none
      | none => match opOut self (eop P s (evL (o.looksAt ops) f) o.op) with
        | some (v, s') => some ⟨i, o, f, s, v, false, some s', none⟩
        | none => none
  else some ⟨i, o, f, s, .undef, false, none, mb⟩
def orS (s : St) : Option St → St
  | some s' => s'
  | none => s
def drawRun (self : ESelf) (ops : Array Oper) (M : List (Nat × Nat)) : List Oper → Nat → Frm → St → Option (List DRec)
  | [], _, _, _ => some []
  | o :: l, i, f, s => match drawStep P self ops (findM i M) i o f s with
    | some r => match drawRun self ops M l (Nat.succ i) (putE f o.dst r.v) (orS s r.eff) with
      | some R => some (r :: R)
      | none => none
    | none => none
def effs : List DRec → List (Nat × St)
  | [] => []
  | r :: l => match r.eff with
    | some s => (r.i, s) :: effs l
    | none => effs l
def lastS (s : St) : List (Nat × St) → St
  | [] => s
  | e :: l => lastS e.2 l
def anyB (m : Nat) : List (Nat × St) → Bool
  | [] => false
  | e :: l => bif tbQ m e.1 then true else anyB m l
/-- asked at every state in which it can come up, the operation gives the same -/
def chkE (ops : Array Oper) (A : List Nat) (r : DRec) (s : St) : List (Nat × St) → Bool
  | [] => (match qopM P r.mb s (evL (r.o.looksAt ops) r.f) r.o.op with
      | some v => v.same r.v
      | none => false)
  | e :: l => (bif anyB (ogetN (lget A r.i)) (e :: l) then true else match qopM P r.mb s (evL (r.o.looksAt ops) r.f) r.o.op with
      | some v => v.same r.v
      | none => false) && (bif tbQ (ogetN (lget A e.1)) r.i then true else chkE ops A r e.2 l)
def chainE (A : List Nat) : List (Nat × St) → Bool
  | [] => true
  | e :: l => beforeE A e.1 l && chainE A l
where beforeE (A : List Nat) (i : Nat) : List (Nat × St) → Bool
  | [] => true
  | e :: l => tbQ (ogetN (lget A e.1)) i && beforeE A i l
def chkAll (ops : Array Oper) (A : List Nat) (s : St) (E : List (Nat × St)) : List DRec → Bool
  | [] => true
  | r :: l => (bif r.q then chkE P ops A r s E else true) && chkAll ops A s E l
def finF (f : Frm) : List DRec → Frm
  | [] => f
  | r :: l => finF (putE f r.o.dst r.v) l
/-- what a panicking operation gives -/
def opPan (self : ESelf) : Option (EOut × St) → Option (V × St)
  | some (.pan v, s) => some (v, s)
  | some (.enter t, s) => match self t s with
    | some (.pan v, s') => some (v, s')
    | _ => none
  | _ => none
/-- behind the operation (ip) that panics: what does not stand behind it must be quiet -/
def panTail (ops : Array Oper) (M : List (Nat × Nat)) (A : List Nat) (ip : Nat) : List Oper → Nat → Frm → St → Option (List DRec)
  | [], _, _, _ => some []
  | o :: l, i, f, s => bif tbQ (ogetN (lget A i)) ip then (match panTail ops M A ip l (Nat.succ i) (putE f o.dst .undef) s with
      | some R => some (⟨i, o, f, s, .undef, false, none, none⟩ :: R)
      | none => none) else match drawStep P (fun _ _ => none) ops (findM i M) i o f s with
      | some r => match r.eff with
        | none => match panTail ops M A ip l (Nat.succ i) (putE f o.dst r.v) s with
          | some R => some (r :: R)
          | none => none
        | some _ => none
      | none => none
def panRun (self : ESelf) (ops : Array Oper) (M : List (Nat × Nat)) (A : List Nat) : List Oper → Nat → Frm → St → Option (List DRec × Nat × V × St)
  | [], _, _, _ => none
  | o :: l, i, f, s => match drawStep P self ops (findM i M) i o f s with
    | some r => match panRun self ops M A l (Nat.succ i) (putE f o.dst r.v) (orS s r.eff) with
      | some (R, x) => some (r :: R, x)
      | none => none
    | none => bif wantedE (guardOf ops o) f then (match findM i M with
      | some _ => none
      | none => match opPan self (eop P s (evL (o.looksAt ops) f) o.op) with
        | some (v, s') => match panTail P ops M A i l (Nat.succ i) (putE f o.dst .undef) s with
          | some R => some (⟨i, o, f, s, .undef, false, none, none⟩ :: R, i, v, s')
          | none => none
        | none => none) else none
def allAfter (m : Nat) : List (Nat × St) → Bool
  | [] => true
  | e :: l => tbQ m e.1 && allAfter m l
def anyF (f : Frm) : List Oper → Frm
  | [] => f
  | o :: l => anyF (putE f o.dst .any) l
def drawP (self : ESelf) (ops : Array Oper) (M : List (Nat × Nat)) (c : Cfg) (s0 : St) : Option (EExit × Cfg) :=
  match panRun P self ops M (ancsE ops.toList []) ops.toList 0 c.tmps s0 with
  | some (R, ip, v, s') => bif chainE (ancsE ops.toList []) (effs R) && (allAfter (ogetN (lget (ancsE ops.toList []) ip)) (effs R) && chkAll P ops (ancsE ops.toList []) s0 (effs R) R) then
      some (.pan v, ⟨anyF c.tmps ops.toList, c.defers, s'⟩) else none
  | none => none
def preM (ops : Array Oper) (f : Frm) (s : St) : St × List (Nat × Nat) :=
  bif chainE (ancsE ops.toList []) (effIdx ops.toList 0) then (s, []) else preRun P ops ops.toList 0 f s 0 []
def drawE (self : ESelf) (ops : Array Oper) (c : Cfg) : Option (EExit × Cfg) :=
  bif P.follows .mixedOrders && stOK ops then
    match preM P ops c.tmps c.st with
    | (s0, M) =>
      match drawRun P self ops M ops.toList 0 c.tmps s0 with
      | some R => bif chainE (ancsE ops.toList []) (effs R) && chkAll P ops (ancsE ops.toList []) s0 (effs R) R then
          some (.normal, ⟨finF c.tmps R, c.defers, lastS s0 (effs R)⟩) else none
      | none => drawP P self ops M c s0
  else none

def hasDefer : List Oper → Bool
  | [] => false
  | o :: l => match o.op with
    | .defer _ => true
    | _ => hasDefer l
/-- operations in a row, of which one defers a call -/
def dferE : List Oper → Cfg → Option (EExit × Cfg)
  | [], c => some (.normal, c)
  | o :: l, c => match o.guard with
    | some _ => none
    | none => match o.op with
      | .defer cl => match cl.callee with
        | .value f => match evF c.tmps f, evalOs (evF c.tmps) cl.args.toList with
          | some (.fn g first cap), some vs => bif bodyOK P g then dferE l ⟨putE c.tmps o.dst .undef, .call g (lapp first vs) cap :: c.defers, c.st⟩ else none
          | _, _ => none
        | _ => none
      | op => match qop P c.st (evF c.tmps) op with
        | some v => dferE l ⟨putE c.tmps o.dst v, c.defers, c.st⟩
        | none => none
def regionE (self : ESelf) (round : Option Nat) (ops : Array Oper) (draw : Bool) (c : Cfg) : Option (EExit × Cfg) :=
  match draw with
  | false => bif hasDefer ops.toList then (match round with
      | none => dferE P ops.toList c
      | some _ => none) else runOps self (compOps P ops ops.toList) c
  | true => drawE P self ops c
inductive CodeF where
  | mk (f : Cfg → Option (EExit × Cfg))
def runF (f : CodeF) (c : Cfg) : Option (EExit × Cfg) := match f with | .mk f => f c
def compC (self : ESelf) (fuel : Nat) (round : Option Nat) (x : Code) : CodeF :=
  @Code.rec (fun _ => CodeF)
    (.mk fun c => some (.normal, c))
    (fun _ ops draw => .mk (regionE P self round ops draw))
    (fun _ _ ia ib => .mk (seqE (runF ia) (runF ib)))
    (fun x _ _ ia ib => .mk (condE x (runF ia) (runF ib)))
    (fun id _ ib => .mk (blockE id (runF ib)))
    (fun _ ib => .mk (iterE (runF ib) fuel))
    (fun f ps assign body _ _ => .mk (rangeE P self round f ps assign body))
    (fun id => .mk fun c => some (.exit id, c))
    (fun _ ib => .mk (runF ib))
    (fun _ => .mk fun c => some (.normal, c))
    (fun _ => .mk fun _ => none)
    (.mk fun c => some (.ret, c))
    (fun _ => .mk fun _ => none) x
def runCode (self : ESelf) (fuel : Nat) (round : Option Nat) (x : Code) (c : Cfg) : Option (EExit × Cfg) := runF (compC P self fuel round x) c

def setParams : Frm → List Tmp → List V → Frm
  | t, p :: ps, v :: vs => setParams (putE t (some p) v) ps vs
  | t, _, _ => t

/-- one round of a range over a function -/
def runRound (self : ESelf) (fuel : Nat) (l : Nat) (args : List V) (s : St) : Option (EEnd × St) :=
  match s.heap.get l with
  | some (.loop r) =>
    match runCode P self fuel (some l) r.assign ⟨setParams r.tmps r.params args, [], s⟩ with
    | some (.normal, c1) => match c1.st.heap.get l with
      | some (.loop r1) => match r1.state with
        | .ready =>
          match runCode P self fuel (some l) r.body ⟨c1.tmps, c1.defers, c1.st.upd l (.loop { r1 with state := .busy })⟩ with
          | some (e, c2) => match c2.st.heap.get l with
            | some (.loop r2) => match e with
              | .normal => some (.ret (.bool true), c2.st.upd l (.loop { r2 with state := .ready, pending := none }))
              | .ret => some (.ret (.bool false), c2.st.upd l (.loop { r2 with state := .done, pending := some .ret }))
              | .exit id => some (.ret (.bool false), c2.st.upd l (.loop { r2 with state := .done, pending := some (.exit id) }))
              | .pan _ => none
            | _ => none
          | none => none
        | _ => none
      | _ => none
    | _ => none
  | _ => none

def resultsE (s : St) (f : Frm) : List ResultVar → Option (List V)
  | [] => some []
  | .tmp t :: l => match resultsE s f l with
    | some r => match f.get t with
      | .any => none
      | v => some (v :: r)
    | none => none
  | .cell a t :: l => match qLoad P s t (f.get a) with
    | some v => match resultsE s f l with
      | some r => some (v :: r)
      | none => none
    | none => none
def resultE (s : St) (f : Frm) (rs : List ResultVar) : Option V :=
  match resultsE P s f rs with
  | some [v] => some v
  | some l => some (match l with | [] => .undef | _ => .tup l)
  | none => none

/-! ### a deferred call: how the frame below is left (a value: it panics with it; true: that was recovered) -/
abbrev DM := Option (V × Bool)
inductive DCodeF where
  | mk (f : Cfg → DM → Option (EExit × Cfg × DM))
def runD (f : DCodeF) (c : Cfg) (m : DM) : Option (EExit × Cfg × DM) := match f with | .mk f => f c m
def withD (m : DM) : Option (EExit × Cfg) → Option (EExit × Cfg × DM)
  | some (.pan _, _) => none
  | some (e, c) => some (e, c, m)
  | none => none
def isRec : Op → Bool
  | .call cl => match cl.callee with
    | .builtin .recover => cl.args.isEmpty
    | _ => false
  | _ => false
def hasRec : List Oper → Bool
  | [] => false
  | o :: l => bif isRec o.op then true else hasRec l
/-- operations in a row, of which one recovers -/
def recE : List Oper → Cfg → DM → Option (EExit × Cfg × DM)
  | [], c, m => some (.normal, c, m)
  | o :: l, c, m => match o.guard with
    | some _ => none
    | none => bif isRec o.op then (match m with
        | some (v, false) => recE l ⟨putE c.tmps o.dst v, c.defers, c.st⟩ (some (v, true))
        | m => recE l ⟨putE c.tmps o.dst .nili, c.defers, c.st⟩ m) else
      match qop P c.st (evF c.tmps) o.op with
        | some v => recE l ⟨putE c.tmps o.dst v, c.defers, c.st⟩ m
        | none => none
def seqD (a b : Cfg → DM → Option (EExit × Cfg × DM)) (c : Cfg) (m : DM) : Option (EExit × Cfg × DM) :=
  match a c m with
  | some (.normal, c', m') => b c' m'
  | r => r
def condD (x : Operand) (a b : Cfg → DM → Option (EExit × Cfg × DM)) (c : Cfg) (m : DM) : Option (EExit × Cfg × DM) :=
  match evF c.tmps x with
  | some (.bool true) => a c m
  | some (.bool false) => b c m
  | _ => none
def compD (self : ESelf) (fuel : Nat) (x : Code) : DCodeF :=
  @Code.rec (fun _ => DCodeF)
    (.mk fun c m => withD m (runCode P self fuel none .skip c))
    (fun id ops draw => .mk fun c m => match draw with
      | false => bif hasRec ops.toList then recE P ops.toList c m else withD m (runCode P self fuel none (.region id ops false) c)
      | true => withD m (runCode P self fuel none (.region id ops true) c))
    (fun _ _ ia ib => .mk (seqD (runD ia) (runD ib)))
    (fun x _ _ ia ib => .mk (condD x (runD ia) (runD ib)))
    (fun id b _ => .mk fun c m => withD m (runCode P self fuel none (.block id b) c))
    (fun b _ => .mk fun c m => withD m (runCode P self fuel none (.loop b) c))
    (fun f ps assign body _ _ => .mk fun c m => withD m (runCode P self fuel none (.rangeFunc f ps assign body) c))
    (fun id => .mk fun c m => withD m (runCode P self fuel none (.exit id) c))
    (fun b _ => .mk fun c m => withD m (runCode P self fuel none (.scope b) c))
    (fun l => .mk fun c m => withD m (runCode P self fuel none (.label l) c))
    (fun l => .mk fun c m => withD m (runCode P self fuel none (.goto l) c))
    (.mk fun c m => withD m (runCode P self fuel none .ret c))
    (fun why => .mk fun c m => withD m (runCode P self fuel none (.refuse why) c)) x
/-- the deferred call -/
def runDef (self : ESelf) (fuel : Nat) (g : FuncId) (args : List V) (m : DM) (s : St) : Option (DM × St) :=
  match P.funcs[g]? with
  | some fn => match fn.body with
    | some c => bif !(Nat.ble (llen args) fn.ntmps && Nat.ble fn.ntmps 4096) then none else match runD (compD P self fuel c) ⟨mkFrm fn.ntmps args, [], s⟩ m with
      | some (e, c', m') => match e with
        | .normal | .ret => match c'.defers with
          | [] => match resultE P c'.st c'.tmps fn.results.toList with
            | some _ => some (m', c'.st)
            | none => none
          | _ :: _ => none
        | _ => none
      | none => none
    | none => none
  | none => none
def settleE : DM → DM
  | some (_, true) => none
  | m => m

/-- a function leaves: the marks of its ranges over functions are taken, deferred calls are made -/
def leaveE (self : ESelf) (fuel : Nat) (fn : Func) (tmps : Frm) (pan : DM) : List EDef → St → Option (EEnd × St)
  | [], s => match pan with
    | some (v, false) => some (.pan v, s)
    | some (_, true) => none
    | none => match resultE P s tmps fn.results.toList with
      | some v => some (.ret v, s)
      | none => none
  | .mark r :: ds, s => match s.heap.get r with
    | some (.dfr false) => leaveE self fuel fn tmps pan ds (s.upd r (.dfr true))
    | _ => none
  | .call g args cap :: ds, s => bif bodyOK P g then (match runDef P self fuel g (lapp args cap) pan s with
    | some (m, s') => leaveE self fuel fn tmps (settleE m) ds s'
    | none => none) else none

def runFn (self : ESelf) (fuel : Nat) (f : FuncId) (args : List V) (s : St) : Option (EEnd × St) :=
  match P.funcs[f]? with
  | some fn => match fn.body with
    | some c => bif !(Nat.ble (llen args) fn.ntmps && Nat.ble fn.ntmps 4096) then none else match runCode P self fuel none c ⟨mkFrm fn.ntmps args, [], s⟩ with
      | some (.normal, c') => leaveE P self fuel fn c'.tmps none c'.defers c'.st
      | some (.ret, c') => leaveE P self fuel fn c'.tmps none c'.defers c'.st
      | some (.pan v, c') => leaveE P self fuel fn c'.tmps (some (v, false)) c'.defers c'.st
      | _ => none
    | none => none
  | none => none

def runT (self : ESelf) (fuel : Nat) : ESelf
  | .fn f args, s => runFn P self fuel f args s
  | .round l args, s => runRound P self fuel l args s

/-- calls, so deep; 'known': contracts that stand for functions -/
def callE (known : ESelf) (fuel : Nat) (d : Nat) : ESelf :=
  @Nat.rec (fun _ => ESelf) (fun _ _ => none) (fun _ ih t s => match known t s with
    | some r => some r
    | none => runT P ih fuel t s) d
end
end Go.Eng
