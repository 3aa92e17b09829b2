/-
  Texts of this claim, one behind the other: EngK EngL EngQ. Each says its own conditions.
-/
import Derived.Test.YtechbadkbiognaaFlaM3
import Derived.RangeFuncLeaves
import Derived.OrdersIn

set_option linter.unusedVariables false
set_option linter.unusedSimpArgs false
set_option linter.unusedSectionVars false
section
namespace Go.Eng

inductive EDef where
  | mark (r : Nat)
  | call (f : FuncId) (args cap : List V)

structure Cfg where
  tmps : Frm
  defers : List EDef
  st : St

noncomputable section
def Frm.get (f : Frm) (k : Nat) : V := @Frm.rec (fun _ => V) (fun n t => @Bool.rec (fun _ => V) .undef (t.get k) (Nat.ble (Nat.succ k) n)) f
theorem Frm.get_eq (f : Frm) (k : Nat) : f.get k = bif Nat.blt k f.n then f.t.get k else .undef := by
  cases f with
  | mk n t =>
    show @Bool.rec (fun _ => V) .undef (t.get k) (Nat.blt k n) = _
    cases Nat.blt k n <;> rfl
def evF (f : Frm) (x : Operand) : Option V :=
  @Operand.rec (fun _ => Option V) (fun t => some (f.get t)) (fun v => ofVal v) (fun _ => none) (fun g => some (.fn g [] [])) x
def putE (f : Frm) (d : Option Tmp) (v : V) : Frm :=
  @Option.rec Tmp (fun _ => Frm) f (fun k => @Frm.rec (fun _ => Frm) (fun n t => @Bool.rec (fun _ => Frm) ⟨n, t⟩ ⟨n, B.set v t k⟩ (Nat.ble (Nat.succ k) n)) f) d
theorem putE_some (f : Frm) (k : Tmp) (v : V) : putE f (some k) v = bif Nat.blt k f.n then ⟨f.n, B.set v f.t k⟩ else f := by
  cases f with
  | mk n t =>
    show @Bool.rec (fun _ => Frm) ⟨n, t⟩ ⟨n, B.set v t k⟩ (Nat.blt k n) = _
    cases Nat.blt k n <;> rfl
def hOf : Nat → Nat
  | n => bif Nat.ble n 1 then 0 else bif Nat.ble n 2 then 1 else bif Nat.ble n 4 then 2 else bif Nat.ble n 8 then 3 else bif Nat.ble n 16 then 4 else bif Nat.ble n 32 then 5 else bif Nat.ble n 64 then 6 else bif Nat.ble n 128 then 7 else bif Nat.ble n 256 then 8 else bif Nat.ble n 512 then 9 else bif Nat.ble n 1024 then 10 else 12
def mkFrm (n : Nat) (args : List V) : Frm := ⟨n, B.ofList .undef (hOf n) args⟩
end

inductive EExit where
  | normal
  | exit (id : Nat)
  | ret
  | pan (v : V)

inductive ETgt where
  | fn (f : FuncId) (args : List V)
  | round (l : Nat) (args : List V)

inductive EEnd where
  | ret (v : V)
  | pan (v : V)

inductive EOut where
  | val (v : V)
  | skip
  | enter (t : ETgt)
  | pan (v : V)

abbrev ESelf := ETgt → St → Option (EEnd × St)


mutual
def V.same : V → V → Bool
  | .undef, w => (match w with | .undef => true | _ => false)
  | .bool a, w => (match w with | .bool b => (bif a then b else !b) | _ => false)
  | .int k a, w => (match w with | .int k' b => bif kEq k k' then eqQ a b else false | _ => false)
  | .str s, w => (match w with | .str t => bif Nat.beq s.1 t.1 then Nat.beq s.2 t.2 else false | _ => false)
  | .nilp, w => (match w with | .nilp => true | _ => false)
  | .nils, w => (match w with | .nils => true | _ => false)
  | .slz a, w => (match w with | .slz b => (bif a then b else !b) | _ => false)
  | .nilm, w => (match w with | .nilm => true | _ => false)
  | .nilf, w => (match w with | .nilf => true | _ => false)
  | .nili, w => (match w with | .nili => true | _ => false)
  | .ptr b o, w => (match w with | .ptr b' o' => bif Nat.beq b b' then Nat.beq o o' else false | _ => false)
  | .sl b o l c x e, w => (match w with
    | .sl b' o' l' c' x' e' => bif Nat.beq b b' then bif Nat.beq o o' then bif Nat.beq l l' then bif Nat.beq c c' then bif (bif x then x' else !x') then Nat.beq e e' else false else false else false else false else false
    | _ => false)
  | .map b, w => (match w with | .map b' => Nat.beq b b' | _ => false)
  | .fn f a c, w => (match w with | .fn f' a' c' => bif Nat.beq f f' then bif sameL a a' then sameL c c' else false else false | _ => false)
  | .yld l, w => (match w with | .yld l' => Nat.beq l l' | _ => false)
  | .iface t v, w => (match w with | .iface t' v' => bif Nat.beq t t' then v.same v' else false | _ => false)
  | .agg l, w => (match w with | .agg l' => sameL l l' | _ => false)
  | .tup l, w => (match w with | .tup l' => sameL l l' | _ => false)
  | .it b, w => (match w with | .it b' => Nat.beq b b' | _ => false)
  | .any, _ => false
def sameL : List V → List V → Bool
  | [], w => (match w with | [] => true | _ :: _ => false)
  | v :: l, w => (match w with | [] => false | u :: m => bif v.same u then sameL l m else false)
end

noncomputable section
variable (P : Program)

def bodyOK (f : FuncId) : Bool :=
  match P.funcs[f]? with
  | some fn => !(fn.name == "runtime.NumGoroutine") && fn.body.isSome
  | none => false

def outV : Option (V × St) → Option (EOut × St)
  | some (v, s) => some (.val v, s)
  | none => none
def outS : Option St → Option (EOut × St)
  | some s => some (.skip, s)
  | none => none

def eBuiltin (s : St) (b : Builtin) (ts : Array TypeId) (args : List V) : Option (V × St) :=
  match b, args with
  | .append, [a, x] => eAppend P s ts a x
  | .copy, [a, x] => eCopy P s ts a x
  | .delete, [m, k] => eDelete P s ts m k
  | .clear, [m] => eClear P s ts m
  | _, _ => none

def eop (s : St) (ev : Operand → Option V) (op : Op) : Option (EOut × St) :=
  match op with
  | .alloc t => outV (eAlloc P s t)
  | .box t x => match ev x with
    | some v => outV (eBox s t v)
    | none => none
  | .buildSlice t len parts => match evalParts ev parts.toList with
    | some ps => outV (eBuildSlice P s t len ps)
    | none => none
  | .store t a x => match ev a, ev x with
    | some av, some v => outS (eStore P s t av v)
    | _, _ => none
  | .convert src dst x => match ev x with
    | some v => outV (eBytes P s src dst v)
    | none => none
  | .makeMap t r => match optO ev r with
    | some r => outV (eMakeMap P s t r)
    | none => none
  | .makeSlice t l c => match ev l, ev c with
    | some lv, some cv => outV (eMakeSlice P s t lv cv)
    | _, _ => none
  | .mapUpdate t m k x => match ev m, ev k, ev x with
    | some mv, some kv, some v => outS (eMapUpdate P s t mv kv v)
    | _, _, _ => none
  | .insert t m k x => match ev m, ev k, ev x with
    | some mv, some kv, some v => outS (eMapUpdate P s t mv kv v)
    | _, _, _ => none
  | .mapEntry t m k => match ev m, ev k with
    | some mv, some kv => outV (eMapEntry P s t mv kv)
    | _, _ => none
  | .entryStore _ m st x => match ev m, ev st, ev x with
    | some mv, some sv, some v => outS (eEntryStore s mv sv v)
    | _, _, _ => none
  | .panic x => match ev x with
    | some (.iface t v) => some (.pan (.iface t v), s)
    | _ => none
  | .range t x => match ev x with
    | some v => outV (eRange P s t v)
    | none => none
  | .next it isS => match ev it, isS with
    | some v, true => outV (eNext s v)
    | _, _ => none
  | .call c => match c.callee with
    | .builtin b => match evalOs ev c.args.toList with
      | some vs => outV (eBuiltin P s b c.argTypes vs)
      | none => none
    | .value f => match ev f, evalOs ev c.args.toList with
      | some (.fn g first cap), some vs => bif bodyOK P g then some (.enter (.fn g (lapp (lapp first vs) cap)), s) else none
      | some (.yld l), some vs => match s.heap.get l with
        | some (.loop r) => bif Nat.beq (llen vs) (llen r.params) then some (.enter (.round l vs), s) else none
        | _ => none
      | _, _ => none
    | _ => none
  | _ => none

def opE (s : St) (ev : Operand → Option V) (op : Op) : Option (EOut × St) :=
  match qop P s ev op with
  | some v => some (.val v, s)
  | none => eop P s ev op

inductive OpF where
  | mk (f : St → (Operand → Option V) → Option (EOut × St))
inductive BinF where
  | mk (f : IntKind → Int → Int → Option V)

def toOut (s : St) : Option V → Option (EOut × St)
  | some v => some (.val v, s)
  | none => none

def binF (op : BinOp) : BinF :=
  match op with
  | .add => .mk fun k a b => some (.int k (wrapQ k (a + b)))
  | .sub => .mk fun k a b => some (.int k (wrapQ k (a - b)))
  | .mul => .mk fun k a b => some (.int k (wrapQ k (a * b)))
  | .and => .mk fun k a b => some (.int k (wrapQ k (.ofNat (Nat.land (ofI k a) (ofI k b)))))
  | .or => .mk fun k a b => some (.int k (wrapQ k (.ofNat (Nat.lor (ofI k a) (ofI k b)))))
  | .xor => .mk fun k a b => some (.int k (wrapQ k (.ofNat (Nat.xor (ofI k a) (ofI k b)))))
  | .eql => .mk fun _ a b => some (.bool (eqQ a b))
  | .neq => .mk fun _ a b => some (.bool (!eqQ a b))
  | .lss => .mk fun _ a b => some (.bool (ltQ a b))
  | .leq => .mk fun _ a b => some (.bool (!ltQ b a))
  | .gtr => .mk fun _ a b => some (.bool (ltQ b a))
  | .geq => .mk fun _ a b => some (.bool (!ltQ a b))
  | .quo => .mk (intBin .quo)
  | .rem => .mk (intBin .rem)
  | .andNot => .mk (intBin .andNot)
  | .shl => .mk fun _ _ _ => none
  | .shr => .mk fun _ _ _ => none
def binG (op : BinOp) (k : IntKind) (a b : Int) : Option V := match binF op with | .mk f => f k a b
theorem binG_eq (op : BinOp) (k : IntKind) (a b : Int) : binG op k a b = intBin op k a b := by cases op <;> rfl

def cBinI (op : BinOp) (t : TypeId) (s : St) (v u : V) : Option V :=
  match v with
  | .int k x => match u with
    | .int k' y => bif kEq k k' then binG op k x y else none
    | _ => qBin P s op t (.int k x) u
  | _ => qBin P s op t v u
def cBin (op : BinOp) (t : TypeId) (x y : Operand) (s : St) (ev : Operand → Option V) : Option (EOut × St) :=
  match ev x with
  | some a => match ev y with
    | some b => toOut s (cBinI P op t s a b)
    | none => none
  | none => none
def cShift (op : BinOp) (t : TypeId) (x y : Operand) (s : St) (ev : Operand → Option V) : Option (EOut × St) :=
  match ev x with
  | some a => match ev y with
    | some b => toOut s (qBin P s op t a b)
    | none => none
  | none => none
def cLoad (t : TypeId) (x : Operand) (s : St) (ev : Operand → Option V) : Option (EOut × St) :=
  match ev x with
  | some a => toOut s (qLoad P s t a)
  | none => none
def cStore (t : TypeId) (x y : Operand) (s : St) (ev : Operand → Option V) : Option (EOut × St) :=
  match ev x with
  | some a => match ev y with
    | some b => outS (eStore P s t a b)
    | none => none
  | none => none
def cIndexAddr (t : TypeId) (x y : Operand) (s : St) (ev : Operand → Option V) : Option (EOut × St) :=
  match ev x with
  | some a => match ev y with
    | some b => toOut s (qIndexAddr P t a b)
    | none => none
  | none => none
def cIndex (t : TypeId) (x y : Operand) (s : St) (ev : Operand → Option V) : Option (EOut × St) :=
  match ev x with
  | some a => match ev y with
    | some b => toOut s (qIndex P t a b)
    | none => none
  | none => none
def cFieldAddr (t : TypeId) (x : Operand) (i : Nat) (s : St) (ev : Operand → Option V) : Option (EOut × St) :=
  match ev x with
  | some a => toOut s (qFieldAddr P t a i)
  | none => none
def cUn (op : UnOp) (x : Operand) (s : St) (ev : Operand → Option V) : Option (EOut × St) :=
  match ev x with
  | some a => toOut s (qUn op a)
  | none => none
def cConv (src dst : TypeId) (x : Operand) (s : St) (ev : Operand → Option V) : Option (EOut × St) :=
  match ev x with
  | some a => match qConv P s src dst a with
    | some v => some (.val v, s)
    | none => outV (eBytes P s src dst a)
  | none => none
def cPick (c a b : Operand) (s : St) (ev : Operand → Option V) : Option (EOut × St) :=
  match ev c with
  | some (.bool true) => toOut s (ev a)
  | some (.bool false) => toOut s (ev b)
  | _ => none
def cCall (c : Call) (s : St) (ev : Operand → Option V) : Option (EOut × St) := opE P s ev (.call c)
def cAny (op : Op) (s : St) (ev : Operand → Option V) : Option (EOut × St) := opE P s ev op

def isShift : BinOp → Bool
  | .shl | .shr => true
  | _ => false
def compOp (op : Op) : OpF :=
  match op with
  | .move x => .mk fun s ev => toOut s (ev x)
  | .assign x => .mk fun s ev => toOut s (ev x)
  | .pick c a b => .mk (cPick c a b)
  | .load t a => .mk (cLoad P t a)
  | .store t a x => .mk (cStore P t a x)
  | .binOp op t x y _ => bif isShift op then .mk (cShift P op t x y) else .mk (cBin P op t x y)
  | .unOp op _ x => .mk (cUn op x)
  | .convert src dst x => .mk (cConv P src dst x)
  | .fieldAddr t x f => .mk (cFieldAddr P t x f)
  | .indexAddr t x i => .mk (cIndexAddr P t x i)
  | .index t x i => .mk (cIndex P t x i)
  | .call c => .mk (cCall P c)
  | op => .mk (cAny P op)
def runOpF (f : OpF) (s : St) (ev : Operand → Option V) : Option (EOut × St) := match f with | .mk f => f s ev

inductive StepF where
  | mk (g : Option (Option Tmp × Bool)) (d : Option Tmp) (f : St → (Operand → Option V) → Option (EOut × St))
def guardOf (ops : Array Oper) (o : Oper) : Option (Option Tmp × Bool) :=
  match o.guard with
  | none => none
  | some (j, want) => match ops[j]? with
    | some o' => some (o'.dst, want)
    | none => some (none, want)
def compStep (ops : Array Oper) (o : Oper) : StepF :=
  match compOp P o.op with
  | .mk f => .mk (guardOf ops o) o.dst f
def compOps (ops : Array Oper) (l : List Oper) : List StepF := @List.rec Oper (fun _ => List StepF) [] (fun o _ ih => compStep P ops o :: ih) l

def wantedE (g : Option (Option Tmp × Bool)) (f : Frm) : Bool :=
  match g with
  | none => true
  | some (some d, want) => match f.get d with
    | .bool b => bif want then b else !b
    | _ => false
  | some (none, _) => false

def nextE (self : ESelf) (d : Option Tmp) (rest : Cfg → Option (EExit × Cfg)) (f : Frm) (ds : List EDef) : Option (EOut × St) → Option (EExit × Cfg)
  | some (.val v, s) => rest ⟨putE f d v, ds, s⟩
  | some (.skip, s) => rest ⟨putE f d .undef, ds, s⟩
  | some (.pan v, s) => some (.pan v, ⟨f, ds, s⟩)
  | some (.enter t, s) => match self t s with
    | some (.ret v, s') => rest ⟨putE f d v, ds, s'⟩
    | some (.pan v, s') => some (.pan v, ⟨f, ds, s'⟩)
    | none => none
  | none => none
def stepE (self : ESelf) (rest : Cfg → Option (EExit × Cfg)) (x : StepF) (c : Cfg) : Option (EExit × Cfg) :=
  match x with
  | .mk g d f => match c with
    | ⟨fr, ds, s⟩ => bif wantedE g fr then nextE self d rest fr ds (f s (evF fr)) else rest ⟨putE fr d .undef, ds, s⟩
def runOps (self : ESelf) (l : List StepF) : Cfg → Option (EExit × Cfg) :=
  @List.rec StepF (fun _ => Cfg → Option (EExit × Cfg)) (fun c => some (.normal, c)) (fun x _ ih => stepE self ih x) l

def iterE (body : Cfg → Option (EExit × Cfg)) (n : Nat) : Cfg → Option (EExit × Cfg) :=
  @Nat.rec (fun _ => Cfg → Option (EExit × Cfg)) (fun _ => none) (fun _ ih c => match body c with
    | some (.normal, c') => ih c'
    | r => r) n

def jumpE : Option Code → Option EExit
  | none => some .normal
  | some .ret => some .ret
  | some (.exit id) => some (.exit id)
  | _ => none

def rangeE (self : ESelf) (round : Option Nat) (f : Operand) (ps : Array Tmp) (assign body : Code) (c : Cfg) : Option (EExit × Cfg) :=
  match (match round with
    | none => some ((c.st.new (.dfr false)), c.st.next, [EDef.mark c.st.next])
    | some l0 => match c.st.heap.get l0 with
      | some (.loop r) => some (c.st, r.defers, [])
      | _ => none : Option (St × Nat × List EDef)) with
  | none => none
  | some (s1, d, marks) =>
    match evF c.tmps f with
    | some (.fn g first cap) =>
      bif bodyOK P g then
        match self (.fn g (lapp (lapp first [.yld s1.next]) cap)) (s1.new (.loop ⟨.ready, none, c.tmps, ps.toList, assign, body, d⟩)) with
        | some (.ret _, s2) => match s2.heap.get s1.next with
          | some (.loop r) => match r.state with
            | .busy => none
            | _ => match jumpE r.pending with
              | some e => some (e, ⟨c.tmps, marks ++ c.defers, s2.upd s1.next (.loop { r with state := .exhausted })⟩)
              | none => none
          | _ => none
        | some (.pan v, s2) => some (.pan v, ⟨c.tmps, marks ++ c.defers, s2⟩)
        | none => none
      else none
    | _ => none

def seqE (a b : Cfg → Option (EExit × Cfg)) (c : Cfg) : Option (EExit × Cfg) :=
  match a c with
  | some (.normal, c') => b c'
  | r => r
def condE (x : Operand) (a b : Cfg → Option (EExit × Cfg)) (c : Cfg) : Option (EExit × Cfg) :=
  match evF c.tmps x with
  | some (.bool true) => a c
  | some (.bool false) => b c
  | _ => none
def blockE (id : Nat) (b : Cfg → Option (EExit × Cfg)) (c : Cfg) : Option (EExit × Cfg) :=
  match b c with
  | some (.exit id', c') => bif Nat.beq id' id then some (.normal, c') else some (.exit id', c')
  | r => r
def tbQ (m i : Nat) : Bool := Nat.beq (Nat.mod (Nat.div m (Nat.pow 2 i)) 2) 1
def bindsQ (e : Edge) : Bool :=
  match e.ground with
  | .textOnly _ => false
  | .gcOnly _ => false
  | _ => true
def ogetN : Option Nat → Nat
  | some n => n
  | none => 0
def maskE (A : List Nat) : List Edge → Nat
  | [] => 0
  | e :: es => bif bindsQ e then Nat.lor (Nat.lor (Nat.pow 2 e.on) (ogetN (lget A e.on))) (maskE A es) else maskE A es
def ancsE : List Oper → List Nat → List Nat
  | [], A => A
  | o :: l, A => ancsE l (lapp A [maskE A o.after.toList])
def hasN (d : Nat) : List Nat → Bool
  | [] => false
  | x :: l => bif Nat.beq x d then true else hasN d l
def apartE (ops : Array Oper) (A : List Nat) (i : Nat) (d : Nat) : List Oper → Nat → Bool
  | [], _ => true
  | o :: l, j => (bif Nat.beq i j then true else
      (match o.dst with
        | some d' => !Nat.beq d' d
        | none => true) && (bif hasN d (o.looksAt ops) then tbQ (ogetN (lget A i)) j || tbQ (ogetN (lget A j)) i else true)) && apartE ops A i d l (Nat.succ j)
def backE (i : Nat) : List Edge → Bool
  | [] => true
  | e :: l => (bif bindsQ e then Nat.ble (Nat.succ e.on) i else true) && backE i l
def stE (ops : Array Oper) (A : List Nat) : List Oper → Nat → Bool
  | [], _ => true
  | o :: l, i => backE i o.after.toList && (match o.dst with
      | some d => apartE ops A i d ops.toList 0
      | none => true) && stE ops A l (Nat.succ i)
def stOK (ops : Array Oper) : Bool := stE ops (ancsE ops.toList []) ops.toList 0

def evL (L : List Tmp) (f : Frm) (x : Operand) : Option V :=
  match x with
  | .tmp t => bif hasN t L then some (f.get t) else none
  | .const v => ofVal v
  | .global _ => none
  | .func g => some (.fn g [] [])

structure DRec where
  i : Nat
  o : Oper
  f : Frm
  s : St
  v : V
  q : Bool
  eff : Option St
  mb : Option Nat

def mkQ (ev : Operand → Option V) (op : Op) : Option Mk :=
  match op with
  | .alloc t => mAlloc P t
  | .box t x => match ev x with
    | some v => mBox t v
    | none => none
  | .buildSlice t len parts => match evalParts ev parts.toList with
    | some ps => mBuildSlice P t len ps
    | none => none
  | .makeSlice t l c => match ev l, ev c with
    | some lv, some cv => mMakeSlice P t lv cv
    | _, _ => none
  | _ => none
def Mk.isAt (m : Mk) (o : Option EObj) : Bool :=
  match m with
  | .mk cs t _ => match o with
    | some (.cells cs' t' false) => bif Nat.beq t t' then sameL cs cs' else false
    | _ => false
def qopM (mb : Option Nat) (s : St) (ev : Operand → Option V) (op : Op) : Option V :=
  match mb with
  | none => qop P s ev op
  | some b => match mkQ P ev op with
    | some m => bif m.isAt (s.heap.get b) then some (m.val b) else none
    | none => none
def findM (i : Nat) : List (Nat × Nat) → Option Nat
  | [] => none
  | e :: l => bif Nat.beq e.1 i then some e.2 else findM i l
def doneAll (D : Nat) : List Edge → Bool
  | [] => true
  | e :: l => (bif bindsQ e then tbQ D e.on else true) && doneAll D l
def preRun (ops : Array Oper) : List Oper → Nat → Frm → St → Nat → List (Nat × Nat) → St × List (Nat × Nat)
  | [], _, _, s, _, M => (s, M)
  | o :: l, i, f, s, D, M =>
    bif doneAll D o.after.toList then
      bif wantedE (guardOf ops o) f then
        match qop P s (evL (o.looksAt ops) f) o.op with
        | some v => preRun ops l (Nat.succ i) (putE f o.dst v) s (Nat.lor D (Nat.pow 2 i)) M
        | none => match mkQ P (evL (o.looksAt ops) f) o.op with
          | some m => preRun ops l (Nat.succ i) (putE f o.dst (m.val s.next)) (s.new m.obj) (Nat.lor D (Nat.pow 2 i)) ((i, s.next) :: M)
          | none => preRun ops l (Nat.succ i) f s D M
      else preRun ops l (Nat.succ i) (putE f o.dst .undef) s (Nat.lor D (Nat.pow 2 i)) M
    else preRun ops l (Nat.succ i) f s D M
def loudOp (op : Op) : Bool :=
  match op with
  | .alloc _ | .box .. | .buildSlice .. | .insert .. | .store .. | .makeMap .. | .makeSlice .. | .mapUpdate .. | .mapEntry .. | .entryStore .. | .panic .. => true
  | .call c => match c.callee with
    | .builtin b => match b with
      | .append | .copy | .delete | .clear => true
      | _ => false
    | _ => true
  | _ => false
def effIdx : List Oper → Nat → List (Nat × St)
  | [], _ => []
  | o :: l, i => bif loudOp o.op then (i, ⟨.leaf, 0⟩) :: effIdx l (Nat.succ i) else effIdx l (Nat.succ i)

def opOut (self : ESelf) : Option (EOut × St) → Option (V × St)
  | some (.val v, s) => some (v, s)
  | some (.skip, s) => some (.undef, s)
  | some (.enter t, s) => match self t s with
    | some (.ret v, s') => some (v, s')
    | _ => none
  | _ => none
def drawStep (self : ESelf) (ops : Array Oper) (mb : Option Nat) (i : Nat) (o : Oper) (f : Frm) (s : St) : Option DRec :=
  bif wantedE (guardOf ops o) f then
    match qopM P mb s (evL (o.looksAt ops) f) o.op with
    | some v => some ⟨i, o, f, s, v, true, none, mb⟩
    | none => match mb with
      | some _ => none
      | none => match opOut self (eop P s (evL (o.looksAt ops) f) o.op) with
        | some (v, s') => some ⟨i, o, f, s, v, false, some s', none⟩
        | none => none
  else some ⟨i, o, f, s, .undef, false, none, mb⟩
def orS (s : St) : Option St → St
  | some s' => s'
  | none => s
def drawRun (self : ESelf) (ops : Array Oper) (M : List (Nat × Nat)) : List Oper → Nat → Frm → St → Option (List DRec)
  | [], _, _, _ => some []
  | o :: l, i, f, s => match drawStep P self ops (findM i M) i o f s with
    | some r => match drawRun self ops M l (Nat.succ i) (putE f o.dst r.v) (orS s r.eff) with
      | some R => some (r :: R)
      | none => none
    | none => none
def effs : List DRec → List (Nat × St)
  | [] => []
  | r :: l => match r.eff with
    | some s => (r.i, s) :: effs l
    | none => effs l
def lastS (s : St) : List (Nat × St) → St
  | [] => s
  | e :: l => lastS e.2 l
def anyB (m : Nat) : List (Nat × St) → Bool
  | [] => false
  | e :: l => bif tbQ m e.1 then true else anyB m l
def chkE (ops : Array Oper) (A : List Nat) (r : DRec) (s : St) : List (Nat × St) → Bool
  | [] => (match qopM P r.mb s (evL (r.o.looksAt ops) r.f) r.o.op with
      | some v => v.same r.v
      | none => false)
  | e :: l => (bif anyB (ogetN (lget A r.i)) (e :: l) then true else match qopM P r.mb s (evL (r.o.looksAt ops) r.f) r.o.op with
      | some v => v.same r.v
      | none => false) && (bif tbQ (ogetN (lget A e.1)) r.i then true else chkE ops A r e.2 l)
def chainE (A : List Nat) : List (Nat × St) → Bool
  | [] => true
  | e :: l => beforeE A e.1 l && chainE A l
where beforeE (A : List Nat) (i : Nat) : List (Nat × St) → Bool
  | [] => true
  | e :: l => tbQ (ogetN (lget A e.1)) i && beforeE A i l
def chkAll (ops : Array Oper) (A : List Nat) (s : St) (E : List (Nat × St)) : List DRec → Bool
  | [] => true
  | r :: l => (bif r.q then chkE P ops A r s E else true) && chkAll ops A s E l
def finF (f : Frm) : List DRec → Frm
  | [] => f
  | r :: l => finF (putE f r.o.dst r.v) l
def opPan (self : ESelf) : Option (EOut × St) → Option (V × St)
  | some (.pan v, s) => some (v, s)
  | some (.enter t, s) => match self t s with
    | some (.pan v, s') => some (v, s')
    | _ => none
  | _ => none
def panTail (ops : Array Oper) (M : List (Nat × Nat)) (A : List Nat) (ip : Nat) : List Oper → Nat → Frm → St → Option (List DRec)
  | [], _, _, _ => some []
  | o :: l, i, f, s => bif tbQ (ogetN (lget A i)) ip then (match panTail ops M A ip l (Nat.succ i) (putE f o.dst .undef) s with
      | some R => some (⟨i, o, f, s, .undef, false, none, none⟩ :: R)
      | none => none) else match drawStep P (fun _ _ => none) ops (findM i M) i o f s with
      | some r => match r.eff with
        | none => match panTail ops M A ip l (Nat.succ i) (putE f o.dst r.v) s with
          | some R => some (r :: R)
          | none => none
        | some _ => none
      | none => none
def panRun (self : ESelf) (ops : Array Oper) (M : List (Nat × Nat)) (A : List Nat) : List Oper → Nat → Frm → St → Option (List DRec × Nat × V × St)
  | [], _, _, _ => none
  | o :: l, i, f, s => match drawStep P self ops (findM i M) i o f s with
    | some r => match panRun self ops M A l (Nat.succ i) (putE f o.dst r.v) (orS s r.eff) with
      | some (R, x) => some (r :: R, x)
      | none => none
    | none => bif wantedE (guardOf ops o) f then (match findM i M with
      | some _ => none
      | none => match opPan self (eop P s (evL (o.looksAt ops) f) o.op) with
        | some (v, s') => match panTail P ops M A i l (Nat.succ i) (putE f o.dst .undef) s with
          | some R => some (⟨i, o, f, s, .undef, false, none, none⟩ :: R, i, v, s')
          | none => none
        | none => none) else none
def allAfter (m : Nat) : List (Nat × St) → Bool
  | [] => true
  | e :: l => tbQ m e.1 && allAfter m l
def anyF (f : Frm) : List Oper → Frm
  | [] => f
  | o :: l => anyF (putE f o.dst .any) l
def drawP (self : ESelf) (ops : Array Oper) (M : List (Nat × Nat)) (c : Cfg) (s0 : St) : Option (EExit × Cfg) :=
  match panRun P self ops M (ancsE ops.toList []) ops.toList 0 c.tmps s0 with
  | some (R, ip, v, s') => bif chainE (ancsE ops.toList []) (effs R) && (allAfter (ogetN (lget (ancsE ops.toList []) ip)) (effs R) && chkAll P ops (ancsE ops.toList []) s0 (effs R) R) then
      some (.pan v, ⟨anyF c.tmps ops.toList, c.defers, s'⟩) else none
  | none => none
def preM (ops : Array Oper) (f : Frm) (s : St) : St × List (Nat × Nat) :=
  bif chainE (ancsE ops.toList []) (effIdx ops.toList 0) then (s, []) else preRun P ops ops.toList 0 f s 0 []
def drawE (self : ESelf) (ops : Array Oper) (c : Cfg) : Option (EExit × Cfg) :=
  bif P.follows .mixedOrders && stOK ops then
    match preM P ops c.tmps c.st with
    | (s0, M) =>
      match drawRun P self ops M ops.toList 0 c.tmps s0 with
      | some R => bif chainE (ancsE ops.toList []) (effs R) && chkAll P ops (ancsE ops.toList []) s0 (effs R) R then
          some (.normal, ⟨finF c.tmps R, c.defers, lastS s0 (effs R)⟩) else none
      | none => drawP P self ops M c s0
  else none

def hasDefer : List Oper → Bool
  | [] => false
  | o :: l => match o.op with
    | .defer _ => true
    | _ => hasDefer l
def dferE : List Oper → Cfg → Option (EExit × Cfg)
  | [], c => some (.normal, c)
  | o :: l, c => match o.guard with
    | some _ => none
    | none => match o.op with
      | .defer cl => match cl.callee with
        | .value f => match evF c.tmps f, evalOs (evF c.tmps) cl.args.toList with
          | some (.fn g first cap), some vs => bif bodyOK P g then dferE l ⟨putE c.tmps o.dst .undef, .call g (lapp first vs) cap :: c.defers, c.st⟩ else none
          | _, _ => none
        | _ => none
      | op => match qop P c.st (evF c.tmps) op with
        | some v => dferE l ⟨putE c.tmps o.dst v, c.defers, c.st⟩
        | none => none
def regionE (self : ESelf) (round : Option Nat) (ops : Array Oper) (draw : Bool) (c : Cfg) : Option (EExit × Cfg) :=
  match draw with
  | false => bif hasDefer ops.toList then (match round with
      | none => dferE P ops.toList c
      | some _ => none) else runOps self (compOps P ops ops.toList) c
  | true => drawE P self ops c
inductive CodeF where
  | mk (f : Cfg → Option (EExit × Cfg))
def runF (f : CodeF) (c : Cfg) : Option (EExit × Cfg) := match f with | .mk f => f c
def compC (self : ESelf) (fuel : Nat) (round : Option Nat) (x : Code) : CodeF :=
  @Code.rec (fun _ => CodeF)
    (.mk fun c => some (.normal, c))
    (fun _ ops draw => .mk (regionE P self round ops draw))
    (fun _ _ ia ib => .mk (seqE (runF ia) (runF ib)))
    (fun x _ _ ia ib => .mk (condE x (runF ia) (runF ib)))
    (fun id _ ib => .mk (blockE id (runF ib)))
    (fun _ ib => .mk (iterE (runF ib) fuel))
    (fun f ps assign body _ _ => .mk (rangeE P self round f ps assign body))
    (fun id => .mk fun c => some (.exit id, c))
    (fun _ ib => .mk (runF ib))
    (fun _ => .mk fun c => some (.normal, c))
    (fun _ => .mk fun _ => none)
    (.mk fun c => some (.ret, c))
    (fun _ => .mk fun _ => none) x
def runCode (self : ESelf) (fuel : Nat) (round : Option Nat) (x : Code) (c : Cfg) : Option (EExit × Cfg) := runF (compC P self fuel round x) c

def setParams : Frm → List Tmp → List V → Frm
  | t, p :: ps, v :: vs => setParams (putE t (some p) v) ps vs
  | t, _, _ => t

def runRound (self : ESelf) (fuel : Nat) (l : Nat) (args : List V) (s : St) : Option (EEnd × St) :=
  match s.heap.get l with
  | some (.loop r) =>
    match runCode P self fuel (some l) r.assign ⟨setParams r.tmps r.params args, [], s⟩ with
    | some (.normal, c1) => match c1.st.heap.get l with
      | some (.loop r1) => match r1.state with
        | .ready =>
          match runCode P self fuel (some l) r.body ⟨c1.tmps, c1.defers, c1.st.upd l (.loop { r1 with state := .busy })⟩ with
          | some (e, c2) => match c2.st.heap.get l with
            | some (.loop r2) => match e with
              | .normal => some (.ret (.bool true), c2.st.upd l (.loop { r2 with state := .ready, pending := none }))
              | .ret => some (.ret (.bool false), c2.st.upd l (.loop { r2 with state := .done, pending := some .ret }))
              | .exit id => some (.ret (.bool false), c2.st.upd l (.loop { r2 with state := .done, pending := some (.exit id) }))
              | .pan _ => none
            | _ => none
          | none => none
        | _ => none
      | _ => none
    | _ => none
  | _ => none

def resultsE (s : St) (f : Frm) : List ResultVar → Option (List V)
  | [] => some []
  | .tmp t :: l => match resultsE s f l with
    | some r => match f.get t with
      | .any => none
      | v => some (v :: r)
    | none => none
  | .cell a t :: l => match qLoad P s t (f.get a) with
    | some v => match resultsE s f l with
      | some r => some (v :: r)
      | none => none
    | none => none
def resultE (s : St) (f : Frm) (rs : List ResultVar) : Option V :=
  match resultsE P s f rs with
  | some [v] => some v
  | some l => some (match l with | [] => .undef | _ => .tup l)
  | none => none

abbrev DM := Option (V × Bool)
inductive DCodeF where
  | mk (f : Cfg → DM → Option (EExit × Cfg × DM))
def runD (f : DCodeF) (c : Cfg) (m : DM) : Option (EExit × Cfg × DM) := match f with | .mk f => f c m
def withD (m : DM) : Option (EExit × Cfg) → Option (EExit × Cfg × DM)
  | some (.pan _, _) => none
  | some (e, c) => some (e, c, m)
  | none => none
def isRec : Op → Bool
  | .call cl => match cl.callee with
    | .builtin .recover => cl.args.isEmpty
    | _ => false
  | _ => false
def hasRec : List Oper → Bool
  | [] => false
  | o :: l => bif isRec o.op then true else hasRec l
def recE : List Oper → Cfg → DM → Option (EExit × Cfg × DM)
  | [], c, m => some (.normal, c, m)
  | o :: l, c, m => match o.guard with
    | some _ => none
    | none => bif isRec o.op then (match m with
        | some (v, false) => recE l ⟨putE c.tmps o.dst v, c.defers, c.st⟩ (some (v, true))
        | m => recE l ⟨putE c.tmps o.dst .nili, c.defers, c.st⟩ m) else
      match qop P c.st (evF c.tmps) o.op with
        | some v => recE l ⟨putE c.tmps o.dst v, c.defers, c.st⟩ m
        | none => none
def seqD (a b : Cfg → DM → Option (EExit × Cfg × DM)) (c : Cfg) (m : DM) : Option (EExit × Cfg × DM) :=
  match a c m with
  | some (.normal, c', m') => b c' m'
  | r => r
def condD (x : Operand) (a b : Cfg → DM → Option (EExit × Cfg × DM)) (c : Cfg) (m : DM) : Option (EExit × Cfg × DM) :=
  match evF c.tmps x with
  | some (.bool true) => a c m
  | some (.bool false) => b c m
  | _ => none
def compD (self : ESelf) (fuel : Nat) (x : Code) : DCodeF :=
  @Code.rec (fun _ => DCodeF)
    (.mk fun c m => withD m (runCode P self fuel none .skip c))
    (fun id ops draw => .mk fun c m => match draw with
      | false => bif hasRec ops.toList then recE P ops.toList c m else withD m (runCode P self fuel none (.region id ops false) c)
      | true => withD m (runCode P self fuel none (.region id ops true) c))
    (fun _ _ ia ib => .mk (seqD (runD ia) (runD ib)))
    (fun x _ _ ia ib => .mk (condD x (runD ia) (runD ib)))
    (fun id b _ => .mk fun c m => withD m (runCode P self fuel none (.block id b) c))
    (fun b _ => .mk fun c m => withD m (runCode P self fuel none (.loop b) c))
    (fun f ps assign body _ _ => .mk fun c m => withD m (runCode P self fuel none (.rangeFunc f ps assign body) c))
    (fun id => .mk fun c m => withD m (runCode P self fuel none (.exit id) c))
    (fun b _ => .mk fun c m => withD m (runCode P self fuel none (.scope b) c))
    (fun l => .mk fun c m => withD m (runCode P self fuel none (.label l) c))
    (fun l => .mk fun c m => withD m (runCode P self fuel none (.goto l) c))
    (.mk fun c m => withD m (runCode P self fuel none .ret c))
    (fun why => .mk fun c m => withD m (runCode P self fuel none (.refuse why) c)) x
def runDef (self : ESelf) (fuel : Nat) (g : FuncId) (args : List V) (m : DM) (s : St) : Option (DM × St) :=
  match P.funcs[g]? with
  | some fn => match fn.body with
    | some c => bif !(Nat.ble (llen args) fn.ntmps && Nat.ble fn.ntmps 4096) then none else match runD (compD P self fuel c) ⟨mkFrm fn.ntmps args, [], s⟩ m with
      | some (e, c', m') => match e with
        | .normal | .ret => match c'.defers with
          | [] => match resultE P c'.st c'.tmps fn.results.toList with
            | some _ => some (m', c'.st)
            | none => none
          | _ :: _ => none
        | _ => none
      | none => none
    | none => none
  | none => none
def settleE : DM → DM
  | some (_, true) => none
  | m => m

def leaveE (self : ESelf) (fuel : Nat) (fn : Func) (tmps : Frm) (pan : DM) : List EDef → St → Option (EEnd × St)
  | [], s => match pan with
    | some (v, false) => some (.pan v, s)
    | some (_, true) => none
    | none => match resultE P s tmps fn.results.toList with
      | some v => some (.ret v, s)
      | none => none
  | .mark r :: ds, s => match s.heap.get r with
    | some (.dfr false) => leaveE self fuel fn tmps pan ds (s.upd r (.dfr true))
    | _ => none
  | .call g args cap :: ds, s => bif bodyOK P g then (match runDef P self fuel g (lapp args cap) pan s with
    | some (m, s') => leaveE self fuel fn tmps (settleE m) ds s'
    | none => none) else none

def runFn (self : ESelf) (fuel : Nat) (f : FuncId) (args : List V) (s : St) : Option (EEnd × St) :=
  match P.funcs[f]? with
  | some fn => match fn.body with
    | some c => bif !(Nat.ble (llen args) fn.ntmps && Nat.ble fn.ntmps 4096) then none else match runCode P self fuel none c ⟨mkFrm fn.ntmps args, [], s⟩ with
      | some (.normal, c') => leaveE P self fuel fn c'.tmps none c'.defers c'.st
      | some (.ret, c') => leaveE P self fuel fn c'.tmps none c'.defers c'.st
      | some (.pan v, c') => leaveE P self fuel fn c'.tmps (some (v, false)) c'.defers c'.st
      | _ => none
    | none => none
  | none => none

def runT (self : ESelf) (fuel : Nat) : ESelf
  | .fn f args, s => runFn P self fuel f args s
  | .round l args, s => runRound P self fuel l args s

def callE (known : ESelf) (fuel : Nat) (d : Nat) : ESelf :=
  @Nat.rec (fun _ => ESelf) (fun _ _ => none) (fun _ ih t s => match known t s with
    | some r => some r
    | none => runT P ih fuel t s) d
end
end Go.Eng
end

section
namespace Go.Eng
open Go.RowKit (Below)
set_option linter.unusedSimpArgs false
set_option linter.unusedVariables false

def DRel (ρ : Env) : List EDef → List Deferred → Prop
  | [], D => D = []
  | .mark r :: l, D => ∃ x Y, ρ r = some x ∧ D = { target := .collected x.B, args := #[] } :: Y ∧ DRel ρ l Y
  | .call f a c :: l, D => ∃ (A C : Array Value) (Y : List Deferred), D = { target := .fn (.func f) C, args := A } :: Y ∧ LRel ρ a A.toList ∧ LRel ρ c C.toList ∧ DRel ρ l Y
theorem DRel.up {ρ ρ' : Env} (h : ρ.sub ρ') : ∀ {l : List EDef} {D : List Deferred}, DRel ρ l D → DRel ρ' l D
  | [], _, r => r
  | .mark _ :: _, _, r => by obtain ⟨x, Y, h1, h2, h3⟩ := r; exact ⟨x, Y, h _ _ h1, h2, h3.up h⟩
  | .call .. :: _, _, r => by obtain ⟨A, C, Y, h1, h2, h3, h4⟩ := r; exact ⟨A, C, Y, h1, LRel.up h _ _ h2, LRel.up h _ _ h3, h4.up h⟩
theorem DRel.mono {ρ ρ' : Env} (h : ρ.le ρ') {l : List EDef} {D : List Deferred} (r : DRel ρ l D) : DRel ρ' l D := DRel.up h.sub r

def XRel (ρ : Env) : EExit → Exit → Prop
  | .normal, E => E = .normal
  | .exit id, E => E = .exit id
  | .ret, E => E = .ret
  | .pan v, E => ∃ X, E = .panic [{ v := X, recovered := false }] ∧ VRel ρ v X
def NRel (ρ : Env) : EEnd → Ending → Prop
  | .ret v, E => ∃ X, E = .returned X ∧ VRel ρ v X
  | .pan v, E => ∃ X, E = .panicked [{ v := X, recovered := false }] ∧ VRel ρ v X

def RF (round : Option Nat) : Fence := { Fence.wide with round := round }
theorem RF_fn (r : Option Nat) (f : FuncId) : (RF r).fn f := trivial
theorem RF_depth (r : Option Nat) : (RF r).depth = none := rfl

def Post (base : Nat) (ρ : Env) (w : World) (e : EEnd) (s' : St) : Ending → World → Prop :=
  fun E w' => ∃ ρ', ρ.le ρ' ∧ NRel ρ' e E ∧ SRel base ρ' s' w' ∧ Below base w w'
def FX (ρ : Env) (e : EExit) (f : Frm) (A : Array Value) : Prop :=
  match e with
  | .pan _ => FRelA ρ f A
  | _ => FRel ρ f A
theorem FRel.toX {ρ : Env} {f : Frm} {A : Array Value} (r : FRel ρ f A) : ∀ e, FX ρ e f A
  | .pan _ => r.toA
  | .normal => r
  | .exit _ => r
  | .ret => r
def CPost (base : Nat) (ρ : Env) (w : World) (e : EExit) (c' : Cfg) : Exit → Act → World → Prop :=
  fun E A' w' => ∃ ρ', ρ.le ρ' ∧ XRel ρ' e E ∧ FX ρ' e c'.tmps A'.tmps ∧ DRel ρ' c'.defers A'.defers ∧ SRel base ρ' c'.st w' ∧ Below base w w'

def SelfOK (P : Program) (self : ESelf) : Prop := ∀ t s e s', self t s = some (e, s') → ∀ base ρ w, SRel base ρ s w → ∀ n : Nat,
  match t with
  | .fn f args => ∀ A : Array Value, LRel ρ args A.toList → CallsIn Fence.wide n P f A w (Post base ρ w e s')
  | .round l args => ∀ (x : Blk) (L : Loop) (A : Array Value), ρ l = some x → w.heap[x.B]? = some (.loop L) → LRel ρ args A.toList → A.size = L.params.size →
      RoundIn Fence.wide n P x.B L.fn ((L.params.zip A).foldl (fun tmps (t, a) => tmps.setIfInBounds t a) L.tmps) L.assign L.body w (Post base ρ w e s')

def NextRel (base : Nat) (ρ : Env) (s : St) (w : World) (s' : St) (r : Result Next) : EOut → Prop
  | .val v => ∃ ρ' X w', ρ.le ρ' ∧ r = .ok (.value X) w' ∧ VRel ρ' v X ∧ SRel base ρ' s' w' ∧ Below base w w'
  | .skip => ∃ w', r = .ok .skip w' ∧ SRel base ρ s' w' ∧ Below base w w'
  | .pan v => s' = s ∧ ∃ X, r = .halt (.panic X) w ∧ VRel ρ v X
  | .enter (.fn f args) => s' = s ∧ ∃ A, r = .ok (.enter f A) w ∧ LRel ρ args A.toList
  | .enter (.round l args) => s' = s ∧ ∃ (x : Blk) (L : Loop) (A : Array Value), ρ l = some x ∧ w.heap[x.B]? = some (.loop L) ∧ LRel ρ args A.toList ∧ A.size = L.params.size ∧
      r = .ok (.round x.B L.fn ((L.params.zip A).foldl (fun tmps (t, a) => tmps.setIfInBounds t a) L.tmps) L.assign L.body) w

section
variable {P : Program} {base : Nat} {ρ : Env} {s : St} {w : World}

theorem FRel.get {f : Frm} {A : Array Value} (h : FRel ρ f A) (k : Nat) : VRel ρ (f.get k) (A.getD k undef) := by
  obtain ⟨h1, d, h2, h3, h4⟩ := h
  rw [Frm.get_eq, blt_iff, Array.getD_eq_getD_getElem?]
  by_cases hk : k < f.n
  · rw [decide_eq_true hk]
    have hk' : k < A.size := by omega
    have := h4 k A[k] (Array.getElem?_eq_getElem hk')
    rw [Array.getElem?_eq_getElem hk']
    exact this
  · rw [decide_eq_false hk]
    have hk' : A.size ≤ k := by omega
    rw [Array.getElem?_eq_none hk']
    show VRel ρ .undef (.tuple #[])
    simp only [VRel]

theorem evF_rel {f : Frm} {A : Act} (h : FRel ρ f A.tmps) : EvRel ρ (evF f) A := by
  intro x v hv
  cases x with
  | tmp t =>
    have hv : some (f.get t) = some v := hv
    cases hv
    exact h.get t
  | const c => exact ofVal_rel hv
  | global g => cases hv
  | func g =>
    have hv : some (V.fn g [] []) = some v := hv
    cases hv
    simp only [VRel, Act.eval]
    exact ⟨#[], #[], rfl, rfl, rfl⟩

theorem FRel.set {f : Frm} {A : Array Value} (h : FRel ρ f A) {v : V} {X : Value} (hv : VRel ρ v X) (k : Nat) : FRel ρ (putE f (some k) v) (A.setIfInBounds k X) := by
  obtain ⟨h1, d, h2, h3, h4⟩ := h
  rw [putE_some, blt_iff]
  by_cases hk : k < f.n
  · rw [decide_eq_true hk]
    refine ⟨by simpa using h1, d, B.set_full _ _ _ _ h2, h3, fun i Y hi => ?_⟩
    show VRel ρ ((B.set v f.t k).get i) Y
    have hi' : i < A.size := by
      have := (Array.getElem?_eq_some_iff.1 hi).1
      simpa using this
    rw [B.get_set v f.t d k i h2 (by omega) (by omega)]
    rw [Array.getElem?_setIfInBounds] at hi
    by_cases e : k = i
    · subst e
      simp only [if_true, hi'] at hi
      cases hi
      simpa using hv
    · rw [if_neg e] at hi
      rw [if_neg (fun e' => e e'.symm)]
      exact h4 i Y hi
  · rw [decide_eq_false hk]
    have : A.setIfInBounds k X = A := by
      apply Array.ext_getElem?
      intro i
      rw [Array.getElem?_setIfInBounds]
      split
      · rename_i e; subst e
        rw [if_neg (by omega), Array.getElem?_eq_none (by omega)]
      · rfl
    rw [this]
    exact ⟨h1, d, h2, h3, h4⟩
theorem putE_rel {f : Frm} {A : Act} (h : FRel ρ f A.tmps) {v : V} {X : Value} (hv : VRel ρ v X) (d : Option Tmp) : FRel ρ (putE f d v) (A.put d X).tmps := by
  cases d with
  | none => exact h
  | some k => exact h.set hv k
theorem put_defers (A : Act) (d : Option Tmp) (X : Value) : (A.put d X).defers = A.defers := by cases d <;> rfl

theorem wanted_rel {f : Frm} {A : Act} (h : FRel ρ f A.tmps) (ops : Array Oper) (o : Oper) : wantedE (guardOf ops o) f = Region.wanted o (yielded ops A.tmps) := by
  unfold guardOf Region.wanted
  cases hg : o.guard with
  | none => rfl
  | some p =>
    obtain ⟨j, want⟩ := p
    simp only
    cases ho : ops[j]? with
    | none => simp [wantedE, yielded, ho]
    | some o' =>
      simp only
      cases hd : o'.dst with
      | none => simp [wantedE, yielded, ho, hd]
      | some d =>
        obtain ⟨h1, dd, h2, h3, h4⟩ := h
        simp only [wantedE, yielded, ho, hd, Option.bind_some, Frm.get_eq, blt_iff]
        by_cases hk : d < f.n
        · rw [decide_eq_true hk]
          have hk' : d < A.tmps.size := h1 ▸ hk
          have hv := h4 d A.tmps[d] (Array.getElem?_eq_getElem hk')
          rw [Array.getElem?_eq_getElem hk']
          simp only [cond_true]
          generalize A.tmps[d] = X at hv
          generalize f.t.get d = v at hv
          cases v <;> simp only [VRel] at hv
          case bool b => subst hv; cases want <;> cases b <;> rfl
          all_goals first
            | (subst hv; rfl)
            | (obtain ⟨_, _, _, _, rfl⟩ := hv; rfl)
            | (obtain ⟨_, _, _, _, _, rfl, _⟩ := hv; rfl)
            | (obtain ⟨_, _, rfl⟩ := hv; rfl)
            | (obtain ⟨_, _, rfl, _⟩ := hv; rfl)
            | (obtain ⟨_, rfl, _⟩ := hv; rfl)
        · rw [decide_eq_false hk]
          have hk' : A.tmps.size ≤ d := Nat.le_of_not_lt (h1 ▸ hk)
          rw [Array.getElem?_eq_none hk']
          rfl

theorem outV_some {x : Option (V × St)} {o : EOut} {s' : St} (h : outV x = some (o, s')) : ∃ v, x = some (v, s') ∧ o = .val v := by
  cases x with
  | none => cases h
  | some p => obtain ⟨v, t⟩ := p; cases h; exact ⟨v, rfl, rfl⟩
theorem outS_some {x : Option St} {o : EOut} {s' : St} (h : outS x = some (o, s')) : x = some s' ∧ o = .skip := by
  cases x with
  | none => cases h
  | some p => cases h; exact ⟨rfl, rfl⟩

theorem NextRel.ofV {m : Sem Value} {v : V} {s' : St} (h : OKv P base ρ m w v s') : NextRel base ρ s w s' ((do pure (.value (← m)) : Sem Next).run P w) (.val v) := by
  obtain ⟨ρ', X, w', h1, h2, h3⟩ := h
  exact ⟨ρ', X, w', h1, by simp [h2], h3⟩
theorem NextRel.ofU {m : Sem Unit} {s' : St} (h : ∃ w', m.run P w = .ok () w' ∧ SRel base ρ s' w' ∧ Below base w w') : NextRel base ρ s w s' ((do m; pure .skip : Sem Next).run P w) .skip := by
  obtain ⟨w', h1, h2, h3⟩ := h
  exact ⟨w', by simp [h1], h2, h3⟩

theorem bodyOK_spec {f : FuncId} (h : bodyOK P f = true) : ∃ fn, P.funcs[f]? = some fn ∧ (fn.name == "runtime.NumGoroutine") = false ∧ fn.body.isNone = false := by
  unfold bodyOK at h
  split at h
  · rename_i fn hf
    simp only [Bool.and_eq_true, Bool.not_eq_true'] at h
    refine ⟨fn, hf, h.1, ?_⟩
    cases hb : fn.body with
    | none => rw [hb] at h; cases h.2
    | some c => rfl
  · cases h

theorem run_callFunc {f : FuncId} (h : bodyOK P f = true) (A : Array Value) : (callFunc f A).run P w = .ok (.enter f A) w := by
  obtain ⟨fn, h1, h2, h3⟩ := bodyOK_spec h
  simp only [callFunc, Sem.run_bind, run_program, Result.andThen_ok, h1, h2, h3, Bool.false_eq_true, if_false, Sem.run_pure]

theorem arr2 {A : Array Value} {X Y : Value} (h : A.toList = [X, Y]) : A = #[X, Y] := by cases A; simp at h; simp [h]

theorem eBuiltin_rel (h : SRel base ρ s w) {b : Builtin} {ts : Array TypeId} {vs : List V} {v : V} {s' : St} (hq : eBuiltin P s b ts vs = some (v, s')) {A : Array Value} (ha : LRel ρ vs A.toList) (ty : TypeId) (cs : Array Bool) :
    NextRel base ρ s w s' ((Go.builtin b ts ty cs A).run P w) (.val v) := by
  unfold eBuiltin at hq
  split at hq
  · obtain ⟨X, _, e, h1, Y, _, rfl, h2, h3⟩ := ha
    have h3 : _ = [] := h3
    subst h3
    obtain rfl := arr2 e
    exact NextRel.ofV (eAppend_rel h hq h1 h2)
  · obtain ⟨X, _, e, h1, Y, _, rfl, h2, h3⟩ := ha
    have h3 : _ = [] := h3
    subst h3
    obtain rfl := arr2 e
    exact NextRel.ofV (eCopy_rel h hq h1 h2)
  · obtain ⟨X, _, e, h1, Y, _, rfl, h2, h3⟩ := ha
    have h3 : _ = [] := h3
    subst h3
    obtain rfl := arr2 e
    exact NextRel.ofV (eDelete_rel h hq h1 h2)
  · obtain ⟨X, _, e, h1, h3⟩ := ha
    have h3 : _ = [] := h3
    subst h3
    obtain rfl := arr1 e
    exact NextRel.ofV (eClear_rel h hq h1)
  · cases hq

theorem MkOK.next {m : Sem Value} {k : Mk} (h : MkOK P ρ m w k) : MkOK P ρ m w k ∧ ∀ X w', m.run P w = .ok X w' → (do pure (.value (← m)) : Sem Next).run P w = .ok (.value X) w' :=
  ⟨h, fun X w' e => by simp [e]⟩
theorem mkQ_rel {ev : Operand → Option V} {A : Act} (hA : EvRel ρ ev A) {o : Oper} {k : Mk} (hq : mkQ P ev o.op = some k) :
    ∃ m : Sem Value, (∀ X w', m.run P w = .ok X w' → (execOp A.eval o).run P w = .ok (.value X) w') ∧ MkOK P ρ m w k := by
  unfold mkQ at hq
  unfold execOp
  split at hq <;> rename_i heq <;> simp only [heq]
  · have := (mAlloc_rel (ρ := ρ) (w := w) hq).next; exact ⟨_, this.2, this.1⟩
  · split at hq
    · rename_i hx
      have := (mBox_rel (P := P) (w := w) hq (hA _ _ hx)).next; exact ⟨_, this.2, this.1⟩
    · cases hq
  · split at hq
    · rename_i hx
      have := (mBuildSlice_rel (w := w) hq (by rw [map_toList]; exact evalParts_rel hA hx)).next; exact ⟨_, this.2, this.1⟩
    · cases hq
  · split at hq
    · rename_i h1 h2
      have := (mMakeSlice_rel (w := w) hq (hA _ _ h1) (hA _ _ h2)).next; exact ⟨_, this.2, this.1⟩
    · cases hq
  · cases hq

theorem eop_rel (h : SRel base ρ s w) {ev : Operand → Option V} {A : Act} (hA : EvRel ρ ev A) {o : Oper} {out : EOut} {s' : St} (hq : eop P s ev o.op = some (out, s')) :
    NextRel base ρ s w s' ((execOp A.eval o).run P w) out := by
  unfold eop at hq
  unfold execOp
  split at hq <;> rename_i heq <;> simp only [heq]
  · obtain ⟨v, h1, rfl⟩ := outV_some hq
    exact NextRel.ofV (eAlloc_rel h h1)
  · split at hq
    · rename_i hx
      obtain ⟨v, h1, rfl⟩ := outV_some hq
      exact NextRel.ofV (eBox_rel h h1 (hA _ _ hx))
    · cases hq
  · split at hq
    · rename_i hx
      obtain ⟨v, h1, rfl⟩ := outV_some hq
      exact NextRel.ofV (eBuildSlice_rel h h1 (by rw [map_toList]; exact evalParts_rel hA hx))
    · cases hq
  · split at hq
    · rename_i h1 h2
      obtain ⟨h3, rfl⟩ := outS_some hq
      exact NextRel.ofU (eStore_rel h h3 (hA _ _ h1) (hA _ _ h2))
    · cases hq
  · split at hq
    · rename_i hx
      obtain ⟨v, h1, rfl⟩ := outV_some hq
      exact NextRel.ofV (eBytes_rel h h1 (hA _ _ hx))
    · cases hq
  · split at hq
    · rename_i hx
      obtain ⟨v, h1, rfl⟩ := outV_some hq
      exact NextRel.ofV (eMakeMap_rel h h1 (optO_rel hA hx))
    · cases hq
  · split at hq
    · rename_i h1 h2
      obtain ⟨v, h3, rfl⟩ := outV_some hq
      exact NextRel.ofV (eMakeSlice_rel h h3 (hA _ _ h1) (hA _ _ h2))
    · cases hq
  · split at hq
    · rename_i h1 h2 h3
      obtain ⟨h4, rfl⟩ := outS_some hq
      exact NextRel.ofU (eMapUpdate_rel h h4 (hA _ _ h1) (hA _ _ h2) (hA _ _ h3))
    · cases hq
  · split at hq
    · rename_i h1 h2 h3
      obtain ⟨h4, rfl⟩ := outS_some hq
      exact NextRel.ofU (eMapUpdate_rel h h4 (hA _ _ h1) (hA _ _ h2) (hA _ _ h3))
    · cases hq
  · split at hq
    · rename_i h1 h2
      obtain ⟨v, h3, rfl⟩ := outV_some hq
      exact NextRel.ofV (eMapEntry_rel h h3 (hA _ _ h1) (hA _ _ h2))
    · cases hq
  · split at hq
    · rename_i h1 h2 h3
      obtain ⟨h4, rfl⟩ := outS_some hq
      exact NextRel.ofU (eEntryStore_rel h h4 (hA _ _ h1) (hA _ _ h2) (hA _ _ h3))
    · cases hq
  · split at hq
    · rename_i hx
      cases hq
      have := hA _ _ hx
      have hv := this
      simp only [VRel] at this
      obtain ⟨X, e, _⟩ := this
      refine ⟨rfl, .iface _ X, ?_, by rw [← e]; exact hv⟩
      simp [Instr.panic, e]
    · cases hq
  · split at hq
    · rename_i hx
      obtain ⟨v, h1, rfl⟩ := outV_some hq
      exact NextRel.ofV (eRange_rel h h1 (hA _ _ hx))
    · cases hq
  · split at hq
    · rename_i hx
      obtain ⟨v, h1, rfl⟩ := outV_some hq
      exact NextRel.ofV (eNext_rel h h1 (hA _ _ hx) _)
    · cases hq
  · rename_i c
    split at hq
    · rename_i hc
      split at hq
      · rename_i vs hvs
        obtain ⟨v, h3, rfl⟩ := outV_some hq
        have := evalOs_rel hA hvs
        rw [← map_toList] at this
        simp only [resolve, hc, Sem.run_bind, Sem.run_pure, Result.andThen_ok, invoke]
        exact eBuiltin_rel h h3 this o.type _
      · cases hq
    · rename_i f hc
      split at hq
      · rename_i g first cap vs hf hvs
        cases hb : bodyOK P g with
        | false => simp [hb] at hq
        | true =>
        simp only [hb, cond_true, Option.some.injEq, Prod.mk.injEq] at hq
        obtain ⟨rfl, rfl⟩ := hq
        have e1 := hA _ _ hf
        simp only [VRel] at e1
        obtain ⟨A1, C1, e1, e2, e3⟩ := e1
        have e4 := evalOs_rel hA hvs
        rw [← map_toList] at e4
        refine ⟨rfl, A1 ++ (c.args.map A.eval) ++ C1, ?_, ?_⟩
        · simp only [resolve, hc, Sem.run_bind, e1, Deferred.ofValue, Sem.run_pure, Result.andThen_ok, invoke]
          exact run_callFunc hb _
        · rw [lapp_eq, lapp_eq]
          simp only [Array.toList_append]
          exact (e2.append e4).append e3
      · rename_i l vs hf hvs
        split at hq
        · rename_i r hg
          simp only [llen_eq] at hq
          cases hb : Nat.beq vs.length r.params.length with
          | false => simp [hb] at hq
          | true =>
          simp only [hb, cond_true, Option.some.injEq, Prod.mk.injEq] at hq
          obtain ⟨rfl, rfl⟩ := hq
          have e1 := hA _ _ hf
          simp only [VRel] at e1
          obtain ⟨B, O, S, hB, e1⟩ := e1
          have e4 := evalOs_rel hA hvs
          rw [← map_toList] at e4
          obtain ⟨x, hx, _, L, D, l1, l2, l3, l4, l5, l6⟩ := h.obj' hg hB
          rw [hB] at hx; cases hx
          have hsz : (c.args.map A.eval).size = L.params.size := by
            have a1 := e4.length
            have a2 : vs.length = r.params.length := by simpa using hb
            have a3 : L.params.toList.length = r.params.length := by rw [l5]
            simp only [Array.length_toList] at a1 a3
            omega
          refine ⟨rfl, ⟨B, O, S⟩, L, c.args.map A.eval, hB, l1, e4, hsz, ?_⟩
          simp only [resolve, hc, Sem.run_bind, e1, Deferred.ofValue, Sem.run_pure, Result.andThen_ok, invoke]
          have hy := run_yield (P := P) (w := w) l1 hsz
          simpa using hy
        · cases hq
      · cases hq
    · cases hq
  · cases hq

theorem opE_rel (h : SRel base ρ s w) {ev : Operand → Option V} {A : Act} (hA : EvRel ρ ev A) {o : Oper} {out : EOut} {s' : St} (hq : opE P s ev o.op = some (out, s')) :
    NextRel base ρ s w s' ((execOp A.eval o).run P w) out := by
  unfold opE at hq
  split at hq
  · rename_i v hv
    cases hq
    obtain ⟨X, h1, h2⟩ := qop_rel h hA hv
    exact ⟨ρ, X, w, ρ.le_refl, h1, h2, h, Below.refl _ _⟩
  · exact eop_rel h hA hq

theorem opE_defer {ev : Operand → Option V} {c : Call} : opE P s ev (.defer c) = none := rfl

theorem compOp_eq (op : Op) (s : St) (ev : Operand → Option V) : runOpF (compOp P op) s ev = opE P s ev op := by
  cases op
  case move x => simp only [compOp, runOpF, opE, qop, eop]; cases ev x <;> rfl
  case assign x => simp only [compOp, runOpF, opE, qop, eop]; cases ev x <;> rfl
  case pick c a b =>
    simp only [compOp, runOpF, opE, qop, eop, cPick]
    cases ev c with
    | none => rfl
    | some x =>
      cases x <;> first | rfl | skip
      rename_i bb
      cases bb
      · simp only; cases ev b <;> rfl
      · simp only; cases ev a <;> rfl
  case load t x =>
    simp only [compOp, runOpF, opE, qop, eop, cLoad]
    cases ev x with
    | none => rfl
    | some a => simp only; cases qLoad P s t a <;> rfl
  case store t x y =>
    simp only [compOp, runOpF, opE, qop, eop, cStore]
    cases ev x with
    | none => rfl
    | some a => cases ev y <;> rfl
  case binOp op t x y yt =>
    have key : (match ev x, ev y with | some a, some b => toOut s (qBin P s op t a b) | _, _ => none) = opE P s ev (.binOp op t x y yt) := by
      simp only [opE, qop, eop]
      cases ev x with
      | none => rfl
      | some a => cases ev y with
        | none => rfl
        | some b => simp only; cases qBin P s op t a b <;> rfl
    rw [← key]
    simp only [compOp]
    cases hs : isShift op with
    | true =>
      simp only [cond_true, runOpF, cShift]
      cases ev x with
      | none => rfl
      | some a => cases ev y <;> rfl
    | false =>
      simp only [cond_false, runOpF, cBin]
      cases ev x with
      | none => rfl
      | some a => cases ev y with
        | none => rfl
        | some b =>
          simp only
          congr 1
          unfold cBinI
          split
          · split
            · rename_i k x1 k' y1
              rw [binG_eq]
              cases op <;> first | rfl | cases hs
            · rfl
          · rfl
  case unOp op t x =>
    simp only [compOp, runOpF, opE, qop, eop, cUn]
    cases ev x with
    | none => rfl
    | some a => simp only; cases qUn op a <;> rfl
  case convert src dst x =>
    simp only [compOp, runOpF, opE, qop, eop, cConv]
    cases ev x with
    | none => rfl
    | some a => simp only
  case fieldAddr t x f =>
    simp only [compOp, runOpF, opE, qop, eop, cFieldAddr]
    cases ev x with
    | none => rfl
    | some a => simp only; cases qFieldAddr P t a f <;> rfl
  case indexAddr t x y =>
    simp only [compOp, runOpF, opE, qop, eop, cIndexAddr]
    cases ev x with
    | none => rfl
    | some a => cases ev y with
      | none => rfl
      | some b => simp only; cases qIndexAddr P t a b <;> rfl
  case index t x y =>
    simp only [compOp, runOpF, opE, qop, eop, cIndex]
    cases ev x with
    | none => rfl
    | some a => cases ev y with
      | none => rfl
      | some b => simp only; cases qIndex P t a b <;> rfl
  all_goals rfl
end
end Go.Eng
end

section
namespace Go.Eng
open Go.RowKit (Below)
set_option linter.unusedSimpArgs false
set_option linter.unusedVariables false

theorem eqQ_spec {a b : Int} (h : eqQ a b = true) : a = b := by rw [eqQ_eq] at h; simpa using h
theorem kEq_spec {a b : IntKind} (h : kEq a b = true) : a = b := by rw [kEq_iff] at h; simpa using h

mutual
theorem V.same_eq : ∀ (v w : V), v.same w = true → v = w
  | .undef, w, h => by cases w <;> simp [V.same] at h <;> rfl
  | .bool a, w, h => by cases w <;> simp [V.same] at h; cases a <;> simp_all
  | .int k a, w, h => by
    cases w <;> simp [V.same] at h
    rename_i k' b
    cases hk : kEq k k' with
    | false => simp [hk] at h
    | true => simp [hk] at h; rw [kEq_spec hk, eqQ_spec h]
  | .str s, w, h => by
    cases w <;> simp [V.same] at h
    rename_i t
    cases s; cases t
    simp_all
  | .nilp, w, h => by cases w <;> simp [V.same] at h <;> rfl
  | .nils, w, h => by cases w <;> simp [V.same] at h <;> rfl
  | .slz a, w, h => by cases w <;> simp [V.same] at h; cases a <;> simp_all
  | .nilm, w, h => by cases w <;> simp [V.same] at h <;> rfl
  | .nilf, w, h => by cases w <;> simp [V.same] at h <;> rfl
  | .nili, w, h => by cases w <;> simp [V.same] at h <;> rfl
  | .ptr b o, w, h => by cases w <;> simp [V.same] at h; simp_all
  | .sl b o l c x e, w, h => by
    cases w <;> simp [V.same] at h
    rename_i b' o' l' c' x' e'
    cases x <;> cases x' <;> simp_all
  | .map b, w, h => by cases w <;> simp [V.same] at h; simp_all
  | .fn f a c, w, h => by
    cases w <;> simp only [V.same, Bool.false_eq_true] at h
    rename_i f' a' c'
    cases h1 : Nat.beq f f' <;> cases h2 : sameL a a' <;> simp [h1, h2] at h
    rw [sameL_eq _ _ h2, sameL_eq _ _ h, Nat.eq_of_beq_eq_true h1]
  | .yld l, w, h => by cases w <;> simp [V.same] at h; simp_all
  | .iface t v, w, h => by
    cases w <;> simp only [V.same, Bool.false_eq_true] at h
    rename_i t' v'
    cases h1 : Nat.beq t t' <;> simp [h1] at h
    rw [V.same_eq _ _ h, Nat.eq_of_beq_eq_true h1]
  | .agg l, w, h => by
    cases w <;> simp only [V.same, Bool.false_eq_true] at h
    rw [sameL_eq _ _ h]
  | .tup l, w, h => by
    cases w <;> simp only [V.same, Bool.false_eq_true] at h
    rw [sameL_eq _ _ h]
  | .it b, w, h => by cases w <;> simp [V.same] at h; simp_all
  | .any, w, h => by simp [V.same] at h
theorem sameL_eq : ∀ (v w : List V), sameL v w = true → v = w
  | [], w, h => by cases w <;> simp [sameL] at h <;> rfl
  | v :: l, w, h => by
    cases w with
    | nil => simp [sameL] at h
    | cons u m =>
      simp only [sameL] at h
      cases h1 : v.same u <;> simp [h1] at h
      rw [V.same_eq _ _ h1, sameL_eq _ _ h]
end

theorem tbQ_eq (m i : Nat) : tbQ m i = m.testBit i := by
  have e : tbQ m i = Nat.beq (m / 2 ^ i % 2) 1 := rfl
  rw [e, Nat.testBit_eq_decide_div_mod_eq, Bool.eq_iff_iff]
  simp
theorem tbQ_lor (a b i : Nat) : tbQ (Nat.lor a b) i = (tbQ a i || tbQ b i) := by
  simp only [tbQ_eq]
  exact Nat.testBit_or a b i
theorem tbQ_pow (a i : Nat) : tbQ (Nat.pow 2 a) i = decide (a = i) := by
  rw [tbQ_eq]
  exact Nat.testBit_two_pow
theorem tbQ_zero (i : Nat) : tbQ 0 i = false := by rw [tbQ_eq]; simp
theorem bindsQ_eq (e : Edge) : bindsQ e = Region.binds .any e := by
  unfold bindsQ Region.binds
  split <;> rename_i h <;> simp only [h] <;> rfl

inductive Reach (ops : Array Oper) : Nat → Nat → Prop
  | step {i : Nat} {o : Oper} {e : Edge} (ho : ops[i]? = some o) (he : e ∈ o.after) (hb : Region.binds .any e = true) : Reach ops i e.on
  | trans {i j k : Nat} : Reach ops i j → Reach ops j k → Reach ops i k

theorem maskE_spec {ops : Array Oper} {A : List Nat} (hA : ∀ (i m : Nat), A[i]? = some m → ∀ j, tbQ m j = true → Reach ops i j) : ∀ (es : List Edge) (j : Nat), tbQ (maskE A es) j = true →
    ∃ e ∈ es, Region.binds .any e = true ∧ (e.on = j ∨ Reach ops e.on j)
  | [], j, h => by rw [maskE, tbQ_zero] at h; cases h
  | e :: es, j, h => by
    rw [maskE] at h
    cases hb : bindsQ e with
    | false =>
      rw [hb, cond_false] at h
      obtain ⟨e', h1, h2⟩ := maskE_spec hA es j h
      exact ⟨e', List.mem_cons_of_mem _ h1, h2⟩
    | true =>
      rw [hb, cond_true, tbQ_lor, tbQ_lor, tbQ_pow] at h
      rw [bindsQ_eq] at hb
      simp only [Bool.or_eq_true, decide_eq_true_eq] at h
      rcases h with (h | h) | h
      · exact ⟨e, List.mem_cons_self, hb, .inl h⟩
      · rw [lget_eq] at h
        cases hg : A[e.on]? with
        | none => rw [hg, ogetN, tbQ_zero] at h; cases h
        | some m =>
          rw [hg, ogetN] at h
          exact ⟨e, List.mem_cons_self, hb, .inr (hA _ _ hg _ h)⟩
      · obtain ⟨e', h1, h2⟩ := maskE_spec hA es j h
        exact ⟨e', List.mem_cons_of_mem _ h1, h2⟩

theorem ancsE_spec {ops : Array Oper} : ∀ (l : List Oper) (A : List Nat), (∀ (i m : Nat), A[i]? = some m → ∀ j, tbQ m j = true → Reach ops i j) → (∀ (i : Nat) o, l[i]? = some o → ops[A.length + i]? = some o) →
    ∀ (i m : Nat), (ancsE l A)[i]? = some m → ∀ j, tbQ m j = true → Reach ops i j
  | [], A, hA, _ => hA
  | o :: l, A, hA, hl => by
    rw [ancsE, lapp_eq]
    refine ancsE_spec l _ ?_ ?_
    · intro i m hm j hj
      by_cases hi : i < A.length
      · rw [List.getElem?_append_left hi] at hm
        exact hA i m hm j hj
      · have hi' : i = A.length := by
          have := (List.getElem?_eq_some_iff.1 hm).1
          simp at this; omega
        subst hi'
        simp at hm
        subst hm
        have ho := hl 0 o rfl
        rw [Nat.add_zero] at ho
        obtain ⟨e, h1, h2, h3⟩ := maskE_spec hA _ j hj
        have h0 := Reach.step ho (by simpa using h1) h2
        rcases h3 with rfl | h3
        · exact h0
        · exact .trans h0 h3
    · intro i o' ho'
      have := hl (i + 1) o' (by simpa using ho')
      rw [List.length_append, List.length_singleton]
      rw [show A.length + 1 + i = A.length + (i + 1) by omega]
      exact this
theorem reach_of {ops : Array Oper} {i j : Nat} (h : tbQ (ogetN (lget (ancsE ops.toList []) i)) j = true) : Reach ops i j := by
  rw [lget_eq] at h
  cases hg : (ancsE ops.toList [])[i]? with
  | none => rw [hg, ogetN, tbQ_zero] at h; cases h
  | some m =>
    rw [hg, ogetN] at h
    exact ancsE_spec ops.toList [] (fun i m hm => by simp at hm) (fun i o ho => by simpa using ho) i m hg j h

theorem hasN_eq (d : Nat) : ∀ l : List Nat, hasN d l = true ↔ d ∈ l
  | [] => by simp [hasN]
  | x :: l => by
    have := hasN_eq d l
    cases h : Nat.beq x d with
    | true => simp [hasN, h, (Nat.eq_of_beq_eq_true h)]
    | false =>
      have hne : d ≠ x := fun e => by subst e; simp at h
      simp [hasN, h, this, hne]

theorem backE_spec {i : Nat} : ∀ {l : List Edge}, backE i l = true → ∀ e ∈ l, Region.binds .any e = true → e.on < i
  | [], _, e, he, _ => by cases he
  | a :: l, h, e, he, hb => by
    simp only [backE, Bool.and_eq_true] at h
    rcases List.mem_cons.1 he with rfl | he
    · have h1 := h.1
      rw [bindsQ_eq, hb, cond_true] at h1
      exact Nat.le_of_ble_eq_true h1
    · exact backE_spec h.2 e he hb
theorem apartE_spec {ops : Array Oper} {A : List Nat} {i d : Nat} : ∀ {l : List Oper} {j0 : Nat}, apartE ops A i d l j0 = true → ∀ (j : Nat) o, l[j]? = some o → i ≠ j0 + j →
    o.dst ≠ some d ∧ (d ∈ o.looksAt ops → tbQ (ogetN (lget A i)) (j0 + j) = true ∨ tbQ (ogetN (lget A (j0 + j))) i = true)
  | [], _, _, j, o, ho, _ => by simp at ho
  | a :: l, j0, h, j, o, ho, hne => by
    simp only [apartE, Bool.and_eq_true] at h
    cases j with
    | zero =>
      simp at ho; subst ho
      have h1 := h.1
      have hb : Nat.beq i j0 = false := by
        cases e : Nat.beq i j0 with
        | false => rfl
        | true => exact absurd (Nat.eq_of_beq_eq_true e) (by simpa using hne)
      rw [hb, cond_false, Bool.and_eq_true] at h1
      refine ⟨fun e => ?_, fun hd => ?_⟩
      · rw [e] at h1; simp at h1
      · have h2 := h1.2
        rw [(hasN_eq d _).2 hd, cond_true, Bool.or_eq_true] at h2
        simpa using h2
    | succ j =>
      have := apartE_spec h.2 j o (by simpa using ho) (by simp only [Nat.succ_eq_add_one]; omega)
      rw [show Nat.succ j0 + j = j0 + (j + 1) by simp only [Nat.succ_eq_add_one]; omega] at this
      exact this
theorem stE_spec {ops : Array Oper} {A : List Nat} : ∀ {l : List Oper} {i0 : Nat}, stE ops A l i0 = true → ∀ (i : Nat) o, l[i]? = some o →
    backE (i0 + i) o.after.toList = true ∧ ∀ d, o.dst = some d → apartE ops A (i0 + i) d ops.toList 0 = true
  | [], _, _, i, o, ho => by simp at ho
  | a :: l, i0, h, i, o, ho => by
    simp only [stE, Bool.and_eq_true] at h
    cases i with
    | zero =>
      simp at ho; subst ho
      exact ⟨h.1.1, fun d hd => by have := h.1.2; rw [hd] at this; exact this⟩
    | succ i =>
      have := stE_spec h.2 i o (by simpa using ho)
      rw [show Nat.succ i0 + i = i0 + (i + 1) by simp only [Nat.succ_eq_add_one]; omega] at this
      exact this

structure StOK (ops : Array Oper) : Prop where
  back : ∀ (i : Nat) o, ops[i]? = some o → ∀ e ∈ o.after, Region.binds .any e = true → e.on < i
  once : ∀ (i j : Nat) o o' d, ops[i]? = some o → ops[j]? = some o' → o.dst = some d → o'.dst = some d → i = j
  read : ∀ (i j : Nat) o o' d, ops[i]? = some o → ops[j]? = some o' → o.dst = some d → d ∈ o'.looksAt ops → i ≠ j → Reach ops i j ∨ Reach ops j i
theorem stOK_spec {ops : Array Oper} (h : stOK ops = true) : StOK ops where
  back := fun i o ho e he hb => by
    have := (stE_spec h i o (by simpa using ho)).1
    rw [Nat.zero_add] at this
    exact backE_spec this e (by simpa using he) hb
  once := fun i j o o' d ho ho' hd hd' => by
    by_cases hij : i = j
    · exact hij
    · have := (stE_spec h i o (by simpa using ho)).2 d hd
      rw [Nat.zero_add] at this
      exact absurd hd' (apartE_spec this j o' (by simpa using ho') (by omega)).1
  read := fun i j o o' d ho ho' hd hl hne => by
    have := (stE_spec h i o (by simpa using ho)).2 d hd
    rw [Nat.zero_add] at this
    have := (apartE_spec this j o' (by simpa using ho') (by omega)).2 hl
    rw [Nat.zero_add] at this
    exact this.imp reach_of reach_of
theorem StOK.lt {ops : Array Oper} (h : StOK ops) {i j : Nat} (r : Reach ops i j) : j < i := by
  induction r with
  | step ho he hb => exact h.back _ _ ho _ he hb
  | trans _ _ h1 h2 => omega

section
variable {P : Program} {self : ESelf} {ops : Array Oper}
theorem drawRun_spec {M : List (Nat × Nat)} : ∀ {l : List Oper} {i : Nat} {f : Frm} {s : St} {R : List DRec}, drawRun P self ops M l i f s = some R →
    R.length = l.length ∧ ∀ (k : Nat) r, R[k]? = some r → r.i = i + k ∧ l[k]? = some r.o ∧ drawStep P self ops (findM r.i M) r.i r.o r.f r.s = some r ∧ r.f = finF f (R.take k) ∧ r.s = lastS s (effs (R.take k))
  | [], i, f, s, R, h => by
    simp only [drawRun] at h
    cases h
    exact ⟨rfl, fun k r hr => by simp at hr⟩
  | o :: l, i, f, s, R, h => by
    simp only [drawRun] at h
    split at h
    · rename_i r hr
      split at h
      · rename_i R' hR
        cases h
        obtain ⟨h1, h2⟩ := drawRun_spec hR
        have hrr : r.i = i ∧ r.o = o ∧ r.f = f ∧ r.s = s := by
          unfold drawStep at hr
          cases hw : wantedE (guardOf ops o) f with
          | false => rw [hw, cond_false] at hr; cases hr; exact ⟨rfl, rfl, rfl, rfl⟩
          | true =>
            rw [hw, cond_true] at hr
            split at hr
            · cases hr; exact ⟨rfl, rfl, rfl, rfl⟩
            · split at hr
              · cases hr
              · split at hr
                · cases hr; exact ⟨rfl, rfl, rfl, rfl⟩
                · cases hr
        obtain ⟨e1, e2, e3, e4⟩ := hrr
        refine ⟨by simp [h1], fun k r' hr' => ?_⟩
        cases k with
        | zero =>
          simp at hr'; subst hr'
          refine ⟨e1, by simp [e2], by rw [e1, e2, e3, e4]; exact hr, by simp [finF, e3], by simp [effs, lastS, e4]⟩
        | succ k =>
          obtain ⟨g1, g2, g3, g4, g5⟩ := h2 k r' (by simpa using hr')
          refine ⟨by rw [g1]; simp only [Nat.succ_eq_add_one]; omega, by simpa using g2, g3, ?_, ?_⟩
          · rw [g4, List.take_succ_cons, finF, e2]
          · rw [g5, List.take_succ_cons, effs]
            cases he : r.eff with
            | none => simp [orS, he]
            | some s' => simp [orS, he, lastS]
      · cases h
    · cases h

theorem drawStep_fields {M : Option Nat} {i : Nat} {o : Oper} {f : Frm} {s : St} {r : DRec} (hr : drawStep P self ops M i o f s = some r) : r.i = i ∧ r.o = o ∧ r.f = f ∧ r.s = s := by
  unfold drawStep at hr
  cases hw : wantedE (guardOf ops o) f with
  | false => rw [hw, cond_false] at hr; cases hr; exact ⟨rfl, rfl, rfl, rfl⟩
  | true =>
    rw [hw, cond_true] at hr
    split at hr
    · cases hr; exact ⟨rfl, rfl, rfl, rfl⟩
    · split at hr
      · cases hr
      · split at hr
        · cases hr; exact ⟨rfl, rfl, rfl, rfl⟩
        · cases hr
theorem drawStep_self {self' : ESelf} {M : Option Nat} {i : Nat} {o : Oper} {f : Frm} {s : St} {r : DRec} (hr : drawStep P self ops M i o f s = some r) (he : r.eff = none) : drawStep P self' ops M i o f s = some r := by
  unfold drawStep at hr ⊢
  cases hw : wantedE (guardOf ops o) f with
  | false => rw [hw, cond_false] at hr; rw [cond_false]; exact hr
  | true =>
    rw [hw, cond_true] at hr
    rw [cond_true]
    split at hr
    · exact hr
    · split at hr
      · cases hr
      · split at hr
        · cases hr; cases he
        · cases hr
theorem panTail_spec {M : List (Nat × Nat)} {A : List Nat} {ip : Nat} : ∀ {l : List Oper} {i : Nat} {f : Frm} {s : St} {R : List DRec}, panTail P ops M A ip l i f s = some R →
    R.length = l.length ∧ effs R = [] ∧ ∀ (k : Nat) r, R[k]? = some r → r.i = i + k ∧ l[k]? = some r.o ∧ (tbQ (ogetN (lget A r.i)) ip = true ∧ r.q = false ∨ ∀ sf, drawStep P sf ops (findM r.i M) r.i r.o r.f r.s = some r) ∧ r.f = finF f (R.take k) ∧ r.s = s
  | [], i, f, s, R, h => by
    simp only [panTail] at h
    cases h
    exact ⟨rfl, rfl, fun k r hr => by simp at hr⟩
  | o :: l, i, f, s, R, h => by
    simp only [panTail] at h
    cases hd : tbQ (ogetN (lget A i)) ip with
    | true =>
      rw [hd, cond_true] at h
      split at h
      · rename_i R' hR
        cases h
        obtain ⟨h1, h2, h3⟩ := panTail_spec hR
        refine ⟨by simp [h1], by simpa [effs] using h2, fun k r' hr' => ?_⟩
        cases k with
        | zero =>
          simp at hr'; subst hr'
          exact ⟨rfl, rfl, .inl ⟨hd, rfl⟩, rfl, rfl⟩
        | succ k =>
          obtain ⟨g1, g2, g3, g4, g5⟩ := h3 k r' (by simpa using hr')
          refine ⟨by rw [g1]; simp only [Nat.succ_eq_add_one]; omega, by simpa using g2, g3, ?_, g5⟩
          rw [g4, List.take_succ_cons, finF]
      · cases h
    | false =>
      rw [hd, cond_false] at h
      split at h
      · rename_i r hr
        split at h
        · rename_i he
          split at h
          · rename_i R' hR
            cases h
            obtain ⟨e1, e2, e3, e4⟩ := drawStep_fields hr
            obtain ⟨h1, h2, h3⟩ := panTail_spec hR
            refine ⟨by simp [h1], by simp [effs, he, h2], fun k r' hr' => ?_⟩
            cases k with
            | zero =>
              simp at hr'; subst hr'
              refine ⟨e1, by simp [e2], .inr fun sf => by rw [e1, e2, e3, e4]; exact drawStep_self hr he, by simp [finF, e3], e4⟩
            | succ k =>
              obtain ⟨g1, g2, g3, g4, g5⟩ := h3 k r' (by simpa using hr')
              refine ⟨by rw [g1]; simp only [Nat.succ_eq_add_one]; omega, by simpa using g2, g3, ?_, g5⟩
              rw [g4, List.take_succ_cons, finF, e2]
          · cases h
        · cases h
      · cases h
theorem panRun_spec {M : List (Nat × Nat)} {A : List Nat} : ∀ {l : List Oper} {i : Nat} {f : Frm} {s : St} {R : List DRec} {ip : Nat} {v : V} {s' : St}, panRun P self ops M A l i f s = some (R, ip, v, s') →
    R.length = l.length ∧ i ≤ ip ∧ (∃ rp, R[ip - i]? = some rp ∧ rp.q = false ∧ rp.s = lastS s (effs R) ∧ wantedE (guardOf ops rp.o) rp.f = true ∧ opPan self (eop P rp.s (evL (rp.o.looksAt ops) rp.f) rp.o.op) = some (v, s')) ∧
    ∀ (k : Nat) r, R[k]? = some r → r.i = i + k ∧ l[k]? = some r.o ∧ (r.i = ip ∧ r.q = false ∨ tbQ (ogetN (lget A r.i)) ip = true ∧ r.q = false ∨ drawStep P self ops (findM r.i M) r.i r.o r.f r.s = some r) ∧ r.f = finF f (R.take k) ∧ r.s = lastS s (effs (R.take k))
  | [], i, f, s, R, ip, v, s', h => by simp only [panRun] at h; cases h
  | o :: l, i, f, s, R, ip, v, s', h => by
    simp only [panRun] at h
    split at h
    · rename_i r hr
      split at h
      · rename_i R' x hR
        cases h
        obtain ⟨e1, e2, e3, e4⟩ := drawStep_fields hr
        obtain ⟨h1, h2, ⟨rp, a1, a2, a3, a4, a5⟩, h3⟩ := panRun_spec hR
        simp only [Nat.succ_eq_add_one] at h2 a1
        have hl : ∀ E : List (Nat × St), lastS s (match r.eff with | some s1 => (r.i, s1) :: E | none => E) = lastS (orS s r.eff) E := fun E => by cases r.eff <;> rfl
        refine ⟨by simp [h1], by omega, ⟨rp, ?_, a2, ?_, a4, a5⟩, fun k r' hr' => ?_⟩
        · rw [show ip - i = (ip - (i + 1)) + 1 by omega]; simpa using a1
        · rw [a3, effs]; cases he : r.eff <;> simp [orS, lastS]
        · cases k with
          | zero =>
            simp at hr'; subst hr'
            refine ⟨e1, by simp [e2], .inr (.inr (by rw [e1, e2, e3, e4]; exact hr)), by simp [finF, e3], by simp [effs, lastS, e4]⟩
          | succ k =>
            obtain ⟨g1, g2, g3, g4, g5⟩ := h3 k r' (by simpa using hr')
            refine ⟨by rw [g1]; simp only [Nat.succ_eq_add_one]; omega, by simpa using g2, g3, ?_, ?_⟩
            · rw [g4, List.take_succ_cons, finF, e2]
            · rw [g5, List.take_succ_cons, effs]
              cases he : r.eff with
              | none => simp [orS, he]
              | some s1 => simp [orS, he, lastS]
      · cases h
    · cases hw : wantedE (guardOf ops o) f with
      | false => rw [hw, cond_false] at h; cases h
      | true =>
        rw [hw, cond_true] at h
        split at h
        · cases h
        · split at h
          · rename_i v1 s1 hp
            split at h
            · rename_i R' hR
              cases h
              obtain ⟨h1, h2, h3⟩ := panTail_spec hR
              refine ⟨by simp [h1], Nat.le_refl _, ⟨_, by rw [Nat.sub_self]; rfl, rfl, by simp [effs, h2, lastS], hw, hp⟩, fun k r' hr' => ?_⟩
              cases k with
              | zero =>
                simp at hr'; subst hr'
                exact ⟨rfl, rfl, .inl ⟨rfl, rfl⟩, rfl, rfl⟩
              | succ k =>
                obtain ⟨g1, g2, g3, g4, g5⟩ := h3 k r' (by simpa using hr')
                refine ⟨by rw [g1]; simp only [Nat.succ_eq_add_one]; omega, by simpa using g2, .inr (g3.imp id fun g => g self), ?_, ?_⟩
                · rw [g4, List.take_succ_cons, finF]
                · have : effs (R'.take k) = [] := by
                    have : ∀ (R : List DRec) k, effs R = [] → effs (R.take k) = [] := by
                      intro R
                      induction R with
                      | nil => intro k _; simp [effs]
                      | cons a R ih =>
                        intro k hh
                        cases k with
                        | zero => rfl
                        | succ k =>
                          simp only [effs] at hh
                          cases he : a.eff with
                          | none => rw [he] at hh; simp only [List.take_succ_cons, effs, he]; exact ih k hh
                          | some s2 => rw [he] at hh; cases hh
                    exact this R' k h2
                  simp [List.take_succ_cons, effs, this, lastS, g5]
            · cases h
          · cases h
theorem allAfter_spec {m : Nat} : ∀ {l : List (Nat × St)}, allAfter m l = true → ∀ (q : Nat) e, l[q]? = some e → tbQ m e.1 = true
  | [], _, q, e, h => by simp at h
  | a :: l, h, q, e, he => by
    simp only [allAfter, Bool.and_eq_true] at h
    cases q with
    | zero => simp at he; subst he; exact h.1
    | succ q => exact allAfter_spec h.2 q e (by simpa using he)

theorem effs_get : ∀ {R : List DRec} {q : Nat} {e : Nat × St}, (effs R)[q]? = some e → ∃ (k : Nat) (r : DRec), R[k]? = some r ∧ r.eff = some e.2 ∧ r.i = e.1 ∧ effs (R.take k) = (effs R).take q
  | [], q, e, h => by simp [effs] at h
  | r :: R, q, e, h => by
    cases he : r.eff with
    | none =>
      simp only [effs, he] at h ⊢
      obtain ⟨k, r', h1, h2, h3, h4⟩ := effs_get h
      exact ⟨k + 1, r', by simpa using h1, h2, h3, by simp only [List.take_succ_cons, effs, he, h4]⟩
    | some s =>
      simp only [effs, he] at h ⊢
      cases q with
      | zero =>
        simp at h
        exact ⟨0, r, rfl, by rw [← h]; exact he, by rw [← h], by simp [effs]⟩
      | succ q =>
        obtain ⟨k, r', h1, h2, h3, h4⟩ := effs_get (R := R) (by simpa using h)
        exact ⟨k + 1, r', by simpa using h1, h2, h3, by simp only [List.take_succ_cons, effs, he, h4]⟩
theorem effs_of : ∀ {R : List DRec} {k : Nat} {r : DRec} {s : St}, R[k]? = some r → r.eff = some s → ∃ q, (effs R)[q]? = some (r.i, s) ∧ effs (R.take k) = (effs R).take q
  | [], k, r, s, h, _ => by simp at h
  | a :: R, k, r, s, h, hs => by
    cases k with
    | zero =>
      simp at h; subst h
      exact ⟨0, by simp [effs, hs], by simp [effs]⟩
    | succ k =>
      obtain ⟨q, h1, h2⟩ := effs_of (R := R) (by simpa using h) hs
      cases he : a.eff with
      | none => exact ⟨q, by simpa [effs, he] using h1, by simp only [List.take_succ_cons, effs, he, h2]⟩
      | some s' => exact ⟨q + 1, by simpa [effs, he] using h1, by simp only [List.take_succ_cons, effs, he, h2]⟩

theorem beforeE_spec {A : List Nat} {i : Nat} : ∀ {l : List (Nat × St)}, chainE.beforeE A i l = true → ∀ (q : Nat) e, l[q]? = some e → tbQ (ogetN (lget A e.1)) i = true
  | [], _, q, e, h => by simp at h
  | a :: l, h, q, e, he => by
    simp only [chainE.beforeE, Bool.and_eq_true] at h
    cases q with
    | zero => simp at he; subst he; exact h.1
    | succ q => exact beforeE_spec h.2 q e (by simpa using he)
theorem chainE_spec {A : List Nat} : ∀ {l : List (Nat × St)}, chainE A l = true → ∀ (q q' : Nat) e e', q < q' → l[q]? = some e → l[q']? = some e' → tbQ (ogetN (lget A e'.1)) e.1 = true
  | [], _, q, q', e, e', _, h, _ => by simp at h
  | a :: l, h, q, q', e, e', hq, he, he' => by
    simp only [chainE, Bool.and_eq_true] at h
    cases q' with
    | zero => omega
    | succ q' =>
      cases q with
      | zero => simp at he; subst he; exact beforeE_spec h.1 q' e' (by simpa using he')
      | succ q => exact chainE_spec h.2 q q' e e' (by omega) (by simpa using he) (by simpa using he')

theorem anyB_false {m : Nat} : ∀ {l : List (Nat × St)}, (∀ e ∈ l, tbQ m e.1 = false) → anyB m l = false
  | [], _ => rfl
  | e :: l, h => by rw [anyB, h e List.mem_cons_self, cond_false]; exact anyB_false fun e he => h e (List.mem_cons_of_mem _ he)

theorem chkE_spec {A : List Nat} {r : DRec} : ∀ {E : List (Nat × St)} {s : St}, chkE P ops A r s E = true → ∀ p, p ≤ E.length →
    (∀ q e, q < p → E[q]? = some e → tbQ (ogetN (lget A e.1)) r.i = false) → (∀ q e, p ≤ q → E[q]? = some e → tbQ (ogetN (lget A r.i)) e.1 = false) →
    qopM P r.mb (lastS s (E.take p)) (evL (r.o.looksAt ops) r.f) r.o.op = some r.v
  | [], s, h, p, hp, _, _ => by
    have hp : p = 0 := by simpa using hp
    subst hp
    simp only [chkE] at h
    split at h
    · rename_i v hv
      rw [← V.same_eq _ _ h]
      exact hv
    · cases h
  | e :: l, s, h, p, hp, h1, h2 => by
    simp only [chkE, Bool.and_eq_true] at h
    cases p with
    | zero =>
      have h3 := h.1
      rw [anyB_false (fun e' he' => by
        obtain ⟨q, hq⟩ := List.getElem?_of_mem he'
        exact h2 q e' (Nat.zero_le _) hq), cond_false] at h3
      split at h3
      · rename_i v hv
        rw [← V.same_eq _ _ h3]
        exact hv
      · cases h3
    | succ p =>
      have h4 := h.2
      rw [h1 0 e (by omega) rfl, cond_false] at h4
      exact chkE_spec h4 p (by simpa using hp) (fun q e' hq he' => h1 (q + 1) e' (by omega) (by simpa using he')) (fun q e' hq he' => h2 (q + 1) e' (by omega) (by simpa using he'))
theorem chkAll_spec {A : List Nat} {s : St} {E : List (Nat × St)} : ∀ {R : List DRec}, chkAll P ops A s E R = true → ∀ r ∈ R, r.q = true → chkE P ops A r s E = true
  | [], _, r, hr, _ => by cases hr
  | a :: l, h, r, hr, hq => by
    simp only [chkAll, Bool.and_eq_true] at h
    rcases List.mem_cons.1 hr with rfl | hr
    · have := h.1; rw [hq, cond_true] at this; exact this
    · exact chkAll_spec h.2 r hr hq
end

structure PreOK (s s1 : St) (M : List (Nat × Nat)) : Prop where
  old : ∀ b, b < s.next → s1.heap.get b = s.heap.get b
  le : s.next ≤ s1.next
  new : ∀ i b, findM i M = some b → s.next ≤ b ∧ b < s1.next
  one : ∀ i j b, findM i M = some b → findM j M = some b → i = j
theorem preRun_ok {P : Program} {ops : Array Oper} {s0 : St} : ∀ (l : List Oper) (i : Nat) (f : Frm) (s : St) (D : Nat) (M : List (Nat × Nat)), PreOK s0 s M → PreOK s0 (preRun P ops l i f s D M).1 (preRun P ops l i f s D M).2
  | [], _, _, _, _, _, h => h
  | o :: l, i, f, s, D, M, h => by
    unfold preRun
    cases doneAll D o.after.toList with
    | false => exact preRun_ok l _ _ _ _ _ h
    | true =>
      rw [cond_true]
      cases wantedE (guardOf ops o) f with
      | false => exact preRun_ok l _ _ _ _ _ h
      | true =>
        rw [cond_true]
        split
        · exact preRun_ok l _ _ _ _ _ h
        · split
          · rename_i m _
            refine preRun_ok l _ _ _ _ _ ⟨fun b hb => ?_, Nat.le_trans h.le (Nat.le_succ _), fun k b hk => ?_, fun k k' b hk hk' => ?_⟩
            · have := h.le
              simp only [St.new, T.get_set]
              rw [if_neg (by omega)]
              exact h.old b hb
            · have e : (s.new m.obj).next = s.next + 1 := rfl
              rw [e]
              simp only [findM] at hk
              cases hb : Nat.beq i k with
              | true => rw [hb, cond_true] at hk; cases hk; exact ⟨h.le, Nat.lt_succ_self _⟩
              | false =>
                rw [hb, cond_false] at hk
                have := h.new k b hk
                exact ⟨this.1, by omega⟩
            · simp only [findM] at hk hk'
              cases hb : Nat.beq i k with
              | true =>
                rw [hb, cond_true] at hk; cases hk
                cases hb' : Nat.beq i k' with
                | true => rw [← Nat.eq_of_beq_eq_true hb, ← Nat.eq_of_beq_eq_true hb']
                | false =>
                  rw [hb', cond_false] at hk'
                  exact absurd (h.new k' _ hk').2 (Nat.lt_irrefl _)
              | false =>
                rw [hb, cond_false] at hk
                cases hb' : Nat.beq i k' with
                | true =>
                  rw [hb', cond_true] at hk'; cases hk'
                  exact absurd (h.new k _ hk).2 (Nat.lt_irrefl _)
                | false =>
                  rw [hb', cond_false] at hk'
                  exact h.one k k' b hk hk'
          · exact preRun_ok l _ _ _ _ _ h
theorem preM_ok {P : Program} {ops : Array Oper} {f : Frm} {s s1 : St} {M : List (Nat × Nat)} (h : preM P ops f s = (s1, M)) : PreOK s s1 M := by
  unfold preM at h
  have base : PreOK s s [] := ⟨fun _ _ => rfl, Nat.le_refl _, fun i b h => (by cases h), fun i j b h => (by cases h)⟩
  cases hc : chainE (ancsE ops.toList []) (effIdx ops.toList 0) with
  | true => rw [hc, cond_true] at h; cases h; exact base
  | false =>
    rw [hc, cond_false] at h
    have := preRun_ok (P := P) (ops := ops) ops.toList 0 f s 0 [] base
    rw [h] at this
    exact this

def Frm.ok (f : Frm) : Prop := ∃ d, f.t.full d ∧ f.n ≤ 2 ^ d
theorem FRel.ok {ρ : Env} {f : Frm} {A : Array Value} (h : FRel ρ f A) : f.ok := by obtain ⟨_, d, h2, h3, _⟩ := h; exact ⟨d, h2, h3⟩
theorem putE_n (f : Frm) (d : Option Tmp) (v : V) : (putE f d v).n = f.n := by
  cases d with
  | none => rfl
  | some k => rw [putE_some]; cases Nat.blt k f.n <;> rfl
theorem putE_ok {f : Frm} (h : f.ok) (d : Option Tmp) (v : V) : (putE f d v).ok := by
  cases d with
  | none => exact h
  | some k =>
    obtain ⟨d, h2, h3⟩ := h
    rw [putE_some]
    cases Nat.blt k f.n with
    | false => exact ⟨d, h2, h3⟩
    | true => exact ⟨d, B.set_full _ _ _ _ h2, h3⟩
def gv (n t : Nat) (v : V) : V := if t < n then v else .undef
theorem get_putE {f : Frm} (h : f.ok) (k : Nat) (v : V) (t : Nat) : (putE f (some k) v).get t = if t = k then gv f.n t v else f.get t := by
  obtain ⟨d, h2, h3⟩ := h
  rw [putE_some, blt_iff]
  by_cases hk : k < f.n
  · rw [decide_eq_true hk, cond_true, Frm.get_eq, Frm.get_eq, blt_iff]
    show (bif decide (t < f.n) then (B.set v f.t k).get t else .undef) = _
    by_cases ht : t < f.n
    · rw [decide_eq_true ht, cond_true, cond_true, B.get_set v f.t d k t h2 (by omega) (by omega)]
      by_cases e : t = k
      · subst e; simp [gv, hk]
      · simp [e]
    · rw [decide_eq_false ht, cond_false, cond_false]
      by_cases e : t = k
      · subst e; exact absurd hk ht
      · simp [e]
  · rw [decide_eq_false hk, cond_false]
    by_cases e : t = k
    · subst e; rw [if_pos rfl, gv, if_neg hk, Frm.get_eq, blt_iff, decide_eq_false hk]; rfl
    · simp [e]
theorem get_putE_ne {f : Frm} (h : f.ok) {d : Option Tmp} (v : V) {t : Nat} (hd : d ≠ some t) : (putE f d v).get t = f.get t := by
  cases d with
  | none => rfl
  | some k => rw [get_putE h, if_neg (fun e => hd (by rw [e]))]

theorem finF_n : ∀ (R : List DRec) (f : Frm), (finF f R).n = f.n
  | [], _ => rfl
  | r :: R, f => by rw [finF, finF_n, putE_n]
theorem finF_ok : ∀ (R : List DRec) {f : Frm}, f.ok → (finF f R).ok
  | [], _, h => h
  | r :: R, f, h => by rw [finF]; exact finF_ok R (putE_ok h _ _)
theorem finF_none {t : Nat} : ∀ {R : List DRec} {f : Frm}, f.ok → (∀ r ∈ R, r.o.dst ≠ some t) → (finF f R).get t = f.get t
  | [], _, _, _ => rfl
  | r :: R, f, h, hr => by
    rw [finF, finF_none (putE_ok h _ _) fun r hr' => hr r (List.mem_cons_of_mem _ hr'), get_putE_ne h _ (hr r List.mem_cons_self)]
theorem finF_some {t : Nat} : ∀ {R : List DRec} {f : Frm} {k : Nat} {r : DRec}, f.ok → R[k]? = some r → r.o.dst = some t → (∀ (k' : Nat) r', R[k']? = some r' → r'.o.dst = some t → k' = k) → (finF f R).get t = gv f.n t r.v
  | [], _, _, _, _, h, _, _ => by simp at h
  | a :: R, f, k, r, h, hr, hd, hu => by
    cases k with
    | zero =>
      simp at hr; subst hr
      rw [finF, finF_none (putE_ok h _ _), hd, get_putE h, if_pos rfl]
      intro r' hr' e
      obtain ⟨q, hq⟩ := List.getElem?_of_mem hr'
      have := hu (q + 1) r' (by simpa using hq) e
      omega
    | succ k =>
      rw [finF, finF_some (putE_ok h _ _) (by simpa using hr) hd fun k' r' h1 h2 => by have := hu (k' + 1) r' (by simpa using h1) h2; omega, putE_n]
theorem anyF_n : ∀ (l : List Oper) (f : Frm), (anyF f l).n = f.n
  | [], _ => rfl
  | o :: l, f => by rw [anyF, anyF_n, putE_n]
theorem anyF_ok : ∀ (l : List Oper) {f : Frm}, f.ok → (anyF f l).ok
  | [], _, h => h
  | o :: l, f, h => by rw [anyF]; exact anyF_ok l (putE_ok h _ _)
theorem anyF_get {t : Nat} : ∀ (l : List Oper) {f : Frm}, f.ok → t < f.n → ((∃ o ∈ l, o.dst = some t) → (anyF f l).get t = .any) ∧ (f.get t = .any → (anyF f l).get t = .any) ∧ ((∀ o ∈ l, o.dst ≠ some t) → (anyF f l).get t = f.get t)
  | [], f, h, ht => ⟨fun ⟨_, h, _⟩ => (by cases h), fun h => h, fun _ => rfl⟩
  | o :: l, f, h, ht => by
    obtain ⟨i1, i2, i3⟩ := anyF_get (t := t) l (putE_ok h o.dst .any) (by rw [putE_n]; exact ht)
    have hput : o.dst = some t → (putE f o.dst .any).get t = .any := fun e => by rw [e, get_putE h, if_pos rfl, gv, if_pos ht]
    refine ⟨fun ⟨o', ho', he⟩ => ?_, fun hf => ?_, fun hn => ?_⟩
    · rw [anyF]
      rcases List.mem_cons.1 ho' with rfl | ho'
      · exact i2 (hput he)
      · exact i1 ⟨o', ho', he⟩
    · rw [anyF]
      by_cases e : o.dst = some t
      · exact i2 (hput e)
      · exact i2 (by rw [get_putE_ne h _ e]; exact hf)
    · rw [anyF, i3 fun o' ho' => hn o' (List.mem_cons_of_mem _ ho'), get_putE_ne h _ (hn o List.mem_cons_self)]
end Go.Eng
end
