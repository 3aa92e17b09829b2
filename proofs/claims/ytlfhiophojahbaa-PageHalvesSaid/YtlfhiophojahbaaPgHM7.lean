/-
  Texts of this claim, one behind the other: EngI EngJ EngK EngL EngQ EngR. Each says its own conditions.
-/
import Derived.Test.YtlfhiophojahbaaPgHM6
import Derived.RangeFuncLeaves
import Derived.OrdersIn

set_option linter.unusedVariables false
set_option linter.unusedSimpArgs false
set_option linter.unusedSectionVars false
section
namespace Go.Eng
open Go.RowKit (Below)
set_option linter.unusedSimpArgs false
set_option linter.unusedVariables false

section
variable {P : Program} {base : Nat} {ρ : Env} {s : St} {w : World}

theorem bytes_rel : ∀ (l : List UInt8), LRel ρ (l.map byteV) (l.map fun b => Value.int .u8 b.toNat)
  | [] => LRel.nil
  | b :: l => LRel.cons (by simp only [byteV, VRel]; rfl) (bytes_rel l)

theorem eBytes_rel (h : SRel base ρ s w) {src dst : TypeId} {a v : V} {s' : St} (hq : eBytes P s src dst a = some (v, s')) {A : Value} (ha : VRel ρ a A) : OKv P base ρ (Go.convert src dst A) w v s' := by
  unfold eBytes at hq
  split at hq
  · rename_i sd e x hs hd
    split at hq
    · rename_i he
      cases hq
      simp only [VRel] at ha; subst ha
      obtain ⟨cap, hcap, hrun⟩ : ∃ cap, x.n ≤ cap ∧ (choose (.appendCap x.n 0 e)).run P w = .ok cap { w with drawn := w.drawn + 1 } := by
        refine ⟨_, ?_, by simp [Question.forced]; rfl⟩
        simp [Question.cut]
      let C : Array Value := (x.den.data.map fun b => Value.int .u8 b.toNat) ++ Array.replicate (cap - x.n) (.int .u8 0)
      have hC : C.size = cap := by
        have : x.den.data.size = x.n := BS.den_size x
        simp [C, this, BS.den_size]; omega
      have hle := Env.le_put ⟨w.heap.size, 0, C.size⟩ h.fresh
      let w' : World := { w with drawn := w.drawn + 1, heap := w.heap.push (.cells C e (C.size, C.size + 1)) }
      refine ⟨ρ.put s.next ⟨w.heap.size, 0, C.size⟩, .slice (some ⟨w.heap.size, 0, none⟩) x.n cap, w', hle, ?_, ?_, ?_, ?_⟩
      · simp only [Go.convert, Sem.run_bind, run_und hs, run_und hd, Result.andThen_ok, run_und he, Conv.stringToBytes, BS.den_size, hrun, newRow, run_newObj, Sem.run_pure, markStringish, run_shape]
        have hsh : ({ w with drawn := w.drawn + 1, heap := w.heap.push (.cells C e) } : World).shape? w.heap.size = some (e, C.size) := by simp [World.shape?]
        have hfr : ({ w with drawn := w.drawn + 1, heap := w.heap.push (.cells C e) } : World).freeze ⟨w.heap.size, C.size, none⟩ 1 = w' := by
          simp only [World.freeze]
          rw [if_neg (by decide)]
          simp only [w']
          congr 1
          apply Array.ext_getElem?
          intro i
          rw [Array.getElem?_modify, Array.getElem?_push, Array.getElem?_push]
          by_cases hi : i = w.heap.size
          · subst hi; simp
          · simp [hi, Ne.symm hi]
        simp only [C] at hsh hfr
        simp only [hsh, Sem.run_bind, run_freeze, hfr, Result.andThen_ok, Sem.run_pure, BS.den_size]
      · simp only [VRel]
        exact ⟨_, _, _, cap, Env.put_same, rfl, Nat.le_refl _, hcap, by simp, by show 0 + 0 + cap * 1 ≤ C.size; omega⟩
      · refine h.new _ (.cells C e (C.size, C.size + 1)) C.size rfl ⟨C, e, (C.size, C.size + 1), rfl, rfl, ?_, ?_, ?_, by simp⟩
        · simp [BS.list, dig_length]; omega
        · intro i v hi
          obtain ⟨X, e1, e2⟩ := (bytes_rel (ρ := ρ) x.list).get hi
          refine ⟨X, ?_, VRel.mono hle _ _ e2⟩
          have hlt : i < x.n := by
            have := (List.getElem?_eq_some_iff.1 hi).1
            simpa [BS.list, dig_length] using this
          have hsz : x.den.data.size = x.n := BS.den_size x
          simp only [C, Nat.zero_add]
          rw [Array.getElem?_append_left (by simpa [hsz] using hlt)]
          have : x.den.data.toList = x.list := rfl
          rw [← Array.getElem?_toList, Array.toList_map, this]
          exact e1
        · intro k hk
          have : decide (C.size ≤ k) = false := by simp; omega
          simp [this]
      · exact ⟨rfl, rfl, rfl, by simp [w'], fun k hk => by simp only [w']; rw [Array.getElem?_push, if_neg (by have := h.le; omega)]⟩
    · cases hq
  · cases hq

theorem SRel.move (h : SRel base ρ s w) {b : Nat} {o : EObj} {x : Blk} (hb : s.heap.get b = some o) (hx : ρ b = some x) (o1 : EObj) (X : Obj) (O1 : Nat) {w' : World} (hw : w'.heap = w.heap.setIfInBounds x.B X)
    (ho : ORel (ρ.put s.next ⟨x.B, O1, x.S⟩) O1 x.S (some X) o1) : SRel base (ρ.put s.next ⟨x.B, O1, x.S⟩) (s.move b o1) w' := by
  have hlt := h.lt hb hx
  have hle := Env.le_put ⟨x.B, O1, x.S⟩ h.fresh
  have hbn : b < s.next := h.dom _ _ hx
  have get : ∀ k v, (s.move b o1).heap.get k = some v → (k = s.next ∧ v = o1) ∨ (k ≠ s.next ∧ k ≠ b ∧ s.heap.get k = some v) := by
    intro k v hk
    simp only [St.move, T.get_set] at hk
    split at hk
    · rename_i e; cases hk; exact .inl ⟨e, rfl⟩
    · rename_i e
      split at hk
      · cases hk
      · rename_i e2; exact .inr ⟨e, e2, hk⟩
  obtain ⟨y, g1, g2, _⟩ := h.obj' hb hx
  rw [hx] at g1; cases g1
  refine ⟨by rw [hw]; simpa using h.le, ?_, ?_, ?_, by simp only [Env.put, St.move]; have := h.top; omega⟩
  · intro k v z hk hz
    rcases get k v hk with ⟨rfl, rfl⟩ | ⟨e1, e2, hk⟩
    · rw [Env.put_same] at hz; cases hz
      exact ⟨g2, by rw [hw]; simpa [hlt] using ho⟩
    · rw [Env.put_ne e1] at hz
      obtain ⟨y, h1, h2, h3⟩ := h.obj' hk hz
      rw [hz] at h1; cases h1
      have h1 := hz
      refine ⟨h2, ?_⟩
      have := h.inj k b _ _ z x hk hb h1 hx e2
      rw [hw, Array.getElem?_setIfInBounds_ne (fun k => this k.symm)]
      exact h3.mono hle
  · intro k k' v v' y y' hk hk' hy hy' hne
    rcases get k v hk with ⟨rfl, rfl⟩ | ⟨e1, e2, g⟩ <;> rcases get k' v' hk' with ⟨rfl, rfl⟩ | ⟨e1', e2', g'⟩
    · exact absurd rfl hne
    · rw [Env.put_same] at hy; cases hy
      rw [Env.put_ne e1'] at hy'
      exact fun e => h.inj k' b _ _ y' x g' hb hy' hx e2' e.symm
    · rw [Env.put_same] at hy'; cases hy'
      rw [Env.put_ne e1] at hy
      exact h.inj k b _ _ y x g hb hy hx e2
    · rw [Env.put_ne e1] at hy
      rw [Env.put_ne e1'] at hy'
      exact h.inj k k' v v' y y' g g' hy hy' hne
  · intro k y hy
    simp only [Env.put] at hy
    show k < s.next + 1
    split at hy
    · omega
    · have := h.dom k y hy; omega

end
end Go.Eng
end

section
namespace Go.Eng
open Go.RowKit (Below)
set_option linter.unusedSimpArgs false
set_option linter.unusedVariables false

noncomputable section
variable (P : Program)
def modE (l : List (V × V × Nat)) (i : Nat) (k v : V) : List (V × V × Nat) :=
  match l, i with
  | [], _ => []
  | e :: l, 0 => (k, v, e.2.2) :: l
  | e :: l, i + 1 => e :: modE l i k v
end

section
variable {P : Program} {base : Nat} {ρ : Env} {s : St} {w : World}

theorem MRel.get : ∀ {l : List (V × V × Nat)} {E : List MapEntry}, MRel ρ l E → ∀ {i : Nat} {e : V × V × Nat}, l[i]? = some e → ∃ x, E[i]? = some x ∧ VRel ρ e.1 x.key ∧ VRel ρ e.2.1 x.val ∧ e.2.2 = x.born
  | [], _, _, i, e, h => by simp at h
  | a :: l, E, hr, i, e, h => by
    obtain ⟨x, y, rfl, h1, h2, h3, h4⟩ := hr
    cases i with
    | zero => simp at h; subst h; exact ⟨x, rfl, h1, h2, h3⟩
    | succ i => simp at h; simpa using MRel.get h4 h

theorem MRel.mod : ∀ {l : List (V × V × Nat)} {E : List MapEntry}, MRel ρ l E → ∀ (i : Nat) {k v : V} {K X : Value}, VRel ρ k K → VRel ρ v X → MRel ρ (modE l i k v) (E.modify i fun e => { e with key := K, val := X })
  | [], E, h, i, k, v, K, X, hk, hv => by have h : E = [] := h; subst h; simp [modE, MRel]
  | a :: l, E, hr, i, k, v, K, X, hk, hv => by
    obtain ⟨x, y, rfl, h1, h2, h3, h4⟩ := hr
    cases i with
    | zero => rw [List.modify_zero_cons]; exact ⟨_, _, rfl, hk, hv, h3, h4⟩
    | succ i => rw [List.modify_succ_cons]; exact ⟨x, _, rfl, h1, h2, h3, MRel.mod h4 i hk hv⟩
end
end Go.Eng
end

section
namespace Go.Eng

inductive EDef where
  | mark (r : Nat)
  | call (f : FuncId) (args cap : List V)

structure Cfg where
  tmps : Frm
  defers : List EDef
  st : St

noncomputable section
def Frm.get (f : Frm) (k : Nat) : V := @Frm.rec (fun _ => V) (fun n t => @Bool.rec (fun _ => V) .undef (t.get k) (Nat.ble (Nat.succ k) n)) f
theorem Frm.get_eq (f : Frm) (k : Nat) : f.get k = bif Nat.blt k f.n then f.t.get k else .undef := by
  cases f with
  | mk n t =>
    show @Bool.rec (fun _ => V) .undef (t.get k) (Nat.blt k n) = _
    cases Nat.blt k n <;> rfl
def evF (f : Frm) (x : Operand) : Option V :=
  @Operand.rec (fun _ => Option V) (fun t => some (f.get t)) (fun v => ofVal v) (fun _ => none) (fun g => some (.fn g [] [])) x
def putE (f : Frm) (d : Option Tmp) (v : V) : Frm :=
  @Option.rec Tmp (fun _ => Frm) f (fun k => @Frm.rec (fun _ => Frm) (fun n t => @Bool.rec (fun _ => Frm) ⟨n, t⟩ ⟨n, B.set v t k⟩ (Nat.ble (Nat.succ k) n)) f) d
theorem putE_some (f : Frm) (k : Tmp) (v : V) : putE f (some k) v = bif Nat.blt k f.n then ⟨f.n, B.set v f.t k⟩ else f := by
  cases f with
  | mk n t =>
    show @Bool.rec (fun _ => Frm) ⟨n, t⟩ ⟨n, B.set v t k⟩ (Nat.blt k n) = _
    cases Nat.blt k n <;> rfl
def hOf : Nat → Nat
  | n => bif Nat.ble n 1 then 0 else bif Nat.ble n 2 then 1 else bif Nat.ble n 4 then 2 else bif Nat.ble n 8 then 3 else bif Nat.ble n 16 then 4 else bif Nat.ble n 32 then 5 else bif Nat.ble n 64 then 6 else bif Nat.ble n 128 then 7 else bif Nat.ble n 256 then 8 else bif Nat.ble n 512 then 9 else bif Nat.ble n 1024 then 10 else 12
def mkFrm (n : Nat) (args : List V) : Frm := ⟨n, B.ofList .undef (hOf n) args⟩
end

inductive EExit where
  | normal
  | exit (id : Nat)
  | ret
  | pan (v : V)

inductive ETgt where
  | fn (f : FuncId) (args : List V)
  | round (l : Nat) (args : List V)

inductive EEnd where
  | ret (v : V)
  | pan (v : V)

inductive EOut where
  | val (v : V)
  | skip
  | enter (t : ETgt)
  | pan (v : V)

abbrev ESelf := ETgt → St → Option (EEnd × St)


mutual
def V.same : V → V → Bool
  | .undef, w => (match w with | .undef => true | _ => false)
  | .bool a, w => (match w with | .bool b => (bif a then b else !b) | _ => false)
  | .int k a, w => (match w with | .int k' b => bif kEq k k' then eqQ a b else false | _ => false)
  | .str s, w => (match w with | .str t => bif Nat.beq s.1 t.1 then Nat.beq s.2 t.2 else false | _ => false)
  | .nilp, w => (match w with | .nilp => true | _ => false)
  | .nils, w => (match w with | .nils => true | _ => false)
  | .slz a, w => (match w with | .slz b => (bif a then b else !b) | _ => false)
  | .nilm, w => (match w with | .nilm => true | _ => false)
  | .nilf, w => (match w with | .nilf => true | _ => false)
  | .nili, w => (match w with | .nili => true | _ => false)
  | .ptr b o, w => (match w with | .ptr b' o' => bif Nat.beq b b' then Nat.beq o o' else false | _ => false)
  | .sl b o l c x e, w => (match w with
    | .sl b' o' l' c' x' e' => bif Nat.beq b b' then bif Nat.beq o o' then bif Nat.beq l l' then bif Nat.beq c c' then bif (bif x then x' else !x') then Nat.beq e e' else false else false else false else false else false
    | _ => false)
  | .map b, w => (match w with | .map b' => Nat.beq b b' | _ => false)
  | .fn f a c, w => (match w with | .fn f' a' c' => bif Nat.beq f f' then bif sameL a a' then sameL c c' else false else false | _ => false)
  | .yld l, w => (match w with | .yld l' => Nat.beq l l' | _ => false)
  | .iface t v, w => (match w with | .iface t' v' => bif Nat.beq t t' then v.same v' else false | _ => false)
  | .agg l, w => (match w with | .agg l' => sameL l l' | _ => false)
  | .tup l, w => (match w with | .tup l' => sameL l l' | _ => false)
  | .it b, w => (match w with | .it b' => Nat.beq b b' | _ => false)
  | .any, _ => false
def sameL : List V → List V → Bool
  | [], w => (match w with | [] => true | _ :: _ => false)
  | v :: l, w => (match w with | [] => false | u :: m => bif v.same u then sameL l m else false)
end

noncomputable section
variable (P : Program)

def bodyOK (f : FuncId) : Bool :=
  match P.funcs[f]? with
  | some fn => !(fn.name == "runtime.NumGoroutine") && fn.body.isSome
  | none => false

def outV : Option (V × St) → Option (EOut × St)
  | some (v, s) => some (.val v, s)
  | none => none
def outS : Option St → Option (EOut × St)
  | some s => some (.skip, s)
  | none => none

def eBuiltin (s : St) (b : Builtin) (ts : Array TypeId) (args : List V) : Option (V × St) :=
  (fun _ : Program => none) P

def eop (s : St) (ev : Operand → Option V) (op : Op) : Option (EOut × St) :=
  match op with
  | .alloc t => outV (eAlloc P s t)
  | .box t x => match ev x with
    | some v => outV (eBox s t v)
    | none => none
  | .store t a x => match ev a, ev x with
    | some av, some v => outS (eStore P s t av v)
    | _, _ => none
  | .convert src dst x => match ev x with
    | some v => outV (eBytes P s src dst v)
    | none => none
  | .panic x => match ev x with
    | some (.iface t v) => some (.pan (.iface t v), s)
    | _ => none
  | .call c => match c.callee with
    | .builtin b => match evalOs ev c.args.toList with
      | some vs => outV (eBuiltin P s b c.argTypes vs)
      | none => none
    | .value f => match ev f, evalOs ev c.args.toList with
      | some (.fn g first cap), some vs => bif bodyOK P g then some (.enter (.fn g (lapp (lapp first vs) cap)), s) else none
      | some (.yld l), some vs => match s.heap.get l with
        | some (.loop r) => bif Nat.beq (llen vs) (llen r.params) then some (.enter (.round l vs), s) else none
        | _ => none
      | _, _ => none
    | _ => none
  | _ => none

def opE (s : St) (ev : Operand → Option V) (op : Op) : Option (EOut × St) :=
  match qop P s ev op with
  | some v => some (.val v, s)
  | none => eop P s ev op

inductive OpF where
  | mk (f : St → (Operand → Option V) → Option (EOut × St))
inductive BinF where
  | mk (f : IntKind → Int → Int → Option V)

def toOut (s : St) : Option V → Option (EOut × St)
  | some v => some (.val v, s)
  | none => none

def binF (op : BinOp) : BinF :=
  match op with
  | .add => .mk fun k a b => some (.int k (wrapQ k (a + b)))
  | .sub => .mk fun k a b => some (.int k (wrapQ k (a - b)))
  | .mul => .mk fun k a b => some (.int k (wrapQ k (a * b)))
  | .and => .mk fun k a b => some (.int k (wrapQ k (.ofNat (Nat.land (ofI k a) (ofI k b)))))
  | .or => .mk fun k a b => some (.int k (wrapQ k (.ofNat (Nat.lor (ofI k a) (ofI k b)))))
  | .xor => .mk fun k a b => some (.int k (wrapQ k (.ofNat (Nat.xor (ofI k a) (ofI k b)))))
  | .eql => .mk fun _ a b => some (.bool (eqQ a b))
  | .neq => .mk fun _ a b => some (.bool (!eqQ a b))
  | .lss => .mk fun _ a b => some (.bool (ltQ a b))
  | .leq => .mk fun _ a b => some (.bool (!ltQ b a))
  | .gtr => .mk fun _ a b => some (.bool (ltQ b a))
  | .geq => .mk fun _ a b => some (.bool (!ltQ a b))
  | .quo => .mk (intBin .quo)
  | .rem => .mk (intBin .rem)
  | .andNot => .mk (intBin .andNot)
  | .shl => .mk fun _ _ _ => none
  | .shr => .mk fun _ _ _ => none
def binG (op : BinOp) (k : IntKind) (a b : Int) : Option V := match binF op with | .mk f => f k a b
theorem binG_eq (op : BinOp) (k : IntKind) (a b : Int) : binG op k a b = intBin op k a b := by cases op <;> rfl

def cBinI (op : BinOp) (t : TypeId) (s : St) (v u : V) : Option V :=
  match v with
  | .int k x => match u with
    | .int k' y => bif kEq k k' then binG op k x y else none
    | _ => qBin P s op t (.int k x) u
  | _ => qBin P s op t v u
def cBin (op : BinOp) (t : TypeId) (x y : Operand) (s : St) (ev : Operand → Option V) : Option (EOut × St) :=
  match ev x with
  | some a => match ev y with
    | some b => toOut s (cBinI P op t s a b)
    | none => none
  | none => none
def cShift (op : BinOp) (t : TypeId) (x y : Operand) (s : St) (ev : Operand → Option V) : Option (EOut × St) :=
  match ev x with
  | some a => match ev y with
    | some b => toOut s (qBin P s op t a b)
    | none => none
  | none => none
def cLoad (t : TypeId) (x : Operand) (s : St) (ev : Operand → Option V) : Option (EOut × St) :=
  match ev x with
  | some a => toOut s (qLoad P s t a)
  | none => none
def cStore (t : TypeId) (x y : Operand) (s : St) (ev : Operand → Option V) : Option (EOut × St) :=
  match ev x with
  | some a => match ev y with
    | some b => outS (eStore P s t a b)
    | none => none
  | none => none
def cIndexAddr (t : TypeId) (x y : Operand) (s : St) (ev : Operand → Option V) : Option (EOut × St) :=
  match ev x with
  | some a => match ev y with
    | some b => toOut s (qIndexAddr P t a b)
    | none => none
  | none => none
def cIndex (t : TypeId) (x y : Operand) (s : St) (ev : Operand → Option V) : Option (EOut × St) :=
  match ev x with
  | some a => match ev y with
    | some b => toOut s (qIndex P t a b)
    | none => none
  | none => none
def cFieldAddr (t : TypeId) (x : Operand) (i : Nat) (s : St) (ev : Operand → Option V) : Option (EOut × St) :=
  match ev x with
  | some a => toOut s (qFieldAddr P t a i)
  | none => none
def cUn (op : UnOp) (x : Operand) (s : St) (ev : Operand → Option V) : Option (EOut × St) :=
  match ev x with
  | some a => toOut s (qUn op a)
  | none => none
def cConv (src dst : TypeId) (x : Operand) (s : St) (ev : Operand → Option V) : Option (EOut × St) :=
  match ev x with
  | some a => match qConv P s src dst a with
    | some v => some (.val v, s)
    | none => outV (eBytes P s src dst a)
  | none => none
def cPick (c a b : Operand) (s : St) (ev : Operand → Option V) : Option (EOut × St) :=
  match ev c with
  | some (.bool true) => toOut s (ev a)
  | some (.bool false) => toOut s (ev b)
  | _ => none
def cCall (c : Call) (s : St) (ev : Operand → Option V) : Option (EOut × St) := opE P s ev (.call c)
def cAny (op : Op) (s : St) (ev : Operand → Option V) : Option (EOut × St) := opE P s ev op

def isShift : BinOp → Bool
  | .shl | .shr => true
  | _ => false
def compOp (op : Op) : OpF :=
  match op with
  | .move x => .mk fun s ev => toOut s (ev x)
  | .assign x => .mk fun s ev => toOut s (ev x)
  | .pick c a b => .mk (cPick c a b)
  | .load t a => .mk (cLoad P t a)
  | .store t a x => .mk (cStore P t a x)
  | .binOp op t x y _ => bif isShift op then .mk (cShift P op t x y) else .mk (cBin P op t x y)
  | .unOp op _ x => .mk (cUn op x)
  | .convert src dst x => .mk (cConv P src dst x)
  | .fieldAddr t x f => .mk (cFieldAddr P t x f)
  | .indexAddr t x i => .mk (cIndexAddr P t x i)
  | .index t x i => .mk (cIndex P t x i)
  | .call c => .mk (cCall P c)
  | op => .mk (cAny P op)
def runOpF (f : OpF) (s : St) (ev : Operand → Option V) : Option (EOut × St) := match f with | .mk f => f s ev

inductive StepF where
  | mk (g : Option (Option Tmp × Bool)) (d : Option Tmp) (f : St → (Operand → Option V) → Option (EOut × St))
def guardOf (ops : Array Oper) (o : Oper) : Option (Option Tmp × Bool) :=
  match o.guard with
  | none => none
  | some (j, want) => match ops[j]? with
    | some o' => some (o'.dst, want)
    | none => some (none, want)
def compStep (ops : Array Oper) (o : Oper) : StepF :=
  match compOp P o.op with
  | .mk f => .mk (guardOf ops o) o.dst f
def compOps (ops : Array Oper) (l : List Oper) : List StepF := @List.rec Oper (fun _ => List StepF) [] (fun o _ ih => compStep P ops o :: ih) l

def wantedE (g : Option (Option Tmp × Bool)) (f : Frm) : Bool :=
  match g with
  | none => true
  | some (some d, want) => match f.get d with
    | .bool b => bif want then b else !b
    | _ => false
  | some (none, _) => false

def nextE (self : ESelf) (d : Option Tmp) (rest : Cfg → Option (EExit × Cfg)) (f : Frm) (ds : List EDef) : Option (EOut × St) → Option (EExit × Cfg)
  | some (.val v, s) => rest ⟨putE f d v, ds, s⟩
  | some (.skip, s) => rest ⟨putE f d .undef, ds, s⟩
  | some (.pan v, s) => some (.pan v, ⟨f, ds, s⟩)
  | some (.enter t, s) => match self t s with
    | some (.ret v, s') => rest ⟨putE f d v, ds, s'⟩
    | some (.pan v, s') => some (.pan v, ⟨f, ds, s'⟩)
    | none => none
  | none => none
def stepE (self : ESelf) (rest : Cfg → Option (EExit × Cfg)) (x : StepF) (c : Cfg) : Option (EExit × Cfg) :=
  match x with
  | .mk g d f => match c with
    | ⟨fr, ds, s⟩ => bif wantedE g fr then nextE self d rest fr ds (f s (evF fr)) else rest ⟨putE fr d .undef, ds, s⟩
def runOps (self : ESelf) (l : List StepF) : Cfg → Option (EExit × Cfg) :=
  @List.rec StepF (fun _ => Cfg → Option (EExit × Cfg)) (fun c => some (.normal, c)) (fun x _ ih => stepE self ih x) l

def iterE (body : Cfg → Option (EExit × Cfg)) (n : Nat) : Cfg → Option (EExit × Cfg) :=
  @Nat.rec (fun _ => Cfg → Option (EExit × Cfg)) (fun _ => none) (fun _ ih c => match body c with
    | some (.normal, c') => ih c'
    | r => r) n

def jumpE : Option Code → Option EExit
  | none => some .normal
  | some .ret => some .ret
  | some (.exit id) => some (.exit id)
  | _ => none

def rangeE (self : ESelf) (round : Option Nat) (f : Operand) (ps : Array Tmp) (assign body : Code) (c : Cfg) : Option (EExit × Cfg) :=
  match (match round with
    | none => some ((c.st.new (.dfr false)), c.st.next, [EDef.mark c.st.next])
    | some l0 => match c.st.heap.get l0 with
      | some (.loop r) => some (c.st, r.defers, [])
      | _ => none : Option (St × Nat × List EDef)) with
  | none => none
  | some (s1, d, marks) =>
    match evF c.tmps f with
    | some (.fn g first cap) =>
      bif bodyOK P g then
        match self (.fn g (lapp (lapp first [.yld s1.next]) cap)) (s1.new (.loop ⟨.ready, none, c.tmps, ps.toList, assign, body, d⟩)) with
        | some (.ret _, s2) => match s2.heap.get s1.next with
          | some (.loop r) => match r.state with
            | .busy => none
            | _ => match jumpE r.pending with
              | some e => some (e, ⟨c.tmps, marks ++ c.defers, s2.upd s1.next (.loop { r with state := .exhausted })⟩)
              | none => none
          | _ => none
        | some (.pan v, s2) => some (.pan v, ⟨c.tmps, marks ++ c.defers, s2⟩)
        | none => none
      else none
    | _ => none

def seqE (a b : Cfg → Option (EExit × Cfg)) (c : Cfg) : Option (EExit × Cfg) :=
  match a c with
  | some (.normal, c') => b c'
  | r => r
def condE (x : Operand) (a b : Cfg → Option (EExit × Cfg)) (c : Cfg) : Option (EExit × Cfg) :=
  match evF c.tmps x with
  | some (.bool true) => a c
  | some (.bool false) => b c
  | _ => none
def blockE (id : Nat) (b : Cfg → Option (EExit × Cfg)) (c : Cfg) : Option (EExit × Cfg) :=
  match b c with
  | some (.exit id', c') => bif Nat.beq id' id then some (.normal, c') else some (.exit id', c')
  | r => r
def tbQ (m i : Nat) : Bool := Nat.beq (Nat.mod (Nat.div m (Nat.pow 2 i)) 2) 1
def ogetN : Option Nat → Nat
  | some n => n
  | none => 0
def hasN (d : Nat) : List Nat → Bool
  | [] => false
  | x :: l => bif Nat.beq x d then true else hasN d l
def evL (L : List Tmp) (f : Frm) (x : Operand) : Option V :=
  match x with
  | .tmp t => bif hasN t L then some (f.get t) else none
  | .const v => ofVal v
  | .global _ => none
  | .func g => some (.fn g [] [])

structure DRec where
  i : Nat
  o : Oper
  f : Frm
  s : St
  v : V
  q : Bool
  eff : Option St
  mb : Option Nat

def mkQ (ev : Operand → Option V) (op : Op) : Option Mk :=
  match op with
  | .alloc t => mAlloc P t
  | .box t x => match ev x with
    | some v => mBox t v
    | none => none
  | .buildSlice t len parts => match evalParts ev parts.toList with
    | some ps => mBuildSlice P t len ps
    | none => none
  | .makeSlice t l c => match ev l, ev c with
    | some lv, some cv => mMakeSlice P t lv cv
    | _, _ => none
  | _ => none
def Mk.isAt (m : Mk) (o : Option EObj) : Bool :=
  match m with
  | .mk cs t _ => match o with
    | some (.cells cs' t' false) => bif Nat.beq t t' then sameL cs cs' else false
    | _ => false
def qopM (mb : Option Nat) (s : St) (ev : Operand → Option V) (op : Op) : Option V :=
  match mb with
  | none => qop P s ev op
  | some b => match mkQ P ev op with
    | some m => bif m.isAt (s.heap.get b) then some (m.val b) else none
    | none => none
def findM (i : Nat) : List (Nat × Nat) → Option Nat
  | [] => none
  | e :: l => bif Nat.beq e.1 i then some e.2 else findM i l
def opOut (self : ESelf) : Option (EOut × St) → Option (V × St)
  | some (.val v, s) => some (v, s)
  | some (.skip, s) => some (.undef, s)
  | some (.enter t, s) => match self t s with
    | some (.ret v, s') => some (v, s')
    | _ => none
  | _ => none
def drawStep (self : ESelf) (ops : Array Oper) (mb : Option Nat) (i : Nat) (o : Oper) (f : Frm) (s : St) : Option DRec :=
  bif wantedE (guardOf ops o) f then
    match qopM P mb s (evL (o.looksAt ops) f) o.op with
    | some v => some ⟨i, o, f, s, v, true, none, mb⟩
    | none => match mb with
      | some _ => none
      | none => match opOut self (eop P s (evL (o.looksAt ops) f) o.op) with
        | some (v, s') => some ⟨i, o, f, s, v, false, some s', none⟩
        | none => none
  else some ⟨i, o, f, s, .undef, false, none, mb⟩
def effs : List DRec → List (Nat × St)
  | [] => []
  | r :: l => match r.eff with
    | some s => (r.i, s) :: effs l
    | none => effs l
def lastS (s : St) : List (Nat × St) → St
  | [] => s
  | e :: l => lastS e.2 l
where beforeE (A : List Nat) (i : Nat) : List (Nat × St) → Bool
  | [] => true
  | e :: l => tbQ (ogetN (lget A e.1)) i && beforeE A i l
def finF (f : Frm) : List DRec → Frm
  | [] => f
  | r :: l => finF (putE f r.o.dst r.v) l
def opPan (self : ESelf) : Option (EOut × St) → Option (V × St)
  | some (.pan v, s) => some (v, s)
  | some (.enter t, s) => match self t s with
    | some (.pan v, s') => some (v, s')
    | _ => none
  | _ => none
def anyF (f : Frm) : List Oper → Frm
  | [] => f
  | o :: l => anyF (putE f o.dst .any) l
def hasDefer : List Oper → Bool
  | [] => false
  | o :: l => match o.op with
    | .defer _ => true
    | _ => hasDefer l
def regionE (self : ESelf) (round : Option Nat) (ops : Array Oper) (draw : Bool) (c : Cfg) : Option (EExit × Cfg) :=
  match draw with
  | false => bif hasDefer ops.toList then none else runOps self (compOps P ops ops.toList) c
  | true => none
inductive CodeF where
  | mk (f : Cfg → Option (EExit × Cfg))
def runF (f : CodeF) (c : Cfg) : Option (EExit × Cfg) := match f with | .mk f => f c
def compC (self : ESelf) (fuel : Nat) (round : Option Nat) (x : Code) : CodeF :=
  @Code.rec (fun _ => CodeF)
    (.mk fun c => some (.normal, c))
    (fun _ ops draw => .mk (regionE P self round ops draw))
    (fun _ _ ia ib => .mk (seqE (runF ia) (runF ib)))
    (fun x _ _ ia ib => .mk (condE x (runF ia) (runF ib)))
    (fun id _ ib => .mk (blockE id (runF ib)))
    (fun _ ib => .mk (iterE (runF ib) fuel))
    (fun f ps assign body _ _ => .mk (rangeE P self round f ps assign body))
    (fun id => .mk fun c => some (.exit id, c))
    (fun _ ib => .mk (runF ib))
    (fun _ => .mk fun c => some (.normal, c))
    (fun _ => .mk fun _ => none)
    (.mk fun c => some (.ret, c))
    (fun _ => .mk fun _ => none) x
def runCode (self : ESelf) (fuel : Nat) (round : Option Nat) (x : Code) (c : Cfg) : Option (EExit × Cfg) := runF (compC P self fuel round x) c

def setParams : Frm → List Tmp → List V → Frm
  | t, p :: ps, v :: vs => setParams (putE t (some p) v) ps vs
  | t, _, _ => t

def runRound (self : ESelf) (fuel : Nat) (l : Nat) (args : List V) (s : St) : Option (EEnd × St) :=
  match s.heap.get l with
  | some (.loop r) =>
    match runCode P self fuel (some l) r.assign ⟨setParams r.tmps r.params args, [], s⟩ with
    | some (.normal, c1) => match c1.st.heap.get l with
      | some (.loop r1) => match r1.state with
        | .ready =>
          match runCode P self fuel (some l) r.body ⟨c1.tmps, c1.defers, c1.st.upd l (.loop { r1 with state := .busy })⟩ with
          | some (e, c2) => match c2.st.heap.get l with
            | some (.loop r2) => match e with
              | .normal => some (.ret (.bool true), c2.st.upd l (.loop { r2 with state := .ready, pending := none }))
              | .ret => some (.ret (.bool false), c2.st.upd l (.loop { r2 with state := .done, pending := some .ret }))
              | .exit id => some (.ret (.bool false), c2.st.upd l (.loop { r2 with state := .done, pending := some (.exit id) }))
              | .pan _ => none
            | _ => none
          | none => none
        | _ => none
      | _ => none
    | _ => none
  | _ => none

def resultsE (s : St) (f : Frm) : List ResultVar → Option (List V)
  | [] => some []
  | .tmp t :: l => match resultsE s f l with
    | some r => match f.get t with
      | .any => none
      | v => some (v :: r)
    | none => none
  | .cell a t :: l => match qLoad P s t (f.get a) with
    | some v => match resultsE s f l with
      | some r => some (v :: r)
      | none => none
    | none => none
def resultE (s : St) (f : Frm) (rs : List ResultVar) : Option V :=
  match resultsE P s f rs with
  | some [v] => some v
  | some l => some (match l with | [] => .undef | _ => .tup l)
  | none => none

abbrev DM := Option (V × Bool)
inductive DCodeF where
  | mk (f : Cfg → DM → Option (EExit × Cfg × DM))
def runD (f : DCodeF) (c : Cfg) (m : DM) : Option (EExit × Cfg × DM) := match f with | .mk f => f c m
def withD (m : DM) : Option (EExit × Cfg) → Option (EExit × Cfg × DM)
  | some (.pan _, _) => none
  | some (e, c) => some (e, c, m)
  | none => none
def isRec : Op → Bool
  | .call cl => match cl.callee with
    | .builtin .recover => cl.args.isEmpty
    | _ => false
  | _ => false
def hasRec : List Oper → Bool
  | [] => false
  | o :: l => bif isRec o.op then true else hasRec l
def recE : List Oper → Cfg → DM → Option (EExit × Cfg × DM)
  | [], c, m => some (.normal, c, m)
  | o :: l, c, m => match o.guard with
    | some _ => none
    | none => bif isRec o.op then (match m with
        | some (v, false) => recE l ⟨putE c.tmps o.dst v, c.defers, c.st⟩ (some (v, true))
        | m => recE l ⟨putE c.tmps o.dst .nili, c.defers, c.st⟩ m) else
      match qop P c.st (evF c.tmps) o.op with
        | some v => recE l ⟨putE c.tmps o.dst v, c.defers, c.st⟩ m
        | none => none
def seqD (a b : Cfg → DM → Option (EExit × Cfg × DM)) (c : Cfg) (m : DM) : Option (EExit × Cfg × DM) :=
  match a c m with
  | some (.normal, c', m') => b c' m'
  | r => r
def condD (x : Operand) (a b : Cfg → DM → Option (EExit × Cfg × DM)) (c : Cfg) (m : DM) : Option (EExit × Cfg × DM) :=
  match evF c.tmps x with
  | some (.bool true) => a c m
  | some (.bool false) => b c m
  | _ => none
def compD (self : ESelf) (fuel : Nat) (x : Code) : DCodeF :=
  @Code.rec (fun _ => DCodeF)
    (.mk fun c m => withD m (runCode P self fuel none .skip c))
    (fun id ops draw => .mk fun c m => match draw with
      | false => bif hasRec ops.toList then recE P ops.toList c m else withD m (runCode P self fuel none (.region id ops false) c)
      | true => withD m (runCode P self fuel none (.region id ops true) c))
    (fun _ _ ia ib => .mk (seqD (runD ia) (runD ib)))
    (fun x _ _ ia ib => .mk (condD x (runD ia) (runD ib)))
    (fun id b _ => .mk fun c m => withD m (runCode P self fuel none (.block id b) c))
    (fun b _ => .mk fun c m => withD m (runCode P self fuel none (.loop b) c))
    (fun f ps assign body _ _ => .mk fun c m => withD m (runCode P self fuel none (.rangeFunc f ps assign body) c))
    (fun id => .mk fun c m => withD m (runCode P self fuel none (.exit id) c))
    (fun b _ => .mk fun c m => withD m (runCode P self fuel none (.scope b) c))
    (fun l => .mk fun c m => withD m (runCode P self fuel none (.label l) c))
    (fun l => .mk fun c m => withD m (runCode P self fuel none (.goto l) c))
    (.mk fun c m => withD m (runCode P self fuel none .ret c))
    (fun why => .mk fun c m => withD m (runCode P self fuel none (.refuse why) c)) x
def runDef (self : ESelf) (fuel : Nat) (g : FuncId) (args : List V) (m : DM) (s : St) : Option (DM × St) :=
  match P.funcs[g]? with
  | some fn => match fn.body with
    | some c => bif !(Nat.ble (llen args) fn.ntmps && Nat.ble fn.ntmps 4096) then none else match runD (compD P self fuel c) ⟨mkFrm fn.ntmps args, [], s⟩ m with
      | some (e, c', m') => match e with
        | .normal | .ret => match c'.defers with
          | [] => match resultE P c'.st c'.tmps fn.results.toList with
            | some _ => some (m', c'.st)
            | none => none
          | _ :: _ => none
        | _ => none
      | none => none
    | none => none
  | none => none
def settleE : DM → DM
  | some (_, true) => none
  | m => m

def leaveE (self : ESelf) (fuel : Nat) (fn : Func) (tmps : Frm) (pan : DM) : List EDef → St → Option (EEnd × St)
  | [], s => match pan with
    | some (v, false) => some (.pan v, s)
    | some (_, true) => none
    | none => match resultE P s tmps fn.results.toList with
      | some v => some (.ret v, s)
      | none => none
  | .mark r :: ds, s => match s.heap.get r with
    | some (.dfr false) => leaveE self fuel fn tmps pan ds (s.upd r (.dfr true))
    | _ => none
  | .call g args cap :: ds, s => bif bodyOK P g then (match runDef P self fuel g (lapp args cap) pan s with
    | some (m, s') => leaveE self fuel fn tmps (settleE m) ds s'
    | none => none) else none

def runFn (self : ESelf) (fuel : Nat) (f : FuncId) (args : List V) (s : St) : Option (EEnd × St) :=
  match P.funcs[f]? with
  | some fn => match fn.body with
    | some c => bif !(Nat.ble (llen args) fn.ntmps && Nat.ble fn.ntmps 4096) then none else match runCode P self fuel none c ⟨mkFrm fn.ntmps args, [], s⟩ with
      | some (.normal, c') => leaveE P self fuel fn c'.tmps none c'.defers c'.st
      | some (.ret, c') => leaveE P self fuel fn c'.tmps none c'.defers c'.st
      | some (.pan v, c') => leaveE P self fuel fn c'.tmps (some (v, false)) c'.defers c'.st
      | _ => none
    | none => none
  | none => none

def runT (self : ESelf) (fuel : Nat) : ESelf
  | .fn f args, s => runFn P self fuel f args s
  | .round l args, s => runRound P self fuel l args s

def callE (known : ESelf) (fuel : Nat) (d : Nat) : ESelf :=
  @Nat.rec (fun _ => ESelf) (fun _ _ => none) (fun _ ih t s => match known t s with
    | some r => some r
    | none => runT P ih fuel t s) d
end
end Go.Eng
end

section
namespace Go.Eng
open Go.RowKit (Below)
set_option linter.unusedSimpArgs false
set_option linter.unusedVariables false

def DRel (ρ : Env) : List EDef → List Deferred → Prop
  | [], D => D = []
  | .mark r :: l, D => ∃ x Y, ρ r = some x ∧ D = { target := .collected x.B, args := #[] } :: Y ∧ DRel ρ l Y
  | .call f a c :: l, D => ∃ (A C : Array Value) (Y : List Deferred), D = { target := .fn (.func f) C, args := A } :: Y ∧ LRel ρ a A.toList ∧ LRel ρ c C.toList ∧ DRel ρ l Y
theorem DRel.up {ρ ρ' : Env} (h : ρ.sub ρ') : ∀ {l : List EDef} {D : List Deferred}, DRel ρ l D → DRel ρ' l D
  | [], _, r => r
  | .mark _ :: _, _, r => by obtain ⟨x, Y, h1, h2, h3⟩ := r; exact ⟨x, Y, h _ _ h1, h2, h3.up h⟩
  | .call .. :: _, _, r => by obtain ⟨A, C, Y, h1, h2, h3, h4⟩ := r; exact ⟨A, C, Y, h1, LRel.up h _ _ h2, LRel.up h _ _ h3, h4.up h⟩
theorem DRel.mono {ρ ρ' : Env} (h : ρ.le ρ') {l : List EDef} {D : List Deferred} (r : DRel ρ l D) : DRel ρ' l D := DRel.up h.sub r

def XRel (ρ : Env) : EExit → Exit → Prop
  | .normal, E => E = .normal
  | .exit id, E => E = .exit id
  | .ret, E => E = .ret
  | .pan v, E => ∃ X, E = .panic [{ v := X, recovered := false }] ∧ VRel ρ v X
def NRel (ρ : Env) : EEnd → Ending → Prop
  | .ret v, E => ∃ X, E = .returned X ∧ VRel ρ v X
  | .pan v, E => ∃ X, E = .panicked [{ v := X, recovered := false }] ∧ VRel ρ v X

def RF (round : Option Nat) : Fence := { Fence.wide with round := round }
theorem RF_fn (r : Option Nat) (f : FuncId) : (RF r).fn f := trivial
theorem RF_depth (r : Option Nat) : (RF r).depth = none := rfl

def Post (base : Nat) (ρ : Env) (w : World) (e : EEnd) (s' : St) : Ending → World → Prop :=
  fun E w' => ∃ ρ', ρ.le ρ' ∧ NRel ρ' e E ∧ SRel base ρ' s' w' ∧ Below base w w'
def FX (ρ : Env) (e : EExit) (f : Frm) (A : Array Value) : Prop :=
  match e with
  | .pan _ => FRelA ρ f A
  | _ => FRel ρ f A
theorem FRel.toX {ρ : Env} {f : Frm} {A : Array Value} (r : FRel ρ f A) : ∀ e, FX ρ e f A
  | .pan _ => r.toA
  | .normal => r
  | .exit _ => r
  | .ret => r
def CPost (base : Nat) (ρ : Env) (w : World) (e : EExit) (c' : Cfg) : Exit → Act → World → Prop :=
  fun E A' w' => ∃ ρ', ρ.le ρ' ∧ XRel ρ' e E ∧ FX ρ' e c'.tmps A'.tmps ∧ DRel ρ' c'.defers A'.defers ∧ SRel base ρ' c'.st w' ∧ Below base w w'

def SelfOK (P : Program) (self : ESelf) : Prop := ∀ t s e s', self t s = some (e, s') → ∀ base ρ w, SRel base ρ s w → ∀ n : Nat,
  match t with
  | .fn f args => ∀ A : Array Value, LRel ρ args A.toList → CallsIn Fence.wide n P f A w (Post base ρ w e s')
  | .round l args => ∀ (x : Blk) (L : Loop) (A : Array Value), ρ l = some x → w.heap[x.B]? = some (.loop L) → LRel ρ args A.toList → A.size = L.params.size →
      RoundIn Fence.wide n P x.B L.fn ((L.params.zip A).foldl (fun tmps (t, a) => tmps.setIfInBounds t a) L.tmps) L.assign L.body w (Post base ρ w e s')

def NextRel (base : Nat) (ρ : Env) (s : St) (w : World) (s' : St) (r : Result Next) : EOut → Prop
  | .val v => ∃ ρ' X w', ρ.le ρ' ∧ r = .ok (.value X) w' ∧ VRel ρ' v X ∧ SRel base ρ' s' w' ∧ Below base w w'
  | .skip => ∃ w', r = .ok .skip w' ∧ SRel base ρ s' w' ∧ Below base w w'
  | .pan v => s' = s ∧ ∃ X, r = .halt (.panic X) w ∧ VRel ρ v X
  | .enter (.fn f args) => s' = s ∧ ∃ A, r = .ok (.enter f A) w ∧ LRel ρ args A.toList
  | .enter (.round l args) => s' = s ∧ ∃ (x : Blk) (L : Loop) (A : Array Value), ρ l = some x ∧ w.heap[x.B]? = some (.loop L) ∧ LRel ρ args A.toList ∧ A.size = L.params.size ∧
      r = .ok (.round x.B L.fn ((L.params.zip A).foldl (fun tmps (t, a) => tmps.setIfInBounds t a) L.tmps) L.assign L.body) w

section
variable {P : Program} {base : Nat} {ρ : Env} {s : St} {w : World}

theorem FRel.get {f : Frm} {A : Array Value} (h : FRel ρ f A) (k : Nat) : VRel ρ (f.get k) (A.getD k undef) := by
  obtain ⟨h1, d, h2, h3, h4⟩ := h
  rw [Frm.get_eq, blt_iff, Array.getD_eq_getD_getElem?]
  by_cases hk : k < f.n
  · rw [decide_eq_true hk]
    have hk' : k < A.size := by omega
    have := h4 k A[k] (Array.getElem?_eq_getElem hk')
    rw [Array.getElem?_eq_getElem hk']
    exact this
  · rw [decide_eq_false hk]
    have hk' : A.size ≤ k := by omega
    rw [Array.getElem?_eq_none hk']
    show VRel ρ .undef (.tuple #[])
    simp only [VRel]

theorem evF_rel {f : Frm} {A : Act} (h : FRel ρ f A.tmps) : EvRel ρ (evF f) A := by
  intro x v hv
  cases x with
  | tmp t =>
    have hv : some (f.get t) = some v := hv
    cases hv
    exact h.get t
  | const c => exact ofVal_rel hv
  | global g => cases hv
  | func g =>
    have hv : some (V.fn g [] []) = some v := hv
    cases hv
    simp only [VRel, Act.eval]
    exact ⟨#[], #[], rfl, rfl, rfl⟩

theorem FRel.set {f : Frm} {A : Array Value} (h : FRel ρ f A) {v : V} {X : Value} (hv : VRel ρ v X) (k : Nat) : FRel ρ (putE f (some k) v) (A.setIfInBounds k X) := by
  obtain ⟨h1, d, h2, h3, h4⟩ := h
  rw [putE_some, blt_iff]
  by_cases hk : k < f.n
  · rw [decide_eq_true hk]
    refine ⟨by simpa using h1, d, B.set_full _ _ _ _ h2, h3, fun i Y hi => ?_⟩
    show VRel ρ ((B.set v f.t k).get i) Y
    have hi' : i < A.size := by
      have := (Array.getElem?_eq_some_iff.1 hi).1
      simpa using this
    rw [B.get_set v f.t d k i h2 (by omega) (by omega)]
    rw [Array.getElem?_setIfInBounds] at hi
    by_cases e : k = i
    · subst e
      simp only [if_true, hi'] at hi
      cases hi
      simpa using hv
    · rw [if_neg e] at hi
      rw [if_neg (fun e' => e e'.symm)]
      exact h4 i Y hi
  · rw [decide_eq_false hk]
    have : A.setIfInBounds k X = A := by
      apply Array.ext_getElem?
      intro i
      rw [Array.getElem?_setIfInBounds]
      split
      · rename_i e; subst e
        rw [if_neg (by omega), Array.getElem?_eq_none (by omega)]
      · rfl
    rw [this]
    exact ⟨h1, d, h2, h3, h4⟩
theorem putE_rel {f : Frm} {A : Act} (h : FRel ρ f A.tmps) {v : V} {X : Value} (hv : VRel ρ v X) (d : Option Tmp) : FRel ρ (putE f d v) (A.put d X).tmps := by
  cases d with
  | none => exact h
  | some k => exact h.set hv k
theorem put_defers (A : Act) (d : Option Tmp) (X : Value) : (A.put d X).defers = A.defers := by cases d <;> rfl

theorem wanted_rel {f : Frm} {A : Act} (h : FRel ρ f A.tmps) (ops : Array Oper) (o : Oper) : wantedE (guardOf ops o) f = Region.wanted o (yielded ops A.tmps) := by
  unfold guardOf Region.wanted
  cases hg : o.guard with
  | none => rfl
  | some p =>
    obtain ⟨j, want⟩ := p
    simp only
    cases ho : ops[j]? with
    | none => simp [wantedE, yielded, ho]
    | some o' =>
      simp only
      cases hd : o'.dst with
      | none => simp [wantedE, yielded, ho, hd]
      | some d =>
        obtain ⟨h1, dd, h2, h3, h4⟩ := h
        simp only [wantedE, yielded, ho, hd, Option.bind_some, Frm.get_eq, blt_iff]
        by_cases hk : d < f.n
        · rw [decide_eq_true hk]
          have hk' : d < A.tmps.size := h1 ▸ hk
          have hv := h4 d A.tmps[d] (Array.getElem?_eq_getElem hk')
          rw [Array.getElem?_eq_getElem hk']
          simp only [cond_true]
          generalize A.tmps[d] = X at hv
          generalize f.t.get d = v at hv
          cases v <;> simp only [VRel] at hv
          case bool b => subst hv; cases want <;> cases b <;> rfl
          all_goals first
            | (subst hv; rfl)
            | (obtain ⟨_, _, _, _, rfl⟩ := hv; rfl)
            | (obtain ⟨_, _, _, _, _, rfl, _⟩ := hv; rfl)
            | (obtain ⟨_, _, rfl⟩ := hv; rfl)
            | (obtain ⟨_, _, rfl, _⟩ := hv; rfl)
            | (obtain ⟨_, rfl, _⟩ := hv; rfl)
        · rw [decide_eq_false hk]
          have hk' : A.tmps.size ≤ d := Nat.le_of_not_lt (h1 ▸ hk)
          rw [Array.getElem?_eq_none hk']
          rfl

theorem outV_some {x : Option (V × St)} {o : EOut} {s' : St} (h : outV x = some (o, s')) : ∃ v, x = some (v, s') ∧ o = .val v := by
  cases x with
  | none => cases h
  | some p => obtain ⟨v, t⟩ := p; cases h; exact ⟨v, rfl, rfl⟩
theorem outS_some {x : Option St} {o : EOut} {s' : St} (h : outS x = some (o, s')) : x = some s' ∧ o = .skip := by
  cases x with
  | none => cases h
  | some p => cases h; exact ⟨rfl, rfl⟩

theorem NextRel.ofV {m : Sem Value} {v : V} {s' : St} (h : OKv P base ρ m w v s') : NextRel base ρ s w s' ((do pure (.value (← m)) : Sem Next).run P w) (.val v) := by
  obtain ⟨ρ', X, w', h1, h2, h3⟩ := h
  exact ⟨ρ', X, w', h1, by simp [h2], h3⟩
theorem NextRel.ofU {m : Sem Unit} {s' : St} (h : ∃ w', m.run P w = .ok () w' ∧ SRel base ρ s' w' ∧ Below base w w') : NextRel base ρ s w s' ((do m; pure .skip : Sem Next).run P w) .skip := by
  obtain ⟨w', h1, h2, h3⟩ := h
  exact ⟨w', by simp [h1], h2, h3⟩

theorem bodyOK_spec {f : FuncId} (h : bodyOK P f = true) : ∃ fn, P.funcs[f]? = some fn ∧ (fn.name == "runtime.NumGoroutine") = false ∧ fn.body.isNone = false := by
  unfold bodyOK at h
  split at h
  · rename_i fn hf
    simp only [Bool.and_eq_true, Bool.not_eq_true'] at h
    refine ⟨fn, hf, h.1, ?_⟩
    cases hb : fn.body with
    | none => rw [hb] at h; cases h.2
    | some c => rfl
  · cases h

theorem run_callFunc {f : FuncId} (h : bodyOK P f = true) (A : Array Value) : (callFunc f A).run P w = .ok (.enter f A) w := by
  obtain ⟨fn, h1, h2, h3⟩ := bodyOK_spec h
  simp only [callFunc, Sem.run_bind, run_program, Result.andThen_ok, h1, h2, h3, Bool.false_eq_true, if_false, Sem.run_pure]

theorem eBuiltin_rel (h : SRel base ρ s w) {b : Builtin} {ts : Array TypeId} {vs : List V} {v : V} {s' : St} (hq : eBuiltin P s b ts vs = some (v, s')) {A : Array Value} (ha : LRel ρ vs A.toList) (ty : TypeId) (cs : Array Bool) :
    NextRel base ρ s w s' ((Go.builtin b ts ty cs A).run P w) (.val v) := by
  unfold eBuiltin at hq
  simp at hq

theorem MkOK.next {m : Sem Value} {k : Mk} (h : MkOK P ρ m w k) : MkOK P ρ m w k ∧ ∀ X w', m.run P w = .ok X w' → (do pure (.value (← m)) : Sem Next).run P w = .ok (.value X) w' :=
  ⟨h, fun X w' e => by simp [e]⟩
theorem eop_rel (h : SRel base ρ s w) {ev : Operand → Option V} {A : Act} (hA : EvRel ρ ev A) {o : Oper} {out : EOut} {s' : St} (hq : eop P s ev o.op = some (out, s')) :
    NextRel base ρ s w s' ((execOp A.eval o).run P w) out := by
  unfold eop at hq
  unfold execOp
  split at hq <;> rename_i heq <;> simp only [heq]
  · obtain ⟨v, h1, rfl⟩ := outV_some hq
    exact NextRel.ofV (eAlloc_rel h h1)
  · split at hq
    · rename_i hx
      obtain ⟨v, h1, rfl⟩ := outV_some hq
      exact NextRel.ofV (eBox_rel h h1 (hA _ _ hx))
    · cases hq
  · split at hq
    · rename_i h1 h2
      obtain ⟨h3, rfl⟩ := outS_some hq
      exact NextRel.ofU (eStore_rel h h3 (hA _ _ h1) (hA _ _ h2))
    · cases hq
  · split at hq
    · rename_i hx
      obtain ⟨v, h1, rfl⟩ := outV_some hq
      exact NextRel.ofV (eBytes_rel h h1 (hA _ _ hx))
    · cases hq
  · split at hq
    · rename_i hx
      cases hq
      have := hA _ _ hx
      have hv := this
      simp only [VRel] at this
      obtain ⟨X, e, _⟩ := this
      refine ⟨rfl, .iface _ X, ?_, by rw [← e]; exact hv⟩
      simp [Instr.panic, e]
    · cases hq
  · rename_i c
    split at hq
    · rename_i hc
      split at hq
      · rename_i vs hvs
        obtain ⟨v, h3, rfl⟩ := outV_some hq
        have := evalOs_rel hA hvs
        rw [← map_toList] at this
        simp only [resolve, hc, Sem.run_bind, Sem.run_pure, Result.andThen_ok, invoke]
        exact eBuiltin_rel h h3 this o.type _
      · cases hq
    · rename_i f hc
      split at hq
      · rename_i g first cap vs hf hvs
        cases hb : bodyOK P g with
        | false => simp [hb] at hq
        | true =>
        simp only [hb, cond_true, Option.some.injEq, Prod.mk.injEq] at hq
        obtain ⟨rfl, rfl⟩ := hq
        have e1 := hA _ _ hf
        simp only [VRel] at e1
        obtain ⟨A1, C1, e1, e2, e3⟩ := e1
        have e4 := evalOs_rel hA hvs
        rw [← map_toList] at e4
        refine ⟨rfl, A1 ++ (c.args.map A.eval) ++ C1, ?_, ?_⟩
        · simp only [resolve, hc, Sem.run_bind, e1, Deferred.ofValue, Sem.run_pure, Result.andThen_ok, invoke]
          exact run_callFunc hb _
        · rw [lapp_eq, lapp_eq]
          simp only [Array.toList_append]
          exact (e2.append e4).append e3
      · rename_i l vs hf hvs
        split at hq
        · rename_i r hg
          simp only [llen_eq] at hq
          cases hb : Nat.beq vs.length r.params.length with
          | false => simp [hb] at hq
          | true =>
          simp only [hb, cond_true, Option.some.injEq, Prod.mk.injEq] at hq
          obtain ⟨rfl, rfl⟩ := hq
          have e1 := hA _ _ hf
          simp only [VRel] at e1
          obtain ⟨B, O, S, hB, e1⟩ := e1
          have e4 := evalOs_rel hA hvs
          rw [← map_toList] at e4
          obtain ⟨x, hx, _, L, D, l1, l2, l3, l4, l5, l6⟩ := h.obj' hg hB
          rw [hB] at hx; cases hx
          have hsz : (c.args.map A.eval).size = L.params.size := by
            have a1 := e4.length
            have a2 : vs.length = r.params.length := by simpa using hb
            have a3 : L.params.toList.length = r.params.length := by rw [l5]
            simp only [Array.length_toList] at a1 a3
            omega
          refine ⟨rfl, ⟨B, O, S⟩, L, c.args.map A.eval, hB, l1, e4, hsz, ?_⟩
          simp only [resolve, hc, Sem.run_bind, e1, Deferred.ofValue, Sem.run_pure, Result.andThen_ok, invoke]
          have hy := run_yield (P := P) (w := w) l1 hsz
          simpa using hy
        · cases hq
      · cases hq
    · cases hq
  · cases hq

theorem opE_rel (h : SRel base ρ s w) {ev : Operand → Option V} {A : Act} (hA : EvRel ρ ev A) {o : Oper} {out : EOut} {s' : St} (hq : opE P s ev o.op = some (out, s')) :
    NextRel base ρ s w s' ((execOp A.eval o).run P w) out := by
  unfold opE at hq
  split at hq
  · rename_i v hv
    cases hq
    obtain ⟨X, h1, h2⟩ := qop_rel h hA hv
    exact ⟨ρ, X, w, ρ.le_refl, h1, h2, h, Below.refl _ _⟩
  · exact eop_rel h hA hq

theorem opE_defer {ev : Operand → Option V} {c : Call} : opE P s ev (.defer c) = none := rfl

theorem compOp_eq (op : Op) (s : St) (ev : Operand → Option V) : runOpF (compOp P op) s ev = opE P s ev op := by
  cases op
  case move x => simp only [compOp, runOpF, opE, qop, eop]; cases ev x <;> rfl
  case assign x => simp only [compOp, runOpF, opE, qop, eop]; cases ev x <;> rfl
  case pick c a b =>
    simp only [compOp, runOpF, opE, qop, eop, cPick]
    cases ev c with
    | none => rfl
    | some x =>
      cases x <;> first | rfl | skip
      rename_i bb
      cases bb
      · simp only; cases ev b <;> rfl
      · simp only; cases ev a <;> rfl
  case load t x =>
    simp only [compOp, runOpF, opE, qop, eop, cLoad]
    cases ev x with
    | none => rfl
    | some a => simp only; cases qLoad P s t a <;> rfl
  case store t x y =>
    simp only [compOp, runOpF, opE, qop, eop, cStore]
    cases ev x with
    | none => rfl
    | some a => cases ev y <;> rfl
  case binOp op t x y yt =>
    have key : (match ev x, ev y with | some a, some b => toOut s (qBin P s op t a b) | _, _ => none) = opE P s ev (.binOp op t x y yt) := by
      simp only [opE, qop, eop]
      cases ev x with
      | none => rfl
      | some a => cases ev y with
        | none => rfl
        | some b => simp only; cases qBin P s op t a b <;> rfl
    rw [← key]
    simp only [compOp]
    cases hs : isShift op with
    | true =>
      simp only [cond_true, runOpF, cShift]
      cases ev x with
      | none => rfl
      | some a => cases ev y <;> rfl
    | false =>
      simp only [cond_false, runOpF, cBin]
      cases ev x with
      | none => rfl
      | some a => cases ev y with
        | none => rfl
        | some b =>
          simp only
          congr 1
          unfold cBinI
          split
          · split
            · rename_i k x1 k' y1
              rw [binG_eq]
              cases op <;> first | rfl | cases hs
            · rfl
          · rfl
  case unOp op t x =>
    simp only [compOp, runOpF, opE, qop, eop, cUn]
    cases ev x with
    | none => rfl
    | some a => simp only; cases qUn op a <;> rfl
  case convert src dst x =>
    simp only [compOp, runOpF, opE, qop, eop, cConv]
    cases ev x with
    | none => rfl
    | some a => simp only
  case fieldAddr t x f =>
    simp only [compOp, runOpF, opE, qop, eop, cFieldAddr]
    cases ev x with
    | none => rfl
    | some a => simp only; cases qFieldAddr P t a f <;> rfl
  case indexAddr t x y =>
    simp only [compOp, runOpF, opE, qop, eop, cIndexAddr]
    cases ev x with
    | none => rfl
    | some a => cases ev y with
      | none => rfl
      | some b => simp only; cases qIndexAddr P t a b <;> rfl
  case index t x y =>
    simp only [compOp, runOpF, opE, qop, eop, cIndex]
    cases ev x with
    | none => rfl
    | some a => cases ev y with
      | none => rfl
      | some b => simp only; cases qIndex P t a b <;> rfl
  all_goals rfl
end
end Go.Eng
end

section
namespace Go.Eng
open Go.RowKit (Below)
set_option linter.unusedSimpArgs false
set_option linter.unusedVariables false

theorem eqQ_spec {a b : Int} (h : eqQ a b = true) : a = b := by rw [eqQ_eq] at h; simpa using h
theorem kEq_spec {a b : IntKind} (h : kEq a b = true) : a = b := by rw [kEq_iff] at h; simpa using h

mutual
theorem V.same_eq : ∀ (v w : V), v.same w = true → v = w
  | .undef, w, h => by cases w <;> simp [V.same] at h <;> rfl
  | .bool a, w, h => by cases w <;> simp [V.same] at h; cases a <;> simp_all
  | .int k a, w, h => by
    cases w <;> simp [V.same] at h
    rename_i k' b
    cases hk : kEq k k' with
    | false => simp [hk] at h
    | true => simp [hk] at h; rw [kEq_spec hk, eqQ_spec h]
  | .str s, w, h => by
    cases w <;> simp [V.same] at h
    rename_i t
    cases s; cases t
    simp_all
  | .nilp, w, h => by cases w <;> simp [V.same] at h <;> rfl
  | .nils, w, h => by cases w <;> simp [V.same] at h <;> rfl
  | .slz a, w, h => by cases w <;> simp [V.same] at h; cases a <;> simp_all
  | .nilm, w, h => by cases w <;> simp [V.same] at h <;> rfl
  | .nilf, w, h => by cases w <;> simp [V.same] at h <;> rfl
  | .nili, w, h => by cases w <;> simp [V.same] at h <;> rfl
  | .ptr b o, w, h => by cases w <;> simp [V.same] at h; simp_all
  | .sl b o l c x e, w, h => by
    cases w <;> simp [V.same] at h
    rename_i b' o' l' c' x' e'
    cases x <;> cases x' <;> simp_all
  | .map b, w, h => by cases w <;> simp [V.same] at h; simp_all
  | .fn f a c, w, h => by
    cases w <;> simp only [V.same, Bool.false_eq_true] at h
    rename_i f' a' c'
    cases h1 : Nat.beq f f' <;> cases h2 : sameL a a' <;> simp [h1, h2] at h
    rw [sameL_eq _ _ h2, sameL_eq _ _ h, Nat.eq_of_beq_eq_true h1]
  | .yld l, w, h => by cases w <;> simp [V.same] at h; simp_all
  | .iface t v, w, h => by
    cases w <;> simp only [V.same, Bool.false_eq_true] at h
    rename_i t' v'
    cases h1 : Nat.beq t t' <;> simp [h1] at h
    rw [V.same_eq _ _ h, Nat.eq_of_beq_eq_true h1]
  | .agg l, w, h => by
    cases w <;> simp only [V.same, Bool.false_eq_true] at h
    rw [sameL_eq _ _ h]
  | .tup l, w, h => by
    cases w <;> simp only [V.same, Bool.false_eq_true] at h
    rw [sameL_eq _ _ h]
  | .it b, w, h => by cases w <;> simp [V.same] at h; simp_all
  | .any, w, h => by simp [V.same] at h
theorem sameL_eq : ∀ (v w : List V), sameL v w = true → v = w
  | [], w, h => by cases w <;> simp [sameL] at h <;> rfl
  | v :: l, w, h => by
    cases w with
    | nil => simp [sameL] at h
    | cons u m =>
      simp only [sameL] at h
      cases h1 : v.same u <;> simp [h1] at h
      rw [V.same_eq _ _ h1, sameL_eq _ _ h]
end

inductive Reach (ops : Array Oper) : Nat → Nat → Prop
  | step {i : Nat} {o : Oper} {e : Edge} (ho : ops[i]? = some o) (he : e ∈ o.after) (hb : Region.binds .any e = true) : Reach ops i e.on
  | trans {i j k : Nat} : Reach ops i j → Reach ops j k → Reach ops i k

structure StOK (ops : Array Oper) : Prop where
  back : ∀ (i : Nat) o, ops[i]? = some o → ∀ e ∈ o.after, Region.binds .any e = true → e.on < i
  once : ∀ (i j : Nat) o o' d, ops[i]? = some o → ops[j]? = some o' → o.dst = some d → o'.dst = some d → i = j
  read : ∀ (i j : Nat) o o' d, ops[i]? = some o → ops[j]? = some o' → o.dst = some d → d ∈ o'.looksAt ops → i ≠ j → Reach ops i j ∨ Reach ops j i
theorem StOK.lt {ops : Array Oper} (h : StOK ops) {i j : Nat} (r : Reach ops i j) : j < i := by
  induction r with
  | step ho he hb => exact h.back _ _ ho _ he hb
  | trans _ _ h1 h2 => omega

section
variable {P : Program} {self : ESelf} {ops : Array Oper}
end

structure PreOK (s s1 : St) (M : List (Nat × Nat)) : Prop where
  old : ∀ b, b < s.next → s1.heap.get b = s.heap.get b
  le : s.next ≤ s1.next
  new : ∀ i b, findM i M = some b → s.next ≤ b ∧ b < s1.next
  one : ∀ i j b, findM i M = some b → findM j M = some b → i = j
def Frm.ok (f : Frm) : Prop := ∃ d, f.t.full d ∧ f.n ≤ 2 ^ d
theorem FRel.ok {ρ : Env} {f : Frm} {A : Array Value} (h : FRel ρ f A) : f.ok := by obtain ⟨_, d, h2, h3, _⟩ := h; exact ⟨d, h2, h3⟩
theorem putE_n (f : Frm) (d : Option Tmp) (v : V) : (putE f d v).n = f.n := by
  cases d with
  | none => rfl
  | some k => rw [putE_some]; cases Nat.blt k f.n <;> rfl
theorem putE_ok {f : Frm} (h : f.ok) (d : Option Tmp) (v : V) : (putE f d v).ok := by
  cases d with
  | none => exact h
  | some k =>
    obtain ⟨d, h2, h3⟩ := h
    rw [putE_some]
    cases Nat.blt k f.n with
    | false => exact ⟨d, h2, h3⟩
    | true => exact ⟨d, B.set_full _ _ _ _ h2, h3⟩
def gv (n t : Nat) (v : V) : V := if t < n then v else .undef
theorem get_putE {f : Frm} (h : f.ok) (k : Nat) (v : V) (t : Nat) : (putE f (some k) v).get t = if t = k then gv f.n t v else f.get t := by
  obtain ⟨d, h2, h3⟩ := h
  rw [putE_some, blt_iff]
  by_cases hk : k < f.n
  · rw [decide_eq_true hk, cond_true, Frm.get_eq, Frm.get_eq, blt_iff]
    show (bif decide (t < f.n) then (B.set v f.t k).get t else .undef) = _
    by_cases ht : t < f.n
    · rw [decide_eq_true ht, cond_true, cond_true, B.get_set v f.t d k t h2 (by omega) (by omega)]
      by_cases e : t = k
      · subst e; simp [gv, hk]
      · simp [e]
    · rw [decide_eq_false ht, cond_false, cond_false]
      by_cases e : t = k
      · subst e; exact absurd hk ht
      · simp [e]
  · rw [decide_eq_false hk, cond_false]
    by_cases e : t = k
    · subst e; rw [if_pos rfl, gv, if_neg hk, Frm.get_eq, blt_iff, decide_eq_false hk]; rfl
    · simp [e]
theorem get_putE_ne {f : Frm} (h : f.ok) {d : Option Tmp} (v : V) {t : Nat} (hd : d ≠ some t) : (putE f d v).get t = f.get t := by
  cases d with
  | none => rfl
  | some k => rw [get_putE h, if_neg (fun e => hd (by rw [e]))]

end Go.Eng
end

section
namespace Go.Eng
open Go.RowKit (Below)
set_option linter.unusedSimpArgs false
set_option linter.unusedVariables false

section
variable {P : Program} {self : ESelf} {n : Nat} {r : Option Nat} {M : List (Nat × Nat)} {dead : Nat → Prop}

structure DInv (ops : Array Oper) (R : List DRec) (F0 : Frm) (listed : Array Bool) (f : Frm) (p : Nat) : Prop where
  size : listed.size = ops.size
  down : ∀ (i : Nat) o, ops[i]? = some o → listed.getD i false = true → ∀ e ∈ o.after, Region.binds .any e = true → listed.getD e.on false = true
  ok : f.ok
  n : f.n = F0.n
  did : ∀ (k : Nat) rk t, R[k]? = some rk → rk.o.dst = some t → listed.getD k false = true → f.get t = gv F0.n t rk.v
  not : ∀ t, (∀ (k : Nat) rk, R[k]? = some rk → rk.o.dst = some t → listed.getD k false = false) → f.get t = F0.get t
  le : p ≤ (effs R).length
  ph : ∀ (q : Nat) e, (effs R)[q]? = some e → (listed.getD e.1 false = true ↔ q < p)

structure DRun (P : Program) (sf : ESelf) (ops : Array Oper) (M : List (Nat × Nat)) (dead : Nat → Prop) (F0 : Frm) (s0 : St) (R : List DRec) : Prop where
  st : StOK ops
  len : R.length = ops.size
  row : ∀ (k : Nat) rk, R[k]? = some rk → rk.i = k ∧ ops[k]? = some rk.o ∧ (dead k ∨ drawStep P sf ops (findM k M) k rk.o rk.f rk.s = some rk) ∧ rk.f = finF F0 (R.take k) ∧ rk.s = lastS s0 (effs (R.take k))
  chain : ∀ (q q' : Nat) e e', q < q' → (effs R)[q]? = some e → (effs R)[q']? = some e' → Reach ops e'.1 e.1
  quiet : ∀ (k : Nat) rk, R[k]? = some rk → rk.q = true → ∀ p, p ≤ (effs R).length → (∀ q e, q < p → (effs R)[q]? = some e → ¬ Reach ops e.1 k) → (∀ q e, p ≤ q → (effs R)[q]? = some e → ¬ Reach ops k e.1) →
    qopM P rk.mb (lastS s0 ((effs R).take p)) (evL (rk.o.looksAt ops) rk.f) rk.o.op = some rk.v
  ok : F0.ok

theorem getD_set_self {listed : Array Bool} {i : Nat} (d : Bool) (h : i < listed.size) : (listed.setIfInBounds i true).getD i d = true := by
  simp [h]
theorem DInv.step {ops : Array Oper} {R : List DRec} {F0 f : Frm} {s0 : St} {listed : Array Bool} {p : Nat} (h : DInv ops R F0 listed f p) (D : DRun P self ops M dead F0 s0 R) {i : Nat} {ri : DRec}
    (hi : R[i]? = some ri) (hun : listed.getD i false = false) (hrd : ∀ o, ops[i]? = some o → ∀ e ∈ o.after, Region.binds .any e = true → listed.getD e.on false = true) {p' : Nat}
    (hp' : p' ≤ (effs R).length) (hph : ∀ (q : Nat) e, (effs R)[q]? = some e → (q < p' ↔ (q < p ∨ e.1 = i))) :
    DInv ops R F0 (listed.setIfInBounds i true) (putE f ri.o.dst ri.v) p' := by
  obtain ⟨_, ho, _, _, _⟩ := D.row i ri hi
  have hlt : i < listed.size := by rw [h.size]; exact (Array.getElem?_eq_some_iff.1 ho).1
  have hset : ∀ k, (listed.setIfInBounds i true).getD k false = true ↔ (k = i ∨ listed.getD k false = true) := fun k => by
    by_cases e : k = i
    · subst e; simp [getD_set_self false hlt]
    · rw [getD_set_ne false (fun e' => e e'.symm)]; simp [e]
  refine ⟨by simpa using h.size, ?_, putE_ok h.ok _ _, by rw [putE_n, h.n], ?_, ?_, hp', ?_⟩
  · intro k o hk hl e he hb
    rw [hset]
    rcases (hset k).1 hl with rfl | hl
    · exact .inr (hrd o hk e he hb)
    · exact .inr (h.down k o hk hl e he hb)
  · intro k rk t hk hd hl
    rcases (hset k).1 hl with rfl | hl1
    · rw [hi] at hk; cases hk
      rw [hd, get_putE h.ok, if_pos rfl, h.n]
    · rw [get_putE_ne h.ok]
      · exact h.did k rk t hk hd hl1
      · intro e
        have := D.st.once _ _ _ _ t (D.row k rk hk).2.1 ho hd e
        subst this
        rw [hun] at hl1; cases hl1
  · intro t hn
    have e1 : ri.o.dst ≠ some t := fun e => by
      have := hn i ri hi e
      rw [getD_set_self false hlt] at this; cases this
    rw [get_putE_ne h.ok _ e1]
    refine h.not t fun k rk hk hd => ?_
    have := hn k rk hk hd
    cases hl : listed.getD k false with
    | false => rfl
    | true => rw [(hset k).2 (.inr hl)] at this; cases this
  · intro q e he
    rw [hset, hph q e he, h.ph q e he]
    exact Or.comm

structure DFin (P : Program) (sf : ESelf) (ops : Array Oper) (dead : Nat → Prop) (F0 : Frm) (s0 : St) (R : List DRec) (ds : List EDef) (e : EExit) (c' : Cfg) : Prop where
  fin : (∀ k, ¬ dead k) → e = .normal ∧ c' = ⟨finF F0 R, ds, lastS s0 (effs R)⟩
  pan : ∀ k, dead k → ∃ ip, dead ip ∧ (∀ j, dead j → j = ip ∨ Reach ops j ip) ∧ ∃ rp v s', R[ip]? = some rp ∧ rp.s = lastS s0 (effs R) ∧ wantedE (guardOf ops rp.o) rp.f = true ∧ opPan sf (eop P rp.s (evL (rp.o.looksAt ops) rp.f) rp.o.op) = some (v, s') ∧
    (∀ (q : Nat) e, (effs R)[q]? = some e → Reach ops ip e.1) ∧ e = .pan v ∧ c' = ⟨anyF F0 ops.toList, ds, s'⟩

end
end Go.Eng
end
