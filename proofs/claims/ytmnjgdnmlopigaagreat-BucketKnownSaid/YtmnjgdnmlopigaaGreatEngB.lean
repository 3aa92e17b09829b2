/-
  Values and memory of the evaluator, and how they stand to the model's own. No condition; nothing here speaks of one program.
-/
import Derived.Test.YtmnjgdnmlopigaaGreatEngA
import Derived.RangeFuncRecord
namespace Go.Eng
open Go.RowKit (Below)

/-- where a block of the evaluator lies: block B of the world, from cell O on; the whole block has S cells -/
structure Blk where
  B : Nat
  O : Nat
  S : Nat

/-- where the blocks lie; below n no name is taken any more -/
structure Env where
  f : Nat → Option Blk
  n : Nat
instance : CoeFun Env (fun _ => Nat → Option Blk) := ⟨Env.f⟩
def Env.sub (ρ ρ' : Env) : Prop := ∀ b x, ρ b = some x → ρ' b = some x
structure Env.le (ρ ρ' : Env) : Prop where
  sub : ρ.sub ρ'
  top : ρ.n ≤ ρ'.n
  keep : ∀ b, b < ρ.n → ρ b = none → ρ' b = none
theorem Env.le_refl (ρ : Env) : ρ.le ρ := ⟨fun _ _ h => h, Nat.le_refl _, fun _ _ h => h⟩
theorem Env.le_trans {a b c : Env} (h : a.le b) (k : b.le c) : a.le c :=
  ⟨fun x y e => k.sub x y (h.sub x y e), Nat.le_trans h.top k.top, fun x hx e => k.keep x (Nat.lt_of_lt_of_le hx h.top) (h.keep x hx e)⟩

inductive V where
  | undef
  | bool (b : Bool)
  | int (k : IntKind) (n : Int)
  | str (s : BS)
  | nilp
  | nils
  | slz (x : Bool)
  | nilm
  | nilf
  | nili
  | ptr (b o : Nat)
  | sl (b o len cap : Nat) (x : Bool) (es : Nat)
  | map (b : Nat)
  | fn (f : FuncId) (first cap : List V)
  | yld (l : Nat)
  | iface (t : TypeId) (v : V)
  | agg (l : List V)
  | tup (l : List V)
  | it (b : Nat)
  | any
  deriving Inhabited

mutual
def VRel (ρ : Env) : V → Value → Prop
  | .undef, W => W = .tuple #[]
  | .bool b, W => W = .bool b
  | .int k n, W => W = .int k n
  | .str s, W => W = .string s.den
  | .nilp, W => W = .pointer none
  | .nils, W => W = .slice none 0 0
  | .slz x, W => ∃ a cap', W = .slice (some a) 0 cap' ∧ (x = true → cap' = 0)
  | .nilm, W => W = .map none
  | .nilf, W => W = .nilFunc
  | .nili, W => W = .nilIface
  | .ptr b o, W => ∃ B O S, ρ b = some ⟨B, O, S⟩ ∧ W = .pointer (some ⟨B, O + o, none⟩)
  | .sl b o len cap x es, W => ∃ B O S cap', ρ b = some ⟨B, O, S⟩ ∧ W = .slice (some ⟨B, O + o, none⟩) len cap' ∧ len ≤ cap ∧ cap ≤ cap' ∧
      (x = true → cap' = cap) ∧ O + o + cap' * es ≤ S ∧ cap' ≤ 9223372036854775807
  | .map b, W => ∃ B O S, ρ b = some ⟨B, O, S⟩ ∧ W = .map (some B)
  | .fn f first cap, W => ∃ A C, W = .func (.func f) A C ∧ LRel ρ first A.toList ∧ LRel ρ cap C.toList
  | .yld l, W => ∃ B O S, ρ l = some ⟨B, O, S⟩ ∧ W = .func (.yield B) #[] #[]
  | .iface t v, W => ∃ X, W = .iface t X ∧ VRel ρ v X
  | .agg l, W => ∃ A, W = .agg A ∧ LRel ρ l A.toList
  | .tup l, W => ∃ A, W = .tuple A ∧ LRel ρ l A.toList
  | .it b, W => ∃ B S, ρ b = some ⟨B, 0, S⟩ ∧ W = .pointer (some ⟨B, 0, none⟩)
  | .any, _ => False
def LRel (ρ : Env) : List V → List Value → Prop
  | [], W => W = []
  | v :: l, W => ∃ X Y, W = X :: Y ∧ VRel ρ v X ∧ LRel ρ l Y
end

mutual
theorem VRel.up {ρ ρ' : Env} (h : ρ.sub ρ') : ∀ (v : V) (W : Value), VRel ρ v W → VRel ρ' v W
  | .undef, _, r => by simpa only [VRel] using r
  | .bool _, _, r => by simpa only [VRel] using r
  | .int _ _, _, r => by simpa only [VRel] using r
  | .str _, _, r => by simpa only [VRel] using r
  | .nilp, _, r => by simpa only [VRel] using r
  | .nils, _, r => by simpa only [VRel] using r
  | .slz _, _, r => by simpa only [VRel] using r
  | .nilm, _, r => by simpa only [VRel] using r
  | .nilf, _, r => by simpa only [VRel] using r
  | .nili, _, r => by simpa only [VRel] using r
  | .ptr b o, _, r => by simp only [VRel] at r ⊢; obtain ⟨B, O, S, h1, h2⟩ := r; exact ⟨B, O, S, h _ _ h1, h2⟩
  | .sl .., _, r => by simp only [VRel] at r ⊢; obtain ⟨B, O, S, c, h1, h2⟩ := r; exact ⟨B, O, S, c, h _ _ h1, h2⟩
  | .map b, _, r => by simp only [VRel] at r ⊢; obtain ⟨B, O, S, h1, h2⟩ := r; exact ⟨B, O, S, h _ _ h1, h2⟩
  | .yld b, _, r => by simp only [VRel] at r ⊢; obtain ⟨B, O, S, h1, h2⟩ := r; exact ⟨B, O, S, h _ _ h1, h2⟩
  | .it b, _, r => by simp only [VRel] at r ⊢; obtain ⟨B, S, h1, h2⟩ := r; exact ⟨B, S, h _ _ h1, h2⟩
  | .any, _, r => by simp only [VRel] at r
  | .fn f a c, _, r => by
    simp only [VRel] at r ⊢; obtain ⟨A, C, h1, h2, h3⟩ := r; exact ⟨A, C, h1, LRel.up h a _ h2, LRel.up h c _ h3⟩
  | .iface t v, _, r => by simp only [VRel] at r ⊢; obtain ⟨X, h1, h2⟩ := r; exact ⟨X, h1, VRel.up h v _ h2⟩
  | .agg l, _, r => by simp only [VRel] at r ⊢; obtain ⟨X, h1, h2⟩ := r; exact ⟨X, h1, LRel.up h l _ h2⟩
  | .tup l, _, r => by simp only [VRel] at r ⊢; obtain ⟨X, h1, h2⟩ := r; exact ⟨X, h1, LRel.up h l _ h2⟩
theorem LRel.up {ρ ρ' : Env} (h : ρ.sub ρ') : ∀ (l : List V) (W : List Value), LRel ρ l W → LRel ρ' l W
  | [], _, r => by simpa only [LRel] using r
  | v :: l, _, r => by
    simp only [LRel] at r ⊢; obtain ⟨X, Y, h1, h2, h3⟩ := r; exact ⟨X, Y, h1, VRel.up h v _ h2, LRel.up h l _ h3⟩
end

theorem VRel.mono {ρ ρ' : Env} (h : ρ.le ρ') (v : V) (W : Value) (r : VRel ρ v W) : VRel ρ' v W := VRel.up h.sub v W r
theorem LRel.mono {ρ ρ' : Env} (h : ρ.le ρ') (l : List V) (W : List Value) (r : LRel ρ l W) : LRel ρ' l W := LRel.up h.sub l W r
theorem LRel.nil {ρ : Env} : LRel ρ [] [] := rfl
theorem LRel.cons {ρ : Env} {v : V} {l : List V} {X : Value} {Y : List Value} (h : VRel ρ v X) (k : LRel ρ l Y) : LRel ρ (v :: l) (X :: Y) := ⟨X, Y, rfl, h, k⟩
theorem LRel.length {ρ : Env} : ∀ {l : List V} {W : List Value}, LRel ρ l W → l.length = W.length
  | [], _, r => by simp only [LRel] at r; subst r; rfl
  | _ :: _, _, r => by simp only [LRel] at r; obtain ⟨X, Y, rfl, _, h3⟩ := r; simp [LRel.length h3]
theorem LRel.get {ρ : Env} : ∀ {l : List V} {W : List Value}, LRel ρ l W → ∀ {i : Nat} {v : V}, l[i]? = some v → ∃ X, W[i]? = some X ∧ VRel ρ v X
  | [], _, r, i, v, hi => by simp at hi
  | a :: l, _, r, i, v, hi => by
    simp only [LRel] at r; obtain ⟨X, Y, rfl, h2, h3⟩ := r
    cases i with
    | zero => simp at hi; subst hi; exact ⟨X, rfl, h2⟩
    | succ i => simp at hi; simpa using LRel.get h3 hi
theorem LRel.append {ρ : Env} : ∀ {l : List V} {W : List Value} {m : List V} {U : List Value}, LRel ρ l W → LRel ρ m U → LRel ρ (l ++ m) (W ++ U)
  | [], _, _, _, r, k => by simp only [LRel] at r; subst r; exact k
  | a :: l, _, _, _, r, k => by
    simp only [LRel] at r; obtain ⟨X, Y, rfl, h2, h3⟩ := r
    exact LRel.cons h2 (LRel.append h3 k)
theorem LRel.set {ρ : Env} : ∀ {l : List V} {W : List Value}, LRel ρ l W → ∀ {i : Nat} {v : V} {X : Value}, VRel ρ v X → LRel ρ (l.set i v) (W.set i X)
  | [], _, r, i, v, X, hv => by simp only [LRel] at r; subst r; exact LRel.nil
  | a :: l, _, r, i, v, X, hv => by
    simp only [LRel] at r; obtain ⟨Y, Z, rfl, h2, h3⟩ := r
    cases i with
    | zero => exact LRel.cons hv h3
    | succ i => exact LRel.cons h2 (LRel.set h3 hv)
theorem LRel.take {ρ : Env} : ∀ {l : List V} {W : List Value}, LRel ρ l W → ∀ n, LRel ρ (l.take n) (W.take n)
  | [], _, r, n => by simp only [LRel] at r; subst r; simp [LRel.nil]
  | a :: l, _, r, n => by
    simp only [LRel] at r; obtain ⟨X, Y, rfl, h2, h3⟩ := r
    cases n with
    | zero => exact LRel.nil
    | succ n => exact LRel.cons h2 (LRel.take h3 n)
theorem LRel.drop {ρ : Env} : ∀ {l : List V} {W : List Value}, LRel ρ l W → ∀ n, LRel ρ (l.drop n) (W.drop n)
  | [], _, r, n => by simp only [LRel] at r; subst r; simp [LRel.nil]
  | a :: l, _, r, n => by
    simp only [LRel] at r; obtain ⟨X, Y, rfl, h2, h3⟩ := r
    cases n with
    | zero => exact LRel.cons h2 h3
    | succ n => exact LRel.drop h3 n
theorem LRel.replicate {ρ : Env} {v : V} {X : Value} (h : VRel ρ v X) : ∀ n, LRel ρ (List.replicate n v) (List.replicate n X)
  | 0 => LRel.nil
  | n + 1 => LRel.cons h (LRel.replicate h n)
theorem LRel.of_get {ρ : Env} : ∀ {l : List V} {W : List Value}, l.length = W.length → (∀ (i : Nat) (v : V), l[i]? = some v → ∃ X, W[i]? = some X ∧ VRel ρ v X) → LRel ρ l W
  | [], [], _, _ => LRel.nil
  | [], _ :: _, h, _ => by simp at h
  | a :: l, [], h, _ => by simp at h
  | a :: l, X :: Y, h, hg => by
    obtain ⟨X', h1, h2⟩ := hg 0 a rfl
    simp at h1; subst h1
    exact LRel.cons h2 (LRel.of_get (by simpa using h) fun i v hi => by simpa using hg (i + 1) v (by simpa using hi))

/-- a frame: so many slots, in a tree -/
structure Frm where
  n : Nat
  t : B V
def FRel (ρ : Env) (f : Frm) (A : Array Value) : Prop :=
  f.n = A.size ∧ ∃ d, f.t.full d ∧ f.n ≤ 2 ^ d ∧ ∀ (i : Nat) (X : Value), A[i]? = some X → VRel ρ (f.t.get i) X
theorem FRel.up {ρ ρ' : Env} (h : ρ.sub ρ') {f : Frm} {A : Array Value} (r : FRel ρ f A) : FRel ρ' f A := by
  obtain ⟨h1, d, h2, h3, h4⟩ := r
  exact ⟨h1, d, h2, h3, fun i X hi => VRel.up h _ _ (h4 i X hi)⟩
theorem FRel.mono {ρ ρ' : Env} (h : ρ.le ρ') {f : Frm} {A : Array Value} (r : FRel ρ f A) : FRel ρ' f A := r.up h.sub

/-- a frame of which some slots are not known -/
def FRelA (ρ : Env) (f : Frm) (A : Array Value) : Prop :=
  f.n = A.size ∧ ∃ d, f.t.full d ∧ f.n ≤ 2 ^ d ∧ ∀ (i : Nat) (X : Value), A[i]? = some X → f.t.get i = .any ∨ VRel ρ (f.t.get i) X
theorem FRel.toA {ρ : Env} {f : Frm} {A : Array Value} (r : FRel ρ f A) : FRelA ρ f A := by
  obtain ⟨h1, d, h2, h3, h4⟩ := r
  exact ⟨h1, d, h2, h3, fun i X hi => .inr (h4 i X hi)⟩
theorem FRelA.mono {ρ ρ' : Env} (h : ρ.le ρ') {f : Frm} {A : Array Value} (r : FRelA ρ f A) : FRelA ρ' f A := by
  obtain ⟨h1, d, h2, h3, h4⟩ := r
  exact ⟨h1, d, h2, h3, fun i X hi => (h4 i X hi).imp id fun g => VRel.mono h _ _ g⟩

/-! ### Memory -/
structure ELoop where
  state : LoopState
  pending : Option Code
  tmps : Frm
  params : List Tmp
  assign : Code
  body : Code
  defers : Nat

inductive EObj where
  | cells (cs : List V) (t : TypeId) (ish : Bool)
  | map (es : List (V × V × Nat)) (clock : Nat)
  | loop (r : ELoop)
  | dfr (shut : Bool)
  | siter (s : BS) (pos : Nat)

structure St where
  heap : T EObj
  next : Nat

def MRel (ρ : Env) : List (V × V × Nat) → List MapEntry → Prop
  | [], E => E = []
  | e :: l, E => ∃ x y, E = x :: y ∧ VRel ρ e.1 x.key ∧ VRel ρ e.2.1 x.val ∧ e.2.2 = x.born ∧ MRel ρ l y
theorem MRel.up {ρ ρ' : Env} (h : ρ.sub ρ') : ∀ {l : List (V × V × Nat)} {E : List MapEntry}, MRel ρ l E → MRel ρ' l E
  | [], _, r => r
  | _ :: _, _, r => by
    simp only [MRel] at r ⊢; obtain ⟨x, y, h1, h2, h3, h4, h5⟩ := r
    exact ⟨x, y, h1, VRel.up h _ _ h2, VRel.up h _ _ h3, h4, MRel.up h h5⟩
theorem MRel.mono {ρ ρ' : Env} (h : ρ.le ρ') {l : List (V × V × Nat)} {E : List MapEntry} (r : MRel ρ l E) : MRel ρ' l E := MRel.up h.sub r

def ORel (ρ : Env) (O S : Nat) (X : Option Obj) : EObj → Prop
  | .cells cs _ ish => ∃ C t fr, X = some (.cells C t fr) ∧ C.size = S ∧ O + cs.length ≤ S ∧
      (∀ (i : Nat) (v : V), cs[i]? = some v → ∃ W, C[O + i]? = some W ∧ VRel ρ v W) ∧ (∀ k, k < S → (decide (fr.1 ≤ k) && decide (k < fr.2)) = false) ∧ (ish = false → fr = (0, 0))
  | .map es clock => ∃ E, X = some (.map E clock) ∧ MRel ρ es E.toList
  | .loop r => ∃ L D, X = some (.loop L) ∧ L.state = r.state ∧ L.pending = r.pending ∧ FRel ρ r.tmps L.tmps ∧ L.params.toList = r.params ∧
      L.assign = r.assign ∧ L.body = r.body ∧ ρ r.defers = some D ∧ L.defers = D.B
  | .dfr shut => X = some (.deferred (if shut then none else some []))
  | .siter s pos => X = some (.stringIter s.den pos)
theorem ORel.up {ρ ρ' : Env} (h : ρ.sub ρ') {O S : Nat} {X : Option Obj} : ∀ {o : EObj}, ORel ρ O S X o → ORel ρ' O S X o
  | .cells .., r => by
    obtain ⟨C, t, fr, h1, h2, h3, h4, h5⟩ := r
    exact ⟨C, t, fr, h1, h2, h3, fun i v hi => let ⟨W, a, b⟩ := h4 i v hi; ⟨W, a, VRel.up h _ _ b⟩, h5⟩
  | .map .., r => by obtain ⟨E, h1, h2⟩ := r; exact ⟨E, h1, MRel.up h h2⟩
  | .loop _, r => by
    obtain ⟨L, D, h1, h2, h3, h4, h5, h6, h7, h8, h9⟩ := r
    exact ⟨L, D, h1, h2, h3, h4.up h, h5, h6, h7, h _ _ h8, h9⟩
  | .dfr _, r => r
  | .siter .., r => r
theorem ORel.mono {ρ ρ' : Env} (h : ρ.le ρ') {O S : Nat} {X : Option Obj} {o : EObj} (r : ORel ρ O S X o) : ORel ρ' O S X o := ORel.up h.sub r

structure SRel (base : Nat) (ρ : Env) (s : St) (w : World) : Prop where
  le : base ≤ w.heap.size
  obj : ∀ b o x, s.heap.get b = some o → ρ b = some x → base ≤ x.B ∧ ORel ρ x.O x.S w.heap[x.B]? o
  inj : ∀ b b' o o' x x', s.heap.get b = some o → s.heap.get b' = some o' → ρ b = some x → ρ b' = some x' → b ≠ b' → x.B ≠ x'.B
  dom : ∀ b x, ρ b = some x → b < s.next
  top : ρ.n ≤ s.next
theorem SRel.obj' {base : Nat} {ρ : Env} {s : St} {w : World} (h : SRel base ρ s w) {b : Nat} {o : EObj} (hb : s.heap.get b = some o) {x : Blk} (hx : ρ b = some x) :
    ∃ y, ρ b = some y ∧ base ≤ y.B ∧ ORel ρ y.O y.S w.heap[y.B]? o := ⟨x, hx, h.obj b o x hb hx⟩

theorem ORel.ne_none {ρ : Env} {O S : Nat} {X : Option Obj} {o : EObj} (h : ORel ρ O S X o) : X ≠ none := by
  cases o with
  | cells => obtain ⟨_, _, _, h, _⟩ := h; simp [h]
  | map => obtain ⟨_, h, _⟩ := h; simp [h]
  | loop => obtain ⟨_, _, h, _⟩ := h; simp [h]
  | dfr => intro e; rw [ORel] at h; rw [h] at e; cases e
  | siter => intro e; rw [ORel] at h; rw [h] at e; cases e

theorem SRel.lt {base : Nat} {ρ : Env} {s : St} {w : World} (h : SRel base ρ s w) {b : Nat} {o : EObj} {x : Blk} (hb : s.heap.get b = some o) (hx : ρ b = some x) : x.B < w.heap.size := by
  obtain ⟨y, h1, _, h3⟩ := h.obj' hb hx
  rw [hx] at h1
  cases h1
  exact Nat.lt_of_not_le fun hle => h3.ne_none (Array.getElem?_eq_none hle)

def Env.put (ρ : Env) (b : Nat) (x : Blk) : Env := ⟨fun k => if k = b then some x else ρ k, max ρ.n (b + 1)⟩
theorem Env.sub_put {ρ : Env} {b : Nat} (x : Blk) (h : ρ b = none) : ρ.sub (ρ.put b x) := fun k y e => by
  simp only [Env.put]; split
  · subst k; rw [h] at e; cases e
  · exact e
theorem Env.le_put {ρ : Env} {b : Nat} (x : Blk) (h : ρ b = none ∧ ρ.n ≤ b) : ρ.le (ρ.put b x) :=
  ⟨Env.sub_put x h.1, Nat.le_max_left _ _, fun k hk e => by
    simp only [Env.put]; rw [if_neg (by omega)]; exact e⟩
theorem Env.put_same {ρ : Env} {b : Nat} {x : Blk} : ρ.put b x b = some x := by simp [Env.put]
theorem Env.put_ne {ρ : Env} {b k : Nat} {x : Blk} (h : k ≠ b) : ρ.put b x k = ρ k := by simp [Env.put, h]

theorem SRel.fresh {base : Nat} {ρ : Env} {s : St} {w : World} (h : SRel base ρ s w) : ρ s.next = none ∧ ρ.n ≤ s.next := by
  refine ⟨?_, h.top⟩
  cases e : ρ s.next with
  | none => rfl
  | some x => exact absurd (h.dom _ _ e) (Nat.lt_irrefl _)

noncomputable def St.new (s : St) (o : EObj) : St := ⟨s.heap.set s.next (some o), s.next + 1⟩
noncomputable def St.upd (s : St) (b : Nat) (o : EObj) : St := ⟨s.heap.set b (some o), s.next⟩

/-- a new block -/
theorem SRel.new {base : Nat} {ρ : Env} {s : St} {w w' : World} (h : SRel base ρ s w) (o : EObj) (X : Obj) (S : Nat) (hw : w'.heap = w.heap.push X)
    (ho : ORel (ρ.put s.next ⟨w.heap.size, 0, S⟩) 0 S (some X) o) :
    SRel base (ρ.put s.next ⟨w.heap.size, 0, S⟩) (s.new o) w' := by
  have hle := Env.le_put ⟨w.heap.size, 0, S⟩ h.fresh
  refine ⟨by rw [hw]; simp; have := h.le; omega, ?_, ?_, ?_, by simp only [Env.put, St.new]; have := h.top; omega⟩
  · intro b o' y hb hy
    simp only [St.new, T.get_set] at hb
    split at hb
    · rename_i e; subst e; cases hb
      rw [Env.put_same] at hy; cases hy
      exact ⟨h.le, by rw [hw]; simpa using ho⟩
    · rename_i e
      rw [Env.put_ne e] at hy
      obtain ⟨x, h1, h2, h3⟩ := h.obj' hb hy
      rw [hy] at h1; cases h1
      have hlt := h.lt hb hy
      refine ⟨h2, ?_⟩
      rw [hw, Array.getElem?_push, if_neg (by omega)]
      exact h3.mono hle
  · intro b b' o1 o2 x x' hb hb' hx hx' hne
    simp only [St.new, T.get_set] at hb hb'
    simp only [Env.put] at hx hx'
    by_cases e : b = s.next
    · subst e
      have e' : b' ≠ s.next := fun e => hne e.symm
      simp only [e', if_false] at hb' hx'
      simp only [if_true] at hx
      cases hx
      have := h.lt hb' hx'
      simp only; omega
    · simp only [e, if_false] at hb hx
      by_cases e' : b' = s.next
      · subst e'
        simp only [if_true] at hx'
        cases hx'
        have := h.lt hb hx
        simp only; omega
      · simp only [e', if_false] at hb' hx'
        exact h.inj b b' o1 o2 x x' hb hb' hx hx' hne
  · intro b x hx
    simp only [Env.put] at hx
    show b < s.next + 1
    split at hx
    · omega
    · have := h.dom b x hx; omega

/-- a block is written -/
theorem SRel.upd {base : Nat} {ρ : Env} {s : St} {w w' : World} (h : SRel base ρ s w) {b : Nat} {o : EObj} {x : Blk} (hb : s.heap.get b = some o) (hx : ρ b = some x)
    (o1 : EObj) (X : Obj) (hw : w'.heap = w.heap.setIfInBounds x.B X) (ho : ORel ρ x.O x.S (some X) o1) : SRel base ρ (s.upd b o1) w' := by
  have hlt := h.lt hb hx
  refine ⟨by rw [hw]; simpa using h.le, ?_, ?_, h.dom, h.top⟩
  · intro b' o' y hb' hy
    simp only [St.upd, T.get_set] at hb'
    split at hb'
    · rename_i e; subst e; cases hb'
      obtain ⟨h2, _⟩ := h.obj _ _ _ hb hx
      rw [hx] at hy; cases hy
      exact ⟨h2, by rw [hw]; simpa [hlt] using ho⟩
    · rename_i e
      have h1 := hy
      obtain ⟨h2, h3⟩ := h.obj b' o' y hb' hy
      refine ⟨h2, ?_⟩
      have := h.inj b' b _ _ y x hb' hb h1 hx e
      rw [hw, Array.getElem?_setIfInBounds_ne (fun k => this k.symm)]
      exact h3
  · intro b1 b2 o1' o2' x1 x2 h1 h2 hx1 hx2 hne
    simp only [St.upd, T.get_set] at h1 h2
    have g : ∀ k v, (if k = b then some o1 else s.heap.get k) = some v → ∃ v', s.heap.get k = some v' := by
      intro k v hk
      split at hk
      · rename_i e; subst e; exact ⟨_, hb⟩
      · exact ⟨_, hk⟩
    obtain ⟨v1, g1⟩ := g _ _ h1
    obtain ⟨v2, g2⟩ := g _ _ h2
    exact h.inj b1 b2 v1 v2 x1 x2 g1 g2 hx1 hx2 hne

/-- a block that was named ahead comes to lie somewhere -/
theorem SRel.fill {base : Nat} {ρ : Env} {s : St} {w w' : World} (h : SRel base ρ s w) {b : Nat} {o : EObj} (hb : s.heap.get b = some o) (hn : ρ b = none) (hlt : b < s.next) (X : Obj) (S : Nat) (hw : w'.heap = w.heap.push X)
    (ho : ORel (ρ.put b ⟨w.heap.size, 0, S⟩) 0 S (some X) o) : SRel base (ρ.put b ⟨w.heap.size, 0, S⟩) s w' := by
  have hle := Env.sub_put ⟨w.heap.size, 0, S⟩ hn
  refine ⟨by rw [hw]; simp; have := h.le; omega, ?_, ?_, ?_, by simp only [Env.put]; have := h.top; omega⟩
  · intro k o' y hk hy
    by_cases e : k = b
    · subst e
      rw [hb] at hk; cases hk
      rw [Env.put_same] at hy; cases hy
      exact ⟨h.le, by rw [hw]; simpa using ho⟩
    · rw [Env.put_ne e] at hy
      obtain ⟨h2, h3⟩ := h.obj k o' y hk hy
      have hl := h.lt hk hy
      refine ⟨h2, ?_⟩
      rw [hw, Array.getElem?_push, if_neg (by omega)]
      exact h3.up hle
  · intro k k' o1 o2 x x' hk hk' hx hx' hne
    by_cases e : k = b
    · subst e
      have e' : k' ≠ k := fun e => hne e.symm
      rw [Env.put_same] at hx; cases hx
      rw [Env.put_ne e'] at hx'
      have := h.lt hk' hx'
      simp only; omega
    · rw [Env.put_ne e] at hx
      by_cases e' : k' = b
      · subst e'
        rw [Env.put_same] at hx'; cases hx'
        have := h.lt hk hx
        simp only; omega
      · rw [Env.put_ne e'] at hx'
        exact h.inj k k' o1 o2 x x' hk hk' hx hx' hne
  · intro k x hx
    by_cases e : k = b
    · subst e; exact hlt
    · rw [Env.put_ne e] at hx; exact h.dom k x hx

/-- a block of the world that is no other one's gets a name -/
theorem SRel.attach {base : Nat} {ρ : Env} {s : St} {w : World} (h : SRel base ρ s w) (o : EObj) {B S : Nat} (hb : base ≤ B) (hB : B < w.heap.size) (hne : ∀ b o x, s.heap.get b = some o → ρ b = some x → x.B ≠ B)
    (ho : ORel (ρ.put s.next ⟨B, 0, S⟩) 0 S w.heap[B]? o) : ρ.le (ρ.put s.next ⟨B, 0, S⟩) ∧ SRel base (ρ.put s.next ⟨B, 0, S⟩) (s.new o) w := by
  have hle := Env.le_put ⟨B, 0, S⟩ h.fresh
  refine ⟨hle, h.le, ?_, ?_, ?_, by simp only [Env.put, St.new]; have := h.top; omega⟩
  · intro k o' y hk hy
    simp only [St.new, T.get_set] at hk
    split at hk
    · rename_i e; subst e; cases hk
      rw [Env.put_same] at hy; cases hy
      exact ⟨hb, ho⟩
    · rename_i e
      rw [Env.put_ne e] at hy
      obtain ⟨h2, h3⟩ := h.obj k o' y hk hy
      exact ⟨h2, h3.mono hle⟩
  · intro k k' o1 o2 x x' hk hk' hx hx' hn
    simp only [St.new, T.get_set] at hk hk'
    by_cases e : k = s.next
    · subst e
      have e' : k' ≠ s.next := fun e => hn e.symm
      rw [Env.put_same] at hx; cases hx
      simp only [e', if_false] at hk'
      rw [Env.put_ne e'] at hx'
      exact fun hh => hne k' o2 x' hk' hx' hh.symm
    · simp only [e, if_false] at hk
      rw [Env.put_ne e] at hx
      by_cases e' : k' = s.next
      · subst e'
        rw [Env.put_same] at hx'; cases hx'
        exact hne k o1 x hk hx
      · simp only [e', if_false] at hk'
        rw [Env.put_ne e'] at hx'
        exact h.inj k k' o1 o2 x x' hk hk' hx hx' hn
  · intro k x hx
    show k < s.next + 1
    by_cases e : k = s.next
    · omega
    · rw [Env.put_ne e] at hx
      have := h.dom k x hx; omega

/-- blocks that are named ahead of lying anywhere -/
theorem SRel.ahead {base : Nat} {ρ : Env} {s s1 : St} {w : World} (h : SRel base ρ s w) (h1 : ∀ b, b < s.next → s1.heap.get b = s.heap.get b) (h2 : s.next ≤ s1.next) : SRel base ⟨ρ.f, s1.next⟩ s1 w := by
  have key : ∀ k o x, s1.heap.get k = some o → ρ k = some x → s.heap.get k = some o := fun k o x hk hx => by rw [← h1 k (h.dom k x hx)]; exact hk
  have hsub : ρ.sub ⟨ρ.f, s1.next⟩ := fun _ _ e => e
  refine ⟨h.le, fun k o x hk hx => ?_, fun k k' o1 o2 x x' hk hk' hx hx' hne => h.inj k k' o1 o2 x x' (key k o1 x hk hx) (key k' o2 x' hk' hx') hx hx' hne, fun k x hx => Nat.lt_of_lt_of_le (h.dom k x hx) h2, Nat.le_refl _⟩
  obtain ⟨g1, g2⟩ := h.obj k o x (key k o x hk hx) hx
  exact ⟨g1, g2.up hsub⟩

/-- the heap alone counts -/
theorem SRel.same {base : Nat} {ρ : Env} {s : St} {w w' : World} (h : SRel base ρ s w) (hw : w'.heap = w.heap) : SRel base ρ s w' :=
  ⟨by rw [hw]; exact h.le, by rw [hw]; exact h.obj, h.inj, h.dom, h.top⟩

theorem below_new {base : Nat} {w w' : World} {X : Obj} (h : base ≤ w.heap.size) (hw : w' = { w with heap := w.heap.push X }) : Below base w w' := by
  subst hw
  refine ⟨rfl, rfl, rfl, by simp, fun k hk => ?_⟩
  simp only [Array.getElem?_push]
  rw [if_neg (by omega)]
theorem below_set {base : Nat} {w w' : World} {B : Nat} {X : Obj} (h : base ≤ B) (hw : w' = { w with heap := w.heap.setIfInBounds B X }) : Below base w w' := by
  subst hw
  refine ⟨rfl, rfl, rfl, by simp, fun k hk => ?_⟩
  simp only
  rw [Array.getElem?_setIfInBounds_ne (by omega)]
theorem below_drawn {base : Nat} {w : World} (d : Nat) : Below base w { w with drawn := d } := ⟨rfl, rfl, rfl, Nat.le_refl _, fun _ _ => rfl⟩

end Go.Eng
