/-
  Texts of this claim, one behind the other: SymH SymI SymJ SymS SymK SymL. Each says its own conditions.
-/
import Derived.Test.YtjjebdfjmbnhpaaFrIsM1
import Derived.RangeFuncLeaves
import Derived.OrdersIn

section
namespace Go.Sym
set_option linter.unusedSimpArgs false
set_option linter.unusedVariables false

abbrev Er := Option (List Bool × V × St)
abbrev Es := Option (List Bool × St)
noncomputable section
variable (P : Program)

/-- an array of plain elements: how many, of which cells -/
def arrTy (t : TypeId) : Option (Nat × List Ty) :=
  match P.underlying t with
  | some (.array n el) => match rowTyE P 6 el, szE P el with
    | some e, some z => bif Nat.beq z e.length && (Nat.ble 1 z && match szE P t with
      | some zt => Nat.beq zt (n * e.length)
      | none => false) then some (n, e) else none
    | _, _ => none
  | _ => none
/-- an array's value as rows -/
def arrRows (n : Nat) (e : List Ty) (v : V) : Option (List (rowDen e)) :=
  match v with
  | .arr e' L => asL e e' L
  | .agg l => ofRows e n l
  | _ => none

def eStore (s : St) (t : TypeId) (a v : V) : Es :=
  match a with
  | .ptr b o => match s.heap.get b with
    | some (.cells cs t' ish) => match szE P t, cellsO v with
      | some n, some c => bif Nat.beq (llen c) n && (Nat.ble (o + n) (llen cs) && lall oneV c) then some ([], s.upd b (.cells (setAll cs o c) t' ish)) else none
      | _, _ => none
    | _ => none
  | .rptr b i j es => match s.heap.get b with
    | some (.rows e L t' ish) => bif !Nat.beq es e.length then none else
      match arrTy P t with
      | some (n, e2) => match i, j with
        | 0, 0 => bif !beqL e2 e then none else (match arrRows n e v with
          | some M => some ([decide (M.length = n), decide (L.length = n)], s.upd b (.rows e M t' ish))
          | none => none)
        | _, _ => none
      | none => match szE P t, cellsO v with
        | some n, some c => bif Nat.beq (llen c) n && (Nat.ble (j + n) es && lall oneV c) then (match ofRow e (setAll (rowV e (rowAt e L i)) j c) with
          | some r => some ([decide (i < L.length)], s.upd b (.rows e (L.set i r) t' ish))
          | none => none) else none
        | _, _ => none
    | _ => none
  | _ => none

/-- what an operation makes that makes one block: the cells (or rows), their type, and its value once the block has a name: a pointer, or a slice of so many elements, a capacity, elements of a size -/
inductive Mk where
  | cells (cs : List V) (t : TypeId) (sl : Option (Nat × Nat × Nat))
  | rows (e : List Ty) (L : List (rowDen e)) (t : TypeId) (sl : Option (Nat × Nat))
def Mk.val : Mk → Nat → V
  | .cells _ _ none, b => .ptr b 0
  | .cells _ _ (some (l, c, es)), b => .sl b 0 l c true es
  | .rows e _ _ none, b => .rptr b 0 0 e.length
  | .rows e _ _ (some (l, c)), b => .rs b 0 l c true e.length
def Mk.obj : Mk → EObj
  | .cells cs t _ => .cells cs t false
  | .rows e L t _ => .rows e L t false
def mkNew (s : St) : Option (List Bool × Mk) → Er
  | some (c, m) => some (c, m.val s.next, s.new m.obj)
  | none => none
def mBox (t : TypeId) (v : V) : Option (List Bool × Mk) :=
  match arrTy P t with
  | some (n, e) => match arrRows n e v with
    | some L => some ([], .rows e L t none)
    | none => none
  | none => match cellsO v with
    | some c => some ([], .cells c t none)
    | none => none
def mAlloc (t : TypeId) : Option (List Bool × Mk) :=
  match zeroE P t with
  | some z => mBox P t z
  | none => none
def eAlloc (s : St) (t : TypeId) : Er := mkNew s (mAlloc P t)
def eBox (s : St) (t : TypeId) (v : V) : Er := mkNew s (mBox P t v)

def repE : Nat → List V → List V
  | 0, _ => []
  | n + 1, zs => lapp zs (repE n zs)

/-- the plain cells of a type's value -/
def rowTy (el : TypeId) : Option (List Ty) :=
  match rowTyE P 6 el, szE P el with
  | some e, some z => bif Nat.beq z e.length && Nat.ble 1 z then some e else none
  | _, _ => none
def mRows (el : TypeId) (len : Nat) (cs : List V) (sz : Nat) : Mk :=
  match rowTy P el with
  | some e => bif Nat.beq e.length sz then (match ofRows e len cs with
    | some L => .rows e L el (some (len, len))
    | none => .cells cs el (some (len, len, sz))) else .cells cs el (some (len, len, sz))
  | none => .cells cs el (some (len, len, sz))
def mBuildSlice (t : TypeId) (len : Nat) (parts : List (Nat × V)) : Option (List Bool × Mk) :=
  match P.underlying t with
  | some (.slice e) => match szE P e, zeroE P e with
    | some sz, some zv => match cellsO zv with
      | some z =>
        bif Nat.beq (llen z) sz && (Nat.ble (len * sz) 16777216 && Nat.ble 1 sz) then
          (match fillE (fun i => some (i * sz, sz)) (repE len z) parts with
          | some cs => some ([], mRows P e len cs sz)
          | none => none) else none
      | none => none
    | _, _ => none
  | _ => none
def eBuildSlice (s : St) (t : TypeId) (len : Nat) (parts : List (Nat × V)) : Er := mkNew s (mBuildSlice P t len parts)

def mMakeSlice (t : TypeId) (len cap : V) : Option (List Bool × Mk) :=
  match P.underlying t, natOf len, natOf cap with
  | some (.slice el), some (cl, l), some (cc, c) => match P.info? el, zeroE P el with
    | some i, some zv => match cellsO zv with
      | some z =>
        bif Nat.beq (llen z) i.size && Nat.ble 1 i.size then
          (match rowTy P el with
          | some e => bif Nat.beq e.length i.size then (match ofRow e z with
            | some r => some (cl ++ (cc ++ [decide (l ≤ c), decide (c ≤ 281474976710656), decide (i.bytes * c ≤ 281474976710656)]), .rows e (List.replicate c r) el (some (l, c)))
            | none => none) else none
          | none => some (cl ++ (cc ++ [decide (l ≤ c), decide (c ≤ 281474976710656), decide (i.bytes * c ≤ 281474976710656)]), .cells (repE c z) el (some (l, c, i.size)))) else none
      | none => none
    | _, _ => none
  | _, _, _ => none
def eMakeSlice (s : St) (t : TypeId) (len cap : V) : Er := mkNew s (mMakeSlice P t len cap)

def eBytes (s : St) (src dst : TypeId) (a : V) : Er :=
  match P.underlying src, P.underlying dst, a with
  | some _, some (.slice e), .str x => match P.underlying e with
    | some (.int .u8) => some ([], .rs s.next 0 x.size x.size false 1, s.new (.rows [.int .u8] (bytesL x) e true))
    | _ => none
  | _, _, _ => none
end

section
variable {P : Program} {own : Own} {ρ : Env} {s : St} {w : World}

def CP (ρ : Env) (O : Nat) (cs : List V) (C : Array Value) : Prop := ∀ (i : Nat) (v : V), cs[i]? = some v → ∃ W, C[O + i]? = some W ∧ VRel ρ v W
def setA : Array Value → Nat → List Value → Array Value
  | C, _, [] => C
  | C, o, v :: l => setA (C.setIfInBounds o v) (o + 1) l
theorem setA_size : ∀ (l : List Value) (C : Array Value) (o : Nat), (setA C o l).size = C.size
  | [], _, _ => rfl
  | v :: l, C, o => by simp [setA, setA_size l]

theorem CP.set {O : Nat} {cs : List V} {C : Array Value} (h : CP ρ O cs C) {v : V} {X : Value} (hv : VRel ρ v X) {o : Nat} (ho : O + o < C.size) : CP ρ O (cs.set o v) (C.setIfInBounds (O + o) X) := by
  intro i u hi
  rw [List.getElem?_set] at hi
  rw [Array.getElem?_setIfInBounds]
  by_cases e : o = i
  · subst e
    simp only [if_true] at hi ⊢
    split at hi
    · cases hi; exact ⟨X, by simp [ho], hv⟩
    · cases hi
  · rw [if_neg e] at hi
    rw [if_neg (by omega)]
    exact h i u hi

theorem CP.setAll {O : Nat} : ∀ {l : List V} {L : List Value}, LRel ρ l L → ∀ {cs : List V} {C : Array Value}, CP ρ O cs C → ∀ {o : Nat}, O + o + l.length ≤ C.size → CP ρ O (setAll cs o l) (setA C (O + o) L)
  | [], L, hl, cs, C, h, o, ho => by
    have hl : L = [] := hl
    subst hl; exact h
  | v :: l, L, hl, cs, C, h, o, ho => by
    obtain ⟨X, Y, rfl, h1, h2⟩ := hl
    simp only [List.length_cons] at ho
    have := CP.setAll h2 (h.set h1 (o := o) (by omega)) (o := o + 1) (by simp; omega)
    rw [← lset_eq] at this
    exact this

theorem oneV_rel {v : V} {X : Value} (h : VRel ρ v X) (ho : oneV v = true) : X.oneCell' = true := by
  cases v <;> simp only [oneV, Bool.false_eq_true] at ho <;> simp only [VRel] at h
  all_goals first
    | (subst h; rfl)
    | (obtain ⟨_, _, _, _, rfl⟩ := h; rfl)
    | (obtain ⟨_, _, _, _, _, rfl, _⟩ := h; rfl)
    | (obtain ⟨_, _, rfl⟩ := h; rfl)
    | (obtain ⟨_, _, rfl, _⟩ := h; rfl)
    | (obtain ⟨_, rfl, _⟩ := h; rfl)
theorem allOne_rel : ∀ {l : List V} {L : List Value}, LRel ρ l L → l.all oneV = true → ∀ X ∈ L, X.oneCell' = true
  | [], L, h, _, X, hX => by have h : L = [] := h; subst h; cases hX
  | v :: l, L, h, ho, X, hX => by
    obtain ⟨Y, Z, rfl, h1, h2⟩ := h
    simp only [List.all_cons, Bool.and_eq_true] at ho
    rcases List.mem_cons.1 hX with rfl | hX
    · exact oneV_rel h1 ho.1
    · exact allOne_rel h2 ho.2 X hX

def NotFrozen (S : Nat) (fr : Nat × Nat) : Prop := ∀ k, k < S → (decide (fr.1 ≤ k) && decide (k < fr.2)) = false

theorem set_at {w : World} {B : Nat} {C : Array Value} {t : TypeId} {fr : Nat × Nat} (h : w.heap[B]? = some (.cells C t fr)) (o : Nat) (X : Value) :
    w.setCell ⟨B, o, none⟩ X = { w with heap := w.heap.setIfInBounds B (.cells (C.setIfInBounds o X) t fr) } := by
  simp only [World.setCell]
  congr 1
  apply Array.ext_getElem?
  intro i
  rw [Array.getElem?_modify, Array.getElem?_setIfInBounds]
  have hlt : B < w.heap.size := by
    rcases Nat.lt_or_ge B w.heap.size with hh | hh
    · exact hh
    · rw [Array.getElem?_eq_none hh] at h; cases h
  by_cases e : B = i
  · subst e
    have hh : w.heap[B] = .cells C t fr := by
      rw [Array.getElem?_eq_getElem hlt] at h
      exact Option.some.inj h
    simp [hlt, hh]
  · simp [e]

theorem run_storeAll {B : Nat} {t : TypeId} {fr : Nat × Nat} : ∀ (vs : List Value) (off i : Nat) (C : Array Value) (w : World), w.heap[B]? = some (.cells C t fr) → NotFrozen C.size fr → off + i + vs.length ≤ C.size →
    (∀ v ∈ vs, v.oneCell' = true) → (storeCells ⟨B, off, none⟩ vs i).run P w = .ok () { w with heap := w.heap.setIfInBounds B (.cells (setA C (off + i) vs) t fr) }
  | [], off, i, C, w, hw, _, _, _ => by
    simp only [storeCells, Sem.run_pure, setA]
    congr 1
    cases w with
    | mk heap tape drawn os output =>
      simp only at hw ⊢
      congr 1
      apply Array.ext_getElem?
      intro k
      rw [Array.getElem?_setIfInBounds]
      split
      · rename_i e; subst e
        split
        · exact hw
        · rename_i hh; rw [Array.getElem?_eq_none (by omega)] at hw; cases hw
      · rfl
  | v :: vs, off, i, C, w, hw, hf, hl, h1 => by
    simp only [List.length_cons] at hl
    have hlt : off + i < C.size := by omega
    have hc : w.cell? ⟨B, off + i, none⟩ = some C[off + i] := by simp [World.cell?, hw, hlt]
    have hfr : w.frozen? ⟨B, off + i, none⟩ = false := by simp only [World.frozen?, hw]; exact hf _ hlt
    simp only [storeCells, Sem.run_bind, addr_add, run_store P w _ v _ (h1 v (by simp)), hc, hfr, Bool.false_eq_true, if_false, Result.andThen_ok, set_at hw]
    have hB : B < w.heap.size := by
      rcases Nat.lt_or_ge B w.heap.size with hh | hh
      · exact hh
      · rw [Array.getElem?_eq_none hh] at hw; cases hw
    have := run_storeAll (B := B) (t := t) (fr := fr) vs off (i + 1) (C.setIfInBounds (off + i) v) { w with heap := w.heap.setIfInBounds B (.cells (C.setIfInBounds (off + i) v) t fr) }
      (by simp [hB]) (by simpa using hf) (by simp; omega) (fun u hu => h1 u (by simp [hu]))
    rw [this]
    simp [setA, Nat.add_assoc]

theorem SRel.cellsObj (h : SRel own ρ s w) {b : Nat} {cs : List V} {t : TypeId} {ish : Bool} (hg : s.heap.get b = some (.cells cs t ish)) {x : Blk} (hx : ρ b = some x) :
    ∃ C t' fr, w.heap[x.B]? = some (.cells C t' fr) ∧ C.size = x.S ∧ x.O + cs.length ≤ x.S ∧ CP ρ x.O cs C ∧ NotFrozen x.S fr ∧ (ish = false → fr = (0, 0)) ∧ (own x.B ∧ ∀ k, ρ.φ x.B k = none) := by
  obtain ⟨y, h1, h2, C, t', fr, h3, h4, h5, h6, h7, h8⟩ := h.obj' hg hx
  rw [hx] at h1; cases h1
  exact ⟨C, t', fr, h3, h4, h5, h6, h7, h8, h2⟩

/-- cells of a block are written -/
theorem SRel.write (h : SRel own ρ s w) {b : Nat} {cs : List V} {t : TypeId} {ish : Bool} (hg : s.heap.get b = some (.cells cs t ish)) {x : Blk} (hx : ρ b = some x)
    {o : Nat} {l : List V} {L : List Value} (hl : LRel ρ l L) (ho : o + l.length ≤ cs.length) (h1 : l.all oneV = true) :
    ∃ w', (storeCells ⟨x.B, x.O + o, none⟩ L).run P w = .ok () w' ∧ SRel own ρ (s.upd b (.cells (Sym.setAll cs o l) t ish)) w' ∧ Fr own w w' := by
  obtain ⟨C, t', fr, e1, e2, e3, e4, e5, e6, e7⟩ := h.cellsObj hg hx
  have hlen := hl.length
  have hrun := run_storeAll (P := P) L (x.O + o) 0 C w e1 (by rw [e2]; exact e5) (by omega) (allOne_rel hl h1)
  refine ⟨_, hrun, ?_, fr_set e7.1 rfl⟩
  refine h.upd hg hx _ _ rfl ⟨_, t', fr, rfl, by rw [setA_size]; exact e2, by rw [setAll_length]; exact e3, ?_, e5, e6⟩
  rw [Nat.add_zero]
  exact CP.setAll hl e4 (by omega)

/-! ### Rows -/
theorem TRel_lst (φ : Nat → Nat → Option Value) (e : List Ty) (L : (Ty.lst e).den) (X : Value) : TRel φ (.lst e) L X ↔ ∃ a c, X = .slice a (List.length (α := rowDen e) L) c ∧ List.length (α := rowDen e) L ≤ c ∧ (a = none → c = 0) ∧
      (0 < List.length (α := rowDen e) L → ∃ B o, a = some ⟨B, o, none⟩ ∧ ∀ i, i < List.length (α := rowDen e) L → CRel φ e (rowAt e L i) (fun j => φ B (o + i * e.length + j))) := by
  rw [TRel]
theorem ofV_rel : ∀ (t : Ty) (v : V) (x : t.den) (X : Value), ofV t v = some x → VRel ρ v X → TRel ρ.φ t x X
  | .int k, v, x, X, h, hv => by
    change ofInt k v = some x at h
    unfold ofInt at h
    split at h
    · rename_i k' n
      rw [kEq_iff] at h
      by_cases hk : k = k'
      · subst hk
        simp only [decide_true, cond_true] at h
        cases h
        rw [TRel]; simpa only [VRel] using hv
      · simp [hk] at h
    · cases h
  | .bool, v, x, X, h, hv => by
    change ofBool v = some x at h
    unfold ofBool at h
    split at h
    · cases h
      rw [TRel]; simpa only [VRel] using hv
    · cases h
  | .str, v, x, X, h, hv => by
    change ofStr v = some x at h
    unfold ofStr at h
    split at h
    · cases h
      rw [TRel]; simpa only [VRel] using hv
    · cases h
  | .lst e, v, x, X, h, hv => by
    change ofLst e v = some x at h
    unfold ofLst at h
    split at h
    · rename_i e' L cl
      obtain ⟨q, e1⟩ := asL_some h
      subst q
      have e1 : x = L := e1
      subst e1
      rw [TRel]
      simp only [VRel] at hv
      obtain ⟨a, c, h1, h2, _, h3, h4⟩ := hv
      exact ⟨a, c, h1, h2, h3, fun hp => let ⟨B, o, g1, g2⟩ := h4 hp; ⟨B, o, g1, fun i hi => by simpa [Nat.add_assoc] using g2 i hi⟩⟩
    · cases h
      simp only [VRel] at hv
      exact (TRel_lst ρ.φ e _ X).2 ⟨none, 0, hv, Nat.le_refl _, fun _ => rfl, fun hp => absurd hp (Nat.lt_irrefl _)⟩
    · cases h
theorem pairO_some {α β : Type} {x : Option α} {y : Option β} {r : α × β} (h : pairO x y = some r) : x = some r.1 ∧ y = some r.2 := by
  cases x <;> cases y <;> simp only [pairO, reduceCtorEq, Option.some.injEq] at h
  subst h; exact ⟨rfl, rfl⟩
theorem oneO_some {α : Type} {f : V → Option α} {l : List V} {r : α} (h : oneO f l = some r) : ∃ v, l = [v] ∧ f v = some r := by
  unfold oneO at h
  split at h
  · exact ⟨_, rfl, h⟩
  · cases h
theorem consO_some {α β : Type} {f : V → Option α} {g : List V → Option β} {l : List V} {r : α × β} (h : consO f g l = some r) : ∃ v vs, l = v :: vs ∧ f v = some r.1 ∧ g vs = some r.2 := by
  unfold consO at h
  split at h
  · obtain ⟨h1, h2⟩ := pairO_some h
    exact ⟨_, _, rfl, h1, h2⟩
  · cases h
theorem ofRow_rel : ∀ (e : List Ty) (l : List V) (x : rowDen e), ofRow e l = some x → ∀ {C : Nat → Option Value}, (∀ i v, l[i]? = some v → ∃ W, C i = some W ∧ VRel ρ v W) → CRel ρ.φ e x C
  | [], l, x, h, C, hc => by rw [CRel]; trivial
  | [t], l, x, h, C, hc => by
    obtain ⟨v, rfl, hv⟩ := oneO_some (α := t.den) h
    obtain ⟨W, h1, h2⟩ := hc 0 v rfl
    rw [CRel]
    exact ⟨W, h1, ofV_rel t v x W hv h2⟩
  | t :: u :: ts, l, x, h, C, hc => by
    obtain ⟨v, vs, rfl, ha, hb⟩ := consO_some (α := t.den) (β := rowDen (u :: ts)) h
    obtain ⟨W, h1, h2⟩ := hc 0 v rfl
    rw [CRel]
    exact ⟨⟨W, h1, ofV_rel t v _ W ha h2⟩, ofRow_rel (u :: ts) vs _ hb fun i v' hi => hc (i + 1) v' (by simpa using hi)⟩
theorem ofRow_length : ∀ (e : List Ty) (l : List V) (x : rowDen e), ofRow e l = some x → l.length = e.length
  | [], l, x, h => by
    change nilO l = some x at h
    unfold nilO at h
    split at h
    · rfl
    · cases h
  | [t], l, x, h => by
    obtain ⟨v, rfl, hv⟩ := oneO_some (α := t.den) h
    rfl
  | t :: u :: ts, l, x, h => by
    obtain ⟨v, vs, rfl, ha, hb⟩ := consO_some (α := t.den) (β := rowDen (u :: ts)) h
    simp [ofRow_length (u :: ts) vs _ hb]
theorem ofRows_spec (e : List Ty) : ∀ (n : Nat) (l : List V) (L : List (rowDen e)), ofRows e n l = some L → L.length = n ∧ l.length = n * e.length ∧
    ∀ {C : Nat → Option Value}, (∀ i v, l[i]? = some v → ∃ W, C i = some W ∧ VRel ρ v W) → RowsAt ρ.φ e L C
  | 0, l, L, h => by
    simp only [ofRows] at h
    split at h
    · cases h; exact ⟨rfl, by simp, fun _ i hi => absurd hi (by simp)⟩
    · cases h
  | n + 1, l, L, h => by
    simp only [ofRows, ltake_eq, ldrop_eq] at h
    split at h
    · rename_i x y hx hy
      cases h
      obtain ⟨i1, i2, i3⟩ := ofRows_spec e n _ _ hy
      have h1 := ofRow_length _ _ _ hx
      simp only [List.length_take, List.length_drop] at h1 i2
      refine ⟨by simp [i1], by rw [Nat.succ_mul]; omega, fun {C} hc => ?_⟩
      intro i hi
      cases i with
      | zero =>
        refine ofRow_rel e _ x hx fun j v hj => ?_
        have hlt : j < e.length := by
          have := (List.getElem?_eq_some_iff.1 hj).1
          simp at this; omega
        rw [List.getElem?_take_of_lt hlt] at hj
        simpa using hc j v hj
      | succ i =>
        have := i3 (C := fun k => C (e.length + k)) (fun j v hj => by
          rw [List.getElem?_drop] at hj
          exact hc _ v hj) i (by simpa using hi)
        have e2 : rowAt e (x :: y) (i + 1) = rowAt e y i := by simp [rowAt]
        rw [e2]
        refine CRel.mono (fun _ _ _ hv => hv) e _ (fun j v hv => ?_) this
        rw [← hv]; congr 1; rw [Nat.succ_mul]; omega
    · cases h

theorem CRel.ltφ {φ : Nat → Nat → Option Value} (e : List Ty) (x : rowDen e) {C : Nat → Option Value} (h : CRel φ e x C) : CRel φ e x (fun j => if j < e.length then C j else none) :=
  CRel.lt (ρ := ⟨fun _ => none, 0, φ⟩) e x h
theorem RowsAt.set {φ : Nat → Nat → Option Value} {e : List Ty} {L : List (rowDen e)} {C C' : Nat → Option Value} (h : RowsAt φ e L C) {i : Nat} {r : rowDen e} (hr : CRel φ e r (fun j => C' (i * e.length + j)))
    (hc : ∀ k, k < i * e.length ∨ (i + 1) * e.length ≤ k → C' k = C k) : RowsAt φ e (L.set i r) C' := by
  intro k hk
  simp only [List.length_set] at hk
  by_cases hik : i = k
  · subst hik
    have : rowAt e (L.set i r) i = r := by simp [rowAt, hk]
    rw [this]; exact hr
  · have : rowAt e (L.set i r) k = rowAt e L k := by simp [rowAt, List.getD_eq_getElem?_getD, List.getElem?_set_ne hik]
    rw [this]
    refine CRel.mono (fun _ _ _ hv => hv) e _ (fun j v hv => ?_) (CRel.ltφ e _ (h k hk))
    split at hv
    · rename_i hj
      rw [hc _ ?_]; exact hv
      rcases Nat.lt_or_gt_of_ne hik with hh | hh
      · right
        have := Nat.mul_le_mul_right e.length (show i + 1 ≤ k from hh); omega
      · left
        have := Nat.mul_le_mul_right e.length (show k + 1 ≤ i from hh)
        rw [Nat.succ_mul] at this; omega
    · cases hv

theorem arrTy_spec {t : TypeId} {n : Nat} {e : List Ty} (h : arrTy P t = some (n, e)) : ∃ el, P.underlying t = some (.array n el) ∧ szE P el = some e.length ∧ szE P t = some (n * e.length) ∧ 1 ≤ e.length := by
  unfold arrTy at h
  split at h
  · rename_i n' el hd
    split at h
    · rename_i e' z he hz
      cases hb : (Nat.beq z e'.length && (Nat.ble 1 z && match szE P t with
        | some zt => Nat.beq zt (n' * e'.length)
        | none => false)) with
      | false => rw [hb] at h; cases h
      | true =>
        rw [hb, cond_true] at h
        cases h
        simp only [Bool.and_eq_true, Nat.beq_eq, Nat.ble_eq] at hb
        obtain ⟨b1, b2, b3⟩ := hb
        split at b3
        · rename_i zt hzt
          have b3 := Nat.eq_of_beq_eq_true b3
          refine ⟨el, hd, by rw [hz, b1], by rw [hzt, b3], by omega⟩
        · cases b3
    · cases h
  · cases h

theorem arrRows_rel {n : Nat} {e : List Ty} {v : V} {M : List (rowDen e)} (h : arrRows n e v = some M) {X : Value} (hv : VRel ρ v X) : ∃ A, X = .agg A ∧ A.size = M.length * e.length ∧ RowsAt ρ.φ e M (fun k => A[k]?) := by
  unfold arrRows at h
  split at h
  · rename_i e' L
    obtain ⟨q, rfl⟩ := asL_some h
    subst q
    simp only [VRel] at hv
    exact hv
  · rename_i l
    simp only [VRel] at hv
    obtain ⟨A, rfl, hl⟩ := hv
    obtain ⟨h1, h2, h3⟩ := ofRows_spec (ρ := ρ) e n l M h
    have hlen := hl.length
    simp only [Array.length_toList] at hlen
    refine ⟨A, rfl, by rw [← hlen, h2, h1], h3 fun i u hi => ?_⟩
    obtain ⟨W, g1, g2⟩ := hl.get hi
    exact ⟨W, by simpa using g1, g2⟩
  · cases h

theorem setA_get : ∀ (l : List Value) (C : Array Value) (p k : Nat), p + l.length ≤ C.size → (setA C p l)[k]? = if p ≤ k ∧ k < p + l.length then l[k - p]? else C[k]? := by
  intro l
  induction l with
  | nil => intro C p k _; simp [setA]; omega
  | cons c l ih =>
    intro C p k hp
    simp only [List.length_cons] at hp ⊢
    simp only [setA]
    rw [ih _ _ _ (by simp; omega)]
    by_cases hk : k = p
    · subst hk
      rw [if_neg (by omega), if_pos (by omega), Array.getElem?_setIfInBounds_self_of_lt (by omega)]
      simp
    · by_cases hk2 : p + 1 ≤ k ∧ k < p + 1 + l.length
      · rw [if_pos hk2, if_pos (by omega)]
        obtain ⟨d, rfl⟩ : ∃ d, k = p + 1 + d := ⟨k - (p + 1), by omega⟩
        rw [show p + 1 + d - (p + 1) = d from by omega, show p + 1 + d - p = d + 1 from by omega]
        simp
      · rw [if_neg hk2, if_neg (by omega), Array.getElem?_setIfInBounds_ne (by omega)]

theorem SRel.rowsObj (h : SRel own ρ s w) {b : Nat} {e : List Ty} {L : List (rowDen e)} {t : TypeId} {ish : Bool} (hg : s.heap.get b = some (.rows e L t ish)) {x : Blk} (hx : ρ b = some x) :
    ∃ C t' fr, w.heap[x.B]? = some (.cells C t' fr) ∧ C.size = x.S ∧ x.O + L.length * e.length ≤ x.S ∧ RowsAt ρ.φ e L (fun k => C[x.O + k]?) ∧ NotFrozen x.S fr ∧ (ish = false → fr = (0, 0)) ∧ (own x.B ∧ ∀ k, ρ.φ x.B k = none) := by
  obtain ⟨y, h1, h2, C, t', fr, h3, h4, h5, h6, h7, h8⟩ := h.obj' hg hx
  rw [hx] at h1; cases h1
  exact ⟨C, t', fr, h3, h4, h5, h6, h7, h8, h2⟩

/-- values of one cell each -/
def Ones (L : List Value) : Prop := ∀ X ∈ L, X.oneCell' = true
theorem TRel.one {φ : Nat → Nat → Option Value} : ∀ (t : Ty) (x : t.den) (X : Value), TRel φ t x X → X.oneCell' = true
  | .int k, n, X, h => by rw [TRel] at h; subst h; rfl
  | .bool, b, X, h => by rw [TRel] at h; subst h; rfl
  | .str, s, X, h => by rw [TRel] at h; subst h; rfl
  | .lst e, L, X, h => by rw [TRel] at h; obtain ⟨a, c, rfl, _⟩ := h; rfl
theorem CRel.one {φ : Nat → Nat → Option Value} : ∀ (e : List Ty) (x : rowDen e) (C : Nat → Option Value), CRel φ e x C → ∀ j X, j < e.length → C j = some X → X.oneCell' = true
  | [], _, _, _, j, X, hj, _ => by simp at hj
  | [t], x, C, h, j, X, hj, hX => by
    rw [CRel] at h
    obtain ⟨Y, h1, h2⟩ := h
    have : j = 0 := by simpa using hj
    subst this
    rw [h1] at hX; cases hX
    exact TRel.one t _ _ h2
  | t :: u :: ts, x, C, h, j, X, hj, hX => by
    rw [CRel] at h
    obtain ⟨⟨Y, h1, h2⟩, h3⟩ := h
    cases j with
    | zero => rw [h1] at hX; cases hX; exact TRel.one t _ _ h2
    | succ j => exact CRel.one (u :: ts) x.2 _ h3 j X (by simpa using hj) hX
theorem CRel.some {φ : Nat → Nat → Option Value} : ∀ (e : List Ty) (x : rowDen e) (C : Nat → Option Value), CRel φ e x C → ∀ j, j < e.length → ∃ X, C j = some X
  | [], _, _, _, j, hj => by simp at hj
  | [t], x, C, h, j, hj => by
    rw [CRel] at h
    obtain ⟨Y, h1, h2⟩ := h
    have : j = 0 := by simpa using hj
    subst this
    exact ⟨_, h1⟩
  | t :: u :: ts, x, C, h, j, hj => by
    rw [CRel] at h
    obtain ⟨⟨Y, h1, h2⟩, h3⟩ := h
    cases j with
    | zero => exact ⟨_, h1⟩
    | succ j => exact CRel.some (u :: ts) x.2 _ h3 j (by simpa using hj)
theorem RowsAt.cell {φ : Nat → Nat → Option Value} {e : List Ty} {L : List (rowDen e)} {C : Nat → Option Value} (h : RowsAt φ e L C) {k : Nat} (hk : k < L.length * e.length) : ∃ X, C k = some X ∧ X.oneCell' = true := by
  have he0 : 0 < e.length := by
    rcases Nat.eq_zero_or_pos e.length with h0 | h0
    · rw [h0] at hk; simp at hk
    · exact h0
  have hkk : k / e.length < L.length := (Nat.div_lt_iff_lt_mul he0).2 hk
  have hm := Nat.mod_lt k he0
  obtain ⟨X, hX⟩ := CRel.some e _ _ (h _ hkk) _ hm
  have e2 : k / e.length * e.length + k % e.length = k := by rw [Nat.mul_comm]; exact Nat.div_add_mod k e.length
  refine ⟨X, ?_, CRel.one e _ _ (h _ hkk) _ X hm hX⟩
  simpa [e2] using hX
/-- a list's cells, as values -/
theorem RowsAt.list {φ : Nat → Nat → Option Value} {e : List Ty} {L : List (rowDen e)} {C : Nat → Option Value} (h : RowsAt φ e L C) :
    ∃ V : List Value, V.length = L.length * e.length ∧ (∀ k X, V[k]? = some X → C k = some X) ∧ RowsAt φ e L (fun k => V[k]?) ∧ Ones V := by
  have hex : ∀ k, k < L.length * e.length → ∃ X, C k = some X ∧ X.oneCell' = true := fun k hk => h.cell hk
  refine ⟨(List.range (L.length * e.length)).map fun k => if hk : k < L.length * e.length then (hex k hk).choose else undef, by simp, ?_, ?_, ?_⟩
  · intro k X hX
    have hk : k < L.length * e.length := by
      have := (List.getElem?_eq_some_iff.1 hX).1
      simpa using this
    rw [List.getElem?_map, List.getElem?_range hk] at hX
    simp only [Option.map_some, hk, dif_pos, Option.some.injEq] at hX
    subst hX
    exact (hex k hk).choose_spec.1
  · intro i hi
    refine CRel.mono (fun _ _ _ hv => hv) e _ (fun j v hv => ?_) (CRel.ltφ e _ (h i hi))
    split at hv
    · rename_i hj
      have hk : i * e.length + j < L.length * e.length := by
        have h1 : (i + 1) * e.length ≤ L.length * e.length := Nat.mul_le_mul_right _ hi
        rw [Nat.succ_mul] at h1; omega
      show ((List.range (L.length * e.length)).map _)[i * e.length + j]? = _
      rw [List.getElem?_map, List.getElem?_range hk]
      simp only [Option.map_some, hk, dif_pos]
      rw [← (hex _ hk).choose_spec.1]
      exact hv
    · cases hv
  · intro X hX
    obtain ⟨k, hk, rfl⟩ := List.mem_map.1 hX
    have hk : k < L.length * e.length := by simpa using hk
    simp only [hk, dif_pos]
    exact (hex k hk).choose_spec.2

/-- cells of a block of rows are written -/
theorem SRel.writeRows (h : SRel own ρ s w) {b : Nat} {e : List Ty} {L : List (rowDen e)} {t : TypeId} {ish : Bool} (hg : s.heap.get b = some (.rows e L t ish)) {x : Blk} (hx : ρ b = some x)
    {o : Nat} {V : List Value} (ho : o + V.length ≤ L.length * e.length) (h1 : Ones V) {M : List (rowDen e)} (hM : M.length * e.length ≤ L.length * e.length)
    (hrel : ∀ C C' : Array Value, RowsAt ρ.φ e L (fun k => C[x.O + k]?) → (∀ k, C'[x.O + k]? = if o ≤ k ∧ k < o + V.length then V[k - o]? else C[x.O + k]?) → RowsAt ρ.φ e M (fun k => C'[x.O + k]?)) :
    ∃ w', (storeCells ⟨x.B, x.O + o, none⟩ V).run P w = .ok () w' ∧ SRel own ρ (s.upd b (.rows e M t ish)) w' ∧ Fr own w w' := by
  obtain ⟨C, t', fr, e1, e2, e3, e4, e5, e6, e7⟩ := h.rowsObj hg hx
  have hrun := run_storeAll (P := P) V (x.O + o) 0 C w e1 (by rw [e2]; exact e5) (by omega) h1
  refine ⟨_, hrun, ?_, fr_set e7.1 rfl⟩
  refine h.upd hg hx _ _ rfl ⟨_, t', fr, rfl, by rw [setA_size]; exact e2, by omega, ?_, e5, e6⟩
  rw [Nat.add_zero]
  refine hrel C _ e4 fun k => ?_
  rw [setA_get _ _ _ _ (by omega)]
  by_cases hk : o ≤ k ∧ k < o + V.length
  · rw [if_pos hk, if_pos (by omega)]; congr 1; omega
  · rw [if_neg hk, if_neg (by omega)]

theorem eStore_rel (h : SRel own ρ s w) {t : TypeId} {a v : V} {s' : St} {ps : List Bool} (hq : eStore P s t a v = some (ps, s')) (hp : allB ps) {A X : Value} (ha : VRel ρ a A) (hv : VRel ρ v X) :
    ∃ w', (Instr.storeAt t A X).run P w = .ok () w' ∧ SRel own ρ s' w' ∧ Fr own w w' := by
  unfold eStore at hq
  simp only [llen_eq, lall_eq, ltake_eq, ldrop_eq, lapp_eq, lget_eq] at hq
  split at hq
  · rename_i b o
    split at hq
    · rename_i cs t' ish hg
      split at hq
      · rename_i n c hn hcv
        cases hb : (Nat.beq c.length n && (Nat.ble (o + n) cs.length && c.all oneV)) with
        | false => simp [hb] at hq
        | true =>
          simp only [hb, cond_true] at hq
          cases hq
          simp only [Bool.and_eq_true, Nat.ble_eq, Nat.beq_eq] at hb
          simp only [VRel] at ha
          obtain ⟨B, O, S, hB, rfl⟩ := ha
          have hc := cellsO_rel hcv hv
          obtain ⟨w', h1, h2, h3⟩ := h.write (P := P) hg hB hc (o := o) (by omega) hb.2.2
          refine ⟨w', ?_, h2, h3⟩
          have hl := hc.length
          simp only [Array.length_toList] at hl
          have : ¬ X.cells.size ≠ n := by omega
          simp only at h1
          simp [Instr.storeAt, Instr.sureAddr, storeVar, run_size hn, this, h1]
      · cases hq
    · cases hq
  · rename_i b i j es
    split at hq
    · rename_i e L t' ish hg
      cases hes : Nat.beq es e.length with
      | false => rw [hes] at hq; cases hq
      | true =>
      have he := Nat.eq_of_beq_eq_true hes
      subst he
      simp only [hes, Bool.not_true, cond_false] at hq
      simp only [VRel] at ha
      obtain ⟨B, O, S, hB, rfl⟩ := ha
      split at hq
      · rename_i n e2 hat
        split at hq
        · cases hbe : beqL e2 e with
          | false => rw [hbe] at hq; cases hq
          | true =>
          have := beqL_eq _ _ hbe
          subst this
          simp only [hbe, Bool.not_true, cond_false] at hq
          split at hq
          · rename_i M hM
            cases hq
            obtain ⟨p1, p2, _⟩ := hp
            simp only [decide_eq_true_eq] at p1 p2
            obtain ⟨el, _, _, hsz, _⟩ := arrTy_spec hat
            obtain ⟨A, rfl, hA, hr⟩ := arrRows_rel hM hv
            obtain ⟨w', g1, g2, g3⟩ := h.writeRows (P := P) hg hB (o := 0) (V := A.toList) (by simp [hA, p1, p2]) (fun X hX => by
              obtain ⟨k, hk⟩ := List.mem_iff_getElem?.1 hX
              have hlt : k < M.length * e2.length := by
                have := (List.getElem?_eq_some_iff.1 hk).1
                simpa [hA] using this
              obtain ⟨Y, q1, q2⟩ := hr.cell hlt
              rw [Array.getElem?_toList, q1] at hk
              cases hk; exact q2) (M := M) (by rw [p1, p2]; exact Nat.le_refl _) (fun C C' _ hC => by
              refine RowsAt.mono (fun _ _ _ hv => hv) (fun k u hu => ?_) hr
              have hk : k < A.size := (Array.getElem?_eq_some_iff.1 hu).1
              show C'[O + k]? = _
              have := hC k
              rw [this, if_pos (by simp; omega)]
              simpa using hu)
            refine ⟨w', ?_, g2, g3⟩
            simp only [Nat.add_zero] at g1
            have hne : ¬ A.size ≠ n * e2.length := by rw [hA, p1]; simp
            simp [Instr.storeAt, Instr.sureAddr, storeVar, run_size hsz, Value.cells, hne, g1]
          · cases hq
        · cases hq
      · split at hq
        · rename_i n c hn hcv
          cases hb : (Nat.beq c.length n && (Nat.ble (j + n) e.length && c.all oneV)) with
          | false => rw [hb] at hq; cases hq
          | true =>
          rw [hb, cond_true] at hq
          simp only [Bool.and_eq_true, Nat.ble_eq, Nat.beq_eq] at hb
          split at hq
          · rename_i r hr
            cases hq
            have hi : i < L.length := by simpa using hp.1
            have hc := cellsO_rel hcv hv
            have hl := hc.length
            simp only [Array.length_toList] at hl
            have hmul : (i + 1) * e.length ≤ L.length * e.length := Nat.mul_le_mul_right _ hi
            rw [Nat.succ_mul] at hmul
            obtain ⟨w', g1, g2, g3⟩ := h.writeRows (P := P) hg hB (o := i * e.length + j) (V := X.cells.toList) (by simp; omega) (allOne_rel hc hb.2.2) (M := L.set i r) (by simp) (fun C C' hC hC' => by
              refine hC.set ?_ ?_
              · refine ofRow_rel e _ r hr fun k u hk => ?_
                have hrow := rowV_get (ρ := ρ) e _ (hC i hi)
                have hlr := rowV_length e (rowAt e L i)
                have sg : ∀ (l cs : List V) (off k : Nat), off + l.length ≤ cs.length → (Sym.setAll cs off l)[k]? = if off ≤ k ∧ k < off + l.length then l[k - off]? else cs[k]? := by
                  intro l
                  induction l with
                  | nil => intro cs off k _; simp [Sym.setAll]; omega
                  | cons c l ih =>
                    intro cs off k ho
                    simp only [List.length_cons] at ho ⊢
                    simp only [Sym.setAll, lset_eq]
                    rw [ih _ _ _ (by simp; omega)]
                    by_cases hk : k = off
                    · subst hk
                      rw [if_neg (by omega), if_pos (by omega), List.getElem?_set_self (by omega)]
                      simp
                    · by_cases hk2 : off + 1 ≤ k ∧ k < off + 1 + l.length
                      · rw [if_pos hk2, if_pos (by omega)]
                        obtain ⟨d, rfl⟩ : ∃ d, k = off + 1 + d := ⟨k - (off + 1), by omega⟩
                        rw [show off + 1 + d - (off + 1) = d from by omega, show off + 1 + d - off = d + 1 from by omega]
                        simp
                      · rw [if_neg hk2, if_neg (by omega), List.getElem?_set_ne (by omega)]
                rw [sg _ _ _ _ (by omega)] at hk
                have hck := hC' (i * e.length + k)
                simp only at hck
                rw [hck]
                by_cases hjk : j ≤ k ∧ k < j + c.length
                · rw [if_pos hjk] at hk
                  rw [if_pos (by simp; omega)]
                  obtain ⟨W, q1, q2⟩ := hc.get hk
                  refine ⟨W, ?_, q2⟩
                  rw [show i * e.length + k - (i * e.length + j) = k - j from by omega]
                  exact q1
                · rw [if_neg hjk] at hk
                  rw [if_neg (by simp; omega)]
                  exact hrow k u hk
              · intro k hk
                have hck := hC' k
                simp only at hck
                rw [Nat.succ_mul] at hk
                rw [hck, if_neg (by simp; omega)])
            refine ⟨w', ?_, g2, g3⟩
            have hne : ¬ X.cells.size ≠ n := by omega
            simp only [← Nat.add_assoc] at g1
            simp [Instr.storeAt, Instr.sureAddr, storeVar, run_size hn, hne, g1]
          · cases hq
        · cases hq
    · cases hq
  · cases hq

end
end Go.Sym
end

section
namespace Go.Sym
set_option linter.unusedSimpArgs false
set_option linter.unusedVariables false
section
variable {P : Program} {own : Own} {ρ : Env} {s : St} {w : World}

/-- a new block of cells -/
theorem SRel.newCells (h : SRel own ρ s w) {cs : List V} {C : Array Value} (hc : LRel ρ cs C.toList) (t t' : TypeId) :
    ρ.le (ρ.put s.next ⟨w.heap.size, 0, C.size⟩) ∧ SRel own (ρ.put s.next ⟨w.heap.size, 0, C.size⟩) (s.new (.cells cs t false)) { w with heap := w.heap.push (.cells C t') } ∧
      Fr own w { w with heap := w.heap.push (.cells C t') } := by
  have hle := Env.le_put ⟨w.heap.size, 0, C.size⟩ h.fresh
  refine ⟨hle, h.new _ (.cells C t') C.size rfl ⟨C, t', (0, 0), rfl, rfl, ?_, ?_, by simp, fun _ => rfl⟩, fr_new h.le rfl⟩
  · have := hc.length; simp at this; omega
  · intro i v hi
    obtain ⟨X, e1, e2⟩ := hc.get hi
    exact ⟨X, by simpa using e1, VRel.mono hle _ _ e2⟩

def OKv (P : Program) (own : Own) (ρ : Env) (m : Sem Value) (w : World) (v : V) (s' : St) : Prop :=
  ∃ ρ' X w', ρ.le ρ' ∧ m.run P w = .ok X w' ∧ VRel ρ' v X ∧ SRel own ρ' s' w' ∧ Fr own w w'

/-- a new block of rows -/
theorem SRel.newRows (h : SRel own ρ s w) {e : List Ty} {L : List (rowDen e)} {C : Array Value} (hs : L.length * e.length ≤ C.size) (hc : RowsAt ρ.φ e L (fun k => C[k]?)) (t t' : TypeId) :
    ρ.le (ρ.put s.next ⟨w.heap.size, 0, C.size⟩) ∧ SRel own (ρ.put s.next ⟨w.heap.size, 0, C.size⟩) (s.new (.rows e L t false)) { w with heap := w.heap.push (.cells C t') } ∧
      Fr own w { w with heap := w.heap.push (.cells C t') } := by
  have hle := Env.le_put ⟨w.heap.size, 0, C.size⟩ h.fresh
  refine ⟨hle, h.new _ (.cells C t') C.size rfl ⟨C, t', (0, 0), rfl, rfl, ?_, ?_, by simp, fun _ => rfl⟩, fr_new h.le rfl⟩
  · omega
  · show RowsAt ρ.φ e L (fun k => C[0 + k]?)
    simpa using hc

/-- the operation makes one block, that is just so -/
def MkOK (P : Program) (ρ : Env) (m : Sem Value) (w : World) : Mk → Prop
  | .cells cs t sl => ∃ X C t', m.run P w = .ok X { w with heap := w.heap.push (.cells C t') } ∧ LRel ρ cs C.toList ∧
      ∀ (ρ' : Env) (b : Nat), ρ' b = some ⟨w.heap.size, 0, C.size⟩ → VRel ρ' ((Mk.cells cs t sl).val b) X
  | .rows e L t sl => ∃ X C t', m.run P w = .ok X { w with heap := w.heap.push (.cells C t') } ∧ C.size = L.length * e.length ∧ RowsAt ρ.φ e L (fun k => C[k]?) ∧
      ∀ (ρ' : Env) (b : Nat), ρ' b = some ⟨w.heap.size, 0, C.size⟩ → VRel ρ' ((Mk.rows e L t sl).val b) X
theorem mkNew_rel (h : SRel own ρ s w) {m : Option (List Bool × Mk)} {v : V} {s' : St} {ps : List Bool} (hq : mkNew s m = some (ps, v, s')) (hp : allB ps) {x : Sem Value} (hm : ∀ c k, m = some (c, k) → allB c → MkOK P ρ x w k) : OKv P own ρ x w v s' := by
  unfold mkNew at hq
  split at hq
  · rename_i c m
    cases hq
    have hm := hm _ _ rfl hp
    cases m with
    | cells cs t sl =>
      obtain ⟨X, C, t', e1, e2, e3⟩ := hm
      obtain ⟨h1, h2, h3⟩ := h.newCells e2 t t'
      exact ⟨_, X, _, h1, e1, e3 _ _ Env.put_same, h2, h3⟩
    | rows e L t sl =>
      obtain ⟨X, C, t', e1, e2, e3, e4⟩ := hm
      obtain ⟨h1, h2, h3⟩ := h.newRows (by omega) e3 t t'
      exact ⟨_, X, _, h1, e1, e4 _ _ Env.put_same, h2, h3⟩
  · cases hq

theorem mBox_rel {t : TypeId} {v : V} {m : Mk} {c : List Bool} (hq : mBox P t v = some (c, m)) {X : Value} (hv : VRel ρ v X) : MkOK P ρ (Instr.box t X) w m := by
  have run : (Instr.box t X).run P w = .ok (.pointer (some ⟨w.heap.size, 0, none⟩)) { w with heap := w.heap.push (.cells X.cells t) } := by
    simp [Instr.box, newVar, newRow]
  unfold mBox at hq
  split at hq
  · rename_i n e hat
    split at hq
    · rename_i L hL
      cases hq
      obtain ⟨A, rfl, h1, h2⟩ := arrRows_rel hL hv
      refine ⟨_, A, t, run, h1, h2, fun ρ' b hb => ?_⟩
      simp only [Mk.val, VRel]
      exact ⟨_, _, _, hb, by simp⟩
    · cases hq
  · split at hq
    · rename_i cc hcc
      cases hq
      refine ⟨_, X.cells, t, run, cellsO_rel hcc hv, fun ρ' b hb => ?_⟩
      simp only [Mk.val, VRel]
      exact ⟨_, _, _, hb, rfl⟩
    · cases hq
theorem mAlloc_rel {t : TypeId} {m : Mk} {c : List Bool} (hq : mAlloc P t = some (c, m)) : MkOK P ρ (Instr.alloc t true (.tuple #[])) w m := by
  unfold mAlloc at hq
  split at hq
  · rename_i z hz
    obtain ⟨Z, hZ, hzr, _⟩ := zeroE_rel (ρ := ρ) (w := w) hz
    have hb := mBox_rel (w := w) hq hzr
    have e : (Instr.alloc t true (.tuple #[])).run P w = (Instr.box t Z).run P w := by
      simp only [Instr.alloc, Sem.run_bind, hZ, Result.andThen_ok]
      simp [Instr.box]
    cases m with
    | cells cs t' sl => obtain ⟨X, C, t2, h1, h2⟩ := hb; exact ⟨X, C, t2, by rw [e]; exact h1, h2⟩
    | rows e' L t' sl => obtain ⟨X, C, t2, h1, h2⟩ := hb; exact ⟨X, C, t2, by rw [e]; exact h1, h2⟩
  · cases hq
theorem eAlloc_rel (h : SRel own ρ s w) {t : TypeId} {v : V} {s' : St} {ps : List Bool} (hq : eAlloc P s t = some (ps, v, s')) (hp : allB ps) : OKv P own ρ (Instr.alloc t true (.tuple #[])) w v s' :=
  mkNew_rel h hq hp fun _ _ h _ => mAlloc_rel h
theorem eBox_rel (h : SRel own ρ s w) {t : TypeId} {v u : V} {s' : St} {ps : List Bool} (hq : eBox P s t v = some (ps, u, s')) (hp : allB ps) {X : Value} (hv : VRel ρ v X) : OKv P own ρ (Instr.box t X) w u s' :=
  mkNew_rel h hq hp fun _ _ h _ => mBox_rel h hv

theorem repE_length : ∀ n (zs : List V), (repE n zs).length = n * zs.length
  | 0, _ => by simp [repE]
  | n + 1, zs => by simp [repE, lapp_eq, repE_length n, Nat.succ_mul, Nat.add_comm]
theorem repE_get : ∀ n (zs : List V) i, i < n * zs.length → (repE n zs)[i]? = zs[i % zs.length]?
  | 0, _, _, h => by simp at h
  | n + 1, zs, i, h => by
    simp only [repE, lapp_eq]
    rcases Nat.lt_or_ge i zs.length with hi | hi
    · rw [List.getElem?_append_left hi, Nat.mod_eq_of_lt hi]
    · rw [List.getElem?_append_right hi, repE_get n zs _ (by rw [Nat.succ_mul] at h; omega), ← Nat.mod_eq_sub_mod hi]

theorem range_rep {zs : List V} {Z : Array Value} (hz : LRel ρ zs Z.toList) (n : Nat) : LRel ρ (repE n zs) ((Array.range (n * zs.length)).map (fun i => Z[i % Z.size]!)).toList := by
  have hl := hz.length
  simp only [Array.length_toList] at hl
  refine LRel.of_get (by simp [repE_length]) fun i v hi => ?_
  have hlt : i < n * zs.length := by
    have := (List.getElem?_eq_some_iff.1 hi).1
    rwa [repE_length] at this
  rw [repE_get n zs i hlt] at hi
  obtain ⟨X, h1, h2⟩ := hz.get hi
  simp only [Array.getElem?_toList] at h1
  refine ⟨X, ?_, h2⟩
  simp only [Array.toList_map, Array.toList_range, List.getElem?_map, List.getElem?_range hlt, Option.map_some, Option.some.injEq]
  rw [← hl, Array.getElem!_eq_getD, Array.getD_eq_getD_getElem?, h1]
  rfl

theorem map_range0 {α : Type} (f : Nat → α) : (Array.range 0).map f = #[] := by apply Array.eq_empty_of_size_eq_zero; simp

theorem info_size {t : TypeId} {i : TypeInfo} (h : P.info? t = some i) : (sizeOf t).run P w = .ok i.size w := by simp [sizeOf, typeInfo, h]

theorem rowTy_spec {el : TypeId} {e : List Ty} (h : rowTy P el = some e) : szE P el = some e.length ∧ 1 ≤ e.length := by
  unfold rowTy at h
  split at h
  · rename_i e' z he hz
    cases hb : (Nat.beq z e'.length && Nat.ble 1 z) with
    | false => rw [hb] at h; cases h
    | true =>
      rw [hb, cond_true] at h
      cases h
      simp only [Bool.and_eq_true, Nat.beq_eq, Nat.ble_eq] at hb
      obtain ⟨h1, h2⟩ := hb
      exact ⟨by rw [hz, h1], by omega⟩
  · cases h
/-- cells, or rows: the same block -/
theorem mRows_ok {m : Sem Value} {el : TypeId} {len sz : Nat} {cs : List V} {C : Array Value} {t' : TypeId} (h1 : 1 ≤ sz) (hrun : m.run P w = .ok (.slice (some ⟨w.heap.size, 0, none⟩) len len) { w with heap := w.heap.push (.cells C t') })
    (hc : LRel ρ cs C.toList) (hlen : cs.length = len * sz) : MkOK P ρ m w (mRows P el len cs sz) := by
  have hl := hc.length
  simp only [Array.length_toList] at hl
  have plain : MkOK P ρ m w (.cells cs el (some (len, len, sz))) := by
    refine ⟨_, C, t', hrun, hc, fun ρ' b hb => ?_⟩
    simp only [Mk.val, VRel]
    exact ⟨_, _, _, len, hb, rfl, Nat.le_refl _, Nat.le_refl _, fun _ => rfl, by omega⟩
  unfold mRows
  split
  · rename_i e he
    obtain ⟨h3, h4⟩ := rowTy_spec he
    cases hb : Nat.beq e.length sz with
    | false => exact plain
    | true =>
    have hb := Nat.eq_of_beq_eq_true hb
    subst hb
    rw [cond_true]
    split
    · rename_i L hL
      obtain ⟨g1, g2, g3⟩ := ofRows_spec (ρ := ρ) e len cs L hL
      refine ⟨_, C, t', hrun, by rw [g1]; omega, g3 fun i v hi => ?_, fun ρ' b hb => ?_⟩
      · obtain ⟨W, q1, q2⟩ := hc.get hi
        exact ⟨W, by simpa using q1, q2⟩
      · simp only [Mk.val, VRel]
        refine ⟨_, _, rfl, Nat.le_refl _, Nat.le_refl _, fun _ => rfl, fun hn => (by cases hn), fun hp => ⟨_, _, _, hb, by simp, ?_⟩⟩
        omega
    · exact plain
  · exact plain

theorem fillE_length {sz : Nat} : ∀ (ps : List (Nat × V)) (c r : List V), fillE (fun i => some (i * sz, sz)) c ps = some r → r.length = c.length := by
  intro ps
  induction ps with
  | nil => intro c r hh; simp only [fillE] at hh; cases hh; rfl
  | cons p ps ih =>
    intro c r hh
    simp only [fillE, llen_eq] at hh
    split at hh
    · rename_i q1 q2 c2 q3 q4
      cases q3
      cases hc : (Nat.beq c2.length sz && Nat.ble (p.1 * sz + sz) c.length) with
      | false => simp [hc] at hh
      | true => simp only [hc, cond_true] at hh; rw [ih _ _ hh, setAll_length]
    · cases hh

theorem mBuildSlice_rel {t : TypeId} {len : Nat} {ps : List (Nat × V)} {m : Mk} {c : List Bool} (hq : mBuildSlice P t len ps = some (c, m)) {Ps : Array (Nat × Value)} (hp : PRel ρ ps Ps.toList) :
    MkOK P ρ (Instr.buildSlice t len Ps) w m := by
  unfold mBuildSlice at hq
  simp only [llen_eq, lall_eq, ltake_eq, ldrop_eq, lapp_eq, lget_eq] at hq
  split at hq
  · rename_i e hd
    split at hq
    · rename_i sz zv hsz hzv
      split at hq
      · rename_i z hz
        cases hb : (Nat.beq z.length sz && (Nat.ble (len * sz) 16777216 && Nat.ble 1 sz)) with
        | false => simp [hb] at hq
        | true =>
        simp only [hb, cond_true] at hq
        simp only [Bool.and_eq_true, Nat.ble_eq, Nat.beq_eq] at hb
        split at hq
        · rename_i cs hcs
          cases hq
          obtain ⟨Z, hZ, hzr, _⟩ := zeroE_rel (ρ := ρ) (w := w) hzv
          have hzc := cellsO_rel hz hzr
          have hrep := range_rep hzc len
          rw [hb.1] at hrep
          obtain ⟨R, e1, e2⟩ := fillE_rel hp hrep hcs
          refine mRows_ok (C := R) (t' := e) hb.2.2 ?_ e2 (by rw [fillE_length _ _ _ hcs, repE_length, hb.1])
          by_cases h0 : len * sz = 0
          · have hlen : len = 0 := by rcases Nat.mul_eq_zero.1 h0 with h | h; exact h; omega
            subst hlen
            simp only [Nat.zero_mul] at e1
            have e0 : (Array.range 0).map (fun i => Z.cells[i % Z.cells.size]!) = #[] := by apply Array.eq_empty_of_size_eq_zero; simp
            rw [e0] at e1
            have e1' : Instr.fill (fun i => some (i * sz, sz)) #[] Ps.toList = some R := e1
            simp [Instr.buildSlice, run_und hd, run_size hsz, newRow, map_range0, e1']
          · have hbig : ¬ len * sz > 2 ^ 24 := by omega
            have hbig' : ¬ 16777216 < len * sz := by omega
            simp only [Instr.buildSlice, Sem.run_bind, run_und hd, Result.andThen_ok, run_size hsz, Sem.run_ite, hbig, h0, if_false, hZ, Sem.run_pure]
            rw [e1]
            simp [newRow]
        · cases hq
      · cases hq
    · cases hq
  · cases hq

theorem eBuildSlice_rel (h : SRel own ρ s w) {t : TypeId} {len : Nat} {ps : List (Nat × V)} {v : V} {s' : St} {c : List Bool} (hq : eBuildSlice P s t len ps = some (c, v, s')) (hc : allB c) {Ps : Array (Nat × Value)} (hp : PRel ρ ps Ps.toList) :
    OKv P own ρ (Instr.buildSlice t len Ps) w v s' := mkNew_rel h hq hc fun _ _ h _ => mBuildSlice_rel h hp

theorem wrap_small {n : Nat} (h : n ≤ 281474976710656) : IntKind.i64.wrap (n : Int) = n := by
  have h2 : (n : Int) % (2 ^ IntKind.i64.bits : Int) = n := Int.emod_eq_of_lt (by omega) (by simp only [IntKind.bits]; omega)
  unfold IntKind.wrap
  simp only [h2]
  exact if_neg (by simp [IntKind.signed, IntKind.bits]; omega)

theorem run_makeSlice {t el : TypeId} {i : TypeInfo} {l c : Nat} {k1 k2 : IntKind} {Z : Value} (hd : P.underlying t = some (.slice el)) (hi : P.info? el = some i) (hZ : (zeroValue el).run P w = .ok Z w) (b2 : 1 ≤ i.size) (b3 : l ≤ c) (b4 : c ≤ 281474976710656) (b5 : i.bytes * c ≤ 281474976710656) :
    (Instr.makeSlice t (.int k1 (l : Int)) (.int k2 (c : Int))).run P w = .ok (.slice (some ⟨w.heap.size, 0, none⟩) l c) { w with heap := w.heap.push (.cells ((Array.range (c * i.size)).map fun j => Z.cells[j % Z.cells.size]!) el) } := by
  have w1 := wrap_small (n := l) (by omega)
  have w2 := wrap_small (n := c) b4
  have t1 : ¬ ((c : Int) < 0) := by omega
  have t2 : ¬ ((i.bytes : Int) * (c : Int) > 2 ^ 48) := by
    have : ((i.bytes * c : Nat) : Int) ≤ 281474976710656 := by omega
    simp only [Int.natCast_mul] at this; omega
  have t2' : ¬ ((281474976710656 : Int) < (i.bytes : Int) * (c : Int)) := by simpa using t2
  have t3 : ¬ ((l : Int) < 0) := by omega
  have t4 : ¬ ((l : Int) > (c : Int)) := by omega
  have hti : (typeInfo el).run P w = .ok i w := by simp [typeInfo, hi]
  by_cases h0 : c * i.size = 0
  · have hc0 : c = 0 := by rcases Nat.mul_eq_zero.1 h0 with h | h; exact h; omega
    subst hc0
    have hl0 : l = 0 := by omega
    subst hl0
    have e0 : (Array.range (0 * i.size)).map (fun i => Z.cells[i % Z.cells.size]!) = #[] := by apply Array.eq_empty_of_size_eq_zero; simp
    rw [e0]
    have w0 : IntKind.i64.wrap 0 = 0 := by simpa using w2
    simp [Instr.makeSlice, run_und hd, asInt, run_asIntOf, hti, w0, info_size hi, newRow, map_range0]
  · simp [Instr.makeSlice, run_und hd, asInt, run_asIntOf, hti, w1, w2, t1, t2', t3, info_size hi, newRow, h0, hZ, Nat.not_lt.2 b3]

theorem rep_rows {e : List Ty} {r : rowDen e} {z : List V} {Z : Array Value} (hr : ofRow e z = some r) (hz : LRel ρ z Z.toList) (c : Nat) : RowsAt ρ.φ e (List.replicate c r) (fun k => ((Array.range (c * e.length)).map fun j => Z[j % Z.size]!)[k]?) := by
  have hl := ofRow_length _ _ _ hr
  have hlz := hz.length
  simp only [Array.length_toList] at hlz
  intro i hi
  simp only [List.length_replicate] at hi
  have e2 : rowAt e (List.replicate c r) i = r := by simp [rowAt, hi]
  rw [e2]
  refine ofRow_rel e z r hr fun j v hj => ?_
  have hjl : j < e.length := by
    have := (List.getElem?_eq_some_iff.1 hj).1
    omega
  obtain ⟨X, h1, h2⟩ := hz.get hj
  simp only [Array.getElem?_toList] at h1
  refine ⟨X, ?_, h2⟩
  have hk : i * e.length + j < c * e.length := by
    have : (i + 1) * e.length ≤ c * e.length := Nat.mul_le_mul_right _ hi
    rw [Nat.succ_mul] at this; omega
  have hm : (i * e.length + j) % Z.size = j := by
    rw [← hlz, hl, Nat.mul_comm, Nat.mul_add_mod, Nat.mod_eq_of_lt hjl]
  simp only [Array.getElem?_map, Array.getElem?_range, hk, if_true, Option.map_some, hm, Option.some.injEq]
  rw [Array.getElem!_eq_getD, Array.getD_eq_getD_getElem?, h1]
  rfl

theorem mMakeSlice_rel {t : TypeId} {len cap : V} {m : Mk} {cc : List Bool} (hq : mMakeSlice P t len cap = some (cc, m)) (hp : allB cc) {L K : Value} (hl : VRel ρ len L) (hk : VRel ρ cap K) :
    MkOK P ρ (Instr.makeSlice t L K) w m := by
  unfold mMakeSlice at hq
  simp only [llen_eq, lall_eq, ltake_eq, ldrop_eq, lapp_eq, lget_eq] at hq
  split at hq
  · rename_i el cl l cp c hd hln hcn
    split at hq
    · rename_i i zv hi hzv
      split at hq
      · rename_i z hz
        cases hb : (Nat.beq z.length i.size && Nat.ble 1 i.size) with
        | false => simp [hb] at hq
        | true =>
        simp only [hb, cond_true] at hq
        simp only [Bool.and_eq_true, Nat.ble_eq, Nat.beq_eq] at hb
        obtain ⟨b1, b2⟩ := hb
        obtain ⟨Z, hZ, hzr, _⟩ := zeroE_rel (ρ := ρ) (w := w) hzv
        have hzc := cellsO_rel hz hzr
        split at hq
        · rename_i e he
          cases hes : Nat.beq e.length i.size with
          | false => rw [hes] at hq; cases hq
          | true =>
          rw [hes, cond_true] at hq
          have hes := Nat.eq_of_beq_eq_true hes
          split at hq
          · rename_i r hr
            cases hq
            simp only [allB_append] at hp
            obtain ⟨p1, p2, p3, p4, p5, _⟩ := hp
            simp only [decide_eq_true_eq] at p3 p4 p5
            obtain ⟨k1, rfl⟩ := natOf_rel hln p1 hl
            obtain ⟨k2, rfl⟩ := natOf_rel hcn p2 hk
            refine ⟨_, _, el, run_makeSlice hd hi hZ b2 p3 p4 p5, by simp [hes], ?_, fun ρ' b hbb => ?_⟩
            · have := rep_rows hr hzc c
              rw [hes] at this
              exact this
            · simp only [Mk.val, VRel]
              refine ⟨_, _, rfl, p3, Nat.le_refl _, fun _ => rfl, fun hn => (by cases hn), fun _ => ⟨_, _, _, hbb, by simp, ?_⟩⟩
              simp [hes]
          · cases hq
        · cases hq
          simp only [allB_append] at hp
          obtain ⟨p1, p2, p3, p4, p5, _⟩ := hp
          simp only [decide_eq_true_eq] at p3 p4 p5
          obtain ⟨k1, rfl⟩ := natOf_rel hln p1 hl
          obtain ⟨k2, rfl⟩ := natOf_rel hcn p2 hk
          have hrep := range_rep hzc c
          rw [b1] at hrep
          refine ⟨_, _, el, run_makeSlice hd hi hZ b2 p3 p4 p5, hrep, fun ρ' b hbb => ?_⟩
          simp only [Mk.val, VRel]
          refine ⟨_, _, _, c, hbb, rfl, p3, Nat.le_refl _, fun _ => rfl, ?_⟩
          simp
      · cases hq
    · cases hq
  · cases hq
theorem eMakeSlice_rel (h : SRel own ρ s w) {t : TypeId} {len cap v : V} {s' : St} {c : List Bool} (hq : eMakeSlice P s t len cap = some (c, v, s')) (hc : allB c) {L K : Value} (hl : VRel ρ len L) (hk : VRel ρ cap K) :
    OKv P own ρ (Instr.makeSlice t L K) w v s' := mkNew_rel h hq hc fun _ _ h hc => mMakeSlice_rel h hc hl hk

theorem bytesL_length (x : ByteArray) : (bytesL x).length = x.size := by simp [bytesL]
theorem bytesL_get (x : ByteArray) (i : Nat) (hi : i < x.size) : (bytesL x).getD i 0 = bAt x i := by
  unfold bytesL bAt
  rw [List.getD_eq_getElem?_getD, List.getD_eq_getElem?_getD, List.getElem?_map, List.getElem?_eq_getElem (by simpa using hi)]
  rfl
theorem bytes_rows {φ : Nat → Nat → Option Value} (x : ByteArray) {C : Nat → Option Value} (hc : ∀ i, i < x.size → C i = some (.int .u8 (bAt x i))) : RowsAt φ [.int .u8] (bytesL x) C := by
  intro i hi
  have hi' : i < x.size := by
    have : i < List.length (α := Int) (bytesL x) := hi
    rwa [bytesL_length] at this
  rw [CRel]
  refine ⟨.int .u8 (bAt x i), by simpa using hc i hi', ?_⟩
  have e : rowAt [.int .u8] (bytesL x) i = bAt x i := bytesL_get x i hi'
  show Value.int .u8 _ = Value.int .u8 (rowAt [.int .u8] (bytesL x) i)
  rw [e]

theorem eBytes_rel (h : SRel own ρ s w) {src dst : TypeId} {a v : V} {s' : St} {c : List Bool} (hq : eBytes P s src dst a = some (c, v, s')) {A : Value} (ha : VRel ρ a A) : OKv P own ρ (Go.convert src dst A) w v s' := by
  unfold eBytes at hq
  split at hq
  · rename_i sd e x hs hd
    split at hq
    · rename_i he
      cases hq
      simp only [VRel] at ha; subst ha
      obtain ⟨cap, hcap, hrun⟩ : ∃ cap, x.size ≤ cap ∧ (choose (.appendCap x.size 0 e)).run P w = .ok cap { w with drawn := w.drawn + 1 } := by
        refine ⟨_, ?_, by simp [Question.forced]; rfl⟩
        simp [Question.cut]
      let C : Array Value := (x.data.map fun b => Value.int .u8 b.toNat) ++ Array.replicate (cap - x.size) (.int .u8 0)
      have hxs : x.data.size = x.size := rfl
      have hC : C.size = cap := by
        simp [C]; omega
      have hle := Env.le_put ⟨w.heap.size, 0, C.size⟩ h.fresh
      let w' : World := { w with drawn := w.drawn + 1, heap := w.heap.push (.cells C e (C.size, C.size + 1)) }
      refine ⟨ρ.put s.next ⟨w.heap.size, 0, C.size⟩, .slice (some ⟨w.heap.size, 0, none⟩) x.size cap, w', hle, ?_, ?_, ?_, ?_⟩
      · simp only [Go.convert, Sem.run_bind, run_und hs, run_und hd, Result.andThen_ok, run_und he, Conv.stringToBytes, hrun, newRow, run_newObj, Sem.run_pure, markStringish, run_shape]
        have hsh : ({ w with drawn := w.drawn + 1, heap := w.heap.push (.cells C e) } : World).shape? w.heap.size = some (e, C.size) := by simp [World.shape?]
        have hfr : ({ w with drawn := w.drawn + 1, heap := w.heap.push (.cells C e) } : World).freeze ⟨w.heap.size, C.size, none⟩ 1 = w' := by
          simp only [World.freeze]
          rw [if_neg (by decide)]
          simp only [w']
          congr 1
          apply Array.ext_getElem?
          intro i
          rw [Array.getElem?_modify, Array.getElem?_push, Array.getElem?_push]
          by_cases hi : i = w.heap.size
          · subst hi; simp
          · simp [hi, Ne.symm hi]
        simp only [C] at hsh hfr
        simp only [hsh, Sem.run_bind, run_freeze, hfr, Result.andThen_ok, Sem.run_pure]
      · simp only [VRel]
        exact ⟨_, cap, rfl, Nat.le_refl _, hcap, fun hx => (by cases hx), fun hn => (by cases hn), fun _ => ⟨_, _, _, Env.put_same, by simp, by show 0 + 0 * 1 + cap * 1 ≤ C.size; omega⟩⟩
      · refine h.new _ (.cells C e (C.size, C.size + 1)) C.size rfl ⟨C, e, (C.size, C.size + 1), rfl, rfl, ?_, ?_, ?_, by simp⟩
        · have : List.length (α := Int) (bytesL x) = x.size := bytesL_length x
          show 0 + List.length (α := Int) (bytesL x) * 1 ≤ C.size
          omega
        · refine bytes_rows x fun i hi => ?_
          simp only [C, Nat.zero_add]
          rw [Array.getElem?_append_left (by simpa using hi)]
          rw [Array.getElem?_map]
          unfold bAt
          rw [List.getD_eq_getElem?_getD, Array.getElem?_toList, Array.getElem?_eq_getElem (by simpa using hi)]
          rfl
        · intro k hk
          have : decide (C.size ≤ k) = false := by simp; omega
          simp [this]
      · exact ⟨rfl, rfl, rfl, by simp [w'], fun k hk => by simp only [w']; rw [Array.getElem?_push, if_neg (fun e => hk (h.le k (by omega)))]⟩
    · cases hq
  · cases hq
end
end Go.Sym
end

section
namespace Go.Sym
set_option linter.unusedSimpArgs false
set_option linter.unusedVariables false

/-- so many rows from a place on -/
def seg {α : Type} (L : List α) (lo len : Nat) : List α := (L.take (lo + len)).drop lo
theorem seg_length {α : Type} {L : List α} {lo len : Nat} (h : lo + len ≤ L.length) : (seg L lo len).length = len := by simp [seg]; omega

noncomputable section
variable (P : Program)
def zerosE (ts : Array TypeId) : Bool :=
  match ts[1]? with
  | some t1 => (match P.underlying t1 with
    | some (.int _) => true
    | some _ => false
    | none => true)
  | none => false
def St.move (s : St) (b : Nat) (o : EObj) : St := ⟨(s.heap.set b none).set s.next (some o), s.next + 1⟩
def St.drop (s : St) (b : Nat) : St := ⟨s.heap.set b none, s.next⟩

/-! ### Rows -/
def srcRows (s : St) (e : List Ty) (x : V) : Option (List Bool × List (rowDen e)) :=
  match x with
  | .nils => some ([], [])
  | .lst e' L _ => match asL e e' L with
    | some M => some ([], M)
    | none => none
  | .rs b lo len _ _ es => match rowsAt s b with
    | some ⟨e', L⟩ => match asL e e' L with
      | some M => bif Nat.beq es e.length then some ([decide (lo + len ≤ M.length)], seg M lo len) else none
      | none => none
    | none => none
  | .str t => match asL e [.int .u8] (bytesL t) with
    | some M => some ([], M)
    | none => none
  | .sl b o len _ _ es => match cellsAt s b with
    | some cs => bif Nat.beq es e.length && Nat.ble (o + len * es) (llen cs) then (match ofRows e len (ltake (ldrop cs o) (len * es)) with
      | some M => some ([], M)
      | none => none) else none
    | none => none
  | _ => none
def roomy (i : TypeInfo) (n : Nat) : List Bool := [decide ((2 * n + 768) * i.bytes ≤ 281474976710656), decide (n ≤ 1099511627776)]
def eAppendR (s : St) (e : List Ty) (el : TypeId) (i : TypeInfo) (a x : V) : Er :=
  match srcRows s e x with
  | none => none
  | some (cs, M) => match a with
    | .nils => some (cs ++ roomy i M.length, .rs s.next 0 M.length M.length false e.length, s.new (.rows e M el false))
    | .lst e' L true => match asL e e' L with
      | some L' => some (cs ++ (decide (0 < M.length) :: roomy i (L'.length + M.length)), .rs s.next 0 (L'.length + M.length) (L'.length + M.length) false e.length, s.new (.rows e (L' ++ M) el false))
      | none => none
    | .rs b lo len _ _ es => match s.heap.get b with
      | some (.rows e' L _ ish) => match asL e e' L with
        | some L' => bif Nat.beq es e.length then
            some (cs ++ (decide (lo + len ≤ L'.length) :: roomy i (len + M.length)), .rs s.next 0 (len + M.length) (len + M.length) false es, s.move b (.rows e (seg L' lo len ++ M) el ish)) else none
        | none => none
      | _ => none
    | _ => none

/-! ### Cells -/
def sliceCells (s : St) (v : V) (n : Nat) : Option (List V) :=
  match v with
  | .nils => bif Nat.beq n 0 then some [] else none
  | .sl b o _ _ _ es => match cellsAt s b with
    | some cs => bif Nat.ble (o + n * es) (llen cs) then some (ltake (ldrop cs o) (n * es)) else none
    | none => none
  | _ => none
def lenE : V → Option Nat
  | .nils => some 0
  | .sl _ _ len _ _ _ => some len
  | _ => none
def esOk (v : V) (sz : Nat) : Bool :=
  match v with
  | .sl _ _ _ _ _ es => Nat.beq es sz
  | .nils => true
  | _ => false
def srcCells (s : St) (x : V) (sz : Nat) : Option (List V) :=
  bif esOk x sz then (match lenE x with
    | some n => sliceCells s x n
    | none => none) else none
def srcE (s : St) (i : TypeInfo) (x : V) : Option (Nat × List V) :=
  match lenE x with
    | some n => match srcCells s x i.size with
      | some new => some (n, new)
      | none => none
    | none => none
def eAppendC (s : St) (e : TypeId) (i : TypeInfo) (a x : V) : Er :=
  match srcE s i x with
  | none => none
  | some (n, new) =>
  match a with
  | .nils =>
    bif Nat.beq n 0 then some ([], .nils, s) else
    bif Nat.ble ((2 * n + 768) * i.bytes) 281474976710656 && Nat.ble n 1099511627776 then
      some ([], .sl s.next 0 n n false i.size, s.new (.cells new e false)) else none
  | .sl b o len cap x' es =>
    bif !Nat.beq es i.size then none else
    bif Nat.ble (len + n) cap then
      (match s.heap.get b with
      | some (.cells cs t' ish) => bif Nat.ble (o + (len + n) * es) (llen cs) && lall oneV new then some ([], .sl b o (len + n) cap x' es, s.upd b (.cells (setAll cs (o + len * es) new) t' ish)) else none
      | _ => none)
    else
    bif !(Nat.ble ((2 * (len + n) + 768) * i.bytes) 281474976710656 && Nat.ble (len + n) 1099511627776) then none else
    match s.heap.get b with
    | some (.cells cs t' ish) =>
      bif !(Nat.ble (o + len * es) (llen cs) && lall oneV new) then none else
      bif x' then some ([], .sl s.next 0 (len + n) (len + n) false es, s.new (.cells (lapp (ltake (ldrop cs o) (len * es)) new) e false))
      else some ([], .sl s.next 0 (len + n) (len + n) false es, s.move b (.cells (lapp (ltake (ldrop cs o) (len * es)) new) e ish))
    | _ => none
  | _ => none

def eAppend (s : St) (ts : Array TypeId) (a x : V) : Er :=
  match ts[0]? with
  | none => none
  | some t =>
  match P.underlying t with
  | some (.slice el) =>
    match P.info? el, zeroE P el with
    | some i, some zv => match cellsO zv with
      | some z =>
        bif zerosE P ts || !(Nat.beq (llen z) i.size && Nat.ble 1 i.size) then none else
        (match rowTy P el with
        | some e => (match eAppendR s e el i a x with
          | some r => some r
          | none => eAppendC s el i a x)
        | none => eAppendC s el i a x)
      | none => none
    | _, _ => none
  | _ => none

/-- copy, of rows -/
def eCopy (s : St) (ts : Array TypeId) (d x : V) : Er :=
  match ts[0]? with
  | none => none
  | some t =>
  match P.underlying t with
  | some (.slice el) => match rowTy P el with
    | none => none
    | some e => match srcRows s e x with
      | none => none
      | some (cs, M) => match d with
        | .nils => some (cs, .int .i64 0, s)
        | .rs b lo len _ _ es => match s.heap.get b with
          | some (.rows e' L t' ish) => match asL e e' L with
            | some L' => bif Nat.beq es e.length then
                some (cs ++ [decide (lo + len ≤ L'.length)], .int .i64 (Int.ofNat (Nat.min M.length len)), s.upd b (.rows e (L'.take lo ++ (M.take (Nat.min M.length len) ++ L'.drop (lo + Nat.min M.length len))) t' ish)) else none
            | none => none
          | _ => none
        | _ => none
  | _ => none
end

section
variable {P : Program} {own : Own} {ρ : Env} {s : St} {w : World}

theorem growBy_le (n : Nat) : ∀ r c, c ≤ n + (n + 768) / 4 → Builtin.growBy n r c ≤ n + (n + 768) / 4
  | 0, c, h => h
  | r + 1, c, h => by
    simp only [Builtin.growBy]
    split
    · exact h
    · exact growBy_le n r _ (by omega)
theorem nextcap_le {n c : Nat} (h : c < n) : Builtin.nextslicecap n c ≤ 2 * n + 768 := by
  unfold Builtin.nextslicecap
  split
  · omega
  · split
    · omega
    · have := growBy_le n 4 c (by omega)
      omega

/-- a new block whose first cells are told -/
theorem SRel.newLong (h : SRel own ρ s w) {cs : List V} {L : List Value} (hc : LRel ρ cs L) (R : Array Value) (t t' : TypeId) (d : Nat) (ish : Bool) :
    ρ.le (ρ.put s.next ⟨w.heap.size, 0, (L.toArray ++ R).size⟩) ∧ SRel own (ρ.put s.next ⟨w.heap.size, 0, (L.toArray ++ R).size⟩) (s.new (.cells cs t ish)) { w with drawn := d, heap := w.heap.push (.cells (L.toArray ++ R) t') } ∧
      Fr own w { w with drawn := d, heap := w.heap.push (.cells (L.toArray ++ R) t') } := by
  have hle := Env.le_put ⟨w.heap.size, 0, (L.toArray ++ R).size⟩ h.fresh
  refine ⟨hle, h.new _ (.cells (L.toArray ++ R) t') _ rfl ⟨_, t', (0, 0), rfl, rfl, ?_, ?_, by simp, fun _ => rfl⟩, rfl, rfl, rfl, by simp, fun k hk => ?_⟩
  · have := hc.length; simp; omega
  · intro i v hi
    obtain ⟨X, e1, e2⟩ := hc.get hi
    have hlt := (List.getElem?_eq_some_iff.1 e1).1
    refine ⟨X, ?_, VRel.mono hle _ _ e2⟩
    rw [Nat.zero_add, Array.getElem?_append_left (by simpa using hlt)]
    simpa using e1
  · simp only
    rw [Array.getElem?_push, if_neg (fun e => hk (h.le k (by omega)))]
theorem rows_long {φ : Nat → Nat → Option Value} {e : List Ty} {L : List (rowDen e)} {V : List Value} (h : RowsAt φ e L (fun k => V[k]?)) (R : Array Value) : RowsAt φ e L (fun k => (V.toArray ++ R)[k]?) :=
  h.mono (fun _ _ _ hv => hv) fun j v hj => by
    have hlt := (List.getElem?_eq_some_iff.1 hj).1
    rw [Array.getElem?_append_left (by simpa using hlt)]
    simpa using hj
theorem rows_app {φ : Nat → Nat → Option Value} {e : List Ty} {L M : List (rowDen e)} {C D : Nat → Option Value} (h : RowsAt φ e L C) (k : RowsAt φ e M (fun j => D (L.length * e.length + j))) (hC : ∀ j, j < L.length * e.length → D j = C j) : RowsAt φ e (L ++ M) D := by
  intro i hi
  rcases Nat.lt_or_ge i L.length with h1 | h1
  · have e1 : rowAt e (L ++ M) i = rowAt e L i := by simp [rowAt, List.getD_eq_getElem?_getD, List.getElem?_append_left h1]
    rw [e1]
    refine CRel.mono (fun _ _ _ hv => hv) e _ (fun j v hv => ?_) (CRel.ltφ e _ (h i h1))
    split at hv
    · rename_i hj
      rw [hC _ ?_]; exact hv
      have := Nat.mul_le_mul_right e.length (show i + 1 ≤ L.length from h1)
      rw [Nat.succ_mul] at this; omega
    · cases hv
  · have e1 : rowAt e (L ++ M) i = rowAt e M (i - L.length) := by simp [rowAt, List.getD_eq_getElem?_getD, List.getElem?_append_right h1]
    rw [e1]
    have := k (i - L.length) (by simp at hi; omega)
    refine CRel.mono (fun _ _ _ hv => hv) e _ (fun j v hv => ?_) this
    rw [← hv]; congr 1
    rw [← Nat.add_assoc, ← Nat.add_mul]; congr 2; omega
theorem SRel.newLongRows (h : SRel own ρ s w) {e : List Ty} {L : List (rowDen e)} {V : List Value} (hl : L.length * e.length ≤ V.length) (hc : RowsAt ρ.φ e L (fun k => V[k]?)) (R : Array Value) (t t' : TypeId) (d : Nat) (ish : Bool) :
    ρ.le (ρ.put s.next ⟨w.heap.size, 0, (V.toArray ++ R).size⟩) ∧ SRel own (ρ.put s.next ⟨w.heap.size, 0, (V.toArray ++ R).size⟩) (s.new (.rows e L t ish)) { w with drawn := d, heap := w.heap.push (.cells (V.toArray ++ R) t') } ∧
      Fr own w { w with drawn := d, heap := w.heap.push (.cells (V.toArray ++ R) t') } := by
  have hle := Env.le_put ⟨w.heap.size, 0, (V.toArray ++ R).size⟩ h.fresh
  refine ⟨hle, h.new _ (.cells (V.toArray ++ R) t') _ rfl ⟨_, t', (0, 0), rfl, rfl, ?_, ?_, by simp, fun _ => rfl⟩, rfl, rfl, rfl, by simp, fun k hk => ?_⟩
  · simp; omega
  · show RowsAt ρ.φ e L (fun k => (V.toArray ++ R)[0 + k]?)
    simpa using rows_long hc R
  · simp only
    rw [Array.getElem?_push, if_neg (fun e => hk (h.le k (by omega)))]
/-- a name that says nothing -/
theorem SRel.ghost (h : SRel own ρ s w) (o : EObj) : SRel own ρ (s.new o) w := by
  have key : ∀ b o' x, (s.new o).heap.get b = some o' → ρ b = some x → s.heap.get b = some o' := by
    intro b o' x hb hx
    simp only [St.new, T.get_set] at hb
    split at hb
    · rename_i e; subst e; rw [h.fresh.1] at hx; cases hx
    · exact hb
  refine ⟨h.le, fun b o' x hb hx => h.obj b o' x (key b o' x hb hx) hx, fun b b' o1 o2 x x' hb hb' hx hx' => h.inj b b' o1 o2 x x' (key _ _ _ hb hx) (key _ _ _ hb' hx') hx hx', fun b x hx => ?_, ?_, h.fz, h.old⟩
  · have := h.dom b x hx; show b < s.next + 1; omega
  · have := h.top; show ρ.n ≤ s.next + 1; omega
/-- a name is struck -/
theorem SRel.strike (h : SRel own ρ s w) (b : Nat) : SRel own ρ (s.drop b) w := by
  have key : ∀ k o', (s.drop b).heap.get k = some o' → s.heap.get k = some o' := by
    intro k o' hk
    simp only [St.drop, T.get_set] at hk
    split at hk
    · cases hk
    · exact hk
  exact ⟨h.le, fun k o' x hk hx => h.obj k o' x (key _ _ hk) hx, fun k k' o1 o2 x x' hk hk' hx hx' => h.inj k k' o1 o2 x x' (key _ _ hk) (key _ _ hk') hx hx', h.dom, h.top, h.fz, h.old⟩
theorem move_eq (s : St) (b : Nat) (o : EObj) : (s.drop b).new o = s.move b o := rfl

/-- the same block under a new name, the elder name struck -/
theorem SRel.move (h : SRel own ρ s w) {b : Nat} {o : EObj} {x : Blk} (hb : s.heap.get b = some o) (hx : ρ b = some x) (o1 : EObj) (X : Obj) (O1 : Nat) {w' : World} (hw : w'.heap = w.heap.setIfInBounds x.B X)
    (ho : ORel (ρ.put s.next ⟨x.B, O1, x.S⟩) O1 x.S (some X) o1) : SRel own (ρ.put s.next ⟨x.B, O1, x.S⟩) (s.move b o1) w' := by
  have hlt := h.lt hb hx
  have hle := Env.le_put ⟨x.B, O1, x.S⟩ h.fresh
  have hbn : b < s.next := h.dom _ _ hx
  have get : ∀ k v, (s.move b o1).heap.get k = some v → (k = s.next ∧ v = o1) ∨ (k ≠ s.next ∧ k ≠ b ∧ s.heap.get k = some v) := by
    intro k v hk
    simp only [St.move, T.get_set] at hk
    split at hk
    · rename_i e; cases hk; exact .inl ⟨e, rfl⟩
    · rename_i e
      split at hk
      · cases hk
      · rename_i e2; exact .inr ⟨e, e2, hk⟩
  obtain ⟨y, g1, g2, _⟩ := h.obj' hb hx
  rw [hx] at g1; cases g1
  refine ⟨by rw [hw]; simpa using h.le, ?_, ?_, ?_, by simp only [Env.put, St.move]; have := h.top; omega, ?_, h.old⟩
  · intro k v z hk hz
    rcases get k v hk with ⟨rfl, rfl⟩ | ⟨e1, e2, hk⟩
    · rw [Env.put_same] at hz; cases hz
      exact ⟨g2, by rw [hw]; simpa [hlt] using ho⟩
    · rw [Env.put_ne e1] at hz
      obtain ⟨y, h1, h2, h3⟩ := h.obj' hk hz
      rw [hz] at h1; cases h1
      have h1 := hz
      refine ⟨h2, ?_⟩
      have := h.inj k b _ _ z x hk hb h1 hx e2
      rw [hw, Array.getElem?_setIfInBounds_ne (fun k => this k.symm)]
      exact h3.mono hle
  · intro k k' v v' y y' hk hk' hy hy' hne
    rcases get k v hk with ⟨rfl, rfl⟩ | ⟨e1, e2, g⟩ <;> rcases get k' v' hk' with ⟨rfl, rfl⟩ | ⟨e1', e2', g'⟩
    · exact absurd rfl hne
    · rw [Env.put_same] at hy; cases hy
      rw [Env.put_ne e1'] at hy'
      exact fun e => h.inj k' b _ _ y' x g' hb hy' hx e2' e.symm
    · rw [Env.put_same] at hy'; cases hy'
      rw [Env.put_ne e1] at hy
      exact h.inj k b _ _ y x g hb hy hx e2
    · rw [Env.put_ne e1] at hy
      rw [Env.put_ne e1'] at hy'
      exact h.inj k k' v v' y y' g g' hy hy' hne
  · intro k y hy
    simp only [Env.put] at hy
    show k < s.next + 1
    split at hy
    · omega
    · have := h.dom k y hy; omega
  · refine SRel.fz_of (own := own) (ρ := ρ) (s := s) (w := w) h fun B => ?_
    by_cases e : x.B = B
    · exact .inr (.inl (e ▸ g2.2))
    · exact .inr (.inr (by rw [hw, Array.getElem?_setIfInBounds_ne e]))

theorem wrap_small2 {n : Nat} (h : n ≤ 1099511627776) : IntKind.i64.wrap (n : Int) = n := wrap_small (by omega)

/-- what is appended, run: a slice's or a string's elements, or so many zero values -/
def SrcOK (P : Program) (ts : Array TypeId) (e : TypeId) (i : TypeInfo) (X : Value) (n : Nat) (w w' : World) (L : List Value) : Prop :=
  (zerosE P ts = false ∧ (Builtin.lenOf X).run P w = .ok n w ∧ (Builtin.firstCells i.size n X).run P w' = .ok L.toArray w') ∨
  ((∃ t1 k, ts[1]? = some t1 ∧ P.underlying t1 = some (.int k)) ∧ X = .int .i64 (n : Int) ∧ n * i.bytes ≤ 281474976710656 ∧ n ≤ 1099511627776 ∧
    ((n * i.size = 0 ∧ L = []) ∨ (n * i.size ≠ 0 ∧ ∃ Z, (zeroValue e).run P w' = .ok Z w' ∧ L.toArray = Builtin.zeroCells Z.cells n)))

theorem notInt {ts : Array TypeId} (hz : zerosE P ts = false) : ts[1]? = none ∨ ∃ t1 d, ts[1]? = some t1 ∧ P.underlying t1 = some d ∧ ∀ k, d ≠ .int k := by
  unfold zerosE at hz
  cases h1 : ts[1]? with
  | none => exact .inl rfl
  | some t1 =>
    simp only [h1] at hz
    cases hu : P.underlying t1 with
    | none => simp [hu] at hz
    | some d => exact .inr ⟨t1, d, rfl, hu, fun k e => by subst e; simp [hu] at hz⟩

theorem run_append_in {t e : TypeId} {ts : Array TypeId} {ty : TypeId} {X : Value} {base : Option Addr} {len cap n : Nat} {i : TypeInfo} {L : List Value} (ht : ts[0]? = some t) (hd : P.underlying t = some (.slice e)) (hi : P.info? e = some i)
    (hs : SrcOK P ts e i X n w w L) (hle : len + n ≤ cap) :
    (Builtin.append_ ts ty #[.slice base len cap, X]).run P w = ((match base with | some a => storeCells (a.add (len * i.size)) L | none => pure () : Sem Unit).run P w).andThen fun _ w' => .ok (.slice base (len + n) cap) w' := by
  rcases hs with ⟨hz, hn, hL⟩ | ⟨⟨t1, k, h1, hu⟩, rfl, hb, hm, hL⟩
  · rcases notInt hz with h1 | ⟨t1, d, h1, hu, hd'⟩
    · simp only [Builtin.append_, ht, h1, List.getElem?_toArray, List.getElem?_cons_zero, List.getElem?_cons_succ, Sem.run_bind, run_und hd, Result.andThen_ok, info_size hi, Sem.run_pure, Bool.false_eq_true, if_false, hn, hle, if_true, Bool.not_false, hL]
      cases base with
      | none => simp
      | some a => simp
    · cases d <;> first
        | exact absurd rfl (hd' _)
        | (simp only [Builtin.append_, ht, h1, List.getElem?_toArray, List.getElem?_cons_zero, List.getElem?_cons_succ, Sem.run_bind, run_und hd, run_und hu, Result.andThen_ok, info_size hi, Sem.run_pure, Bool.false_eq_true, if_false, hn, hle, if_true, Bool.not_false, hL]
           cases base with
           | none => simp
           | some a => simp)
  · have hw := wrap_small2 hm
    have hti : (typeInfo e).run P w = .ok i w := by simp [typeInfo, hi]
    have hneg : ¬ ((n : Int) < 0) := by omega
    have hbb : ¬ ((n : Int) * (i.bytes : Int) > 2 ^ 48) := by
      have : ((n * i.bytes : Nat) : Int) ≤ 281474976710656 := by omega
      rw [Int.natCast_mul] at this; omega
    have hbb' : ¬ (281474976710656 < (n : Int) * (i.bytes : Int)) := by simpa using hbb
    rcases hL with ⟨h0, rfl⟩ | ⟨h0, Z, hZ, hL⟩
    · cases base with
      | none => simp [Builtin.append_, ht, h1, run_und hd, run_und hu, info_size hi, asInt, run_asIntOf, hw, hneg, hti, hbb', hle, h0]
      | some a => simp [Builtin.append_, ht, h1, run_und hd, run_und hu, info_size hi, asInt, run_asIntOf, hw, hneg, hti, hbb', hle, h0]
    · have hL' : L = (Builtin.zeroCells Z.cells n).toList := by rw [← hL]
      have h0' : ¬ (n = 0 ∨ i.size = 0) := by rw [← Nat.mul_eq_zero]; exact h0
      subst hL'
      cases base with
      | none => simp [Builtin.append_, ht, h1, run_und hd, run_und hu, info_size hi, asInt, run_asIntOf, hw, hneg, hti, hbb', hle, h0', hZ]
      | some a =>
        simp [Builtin.append_, ht, h1, run_und hd, run_und hu, info_size hi, asInt, run_asIntOf, hw, hneg, hti, hbb', hle, h0', hZ]
        exact fun hh => absurd hh h0

theorem run_append_grow {t e : TypeId} {ts : Array TypeId} {ty : TypeId} {X : Value} {base : Option Addr} {len cap n : Nat} {i : TypeInfo} {K L : List Value} {Z : Value} (ht : ts[0]? = some t) (hd : P.underlying t = some (.slice e)) (hi : P.info? e = some i)
    (hs : SrcOK P ts e i X n w { w with drawn := w.drawn + 1 } L)
    (hK : (Builtin.firstCells i.size len (.slice base len cap)).run P { w with drawn := w.drawn + 1 } = .ok K.toArray { w with drawn := w.drawn + 1 })
    (hZ : (zeroValue e).run P { w with drawn := w.drawn + 1 } = .ok Z { w with drawn := w.drawn + 1 })
    (hgt : cap < len + n) (hb : (2 * (len + n) + 768) * i.bytes ≤ 281474976710656) (hm : len + n ≤ 1099511627776) :
    ∃ cap', len + n ≤ cap' ∧ (Builtin.append_ ts ty #[.slice base len cap, X]).run P w =
      .ok (.slice (some ⟨w.heap.size, 0, none⟩) (len + n) cap') { w with drawn := w.drawn + 1, heap := w.heap.push (.cells (K.toArray ++ L.toArray ++ Builtin.zeroCells Z.cells (cap' - (len + n))) e) } := by
  obtain ⟨cap', hcap, hrun⟩ : ∃ cap', len + n ≤ cap' ∧ (choose (.appendCap (len + n) cap e)).run P w = .ok cap' { w with drawn := w.drawn + 1 } := by
    refine ⟨_, ?_, by simp [Question.forced]; rfl⟩
    simp [Question.cut]
  have hni : ¬ len + n ≤ cap := by omega
  have h63 : ¬ (((len + n : Nat) : Int) > IntKind.i64.max) := by rw [i64max]; omega
  have hti : (typeInfo e).run P w = .ok i w := by simp [typeInfo, hi]
  have hti' : (typeInfo e).run P { w with drawn := w.drawn + 1 } = .ok i { w with drawn := w.drawn + 1 } := by simp [typeInfo, hi]
  have hcapb : ¬ (Builtin.nextslicecap (len + n) cap * i.bytes > 2 ^ 48) := by
    have h1 := nextcap_le hgt
    have h2 := Nat.mul_le_mul_right i.bytes h1
    omega
  refine ⟨cap', hcap, ?_⟩
  rcases hs with ⟨hz, hn, hL⟩ | ⟨⟨t1, k, h1, hu⟩, rfl, hbn, hmn, hL⟩
  · rcases notInt hz with h1 | ⟨t1, d, h1, hu, hd'⟩
    · simp only [Builtin.append_, ht, h1, List.getElem?_toArray, List.getElem?_cons_zero, List.getElem?_cons_succ, Sem.run_bind, run_und hd, Result.andThen_ok, info_size hi, Sem.run_pure, Bool.false_eq_true, if_false, hn, hni, h63, false_and, hti, hti', hcapb, hrun, run_askRoom, hK, Bool.not_false, if_true, hL, hZ, newRow, run_newObj]
    · cases d <;> first
        | exact absurd rfl (hd' _)
        | simp only [Builtin.append_, ht, h1, List.getElem?_toArray, List.getElem?_cons_zero, List.getElem?_cons_succ, Sem.run_bind, run_und hd, run_und hu, Result.andThen_ok, info_size hi, Sem.run_pure, Bool.false_eq_true, if_false, hn, hni, h63, false_and, hti, hti', hcapb, hrun, run_askRoom, hK, Bool.not_false, if_true, hL, hZ, newRow, run_newObj]
  · have hw := wrap_small2 hmn
    have hneg : ¬ ((n : Int) < 0) := by omega
    have hbb : ¬ ((n : Int) * (i.bytes : Int) > 2 ^ 48) := by
      have : ((n * i.bytes : Nat) : Int) ≤ 281474976710656 := by omega
      rw [Int.natCast_mul] at this; omega
    have ha : (asInt (.int .i64 (n : Int))).run P w = .ok (n : Int) w := by simp [asInt, run_asIntOf]
    have h63' : ¬ ((((len + n : Nat) : Int) > IntKind.i64.max) ∧ (True ∨ i.bytes = 0)) := fun h => h63 h.1
    rcases hL with ⟨h0, rfl⟩ | ⟨h0, Z2, hZ2, hL⟩
    · simp only [Builtin.append_, ht, h1, List.getElem?_toArray, List.getElem?_cons_zero, List.getElem?_cons_succ, Sem.run_bind, run_und hd, run_und hu, Result.andThen_ok, info_size hi, Sem.run_pure, ha, hw, hneg, if_false, hti, hti', hbb, Int.toNat_natCast, hni, h63, false_and, hcapb, hrun, run_askRoom, hK, h0, if_true, hZ, newRow, run_newObj, Bool.not_true, Bool.false_eq_true]
    · simp only [Builtin.append_, ht, h1, List.getElem?_toArray, List.getElem?_cons_zero, List.getElem?_cons_succ, Sem.run_bind, run_und hd, run_und hu, Result.andThen_ok, info_size hi, Sem.run_pure, ha, hw, hneg, if_false, hti, hti', hbb, Int.toNat_natCast, hni, h63, false_and, hcapb, hrun, run_askRoom, hK, h0, hZ2, hZ, newRow, run_newObj, Bool.not_true, Bool.false_eq_true, if_true]
      rw [hL, show Z2 = Z by rw [hZ] at hZ2; cases hZ2; rfl]

end
end Go.Sym
end

section
namespace Go.Sym
set_option linter.unusedSimpArgs false
set_option linter.unusedVariables false
section
variable {P : Program} {own : Own} {ρ : Env} {s : St} {w : World}

theorem bool_not_cond {α : Type} {b : Bool} {x y : α} {z : α} (h : (bif !b then x else y) = z) (hx : x ≠ z) : b = true ∧ y = z := by
  cases b
  · exact absurd h hx
  · exact ⟨rfl, h⟩
theorem zeroCells_size (Z : Array Value) (n : Nat) : (Builtin.zeroCells Z n).size = n * Z.size := by simp [Builtin.zeroCells]

/-- rows that lie in the world, loaded -/
theorem rows_load {e : List Ty} {M : List (rowDen e)} {B o : Nat} (h : RowsAt ρ.φ e M (fun k => w.cell? ⟨B, o + k, none⟩)) :
    ∃ V : List Value, V.length = M.length * e.length ∧ RowsAt ρ.φ e M (fun k => V[k]?) ∧ Ones V ∧ (loadCells ⟨B, o, none⟩ (M.length * e.length)).run P w = .ok V.toArray w := by
  obtain ⟨V, h1, h2, h3, h4⟩ := h.list
  refine ⟨V, h1, h3, h4, ?_⟩
  have := run_loadCells_list (P := P) w ⟨B, o, none⟩ V (fun j v hj => by rw [addr_add]; exact h2 j v hj)
  rwa [h1] at this

theorem asL_rows {φ : Nat → Nat → Option Value} {e e' : List Ty} {L : List (rowDen e')} {M : List (rowDen e)} (h : asL e e' L = some M) {C : Nat → Option Value} (hr : RowsAt φ e' L C) : e' = e ∧ M.length = L.length ∧ RowsAt φ e M C := by
  obtain ⟨q, rfl⟩ := asL_some h
  subst q
  exact ⟨rfl, rfl, hr⟩
theorem asL_len {e e' : List Ty} {L : List (rowDen e')} {M : List (rowDen e)} (h : asL e e' L = some M) : e' = e ∧ M.length = L.length := by
  obtain ⟨q, rfl⟩ := asL_some h
  subst q
  exact ⟨rfl, rfl⟩
theorem rows_seg {φ : Nat → Nat → Option Value} {e : List Ty} {L : List (rowDen e)} {C : Nat → Option Value} {lo len : Nat} (h : lo + len ≤ L.length) (hr : RowsAt φ e L C) : RowsAt φ e (seg L lo len) (fun k => C (lo * e.length + k)) :=
  rows_drop lo (lo + len) h hr

/-- what is appended, run -/
structure SrcR (P : Program) (φ : Nat → Nat → Option Value) (e : List Ty) (M : List (rowDen e)) (X : Value) (w : World) (V : List Value) : Prop where
  size : V.length = M.length * e.length
  rows : RowsAt φ e M (fun k => V[k]?)
  ones : Ones V
  len : (Builtin.lenOf X).run P w = .ok M.length w
  load : ∀ n, n ≤ M.length → (Builtin.firstCells e.length n X).run P w = .ok (V.take (n * e.length)).toArray w

theorem take_load {B o : Nat} {V : List Value} {m : Nat} (h : (loadCells ⟨B, o, none⟩ m).run P w = .ok V.toArray w) (hV : ∀ k X, V[k]? = some X → w.cell? ⟨B, o + k, none⟩ = some X) (n : Nat) (hn : n ≤ V.length) : (loadCells ⟨B, o, none⟩ n).run P w = .ok (V.take n).toArray w := by
  have := run_loadCells_list (P := P) w ⟨B, o, none⟩ (V.take n) (fun j v hj => by
    rw [addr_add]
    refine hV j v ?_
    have hlt : j < n := by
      have := (List.getElem?_eq_some_iff.1 hj).1
      simp at this; omega
    rwa [List.getElem?_take_of_lt hlt] at hj)
  rwa [List.length_take, Nat.min_eq_left hn] at this

theorem src_slice {e : List Ty} {M : List (rowDen e)} {a : Option Addr} {c : Nat} (hn : a = none → M.length = 0) (hr : 0 < M.length → ∃ B o, a = some ⟨B, o, none⟩ ∧ RowsAt ρ.φ e M (fun k => w.cell? ⟨B, o + k, none⟩)) :
    ∃ V, SrcR P ρ.φ e M (.slice a M.length c) w V := by
  rcases Nat.eq_zero_or_pos M.length with h0 | h0
  · refine ⟨[], by simp [h0], fun i hi => by omega, fun X hX => by simp at hX, rfl, fun n hn' => ?_⟩
    have : n = 0 := by omega
    subst this
    cases a with
    | none => simp [Builtin.firstCells]
    | some a => simp [Builtin.firstCells, loadCells, loadCellsFrom]
  · obtain ⟨B, o, rfl, hro⟩ := hr h0
    obtain ⟨V, g1, g2, g3, g4⟩ := hro.list
    refine ⟨V, g1, g3, g4, rfl, fun n hn' => ?_⟩
    have hall := run_loadCells_list (P := P) w ⟨B, o, none⟩ V (fun j v hj => by rw [addr_add]; exact g2 j v hj)
    have hle : n * e.length ≤ V.length := by rw [g1]; exact Nat.mul_le_mul_right _ hn'
    have := take_load hall g2 (n * e.length) hle
    simpa [Builtin.firstCells] using this

theorem srcRows_rel (h : SRel own ρ s w) {e : List Ty} {x : V} {cs : List Bool} {M : List (rowDen e)} (hq : srcRows s e x = some (cs, M)) (hp : allB cs) {X : Value} (hx : VRel ρ x X) : ∃ V, SrcR P ρ.φ e M X w V := by
  unfold srcRows at hq
  split at hq
  · cases hq
    simp only [VRel] at hx; subst hx
    exact src_slice (M := ([] : List (rowDen e))) (a := none) (c := 0) (fun _ => rfl) (fun h => absurd h (Nat.lt_irrefl _))
  · rename_i e' L cl
    split at hq
    · rename_i M' hM
      cases hq
      simp only [VRel] at hx
      obtain ⟨a, c, rfl, h1, _, h3, h4⟩ := hx
      obtain ⟨q, rfl⟩ := asL_some hM
      subst q
      exact src_slice (M := L) (fun hn => by have := h3 hn; omega) fun hp => let ⟨B, o, g1, g2⟩ := h4 hp; ⟨B, o, g1, h.rowsφ g2⟩
    · cases hq
  · rename_i b lo len cap x' es
    split at hq
    · rename_i e' L hL
      split at hq
      · rename_i M' hM
        cases hes : Nat.beq es e.length with
        | false => rw [hes] at hq; cases hq
        | true =>
        rw [hes, cond_true] at hq
        have hes := Nat.eq_of_beq_eq_true hes
        subst hes
        cases hq
        have hle : lo + len ≤ M'.length := by simpa using hp.1
        obtain ⟨q, rfl⟩ := asL_some hM
        subst q
        simp only [VRel] at hx
        obtain ⟨a, c, rfl, h1, h2, _, h3, h4⟩ := hx
        have hsl := seg_length hle
        have hle' : lo + len ≤ L.length := hle
        have hsl' : (seg L lo len).length = len := seg_length hle'
        have := src_slice (P := P) (ρ := ρ) (w := w) (M := seg L lo len) (a := a) (c := c) (fun hn => by have := h3 hn; omega) fun hp => by
          obtain ⟨B, O, S, g1, g2, g3⟩ := h4 (by omega)
          have hr := rows_seg hle' (h.rowsAt hL g1).1
          exact ⟨B, _, g2, by simpa [Nat.add_assoc] using hr⟩
        rw [hsl'] at this
        exact this
      · cases hq
    · cases hq
  · rename_i t
    split at hq
    · rename_i M' hM
      cases hq
      simp only [VRel] at hx; subst hx
      obtain ⟨q, rfl⟩ := asL_some hM
      subst q
      have hl : List.length (α := Int) (bytesL t) = t.size := bytesL_length t
      refine ⟨(bytesL t).map (Value.int .u8), ?_, ?_, ?_, ?_, ?_⟩
      · show _ = List.length (α := Int) (bytesL t) * 1
        simp
      · refine bytes_rows t fun i hi => ?_
        simp only [List.getElem?_map]
        have e2 : (bytesL t)[i]? = some (bAt t i) := by
          rw [← bytesL_get t i hi, List.getD_eq_getElem?_getD, List.getElem?_eq_getElem (by rw [bytesL_length]; exact hi)]
          rfl
        rw [e2]; rfl
      · intro X hX
        obtain ⟨n, _, rfl⟩ := List.mem_map.1 hX
        rfl
      · show (Builtin.lenOf (.string t)).run P w = .ok (List.length (α := Int) (bytesL t)) w
        rw [hl]; simp [Builtin.lenOf]
      · intro n hn
        have hn : n ≤ List.length (α := Int) (bytesL t) := hn
        rw [hl] at hn
        have e2 : (t.extract 0 n).data.map (fun b => Value.int .u8 b.toNat) = (((bytesL t).map (Value.int .u8)).take (n * 1)).toArray := by
          apply Array.ext'
          simp [bytesL, List.extract_eq_take_drop]
          rfl
        show (Builtin.firstCells 1 n (.string t)).run P w = .ok (((bytesL t).map (Value.int .u8)).take (n * 1)).toArray w
        simp only [Builtin.firstCells, e2, Sem.run_pure]
    · cases hq
  · rename_i b o len cap x' es
    split at hq
    · rename_i cs' hcs
      simp only [llen_eq, ltake_eq, ldrop_eq] at hq
      cases hb : (Nat.beq es e.length && Nat.ble (o + len * es) cs'.length) with
      | false => rw [hb] at hq; cases hq
      | true =>
      rw [hb, cond_true] at hq
      simp only [Bool.and_eq_true, Nat.beq_eq, Nat.ble_eq] at hb
      obtain ⟨he, hb⟩ := hb
      subst he
      split at hq
      · rename_i M' hM
        cases hq
        obtain ⟨g1, g2, g3⟩ := ofRows_spec (ρ := ρ) e len _ M hM
        simp only [VRel] at hx
        obtain ⟨B, O, S, c, hB, rfl, _⟩ := hx
        have hc := (h.cellsAt hcs hB).1
        have := src_slice (P := P) (ρ := ρ) (w := w) (M := M) (a := some ⟨B, O + o, none⟩) (c := c) (fun hn => by cases hn) fun _ => ⟨B, O + o, rfl, g3 fun i v hi => by
          have hlt : i < len * e.length := by
            have := (List.getElem?_eq_some_iff.1 hi).1
            simp at this; omega
          rw [List.getElem?_take_of_lt hlt, List.getElem?_drop] at hi
          obtain ⟨W, q1, q2⟩ := hc _ _ hi
          exact ⟨W, by rw [Nat.add_assoc]; exact q1, q2⟩⟩
        rw [g1] at this
        exact this
      · cases hq
    · cases hq
  · cases hq

theorem SrcR.ok (hz : ∀ {ts : Array TypeId}, True) {ts : Array TypeId} (h0 : zerosE P ts = false) {e : List Ty} {el : TypeId} {i : TypeInfo} (hi : i.size = e.length) {M : List (rowDen e)} {X : Value} {V V' : List Value} {w' : World} (h : SrcR P ρ.φ e M X w V) (k : SrcR P ρ.φ e M X w' V') :
    SrcOK P ts el i X M.length w w' V' := by
  refine .inl ⟨h0, h.len, ?_⟩
  have := k.load M.length (Nat.le_refl _)
  rw [hi, this, ← k.size, List.take_length]

theorem info_szE {el : TypeId} {i : TypeInfo} (hi : P.info? el = some i) : szE P el = some i.size := by simp [szE, hi]

theorem roomy_spec {i : TypeInfo} {n : Nat} (h : allB (roomy i n)) : (2 * n + 768) * i.bytes ≤ 281474976710656 ∧ n ≤ 1099511627776 := by
  obtain ⟨h1, h2, _⟩ := h
  simp only [decide_eq_true_eq] at h1 h2
  exact ⟨h1, h2⟩

theorem eAppendR_rel (h : SRel own ρ s w) {ts : Array TypeId} {ty t el : TypeId} {i : TypeInfo} {zv : V} (ht : ts[0]? = some t) (hd : P.underlying t = some (.slice el)) (hi : P.info? el = some i) (hzz : zeroE P el = some zv) (h0 : zerosE P ts = false) {e : List Ty} (he : rowTy P el = some e)
    {z : List V} (hz : cellsO zv = some z) (hzl : z.length = i.size) {a x v : V} {s' : St} {ps : List Bool} (hq : eAppendR s e el i a x = some (ps, v, s')) (hp : allB ps) {A X : Value} (ha : VRel ρ a A) (hx : VRel ρ x X) :
    OKv P own ρ (Builtin.append_ ts ty #[A, X]) w v s' := by
  obtain ⟨hsz, hs1⟩ := rowTy_spec he
  have his : i.size = e.length := by
    rw [info_szE hi] at hsz; exact Option.some.inj hsz
  have h' : SRel own ρ s { w with drawn := w.drawn + 1 } := h.same rfl
  obtain ⟨Z, hZ, hzr, _⟩ := zeroE_rel (ρ := ρ) (w := { w with drawn := w.drawn + 1 }) hzz
  have hzc := (cellsO_rel hz hzr).length
  simp only [Array.length_toList] at hzc
  unfold eAppendR at hq
  split at hq
  · cases hq
  rename_i cs M hM
  have src : allB cs → ∃ V V', SrcR P ρ.φ e M X w V ∧ SrcR P ρ.φ e M X { w with drawn := w.drawn + 1 } V' := fun hc => by
    obtain ⟨V, hV⟩ := srcRows_rel (P := P) h hM hc hx
    obtain ⟨V', hV'⟩ := srcRows_rel (P := P) h' hM hc hx
    exact ⟨V, V', hV, hV'⟩
  split at hq
  · -- nil
    cases hq
    rw [allB_append] at hp
    obtain ⟨V, V', hV, hV'⟩ := src hp.1
    obtain ⟨r1, r2⟩ := roomy_spec hp.2
    simp only [VRel] at ha; subst ha
    rcases Nat.eq_zero_or_pos M.length with hn0 | hn0
    · have hso := SrcR.ok (fun {_} => trivial) h0 (el := el) his hV hV
      rw [hn0] at hso ⊢
      refine ⟨ρ, .slice none 0 0, w, ρ.le_refl, ?_, ?_, h.ghost _, Fr.refl _ _⟩
      · rw [run_append_in ht hd hi hso (by omega)]
        rfl
      · simp only [VRel]
        exact ⟨none, 0, rfl, Nat.le_refl _, Nat.le_refl _, fun hx => (by cases hx), fun _ => rfl, fun hx => absurd hx (Nat.lt_irrefl _)⟩
    · have hso := SrcR.ok (fun {_} => trivial) h0 (el := el) his hV hV'
      obtain ⟨cap', hc, hrun⟩ := run_append_grow (P := P) (w := w) (ty := ty) (base := none) (len := 0) (cap := 0) (K := []) ht hd hi hso (by simp [Builtin.firstCells]) hZ (by omega) (by simpa using r1) (by simpa using r2)
      simp only [Nat.zero_add, List.nil_append, Array.append_assoc] at hrun hc
      have hz2 : (#[] : Array Value) ++ (V'.toArray ++ Builtin.zeroCells Z.cells (cap' - M.length)) = V'.toArray ++ Builtin.zeroCells Z.cells (cap' - M.length) := by simp
      rw [hz2] at hrun
      obtain ⟨e1, e2, e3⟩ := h.newLongRows (by rw [hV'.size]; exact Nat.le_refl _) hV'.rows (Builtin.zeroCells Z.cells (cap' - M.length)) el el (w.drawn + 1) false
      refine ⟨_, _, _, e1, hrun, ?_, e2, e3⟩
      simp only [VRel]
      refine ⟨_, cap', rfl, Nat.le_refl _, hc, fun hx => (by cases hx), fun hn => (by cases hn), fun _ => ⟨_, _, _, Env.put_same, by simp, ?_⟩⟩
      simp only [Array.size_append, zeroCells_size, List.size_toArray]
      rw [hV'.size, ← hzc, hzl, his, ← Nat.add_mul]
      simp only [Nat.zero_mul, Nat.zero_add]
      exact Nat.mul_le_mul_right _ (by omega)
  · rename_i e' L
    split at hq
    · rename_i L' hL'
      cases hq
      rw [allB_append] at hp
      obtain ⟨hp1, hp2, hp3⟩ := hp
      have hm0 : 0 < M.length := by simpa using hp2
      obtain ⟨V, V', hV, hV'⟩ := src hp1
      obtain ⟨r1, r2⟩ := roomy_spec hp3
      obtain ⟨q, rfl⟩ := asL_some hL'
      subst q
      simp only [VRel] at ha
      obtain ⟨ad, c, rfl, _, hcl, hn, hrow⟩ := ha
      have hcl := hcl trivial
      subst hcl
      have hso := SrcR.ok (fun {_} => trivial) h0 (el := el) his hV hV'
      obtain ⟨K, hK⟩ := src_slice (P := P) (ρ := ρ) (w := { w with drawn := w.drawn + 1 }) (M := L) (a := ad) (c := L.length) hn fun hp => let ⟨B, o, g1, g2⟩ := hrow hp; ⟨B, o, g1, h'.rowsφ g2⟩
      have hKl := hK.load L.length (Nat.le_refl _)
      rw [← hK.size, List.take_length, ← his] at hKl
      obtain ⟨cap', hc, hrun⟩ := run_append_grow (P := P) (w := w) (ty := ty) ht hd hi hso hKl hZ (by omega) r1 r2
      have e4 : (K ++ V').toArray = K.toArray ++ V'.toArray := by simp
      rw [← e4] at hrun
      have hsz2 : (L ++ M).length * e'.length ≤ (K ++ V').length := by rw [List.length_append, List.length_append, hK.size, hV'.size, Nat.add_mul]; exact Nat.le_refl _
      have hrows : RowsAt ρ.φ e' (L ++ M) (fun k => (K ++ V')[k]?) := by
        refine rows_app hK.rows ?_ fun j hj => ?_
        · refine hV'.rows.mono (fun _ _ _ hv => hv) fun j v hj => ?_
          rw [List.getElem?_append_right (by rw [hK.size]; omega), hK.size, Nat.add_sub_cancel_left]
          exact hj
        · rw [List.getElem?_append_left (by rw [hK.size]; exact hj)]
      obtain ⟨e1, e2, e3⟩ := h.newLongRows hsz2 hrows (Builtin.zeroCells Z.cells (cap' - (L.length + M.length))) el el (w.drawn + 1) false
      refine ⟨_, _, _, e1, hrun, ?_, e2, e3⟩
      simp only [VRel]
      refine ⟨_, cap', rfl, Nat.le_refl _, hc, fun hx => (by cases hx), fun hn => (by cases hn), fun _ => ⟨_, _, _, Env.put_same, by simp, ?_⟩⟩
      simp only [Array.size_append, zeroCells_size, List.size_toArray, List.length_append]
      rw [hK.size, hV'.size, ← hzc, hzl, his, ← Nat.add_mul, ← Nat.add_mul]
      simp only [Nat.zero_mul, Nat.zero_add]
      exact Nat.mul_le_mul_right _ (by omega)
    · cases hq
  · rename_i b lo len cap x' es
    split at hq
    · rename_i e' L t' ish hg
      split at hq
      · rename_i L' hL'
        cases hes : Nat.beq es e.length with
        | false => rw [hes] at hq; cases hq
        | true =>
        rw [hes, cond_true] at hq
        have hes := Nat.eq_of_beq_eq_true hes
        subst hes
        cases hq
        rw [allB_append] at hp
        obtain ⟨hp1, hp2, hp3⟩ := hp
        have hle : lo + len ≤ L'.length := by simpa using hp2
        obtain ⟨V, V', hV, hV'⟩ := src hp1
        obtain ⟨r1, r2⟩ := roomy_spec hp3
        obtain ⟨q, rfl⟩ := asL_some hL'
        subst q
        have hle : lo + len ≤ L.length := hle
        have hsl := seg_length hle
        simp only [VRel] at ha
        obtain ⟨ad, c, rfl, c1, c2, _, hn, hblk⟩ := ha
        have hsegl : (seg L lo len ++ M).length = len + M.length := by rw [List.length_append, hsl]
        rcases Nat.lt_or_ge c (len + M.length) with hgt | hin
        · -- a new block
          have hrowsAt : rowsAt s b = some ⟨e', L⟩ := by simp [rowsAt, hg]
          have hso := SrcR.ok (fun {_} => trivial) h0 (el := el) his hV hV'
          obtain ⟨K, hK⟩ := src_slice (P := P) (ρ := ρ) (w := { w with drawn := w.drawn + 1 }) (M := seg L lo len) (a := ad) (c := c) (fun hh => by have := hn hh; omega) fun hp => by
            obtain ⟨B, O, S, g1, g2, g3⟩ := hblk (by omega)
            have hr := rows_seg hle (h'.rowsAt hrowsAt g1).1
            exact ⟨B, _, g2, by simpa [Nat.add_assoc] using hr⟩
          rw [hsl] at hK
          have hKl := hK.load len (by rw [hsl]; exact Nat.le_refl _)
          have hKs := hK.size
          rw [hsl] at hKs
          rw [← hKs, List.take_length, ← his] at hKl
          obtain ⟨cap', hc, hrun⟩ := run_append_grow (P := P) (w := w) (ty := ty) ht hd hi hso hKl hZ hgt r1 r2
          have e4 : (K ++ V').toArray = K.toArray ++ V'.toArray := by simp
          rw [← e4] at hrun
          have hsz2 : (seg L lo len ++ M).length * e'.length ≤ (K ++ V').length := by rw [hsegl, List.length_append, hKs, hV'.size, Nat.add_mul]; exact Nat.le_refl _
          have hrows : RowsAt ρ.φ e' (seg L lo len ++ M) (fun k => (K ++ V')[k]?) := by
            refine rows_app hK.rows ?_ fun j hj => ?_
            · rw [hsl]
              refine hV'.rows.mono (fun _ _ _ hv => hv) fun j v hj => ?_
              rw [List.getElem?_append_right (by rw [hKs]; omega), hKs, Nat.add_sub_cancel_left]
              exact hj
            · rw [hsl] at hj
              rw [List.getElem?_append_left (by rw [hKs]; exact hj)]
          obtain ⟨e1, e2, e3⟩ := (h.strike b).newLongRows hsz2 hrows (Builtin.zeroCells Z.cells (cap' - (len + M.length))) el el (w.drawn + 1) ish
          refine ⟨_, _, _, e1, hrun, ?_, e2, e3⟩
          simp only [VRel]
          refine ⟨_, cap', rfl, Nat.le_refl _, hc, fun hx => (by cases hx), fun hn => (by cases hn), fun _ => ⟨_, _, _, Env.put_same, by simp, ?_⟩⟩
          simp only [Array.size_append, zeroCells_size, List.size_toArray, List.length_append]
          rw [hKs, hV'.size, ← hzc, hzl, his, ← Nat.add_mul, ← Nat.add_mul]
          simp only [Nat.zero_mul, Nat.zero_add]
          exact Nat.mul_le_mul_right _ (by omega)
        · -- in place
          have hso := SrcR.ok (fun {_} => trivial) h0 (el := el) his hV hV
          have hrun := run_append_in (P := P) (w := w) (ty := ty) (base := ad) (len := len) (cap := c) ht hd hi hso hin
          rcases Nat.eq_zero_or_pos c with hc0 | hc0
          · subst hc0
            have hl0 : len = 0 := by omega
            have hm0 : M.length = 0 := by omega
            have hV0 : V = [] := List.length_eq_zero_iff.1 (by rw [hV.size, hm0]; simp)
            refine ⟨ρ, .slice ad (len + M.length) 0, w, ρ.le_refl, ?_, ?_, (h.strike b).ghost _, Fr.refl _ _⟩
            · rw [hrun, hV0]
              cases ad <;> simp [storeCells]
            · simp only [VRel]
              exact ⟨ad, 0, rfl, Nat.le_refl _, hin, fun hx => (by cases hx), fun _ => rfl, fun hx => absurd hx (Nat.lt_irrefl _)⟩
          · obtain ⟨B, O, S, g1, rfl, g3⟩ := hblk hc0
            obtain ⟨C, tt, fr, e1, e2, e3, e4, e5, e6, e7⟩ := h.rowsObj hg g1
            simp only at e1 e2 e3 e4 e5 e7
            have hfit : O + lo * e'.length + (len + M.length) * e'.length ≤ S := Nat.le_trans (Nat.add_le_add_left (Nat.mul_le_mul_right _ hin) _) g3
            have hVl := hV.size
            have hmul : (len + M.length) * e'.length = len * e'.length + M.length * e'.length := Nat.add_mul _ _ _
            have hst := run_storeAll (P := P) V (O + lo * e'.length + len * e'.length) 0 C w e1 (by rw [e2]; exact e5) (by omega) hV.ones
            refine ⟨ρ.put s.next ⟨B, O + lo * e'.length, S⟩, .slice (some ⟨B, O + lo * e'.length, none⟩) (len + M.length) c, _, Env.le_put _ h.fresh, ?_, ?_, h.move hg g1 _ (.cells (setA C (O + lo * e'.length + len * e'.length) V) tt fr) (O + lo * e'.length) rfl ?_, fr_set e7.1 rfl⟩
            · rw [hrun]
              simp only [addr_add, his]
              rw [hst]
              rfl
            · simp only [VRel]
              exact ⟨_, c, rfl, Nat.le_refl _, hin, fun hx => (by cases hx), fun hn => (by cases hn), fun _ => ⟨_, _, _, Env.put_same, by simp, by simp only [Nat.zero_mul, Nat.add_zero]; exact g3⟩⟩
            · refine ⟨_, tt, fr, rfl, by rw [setA_size]; exact e2, ?_, ?_, e5, e6⟩
              · show O + lo * e'.length + (seg L lo len ++ M).length * e'.length ≤ S
                rw [hsegl]; omega
              · show RowsAt ρ.φ e' (seg L lo len ++ M) (fun k => (setA C (O + lo * e'.length + len * e'.length) V)[O + lo * e'.length + k]?)
                have hs := rows_seg hle e4
                refine rows_app hs ?_ fun j hj => ?_
                · rw [hsl]
                  refine hV.rows.mono (fun _ _ _ hv => hv) fun j v hj => ?_
                  have hjl := (List.getElem?_eq_some_iff.1 hj).1
                  rw [setA_get _ _ _ _ (by omega), if_pos (by omega), ← hj]
                  congr 1; omega
                · rw [hsl] at hj
                  rw [setA_get _ _ _ _ (by omega), if_neg (by omega)]
                  congr 1; omega
      · cases hq
    · cases hq
  · cases hq

theorem lenE_rel {v : V} {n : Nat} (h : lenE v = some n) {A : Value} (ha : VRel ρ v A) : (Builtin.lenOf A).run P w = .ok n w := by
  unfold lenE at h
  split at h <;> cases h <;> simp only [VRel] at ha
  · subst ha; rfl
  · obtain ⟨_, _, _, _, _, rfl, _⟩ := ha; rfl

theorem sliceCells_rel (h : SRel own ρ s w) {v : V} {n sz : Nat} (hes : esOk v sz = true) {l : List V} (hq : sliceCells s v n = some l) {A : Value} (ha : VRel ρ v A) :
    ∃ L : List Value, (Builtin.firstCells sz n A).run P w = .ok L.toArray w ∧ LRel ρ l L := by
  unfold sliceCells at hq
  simp only [llen_eq, ltake_eq, ldrop_eq] at hq
  split at hq
  · cases hb : Nat.beq n 0 with
    | false => simp [hb] at hq
    | true =>
      simp only [hb, cond_true, Option.some.injEq] at hq
      subst hq
      simp only [VRel] at ha; subst ha
      exact ⟨[], rfl, LRel.nil⟩
  · rename_i b o len cap x es
    simp only [esOk, Nat.beq_eq] at hes
    subst hes
    split at hq
    · rename_i cs hcs
      cases hb : Nat.ble (o + n * es) cs.length with
      | false => simp [hb] at hq
      | true =>
        simp only [hb, cond_true, Option.some.injEq] at hq
        subst hq
        simp only [VRel] at ha
        obtain ⟨B, O, S, cap', hB, rfl, _⟩ := ha
        obtain ⟨L, h1, h2⟩ := load_of_cells (P := P) (h.cellsAt hcs hB).1 o (n * es) (by simpa [Nat.ble_eq] using hb)
        exact ⟨L, by simpa [Builtin.firstCells] using h1, h2⟩
    · cases hq
  · cases hq

theorem srcCells_rel (h : SRel own ρ s w) {v : V} {n sz : Nat} {l : List V} (hn : lenE v = some n) (hq : srcCells s v sz = some l) {A : Value} (ha : VRel ρ v A) :
    ∃ L : List Value, (Builtin.firstCells sz n A).run P w = .ok L.toArray w ∧ LRel ρ l L := by
  unfold srcCells at hq
  cases hb : esOk v sz with
  | false => simp [hb] at hq
  | true =>
    simp only [hb, cond_true, hn] at hq
    exact sliceCells_rel h hb hq ha
theorem srcCells_length {x : V} {n sz : Nat} {l : List V} (hn : lenE x = some n) (hq : srcCells s x sz = some l) : l.length = n * sz := by
  cases x <;> simp only [lenE, reduceCtorEq, Option.some.injEq] at hn
  case nils =>
    subst hn
    simp [srcCells, esOk, lenE, sliceCells] at hq
    subst hq; simp
  case sl b o len cap x es =>
    subst hn
    simp only [srcCells, esOk, lenE] at hq
    cases hb : Nat.beq es sz with
    | false => simp [hb] at hq
    | true =>
      have : es = sz := by simpa using hb
      subst this
      simp only [hb, cond_true, sliceCells, llen_eq, ltake_eq, ldrop_eq] at hq
      split at hq
      · rename_i cs _
        cases hbb : Nat.ble (o + len * es) cs.length with
        | false => simp [hbb] at hq
        | true =>
          simp only [hbb, cond_true, Option.some.injEq] at hq
          subst hq
          rw [Nat.ble_eq] at hbb
          simp; omega
      · cases hq
theorem srcE_length {i : TypeInfo} {x : V} {n : Nat} {l : List V} (hq : srcE s i x = some (n, l)) : l.length = n * i.size := by
  unfold srcE at hq
  split at hq
  · rename_i hn
    split at hq
    · rename_i hnew
      cases hq
      exact srcCells_length hn hnew
    · cases hq
  · cases hq
theorem srcE_rel {w' : World} (h : SRel own ρ s w) (h' : SRel own ρ s w') {ts : Array TypeId} (h0 : zerosE P ts = false) {e : TypeId} {i : TypeInfo} {x : V} {n : Nat} {l : List V} (hq : srcE s i x = some (n, l)) {X : Value} (hx : VRel ρ x X) :
    ∃ L : List Value, SrcOK P ts e i X n w w' L ∧ LRel ρ l L := by
  unfold srcE at hq
  split at hq
  · rename_i m hn
    split at hq
    · rename_i new hnew
      cases hq
      obtain ⟨L, hL, hLr⟩ := srcCells_rel (P := P) h' hn hnew hx
      exact ⟨L, .inl ⟨h0, lenE_rel (P := P) (w := w) hn hx, hL⟩, hLr⟩
    · cases hq
  · cases hq

theorem eAppendC_rel (h : SRel own ρ s w) {ts : Array TypeId} {ty t e : TypeId} {i : TypeInfo} {zv : V} (ht : ts[0]? = some t) (hd : P.underlying t = some (.slice e)) (hi : P.info? e = some i) (hzz : zeroE P e = some zv) (h0 : zerosE P ts = false)
    {z : List V} (hz : cellsO zv = some z) (hb0 : z.length = i.size ∧ 1 ≤ i.size) {a x v : V} {s' : St} {ps : List Bool} (hq : eAppendC s e i a x = some (ps, v, s')) {A X : Value} (ha : VRel ρ a A) (hx : VRel ρ x X) :
    OKv P own ρ (Builtin.append_ ts ty #[A, X]) w v s' := by
  unfold eAppendC at hq
  simp only [llen_eq, lall_eq, ltake_eq, ldrop_eq, lapp_eq, lget_eq] at hq
  split at hq
  · cases hq
  rename_i n new hnew
  have h' : SRel own ρ s { w with drawn := w.drawn + 1 } := h.same rfl
  obtain ⟨L, hL, hLr⟩ := srcE_rel (P := P) h h h0 (e := e) hnew hx
  obtain ⟨L', hL', hLr'⟩ := srcE_rel (P := P) h h' h0 (e := e) hnew hx
  obtain ⟨Z, hZ, hzr, _⟩ := zeroE_rel (ρ := ρ) (w := { w with drawn := w.drawn + 1 }) hzz
  have hzc := (cellsO_rel hz hzr).length
  simp only [Array.length_toList] at hzc
  have hnc : new.length = n * i.size := srcE_length hnew
  split at hq
  · -- nil
    simp only [VRel] at ha; subst ha
    cases hn0 : Nat.beq n 0 with
    | true =>
      rw [hn0, cond_true] at hq
      cases hq
      have e : n = 0 := by simpa using hn0
      subst e
      refine ⟨ρ, .slice none 0 0, w, ρ.le_refl, ?_, by simp only [VRel], h, Fr.refl _ _⟩
      rw [run_append_in ht hd hi hL (by omega)]
      rfl
    | false =>
      simp only [hn0, cond_false] at hq
      cases hb : (Nat.ble ((2 * n + 768) * i.bytes) 281474976710656 && Nat.ble n 1099511627776) with
      | false => simp [hb] at hq
      | true =>
      simp only [hb, cond_true] at hq
      cases hq
      simp only [Bool.and_eq_true, Nat.ble_eq] at hb
      have hn1 : 0 < n := by
        rcases Nat.eq_zero_or_pos n with e | e
        · subst e; simp at hn0
        · exact e
      obtain ⟨cap', hc, hrun⟩ := run_append_grow (P := P) (w := w) (ty := ty) (base := none) (len := 0) (cap := 0) (K := []) ht hd hi hL' (by simp [Builtin.firstCells]) hZ (by omega) (by simpa using hb.1) (by simpa using hb.2)
      simp only [Nat.zero_add, List.nil_append, Array.append_assoc] at hrun hc
      have hz2 : (#[] : Array Value) ++ (L'.toArray ++ Builtin.zeroCells Z.cells (cap' - n)) = L'.toArray ++ Builtin.zeroCells Z.cells (cap' - n) := by simp
      rw [hz2] at hrun
      obtain ⟨e1, e2, e3⟩ := h.newLong hLr' (Builtin.zeroCells Z.cells (cap' - n)) e e (w.drawn + 1) false
      refine ⟨_, _, _, e1, hrun, ?_, e2, e3⟩
      simp only [VRel]
      refine ⟨_, _, _, cap', Env.put_same, rfl, Nat.le_refl _, hc, by simp, ?_⟩
      have hl := hLr'.length
      simp only [Array.size_append, zeroCells_size, List.size_toArray]
      rw [← hl, hnc, ← hzc, hb0.1, ← Nat.add_mul]
      simp only [Nat.zero_add]
      exact Nat.mul_le_mul_right _ (by omega)
  · rename_i b o len cap x' es
    obtain ⟨hes, hq⟩ := bool_not_cond hq (by simp)
    have hes : es = i.size := by simpa using hes
    subst hes
    have ha0 := ha
    simp only [VRel] at ha
    obtain ⟨B, O, S, cap', hB, rfl, c1, c2, c3, c4⟩ := ha
    cases hcap : Nat.ble (len + n) cap with
    | true =>
      simp only [hcap, cond_true] at hq
      rw [Nat.ble_eq] at hcap
      split at hq
      · rename_i cs t' ish hg
        cases hb : (Nat.ble (o + (len + n) * i.size) cs.length && new.all oneV) with
        | false => simp [hb] at hq
        | true =>
        simp only [hb, cond_true] at hq
        cases hq
        simp only [Bool.and_eq_true, Nat.ble_eq] at hb
        have hmul : (len + n) * i.size = len * i.size + n * i.size := Nat.add_mul _ _ _
        obtain ⟨w', g1, g2, g3⟩ := h.write (P := P) hg hB hLr (o := o + len * i.size) (by omega) hb.2
        refine ⟨ρ, .slice (some ⟨B, O + o, none⟩) (len + n) cap', w', ρ.le_refl, ?_, ?_, g2, g3⟩
        · rw [run_append_in ht hd hi hL (by omega)]
          simp only [addr_add]
          simp only at g1
          rw [Nat.add_assoc, g1]
          rfl
        · simp only [VRel]
          exact ⟨B, O, S, cap', hB, rfl, hcap, c2, c3, c4⟩
      · cases hq
    | false =>
      simp only [hcap, cond_false] at hq
      have hcap' : cap < len + n := by
        refine Nat.lt_of_not_le fun hh => ?_
        rw [← Nat.ble_eq, hcap] at hh; cases hh
      obtain ⟨hb1, hq⟩ := bool_not_cond hq (by simp)
      simp only [Bool.and_eq_true, Nat.ble_eq] at hb1
      split at hq
      · rename_i cs t' ish hg
        obtain ⟨hb2, hq⟩ := bool_not_cond hq (by simp)
        simp only [Bool.and_eq_true, Nat.ble_eq] at hb2
        have hcsAt : cellsAt s b = some cs := by simp [cellsAt, hg]
        have hold : sliceCells s (.sl b o len cap x' i.size) len = some ((cs.drop o).take (len * i.size)) := by
          simp only [sliceCells, hcsAt, llen_eq, ltake_eq, ldrop_eq]
          have : Nat.ble (o + len * i.size) cs.length = true := by rw [Nat.ble_eq]; exact hb2.1
          rw [this]; rfl
        obtain ⟨K, hK, hKr⟩ := sliceCells_rel (P := P) h' (sz := i.size) (by simp [esOk]) hold ha0
        have hKlen : ((cs.drop o).take (len * i.size)).length = len * i.size := by simp; omega
        -- a new block
        have grow : cap' < len + n → ∃ ρ' Y w', ρ.le ρ' ∧ (Builtin.append_ ts ty #[.slice (some ⟨B, O + o, none⟩) len cap', X]).run P w = .ok Y w' ∧
            VRel ρ' (.sl s.next 0 (len + n) (len + n) false i.size) Y ∧ SRel own ρ' (s.new (.cells ((cs.drop o).take (len * i.size) ++ new) e false)) w' ∧ Fr own w w' := by
          intro hgt
          obtain ⟨cap2, hc, hrun⟩ := run_append_grow (P := P) (w := w) (ty := ty) ht hd hi hL' hK hZ hgt hb1.1 hb1.2
          have hKL : LRel ρ ((cs.drop o).take (len * i.size) ++ new) (K ++ L') := hKr.append hLr'
          obtain ⟨e1, e2, e3⟩ := h.newLong hKL (Builtin.zeroCells Z.cells (cap2 - (len + n))) e e (w.drawn + 1) false
          have e4 : (K ++ L').toArray = K.toArray ++ L'.toArray := by simp
          rw [← e4] at hrun
          refine ⟨_, _, _, e1, hrun, ?_, e2, e3⟩
          simp only [VRel]
          refine ⟨_, _, _, cap2, Env.put_same, rfl, Nat.le_refl _, hc, by simp, ?_⟩
          have hl := hKL.length
          simp only [Array.size_append, zeroCells_size, List.size_toArray]
          rw [← hl, List.length_append, hKlen, hnc, ← hzc, hb0.1, ← Nat.add_mul, ← Nat.add_mul]
          simp only [Nat.zero_add]
          exact Nat.mul_le_mul_right _ (by omega)
        cases hx' : x' with
        | true =>
          simp only [hx', cond_true] at hq
          cases hq
          exact grow (by rw [c3 hx']; exact hcap')
        | false =>
          simp only [hx', cond_false] at hq
          cases hq
          rcases Nat.lt_or_ge cap' (len + n) with hgt | hle
          · obtain ⟨ρ', Y, w', g1, g2, g3, g4, g5⟩ := grow hgt
            refine ⟨ρ', Y, w', g1, g2, g3, ?_, g5⟩
            -- what is struck is asked for no more
            refine ⟨g4.le, ?_, ?_, g4.dom, g4.top, g4.fz, g4.old⟩
            · intro k u z hk hz
              simp only [St.move, T.get_set] at hk
              have hk2 : (k = s.next ∧ u = .cells ((cs.drop o).take (len * i.size) ++ new) e ish) ∨ (k ≠ s.next ∧ s.heap.get k = some u) := by
                split at hk
                · rename_i ee; cases hk; exact .inl ⟨ee, rfl⟩
                · rename_i ee
                  split at hk
                  · cases hk
                  · exact .inr ⟨ee, hk⟩
              rcases hk2 with ⟨rfl, rfl⟩ | ⟨ee, hk⟩
              · obtain ⟨y2, C, tt, fr, y3, y4, y5, y6, y7, y8⟩ := g4.obj s.next (.cells ((cs.drop o).take (len * i.size) ++ new) e false) z (by simp [St.new, T.get_set]) hz
                exact ⟨y2, C, tt, fr, y3, y4, y5, y6, y7, fun _ => y8 rfl⟩
              · exact g4.obj k u z (by simp only [St.new, T.get_set, ee, if_false]; exact hk) hz
            · intro k k' u u' y y' hk hk' hy hy' hne
              have sub : ∀ k u, (s.move b (.cells ((cs.drop o).take (len * i.size) ++ new) e ish)).heap.get k = some u → ∃ u', (s.new (.cells ((cs.drop o).take (len * i.size) ++ new) e false)).heap.get k = some u' := by
                intro k u hk
                simp only [St.move, St.new, T.get_set] at hk ⊢
                split at hk
                · rename_i ee; exact ⟨_, by simp [ee]; rfl⟩
                · rename_i ee
                  split at hk
                  · cases hk
                  · exact ⟨u, by simp [ee, hk]⟩
              obtain ⟨u1, k1⟩ := sub k u hk
              obtain ⟨u2, k2⟩ := sub k' u' hk'
              exact g4.inj k k' u1 u2 y y' k1 k2 hy hy' hne
          · -- in place
            obtain ⟨C, tt, fr, e1, e2, e3, e4, e5, e6, e7⟩ := h.cellsObj hg hB
            simp only at e1 e2 e3 e4 e5 e7
            have hl := hLr.length
            have hmul : (len + n) * i.size = len * i.size + n * i.size := Nat.add_mul _ _ _
            have hfit : O + o + (len + n) * i.size ≤ S := Nat.le_trans (Nat.add_le_add_left (Nat.mul_le_mul_right _ hle) _) c4
            have hst := run_storeAll (P := P) L (O + (o + len * i.size)) 0 C w e1 (by rw [e2]; exact e5) (by omega) (allOne_rel hLr hb2.2)
            refine ⟨ρ.put s.next ⟨B, O + o, S⟩, .slice (some ⟨B, O + o, none⟩) (len + n) cap', _, Env.le_put _ h.fresh, ?_, ?_, h.move hg hB _ (.cells (setA C (O + (o + len * i.size)) L) tt fr) (O + o) rfl ?_, fr_set e7.1 rfl⟩
            · rw [run_append_in ht hd hi hL hle]
              simp only [addr_add]
              rw [Nat.add_assoc, hst]
              rfl
            · simp only [VRel]
              exact ⟨B, O + o, S, cap', Env.put_same, rfl, Nat.le_refl _, hle, by simp, by omega⟩
            · refine ⟨_, tt, fr, rfl, by rw [setA_size]; exact e2, ?_, ?_, e5, e6⟩
              · rw [List.length_append, hKlen, hnc]; show O + o + _ ≤ S; omega
              · have hle' := Env.le_put ⟨B, O + o, S⟩ h.fresh
                have hcp : CP ρ O (setAll (cs ++ List.replicate (o + (len + n) * i.size) .undef) (o + len * i.size) new) (setA C (O + (o + len * i.size)) L) ∨ True := .inr trivial
                intro j u hj
                simp only
                have sa : ∀ (l : List Value) (C : Array Value) (p k : Nat), p + l.length ≤ C.size → (setA C p l)[k]? = if p ≤ k ∧ k < p + l.length then l[k - p]? else C[k]? := by
                  intro l
                  induction l with
                  | nil => intro C p k _; simp [setA]; omega
                  | cons c l ih =>
                    intro C p k hp
                    simp only [List.length_cons] at hp ⊢
                    simp only [setA]
                    rw [ih _ _ _ (by simp; omega)]
                    by_cases hk : k = p
                    · subst hk
                      rw [if_neg (by omega), if_pos (by omega), Array.getElem?_setIfInBounds_self_of_lt (by omega)]
                      simp
                    · by_cases hk2 : p + 1 ≤ k ∧ k < p + 1 + l.length
                      · rw [if_pos hk2, if_pos (by omega)]
                        obtain ⟨d, rfl⟩ : ∃ d, k = p + 1 + d := ⟨k - (p + 1), by omega⟩
                        rw [show p + 1 + d - (p + 1) = d from by omega, show p + 1 + d - p = d + 1 from by omega]
                        simp
                      · rw [if_neg hk2, if_neg (by omega), Array.getElem?_setIfInBounds_ne (by omega)]
                have hlen2 : L.length = n * i.size := by rw [← hl, hnc]
                rw [sa _ _ _ _ (by omega)]
                rcases Nat.lt_or_ge j (len * i.size) with hj1 | hj1
                · rw [if_neg (by omega)]
                  rw [List.getElem?_append_left (by omega), List.getElem?_take_of_lt hj1, List.getElem?_drop] at hj
                  obtain ⟨W, q1, q2⟩ := e4 _ _ hj
                  exact ⟨W, by rw [Nat.add_assoc]; exact q1, VRel.mono hle' _ _ q2⟩
                · rw [List.getElem?_append_right (by omega), hKlen] at hj
                  have hj2 := (List.getElem?_eq_some_iff.1 hj).1
                  rw [if_pos (by omega)]
                  obtain ⟨W, q1, q2⟩ := hLr.get hj
                  refine ⟨W, ?_, VRel.mono hle' _ _ q2⟩
                  rw [← q1]; congr 1; omega
      · cases hq
  · cases hq

theorem eAppend_rel (h : SRel own ρ s w) {ts : Array TypeId} {ty : TypeId} {a x v : V} {s' : St} {ps : List Bool} (hq : eAppend P s ts a x = some (ps, v, s')) (hp : allB ps) {A X : Value} (ha : VRel ρ a A) (hx : VRel ρ x X) :
    OKv P own ρ (Builtin.append_ ts ty #[A, X]) w v s' := by
  unfold eAppend at hq
  simp only [llen_eq] at hq
  split at hq
  · cases hq
  rename_i t ht
  split at hq
  · rename_i el hd
    split at hq
    · rename_i i zv hi hzz
      split at hq
      · rename_i z hz
        cases hb : (zerosE P ts || !(Nat.beq z.length i.size && Nat.ble 1 i.size)) with
        | true => rw [hb] at hq; cases hq
        | false =>
        rw [hb, cond_false] at hq
        simp only [Bool.or_eq_false_iff, Bool.not_eq_false', Bool.and_eq_true, Nat.beq_eq, Nat.ble_eq] at hb
        obtain ⟨h0, hb0⟩ := hb
        split at hq
        · rename_i e he
          split at hq
          · rename_i r hr
            cases hq
            exact eAppendR_rel h ht hd hi hzz h0 he hz hb0.1 hr hp ha hx
          · exact eAppendC_rel h ht hd hi hzz h0 hz hb0 hq ha hx
        · exact eAppendC_rel h ht hd hi hzz h0 hz hb0 hq ha hx
      · cases hq
    · cases hq
  · cases hq

theorem eCopy_rel (h : SRel own ρ s w) {ts : Array TypeId} {ty : TypeId} {d x v : V} {s' : St} {ps : List Bool} (hq : eCopy P s ts d x = some (ps, v, s')) (hp : allB ps) {D X : Value} (hd : VRel ρ d D) (hx : VRel ρ x X) :
    OKv P own ρ (Builtin.copy_ ts ty #[D, X]) w v s' := by
  unfold eCopy at hq
  split at hq
  · cases hq
  rename_i t ht
  split at hq
  · rename_i el hu
    split at hq
    · cases hq
    rename_i e he
    obtain ⟨hsz, hs1⟩ := rowTy_spec he
    split at hq
    · cases hq
    rename_i cs M hM
    split at hq
    · cases hq
      obtain ⟨V, hV⟩ := srcRows_rel (P := P) h hM hp hx
      simp only [VRel] at hd; subst hd
      have hL := hV.load (Nat.min M.length 0) (Nat.min_le_left _ _)
      refine ⟨ρ, .int .i64 0, w, ρ.le_refl, ?_, by simp only [VRel], h, Fr.refl _ _⟩
      have h0 : Nat.min M.length 0 = 0 := by simp
      rw [h0] at hL
      have hln := hV.len
      simp [Builtin.copy_, ht, run_und hu, hln, run_size hsz, h0, hL, goInt]
    · rename_i b lo len cap x' es
      split at hq
      · rename_i e' L t' ish hg
        split at hq
        · rename_i L' hL'
          cases hes : Nat.beq es e.length with
          | false => rw [hes] at hq; cases hq
          | true =>
          rw [hes, cond_true] at hq
          have hes := Nat.eq_of_beq_eq_true hes
          subst hes
          cases hq
          rw [allB_append] at hp
          obtain ⟨hp1, hp2, _⟩ := hp
          obtain ⟨V, hV⟩ := srcRows_rel (P := P) h hM hp1 hx
          obtain ⟨q, rfl⟩ := asL_some hL'
          subst q
          have hle0 := of_decide_eq_true hp2
          have hle : lo + len ≤ L.length := hle0
          generalize hm : Nat.min M.length len = m
          have hm1 : m ≤ M.length := by rw [← hm]; exact Nat.min_le_left _ _
          have hm2 : m ≤ len := by rw [← hm]; exact Nat.min_le_right _ _
          have hmm : min M.length len = m := hm
          simp only [VRel] at hd
          obtain ⟨ad, c, rfl, c1, c2, _, hn, hblk⟩ := hd
          have hload := hV.load m hm1
          have hln := hV.len
          rcases Nat.eq_zero_or_pos c with hc0 | hc0
          · subst hc0
            have hl0 : len = 0 := by omega
            have hm0 : m = 0 := by omega
            subst hl0; subst hm0
            refine ⟨ρ, .int .i64 (0 : Nat), w, ρ.le_refl, ?_, by simp only [VRel]; rfl, ?_, Fr.refl _ _⟩
            · cases ad <;> simp [Builtin.copy_, ht, run_und hu, hln, run_size hsz, hmm, hload, goInt, storeCells]
            · have e1 : L.take lo ++ (M.take 0 ++ L.drop (lo + 0)) = L := by simp
              show SRel own ρ (s.upd b (.rows e' (L.take lo ++ (M.take 0 ++ L.drop (lo + 0))) t' ish)) w
              rw [e1]
              have key : ∀ k, (s.upd b (.rows e' L t' ish)).heap.get k = s.heap.get k := by
                intro k
                simp only [St.upd, T.get_set]
                split
                · rename_i ek; subst ek; exact hg.symm
                · rfl
              exact ⟨h.le, fun k o x hk hx => h.obj k o x (by rw [← key]; exact hk) hx, fun k k' o1 o2 x x' hk hk' hx hx' => h.inj k k' o1 o2 x x' (by rw [← key]; exact hk) (by rw [← key]; exact hk') hx hx', h.dom, h.top, h.fz, h.old⟩
          · obtain ⟨B, O, S, g1, rfl, g3⟩ := hblk hc0
            have hVm : (V.take (m * e'.length)).length = m * e'.length := by
              rw [List.length_take, hV.size]
              exact Nat.min_eq_left (Nat.mul_le_mul_right _ hm1)
            have hlm : (lo + m) * e'.length ≤ L.length * e'.length := Nat.mul_le_mul_right _ (by omega)
            have hmul : (lo + m) * e'.length = lo * e'.length + m * e'.length := Nat.add_mul _ _ _
            have hlen' : (L.take lo ++ (M.take m ++ L.drop (lo + m))).length = L.length := by simp; omega
            obtain ⟨w', q1, q2, q3⟩ := h.writeRows (P := P) hg g1 (o := lo * e'.length) (V := V.take (m * e'.length)) (by rw [hVm]; omega) (fun X hX => hV.ones X (List.mem_of_mem_take hX)) (M := L.take lo ++ (M.take m ++ L.drop (lo + m))) (by rw [hlen']; exact Nat.le_refl _) (fun C C' hC hC' => by
              have t1 : RowsAt ρ.φ e' (L.take lo) (fun k => C[O + k]?) := by
                have := rows_drop 0 lo (by omega) hC
                simpa using this
              have t2 : RowsAt ρ.φ e' (M.take m) (fun k => V[k]?) := by
                have := rows_drop 0 m hm1 hV.rows
                simpa using this
              have t3 : RowsAt ρ.φ e' (L.drop (lo + m)) (fun k => C[O + ((lo + m) * e'.length + k)]?) := by
                have := rows_drop (lo + m) L.length (Nat.le_refl _) hC
                rw [List.take_length] at this
                exact this
              have l1 : (L.take lo).length = lo := by simp; omega
              have l2 : (M.take m).length = m := by simp; omega
              refine rows_app t1 (rows_app (C := fun k => V[k]?) t2 ?_ fun j hj => ?_) fun j hj => ?_
              · rw [l1, l2]
                refine t3.mono (fun _ _ _ hv => hv) fun j v hj => ?_
                have := hC' (lo * e'.length + (m * e'.length + j))
                simp only at this
                show C'[O + (lo * e'.length + (m * e'.length + j))]? = _
                rw [this, hVm, if_neg (by omega), ← hj, hmul, Nat.add_assoc]
              · rw [l1]
                rw [l2] at hj
                have := hC' (lo * e'.length + j)
                simp only at this
                show C'[O + (lo * e'.length + j)]? = _
                rw [this, hVm, if_pos (by omega), Nat.add_sub_cancel_left, List.getElem?_take_of_lt hj]
              · rw [l1] at hj
                have := hC' j
                simp only at this
                show C'[O + j]? = _
                rw [this, if_neg (by omega)])
            refine ⟨ρ, .int .i64 (m : Nat), w', ρ.le_refl, ?_, by simp only [VRel]; rfl, q2, q3⟩
            simp only at q1
            simp [Builtin.copy_, ht, run_und hu, hln, run_size hsz, hmm, hload, goInt, q1]
        · cases hq
      · cases hq
    · cases hq
  · cases hq
end
end Go.Sym
end

section
namespace Go.Sym

inductive EDef where
  | mark (r : Nat)
  | call (f : FuncId) (args cap : List V)

structure Cfg where
  tmps : Frm
  defers : List EDef
  st : St

noncomputable section
def Frm.get (f : Frm) (k : Nat) : V := @Frm.rec (fun _ => V) (fun n t => @Bool.rec (fun _ => V) .undef (t.get k) (Nat.ble (Nat.succ k) n)) f
theorem Frm.get_eq (f : Frm) (k : Nat) : f.get k = bif Nat.blt k f.n then f.t.get k else .undef := by
  cases f with
  | mk n t =>
    show @Bool.rec (fun _ => V) .undef (t.get k) (Nat.blt k n) = _
    cases Nat.blt k n <;> rfl
def evF (f : Frm) (x : Operand) : Option V :=
  @Operand.rec (fun _ => Option V) (fun t => some (f.get t)) (fun v => ofVal v) (fun _ => none) (fun g => some (.fn g [] [])) x
def putE (f : Frm) (d : Option Tmp) (v : V) : Frm :=
  @Option.rec Tmp (fun _ => Frm) f (fun k => @Frm.rec (fun _ => Frm) (fun n t => @Bool.rec (fun _ => Frm) ⟨n, t⟩ ⟨n, B.set v t k⟩ (Nat.ble (Nat.succ k) n)) f) d
theorem putE_some (f : Frm) (k : Tmp) (v : V) : putE f (some k) v = bif Nat.blt k f.n then ⟨f.n, B.set v f.t k⟩ else f := by
  cases f with
  | mk n t =>
    show @Bool.rec (fun _ => Frm) ⟨n, t⟩ ⟨n, B.set v t k⟩ (Nat.blt k n) = _
    cases Nat.blt k n <;> rfl
theorem putE_none (f : Frm) (v : V) : putE f none v = f := rfl
def hOf : Nat → Nat
  | n => bif Nat.ble n 1 then 0 else bif Nat.ble n 2 then 1 else bif Nat.ble n 4 then 2 else bif Nat.ble n 8 then 3 else bif Nat.ble n 16 then 4 else bif Nat.ble n 32 then 5 else bif Nat.ble n 64 then 6 else bif Nat.ble n 128 then 7 else bif Nat.ble n 256 then 8 else bif Nat.ble n 512 then 9 else bif Nat.ble n 1024 then 10 else 12
def mkFrm (n : Nat) (args : List V) : Frm := ⟨n, B.ofList .undef (hOf n) args⟩
end

inductive EExit where
  | normal
  | exit (id : Nat)
  | ret
  | pan (v : V)

inductive ETgt where
  | fn (f : FuncId) (args : List V)
  | round (l : Nat) (args : List V)

inductive EEnd where
  | ret (v : V)
  | pan (v : V)

inductive EOut where
  | val (v : V)
  | skip
  | enter (t : ETgt)
  | pan (v : V)

abbrev ESelf := ETgt → St → Option (EEnd × St)


noncomputable section
open Classical in
/-- the same value -/
def V.same (v w : V) : Bool := decide (v = w)
def allb : List Bool → Bool
  | [] => true
  | b :: l => bif b then allb l else false
theorem allb_iff : ∀ l : List Bool, allb l = true ↔ allB l
  | [] => by simp [allb, allB]
  | b :: l => by cases b <;> simp [allb, allB, allb_iff l]
def chkQ : Qr → Option V
  | some (c, v) => bif allb c then some v else none
  | none => none
end
noncomputable section
variable (P : Program)

def bodyOK (f : FuncId) : Bool :=
  match P.funcs[f]? with
  | some fn => !(fn.name == "runtime.NumGoroutine") && fn.body.isSome
  | none => false

/-- a quiet operation, if what must hold holds -/
def qopO (s : St) (ev : Operand → Option V) (op : Op) : Option V := chkQ (qop P s ev op)
def outV : Er → Option (EOut × St)
  | some (c, v, s) => bif allb c then some (.val v, s) else none
  | none => none
def outS : Es → Option (EOut × St)
  | some (c, s) => bif allb c then some (.skip, s) else none
  | none => none

def eBuiltin (s : St) (b : Builtin) (ts : Array TypeId) (args : List V) : Er :=
  match b, args with
  | .append, [a, x] => eAppend P s ts a x
  | .copy, [a, x] => eCopy P s ts a x
  | _, _ => none

/-- an operation that makes or writes memory -/
def eopR (s : St) (ev : Operand → Option V) (op : Op) : Option (Er ⊕ Es) :=
  match op with
  | .alloc t => some (.inl (eAlloc P s t))
  | .box t x => match ev x with
    | some v => some (.inl (eBox P s t v))
    | none => none
  | .buildSlice t len parts => match evalParts ev parts.toList with
    | some ps => some (.inl (eBuildSlice P s t len ps))
    | none => none
  | .store t a x => match ev a, ev x with
    | some av, some v => some (.inr (eStore P s t av v))
    | _, _ => none
  | .convert src dst x => match ev x with
    | some v => some (.inl (eBytes P s src dst v))
    | none => none
  | .makeSlice t l c => match ev l, ev c with
    | some lv, some cv => some (.inl (eMakeSlice P s t lv cv))
    | _, _ => none
  | .call c => match c.callee with
    | .builtin b => match evalOs ev c.args.toList with
      | some vs => some (.inl (eBuiltin P s b c.argTypes vs))
      | none => none
    | _ => none
  | _ => none
/-- .. that calls, or panics -/
def eopC (s : St) (ev : Operand → Option V) (op : Op) : Option (EOut × St) :=
  match op with
  | .panic x => match ev x with
    | some (.iface t v) => some (.pan (.iface t v), s)
    | _ => none
  | .call c => match c.callee with
    | .value f => match ev f, evalOs ev c.args.toList with
      | some (.fn g first cap), some vs => bif bodyOK P g then some (.enter (.fn g (lapp (lapp first vs) cap)), s) else none
      | some (.yld l), some vs => match s.heap.get l with
        | some (.loop r) => bif Nat.beq (llen vs) (llen r.params) then some (.enter (.round l vs), s) else none
        | _ => none
      | _, _ => none
    | _ => none
  | _ => none
def outR : Er ⊕ Es → Option (EOut × St)
  | .inl x => outV x
  | .inr x => outS x
def eop (s : St) (ev : Operand → Option V) (op : Op) : Option (EOut × St) :=
  match eopR P s ev op with
  | some x => outR x
  | none => eopC P s ev op

def opE (s : St) (ev : Operand → Option V) (op : Op) : Option (EOut × St) :=
  match qop P s ev op with
  | some r => (match chkQ (some r) with
    | some v => some (.val v, s)
    | none => none)
  | none => eop P s ev op

/-- a guard: the slot that is asked, and what is wanted there -/
def guardOf (ops : Array Oper) (o : Oper) : Option (Option Tmp × Bool) :=
  match o.guard with
  | none => none
  | some (j, want) => match ops[j]? with
    | some o' => some (o'.dst, want)
    | none => some (none, want)

def wantedE (g : Option (Option Tmp × Bool)) (f : Frm) : Bool :=
  match g with
  | none => true
  | some (some d, want) => match f.get d with
    | .bool b => bif want then b else !b
    | _ => false
  | some (none, _) => false

def isAny : V → Bool
  | .any => true
  | _ => false
/-- the slot that a guard asks is known -/
def wantOK (g : Option (Option Tmp × Bool)) (f : Frm) : Bool :=
  match g with
  | some (some d, _) => !isAny (f.get d)
  | _ => true

/-- what an operation has given; what comes behind it -/
def nextE (self : ESelf) (d : Option Tmp) (rest : Cfg → Option (EExit × Cfg)) (f : Frm) (ds : List EDef) : Option (EOut × St) → Option (EExit × Cfg)
  | some (.val v, s) => rest ⟨putE f d v, ds, s⟩
  | some (.skip, s) => rest ⟨putE f d .undef, ds, s⟩
  | some (.pan v, s) => some (.pan v, ⟨f, ds, s⟩)
  | some (.enter t, s) => match self t s with
    | some (.ret v, s') => rest ⟨putE f d v, ds, s'⟩
    | some (.pan v, s') => some (.pan v, ⟨f, ds, s'⟩)
    | none => none
  | none => none
def stepE (self : ESelf) (ops : Array Oper) (rest : Cfg → Option (EExit × Cfg)) (o : Oper) (c : Cfg) : Option (EExit × Cfg) :=
  match c with
    | ⟨fr, ds, s⟩ => bif !wantOK (guardOf ops o) fr then none else bif wantedE (guardOf ops o) fr then nextE self o.dst rest fr ds (opE P s (evF fr) o.op) else rest ⟨putE fr o.dst .undef, ds, s⟩
/-- operations in a row -/
def runOps (self : ESelf) (ops : Array Oper) (l : List Oper) : Cfg → Option (EExit × Cfg) :=
  @List.rec Oper (fun _ => Cfg → Option (EExit × Cfg)) (fun c => some (.normal, c)) (fun x _ ih => stepE P self ops ih x) l

def iterE (body : Cfg → Option (EExit × Cfg)) (n : Nat) : Cfg → Option (EExit × Cfg) :=
  @Nat.rec (fun _ => Cfg → Option (EExit × Cfg)) (fun _ => none) (fun _ ih c => match body c with
    | some (.normal, c') => ih c'
    | r => r) n

def jumpE : Option Code → Option EExit
  | none => some .normal
  | some .ret => some .ret
  | some (.exit id) => some (.exit id)
  | _ => none

/-- a range over a function: the record is laid; the call; the jump that a round has left -/
def rangeE (self : ESelf) (round : Option Nat) (f : Operand) (ps : Array Tmp) (assign body : Code) (c : Cfg) : Option (EExit × Cfg) :=
  match (match round with
    | none => some ((c.st.new (.dfr false)), c.st.next, [EDef.mark c.st.next])
    | some l0 => match c.st.heap.get l0 with
      | some (.loop r) => some (c.st, r.defers, [])
      | _ => none : Option (St × Nat × List EDef)) with
  | none => none
  | some (s1, d, marks) =>
    match evF c.tmps f with
    | some (.fn g first cap) =>
      bif bodyOK P g then
        match self (.fn g (lapp (lapp first [.yld s1.next]) cap)) (s1.new (.loop ⟨.ready, none, c.tmps, ps.toList, assign, body, d⟩)) with
        | some (.ret _, s2) => match s2.heap.get s1.next with
          | some (.loop r) => match r.state with
            | .busy => none
            | _ => match jumpE r.pending with
              | some e => some (e, ⟨c.tmps, marks ++ c.defers, s2.upd s1.next (.loop { r with state := .exhausted })⟩)
              | none => none
          | _ => none
        | some (.pan v, s2) => some (.pan v, ⟨c.tmps, marks ++ c.defers, s2⟩)
        | none => none
      else none
    | _ => none

def seqE (a b : Cfg → Option (EExit × Cfg)) (c : Cfg) : Option (EExit × Cfg) :=
  match a c with
  | some (.normal, c') => b c'
  | r => r
def condE (x : Operand) (a b : Cfg → Option (EExit × Cfg)) (c : Cfg) : Option (EExit × Cfg) :=
  match evF c.tmps x with
  | some (.bool true) => a c
  | some (.bool false) => b c
  | _ => none
def blockE (id : Nat) (b : Cfg → Option (EExit × Cfg)) (c : Cfg) : Option (EExit × Cfg) :=
  match b c with
  | some (.exit id', c') => bif Nat.beq id' id then some (.normal, c') else some (.exit id', c')
  | r => r
/-! ### a region that draws its order: evaluated in the order of the text; what is quiet must give the same in every order -/
def tbQ (m i : Nat) : Bool := Nat.beq (Nat.mod (Nat.div m (Nat.pow 2 i)) 2) 1
def bindsQ (e : Edge) : Bool :=
  match e.ground with
  | .textOnly _ => false
  | .gcOnly _ => false
  | _ => true
def ogetN : Option Nat → Nat
  | some n => n
  | none => 0
/-- as bits: what stands ahead of an operation with these edges -/
def maskE (A : List Nat) : List Edge → Nat
  | [] => 0
  | e :: es => bif bindsQ e then Nat.lor (Nat.lor (Nat.pow 2 e.on) (ogetN (lget A e.on))) (maskE A es) else maskE A es
def ancsE : List Oper → List Nat → List Nat
  | [], A => A
  | o :: l, A => ancsE l (lapp A [maskE A o.after.toList])
def hasN (d : Nat) : List Nat → Bool
  | [] => false
  | x :: l => bif Nat.beq x d then true else hasN d l
/-- of two operations: what the one writes, the other neither writes nor reads, unless they stand one behind the other -/
def apartE (ops : Array Oper) (A : List Nat) (i : Nat) (d : Nat) : List Oper → Nat → Bool
  | [], _ => true
  | o :: l, j => (bif Nat.beq i j then true else
      (match o.dst with
        | some d' => !Nat.beq d' d
        | none => true) && (bif hasN d (o.looksAt ops) then tbQ (ogetN (lget A i)) j || tbQ (ogetN (lget A j)) i else true)) && apartE ops A i d l (Nat.succ j)
def backE (i : Nat) : List Edge → Bool
  | [] => true
  | e :: l => (bif bindsQ e then Nat.ble (Nat.succ e.on) i else true) && backE i l
def stE (ops : Array Oper) (A : List Nat) : List Oper → Nat → Bool
  | [], _ => true
  | o :: l, i => backE i o.after.toList && (match o.dst with
      | some d => apartE ops A i d ops.toList 0
      | none => true) && stE ops A l (Nat.succ i)
def stOK (ops : Array Oper) : Bool := stE ops (ancsE ops.toList []) ops.toList 0

def evL (L : List Tmp) (f : Frm) (x : Operand) : Option V :=
  match x with
  | .tmp t => bif hasN t L then some (f.get t) else none
  | .const v => ofVal v
  | .global _ => none
  | .func g => some (.fn g [] [])

/-- what an operation of a drawing region gave: at which place, from which frame and state; 'q': it changed nothing, and may be asked at other states; 'eff': the state behind it -/
structure DRec where
  i : Nat
  o : Oper
  f : Frm
  s : St
  v : V
  q : Bool
  eff : Option St
  mb : Option Nat

/-- an operation that makes one block, out of its operands alone -/
def mkR (ev : Operand → Option V) (op : Op) : Option (List Bool × Mk) :=
  match op with
  | .alloc t => mAlloc P t
  | .box t x => match ev x with
    | some v => mBox P t v
    | none => none
  | .buildSlice t len parts => match evalParts ev parts.toList with
    | some ps => mBuildSlice P t len ps
    | none => none
  | .makeSlice t l c => match ev l, ev c with
    | some lv, some cv => mMakeSlice P t lv cv
    | _, _ => none
  | _ => none
def mkQ (ev : Operand → Option V) (op : Op) : Option Mk :=
  match mkR P ev op with
  | some (c, m) => bif allb c then some m else none
  | none => none
open Classical in
def Mk.isAt (m : Mk) (o : Option EObj) : Bool := decide (o = some m.obj)
/-- a quiet operation; or one whose block was named ahead -/
def qopM (mb : Option Nat) (s : St) (ev : Operand → Option V) (op : Op) : Option V :=
  match mb with
  | none => qopO P s ev op
  | some b => match mkQ P ev op with
    | some m => bif m.isAt (s.heap.get b) then some (m.val b) else none
    | none => none
def findM (i : Nat) : List (Nat × Nat) → Option Nat
  | [] => none
  | e :: l => bif Nat.beq e.1 i then some e.2 else findM i l
def doneAll (D : Nat) : List Edge → Bool
  | [] => true
  | e :: l => (bif bindsQ e then tbQ D e.on else true) && doneAll D l
/-- the blocks that can be made ahead of all else are named, as they are made -/
def preRun (ops : Array Oper) : List Oper → Nat → Frm → St → Nat → List (Nat × Nat) → St × List (Nat × Nat)
  | [], _, _, s, _, M => (s, M)
  | o :: l, i, f, s, D, M =>
    bif doneAll D o.after.toList && o.guard.isNone then
      match qop P s (evL (o.looksAt ops) f) o.op with
        | some (_, v) => preRun ops l (Nat.succ i) (putE f o.dst v) s (Nat.lor D (Nat.pow 2 i)) M
        | none => match mkR P (evL (o.looksAt ops) f) o.op with
          | some (_, m) => preRun ops l (Nat.succ i) (putE f o.dst (m.val s.next)) (s.new m.obj) (Nat.lor D (Nat.pow 2 i)) ((i, s.next) :: M)
          | none => preRun ops l (Nat.succ i) f s D M
    else preRun ops l (Nat.succ i) f s D M
def loudOp (op : Op) : Bool :=
  match op with
  | .alloc _ | .box .. | .buildSlice .. | .insert .. | .store .. | .makeMap .. | .makeSlice .. | .mapUpdate .. | .mapEntry .. | .entryStore .. | .panic .. => true
  | .call c => match c.callee with
    | .builtin b => match b with
      | .append | .copy | .delete | .clear => true
      | _ => false
    | _ => true
  | _ => false
def effIdx : List Oper → Nat → List (Nat × St)
  | [], _ => []
  | o :: l, i => bif loudOp o.op then (i, ⟨.leaf, 0⟩) :: effIdx l (Nat.succ i) else effIdx l (Nat.succ i)

def opOut (self : ESelf) : Option (EOut × St) → Option (V × St)
  | some (.val v, s) => some (v, s)
  | some (.skip, s) => some (.undef, s)
  | some (.enter t, s) => match self t s with
    | some (.ret v, s') => some (v, s')
    | _ => none
  | _ => none
def drawStep (self : ESelf) (ops : Array Oper) (mb : Option Nat) (i : Nat) (o : Oper) (f : Frm) (s : St) : Option DRec :=
  bif !wantOK (guardOf ops o) f then none else
  bif wantedE (guardOf ops o) f then
    match qopM P mb s (evL (o.looksAt ops) f) o.op with
    | some v => some ⟨i, o, f, s, v, true, none, mb⟩
    | none => match mb with
      | some _ => none
      | none => match opOut self (eop P s (evL (o.looksAt ops) f) o.op) with
        | some (v, s') => some ⟨i, o, f, s, v, false, some s', none⟩
        | none => none
  else some ⟨i, o, f, s, .undef, false, none, mb⟩
def orS (s : St) : Option St → St
  | some s' => s'
  | none => s
def drawRun (self : ESelf) (ops : Array Oper) (M : List (Nat × Nat)) : List Oper → Nat → Frm → St → Option (List DRec)
  | [], _, _, _ => some []
  | o :: l, i, f, s => match drawStep P self ops (findM i M) i o f s with
    | some r => match drawRun self ops M l (Nat.succ i) (putE f o.dst r.v) (orS s r.eff) with
      | some R => some (r :: R)
      | none => none
    | none => none
def effs : List DRec → List (Nat × St)
  | [] => []
  | r :: l => match r.eff with
    | some s => (r.i, s) :: effs l
    | none => effs l
def lastS (s : St) : List (Nat × St) → St
  | [] => s
  | e :: l => lastS e.2 l
def anyB (m : Nat) : List (Nat × St) → Bool
  | [] => false
  | e :: l => bif tbQ m e.1 then true else anyB m l
/-- asked at every state in which it can come up, the operation gives the same -/
def chkE (ops : Array Oper) (A : List Nat) (r : DRec) (s : St) : List (Nat × St) → Bool
  | [] => (match qopM P r.mb s (evL (r.o.looksAt ops) r.f) r.o.op with
      | some v => v.same r.v
      | none => false)
  | e :: l => (bif anyB (ogetN (lget A r.i)) (e :: l) then true else match qopM P r.mb s (evL (r.o.looksAt ops) r.f) r.o.op with
      | some v => v.same r.v
      | none => false) && (bif tbQ (ogetN (lget A e.1)) r.i then true else chkE ops A r e.2 l)
def chainE (A : List Nat) : List (Nat × St) → Bool
  | [] => true
  | e :: l => beforeE A e.1 l && chainE A l
where beforeE (A : List Nat) (i : Nat) : List (Nat × St) → Bool
  | [] => true
  | e :: l => tbQ (ogetN (lget A e.1)) i && beforeE A i l
def chkAll (ops : Array Oper) (A : List Nat) (s : St) (E : List (Nat × St)) : List DRec → Bool
  | [] => true
  | r :: l => (bif r.q then chkE P ops A r s E else true) && chkAll ops A s E l
def finF (f : Frm) : List DRec → Frm
  | [] => f
  | r :: l => finF (putE f r.o.dst r.v) l
/-- what a panicking operation gives -/
def opPan (self : ESelf) : Option (EOut × St) → Option (V × St)
  | some (.pan v, s) => some (v, s)
  | some (.enter t, s) => match self t s with
    | some (.pan v, s') => some (v, s')
    | _ => none
  | _ => none
/-- behind the operation (ip) that panics: what does not stand behind it must be quiet -/
def panTail (ops : Array Oper) (M : List (Nat × Nat)) (A : List Nat) (ip : Nat) : List Oper → Nat → Frm → St → Option (List DRec)
  | [], _, _, _ => some []
  | o :: l, i, f, s => bif tbQ (ogetN (lget A i)) ip then (match panTail ops M A ip l (Nat.succ i) (putE f o.dst .undef) s with
      | some R => some (⟨i, o, f, s, .undef, false, none, none⟩ :: R)
      | none => none) else match drawStep P (fun _ _ => none) ops (findM i M) i o f s with
      | some r => match r.eff with
        | none => match panTail ops M A ip l (Nat.succ i) (putE f o.dst r.v) s with
          | some R => some (r :: R)
          | none => none
        | some _ => none
      | none => none
def panRun (self : ESelf) (ops : Array Oper) (M : List (Nat × Nat)) (A : List Nat) : List Oper → Nat → Frm → St → Option (List DRec × Nat × V × St)
  | [], _, _, _ => none
  | o :: l, i, f, s => match drawStep P self ops (findM i M) i o f s with
    | some r => match panRun self ops M A l (Nat.succ i) (putE f o.dst r.v) (orS s r.eff) with
      | some (R, x) => some (r :: R, x)
      | none => none
    | none => bif wantOK (guardOf ops o) f && wantedE (guardOf ops o) f then (match findM i M with
      | some _ => none
      | none => match opPan self (eop P s (evL (o.looksAt ops) f) o.op) with
        | some (v, s') => match panTail P ops M A i l (Nat.succ i) (putE f o.dst .undef) s with
          | some R => some (⟨i, o, f, s, .undef, false, none, none⟩ :: R, i, v, s')
          | none => none
        | none => none) else none
def allAfter (m : Nat) : List (Nat × St) → Bool
  | [] => true
  | e :: l => tbQ m e.1 && allAfter m l
def anyF (f : Frm) : List Oper → Frm
  | [] => f
  | o :: l => anyF (putE f o.dst .any) l
def drawP (self : ESelf) (ops : Array Oper) (M : List (Nat × Nat)) (c : Cfg) (s0 : St) : Option (EExit × Cfg) :=
  match panRun P self ops M (ancsE ops.toList []) ops.toList 0 c.tmps s0 with
  | some (R, ip, v, s') => bif chainE (ancsE ops.toList []) (effs R) && (allAfter (ogetN (lget (ancsE ops.toList []) ip)) (effs R) && chkAll P ops (ancsE ops.toList []) s0 (effs R) R) then
      some (.pan v, ⟨anyF c.tmps ops.toList, c.defers, s'⟩) else none
  | none => none
def preM (ops : Array Oper) (f : Frm) (s : St) : St × List (Nat × Nat) :=
  bif chainE (ancsE ops.toList []) (effIdx ops.toList 0) then (s, []) else preRun P ops ops.toList 0 f s 0 []
def drawE (self : ESelf) (ops : Array Oper) (c : Cfg) : Option (EExit × Cfg) :=
  bif P.follows .mixedOrders && stOK ops then
    match preM P ops c.tmps c.st with
    | (s0, M) =>
      match drawRun P self ops M ops.toList 0 c.tmps s0 with
      | some R => bif chainE (ancsE ops.toList []) (effs R) && chkAll P ops (ancsE ops.toList []) s0 (effs R) R then
          some (.normal, ⟨finF c.tmps R, c.defers, lastS s0 (effs R)⟩) else none
      | none => drawP P self ops M c s0
  else none

def hasDefer : List Oper → Bool
  | [] => false
  | o :: l => match o.op with
    | .defer _ => true
    | _ => hasDefer l
/-- operations in a row, of which one defers a call -/
def dferE : List Oper → Cfg → Option (EExit × Cfg)
  | [], c => some (.normal, c)
  | o :: l, c => match o.guard with
    | some _ => none
    | none => match o.op with
      | .defer cl => match cl.callee with
        | .value f => match evF c.tmps f, evalOs (evF c.tmps) cl.args.toList with
          | some (.fn g first cap), some vs => bif bodyOK P g then dferE l ⟨putE c.tmps o.dst .undef, .call g (lapp first vs) cap :: c.defers, c.st⟩ else none
          | _, _ => none
        | _ => none
      | op => match qopO P c.st (evF c.tmps) op with
        | some v => dferE l ⟨putE c.tmps o.dst v, c.defers, c.st⟩
        | none => none
def regionE (self : ESelf) (round : Option Nat) (ops : Array Oper) (draw : Bool) (c : Cfg) : Option (EExit × Cfg) :=
  match draw with
  | false => bif hasDefer ops.toList then (match round with
      | none => dferE P ops.toList c
      | some _ => none) else runOps P self ops ops.toList c
  | true => drawE P self ops c
inductive CodeF where
  | mk (f : Cfg → Option (EExit × Cfg))
def runF (f : CodeF) (c : Cfg) : Option (EExit × Cfg) := match f with | .mk f => f c
abbrev LpF := Nat → Option (Cfg → Option (EExit × Cfg))
def noLp : LpF := fun _ => none
def orO (a b : Option Nat) : Option Nat := match a with
  | some n => some n
  | none => b
/-- the first region of a code has a number of its own -/
def firstR (x : Code) : Option Nat :=
  @Code.rec (fun _ => Option Nat) none (fun id _ _ => some id) (fun _ _ ia ib => orO ia ib) (fun _ _ _ ia ib => orO ia ib) (fun _ _ ib => ib) (fun _ ib => ib) (fun _ _ _ _ ia ib => orO ia ib) (fun _ => none) (fun _ ib => ib) (fun _ => none) (fun _ => none) none (fun _ => none) x
/-- a loop that is told elsewhere -/
def loopF (lp : LpF) (b : Code) (f : Cfg → Option (EExit × Cfg)) : Cfg → Option (EExit × Cfg) :=
  match firstR b with
  | some id => (match lp id with
    | some F => F
    | none => f)
  | none => f
def compC (self : ESelf) (fuel : Nat) (round : Option Nat) (lp : LpF) (x : Code) : CodeF :=
  @Code.rec (fun _ => CodeF)
    (.mk fun c => some (.normal, c))
    (fun _ ops draw => .mk (regionE P self round ops draw))
    (fun _ _ ia ib => .mk (seqE (runF ia) (runF ib)))
    (fun x _ _ ia ib => .mk (condE x (runF ia) (runF ib)))
    (fun id _ ib => .mk (blockE id (runF ib)))
    (fun b ib => .mk (loopF lp b (iterE (runF ib) fuel)))
    (fun f ps assign body _ _ => .mk (rangeE P self round f ps assign body))
    (fun id => .mk fun c => some (.exit id, c))
    (fun _ ib => .mk (runF ib))
    (fun _ => .mk fun c => some (.normal, c))
    (fun _ => .mk fun _ => none)
    (.mk fun c => some (.ret, c))
    (fun _ => .mk fun _ => none) x
def runCode (self : ESelf) (fuel : Nat) (round : Option Nat) (x : Code) (c : Cfg) : Option (EExit × Cfg) := runF (compC P self fuel round noLp x) c

def setParams : Frm → List Tmp → List V → Frm
  | t, p :: ps, v :: vs => setParams (putE t (some p) v) ps vs
  | t, _, _ => t

/-- one round of a range over a function -/
def runRound (self : ESelf) (fuel : Nat) (l : Nat) (args : List V) (s : St) : Option (EEnd × St) :=
  match s.heap.get l with
  | some (.loop r) =>
    match runCode P self fuel (some l) r.assign ⟨setParams r.tmps r.params args, [], s⟩ with
    | some (.normal, c1) => match c1.st.heap.get l with
      | some (.loop r1) => match r1.state with
        | .ready =>
          match runCode P self fuel (some l) r.body ⟨c1.tmps, c1.defers, c1.st.upd l (.loop { r1 with state := .busy })⟩ with
          | some (e, c2) => match c2.st.heap.get l with
            | some (.loop r2) => match e with
              | .normal => some (.ret (.bool true), c2.st.upd l (.loop { r2 with state := .ready, pending := none }))
              | .ret => some (.ret (.bool false), c2.st.upd l (.loop { r2 with state := .done, pending := some .ret }))
              | .exit id => some (.ret (.bool false), c2.st.upd l (.loop { r2 with state := .done, pending := some (.exit id) }))
              | .pan _ => none
            | _ => none
          | none => none
        | _ => none
      | _ => none
    | _ => none
  | _ => none

def resultsE (s : St) (f : Frm) : List ResultVar → Option (List V)
  | [] => some []
  | .tmp t :: l => match resultsE s f l with
    | some r => match f.get t with
      | .any => none
      | v => some (v :: r)
    | none => none
  | .cell a t :: l => match chkQ (qLoad P s t (f.get a)) with
    | some v => match resultsE s f l with
      | some r => some (v :: r)
      | none => none
    | none => none
def resultE (s : St) (f : Frm) (rs : List ResultVar) : Option V :=
  match resultsE P s f rs with
  | some [v] => some v
  | some l => some (match l with | [] => .undef | _ => .tup l)
  | none => none

/-! ### a deferred call: how the frame below is left (a value: it panics with it; true: that was recovered) -/
abbrev DM := Option (V × Bool)
inductive DCodeF where
  | mk (f : Cfg → DM → Option (EExit × Cfg × DM))
def runD (f : DCodeF) (c : Cfg) (m : DM) : Option (EExit × Cfg × DM) := match f with | .mk f => f c m
def withD (m : DM) : Option (EExit × Cfg) → Option (EExit × Cfg × DM)
  | some (.pan _, _) => none
  | some (e, c) => some (e, c, m)
  | none => none
def isRec : Op → Bool
  | .call cl => match cl.callee with
    | .builtin .recover => cl.args.isEmpty
    | _ => false
  | _ => false
def hasRec : List Oper → Bool
  | [] => false
  | o :: l => bif isRec o.op then true else hasRec l
/-- operations in a row, of which one recovers -/
def recE : List Oper → Cfg → DM → Option (EExit × Cfg × DM)
  | [], c, m => some (.normal, c, m)
  | o :: l, c, m => match o.guard with
    | some _ => none
    | none => bif isRec o.op then (match m with
        | some (v, false) => recE l ⟨putE c.tmps o.dst v, c.defers, c.st⟩ (some (v, true))
        | m => recE l ⟨putE c.tmps o.dst .nili, c.defers, c.st⟩ m) else
      match qopO P c.st (evF c.tmps) o.op with
        | some v => recE l ⟨putE c.tmps o.dst v, c.defers, c.st⟩ m
        | none => none
def seqD (a b : Cfg → DM → Option (EExit × Cfg × DM)) (c : Cfg) (m : DM) : Option (EExit × Cfg × DM) :=
  match a c m with
  | some (.normal, c', m') => b c' m'
  | r => r
def condD (x : Operand) (a b : Cfg → DM → Option (EExit × Cfg × DM)) (c : Cfg) (m : DM) : Option (EExit × Cfg × DM) :=
  match evF c.tmps x with
  | some (.bool true) => a c m
  | some (.bool false) => b c m
  | _ => none
def compD (self : ESelf) (fuel : Nat) (x : Code) : DCodeF :=
  @Code.rec (fun _ => DCodeF)
    (.mk fun c m => withD m (runCode P self fuel none .skip c))
    (fun id ops draw => .mk fun c m => match draw with
      | false => bif hasRec ops.toList then recE P ops.toList c m else withD m (runCode P self fuel none (.region id ops false) c)
      | true => withD m (runCode P self fuel none (.region id ops true) c))
    (fun _ _ ia ib => .mk (seqD (runD ia) (runD ib)))
    (fun x _ _ ia ib => .mk (condD x (runD ia) (runD ib)))
    (fun id b _ => .mk fun c m => withD m (runCode P self fuel none (.block id b) c))
    (fun b _ => .mk fun c m => withD m (runCode P self fuel none (.loop b) c))
    (fun f ps assign body _ _ => .mk fun c m => withD m (runCode P self fuel none (.rangeFunc f ps assign body) c))
    (fun id => .mk fun c m => withD m (runCode P self fuel none (.exit id) c))
    (fun b _ => .mk fun c m => withD m (runCode P self fuel none (.scope b) c))
    (fun l => .mk fun c m => withD m (runCode P self fuel none (.label l) c))
    (fun l => .mk fun c m => withD m (runCode P self fuel none (.goto l) c))
    (.mk fun c m => withD m (runCode P self fuel none .ret c))
    (fun why => .mk fun c m => withD m (runCode P self fuel none (.refuse why) c)) x
/-- the deferred call -/
def runDef (self : ESelf) (fuel : Nat) (g : FuncId) (args : List V) (m : DM) (s : St) : Option (DM × St) :=
  match P.funcs[g]? with
  | some fn => match fn.body with
    | some c => bif !(Nat.ble (llen args) fn.ntmps && Nat.ble fn.ntmps 4096) then none else match runD (compD P self fuel c) ⟨mkFrm fn.ntmps args, [], s⟩ m with
      | some (e, c', m') => match e with
        | .normal | .ret => match c'.defers with
          | [] => match resultE P c'.st c'.tmps fn.results.toList with
            | some _ => some (m', c'.st)
            | none => none
          | _ :: _ => none
        | _ => none
      | none => none
    | none => none
  | none => none
def settleE : DM → DM
  | some (_, true) => none
  | m => m

/-- a function leaves: the marks of its ranges over functions are taken, deferred calls are made -/
def leaveE (self : ESelf) (fuel : Nat) (fn : Func) (tmps : Frm) (pan : DM) : List EDef → St → Option (EEnd × St)
  | [], s => match pan with
    | some (v, false) => some (.pan v, s)
    | some (_, true) => none
    | none => match resultE P s tmps fn.results.toList with
      | some v => some (.ret v, s)
      | none => none
  | .mark r :: ds, s => match s.heap.get r with
    | some (.dfr false) => leaveE self fuel fn tmps pan ds (s.upd r (.dfr true))
    | _ => none
  | .call g args cap :: ds, s => bif bodyOK P g then (match runDef P self fuel g (lapp args cap) pan s with
    | some (m, s') => leaveE self fuel fn tmps (settleE m) ds s'
    | none => none) else none

def runFnL (self : ESelf) (fuel : Nat) (lp : LpF) (f : FuncId) (args : List V) (s : St) : Option (EEnd × St) :=
  match P.funcs[f]? with
  | some fn => match fn.body with
    | some c => bif !(Nat.ble (llen args) fn.ntmps && Nat.ble fn.ntmps 4096) then none else match runF (compC P self fuel none lp c) ⟨mkFrm fn.ntmps args, [], s⟩ with
      | some (.normal, c') => leaveE P self fuel fn c'.tmps none c'.defers c'.st
      | some (.ret, c') => leaveE P self fuel fn c'.tmps none c'.defers c'.st
      | some (.pan v, c') => leaveE P self fuel fn c'.tmps (some (v, false)) c'.defers c'.st
      | _ => none
    | none => none
  | none => none

def runFn (self : ESelf) (fuel : Nat) (f : FuncId) (args : List V) (s : St) : Option (EEnd × St) := runFnL P self fuel noLp f args s

def runT (self : ESelf) (fuel : Nat) : ESelf
  | .fn f args, s => runFn P self fuel f args s
  | .round l args, s => runRound P self fuel l args s

/-- calls, so deep; 'known': contracts that stand for functions -/
def callE (known : ESelf) (fuel : Nat) (d : Nat) : ESelf :=
  @Nat.rec (fun _ => ESelf) (fun _ _ => none) (fun _ ih t s => match known t s with
    | some r => some r
    | none => runT P ih fuel t s) d
end
end Go.Sym
end

section
namespace Go.Sym
set_option linter.unusedSimpArgs false
set_option linter.unusedVariables false

def DRel (ρ : Env) : List EDef → List Deferred → Prop
  | [], D => D = []
  | .mark r :: l, D => ∃ x Y, ρ r = some x ∧ D = { target := .collected x.B, args := #[] } :: Y ∧ DRel ρ l Y
  | .call f a c :: l, D => ∃ (A C : Array Value) (Y : List Deferred), D = { target := .fn (.func f) C, args := A } :: Y ∧ LRel ρ a A.toList ∧ LRel ρ c C.toList ∧ DRel ρ l Y
theorem DRel.up {ρ ρ' : Env} (h : ρ.sub ρ') : ∀ {l : List EDef} {D : List Deferred}, DRel ρ l D → DRel ρ' l D
  | [], _, r => r
  | .mark _ :: _, _, r => by obtain ⟨x, Y, h1, h2, h3⟩ := r; exact ⟨x, Y, h.1 _ _ h1, h2, h3.up h⟩
  | .call .. :: _, _, r => by obtain ⟨A, C, Y, h1, h2, h3, h4⟩ := r; exact ⟨A, C, Y, h1, LRel.up h _ _ h2, LRel.up h _ _ h3, h4.up h⟩
theorem DRel.mono {ρ ρ' : Env} (h : ρ.le ρ') {l : List EDef} {D : List Deferred} (r : DRel ρ l D) : DRel ρ' l D := DRel.up h.sub r

def XRel (ρ : Env) : EExit → Exit → Prop
  | .normal, E => E = .normal
  | .exit id, E => E = .exit id
  | .ret, E => E = .ret
  | .pan v, E => ∃ X, E = .panic [{ v := X, recovered := false }] ∧ VRel ρ v X
def NRel (ρ : Env) : EEnd → Ending → Prop
  | .ret v, E => ∃ X, E = .returned X ∧ VRel ρ v X
  | .pan v, E => ∃ X, E = .panicked [{ v := X, recovered := false }] ∧ VRel ρ v X

def RF (round : Option Nat) : Fence := { Fence.wide with round := round }
theorem RF_fn (r : Option Nat) (f : FuncId) : (RF r).fn f := trivial
theorem RF_depth (r : Option Nat) : (RF r).depth = none := rfl

def Post (own : Own) (ρ : Env) (w : World) (e : EEnd) (s' : St) : Ending → World → Prop :=
  fun E w' => ∃ ρ', ρ.le ρ' ∧ NRel ρ' e E ∧ SRel own ρ' s' w' ∧ Fr own w w'
abbrev FRelA := FRel
theorem FRel.toA {ρ : Env} {f : Frm} {A : Array Value} (r : FRel ρ f A) : FRelA ρ f A := r
abbrev FX (ρ : Env) (_ : EExit) (f : Frm) (A : Array Value) : Prop := FRel ρ f A
theorem FRel.toX {ρ : Env} {f : Frm} {A : Array Value} (r : FRel ρ f A) : ∀ e, FX ρ e f A := fun _ => r
def CPost (own : Own) (ρ : Env) (w : World) (e : EExit) (c' : Cfg) : Exit → Act → World → Prop :=
  fun E A' w' => ∃ ρ', ρ.le ρ' ∧ XRel ρ' e E ∧ FX ρ' e c'.tmps A'.tmps ∧ DRel ρ' c'.defers A'.defers ∧ SRel own ρ' c'.st w' ∧ Fr own w w'

/-- what the calls that an operation makes come to -/
def SelfOK (P : Program) (self : ESelf) : Prop := ∀ t s e s', self t s = some (e, s') → ∀ own ρ w, SRel own ρ s w → ∀ n : Nat,
  match t with
  | .fn f args => ∀ A : Array Value, LRel ρ args A.toList → CallsIn Fence.wide n P f A w (Post own ρ w e s')
  | .round l args => ∀ (x : Blk) (L : Loop) (A : Array Value), ρ l = some x → w.heap[x.B]? = some (.loop L) → LRel ρ args A.toList → A.size = L.params.size →
      RoundIn Fence.wide n P x.B L.fn ((L.params.zip A).foldl (fun tmps (t, a) => tmps.setIfInBounds t a) L.tmps) L.assign L.body w (Post own ρ w e s')

def NextRel (own : Own) (ρ : Env) (s : St) (w : World) (s' : St) (r : Result Next) : EOut → Prop
  | .val v => ∃ ρ' X w', ρ.le ρ' ∧ r = .ok (.value X) w' ∧ VRel ρ' v X ∧ SRel own ρ' s' w' ∧ Fr own w w'
  | .skip => ∃ w', r = .ok .skip w' ∧ SRel own ρ s' w' ∧ Fr own w w'
  | .pan v => s' = s ∧ ∃ X, r = .halt (.panic X) w ∧ VRel ρ v X
  | .enter (.fn f args) => s' = s ∧ ∃ A, r = .ok (.enter f A) w ∧ LRel ρ args A.toList
  | .enter (.round l args) => s' = s ∧ ∃ (x : Blk) (L : Loop) (A : Array Value), ρ l = some x ∧ w.heap[x.B]? = some (.loop L) ∧ LRel ρ args A.toList ∧ A.size = L.params.size ∧
      r = .ok (.round x.B L.fn ((L.params.zip A).foldl (fun tmps (t, a) => tmps.setIfInBounds t a) L.tmps) L.assign L.body) w

section
variable {P : Program} {own : Own} {ρ : Env} {s : St} {w : World}

theorem FRel.get {f : Frm} {A : Array Value} (h : FRel ρ f A) (k : Nat) : VRel ρ (f.get k) (A.getD k undef) := by
  obtain ⟨h1, d, h2, h3, h4⟩ := h
  rw [Frm.get_eq, blt_iff, Array.getD_eq_getD_getElem?]
  by_cases hk : k < f.n
  · rw [decide_eq_true hk]
    have hk' : k < A.size := by omega
    have := h4 k A[k] (Array.getElem?_eq_getElem hk')
    rw [Array.getElem?_eq_getElem hk']
    exact this
  · rw [decide_eq_false hk]
    have hk' : A.size ≤ k := by omega
    rw [Array.getElem?_eq_none hk']
    show VRel ρ .undef (.tuple #[])
    simp only [VRel]

theorem evF_rel {f : Frm} {A : Act} (h : FRel ρ f A.tmps) : EvRel ρ (evF f) A := by
  intro x v hv
  cases x with
  | tmp t =>
    have hv : some (f.get t) = some v := hv
    cases hv
    exact h.get t
  | const c => exact ofVal_rel hv
  | global g => cases hv
  | func g =>
    have hv : some (V.fn g [] []) = some v := hv
    cases hv
    simp only [VRel, Act.eval]
    exact ⟨#[], #[], rfl, rfl, rfl⟩

theorem FRel.set {f : Frm} {A : Array Value} (h : FRel ρ f A) {v : V} {X : Value} (hv : VRel ρ v X) (k : Nat) : FRel ρ (putE f (some k) v) (A.setIfInBounds k X) := by
  obtain ⟨h1, d, h2, h3, h4⟩ := h
  rw [putE_some, blt_iff]
  by_cases hk : k < f.n
  · rw [decide_eq_true hk]
    refine ⟨by simpa using h1, d, B.set_full _ _ _ _ h2, h3, fun i Y hi => ?_⟩
    show VRel ρ ((B.set v f.t k).get i) Y
    have hi' : i < A.size := by
      have := (Array.getElem?_eq_some_iff.1 hi).1
      simpa using this
    rw [B.get_set v f.t d k i h2 (by omega) (by omega)]
    rw [Array.getElem?_setIfInBounds] at hi
    by_cases e : k = i
    · subst e
      simp only [if_true, hi'] at hi
      cases hi
      simpa using hv
    · rw [if_neg e] at hi
      rw [if_neg (fun e' => e e'.symm)]
      exact h4 i Y hi
  · rw [decide_eq_false hk]
    have : A.setIfInBounds k X = A := by
      apply Array.ext_getElem?
      intro i
      rw [Array.getElem?_setIfInBounds]
      split
      · rename_i e; subst e
        rw [if_neg (by omega), Array.getElem?_eq_none (by omega)]
      · rfl
    rw [this]
    exact ⟨h1, d, h2, h3, h4⟩
theorem putE_rel {f : Frm} {A : Act} (h : FRel ρ f A.tmps) {v : V} {X : Value} (hv : VRel ρ v X) (d : Option Tmp) : FRel ρ (putE f d v) (A.put d X).tmps := by
  cases d with
  | none => exact h
  | some k => exact h.set hv k
theorem put_defers (A : Act) (d : Option Tmp) (X : Value) : (A.put d X).defers = A.defers := by cases d <;> rfl

theorem isAny_ne {v : V} (h : isAny v = false) : v ≠ .any := fun e => by subst e; cases h
theorem wanted_rel {f : Frm} {A : Act} (h : FRel ρ f A.tmps) (ops : Array Oper) (o : Oper) (hok : wantOK (guardOf ops o) f = true) : wantedE (guardOf ops o) f = Region.wanted o (yielded ops A.tmps) := by
  unfold guardOf at hok ⊢
  unfold Region.wanted
  cases hg : o.guard with
  | none => rfl
  | some p =>
    obtain ⟨j, want⟩ := p
    simp only [hg] at hok ⊢
    cases ho : ops[j]? with
    | none => simp [wantedE, yielded, ho]
    | some o' =>
      simp only [ho] at hok ⊢
      cases hd : o'.dst with
      | none => simp [wantedE, yielded, ho, hd]
      | some d =>
        rw [hd] at hok
        have hna : f.get d ≠ .any := isAny_ne (by simpa [wantOK] using hok)
        obtain ⟨h1, dd, h2, h3, h4⟩ := h
        simp only [wantedE, yielded, ho, hd, Option.bind_some, Frm.get_eq, blt_iff]
        rw [Frm.get_eq, blt_iff] at hna
        by_cases hk : d < f.n
        · rw [decide_eq_true hk] at hna ⊢
          have hk' : d < A.tmps.size := h1 ▸ hk
          have hv := h4 d A.tmps[d] (Array.getElem?_eq_getElem hk')
          rw [Array.getElem?_eq_getElem hk']
          simp only [cond_true] at hna ⊢
          generalize A.tmps[d] = X at hv
          generalize f.t.get d = v at hv hna
          cases v <;> simp only [VRel] at hv
          case bool b => subst hv; cases want <;> cases b <;> rfl
          case any => exact absurd rfl hna
          all_goals first
            | (subst hv; rfl)
            | (obtain ⟨_, _, _, _, rfl⟩ := hv; rfl)
            | (obtain ⟨_, _, _, _, _, rfl, _⟩ := hv; rfl)
            | (obtain ⟨_, _, rfl⟩ := hv; rfl)
            | (obtain ⟨_, _, rfl, _⟩ := hv; rfl)
            | (obtain ⟨_, rfl, _⟩ := hv; rfl)
        · rw [decide_eq_false hk]
          have hk' : A.tmps.size ≤ d := Nat.le_of_not_lt (h1 ▸ hk)
          rw [Array.getElem?_eq_none hk']
          rfl

theorem outV_some {x : Er} {o : EOut} {s' : St} (h : outV x = some (o, s')) : ∃ c v, x = some (c, v, s') ∧ allB c ∧ o = .val v := by
  cases x with
  | none => cases h
  | some p =>
    obtain ⟨c, v, t⟩ := p
    simp only [outV] at h
    cases hc : allb c with
    | false => rw [hc] at h; cases h
    | true => rw [hc] at h; cases h; exact ⟨c, v, rfl, (allb_iff c).1 hc, rfl⟩
theorem outS_some {x : Es} {o : EOut} {s' : St} (h : outS x = some (o, s')) : ∃ c, x = some (c, s') ∧ allB c ∧ o = .skip := by
  cases x with
  | none => cases h
  | some p =>
    obtain ⟨c, t⟩ := p
    simp only [outS] at h
    cases hc : allb c with
    | false => rw [hc] at h; cases h
    | true => rw [hc] at h; cases h; exact ⟨c, rfl, (allb_iff c).1 hc, rfl⟩
theorem chkQ_some {x : Qr} {v : V} (h : chkQ x = some v) : ∃ c, x = some (c, v) ∧ allB c := by
  cases x with
  | none => cases h
  | some p =>
    obtain ⟨c, t⟩ := p
    simp only [chkQ] at h
    cases hc : allb c with
    | false => rw [hc] at h; cases h
    | true => rw [hc] at h; cases h; exact ⟨c, rfl, (allb_iff c).1 hc⟩

theorem NextRel.ofV {m : Sem Value} {v : V} {s' : St} (h : OKv P own ρ m w v s') : NextRel own ρ s w s' ((do pure (.value (← m)) : Sem Next).run P w) (.val v) := by
  obtain ⟨ρ', X, w', h1, h2, h3⟩ := h
  exact ⟨ρ', X, w', h1, by simp [h2], h3⟩
theorem NextRel.ofU {m : Sem Unit} {s' : St} (h : ∃ w', m.run P w = .ok () w' ∧ SRel own ρ s' w' ∧ Fr own w w') : NextRel own ρ s w s' ((do m; pure .skip : Sem Next).run P w) .skip := by
  obtain ⟨w', h1, h2, h3⟩ := h
  exact ⟨w', by simp [h1], h2, h3⟩

theorem bodyOK_spec {f : FuncId} (h : bodyOK P f = true) : ∃ fn, P.funcs[f]? = some fn ∧ (fn.name == "runtime.NumGoroutine") = false ∧ fn.body.isNone = false := by
  unfold bodyOK at h
  split at h
  · rename_i fn hf
    simp only [Bool.and_eq_true, Bool.not_eq_true'] at h
    refine ⟨fn, hf, h.1, ?_⟩
    cases hb : fn.body with
    | none => rw [hb] at h; cases h.2
    | some c => rfl
  · cases h

theorem run_callFunc {f : FuncId} (h : bodyOK P f = true) (A : Array Value) : (callFunc f A).run P w = .ok (.enter f A) w := by
  obtain ⟨fn, h1, h2, h3⟩ := bodyOK_spec h
  simp only [callFunc, Sem.run_bind, run_program, Result.andThen_ok, h1, h2, h3, Bool.false_eq_true, if_false, Sem.run_pure]

theorem arr2 {A : Array Value} {X Y : Value} (h : A.toList = [X, Y]) : A = #[X, Y] := by cases A; simp at h; simp [h]

theorem eBuiltin_rel (h : SRel own ρ s w) {b : Builtin} {ts : Array TypeId} {vs : List V} {v : V} {s' : St} {c : List Bool} (hq : eBuiltin P s b ts vs = some (c, v, s')) (hc : allB c) {A : Array Value} (ha : LRel ρ vs A.toList) (ty : TypeId) (cs : Array Bool) :
    NextRel own ρ s w s' ((Go.builtin b ts ty cs A).run P w) (.val v) := by
  unfold eBuiltin at hq
  split at hq
  · obtain ⟨X, _, e, h1, Y, _, rfl, h2, h3⟩ := ha
    have h3 : _ = [] := h3
    subst h3
    obtain rfl := arr2 e
    exact NextRel.ofV (eAppend_rel h hq hc h1 h2)
  · obtain ⟨X, _, e, h1, Y, _, rfl, h2, h3⟩ := ha
    have h3 : _ = [] := h3
    subst h3
    obtain rfl := arr2 e
    exact NextRel.ofV (eCopy_rel h hq hc h1 h2)
  · cases hq

/-- an operation that makes one block: how it runs -/
theorem mkQ_run {m : Sem Value} {k : Mk} (h : MkOK P ρ m w k) {o : Oper} {A : Act} (he : ∀ X w', m.run P w = .ok X w' → (execOp A.eval o).run P w = .ok (.value X) w') : ∃ m : Sem Value, (∀ X w', m.run P w = .ok X w' → (execOp A.eval o).run P w = .ok (.value X) w') ∧ MkOK P ρ m w k := ⟨m, he, h⟩
theorem mkQ_rel {ev : Operand → Option V} {A : Act} (hA : EvRel ρ ev A) {o : Oper} {k : Mk} (hq : mkQ P ev o.op = some k) :
    ∃ m : Sem Value, (∀ X w', m.run P w = .ok X w' → (execOp A.eval o).run P w = .ok (.value X) w') ∧ MkOK P ρ m w k := by
  unfold mkQ at hq
  split at hq
  · rename_i c m hr
    cases hc : allb c with
    | false => rw [hc] at hq; cases hq
    | true =>
    rw [hc, cond_true] at hq
    cases hq
    have hc := (allb_iff c).1 hc
    unfold mkR at hr
    split at hr <;> rename_i heq
    · exact mkQ_run (mAlloc_rel (ρ := ρ) (w := w) hr) fun X w' e => by unfold execOp; simp only [heq]; simp [e]
    · split at hr
      · rename_i hx
        exact mkQ_run (mBox_rel (P := P) (w := w) hr (hA _ _ hx)) fun X w' e => by unfold execOp; simp only [heq]; simp [e]
      · cases hr
    · split at hr
      · rename_i hx
        exact mkQ_run (mBuildSlice_rel (w := w) hr (by rw [map_toList]; exact evalParts_rel hA hx)) fun X w' e => by unfold execOp; simp only [heq]; simp [e]
      · cases hr
    · split at hr
      · rename_i h1 h2
        exact mkQ_run (mMakeSlice_rel (w := w) hr hc (hA _ _ h1) (hA _ _ h2)) fun X w' e => by unfold execOp; simp only [heq]; simp [e]
      · cases hr
    · cases hr
  · cases hq

theorem eopR_rel (h : SRel own ρ s w) {ev : Operand → Option V} {A : Act} (hA : EvRel ρ ev A) {o : Oper} {out : EOut} {s' : St} {x : Er ⊕ Es} (hx : eopR P s ev o.op = some x) (hq : outR x = some (out, s')) :
    NextRel own ρ s w s' ((execOp A.eval o).run P w) out := by
  unfold eopR at hx
  unfold execOp
  split at hx <;> rename_i heq <;> simp only [heq]
  · cases hx
    obtain ⟨c, v, h1, hc, rfl⟩ := outV_some hq
    exact NextRel.ofV (eAlloc_rel h h1 hc)
  · split at hx
    · rename_i hv
      cases hx
      obtain ⟨c, v, h1, hc, rfl⟩ := outV_some hq
      exact NextRel.ofV (eBox_rel h h1 hc (hA _ _ hv))
    · cases hx
  · split at hx
    · rename_i hv
      cases hx
      obtain ⟨c, v, h1, hc, rfl⟩ := outV_some hq
      exact NextRel.ofV (eBuildSlice_rel h h1 hc (by rw [map_toList]; exact evalParts_rel hA hv))
    · cases hx
  · split at hx
    · rename_i h1 h2
      cases hx
      obtain ⟨c, h3, hc, rfl⟩ := outS_some hq
      exact NextRel.ofU (eStore_rel h h3 hc (hA _ _ h1) (hA _ _ h2))
    · cases hx
  · split at hx
    · rename_i hv
      cases hx
      obtain ⟨c, v, h1, hc, rfl⟩ := outV_some hq
      exact NextRel.ofV (eBytes_rel h h1 (hA _ _ hv))
    · cases hx
  · split at hx
    · rename_i h1 h2
      cases hx
      obtain ⟨c, v, h3, hc, rfl⟩ := outV_some hq
      exact NextRel.ofV (eMakeSlice_rel h h3 hc (hA _ _ h1) (hA _ _ h2))
    · cases hx
  · split at hx
    · rename_i hc
      split at hx
      · rename_i vs hvs
        cases hx
        obtain ⟨c, v, h3, hcc, rfl⟩ := outV_some hq
        have := evalOs_rel hA hvs
        rw [← map_toList] at this
        simp only [resolve, hc, Sem.run_bind, Sem.run_pure, Result.andThen_ok, invoke]
        exact eBuiltin_rel h h3 hcc this o.type _
      · cases hx
    · cases hx
  · cases hx

theorem eopC_rel (h : SRel own ρ s w) {ev : Operand → Option V} {A : Act} (hA : EvRel ρ ev A) {o : Oper} {out : EOut} {s' : St} (hq : eopC P s ev o.op = some (out, s')) :
    NextRel own ρ s w s' ((execOp A.eval o).run P w) out := by
  unfold eopC at hq
  unfold execOp
  split at hq <;> rename_i heq <;> simp only [heq]
  · split at hq
    · rename_i hx
      cases hq
      have := hA _ _ hx
      have hv := this
      simp only [VRel] at this
      obtain ⟨X, e, _⟩ := this
      refine ⟨rfl, .iface _ X, ?_, by rw [← e]; exact hv⟩
      simp [Instr.panic, e]
    · cases hq
  · rename_i c
    split at hq
    · rename_i f hc
      split at hq
      · rename_i g first cap vs hf hvs
        cases hb : bodyOK P g with
        | false => simp [hb] at hq
        | true =>
        simp only [hb, cond_true, Option.some.injEq, Prod.mk.injEq] at hq
        obtain ⟨rfl, rfl⟩ := hq
        have e1 := hA _ _ hf
        simp only [VRel] at e1
        obtain ⟨A1, C1, e1, e2, e3⟩ := e1
        have e4 := evalOs_rel hA hvs
        rw [← map_toList] at e4
        refine ⟨rfl, A1 ++ (c.args.map A.eval) ++ C1, ?_, ?_⟩
        · simp only [resolve, hc, Sem.run_bind, e1, Deferred.ofValue, Sem.run_pure, Result.andThen_ok, invoke]
          exact run_callFunc hb _
        · rw [lapp_eq, lapp_eq]
          simp only [Array.toList_append]
          exact (e2.append e4).append e3
      · rename_i l vs hf hvs
        split at hq
        · rename_i r hg
          simp only [llen_eq] at hq
          cases hb : Nat.beq vs.length r.params.length with
          | false => simp [hb] at hq
          | true =>
          simp only [hb, cond_true, Option.some.injEq, Prod.mk.injEq] at hq
          obtain ⟨rfl, rfl⟩ := hq
          have e1 := hA _ _ hf
          simp only [VRel] at e1
          obtain ⟨B, O, S, hB, e1⟩ := e1
          have e4 := evalOs_rel hA hvs
          rw [← map_toList] at e4
          obtain ⟨x, hx, _, L, D, l1, l2, l3, l4, l5, l6⟩ := h.obj' hg hB
          rw [hB] at hx; cases hx
          have hsz : (c.args.map A.eval).size = L.params.size := by
            have a1 := e4.length
            have a2 : vs.length = r.params.length := by simpa using hb
            have a3 : L.params.toList.length = r.params.length := by rw [l5]
            simp only [Array.length_toList] at a1 a3
            omega
          refine ⟨rfl, ⟨B, O, S⟩, L, c.args.map A.eval, hB, l1, e4, hsz, ?_⟩
          simp only [resolve, hc, Sem.run_bind, e1, Deferred.ofValue, Sem.run_pure, Result.andThen_ok, invoke]
          have hy := run_yield (P := P) (w := w) l1 hsz
          simpa using hy
        · cases hq
      · cases hq
    · cases hq
  · cases hq
theorem eop_rel (h : SRel own ρ s w) {ev : Operand → Option V} {A : Act} (hA : EvRel ρ ev A) {o : Oper} {out : EOut} {s' : St} (hq : eop P s ev o.op = some (out, s')) :
    NextRel own ρ s w s' ((execOp A.eval o).run P w) out := by
  unfold eop at hq
  split at hq
  · rename_i x hx
    exact eopR_rel h hA hx hq
  · exact eopC_rel h hA hq

theorem opE_rel (h : SRel own ρ s w) {ev : Operand → Option V} {A : Act} (hA : EvRel ρ ev A) {o : Oper} {out : EOut} {s' : St} (hq : opE P s ev o.op = some (out, s')) :
    NextRel own ρ s w s' ((execOp A.eval o).run P w) out := by
  unfold opE at hq
  split at hq
  · rename_i r hr
    split at hq
    · rename_i v hv
      cases hq
      obtain ⟨c, e, hc⟩ := chkQ_some hv
      cases e
      obtain ⟨X, h1, h2⟩ := qop_rel h hA hr hc
      exact ⟨ρ, X, w, ρ.le_refl, h1, h2, h, Fr.refl _ _⟩
    · cases hq
  · exact eop_rel h hA hq

theorem opE_defer {ev : Operand → Option V} {c : Call} : opE P s ev (.defer c) = none := rfl
end
end Go.Sym
end
