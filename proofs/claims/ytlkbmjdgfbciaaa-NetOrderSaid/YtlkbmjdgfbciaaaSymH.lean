/-
  The evaluator's operations that make or write memory: definitions, and that the model does the like.
-/
import Derived.Test.YtlkbmjdgfbciaaaSymG
namespace Go.Sym
set_option linter.unusedSimpArgs false
set_option linter.unusedVariables false

abbrev Er := Option (List Bool × V × St)
abbrev Es := Option (List Bool × St)
noncomputable section
variable (P : Program)

/-- an array of plain elements: how many, of which cells -/
def arrTy (t : TypeId) : Option (Nat × List Ty) :=
  match P.underlying t with
  | some (.array n el) => match rowTyE P 6 el, szE P el with
    | some e, some z => bif Nat.beq z e.length && (Nat.ble 1 z && match szE P t with
      | some zt => Nat.beq zt (n * e.length)
      | none => false) then some (n, e) else none
    | _, _ => none
  | _ => none
/-- an array's value as rows -/
def arrRows (n : Nat) (e : List Ty) (v : V) : Option (List (rowDen e)) :=
  match v with
  | .arr e' L => asL e e' L
  | .agg l => ofRows e n l
  | _ => none

def eStore (s : St) (t : TypeId) (a v : V) : Es :=
  match a with
  | .ptr b o => match s.heap.get b with
    | some (.cells cs t' ish) => match szE P t, cellsO v with
      | some n, some c => bif Nat.beq (llen c) n && (Nat.ble (o + n) (llen cs) && lall oneV c) then some ([], s.upd b (.cells (setAll cs o c) t' ish)) else none
      | _, _ => none
    | _ => none
  | .rptr b i j es => match s.heap.get b with
    | some (.rows e L t' ish) => bif !Nat.beq es e.length then none else
      match arrTy P t with
      | some (n, e2) => match i, j with
        | 0, 0 => bif !beqL e2 e then none else (match arrRows n e v with
          | some M => some ([decide (M.length = n), decide (L.length = n)], s.upd b (.rows e M t' ish))
          | none => none)
        | _, _ => none
      | none => match szE P t, cellsO v with
        | some n, some c => bif Nat.beq (llen c) n && (Nat.ble (j + n) es && lall oneV c) then (match ofRow e (setAll (rowV e (rowAt e L i)) j c) with
          | some r => some ([decide (i < L.length)], s.upd b (.rows e (L.set i r) t' ish))
          | none => none) else none
        | _, _ => none
    | _ => none
  | _ => none

/-- what an operation makes that makes one block: the cells (or rows), their type, and its value once the block has a name: a pointer, or a slice of so many elements, a capacity, elements of a size -/
inductive Mk where
  | cells (cs : List V) (t : TypeId) (sl : Option (Nat × Nat × Nat))
  | rows (e : List Ty) (L : List (rowDen e)) (t : TypeId) (sl : Option (Nat × Nat))
def Mk.val : Mk → Nat → V
  | .cells _ _ none, b => .ptr b 0
  | .cells _ _ (some (l, c, es)), b => .sl b 0 l c true es
  | .rows e _ _ none, b => .rptr b 0 0 e.length
  | .rows e _ _ (some (l, c)), b => .rs b 0 l c true e.length
def Mk.obj : Mk → EObj
  | .cells cs t _ => .cells cs t false
  | .rows e L t _ => .rows e L t false
def mkNew (s : St) : Option (List Bool × Mk) → Er
  | some (c, m) => some (c, m.val s.next, s.new m.obj)
  | none => none
def mBox (t : TypeId) (v : V) : Option (List Bool × Mk) :=
  match arrTy P t with
  | some (n, e) => match arrRows n e v with
    | some L => some ([], .rows e L t none)
    | none => none
  | none => match cellsO v with
    | some c => some ([], .cells c t none)
    | none => none
def mAlloc (t : TypeId) : Option (List Bool × Mk) :=
  match zeroE P t with
  | some z => mBox P t z
  | none => none
def eAlloc (s : St) (t : TypeId) : Er := mkNew s (mAlloc P t)
def eBox (s : St) (t : TypeId) (v : V) : Er := mkNew s (mBox P t v)

def repE : Nat → List V → List V
  | 0, _ => []
  | n + 1, zs => lapp zs (repE n zs)

/-- the plain cells of a type's value -/
def rowTy (el : TypeId) : Option (List Ty) :=
  match rowTyE P 6 el, szE P el with
  | some e, some z => bif Nat.beq z e.length && Nat.ble 1 z then some e else none
  | _, _ => none
def mRows (el : TypeId) (len : Nat) (cs : List V) (sz : Nat) : Mk :=
  match rowTy P el with
  | some e => bif Nat.beq e.length sz then (match ofRows e len cs with
    | some L => .rows e L el (some (len, len))
    | none => .cells cs el (some (len, len, sz))) else .cells cs el (some (len, len, sz))
  | none => .cells cs el (some (len, len, sz))
def mBuildSlice (t : TypeId) (len : Nat) (parts : List (Nat × V)) : Option (List Bool × Mk) :=
  match P.underlying t with
  | some (.slice e) => match szE P e, zeroE P e with
    | some sz, some zv => match cellsO zv with
      | some z =>
        bif Nat.beq (llen z) sz && (Nat.ble (len * sz) 16777216 && Nat.ble 1 sz) then
          (match fillE (fun i => some (i * sz, sz)) (repE len z) parts with
          | some cs => some ([], mRows P e len cs sz)
          | none => none) else none
      | none => none
    | _, _ => none
  | _ => none
def eBuildSlice (s : St) (t : TypeId) (len : Nat) (parts : List (Nat × V)) : Er := mkNew s (mBuildSlice P t len parts)

def mMakeSlice (t : TypeId) (len cap : V) : Option (List Bool × Mk) :=
  match P.underlying t, natOf len, natOf cap with
  | some (.slice el), some (cl, l), some (cc, c) => match P.info? el, zeroE P el with
    | some i, some zv => match cellsO zv with
      | some z =>
        bif Nat.beq (llen z) i.size && Nat.ble 1 i.size then
          (match rowTy P el with
          | some e => bif Nat.beq e.length i.size then (match ofRow e z with
            | some r => some (cl ++ (cc ++ [decide (l ≤ c), decide (c ≤ 281474976710656), decide (i.bytes * c ≤ 281474976710656)]), .rows e (List.replicate c r) el (some (l, c)))
            | none => none) else none
          | none => some (cl ++ (cc ++ [decide (l ≤ c), decide (c ≤ 281474976710656), decide (i.bytes * c ≤ 281474976710656)]), .cells (repE c z) el (some (l, c, i.size)))) else none
      | none => none
    | _, _ => none
  | _, _, _ => none
def eMakeSlice (s : St) (t : TypeId) (len cap : V) : Er := mkNew s (mMakeSlice P t len cap)

def eBytes (s : St) (src dst : TypeId) (a : V) : Er :=
  match P.underlying src, P.underlying dst, a with
  | some _, some (.slice e), .str x => match P.underlying e with
    | some (.int .u8) => some ([], .rs s.next 0 x.size x.size false 1, s.new (.rows [.int .u8] (bytesL x) e true))
    | _ => none
  | _, _, _ => none
end

section
variable {P : Program} {own : Own} {ρ : Env} {s : St} {w : World}

def CP (ρ : Env) (O : Nat) (cs : List V) (C : Array Value) : Prop := ∀ (i : Nat) (v : V), cs[i]? = some v → ∃ W, C[O + i]? = some W ∧ VRel ρ v W
def setA : Array Value → Nat → List Value → Array Value
  | C, _, [] => C
  | C, o, v :: l => setA (C.setIfInBounds o v) (o + 1) l
theorem setA_size : ∀ (l : List Value) (C : Array Value) (o : Nat), (setA C o l).size = C.size
  | [], _, _ => rfl
  | v :: l, C, o => by simp [setA, setA_size l]

theorem CP.set {O : Nat} {cs : List V} {C : Array Value} (h : CP ρ O cs C) {v : V} {X : Value} (hv : VRel ρ v X) {o : Nat} (ho : O + o < C.size) : CP ρ O (cs.set o v) (C.setIfInBounds (O + o) X) := by
  intro i u hi
  rw [List.getElem?_set] at hi
  rw [Array.getElem?_setIfInBounds]
  by_cases e : o = i
  · subst e
    simp only [if_true] at hi ⊢
    split at hi
    · cases hi; exact ⟨X, by simp [ho], hv⟩
    · cases hi
  · rw [if_neg e] at hi
    rw [if_neg (by omega)]
    exact h i u hi

theorem CP.setAll {O : Nat} : ∀ {l : List V} {L : List Value}, LRel ρ l L → ∀ {cs : List V} {C : Array Value}, CP ρ O cs C → ∀ {o : Nat}, O + o + l.length ≤ C.size → CP ρ O (setAll cs o l) (setA C (O + o) L)
  | [], L, hl, cs, C, h, o, ho => by
    have hl : L = [] := hl
    subst hl; exact h
  | v :: l, L, hl, cs, C, h, o, ho => by
    obtain ⟨X, Y, rfl, h1, h2⟩ := hl
    simp only [List.length_cons] at ho
    have := CP.setAll h2 (h.set h1 (o := o) (by omega)) (o := o + 1) (by simp; omega)
    rw [← lset_eq] at this
    exact this

theorem oneV_rel {v : V} {X : Value} (h : VRel ρ v X) (ho : oneV v = true) : X.oneCell' = true := by
  cases v <;> simp only [oneV, Bool.false_eq_true] at ho <;> simp only [VRel] at h
  all_goals first
    | (subst h; rfl)
    | (obtain ⟨_, _, _, _, rfl⟩ := h; rfl)
    | (obtain ⟨_, _, _, _, _, rfl, _⟩ := h; rfl)
    | (obtain ⟨_, _, rfl⟩ := h; rfl)
    | (obtain ⟨_, _, rfl, _⟩ := h; rfl)
    | (obtain ⟨_, rfl, _⟩ := h; rfl)
theorem allOne_rel : ∀ {l : List V} {L : List Value}, LRel ρ l L → l.all oneV = true → ∀ X ∈ L, X.oneCell' = true
  | [], L, h, _, X, hX => by have h : L = [] := h; subst h; cases hX
  | v :: l, L, h, ho, X, hX => by
    obtain ⟨Y, Z, rfl, h1, h2⟩ := h
    simp only [List.all_cons, Bool.and_eq_true] at ho
    rcases List.mem_cons.1 hX with rfl | hX
    · exact oneV_rel h1 ho.1
    · exact allOne_rel h2 ho.2 X hX

def NotFrozen (S : Nat) (fr : Nat × Nat) : Prop := ∀ k, k < S → (decide (fr.1 ≤ k) && decide (k < fr.2)) = false

theorem set_at {w : World} {B : Nat} {C : Array Value} {t : TypeId} {fr : Nat × Nat} (h : w.heap[B]? = some (.cells C t fr)) (o : Nat) (X : Value) :
    w.setCell ⟨B, o, none⟩ X = { w with heap := w.heap.setIfInBounds B (.cells (C.setIfInBounds o X) t fr) } := by
  simp only [World.setCell]
  congr 1
  apply Array.ext_getElem?
  intro i
  rw [Array.getElem?_modify, Array.getElem?_setIfInBounds]
  have hlt : B < w.heap.size := by
    rcases Nat.lt_or_ge B w.heap.size with hh | hh
    · exact hh
    · rw [Array.getElem?_eq_none hh] at h; cases h
  by_cases e : B = i
  · subst e
    have hh : w.heap[B] = .cells C t fr := by
      rw [Array.getElem?_eq_getElem hlt] at h
      exact Option.some.inj h
    simp [hlt, hh]
  · simp [e]

theorem run_storeAll {B : Nat} {t : TypeId} {fr : Nat × Nat} : ∀ (vs : List Value) (off i : Nat) (C : Array Value) (w : World), w.heap[B]? = some (.cells C t fr) → NotFrozen C.size fr → off + i + vs.length ≤ C.size →
    (∀ v ∈ vs, v.oneCell' = true) → (storeCells ⟨B, off, none⟩ vs i).run P w = .ok () { w with heap := w.heap.setIfInBounds B (.cells (setA C (off + i) vs) t fr) }
  | [], off, i, C, w, hw, _, _, _ => by
    simp only [storeCells, Sem.run_pure, setA]
    congr 1
    cases w with
    | mk heap tape drawn os output =>
      simp only at hw ⊢
      congr 1
      apply Array.ext_getElem?
      intro k
      rw [Array.getElem?_setIfInBounds]
      split
      · rename_i e; subst e
        split
        · exact hw
        · rename_i hh; rw [Array.getElem?_eq_none (by omega)] at hw; cases hw
      · rfl
  | v :: vs, off, i, C, w, hw, hf, hl, h1 => by
    simp only [List.length_cons] at hl
    have hlt : off + i < C.size := by omega
    have hc : w.cell? ⟨B, off + i, none⟩ = some C[off + i] := by simp [World.cell?, hw, hlt]
    have hfr : w.frozen? ⟨B, off + i, none⟩ = false := by simp only [World.frozen?, hw]; exact hf _ hlt
    simp only [storeCells, Sem.run_bind, addr_add, run_store P w _ v _ (h1 v (by simp)), hc, hfr, Bool.false_eq_true, if_false, Result.andThen_ok, set_at hw]
    have hB : B < w.heap.size := by
      rcases Nat.lt_or_ge B w.heap.size with hh | hh
      · exact hh
      · rw [Array.getElem?_eq_none hh] at hw; cases hw
    have := run_storeAll (B := B) (t := t) (fr := fr) vs off (i + 1) (C.setIfInBounds (off + i) v) { w with heap := w.heap.setIfInBounds B (.cells (C.setIfInBounds (off + i) v) t fr) }
      (by simp [hB]) (by simpa using hf) (by simp; omega) (fun u hu => h1 u (by simp [hu]))
    rw [this]
    simp [setA, Nat.add_assoc]

theorem SRel.cellsObj (h : SRel own ρ s w) {b : Nat} {cs : List V} {t : TypeId} {ish : Bool} (hg : s.heap.get b = some (.cells cs t ish)) {x : Blk} (hx : ρ b = some x) :
    ∃ C t' fr, w.heap[x.B]? = some (.cells C t' fr) ∧ C.size = x.S ∧ x.O + cs.length ≤ x.S ∧ CP ρ x.O cs C ∧ NotFrozen x.S fr ∧ (ish = false → fr = (0, 0)) ∧ (own x.B ∧ ∀ k, ρ.φ x.B k = none) := by
  obtain ⟨y, h1, h2, C, t', fr, h3, h4, h5, h6, h7, h8⟩ := h.obj' hg hx
  rw [hx] at h1; cases h1
  exact ⟨C, t', fr, h3, h4, h5, h6, h7, h8, h2⟩

/-- cells of a block are written -/
theorem SRel.write (h : SRel own ρ s w) {b : Nat} {cs : List V} {t : TypeId} {ish : Bool} (hg : s.heap.get b = some (.cells cs t ish)) {x : Blk} (hx : ρ b = some x)
    {o : Nat} {l : List V} {L : List Value} (hl : LRel ρ l L) (ho : o + l.length ≤ cs.length) (h1 : l.all oneV = true) :
    ∃ w', (storeCells ⟨x.B, x.O + o, none⟩ L).run P w = .ok () w' ∧ SRel own ρ (s.upd b (.cells (Sym.setAll cs o l) t ish)) w' ∧ Fr own w w' := by
  obtain ⟨C, t', fr, e1, e2, e3, e4, e5, e6, e7⟩ := h.cellsObj hg hx
  have hlen := hl.length
  have hrun := run_storeAll (P := P) L (x.O + o) 0 C w e1 (by rw [e2]; exact e5) (by omega) (allOne_rel hl h1)
  refine ⟨_, hrun, ?_, fr_set e7.1 rfl⟩
  refine h.upd hg hx _ _ rfl ⟨_, t', fr, rfl, by rw [setA_size]; exact e2, by rw [setAll_length]; exact e3, ?_, e5, e6⟩
  rw [Nat.add_zero]
  exact CP.setAll hl e4 (by omega)

/-! ### Rows -/
theorem TRel_lst (φ : Nat → Nat → Option Value) (e : List Ty) (L : (Ty.lst e).den) (X : Value) : TRel φ (.lst e) L X ↔ ∃ a c, X = .slice a (List.length (α := rowDen e) L) c ∧ List.length (α := rowDen e) L ≤ c ∧ (a = none → c = 0) ∧
      (0 < List.length (α := rowDen e) L → ∃ B o, a = some ⟨B, o, none⟩ ∧ ∀ i, i < List.length (α := rowDen e) L → CRel φ e (rowAt e L i) (fun j => φ B (o + i * e.length + j))) := by
  rw [TRel]
theorem ofV_rel : ∀ (t : Ty) (v : V) (x : t.den) (X : Value), ofV t v = some x → VRel ρ v X → TRel ρ.φ t x X
  | .int k, v, x, X, h, hv => by
    change ofInt k v = some x at h
    unfold ofInt at h
    split at h
    · rename_i k' n
      rw [kEq_iff] at h
      by_cases hk : k = k'
      · subst hk
        simp only [decide_true, cond_true] at h
        cases h
        rw [TRel]; simpa only [VRel] using hv
      · simp [hk] at h
    · cases h
  | .bool, v, x, X, h, hv => by
    change ofBool v = some x at h
    unfold ofBool at h
    split at h
    · cases h
      rw [TRel]; simpa only [VRel] using hv
    · cases h
  | .str, v, x, X, h, hv => by
    change ofStr v = some x at h
    unfold ofStr at h
    split at h
    · cases h
      rw [TRel]; simpa only [VRel] using hv
    · cases h
  | .lst e, v, x, X, h, hv => by
    change ofLst e v = some x at h
    unfold ofLst at h
    split at h
    · rename_i e' L cl
      obtain ⟨q, e1⟩ := asL_some h
      subst q
      have e1 : x = L := e1
      subst e1
      rw [TRel]
      simp only [VRel] at hv
      obtain ⟨a, c, h1, h2, _, h3, h4⟩ := hv
      exact ⟨a, c, h1, h2, h3, fun hp => let ⟨B, o, g1, g2⟩ := h4 hp; ⟨B, o, g1, fun i hi => by simpa [Nat.add_assoc] using g2 i hi⟩⟩
    · cases h
      simp only [VRel] at hv
      exact (TRel_lst ρ.φ e _ X).2 ⟨none, 0, hv, Nat.le_refl _, fun _ => rfl, fun hp => absurd hp (Nat.lt_irrefl _)⟩
    · cases h
theorem pairO_some {α β : Type} {x : Option α} {y : Option β} {r : α × β} (h : pairO x y = some r) : x = some r.1 ∧ y = some r.2 := by
  cases x <;> cases y <;> simp only [pairO, reduceCtorEq, Option.some.injEq] at h
  subst h; exact ⟨rfl, rfl⟩
theorem oneO_some {α : Type} {f : V → Option α} {l : List V} {r : α} (h : oneO f l = some r) : ∃ v, l = [v] ∧ f v = some r := by
  unfold oneO at h
  split at h
  · exact ⟨_, rfl, h⟩
  · cases h
theorem consO_some {α β : Type} {f : V → Option α} {g : List V → Option β} {l : List V} {r : α × β} (h : consO f g l = some r) : ∃ v vs, l = v :: vs ∧ f v = some r.1 ∧ g vs = some r.2 := by
  unfold consO at h
  split at h
  · obtain ⟨h1, h2⟩ := pairO_some h
    exact ⟨_, _, rfl, h1, h2⟩
  · cases h
theorem ofRow_rel : ∀ (e : List Ty) (l : List V) (x : rowDen e), ofRow e l = some x → ∀ {C : Nat → Option Value}, (∀ i v, l[i]? = some v → ∃ W, C i = some W ∧ VRel ρ v W) → CRel ρ.φ e x C
  | [], l, x, h, C, hc => by rw [CRel]; trivial
  | [t], l, x, h, C, hc => by
    obtain ⟨v, rfl, hv⟩ := oneO_some (α := t.den) h
    obtain ⟨W, h1, h2⟩ := hc 0 v rfl
    rw [CRel]
    exact ⟨W, h1, ofV_rel t v x W hv h2⟩
  | t :: u :: ts, l, x, h, C, hc => by
    obtain ⟨v, vs, rfl, ha, hb⟩ := consO_some (α := t.den) (β := rowDen (u :: ts)) h
    obtain ⟨W, h1, h2⟩ := hc 0 v rfl
    rw [CRel]
    exact ⟨⟨W, h1, ofV_rel t v _ W ha h2⟩, ofRow_rel (u :: ts) vs _ hb fun i v' hi => hc (i + 1) v' (by simpa using hi)⟩
theorem ofRow_length : ∀ (e : List Ty) (l : List V) (x : rowDen e), ofRow e l = some x → l.length = e.length
  | [], l, x, h => by
    change nilO l = some x at h
    unfold nilO at h
    split at h
    · rfl
    · cases h
  | [t], l, x, h => by
    obtain ⟨v, rfl, hv⟩ := oneO_some (α := t.den) h
    rfl
  | t :: u :: ts, l, x, h => by
    obtain ⟨v, vs, rfl, ha, hb⟩ := consO_some (α := t.den) (β := rowDen (u :: ts)) h
    simp [ofRow_length (u :: ts) vs _ hb]
theorem ofRows_spec (e : List Ty) : ∀ (n : Nat) (l : List V) (L : List (rowDen e)), ofRows e n l = some L → L.length = n ∧ l.length = n * e.length ∧
    ∀ {C : Nat → Option Value}, (∀ i v, l[i]? = some v → ∃ W, C i = some W ∧ VRel ρ v W) → RowsAt ρ.φ e L C
  | 0, l, L, h => by
    simp only [ofRows] at h
    split at h
    · cases h; exact ⟨rfl, by simp, fun _ i hi => absurd hi (by simp)⟩
    · cases h
  | n + 1, l, L, h => by
    simp only [ofRows, ltake_eq, ldrop_eq] at h
    split at h
    · rename_i x y hx hy
      cases h
      obtain ⟨i1, i2, i3⟩ := ofRows_spec e n _ _ hy
      have h1 := ofRow_length _ _ _ hx
      simp only [List.length_take, List.length_drop] at h1 i2
      refine ⟨by simp [i1], by rw [Nat.succ_mul]; omega, fun {C} hc => ?_⟩
      intro i hi
      cases i with
      | zero =>
        refine ofRow_rel e _ x hx fun j v hj => ?_
        have hlt : j < e.length := by
          have := (List.getElem?_eq_some_iff.1 hj).1
          simp at this; omega
        rw [List.getElem?_take_of_lt hlt] at hj
        simpa using hc j v hj
      | succ i =>
        have := i3 (C := fun k => C (e.length + k)) (fun j v hj => by
          rw [List.getElem?_drop] at hj
          exact hc _ v hj) i (by simpa using hi)
        have e2 : rowAt e (x :: y) (i + 1) = rowAt e y i := by simp [rowAt]
        rw [e2]
        refine CRel.mono (fun _ _ _ hv => hv) e _ (fun j v hv => ?_) this
        rw [← hv]; congr 1; rw [Nat.succ_mul]; omega
    · cases h

theorem CRel.ltφ {φ : Nat → Nat → Option Value} (e : List Ty) (x : rowDen e) {C : Nat → Option Value} (h : CRel φ e x C) : CRel φ e x (fun j => if j < e.length then C j else none) :=
  CRel.lt (ρ := ⟨fun _ => none, 0, φ⟩) e x h
theorem RowsAt.set {φ : Nat → Nat → Option Value} {e : List Ty} {L : List (rowDen e)} {C C' : Nat → Option Value} (h : RowsAt φ e L C) {i : Nat} {r : rowDen e} (hr : CRel φ e r (fun j => C' (i * e.length + j)))
    (hc : ∀ k, k < i * e.length ∨ (i + 1) * e.length ≤ k → C' k = C k) : RowsAt φ e (L.set i r) C' := by
  intro k hk
  simp only [List.length_set] at hk
  by_cases hik : i = k
  · subst hik
    have : rowAt e (L.set i r) i = r := by simp [rowAt, hk]
    rw [this]; exact hr
  · have : rowAt e (L.set i r) k = rowAt e L k := by simp [rowAt, List.getD_eq_getElem?_getD, List.getElem?_set_ne hik]
    rw [this]
    refine CRel.mono (fun _ _ _ hv => hv) e _ (fun j v hv => ?_) (CRel.ltφ e _ (h k hk))
    split at hv
    · rename_i hj
      rw [hc _ ?_]; exact hv
      rcases Nat.lt_or_gt_of_ne hik with hh | hh
      · right
        have := Nat.mul_le_mul_right e.length (show i + 1 ≤ k from hh); omega
      · left
        have := Nat.mul_le_mul_right e.length (show k + 1 ≤ i from hh)
        rw [Nat.succ_mul] at this; omega
    · cases hv

theorem arrTy_spec {t : TypeId} {n : Nat} {e : List Ty} (h : arrTy P t = some (n, e)) : ∃ el, P.underlying t = some (.array n el) ∧ szE P el = some e.length ∧ szE P t = some (n * e.length) ∧ 1 ≤ e.length := by
  unfold arrTy at h
  split at h
  · rename_i n' el hd
    split at h
    · rename_i e' z he hz
      cases hb : (Nat.beq z e'.length && (Nat.ble 1 z && match szE P t with
        | some zt => Nat.beq zt (n' * e'.length)
        | none => false)) with
      | false => rw [hb] at h; cases h
      | true =>
        rw [hb, cond_true] at h
        cases h
        simp only [Bool.and_eq_true, Nat.beq_eq, Nat.ble_eq] at hb
        obtain ⟨b1, b2, b3⟩ := hb
        split at b3
        · rename_i zt hzt
          have b3 := Nat.eq_of_beq_eq_true b3
          refine ⟨el, hd, by rw [hz, b1], by rw [hzt, b3], by omega⟩
        · cases b3
    · cases h
  · cases h

theorem arrRows_rel {n : Nat} {e : List Ty} {v : V} {M : List (rowDen e)} (h : arrRows n e v = some M) {X : Value} (hv : VRel ρ v X) : ∃ A, X = .agg A ∧ A.size = M.length * e.length ∧ RowsAt ρ.φ e M (fun k => A[k]?) := by
  unfold arrRows at h
  split at h
  · rename_i e' L
    obtain ⟨q, rfl⟩ := asL_some h
    subst q
    simp only [VRel] at hv
    exact hv
  · rename_i l
    simp only [VRel] at hv
    obtain ⟨A, rfl, hl⟩ := hv
    obtain ⟨h1, h2, h3⟩ := ofRows_spec (ρ := ρ) e n l M h
    have hlen := hl.length
    simp only [Array.length_toList] at hlen
    refine ⟨A, rfl, by rw [← hlen, h2, h1], h3 fun i u hi => ?_⟩
    obtain ⟨W, g1, g2⟩ := hl.get hi
    exact ⟨W, by simpa using g1, g2⟩
  · cases h

theorem setA_get : ∀ (l : List Value) (C : Array Value) (p k : Nat), p + l.length ≤ C.size → (setA C p l)[k]? = if p ≤ k ∧ k < p + l.length then l[k - p]? else C[k]? := by
  intro l
  induction l with
  | nil => intro C p k _; simp [setA]; omega
  | cons c l ih =>
    intro C p k hp
    simp only [List.length_cons] at hp ⊢
    simp only [setA]
    rw [ih _ _ _ (by simp; omega)]
    by_cases hk : k = p
    · subst hk
      rw [if_neg (by omega), if_pos (by omega), Array.getElem?_setIfInBounds_self_of_lt (by omega)]
      simp
    · by_cases hk2 : p + 1 ≤ k ∧ k < p + 1 + l.length
      · rw [if_pos hk2, if_pos (by omega)]
        obtain ⟨d, rfl⟩ : ∃ d, k = p + 1 + d := ⟨k - (p + 1), by omega⟩
        rw [show p + 1 + d - (p + 1) = d from by omega, show p + 1 + d - p = d + 1 from by omega]
        simp
      · rw [if_neg hk2, if_neg (by omega), Array.getElem?_setIfInBounds_ne (by omega)]

theorem SRel.rowsObj (h : SRel own ρ s w) {b : Nat} {e : List Ty} {L : List (rowDen e)} {t : TypeId} {ish : Bool} (hg : s.heap.get b = some (.rows e L t ish)) {x : Blk} (hx : ρ b = some x) :
    ∃ C t' fr, w.heap[x.B]? = some (.cells C t' fr) ∧ C.size = x.S ∧ x.O + L.length * e.length ≤ x.S ∧ RowsAt ρ.φ e L (fun k => C[x.O + k]?) ∧ NotFrozen x.S fr ∧ (ish = false → fr = (0, 0)) ∧ (own x.B ∧ ∀ k, ρ.φ x.B k = none) := by
  obtain ⟨y, h1, h2, C, t', fr, h3, h4, h5, h6, h7, h8⟩ := h.obj' hg hx
  rw [hx] at h1; cases h1
  exact ⟨C, t', fr, h3, h4, h5, h6, h7, h8, h2⟩

/-- values of one cell each -/
def Ones (L : List Value) : Prop := ∀ X ∈ L, X.oneCell' = true
theorem TRel.one {φ : Nat → Nat → Option Value} : ∀ (t : Ty) (x : t.den) (X : Value), TRel φ t x X → X.oneCell' = true
  | .int k, n, X, h => by rw [TRel] at h; subst h; rfl
  | .bool, b, X, h => by rw [TRel] at h; subst h; rfl
  | .str, s, X, h => by rw [TRel] at h; subst h; rfl
  | .lst e, L, X, h => by rw [TRel] at h; obtain ⟨a, c, rfl, _⟩ := h; rfl
theorem CRel.one {φ : Nat → Nat → Option Value} : ∀ (e : List Ty) (x : rowDen e) (C : Nat → Option Value), CRel φ e x C → ∀ j X, j < e.length → C j = some X → X.oneCell' = true
  | [], _, _, _, j, X, hj, _ => by simp at hj
  | [t], x, C, h, j, X, hj, hX => by
    rw [CRel] at h
    obtain ⟨Y, h1, h2⟩ := h
    have : j = 0 := by simpa using hj
    subst this
    rw [h1] at hX; cases hX
    exact TRel.one t _ _ h2
  | t :: u :: ts, x, C, h, j, X, hj, hX => by
    rw [CRel] at h
    obtain ⟨⟨Y, h1, h2⟩, h3⟩ := h
    cases j with
    | zero => rw [h1] at hX; cases hX; exact TRel.one t _ _ h2
    | succ j => exact CRel.one (u :: ts) x.2 _ h3 j X (by simpa using hj) hX
theorem CRel.some {φ : Nat → Nat → Option Value} : ∀ (e : List Ty) (x : rowDen e) (C : Nat → Option Value), CRel φ e x C → ∀ j, j < e.length → ∃ X, C j = some X
  | [], _, _, _, j, hj => by simp at hj
  | [t], x, C, h, j, hj => by
    rw [CRel] at h
    obtain ⟨Y, h1, h2⟩ := h
    have : j = 0 := by simpa using hj
    subst this
    exact ⟨_, h1⟩
  | t :: u :: ts, x, C, h, j, hj => by
    rw [CRel] at h
    obtain ⟨⟨Y, h1, h2⟩, h3⟩ := h
    cases j with
    | zero => exact ⟨_, h1⟩
    | succ j => exact CRel.some (u :: ts) x.2 _ h3 j (by simpa using hj)
theorem RowsAt.cell {φ : Nat → Nat → Option Value} {e : List Ty} {L : List (rowDen e)} {C : Nat → Option Value} (h : RowsAt φ e L C) {k : Nat} (hk : k < L.length * e.length) : ∃ X, C k = some X ∧ X.oneCell' = true := by
  have he0 : 0 < e.length := by
    rcases Nat.eq_zero_or_pos e.length with h0 | h0
    · rw [h0] at hk; simp at hk
    · exact h0
  have hkk : k / e.length < L.length := (Nat.div_lt_iff_lt_mul he0).2 hk
  have hm := Nat.mod_lt k he0
  obtain ⟨X, hX⟩ := CRel.some e _ _ (h _ hkk) _ hm
  have e2 : k / e.length * e.length + k % e.length = k := by rw [Nat.mul_comm]; exact Nat.div_add_mod k e.length
  refine ⟨X, ?_, CRel.one e _ _ (h _ hkk) _ X hm hX⟩
  simpa [e2] using hX
/-- a list's cells, as values -/
theorem RowsAt.list {φ : Nat → Nat → Option Value} {e : List Ty} {L : List (rowDen e)} {C : Nat → Option Value} (h : RowsAt φ e L C) :
    ∃ V : List Value, V.length = L.length * e.length ∧ (∀ k X, V[k]? = some X → C k = some X) ∧ RowsAt φ e L (fun k => V[k]?) ∧ Ones V := by
  have hex : ∀ k, k < L.length * e.length → ∃ X, C k = some X ∧ X.oneCell' = true := fun k hk => h.cell hk
  refine ⟨(List.range (L.length * e.length)).map fun k => if hk : k < L.length * e.length then (hex k hk).choose else undef, by simp, ?_, ?_, ?_⟩
  · intro k X hX
    have hk : k < L.length * e.length := by
      have := (List.getElem?_eq_some_iff.1 hX).1
      simpa using this
    rw [List.getElem?_map, List.getElem?_range hk] at hX
    simp only [Option.map_some, hk, dif_pos, Option.some.injEq] at hX
    subst hX
    exact (hex k hk).choose_spec.1
  · intro i hi
    refine CRel.mono (fun _ _ _ hv => hv) e _ (fun j v hv => ?_) (CRel.ltφ e _ (h i hi))
    split at hv
    · rename_i hj
      have hk : i * e.length + j < L.length * e.length := by
        have h1 : (i + 1) * e.length ≤ L.length * e.length := Nat.mul_le_mul_right _ hi
        rw [Nat.succ_mul] at h1; omega
      show ((List.range (L.length * e.length)).map _)[i * e.length + j]? = _
      rw [List.getElem?_map, List.getElem?_range hk]
      simp only [Option.map_some, hk, dif_pos]
      rw [← (hex _ hk).choose_spec.1]
      exact hv
    · cases hv
  · intro X hX
    obtain ⟨k, hk, rfl⟩ := List.mem_map.1 hX
    have hk : k < L.length * e.length := by simpa using hk
    simp only [hk, dif_pos]
    exact (hex k hk).choose_spec.2

/-- cells of a block of rows are written -/
theorem SRel.writeRows (h : SRel own ρ s w) {b : Nat} {e : List Ty} {L : List (rowDen e)} {t : TypeId} {ish : Bool} (hg : s.heap.get b = some (.rows e L t ish)) {x : Blk} (hx : ρ b = some x)
    {o : Nat} {V : List Value} (ho : o + V.length ≤ L.length * e.length) (h1 : Ones V) {M : List (rowDen e)} (hM : M.length * e.length ≤ L.length * e.length)
    (hrel : ∀ C C' : Array Value, RowsAt ρ.φ e L (fun k => C[x.O + k]?) → (∀ k, C'[x.O + k]? = if o ≤ k ∧ k < o + V.length then V[k - o]? else C[x.O + k]?) → RowsAt ρ.φ e M (fun k => C'[x.O + k]?)) :
    ∃ w', (storeCells ⟨x.B, x.O + o, none⟩ V).run P w = .ok () w' ∧ SRel own ρ (s.upd b (.rows e M t ish)) w' ∧ Fr own w w' := by
  obtain ⟨C, t', fr, e1, e2, e3, e4, e5, e6, e7⟩ := h.rowsObj hg hx
  have hrun := run_storeAll (P := P) V (x.O + o) 0 C w e1 (by rw [e2]; exact e5) (by omega) h1
  refine ⟨_, hrun, ?_, fr_set e7.1 rfl⟩
  refine h.upd hg hx _ _ rfl ⟨_, t', fr, rfl, by rw [setA_size]; exact e2, by omega, ?_, e5, e6⟩
  rw [Nat.add_zero]
  refine hrel C _ e4 fun k => ?_
  rw [setA_get _ _ _ _ (by omega)]
  by_cases hk : o ≤ k ∧ k < o + V.length
  · rw [if_pos hk, if_pos (by omega)]; congr 1; omega
  · rw [if_neg hk, if_neg (by omega)]

theorem eStore_rel (h : SRel own ρ s w) {t : TypeId} {a v : V} {s' : St} {ps : List Bool} (hq : eStore P s t a v = some (ps, s')) (hp : allB ps) {A X : Value} (ha : VRel ρ a A) (hv : VRel ρ v X) :
    ∃ w', (Instr.storeAt t A X).run P w = .ok () w' ∧ SRel own ρ s' w' ∧ Fr own w w' := by
  unfold eStore at hq
  simp only [llen_eq, lall_eq, ltake_eq, ldrop_eq, lapp_eq, lget_eq] at hq
  split at hq
  · rename_i b o
    split at hq
    · rename_i cs t' ish hg
      split at hq
      · rename_i n c hn hcv
        cases hb : (Nat.beq c.length n && (Nat.ble (o + n) cs.length && c.all oneV)) with
        | false => simp [hb] at hq
        | true =>
          simp only [hb, cond_true] at hq
          cases hq
          simp only [Bool.and_eq_true, Nat.ble_eq, Nat.beq_eq] at hb
          simp only [VRel] at ha
          obtain ⟨B, O, S, hB, rfl⟩ := ha
          have hc := cellsO_rel hcv hv
          obtain ⟨w', h1, h2, h3⟩ := h.write (P := P) hg hB hc (o := o) (by omega) hb.2.2
          refine ⟨w', ?_, h2, h3⟩
          have hl := hc.length
          simp only [Array.length_toList] at hl
          have : ¬ X.cells.size ≠ n := by omega
          simp only at h1
          simp [Instr.storeAt, Instr.sureAddr, storeVar, run_size hn, this, h1]
      · cases hq
    · cases hq
  · rename_i b i j es
    split at hq
    · rename_i e L t' ish hg
      cases hes : Nat.beq es e.length with
      | false => rw [hes] at hq; cases hq
      | true =>
      have he := Nat.eq_of_beq_eq_true hes
      subst he
      simp only [hes, Bool.not_true, cond_false] at hq
      simp only [VRel] at ha
      obtain ⟨B, O, S, hB, rfl⟩ := ha
      split at hq
      · rename_i n e2 hat
        split at hq
        · cases hbe : beqL e2 e with
          | false => rw [hbe] at hq; cases hq
          | true =>
          have := beqL_eq _ _ hbe
          subst this
          simp only [hbe, Bool.not_true, cond_false] at hq
          split at hq
          · rename_i M hM
            cases hq
            obtain ⟨p1, p2, _⟩ := hp
            simp only [decide_eq_true_eq] at p1 p2
            obtain ⟨el, _, _, hsz, _⟩ := arrTy_spec hat
            obtain ⟨A, rfl, hA, hr⟩ := arrRows_rel hM hv
            obtain ⟨w', g1, g2, g3⟩ := h.writeRows (P := P) hg hB (o := 0) (V := A.toList) (by simp [hA, p1, p2]) (fun X hX => by
              obtain ⟨k, hk⟩ := List.mem_iff_getElem?.1 hX
              have hlt : k < M.length * e2.length := by
                have := (List.getElem?_eq_some_iff.1 hk).1
                simpa [hA] using this
              obtain ⟨Y, q1, q2⟩ := hr.cell hlt
              rw [Array.getElem?_toList, q1] at hk
              cases hk; exact q2) (M := M) (by rw [p1, p2]; exact Nat.le_refl _) (fun C C' _ hC => by
              refine RowsAt.mono (fun _ _ _ hv => hv) (fun k u hu => ?_) hr
              have hk : k < A.size := (Array.getElem?_eq_some_iff.1 hu).1
              show C'[O + k]? = _
              have := hC k
              rw [this, if_pos (by simp; omega)]
              simpa using hu)
            refine ⟨w', ?_, g2, g3⟩
            simp only [Nat.add_zero] at g1
            have hne : ¬ A.size ≠ n * e2.length := by rw [hA, p1]; simp
            simp [Instr.storeAt, Instr.sureAddr, storeVar, run_size hsz, Value.cells, hne, g1]
          · cases hq
        · cases hq
      · split at hq
        · rename_i n c hn hcv
          cases hb : (Nat.beq c.length n && (Nat.ble (j + n) e.length && c.all oneV)) with
          | false => rw [hb] at hq; cases hq
          | true =>
          rw [hb, cond_true] at hq
          simp only [Bool.and_eq_true, Nat.ble_eq, Nat.beq_eq] at hb
          split at hq
          · rename_i r hr
            cases hq
            have hi : i < L.length := by simpa using hp.1
            have hc := cellsO_rel hcv hv
            have hl := hc.length
            simp only [Array.length_toList] at hl
            have hmul : (i + 1) * e.length ≤ L.length * e.length := Nat.mul_le_mul_right _ hi
            rw [Nat.succ_mul] at hmul
            obtain ⟨w', g1, g2, g3⟩ := h.writeRows (P := P) hg hB (o := i * e.length + j) (V := X.cells.toList) (by simp; omega) (allOne_rel hc hb.2.2) (M := L.set i r) (by simp) (fun C C' hC hC' => by
              refine hC.set ?_ ?_
              · refine ofRow_rel e _ r hr fun k u hk => ?_
                have hrow := rowV_get (ρ := ρ) e _ (hC i hi)
                have hlr := rowV_length e (rowAt e L i)
                have sg : ∀ (l cs : List V) (off k : Nat), off + l.length ≤ cs.length → (Sym.setAll cs off l)[k]? = if off ≤ k ∧ k < off + l.length then l[k - off]? else cs[k]? := by
                  intro l
                  induction l with
                  | nil => intro cs off k _; simp [Sym.setAll]; omega
                  | cons c l ih =>
                    intro cs off k ho
                    simp only [List.length_cons] at ho ⊢
                    simp only [Sym.setAll, lset_eq]
                    rw [ih _ _ _ (by simp; omega)]
                    by_cases hk : k = off
                    · subst hk
                      rw [if_neg (by omega), if_pos (by omega), List.getElem?_set_self (by omega)]
                      simp
                    · by_cases hk2 : off + 1 ≤ k ∧ k < off + 1 + l.length
                      · rw [if_pos hk2, if_pos (by omega)]
                        obtain ⟨d, rfl⟩ : ∃ d, k = off + 1 + d := ⟨k - (off + 1), by omega⟩
                        rw [show off + 1 + d - (off + 1) = d from by omega, show off + 1 + d - off = d + 1 from by omega]
                        simp
                      · rw [if_neg hk2, if_neg (by omega), List.getElem?_set_ne (by omega)]
                rw [sg _ _ _ _ (by omega)] at hk
                have hck := hC' (i * e.length + k)
                simp only at hck
                rw [hck]
                by_cases hjk : j ≤ k ∧ k < j + c.length
                · rw [if_pos hjk] at hk
                  rw [if_pos (by simp; omega)]
                  obtain ⟨W, q1, q2⟩ := hc.get hk
                  refine ⟨W, ?_, q2⟩
                  rw [show i * e.length + k - (i * e.length + j) = k - j from by omega]
                  exact q1
                · rw [if_neg hjk] at hk
                  rw [if_neg (by simp; omega)]
                  exact hrow k u hk
              · intro k hk
                have hck := hC' k
                simp only at hck
                rw [Nat.succ_mul] at hk
                rw [hck, if_neg (by simp; omega)])
            refine ⟨w', ?_, g2, g3⟩
            have hne : ¬ X.cells.size ≠ n := by omega
            simp only [← Nat.add_assoc] at g1
            simp [Instr.storeAt, Instr.sureAddr, storeVar, run_size hn, hne, g1]
          · cases hq
        · cases hq
    · cases hq
  · cases hq

end
end Go.Sym
