/-
  Texts of this claim, one behind the other: SymH SymI SymJ. Each says its own conditions.
-/
import Derived.Test.YtechbadkbiognaaFlaM8

set_option linter.unusedVariables false
set_option linter.unusedSimpArgs false
set_option linter.unusedSectionVars false
section
namespace Go.Sym
set_option linter.unusedSimpArgs false
set_option linter.unusedVariables false

abbrev Er := Option (List Bool × V × St)
abbrev Es := Option (List Bool × St)
noncomputable section
variable (P : Program)

def arrTy (t : TypeId) : Option (Nat × List Ty) :=
  match P.underlying t with
  | some (.array n el) => match rowTyE P 9 el, szE P el with
    | some e, some z => bif Nat.beq z e.length && (Nat.ble 1 z && match szE P t with
      | some zt => Nat.beq zt (n * e.length)
      | none => false) then some (n, e) else none
    | _, _ => none
  | _ => none
def arrRows (n : Nat) (e : List Ty) (v : V) : Option (List (rowDen e)) :=
  match v with
  | .arr e' L => asL e e' L
  | .agg l => ofRows e n l
  | _ => none

def eStore (s : St) (t : TypeId) (a v : V) : Es :=
  match a with
  | .ptr b o => match s.heap.get b with
    | some (.cells cs t' ish) => match szE P t, cellsO v with
      | some n, some c => bif Nat.beq (llen c) n && (Nat.ble (o + n) (llen cs) && lall oneV c) then some ([], s.upd b (.cells (setAll cs o c) t' ish)) else none
      | _, _ => none
    | _ => none
  | .rptr b i j es => match s.heap.get b with
    | some (.rows e L t' ish) => bif !Nat.beq es e.length then none else
      match arrTy P t with
      | some (n, e2) => match i, j with
        | 0, 0 => bif !beqL e2 e then none else (match arrRows n e v with
          | some M => some ([decide (M.length = n), decide (L.length = n)], s.upd b (.rows e M t' ish))
          | none => none)
        | _, _ => none
      | none => match szE P t, cellsO v with
        | some n, some c => bif Nat.beq (llen c) n && (Nat.ble (j + n) es && lall oneV c) then (match ofRow e (setAll (rowV e (rowAt e L i)) j c) with
          | some r => some ([decide (i < L.length)], s.upd b (.rows e (L.set i r) t' ish))
          | none => none) else none
        | _, _ => none
    | _ => none
  | _ => none

inductive Mk where
  | cells (cs : List V) (t : TypeId) (sl : Option (Nat × Nat × Nat))
  | rows (e : List Ty) (L : List (rowDen e)) (t : TypeId) (sl : Option (Nat × Nat))
def Mk.val : Mk → Nat → V
  | .cells _ _ none, b => .ptr b 0
  | .cells _ _ (some (l, c, es)), b => .sl b 0 l c true es
  | .rows e _ _ none, b => .rptr b 0 0 e.length
  | .rows e _ _ (some (l, c)), b => .rs b 0 l c true e.length
def Mk.obj : Mk → EObj
  | .cells cs t _ => .cells cs t false
  | .rows e L t _ => .rows e L t false
def mkNew (s : St) : Option (List Bool × Mk) → Er
  | some (c, m) => some (c, m.val s.next, s.new m.obj)
  | none => none
def mBox (t : TypeId) (v : V) : Option (List Bool × Mk) :=
  match arrTy P t with
  | some (n, e) => match arrRows n e v with
    | some L => some ([], .rows e L t none)
    | none => none
  | none => match cellsO v with
    | some c => some ([], .cells c t none)
    | none => none
def mAlloc (t : TypeId) : Option (List Bool × Mk) :=
  match zeroE P t with
  | some z => mBox P t z
  | none => none
def eAlloc (s : St) (t : TypeId) : Er := mkNew s (mAlloc P t)
def eBox (s : St) (t : TypeId) (v : V) : Er := mkNew s (mBox P t v)

def repE : Nat → List V → List V
  | 0, _ => []
  | n + 1, zs => lapp zs (repE n zs)

def rowTy (el : TypeId) : Option (List Ty) :=
  match rowTyE P 9 el, szE P el with
  | some e, some z => bif Nat.beq z e.length && Nat.ble 1 z then some e else none
  | _, _ => none
def mRows (el : TypeId) (len : Nat) (cs : List V) (sz : Nat) : Mk :=
  match rowTy P el with
  | some e => bif Nat.beq e.length sz then (match ofRows e len cs with
    | some L => .rows e L el (some (len, len))
    | none => .cells cs el (some (len, len, sz))) else .cells cs el (some (len, len, sz))
  | none => .cells cs el (some (len, len, sz))
def mBuildSlice (t : TypeId) (len : Nat) (parts : List (Nat × V)) : Option (List Bool × Mk) :=
  match P.underlying t with
  | some (.slice e) => match szE P e, zeroE P e with
    | some sz, some zv => match cellsO zv with
      | some z =>
        bif Nat.beq (llen z) sz && (Nat.ble (len * sz) 16777216 && Nat.ble 1 sz) then
          (match fillE (fun i => some (i * sz, sz)) (repE len z) parts with
          | some cs => some ([], mRows P e len cs sz)
          | none => none) else none
      | none => none
    | _, _ => none
  | _ => none
def eBuildSlice (s : St) (t : TypeId) (len : Nat) (parts : List (Nat × V)) : Er := mkNew s (mBuildSlice P t len parts)

def mMakeSlice (t : TypeId) (len cap : V) : Option (List Bool × Mk) :=
  match P.underlying t, natOf len, natOf cap with
  | some (.slice el), some (cl, l), some (cc, c) => match P.info? el, zeroE P el with
    | some i, some zv => match cellsO zv with
      | some z =>
        bif Nat.beq (llen z) i.size && Nat.ble 1 i.size then
          (match rowTy P el with
          | some e => bif Nat.beq e.length i.size then (match ofRow e z with
            | some r => some (cl ++ (cc ++ [decide (l ≤ c), decide (c ≤ 281474976710656), decide (i.bytes * c ≤ 281474976710656)]), .rows e (List.replicate c r) el (some (l, c)))
            | none => none) else none
          | none => some (cl ++ (cc ++ [decide (l ≤ c), decide (c ≤ 281474976710656), decide (i.bytes * c ≤ 281474976710656)]), .cells (repE c z) el (some (l, c, i.size)))) else none
      | none => none
    | _, _ => none
  | _, _, _ => none
def eMakeSlice (s : St) (t : TypeId) (len cap : V) : Er := mkNew s (mMakeSlice P t len cap)

def eBytes (s : St) (src dst : TypeId) (a : V) : Er :=
  match P.underlying src, P.underlying dst, a with
  | some _, some (.slice e), .str x => match P.underlying e with
    | some (.int .u8) => some ([], .rs s.next 0 x.size x.size false 1, s.new (.rows [.int .u8] (bytesL x) e true))
    | _ => none
  | _, _, _ => none
end

section
variable {P : Program} {own : Own} {ρ : Env} {s : St} {w : World}

def CP (ρ : Env) (O : Nat) (cs : List V) (C : Array Value) : Prop := ∀ (i : Nat) (v : V), cs[i]? = some v → ∃ W, C[O + i]? = some W ∧ VRel ρ v W
def setA : Array Value → Nat → List Value → Array Value
  | C, _, [] => C
  | C, o, v :: l => setA (C.setIfInBounds o v) (o + 1) l
theorem setA_size : ∀ (l : List Value) (C : Array Value) (o : Nat), (setA C o l).size = C.size
  | [], _, _ => rfl
  | v :: l, C, o => by simp [setA, setA_size l]

theorem CP.set {O : Nat} {cs : List V} {C : Array Value} (h : CP ρ O cs C) {v : V} {X : Value} (hv : VRel ρ v X) {o : Nat} (ho : O + o < C.size) : CP ρ O (cs.set o v) (C.setIfInBounds (O + o) X) := by
  intro i u hi
  rw [List.getElem?_set] at hi
  rw [Array.getElem?_setIfInBounds]
  by_cases e : o = i
  · subst e
    simp only [if_true] at hi ⊢
    split at hi
    · cases hi; exact ⟨X, by simp [ho], hv⟩
    · cases hi
  · rw [if_neg e] at hi
    rw [if_neg (by omega)]
    exact h i u hi

theorem CP.setAll {O : Nat} : ∀ {l : List V} {L : List Value}, LRel ρ l L → ∀ {cs : List V} {C : Array Value}, CP ρ O cs C → ∀ {o : Nat}, O + o + l.length ≤ C.size → CP ρ O (setAll cs o l) (setA C (O + o) L)
  | [], L, hl, cs, C, h, o, ho => by
    have hl : L = [] := hl
    subst hl; exact h
  | v :: l, L, hl, cs, C, h, o, ho => by
    obtain ⟨X, Y, rfl, h1, h2⟩ := hl
    simp only [List.length_cons] at ho
    have := CP.setAll h2 (h.set h1 (o := o) (by omega)) (o := o + 1) (by simp; omega)
    rw [← lset_eq] at this
    exact this

theorem oneV_rel {v : V} {X : Value} (h : VRel ρ v X) (ho : oneV v = true) : X.oneCell' = true := by
  cases v <;> simp only [oneV, Bool.false_eq_true] at ho <;> simp only [VRel] at h
  all_goals first
    | (subst h; rfl)
    | (obtain ⟨_, _, _, _, rfl⟩ := h; rfl)
    | (obtain ⟨_, _, _, _, _, rfl, _⟩ := h; rfl)
    | (obtain ⟨_, _, rfl⟩ := h; rfl)
    | (obtain ⟨_, _, rfl, _⟩ := h; rfl)
    | (obtain ⟨_, rfl, _⟩ := h; rfl)
theorem allOne_rel : ∀ {l : List V} {L : List Value}, LRel ρ l L → l.all oneV = true → ∀ X ∈ L, X.oneCell' = true
  | [], L, h, _, X, hX => by have h : L = [] := h; subst h; cases hX
  | v :: l, L, h, ho, X, hX => by
    obtain ⟨Y, Z, rfl, h1, h2⟩ := h
    simp only [List.all_cons, Bool.and_eq_true] at ho
    rcases List.mem_cons.1 hX with rfl | hX
    · exact oneV_rel h1 ho.1
    · exact allOne_rel h2 ho.2 X hX

def NotFrozen (S : Nat) (fr : Nat × Nat) : Prop := ∀ k, k < S → (decide (fr.1 ≤ k) && decide (k < fr.2)) = false

theorem set_at {w : World} {B : Nat} {C : Array Value} {t : TypeId} {fr : Nat × Nat} (h : w.heap[B]? = some (.cells C t fr)) (o : Nat) (X : Value) :
    w.setCell ⟨B, o, none⟩ X = { w with heap := w.heap.setIfInBounds B (.cells (C.setIfInBounds o X) t fr) } := by
  simp only [World.setCell]
  congr 1
  apply Array.ext_getElem?
  intro i
  rw [Array.getElem?_modify, Array.getElem?_setIfInBounds]
  have hlt : B < w.heap.size := by
    rcases Nat.lt_or_ge B w.heap.size with hh | hh
    · exact hh
    · rw [Array.getElem?_eq_none hh] at h; cases h
  by_cases e : B = i
  · subst e
    have hh : w.heap[B] = .cells C t fr := by
      rw [Array.getElem?_eq_getElem hlt] at h
      exact Option.some.inj h
    simp [hlt, hh]
  · simp [e]

theorem run_storeAll {B : Nat} {t : TypeId} {fr : Nat × Nat} : ∀ (vs : List Value) (off i : Nat) (C : Array Value) (w : World), w.heap[B]? = some (.cells C t fr) → NotFrozen C.size fr → off + i + vs.length ≤ C.size →
    (∀ v ∈ vs, v.oneCell' = true) → (storeCells ⟨B, off, none⟩ vs i).run P w = .ok () { w with heap := w.heap.setIfInBounds B (.cells (setA C (off + i) vs) t fr) }
  | [], off, i, C, w, hw, _, _, _ => by
    simp only [storeCells, Sem.run_pure, setA]
    congr 1
    cases w with
    | mk heap tape drawn os output =>
      simp only at hw ⊢
      congr 1
      apply Array.ext_getElem?
      intro k
      rw [Array.getElem?_setIfInBounds]
      split
      · rename_i e; subst e
        split
        · exact hw
        · rename_i hh; rw [Array.getElem?_eq_none (by omega)] at hw; cases hw
      · rfl
  | v :: vs, off, i, C, w, hw, hf, hl, h1 => by
    simp only [List.length_cons] at hl
    have hlt : off + i < C.size := by omega
    have hc : w.cell? ⟨B, off + i, none⟩ = some C[off + i] := by simp [World.cell?, hw, hlt]
    have hfr : w.frozen? ⟨B, off + i, none⟩ = false := by simp only [World.frozen?, hw]; exact hf _ hlt
    simp only [storeCells, Sem.run_bind, addr_add, run_store P w _ v _ (h1 v (by simp)), hc, hfr, Bool.false_eq_true, if_false, Result.andThen_ok, set_at hw]
    have hB : B < w.heap.size := by
      rcases Nat.lt_or_ge B w.heap.size with hh | hh
      · exact hh
      · rw [Array.getElem?_eq_none hh] at hw; cases hw
    have := run_storeAll (B := B) (t := t) (fr := fr) vs off (i + 1) (C.setIfInBounds (off + i) v) { w with heap := w.heap.setIfInBounds B (.cells (C.setIfInBounds (off + i) v) t fr) }
      (by simp [hB]) (by simpa using hf) (by simp; omega) (fun u hu => h1 u (by simp [hu]))
    rw [this]
    simp [setA, Nat.add_assoc]

theorem SRel.cellsObj (h : SRel own ρ s w) {b : Nat} {cs : List V} {t : TypeId} {ish : Bool} (hg : s.heap.get b = some (.cells cs t ish)) {x : Blk} (hx : ρ b = some x) :
    ∃ C t' fr, w.heap[x.B]? = some (.cells C t' fr) ∧ C.size = x.S ∧ x.O + cs.length ≤ x.S ∧ CP ρ x.O cs C ∧ NotFrozen x.S fr ∧ (ish = false → fr = (0, 0)) ∧ (own x.B ∧ ∀ k, ρ.φ x.B k = none) := by
  obtain ⟨y, h1, h2, C, t', fr, h3, h4, h5, h6, h7, h8⟩ := h.obj' hg hx
  rw [hx] at h1; cases h1
  exact ⟨C, t', fr, h3, h4, h5, h6, h7, h8, h2⟩

theorem SRel.write (h : SRel own ρ s w) {b : Nat} {cs : List V} {t : TypeId} {ish : Bool} (hg : s.heap.get b = some (.cells cs t ish)) {x : Blk} (hx : ρ b = some x)
    {o : Nat} {l : List V} {L : List Value} (hl : LRel ρ l L) (ho : o + l.length ≤ cs.length) (h1 : l.all oneV = true) :
    ∃ w', (storeCells ⟨x.B, x.O + o, none⟩ L).run P w = .ok () w' ∧ SRel own ρ (s.upd b (.cells (Sym.setAll cs o l) t ish)) w' ∧ Fr own w w' := by
  obtain ⟨C, t', fr, e1, e2, e3, e4, e5, e6, e7⟩ := h.cellsObj hg hx
  have hlen := hl.length
  have hrun := run_storeAll (P := P) L (x.O + o) 0 C w e1 (by rw [e2]; exact e5) (by omega) (allOne_rel hl h1)
  refine ⟨_, hrun, ?_, fr_set e7.1 rfl⟩
  refine h.upd hg hx _ _ rfl ⟨_, t', fr, rfl, by rw [setA_size]; exact e2, by rw [setAll_length]; exact e3, ?_, e5, e6⟩
  rw [Nat.add_zero]
  exact CP.setAll hl e4 (by omega)

theorem TRel_lst (φ : Nat → Nat → Option Value) (e : List Ty) (L : (Ty.lst e).den) (X : Value) : TRel φ (.lst e) L X ↔ ∃ a c, X = .slice a (List.length (α := rowDen e) L) c ∧ List.length (α := rowDen e) L ≤ c ∧ (a = none → c = 0) ∧
      (0 < List.length (α := rowDen e) L → ∃ B o, a = some ⟨B, o, none⟩ ∧ ∀ i, i < List.length (α := rowDen e) L → CRel φ e (rowAt e L i) (fun j => φ B (o + i * e.length + j))) := by
  rw [TRel]
theorem ofV_rel : ∀ (t : Ty) (v : V) (x : t.den) (X : Value), ofV t v = some x → VRel ρ v X → TRel ρ.φ t x X
  | .int k, v, x, X, h, hv => by
    change ofInt k v = some x at h
    unfold ofInt at h
    split at h
    · rename_i k' n
      rw [kEq_iff] at h
      by_cases hk : k = k'
      · subst hk
        simp only [decide_true, cond_true] at h
        cases h
        rw [TRel]; simpa only [VRel] using hv
      · simp [hk] at h
    · cases h
  | .bool, v, x, X, h, hv => by
    change ofBool v = some x at h
    unfold ofBool at h
    split at h
    · cases h
      rw [TRel]; simpa only [VRel] using hv
    · cases h
  | .str, v, x, X, h, hv => by
    change ofStr v = some x at h
    unfold ofStr at h
    split at h
    · cases h
      rw [TRel]; simpa only [VRel] using hv
    · cases h
  | .lst e, v, x, X, h, hv => by
    change ofLst e v = some x at h
    unfold ofLst at h
    split at h
    · rename_i e' L cl
      obtain ⟨q, e1⟩ := asL_some h
      subst q
      have e1 : x = L := e1
      subst e1
      rw [TRel]
      simp only [VRel] at hv
      obtain ⟨a, c, h1, h2, _, h3, h4⟩ := hv
      exact ⟨a, c, h1, h2, h3, fun hp => let ⟨B, o, g1, g2⟩ := h4 hp; ⟨B, o, g1, fun i hi => by simpa [Nat.add_assoc] using g2 i hi⟩⟩
    · cases h
      simp only [VRel] at hv
      exact (TRel_lst ρ.φ e _ X).2 ⟨none, 0, hv, Nat.le_refl _, fun _ => rfl, fun hp => absurd hp (Nat.lt_irrefl _)⟩
    · cases h
theorem pairO_some {α β : Type} {x : Option α} {y : Option β} {r : α × β} (h : pairO x y = some r) : x = some r.1 ∧ y = some r.2 := by
  cases x <;> cases y <;> simp only [pairO, reduceCtorEq, Option.some.injEq] at h
  subst h; exact ⟨rfl, rfl⟩
theorem oneO_some {α : Type} {f : V → Option α} {l : List V} {r : α} (h : oneO f l = some r) : ∃ v, l = [v] ∧ f v = some r := by
  unfold oneO at h
  split at h
  · exact ⟨_, rfl, h⟩
  · cases h
theorem consO_some {α β : Type} {f : V → Option α} {g : List V → Option β} {l : List V} {r : α × β} (h : consO f g l = some r) : ∃ v vs, l = v :: vs ∧ f v = some r.1 ∧ g vs = some r.2 := by
  unfold consO at h
  split at h
  · obtain ⟨h1, h2⟩ := pairO_some h
    exact ⟨_, _, rfl, h1, h2⟩
  · cases h
theorem ofRow_rel : ∀ (e : List Ty) (l : List V) (x : rowDen e), ofRow e l = some x → ∀ {C : Nat → Option Value}, (∀ i v, l[i]? = some v → ∃ W, C i = some W ∧ VRel ρ v W) → CRel ρ.φ e x C
  | [], l, x, h, C, hc => by rw [CRel]; trivial
  | [t], l, x, h, C, hc => by
    obtain ⟨v, rfl, hv⟩ := oneO_some (α := t.den) h
    obtain ⟨W, h1, h2⟩ := hc 0 v rfl
    rw [CRel]
    exact ⟨W, h1, ofV_rel t v x W hv h2⟩
  | t :: u :: ts, l, x, h, C, hc => by
    obtain ⟨v, vs, rfl, ha, hb⟩ := consO_some (α := t.den) (β := rowDen (u :: ts)) h
    obtain ⟨W, h1, h2⟩ := hc 0 v rfl
    rw [CRel]
    exact ⟨⟨W, h1, ofV_rel t v _ W ha h2⟩, ofRow_rel (u :: ts) vs _ hb fun i v' hi => hc (i + 1) v' (by simpa using hi)⟩
theorem ofRow_length : ∀ (e : List Ty) (l : List V) (x : rowDen e), ofRow e l = some x → l.length = e.length
  | [], l, x, h => by
    change nilO l = some x at h
    unfold nilO at h
    split at h
    · rfl
    · cases h
  | [t], l, x, h => by
    obtain ⟨v, rfl, hv⟩ := oneO_some (α := t.den) h
    rfl
  | t :: u :: ts, l, x, h => by
    obtain ⟨v, vs, rfl, ha, hb⟩ := consO_some (α := t.den) (β := rowDen (u :: ts)) h
    simp [ofRow_length (u :: ts) vs _ hb]
theorem ofRows_spec (e : List Ty) : ∀ (n : Nat) (l : List V) (L : List (rowDen e)), ofRows e n l = some L → L.length = n ∧ l.length = n * e.length ∧
    ∀ {C : Nat → Option Value}, (∀ i v, l[i]? = some v → ∃ W, C i = some W ∧ VRel ρ v W) → RowsAt ρ.φ e L C
  | 0, l, L, h => by
    simp only [ofRows] at h
    split at h
    · cases h; exact ⟨rfl, by simp, fun _ i hi => absurd hi (by simp)⟩
    · cases h
  | n + 1, l, L, h => by
    simp only [ofRows, ltake_eq, ldrop_eq] at h
    split at h
    · rename_i x y hx hy
      cases h
      obtain ⟨i1, i2, i3⟩ := ofRows_spec e n _ _ hy
      have h1 := ofRow_length _ _ _ hx
      simp only [List.length_take, List.length_drop] at h1 i2
      refine ⟨by simp [i1], by rw [Nat.succ_mul]; omega, fun {C} hc => ?_⟩
      intro i hi
      cases i with
      | zero =>
        refine ofRow_rel e _ x hx fun j v hj => ?_
        have hlt : j < e.length := by
          have := (List.getElem?_eq_some_iff.1 hj).1
          simp at this; omega
        rw [List.getElem?_take_of_lt hlt] at hj
        simpa using hc j v hj
      | succ i =>
        have := i3 (C := fun k => C (e.length + k)) (fun j v hj => by
          rw [List.getElem?_drop] at hj
          exact hc _ v hj) i (by simpa using hi)
        have e2 : rowAt e (x :: y) (i + 1) = rowAt e y i := by simp [rowAt]
        rw [e2]
        refine CRel.mono (fun _ _ _ hv => hv) e _ (fun j v hv => ?_) this
        rw [← hv]; congr 1; rw [Nat.succ_mul]; omega
    · cases h

theorem CRel.ltφ {φ : Nat → Nat → Option Value} (e : List Ty) (x : rowDen e) {C : Nat → Option Value} (h : CRel φ e x C) : CRel φ e x (fun j => if j < e.length then C j else none) :=
  CRel.lt (ρ := ⟨fun _ => none, 0, φ⟩) e x h
theorem RowsAt.set {φ : Nat → Nat → Option Value} {e : List Ty} {L : List (rowDen e)} {C C' : Nat → Option Value} (h : RowsAt φ e L C) {i : Nat} {r : rowDen e} (hr : CRel φ e r (fun j => C' (i * e.length + j)))
    (hc : ∀ k, k < i * e.length ∨ (i + 1) * e.length ≤ k → C' k = C k) : RowsAt φ e (L.set i r) C' := by
  intro k hk
  simp only [List.length_set] at hk
  by_cases hik : i = k
  · subst hik
    have : rowAt e (L.set i r) i = r := by simp [rowAt, hk]
    rw [this]; exact hr
  · have : rowAt e (L.set i r) k = rowAt e L k := by simp [rowAt, List.getD_eq_getElem?_getD, List.getElem?_set_ne hik]
    rw [this]
    refine CRel.mono (fun _ _ _ hv => hv) e _ (fun j v hv => ?_) (CRel.ltφ e _ (h k hk))
    split at hv
    · rename_i hj
      rw [hc _ ?_]; exact hv
      rcases Nat.lt_or_gt_of_ne hik with hh | hh
      · right
        have := Nat.mul_le_mul_right e.length (show i + 1 ≤ k from hh); omega
      · left
        have := Nat.mul_le_mul_right e.length (show k + 1 ≤ i from hh)
        rw [Nat.succ_mul] at this; omega
    · cases hv

theorem arrTy_spec {t : TypeId} {n : Nat} {e : List Ty} (h : arrTy P t = some (n, e)) : ∃ el, P.underlying t = some (.array n el) ∧ szE P el = some e.length ∧ szE P t = some (n * e.length) ∧ 1 ≤ e.length := by
  unfold arrTy at h
  split at h
  · rename_i n' el hd
    split at h
    · rename_i e' z he hz
      cases hb : (Nat.beq z e'.length && (Nat.ble 1 z && match szE P t with
        | some zt => Nat.beq zt (n' * e'.length)
        | none => false)) with
      | false => rw [hb] at h; cases h
      | true =>
        rw [hb, cond_true] at h
        cases h
        simp only [Bool.and_eq_true, Nat.beq_eq, Nat.ble_eq] at hb
        obtain ⟨b1, b2, b3⟩ := hb
        split at b3
        · rename_i zt hzt
          have b3 := Nat.eq_of_beq_eq_true b3
          refine ⟨el, hd, by rw [hz, b1], by rw [hzt, b3], by omega⟩
        · cases b3
    · cases h
  · cases h

theorem arrRows_rel {n : Nat} {e : List Ty} {v : V} {M : List (rowDen e)} (h : arrRows n e v = some M) {X : Value} (hv : VRel ρ v X) : ∃ A, X = .agg A ∧ A.size = M.length * e.length ∧ RowsAt ρ.φ e M (fun k => A[k]?) := by
  unfold arrRows at h
  split at h
  · rename_i e' L
    obtain ⟨q, rfl⟩ := asL_some h
    subst q
    simp only [VRel] at hv
    exact hv
  · rename_i l
    simp only [VRel] at hv
    obtain ⟨A, rfl, hl⟩ := hv
    obtain ⟨h1, h2, h3⟩ := ofRows_spec (ρ := ρ) e n l M h
    have hlen := hl.length
    simp only [Array.length_toList] at hlen
    refine ⟨A, rfl, by rw [← hlen, h2, h1], h3 fun i u hi => ?_⟩
    obtain ⟨W, g1, g2⟩ := hl.get hi
    exact ⟨W, by simpa using g1, g2⟩
  · cases h

theorem setA_get : ∀ (l : List Value) (C : Array Value) (p k : Nat), p + l.length ≤ C.size → (setA C p l)[k]? = if p ≤ k ∧ k < p + l.length then l[k - p]? else C[k]? := by
  intro l
  induction l with
  | nil => intro C p k _; simp [setA]; omega
  | cons c l ih =>
    intro C p k hp
    simp only [List.length_cons] at hp ⊢
    simp only [setA]
    rw [ih _ _ _ (by simp; omega)]
    by_cases hk : k = p
    · subst hk
      rw [if_neg (by omega), if_pos (by omega), Array.getElem?_setIfInBounds_self_of_lt (by omega)]
      simp
    · by_cases hk2 : p + 1 ≤ k ∧ k < p + 1 + l.length
      · rw [if_pos hk2, if_pos (by omega)]
        obtain ⟨d, rfl⟩ : ∃ d, k = p + 1 + d := ⟨k - (p + 1), by omega⟩
        rw [show p + 1 + d - (p + 1) = d from by omega, show p + 1 + d - p = d + 1 from by omega]
        simp
      · rw [if_neg hk2, if_neg (by omega), Array.getElem?_setIfInBounds_ne (by omega)]

theorem SRel.rowsObj (h : SRel own ρ s w) {b : Nat} {e : List Ty} {L : List (rowDen e)} {t : TypeId} {ish : Bool} (hg : s.heap.get b = some (.rows e L t ish)) {x : Blk} (hx : ρ b = some x) :
    ∃ C t' fr, w.heap[x.B]? = some (.cells C t' fr) ∧ C.size = x.S ∧ x.O + L.length * e.length ≤ x.S ∧ RowsAt ρ.φ e L (fun k => C[x.O + k]?) ∧ NotFrozen x.S fr ∧ (ish = false → fr = (0, 0)) ∧ (own x.B ∧ ∀ k, ρ.φ x.B k = none) := by
  obtain ⟨y, h1, h2, C, t', fr, h3, h4, h5, h6, h7, h8⟩ := h.obj' hg hx
  rw [hx] at h1; cases h1
  exact ⟨C, t', fr, h3, h4, h5, h6, h7, h8, h2⟩

def Ones (L : List Value) : Prop := ∀ X ∈ L, X.oneCell' = true
theorem TRel.one {φ : Nat → Nat → Option Value} : ∀ (t : Ty) (x : t.den) (X : Value), TRel φ t x X → X.oneCell' = true
  | .int k, n, X, h => by rw [TRel] at h; subst h; rfl
  | .bool, b, X, h => by rw [TRel] at h; subst h; rfl
  | .str, s, X, h => by rw [TRel] at h; subst h; rfl
  | .lst e, L, X, h => by rw [TRel] at h; obtain ⟨a, c, rfl, _⟩ := h; rfl
theorem CRel.one {φ : Nat → Nat → Option Value} : ∀ (e : List Ty) (x : rowDen e) (C : Nat → Option Value), CRel φ e x C → ∀ j X, j < e.length → C j = some X → X.oneCell' = true
  | [], _, _, _, j, X, hj, _ => by simp at hj
  | [t], x, C, h, j, X, hj, hX => by
    rw [CRel] at h
    obtain ⟨Y, h1, h2⟩ := h
    have : j = 0 := by simpa using hj
    subst this
    rw [h1] at hX; cases hX
    exact TRel.one t _ _ h2
  | t :: u :: ts, x, C, h, j, X, hj, hX => by
    rw [CRel] at h
    obtain ⟨⟨Y, h1, h2⟩, h3⟩ := h
    cases j with
    | zero => rw [h1] at hX; cases hX; exact TRel.one t _ _ h2
    | succ j => exact CRel.one (u :: ts) x.2 _ h3 j X (by simpa using hj) hX
theorem CRel.some {φ : Nat → Nat → Option Value} : ∀ (e : List Ty) (x : rowDen e) (C : Nat → Option Value), CRel φ e x C → ∀ j, j < e.length → ∃ X, C j = some X
  | [], _, _, _, j, hj => by simp at hj
  | [t], x, C, h, j, hj => by
    rw [CRel] at h
    obtain ⟨Y, h1, h2⟩ := h
    have : j = 0 := by simpa using hj
    subst this
    exact ⟨_, h1⟩
  | t :: u :: ts, x, C, h, j, hj => by
    rw [CRel] at h
    obtain ⟨⟨Y, h1, h2⟩, h3⟩ := h
    cases j with
    | zero => exact ⟨_, h1⟩
    | succ j => exact CRel.some (u :: ts) x.2 _ h3 j (by simpa using hj)
theorem RowsAt.cell {φ : Nat → Nat → Option Value} {e : List Ty} {L : List (rowDen e)} {C : Nat → Option Value} (h : RowsAt φ e L C) {k : Nat} (hk : k < L.length * e.length) : ∃ X, C k = some X ∧ X.oneCell' = true := by
  have he0 : 0 < e.length := by
    rcases Nat.eq_zero_or_pos e.length with h0 | h0
    · rw [h0] at hk; simp at hk
    · exact h0
  have hkk : k / e.length < L.length := (Nat.div_lt_iff_lt_mul he0).2 hk
  have hm := Nat.mod_lt k he0
  obtain ⟨X, hX⟩ := CRel.some e _ _ (h _ hkk) _ hm
  have e2 : k / e.length * e.length + k % e.length = k := by rw [Nat.mul_comm]; exact Nat.div_add_mod k e.length
  refine ⟨X, ?_, CRel.one e _ _ (h _ hkk) _ X hm hX⟩
  simpa [e2] using hX
theorem RowsAt.list {φ : Nat → Nat → Option Value} {e : List Ty} {L : List (rowDen e)} {C : Nat → Option Value} (h : RowsAt φ e L C) :
    ∃ V : List Value, V.length = L.length * e.length ∧ (∀ k X, V[k]? = some X → C k = some X) ∧ RowsAt φ e L (fun k => V[k]?) ∧ Ones V := by
  have hex : ∀ k, k < L.length * e.length → ∃ X, C k = some X ∧ X.oneCell' = true := fun k hk => h.cell hk
  refine ⟨(List.range (L.length * e.length)).map fun k => if hk : k < L.length * e.length then (hex k hk).choose else undef, by simp, ?_, ?_, ?_⟩
  · intro k X hX
    have hk : k < L.length * e.length := by
      have := (List.getElem?_eq_some_iff.1 hX).1
      simpa using this
    rw [List.getElem?_map, List.getElem?_range hk] at hX
    simp only [Option.map_some, hk, dif_pos, Option.some.injEq] at hX
    subst hX
    exact (hex k hk).choose_spec.1
  · intro i hi
    refine CRel.mono (fun _ _ _ hv => hv) e _ (fun j v hv => ?_) (CRel.ltφ e _ (h i hi))
    split at hv
    · rename_i hj
      have hk : i * e.length + j < L.length * e.length := by
        have h1 : (i + 1) * e.length ≤ L.length * e.length := Nat.mul_le_mul_right _ hi
        rw [Nat.succ_mul] at h1; omega
      show ((List.range (L.length * e.length)).map _)[i * e.length + j]? = _
      rw [List.getElem?_map, List.getElem?_range hk]
      simp only [Option.map_some, hk, dif_pos]
      rw [← (hex _ hk).choose_spec.1]
      exact hv
    · cases hv
  · intro X hX
    obtain ⟨k, hk, rfl⟩ := List.mem_map.1 hX
    have hk : k < L.length * e.length := by simpa using hk
    simp only [hk, dif_pos]
    exact (hex k hk).choose_spec.2

theorem SRel.writeRows (h : SRel own ρ s w) {b : Nat} {e : List Ty} {L : List (rowDen e)} {t : TypeId} {ish : Bool} (hg : s.heap.get b = some (.rows e L t ish)) {x : Blk} (hx : ρ b = some x)
    {o : Nat} {V : List Value} (ho : o + V.length ≤ L.length * e.length) (h1 : Ones V) {M : List (rowDen e)} (hM : M.length * e.length ≤ L.length * e.length)
    (hrel : ∀ C C' : Array Value, RowsAt ρ.φ e L (fun k => C[x.O + k]?) → (∀ k, C'[x.O + k]? = if o ≤ k ∧ k < o + V.length then V[k - o]? else C[x.O + k]?) → RowsAt ρ.φ e M (fun k => C'[x.O + k]?)) :
    ∃ w', (storeCells ⟨x.B, x.O + o, none⟩ V).run P w = .ok () w' ∧ SRel own ρ (s.upd b (.rows e M t ish)) w' ∧ Fr own w w' := by
  obtain ⟨C, t', fr, e1, e2, e3, e4, e5, e6, e7⟩ := h.rowsObj hg hx
  have hrun := run_storeAll (P := P) V (x.O + o) 0 C w e1 (by rw [e2]; exact e5) (by omega) h1
  refine ⟨_, hrun, ?_, fr_set e7.1 rfl⟩
  refine h.upd hg hx _ _ rfl ⟨_, t', fr, rfl, by rw [setA_size]; exact e2, by omega, ?_, e5, e6⟩
  rw [Nat.add_zero]
  refine hrel C _ e4 fun k => ?_
  rw [setA_get _ _ _ _ (by omega)]
  by_cases hk : o ≤ k ∧ k < o + V.length
  · rw [if_pos hk, if_pos (by omega)]; congr 1; omega
  · rw [if_neg hk, if_neg (by omega)]

theorem eStore_rel (h : SRel own ρ s w) {t : TypeId} {a v : V} {s' : St} {ps : List Bool} (hq : eStore P s t a v = some (ps, s')) (hp : allB ps) {A X : Value} (ha : VRel ρ a A) (hv : VRel ρ v X) :
    ∃ w', (Instr.storeAt t A X).run P w = .ok () w' ∧ SRel own ρ s' w' ∧ Fr own w w' := by
  unfold eStore at hq
  simp only [llen_eq, lall_eq, ltake_eq, ldrop_eq, lapp_eq, lget_eq] at hq
  split at hq
  · rename_i b o
    split at hq
    · rename_i cs t' ish hg
      split at hq
      · rename_i n c hn hcv
        cases hb : (Nat.beq c.length n && (Nat.ble (o + n) cs.length && c.all oneV)) with
        | false => simp [hb] at hq
        | true =>
          simp only [hb, cond_true] at hq
          cases hq
          simp only [Bool.and_eq_true, Nat.ble_eq, Nat.beq_eq] at hb
          simp only [VRel] at ha
          obtain ⟨B, O, S, hB, rfl⟩ := ha
          have hc := cellsO_rel hcv hv
          obtain ⟨w', h1, h2, h3⟩ := h.write (P := P) hg hB hc (o := o) (by omega) hb.2.2
          refine ⟨w', ?_, h2, h3⟩
          have hl := hc.length
          simp only [Array.length_toList] at hl
          have : ¬ X.cells.size ≠ n := by omega
          simp only at h1
          simp [Instr.storeAt, Instr.sureAddr, storeVar, run_size hn, this, h1]
      · cases hq
    · cases hq
  · rename_i b i j es
    split at hq
    · rename_i e L t' ish hg
      cases hes : Nat.beq es e.length with
      | false => rw [hes] at hq; cases hq
      | true =>
      have he := Nat.eq_of_beq_eq_true hes
      subst he
      simp only [hes, Bool.not_true, cond_false] at hq
      simp only [VRel] at ha
      obtain ⟨B, O, S, hB, rfl⟩ := ha
      split at hq
      · rename_i n e2 hat
        split at hq
        · cases hbe : beqL e2 e with
          | false => rw [hbe] at hq; cases hq
          | true =>
          have := beqL_eq _ _ hbe
          subst this
          simp only [hbe, Bool.not_true, cond_false] at hq
          split at hq
          · rename_i M hM
            cases hq
            obtain ⟨p1, p2, _⟩ := hp
            simp only [decide_eq_true_eq] at p1 p2
            obtain ⟨el, _, _, hsz, _⟩ := arrTy_spec hat
            obtain ⟨A, rfl, hA, hr⟩ := arrRows_rel hM hv
            obtain ⟨w', g1, g2, g3⟩ := h.writeRows (P := P) hg hB (o := 0) (V := A.toList) (by simp [hA, p1, p2]) (fun X hX => by
              obtain ⟨k, hk⟩ := List.mem_iff_getElem?.1 hX
              have hlt : k < M.length * e2.length := by
                have := (List.getElem?_eq_some_iff.1 hk).1
                simpa [hA] using this
              obtain ⟨Y, q1, q2⟩ := hr.cell hlt
              rw [Array.getElem?_toList, q1] at hk
              cases hk; exact q2) (M := M) (by rw [p1, p2]; exact Nat.le_refl _) (fun C C' _ hC => by
              refine RowsAt.mono (fun _ _ _ hv => hv) (fun k u hu => ?_) hr
              have hk : k < A.size := (Array.getElem?_eq_some_iff.1 hu).1
              show C'[O + k]? = _
              have := hC k
              rw [this, if_pos (by simp; omega)]
              simpa using hu)
            refine ⟨w', ?_, g2, g3⟩
            simp only [Nat.add_zero] at g1
            have hne : ¬ A.size ≠ n * e2.length := by rw [hA, p1]; simp
            simp [Instr.storeAt, Instr.sureAddr, storeVar, run_size hsz, Value.cells, hne, g1]
          · cases hq
        · cases hq
      · split at hq
        · rename_i n c hn hcv
          cases hb : (Nat.beq c.length n && (Nat.ble (j + n) e.length && c.all oneV)) with
          | false => rw [hb] at hq; cases hq
          | true =>
          rw [hb, cond_true] at hq
          simp only [Bool.and_eq_true, Nat.ble_eq, Nat.beq_eq] at hb
          split at hq
          · rename_i r hr
            cases hq
            have hi : i < L.length := by simpa using hp.1
            have hc := cellsO_rel hcv hv
            have hl := hc.length
            simp only [Array.length_toList] at hl
            have hmul : (i + 1) * e.length ≤ L.length * e.length := Nat.mul_le_mul_right _ hi
            rw [Nat.succ_mul] at hmul
            obtain ⟨w', g1, g2, g3⟩ := h.writeRows (P := P) hg hB (o := i * e.length + j) (V := X.cells.toList) (by simp; omega) (allOne_rel hc hb.2.2) (M := L.set i r) (by simp) (fun C C' hC hC' => by
              refine hC.set ?_ ?_
              · refine ofRow_rel e _ r hr fun k u hk => ?_
                have hrow := rowV_get (ρ := ρ) e _ (hC i hi)
                have hlr := rowV_length e (rowAt e L i)
                have sg : ∀ (l cs : List V) (off k : Nat), off + l.length ≤ cs.length → (Sym.setAll cs off l)[k]? = if off ≤ k ∧ k < off + l.length then l[k - off]? else cs[k]? := by
                  intro l
                  induction l with
                  | nil => intro cs off k _; simp [Sym.setAll]; omega
                  | cons c l ih =>
                    intro cs off k ho
                    simp only [List.length_cons] at ho ⊢
                    simp only [Sym.setAll, lset_eq]
                    rw [ih _ _ _ (by simp; omega)]
                    by_cases hk : k = off
                    · subst hk
                      rw [if_neg (by omega), if_pos (by omega), List.getElem?_set_self (by omega)]
                      simp
                    · by_cases hk2 : off + 1 ≤ k ∧ k < off + 1 + l.length
                      · rw [if_pos hk2, if_pos (by omega)]
                        obtain ⟨d, rfl⟩ : ∃ d, k = off + 1 + d := ⟨k - (off + 1), by omega⟩
                        rw [show off + 1 + d - (off + 1) = d from by omega, show off + 1 + d - off = d + 1 from by omega]
                        simp
                      · rw [if_neg hk2, if_neg (by omega), List.getElem?_set_ne (by omega)]
                rw [sg _ _ _ _ (by omega)] at hk
                have hck := hC' (i * e.length + k)
                simp only at hck
                rw [hck]
                by_cases hjk : j ≤ k ∧ k < j + c.length
                · rw [if_pos hjk] at hk
                  rw [if_pos (by simp; omega)]
                  obtain ⟨W, q1, q2⟩ := hc.get hk
                  refine ⟨W, ?_, q2⟩
                  rw [show i * e.length + k - (i * e.length + j) = k - j from by omega]
                  exact q1
                · rw [if_neg hjk] at hk
                  rw [if_neg (by simp; omega)]
                  exact hrow k u hk
              · intro k hk
                have hck := hC' k
                simp only at hck
                rw [Nat.succ_mul] at hk
                rw [hck, if_neg (by simp; omega)])
            refine ⟨w', ?_, g2, g3⟩
            have hne : ¬ X.cells.size ≠ n := by omega
            simp only [← Nat.add_assoc] at g1
            simp [Instr.storeAt, Instr.sureAddr, storeVar, run_size hn, hne, g1]
          · cases hq
        · cases hq
    · cases hq
  · cases hq

end
end Go.Sym
end

section
namespace Go.Sym
set_option linter.unusedSimpArgs false
set_option linter.unusedVariables false
section
variable {P : Program} {own : Own} {ρ : Env} {s : St} {w : World}

theorem SRel.newCells (h : SRel own ρ s w) {cs : List V} {C : Array Value} (hc : LRel ρ cs C.toList) (t t' : TypeId) :
    ρ.le (ρ.put s.next ⟨w.heap.size, 0, C.size⟩) ∧ SRel own (ρ.put s.next ⟨w.heap.size, 0, C.size⟩) (s.new (.cells cs t false)) { w with heap := w.heap.push (.cells C t') } ∧
      Fr own w { w with heap := w.heap.push (.cells C t') } := by
  have hle := Env.le_put ⟨w.heap.size, 0, C.size⟩ h.fresh
  refine ⟨hle, h.new _ (.cells C t') C.size rfl ⟨C, t', (0, 0), rfl, rfl, ?_, ?_, by simp, fun _ => rfl⟩, fr_new h.le rfl⟩
  · have := hc.length; simp at this; omega
  · intro i v hi
    obtain ⟨X, e1, e2⟩ := hc.get hi
    exact ⟨X, by simpa using e1, VRel.mono hle _ _ e2⟩

def OKv (P : Program) (own : Own) (ρ : Env) (m : Sem Value) (w : World) (v : V) (s' : St) : Prop :=
  ∃ ρ' X w', ρ.le ρ' ∧ m.run P w = .ok X w' ∧ VRel ρ' v X ∧ SRel own ρ' s' w' ∧ Fr own w w'

theorem SRel.newRows (h : SRel own ρ s w) {e : List Ty} {L : List (rowDen e)} {C : Array Value} (hs : L.length * e.length ≤ C.size) (hc : RowsAt ρ.φ e L (fun k => C[k]?)) (t t' : TypeId) :
    ρ.le (ρ.put s.next ⟨w.heap.size, 0, C.size⟩) ∧ SRel own (ρ.put s.next ⟨w.heap.size, 0, C.size⟩) (s.new (.rows e L t false)) { w with heap := w.heap.push (.cells C t') } ∧
      Fr own w { w with heap := w.heap.push (.cells C t') } := by
  have hle := Env.le_put ⟨w.heap.size, 0, C.size⟩ h.fresh
  refine ⟨hle, h.new _ (.cells C t') C.size rfl ⟨C, t', (0, 0), rfl, rfl, ?_, ?_, by simp, fun _ => rfl⟩, fr_new h.le rfl⟩
  · omega
  · show RowsAt ρ.φ e L (fun k => C[0 + k]?)
    simpa using hc

def MkOK (P : Program) (ρ : Env) (m : Sem Value) (w : World) : Mk → Prop
  | .cells cs t sl => ∃ X C t', m.run P w = .ok X { w with heap := w.heap.push (.cells C t') } ∧ LRel ρ cs C.toList ∧
      ∀ (ρ' : Env) (b : Nat), ρ' b = some ⟨w.heap.size, 0, C.size⟩ → VRel ρ' ((Mk.cells cs t sl).val b) X
  | .rows e L t sl => ∃ X C t', m.run P w = .ok X { w with heap := w.heap.push (.cells C t') } ∧ C.size = L.length * e.length ∧ RowsAt ρ.φ e L (fun k => C[k]?) ∧
      ∀ (ρ' : Env) (b : Nat), ρ' b = some ⟨w.heap.size, 0, C.size⟩ → VRel ρ' ((Mk.rows e L t sl).val b) X
theorem mkNew_rel (h : SRel own ρ s w) {m : Option (List Bool × Mk)} {v : V} {s' : St} {ps : List Bool} (hq : mkNew s m = some (ps, v, s')) (hp : allB ps) {x : Sem Value} (hm : ∀ c k, m = some (c, k) → allB c → MkOK P ρ x w k) : OKv P own ρ x w v s' := by
  unfold mkNew at hq
  split at hq
  · rename_i c m
    cases hq
    have hm := hm _ _ rfl hp
    cases m with
    | cells cs t sl =>
      obtain ⟨X, C, t', e1, e2, e3⟩ := hm
      obtain ⟨h1, h2, h3⟩ := h.newCells e2 t t'
      exact ⟨_, X, _, h1, e1, e3 _ _ Env.put_same, h2, h3⟩
    | rows e L t sl =>
      obtain ⟨X, C, t', e1, e2, e3, e4⟩ := hm
      obtain ⟨h1, h2, h3⟩ := h.newRows (by omega) e3 t t'
      exact ⟨_, X, _, h1, e1, e4 _ _ Env.put_same, h2, h3⟩
  · cases hq

theorem mBox_rel {t : TypeId} {v : V} {m : Mk} {c : List Bool} (hq : mBox P t v = some (c, m)) {X : Value} (hv : VRel ρ v X) : MkOK P ρ (Instr.box t X) w m := by
  have run : (Instr.box t X).run P w = .ok (.pointer (some ⟨w.heap.size, 0, none⟩)) { w with heap := w.heap.push (.cells X.cells t) } := by
    simp [Instr.box, newVar, newRow]
  unfold mBox at hq
  split at hq
  · rename_i n e hat
    split at hq
    · rename_i L hL
      cases hq
      obtain ⟨A, rfl, h1, h2⟩ := arrRows_rel hL hv
      refine ⟨_, A, t, run, h1, h2, fun ρ' b hb => ?_⟩
      simp only [Mk.val, VRel]
      exact ⟨_, _, _, hb, by simp⟩
    · cases hq
  · split at hq
    · rename_i cc hcc
      cases hq
      refine ⟨_, X.cells, t, run, cellsO_rel hcc hv, fun ρ' b hb => ?_⟩
      simp only [Mk.val, VRel]
      exact ⟨_, _, _, hb, rfl⟩
    · cases hq
theorem mAlloc_rel {t : TypeId} {m : Mk} {c : List Bool} (hq : mAlloc P t = some (c, m)) : MkOK P ρ (Instr.alloc t true (.tuple #[])) w m := by
  unfold mAlloc at hq
  split at hq
  · rename_i z hz
    obtain ⟨Z, hZ, hzr, _⟩ := zeroE_rel (ρ := ρ) (w := w) hz
    have hb := mBox_rel (w := w) hq hzr
    have e : (Instr.alloc t true (.tuple #[])).run P w = (Instr.box t Z).run P w := by
      simp only [Instr.alloc, Sem.run_bind, hZ, Result.andThen_ok]
      simp [Instr.box]
    cases m with
    | cells cs t' sl => obtain ⟨X, C, t2, h1, h2⟩ := hb; exact ⟨X, C, t2, by rw [e]; exact h1, h2⟩
    | rows e' L t' sl => obtain ⟨X, C, t2, h1, h2⟩ := hb; exact ⟨X, C, t2, by rw [e]; exact h1, h2⟩
  · cases hq
theorem eAlloc_rel (h : SRel own ρ s w) {t : TypeId} {v : V} {s' : St} {ps : List Bool} (hq : eAlloc P s t = some (ps, v, s')) (hp : allB ps) : OKv P own ρ (Instr.alloc t true (.tuple #[])) w v s' :=
  mkNew_rel h hq hp fun _ _ h _ => mAlloc_rel h
theorem eBox_rel (h : SRel own ρ s w) {t : TypeId} {v u : V} {s' : St} {ps : List Bool} (hq : eBox P s t v = some (ps, u, s')) (hp : allB ps) {X : Value} (hv : VRel ρ v X) : OKv P own ρ (Instr.box t X) w u s' :=
  mkNew_rel h hq hp fun _ _ h _ => mBox_rel h hv

theorem repE_length : ∀ n (zs : List V), (repE n zs).length = n * zs.length
  | 0, _ => by simp [repE]
  | n + 1, zs => by simp [repE, lapp_eq, repE_length n, Nat.succ_mul, Nat.add_comm]
theorem repE_get : ∀ n (zs : List V) i, i < n * zs.length → (repE n zs)[i]? = zs[i % zs.length]?
  | 0, _, _, h => by simp at h
  | n + 1, zs, i, h => by
    simp only [repE, lapp_eq]
    rcases Nat.lt_or_ge i zs.length with hi | hi
    · rw [List.getElem?_append_left hi, Nat.mod_eq_of_lt hi]
    · rw [List.getElem?_append_right hi, repE_get n zs _ (by rw [Nat.succ_mul] at h; omega), ← Nat.mod_eq_sub_mod hi]

theorem range_rep {zs : List V} {Z : Array Value} (hz : LRel ρ zs Z.toList) (n : Nat) : LRel ρ (repE n zs) ((Array.range (n * zs.length)).map (fun i => Z[i % Z.size]!)).toList := by
  have hl := hz.length
  simp only [Array.length_toList] at hl
  refine LRel.of_get (by simp [repE_length]) fun i v hi => ?_
  have hlt : i < n * zs.length := by
    have := (List.getElem?_eq_some_iff.1 hi).1
    rwa [repE_length] at this
  rw [repE_get n zs i hlt] at hi
  obtain ⟨X, h1, h2⟩ := hz.get hi
  simp only [Array.getElem?_toList] at h1
  refine ⟨X, ?_, h2⟩
  simp only [Array.toList_map, Array.toList_range, List.getElem?_map, List.getElem?_range hlt, Option.map_some, Option.some.injEq]
  rw [← hl, Array.getElem!_eq_getD, Array.getD_eq_getD_getElem?, h1]
  rfl

theorem map_range0 {α : Type} (f : Nat → α) : (Array.range 0).map f = #[] := by apply Array.eq_empty_of_size_eq_zero; simp

theorem info_size {t : TypeId} {i : TypeInfo} (h : P.info? t = some i) : (sizeOf t).run P w = .ok i.size w := by simp [sizeOf, typeInfo, h]

theorem rowTy_spec {el : TypeId} {e : List Ty} (h : rowTy P el = some e) : szE P el = some e.length ∧ 1 ≤ e.length := by
  unfold rowTy at h
  split at h
  · rename_i e' z he hz
    cases hb : (Nat.beq z e'.length && Nat.ble 1 z) with
    | false => rw [hb] at h; cases h
    | true =>
      rw [hb, cond_true] at h
      cases h
      simp only [Bool.and_eq_true, Nat.beq_eq, Nat.ble_eq] at hb
      obtain ⟨h1, h2⟩ := hb
      exact ⟨by rw [hz, h1], by omega⟩
  · cases h
theorem mRows_ok {m : Sem Value} {el : TypeId} {len sz : Nat} {cs : List V} {C : Array Value} {t' : TypeId} (h1 : 1 ≤ sz) (hrun : m.run P w = .ok (.slice (some ⟨w.heap.size, 0, none⟩) len len) { w with heap := w.heap.push (.cells C t') })
    (hc : LRel ρ cs C.toList) (hlen : cs.length = len * sz) : MkOK P ρ m w (mRows P el len cs sz) := by
  have hl := hc.length
  simp only [Array.length_toList] at hl
  have plain : MkOK P ρ m w (.cells cs el (some (len, len, sz))) := by
    refine ⟨_, C, t', hrun, hc, fun ρ' b hb => ?_⟩
    simp only [Mk.val, VRel]
    exact ⟨_, _, _, len, hb, rfl, Nat.le_refl _, Nat.le_refl _, fun _ => rfl, by omega⟩
  unfold mRows
  split
  · rename_i e he
    obtain ⟨h3, h4⟩ := rowTy_spec he
    cases hb : Nat.beq e.length sz with
    | false => exact plain
    | true =>
    have hb := Nat.eq_of_beq_eq_true hb
    subst hb
    rw [cond_true]
    split
    · rename_i L hL
      obtain ⟨g1, g2, g3⟩ := ofRows_spec (ρ := ρ) e len cs L hL
      refine ⟨_, C, t', hrun, by rw [g1]; omega, g3 fun i v hi => ?_, fun ρ' b hb => ?_⟩
      · obtain ⟨W, q1, q2⟩ := hc.get hi
        exact ⟨W, by simpa using q1, q2⟩
      · simp only [Mk.val, VRel]
        refine ⟨_, _, rfl, Nat.le_refl _, Nat.le_refl _, fun _ => rfl, fun hn => (by cases hn), fun hp => ⟨_, _, _, hb, by simp, ?_⟩⟩
        omega
    · exact plain
  · exact plain

theorem fillE_length {sz : Nat} : ∀ (ps : List (Nat × V)) (c r : List V), fillE (fun i => some (i * sz, sz)) c ps = some r → r.length = c.length := by
  intro ps
  induction ps with
  | nil => intro c r hh; simp only [fillE] at hh; cases hh; rfl
  | cons p ps ih =>
    intro c r hh
    simp only [fillE, llen_eq] at hh
    split at hh
    · rename_i q1 q2 c2 q3 q4
      cases q3
      cases hc : (Nat.beq c2.length sz && Nat.ble (p.1 * sz + sz) c.length) with
      | false => simp [hc] at hh
      | true => simp only [hc, cond_true] at hh; rw [ih _ _ hh, setAll_length]
    · cases hh

theorem mBuildSlice_rel {t : TypeId} {len : Nat} {ps : List (Nat × V)} {m : Mk} {c : List Bool} (hq : mBuildSlice P t len ps = some (c, m)) {Ps : Array (Nat × Value)} (hp : PRel ρ ps Ps.toList) :
    MkOK P ρ (Instr.buildSlice t len Ps) w m := by
  unfold mBuildSlice at hq
  simp only [llen_eq, lall_eq, ltake_eq, ldrop_eq, lapp_eq, lget_eq] at hq
  split at hq
  · rename_i e hd
    split at hq
    · rename_i sz zv hsz hzv
      split at hq
      · rename_i z hz
        cases hb : (Nat.beq z.length sz && (Nat.ble (len * sz) 16777216 && Nat.ble 1 sz)) with
        | false => simp [hb] at hq
        | true =>
        simp only [hb, cond_true] at hq
        simp only [Bool.and_eq_true, Nat.ble_eq, Nat.beq_eq] at hb
        split at hq
        · rename_i cs hcs
          cases hq
          obtain ⟨Z, hZ, hzr, _⟩ := zeroE_rel (ρ := ρ) (w := w) hzv
          have hzc := cellsO_rel hz hzr
          have hrep := range_rep hzc len
          rw [hb.1] at hrep
          obtain ⟨R, e1, e2⟩ := fillE_rel hp hrep hcs
          refine mRows_ok (C := R) (t' := e) hb.2.2 ?_ e2 (by rw [fillE_length _ _ _ hcs, repE_length, hb.1])
          by_cases h0 : len * sz = 0
          · have hlen : len = 0 := by rcases Nat.mul_eq_zero.1 h0 with h | h; exact h; omega
            subst hlen
            simp only [Nat.zero_mul] at e1
            have e0 : (Array.range 0).map (fun i => Z.cells[i % Z.cells.size]!) = #[] := by apply Array.eq_empty_of_size_eq_zero; simp
            rw [e0] at e1
            have e1' : Instr.fill (fun i => some (i * sz, sz)) #[] Ps.toList = some R := e1
            simp [Instr.buildSlice, run_und hd, run_size hsz, newRow, map_range0, e1']
          · have hbig : ¬ len * sz > 2 ^ 24 := by omega
            have hbig' : ¬ 16777216 < len * sz := by omega
            simp only [Instr.buildSlice, Sem.run_bind, run_und hd, Result.andThen_ok, run_size hsz, Sem.run_ite, hbig, h0, if_false, hZ, Sem.run_pure]
            rw [e1]
            simp [newRow]
        · cases hq
      · cases hq
    · cases hq
  · cases hq

theorem eBuildSlice_rel (h : SRel own ρ s w) {t : TypeId} {len : Nat} {ps : List (Nat × V)} {v : V} {s' : St} {c : List Bool} (hq : eBuildSlice P s t len ps = some (c, v, s')) (hc : allB c) {Ps : Array (Nat × Value)} (hp : PRel ρ ps Ps.toList) :
    OKv P own ρ (Instr.buildSlice t len Ps) w v s' := mkNew_rel h hq hc fun _ _ h _ => mBuildSlice_rel h hp

theorem wrap_small {n : Nat} (h : n ≤ 281474976710656) : IntKind.i64.wrap (n : Int) = n := by
  have h2 : (n : Int) % (2 ^ IntKind.i64.bits : Int) = n := Int.emod_eq_of_lt (by omega) (by simp only [IntKind.bits]; omega)
  unfold IntKind.wrap
  simp only [h2]
  exact if_neg (by simp [IntKind.signed, IntKind.bits]; omega)

theorem run_makeSlice {t el : TypeId} {i : TypeInfo} {l c : Nat} {k1 k2 : IntKind} {Z : Value} (hd : P.underlying t = some (.slice el)) (hi : P.info? el = some i) (hZ : (zeroValue el).run P w = .ok Z w) (b2 : 1 ≤ i.size) (b3 : l ≤ c) (b4 : c ≤ 281474976710656) (b5 : i.bytes * c ≤ 281474976710656) :
    (Instr.makeSlice t (.int k1 (l : Int)) (.int k2 (c : Int))).run P w = .ok (.slice (some ⟨w.heap.size, 0, none⟩) l c) { w with heap := w.heap.push (.cells ((Array.range (c * i.size)).map fun j => Z.cells[j % Z.cells.size]!) el) } := by
  have w1 := wrap_small (n := l) (by omega)
  have w2 := wrap_small (n := c) b4
  have t1 : ¬ ((c : Int) < 0) := by omega
  have t2 : ¬ ((i.bytes : Int) * (c : Int) > 2 ^ 48) := by
    have : ((i.bytes * c : Nat) : Int) ≤ 281474976710656 := by omega
    simp only [Int.natCast_mul] at this; omega
  have t2' : ¬ ((281474976710656 : Int) < (i.bytes : Int) * (c : Int)) := by simpa using t2
  have t3 : ¬ ((l : Int) < 0) := by omega
  have t4 : ¬ ((l : Int) > (c : Int)) := by omega
  have hti : (typeInfo el).run P w = .ok i w := by simp [typeInfo, hi]
  by_cases h0 : c * i.size = 0
  · have hc0 : c = 0 := by rcases Nat.mul_eq_zero.1 h0 with h | h; exact h; omega
    subst hc0
    have hl0 : l = 0 := by omega
    subst hl0
    have e0 : (Array.range (0 * i.size)).map (fun i => Z.cells[i % Z.cells.size]!) = #[] := by apply Array.eq_empty_of_size_eq_zero; simp
    rw [e0]
    have w0 : IntKind.i64.wrap 0 = 0 := by simpa using w2
    simp [Instr.makeSlice, run_und hd, asInt, run_asIntOf, hti, w0, info_size hi, newRow, map_range0]
  · simp [Instr.makeSlice, run_und hd, asInt, run_asIntOf, hti, w1, w2, t1, t2', t3, info_size hi, newRow, h0, hZ, Nat.not_lt.2 b3]

theorem rep_rows {e : List Ty} {r : rowDen e} {z : List V} {Z : Array Value} (hr : ofRow e z = some r) (hz : LRel ρ z Z.toList) (c : Nat) : RowsAt ρ.φ e (List.replicate c r) (fun k => ((Array.range (c * e.length)).map fun j => Z[j % Z.size]!)[k]?) := by
  have hl := ofRow_length _ _ _ hr
  have hlz := hz.length
  simp only [Array.length_toList] at hlz
  intro i hi
  simp only [List.length_replicate] at hi
  have e2 : rowAt e (List.replicate c r) i = r := by simp [rowAt, hi]
  rw [e2]
  refine ofRow_rel e z r hr fun j v hj => ?_
  have hjl : j < e.length := by
    have := (List.getElem?_eq_some_iff.1 hj).1
    omega
  obtain ⟨X, h1, h2⟩ := hz.get hj
  simp only [Array.getElem?_toList] at h1
  refine ⟨X, ?_, h2⟩
  have hk : i * e.length + j < c * e.length := by
    have : (i + 1) * e.length ≤ c * e.length := Nat.mul_le_mul_right _ hi
    rw [Nat.succ_mul] at this; omega
  have hm : (i * e.length + j) % Z.size = j := by
    rw [← hlz, hl, Nat.mul_comm, Nat.mul_add_mod, Nat.mod_eq_of_lt hjl]
  simp only [Array.getElem?_map, Array.getElem?_range, hk, if_true, Option.map_some, hm, Option.some.injEq]
  rw [Array.getElem!_eq_getD, Array.getD_eq_getD_getElem?, h1]
  rfl

theorem mMakeSlice_rel {t : TypeId} {len cap : V} {m : Mk} {cc : List Bool} (hq : mMakeSlice P t len cap = some (cc, m)) (hp : allB cc) {L K : Value} (hl : VRel ρ len L) (hk : VRel ρ cap K) :
    MkOK P ρ (Instr.makeSlice t L K) w m := by
  unfold mMakeSlice at hq
  simp only [llen_eq, lall_eq, ltake_eq, ldrop_eq, lapp_eq, lget_eq] at hq
  split at hq
  · rename_i el cl l cp c hd hln hcn
    split at hq
    · rename_i i zv hi hzv
      split at hq
      · rename_i z hz
        cases hb : (Nat.beq z.length i.size && Nat.ble 1 i.size) with
        | false => simp [hb] at hq
        | true =>
        simp only [hb, cond_true] at hq
        simp only [Bool.and_eq_true, Nat.ble_eq, Nat.beq_eq] at hb
        obtain ⟨b1, b2⟩ := hb
        obtain ⟨Z, hZ, hzr, _⟩ := zeroE_rel (ρ := ρ) (w := w) hzv
        have hzc := cellsO_rel hz hzr
        split at hq
        · rename_i e he
          cases hes : Nat.beq e.length i.size with
          | false => rw [hes] at hq; cases hq
          | true =>
          rw [hes, cond_true] at hq
          have hes := Nat.eq_of_beq_eq_true hes
          split at hq
          · rename_i r hr
            cases hq
            simp only [allB_append] at hp
            obtain ⟨p1, p2, p3, p4, p5, _⟩ := hp
            simp only [decide_eq_true_eq] at p3 p4 p5
            obtain ⟨k1, rfl⟩ := natOf_rel hln p1 hl
            obtain ⟨k2, rfl⟩ := natOf_rel hcn p2 hk
            refine ⟨_, _, el, run_makeSlice hd hi hZ b2 p3 p4 p5, by simp [hes], ?_, fun ρ' b hbb => ?_⟩
            · have := rep_rows hr hzc c
              rw [hes] at this
              exact this
            · simp only [Mk.val, VRel]
              refine ⟨_, _, rfl, p3, Nat.le_refl _, fun _ => rfl, fun hn => (by cases hn), fun _ => ⟨_, _, _, hbb, by simp, ?_⟩⟩
              simp [hes]
          · cases hq
        · cases hq
          simp only [allB_append] at hp
          obtain ⟨p1, p2, p3, p4, p5, _⟩ := hp
          simp only [decide_eq_true_eq] at p3 p4 p5
          obtain ⟨k1, rfl⟩ := natOf_rel hln p1 hl
          obtain ⟨k2, rfl⟩ := natOf_rel hcn p2 hk
          have hrep := range_rep hzc c
          rw [b1] at hrep
          refine ⟨_, _, el, run_makeSlice hd hi hZ b2 p3 p4 p5, hrep, fun ρ' b hbb => ?_⟩
          simp only [Mk.val, VRel]
          refine ⟨_, _, _, c, hbb, rfl, p3, Nat.le_refl _, fun _ => rfl, ?_⟩
          simp
      · cases hq
    · cases hq
  · cases hq
theorem eMakeSlice_rel (h : SRel own ρ s w) {t : TypeId} {len cap v : V} {s' : St} {c : List Bool} (hq : eMakeSlice P s t len cap = some (c, v, s')) (hc : allB c) {L K : Value} (hl : VRel ρ len L) (hk : VRel ρ cap K) :
    OKv P own ρ (Instr.makeSlice t L K) w v s' := mkNew_rel h hq hc fun _ _ h hc => mMakeSlice_rel h hc hl hk

theorem bytesL_length (x : ByteArray) : (bytesL x).length = x.size := by simp [bytesL]
theorem bytesL_get (x : ByteArray) (i : Nat) (hi : i < x.size) : (bytesL x).getD i 0 = bAt x i := by
  unfold bytesL bAt
  rw [List.getD_eq_getElem?_getD, List.getD_eq_getElem?_getD, List.getElem?_map, List.getElem?_eq_getElem (by simpa using hi)]
  rfl
theorem bytes_rows {φ : Nat → Nat → Option Value} (x : ByteArray) {C : Nat → Option Value} (hc : ∀ i, i < x.size → C i = some (.int .u8 (bAt x i))) : RowsAt φ [.int .u8] (bytesL x) C := by
  intro i hi
  have hi' : i < x.size := by
    have : i < List.length (α := Int) (bytesL x) := hi
    rwa [bytesL_length] at this
  rw [CRel]
  refine ⟨.int .u8 (bAt x i), by simpa using hc i hi', ?_⟩
  have e : rowAt [.int .u8] (bytesL x) i = bAt x i := bytesL_get x i hi'
  show Value.int .u8 _ = Value.int .u8 (rowAt [.int .u8] (bytesL x) i)
  rw [e]

theorem eBytes_rel (h : SRel own ρ s w) {src dst : TypeId} {a v : V} {s' : St} {c : List Bool} (hq : eBytes P s src dst a = some (c, v, s')) {A : Value} (ha : VRel ρ a A) : OKv P own ρ (Go.convert src dst A) w v s' := by
  unfold eBytes at hq
  split at hq
  · rename_i sd e x hs hd
    split at hq
    · rename_i he
      cases hq
      simp only [VRel] at ha; subst ha
      obtain ⟨cap, hcap, hrun⟩ : ∃ cap, x.size ≤ cap ∧ (choose (.appendCap x.size 0 e)).run P w = .ok cap { w with drawn := w.drawn + 1 } := by
        refine ⟨_, ?_, by simp [Question.forced]; rfl⟩
        simp [Question.cut]
      let C : Array Value := (x.data.map fun b => Value.int .u8 b.toNat) ++ Array.replicate (cap - x.size) (.int .u8 0)
      have hxs : x.data.size = x.size := rfl
      have hC : C.size = cap := by
        simp [C]; omega
      have hle := Env.le_put ⟨w.heap.size, 0, C.size⟩ h.fresh
      let w' : World := { w with drawn := w.drawn + 1, heap := w.heap.push (.cells C e (C.size, C.size + 1)) }
      refine ⟨ρ.put s.next ⟨w.heap.size, 0, C.size⟩, .slice (some ⟨w.heap.size, 0, none⟩) x.size cap, w', hle, ?_, ?_, ?_, ?_⟩
      · simp only [Go.convert, Sem.run_bind, run_und hs, run_und hd, Result.andThen_ok, run_und he, Conv.stringToBytes, hrun, newRow, run_newObj, Sem.run_pure, markStringish, run_shape]
        have hsh : ({ w with drawn := w.drawn + 1, heap := w.heap.push (.cells C e) } : World).shape? w.heap.size = some (e, C.size) := by simp [World.shape?]
        have hfr : ({ w with drawn := w.drawn + 1, heap := w.heap.push (.cells C e) } : World).freeze ⟨w.heap.size, C.size, none⟩ 1 = w' := by
          simp only [World.freeze]
          rw [if_neg (by decide)]
          simp only [w']
          congr 1
          apply Array.ext_getElem?
          intro i
          rw [Array.getElem?_modify, Array.getElem?_push, Array.getElem?_push]
          by_cases hi : i = w.heap.size
          · subst hi; simp
          · simp [hi, Ne.symm hi]
        simp only [C] at hsh hfr
        simp only [hsh, Sem.run_bind, run_freeze, hfr, Result.andThen_ok, Sem.run_pure]
      · simp only [VRel]
        exact ⟨_, cap, rfl, Nat.le_refl _, hcap, fun hx => (by cases hx), fun hn => (by cases hn), fun _ => ⟨_, _, _, Env.put_same, by simp, by show 0 + 0 * 1 + cap * 1 ≤ C.size; omega⟩⟩
      · refine h.new _ (.cells C e (C.size, C.size + 1)) C.size rfl ⟨C, e, (C.size, C.size + 1), rfl, rfl, ?_, ?_, ?_, by simp⟩
        · have : List.length (α := Int) (bytesL x) = x.size := bytesL_length x
          show 0 + List.length (α := Int) (bytesL x) * 1 ≤ C.size
          omega
        · refine bytes_rows x fun i hi => ?_
          simp only [C, Nat.zero_add]
          rw [Array.getElem?_append_left (by simpa using hi)]
          rw [Array.getElem?_map]
          unfold bAt
          rw [List.getD_eq_getElem?_getD, Array.getElem?_toList, Array.getElem?_eq_getElem (by simpa using hi)]
          rfl
        · intro k hk
          have : decide (C.size ≤ k) = false := by simp; omega
          simp [this]
      · exact ⟨rfl, rfl, rfl, by simp [w'], fun k hk => by simp only [w']; rw [Array.getElem?_push, if_neg (fun e => hk (h.le k (by omega)))]⟩
    · cases hq
  · cases hq
end
end Go.Sym
end

section
namespace Go.Sym
set_option linter.unusedSimpArgs false
set_option linter.unusedVariables false

def seg {α : Type} (L : List α) (lo len : Nat) : List α := (L.take (lo + len)).drop lo
theorem seg_length {α : Type} {L : List α} {lo len : Nat} (h : lo + len ≤ L.length) : (seg L lo len).length = len := by simp [seg]; omega

noncomputable section
variable (P : Program)
def zerosE (ts : Array TypeId) : Bool :=
  match ts[1]? with
  | some t1 => (match P.underlying t1 with
    | some (.int _) => true
    | some _ => false
    | none => true)
  | none => false
def St.move (s : St) (b : Nat) (o : EObj) : St := ⟨(s.heap.set b none).set s.next (some o), s.next + 1⟩
def St.drop (s : St) (b : Nat) : St := ⟨s.heap.set b none, s.next⟩

def srcRows (s : St) (e : List Ty) (x : V) : Option (List Bool × List (rowDen e)) :=
  match x with
  | .nils => some ([], [])
  | .lst e' L _ => match asL e e' L with
    | some M => some ([], M)
    | none => none
  | .rs b lo len _ _ es => match rowsAt s b with
    | some ⟨e', L⟩ => match asL e e' L with
      | some M => bif Nat.beq es e.length then some ([decide (lo + len ≤ M.length)], seg M lo len) else none
      | none => none
    | none => none
  | .str t => match asL e [.int .u8] (bytesL t) with
    | some M => some ([], M)
    | none => none
  | .sl b o len _ _ es => match cellsAt s b with
    | some cs => bif Nat.beq es e.length && Nat.ble (o + len * es) (llen cs) then (match ofRows e len (ltake (ldrop cs o) (len * es)) with
      | some M => some ([], M)
      | none => none) else none
    | none => none
  | _ => none
noncomputable def roomB : Nat → Nat → Bool := hide fun n b => decide ((2 * n + 768) * b ≤ 281474976710656)
theorem roomB_iff (n b : Nat) : roomB n b = true ↔ (2 * n + 768) * b ≤ 281474976710656 := by unfold roomB; rw [hide_eq, decide_eq_true_iff]
noncomputable def roomy (i : TypeInfo) (n : Nat) : List Bool := [roomB n i.bytes, decide (n ≤ 1099511627776)]
def eAppendG (s : St) (e : List Ty) (el : TypeId) (i : TypeInfo) (a : V) (cs : List Bool) (M : List (rowDen e)) (m : Nat) : Er := match a with
    | .nils => some (cs ++ roomy i m, .rs s.next 0 m m false e.length, s.new (.rows e M el false))
    | .lst e' L true => match asL e e' L with
      | some L' => some (cs ++ (decide (0 < m ∨ L'.length = 0) :: roomy i (L'.length + m)), .rs s.next 0 (L'.length + m) (L'.length + m) false e.length, s.new (.rows e (L' ++ M) el false))
      | none => none
    | .rs b lo len _ _ es => match s.heap.get b with
      | some (.rows e' L _ ish) => match asL e e' L with
        | some L' => bif Nat.beq es e.length then
            some (cs ++ (decide (lo + len ≤ L'.length) :: roomy i (len + m)), .rs s.next 0 (len + m) (len + m) false es, s.move b (.rows e (seg L' lo len ++ M) el ish)) else none
        | none => none
      | _ => none
    | _ => none
def eAppendR (s : St) (e : List Ty) (el : TypeId) (i : TypeInfo) (a x : V) : Er :=
  match srcRows s e x with
  | none => none
  | some (cs, M) => eAppendG s e el i a cs M M.length
def zeroT (ts : Array TypeId) : Bool :=
  match ts[1]? with
  | some t1 => (match P.underlying t1 with
    | some (.int _) => true
    | _ => false)
  | none => false
def isI64 : V → Bool
  | .int .i64 _ => true
  | _ => false
def eAppendZ (s : St) (el : TypeId) (i : TypeInfo) (z : List V) (a x : V) : Er :=
  match rowTy P el, natOf x with
  | some e, some (cx, n) => (match ofRow e z with
    | some r => bif isI64 x then eAppendG s e el i a (cx ++ roomy i n) (List.replicate n r) n else none
    | none => none)
  | _, _ => none

def eOver (s : St) (e : List Ty) (a x : V) : Er :=
  match a, x with
  | .rs b lo len cap false es, .rs b2 lo2 len2 _ _ es2 => bif Nat.beq b b2 && (Nat.beq es e.length && Nat.beq es2 e.length) then
      (match s.heap.get b with
      | some (.rows e' L t' ish) => match asL e e' L with
        | some L' => some ([decide (lo2 + len2 ≤ L'.length), decide (len + len2 ≤ cap), decide (lo + len + len2 ≤ L'.length)], .rs b lo (len + len2) cap false es,
            s.upd b (.rows e (L'.take (lo + len) ++ (seg L' lo2 len2 ++ L'.drop (lo + len + len2))) t' ish))
        | none => none
      | _ => none) else none
  | _, _ => none

def eGrow (s : St) (e : List Ty) (el : TypeId) (i : TypeInfo) (a x : V) : Er :=
  match a with
  | .rs b lo len cap true es => (match srcRows s e x with
    | some (cs, M) => (match s.heap.get b with
      | some (.rows e' L _ _) => (match asL e e' L with
        | some L' => bif Nat.beq es e.length then
            some (cs ++ (decide (lo + len ≤ L'.length) :: decide (cap < len + M.length ∨ cap = 0) :: roomy i (len + M.length)), .rs s.next 0 (len + M.length) (len + M.length) false es, s.new (.rows e (seg L' lo len ++ M) el false)) else none
        | none => none)
      | _ => none)
    | none => none)
  | _ => none

def sliceCells (s : St) (v : V) (n : Nat) : Option (List V) :=
  match v with
  | .nils => bif Nat.beq n 0 then some [] else none
  | .sl b o _ _ _ es => match cellsAt s b with
    | some cs => bif Nat.ble (o + n * es) (llen cs) then some (ltake (ldrop cs o) (n * es)) else none
    | none => none
  | _ => none
def lenE : V → Option Nat
  | .nils => some 0
  | .sl _ _ len _ _ _ => some len
  | _ => none
def esOk (v : V) (sz : Nat) : Bool :=
  match v with
  | .sl _ _ _ _ _ es => Nat.beq es sz
  | .nils => true
  | _ => false
def srcCells (s : St) (x : V) (sz : Nat) : Option (List V) :=
  bif esOk x sz then (match lenE x with
    | some n => sliceCells s x n
    | none => none) else none
def srcE (s : St) (i : TypeInfo) (x : V) : Option (Nat × List V) :=
  match lenE x with
    | some n => match srcCells s x i.size with
      | some new => some (n, new)
      | none => none
    | none => none
def eAppendC (s : St) (e : TypeId) (i : TypeInfo) (a x : V) : Er :=
  match srcE s i x with
  | none => none
  | some (n, new) =>
  match a with
  | .nils =>
    bif Nat.beq n 0 then some ([], .nils, s) else
    bif Nat.ble ((2 * n + 768) * i.bytes) 281474976710656 && Nat.ble n 1099511627776 then
      some ([], .sl s.next 0 n n false i.size, s.new (.cells new e false)) else none
  | .sl b o len cap x' es =>
    bif !Nat.beq es i.size then none else
    bif Nat.ble (len + n) cap then
      (match s.heap.get b with
      | some (.cells cs t' ish) => bif Nat.ble (o + (len + n) * es) (llen cs) && lall oneV new then some ([], .sl b o (len + n) cap x' es, s.upd b (.cells (setAll cs (o + len * es) new) t' ish)) else none
      | _ => none)
    else
    bif !(Nat.ble ((2 * (len + n) + 768) * i.bytes) 281474976710656 && Nat.ble (len + n) 1099511627776) then none else
    match s.heap.get b with
    | some (.cells cs t' ish) =>
      bif !(Nat.ble (o + len * es) (llen cs) && lall oneV new) then none else
      bif x' then some ([], .sl s.next 0 (len + n) (len + n) false es, s.new (.cells (lapp (ltake (ldrop cs o) (len * es)) new) e false))
      else some ([], .sl s.next 0 (len + n) (len + n) false es, s.move b (.cells (lapp (ltake (ldrop cs o) (len * es)) new) e ish))
    | _ => none
  | _ => none

def eAppend (s : St) (ts : Array TypeId) (a x : V) : Er :=
  match ts[0]? with
  | none => none
  | some t =>
  match P.underlying t with
  | some (.slice el) =>
    match P.info? el, zeroE P el with
    | some i, some zv => match cellsO zv with
      | some z =>
        bif zeroT P ts then (bif Nat.beq (llen z) i.size && Nat.ble 1 i.size then eAppendZ P s el i z a x else none) else
        bif zerosE P ts || !(Nat.beq (llen z) i.size && Nat.ble 1 i.size) then none else
        (match rowTy P el with
        | some e => (match eOver s e a x with
          | some r => some r
          | none => (match eGrow s e el i a x with
            | some r => some r
            | none => (match eAppendR s e el i a x with
              | some r => some r
              | none => eAppendC s el i a x)))
        | none => eAppendC s el i a x)
      | none => none
    | _, _ => none
  | _ => none

def eCopy (s : St) (ts : Array TypeId) (d x : V) : Er :=
  match ts[0]? with
  | none => none
  | some t =>
  match P.underlying t with
  | some (.slice el) => match rowTy P el with
    | none => none
    | some e => match srcRows s e x with
      | none => none
      | some (cs, M) => match d with
        | .nils => some (cs, .int .i64 0, s)
        | .rs b lo len _ _ es => match s.heap.get b with
          | some (.rows e' L t' ish) => match asL e e' L with
            | some L' => bif Nat.beq es e.length then
                some (cs ++ [decide (lo + len ≤ L'.length)], .int .i64 (Int.ofNat (Nat.min M.length len)), s.upd b (.rows e (L'.take lo ++ (M.take (Nat.min M.length len) ++ L'.drop (lo + Nat.min M.length len))) t' ish)) else none
            | none => none
          | _ => none
        | _ => none
  | _ => none
def eClear (s : St) (ts : Array TypeId) (d : V) : Er :=
  match ts[0]? with
  | none => none
  | some t =>
  match P.underlying t with
  | some (.slice el) => match rowTy P el, zeroE P el with
    | some e, some zv => (match cellsO zv with
      | some z => (match ofRow e z with
        | some r => (match d with
          | .nils => some ([], .undef, s)
          | .rs b lo len _ _ es => (match s.heap.get b with
            | some (.rows e' L t' ish) => (match asL e e' L with
              | some L' => bif Nat.beq es e.length then
                  some ([decide (lo + len ≤ L'.length)], .undef, s.upd b (.rows e (L'.take lo) t' ish)) else none
              | none => none)
            | _ => none)
          | _ => none)
        | none => none)
      | none => none)
    | _, _ => none
  | _ => none
end

section
variable {P : Program} {own : Own} {ρ : Env} {s : St} {w : World}

theorem growBy_le (n : Nat) : ∀ r c, c ≤ n + (n + 768) / 4 → Builtin.growBy n r c ≤ n + (n + 768) / 4
  | 0, c, h => h
  | r + 1, c, h => by
    simp only [Builtin.growBy]
    split
    · exact h
    · exact growBy_le n r _ (by omega)
theorem nextcap_le {n c : Nat} (h : c < n) : Builtin.nextslicecap n c ≤ 2 * n + 768 := by
  unfold Builtin.nextslicecap
  split
  · omega
  · split
    · omega
    · have := growBy_le n 4 c (by omega)
      omega

theorem SRel.newLong (h : SRel own ρ s w) {cs : List V} {L : List Value} (hc : LRel ρ cs L) (R : Array Value) (t t' : TypeId) (d : Nat) (ish : Bool) :
    ρ.le (ρ.put s.next ⟨w.heap.size, 0, (L.toArray ++ R).size⟩) ∧ SRel own (ρ.put s.next ⟨w.heap.size, 0, (L.toArray ++ R).size⟩) (s.new (.cells cs t ish)) { w with drawn := d, heap := w.heap.push (.cells (L.toArray ++ R) t') } ∧
      Fr own w { w with drawn := d, heap := w.heap.push (.cells (L.toArray ++ R) t') } := by
  have hle := Env.le_put ⟨w.heap.size, 0, (L.toArray ++ R).size⟩ h.fresh
  refine ⟨hle, h.new _ (.cells (L.toArray ++ R) t') _ rfl ⟨_, t', (0, 0), rfl, rfl, ?_, ?_, by simp, fun _ => rfl⟩, rfl, rfl, rfl, by simp, fun k hk => ?_⟩
  · have := hc.length; simp; omega
  · intro i v hi
    obtain ⟨X, e1, e2⟩ := hc.get hi
    have hlt := (List.getElem?_eq_some_iff.1 e1).1
    refine ⟨X, ?_, VRel.mono hle _ _ e2⟩
    rw [Nat.zero_add, Array.getElem?_append_left (by simpa using hlt)]
    simpa using e1
  · simp only
    rw [Array.getElem?_push, if_neg (fun e => hk (h.le k (by omega)))]
theorem rows_long {φ : Nat → Nat → Option Value} {e : List Ty} {L : List (rowDen e)} {V : List Value} (h : RowsAt φ e L (fun k => V[k]?)) (R : Array Value) : RowsAt φ e L (fun k => (V.toArray ++ R)[k]?) :=
  h.mono (fun _ _ _ hv => hv) fun j v hj => by
    have hlt := (List.getElem?_eq_some_iff.1 hj).1
    rw [Array.getElem?_append_left (by simpa using hlt)]
    simpa using hj
theorem rows_app {φ : Nat → Nat → Option Value} {e : List Ty} {L M : List (rowDen e)} {C D : Nat → Option Value} (h : RowsAt φ e L C) (k : RowsAt φ e M (fun j => D (L.length * e.length + j))) (hC : ∀ j, j < L.length * e.length → D j = C j) : RowsAt φ e (L ++ M) D := by
  intro i hi
  rcases Nat.lt_or_ge i L.length with h1 | h1
  · have e1 : rowAt e (L ++ M) i = rowAt e L i := by simp [rowAt, List.getD_eq_getElem?_getD, List.getElem?_append_left h1]
    rw [e1]
    refine CRel.mono (fun _ _ _ hv => hv) e _ (fun j v hv => ?_) (CRel.ltφ e _ (h i h1))
    split at hv
    · rename_i hj
      rw [hC _ ?_]; exact hv
      have := Nat.mul_le_mul_right e.length (show i + 1 ≤ L.length from h1)
      rw [Nat.succ_mul] at this; omega
    · cases hv
  · have e1 : rowAt e (L ++ M) i = rowAt e M (i - L.length) := by simp [rowAt, List.getD_eq_getElem?_getD, List.getElem?_append_right h1]
    rw [e1]
    have := k (i - L.length) (by simp at hi; omega)
    refine CRel.mono (fun _ _ _ hv => hv) e _ (fun j v hv => ?_) this
    rw [← hv]; congr 1
    rw [← Nat.add_assoc, ← Nat.add_mul]; congr 2; omega
theorem SRel.newLongRows (h : SRel own ρ s w) {e : List Ty} {L : List (rowDen e)} {V : List Value} (hl : L.length * e.length ≤ V.length) (hc : RowsAt ρ.φ e L (fun k => V[k]?)) (R : Array Value) (t t' : TypeId) (d : Nat) (ish : Bool) :
    ρ.le (ρ.put s.next ⟨w.heap.size, 0, (V.toArray ++ R).size⟩) ∧ SRel own (ρ.put s.next ⟨w.heap.size, 0, (V.toArray ++ R).size⟩) (s.new (.rows e L t ish)) { w with drawn := d, heap := w.heap.push (.cells (V.toArray ++ R) t') } ∧
      Fr own w { w with drawn := d, heap := w.heap.push (.cells (V.toArray ++ R) t') } := by
  have hle := Env.le_put ⟨w.heap.size, 0, (V.toArray ++ R).size⟩ h.fresh
  refine ⟨hle, h.new _ (.cells (V.toArray ++ R) t') _ rfl ⟨_, t', (0, 0), rfl, rfl, ?_, ?_, by simp, fun _ => rfl⟩, rfl, rfl, rfl, by simp, fun k hk => ?_⟩
  · simp; omega
  · show RowsAt ρ.φ e L (fun k => (V.toArray ++ R)[0 + k]?)
    simpa using rows_long hc R
  · simp only
    rw [Array.getElem?_push, if_neg (fun e => hk (h.le k (by omega)))]
theorem SRel.ghost (h : SRel own ρ s w) (o : EObj) : SRel own ρ (s.new o) w := by
  have key : ∀ b o' x, (s.new o).heap.get b = some o' → ρ b = some x → s.heap.get b = some o' := by
    intro b o' x hb hx
    simp only [St.new, T.get_set] at hb
    split at hb
    · rename_i e; subst e; rw [h.fresh.1] at hx; cases hx
    · exact hb
  refine ⟨h.le, fun b o' x hb hx => h.obj b o' x (key b o' x hb hx) hx, fun b b' o1 o2 x x' hb hb' hx hx' => h.inj b b' o1 o2 x x' (key _ _ _ hb hx) (key _ _ _ hb' hx') hx hx', fun b x hx => ?_, ?_, h.fz, h.old⟩
  · have := h.dom b x hx; show b < s.next + 1; omega
  · have := h.top; show ρ.n ≤ s.next + 1; omega
theorem SRel.strike (h : SRel own ρ s w) (b : Nat) : SRel own ρ (s.drop b) w := by
  have key : ∀ k o', (s.drop b).heap.get k = some o' → s.heap.get k = some o' := by
    intro k o' hk
    simp only [St.drop, T.get_set] at hk
    split at hk
    · cases hk
    · exact hk
  exact ⟨h.le, fun k o' x hk hx => h.obj k o' x (key _ _ hk) hx, fun k k' o1 o2 x x' hk hk' hx hx' => h.inj k k' o1 o2 x x' (key _ _ hk) (key _ _ hk') hx hx', h.dom, h.top, h.fz, h.old⟩
theorem SRel.move (h : SRel own ρ s w) {b : Nat} {o : EObj} {x : Blk} (hb : s.heap.get b = some o) (hx : ρ b = some x) (o1 : EObj) (X : Obj) (O1 : Nat) {w' : World} (hw : w'.heap = w.heap.setIfInBounds x.B X)
    (ho : ORel (ρ.put s.next ⟨x.B, O1, x.S⟩) O1 x.S (some X) o1) : SRel own (ρ.put s.next ⟨x.B, O1, x.S⟩) (s.move b o1) w' := by
  have hlt := h.lt hb hx
  have hle := Env.le_put ⟨x.B, O1, x.S⟩ h.fresh
  have hbn : b < s.next := h.dom _ _ hx
  have get : ∀ k v, (s.move b o1).heap.get k = some v → (k = s.next ∧ v = o1) ∨ (k ≠ s.next ∧ k ≠ b ∧ s.heap.get k = some v) := by
    intro k v hk
    simp only [St.move, T.get_set] at hk
    split at hk
    · rename_i e; cases hk; exact .inl ⟨e, rfl⟩
    · rename_i e
      split at hk
      · cases hk
      · rename_i e2; exact .inr ⟨e, e2, hk⟩
  obtain ⟨y, g1, g2, _⟩ := h.obj' hb hx
  rw [hx] at g1; cases g1
  refine ⟨by rw [hw]; simpa using h.le, ?_, ?_, ?_, by simp only [Env.put, St.move]; have := h.top; omega, ?_, h.old⟩
  · intro k v z hk hz
    rcases get k v hk with ⟨rfl, rfl⟩ | ⟨e1, e2, hk⟩
    · rw [Env.put_same] at hz; cases hz
      exact ⟨g2, by rw [hw]; simpa [hlt] using ho⟩
    · rw [Env.put_ne e1] at hz
      obtain ⟨y, h1, h2, h3⟩ := h.obj' hk hz
      rw [hz] at h1; cases h1
      have h1 := hz
      refine ⟨h2, ?_⟩
      have := h.inj k b _ _ z x hk hb h1 hx e2
      rw [hw, Array.getElem?_setIfInBounds_ne (fun k => this k.symm)]
      exact h3.mono hle
  · intro k k' v v' y y' hk hk' hy hy' hne
    rcases get k v hk with ⟨rfl, rfl⟩ | ⟨e1, e2, g⟩ <;> rcases get k' v' hk' with ⟨rfl, rfl⟩ | ⟨e1', e2', g'⟩
    · exact absurd rfl hne
    · rw [Env.put_same] at hy; cases hy
      rw [Env.put_ne e1'] at hy'
      exact fun e => h.inj k' b _ _ y' x g' hb hy' hx e2' e.symm
    · rw [Env.put_same] at hy'; cases hy'
      rw [Env.put_ne e1] at hy
      exact h.inj k b _ _ y x g hb hy hx e2
    · rw [Env.put_ne e1] at hy
      rw [Env.put_ne e1'] at hy'
      exact h.inj k k' v v' y y' g g' hy hy' hne
  · intro k y hy
    simp only [Env.put] at hy
    show k < s.next + 1
    split at hy
    · omega
    · have := h.dom k y hy; omega
  · refine SRel.fz_of (own := own) (ρ := ρ) (s := s) (w := w) h fun B => ?_
    by_cases e : x.B = B
    · exact .inr (.inl (e ▸ g2.2))
    · exact .inr (.inr (by rw [hw, Array.getElem?_setIfInBounds_ne e]))

theorem wrap_small2 {n : Nat} (h : n ≤ 1099511627776) : IntKind.i64.wrap (n : Int) = n := wrap_small (by omega)

def SrcOK (P : Program) (ts : Array TypeId) (e : TypeId) (i : TypeInfo) (X : Value) (n : Nat) (w w' : World) (L : List Value) : Prop :=
  (zerosE P ts = false ∧ (Builtin.lenOf X).run P w = .ok n w ∧ (Builtin.firstCells i.size n X).run P w' = .ok L.toArray w') ∨
  ((∃ t1 k, ts[1]? = some t1 ∧ P.underlying t1 = some (.int k)) ∧ X = .int .i64 (n : Int) ∧ n * i.bytes ≤ 281474976710656 ∧ n ≤ 1099511627776 ∧
    ((n * i.size = 0 ∧ L = []) ∨ (n * i.size ≠ 0 ∧ ∃ Z, (zeroValue e).run P w' = .ok Z w' ∧ L.toArray = Builtin.zeroCells Z.cells n)))

theorem notInt {ts : Array TypeId} (hz : zerosE P ts = false) : ts[1]? = none ∨ ∃ t1 d, ts[1]? = some t1 ∧ P.underlying t1 = some d ∧ ∀ k, d ≠ .int k := by
  unfold zerosE at hz
  cases h1 : ts[1]? with
  | none => exact .inl rfl
  | some t1 =>
    simp only [h1] at hz
    cases hu : P.underlying t1 with
    | none => simp [hu] at hz
    | some d => exact .inr ⟨t1, d, rfl, hu, fun k e => by subst e; simp [hu] at hz⟩

theorem run_append_in {t e : TypeId} {ts : Array TypeId} {ty : TypeId} {X : Value} {base : Option Addr} {len cap n : Nat} {i : TypeInfo} {L : List Value} (ht : ts[0]? = some t) (hd : P.underlying t = some (.slice e)) (hi : P.info? e = some i)
    (hs : SrcOK P ts e i X n w w L) (hle : len + n ≤ cap) :
    (Builtin.append_ ts ty #[.slice base len cap, X]).run P w = ((match base with | some a => storeCells (a.add (len * i.size)) L | none => pure () : Sem Unit).run P w).andThen fun _ w' => .ok (.slice base (len + n) cap) w' := by
  rcases hs with ⟨hz, hn, hL⟩ | ⟨⟨t1, k, h1, hu⟩, rfl, hb, hm, hL⟩
  · rcases notInt hz with h1 | ⟨t1, d, h1, hu, hd'⟩
    · simp only [Builtin.append_, ht, h1, List.getElem?_toArray, List.getElem?_cons_zero, List.getElem?_cons_succ, Sem.run_bind, run_und hd, Result.andThen_ok, info_size hi, Sem.run_pure, Bool.false_eq_true, if_false, hn, hle, if_true, Bool.not_false, hL]
      cases base with
      | none => simp
      | some a => simp
    · cases d <;> first
        | exact absurd rfl (hd' _)
        | (simp only [Builtin.append_, ht, h1, List.getElem?_toArray, List.getElem?_cons_zero, List.getElem?_cons_succ, Sem.run_bind, run_und hd, run_und hu, Result.andThen_ok, info_size hi, Sem.run_pure, Bool.false_eq_true, if_false, hn, hle, if_true, Bool.not_false, hL]
           cases base with
           | none => simp
           | some a => simp)
  · have hw := wrap_small2 hm
    have hti : (typeInfo e).run P w = .ok i w := by simp [typeInfo, hi]
    have hneg : ¬ ((n : Int) < 0) := by omega
    have hbb : ¬ ((n : Int) * (i.bytes : Int) > 2 ^ 48) := by
      have : ((n * i.bytes : Nat) : Int) ≤ 281474976710656 := by omega
      rw [Int.natCast_mul] at this; omega
    have hbb' : ¬ (281474976710656 < (n : Int) * (i.bytes : Int)) := by simpa using hbb
    rcases hL with ⟨h0, rfl⟩ | ⟨h0, Z, hZ, hL⟩
    · cases base with
      | none => simp [Builtin.append_, ht, h1, run_und hd, run_und hu, info_size hi, asInt, run_asIntOf, hw, hneg, hti, hbb', hle, h0]
      | some a => simp [Builtin.append_, ht, h1, run_und hd, run_und hu, info_size hi, asInt, run_asIntOf, hw, hneg, hti, hbb', hle, h0]
    · have hL' : L = (Builtin.zeroCells Z.cells n).toList := by rw [← hL]
      have h0' : ¬ (n = 0 ∨ i.size = 0) := by rw [← Nat.mul_eq_zero]; exact h0
      subst hL'
      cases base with
      | none => simp [Builtin.append_, ht, h1, run_und hd, run_und hu, info_size hi, asInt, run_asIntOf, hw, hneg, hti, hbb', hle, h0', hZ]
      | some a =>
        simp [Builtin.append_, ht, h1, run_und hd, run_und hu, info_size hi, asInt, run_asIntOf, hw, hneg, hti, hbb', hle, h0', hZ]
        exact fun hh => absurd hh h0

theorem run_append_grow {t e : TypeId} {ts : Array TypeId} {ty : TypeId} {X : Value} {base : Option Addr} {len cap n : Nat} {i : TypeInfo} {K L : List Value} {Z : Value} (ht : ts[0]? = some t) (hd : P.underlying t = some (.slice e)) (hi : P.info? e = some i)
    (hs : SrcOK P ts e i X n w { w with drawn := w.drawn + 1 } L)
    (hK : (Builtin.firstCells i.size len (.slice base len cap)).run P { w with drawn := w.drawn + 1 } = .ok K.toArray { w with drawn := w.drawn + 1 })
    (hZ : (zeroValue e).run P { w with drawn := w.drawn + 1 } = .ok Z { w with drawn := w.drawn + 1 })
    (hgt : cap < len + n) (hb : (2 * (len + n) + 768) * i.bytes ≤ 281474976710656) (hm : len + n ≤ 1099511627776) :
    ∃ cap', len + n ≤ cap' ∧ (Builtin.append_ ts ty #[.slice base len cap, X]).run P w =
      .ok (.slice (some ⟨w.heap.size, 0, none⟩) (len + n) cap') { w with drawn := w.drawn + 1, heap := w.heap.push (.cells (K.toArray ++ L.toArray ++ Builtin.zeroCells Z.cells (cap' - (len + n))) e) } := by
  obtain ⟨cap', hcap, hrun⟩ : ∃ cap', len + n ≤ cap' ∧ (choose (.appendCap (len + n) cap e)).run P w = .ok cap' { w with drawn := w.drawn + 1 } := by
    refine ⟨_, ?_, by simp [Question.forced]; rfl⟩
    simp [Question.cut]
  have hni : ¬ len + n ≤ cap := by omega
  have h63 : ¬ (((len + n : Nat) : Int) > IntKind.i64.max) := by rw [i64max]; omega
  have hti : (typeInfo e).run P w = .ok i w := by simp [typeInfo, hi]
  have hti' : (typeInfo e).run P { w with drawn := w.drawn + 1 } = .ok i { w with drawn := w.drawn + 1 } := by simp [typeInfo, hi]
  have hcapb : ¬ (Builtin.nextslicecap (len + n) cap * i.bytes > 2 ^ 48) := by
    have h1 := nextcap_le hgt
    have h2 := Nat.mul_le_mul_right i.bytes h1
    omega
  refine ⟨cap', hcap, ?_⟩
  rcases hs with ⟨hz, hn, hL⟩ | ⟨⟨t1, k, h1, hu⟩, rfl, hbn, hmn, hL⟩
  · rcases notInt hz with h1 | ⟨t1, d, h1, hu, hd'⟩
    · simp only [Builtin.append_, ht, h1, List.getElem?_toArray, List.getElem?_cons_zero, List.getElem?_cons_succ, Sem.run_bind, run_und hd, Result.andThen_ok, info_size hi, Sem.run_pure, Bool.false_eq_true, if_false, hn, hni, h63, false_and, hti, hti', hcapb, hrun, run_askRoom, hK, Bool.not_false, if_true, hL, hZ, newRow, run_newObj]
    · cases d <;> first
        | exact absurd rfl (hd' _)
        | simp only [Builtin.append_, ht, h1, List.getElem?_toArray, List.getElem?_cons_zero, List.getElem?_cons_succ, Sem.run_bind, run_und hd, run_und hu, Result.andThen_ok, info_size hi, Sem.run_pure, Bool.false_eq_true, if_false, hn, hni, h63, false_and, hti, hti', hcapb, hrun, run_askRoom, hK, Bool.not_false, if_true, hL, hZ, newRow, run_newObj]
  · have hw := wrap_small2 hmn
    have hneg : ¬ ((n : Int) < 0) := by omega
    have hbb : ¬ ((n : Int) * (i.bytes : Int) > 2 ^ 48) := by
      have : ((n * i.bytes : Nat) : Int) ≤ 281474976710656 := by omega
      rw [Int.natCast_mul] at this; omega
    have ha : (asInt (.int .i64 (n : Int))).run P w = .ok (n : Int) w := by simp [asInt, run_asIntOf]
    have h63' : ¬ ((((len + n : Nat) : Int) > IntKind.i64.max) ∧ (True ∨ i.bytes = 0)) := fun h => h63 h.1
    rcases hL with ⟨h0, rfl⟩ | ⟨h0, Z2, hZ2, hL⟩
    · simp only [Builtin.append_, ht, h1, List.getElem?_toArray, List.getElem?_cons_zero, List.getElem?_cons_succ, Sem.run_bind, run_und hd, run_und hu, Result.andThen_ok, info_size hi, Sem.run_pure, ha, hw, hneg, if_false, hti, hti', hbb, Int.toNat_natCast, hni, h63, false_and, hcapb, hrun, run_askRoom, hK, h0, if_true, hZ, newRow, run_newObj, Bool.not_true, Bool.false_eq_true]
    · simp only [Builtin.append_, ht, h1, List.getElem?_toArray, List.getElem?_cons_zero, List.getElem?_cons_succ, Sem.run_bind, run_und hd, run_und hu, Result.andThen_ok, info_size hi, Sem.run_pure, ha, hw, hneg, if_false, hti, hti', hbb, Int.toNat_natCast, hni, h63, false_and, hcapb, hrun, run_askRoom, hK, h0, hZ2, hZ, newRow, run_newObj, Bool.not_true, Bool.false_eq_true, if_true]
      rw [hL, show Z2 = Z by rw [hZ] at hZ2; cases hZ2; rfl]

end
end Go.Sym
end
