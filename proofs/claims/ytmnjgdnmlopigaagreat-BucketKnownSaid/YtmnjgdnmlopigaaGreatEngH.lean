/-
  The evaluator's operations that make or write memory: definitions, and that the model does the like.
-/
import Derived.Test.YtmnjgdnmlopigaaGreatEngG
namespace Go.Eng
open Go.RowKit (Below)
set_option linter.unusedSimpArgs false
set_option linter.unusedVariables false

noncomputable section
variable (P : Program)

def eStore (s : St) (t : TypeId) (a v : V) : Option St :=
  match a with
  | .ptr b o => match s.heap.get b with
    | some (.cells cs t' ish) => match szE P t with
      | some n => bif Nat.beq (llen (cellsV v)) n && (Nat.ble (o + n) (llen cs) && lall oneV (cellsV v)) then some (s.upd b (.cells (setAll cs o (cellsV v)) t' ish)) else none
      | none => none
    | _ => none
  | _ => none

/-- what an operation makes that makes one block: the cells, their type, and its value once the block has a name: a pointer, or a slice of so many elements, a capacity, elements of a size -/
inductive Mk where
  | mk (cs : List V) (t : TypeId) (sl : Option (Nat × Nat × Nat))
def Mk.val : Mk → Nat → V
  | .mk _ _ none, b => .ptr b 0
  | .mk _ _ (some (l, c, es)), b => .sl b 0 l c true es
def Mk.obj : Mk → EObj
  | .mk cs t _ => .cells cs t false
def mkNew (s : St) : Option Mk → Option (V × St)
  | some m => some (m.val s.next, s.new m.obj)
  | none => none
def mAlloc (t : TypeId) : Option Mk :=
  match zeroE P t with
  | some z => some (.mk (cellsV z) t none)
  | none => none
def mBox (t : TypeId) (v : V) : Option Mk := some (.mk (cellsV v) t none)
def eAlloc (s : St) (t : TypeId) : Option (V × St) := mkNew s (mAlloc P t)
def eBox (s : St) (t : TypeId) (v : V) : Option (V × St) := mkNew s (mBox t v)

def repE : Nat → List V → List V
  | 0, _ => []
  | n + 1, zs => lapp zs (repE n zs)

def mBuildSlice (t : TypeId) (len : Nat) (parts : List (Nat × V)) : Option Mk :=
  match P.underlying t with
  | some (.slice e) => match szE P e, zeroE P e with
    | some sz, some z =>
      bif Nat.beq (llen (cellsV z)) sz && (Nat.ble (len * sz) 16777216 && Nat.ble 1 sz) then
        (match fillE (fun i => some (i * sz, sz)) (repE len (cellsV z)) parts with
        | some cs => some (.mk cs e (some (len, len, sz)))
        | none => none) else none
    | _, _ => none
  | _ => none
def eBuildSlice (s : St) (t : TypeId) (len : Nat) (parts : List (Nat × V)) : Option (V × St) := mkNew s (mBuildSlice P t len parts)

def mMakeSlice (t : TypeId) (len cap : V) : Option Mk :=
  match P.underlying t, natOf len, natOf cap with
  | some (.slice e), some l, some c => match P.info? e, zeroE P e with
    | some i, some z =>
      bif Nat.beq (llen (cellsV z)) i.size && (Nat.ble 1 i.size && (Nat.ble l c && (Nat.ble c 281474976710656 && Nat.ble (i.bytes * c) 281474976710656))) then
        some (.mk (repE c (cellsV z)) e (some (l, c, i.size))) else none
    | _, _ => none
  | _, _, _ => none
def eMakeSlice (s : St) (t : TypeId) (len cap : V) : Option (V × St) := mkNew s (mMakeSlice P t len cap)

def byteV (b : UInt8) : V := .int .u8 (Int.ofNat b.toNat)
noncomputable def bytesV (x : BS) : List V := (digA x.n x.N []).map byteV
theorem bytesV_eq (x : BS) : bytesV x = x.list.map byteV := by unfold bytesV; rw [digA_eq, List.append_nil]; rfl
def eBytes (s : St) (src dst : TypeId) (a : V) : Option (V × St) :=
  match P.underlying src, P.underlying dst, a with
  | some _, some (.slice e), .str x => match P.underlying e with
    | some (.int .u8) => bif Nat.ble x.n 1099511627776 then some (.sl s.next 0 x.n x.n false 1, s.new (.cells (bytesV x) e true)) else none
    | _ => none
  | _, _, _ => none

/-- a range over a string -/
def eRange (s : St) (t : TypeId) (x : V) : Option (V × St) :=
  match P.underlying t, x with
  | some .string, .str b => some (.it s.next, s.new (.siter b 0))
  | _, _ => none
def eNext (s : St) (it : V) : Option (V × St) :=
  match it with
  | .it b => match s.heap.get b with
    | some (.siter x pos) => bif Nat.blt pos x.n then
        (bif Nat.blt (x.get pos) 128 then some (.tup [.bool true, .int .i64 (Int.ofNat pos), .int .i32 (Int.ofNat (x.get pos))], s.upd b (.siter x (pos + 1))) else none)
        else some (.tup [.bool false], s)
    | _ => none
  | _ => none

/-- the first n elements of a slice, cell by cell -/
def sliceCells (s : St) (v : V) (n : Nat) : Option (List V) :=
  match v with
  | .nils => bif Nat.beq n 0 then some [] else none
  | .slz _ => bif Nat.beq n 0 then some [] else none
  | .sl b o _ _ _ es => match cellsAt s b with
    | some cs => bif Nat.ble (o + n * es) (llen cs) then some (ltake (ldrop cs o) (n * es)) else none
    | none => none
  | _ => none

def lenE : V → Option Nat
  | .nils => some 0
  | .slz _ => some 0
  | .sl _ _ len _ _ _ => some len
  | .str x => some x.n
  | _ => none
def esOk (v : V) (sz : Nat) : Bool :=
  match v with
  | .sl _ _ _ _ _ es => Nat.beq es sz
  | .nils => true
  | .slz _ => true
  | _ => false
/-- what is appended, cell by cell -/
def srcCells (s : St) (x : V) (sz : Nat) : Option (List V) :=
  match x with
  | .str b => bif Nat.beq sz 1 then some (bytesV b) else none
  | _ => bif esOk x sz then (match lenE x with
    | some n => sliceCells s x n
    | none => none) else none

def St.move (s : St) (b : Nat) (o : EObj) : St := ⟨(s.heap.set b none).set s.next (some o), s.next + 1⟩

def zerosE (ts : Array TypeId) : Bool :=
  match ts[1]? with
  | some t1 => (match P.underlying t1 with
    | some (.int _) => true
    | some _ => false
    | none => true)
  | none => false

/-- how many elements are appended, and which cells -/
def srcE (s : St) (ts : Array TypeId) (i : TypeInfo) (z : V) (x : V) : Option (Nat × List V) :=
  bif zerosE P ts then
    (match ts[1]? with
    | some t1 => match P.underlying t1 with
      | some (.int _) => match x with
        | .int .i64 (.ofNat n) => bif Nat.ble (n * i.bytes) 281474976710656 && Nat.ble n 1099511627776 then some (n, repE n (cellsV z)) else none
        | _ => none
      | _ => none
    | none => none)
  else match lenE x with
    | some n => match srcCells s x i.size with
      | some new => some (n, new)
      | none => none
    | none => none
def eAppend (s : St) (ts : Array TypeId) (a x : V) : Option (V × St) :=
  match ts[0]? with
  | none => none
  | some t =>
  match P.underlying t with
  | some (.slice e) =>
    match P.info? e, zeroE P e with
    | some i, some z =>
      bif !(Nat.beq (llen (cellsV z)) i.size && Nat.ble 1 i.size) then none else
      match srcE P s ts i z x with
      | none => none
      | some (n, new) =>
      match a with
      | .slz x' =>
        bif Nat.beq n 0 then some (.slz x', s) else
        bif x' && (Nat.ble ((2 * n + 768) * i.bytes) 281474976710656 && Nat.ble n 1099511627776) then
          some (.sl s.next 0 n n false i.size, s.new (.cells new e false)) else none
      | .nils =>
        bif Nat.beq n 0 then some (.nils, s) else
        bif Nat.ble ((2 * n + 768) * i.bytes) 281474976710656 && Nat.ble n 1099511627776 then
          some (.sl s.next 0 n n false i.size, s.new (.cells new e false)) else none
      | .sl b o len cap x' es =>
        bif !Nat.beq es i.size then none else
        bif Nat.ble (len + n) cap then
          (match s.heap.get b with
          | some (.cells cs t' ish) => bif Nat.ble (o + (len + n) * es) (llen cs) && lall oneV new then some (.sl b o (len + n) cap x' es, s.upd b (.cells (setAll cs (o + len * es) new) t' ish)) else none
          | _ => none)
        else
        bif !(Nat.ble ((2 * (len + n) + 768) * i.bytes) 281474976710656 && Nat.ble (len + n) 1099511627776) then none else
        match s.heap.get b with
        | some (.cells cs t' ish) =>
          bif !(Nat.ble (o + len * es) (llen cs) && lall oneV new) then none else
          bif x' then some (.sl s.next 0 (len + n) (len + n) false es, s.new (.cells (lapp (ltake (ldrop cs o) (len * es)) new) e false))
          else some (.sl s.next 0 (len + n) (len + n) false es, s.move b (.cells (lapp (ltake (ldrop cs o) (len * es)) new) e ish))
        | _ => none
      | _ => none
    | _, _ => none
  | _ => none

def eCopy (s : St) (ts : Array TypeId) (d x : V) : Option (V × St) :=
  match ts[0]? with
  | none => none
  | some t =>
  match P.underlying t with
  | some (.slice e) => match szE P e, lenE d, lenE x with
    | some sz, some dl, some xl =>
      bif !(esOk d sz && Nat.ble 1 sz) then none else
      match srcCells s x sz with
      | none => none
      | some all =>
      let new := ltake all (Nat.min xl dl * sz)
      match d with
      | .nils => some (.int .i64 0, s)
      | .sl b o _ _ _ _ => match s.heap.get b with
        | some (.cells cs t' ish) => bif Nat.ble (o + llen new) (llen cs) && lall oneV new then some (.int .i64 (Int.ofNat (Nat.min xl dl)), s.upd b (.cells (setAll cs o new) t' ish)) else none
        | _ => none
      | _ => none
    | _, _, _ => none
  | _ => none
end

section
variable {P : Program} {base : Nat} {ρ : Env} {s : St} {w : World}

def CP (ρ : Env) (O : Nat) (cs : List V) (C : Array Value) : Prop := ∀ (i : Nat) (v : V), cs[i]? = some v → ∃ W, C[O + i]? = some W ∧ VRel ρ v W
def setA : Array Value → Nat → List Value → Array Value
  | C, _, [] => C
  | C, o, v :: l => setA (C.setIfInBounds o v) (o + 1) l
theorem setA_size : ∀ (l : List Value) (C : Array Value) (o : Nat), (setA C o l).size = C.size
  | [], _, _ => rfl
  | v :: l, C, o => by simp [setA, setA_size l]

theorem CP.set {O : Nat} {cs : List V} {C : Array Value} (h : CP ρ O cs C) {v : V} {X : Value} (hv : VRel ρ v X) {o : Nat} (ho : O + o < C.size) : CP ρ O (cs.set o v) (C.setIfInBounds (O + o) X) := by
  intro i u hi
  rw [List.getElem?_set] at hi
  rw [Array.getElem?_setIfInBounds]
  by_cases e : o = i
  · subst e
    simp only [if_true] at hi ⊢
    split at hi
    · cases hi; exact ⟨X, by simp [ho], hv⟩
    · cases hi
  · rw [if_neg e] at hi
    rw [if_neg (by omega)]
    exact h i u hi

theorem CP.setAll0 {O : Nat} : ∀ {l : List V} {L : List Value}, LRel ρ l L → ∀ {cs : List V} {C : Array Value}, CP ρ O cs C → ∀ {o : Nat}, O + o + l.length ≤ C.size → CP ρ O (setAll0 cs o l) (setA C (O + o) L)
  | [], L, hl, cs, C, h, o, ho => by
    have hl : L = [] := hl
    subst hl; exact h
  | v :: l, L, hl, cs, C, h, o, ho => by
    obtain ⟨X, Y, rfl, h1, h2⟩ := hl
    simp only [List.length_cons] at ho
    have := CP.setAll0 h2 (h.set h1 (o := o) (by omega)) (o := o + 1) (by simp; omega)
    rw [← lset_eq] at this
    exact this

theorem CP.setAll {O : Nat} {l : List V} {L : List Value} (hl : LRel ρ l L) {cs : List V} {C : Array Value} (h : CP ρ O cs C) {o : Nat} (ho : O + o + l.length ≤ C.size) : CP ρ O (Eng.setAll cs o l) (setA C (O + o) L) := by
  rw [setAll_is]; exact CP.setAll0 hl h ho

theorem oneV_rel {v : V} {X : Value} (h : VRel ρ v X) (ho : oneV v = true) : X.oneCell' = true := by
  cases v <;> simp only [oneV, Bool.false_eq_true] at ho <;> simp only [VRel] at h
  all_goals first
    | (subst h; rfl)
    | (obtain ⟨_, _, _, _, rfl⟩ := h; rfl)
    | (obtain ⟨_, _, _, _, _, rfl, _⟩ := h; rfl)
    | (obtain ⟨_, _, rfl⟩ := h; rfl)
    | (obtain ⟨_, _, rfl, _⟩ := h; rfl)
    | (obtain ⟨_, rfl, _⟩ := h; rfl)
theorem allOne_rel : ∀ {l : List V} {L : List Value}, LRel ρ l L → l.all oneV = true → ∀ X ∈ L, X.oneCell' = true
  | [], L, h, _, X, hX => by have h : L = [] := h; subst h; cases hX
  | v :: l, L, h, ho, X, hX => by
    obtain ⟨Y, Z, rfl, h1, h2⟩ := h
    simp only [List.all_cons, Bool.and_eq_true] at ho
    rcases List.mem_cons.1 hX with rfl | hX
    · exact oneV_rel h1 ho.1
    · exact allOne_rel h2 ho.2 X hX

def NotFrozen (S : Nat) (fr : Nat × Nat) : Prop := ∀ k, k < S → (decide (fr.1 ≤ k) && decide (k < fr.2)) = false

theorem set_at {w : World} {B : Nat} {C : Array Value} {t : TypeId} {fr : Nat × Nat} (h : w.heap[B]? = some (.cells C t fr)) (o : Nat) (X : Value) :
    w.setCell ⟨B, o, none⟩ X = { w with heap := w.heap.setIfInBounds B (.cells (C.setIfInBounds o X) t fr) } := by
  simp only [World.setCell]
  congr 1
  apply Array.ext_getElem?
  intro i
  rw [Array.getElem?_modify, Array.getElem?_setIfInBounds]
  have hlt : B < w.heap.size := by
    rcases Nat.lt_or_ge B w.heap.size with hh | hh
    · exact hh
    · rw [Array.getElem?_eq_none hh] at h; cases h
  by_cases e : B = i
  · subst e
    have hh : w.heap[B] = .cells C t fr := by
      rw [Array.getElem?_eq_getElem hlt] at h
      exact Option.some.inj h
    simp [hlt, hh]
  · simp [e]

theorem run_storeAll {B : Nat} {t : TypeId} {fr : Nat × Nat} : ∀ (vs : List Value) (off i : Nat) (C : Array Value) (w : World), w.heap[B]? = some (.cells C t fr) → NotFrozen C.size fr → off + i + vs.length ≤ C.size →
    (∀ v ∈ vs, v.oneCell' = true) → (storeCells ⟨B, off, none⟩ vs i).run P w = .ok () { w with heap := w.heap.setIfInBounds B (.cells (setA C (off + i) vs) t fr) }
  | [], off, i, C, w, hw, _, _, _ => by
    simp only [storeCells, Sem.run_pure, setA]
    congr 1
    cases w with
    | mk heap tape drawn os output =>
      simp only at hw ⊢
      congr 1
      apply Array.ext_getElem?
      intro k
      rw [Array.getElem?_setIfInBounds]
      split
      · rename_i e; subst e
        split
        · exact hw
        · rename_i hh; rw [Array.getElem?_eq_none (by omega)] at hw; cases hw
      · rfl
  | v :: vs, off, i, C, w, hw, hf, hl, h1 => by
    simp only [List.length_cons] at hl
    have hlt : off + i < C.size := by omega
    have hc : w.cell? ⟨B, off + i, none⟩ = some C[off + i] := by simp [World.cell?, hw, hlt]
    have hfr : w.frozen? ⟨B, off + i, none⟩ = false := by simp only [World.frozen?, hw]; exact hf _ hlt
    simp only [storeCells, Sem.run_bind, addr_add, run_store P w _ v _ (h1 v (by simp)), hc, hfr, Bool.false_eq_true, if_false, Result.andThen_ok, set_at hw]
    have hB : B < w.heap.size := by
      rcases Nat.lt_or_ge B w.heap.size with hh | hh
      · exact hh
      · rw [Array.getElem?_eq_none hh] at hw; cases hw
    have := run_storeAll (B := B) (t := t) (fr := fr) vs off (i + 1) (C.setIfInBounds (off + i) v) { w with heap := w.heap.setIfInBounds B (.cells (C.setIfInBounds (off + i) v) t fr) }
      (by simp [hB]) (by simpa using hf) (by simp; omega) (fun u hu => h1 u (by simp [hu]))
    rw [this]
    simp [setA, Nat.add_assoc]

theorem SRel.cellsObj (h : SRel base ρ s w) {b : Nat} {cs : List V} {t : TypeId} {ish : Bool} (hg : s.heap.get b = some (.cells cs t ish)) {x : Blk} (hx : ρ b = some x) :
    ∃ C t' fr, w.heap[x.B]? = some (.cells C t' fr) ∧ C.size = x.S ∧ x.O + cs.length ≤ x.S ∧ CP ρ x.O cs C ∧ NotFrozen x.S fr ∧ (ish = false → fr = (0, 0)) ∧ base ≤ x.B := by
  obtain ⟨y, h1, h2, C, t', fr, h3, h4, h5, h6, h7, h8⟩ := h.obj' hg hx
  rw [hx] at h1; cases h1
  exact ⟨C, t', fr, h3, h4, h5, h6, h7, h8, h2⟩

/-- cells of a block are written -/
theorem SRel.write (h : SRel base ρ s w) {b : Nat} {cs : List V} {t : TypeId} {ish : Bool} (hg : s.heap.get b = some (.cells cs t ish)) {x : Blk} (hx : ρ b = some x)
    {o : Nat} {l : List V} {L : List Value} (hl : LRel ρ l L) (ho : o + l.length ≤ cs.length) (h1 : l.all oneV = true) :
    ∃ w', (storeCells ⟨x.B, x.O + o, none⟩ L).run P w = .ok () w' ∧ SRel base ρ (s.upd b (.cells (Eng.setAll cs o l) t ish)) w' ∧ Below base w w' := by
  obtain ⟨C, t', fr, e1, e2, e3, e4, e5, e6, e7⟩ := h.cellsObj hg hx
  have hlen := hl.length
  have hrun := run_storeAll (P := P) L (x.O + o) 0 C w e1 (by rw [e2]; exact e5) (by omega) (allOne_rel hl h1)
  refine ⟨_, hrun, ?_, below_set e7 rfl⟩
  refine h.upd hg hx _ _ rfl ⟨_, t', fr, rfl, by rw [setA_size]; exact e2, by rw [setAll_length]; exact e3, ?_, e5, e6⟩
  rw [Nat.add_zero]
  exact CP.setAll hl e4 (by omega)

theorem eStore_rel (h : SRel base ρ s w) {t : TypeId} {a v : V} {s' : St} (hq : eStore P s t a v = some s') {A X : Value} (ha : VRel ρ a A) (hv : VRel ρ v X) :
    ∃ w', (Instr.storeAt t A X).run P w = .ok () w' ∧ SRel base ρ s' w' ∧ Below base w w' := by
  unfold eStore at hq
  simp only [llen_eq, lall_eq, ltake_eq, ldrop_eq, lapp_eq, lget_eq] at hq
  split at hq
  · rename_i b o
    split at hq
    · rename_i cs t' ish hg
      split at hq
      · rename_i n hn
        cases hb : (Nat.beq (cellsV v).length n && (Nat.ble (o + n) cs.length && (cellsV v).all oneV)) with
        | false => simp [hb] at hq
        | true =>
          simp only [hb, cond_true, Option.some.injEq] at hq
          subst hq
          simp only [Bool.and_eq_true, Nat.ble_eq, Nat.beq_eq] at hb
          simp only [VRel] at ha
          obtain ⟨B, O, S, hB, rfl⟩ := ha
          have hc := cellsV_rel hv
          obtain ⟨w', h1, h2, h3⟩ := h.write (P := P) hg hB hc (o := o) (by omega) hb.2.2
          refine ⟨w', ?_, h2, h3⟩
          have hl := hc.length
          simp only [Array.length_toList] at hl
          have : ¬ X.cells.size ≠ n := by omega
          simp only at h1
          simp [Instr.storeAt, Instr.sureAddr, storeVar, run_size hn, this, h1]
      · cases hq
    · cases hq
  · cases hq

/-- a new block of cells -/
theorem SRel.newCells (h : SRel base ρ s w) {cs : List V} {C : Array Value} (hc : LRel ρ cs C.toList) (t t' : TypeId) :
    ρ.le (ρ.put s.next ⟨w.heap.size, 0, C.size⟩) ∧ SRel base (ρ.put s.next ⟨w.heap.size, 0, C.size⟩) (s.new (.cells cs t false)) { w with heap := w.heap.push (.cells C t') } ∧
      Below base w { w with heap := w.heap.push (.cells C t') } := by
  have hle := Env.le_put ⟨w.heap.size, 0, C.size⟩ h.fresh
  refine ⟨hle, h.new _ (.cells C t') C.size rfl ⟨C, t', (0, 0), rfl, rfl, ?_, ?_, by simp, fun _ => rfl⟩, below_new h.le rfl⟩
  · have := hc.length; simp at this; omega
  · intro i v hi
    obtain ⟨X, e1, e2⟩ := hc.get hi
    exact ⟨X, by simpa using e1, VRel.mono hle _ _ e2⟩

def OKv (P : Program) (base : Nat) (ρ : Env) (m : Sem Value) (w : World) (v : V) (s' : St) : Prop :=
  ∃ ρ' X w', ρ.le ρ' ∧ m.run P w = .ok X w' ∧ VRel ρ' v X ∧ SRel base ρ' s' w' ∧ Below base w w'

/-- the operation makes one block, that is just so -/
def MkOK (P : Program) (ρ : Env) (m : Sem Value) (w : World) : Mk → Prop
  | .mk cs t sl => ∃ X C t', m.run P w = .ok X { w with heap := w.heap.push (.cells C t') } ∧ LRel ρ cs C.toList ∧
      ∀ (ρ' : Env) (b : Nat), ρ' b = some ⟨w.heap.size, 0, C.size⟩ → VRel ρ' ((Mk.mk cs t sl).val b) X
theorem mkNew_rel (h : SRel base ρ s w) {m : Option Mk} {v : V} {s' : St} (hq : mkNew s m = some (v, s')) {x : Sem Value} (hm : ∀ k, m = some k → MkOK P ρ x w k) : OKv P base ρ x w v s' := by
  unfold mkNew at hq
  split at hq
  · rename_i m
    cases hq
    obtain ⟨cs, t, sl⟩ := m
    obtain ⟨X, C, t', e1, e2, e3⟩ := hm _ rfl
    obtain ⟨h1, h2, h3⟩ := h.newCells e2 t t'
    exact ⟨_, X, _, h1, e1, e3 _ _ Env.put_same, h2, h3⟩
  · cases hq

theorem newVar_mk {v : V} {X : Value} (hv : VRel ρ v X) (t : TypeId) : MkOK P ρ (do pure (.pointer (some (← newVar t X)))) w (.mk (cellsV v) t none) := by
  refine ⟨_, X.cells, t, by simp [newVar, newRow]; rfl, cellsV_rel hv, fun ρ' b hb => ?_⟩
  simp only [Mk.val, VRel]
  exact ⟨_, _, _, hb, rfl⟩

theorem mAlloc_rel {t : TypeId} {m : Mk} (hq : mAlloc P t = some m) : MkOK P ρ (Instr.alloc t true (.tuple #[])) w m := by
  unfold mAlloc at hq
  split at hq
  · rename_i z hz
    cases hq
    obtain ⟨Z, hZ, hzr, _⟩ := zeroE_rel (ρ := ρ) (w := w) hz
    obtain ⟨X, C, t', h1, h2⟩ := newVar_mk (P := P) (w := w) hzr t
    refine ⟨X, C, t', ?_, h2⟩
    simp only [Instr.alloc, Sem.run_bind, hZ, Result.andThen_ok]
    simpa using h1
  · cases hq
theorem eAlloc_rel (h : SRel base ρ s w) {t : TypeId} {v : V} {s' : St} (hq : eAlloc P s t = some (v, s')) : OKv P base ρ (Instr.alloc t true (.tuple #[])) w v s' :=
  mkNew_rel h hq fun _ => mAlloc_rel

theorem mBox_rel {t : TypeId} {v : V} {m : Mk} (hq : mBox t v = some m) {X : Value} (hv : VRel ρ v X) : MkOK P ρ (Instr.box t X) w m := by
  cases hq
  exact newVar_mk hv t
theorem eBox_rel (h : SRel base ρ s w) {t : TypeId} {v u : V} {s' : St} (hq : eBox s t v = some (u, s')) {X : Value} (hv : VRel ρ v X) : OKv P base ρ (Instr.box t X) w u s' :=
  mkNew_rel h hq fun _ h => mBox_rel h hv

theorem repE_length : ∀ n (zs : List V), (repE n zs).length = n * zs.length
  | 0, _ => by simp [repE]
  | n + 1, zs => by simp [repE, lapp_eq, repE_length n, Nat.succ_mul, Nat.add_comm]
theorem repE_get : ∀ n (zs : List V) i, i < n * zs.length → (repE n zs)[i]? = zs[i % zs.length]?
  | 0, _, _, h => by simp at h
  | n + 1, zs, i, h => by
    simp only [repE, lapp_eq]
    rcases Nat.lt_or_ge i zs.length with hi | hi
    · rw [List.getElem?_append_left hi, Nat.mod_eq_of_lt hi]
    · rw [List.getElem?_append_right hi, repE_get n zs _ (by rw [Nat.succ_mul] at h; omega), ← Nat.mod_eq_sub_mod hi]

theorem range_rep {zs : List V} {Z : Array Value} (hz : LRel ρ zs Z.toList) (n : Nat) : LRel ρ (repE n zs) ((Array.range (n * zs.length)).map (fun i => Z[i % Z.size]!)).toList := by
  have hl := hz.length
  simp only [Array.length_toList] at hl
  refine LRel.of_get (by simp [repE_length]) fun i v hi => ?_
  have hlt : i < n * zs.length := by
    have := (List.getElem?_eq_some_iff.1 hi).1
    rwa [repE_length] at this
  rw [repE_get n zs i hlt] at hi
  obtain ⟨X, h1, h2⟩ := hz.get hi
  simp only [Array.getElem?_toList] at h1
  refine ⟨X, ?_, h2⟩
  simp only [Array.toList_map, Array.toList_range, List.getElem?_map, List.getElem?_range hlt, Option.map_some, Option.some.injEq]
  rw [← hl, Array.getElem!_eq_getD, Array.getD_eq_getD_getElem?, h1]
  rfl

theorem map_range0 {α : Type} (f : Nat → α) : (Array.range 0).map f = #[] := by apply Array.eq_empty_of_size_eq_zero; simp

theorem info_size {t : TypeId} {i : TypeInfo} (h : P.info? t = some i) : (sizeOf t).run P w = .ok i.size w := by simp [sizeOf, typeInfo, h]

theorem mBuildSlice_rel {t : TypeId} {len : Nat} {ps : List (Nat × V)} {m : Mk} (hq : mBuildSlice P t len ps = some m) {Ps : Array (Nat × Value)} (hp : PRel ρ ps Ps.toList) :
    MkOK P ρ (Instr.buildSlice t len Ps) w m := by
  unfold mBuildSlice at hq
  simp only [llen_eq, lall_eq, ltake_eq, ldrop_eq, lapp_eq, lget_eq] at hq
  split at hq
  · rename_i e hd
    split at hq
    · rename_i sz z hsz hz
      cases hb : (Nat.beq (cellsV z).length sz && (Nat.ble (len * sz) 16777216 && Nat.ble 1 sz)) with
      | false => simp [hb] at hq
      | true =>
      simp only [hb, cond_true] at hq
      simp only [Bool.and_eq_true, Nat.ble_eq, Nat.beq_eq] at hb
      split at hq
      · rename_i cs hcs
        cases hq
        obtain ⟨Z, hZ, hzr, _⟩ := zeroE_rel (ρ := ρ) (w := w) hz
        have hzc := cellsV_rel hzr
        have hrep := range_rep hzc len
        rw [hb.1] at hrep
        obtain ⟨R, e1, e2⟩ := fillE_rel hp hrep hcs
        refine ⟨.slice (some ⟨w.heap.size, 0, none⟩) len len, R, e, ?_, e2, fun ρ' b hbb => ?_⟩
        · by_cases h0 : len * sz = 0
          · have hlen : len = 0 := by rcases Nat.mul_eq_zero.1 h0 with h | h; exact h; omega
            subst hlen
            simp only [Nat.zero_mul] at e1
            have e0 : (Array.range 0).map (fun i => Z.cells[i % Z.cells.size]!) = #[] := by apply Array.eq_empty_of_size_eq_zero; simp
            rw [e0] at e1
            have e1' : Instr.fill (fun i => some (i * sz, sz)) #[] Ps.toList = some R := e1
            simp [Instr.buildSlice, run_und hd, run_size hsz, newRow, map_range0, e1']
          · have hbig : ¬ len * sz > 2 ^ 24 := by omega
            have hbig' : ¬ 16777216 < len * sz := by omega
            simp only [Instr.buildSlice, Sem.run_bind, run_und hd, Result.andThen_ok, run_size hsz, Sem.run_ite, hbig, h0, if_false, hZ, Sem.run_pure]
            rw [e1]
            simp [newRow]
        · simp only [Mk.val, VRel]
          refine ⟨_, _, _, len, hbb, rfl, Nat.le_refl _, Nat.le_refl _, fun _ => rfl, ?_⟩
          have hl := e2.length
          have : cs.length = len * sz := by
            have : ∀ (ps : List (Nat × V)) (c r : List V), fillE (fun i => some (i * sz, sz)) c ps = some r → r.length = c.length := by
              intro ps
              induction ps with
              | nil => intro c r hh; simp only [fillE] at hh; cases hh; rfl
              | cons p ps ih =>
                intro c r hh
                simp only [fillE, llen_eq] at hh
                cases hc : (Nat.beq (cellsV p.2).length sz && Nat.ble (p.1 * sz + sz) c.length) with
                | false => simp [hc] at hh
                | true => simp only [hc, cond_true] at hh; rw [ih _ _ hh, setAll_length]
            rw [this _ _ _ hcs, repE_length, hb.1]
          simp only [Array.length_toList] at hl
          have hpos : len ≤ len * sz := Nat.le_mul_of_pos_right _ (by omega)
          omega
      · cases hq
    · cases hq
  · cases hq

theorem eBuildSlice_rel (h : SRel base ρ s w) {t : TypeId} {len : Nat} {ps : List (Nat × V)} {v : V} {s' : St} (hq : eBuildSlice P s t len ps = some (v, s')) {Ps : Array (Nat × Value)} (hp : PRel ρ ps Ps.toList) :
    OKv P base ρ (Instr.buildSlice t len Ps) w v s' := mkNew_rel h hq fun _ h => mBuildSlice_rel h hp

theorem wrap_small {n : Nat} (h : n ≤ 281474976710656) : IntKind.i64.wrap (n : Int) = n := by
  have h2 : (n : Int) % (2 ^ IntKind.i64.bits : Int) = n := Int.emod_eq_of_lt (by omega) (by simp only [IntKind.bits]; omega)
  unfold IntKind.wrap
  simp only [h2]
  exact if_neg (by simp [IntKind.signed, IntKind.bits]; omega)

theorem mMakeSlice_rel {t : TypeId} {len cap : V} {m : Mk} (hq : mMakeSlice P t len cap = some m) {L K : Value} (hl : VRel ρ len L) (hk : VRel ρ cap K) :
    MkOK P ρ (Instr.makeSlice t L K) w m := by
  unfold mMakeSlice at hq
  simp only [llen_eq, lall_eq, ltake_eq, ldrop_eq, lapp_eq, lget_eq] at hq
  split at hq
  · rename_i e l c hd hln hcn
    split at hq
    · rename_i i z hi hz
      cases hb : (Nat.beq (cellsV z).length i.size && (Nat.ble 1 i.size && (Nat.ble l c && (Nat.ble c 281474976710656 && Nat.ble (i.bytes * c) 281474976710656)))) with
      | false => simp [hb] at hq
      | true =>
      simp only [hb, cond_true, Option.some.injEq] at hq
      subst hq
      simp only [Bool.and_eq_true, Nat.ble_eq, Nat.beq_eq] at hb
      obtain ⟨b1, b2, b3, b4, b5⟩ := hb
      obtain ⟨k1, rfl⟩ := natOf_rel hln hl
      obtain ⟨k2, rfl⟩ := natOf_rel hcn hk
      obtain ⟨Z, hZ, hzr, _⟩ := zeroE_rel (ρ := ρ) (w := w) hz
      have hzc := cellsV_rel hzr
      have hrep := range_rep hzc c
      rw [b1] at hrep
      refine ⟨.slice (some ⟨w.heap.size, 0, none⟩) l c, _, e, ?_, hrep, fun ρ' b hbb => ?_⟩
      · have w1 := wrap_small (n := l) (by omega)
        have w2 := wrap_small (n := c) b4
        have t1 : ¬ ((c : Int) < 0) := by omega
        have t2 : ¬ ((i.bytes : Int) * (c : Int) > 2 ^ 48) := by
          have : ((i.bytes * c : Nat) : Int) ≤ 281474976710656 := by omega
          simp only [Int.natCast_mul] at this; omega
        have t2' : ¬ ((281474976710656 : Int) < (i.bytes : Int) * (c : Int)) := by simpa using t2
        have t3 : ¬ ((l : Int) < 0) := by omega
        have t4 : ¬ ((l : Int) > (c : Int)) := by omega
        have hti : (typeInfo e).run P w = .ok i w := by simp [typeInfo, hi]
        by_cases h0 : c * i.size = 0
        · have hc0 : c = 0 := by rcases Nat.mul_eq_zero.1 h0 with h | h; exact h; omega
          subst hc0
          have hl0 : l = 0 := by omega
          subst hl0
          have e0 : (Array.range (0 * i.size)).map (fun i => Z.cells[i % Z.cells.size]!) = #[] := by apply Array.eq_empty_of_size_eq_zero; simp
          rw [e0]
          have w0 : IntKind.i64.wrap 0 = 0 := by simpa using w2
          simp [Instr.makeSlice, run_und hd, asInt, run_asIntOf, hti, w0, info_size hi, newRow, map_range0]
        · simp [Instr.makeSlice, run_und hd, asInt, run_asIntOf, hti, w1, w2, t1, t2', t3, info_size hi, newRow, h0, hZ, Nat.not_lt.2 b3]
      · simp only [Mk.val, VRel]
        refine ⟨_, _, _, c, hbb, rfl, b3, Nat.le_refl _, fun _ => rfl, by simp, by omega⟩
    · cases hq
  · cases hq
theorem eMakeSlice_rel (h : SRel base ρ s w) {t : TypeId} {len cap v : V} {s' : St} (hq : eMakeSlice P s t len cap = some (v, s')) {L K : Value} (hl : VRel ρ len L) (hk : VRel ρ cap K) :
    OKv P base ρ (Instr.makeSlice t L K) w v s' := mkNew_rel h hq fun _ h => mMakeSlice_rel h hl hk

theorem eRange_rel (h : SRel base ρ s w) {t : TypeId} {x v : V} {s' : St} (hq : eRange P s t x = some (v, s')) {X : Value} (hx : VRel ρ x X) : OKv P base ρ (Instr.range t X) w v s' := by
  unfold eRange at hq
  split at hq
  · rename_i b hd
    cases hq
    simp only [VRel] at hx
    subst hx
    have hle := Env.le_put ⟨w.heap.size, 0, 0⟩ h.fresh
    refine ⟨_, .pointer (some ⟨w.heap.size, 0, none⟩), { w with heap := w.heap.push (.stringIter b.den 0) }, hle, by simp [Instr.range, run_und hd], ?_, h.new _ (.stringIter b.den 0) 0 rfl rfl, below_new h.le rfl⟩
    simp only [VRel]; exact ⟨_, _, Env.put_same, rfl⟩
  · cases hq

theorem ascii_decode {x : BS} {pos : Nat} (hp : pos < x.n) (hc : x.get pos < 128) : Utf8.decode x.den pos = (x.get pos, 1) := by
  obtain ⟨b, h1, h2⟩ := BS.den_get x pos hp
  have hz : pos < x.den.size := by rw [BS.den_size]; exact hp
  rw [getElem?_pos x.den pos hz] at h1
  have h3 : x.den.get! pos = b := by
    have := Option.some.inj h1
    rw [← this]
    show x.den.data[pos]! = x.den.data[pos]
    exact getElem!_pos x.den.data pos hz
  unfold Utf8.decode
  simp only [Nat.add_zero, h3, h2, if_pos hc]

theorem eNext_rel (h : SRel base ρ s w) {x v : V} {s' : St} (hq : eNext s x = some (v, s')) {X : Value} (hx : VRel ρ x X) (ty : TypeId) : OKv P base ρ (Instr.next X true ty) w v s' := by
  unfold eNext at hq
  split at hq
  · rename_i b
    split at hq
    · rename_i str pos hg
      simp only [VRel] at hx
      obtain ⟨B, S, hB, rfl⟩ := hx
      obtain ⟨y, hy, hb, hO⟩ := h.obj' hg hB
      rw [hB] at hy; cases hy
      have hO : w.heap[B]? = some (.stringIter str.den pos) := hO
      have hget : (getObj B).run P w = .ok (.stringIter str.den pos) w := by simp only [getObj, Sem.run, hO]
      rw [blt_iff] at hq
      by_cases hp : pos < str.n
      · rw [decide_eq_true hp, cond_true, blt_iff] at hq
        by_cases hc : str.get pos < 128
        · rw [decide_eq_true hc, cond_true] at hq
          cases hq
          have hset : (setObj B (.stringIter str.den (pos + 1))).run P w = .ok () { w with heap := w.heap.setIfInBounds B (.stringIter str.den (pos + 1)) } := by simp only [setObj, Sem.run, hO]
          refine ⟨ρ, .tuple #[.bool true, .int .i64 (Int.ofNat pos), .int .i32 (Int.ofNat (str.get pos))], _, ρ.le_refl, ?_, ?_, h.upd hg hB _ (.stringIter str.den (pos + 1)) rfl rfl, below_set hb rfl⟩
          · have hp' : pos < str.den.size := by rw [BS.den_size]; exact hp
            simp [Instr.next, hget, hp', ascii_decode hp hc, hset, goInt]
          · simp only [VRel]
            exact ⟨_, rfl, LRel.cons (by simp only [VRel]) (LRel.cons (by simp only [VRel]) (LRel.cons (by simp only [VRel]) LRel.nil))⟩
        · rw [decide_eq_false hc] at hq; cases hq
      · rw [decide_eq_false hp, cond_false] at hq
        cases hq
        have hp' : ¬ pos < str.den.size := by rw [BS.den_size]; exact hp
        refine ⟨ρ, .tuple #[.bool false], w, ρ.le_refl, by simp [Instr.next, hget, hp'], ?_, h, Below.refl _ _⟩
        simp only [VRel]
        exact ⟨_, rfl, LRel.cons (by simp only [VRel]) LRel.nil⟩
    · cases hq
  · cases hq

end
end Go.Eng
