/-
  Texts of this claim, one behind the other: SymG SymH SymI SymJ SymS SymMa. Each says its own conditions.
-/
import Derived.Test.YtlkbmjdgfbciaaaRlPM1

set_option linter.unusedVariables false
set_option linter.unusedSimpArgs false
set_option linter.unusedSectionVars false
section
namespace Go.Sym
set_option linter.unusedSimpArgs false
set_option linter.unusedVariables false

section
variable {P : Program} {own : Own} {ρ : Env} {s : St} {w : World}

theorem arr1 {A : Array Value} {X : Value} (h : A.toList = [X]) : A = #[X] := by cases A; simp at h; simp [h]

theorem qBuiltin_rel (h : SRel own ρ s w) {b : Builtin} {ts : Array TypeId} {vs : List V} {v : V} (hq : qBuiltin P s b ts vs = some v) {A : Array Value} (ha : LRel ρ vs A.toList) (ty : TypeId) (cs : Array Bool) :
    ∃ X, (Go.builtin b ts ty cs A).run P w = .ok (.value X) w ∧ VRel ρ v X := by
  unfold qBuiltin at hq
  split at hq
  · split at hq
    · rename_i t a ht
      obtain ⟨X, Y, e, h1, h2⟩ := ha
      have h2 : Y = [] := h2
      subst h2
      obtain rfl := arr1 e
      obtain ⟨Z, e1, e2⟩ := qLen_rel h (ty := ty) hq h1 ht
      exact ⟨Z, by simp [Go.builtin, e1], e2⟩
    · cases hq
  · split at hq
    · rename_i t a ht
      obtain ⟨X, Y, e, h1, h2⟩ := ha
      have h2 : Y = [] := h2
      subst h2
      obtain rfl := arr1 e
      obtain ⟨Z, e1, e2⟩ := qCap_rel (w := w) (ty := ty) hq h1 ht
      exact ⟨Z, by simp [Go.builtin, e1], e2⟩
    · cases hq
  · split at hq
    · rename_i k x l
      obtain ⟨X, Y, e, h1, h2⟩ := ha
      simp only [VRel] at h1; subst h1
      obtain ⟨Z, e1, e2⟩ := minMax_rel (P := P) (w := w) l _ _ v hq h2
      exact ⟨Z, by simp [Go.builtin, Builtin.min_, e, e1], e2⟩
    · cases hq
  · split at hq
    · rename_i k x l
      obtain ⟨X, Y, e, h1, h2⟩ := ha
      simp only [VRel] at h1; subst h1
      obtain ⟨Z, e1, e2⟩ := maxMin_rel (P := P) (w := w) l _ _ v hq h2
      exact ⟨Z, by simp [Go.builtin, Builtin.max_, e, e1], e2⟩
    · cases hq
  · cases hq

theorem map_toList {α β : Type} (a : Array α) (f : α → β) : (a.map f).toList = a.toList.map f := by simp

theorem pickV_rel {b : Bool} {x y v : V} (hq : pickV b x y = some v) {X Y : Value} (hx : VRel ρ x X) (hy : VRel ρ y Y) : VRel ρ v (if b then X else Y) := by
  unfold pickV at hq
  split at hq
  · rename_i k m k' n
    rw [kEq_iff] at hq
    by_cases hk : k = k'
    · subst hk
      simp only [decide_true, cond_true, Option.some.injEq] at hq
      subst hq
      simp only [VRel] at hx hy ⊢; subst hx; subst hy
      cases b <;> rfl
    · simp [hk] at hq
  · cases hq
    simp only [VRel] at hx hy ⊢; subst hx; subst hy
    cases b <;> rfl
  · cases hq
    simp only [VRel] at hx hy ⊢; subst hx; subst hy
    cases b <;> rfl
  · split at hq <;> cases hq
    · exact hx
    · exact hy

theorem qop_rel (h : SRel own ρ s w) {ev : Operand → Option V} {A : Act} (hA : EvRel ρ ev A) {o : Oper} {v : V} {ps : List Bool} (hq : qop P s ev o.op = some (ps, v)) (hp : allB ps) :
    ∃ X, (execOp A.eval o).run P w = .ok (.value X) w ∧ VRel ρ v X := by
  unfold qop at hq
  unfold execOp
  split at hq <;> rename_i heq <;> simp only [heq]
  · exact ⟨_, rfl, evalO_rel hA (okO_some hq).1⟩
  · exact ⟨_, rfl, evalO_rel hA (okO_some hq).1⟩
  · split at hq
    · rename_i hc hx hy
      have h1 := evalO_rel hA hc
      simp only [VRel] at h1
      exact ⟨_, by simp [h1, asBool], pickV_rel (okO_some hq).1 (evalO_rel hA hx) (evalO_rel hA hy)⟩
    · cases hq
  · split at hq
    · rename_i hv
      obtain ⟨X, h1, h2⟩ := qLoad_rel h hq hp (evalO_rel hA hv)
      exact ⟨X, by simp [h1], h2⟩
    · cases hq
  · split at hq
    · rename_i hv
      cases hq
      have := evalO_rel hA hv
      refine ⟨_, ?_, this⟩
      simp only [VRel] at this
      obtain ⟨B, O, S, _, e⟩ := this
      simp [e]
    · rename_i hv
      cases hq
      have := evalO_rel hA hv
      refine ⟨_, ?_, this⟩
      simp only [VRel] at this
      obtain ⟨B, O, e, _⟩ := this
      simp [e]
    · rename_i hv
      cases hq
      have := evalO_rel hA hv
      refine ⟨_, ?_, this⟩
      simp only [VRel] at this
      obtain ⟨B, O, S, _, e⟩ := this
      simp [e]
    · rename_i hv
      cases hq
      have := evalO_rel hA hv
      refine ⟨_, ?_, this⟩
      simp only [VRel] at this
      obtain ⟨B, O, e, _⟩ := this
      simp [e]
    · cases hq
  · split at hq
    · rename_i x y _ _ _ a b hx hy
      obtain ⟨X, h1, h2⟩ := qBin_rel h hq hp (evalO_rel hA hx) (evalO_rel hA hy) x y
      refine ⟨X, ?_, h2⟩
      rw [Sem.run_bind, h1]
      rfl
    · cases hq
  · split at hq
    · rename_i hv
      obtain ⟨X, h1, h2⟩ := qUn_rel (P := P) (w := w) (okO_some hq).1 (evalO_rel hA hv)
      exact ⟨X, by simp [h1], h2⟩
    · cases hq
  · split at hq
    · rename_i hv
      obtain ⟨X, h1, h2⟩ := qConv_rel h hq hp (evalO_rel hA hv)
      exact ⟨X, by simp [h1], h2⟩
    · cases hq
  · split at hq
    · cases hq
    · rename_i t x _ d hne hd
      split at hq
      · rename_i hv
        cases hq
        refine ⟨.iface _ _, ?_, by simp only [VRel]; exact ⟨_, rfl, evalO_rel hA hv⟩⟩
        have : (Instr.makeInterface t (A.eval x)).run P w = .ok (.iface t (A.eval x)) w := by
          simp only [Instr.makeInterface, Sem.run_bind, run_und hd, Result.andThen_ok]
          cases d <;> first | rfl | exact absurd rfl (hne _)
        simp [this]
      · cases hq
    · cases hq
  · split at hq
    · split at hq
      · rename_i h1 h2
        cases hq
        refine ⟨_, by simp [Instr.makeFunc]; rfl, ?_⟩
        simp only [VRel]
        exact ⟨_, _, rfl, by rw [map_toList]; exact evalOs_rel hA h1, by rw [map_toList]; exact evalOs_rel hA h2⟩
      · cases hq
    · cases hq
  · split at hq
    · rename_i h1 h2 h3 h4
      obtain ⟨X, e1, e2⟩ := qSlice_rel h hq hp (evalO_rel hA h1) (optO_rel hA h2) (optO_rel hA h3) (optO_rel hA h4)
      exact ⟨X, by simp [e1], e2⟩
    · cases hq
  · split at hq
    · rename_i hv
      obtain ⟨X, h1, h2⟩ := qFieldAddr_rel (w := w) (okO_some hq).1 (evalO_rel hA hv)
      exact ⟨X, by simp [h1], h2⟩
    · cases hq
  · split at hq
    · rename_i hv
      obtain ⟨X, h1, h2⟩ := qField_rel (w := w) (okO_some hq).1 (evalO_rel hA hv)
      exact ⟨X, by simp [h1], h2⟩
    · cases hq
  · split at hq
    · rename_i hx hy
      obtain ⟨X, h1, h2⟩ := qIndexAddr_rel (w := w) hq hp (evalO_rel hA hx) (evalO_rel hA hy)
      exact ⟨X, by simp [h1], h2⟩
    · cases hq
  · split at hq
    · rename_i hx hy
      obtain ⟨X, h1, h2⟩ := qIndex_rel (w := w) hq hp (evalO_rel hA hx) (evalO_rel hA hy)
      exact ⟨X, by simp [h1], h2⟩
    · cases hq
  · split at hq
    · rename_i hx hy
      obtain ⟨X, h1, h2⟩ := qLookup2_rel h (okO_some hq).1 (evalO_rel hA hx) (evalO_rel hA hy)
      exact ⟨X, by simp [h1], h2⟩
    · cases hq
  · split at hq
    · rename_i hv
      have := evalParts_rel hA hv
      obtain ⟨X, h1, h2⟩ := qBuild_rel (w := w) (okO_some hq).1 (Ps := _) (by rw [map_toList]; exact this)
      refine ⟨X, ?_, h2⟩
      simp [h1]
    · cases hq
  · split at hq
    · rename_i hv
      have := evalO_rel hA hv
      simp only [VRel] at this
      obtain ⟨cs, e, hl⟩ := this
      have hq := (okO_some hq).1
      rw [lget_eq] at hq
      obtain ⟨X, h1, h2⟩ := hl.get hq
      simp only [Array.getElem?_toList] at h1
      exact ⟨X, by simp [Instr.extract, e, h1], h2⟩
    · cases hq
  · split at hq
    · rename_i hv
      have hk := fun xt => qAssert_rel (w := w) xt (okO_some hq).1 (evalO_rel hA hv)
      rename_i xt _ _ _ _
      obtain ⟨X, h1, h2⟩ := hk xt
      exact ⟨X, by simp [h1], h2⟩
    · cases hq
  · split at hq
    · rename_i hc
      split at hq
      · rename_i vs hvs
        have := evalOs_rel hA hvs
        rw [← map_toList] at this
        obtain ⟨X, h1, h2⟩ := qBuiltin_rel h (okO_some hq).1 this o.type _
        exact ⟨X, by simp only [resolve, hc, Sem.run_bind, Sem.run_pure, Result.andThen_ok, invoke]; exact h1, h2⟩
      · cases hq
    · cases hq
  · cases hq

theorem qop_about {ev : Operand → Option V} {A : Act} {o : Oper} {v : V} {ps : List Bool} (hq : qop P s ev o.op = some (ps, v)) : o.about P w A.eval = none := by
  unfold qop at hq
  unfold Oper.about
  split at hq <;> rename_i heq <;> simp only [heq]
  · split at hq
    · rename_i hc
      simp [resolve, hc, Target.leads]
    · cases hq
end
end Go.Sym
end

section
namespace Go.Sym
set_option linter.unusedSimpArgs false
set_option linter.unusedVariables false

abbrev Er := Option (List Bool × V × St)
abbrev Es := Option (List Bool × St)
noncomputable section
variable (P : Program)

def arrTy (t : TypeId) : Option (Nat × List Ty) :=
  match P.underlying t with
  | some (.array n el) => match rowTyE P 6 el, szE P el with
    | some e, some z => bif Nat.beq z e.length && (Nat.ble 1 z && match szE P t with
      | some zt => Nat.beq zt (n * e.length)
      | none => false) then some (n, e) else none
    | _, _ => none
  | _ => none
def arrRows (n : Nat) (e : List Ty) (v : V) : Option (List (rowDen e)) :=
  match v with
  | .arr e' L => asL e e' L
  | .agg l => ofRows e n l
  | _ => none

def eStore (s : St) (t : TypeId) (a v : V) : Es :=
  match a with
  | .ptr b o => match s.heap.get b with
    | some (.cells cs t' ish) => match szE P t, cellsO v with
      | some n, some c => bif Nat.beq (llen c) n && (Nat.ble (o + n) (llen cs) && lall oneV c) then some ([], s.upd b (.cells (setAll cs o c) t' ish)) else none
      | _, _ => none
    | _ => none
  | .rptr b i j es => match s.heap.get b with
    | some (.rows e L t' ish) => bif !Nat.beq es e.length then none else
      match arrTy P t with
      | some (n, e2) => match i, j with
        | 0, 0 => bif !beqL e2 e then none else (match arrRows n e v with
          | some M => some ([decide (M.length = n), decide (L.length = n)], s.upd b (.rows e M t' ish))
          | none => none)
        | _, _ => none
      | none => match szE P t, cellsO v with
        | some n, some c => bif Nat.beq (llen c) n && (Nat.ble (j + n) es && lall oneV c) then (match ofRow e (setAll (rowV e (rowAt e L i)) j c) with
          | some r => some ([decide (i < L.length)], s.upd b (.rows e (L.set i r) t' ish))
          | none => none) else none
        | _, _ => none
    | _ => none
  | _ => none

inductive Mk where
  | cells (cs : List V) (t : TypeId) (sl : Option (Nat × Nat × Nat))
  | rows (e : List Ty) (L : List (rowDen e)) (t : TypeId) (sl : Option (Nat × Nat))
def Mk.val : Mk → Nat → V
  | .cells _ _ none, b => .ptr b 0
  | .cells _ _ (some (l, c, es)), b => .sl b 0 l c true es
  | .rows e _ _ none, b => .rptr b 0 0 e.length
  | .rows e _ _ (some (l, c)), b => .rs b 0 l c true e.length
def Mk.obj : Mk → EObj
  | .cells cs t _ => .cells cs t false
  | .rows e L t _ => .rows e L t false
def mkNew (s : St) : Option (List Bool × Mk) → Er
  | some (c, m) => some (c, m.val s.next, s.new m.obj)
  | none => none
def mBox (t : TypeId) (v : V) : Option (List Bool × Mk) :=
  match arrTy P t with
  | some (n, e) => match arrRows n e v with
    | some L => some ([], .rows e L t none)
    | none => none
  | none => match cellsO v with
    | some c => some ([], .cells c t none)
    | none => none
def mAlloc (t : TypeId) : Option (List Bool × Mk) :=
  match zeroE P t with
  | some z => mBox P t z
  | none => none
def eAlloc (s : St) (t : TypeId) : Er := mkNew s (mAlloc P t)
def eBox (s : St) (t : TypeId) (v : V) : Er := mkNew s (mBox P t v)

def repE : Nat → List V → List V
  | 0, _ => []
  | n + 1, zs => lapp zs (repE n zs)

def rowTy (el : TypeId) : Option (List Ty) :=
  match rowTyE P 6 el, szE P el with
  | some e, some z => bif Nat.beq z e.length && Nat.ble 1 z then some e else none
  | _, _ => none
def mRows (el : TypeId) (len : Nat) (cs : List V) (sz : Nat) : Mk :=
  match rowTy P el with
  | some e => bif Nat.beq e.length sz then (match ofRows e len cs with
    | some L => .rows e L el (some (len, len))
    | none => .cells cs el (some (len, len, sz))) else .cells cs el (some (len, len, sz))
  | none => .cells cs el (some (len, len, sz))
def mBuildSlice (t : TypeId) (len : Nat) (parts : List (Nat × V)) : Option (List Bool × Mk) :=
  match P.underlying t with
  | some (.slice e) => match szE P e, zeroE P e with
    | some sz, some zv => match cellsO zv with
      | some z =>
        bif Nat.beq (llen z) sz && (Nat.ble (len * sz) 16777216 && Nat.ble 1 sz) then
          (match fillE (fun i => some (i * sz, sz)) (repE len z) parts with
          | some cs => some ([], mRows P e len cs sz)
          | none => none) else none
      | none => none
    | _, _ => none
  | _ => none
def eBuildSlice (s : St) (t : TypeId) (len : Nat) (parts : List (Nat × V)) : Er := mkNew s (mBuildSlice P t len parts)

def mMakeSlice (t : TypeId) (len cap : V) : Option (List Bool × Mk) :=
  match P.underlying t, natOf len, natOf cap with
  | some (.slice el), some (cl, l), some (cc, c) => match P.info? el, zeroE P el with
    | some i, some zv => match cellsO zv with
      | some z =>
        bif Nat.beq (llen z) i.size && Nat.ble 1 i.size then
          (match rowTy P el with
          | some e => bif Nat.beq e.length i.size then (match ofRow e z with
            | some r => some (cl ++ (cc ++ [decide (l ≤ c), decide (c ≤ 281474976710656), decide (i.bytes * c ≤ 281474976710656)]), .rows e (List.replicate c r) el (some (l, c)))
            | none => none) else none
          | none => some (cl ++ (cc ++ [decide (l ≤ c), decide (c ≤ 281474976710656), decide (i.bytes * c ≤ 281474976710656)]), .cells (repE c z) el (some (l, c, i.size)))) else none
      | none => none
    | _, _ => none
  | _, _, _ => none
def eMakeSlice (s : St) (t : TypeId) (len cap : V) : Er := mkNew s (mMakeSlice P t len cap)

def eBytes (s : St) (src dst : TypeId) (a : V) : Er :=
  match P.underlying src, P.underlying dst, a with
  | some _, some (.slice e), .str x => match P.underlying e with
    | some (.int .u8) => some ([], .rs s.next 0 x.size x.size false 1, s.new (.rows [.int .u8] (bytesL x) e true))
    | _ => none
  | _, _, _ => none
end

section
variable {P : Program} {own : Own} {ρ : Env} {s : St} {w : World}

def CP (ρ : Env) (O : Nat) (cs : List V) (C : Array Value) : Prop := ∀ (i : Nat) (v : V), cs[i]? = some v → ∃ W, C[O + i]? = some W ∧ VRel ρ v W
def setA : Array Value → Nat → List Value → Array Value
  | C, _, [] => C
  | C, o, v :: l => setA (C.setIfInBounds o v) (o + 1) l
theorem setA_size : ∀ (l : List Value) (C : Array Value) (o : Nat), (setA C o l).size = C.size
  | [], _, _ => rfl
  | v :: l, C, o => by simp [setA, setA_size l]

theorem CP.set {O : Nat} {cs : List V} {C : Array Value} (h : CP ρ O cs C) {v : V} {X : Value} (hv : VRel ρ v X) {o : Nat} (ho : O + o < C.size) : CP ρ O (cs.set o v) (C.setIfInBounds (O + o) X) := by
  intro i u hi
  rw [List.getElem?_set] at hi
  rw [Array.getElem?_setIfInBounds]
  by_cases e : o = i
  · subst e
    simp only [if_true] at hi ⊢
    split at hi
    · cases hi; exact ⟨X, by simp [ho], hv⟩
    · cases hi
  · rw [if_neg e] at hi
    rw [if_neg (by omega)]
    exact h i u hi

theorem CP.setAll {O : Nat} : ∀ {l : List V} {L : List Value}, LRel ρ l L → ∀ {cs : List V} {C : Array Value}, CP ρ O cs C → ∀ {o : Nat}, O + o + l.length ≤ C.size → CP ρ O (setAll cs o l) (setA C (O + o) L)
  | [], L, hl, cs, C, h, o, ho => by
    have hl : L = [] := hl
    subst hl; exact h
  | v :: l, L, hl, cs, C, h, o, ho => by
    obtain ⟨X, Y, rfl, h1, h2⟩ := hl
    simp only [List.length_cons] at ho
    have := CP.setAll h2 (h.set h1 (o := o) (by omega)) (o := o + 1) (by simp; omega)
    rw [← lset_eq] at this
    exact this

theorem oneV_rel {v : V} {X : Value} (h : VRel ρ v X) (ho : oneV v = true) : X.oneCell' = true := by
  cases v <;> simp only [oneV, Bool.false_eq_true] at ho <;> simp only [VRel] at h
  all_goals first
    | (subst h; rfl)
    | (obtain ⟨_, _, _, _, rfl⟩ := h; rfl)
    | (obtain ⟨_, _, _, _, _, rfl, _⟩ := h; rfl)
    | (obtain ⟨_, _, rfl⟩ := h; rfl)
    | (obtain ⟨_, _, rfl, _⟩ := h; rfl)
    | (obtain ⟨_, rfl, _⟩ := h; rfl)
theorem allOne_rel : ∀ {l : List V} {L : List Value}, LRel ρ l L → l.all oneV = true → ∀ X ∈ L, X.oneCell' = true
  | [], L, h, _, X, hX => by have h : L = [] := h; subst h; cases hX
  | v :: l, L, h, ho, X, hX => by
    obtain ⟨Y, Z, rfl, h1, h2⟩ := h
    simp only [List.all_cons, Bool.and_eq_true] at ho
    rcases List.mem_cons.1 hX with rfl | hX
    · exact oneV_rel h1 ho.1
    · exact allOne_rel h2 ho.2 X hX

def NotFrozen (S : Nat) (fr : Nat × Nat) : Prop := ∀ k, k < S → (decide (fr.1 ≤ k) && decide (k < fr.2)) = false

theorem set_at {w : World} {B : Nat} {C : Array Value} {t : TypeId} {fr : Nat × Nat} (h : w.heap[B]? = some (.cells C t fr)) (o : Nat) (X : Value) :
    w.setCell ⟨B, o, none⟩ X = { w with heap := w.heap.setIfInBounds B (.cells (C.setIfInBounds o X) t fr) } := by
  simp only [World.setCell]
  congr 1
  apply Array.ext_getElem?
  intro i
  rw [Array.getElem?_modify, Array.getElem?_setIfInBounds]
  have hlt : B < w.heap.size := by
    rcases Nat.lt_or_ge B w.heap.size with hh | hh
    · exact hh
    · rw [Array.getElem?_eq_none hh] at h; cases h
  by_cases e : B = i
  · subst e
    have hh : w.heap[B] = .cells C t fr := by
      rw [Array.getElem?_eq_getElem hlt] at h
      exact Option.some.inj h
    simp [hlt, hh]
  · simp [e]

theorem run_storeAll {B : Nat} {t : TypeId} {fr : Nat × Nat} : ∀ (vs : List Value) (off i : Nat) (C : Array Value) (w : World), w.heap[B]? = some (.cells C t fr) → NotFrozen C.size fr → off + i + vs.length ≤ C.size →
    (∀ v ∈ vs, v.oneCell' = true) → (storeCells ⟨B, off, none⟩ vs i).run P w = .ok () { w with heap := w.heap.setIfInBounds B (.cells (setA C (off + i) vs) t fr) }
  | [], off, i, C, w, hw, _, _, _ => by
    simp only [storeCells, Sem.run_pure, setA]
    congr 1
    cases w with
    | mk heap tape drawn os output =>
      simp only at hw ⊢
      congr 1
      apply Array.ext_getElem?
      intro k
      rw [Array.getElem?_setIfInBounds]
      split
      · rename_i e; subst e
        split
        · exact hw
        · rename_i hh; rw [Array.getElem?_eq_none (by omega)] at hw; cases hw
      · rfl
  | v :: vs, off, i, C, w, hw, hf, hl, h1 => by
    simp only [List.length_cons] at hl
    have hlt : off + i < C.size := by omega
    have hc : w.cell? ⟨B, off + i, none⟩ = some C[off + i] := by simp [World.cell?, hw, hlt]
    have hfr : w.frozen? ⟨B, off + i, none⟩ = false := by simp only [World.frozen?, hw]; exact hf _ hlt
    simp only [storeCells, Sem.run_bind, addr_add, run_store P w _ v _ (h1 v (by simp)), hc, hfr, Bool.false_eq_true, if_false, Result.andThen_ok, set_at hw]
    have hB : B < w.heap.size := by
      rcases Nat.lt_or_ge B w.heap.size with hh | hh
      · exact hh
      · rw [Array.getElem?_eq_none hh] at hw; cases hw
    have := run_storeAll (B := B) (t := t) (fr := fr) vs off (i + 1) (C.setIfInBounds (off + i) v) { w with heap := w.heap.setIfInBounds B (.cells (C.setIfInBounds (off + i) v) t fr) }
      (by simp [hB]) (by simpa using hf) (by simp; omega) (fun u hu => h1 u (by simp [hu]))
    rw [this]
    simp [setA, Nat.add_assoc]

theorem SRel.cellsObj (h : SRel own ρ s w) {b : Nat} {cs : List V} {t : TypeId} {ish : Bool} (hg : s.heap.get b = some (.cells cs t ish)) {x : Blk} (hx : ρ b = some x) :
    ∃ C t' fr, w.heap[x.B]? = some (.cells C t' fr) ∧ C.size = x.S ∧ x.O + cs.length ≤ x.S ∧ CP ρ x.O cs C ∧ NotFrozen x.S fr ∧ (ish = false → fr = (0, 0)) ∧ (own x.B ∧ ∀ k, ρ.φ x.B k = none) := by
  obtain ⟨y, h1, h2, C, t', fr, h3, h4, h5, h6, h7, h8⟩ := h.obj' hg hx
  rw [hx] at h1; cases h1
  exact ⟨C, t', fr, h3, h4, h5, h6, h7, h8, h2⟩

theorem SRel.write (h : SRel own ρ s w) {b : Nat} {cs : List V} {t : TypeId} {ish : Bool} (hg : s.heap.get b = some (.cells cs t ish)) {x : Blk} (hx : ρ b = some x)
    {o : Nat} {l : List V} {L : List Value} (hl : LRel ρ l L) (ho : o + l.length ≤ cs.length) (h1 : l.all oneV = true) :
    ∃ w', (storeCells ⟨x.B, x.O + o, none⟩ L).run P w = .ok () w' ∧ SRel own ρ (s.upd b (.cells (Sym.setAll cs o l) t ish)) w' ∧ Fr own w w' := by
  obtain ⟨C, t', fr, e1, e2, e3, e4, e5, e6, e7⟩ := h.cellsObj hg hx
  have hlen := hl.length
  have hrun := run_storeAll (P := P) L (x.O + o) 0 C w e1 (by rw [e2]; exact e5) (by omega) (allOne_rel hl h1)
  refine ⟨_, hrun, ?_, fr_set e7.1 rfl⟩
  refine h.upd hg hx _ _ rfl ⟨_, t', fr, rfl, by rw [setA_size]; exact e2, by rw [setAll_length]; exact e3, ?_, e5, e6⟩
  rw [Nat.add_zero]
  exact CP.setAll hl e4 (by omega)

theorem TRel_lst (φ : Nat → Nat → Option Value) (e : List Ty) (L : (Ty.lst e).den) (X : Value) : TRel φ (.lst e) L X ↔ ∃ a c, X = .slice a (List.length (α := rowDen e) L) c ∧ List.length (α := rowDen e) L ≤ c ∧ (a = none → c = 0) ∧
      (0 < List.length (α := rowDen e) L → ∃ B o, a = some ⟨B, o, none⟩ ∧ ∀ i, i < List.length (α := rowDen e) L → CRel φ e (rowAt e L i) (fun j => φ B (o + i * e.length + j))) := by
  rw [TRel]
theorem ofV_rel : ∀ (t : Ty) (v : V) (x : t.den) (X : Value), ofV t v = some x → VRel ρ v X → TRel ρ.φ t x X
  | .int k, v, x, X, h, hv => by
    change ofInt k v = some x at h
    unfold ofInt at h
    split at h
    · rename_i k' n
      rw [kEq_iff] at h
      by_cases hk : k = k'
      · subst hk
        simp only [decide_true, cond_true] at h
        cases h
        rw [TRel]; simpa only [VRel] using hv
      · simp [hk] at h
    · cases h
  | .bool, v, x, X, h, hv => by
    change ofBool v = some x at h
    unfold ofBool at h
    split at h
    · cases h
      rw [TRel]; simpa only [VRel] using hv
    · cases h
  | .str, v, x, X, h, hv => by
    change ofStr v = some x at h
    unfold ofStr at h
    split at h
    · cases h
      rw [TRel]; simpa only [VRel] using hv
    · cases h
  | .lst e, v, x, X, h, hv => by
    change ofLst e v = some x at h
    unfold ofLst at h
    split at h
    · rename_i e' L cl
      obtain ⟨q, e1⟩ := asL_some h
      subst q
      have e1 : x = L := e1
      subst e1
      rw [TRel]
      simp only [VRel] at hv
      obtain ⟨a, c, h1, h2, _, h3, h4⟩ := hv
      exact ⟨a, c, h1, h2, h3, fun hp => let ⟨B, o, g1, g2⟩ := h4 hp; ⟨B, o, g1, fun i hi => by simpa [Nat.add_assoc] using g2 i hi⟩⟩
    · cases h
      simp only [VRel] at hv
      exact (TRel_lst ρ.φ e _ X).2 ⟨none, 0, hv, Nat.le_refl _, fun _ => rfl, fun hp => absurd hp (Nat.lt_irrefl _)⟩
    · cases h
theorem pairO_some {α β : Type} {x : Option α} {y : Option β} {r : α × β} (h : pairO x y = some r) : x = some r.1 ∧ y = some r.2 := by
  cases x <;> cases y <;> simp only [pairO, reduceCtorEq, Option.some.injEq] at h
  subst h; exact ⟨rfl, rfl⟩
theorem oneO_some {α : Type} {f : V → Option α} {l : List V} {r : α} (h : oneO f l = some r) : ∃ v, l = [v] ∧ f v = some r := by
  unfold oneO at h
  split at h
  · exact ⟨_, rfl, h⟩
  · cases h
theorem consO_some {α β : Type} {f : V → Option α} {g : List V → Option β} {l : List V} {r : α × β} (h : consO f g l = some r) : ∃ v vs, l = v :: vs ∧ f v = some r.1 ∧ g vs = some r.2 := by
  unfold consO at h
  split at h
  · obtain ⟨h1, h2⟩ := pairO_some h
    exact ⟨_, _, rfl, h1, h2⟩
  · cases h
theorem ofRow_rel : ∀ (e : List Ty) (l : List V) (x : rowDen e), ofRow e l = some x → ∀ {C : Nat → Option Value}, (∀ i v, l[i]? = some v → ∃ W, C i = some W ∧ VRel ρ v W) → CRel ρ.φ e x C
  | [], l, x, h, C, hc => by rw [CRel]; trivial
  | [t], l, x, h, C, hc => by
    obtain ⟨v, rfl, hv⟩ := oneO_some (α := t.den) h
    obtain ⟨W, h1, h2⟩ := hc 0 v rfl
    rw [CRel]
    exact ⟨W, h1, ofV_rel t v x W hv h2⟩
  | t :: u :: ts, l, x, h, C, hc => by
    obtain ⟨v, vs, rfl, ha, hb⟩ := consO_some (α := t.den) (β := rowDen (u :: ts)) h
    obtain ⟨W, h1, h2⟩ := hc 0 v rfl
    rw [CRel]
    exact ⟨⟨W, h1, ofV_rel t v _ W ha h2⟩, ofRow_rel (u :: ts) vs _ hb fun i v' hi => hc (i + 1) v' (by simpa using hi)⟩
theorem ofRow_length : ∀ (e : List Ty) (l : List V) (x : rowDen e), ofRow e l = some x → l.length = e.length
  | [], l, x, h => by
    change nilO l = some x at h
    unfold nilO at h
    split at h
    · rfl
    · cases h
  | [t], l, x, h => by
    obtain ⟨v, rfl, hv⟩ := oneO_some (α := t.den) h
    rfl
  | t :: u :: ts, l, x, h => by
    obtain ⟨v, vs, rfl, ha, hb⟩ := consO_some (α := t.den) (β := rowDen (u :: ts)) h
    simp [ofRow_length (u :: ts) vs _ hb]
theorem ofRows_spec (e : List Ty) : ∀ (n : Nat) (l : List V) (L : List (rowDen e)), ofRows e n l = some L → L.length = n ∧ l.length = n * e.length ∧
    ∀ {C : Nat → Option Value}, (∀ i v, l[i]? = some v → ∃ W, C i = some W ∧ VRel ρ v W) → RowsAt ρ.φ e L C
  | 0, l, L, h => by
    simp only [ofRows] at h
    split at h
    · cases h; exact ⟨rfl, by simp, fun _ i hi => absurd hi (by simp)⟩
    · cases h
  | n + 1, l, L, h => by
    simp only [ofRows, ltake_eq, ldrop_eq] at h
    split at h
    · rename_i x y hx hy
      cases h
      obtain ⟨i1, i2, i3⟩ := ofRows_spec e n _ _ hy
      have h1 := ofRow_length _ _ _ hx
      simp only [List.length_take, List.length_drop] at h1 i2
      refine ⟨by simp [i1], by rw [Nat.succ_mul]; omega, fun {C} hc => ?_⟩
      intro i hi
      cases i with
      | zero =>
        refine ofRow_rel e _ x hx fun j v hj => ?_
        have hlt : j < e.length := by
          have := (List.getElem?_eq_some_iff.1 hj).1
          simp at this; omega
        rw [List.getElem?_take_of_lt hlt] at hj
        simpa using hc j v hj
      | succ i =>
        have := i3 (C := fun k => C (e.length + k)) (fun j v hj => by
          rw [List.getElem?_drop] at hj
          exact hc _ v hj) i (by simpa using hi)
        have e2 : rowAt e (x :: y) (i + 1) = rowAt e y i := by simp [rowAt]
        rw [e2]
        refine CRel.mono (fun _ _ _ hv => hv) e _ (fun j v hv => ?_) this
        rw [← hv]; congr 1; rw [Nat.succ_mul]; omega
    · cases h

theorem CRel.ltφ {φ : Nat → Nat → Option Value} (e : List Ty) (x : rowDen e) {C : Nat → Option Value} (h : CRel φ e x C) : CRel φ e x (fun j => if j < e.length then C j else none) :=
  CRel.lt (ρ := ⟨fun _ => none, 0, φ⟩) e x h
theorem RowsAt.set {φ : Nat → Nat → Option Value} {e : List Ty} {L : List (rowDen e)} {C C' : Nat → Option Value} (h : RowsAt φ e L C) {i : Nat} {r : rowDen e} (hr : CRel φ e r (fun j => C' (i * e.length + j)))
    (hc : ∀ k, k < i * e.length ∨ (i + 1) * e.length ≤ k → C' k = C k) : RowsAt φ e (L.set i r) C' := by
  intro k hk
  simp only [List.length_set] at hk
  by_cases hik : i = k
  · subst hik
    have : rowAt e (L.set i r) i = r := by simp [rowAt, hk]
    rw [this]; exact hr
  · have : rowAt e (L.set i r) k = rowAt e L k := by simp [rowAt, List.getD_eq_getElem?_getD, List.getElem?_set_ne hik]
    rw [this]
    refine CRel.mono (fun _ _ _ hv => hv) e _ (fun j v hv => ?_) (CRel.ltφ e _ (h k hk))
    split at hv
    · rename_i hj
      rw [hc _ ?_]; exact hv
      rcases Nat.lt_or_gt_of_ne hik with hh | hh
      · right
        have := Nat.mul_le_mul_right e.length (show i + 1 ≤ k from hh); omega
      · left
        have := Nat.mul_le_mul_right e.length (show k + 1 ≤ i from hh)
        rw [Nat.succ_mul] at this; omega
    · cases hv

theorem arrTy_spec {t : TypeId} {n : Nat} {e : List Ty} (h : arrTy P t = some (n, e)) : ∃ el, P.underlying t = some (.array n el) ∧ szE P el = some e.length ∧ szE P t = some (n * e.length) ∧ 1 ≤ e.length := by
  unfold arrTy at h
  split at h
  · rename_i n' el hd
    split at h
    · rename_i e' z he hz
      cases hb : (Nat.beq z e'.length && (Nat.ble 1 z && match szE P t with
        | some zt => Nat.beq zt (n' * e'.length)
        | none => false)) with
      | false => rw [hb] at h; cases h
      | true =>
        rw [hb, cond_true] at h
        cases h
        simp only [Bool.and_eq_true, Nat.beq_eq, Nat.ble_eq] at hb
        obtain ⟨b1, b2, b3⟩ := hb
        split at b3
        · rename_i zt hzt
          have b3 := Nat.eq_of_beq_eq_true b3
          refine ⟨el, hd, by rw [hz, b1], by rw [hzt, b3], by omega⟩
        · cases b3
    · cases h
  · cases h

theorem arrRows_rel {n : Nat} {e : List Ty} {v : V} {M : List (rowDen e)} (h : arrRows n e v = some M) {X : Value} (hv : VRel ρ v X) : ∃ A, X = .agg A ∧ A.size = M.length * e.length ∧ RowsAt ρ.φ e M (fun k => A[k]?) := by
  unfold arrRows at h
  split at h
  · rename_i e' L
    obtain ⟨q, rfl⟩ := asL_some h
    subst q
    simp only [VRel] at hv
    exact hv
  · rename_i l
    simp only [VRel] at hv
    obtain ⟨A, rfl, hl⟩ := hv
    obtain ⟨h1, h2, h3⟩ := ofRows_spec (ρ := ρ) e n l M h
    have hlen := hl.length
    simp only [Array.length_toList] at hlen
    refine ⟨A, rfl, by rw [← hlen, h2, h1], h3 fun i u hi => ?_⟩
    obtain ⟨W, g1, g2⟩ := hl.get hi
    exact ⟨W, by simpa using g1, g2⟩
  · cases h

theorem setA_get : ∀ (l : List Value) (C : Array Value) (p k : Nat), p + l.length ≤ C.size → (setA C p l)[k]? = if p ≤ k ∧ k < p + l.length then l[k - p]? else C[k]? := by
  intro l
  induction l with
  | nil => intro C p k _; simp [setA]; omega
  | cons c l ih =>
    intro C p k hp
    simp only [List.length_cons] at hp ⊢
    simp only [setA]
    rw [ih _ _ _ (by simp; omega)]
    by_cases hk : k = p
    · subst hk
      rw [if_neg (by omega), if_pos (by omega), Array.getElem?_setIfInBounds_self_of_lt (by omega)]
      simp
    · by_cases hk2 : p + 1 ≤ k ∧ k < p + 1 + l.length
      · rw [if_pos hk2, if_pos (by omega)]
        obtain ⟨d, rfl⟩ : ∃ d, k = p + 1 + d := ⟨k - (p + 1), by omega⟩
        rw [show p + 1 + d - (p + 1) = d from by omega, show p + 1 + d - p = d + 1 from by omega]
        simp
      · rw [if_neg hk2, if_neg (by omega), Array.getElem?_setIfInBounds_ne (by omega)]

theorem SRel.rowsObj (h : SRel own ρ s w) {b : Nat} {e : List Ty} {L : List (rowDen e)} {t : TypeId} {ish : Bool} (hg : s.heap.get b = some (.rows e L t ish)) {x : Blk} (hx : ρ b = some x) :
    ∃ C t' fr, w.heap[x.B]? = some (.cells C t' fr) ∧ C.size = x.S ∧ x.O + L.length * e.length ≤ x.S ∧ RowsAt ρ.φ e L (fun k => C[x.O + k]?) ∧ NotFrozen x.S fr ∧ (ish = false → fr = (0, 0)) ∧ (own x.B ∧ ∀ k, ρ.φ x.B k = none) := by
  obtain ⟨y, h1, h2, C, t', fr, h3, h4, h5, h6, h7, h8⟩ := h.obj' hg hx
  rw [hx] at h1; cases h1
  exact ⟨C, t', fr, h3, h4, h5, h6, h7, h8, h2⟩

def Ones (L : List Value) : Prop := ∀ X ∈ L, X.oneCell' = true
theorem TRel.one {φ : Nat → Nat → Option Value} : ∀ (t : Ty) (x : t.den) (X : Value), TRel φ t x X → X.oneCell' = true
  | .int k, n, X, h => by rw [TRel] at h; subst h; rfl
  | .bool, b, X, h => by rw [TRel] at h; subst h; rfl
  | .str, s, X, h => by rw [TRel] at h; subst h; rfl
  | .lst e, L, X, h => by rw [TRel] at h; obtain ⟨a, c, rfl, _⟩ := h; rfl
theorem CRel.one {φ : Nat → Nat → Option Value} : ∀ (e : List Ty) (x : rowDen e) (C : Nat → Option Value), CRel φ e x C → ∀ j X, j < e.length → C j = some X → X.oneCell' = true
  | [], _, _, _, j, X, hj, _ => by simp at hj
  | [t], x, C, h, j, X, hj, hX => by
    rw [CRel] at h
    obtain ⟨Y, h1, h2⟩ := h
    have : j = 0 := by simpa using hj
    subst this
    rw [h1] at hX; cases hX
    exact TRel.one t _ _ h2
  | t :: u :: ts, x, C, h, j, X, hj, hX => by
    rw [CRel] at h
    obtain ⟨⟨Y, h1, h2⟩, h3⟩ := h
    cases j with
    | zero => rw [h1] at hX; cases hX; exact TRel.one t _ _ h2
    | succ j => exact CRel.one (u :: ts) x.2 _ h3 j X (by simpa using hj) hX
theorem CRel.some {φ : Nat → Nat → Option Value} : ∀ (e : List Ty) (x : rowDen e) (C : Nat → Option Value), CRel φ e x C → ∀ j, j < e.length → ∃ X, C j = some X
  | [], _, _, _, j, hj => by simp at hj
  | [t], x, C, h, j, hj => by
    rw [CRel] at h
    obtain ⟨Y, h1, h2⟩ := h
    have : j = 0 := by simpa using hj
    subst this
    exact ⟨_, h1⟩
  | t :: u :: ts, x, C, h, j, hj => by
    rw [CRel] at h
    obtain ⟨⟨Y, h1, h2⟩, h3⟩ := h
    cases j with
    | zero => exact ⟨_, h1⟩
    | succ j => exact CRel.some (u :: ts) x.2 _ h3 j (by simpa using hj)
theorem RowsAt.cell {φ : Nat → Nat → Option Value} {e : List Ty} {L : List (rowDen e)} {C : Nat → Option Value} (h : RowsAt φ e L C) {k : Nat} (hk : k < L.length * e.length) : ∃ X, C k = some X ∧ X.oneCell' = true := by
  have he0 : 0 < e.length := by
    rcases Nat.eq_zero_or_pos e.length with h0 | h0
    · rw [h0] at hk; simp at hk
    · exact h0
  have hkk : k / e.length < L.length := (Nat.div_lt_iff_lt_mul he0).2 hk
  have hm := Nat.mod_lt k he0
  obtain ⟨X, hX⟩ := CRel.some e _ _ (h _ hkk) _ hm
  have e2 : k / e.length * e.length + k % e.length = k := by rw [Nat.mul_comm]; exact Nat.div_add_mod k e.length
  refine ⟨X, ?_, CRel.one e _ _ (h _ hkk) _ X hm hX⟩
  simpa [e2] using hX
theorem RowsAt.list {φ : Nat → Nat → Option Value} {e : List Ty} {L : List (rowDen e)} {C : Nat → Option Value} (h : RowsAt φ e L C) :
    ∃ V : List Value, V.length = L.length * e.length ∧ (∀ k X, V[k]? = some X → C k = some X) ∧ RowsAt φ e L (fun k => V[k]?) ∧ Ones V := by
  have hex : ∀ k, k < L.length * e.length → ∃ X, C k = some X ∧ X.oneCell' = true := fun k hk => h.cell hk
  refine ⟨(List.range (L.length * e.length)).map fun k => if hk : k < L.length * e.length then (hex k hk).choose else undef, by simp, ?_, ?_, ?_⟩
  · intro k X hX
    have hk : k < L.length * e.length := by
      have := (List.getElem?_eq_some_iff.1 hX).1
      simpa using this
    rw [List.getElem?_map, List.getElem?_range hk] at hX
    simp only [Option.map_some, hk, dif_pos, Option.some.injEq] at hX
    subst hX
    exact (hex k hk).choose_spec.1
  · intro i hi
    refine CRel.mono (fun _ _ _ hv => hv) e _ (fun j v hv => ?_) (CRel.ltφ e _ (h i hi))
    split at hv
    · rename_i hj
      have hk : i * e.length + j < L.length * e.length := by
        have h1 : (i + 1) * e.length ≤ L.length * e.length := Nat.mul_le_mul_right _ hi
        rw [Nat.succ_mul] at h1; omega
      show ((List.range (L.length * e.length)).map _)[i * e.length + j]? = _
      rw [List.getElem?_map, List.getElem?_range hk]
      simp only [Option.map_some, hk, dif_pos]
      rw [← (hex _ hk).choose_spec.1]
      exact hv
    · cases hv
  · intro X hX
    obtain ⟨k, hk, rfl⟩ := List.mem_map.1 hX
    have hk : k < L.length * e.length := by simpa using hk
    simp only [hk, dif_pos]
    exact (hex k hk).choose_spec.2

theorem SRel.writeRows (h : SRel own ρ s w) {b : Nat} {e : List Ty} {L : List (rowDen e)} {t : TypeId} {ish : Bool} (hg : s.heap.get b = some (.rows e L t ish)) {x : Blk} (hx : ρ b = some x)
    {o : Nat} {V : List Value} (ho : o + V.length ≤ L.length * e.length) (h1 : Ones V) {M : List (rowDen e)} (hM : M.length * e.length ≤ L.length * e.length)
    (hrel : ∀ C C' : Array Value, RowsAt ρ.φ e L (fun k => C[x.O + k]?) → (∀ k, C'[x.O + k]? = if o ≤ k ∧ k < o + V.length then V[k - o]? else C[x.O + k]?) → RowsAt ρ.φ e M (fun k => C'[x.O + k]?)) :
    ∃ w', (storeCells ⟨x.B, x.O + o, none⟩ V).run P w = .ok () w' ∧ SRel own ρ (s.upd b (.rows e M t ish)) w' ∧ Fr own w w' := by
  obtain ⟨C, t', fr, e1, e2, e3, e4, e5, e6, e7⟩ := h.rowsObj hg hx
  have hrun := run_storeAll (P := P) V (x.O + o) 0 C w e1 (by rw [e2]; exact e5) (by omega) h1
  refine ⟨_, hrun, ?_, fr_set e7.1 rfl⟩
  refine h.upd hg hx _ _ rfl ⟨_, t', fr, rfl, by rw [setA_size]; exact e2, by omega, ?_, e5, e6⟩
  rw [Nat.add_zero]
  refine hrel C _ e4 fun k => ?_
  rw [setA_get _ _ _ _ (by omega)]
  by_cases hk : o ≤ k ∧ k < o + V.length
  · rw [if_pos hk, if_pos (by omega)]; congr 1; omega
  · rw [if_neg hk, if_neg (by omega)]

theorem eStore_rel (h : SRel own ρ s w) {t : TypeId} {a v : V} {s' : St} {ps : List Bool} (hq : eStore P s t a v = some (ps, s')) (hp : allB ps) {A X : Value} (ha : VRel ρ a A) (hv : VRel ρ v X) :
    ∃ w', (Instr.storeAt t A X).run P w = .ok () w' ∧ SRel own ρ s' w' ∧ Fr own w w' := by
  unfold eStore at hq
  simp only [llen_eq, lall_eq, ltake_eq, ldrop_eq, lapp_eq, lget_eq] at hq
  split at hq
  · rename_i b o
    split at hq
    · rename_i cs t' ish hg
      split at hq
      · rename_i n c hn hcv
        cases hb : (Nat.beq c.length n && (Nat.ble (o + n) cs.length && c.all oneV)) with
        | false => simp [hb] at hq
        | true =>
          simp only [hb, cond_true] at hq
          cases hq
          simp only [Bool.and_eq_true, Nat.ble_eq, Nat.beq_eq] at hb
          simp only [VRel] at ha
          obtain ⟨B, O, S, hB, rfl⟩ := ha
          have hc := cellsO_rel hcv hv
          obtain ⟨w', h1, h2, h3⟩ := h.write (P := P) hg hB hc (o := o) (by omega) hb.2.2
          refine ⟨w', ?_, h2, h3⟩
          have hl := hc.length
          simp only [Array.length_toList] at hl
          have : ¬ X.cells.size ≠ n := by omega
          simp only at h1
          simp [Instr.storeAt, Instr.sureAddr, storeVar, run_size hn, this, h1]
      · cases hq
    · cases hq
  · rename_i b i j es
    split at hq
    · rename_i e L t' ish hg
      cases hes : Nat.beq es e.length with
      | false => rw [hes] at hq; cases hq
      | true =>
      have he := Nat.eq_of_beq_eq_true hes
      subst he
      simp only [hes, Bool.not_true, cond_false] at hq
      simp only [VRel] at ha
      obtain ⟨B, O, S, hB, rfl⟩ := ha
      split at hq
      · rename_i n e2 hat
        split at hq
        · cases hbe : beqL e2 e with
          | false => rw [hbe] at hq; cases hq
          | true =>
          have := beqL_eq _ _ hbe
          subst this
          simp only [hbe, Bool.not_true, cond_false] at hq
          split at hq
          · rename_i M hM
            cases hq
            obtain ⟨p1, p2, _⟩ := hp
            simp only [decide_eq_true_eq] at p1 p2
            obtain ⟨el, _, _, hsz, _⟩ := arrTy_spec hat
            obtain ⟨A, rfl, hA, hr⟩ := arrRows_rel hM hv
            obtain ⟨w', g1, g2, g3⟩ := h.writeRows (P := P) hg hB (o := 0) (V := A.toList) (by simp [hA, p1, p2]) (fun X hX => by
              obtain ⟨k, hk⟩ := List.mem_iff_getElem?.1 hX
              have hlt : k < M.length * e2.length := by
                have := (List.getElem?_eq_some_iff.1 hk).1
                simpa [hA] using this
              obtain ⟨Y, q1, q2⟩ := hr.cell hlt
              rw [Array.getElem?_toList, q1] at hk
              cases hk; exact q2) (M := M) (by rw [p1, p2]; exact Nat.le_refl _) (fun C C' _ hC => by
              refine RowsAt.mono (fun _ _ _ hv => hv) (fun k u hu => ?_) hr
              have hk : k < A.size := (Array.getElem?_eq_some_iff.1 hu).1
              show C'[O + k]? = _
              have := hC k
              rw [this, if_pos (by simp; omega)]
              simpa using hu)
            refine ⟨w', ?_, g2, g3⟩
            simp only [Nat.add_zero] at g1
            have hne : ¬ A.size ≠ n * e2.length := by rw [hA, p1]; simp
            simp [Instr.storeAt, Instr.sureAddr, storeVar, run_size hsz, Value.cells, hne, g1]
          · cases hq
        · cases hq
      · split at hq
        · rename_i n c hn hcv
          cases hb : (Nat.beq c.length n && (Nat.ble (j + n) e.length && c.all oneV)) with
          | false => rw [hb] at hq; cases hq
          | true =>
          rw [hb, cond_true] at hq
          simp only [Bool.and_eq_true, Nat.ble_eq, Nat.beq_eq] at hb
          split at hq
          · rename_i r hr
            cases hq
            have hi : i < L.length := by simpa using hp.1
            have hc := cellsO_rel hcv hv
            have hl := hc.length
            simp only [Array.length_toList] at hl
            have hmul : (i + 1) * e.length ≤ L.length * e.length := Nat.mul_le_mul_right _ hi
            rw [Nat.succ_mul] at hmul
            obtain ⟨w', g1, g2, g3⟩ := h.writeRows (P := P) hg hB (o := i * e.length + j) (V := X.cells.toList) (by simp; omega) (allOne_rel hc hb.2.2) (M := L.set i r) (by simp) (fun C C' hC hC' => by
              refine hC.set ?_ ?_
              · refine ofRow_rel e _ r hr fun k u hk => ?_
                have hrow := rowV_get (ρ := ρ) e _ (hC i hi)
                have hlr := rowV_length e (rowAt e L i)
                have sg : ∀ (l cs : List V) (off k : Nat), off + l.length ≤ cs.length → (Sym.setAll cs off l)[k]? = if off ≤ k ∧ k < off + l.length then l[k - off]? else cs[k]? := by
                  intro l
                  induction l with
                  | nil => intro cs off k _; simp [Sym.setAll]; omega
                  | cons c l ih =>
                    intro cs off k ho
                    simp only [List.length_cons] at ho ⊢
                    simp only [Sym.setAll, lset_eq]
                    rw [ih _ _ _ (by simp; omega)]
                    by_cases hk : k = off
                    · subst hk
                      rw [if_neg (by omega), if_pos (by omega), List.getElem?_set_self (by omega)]
                      simp
                    · by_cases hk2 : off + 1 ≤ k ∧ k < off + 1 + l.length
                      · rw [if_pos hk2, if_pos (by omega)]
                        obtain ⟨d, rfl⟩ : ∃ d, k = off + 1 + d := ⟨k - (off + 1), by omega⟩
                        rw [show off + 1 + d - (off + 1) = d from by omega, show off + 1 + d - off = d + 1 from by omega]
                        simp
                      · rw [if_neg hk2, if_neg (by omega), List.getElem?_set_ne (by omega)]
                rw [sg _ _ _ _ (by omega)] at hk
                have hck := hC' (i * e.length + k)
                simp only at hck
                rw [hck]
                by_cases hjk : j ≤ k ∧ k < j + c.length
                · rw [if_pos hjk] at hk
                  rw [if_pos (by simp; omega)]
                  obtain ⟨W, q1, q2⟩ := hc.get hk
                  refine ⟨W, ?_, q2⟩
                  rw [show i * e.length + k - (i * e.length + j) = k - j from by omega]
                  exact q1
                · rw [if_neg hjk] at hk
                  rw [if_neg (by simp; omega)]
                  exact hrow k u hk
              · intro k hk
                have hck := hC' k
                simp only at hck
                rw [Nat.succ_mul] at hk
                rw [hck, if_neg (by simp; omega)])
            refine ⟨w', ?_, g2, g3⟩
            have hne : ¬ X.cells.size ≠ n := by omega
            simp only [← Nat.add_assoc] at g1
            simp [Instr.storeAt, Instr.sureAddr, storeVar, run_size hn, hne, g1]
          · cases hq
        · cases hq
    · cases hq
  · cases hq

end
end Go.Sym
end

section
namespace Go.Sym
set_option linter.unusedSimpArgs false
set_option linter.unusedVariables false
section
variable {P : Program} {own : Own} {ρ : Env} {s : St} {w : World}

theorem SRel.newCells (h : SRel own ρ s w) {cs : List V} {C : Array Value} (hc : LRel ρ cs C.toList) (t t' : TypeId) :
    ρ.le (ρ.put s.next ⟨w.heap.size, 0, C.size⟩) ∧ SRel own (ρ.put s.next ⟨w.heap.size, 0, C.size⟩) (s.new (.cells cs t false)) { w with heap := w.heap.push (.cells C t') } ∧
      Fr own w { w with heap := w.heap.push (.cells C t') } := by
  have hle := Env.le_put ⟨w.heap.size, 0, C.size⟩ h.fresh
  refine ⟨hle, h.new _ (.cells C t') C.size rfl ⟨C, t', (0, 0), rfl, rfl, ?_, ?_, by simp, fun _ => rfl⟩, fr_new h.le rfl⟩
  · have := hc.length; simp at this; omega
  · intro i v hi
    obtain ⟨X, e1, e2⟩ := hc.get hi
    exact ⟨X, by simpa using e1, VRel.mono hle _ _ e2⟩

def OKv (P : Program) (own : Own) (ρ : Env) (m : Sem Value) (w : World) (v : V) (s' : St) : Prop :=
  ∃ ρ' X w', ρ.le ρ' ∧ m.run P w = .ok X w' ∧ VRel ρ' v X ∧ SRel own ρ' s' w' ∧ Fr own w w'

theorem SRel.newRows (h : SRel own ρ s w) {e : List Ty} {L : List (rowDen e)} {C : Array Value} (hs : L.length * e.length ≤ C.size) (hc : RowsAt ρ.φ e L (fun k => C[k]?)) (t t' : TypeId) :
    ρ.le (ρ.put s.next ⟨w.heap.size, 0, C.size⟩) ∧ SRel own (ρ.put s.next ⟨w.heap.size, 0, C.size⟩) (s.new (.rows e L t false)) { w with heap := w.heap.push (.cells C t') } ∧
      Fr own w { w with heap := w.heap.push (.cells C t') } := by
  have hle := Env.le_put ⟨w.heap.size, 0, C.size⟩ h.fresh
  refine ⟨hle, h.new _ (.cells C t') C.size rfl ⟨C, t', (0, 0), rfl, rfl, ?_, ?_, by simp, fun _ => rfl⟩, fr_new h.le rfl⟩
  · omega
  · show RowsAt ρ.φ e L (fun k => C[0 + k]?)
    simpa using hc

def MkOK (P : Program) (ρ : Env) (m : Sem Value) (w : World) : Mk → Prop
  | .cells cs t sl => ∃ X C t', m.run P w = .ok X { w with heap := w.heap.push (.cells C t') } ∧ LRel ρ cs C.toList ∧
      ∀ (ρ' : Env) (b : Nat), ρ' b = some ⟨w.heap.size, 0, C.size⟩ → VRel ρ' ((Mk.cells cs t sl).val b) X
  | .rows e L t sl => ∃ X C t', m.run P w = .ok X { w with heap := w.heap.push (.cells C t') } ∧ C.size = L.length * e.length ∧ RowsAt ρ.φ e L (fun k => C[k]?) ∧
      ∀ (ρ' : Env) (b : Nat), ρ' b = some ⟨w.heap.size, 0, C.size⟩ → VRel ρ' ((Mk.rows e L t sl).val b) X
theorem mkNew_rel (h : SRel own ρ s w) {m : Option (List Bool × Mk)} {v : V} {s' : St} {ps : List Bool} (hq : mkNew s m = some (ps, v, s')) (hp : allB ps) {x : Sem Value} (hm : ∀ c k, m = some (c, k) → allB c → MkOK P ρ x w k) : OKv P own ρ x w v s' := by
  unfold mkNew at hq
  split at hq
  · rename_i c m
    cases hq
    have hm := hm _ _ rfl hp
    cases m with
    | cells cs t sl =>
      obtain ⟨X, C, t', e1, e2, e3⟩ := hm
      obtain ⟨h1, h2, h3⟩ := h.newCells e2 t t'
      exact ⟨_, X, _, h1, e1, e3 _ _ Env.put_same, h2, h3⟩
    | rows e L t sl =>
      obtain ⟨X, C, t', e1, e2, e3, e4⟩ := hm
      obtain ⟨h1, h2, h3⟩ := h.newRows (by omega) e3 t t'
      exact ⟨_, X, _, h1, e1, e4 _ _ Env.put_same, h2, h3⟩
  · cases hq

theorem mBox_rel {t : TypeId} {v : V} {m : Mk} {c : List Bool} (hq : mBox P t v = some (c, m)) {X : Value} (hv : VRel ρ v X) : MkOK P ρ (Instr.box t X) w m := by
  have run : (Instr.box t X).run P w = .ok (.pointer (some ⟨w.heap.size, 0, none⟩)) { w with heap := w.heap.push (.cells X.cells t) } := by
    simp [Instr.box, newVar, newRow]
  unfold mBox at hq
  split at hq
  · rename_i n e hat
    split at hq
    · rename_i L hL
      cases hq
      obtain ⟨A, rfl, h1, h2⟩ := arrRows_rel hL hv
      refine ⟨_, A, t, run, h1, h2, fun ρ' b hb => ?_⟩
      simp only [Mk.val, VRel]
      exact ⟨_, _, _, hb, by simp⟩
    · cases hq
  · split at hq
    · rename_i cc hcc
      cases hq
      refine ⟨_, X.cells, t, run, cellsO_rel hcc hv, fun ρ' b hb => ?_⟩
      simp only [Mk.val, VRel]
      exact ⟨_, _, _, hb, rfl⟩
    · cases hq
theorem mAlloc_rel {t : TypeId} {m : Mk} {c : List Bool} (hq : mAlloc P t = some (c, m)) : MkOK P ρ (Instr.alloc t true (.tuple #[])) w m := by
  unfold mAlloc at hq
  split at hq
  · rename_i z hz
    obtain ⟨Z, hZ, hzr, _⟩ := zeroE_rel (ρ := ρ) (w := w) hz
    have hb := mBox_rel (w := w) hq hzr
    have e : (Instr.alloc t true (.tuple #[])).run P w = (Instr.box t Z).run P w := by
      simp only [Instr.alloc, Sem.run_bind, hZ, Result.andThen_ok]
      simp [Instr.box]
    cases m with
    | cells cs t' sl => obtain ⟨X, C, t2, h1, h2⟩ := hb; exact ⟨X, C, t2, by rw [e]; exact h1, h2⟩
    | rows e' L t' sl => obtain ⟨X, C, t2, h1, h2⟩ := hb; exact ⟨X, C, t2, by rw [e]; exact h1, h2⟩
  · cases hq
theorem eAlloc_rel (h : SRel own ρ s w) {t : TypeId} {v : V} {s' : St} {ps : List Bool} (hq : eAlloc P s t = some (ps, v, s')) (hp : allB ps) : OKv P own ρ (Instr.alloc t true (.tuple #[])) w v s' :=
  mkNew_rel h hq hp fun _ _ h _ => mAlloc_rel h
theorem eBox_rel (h : SRel own ρ s w) {t : TypeId} {v u : V} {s' : St} {ps : List Bool} (hq : eBox P s t v = some (ps, u, s')) (hp : allB ps) {X : Value} (hv : VRel ρ v X) : OKv P own ρ (Instr.box t X) w u s' :=
  mkNew_rel h hq hp fun _ _ h _ => mBox_rel h hv

theorem repE_length : ∀ n (zs : List V), (repE n zs).length = n * zs.length
  | 0, _ => by simp [repE]
  | n + 1, zs => by simp [repE, lapp_eq, repE_length n, Nat.succ_mul, Nat.add_comm]
theorem repE_get : ∀ n (zs : List V) i, i < n * zs.length → (repE n zs)[i]? = zs[i % zs.length]?
  | 0, _, _, h => by simp at h
  | n + 1, zs, i, h => by
    simp only [repE, lapp_eq]
    rcases Nat.lt_or_ge i zs.length with hi | hi
    · rw [List.getElem?_append_left hi, Nat.mod_eq_of_lt hi]
    · rw [List.getElem?_append_right hi, repE_get n zs _ (by rw [Nat.succ_mul] at h; omega), ← Nat.mod_eq_sub_mod hi]

theorem range_rep {zs : List V} {Z : Array Value} (hz : LRel ρ zs Z.toList) (n : Nat) : LRel ρ (repE n zs) ((Array.range (n * zs.length)).map (fun i => Z[i % Z.size]!)).toList := by
  have hl := hz.length
  simp only [Array.length_toList] at hl
  refine LRel.of_get (by simp [repE_length]) fun i v hi => ?_
  have hlt : i < n * zs.length := by
    have := (List.getElem?_eq_some_iff.1 hi).1
    rwa [repE_length] at this
  rw [repE_get n zs i hlt] at hi
  obtain ⟨X, h1, h2⟩ := hz.get hi
  simp only [Array.getElem?_toList] at h1
  refine ⟨X, ?_, h2⟩
  simp only [Array.toList_map, Array.toList_range, List.getElem?_map, List.getElem?_range hlt, Option.map_some, Option.some.injEq]
  rw [← hl, Array.getElem!_eq_getD, Array.getD_eq_getD_getElem?, h1]
  rfl

theorem map_range0 {α : Type} (f : Nat → α) : (Array.range 0).map f = #[] := by apply Array.eq_empty_of_size_eq_zero; simp

theorem info_size {t : TypeId} {i : TypeInfo} (h : P.info? t = some i) : (sizeOf t).run P w = .ok i.size w := by simp [sizeOf, typeInfo, h]

theorem rowTy_spec {el : TypeId} {e : List Ty} (h : rowTy P el = some e) : szE P el = some e.length ∧ 1 ≤ e.length := by
  unfold rowTy at h
  split at h
  · rename_i e' z he hz
    cases hb : (Nat.beq z e'.length && Nat.ble 1 z) with
    | false => rw [hb] at h; cases h
    | true =>
      rw [hb, cond_true] at h
      cases h
      simp only [Bool.and_eq_true, Nat.beq_eq, Nat.ble_eq] at hb
      obtain ⟨h1, h2⟩ := hb
      exact ⟨by rw [hz, h1], by omega⟩
  · cases h
theorem mRows_ok {m : Sem Value} {el : TypeId} {len sz : Nat} {cs : List V} {C : Array Value} {t' : TypeId} (h1 : 1 ≤ sz) (hrun : m.run P w = .ok (.slice (some ⟨w.heap.size, 0, none⟩) len len) { w with heap := w.heap.push (.cells C t') })
    (hc : LRel ρ cs C.toList) (hlen : cs.length = len * sz) : MkOK P ρ m w (mRows P el len cs sz) := by
  have hl := hc.length
  simp only [Array.length_toList] at hl
  have plain : MkOK P ρ m w (.cells cs el (some (len, len, sz))) := by
    refine ⟨_, C, t', hrun, hc, fun ρ' b hb => ?_⟩
    simp only [Mk.val, VRel]
    exact ⟨_, _, _, len, hb, rfl, Nat.le_refl _, Nat.le_refl _, fun _ => rfl, by omega⟩
  unfold mRows
  split
  · rename_i e he
    obtain ⟨h3, h4⟩ := rowTy_spec he
    cases hb : Nat.beq e.length sz with
    | false => exact plain
    | true =>
    have hb := Nat.eq_of_beq_eq_true hb
    subst hb
    rw [cond_true]
    split
    · rename_i L hL
      obtain ⟨g1, g2, g3⟩ := ofRows_spec (ρ := ρ) e len cs L hL
      refine ⟨_, C, t', hrun, by rw [g1]; omega, g3 fun i v hi => ?_, fun ρ' b hb => ?_⟩
      · obtain ⟨W, q1, q2⟩ := hc.get hi
        exact ⟨W, by simpa using q1, q2⟩
      · simp only [Mk.val, VRel]
        refine ⟨_, _, rfl, Nat.le_refl _, Nat.le_refl _, fun _ => rfl, fun hn => (by cases hn), fun hp => ⟨_, _, _, hb, by simp, ?_⟩⟩
        omega
    · exact plain
  · exact plain

theorem fillE_length {sz : Nat} : ∀ (ps : List (Nat × V)) (c r : List V), fillE (fun i => some (i * sz, sz)) c ps = some r → r.length = c.length := by
  intro ps
  induction ps with
  | nil => intro c r hh; simp only [fillE] at hh; cases hh; rfl
  | cons p ps ih =>
    intro c r hh
    simp only [fillE, llen_eq] at hh
    split at hh
    · rename_i q1 q2 c2 q3 q4
      cases q3
      cases hc : (Nat.beq c2.length sz && Nat.ble (p.1 * sz + sz) c.length) with
      | false => simp [hc] at hh
      | true => simp only [hc, cond_true] at hh; rw [ih _ _ hh, setAll_length]
    · cases hh

theorem mBuildSlice_rel {t : TypeId} {len : Nat} {ps : List (Nat × V)} {m : Mk} {c : List Bool} (hq : mBuildSlice P t len ps = some (c, m)) {Ps : Array (Nat × Value)} (hp : PRel ρ ps Ps.toList) :
    MkOK P ρ (Instr.buildSlice t len Ps) w m := by
  unfold mBuildSlice at hq
  simp only [llen_eq, lall_eq, ltake_eq, ldrop_eq, lapp_eq, lget_eq] at hq
  split at hq
  · rename_i e hd
    split at hq
    · rename_i sz zv hsz hzv
      split at hq
      · rename_i z hz
        cases hb : (Nat.beq z.length sz && (Nat.ble (len * sz) 16777216 && Nat.ble 1 sz)) with
        | false => simp [hb] at hq
        | true =>
        simp only [hb, cond_true] at hq
        simp only [Bool.and_eq_true, Nat.ble_eq, Nat.beq_eq] at hb
        split at hq
        · rename_i cs hcs
          cases hq
          obtain ⟨Z, hZ, hzr, _⟩ := zeroE_rel (ρ := ρ) (w := w) hzv
          have hzc := cellsO_rel hz hzr
          have hrep := range_rep hzc len
          rw [hb.1] at hrep
          obtain ⟨R, e1, e2⟩ := fillE_rel hp hrep hcs
          refine mRows_ok (C := R) (t' := e) hb.2.2 ?_ e2 (by rw [fillE_length _ _ _ hcs, repE_length, hb.1])
          by_cases h0 : len * sz = 0
          · have hlen : len = 0 := by rcases Nat.mul_eq_zero.1 h0 with h | h; exact h; omega
            subst hlen
            simp only [Nat.zero_mul] at e1
            have e0 : (Array.range 0).map (fun i => Z.cells[i % Z.cells.size]!) = #[] := by apply Array.eq_empty_of_size_eq_zero; simp
            rw [e0] at e1
            have e1' : Instr.fill (fun i => some (i * sz, sz)) #[] Ps.toList = some R := e1
            simp [Instr.buildSlice, run_und hd, run_size hsz, newRow, map_range0, e1']
          · have hbig : ¬ len * sz > 2 ^ 24 := by omega
            have hbig' : ¬ 16777216 < len * sz := by omega
            simp only [Instr.buildSlice, Sem.run_bind, run_und hd, Result.andThen_ok, run_size hsz, Sem.run_ite, hbig, h0, if_false, hZ, Sem.run_pure]
            rw [e1]
            simp [newRow]
        · cases hq
      · cases hq
    · cases hq
  · cases hq

theorem eBuildSlice_rel (h : SRel own ρ s w) {t : TypeId} {len : Nat} {ps : List (Nat × V)} {v : V} {s' : St} {c : List Bool} (hq : eBuildSlice P s t len ps = some (c, v, s')) (hc : allB c) {Ps : Array (Nat × Value)} (hp : PRel ρ ps Ps.toList) :
    OKv P own ρ (Instr.buildSlice t len Ps) w v s' := mkNew_rel h hq hc fun _ _ h _ => mBuildSlice_rel h hp

theorem wrap_small {n : Nat} (h : n ≤ 281474976710656) : IntKind.i64.wrap (n : Int) = n := by
  have h2 : (n : Int) % (2 ^ IntKind.i64.bits : Int) = n := Int.emod_eq_of_lt (by omega) (by simp only [IntKind.bits]; omega)
  unfold IntKind.wrap
  simp only [h2]
  exact if_neg (by simp [IntKind.signed, IntKind.bits]; omega)

theorem run_makeSlice {t el : TypeId} {i : TypeInfo} {l c : Nat} {k1 k2 : IntKind} {Z : Value} (hd : P.underlying t = some (.slice el)) (hi : P.info? el = some i) (hZ : (zeroValue el).run P w = .ok Z w) (b2 : 1 ≤ i.size) (b3 : l ≤ c) (b4 : c ≤ 281474976710656) (b5 : i.bytes * c ≤ 281474976710656) :
    (Instr.makeSlice t (.int k1 (l : Int)) (.int k2 (c : Int))).run P w = .ok (.slice (some ⟨w.heap.size, 0, none⟩) l c) { w with heap := w.heap.push (.cells ((Array.range (c * i.size)).map fun j => Z.cells[j % Z.cells.size]!) el) } := by
  have w1 := wrap_small (n := l) (by omega)
  have w2 := wrap_small (n := c) b4
  have t1 : ¬ ((c : Int) < 0) := by omega
  have t2 : ¬ ((i.bytes : Int) * (c : Int) > 2 ^ 48) := by
    have : ((i.bytes * c : Nat) : Int) ≤ 281474976710656 := by omega
    simp only [Int.natCast_mul] at this; omega
  have t2' : ¬ ((281474976710656 : Int) < (i.bytes : Int) * (c : Int)) := by simpa using t2
  have t3 : ¬ ((l : Int) < 0) := by omega
  have t4 : ¬ ((l : Int) > (c : Int)) := by omega
  have hti : (typeInfo el).run P w = .ok i w := by simp [typeInfo, hi]
  by_cases h0 : c * i.size = 0
  · have hc0 : c = 0 := by rcases Nat.mul_eq_zero.1 h0 with h | h; exact h; omega
    subst hc0
    have hl0 : l = 0 := by omega
    subst hl0
    have e0 : (Array.range (0 * i.size)).map (fun i => Z.cells[i % Z.cells.size]!) = #[] := by apply Array.eq_empty_of_size_eq_zero; simp
    rw [e0]
    have w0 : IntKind.i64.wrap 0 = 0 := by simpa using w2
    simp [Instr.makeSlice, run_und hd, asInt, run_asIntOf, hti, w0, info_size hi, newRow, map_range0]
  · simp [Instr.makeSlice, run_und hd, asInt, run_asIntOf, hti, w1, w2, t1, t2', t3, info_size hi, newRow, h0, hZ, Nat.not_lt.2 b3]

theorem rep_rows {e : List Ty} {r : rowDen e} {z : List V} {Z : Array Value} (hr : ofRow e z = some r) (hz : LRel ρ z Z.toList) (c : Nat) : RowsAt ρ.φ e (List.replicate c r) (fun k => ((Array.range (c * e.length)).map fun j => Z[j % Z.size]!)[k]?) := by
  have hl := ofRow_length _ _ _ hr
  have hlz := hz.length
  simp only [Array.length_toList] at hlz
  intro i hi
  simp only [List.length_replicate] at hi
  have e2 : rowAt e (List.replicate c r) i = r := by simp [rowAt, hi]
  rw [e2]
  refine ofRow_rel e z r hr fun j v hj => ?_
  have hjl : j < e.length := by
    have := (List.getElem?_eq_some_iff.1 hj).1
    omega
  obtain ⟨X, h1, h2⟩ := hz.get hj
  simp only [Array.getElem?_toList] at h1
  refine ⟨X, ?_, h2⟩
  have hk : i * e.length + j < c * e.length := by
    have : (i + 1) * e.length ≤ c * e.length := Nat.mul_le_mul_right _ hi
    rw [Nat.succ_mul] at this; omega
  have hm : (i * e.length + j) % Z.size = j := by
    rw [← hlz, hl, Nat.mul_comm, Nat.mul_add_mod, Nat.mod_eq_of_lt hjl]
  simp only [Array.getElem?_map, Array.getElem?_range, hk, if_true, Option.map_some, hm, Option.some.injEq]
  rw [Array.getElem!_eq_getD, Array.getD_eq_getD_getElem?, h1]
  rfl

theorem mMakeSlice_rel {t : TypeId} {len cap : V} {m : Mk} {cc : List Bool} (hq : mMakeSlice P t len cap = some (cc, m)) (hp : allB cc) {L K : Value} (hl : VRel ρ len L) (hk : VRel ρ cap K) :
    MkOK P ρ (Instr.makeSlice t L K) w m := by
  unfold mMakeSlice at hq
  simp only [llen_eq, lall_eq, ltake_eq, ldrop_eq, lapp_eq, lget_eq] at hq
  split at hq
  · rename_i el cl l cp c hd hln hcn
    split at hq
    · rename_i i zv hi hzv
      split at hq
      · rename_i z hz
        cases hb : (Nat.beq z.length i.size && Nat.ble 1 i.size) with
        | false => simp [hb] at hq
        | true =>
        simp only [hb, cond_true] at hq
        simp only [Bool.and_eq_true, Nat.ble_eq, Nat.beq_eq] at hb
        obtain ⟨b1, b2⟩ := hb
        obtain ⟨Z, hZ, hzr, _⟩ := zeroE_rel (ρ := ρ) (w := w) hzv
        have hzc := cellsO_rel hz hzr
        split at hq
        · rename_i e he
          cases hes : Nat.beq e.length i.size with
          | false => rw [hes] at hq; cases hq
          | true =>
          rw [hes, cond_true] at hq
          have hes := Nat.eq_of_beq_eq_true hes
          split at hq
          · rename_i r hr
            cases hq
            simp only [allB_append] at hp
            obtain ⟨p1, p2, p3, p4, p5, _⟩ := hp
            simp only [decide_eq_true_eq] at p3 p4 p5
            obtain ⟨k1, rfl⟩ := natOf_rel hln p1 hl
            obtain ⟨k2, rfl⟩ := natOf_rel hcn p2 hk
            refine ⟨_, _, el, run_makeSlice hd hi hZ b2 p3 p4 p5, by simp [hes], ?_, fun ρ' b hbb => ?_⟩
            · have := rep_rows hr hzc c
              rw [hes] at this
              exact this
            · simp only [Mk.val, VRel]
              refine ⟨_, _, rfl, p3, Nat.le_refl _, fun _ => rfl, fun hn => (by cases hn), fun _ => ⟨_, _, _, hbb, by simp, ?_⟩⟩
              simp [hes]
          · cases hq
        · cases hq
          simp only [allB_append] at hp
          obtain ⟨p1, p2, p3, p4, p5, _⟩ := hp
          simp only [decide_eq_true_eq] at p3 p4 p5
          obtain ⟨k1, rfl⟩ := natOf_rel hln p1 hl
          obtain ⟨k2, rfl⟩ := natOf_rel hcn p2 hk
          have hrep := range_rep hzc c
          rw [b1] at hrep
          refine ⟨_, _, el, run_makeSlice hd hi hZ b2 p3 p4 p5, hrep, fun ρ' b hbb => ?_⟩
          simp only [Mk.val, VRel]
          refine ⟨_, _, _, c, hbb, rfl, p3, Nat.le_refl _, fun _ => rfl, ?_⟩
          simp
      · cases hq
    · cases hq
  · cases hq
theorem eMakeSlice_rel (h : SRel own ρ s w) {t : TypeId} {len cap v : V} {s' : St} {c : List Bool} (hq : eMakeSlice P s t len cap = some (c, v, s')) (hc : allB c) {L K : Value} (hl : VRel ρ len L) (hk : VRel ρ cap K) :
    OKv P own ρ (Instr.makeSlice t L K) w v s' := mkNew_rel h hq hc fun _ _ h hc => mMakeSlice_rel h hc hl hk

theorem bytesL_length (x : ByteArray) : (bytesL x).length = x.size := by simp [bytesL]
theorem bytesL_get (x : ByteArray) (i : Nat) (hi : i < x.size) : (bytesL x).getD i 0 = bAt x i := by
  unfold bytesL bAt
  rw [List.getD_eq_getElem?_getD, List.getD_eq_getElem?_getD, List.getElem?_map, List.getElem?_eq_getElem (by simpa using hi)]
  rfl
theorem bytes_rows {φ : Nat → Nat → Option Value} (x : ByteArray) {C : Nat → Option Value} (hc : ∀ i, i < x.size → C i = some (.int .u8 (bAt x i))) : RowsAt φ [.int .u8] (bytesL x) C := by
  intro i hi
  have hi' : i < x.size := by
    have : i < List.length (α := Int) (bytesL x) := hi
    rwa [bytesL_length] at this
  rw [CRel]
  refine ⟨.int .u8 (bAt x i), by simpa using hc i hi', ?_⟩
  have e : rowAt [.int .u8] (bytesL x) i = bAt x i := bytesL_get x i hi'
  show Value.int .u8 _ = Value.int .u8 (rowAt [.int .u8] (bytesL x) i)
  rw [e]

theorem eBytes_rel (h : SRel own ρ s w) {src dst : TypeId} {a v : V} {s' : St} {c : List Bool} (hq : eBytes P s src dst a = some (c, v, s')) {A : Value} (ha : VRel ρ a A) : OKv P own ρ (Go.convert src dst A) w v s' := by
  unfold eBytes at hq
  split at hq
  · rename_i sd e x hs hd
    split at hq
    · rename_i he
      cases hq
      simp only [VRel] at ha; subst ha
      obtain ⟨cap, hcap, hrun⟩ : ∃ cap, x.size ≤ cap ∧ (choose (.appendCap x.size 0 e)).run P w = .ok cap { w with drawn := w.drawn + 1 } := by
        refine ⟨_, ?_, by simp [Question.forced]; rfl⟩
        simp [Question.cut]
      let C : Array Value := (x.data.map fun b => Value.int .u8 b.toNat) ++ Array.replicate (cap - x.size) (.int .u8 0)
      have hxs : x.data.size = x.size := rfl
      have hC : C.size = cap := by
        simp [C]; omega
      have hle := Env.le_put ⟨w.heap.size, 0, C.size⟩ h.fresh
      let w' : World := { w with drawn := w.drawn + 1, heap := w.heap.push (.cells C e (C.size, C.size + 1)) }
      refine ⟨ρ.put s.next ⟨w.heap.size, 0, C.size⟩, .slice (some ⟨w.heap.size, 0, none⟩) x.size cap, w', hle, ?_, ?_, ?_, ?_⟩
      · simp only [Go.convert, Sem.run_bind, run_und hs, run_und hd, Result.andThen_ok, run_und he, Conv.stringToBytes, hrun, newRow, run_newObj, Sem.run_pure, markStringish, run_shape]
        have hsh : ({ w with drawn := w.drawn + 1, heap := w.heap.push (.cells C e) } : World).shape? w.heap.size = some (e, C.size) := by simp [World.shape?]
        have hfr : ({ w with drawn := w.drawn + 1, heap := w.heap.push (.cells C e) } : World).freeze ⟨w.heap.size, C.size, none⟩ 1 = w' := by
          simp only [World.freeze]
          rw [if_neg (by decide)]
          simp only [w']
          congr 1
          apply Array.ext_getElem?
          intro i
          rw [Array.getElem?_modify, Array.getElem?_push, Array.getElem?_push]
          by_cases hi : i = w.heap.size
          · subst hi; simp
          · simp [hi, Ne.symm hi]
        simp only [C] at hsh hfr
        simp only [hsh, Sem.run_bind, run_freeze, hfr, Result.andThen_ok, Sem.run_pure]
      · simp only [VRel]
        exact ⟨_, cap, rfl, Nat.le_refl _, hcap, fun hx => (by cases hx), fun hn => (by cases hn), fun _ => ⟨_, _, _, Env.put_same, by simp, by show 0 + 0 * 1 + cap * 1 ≤ C.size; omega⟩⟩
      · refine h.new _ (.cells C e (C.size, C.size + 1)) C.size rfl ⟨C, e, (C.size, C.size + 1), rfl, rfl, ?_, ?_, ?_, by simp⟩
        · have : List.length (α := Int) (bytesL x) = x.size := bytesL_length x
          show 0 + List.length (α := Int) (bytesL x) * 1 ≤ C.size
          omega
        · refine bytes_rows x fun i hi => ?_
          simp only [C, Nat.zero_add]
          rw [Array.getElem?_append_left (by simpa using hi)]
          rw [Array.getElem?_map]
          unfold bAt
          rw [List.getD_eq_getElem?_getD, Array.getElem?_toList, Array.getElem?_eq_getElem (by simpa using hi)]
          rfl
        · intro k hk
          have : decide (C.size ≤ k) = false := by simp; omega
          simp [this]
      · exact ⟨rfl, rfl, rfl, by simp [w'], fun k hk => by simp only [w']; rw [Array.getElem?_push, if_neg (fun e => hk (h.le k (by omega)))]⟩
    · cases hq
  · cases hq
end
end Go.Sym
end

section
namespace Go.Sym
set_option linter.unusedSimpArgs false
set_option linter.unusedVariables false

def seg {α : Type} (L : List α) (lo len : Nat) : List α := (L.take (lo + len)).drop lo
theorem seg_length {α : Type} {L : List α} {lo len : Nat} (h : lo + len ≤ L.length) : (seg L lo len).length = len := by simp [seg]; omega

noncomputable section
variable (P : Program)
def zerosE (ts : Array TypeId) : Bool :=
  match ts[1]? with
  | some t1 => (match P.underlying t1 with
    | some (.int _) => true
    | some _ => false
    | none => true)
  | none => false
def St.move (s : St) (b : Nat) (o : EObj) : St := ⟨(s.heap.set b none).set s.next (some o), s.next + 1⟩
def St.drop (s : St) (b : Nat) : St := ⟨s.heap.set b none, s.next⟩

def srcRows (s : St) (e : List Ty) (x : V) : Option (List Bool × List (rowDen e)) :=
  match x with
  | .nils => some ([], [])
  | .lst e' L _ => match asL e e' L with
    | some M => some ([], M)
    | none => none
  | .rs b lo len _ _ es => match rowsAt s b with
    | some ⟨e', L⟩ => match asL e e' L with
      | some M => bif Nat.beq es e.length then some ([decide (lo + len ≤ M.length)], seg M lo len) else none
      | none => none
    | none => none
  | .str t => match asL e [.int .u8] (bytesL t) with
    | some M => some ([], M)
    | none => none
  | .sl b o len _ _ es => match cellsAt s b with
    | some cs => bif Nat.beq es e.length && Nat.ble (o + len * es) (llen cs) then (match ofRows e len (ltake (ldrop cs o) (len * es)) with
      | some M => some ([], M)
      | none => none) else none
    | none => none
  | _ => none
def roomy (i : TypeInfo) (n : Nat) : List Bool := [decide ((2 * n + 768) * i.bytes ≤ 281474976710656), decide (n ≤ 1099511627776)]
def eAppendR (s : St) (e : List Ty) (el : TypeId) (i : TypeInfo) (a x : V) : Er :=
  match srcRows s e x with
  | none => none
  | some (cs, M) => match a with
    | .nils => some (cs ++ roomy i M.length, .rs s.next 0 M.length M.length false e.length, s.new (.rows e M el false))
    | .lst e' L true => match asL e e' L with
      | some L' => some (cs ++ (decide (0 < M.length ∨ L'.length = 0) :: roomy i (L'.length + M.length)), .rs s.next 0 (L'.length + M.length) (L'.length + M.length) false e.length, s.new (.rows e (L' ++ M) el false))
      | none => none
    | .rs b lo len _ _ es => match s.heap.get b with
      | some (.rows e' L _ ish) => match asL e e' L with
        | some L' => bif Nat.beq es e.length then
            some (cs ++ (decide (lo + len ≤ L'.length) :: roomy i (len + M.length)), .rs s.next 0 (len + M.length) (len + M.length) false es, s.move b (.rows e (seg L' lo len ++ M) el ish)) else none
        | none => none
      | _ => none
    | _ => none

def eOver (s : St) (e : List Ty) (a x : V) : Er :=
  match a, x with
  | .rs b lo len cap false es, .rs b2 lo2 len2 _ _ es2 => bif Nat.beq b b2 && (Nat.beq es e.length && Nat.beq es2 e.length) then
      (match s.heap.get b with
      | some (.rows e' L t' ish) => match asL e e' L with
        | some L' => some ([decide (lo2 + len2 ≤ L'.length), decide (len + len2 ≤ cap), decide (lo + len + len2 ≤ L'.length)], .rs b lo (len + len2) cap false es,
            s.upd b (.rows e (L'.take (lo + len) ++ (seg L' lo2 len2 ++ L'.drop (lo + len + len2))) t' ish))
        | none => none
      | _ => none) else none
  | _, _ => none

def eGrow (s : St) (e : List Ty) (el : TypeId) (i : TypeInfo) (a x : V) : Er :=
  match a with
  | .rs b lo len cap true es => (match srcRows s e x with
    | some (cs, M) => (match s.heap.get b with
      | some (.rows e' L _ _) => (match asL e e' L with
        | some L' => bif Nat.beq es e.length then
            some (cs ++ (decide (lo + len ≤ L'.length) :: decide (cap < len + M.length ∨ cap = 0) :: roomy i (len + M.length)), .rs s.next 0 (len + M.length) (len + M.length) false es, s.new (.rows e (seg L' lo len ++ M) el false)) else none
        | none => none)
      | _ => none)
    | none => none)
  | _ => none

def sliceCells (s : St) (v : V) (n : Nat) : Option (List V) :=
  match v with
  | .nils => bif Nat.beq n 0 then some [] else none
  | .sl b o _ _ _ es => match cellsAt s b with
    | some cs => bif Nat.ble (o + n * es) (llen cs) then some (ltake (ldrop cs o) (n * es)) else none
    | none => none
  | _ => none
def lenE : V → Option Nat
  | .nils => some 0
  | .sl _ _ len _ _ _ => some len
  | _ => none
def esOk (v : V) (sz : Nat) : Bool :=
  match v with
  | .sl _ _ _ _ _ es => Nat.beq es sz
  | .nils => true
  | _ => false
def srcCells (s : St) (x : V) (sz : Nat) : Option (List V) :=
  bif esOk x sz then (match lenE x with
    | some n => sliceCells s x n
    | none => none) else none
def srcE (s : St) (i : TypeInfo) (x : V) : Option (Nat × List V) :=
  match lenE x with
    | some n => match srcCells s x i.size with
      | some new => some (n, new)
      | none => none
    | none => none
def eAppendC (s : St) (e : TypeId) (i : TypeInfo) (a x : V) : Er :=
  match srcE s i x with
  | none => none
  | some (n, new) =>
  match a with
  | .nils =>
    bif Nat.beq n 0 then some ([], .nils, s) else
    bif Nat.ble ((2 * n + 768) * i.bytes) 281474976710656 && Nat.ble n 1099511627776 then
      some ([], .sl s.next 0 n n false i.size, s.new (.cells new e false)) else none
  | .sl b o len cap x' es =>
    bif !Nat.beq es i.size then none else
    bif Nat.ble (len + n) cap then
      (match s.heap.get b with
      | some (.cells cs t' ish) => bif Nat.ble (o + (len + n) * es) (llen cs) && lall oneV new then some ([], .sl b o (len + n) cap x' es, s.upd b (.cells (setAll cs (o + len * es) new) t' ish)) else none
      | _ => none)
    else
    bif !(Nat.ble ((2 * (len + n) + 768) * i.bytes) 281474976710656 && Nat.ble (len + n) 1099511627776) then none else
    match s.heap.get b with
    | some (.cells cs t' ish) =>
      bif !(Nat.ble (o + len * es) (llen cs) && lall oneV new) then none else
      bif x' then some ([], .sl s.next 0 (len + n) (len + n) false es, s.new (.cells (lapp (ltake (ldrop cs o) (len * es)) new) e false))
      else some ([], .sl s.next 0 (len + n) (len + n) false es, s.move b (.cells (lapp (ltake (ldrop cs o) (len * es)) new) e ish))
    | _ => none
  | _ => none

def eAppend (s : St) (ts : Array TypeId) (a x : V) : Er :=
  match ts[0]? with
  | none => none
  | some t =>
  match P.underlying t with
  | some (.slice el) =>
    match P.info? el, zeroE P el with
    | some i, some zv => match cellsO zv with
      | some z =>
        bif zerosE P ts || !(Nat.beq (llen z) i.size && Nat.ble 1 i.size) then none else
        (match rowTy P el with
        | some e => (match eOver s e a x with
          | some r => some r
          | none => (match eGrow s e el i a x with
            | some r => some r
            | none => (match eAppendR s e el i a x with
              | some r => some r
              | none => eAppendC s el i a x)))
        | none => eAppendC s el i a x)
      | none => none
    | _, _ => none
  | _ => none

def eCopy (s : St) (ts : Array TypeId) (d x : V) : Er :=
  match ts[0]? with
  | none => none
  | some t =>
  match P.underlying t with
  | some (.slice el) => match rowTy P el with
    | none => none
    | some e => match srcRows s e x with
      | none => none
      | some (cs, M) => match d with
        | .nils => some (cs, .int .i64 0, s)
        | .rs b lo len _ _ es => match s.heap.get b with
          | some (.rows e' L t' ish) => match asL e e' L with
            | some L' => bif Nat.beq es e.length then
                some (cs ++ [decide (lo + len ≤ L'.length)], .int .i64 (Int.ofNat (Nat.min M.length len)), s.upd b (.rows e (L'.take lo ++ (M.take (Nat.min M.length len) ++ L'.drop (lo + Nat.min M.length len))) t' ish)) else none
            | none => none
          | _ => none
        | _ => none
  | _ => none
def eClear (s : St) (ts : Array TypeId) (d : V) : Er :=
  match ts[0]? with
  | none => none
  | some t =>
  match P.underlying t with
  | some (.slice el) => match rowTy P el, zeroE P el with
    | some e, some zv => (match cellsO zv with
      | some z => (match ofRow e z with
        | some r => (match d with
          | .nils => some ([], .undef, s)
          | .rs b lo len _ _ es => (match s.heap.get b with
            | some (.rows e' L t' ish) => (match asL e e' L with
              | some L' => bif Nat.beq es e.length then
                  some ([decide (lo + len ≤ L'.length)], .undef, s.upd b (.rows e (L'.take lo) t' ish)) else none
              | none => none)
            | _ => none)
          | _ => none)
        | none => none)
      | none => none)
    | _, _ => none
  | _ => none
end

section
variable {P : Program} {own : Own} {ρ : Env} {s : St} {w : World}

theorem growBy_le (n : Nat) : ∀ r c, c ≤ n + (n + 768) / 4 → Builtin.growBy n r c ≤ n + (n + 768) / 4
  | 0, c, h => h
  | r + 1, c, h => by
    simp only [Builtin.growBy]
    split
    · exact h
    · exact growBy_le n r _ (by omega)
theorem nextcap_le {n c : Nat} (h : c < n) : Builtin.nextslicecap n c ≤ 2 * n + 768 := by
  unfold Builtin.nextslicecap
  split
  · omega
  · split
    · omega
    · have := growBy_le n 4 c (by omega)
      omega

theorem SRel.newLong (h : SRel own ρ s w) {cs : List V} {L : List Value} (hc : LRel ρ cs L) (R : Array Value) (t t' : TypeId) (d : Nat) (ish : Bool) :
    ρ.le (ρ.put s.next ⟨w.heap.size, 0, (L.toArray ++ R).size⟩) ∧ SRel own (ρ.put s.next ⟨w.heap.size, 0, (L.toArray ++ R).size⟩) (s.new (.cells cs t ish)) { w with drawn := d, heap := w.heap.push (.cells (L.toArray ++ R) t') } ∧
      Fr own w { w with drawn := d, heap := w.heap.push (.cells (L.toArray ++ R) t') } := by
  have hle := Env.le_put ⟨w.heap.size, 0, (L.toArray ++ R).size⟩ h.fresh
  refine ⟨hle, h.new _ (.cells (L.toArray ++ R) t') _ rfl ⟨_, t', (0, 0), rfl, rfl, ?_, ?_, by simp, fun _ => rfl⟩, rfl, rfl, rfl, by simp, fun k hk => ?_⟩
  · have := hc.length; simp; omega
  · intro i v hi
    obtain ⟨X, e1, e2⟩ := hc.get hi
    have hlt := (List.getElem?_eq_some_iff.1 e1).1
    refine ⟨X, ?_, VRel.mono hle _ _ e2⟩
    rw [Nat.zero_add, Array.getElem?_append_left (by simpa using hlt)]
    simpa using e1
  · simp only
    rw [Array.getElem?_push, if_neg (fun e => hk (h.le k (by omega)))]
theorem rows_long {φ : Nat → Nat → Option Value} {e : List Ty} {L : List (rowDen e)} {V : List Value} (h : RowsAt φ e L (fun k => V[k]?)) (R : Array Value) : RowsAt φ e L (fun k => (V.toArray ++ R)[k]?) :=
  h.mono (fun _ _ _ hv => hv) fun j v hj => by
    have hlt := (List.getElem?_eq_some_iff.1 hj).1
    rw [Array.getElem?_append_left (by simpa using hlt)]
    simpa using hj
theorem rows_app {φ : Nat → Nat → Option Value} {e : List Ty} {L M : List (rowDen e)} {C D : Nat → Option Value} (h : RowsAt φ e L C) (k : RowsAt φ e M (fun j => D (L.length * e.length + j))) (hC : ∀ j, j < L.length * e.length → D j = C j) : RowsAt φ e (L ++ M) D := by
  intro i hi
  rcases Nat.lt_or_ge i L.length with h1 | h1
  · have e1 : rowAt e (L ++ M) i = rowAt e L i := by simp [rowAt, List.getD_eq_getElem?_getD, List.getElem?_append_left h1]
    rw [e1]
    refine CRel.mono (fun _ _ _ hv => hv) e _ (fun j v hv => ?_) (CRel.ltφ e _ (h i h1))
    split at hv
    · rename_i hj
      rw [hC _ ?_]; exact hv
      have := Nat.mul_le_mul_right e.length (show i + 1 ≤ L.length from h1)
      rw [Nat.succ_mul] at this; omega
    · cases hv
  · have e1 : rowAt e (L ++ M) i = rowAt e M (i - L.length) := by simp [rowAt, List.getD_eq_getElem?_getD, List.getElem?_append_right h1]
    rw [e1]
    have := k (i - L.length) (by simp at hi; omega)
    refine CRel.mono (fun _ _ _ hv => hv) e _ (fun j v hv => ?_) this
    rw [← hv]; congr 1
    rw [← Nat.add_assoc, ← Nat.add_mul]; congr 2; omega
theorem SRel.newLongRows (h : SRel own ρ s w) {e : List Ty} {L : List (rowDen e)} {V : List Value} (hl : L.length * e.length ≤ V.length) (hc : RowsAt ρ.φ e L (fun k => V[k]?)) (R : Array Value) (t t' : TypeId) (d : Nat) (ish : Bool) :
    ρ.le (ρ.put s.next ⟨w.heap.size, 0, (V.toArray ++ R).size⟩) ∧ SRel own (ρ.put s.next ⟨w.heap.size, 0, (V.toArray ++ R).size⟩) (s.new (.rows e L t ish)) { w with drawn := d, heap := w.heap.push (.cells (V.toArray ++ R) t') } ∧
      Fr own w { w with drawn := d, heap := w.heap.push (.cells (V.toArray ++ R) t') } := by
  have hle := Env.le_put ⟨w.heap.size, 0, (V.toArray ++ R).size⟩ h.fresh
  refine ⟨hle, h.new _ (.cells (V.toArray ++ R) t') _ rfl ⟨_, t', (0, 0), rfl, rfl, ?_, ?_, by simp, fun _ => rfl⟩, rfl, rfl, rfl, by simp, fun k hk => ?_⟩
  · simp; omega
  · show RowsAt ρ.φ e L (fun k => (V.toArray ++ R)[0 + k]?)
    simpa using rows_long hc R
  · simp only
    rw [Array.getElem?_push, if_neg (fun e => hk (h.le k (by omega)))]
theorem SRel.ghost (h : SRel own ρ s w) (o : EObj) : SRel own ρ (s.new o) w := by
  have key : ∀ b o' x, (s.new o).heap.get b = some o' → ρ b = some x → s.heap.get b = some o' := by
    intro b o' x hb hx
    simp only [St.new, T.get_set] at hb
    split at hb
    · rename_i e; subst e; rw [h.fresh.1] at hx; cases hx
    · exact hb
  refine ⟨h.le, fun b o' x hb hx => h.obj b o' x (key b o' x hb hx) hx, fun b b' o1 o2 x x' hb hb' hx hx' => h.inj b b' o1 o2 x x' (key _ _ _ hb hx) (key _ _ _ hb' hx') hx hx', fun b x hx => ?_, ?_, h.fz, h.old⟩
  · have := h.dom b x hx; show b < s.next + 1; omega
  · have := h.top; show ρ.n ≤ s.next + 1; omega
theorem SRel.strike (h : SRel own ρ s w) (b : Nat) : SRel own ρ (s.drop b) w := by
  have key : ∀ k o', (s.drop b).heap.get k = some o' → s.heap.get k = some o' := by
    intro k o' hk
    simp only [St.drop, T.get_set] at hk
    split at hk
    · cases hk
    · exact hk
  exact ⟨h.le, fun k o' x hk hx => h.obj k o' x (key _ _ hk) hx, fun k k' o1 o2 x x' hk hk' hx hx' => h.inj k k' o1 o2 x x' (key _ _ hk) (key _ _ hk') hx hx', h.dom, h.top, h.fz, h.old⟩
theorem move_eq (s : St) (b : Nat) (o : EObj) : (s.drop b).new o = s.move b o := rfl

theorem SRel.move (h : SRel own ρ s w) {b : Nat} {o : EObj} {x : Blk} (hb : s.heap.get b = some o) (hx : ρ b = some x) (o1 : EObj) (X : Obj) (O1 : Nat) {w' : World} (hw : w'.heap = w.heap.setIfInBounds x.B X)
    (ho : ORel (ρ.put s.next ⟨x.B, O1, x.S⟩) O1 x.S (some X) o1) : SRel own (ρ.put s.next ⟨x.B, O1, x.S⟩) (s.move b o1) w' := by
  have hlt := h.lt hb hx
  have hle := Env.le_put ⟨x.B, O1, x.S⟩ h.fresh
  have hbn : b < s.next := h.dom _ _ hx
  have get : ∀ k v, (s.move b o1).heap.get k = some v → (k = s.next ∧ v = o1) ∨ (k ≠ s.next ∧ k ≠ b ∧ s.heap.get k = some v) := by
    intro k v hk
    simp only [St.move, T.get_set] at hk
    split at hk
    · rename_i e; cases hk; exact .inl ⟨e, rfl⟩
    · rename_i e
      split at hk
      · cases hk
      · rename_i e2; exact .inr ⟨e, e2, hk⟩
  obtain ⟨y, g1, g2, _⟩ := h.obj' hb hx
  rw [hx] at g1; cases g1
  refine ⟨by rw [hw]; simpa using h.le, ?_, ?_, ?_, by simp only [Env.put, St.move]; have := h.top; omega, ?_, h.old⟩
  · intro k v z hk hz
    rcases get k v hk with ⟨rfl, rfl⟩ | ⟨e1, e2, hk⟩
    · rw [Env.put_same] at hz; cases hz
      exact ⟨g2, by rw [hw]; simpa [hlt] using ho⟩
    · rw [Env.put_ne e1] at hz
      obtain ⟨y, h1, h2, h3⟩ := h.obj' hk hz
      rw [hz] at h1; cases h1
      have h1 := hz
      refine ⟨h2, ?_⟩
      have := h.inj k b _ _ z x hk hb h1 hx e2
      rw [hw, Array.getElem?_setIfInBounds_ne (fun k => this k.symm)]
      exact h3.mono hle
  · intro k k' v v' y y' hk hk' hy hy' hne
    rcases get k v hk with ⟨rfl, rfl⟩ | ⟨e1, e2, g⟩ <;> rcases get k' v' hk' with ⟨rfl, rfl⟩ | ⟨e1', e2', g'⟩
    · exact absurd rfl hne
    · rw [Env.put_same] at hy; cases hy
      rw [Env.put_ne e1'] at hy'
      exact fun e => h.inj k' b _ _ y' x g' hb hy' hx e2' e.symm
    · rw [Env.put_same] at hy'; cases hy'
      rw [Env.put_ne e1] at hy
      exact h.inj k b _ _ y x g hb hy hx e2
    · rw [Env.put_ne e1] at hy
      rw [Env.put_ne e1'] at hy'
      exact h.inj k k' v v' y y' g g' hy hy' hne
  · intro k y hy
    simp only [Env.put] at hy
    show k < s.next + 1
    split at hy
    · omega
    · have := h.dom k y hy; omega
  · refine SRel.fz_of (own := own) (ρ := ρ) (s := s) (w := w) h fun B => ?_
    by_cases e : x.B = B
    · exact .inr (.inl (e ▸ g2.2))
    · exact .inr (.inr (by rw [hw, Array.getElem?_setIfInBounds_ne e]))

theorem wrap_small2 {n : Nat} (h : n ≤ 1099511627776) : IntKind.i64.wrap (n : Int) = n := wrap_small (by omega)

def SrcOK (P : Program) (ts : Array TypeId) (e : TypeId) (i : TypeInfo) (X : Value) (n : Nat) (w w' : World) (L : List Value) : Prop :=
  (zerosE P ts = false ∧ (Builtin.lenOf X).run P w = .ok n w ∧ (Builtin.firstCells i.size n X).run P w' = .ok L.toArray w') ∨
  ((∃ t1 k, ts[1]? = some t1 ∧ P.underlying t1 = some (.int k)) ∧ X = .int .i64 (n : Int) ∧ n * i.bytes ≤ 281474976710656 ∧ n ≤ 1099511627776 ∧
    ((n * i.size = 0 ∧ L = []) ∨ (n * i.size ≠ 0 ∧ ∃ Z, (zeroValue e).run P w' = .ok Z w' ∧ L.toArray = Builtin.zeroCells Z.cells n)))

theorem notInt {ts : Array TypeId} (hz : zerosE P ts = false) : ts[1]? = none ∨ ∃ t1 d, ts[1]? = some t1 ∧ P.underlying t1 = some d ∧ ∀ k, d ≠ .int k := by
  unfold zerosE at hz
  cases h1 : ts[1]? with
  | none => exact .inl rfl
  | some t1 =>
    simp only [h1] at hz
    cases hu : P.underlying t1 with
    | none => simp [hu] at hz
    | some d => exact .inr ⟨t1, d, rfl, hu, fun k e => by subst e; simp [hu] at hz⟩

theorem run_append_in {t e : TypeId} {ts : Array TypeId} {ty : TypeId} {X : Value} {base : Option Addr} {len cap n : Nat} {i : TypeInfo} {L : List Value} (ht : ts[0]? = some t) (hd : P.underlying t = some (.slice e)) (hi : P.info? e = some i)
    (hs : SrcOK P ts e i X n w w L) (hle : len + n ≤ cap) :
    (Builtin.append_ ts ty #[.slice base len cap, X]).run P w = ((match base with | some a => storeCells (a.add (len * i.size)) L | none => pure () : Sem Unit).run P w).andThen fun _ w' => .ok (.slice base (len + n) cap) w' := by
  rcases hs with ⟨hz, hn, hL⟩ | ⟨⟨t1, k, h1, hu⟩, rfl, hb, hm, hL⟩
  · rcases notInt hz with h1 | ⟨t1, d, h1, hu, hd'⟩
    · simp only [Builtin.append_, ht, h1, List.getElem?_toArray, List.getElem?_cons_zero, List.getElem?_cons_succ, Sem.run_bind, run_und hd, Result.andThen_ok, info_size hi, Sem.run_pure, Bool.false_eq_true, if_false, hn, hle, if_true, Bool.not_false, hL]
      cases base with
      | none => simp
      | some a => simp
    · cases d <;> first
        | exact absurd rfl (hd' _)
        | (simp only [Builtin.append_, ht, h1, List.getElem?_toArray, List.getElem?_cons_zero, List.getElem?_cons_succ, Sem.run_bind, run_und hd, run_und hu, Result.andThen_ok, info_size hi, Sem.run_pure, Bool.false_eq_true, if_false, hn, hle, if_true, Bool.not_false, hL]
           cases base with
           | none => simp
           | some a => simp)
  · have hw := wrap_small2 hm
    have hti : (typeInfo e).run P w = .ok i w := by simp [typeInfo, hi]
    have hneg : ¬ ((n : Int) < 0) := by omega
    have hbb : ¬ ((n : Int) * (i.bytes : Int) > 2 ^ 48) := by
      have : ((n * i.bytes : Nat) : Int) ≤ 281474976710656 := by omega
      rw [Int.natCast_mul] at this; omega
    have hbb' : ¬ (281474976710656 < (n : Int) * (i.bytes : Int)) := by simpa using hbb
    rcases hL with ⟨h0, rfl⟩ | ⟨h0, Z, hZ, hL⟩
    · cases base with
      | none => simp [Builtin.append_, ht, h1, run_und hd, run_und hu, info_size hi, asInt, run_asIntOf, hw, hneg, hti, hbb', hle, h0]
      | some a => simp [Builtin.append_, ht, h1, run_und hd, run_und hu, info_size hi, asInt, run_asIntOf, hw, hneg, hti, hbb', hle, h0]
    · have hL' : L = (Builtin.zeroCells Z.cells n).toList := by rw [← hL]
      have h0' : ¬ (n = 0 ∨ i.size = 0) := by rw [← Nat.mul_eq_zero]; exact h0
      subst hL'
      cases base with
      | none => simp [Builtin.append_, ht, h1, run_und hd, run_und hu, info_size hi, asInt, run_asIntOf, hw, hneg, hti, hbb', hle, h0', hZ]
      | some a =>
        simp [Builtin.append_, ht, h1, run_und hd, run_und hu, info_size hi, asInt, run_asIntOf, hw, hneg, hti, hbb', hle, h0', hZ]
        exact fun hh => absurd hh h0

theorem run_append_grow {t e : TypeId} {ts : Array TypeId} {ty : TypeId} {X : Value} {base : Option Addr} {len cap n : Nat} {i : TypeInfo} {K L : List Value} {Z : Value} (ht : ts[0]? = some t) (hd : P.underlying t = some (.slice e)) (hi : P.info? e = some i)
    (hs : SrcOK P ts e i X n w { w with drawn := w.drawn + 1 } L)
    (hK : (Builtin.firstCells i.size len (.slice base len cap)).run P { w with drawn := w.drawn + 1 } = .ok K.toArray { w with drawn := w.drawn + 1 })
    (hZ : (zeroValue e).run P { w with drawn := w.drawn + 1 } = .ok Z { w with drawn := w.drawn + 1 })
    (hgt : cap < len + n) (hb : (2 * (len + n) + 768) * i.bytes ≤ 281474976710656) (hm : len + n ≤ 1099511627776) :
    ∃ cap', len + n ≤ cap' ∧ (Builtin.append_ ts ty #[.slice base len cap, X]).run P w =
      .ok (.slice (some ⟨w.heap.size, 0, none⟩) (len + n) cap') { w with drawn := w.drawn + 1, heap := w.heap.push (.cells (K.toArray ++ L.toArray ++ Builtin.zeroCells Z.cells (cap' - (len + n))) e) } := by
  obtain ⟨cap', hcap, hrun⟩ : ∃ cap', len + n ≤ cap' ∧ (choose (.appendCap (len + n) cap e)).run P w = .ok cap' { w with drawn := w.drawn + 1 } := by
    refine ⟨_, ?_, by simp [Question.forced]; rfl⟩
    simp [Question.cut]
  have hni : ¬ len + n ≤ cap := by omega
  have h63 : ¬ (((len + n : Nat) : Int) > IntKind.i64.max) := by rw [i64max]; omega
  have hti : (typeInfo e).run P w = .ok i w := by simp [typeInfo, hi]
  have hti' : (typeInfo e).run P { w with drawn := w.drawn + 1 } = .ok i { w with drawn := w.drawn + 1 } := by simp [typeInfo, hi]
  have hcapb : ¬ (Builtin.nextslicecap (len + n) cap * i.bytes > 2 ^ 48) := by
    have h1 := nextcap_le hgt
    have h2 := Nat.mul_le_mul_right i.bytes h1
    omega
  refine ⟨cap', hcap, ?_⟩
  rcases hs with ⟨hz, hn, hL⟩ | ⟨⟨t1, k, h1, hu⟩, rfl, hbn, hmn, hL⟩
  · rcases notInt hz with h1 | ⟨t1, d, h1, hu, hd'⟩
    · simp only [Builtin.append_, ht, h1, List.getElem?_toArray, List.getElem?_cons_zero, List.getElem?_cons_succ, Sem.run_bind, run_und hd, Result.andThen_ok, info_size hi, Sem.run_pure, Bool.false_eq_true, if_false, hn, hni, h63, false_and, hti, hti', hcapb, hrun, run_askRoom, hK, Bool.not_false, if_true, hL, hZ, newRow, run_newObj]
    · cases d <;> first
        | exact absurd rfl (hd' _)
        | simp only [Builtin.append_, ht, h1, List.getElem?_toArray, List.getElem?_cons_zero, List.getElem?_cons_succ, Sem.run_bind, run_und hd, run_und hu, Result.andThen_ok, info_size hi, Sem.run_pure, Bool.false_eq_true, if_false, hn, hni, h63, false_and, hti, hti', hcapb, hrun, run_askRoom, hK, Bool.not_false, if_true, hL, hZ, newRow, run_newObj]
  · have hw := wrap_small2 hmn
    have hneg : ¬ ((n : Int) < 0) := by omega
    have hbb : ¬ ((n : Int) * (i.bytes : Int) > 2 ^ 48) := by
      have : ((n * i.bytes : Nat) : Int) ≤ 281474976710656 := by omega
      rw [Int.natCast_mul] at this; omega
    have ha : (asInt (.int .i64 (n : Int))).run P w = .ok (n : Int) w := by simp [asInt, run_asIntOf]
    have h63' : ¬ ((((len + n : Nat) : Int) > IntKind.i64.max) ∧ (True ∨ i.bytes = 0)) := fun h => h63 h.1
    rcases hL with ⟨h0, rfl⟩ | ⟨h0, Z2, hZ2, hL⟩
    · simp only [Builtin.append_, ht, h1, List.getElem?_toArray, List.getElem?_cons_zero, List.getElem?_cons_succ, Sem.run_bind, run_und hd, run_und hu, Result.andThen_ok, info_size hi, Sem.run_pure, ha, hw, hneg, if_false, hti, hti', hbb, Int.toNat_natCast, hni, h63, false_and, hcapb, hrun, run_askRoom, hK, h0, if_true, hZ, newRow, run_newObj, Bool.not_true, Bool.false_eq_true]
    · simp only [Builtin.append_, ht, h1, List.getElem?_toArray, List.getElem?_cons_zero, List.getElem?_cons_succ, Sem.run_bind, run_und hd, run_und hu, Result.andThen_ok, info_size hi, Sem.run_pure, ha, hw, hneg, if_false, hti, hti', hbb, Int.toNat_natCast, hni, h63, false_and, hcapb, hrun, run_askRoom, hK, h0, hZ2, hZ, newRow, run_newObj, Bool.not_true, Bool.false_eq_true, if_true]
      rw [hL, show Z2 = Z by rw [hZ] at hZ2; cases hZ2; rfl]

end
end Go.Sym
end

section
namespace Go.Sym
set_option linter.unusedSimpArgs false
set_option linter.unusedVariables false
section
variable {P : Program} {own : Own} {ρ : Env} {s : St} {w : World}

theorem bool_not_cond {α : Type} {b : Bool} {x y : α} {z : α} (h : (bif !b then x else y) = z) (hx : x ≠ z) : b = true ∧ y = z := by
  cases b
  · exact absurd h hx
  · exact ⟨rfl, h⟩
theorem zeroCells_size (Z : Array Value) (n : Nat) : (Builtin.zeroCells Z n).size = n * Z.size := by simp [Builtin.zeroCells]

theorem rows_load {e : List Ty} {M : List (rowDen e)} {B o : Nat} (h : RowsAt ρ.φ e M (fun k => w.cell? ⟨B, o + k, none⟩)) :
    ∃ V : List Value, V.length = M.length * e.length ∧ RowsAt ρ.φ e M (fun k => V[k]?) ∧ Ones V ∧ (loadCells ⟨B, o, none⟩ (M.length * e.length)).run P w = .ok V.toArray w := by
  obtain ⟨V, h1, h2, h3, h4⟩ := h.list
  refine ⟨V, h1, h3, h4, ?_⟩
  have := run_loadCells_list (P := P) w ⟨B, o, none⟩ V (fun j v hj => by rw [addr_add]; exact h2 j v hj)
  rwa [h1] at this

theorem asL_rows {φ : Nat → Nat → Option Value} {e e' : List Ty} {L : List (rowDen e')} {M : List (rowDen e)} (h : asL e e' L = some M) {C : Nat → Option Value} (hr : RowsAt φ e' L C) : e' = e ∧ M.length = L.length ∧ RowsAt φ e M C := by
  obtain ⟨q, rfl⟩ := asL_some h
  subst q
  exact ⟨rfl, rfl, hr⟩
theorem asL_len {e e' : List Ty} {L : List (rowDen e')} {M : List (rowDen e)} (h : asL e e' L = some M) : e' = e ∧ M.length = L.length := by
  obtain ⟨q, rfl⟩ := asL_some h
  subst q
  exact ⟨rfl, rfl⟩
theorem rows_seg {φ : Nat → Nat → Option Value} {e : List Ty} {L : List (rowDen e)} {C : Nat → Option Value} {lo len : Nat} (h : lo + len ≤ L.length) (hr : RowsAt φ e L C) : RowsAt φ e (seg L lo len) (fun k => C (lo * e.length + k)) :=
  rows_drop lo (lo + len) h hr

structure SrcR (P : Program) (φ : Nat → Nat → Option Value) (e : List Ty) (M : List (rowDen e)) (X : Value) (w : World) (V : List Value) : Prop where
  size : V.length = M.length * e.length
  rows : RowsAt φ e M (fun k => V[k]?)
  ones : Ones V
  len : (Builtin.lenOf X).run P w = .ok M.length w
  load : ∀ n, n ≤ M.length → (Builtin.firstCells e.length n X).run P w = .ok (V.take (n * e.length)).toArray w

theorem take_load {B o : Nat} {V : List Value} {m : Nat} (h : (loadCells ⟨B, o, none⟩ m).run P w = .ok V.toArray w) (hV : ∀ k X, V[k]? = some X → w.cell? ⟨B, o + k, none⟩ = some X) (n : Nat) (hn : n ≤ V.length) : (loadCells ⟨B, o, none⟩ n).run P w = .ok (V.take n).toArray w := by
  have := run_loadCells_list (P := P) w ⟨B, o, none⟩ (V.take n) (fun j v hj => by
    rw [addr_add]
    refine hV j v ?_
    have hlt : j < n := by
      have := (List.getElem?_eq_some_iff.1 hj).1
      simp at this; omega
    rwa [List.getElem?_take_of_lt hlt] at hj)
  rwa [List.length_take, Nat.min_eq_left hn] at this

theorem src_slice {e : List Ty} {M : List (rowDen e)} {a : Option Addr} {c : Nat} (hn : a = none → M.length = 0) (hr : 0 < M.length → ∃ B o, a = some ⟨B, o, none⟩ ∧ RowsAt ρ.φ e M (fun k => w.cell? ⟨B, o + k, none⟩)) :
    ∃ V, SrcR P ρ.φ e M (.slice a M.length c) w V := by
  rcases Nat.eq_zero_or_pos M.length with h0 | h0
  · refine ⟨[], by simp [h0], fun i hi => by omega, fun X hX => by simp at hX, rfl, fun n hn' => ?_⟩
    have : n = 0 := by omega
    subst this
    cases a with
    | none => simp [Builtin.firstCells]
    | some a => simp [Builtin.firstCells, loadCells, loadCellsFrom]
  · obtain ⟨B, o, rfl, hro⟩ := hr h0
    obtain ⟨V, g1, g2, g3, g4⟩ := hro.list
    refine ⟨V, g1, g3, g4, rfl, fun n hn' => ?_⟩
    have hall := run_loadCells_list (P := P) w ⟨B, o, none⟩ V (fun j v hj => by rw [addr_add]; exact g2 j v hj)
    have hle : n * e.length ≤ V.length := by rw [g1]; exact Nat.mul_le_mul_right _ hn'
    have := take_load hall g2 (n * e.length) hle
    simpa [Builtin.firstCells] using this

theorem srcRows_rel (h : SRel own ρ s w) {e : List Ty} {x : V} {cs : List Bool} {M : List (rowDen e)} (hq : srcRows s e x = some (cs, M)) (hp : allB cs) {X : Value} (hx : VRel ρ x X) : ∃ V, SrcR P ρ.φ e M X w V := by
  unfold srcRows at hq
  split at hq
  · cases hq
    simp only [VRel] at hx; subst hx
    exact src_slice (M := ([] : List (rowDen e))) (a := none) (c := 0) (fun _ => rfl) (fun h => absurd h (Nat.lt_irrefl _))
  · rename_i e' L cl
    split at hq
    · rename_i M' hM
      cases hq
      simp only [VRel] at hx
      obtain ⟨a, c, rfl, h1, _, h3, h4⟩ := hx
      obtain ⟨q, rfl⟩ := asL_some hM
      subst q
      exact src_slice (M := L) (fun hn => by have := h3 hn; omega) fun hp => let ⟨B, o, g1, g2⟩ := h4 hp; ⟨B, o, g1, h.rowsφ g2⟩
    · cases hq
  · rename_i b lo len cap x' es
    split at hq
    · rename_i e' L hL
      split at hq
      · rename_i M' hM
        cases hes : Nat.beq es e.length with
        | false => rw [hes] at hq; cases hq
        | true =>
        rw [hes, cond_true] at hq
        have hes := Nat.eq_of_beq_eq_true hes
        subst hes
        cases hq
        have hle : lo + len ≤ M'.length := by simpa using hp.1
        obtain ⟨q, rfl⟩ := asL_some hM
        subst q
        simp only [VRel] at hx
        obtain ⟨a, c, rfl, h1, h2, _, h3, h4⟩ := hx
        have hsl := seg_length hle
        have hle' : lo + len ≤ L.length := hle
        have hsl' : (seg L lo len).length = len := seg_length hle'
        have := src_slice (P := P) (ρ := ρ) (w := w) (M := seg L lo len) (a := a) (c := c) (fun hn => by have := h3 hn; omega) fun hp => by
          obtain ⟨B, O, S, g1, g2, g3⟩ := h4 (by omega)
          have hr := rows_seg hle' (h.rowsAt hL g1).1
          exact ⟨B, _, g2, by simpa [Nat.add_assoc] using hr⟩
        rw [hsl'] at this
        exact this
      · cases hq
    · cases hq
  · rename_i t
    split at hq
    · rename_i M' hM
      cases hq
      simp only [VRel] at hx; subst hx
      obtain ⟨q, rfl⟩ := asL_some hM
      subst q
      have hl : List.length (α := Int) (bytesL t) = t.size := bytesL_length t
      refine ⟨(bytesL t).map (Value.int .u8), ?_, ?_, ?_, ?_, ?_⟩
      · show _ = List.length (α := Int) (bytesL t) * 1
        simp
      · refine bytes_rows t fun i hi => ?_
        simp only [List.getElem?_map]
        have e2 : (bytesL t)[i]? = some (bAt t i) := by
          rw [← bytesL_get t i hi, List.getD_eq_getElem?_getD, List.getElem?_eq_getElem (by rw [bytesL_length]; exact hi)]
          rfl
        rw [e2]; rfl
      · intro X hX
        obtain ⟨n, _, rfl⟩ := List.mem_map.1 hX
        rfl
      · show (Builtin.lenOf (.string t)).run P w = .ok (List.length (α := Int) (bytesL t)) w
        rw [hl]; simp [Builtin.lenOf]
      · intro n hn
        have hn : n ≤ List.length (α := Int) (bytesL t) := hn
        rw [hl] at hn
        have e2 : (t.extract 0 n).data.map (fun b => Value.int .u8 b.toNat) = (((bytesL t).map (Value.int .u8)).take (n * 1)).toArray := by
          apply Array.ext'
          simp [bytesL, List.extract_eq_take_drop]
          rfl
        show (Builtin.firstCells 1 n (.string t)).run P w = .ok (((bytesL t).map (Value.int .u8)).take (n * 1)).toArray w
        simp only [Builtin.firstCells, e2, Sem.run_pure]
    · cases hq
  · rename_i b o len cap x' es
    split at hq
    · rename_i cs' hcs
      simp only [llen_eq, ltake_eq, ldrop_eq] at hq
      cases hb : (Nat.beq es e.length && Nat.ble (o + len * es) cs'.length) with
      | false => rw [hb] at hq; cases hq
      | true =>
      rw [hb, cond_true] at hq
      simp only [Bool.and_eq_true, Nat.beq_eq, Nat.ble_eq] at hb
      obtain ⟨he, hb⟩ := hb
      subst he
      split at hq
      · rename_i M' hM
        cases hq
        obtain ⟨g1, g2, g3⟩ := ofRows_spec (ρ := ρ) e len _ M hM
        simp only [VRel] at hx
        obtain ⟨B, O, S, c, hB, rfl, _⟩ := hx
        have hc := (h.cellsAt hcs hB).1
        have := src_slice (P := P) (ρ := ρ) (w := w) (M := M) (a := some ⟨B, O + o, none⟩) (c := c) (fun hn => by cases hn) fun _ => ⟨B, O + o, rfl, g3 fun i v hi => by
          have hlt : i < len * e.length := by
            have := (List.getElem?_eq_some_iff.1 hi).1
            simp at this; omega
          rw [List.getElem?_take_of_lt hlt, List.getElem?_drop] at hi
          obtain ⟨W, q1, q2⟩ := hc _ _ hi
          exact ⟨W, by rw [Nat.add_assoc]; exact q1, q2⟩⟩
        rw [g1] at this
        exact this
      · cases hq
    · cases hq
  · cases hq

theorem SrcR.ok (hz : ∀ {ts : Array TypeId}, True) {ts : Array TypeId} (h0 : zerosE P ts = false) {e : List Ty} {el : TypeId} {i : TypeInfo} (hi : i.size = e.length) {M : List (rowDen e)} {X : Value} {V V' : List Value} {w' : World} (h : SrcR P ρ.φ e M X w V) (k : SrcR P ρ.φ e M X w' V') :
    SrcOK P ts el i X M.length w w' V' := by
  refine .inl ⟨h0, h.len, ?_⟩
  have := k.load M.length (Nat.le_refl _)
  rw [hi, this, ← k.size, List.take_length]

theorem info_szE {el : TypeId} {i : TypeInfo} (hi : P.info? el = some i) : szE P el = some i.size := by simp [szE, hi]

theorem roomy_spec {i : TypeInfo} {n : Nat} (h : allB (roomy i n)) : (2 * n + 768) * i.bytes ≤ 281474976710656 ∧ n ≤ 1099511627776 := by
  obtain ⟨h1, h2, _⟩ := h
  simp only [decide_eq_true_eq] at h1 h2
  exact ⟨h1, h2⟩

theorem eAppendR_rel (h : SRel own ρ s w) {ts : Array TypeId} {ty t el : TypeId} {i : TypeInfo} {zv : V} (ht : ts[0]? = some t) (hd : P.underlying t = some (.slice el)) (hi : P.info? el = some i) (hzz : zeroE P el = some zv) (h0 : zerosE P ts = false) {e : List Ty} (he : rowTy P el = some e)
    {z : List V} (hz : cellsO zv = some z) (hzl : z.length = i.size) {a x v : V} {s' : St} {ps : List Bool} (hq : eAppendR s e el i a x = some (ps, v, s')) (hp : allB ps) {A X : Value} (ha : VRel ρ a A) (hx : VRel ρ x X) :
    OKv P own ρ (Builtin.append_ ts ty #[A, X]) w v s' := by
  obtain ⟨hsz, hs1⟩ := rowTy_spec he
  have his : i.size = e.length := by
    rw [info_szE hi] at hsz; exact Option.some.inj hsz
  have h' : SRel own ρ s { w with drawn := w.drawn + 1 } := h.same rfl
  obtain ⟨Z, hZ, hzr, _⟩ := zeroE_rel (ρ := ρ) (w := { w with drawn := w.drawn + 1 }) hzz
  have hzc := (cellsO_rel hz hzr).length
  simp only [Array.length_toList] at hzc
  unfold eAppendR at hq
  split at hq
  · cases hq
  rename_i cs M hM
  have src : allB cs → ∃ V V', SrcR P ρ.φ e M X w V ∧ SrcR P ρ.φ e M X { w with drawn := w.drawn + 1 } V' := fun hc => by
    obtain ⟨V, hV⟩ := srcRows_rel (P := P) h hM hc hx
    obtain ⟨V', hV'⟩ := srcRows_rel (P := P) h' hM hc hx
    exact ⟨V, V', hV, hV'⟩
  split at hq
  · -- nil
    cases hq
    rw [allB_append] at hp
    obtain ⟨V, V', hV, hV'⟩ := src hp.1
    obtain ⟨r1, r2⟩ := roomy_spec hp.2
    simp only [VRel] at ha; subst ha
    rcases Nat.eq_zero_or_pos M.length with hn0 | hn0
    · have hso := SrcR.ok (fun {_} => trivial) h0 (el := el) his hV hV
      rw [hn0] at hso ⊢
      refine ⟨ρ, .slice none 0 0, w, ρ.le_refl, ?_, ?_, h.ghost _, Fr.refl _ _⟩
      · rw [run_append_in ht hd hi hso (by omega)]
        rfl
      · simp only [VRel]
        exact ⟨none, 0, rfl, Nat.le_refl _, Nat.le_refl _, fun hx => (by cases hx), fun _ => rfl, fun hx => absurd hx (Nat.lt_irrefl _)⟩
    · have hso := SrcR.ok (fun {_} => trivial) h0 (el := el) his hV hV'
      obtain ⟨cap', hc, hrun⟩ := run_append_grow (P := P) (w := w) (ty := ty) (base := none) (len := 0) (cap := 0) (K := []) ht hd hi hso (by simp [Builtin.firstCells]) hZ (by omega) (by simpa using r1) (by simpa using r2)
      simp only [Nat.zero_add, List.nil_append, Array.append_assoc] at hrun hc
      have hz2 : (#[] : Array Value) ++ (V'.toArray ++ Builtin.zeroCells Z.cells (cap' - M.length)) = V'.toArray ++ Builtin.zeroCells Z.cells (cap' - M.length) := by simp
      rw [hz2] at hrun
      obtain ⟨e1, e2, e3⟩ := h.newLongRows (by rw [hV'.size]; exact Nat.le_refl _) hV'.rows (Builtin.zeroCells Z.cells (cap' - M.length)) el el (w.drawn + 1) false
      refine ⟨_, _, _, e1, hrun, ?_, e2, e3⟩
      simp only [VRel]
      refine ⟨_, cap', rfl, Nat.le_refl _, hc, fun hx => (by cases hx), fun hn => (by cases hn), fun _ => ⟨_, _, _, Env.put_same, by simp, ?_⟩⟩
      simp only [Array.size_append, zeroCells_size, List.size_toArray]
      rw [hV'.size, ← hzc, hzl, his, ← Nat.add_mul]
      simp only [Nat.zero_mul, Nat.zero_add]
      exact Nat.mul_le_mul_right _ (by omega)
  · rename_i e' L
    split at hq
    · rename_i L' hL'
      cases hq
      rw [allB_append] at hp
      obtain ⟨hp1, hp2, hp3⟩ := hp
      have hm0 : 0 < M.length ∨ L'.length = 0 := of_decide_eq_true hp2
      obtain ⟨V, V', hV, hV'⟩ := src hp1
      obtain ⟨r1, r2⟩ := roomy_spec hp3
      obtain ⟨q, rfl⟩ := asL_some hL'
      subst q
      have hm0 : 0 < M.length ∨ L.length = 0 := hm0
      simp only [VRel] at ha
      obtain ⟨ad, c, rfl, _, hcl, hn, hrow⟩ := ha
      have hcl := hcl trivial
      subst hcl
      rcases Nat.eq_zero_or_pos M.length with hn0 | hn0
      · have hL0 : L.length = 0 := by omega
        have hLe : L = [] := List.length_eq_zero_iff.1 hL0
        subst hLe
        have hMe : M = [] := List.length_eq_zero_iff.1 hn0
        subst hMe
        have hso := SrcR.ok (fun {_} => trivial) h0 (el := el) his hV hV
        have hV0 : V = [] := List.length_eq_zero_iff.1 (by rw [hV.size]; simp)
        have hrun := run_append_in (P := P) (w := w) (ty := ty) (base := ad) (len := 0) (cap := 0) ht hd hi hso (Nat.le_refl _)
        refine ⟨ρ, .slice ad 0 0, w, ρ.le_refl, ?_, ?_, h.ghost _, Fr.refl _ _⟩
        · show (Builtin.append_ ts ty #[.slice ad 0 0, X]).run P w = _
          rw [hrun, hV0]
          cases ad <;> simp [storeCells]
        · simp only [VRel]
          exact ⟨ad, 0, rfl, Nat.le_refl _, Nat.le_refl _, fun hx => (by cases hx), fun _ => rfl, fun hx => absurd hx (Nat.lt_irrefl _)⟩
      have hso := SrcR.ok (fun {_} => trivial) h0 (el := el) his hV hV'
      obtain ⟨K, hK⟩ := src_slice (P := P) (ρ := ρ) (w := { w with drawn := w.drawn + 1 }) (M := L) (a := ad) (c := L.length) hn fun hp => let ⟨B, o, g1, g2⟩ := hrow hp; ⟨B, o, g1, h'.rowsφ g2⟩
      have hKl := hK.load L.length (Nat.le_refl _)
      rw [← hK.size, List.take_length, ← his] at hKl
      obtain ⟨cap', hc, hrun⟩ := run_append_grow (P := P) (w := w) (ty := ty) ht hd hi hso hKl hZ (by omega) r1 r2
      have e4 : (K ++ V').toArray = K.toArray ++ V'.toArray := by simp
      rw [← e4] at hrun
      have hsz2 : (L ++ M).length * e'.length ≤ (K ++ V').length := by rw [List.length_append, List.length_append, hK.size, hV'.size, Nat.add_mul]; exact Nat.le_refl _
      have hrows : RowsAt ρ.φ e' (L ++ M) (fun k => (K ++ V')[k]?) := by
        refine rows_app hK.rows ?_ fun j hj => ?_
        · refine hV'.rows.mono (fun _ _ _ hv => hv) fun j v hj => ?_
          rw [List.getElem?_append_right (by rw [hK.size]; omega), hK.size, Nat.add_sub_cancel_left]
          exact hj
        · rw [List.getElem?_append_left (by rw [hK.size]; exact hj)]
      obtain ⟨e1, e2, e3⟩ := h.newLongRows hsz2 hrows (Builtin.zeroCells Z.cells (cap' - (L.length + M.length))) el el (w.drawn + 1) false
      refine ⟨_, _, _, e1, hrun, ?_, e2, e3⟩
      simp only [VRel]
      refine ⟨_, cap', rfl, Nat.le_refl _, hc, fun hx => (by cases hx), fun hn => (by cases hn), fun _ => ⟨_, _, _, Env.put_same, by simp, ?_⟩⟩
      simp only [Array.size_append, zeroCells_size, List.size_toArray, List.length_append]
      rw [hK.size, hV'.size, ← hzc, hzl, his, ← Nat.add_mul, ← Nat.add_mul]
      simp only [Nat.zero_mul, Nat.zero_add]
      exact Nat.mul_le_mul_right _ (by omega)
    · cases hq
  · rename_i b lo len cap x' es
    split at hq
    · rename_i e' L t' ish hg
      split at hq
      · rename_i L' hL'
        cases hes : Nat.beq es e.length with
        | false => rw [hes] at hq; cases hq
        | true =>
        rw [hes, cond_true] at hq
        have hes := Nat.eq_of_beq_eq_true hes
        subst hes
        cases hq
        rw [allB_append] at hp
        obtain ⟨hp1, hp2, hp3⟩ := hp
        have hle : lo + len ≤ L'.length := by simpa using hp2
        obtain ⟨V, V', hV, hV'⟩ := src hp1
        obtain ⟨r1, r2⟩ := roomy_spec hp3
        obtain ⟨q, rfl⟩ := asL_some hL'
        subst q
        have hle : lo + len ≤ L.length := hle
        have hsl := seg_length hle
        simp only [VRel] at ha
        obtain ⟨ad, c, rfl, c1, c2, _, hn, hblk⟩ := ha
        have hsegl : (seg L lo len ++ M).length = len + M.length := by rw [List.length_append, hsl]
        rcases Nat.lt_or_ge c (len + M.length) with hgt | hin
        · -- a new block
          have hrowsAt : rowsAt s b = some ⟨e', L⟩ := by simp [rowsAt, hg]
          have hso := SrcR.ok (fun {_} => trivial) h0 (el := el) his hV hV'
          obtain ⟨K, hK⟩ := src_slice (P := P) (ρ := ρ) (w := { w with drawn := w.drawn + 1 }) (M := seg L lo len) (a := ad) (c := c) (fun hh => by have := hn hh; omega) fun hp => by
            obtain ⟨B, O, S, g1, g2, g3⟩ := hblk (by omega)
            have hr := rows_seg hle (h'.rowsAt hrowsAt g1).1
            exact ⟨B, _, g2, by simpa [Nat.add_assoc] using hr⟩
          rw [hsl] at hK
          have hKl := hK.load len (by rw [hsl]; exact Nat.le_refl _)
          have hKs := hK.size
          rw [hsl] at hKs
          rw [← hKs, List.take_length, ← his] at hKl
          obtain ⟨cap', hc, hrun⟩ := run_append_grow (P := P) (w := w) (ty := ty) ht hd hi hso hKl hZ hgt r1 r2
          have e4 : (K ++ V').toArray = K.toArray ++ V'.toArray := by simp
          rw [← e4] at hrun
          have hsz2 : (seg L lo len ++ M).length * e'.length ≤ (K ++ V').length := by rw [hsegl, List.length_append, hKs, hV'.size, Nat.add_mul]; exact Nat.le_refl _
          have hrows : RowsAt ρ.φ e' (seg L lo len ++ M) (fun k => (K ++ V')[k]?) := by
            refine rows_app hK.rows ?_ fun j hj => ?_
            · rw [hsl]
              refine hV'.rows.mono (fun _ _ _ hv => hv) fun j v hj => ?_
              rw [List.getElem?_append_right (by rw [hKs]; omega), hKs, Nat.add_sub_cancel_left]
              exact hj
            · rw [hsl] at hj
              rw [List.getElem?_append_left (by rw [hKs]; exact hj)]
          obtain ⟨e1, e2, e3⟩ := (h.strike b).newLongRows hsz2 hrows (Builtin.zeroCells Z.cells (cap' - (len + M.length))) el el (w.drawn + 1) ish
          refine ⟨_, _, _, e1, hrun, ?_, e2, e3⟩
          simp only [VRel]
          refine ⟨_, cap', rfl, Nat.le_refl _, hc, fun hx => (by cases hx), fun hn => (by cases hn), fun _ => ⟨_, _, _, Env.put_same, by simp, ?_⟩⟩
          simp only [Array.size_append, zeroCells_size, List.size_toArray, List.length_append]
          rw [hKs, hV'.size, ← hzc, hzl, his, ← Nat.add_mul, ← Nat.add_mul]
          simp only [Nat.zero_mul, Nat.zero_add]
          exact Nat.mul_le_mul_right _ (by omega)
        · -- in place
          have hso := SrcR.ok (fun {_} => trivial) h0 (el := el) his hV hV
          have hrun := run_append_in (P := P) (w := w) (ty := ty) (base := ad) (len := len) (cap := c) ht hd hi hso hin
          rcases Nat.eq_zero_or_pos c with hc0 | hc0
          · subst hc0
            have hl0 : len = 0 := by omega
            have hm0 : M.length = 0 := by omega
            have hV0 : V = [] := List.length_eq_zero_iff.1 (by rw [hV.size, hm0]; simp)
            refine ⟨ρ, .slice ad (len + M.length) 0, w, ρ.le_refl, ?_, ?_, (h.strike b).ghost _, Fr.refl _ _⟩
            · rw [hrun, hV0]
              cases ad <;> simp [storeCells]
            · simp only [VRel]
              exact ⟨ad, 0, rfl, Nat.le_refl _, hin, fun hx => (by cases hx), fun _ => rfl, fun hx => absurd hx (Nat.lt_irrefl _)⟩
          · obtain ⟨B, O, S, g1, rfl, g3⟩ := hblk hc0
            obtain ⟨C, tt, fr, e1, e2, e3, e4, e5, e6, e7⟩ := h.rowsObj hg g1
            simp only at e1 e2 e3 e4 e5 e7
            have hfit : O + lo * e'.length + (len + M.length) * e'.length ≤ S := Nat.le_trans (Nat.add_le_add_left (Nat.mul_le_mul_right _ hin) _) g3
            have hVl := hV.size
            have hmul : (len + M.length) * e'.length = len * e'.length + M.length * e'.length := Nat.add_mul _ _ _
            have hst := run_storeAll (P := P) V (O + lo * e'.length + len * e'.length) 0 C w e1 (by rw [e2]; exact e5) (by omega) hV.ones
            refine ⟨ρ.put s.next ⟨B, O + lo * e'.length, S⟩, .slice (some ⟨B, O + lo * e'.length, none⟩) (len + M.length) c, _, Env.le_put _ h.fresh, ?_, ?_, h.move hg g1 _ (.cells (setA C (O + lo * e'.length + len * e'.length) V) tt fr) (O + lo * e'.length) rfl ?_, fr_set e7.1 rfl⟩
            · rw [hrun]
              simp only [addr_add, his]
              rw [hst]
              rfl
            · simp only [VRel]
              exact ⟨_, c, rfl, Nat.le_refl _, hin, fun hx => (by cases hx), fun hn => (by cases hn), fun _ => ⟨_, _, _, Env.put_same, by simp, by simp only [Nat.zero_mul, Nat.add_zero]; exact g3⟩⟩
            · refine ⟨_, tt, fr, rfl, by rw [setA_size]; exact e2, ?_, ?_, e5, e6⟩
              · show O + lo * e'.length + (seg L lo len ++ M).length * e'.length ≤ S
                rw [hsegl]; omega
              · show RowsAt ρ.φ e' (seg L lo len ++ M) (fun k => (setA C (O + lo * e'.length + len * e'.length) V)[O + lo * e'.length + k]?)
                have hs := rows_seg hle e4
                refine rows_app hs ?_ fun j hj => ?_
                · rw [hsl]
                  refine hV.rows.mono (fun _ _ _ hv => hv) fun j v hj => ?_
                  have hjl := (List.getElem?_eq_some_iff.1 hj).1
                  rw [setA_get _ _ _ _ (by omega), if_pos (by omega), ← hj]
                  congr 1; omega
                · rw [hsl] at hj
                  rw [setA_get _ _ _ _ (by omega), if_neg (by omega)]
                  congr 1; omega
      · cases hq
    · cases hq
  · cases hq

theorem lenE_rel {v : V} {n : Nat} (h : lenE v = some n) {A : Value} (ha : VRel ρ v A) : (Builtin.lenOf A).run P w = .ok n w := by
  unfold lenE at h
  split at h <;> cases h <;> simp only [VRel] at ha
  · subst ha; rfl
  · obtain ⟨_, _, _, _, _, rfl, _⟩ := ha; rfl

theorem sliceCells_rel (h : SRel own ρ s w) {v : V} {n sz : Nat} (hes : esOk v sz = true) {l : List V} (hq : sliceCells s v n = some l) {A : Value} (ha : VRel ρ v A) :
    ∃ L : List Value, (Builtin.firstCells sz n A).run P w = .ok L.toArray w ∧ LRel ρ l L := by
  unfold sliceCells at hq
  simp only [llen_eq, ltake_eq, ldrop_eq] at hq
  split at hq
  · cases hb : Nat.beq n 0 with
    | false => simp [hb] at hq
    | true =>
      simp only [hb, cond_true, Option.some.injEq] at hq
      subst hq
      simp only [VRel] at ha; subst ha
      exact ⟨[], rfl, LRel.nil⟩
  · rename_i b o len cap x es
    simp only [esOk, Nat.beq_eq] at hes
    subst hes
    split at hq
    · rename_i cs hcs
      cases hb : Nat.ble (o + n * es) cs.length with
      | false => simp [hb] at hq
      | true =>
        simp only [hb, cond_true, Option.some.injEq] at hq
        subst hq
        simp only [VRel] at ha
        obtain ⟨B, O, S, cap', hB, rfl, _⟩ := ha
        obtain ⟨L, h1, h2⟩ := load_of_cells (P := P) (h.cellsAt hcs hB).1 o (n * es) (by simpa [Nat.ble_eq] using hb)
        exact ⟨L, by simpa [Builtin.firstCells] using h1, h2⟩
    · cases hq
  · cases hq

theorem srcCells_rel (h : SRel own ρ s w) {v : V} {n sz : Nat} {l : List V} (hn : lenE v = some n) (hq : srcCells s v sz = some l) {A : Value} (ha : VRel ρ v A) :
    ∃ L : List Value, (Builtin.firstCells sz n A).run P w = .ok L.toArray w ∧ LRel ρ l L := by
  unfold srcCells at hq
  cases hb : esOk v sz with
  | false => simp [hb] at hq
  | true =>
    simp only [hb, cond_true, hn] at hq
    exact sliceCells_rel h hb hq ha
theorem srcCells_length {x : V} {n sz : Nat} {l : List V} (hn : lenE x = some n) (hq : srcCells s x sz = some l) : l.length = n * sz := by
  cases x <;> simp only [lenE, reduceCtorEq, Option.some.injEq] at hn
  case nils =>
    subst hn
    simp [srcCells, esOk, lenE, sliceCells] at hq
    subst hq; simp
  case sl b o len cap x es =>
    subst hn
    simp only [srcCells, esOk, lenE] at hq
    cases hb : Nat.beq es sz with
    | false => simp [hb] at hq
    | true =>
      have : es = sz := by simpa using hb
      subst this
      simp only [hb, cond_true, sliceCells, llen_eq, ltake_eq, ldrop_eq] at hq
      split at hq
      · rename_i cs _
        cases hbb : Nat.ble (o + len * es) cs.length with
        | false => simp [hbb] at hq
        | true =>
          simp only [hbb, cond_true, Option.some.injEq] at hq
          subst hq
          rw [Nat.ble_eq] at hbb
          simp; omega
      · cases hq
theorem srcE_length {i : TypeInfo} {x : V} {n : Nat} {l : List V} (hq : srcE s i x = some (n, l)) : l.length = n * i.size := by
  unfold srcE at hq
  split at hq
  · rename_i hn
    split at hq
    · rename_i hnew
      cases hq
      exact srcCells_length hn hnew
    · cases hq
  · cases hq
theorem srcE_rel {w' : World} (h : SRel own ρ s w) (h' : SRel own ρ s w') {ts : Array TypeId} (h0 : zerosE P ts = false) {e : TypeId} {i : TypeInfo} {x : V} {n : Nat} {l : List V} (hq : srcE s i x = some (n, l)) {X : Value} (hx : VRel ρ x X) :
    ∃ L : List Value, SrcOK P ts e i X n w w' L ∧ LRel ρ l L := by
  unfold srcE at hq
  split at hq
  · rename_i m hn
    split at hq
    · rename_i new hnew
      cases hq
      obtain ⟨L, hL, hLr⟩ := srcCells_rel (P := P) h' hn hnew hx
      exact ⟨L, .inl ⟨h0, lenE_rel (P := P) (w := w) hn hx, hL⟩, hLr⟩
    · cases hq
  · cases hq

theorem eAppendC_rel (h : SRel own ρ s w) {ts : Array TypeId} {ty t e : TypeId} {i : TypeInfo} {zv : V} (ht : ts[0]? = some t) (hd : P.underlying t = some (.slice e)) (hi : P.info? e = some i) (hzz : zeroE P e = some zv) (h0 : zerosE P ts = false)
    {z : List V} (hz : cellsO zv = some z) (hb0 : z.length = i.size ∧ 1 ≤ i.size) {a x v : V} {s' : St} {ps : List Bool} (hq : eAppendC s e i a x = some (ps, v, s')) {A X : Value} (ha : VRel ρ a A) (hx : VRel ρ x X) :
    OKv P own ρ (Builtin.append_ ts ty #[A, X]) w v s' := by
  unfold eAppendC at hq
  simp only [llen_eq, lall_eq, ltake_eq, ldrop_eq, lapp_eq, lget_eq] at hq
  split at hq
  · cases hq
  rename_i n new hnew
  have h' : SRel own ρ s { w with drawn := w.drawn + 1 } := h.same rfl
  obtain ⟨L, hL, hLr⟩ := srcE_rel (P := P) h h h0 (e := e) hnew hx
  obtain ⟨L', hL', hLr'⟩ := srcE_rel (P := P) h h' h0 (e := e) hnew hx
  obtain ⟨Z, hZ, hzr, _⟩ := zeroE_rel (ρ := ρ) (w := { w with drawn := w.drawn + 1 }) hzz
  have hzc := (cellsO_rel hz hzr).length
  simp only [Array.length_toList] at hzc
  have hnc : new.length = n * i.size := srcE_length hnew
  split at hq
  · -- nil
    simp only [VRel] at ha; subst ha
    cases hn0 : Nat.beq n 0 with
    | true =>
      rw [hn0, cond_true] at hq
      cases hq
      have e : n = 0 := by simpa using hn0
      subst e
      refine ⟨ρ, .slice none 0 0, w, ρ.le_refl, ?_, by simp only [VRel], h, Fr.refl _ _⟩
      rw [run_append_in ht hd hi hL (by omega)]
      rfl
    | false =>
      simp only [hn0, cond_false] at hq
      cases hb : (Nat.ble ((2 * n + 768) * i.bytes) 281474976710656 && Nat.ble n 1099511627776) with
      | false => simp [hb] at hq
      | true =>
      simp only [hb, cond_true] at hq
      cases hq
      simp only [Bool.and_eq_true, Nat.ble_eq] at hb
      have hn1 : 0 < n := by
        rcases Nat.eq_zero_or_pos n with e | e
        · subst e; simp at hn0
        · exact e
      obtain ⟨cap', hc, hrun⟩ := run_append_grow (P := P) (w := w) (ty := ty) (base := none) (len := 0) (cap := 0) (K := []) ht hd hi hL' (by simp [Builtin.firstCells]) hZ (by omega) (by simpa using hb.1) (by simpa using hb.2)
      simp only [Nat.zero_add, List.nil_append, Array.append_assoc] at hrun hc
      have hz2 : (#[] : Array Value) ++ (L'.toArray ++ Builtin.zeroCells Z.cells (cap' - n)) = L'.toArray ++ Builtin.zeroCells Z.cells (cap' - n) := by simp
      rw [hz2] at hrun
      obtain ⟨e1, e2, e3⟩ := h.newLong hLr' (Builtin.zeroCells Z.cells (cap' - n)) e e (w.drawn + 1) false
      refine ⟨_, _, _, e1, hrun, ?_, e2, e3⟩
      simp only [VRel]
      refine ⟨_, _, _, cap', Env.put_same, rfl, Nat.le_refl _, hc, by simp, ?_⟩
      have hl := hLr'.length
      simp only [Array.size_append, zeroCells_size, List.size_toArray]
      rw [← hl, hnc, ← hzc, hb0.1, ← Nat.add_mul]
      simp only [Nat.zero_add]
      exact Nat.mul_le_mul_right _ (by omega)
  · rename_i b o len cap x' es
    obtain ⟨hes, hq⟩ := bool_not_cond hq (by simp)
    have hes : es = i.size := by simpa using hes
    subst hes
    have ha0 := ha
    simp only [VRel] at ha
    obtain ⟨B, O, S, cap', hB, rfl, c1, c2, c3, c4⟩ := ha
    cases hcap : Nat.ble (len + n) cap with
    | true =>
      simp only [hcap, cond_true] at hq
      rw [Nat.ble_eq] at hcap
      split at hq
      · rename_i cs t' ish hg
        cases hb : (Nat.ble (o + (len + n) * i.size) cs.length && new.all oneV) with
        | false => simp [hb] at hq
        | true =>
        simp only [hb, cond_true] at hq
        cases hq
        simp only [Bool.and_eq_true, Nat.ble_eq] at hb
        have hmul : (len + n) * i.size = len * i.size + n * i.size := Nat.add_mul _ _ _
        obtain ⟨w', g1, g2, g3⟩ := h.write (P := P) hg hB hLr (o := o + len * i.size) (by omega) hb.2
        refine ⟨ρ, .slice (some ⟨B, O + o, none⟩) (len + n) cap', w', ρ.le_refl, ?_, ?_, g2, g3⟩
        · rw [run_append_in ht hd hi hL (by omega)]
          simp only [addr_add]
          simp only at g1
          rw [Nat.add_assoc, g1]
          rfl
        · simp only [VRel]
          exact ⟨B, O, S, cap', hB, rfl, hcap, c2, c3, c4⟩
      · cases hq
    | false =>
      simp only [hcap, cond_false] at hq
      have hcap' : cap < len + n := by
        refine Nat.lt_of_not_le fun hh => ?_
        rw [← Nat.ble_eq, hcap] at hh; cases hh
      obtain ⟨hb1, hq⟩ := bool_not_cond hq (by simp)
      simp only [Bool.and_eq_true, Nat.ble_eq] at hb1
      split at hq
      · rename_i cs t' ish hg
        obtain ⟨hb2, hq⟩ := bool_not_cond hq (by simp)
        simp only [Bool.and_eq_true, Nat.ble_eq] at hb2
        have hcsAt : cellsAt s b = some cs := by simp [cellsAt, hg]
        have hold : sliceCells s (.sl b o len cap x' i.size) len = some ((cs.drop o).take (len * i.size)) := by
          simp only [sliceCells, hcsAt, llen_eq, ltake_eq, ldrop_eq]
          have : Nat.ble (o + len * i.size) cs.length = true := by rw [Nat.ble_eq]; exact hb2.1
          rw [this]; rfl
        obtain ⟨K, hK, hKr⟩ := sliceCells_rel (P := P) h' (sz := i.size) (by simp [esOk]) hold ha0
        have hKlen : ((cs.drop o).take (len * i.size)).length = len * i.size := by simp; omega
        -- a new block
        have grow : cap' < len + n → ∃ ρ' Y w', ρ.le ρ' ∧ (Builtin.append_ ts ty #[.slice (some ⟨B, O + o, none⟩) len cap', X]).run P w = .ok Y w' ∧
            VRel ρ' (.sl s.next 0 (len + n) (len + n) false i.size) Y ∧ SRel own ρ' (s.new (.cells ((cs.drop o).take (len * i.size) ++ new) e false)) w' ∧ Fr own w w' := by
          intro hgt
          obtain ⟨cap2, hc, hrun⟩ := run_append_grow (P := P) (w := w) (ty := ty) ht hd hi hL' hK hZ hgt hb1.1 hb1.2
          have hKL : LRel ρ ((cs.drop o).take (len * i.size) ++ new) (K ++ L') := hKr.append hLr'
          obtain ⟨e1, e2, e3⟩ := h.newLong hKL (Builtin.zeroCells Z.cells (cap2 - (len + n))) e e (w.drawn + 1) false
          have e4 : (K ++ L').toArray = K.toArray ++ L'.toArray := by simp
          rw [← e4] at hrun
          refine ⟨_, _, _, e1, hrun, ?_, e2, e3⟩
          simp only [VRel]
          refine ⟨_, _, _, cap2, Env.put_same, rfl, Nat.le_refl _, hc, by simp, ?_⟩
          have hl := hKL.length
          simp only [Array.size_append, zeroCells_size, List.size_toArray]
          rw [← hl, List.length_append, hKlen, hnc, ← hzc, hb0.1, ← Nat.add_mul, ← Nat.add_mul]
          simp only [Nat.zero_add]
          exact Nat.mul_le_mul_right _ (by omega)
        cases hx' : x' with
        | true =>
          simp only [hx', cond_true] at hq
          cases hq
          exact grow (by rw [c3 hx']; exact hcap')
        | false =>
          simp only [hx', cond_false] at hq
          cases hq
          rcases Nat.lt_or_ge cap' (len + n) with hgt | hle
          · obtain ⟨ρ', Y, w', g1, g2, g3, g4, g5⟩ := grow hgt
            refine ⟨ρ', Y, w', g1, g2, g3, ?_, g5⟩
            -- what is struck is asked for no more
            refine ⟨g4.le, ?_, ?_, g4.dom, g4.top, g4.fz, g4.old⟩
            · intro k u z hk hz
              simp only [St.move, T.get_set] at hk
              have hk2 : (k = s.next ∧ u = .cells ((cs.drop o).take (len * i.size) ++ new) e ish) ∨ (k ≠ s.next ∧ s.heap.get k = some u) := by
                split at hk
                · rename_i ee; cases hk; exact .inl ⟨ee, rfl⟩
                · rename_i ee
                  split at hk
                  · cases hk
                  · exact .inr ⟨ee, hk⟩
              rcases hk2 with ⟨rfl, rfl⟩ | ⟨ee, hk⟩
              · obtain ⟨y2, C, tt, fr, y3, y4, y5, y6, y7, y8⟩ := g4.obj s.next (.cells ((cs.drop o).take (len * i.size) ++ new) e false) z (by simp [St.new, T.get_set]) hz
                exact ⟨y2, C, tt, fr, y3, y4, y5, y6, y7, fun _ => y8 rfl⟩
              · exact g4.obj k u z (by simp only [St.new, T.get_set, ee, if_false]; exact hk) hz
            · intro k k' u u' y y' hk hk' hy hy' hne
              have sub : ∀ k u, (s.move b (.cells ((cs.drop o).take (len * i.size) ++ new) e ish)).heap.get k = some u → ∃ u', (s.new (.cells ((cs.drop o).take (len * i.size) ++ new) e false)).heap.get k = some u' := by
                intro k u hk
                simp only [St.move, St.new, T.get_set] at hk ⊢
                split at hk
                · rename_i ee; exact ⟨_, by simp [ee]; rfl⟩
                · rename_i ee
                  split at hk
                  · cases hk
                  · exact ⟨u, by simp [ee, hk]⟩
              obtain ⟨u1, k1⟩ := sub k u hk
              obtain ⟨u2, k2⟩ := sub k' u' hk'
              exact g4.inj k k' u1 u2 y y' k1 k2 hy hy' hne
          · -- in place
            obtain ⟨C, tt, fr, e1, e2, e3, e4, e5, e6, e7⟩ := h.cellsObj hg hB
            simp only at e1 e2 e3 e4 e5 e7
            have hl := hLr.length
            have hmul : (len + n) * i.size = len * i.size + n * i.size := Nat.add_mul _ _ _
            have hfit : O + o + (len + n) * i.size ≤ S := Nat.le_trans (Nat.add_le_add_left (Nat.mul_le_mul_right _ hle) _) c4
            have hst := run_storeAll (P := P) L (O + (o + len * i.size)) 0 C w e1 (by rw [e2]; exact e5) (by omega) (allOne_rel hLr hb2.2)
            refine ⟨ρ.put s.next ⟨B, O + o, S⟩, .slice (some ⟨B, O + o, none⟩) (len + n) cap', _, Env.le_put _ h.fresh, ?_, ?_, h.move hg hB _ (.cells (setA C (O + (o + len * i.size)) L) tt fr) (O + o) rfl ?_, fr_set e7.1 rfl⟩
            · rw [run_append_in ht hd hi hL hle]
              simp only [addr_add]
              rw [Nat.add_assoc, hst]
              rfl
            · simp only [VRel]
              exact ⟨B, O + o, S, cap', Env.put_same, rfl, Nat.le_refl _, hle, by simp, by omega⟩
            · refine ⟨_, tt, fr, rfl, by rw [setA_size]; exact e2, ?_, ?_, e5, e6⟩
              · rw [List.length_append, hKlen, hnc]; show O + o + _ ≤ S; omega
              · have hle' := Env.le_put ⟨B, O + o, S⟩ h.fresh
                have hcp : CP ρ O (setAll (cs ++ List.replicate (o + (len + n) * i.size) .undef) (o + len * i.size) new) (setA C (O + (o + len * i.size)) L) ∨ True := .inr trivial
                intro j u hj
                simp only
                have sa : ∀ (l : List Value) (C : Array Value) (p k : Nat), p + l.length ≤ C.size → (setA C p l)[k]? = if p ≤ k ∧ k < p + l.length then l[k - p]? else C[k]? := by
                  intro l
                  induction l with
                  | nil => intro C p k _; simp [setA]; omega
                  | cons c l ih =>
                    intro C p k hp
                    simp only [List.length_cons] at hp ⊢
                    simp only [setA]
                    rw [ih _ _ _ (by simp; omega)]
                    by_cases hk : k = p
                    · subst hk
                      rw [if_neg (by omega), if_pos (by omega), Array.getElem?_setIfInBounds_self_of_lt (by omega)]
                      simp
                    · by_cases hk2 : p + 1 ≤ k ∧ k < p + 1 + l.length
                      · rw [if_pos hk2, if_pos (by omega)]
                        obtain ⟨d, rfl⟩ : ∃ d, k = p + 1 + d := ⟨k - (p + 1), by omega⟩
                        rw [show p + 1 + d - (p + 1) = d from by omega, show p + 1 + d - p = d + 1 from by omega]
                        simp
                      · rw [if_neg hk2, if_neg (by omega), Array.getElem?_setIfInBounds_ne (by omega)]
                have hlen2 : L.length = n * i.size := by rw [← hl, hnc]
                rw [sa _ _ _ _ (by omega)]
                rcases Nat.lt_or_ge j (len * i.size) with hj1 | hj1
                · rw [if_neg (by omega)]
                  rw [List.getElem?_append_left (by omega), List.getElem?_take_of_lt hj1, List.getElem?_drop] at hj
                  obtain ⟨W, q1, q2⟩ := e4 _ _ hj
                  exact ⟨W, by rw [Nat.add_assoc]; exact q1, VRel.mono hle' _ _ q2⟩
                · rw [List.getElem?_append_right (by omega), hKlen] at hj
                  have hj2 := (List.getElem?_eq_some_iff.1 hj).1
                  rw [if_pos (by omega)]
                  obtain ⟨W, q1, q2⟩ := hLr.get hj
                  refine ⟨W, ?_, VRel.mono hle' _ _ q2⟩
                  rw [← q1]; congr 1; omega
      · cases hq
  · cases hq

theorem SRel.writeMid (h : SRel own ρ s w) {b : Nat} {e : List Ty} {L M : List (rowDen e)} {t : TypeId} {ish : Bool} (hg : s.heap.get b = some (.rows e L t ish)) {x : Blk} (hx : ρ b = some x) {lo : Nat} (hlo : lo + M.length ≤ L.length)
    {V : List Value} (hs : V.length = M.length * e.length) (hr : RowsAt ρ.φ e M (fun k => V[k]?)) (h1 : Ones V) :
    ∃ w', (storeCells ⟨x.B, x.O + lo * e.length, none⟩ V).run P w = .ok () w' ∧ SRel own ρ (s.upd b (.rows e (L.take lo ++ (M ++ L.drop (lo + M.length))) t ish)) w' ∧ Fr own w w' := by
  have hlm : (lo + M.length) * e.length ≤ L.length * e.length := Nat.mul_le_mul_right _ hlo
  have hmul : (lo + M.length) * e.length = lo * e.length + M.length * e.length := Nat.add_mul _ _ _
  have hlen' : (L.take lo ++ (M ++ L.drop (lo + M.length))).length = L.length := by simp; omega
  refine h.writeRows (P := P) hg hx (o := lo * e.length) (V := V) (by rw [hs]; omega) h1 (M := L.take lo ++ (M ++ L.drop (lo + M.length))) (by rw [hlen']; exact Nat.le_refl _) (fun C C' hC hC' => ?_)
  have t1 : RowsAt ρ.φ e (L.take lo) (fun k => C[x.O + k]?) := by
    have := rows_drop 0 lo (by omega) hC
    simpa using this
  have t3 : RowsAt ρ.φ e (L.drop (lo + M.length)) (fun k => C[x.O + ((lo + M.length) * e.length + k)]?) := by
    have := rows_drop (lo + M.length) L.length (Nat.le_refl _) hC
    rw [List.take_length] at this
    exact this
  have l1 : (L.take lo).length = lo := by simp; omega
  refine rows_app t1 (rows_app (C := fun k => V[k]?) hr ?_ fun j hj => ?_) fun j hj => ?_
  · rw [l1]
    refine t3.mono (fun _ _ _ hv => hv) fun j v hj => ?_
    have := hC' (lo * e.length + (M.length * e.length + j))
    show C'[x.O + (lo * e.length + (M.length * e.length + j))]? = _
    rw [this, hs, if_neg (by omega), ← hj, hmul, Nat.add_assoc]
  · rw [l1]
    have := hC' (lo * e.length + j)
    show C'[x.O + (lo * e.length + j)]? = _
    rw [this, hs, if_pos (by omega), Nat.add_sub_cancel_left]
  · rw [l1] at hj
    have := hC' j
    show C'[x.O + j]? = _
    rw [this, if_neg (by omega)]
theorem SRel.upd_same (h : SRel own ρ s w) {b : Nat} {o : EObj} (hg : s.heap.get b = some o) : SRel own ρ (s.upd b o) w := by
  have key : ∀ k, (s.upd b o).heap.get k = s.heap.get k := by
    intro k
    simp only [St.upd, T.get_set]
    split
    · rename_i ek; subst ek; exact hg.symm
    · rfl
  exact ⟨h.le, fun k o x hk hx => h.obj k o x (by rw [← key]; exact hk) hx, fun k k' o1 o2 x x' hk hk' hx hx' => h.inj k k' o1 o2 x x' (by rw [← key]; exact hk) (by rw [← key]; exact hk') hx hx', h.dom, h.top, h.fz, h.old⟩

theorem eOver_rel (h : SRel own ρ s w) {ts : Array TypeId} {ty t el : TypeId} {i : TypeInfo} (ht : ts[0]? = some t) (hd : P.underlying t = some (.slice el)) (hi : P.info? el = some i) (h0 : zerosE P ts = false) {e : List Ty} (he : rowTy P el = some e)
    {a x v : V} {s' : St} {ps : List Bool} (hq : eOver s e a x = some (ps, v, s')) (hp : allB ps) {A X : Value} (ha : VRel ρ a A) (hx : VRel ρ x X) :
    OKv P own ρ (Builtin.append_ ts ty #[A, X]) w v s' := by
  obtain ⟨hsz, hs1⟩ := rowTy_spec he
  have his : i.size = e.length := by
    rw [info_szE hi] at hsz; exact Option.some.inj hsz
  unfold eOver at hq
  split at hq
  · rename_i b lo len cap es b2 lo2 len2 c2 x2 es2
    cases hb : (Nat.beq b b2 && (Nat.beq es e.length && Nat.beq es2 e.length)) with
    | false => rw [hb] at hq; cases hq
    | true =>
    rw [hb, cond_true] at hq
    simp only [Bool.and_eq_true, Nat.beq_eq] at hb
    obtain ⟨rfl, rfl, hes2⟩ := hb
    subst hes2
    split at hq
    · rename_i e' L t' ish hg
      split at hq
      · rename_i L' hL'
        cases hq
        obtain ⟨q, rfl⟩ := asL_some hL'
        subst q
        obtain ⟨hp1, hp2, hp3, _⟩ := hp
        have hle2 : lo2 + len2 ≤ L.length := of_decide_eq_true hp1
        have hcap : len + len2 ≤ cap := of_decide_eq_true hp2
        have hle : lo + len + len2 ≤ L.length := of_decide_eq_true hp3
        have hsl : (seg L lo2 len2).length = len2 := seg_length hle2
        have hrowsAt : rowsAt s b = some ⟨e', L⟩ := by simp [rowsAt, hg]
        obtain ⟨V, hV⟩ := srcRows_rel (P := P) h (e := e') (cs := [decide (lo2 + len2 ≤ L.length)]) (M := seg L lo2 len2) (x := .rs b lo2 len2 c2 x2 e'.length) (by
          simp only [srcRows, hrowsAt, hL', Nat.beq_refl, cond_true]
          rfl) ⟨decide_eq_true hle2, trivial⟩ hx
        have hso := SrcR.ok (fun {_} => trivial) h0 (el := el) his hV hV
        rw [hsl] at hso
        simp only [VRel] at ha
        obtain ⟨ad, c, rfl, g1, g2, g3, hn, hblk⟩ := ha
        have hin : len + len2 ≤ c := by omega
        have hrun := run_append_in (P := P) (w := w) (ty := ty) (base := ad) (len := len) (cap := c) ht hd hi hso hin
        rcases Nat.eq_zero_or_pos c with hc0 | hc0
        · subst hc0
          have hl0 : len = 0 := by omega
          have hm0 : len2 = 0 := by omega
          subst hl0; subst hm0
          have hV0 : V = [] := List.length_eq_zero_iff.1 (by rw [hV.size, hsl]; simp)
          have e1 : L.take (lo + 0) ++ (seg L lo2 0 ++ L.drop (lo + 0 + 0)) = L := by
            have : seg L lo2 0 = [] := List.length_eq_zero_iff.1 hsl
            rw [this]; simp
          refine ⟨ρ, .slice ad (0 + 0) 0, w, ρ.le_refl, ?_, ?_, ?_, Fr.refl _ _⟩
          · rw [hrun, hV0]
            cases ad <;> simp [storeCells]
          · simp only [VRel]
            exact ⟨ad, 0, rfl, hcap, g2, g3, fun _ => rfl, fun hx => absurd hx (Nat.lt_irrefl _)⟩
          · show SRel own ρ (s.upd b (.rows e' (L.take (lo + 0) ++ (seg L lo2 0 ++ L.drop (lo + 0 + 0))) t' ish)) w
            rw [e1]
            exact h.upd_same hg
        · obtain ⟨B, O, S, k1, rfl, k3⟩ := hblk hc0
          obtain ⟨w', q1, q2, q3⟩ := h.writeMid (P := P) hg k1 (M := seg L lo2 len2) (lo := lo + len) (by rw [hsl]; exact hle) hV.size hV.rows hV.ones
          rw [hsl] at q2
          refine ⟨ρ, .slice (some ⟨B, O + lo * e'.length, none⟩) (len + len2) c, w', ρ.le_refl, ?_, ?_, q2, q3⟩
          · rw [hrun]
            simp only [addr_add, his]
            have e3 : O + lo * e'.length + len * e'.length = O + (lo + len) * e'.length := by rw [Nat.add_mul]; omega
            simp only [e3]
            simp only at q1
            rw [q1]
            rfl
          · simp only [VRel]
            exact ⟨_, c, rfl, hcap, g2, g3, fun hn => (by cases hn), fun _ => ⟨_, _, _, k1, rfl, k3⟩⟩
      · cases hq
    · cases hq
  · cases hq

theorem eGrow_rel (h : SRel own ρ s w) {ts : Array TypeId} {ty t el : TypeId} {i : TypeInfo} {zv : V} (ht : ts[0]? = some t) (hd : P.underlying t = some (.slice el)) (hi : P.info? el = some i) (hzz : zeroE P el = some zv) (h0 : zerosE P ts = false) {e : List Ty} (he : rowTy P el = some e)
    {z : List V} (hz : cellsO zv = some z) (hzl : z.length = i.size) {a x v : V} {s' : St} {ps : List Bool} (hq : eGrow s e el i a x = some (ps, v, s')) (hp : allB ps) {A X : Value} (ha : VRel ρ a A) (hx : VRel ρ x X) :
    OKv P own ρ (Builtin.append_ ts ty #[A, X]) w v s' := by
  obtain ⟨hsz, hs1⟩ := rowTy_spec he
  have his : i.size = e.length := by
    rw [info_szE hi] at hsz; exact Option.some.inj hsz
  have h' : SRel own ρ s { w with drawn := w.drawn + 1 } := h.same rfl
  obtain ⟨Z, hZ, hzr, _⟩ := zeroE_rel (ρ := ρ) (w := { w with drawn := w.drawn + 1 }) hzz
  have hzc := (cellsO_rel hz hzr).length
  simp only [Array.length_toList] at hzc
  unfold eGrow at hq
  split at hq
  · rename_i b lo len cap es
    split at hq
    · rename_i cs M hM
      split at hq
      · rename_i e' L t' ish hg
        split at hq
        · rename_i L' hL'
          cases hes : Nat.beq es e.length with
          | false => rw [hes] at hq; cases hq
          | true =>
          rw [hes, cond_true] at hq
          have hes := Nat.eq_of_beq_eq_true hes
          subst hes
          cases hq
          rw [allB_append] at hp
          obtain ⟨hp1, hp2, hp4, hp3⟩ := hp
          have hle : lo + len ≤ L'.length := by simpa using hp2
          have hroom : cap < len + M.length ∨ cap = 0 := of_decide_eq_true hp4
          obtain ⟨V, hV⟩ := srcRows_rel (P := P) h hM hp1 hx
          obtain ⟨V', hV'⟩ := srcRows_rel (P := P) h' hM hp1 hx
          obtain ⟨r1, r2⟩ := roomy_spec hp3
          obtain ⟨q, rfl⟩ := asL_some hL'
          subst q
          have hle : lo + len ≤ L.length := hle
          have hsl := seg_length hle
          simp only [VRel] at ha
          obtain ⟨ad, c, rfl, c1, c2, c3, hn, hblk⟩ := ha
          have c3 := c3 trivial
          subst c3
          have hsegl : (seg L lo len ++ M).length = len + M.length := by rw [List.length_append, hsl]
          rcases Nat.lt_or_ge c (len + M.length) with hgt | hin
          · have hrowsAt : rowsAt s b = some ⟨e', L⟩ := by simp [rowsAt, hg]
            have hso := SrcR.ok (fun {_} => trivial) h0 (el := el) his hV hV'
            obtain ⟨K, hK⟩ := src_slice (P := P) (ρ := ρ) (w := { w with drawn := w.drawn + 1 }) (M := seg L lo len) (a := ad) (c := c) (fun hh => by have := hn hh; omega) fun hp => by
              obtain ⟨B, O, S, g1, g2, g3⟩ := hblk (by omega)
              have hr := rows_seg hle (h'.rowsAt hrowsAt g1).1
              exact ⟨B, _, g2, by simpa [Nat.add_assoc] using hr⟩
            rw [hsl] at hK
            have hKl := hK.load len (by rw [hsl]; exact Nat.le_refl _)
            have hKs := hK.size
            rw [hsl] at hKs
            rw [← hKs, List.take_length, ← his] at hKl
            obtain ⟨cap', hc, hrun⟩ := run_append_grow (P := P) (w := w) (ty := ty) ht hd hi hso hKl hZ hgt r1 r2
            have e4 : (K ++ V').toArray = K.toArray ++ V'.toArray := by simp
            rw [← e4] at hrun
            have hsz2 : (seg L lo len ++ M).length * e'.length ≤ (K ++ V').length := by rw [hsegl, List.length_append, hKs, hV'.size, Nat.add_mul]; exact Nat.le_refl _
            have hrows : RowsAt ρ.φ e' (seg L lo len ++ M) (fun k => (K ++ V')[k]?) := by
              refine rows_app hK.rows ?_ fun j hj => ?_
              · rw [hsl]
                refine hV'.rows.mono (fun _ _ _ hv => hv) fun j v hj => ?_
                rw [List.getElem?_append_right (by rw [hKs]; omega), hKs, Nat.add_sub_cancel_left]
                exact hj
              · rw [hsl] at hj
                rw [List.getElem?_append_left (by rw [hKs]; exact hj)]
            obtain ⟨e1, e2, e3⟩ := h.newLongRows hsz2 hrows (Builtin.zeroCells Z.cells (cap' - (len + M.length))) el el (w.drawn + 1) false
            refine ⟨_, _, _, e1, hrun, ?_, e2, e3⟩
            simp only [VRel]
            refine ⟨_, cap', rfl, Nat.le_refl _, hc, fun hx => (by cases hx), fun hn => (by cases hn), fun _ => ⟨_, _, _, Env.put_same, by simp, ?_⟩⟩
            simp only [Array.size_append, zeroCells_size, List.size_toArray, List.length_append]
            rw [hKs, hV'.size, ← hzc, hzl, his, ← Nat.add_mul, ← Nat.add_mul]
            simp only [Nat.zero_mul, Nat.zero_add]
            exact Nat.mul_le_mul_right _ (by omega)
          · have hc0 : c = 0 := by omega
            subst hc0
            have hl0 : len = 0 := by omega
            have hm0 : M.length = 0 := by omega
            have hso := SrcR.ok (fun {_} => trivial) h0 (el := el) his hV hV
            have hrun := run_append_in (P := P) (w := w) (ty := ty) (base := ad) (len := len) (cap := 0) ht hd hi hso hin
            have hV0 : V = [] := List.length_eq_zero_iff.1 (by rw [hV.size, hm0]; simp)
            refine ⟨ρ, .slice ad (len + M.length) 0, w, ρ.le_refl, ?_, ?_, h.ghost _, Fr.refl _ _⟩
            · rw [hrun, hV0]
              cases ad <;> simp [storeCells]
            · simp only [VRel]
              exact ⟨ad, 0, rfl, Nat.le_refl _, hin, fun hx => (by cases hx), fun _ => rfl, fun hx => absurd hx (Nat.lt_irrefl _)⟩
        · cases hq
      · cases hq
    · cases hq
  · cases hq

theorem eAppend_rel (h : SRel own ρ s w) {ts : Array TypeId} {ty : TypeId} {a x v : V} {s' : St} {ps : List Bool} (hq : eAppend P s ts a x = some (ps, v, s')) (hp : allB ps) {A X : Value} (ha : VRel ρ a A) (hx : VRel ρ x X) :
    OKv P own ρ (Builtin.append_ ts ty #[A, X]) w v s' := by
  unfold eAppend at hq
  simp only [llen_eq] at hq
  split at hq
  · cases hq
  rename_i t ht
  split at hq
  · rename_i el hd
    split at hq
    · rename_i i zv hi hzz
      split at hq
      · rename_i z hz
        cases hb : (zerosE P ts || !(Nat.beq z.length i.size && Nat.ble 1 i.size)) with
        | true => rw [hb] at hq; cases hq
        | false =>
        rw [hb, cond_false] at hq
        simp only [Bool.or_eq_false_iff, Bool.not_eq_false', Bool.and_eq_true, Nat.beq_eq, Nat.ble_eq] at hb
        obtain ⟨h0, hb0⟩ := hb
        split at hq
        · rename_i e he
          split at hq
          · rename_i r hr
            cases hq
            exact eOver_rel h ht hd hi h0 he hr hp ha hx
          · split at hq
            · rename_i r hr
              cases hq
              exact eGrow_rel h ht hd hi hzz h0 he hz hb0.1 hr hp ha hx
            · split at hq
              · rename_i r hr
                cases hq
                exact eAppendR_rel h ht hd hi hzz h0 he hz hb0.1 hr hp ha hx
              · exact eAppendC_rel h ht hd hi hzz h0 hz hb0 hq ha hx
        · exact eAppendC_rel h ht hd hi hzz h0 hz hb0 hq ha hx
      · cases hq
    · cases hq
  · cases hq

theorem eCopy_rel (h : SRel own ρ s w) {ts : Array TypeId} {ty : TypeId} {d x v : V} {s' : St} {ps : List Bool} (hq : eCopy P s ts d x = some (ps, v, s')) (hp : allB ps) {D X : Value} (hd : VRel ρ d D) (hx : VRel ρ x X) :
    OKv P own ρ (Builtin.copy_ ts ty #[D, X]) w v s' := by
  unfold eCopy at hq
  split at hq
  · cases hq
  rename_i t ht
  split at hq
  · rename_i el hu
    split at hq
    · cases hq
    rename_i e he
    obtain ⟨hsz, hs1⟩ := rowTy_spec he
    split at hq
    · cases hq
    rename_i cs M hM
    split at hq
    · cases hq
      obtain ⟨V, hV⟩ := srcRows_rel (P := P) h hM hp hx
      simp only [VRel] at hd; subst hd
      have hL := hV.load (Nat.min M.length 0) (Nat.min_le_left _ _)
      refine ⟨ρ, .int .i64 0, w, ρ.le_refl, ?_, by simp only [VRel], h, Fr.refl _ _⟩
      have h0 : Nat.min M.length 0 = 0 := by simp
      rw [h0] at hL
      have hln := hV.len
      simp [Builtin.copy_, ht, run_und hu, hln, run_size hsz, h0, hL, goInt]
    · rename_i b lo len cap x' es
      split at hq
      · rename_i e' L t' ish hg
        split at hq
        · rename_i L' hL'
          cases hes : Nat.beq es e.length with
          | false => rw [hes] at hq; cases hq
          | true =>
          rw [hes, cond_true] at hq
          have hes := Nat.eq_of_beq_eq_true hes
          subst hes
          cases hq
          rw [allB_append] at hp
          obtain ⟨hp1, hp2, _⟩ := hp
          obtain ⟨V, hV⟩ := srcRows_rel (P := P) h hM hp1 hx
          obtain ⟨q, rfl⟩ := asL_some hL'
          subst q
          have hle0 := of_decide_eq_true hp2
          have hle : lo + len ≤ L.length := hle0
          generalize hm : Nat.min M.length len = m
          have hm1 : m ≤ M.length := by rw [← hm]; exact Nat.min_le_left _ _
          have hm2 : m ≤ len := by rw [← hm]; exact Nat.min_le_right _ _
          have hmm : min M.length len = m := hm
          simp only [VRel] at hd
          obtain ⟨ad, c, rfl, c1, c2, _, hn, hblk⟩ := hd
          have hload := hV.load m hm1
          have hln := hV.len
          rcases Nat.eq_zero_or_pos c with hc0 | hc0
          · subst hc0
            have hl0 : len = 0 := by omega
            have hm0 : m = 0 := by omega
            subst hl0; subst hm0
            refine ⟨ρ, .int .i64 (0 : Nat), w, ρ.le_refl, ?_, by simp only [VRel]; rfl, ?_, Fr.refl _ _⟩
            · cases ad <;> simp [Builtin.copy_, ht, run_und hu, hln, run_size hsz, hmm, hload, goInt, storeCells]
            · have e1 : L.take lo ++ (M.take 0 ++ L.drop (lo + 0)) = L := by simp
              show SRel own ρ (s.upd b (.rows e' (L.take lo ++ (M.take 0 ++ L.drop (lo + 0))) t' ish)) w
              rw [e1]
              have key : ∀ k, (s.upd b (.rows e' L t' ish)).heap.get k = s.heap.get k := by
                intro k
                simp only [St.upd, T.get_set]
                split
                · rename_i ek; subst ek; exact hg.symm
                · rfl
              exact ⟨h.le, fun k o x hk hx => h.obj k o x (by rw [← key]; exact hk) hx, fun k k' o1 o2 x x' hk hk' hx hx' => h.inj k k' o1 o2 x x' (by rw [← key]; exact hk) (by rw [← key]; exact hk') hx hx', h.dom, h.top, h.fz, h.old⟩
          · obtain ⟨B, O, S, g1, rfl, g3⟩ := hblk hc0
            have hVm : (V.take (m * e'.length)).length = m * e'.length := by
              rw [List.length_take, hV.size]
              exact Nat.min_eq_left (Nat.mul_le_mul_right _ hm1)
            have hlm : (lo + m) * e'.length ≤ L.length * e'.length := Nat.mul_le_mul_right _ (by omega)
            have hmul : (lo + m) * e'.length = lo * e'.length + m * e'.length := Nat.add_mul _ _ _
            have hlen' : (L.take lo ++ (M.take m ++ L.drop (lo + m))).length = L.length := by simp; omega
            obtain ⟨w', q1, q2, q3⟩ := h.writeRows (P := P) hg g1 (o := lo * e'.length) (V := V.take (m * e'.length)) (by rw [hVm]; omega) (fun X hX => hV.ones X (List.mem_of_mem_take hX)) (M := L.take lo ++ (M.take m ++ L.drop (lo + m))) (by rw [hlen']; exact Nat.le_refl _) (fun C C' hC hC' => by
              have t1 : RowsAt ρ.φ e' (L.take lo) (fun k => C[O + k]?) := by
                have := rows_drop 0 lo (by omega) hC
                simpa using this
              have t2 : RowsAt ρ.φ e' (M.take m) (fun k => V[k]?) := by
                have := rows_drop 0 m hm1 hV.rows
                simpa using this
              have t3 : RowsAt ρ.φ e' (L.drop (lo + m)) (fun k => C[O + ((lo + m) * e'.length + k)]?) := by
                have := rows_drop (lo + m) L.length (Nat.le_refl _) hC
                rw [List.take_length] at this
                exact this
              have l1 : (L.take lo).length = lo := by simp; omega
              have l2 : (M.take m).length = m := by simp; omega
              refine rows_app t1 (rows_app (C := fun k => V[k]?) t2 ?_ fun j hj => ?_) fun j hj => ?_
              · rw [l1, l2]
                refine t3.mono (fun _ _ _ hv => hv) fun j v hj => ?_
                have := hC' (lo * e'.length + (m * e'.length + j))
                simp only at this
                show C'[O + (lo * e'.length + (m * e'.length + j))]? = _
                rw [this, hVm, if_neg (by omega), ← hj, hmul, Nat.add_assoc]
              · rw [l1]
                rw [l2] at hj
                have := hC' (lo * e'.length + j)
                simp only at this
                show C'[O + (lo * e'.length + j)]? = _
                rw [this, hVm, if_pos (by omega), Nat.add_sub_cancel_left, List.getElem?_take_of_lt hj]
              · rw [l1] at hj
                have := hC' j
                simp only at this
                show C'[O + j]? = _
                rw [this, if_neg (by omega)])
            refine ⟨ρ, .int .i64 (m : Nat), w', ρ.le_refl, ?_, by simp only [VRel]; rfl, q2, q3⟩
            simp only at q1
            simp [Builtin.copy_, ht, run_und hu, hln, run_size hsz, hmm, hload, goInt, q1]
        · cases hq
      · cases hq
    · cases hq
  · cases hq
theorem SRel.congr (h : SRel own ρ s w) {T' : T EObj} (hk : ∀ k, T'.get k = s.heap.get k) : SRel own ρ ⟨T', s.next⟩ w :=
  ⟨h.le, fun k o x hg hx => h.obj k o x (by rw [← hk]; exact hg) hx, fun k k' o1 o2 x x' hg hg' hx hx' => h.inj k k' o1 o2 x x' (by rw [← hk]; exact hg) (by rw [← hk]; exact hg') hx hx', h.dom, h.top, h.fz, h.old⟩
theorem SRel.cutRows (h : SRel own ρ s w) {b : Nat} {e : List Ty} {L : List (rowDen e)} {t : TypeId} {ish : Bool} (hg : s.heap.get b = some (.rows e L t ish)) (n : Nat) : SRel own ρ (s.upd b (.rows e (L.take n) t ish)) w := by
  refine ⟨h.le, fun k o x hk hx => ?_, fun k k' o1 o2 x x' hk hk' hx hx' hne => ?_, h.dom, h.top, h.fz, h.old⟩
  · simp only [St.upd, T.get_set] at hk
    split at hk
    · rename_i ek; subst ek; cases hk
      obtain ⟨g1, C, t', fr, e1, e2, e3, e4, e5⟩ := h.obj k _ x hg hx
      refine ⟨g1, C, t', fr, e1, e2, ?_, ?_, e5⟩
      · have : (L.take n).length * e.length ≤ L.length * e.length := Nat.mul_le_mul_right _ (by rw [List.length_take]; omega)
        omega
      · intro i hi
        rw [List.length_take] at hi
        have := e4 i (by omega)
        have e6 : rowAt e (L.take n) i = rowAt e L i := by
          simp only [rowAt, List.getD_eq_getElem?_getD]
          rw [List.getElem?_take_of_lt (by omega)]
        rw [e6]
        exact this
    · exact h.obj k o x hk hx
  · have g : ∀ k o, (s.upd b (.rows e (L.take n) t ish)).heap.get k = some o → ∃ o', s.heap.get k = some o' := by
      intro k o hk
      simp only [St.upd, T.get_set] at hk
      split at hk
      · rename_i ek; subst ek; exact ⟨_, hg⟩
      · exact ⟨_, hk⟩
    obtain ⟨_, g1⟩ := g _ _ hk
    obtain ⟨_, g2⟩ := g _ _ hk'
    exact h.inj k k' _ _ x x' g1 g2 hx hx' hne
theorem eClear_rel (h : SRel own ρ s w) {ts : Array TypeId} {ty : TypeId} {d v : V} {s' : St} {ps : List Bool} (hq : eClear P s ts d = some (ps, v, s')) (hp : allB ps) {D : Value} (hd : VRel ρ d D) :
    OKv P own ρ (Builtin.clear_ ts ty #[D]) w v s' := by
  unfold eClear at hq
  split at hq
  · cases hq
  rename_i t ht
  split at hq
  · rename_i el hu
    split at hq
    · rename_i e zv he hzz
      obtain ⟨hsz, hs1⟩ := rowTy_spec he
      split at hq
      · rename_i z hz
        split at hq
        · rename_i r hr
          split at hq
          · cases hq
            simp only [VRel] at hd; subst hd
            exact ⟨ρ, .tuple #[], w, ρ.le_refl, by simp [Builtin.clear_, ht, run_und hu], by simp only [VRel], h, Fr.refl _ _⟩
          · rename_i b lo len cap x' es
            split at hq
            · rename_i e' L t' ish hg
              split at hq
              · rename_i L' hL'
                cases hes : Nat.beq es e.length with
                | false => rw [hes] at hq; cases hq
                | true =>
                rw [hes, cond_true] at hq
                have hes := Nat.eq_of_beq_eq_true hes
                subst hes
                cases hq
                obtain ⟨q, rfl⟩ := asL_some hL'
                subst q
                have hle : lo + len ≤ L.length := of_decide_eq_true hp.1
                simp only [VRel] at hd
                obtain ⟨ad, c, rfl, c1, c2, _, hn, hblk⟩ := hd
                rcases Nat.eq_zero_or_pos len with hl0 | hl0
                · subst hl0
                  refine ⟨ρ, .tuple #[], w, ρ.le_refl, by cases ad <;> simp [Builtin.clear_, ht, run_und hu], by simp only [VRel], ?_, Fr.refl _ _⟩
                  exact h.cutRows hg lo
                · obtain ⟨B, O, S, k1, rfl, k3⟩ := hblk (by omega)
                  obtain ⟨Z, hZ, hzr, _⟩ := zeroE_rel (ρ := ρ) (w := w) hzz
                  have hzc := cellsO_rel hz hzr
                  have hzl := hzc.length
                  simp only [Array.length_toList] at hzl
                  have hrl := ofRow_length _ _ _ hr
                  have hrep := rep_rows hr hzc len
                  have hVl : (Builtin.zeroCells Z.cells len).toList.length = (List.replicate len r).length * e'.length := by
                    rw [Array.length_toList, zeroCells_size, ← hzl, hrl, List.length_replicate]
                  have hrep' : RowsAt ρ.φ e' (List.replicate len r) (fun k => (Builtin.zeroCells Z.cells len).toList[k]?) := by
                    have : Builtin.zeroCells Z.cells len = (Array.range (len * e'.length)).map fun j => Z.cells[j % Z.cells.size]! := by
                      unfold Builtin.zeroCells
                      rw [← hzl, hrl]
                    rw [this]
                    simpa only [Array.getElem?_toList] using hrep
                  have hones : Ones (Builtin.zeroCells Z.cells len).toList := by
                    intro X hX
                    obtain ⟨k, hk, rfl⟩ := List.mem_iff_getElem.1 hX
                    obtain ⟨X', hX', h1⟩ := RowsAt.cell hrep' (k := k) (by rw [← hVl]; exact hk)
                    rw [List.getElem?_eq_getElem hk] at hX'
                    cases hX'
                    exact h1
                  obtain ⟨w', q1, q2, q3⟩ := h.writeMid (P := P) hg k1 (M := List.replicate len r) (lo := lo) (by rw [List.length_replicate]; exact hle) hVl hrep' hones
                  have hcut := q2.cutRows (b := b) (by simp only [St.upd, T.get_set, if_true]; rfl) lo
                  have e5 : (L.take lo ++ (List.replicate len r ++ L.drop (lo + (List.replicate len r).length))).take lo = L.take lo := by rw [List.take_append_of_le_length (by rw [List.length_take]; omega), List.take_take, Nat.min_self]
                  rw [e5] at hcut
                  have q2' : SRel own ρ (s.upd b (.rows e' (L.take lo) t' ish)) w' := hcut.congr fun k => by
                    simp only [St.upd, T.get_set]
                    split <;> rfl
                  refine ⟨ρ, .tuple #[], w', ρ.le_refl, ?_, by simp only [VRel], q2', q3⟩
                  simp only at q1
                  obtain ⟨m, rfl⟩ : ∃ m, len = m + 1 := ⟨len - 1, by omega⟩
                  simp [Builtin.clear_, ht, run_und hu, hZ, q1]
              · cases hq
            · cases hq
          · cases hq
        · cases hq
      · cases hq
    · cases hq
  · cases hq
end
end Go.Sym
end

section
namespace Go.Sym
set_option linter.unusedSimpArgs false
set_option linter.unusedVariables false

noncomputable section
variable (P : Program)
def modE (l : List (V × V × Nat)) (i : Nat) (k v : V) : List (V × V × Nat) :=
  match l, i with
  | [], _ => []
  | e :: l, 0 => (k, v, e.2.2) :: l
  | e :: l, i + 1 => e :: modE l i k v
def eMapUpdate (s : St) (t : TypeId) (m k v : V) : Option St :=
  match P.underlying t with
  | some (.map kt _) =>
    bif !plainKeyE P kt k then none else
    match m with
    | .map b => match s.heap.get b with
      | some (.map es c) => match findE k es 0 with
        | some (some (i, _)) => some (s.upd b (.map (modE es i k v) c))
        | some none => some (s.upd b (.map (lapp es [(k, v, c)]) (c + 1)))
        | none => none
      | _ => none
    | _ => none
  | _ => none
def eMapEntry (s : St) (t : TypeId) (m k : V) : Option (V × St) :=
  match P.underlying t with
  | some (.map kt e) =>
    bif !plainKeyE P kt k then none else
    match m with
    | .map b => match s.heap.get b with
      | some (.map es c) => match findE k es 0 with
        | some (some (i, v)) => match lget es i with
          | some x => some (.tup [v, .int .i64 (Int.ofNat x.2.2)], s.upd b (.map (modE es i k v) c))
          | none => none
        | some none => match zeroE P e with
          | some z => some (.tup [z, .int .i64 (Int.ofNat c)], s.upd b (.map (lapp es [(k, z, c)]) (c + 1)))
          | none => none
        | none => none
      | _ => none
    | _ => none
  | _ => none
def stampE (n : Nat) : List (V × V × Nat) → Nat → Option Nat
  | [], _ => none
  | e :: l, i => bif Nat.beq e.2.2 n then some i else stampE n l (i + 1)
def setVal (l : List (V × V × Nat)) (i : Nat) (v : V) : List (V × V × Nat) :=
  match l, i with
  | [], _ => []
  | e :: l, 0 => (e.1, v, e.2.2) :: l
  | e :: l, i + 1 => e :: setVal l i v
def eEntryStore (s : St) (m st v : V) : Option (List Bool × St) :=
  match m, natOf st with
  | .map b, some (cn, n) => match s.heap.get b with
    | some (.map es c) => match stampE n es 0 with
      | some i => some (cn, s.upd b (.map (setVal es i v) c))
      | none => none
    | _ => none
  | _, _ => none
def delE (l : List (V × V × Nat)) (i : Nat) : List (V × V × Nat) :=
  match l, i with
  | [], _ => []
  | _ :: l, 0 => l
  | e :: l, i + 1 => e :: delE l i
def eDelete (s : St) (ts : Array TypeId) (m k : V) : Option (V × St) :=
  match ts[0]? with
  | none => none
  | some t =>
  match P.underlying t with
  | some (.map kt _) =>
    bif !plainKeyE P kt k then none else
    match m with
    | .nilm => some (.undef, s)
    | .map b => match s.heap.get b with
      | some (.map es c) => match findE k es 0 with
        | some (some (i, _)) => some (.undef, s.upd b (.map (delE es i) c))
        | some none => some (.undef, s.upd b (.map es c))
        | none => none
      | _ => none
    | _ => none
  | _ => none
end

section
variable {k t : Ty}
def modP (k t : Ty) : List (k.den × t.den × Nat) → Nat → k.den → t.den → List (k.den × t.den × Nat)
  | [], _, _, _ => []
  | e :: l, 0, d, x => (d, x, e.2.2) :: l
  | e :: l, i + 1, d, x => e :: modP k t l i d x
def setP (k t : Ty) : List (k.den × t.den × Nat) → Nat → t.den → List (k.den × t.den × Nat)
  | [], _, _ => []
  | e :: l, 0, x => (e.1, x, e.2.2) :: l
  | e :: l, i + 1, x => e :: setP k t l i x
def delP (k t : Ty) : List (k.den × t.den × Nat) → Nat → List (k.den × t.den × Nat)
  | [], _ => []
  | _ :: l, 0 => l
  | e :: l, i + 1 => e :: delP k t l i
def stampP (k t : Ty) (n : Nat) : List (k.den × t.den × Nat) → Nat → Option Nat
  | [], _ => none
  | e :: l, i => bif Nat.beq e.2.2 n then some i else stampP k t n l (i + 1)
def pmPut0 (k t : Ty) (M : List (k.den × t.den × Nat)) (d : k.den) (x : t.den) (c : Nat) : List (k.den × t.den × Nat) := match pmF k t d M 0 with
  | some r => modP k t M r.1 d x
  | none => M ++ [(d, x, c)]
def pmClk0 (k t : Ty) (M : List (k.den × t.den × Nat)) (d : k.den) (c : Nat) : Nat := match pmF k t d M 0 with
  | some _ => c
  | none => c + 1
def pmDel0 (k t : Ty) (M : List (k.den × t.den × Nat)) (d : k.den) : List (k.den × t.den × Nat) := match pmF k t d M 0 with
  | some r => delP k t M r.1
  | none => M
def pmTouch0 (k t : Ty) (M : List (k.den × t.den × Nat)) (d : k.den) (z : t.den) (c : Nat) : List (k.den × t.den × Nat) := match pmF k t d M 0 with
  | some r => modP k t M r.1 d r.2.1
  | none => M ++ [(d, z, c)]
def pmBorn0 (k t : Ty) (M : List (k.den × t.den × Nat)) (d : k.den) (c : Nat) : Nat := match pmF k t d M 0 with
  | some r => r.2.2
  | none => c
def pmSet0 (k t : Ty) (M : List (k.den × t.den × Nat)) (n : Nat) (x : t.den) : List (k.den × t.den × Nat) := match stampP k t n M 0 with
  | some i => setP k t M i x
  | none => M
def pmHasB0 (k t : Ty) (M : List (k.den × t.den × Nat)) (n : Nat) : Bool := match stampP k t n M 0 with
  | some _ => true
  | none => false
end
noncomputable def pmPut : (k t : Ty) → List (k.den × t.den × Nat) → k.den → t.den → Nat → List (k.den × t.den × Nat) := hide pmPut0
noncomputable def pmClk : (k t : Ty) → List (k.den × t.den × Nat) → k.den → Nat → Nat := hide pmClk0
noncomputable def pmDel : (k t : Ty) → List (k.den × t.den × Nat) → k.den → List (k.den × t.den × Nat) := hide pmDel0
noncomputable def pmTouch : (k t : Ty) → List (k.den × t.den × Nat) → k.den → t.den → Nat → List (k.den × t.den × Nat) := hide pmTouch0
noncomputable def pmBorn : (k t : Ty) → List (k.den × t.den × Nat) → k.den → Nat → Nat := hide pmBorn0
noncomputable def pmSet : (k t : Ty) → List (k.den × t.den × Nat) → Nat → t.den → List (k.den × t.den × Nat) := hide pmSet0
noncomputable def pmHasB : (k t : Ty) → List (k.den × t.den × Nat) → Nat → Bool := hide pmHasB0
theorem pmPut_eq : pmPut = pmPut0 := hide_eq _
theorem pmClk_eq : pmClk = pmClk0 := hide_eq _
theorem pmDel_eq : pmDel = pmDel0 := hide_eq _
theorem pmTouch_eq : pmTouch = pmTouch0 := hide_eq _
theorem pmBorn_eq : pmBorn = pmBorn0 := hide_eq _
theorem pmSet_eq : pmSet = pmSet0 := hide_eq _
theorem pmHasB_eq : pmHasB = pmHasB0 := hide_eq _

def notLst : Ty → Bool
  | .lst _ => false
  | _ => true
noncomputable section
variable (P : Program)
def plain1 (t : TypeId) : Option Ty :=
  match P.underlying t with
  | some (.int k) => some (.int k)
  | some .bool => some .bool
  | some .string => some .str
  | _ => none
def optC : Option V → Option (List Bool)
  | none => some []
  | some h => match natOf h with
    | some (c, _) => some c
    | none => none
def eMakeMap (s : St) (t : TypeId) (r : Option V) : Er :=
  match optC r, P.underlying t with
  | some c, some (.map kt et) => (match plain1 P kt, plain1 P et with
    | some k, some t' => some (c, .map s.next, s.new (.pm k t' [] 0))
    | _, _ => some (c, .map s.next, s.new (.map [] 0)))
  | _, _ => none
def eMapSet (s : St) (t : TypeId) (m key v : V) : Es :=
  match P.underlying t, m with
  | some (.map kt et), .map b => (match pmAt s b with
    | some ⟨k, t', M, c⟩ => bif plainKeyE P kt key then (match ofV k key, ofV t' v with
      | some d, some x => some ([], s.upd b (.pm k t' (pmPut k t' M d x c) (pmClk k t' M d c)))
      | _, _ => none) else none
    | none => (match eMapUpdate P s t m key v with
      | some s' => some ([], s')
      | none => none))
  | _, _ => none
def eMapAt (s : St) (t : TypeId) (m key : V) : Er :=
  match P.underlying t, m with
  | some (.map kt et), .map b => (match pmAt s b with
    | some ⟨k, t', M, c⟩ => bif plainKeyE P kt key then (match ofV k key, zeroE P et with
      | some d, some z => (match ofV t' z with
        | some dz => bif !notLst t' then none else some ([], .tup [toV t' (pmGet k t' M d dz), .int .i64 ((pmBorn k t' M d c : Nat) : Int)], s.upd b (.pm k t' (pmTouch k t' M d dz c) (pmClk k t' M d c)))
        | none => none)
      | _, _ => none) else none
    | none => (match eMapEntry P s t m key with
      | some (v, s') => some ([], v, s')
      | none => none))
  | _, _ => none
def eStamp (s : St) (m st v : V) : Es :=
  match m with
  | .map b => (match pmAt s b with
    | some ⟨k, t', M, c⟩ => (match natOf st, ofV t' v with
      | some (cn, n), some x => some (pmHasB k t' M n :: cn, s.upd b (.pm k t' (pmSet k t' M n x) c))
      | _, _ => none)
    | none => eEntryStore s m st v)
  | _ => none
def eDel (s : St) (ts : Array TypeId) (m key : V) : Er :=
  match ts[0]? with
  | none => none
  | some t => (match P.underlying t, m with
    | some (.map kt et), .map b => (match pmAt s b with
      | some ⟨k, t', M, c⟩ => bif plainKeyE P kt key then (match ofV k key with
        | some d => some ([], .undef, s.upd b (.pm k t' (pmDel k t' M d) c))
        | none => none) else none
      | none => (match eDelete P s ts m key with
        | some (v, s') => some ([], v, s')
        | none => none))
    | some (.map kt et), .nilm => (match eDelete P s ts m key with
        | some (v, s') => some ([], v, s')
        | none => none)
    | _, _ => none)
end

section
variable {P : Program} {own : Own} {ρ : Env} {s : St} {w : World}

theorem getObj_map {B : Nat} {E : Array MapEntry} {c : Nat} (h : w.heap[B]? = some (.map E c)) : (getObj B).run P w = .ok (.map E c) w := by simp only [getObj, Sem.run, h]
theorem setObj_map {B : Nat} {E : Array MapEntry} {c : Nat} (h : w.heap[B]? = some (.map E c)) (o : Obj) : (setObj B o).run P w = .ok () { w with heap := w.heap.setIfInBounds B o } := by simp only [setObj, Sem.run, h]

theorem findE_bound {k : V} : ∀ {l : List (V × V × Nat)} {i j : Nat} {v : V}, findE k l i = some (some (j, v)) → ∃ e, i ≤ j ∧ l[j - i]? = some e ∧ keyEq k e.1 = some true ∧ e.2.1 = v
  | [], i, j, v, h => by simp [findE] at h
  | e :: l, i, j, v, h => by
    simp only [findE] at h
    split at h
    · rename_i he
      cases h
      exact ⟨e, Nat.le_refl _, by simp, he, rfl⟩
    · obtain ⟨e', h1, h2, h3, h4⟩ := findE_bound h
      refine ⟨e', by omega, ?_, h3, h4⟩
      obtain ⟨d, rfl⟩ : ∃ d, j = i + 1 + d := ⟨j - (i + 1), by omega⟩
      rw [show i + 1 + d - (i + 1) = d from by omega] at h2
      rw [show i + 1 + d - i = d + 1 from by omega]
      simpa using h2
    · cases h

theorem MRel.get : ∀ {l : List (V × V × Nat)} {E : List MapEntry}, MRel ρ l E → ∀ {i : Nat} {e : V × V × Nat}, l[i]? = some e → ∃ x, E[i]? = some x ∧ VRel ρ e.1 x.key ∧ VRel ρ e.2.1 x.val ∧ e.2.2 = x.born
  | [], _, _, i, e, h => by simp at h
  | a :: l, E, hr, i, e, h => by
    obtain ⟨x, y, rfl, h1, h2, h3, h4⟩ := hr
    cases i with
    | zero => simp at h; subst h; exact ⟨x, rfl, h1, h2, h3⟩
    | succ i => simp at h; simpa using MRel.get h4 h

theorem MRel.mod : ∀ {l : List (V × V × Nat)} {E : List MapEntry}, MRel ρ l E → ∀ (i : Nat) {k v : V} {K X : Value}, VRel ρ k K → VRel ρ v X → MRel ρ (modE l i k v) (E.modify i fun e => { e with key := K, val := X })
  | [], E, h, i, k, v, K, X, hk, hv => by have h : E = [] := h; subst h; simp [modE, MRel]
  | a :: l, E, hr, i, k, v, K, X, hk, hv => by
    obtain ⟨x, y, rfl, h1, h2, h3, h4⟩ := hr
    cases i with
    | zero => rw [List.modify_zero_cons]; exact ⟨_, _, rfl, hk, hv, h3, h4⟩
    | succ i => rw [List.modify_succ_cons]; exact ⟨x, _, rfl, h1, h2, h3, MRel.mod h4 i hk hv⟩
theorem MRel.snoc : ∀ {l : List (V × V × Nat)} {E : List MapEntry}, MRel ρ l E → ∀ {k v : V} {K X : Value} {c : Nat}, VRel ρ k K → VRel ρ v X → MRel ρ (l ++ [(k, v, c)]) (E ++ [⟨K, X, c⟩])
  | [], E, h, k, v, K, X, c, hk, hv => by have h : E = [] := h; subst h; exact ⟨_, _, rfl, hk, hv, rfl, rfl⟩
  | a :: l, E, hr, k, v, K, X, c, hk, hv => by
    obtain ⟨x, y, rfl, h1, h2, h3, h4⟩ := hr
    exact ⟨x, _, rfl, h1, h2, h3, MRel.snoc h4 hk hv⟩
theorem MRel.del : ∀ {l : List (V × V × Nat)} {E : List MapEntry}, MRel ρ l E → ∀ (i : Nat), MRel ρ (delE l i) (E.eraseIdx i)
  | [], E, h, i => by have h : E = [] := h; subst h; simp [delE, MRel]
  | a :: l, E, hr, i => by
    obtain ⟨x, y, rfl, h1, h2, h3, h4⟩ := hr
    cases i with
    | zero => exact h4
    | succ i => rw [List.eraseIdx_cons_succ]; exact ⟨x, _, rfl, h1, h2, h3, MRel.del h4 i⟩
theorem MRel.setv : ∀ {l : List (V × V × Nat)} {E : List MapEntry}, MRel ρ l E → ∀ (i : Nat) {v : V} {X : Value}, VRel ρ v X → MRel ρ (setVal l i v) (E.modify i fun e => { e with val := X })
  | [], E, h, i, v, X, hv => by have h : E = [] := h; subst h; simp [setVal, MRel]
  | a :: l, E, hr, i, v, X, hv => by
    obtain ⟨x, y, rfl, h1, h2, h3, h4⟩ := hr
    cases i with
    | zero => rw [List.modify_zero_cons]; exact ⟨_, _, rfl, h1, hv, h3, h4⟩
    | succ i => rw [List.modify_succ_cons]; exact ⟨x, _, rfl, h1, h2, h3, MRel.setv h4 i hv⟩

theorem keyStays {k e : V} (h : keyEq k e = some true) {K X : Value} (hk : VRel ρ k K) (he : VRel ρ e X) : (Instr.keyThatStays X K).run P w = .ok K w := by
  have : Instr.sameBits 10000 X K = true := by
    unfold keyEq at h
    split at h
    · rename_i k1 x k2 y
      rw [kEq_iff] at h
      cases hkk : decide (k1 = k2) with
      | false => simp [hkk] at h
      | true =>
        have ee : k1 = k2 := by simpa using hkk
        subst ee
        simp only [decide_true, cond_true, Option.some.injEq, decide_eq_true_eq] at h
        subst h
        simp only [VRel] at hk he; subst hk; subst he
        simp [Instr.sameBits]
    · simp only [Option.some.injEq] at h
      have h := of_decide_eq_true h
      subst h
      simp only [VRel] at hk he; subst hk; subst he
      simp [Instr.sameBits, beq_toListBytes]
    · simp only [Option.some.injEq, beq_iff_eq] at h
      subst h
      simp only [VRel] at hk he; subst hk; subst he
      simp [Instr.sameBits]
    · cases h
  simp [Instr.keyThatStays, this]

theorem SRel.mapObj (h : SRel own ρ s w) {b : Nat} {es : List (V × V × Nat)} {c : Nat} (hg : s.heap.get b = some (.map es c)) {B O S : Nat} (hx : ρ b = some ⟨B, O, S⟩) :
    ∃ E, w.heap[B]? = some (.map E c) ∧ MRel ρ es E.toList ∧ own B := by
  obtain ⟨y, h1, h2, E, h3, h4⟩ := h.obj' hg hx
  rw [hx] at h1; cases h1
  exact ⟨E, h3, h4, h2.1⟩

theorem eMapUpdate_rel (h : SRel own ρ s w) {t : TypeId} {m k v : V} {s' : St} (hq : eMapUpdate P s t m k v = some s') {M K X : Value} (hm : VRel ρ m M) (hk : VRel ρ k K) (hv : VRel ρ v X) :
    ∃ w', (Instr.mapUpdate t M K X).run P w = .ok () w' ∧ SRel own ρ s' w' ∧ Fr own w w' := by
  unfold eMapUpdate at hq
  simp only [llen_eq, lall_eq, ltake_eq, ldrop_eq, lapp_eq, lget_eq] at hq
  split at hq
  · rename_i kt et hd
    obtain ⟨hp, hq⟩ := bool_not_cond hq (by simp)
    split at hq
    · rename_i b
      split at hq
      · rename_i es c hg
        simp only [VRel] at hm
        obtain ⟨B, O, S, hB, rfl⟩ := hm
        obtain ⟨E, hE, hrel, hbase⟩ := h.mapObj hg hB
        split at hq
        · rename_i i v0 hf
          cases hq
          obtain ⟨e, _, he1, he2, _⟩ := findE_bound hf
          rw [Nat.sub_zero] at he1
          obtain ⟨x, hx1, hx2, _, _⟩ := hrel.get he1
          simp only [Array.getElem?_toList] at hx1
          rcases run_findKeyE (w := w) hk hp hrel hf with ⟨h1, _⟩ | ⟨j, v2, W, h1, h2, h3⟩
          · cases h1
          · cases h1
            refine ⟨{ w with heap := w.heap.setIfInBounds B (.map (E.modify i fun e => { e with key := K, val := X }) c) }, ?_, h.upd hg hB _ (.map (E.modify i fun e => { e with key := K, val := X }) c) rfl ⟨_, rfl, by rw [Array.toList_modify]; exact hrel.mod i hk hv⟩, fr_set hbase rfl⟩
            simp [Instr.mapUpdate, run_und hd, getObj_map hE, run_checkKeyE hk hp, h2, hx1, keyStays he2 hk hx2, setObj_map hE]
        · rename_i hf
          cases hq
          rcases run_findKeyE (w := w) hk hp hrel hf with ⟨_, h2⟩ | ⟨j, v2, W, h1, _, _⟩
          · refine ⟨{ w with heap := w.heap.setIfInBounds B (.map (E.push ⟨K, X, c⟩) (c + 1)) }, ?_, h.upd hg hB _ (.map (E.push ⟨K, X, c⟩) (c + 1)) rfl ⟨_, rfl, by rw [Array.toList_push]; exact hrel.snoc hk hv⟩, fr_set hbase rfl⟩
            simp [Instr.mapUpdate, run_und hd, getObj_map hE, run_checkKeyE hk hp, h2, setObj_map hE]
          · cases h1
        · cases hq
      · cases hq
    · cases hq
  · cases hq

theorem eMapEntry_rel (h : SRel own ρ s w) {t : TypeId} {m k v : V} {s' : St} (hq : eMapEntry P s t m k = some (v, s')) {M K : Value} (hm : VRel ρ m M) (hk : VRel ρ k K) :
    OKv P own ρ (Instr.mapEntry t M K) w v s' := by
  unfold eMapEntry at hq
  simp only [llen_eq, lall_eq, ltake_eq, ldrop_eq, lapp_eq, lget_eq] at hq
  split at hq
  · rename_i kt et hd
    obtain ⟨hp, hq⟩ := bool_not_cond hq (by simp)
    split at hq
    · rename_i b
      split at hq
      · rename_i es c hg
        simp only [VRel] at hm
        obtain ⟨B, O, S, hB, rfl⟩ := hm
        obtain ⟨E, hE, hrel, hbase⟩ := h.mapObj hg hB
        split at hq
        · rename_i i v0 hf
          obtain ⟨e, _, he1, he2, he3⟩ := findE_bound hf
          rw [Nat.sub_zero] at he1
          rw [he1] at hq
          cases hq
          obtain ⟨x, hx1, hx2, hx3, hx4⟩ := hrel.get he1
          simp only [Array.getElem?_toList] at hx1
          rcases run_findKeyE (w := w) hk hp hrel hf with ⟨h1, _⟩ | ⟨j, v2, W, h1, h2, h3⟩
          · cases h1
          · cases h1
            have hrel' : MRel ρ (modE es i k v0) (E.modify i fun e => { e with key := K }).toList := by
              have hx3' : VRel ρ v0 x.val := by rw [← he3]; exact hx3
              have := hrel.mod i hk hx3'
              rw [Array.toList_modify]
              have e1 : (E.toList.modify i fun e => { e with key := K, val := x.val }) = E.toList.modify i fun e => { e with key := K } := by
                apply List.ext_getElem?
                intro n
                rw [List.getElem?_modify, List.getElem?_modify]
                by_cases hn : i = n
                · subst hn
                  have : E.toList[i]? = some x := by simpa using hx1
                  simp [this]
                · simp [hn]
              rw [← e1]; exact this
            refine ⟨ρ, .tuple #[W, .int .i64 x.born], { w with heap := w.heap.setIfInBounds B (.map (E.modify i fun e => { e with key := K }) c) }, ρ.le_refl, ?_, ?_, h.upd hg hB _ (.map (E.modify i fun e => { e with key := K }) c) rfl ⟨_, rfl, hrel'⟩, fr_set hbase rfl⟩
            · simp [Instr.mapEntry, run_und hd, getObj_map hE, run_checkKeyE hk hp, h2, hx1, keyStays he2 hk hx2, setObj_map hE, goInt]
            · simp only [VRel]
              exact ⟨_, rfl, LRel.cons h3 (LRel.cons (by rw [← hx4]; exact vint _ _) LRel.nil)⟩
        · rename_i hf
          split at hq
          · rename_i z hz
            cases hq
            obtain ⟨Z, hZ, hzr, _⟩ := zeroE_rel (ρ := ρ) (w := w) hz
            rcases run_findKeyE (w := w) hk hp hrel hf with ⟨_, h2⟩ | ⟨j, v2, W, h1, _, _⟩
            · refine ⟨ρ, .tuple #[Z, .int .i64 c], { w with heap := w.heap.setIfInBounds B (.map (E.push ⟨K, Z, c⟩) (c + 1)) }, ρ.le_refl, ?_, ?_, h.upd hg hB _ (.map (E.push ⟨K, Z, c⟩) (c + 1)) rfl ⟨_, rfl, by rw [Array.toList_push]; exact hrel.snoc hk hzr⟩, fr_set hbase rfl⟩
              · simp [Instr.mapEntry, run_und hd, getObj_map hE, run_checkKeyE hk hp, h2, hZ, setObj_map hE, goInt]
              · simp only [VRel]
                exact ⟨_, rfl, LRel.cons hzr (LRel.cons (vint _ _) LRel.nil)⟩
            · cases h1
          · cases hq
        · cases hq
      · cases hq
    · cases hq
  · cases hq

theorem stampE_rel {n : Nat} : ∀ {l : List (V × V × Nat)} {E : List MapEntry}, MRel ρ l E → ∀ {i j : Nat}, stampE n l i = some j → ∃ d, j = i + d ∧ E.findIdx? (fun e => (e.born : Int) == (n : Int)) = some d
  | [], _, _, i, j, h => by simp [stampE] at h
  | a :: l, E, hr, i, j, h => by
    obtain ⟨x, y, rfl, h1, h2, h3, h4⟩ := hr
    simp only [stampE] at h
    cases hb : Nat.beq a.2.2 n with
    | true =>
      simp only [hb, cond_true, Option.some.injEq] at h
      have : a.2.2 = n := by simpa using hb
      refine ⟨0, by omega, ?_⟩
      rw [List.findIdx?_cons]
      have e : ((x.born : Int) == (n : Int)) = true := by simp; omega
      simp [e]
    | false =>
      simp only [hb, cond_false] at h
      obtain ⟨d, e1, e2⟩ := stampE_rel h4 h
      refine ⟨d + 1, by omega, ?_⟩
      rw [List.findIdx?_cons]
      have hne : a.2.2 ≠ n := by intro e; subst e; simp at hb
      have e : ((x.born : Int) == (n : Int)) = false := by simp; omega
      simp [e, e2]

theorem eEntryStore_rel (h : SRel own ρ s w) {t : TypeId} {m st v : V} {s' : St} {cn : List Bool} (hq : eEntryStore s m st v = some (cn, s')) (hc : allB cn) {M T X : Value} (hm : VRel ρ m M) (ht : VRel ρ st T) (hv : VRel ρ v X) :
    ∃ w', (Instr.entryStore t M T X).run P w = .ok () w' ∧ SRel own ρ s' w' ∧ Fr own w w' := by
  unfold eEntryStore at hq
  split at hq
  · rename_i b cn' n hn
    split at hq
    · rename_i es c hg
      split at hq
      · rename_i i hi
        cases hq
        simp only [VRel] at hm
        obtain ⟨B, O, S, hB, rfl⟩ := hm
        obtain ⟨k, rfl⟩ := natOf_rel hn hc ht
        obtain ⟨E, hE, hrel, hbase⟩ := h.mapObj hg hB
        obtain ⟨d, e1, e2⟩ := stampE_rel hrel hi
        have e1 : i = d := by omega
        subst e1
        have e3 : E.findIdx? (fun e => (e.born : Int) == (n : Int)) = some i := by
          rw [← e2]; cases E; simp
        refine ⟨{ w with heap := w.heap.setIfInBounds B (.map (E.modify i fun e => { e with val := X }) c) }, ?_, h.upd hg hB _ (.map (E.modify i fun e => { e with val := X }) c) rfl ⟨_, rfl, by rw [Array.toList_modify]; exact hrel.setv i hv⟩, fr_set hbase rfl⟩
        simp [Instr.entryStore, getObj_map hE, asInt, run_asIntOf, e3, setObj_map hE]
      · cases hq
    · cases hq
  · cases hq

theorem eDelete_rel (h : SRel own ρ s w) {ts : Array TypeId} {ty : TypeId} {m k v : V} {s' : St} (hq : eDelete P s ts m k = some (v, s')) {M K : Value} (hm : VRel ρ m M) (hk : VRel ρ k K) :
    OKv P own ρ (Builtin.delete_ ts ty #[M, K]) w v s' := by
  unfold eDelete at hq
  split at hq
  · cases hq
  rename_i t ht
  split at hq
  · rename_i kt et hd
    obtain ⟨hp, hq⟩ := bool_not_cond hq (by simp)
    split at hq
    · cases hq
      simp only [VRel] at hm; subst hm
      exact ⟨ρ, _, w, ρ.le_refl, by simp [Builtin.delete_, ht, run_und hd, run_checkKeyE hk hp]; rfl, by simp only [VRel], h, Fr.refl _ _⟩
    · rename_i b
      split at hq
      · rename_i es c hg
        simp only [VRel] at hm
        obtain ⟨B, O, S, hB, rfl⟩ := hm
        obtain ⟨E, hE, hrel, hbase⟩ := h.mapObj hg hB
        split at hq
        · rename_i i v0 hf
          cases hq
          rcases run_findKeyE (w := w) hk hp hrel hf with ⟨h1, _⟩ | ⟨j, v2, W, h1, h2, h3⟩
          · cases h1
          · cases h1
            obtain ⟨e, _, he1, _, _⟩ := findE_bound hf
            rw [Nat.sub_zero] at he1
            obtain ⟨x, hx1, _⟩ := hrel.get he1
            have hlt : i < E.size := by
              have := (List.getElem?_eq_some_iff.1 hx1).1
              simpa using this
            refine ⟨ρ, _, { w with heap := w.heap.setIfInBounds B (.map (E.eraseIdxIfInBounds i) c) }, ρ.le_refl, by simp [Builtin.delete_, ht, run_und hd, getObj_map hE, run_checkKeyE hk hp, h2, setObj_map hE]; rfl, by simp only [VRel], h.upd hg hB _ (.map (E.eraseIdxIfInBounds i) c) rfl ⟨_, rfl, ?_⟩, fr_set hbase rfl⟩
            have : (E.eraseIdxIfInBounds i).toList = E.toList.eraseIdx i := by
              simp [Array.eraseIdxIfInBounds, hlt]
            rw [this]
            exact hrel.del i
        · rename_i hf
          cases hq
          rcases run_findKeyE (w := w) hk hp hrel hf with ⟨_, h2⟩ | ⟨j, v2, W, h1, _, _⟩
          · refine ⟨ρ, _, { w with heap := w.heap.setIfInBounds B (.map E c) }, ρ.le_refl, by simp [Builtin.delete_, ht, run_und hd, getObj_map hE, run_checkKeyE hk hp, h2, setObj_map hE]; rfl, by simp only [VRel], h.upd hg hB _ (.map E c) rfl ⟨_, rfl, hrel⟩, fr_set hbase rfl⟩
          · cases h1
        · cases hq
      · cases hq
    · cases hq
  · cases hq


theorem SRel.recast (h : SRel own ρ s w) {b : Nat} {o o1 : EObj} (hg : s.heap.get b = some o) (ho : ∀ O S X, ORel ρ O S X o → ORel ρ O S X o1) : SRel own ρ (s.upd b o1) w := by
  refine ⟨h.le, fun k o' x hk hx => ?_, fun k k' o1' o2' x x' hk hk' hx hx' hne => ?_, h.dom, h.top, h.fz, h.old⟩
  · simp only [St.upd, T.get_set] at hk
    split at hk
    · rename_i ek; subst ek; cases hk
      obtain ⟨g1, g2⟩ := h.obj k _ x hg hx
      exact ⟨g1, ho _ _ _ g2⟩
    · exact h.obj k o' x hk hx
  · have g : ∀ k o', (s.upd b o1).heap.get k = some o' → ∃ o'', s.heap.get k = some o'' := by
      intro k o' hk
      simp only [St.upd, T.get_set] at hk
      split at hk
      · rename_i ek; subst ek; exact ⟨_, hg⟩
      · exact ⟨_, hk⟩
    obtain ⟨_, g1⟩ := g _ _ hk
    obtain ⟨_, g2⟩ := g _ _ hk'
    exact h.inj k k' _ _ x x' g1 g2 hx hx' hne
theorem St.upd_get (b : Nat) (o : EObj) : (s.upd b o).heap.get b = some o := by simp only [St.upd, T.get_set, if_true]
theorem SRel.asMap (h : SRel own ρ s w) {b : Nat} {k t : Ty} {M : List (k.den × t.den × Nat)} {c : Nat} (hg : s.heap.get b = some (.pm k t M c)) : SRel own ρ (s.upd b (.map (pmV k t M) c)) w :=
  h.recast hg fun _ _ _ h => h
theorem SRel.asPm (h : SRel own ρ s w) {b : Nat} {k t : Ty} {M : List (k.den × t.den × Nat)} {c : Nat} {s' : St} (hg : s.heap.get b = some (.map (pmV k t M) c)) (hs : s'.next = s.next) (hk : ∀ j, s'.heap.get j = if j = b then some (.pm k t M c) else s.heap.get j) : SRel own ρ s' w := by
  have h1 := h.recast (o1 := .pm k t M c) hg fun _ _ _ h => h
  have h2 := h1.congr (T' := s'.heap) fun j => by
    rw [hk]
    simp only [St.upd, T.get_set]
  cases s' with
  | mk hp n =>
    have hs : n = s.next := hs
    subst hs
    exact h2
theorem modP_V {k t : Ty} : ∀ (M : List (k.den × t.den × Nat)) (i : Nat) (d : k.den) (x : t.den), modE (pmV k t M) i (toV k d) (toV t x) = pmV k t (modP k t M i d x)
  | [], _, _, _ => rfl
  | _ :: _, 0, _, _ => rfl
  | m :: M, i + 1, d, x => congrArg (_ :: ·) (modP_V M i d x)
theorem setP_V {k t : Ty} : ∀ (M : List (k.den × t.den × Nat)) (i : Nat) (x : t.den), setVal (pmV k t M) i (toV t x) = pmV k t (setP k t M i x)
  | [], _, _ => rfl
  | _ :: _, 0, _ => rfl
  | m :: M, i + 1, x => congrArg (_ :: ·) (setP_V M i x)
theorem delP_V {k t : Ty} : ∀ (M : List (k.den × t.den × Nat)) (i : Nat), delE (pmV k t M) i = pmV k t (delP k t M i)
  | [], _ => rfl
  | _ :: _, 0 => rfl
  | m :: M, i + 1 => congrArg (_ :: ·) (delP_V M i)
theorem stampP_V {k t : Ty} {n : Nat} : ∀ (M : List (k.den × t.den × Nat)) (i : Nat), stampE n (pmV k t M) i = stampP k t n M i
  | [], _ => rfl
  | m :: M, i => by
    show (bif Nat.beq m.2.2 n then some i else stampE n (pmV k t M) (i + 1)) = (bif Nat.beq m.2.2 n then some i else stampP k t n M (i + 1))
    rw [stampP_V M (i + 1)]
theorem snocP_V {k t : Ty} (M : List (k.den × t.den × Nat)) (d : k.den) (x : t.den) (c : Nat) : pmV k t M ++ [(toV k d, toV t x, c)] = pmV k t (M ++ [(d, x, c)]) := by
  unfold pmV; rw [List.map_append]; rfl
theorem pmF_lget {k t : Ty} {d : k.den} : ∀ (M : List (k.den × t.den × Nat)) (i : Nat) {r : Nat × t.den × Nat}, pmF k t d M i = some r → i ≤ r.1 ∧ ∃ e, (pmV k t M)[r.1 - i]? = some e ∧ e.2.2 = r.2.2
  | [], i, r, h => by cases h
  | m :: M, i, r, h => by
    rw [pmF] at h
    cases hb : kB k d m.1 with
    | true => rw [hb, cond_true] at h; cases h; exact ⟨Nat.le_refl _, _, by rw [Nat.sub_self]; rfl, rfl⟩
    | false =>
      rw [hb, cond_false] at h
      obtain ⟨h1, e, h2, h3⟩ := pmF_lget M (i + 1) h
      refine ⟨by omega, e, ?_, h3⟩
      rw [show r.1 - i = (r.1 - (i + 1)) + 1 by omega]
      exact h2

theorem eMapSet_rel (h : SRel own ρ s w) {t : TypeId} {m key v : V} {cn : List Bool} {s' : St} (hq : eMapSet P s t m key v = some (cn, s')) {M K X : Value} (hm : VRel ρ m M) (hk : VRel ρ key K) (hv : VRel ρ v X) :
    ∃ w', (Instr.mapUpdate t M K X).run P w = .ok () w' ∧ SRel own ρ s' w' ∧ Fr own w w' := by
  unfold eMapSet at hq
  split at hq
  · rename_i kt et b hd
    split at hq
    · rename_i k t' ML c hp
      have hg := pmAt_some hp
      cases hpk : plainKeyE P kt key with
      | false => rw [hpk] at hq; cases hq
      | true =>
      rw [hpk, cond_true] at hq
      split at hq
      · rename_i d x hd1 hx1
        cases hq
        obtain ⟨rfl, hkeq⟩ := keyV hpk hd1
        have hv' := ofV_toV hx1 hv
        have h1 := h.asMap hg
        have hf := pmF_find hkeq ML 0
        have key : ∀ (es : List (V × V × Nat)) (ML' : List (k.den × t'.den × Nat)) (c' : Nat), es = pmV k t' ML' → eMapUpdate P (s.upd b (.map (pmV k t' ML) c)) t (.map b) (toV k d) (toV t' x) = some ((s.upd b (.map (pmV k t' ML) c)).upd b (.map es c')) →
            pmPut0 k t' ML d x c = ML' → pmClk0 k t' ML d c = c' → ∃ w', (Instr.mapUpdate t M K X).run P w = .ok () w' ∧ SRel own ρ (s.upd b (.pm k t' (pmPut k t' ML d x c) (pmClk k t' ML d c))) w' ∧ Fr own w w' := by
          intro es ML' c' he hu e1 e2
          obtain ⟨w', g1, g2, g3⟩ := eMapUpdate_rel h1 hu hm hk hv'
          refine ⟨w', g1, ?_, g3⟩
          rw [pmPut_eq, pmClk_eq, e1, e2]
          subst he
          refine g2.asPm (St.upd_get b _) rfl fun j => ?_
          simp only [St.upd, T.get_set]
          split
          · rfl
          · rfl
        cases hF : pmF k t' d ML 0 with
        | some r =>
          rw [hF] at hf
          refine key _ (modP k t' ML r.1 d x) c (modP_V ML r.1 d x) ?_ (by simp only [pmPut0, hF]) (by simp only [pmClk0, hF])
          simp only [eMapUpdate, hd, hpk, Bool.not_true, cond_false, St.upd_get, hf]
        | none =>
          rw [hF] at hf
          refine key _ (ML ++ [(d, x, c)]) (c + 1) (snocP_V ML d x c) ?_ (by simp only [pmPut0, hF]) (by simp only [pmClk0, hF])
          simp only [eMapUpdate, hd, hpk, Bool.not_true, cond_false, St.upd_get, hf, lapp_eq]
      · cases hq
    · split at hq
      · rename_i s1 hu
        cases hq
        exact eMapUpdate_rel h hu hm hk hv
      · cases hq
  · cases hq
theorem ofV_id {t : Ty} {z : V} {dz : t.den} (hn : notLst t = true) (h : ofV t z = some dz) : toV t dz = z := by
  cases t with
  | int kk =>
    simp only [ofV, ofInt] at h
    split at h
    · rename_i k' n
      cases hk : kEq kk k' with
      | false => rw [hk] at h; cases h
      | true =>
        rw [hk, cond_true] at h
        cases h
        rw [kEq_iff] at hk
        have hk := of_decide_eq_true hk
        subst hk
        rfl
    · cases h
  | bool =>
    simp only [ofV, ofBool] at h
    split at h
    · cases h; rfl
    · cases h
  | str =>
    simp only [ofV, ofStr] at h
    split at h
    · cases h; rfl
    · cases h
  | lst e => cases hn
theorem eMapAt_rel (h : SRel own ρ s w) {t : TypeId} {m key v : V} {cn : List Bool} {s' : St} (hq : eMapAt P s t m key = some (cn, v, s')) {M K : Value} (hm : VRel ρ m M) (hk : VRel ρ key K) :
    OKv P own ρ (Instr.mapEntry t M K) w v s' := by
  unfold eMapAt at hq
  split at hq
  · rename_i kt et b hd
    split at hq
    · rename_i k t' ML c hp
      have hg := pmAt_some hp
      cases hpk : plainKeyE P kt key with
      | false => rw [hpk] at hq; cases hq
      | true =>
      rw [hpk, cond_true] at hq
      split at hq
      · rename_i d z hd1 hz1
        split at hq
        · rename_i dz hdz
          cases hnl : notLst t' with
          | false => rw [hnl] at hq; cases hq
          | true =>
          rw [hnl] at hq
          cases hq
          obtain ⟨rfl, hkeq⟩ := keyV hpk hd1
          have h1 := h.asMap hg
          have hf := pmF_find hkeq ML 0
          have key : ∀ (es : List (V × V × Nat)) (ML' : List (k.den × t'.den × Nat)) (c' n : Nat) (y : t'.den) (y' : V), es = pmV k t' ML' → (∀ (ρ' : Env) Y, VRel ρ' y' Y → VRel ρ' (toV t' y) Y) →
              eMapEntry P (s.upd b (.map (pmV k t' ML) c)) t (.map b) (toV k d) = some (.tup [y', .int .i64 (Int.ofNat n)], (s.upd b (.map (pmV k t' ML) c)).upd b (.map es c')) →
              pmTouch0 k t' ML d dz c = ML' → pmClk0 k t' ML d c = c' → pmBorn0 k t' ML d c = n → pmGet0 k t' ML d dz = y →
              OKv P own ρ (Instr.mapEntry t M K) w (.tup [toV t' (pmGet k t' ML d dz), .int .i64 ((pmBorn k t' ML d c : Nat) : Int)]) (s.upd b (.pm k t' (pmTouch k t' ML d dz c) (pmClk k t' ML d c))) := by
            intro es ML' c' n y y' he hy hu e1 e2 e3 e4
            obtain ⟨ρ', Y, w', g0, g1, g2, g3, g4⟩ := eMapEntry_rel h1 hu hm hk
            refine ⟨ρ', Y, w', g0, g1, ?_, ?_, g4⟩
            · rw [pmGet_eq, pmBorn_eq, e4, e3]
              simp only [VRel] at g2 ⊢
              obtain ⟨A, a1, a2⟩ := g2
              obtain ⟨Y1, Y2, b1, b2, b3⟩ := a2
              exact ⟨A, a1, Y1, Y2, b1, hy _ _ b2, b3⟩
            · rw [pmTouch_eq, pmClk_eq, e1, e2]
              subst he
              refine g3.asPm (St.upd_get b _) rfl fun j => ?_
              simp only [St.upd, T.get_set]
              split
              · rfl
              · rfl
          cases hF : pmF k t' d ML 0 with
          | some r =>
            rw [hF] at hf
            obtain ⟨_, e, he1, he2⟩ := pmF_lget ML 0 hF
            rw [Nat.sub_zero] at he1
            refine key _ (modP k t' ML r.1 d r.2.1) c r.2.2 r.2.1 (toV t' r.2.1) (modP_V ML r.1 d r.2.1) (fun _ _ h => h) ?_ (by simp only [pmTouch0, hF]) (by simp only [pmClk0, hF]) (by simp only [pmBorn0, hF]) (by simp only [pmGet0, hF])
            simp only [eMapEntry, hd, hpk, Bool.not_true, cond_false, St.upd_get, hf, lget_eq, he1, he2]
          | none =>
            rw [hF] at hf
            refine key (pmV k t' ML ++ [(toV k d, z, c)]) (ML ++ [(d, dz, c)]) (c + 1) c dz z ?_ (fun _ _ h => ofV_toV hdz h) ?_ (by simp only [pmTouch0, hF]) (by simp only [pmClk0, hF]) (by simp only [pmBorn0, hF]) (by simp only [pmGet0, hF])
            · rw [← snocP_V, ofV_id hnl hdz]
            · simp only [eMapEntry, hd, hpk, Bool.not_true, cond_false, St.upd_get, hf, hz1, lapp_eq]
        · cases hq
      · cases hq
    · split at hq
      · rename_i v1 s1 hu
        cases hq
        exact eMapEntry_rel h hu hm hk
      · cases hq
  · cases hq
theorem eStamp_rel (h : SRel own ρ s w) {t : TypeId} {m st v : V} {cn : List Bool} {s' : St} (hq : eStamp s m st v = some (cn, s')) (hc : allB cn) {M TT X : Value} (hm : VRel ρ m M) (ht : VRel ρ st TT) (hv : VRel ρ v X) :
    ∃ w', (Instr.entryStore t M TT X).run P w = .ok () w' ∧ SRel own ρ s' w' ∧ Fr own w w' := by
  unfold eStamp at hq
  split at hq
  · rename_i b
    split at hq
    · rename_i k t' ML c hp
      have hg := pmAt_some hp
      split at hq
      · rename_i cn1 n x hn hx
        cases hq
        obtain ⟨hb, hc⟩ := hc
        have h1 := h.asMap hg
        have hv' := ofV_toV hx hv
        rw [pmHasB_eq] at hb
        cases hS : stampP k t' n ML 0 with
        | none => simp only [pmHasB0, hS] at hb; cases hb
        | some i =>
          have hu : eEntryStore (s.upd b (.map (pmV k t' ML) c)) (.map b) st (toV t' x) = some (cn1, (s.upd b (.map (pmV k t' ML) c)).upd b (.map (setVal (pmV k t' ML) i (toV t' x)) c)) := by
            simp only [eEntryStore, hn, St.upd_get, stampP_V, hS]
          obtain ⟨w', g1, g2, g3⟩ := eEntryStore_rel (t := t) h1 hu hc hm ht hv'
          refine ⟨w', g1, ?_, g3⟩
          have e1 : pmSet k t' ML n x = setP k t' ML i x := by rw [pmSet_eq]; simp only [pmSet0, hS]
          rw [e1]
          rw [setP_V] at g2
          refine g2.asPm (St.upd_get b _) rfl fun j => ?_
          simp only [St.upd, T.get_set]
          split
          · rfl
          · rfl
      · cases hq
    · exact eEntryStore_rel h hq hc hm ht hv
  · cases hq
theorem eDel_rel (h : SRel own ρ s w) {ts : Array TypeId} {ty : TypeId} {m key v : V} {cn : List Bool} {s' : St} (hq : eDel P s ts m key = some (cn, v, s')) {M K : Value} (hm : VRel ρ m M) (hk : VRel ρ key K) :
    OKv P own ρ (Builtin.delete_ ts ty #[M, K]) w v s' := by
  unfold eDel at hq
  split at hq
  · cases hq
  rename_i t ht
  split at hq
  · rename_i kt et b hd
    split at hq
    · rename_i k t' ML c hp
      have hg := pmAt_some hp
      cases hpk : plainKeyE P kt key with
      | false => rw [hpk] at hq; cases hq
      | true =>
      rw [hpk, cond_true] at hq
      split at hq
      · rename_i d hd1
        cases hq
        obtain ⟨rfl, hkeq⟩ := keyV hpk hd1
        have h1 := h.asMap hg
        have hf := pmF_find hkeq ML 0
        have key : ∀ (es : List (V × V × Nat)) (ML' : List (k.den × t'.den × Nat)), es = pmV k t' ML' → eDelete P (s.upd b (.map (pmV k t' ML) c)) ts (.map b) (toV k d) = some (.undef, (s.upd b (.map (pmV k t' ML) c)).upd b (.map es c)) →
            pmDel0 k t' ML d = ML' → OKv P own ρ (Builtin.delete_ ts ty #[M, K]) w .undef (s.upd b (.pm k t' (pmDel k t' ML d) c)) := by
          intro es ML' he hu e1
          obtain ⟨ρ', Y, w', g0, g1, g2, g3, g4⟩ := eDelete_rel (ty := ty) h1 hu hm hk
          refine ⟨ρ', Y, w', g0, g1, g2, ?_, g4⟩
          rw [pmDel_eq, e1]
          subst he
          refine g3.asPm (St.upd_get b _) rfl fun j => ?_
          simp only [St.upd, T.get_set]
          split
          · rfl
          · rfl
        cases hF : pmF k t' d ML 0 with
        | some r =>
          rw [hF] at hf
          refine key _ (delP k t' ML r.1) (delP_V ML r.1) ?_ (by simp only [pmDel0, hF])
          simp only [eDelete, ht, hd, hpk, Bool.not_true, cond_false, St.upd_get, hf]
        | none =>
          rw [hF] at hf
          refine key _ ML rfl ?_ (by simp only [pmDel0, hF])
          simp only [eDelete, ht, hd, hpk, Bool.not_true, cond_false, St.upd_get, hf]
      · cases hq
    · split at hq
      · rename_i v1 s1 hu
        cases hq
        exact eDelete_rel h hu hm hk
      · cases hq
  · split at hq
    · rename_i v1 s1 hu
      cases hq
      exact eDelete_rel h hu hm hk
    · cases hq
  · cases hq
theorem eMakeMap_rel (h : SRel own ρ s w) {t : TypeId} {r : Option V} {v : V} {cn : List Bool} {s' : St} (hq : eMakeMap P s t r = some (cn, v, s')) (hc : allB cn) {R : Option Value} (hr : OptRel ρ r R) : OKv P own ρ (Instr.makeMap t R) w v s' := by
  have core : ∀ o : EObj, (∀ ρ', ORel ρ' 0 0 (some (.map #[] 0)) o) → OKv P own ρ (do pure (.map (some (← newObj (.map #[] 0)))) : Sem Value) w (.map s.next) (s.new o) := by
    intro o ho
    have hle := Env.le_put ⟨w.heap.size, 0, 0⟩ h.fresh
    refine ⟨_, .map (some w.heap.size), { w with heap := w.heap.push (.map #[] 0) }, hle, by simp, ?_, h.new _ (.map #[] 0) 0 rfl (ho _), fr_new h.le rfl⟩
    simp only [VRel]; exact ⟨_, _, _, Env.put_same, rfl⟩
  have all : ∀ o : EObj, (∀ ρ', ORel ρ' 0 0 (some (.map #[] 0)) o) → ∀ kt et, P.underlying t = some (.map kt et) → optC r = some cn → OKv P own ρ (Instr.makeMap t R) w (.map s.next) (s.new o) := by
    intro o ho kt et hd hcn
    obtain ⟨ρ', X, w', h1, h2, h3⟩ := core o ho
    cases r with
    | none =>
      have hr : R = none := hr
      subst hr
      exact ⟨ρ', X, w', h1, by simpa [Instr.makeMap] using h2, h3⟩
    | some v0 =>
      obtain ⟨W, rfl, hW⟩ := hr
      simp only [optC] at hcn
      split at hcn
      · rename_i c1 n hn
        cases hcn
        obtain ⟨k, rfl⟩ := natOf_rel hn hc hW
        exact ⟨ρ', X, w', h1, by simpa [Instr.makeMap, run_und hd, asInt, run_asIntOf] using h2, h3⟩
      · cases hcn
  unfold eMakeMap at hq
  split at hq
  · rename_i c1 kt et hcn hd
    split at hq
    · cases hq
      exact all _ (fun ρ' => ⟨#[], rfl, rfl⟩) kt et hd hcn
    · cases hq
      exact all _ (fun ρ' => ⟨#[], rfl, rfl⟩) kt et hd hcn
  · cases hq
end
end Go.Sym
end
