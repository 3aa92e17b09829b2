/-
  Texts of this claim, one behind the other: SymMa. Each says its own conditions.
-/
import Derived.Test.YtlfhiophojahbaaCloM14
import Derived.Maps.RangeRun

set_option linter.unusedVariables false
set_option linter.unusedSimpArgs false
set_option linter.unusedSectionVars false
section
namespace Go.Sym
set_option linter.unusedSimpArgs false
set_option linter.unusedVariables false

noncomputable section
variable (P : Program)
def modE (l : List (V × V × Nat)) (i : Nat) (k v : V) : List (V × V × Nat) :=
  match l, i with
  | [], _ => []
  | e :: l, 0 => (k, v, e.2.2) :: l
  | e :: l, i + 1 => e :: modE l i k v
def eMapUpdate (s : St) (t : TypeId) (m k v : V) : Option St :=
  match P.underlying t with
  | some (.map kt _) =>
    bif !plainKeyE P kt k then none else
    match m with
    | .map b => match s.heap.get b with
      | some (.map es c) => match findE k es 0 with
        | some (some (i, _)) => some (s.upd b (.map (modE es i k v) c))
        | some none => some (s.upd b (.map (lapp es [(k, v, c)]) (c + 1)))
        | none => none
      | _ => none
    | _ => none
  | _ => none
def eMapEntry (s : St) (t : TypeId) (m k : V) : Option (V × St) :=
  match P.underlying t with
  | some (.map kt e) =>
    bif !plainKeyE P kt k then none else
    match m with
    | .map b => match s.heap.get b with
      | some (.map es c) => match findE k es 0 with
        | some (some (i, v)) => match lget es i with
          | some x => some (.tup [v, .int .i64 (Int.ofNat x.2.2)], s.upd b (.map (modE es i k v) c))
          | none => none
        | some none => match zeroE P e with
          | some z => some (.tup [z, .int .i64 (Int.ofNat c)], s.upd b (.map (lapp es [(k, z, c)]) (c + 1)))
          | none => none
        | none => none
      | _ => none
    | _ => none
  | _ => none
def stampE (n : Nat) : List (V × V × Nat) → Nat → Option Nat
  | [], _ => none
  | e :: l, i => bif Nat.beq e.2.2 n then some i else stampE n l (i + 1)
def setVal (l : List (V × V × Nat)) (i : Nat) (v : V) : List (V × V × Nat) :=
  match l, i with
  | [], _ => []
  | e :: l, 0 => (e.1, v, e.2.2) :: l
  | e :: l, i + 1 => e :: setVal l i v
def eEntryStore (s : St) (m st v : V) : Option (List Bool × St) :=
  match m, natOf st with
  | .map b, some (cn, n) => match s.heap.get b with
    | some (.map es c) => match stampE n es 0 with
      | some i => some (cn, s.upd b (.map (setVal es i v) c))
      | none => none
    | _ => none
  | _, _ => none
def delE (l : List (V × V × Nat)) (i : Nat) : List (V × V × Nat) :=
  match l, i with
  | [], _ => []
  | _ :: l, 0 => l
  | e :: l, i + 1 => e :: delE l i
def eDelete (s : St) (ts : Array TypeId) (m k : V) : Option (V × St) :=
  match ts[0]? with
  | none => none
  | some t =>
  match P.underlying t with
  | some (.map kt _) =>
    bif !plainKeyE P kt k then none else
    match m with
    | .nilm => some (.undef, s)
    | .map b => match s.heap.get b with
      | some (.map es c) => match findE k es 0 with
        | some (some (i, _)) => some (.undef, s.upd b (.map (delE es i) c))
        | some none => some (.undef, s.upd b (.map es c))
        | none => none
      | _ => none
    | _ => none
  | _ => none
end

section
variable {k t : Ty}
def modP (k t : Ty) : List (k.den × t.den × Nat) → Nat → k.den → t.den → List (k.den × t.den × Nat)
  | [], _, _, _ => []
  | e :: l, 0, d, x => (d, x, e.2.2) :: l
  | e :: l, i + 1, d, x => e :: modP k t l i d x
def setP (k t : Ty) : List (k.den × t.den × Nat) → Nat → t.den → List (k.den × t.den × Nat)
  | [], _, _ => []
  | e :: l, 0, x => (e.1, x, e.2.2) :: l
  | e :: l, i + 1, x => e :: setP k t l i x
def delP (k t : Ty) : List (k.den × t.den × Nat) → Nat → List (k.den × t.den × Nat)
  | [], _ => []
  | _ :: l, 0 => l
  | e :: l, i + 1 => e :: delP k t l i
def stampP (k t : Ty) (n : Nat) : List (k.den × t.den × Nat) → Nat → Option Nat
  | [], _ => none
  | e :: l, i => bif Nat.beq e.2.2 n then some i else stampP k t n l (i + 1)
def pmPut0 (k t : Ty) (M : List (k.den × t.den × Nat)) (d : k.den) (x : t.den) (c : Nat) : List (k.den × t.den × Nat) := match pmF k t d M 0 with
  | some r => modP k t M r.1 d x
  | none => M ++ [(d, x, c)]
def pmClk0 (k t : Ty) (M : List (k.den × t.den × Nat)) (d : k.den) (c : Nat) : Nat := match pmF k t d M 0 with
  | some _ => c
  | none => c + 1
def pmDel0 (k t : Ty) (M : List (k.den × t.den × Nat)) (d : k.den) : List (k.den × t.den × Nat) := match pmF k t d M 0 with
  | some r => delP k t M r.1
  | none => M
def pmTouch0 (k t : Ty) (M : List (k.den × t.den × Nat)) (d : k.den) (z : t.den) (c : Nat) : List (k.den × t.den × Nat) := match pmF k t d M 0 with
  | some r => modP k t M r.1 d r.2.1
  | none => M ++ [(d, z, c)]
def pmBorn0 (k t : Ty) (M : List (k.den × t.den × Nat)) (d : k.den) (c : Nat) : Nat := match pmF k t d M 0 with
  | some r => r.2.2
  | none => c
def pmSet0 (k t : Ty) (M : List (k.den × t.den × Nat)) (n : Nat) (x : t.den) : List (k.den × t.den × Nat) := match stampP k t n M 0 with
  | some i => setP k t M i x
  | none => M
def pmHasB0 (k t : Ty) (M : List (k.den × t.den × Nat)) (n : Nat) : Bool := match stampP k t n M 0 with
  | some _ => true
  | none => false
end
def tyD : (t : Ty) → t.den
  | .int _ => (0 : Int)
  | .bool => false
  | .str => ByteArray.empty
  | .lst _ => []
def pmEnt0 (k t : Ty) (M : List (k.den × t.den × Nat)) (n : Nat) : k.den × t.den × Nat := match M.find? fun e => e.2.2 == n with
  | some e => e
  | none => (tyD k, tyD t, 0)
noncomputable def pmEntK : (k t : Ty) → List (k.den × t.den × Nat) → Nat → k.den := hide fun k t M n => (pmEnt0 k t M n).1
noncomputable def pmEntV : (k t : Ty) → List (k.den × t.den × Nat) → Nat → t.den := hide fun k t M n => (pmEnt0 k t M n).2.1
theorem pmEntK_eq : pmEntK = fun k t M n => (pmEnt0 k t M n).1 := hide_eq _
theorem pmEntV_eq : pmEntV = fun k t M n => (pmEnt0 k t M n).2.1 := hide_eq _
noncomputable def pmPut : (k t : Ty) → List (k.den × t.den × Nat) → k.den → t.den → Nat → List (k.den × t.den × Nat) := hide pmPut0
noncomputable def pmClk : (k t : Ty) → List (k.den × t.den × Nat) → k.den → Nat → Nat := hide pmClk0
noncomputable def pmDel : (k t : Ty) → List (k.den × t.den × Nat) → k.den → List (k.den × t.den × Nat) := hide pmDel0
noncomputable def pmTouch : (k t : Ty) → List (k.den × t.den × Nat) → k.den → t.den → Nat → List (k.den × t.den × Nat) := hide pmTouch0
noncomputable def pmBorn : (k t : Ty) → List (k.den × t.den × Nat) → k.den → Nat → Nat := hide pmBorn0
noncomputable def pmSet : (k t : Ty) → List (k.den × t.den × Nat) → Nat → t.den → List (k.den × t.den × Nat) := hide pmSet0
noncomputable def pmHasB : (k t : Ty) → List (k.den × t.den × Nat) → Nat → Bool := hide pmHasB0
theorem pmPut_eq : pmPut = pmPut0 := hide_eq _
theorem pmClk_eq : pmClk = pmClk0 := hide_eq _
theorem pmDel_eq : pmDel = pmDel0 := hide_eq _
theorem pmTouch_eq : pmTouch = pmTouch0 := hide_eq _
theorem pmBorn_eq : pmBorn = pmBorn0 := hide_eq _
theorem pmSet_eq : pmSet = pmSet0 := hide_eq _
theorem pmHasB_eq : pmHasB = pmHasB0 := hide_eq _

def notLst : Ty → Bool
  | .lst _ => false
  | _ => true
noncomputable section
variable (P : Program)
def plain1 (t : TypeId) : Option Ty :=
  match P.underlying t with
  | some (.int k) => some (.int k)
  | some .bool => some .bool
  | some .string => some .str
  | _ => none
def optC : Option V → Option (List Bool)
  | none => some []
  | some h => match natOf h with
    | some (c, _) => some c
    | none => none
def eMakeMap (s : St) (t : TypeId) (r : Option V) : Er :=
  match optC r, P.underlying t with
  | some c, some (.map kt et) => (match plain1 P kt, plain1 P et with
    | some k, some t' => some (c, .map s.next, s.new (.pm k t' [] 0))
    | _, _ => some (c, .map s.next, s.new (.map [] 0)))
  | _, _ => none
def eRange (s : St) (t : TypeId) (x : V) : Er :=
  match P.underlying t, x with
  | some (.map _ _), .map b => (match pmAt s b with
    | some ⟨_, _, _, c⟩ => some ([], .ptr s.next 0, s.new (.mit b c [] c))
    | none => none)
  | _, _ => none
def eEntry (s : St) (x : V) : Er :=
  match x with
  | .ptr b o => bif Nat.beq o 0 then (match s.heap.get b with
    | some (.mit m _ (n :: _) c) => (match pmAt s m with
      | some ⟨k, t, M, c'⟩ => some ([decide (c' = c), pmHasB k t M n], .tup [toV k (pmEntK k t M n), toV t (pmEntV k t M n)], s)
      | none => none)
    | _ => none) else none
  | _ => none
def eMapSet (s : St) (t : TypeId) (m key v : V) : Es :=
  match P.underlying t, m with
  | some (.map kt et), .map b => (match pmAt s b with
    | some ⟨k, t', M, c⟩ => bif plainKeyE P kt key then (match ofV k key, ofV t' v with
      | some d, some x => some ([], s.upd b (.pm k t' (pmPut k t' M d x c) (pmClk k t' M d c)))
      | _, _ => none) else none
    | none => (match eMapUpdate P s t m key v with
      | some s' => some ([], s')
      | none => none))
  | _, _ => none
def eMapAt (s : St) (t : TypeId) (m key : V) : Er :=
  match P.underlying t, m with
  | some (.map kt et), .map b => (match pmAt s b with
    | some ⟨k, t', M, c⟩ => bif plainKeyE P kt key then (match ofV k key, zeroE P et with
      | some d, some z => (match ofV t' z with
        | some dz => bif !notLst t' then none else some ([], .tup [toV t' (pmGet k t' M d dz), .int .i64 ((pmBorn k t' M d c : Nat) : Int)], s.upd b (.pm k t' (pmTouch k t' M d dz c) (pmClk k t' M d c)))
        | none => none)
      | _, _ => none) else none
    | none => (match eMapEntry P s t m key with
      | some (v, s') => some ([], v, s')
      | none => none))
  | _, _ => none
def eStamp (s : St) (m st v : V) : Es :=
  match m with
  | .map b => (match pmAt s b with
    | some ⟨k, t', M, c⟩ => (match natOf st, ofV t' v with
      | some (cn, n), some x => some (pmHasB k t' M n :: cn, s.upd b (.pm k t' (pmSet k t' M n x) c))
      | _, _ => none)
    | none => eEntryStore s m st v)
  | _ => none
def eDel (s : St) (ts : Array TypeId) (m key : V) : Er :=
  match ts[0]? with
  | none => none
  | some t => (match P.underlying t, m with
    | some (.map kt et), .map b => (match pmAt s b with
      | some ⟨k, t', M, c⟩ => bif plainKeyE P kt key then (match ofV k key with
        | some d => some ([], .undef, s.upd b (.pm k t' (pmDel k t' M d) c))
        | none => none) else none
      | none => (match eDelete P s ts m key with
        | some (v, s') => some ([], v, s')
        | none => none))
    | some (.map kt et), .nilm => (match eDelete P s ts m key with
        | some (v, s') => some ([], v, s')
        | none => none)
    | _, _ => none)
end

section
variable {P : Program} {own : Own} {ρ : Env} {s : St} {w : World}

theorem getObj_map {B : Nat} {E : Array MapEntry} {c : Nat} (h : w.heap[B]? = some (.map E c)) : (getObj B).run P w = .ok (.map E c) w := by simp only [getObj, Sem.run, h]
theorem setObj_map {B : Nat} {E : Array MapEntry} {c : Nat} (h : w.heap[B]? = some (.map E c)) (o : Obj) : (setObj B o).run P w = .ok () { w with heap := w.heap.setIfInBounds B o } := by simp only [setObj, Sem.run, h]

theorem findE_bound {k : V} : ∀ {l : List (V × V × Nat)} {i j : Nat} {v : V}, findE k l i = some (some (j, v)) → ∃ e, i ≤ j ∧ l[j - i]? = some e ∧ keyEq k e.1 = some true ∧ e.2.1 = v
  | [], i, j, v, h => by simp [findE] at h
  | e :: l, i, j, v, h => by
    simp only [findE] at h
    split at h
    · rename_i he
      cases h
      exact ⟨e, Nat.le_refl _, by simp, he, rfl⟩
    · obtain ⟨e', h1, h2, h3, h4⟩ := findE_bound h
      refine ⟨e', by omega, ?_, h3, h4⟩
      obtain ⟨d, rfl⟩ : ∃ d, j = i + 1 + d := ⟨j - (i + 1), by omega⟩
      rw [show i + 1 + d - (i + 1) = d from by omega] at h2
      rw [show i + 1 + d - i = d + 1 from by omega]
      simpa using h2
    · cases h

theorem MRel.get : ∀ {l : List (V × V × Nat)} {E : List MapEntry}, MRel ρ l E → ∀ {i : Nat} {e : V × V × Nat}, l[i]? = some e → ∃ x, E[i]? = some x ∧ VRel ρ e.1 x.key ∧ VRel ρ e.2.1 x.val ∧ e.2.2 = x.born
  | [], _, _, i, e, h => by simp at h
  | a :: l, E, hr, i, e, h => by
    obtain ⟨x, y, rfl, h1, h2, h3, h4⟩ := hr
    cases i with
    | zero => simp at h; subst h; exact ⟨x, rfl, h1, h2, h3⟩
    | succ i => simp at h; simpa using MRel.get h4 h

theorem MRel.mod : ∀ {l : List (V × V × Nat)} {E : List MapEntry}, MRel ρ l E → ∀ (i : Nat) {k v : V} {K X : Value}, VRel ρ k K → VRel ρ v X → MRel ρ (modE l i k v) (E.modify i fun e => { e with key := K, val := X })
  | [], E, h, i, k, v, K, X, hk, hv => by have h : E = [] := h; subst h; simp [modE, MRel]
  | a :: l, E, hr, i, k, v, K, X, hk, hv => by
    obtain ⟨x, y, rfl, h1, h2, h3, h4⟩ := hr
    cases i with
    | zero => rw [List.modify_zero_cons]; exact ⟨_, _, rfl, hk, hv, h3, h4⟩
    | succ i => rw [List.modify_succ_cons]; exact ⟨x, _, rfl, h1, h2, h3, MRel.mod h4 i hk hv⟩
theorem MRel.snoc : ∀ {l : List (V × V × Nat)} {E : List MapEntry}, MRel ρ l E → ∀ {k v : V} {K X : Value} {c : Nat}, VRel ρ k K → VRel ρ v X → MRel ρ (l ++ [(k, v, c)]) (E ++ [⟨K, X, c⟩])
  | [], E, h, k, v, K, X, c, hk, hv => by have h : E = [] := h; subst h; exact ⟨_, _, rfl, hk, hv, rfl, rfl⟩
  | a :: l, E, hr, k, v, K, X, c, hk, hv => by
    obtain ⟨x, y, rfl, h1, h2, h3, h4⟩ := hr
    exact ⟨x, _, rfl, h1, h2, h3, MRel.snoc h4 hk hv⟩
theorem MRel.del : ∀ {l : List (V × V × Nat)} {E : List MapEntry}, MRel ρ l E → ∀ (i : Nat), MRel ρ (delE l i) (E.eraseIdx i)
  | [], E, h, i => by have h : E = [] := h; subst h; simp [delE, MRel]
  | a :: l, E, hr, i => by
    obtain ⟨x, y, rfl, h1, h2, h3, h4⟩ := hr
    cases i with
    | zero => exact h4
    | succ i => rw [List.eraseIdx_cons_succ]; exact ⟨x, _, rfl, h1, h2, h3, MRel.del h4 i⟩
theorem MRel.setv : ∀ {l : List (V × V × Nat)} {E : List MapEntry}, MRel ρ l E → ∀ (i : Nat) {v : V} {X : Value}, VRel ρ v X → MRel ρ (setVal l i v) (E.modify i fun e => { e with val := X })
  | [], E, h, i, v, X, hv => by have h : E = [] := h; subst h; simp [setVal, MRel]
  | a :: l, E, hr, i, v, X, hv => by
    obtain ⟨x, y, rfl, h1, h2, h3, h4⟩ := hr
    cases i with
    | zero => rw [List.modify_zero_cons]; exact ⟨_, _, rfl, h1, hv, h3, h4⟩
    | succ i => rw [List.modify_succ_cons]; exact ⟨x, _, rfl, h1, h2, h3, MRel.setv h4 i hv⟩

theorem keyStays {k e : V} (h : keyEq k e = some true) {K X : Value} (hk : VRel ρ k K) (he : VRel ρ e X) : (Instr.keyThatStays X K).run P w = .ok K w := by
  have : Instr.sameBits 10000 X K = true := by
    unfold keyEq at h
    split at h
    · rename_i k1 x k2 y
      rw [kEq_iff] at h
      cases hkk : decide (k1 = k2) with
      | false => simp [hkk] at h
      | true =>
        have ee : k1 = k2 := by simpa using hkk
        subst ee
        simp only [decide_true, cond_true, Option.some.injEq, decide_eq_true_eq] at h
        subst h
        simp only [VRel] at hk he; subst hk; subst he
        simp [Instr.sameBits]
    · simp only [Option.some.injEq] at h
      have h := of_decide_eq_true h
      subst h
      simp only [VRel] at hk he; subst hk; subst he
      simp [Instr.sameBits, beq_toListBytes]
    · simp only [Option.some.injEq, beq_iff_eq] at h
      subst h
      simp only [VRel] at hk he; subst hk; subst he
      simp [Instr.sameBits]
    · cases h
  simp [Instr.keyThatStays, this]

theorem SRel.mapObj (h : SRel own ρ s w) {b : Nat} {es : List (V × V × Nat)} {c : Nat} (hg : s.heap.get b = some (.map es c)) {B O S : Nat} (hx : ρ b = some ⟨B, O, S⟩) :
    ∃ E, w.heap[B]? = some (.map E c) ∧ MRel ρ es E.toList ∧ own B := by
  obtain ⟨y, h1, h2, E, h3, h4⟩ := h.obj' hg hx
  rw [hx] at h1; cases h1
  exact ⟨E, h3, h4, h2.1⟩

theorem eMapUpdate_rel (h : SRel own ρ s w) {t : TypeId} {m k v : V} {s' : St} (hq : eMapUpdate P s t m k v = some s') {M K X : Value} (hm : VRel ρ m M) (hk : VRel ρ k K) (hv : VRel ρ v X) :
    ∃ w', (Instr.mapUpdate t M K X).run P w = .ok () w' ∧ SRel own ρ s' w' ∧ Fr own w w' := by
  unfold eMapUpdate at hq
  simp only [llen_eq, lall_eq, ltake_eq, ldrop_eq, lapp_eq, lget_eq] at hq
  split at hq
  · rename_i kt et hd
    obtain ⟨hp, hq⟩ := bool_not_cond hq (by simp)
    split at hq
    · rename_i b
      split at hq
      · rename_i es c hg
        simp only [VRel] at hm
        obtain ⟨B, O, S, hB, rfl⟩ := hm
        obtain ⟨E, hE, hrel, hbase⟩ := h.mapObj hg hB
        split at hq
        · rename_i i v0 hf
          cases hq
          obtain ⟨e, _, he1, he2, _⟩ := findE_bound hf
          rw [Nat.sub_zero] at he1
          obtain ⟨x, hx1, hx2, _, _⟩ := hrel.get he1
          simp only [Array.getElem?_toList] at hx1
          rcases run_findKeyE (w := w) hk hp hrel hf with ⟨h1, _⟩ | ⟨j, v2, W, h1, h2, h3⟩
          · cases h1
          · cases h1
            refine ⟨{ w with heap := w.heap.setIfInBounds B (.map (E.modify i fun e => { e with key := K, val := X }) c) }, ?_, h.upd hg hB _ (.map (E.modify i fun e => { e with key := K, val := X }) c) rfl ⟨_, rfl, by rw [Array.toList_modify]; exact hrel.mod i hk hv⟩, fr_set hbase rfl⟩
            simp [Instr.mapUpdate, run_und hd, getObj_map hE, run_checkKeyE hk hp, h2, hx1, keyStays he2 hk hx2, setObj_map hE]
        · rename_i hf
          cases hq
          rcases run_findKeyE (w := w) hk hp hrel hf with ⟨_, h2⟩ | ⟨j, v2, W, h1, _, _⟩
          · refine ⟨{ w with heap := w.heap.setIfInBounds B (.map (E.push ⟨K, X, c⟩) (c + 1)) }, ?_, h.upd hg hB _ (.map (E.push ⟨K, X, c⟩) (c + 1)) rfl ⟨_, rfl, by rw [Array.toList_push]; exact hrel.snoc hk hv⟩, fr_set hbase rfl⟩
            simp [Instr.mapUpdate, run_und hd, getObj_map hE, run_checkKeyE hk hp, h2, setObj_map hE]
          · cases h1
        · cases hq
      · cases hq
    · cases hq
  · cases hq

theorem eMapEntry_rel (h : SRel own ρ s w) {t : TypeId} {m k v : V} {s' : St} (hq : eMapEntry P s t m k = some (v, s')) {M K : Value} (hm : VRel ρ m M) (hk : VRel ρ k K) :
    OKv P own ρ (Instr.mapEntry t M K) w v s' := by
  unfold eMapEntry at hq
  simp only [llen_eq, lall_eq, ltake_eq, ldrop_eq, lapp_eq, lget_eq] at hq
  split at hq
  · rename_i kt et hd
    obtain ⟨hp, hq⟩ := bool_not_cond hq (by simp)
    split at hq
    · rename_i b
      split at hq
      · rename_i es c hg
        simp only [VRel] at hm
        obtain ⟨B, O, S, hB, rfl⟩ := hm
        obtain ⟨E, hE, hrel, hbase⟩ := h.mapObj hg hB
        split at hq
        · rename_i i v0 hf
          obtain ⟨e, _, he1, he2, he3⟩ := findE_bound hf
          rw [Nat.sub_zero] at he1
          rw [he1] at hq
          cases hq
          obtain ⟨x, hx1, hx2, hx3, hx4⟩ := hrel.get he1
          simp only [Array.getElem?_toList] at hx1
          rcases run_findKeyE (w := w) hk hp hrel hf with ⟨h1, _⟩ | ⟨j, v2, W, h1, h2, h3⟩
          · cases h1
          · cases h1
            have hrel' : MRel ρ (modE es i k v0) (E.modify i fun e => { e with key := K }).toList := by
              have hx3' : VRel ρ v0 x.val := by rw [← he3]; exact hx3
              have := hrel.mod i hk hx3'
              rw [Array.toList_modify]
              have e1 : (E.toList.modify i fun e => { e with key := K, val := x.val }) = E.toList.modify i fun e => { e with key := K } := by
                apply List.ext_getElem?
                intro n
                rw [List.getElem?_modify, List.getElem?_modify]
                by_cases hn : i = n
                · subst hn
                  have : E.toList[i]? = some x := by simpa using hx1
                  simp [this]
                · simp [hn]
              rw [← e1]; exact this
            refine ⟨ρ, .tuple #[W, .int .i64 x.born], { w with heap := w.heap.setIfInBounds B (.map (E.modify i fun e => { e with key := K }) c) }, ρ.le_refl, ?_, ?_, h.upd hg hB _ (.map (E.modify i fun e => { e with key := K }) c) rfl ⟨_, rfl, hrel'⟩, fr_set hbase rfl⟩
            · simp [Instr.mapEntry, run_und hd, getObj_map hE, run_checkKeyE hk hp, h2, hx1, keyStays he2 hk hx2, setObj_map hE, goInt]
            · simp only [VRel]
              exact ⟨_, rfl, LRel.cons h3 (LRel.cons (by rw [← hx4]; exact vint _ _) LRel.nil)⟩
        · rename_i hf
          split at hq
          · rename_i z hz
            cases hq
            obtain ⟨Z, hZ, hzr, _⟩ := zeroE_rel (ρ := ρ) (w := w) hz
            rcases run_findKeyE (w := w) hk hp hrel hf with ⟨_, h2⟩ | ⟨j, v2, W, h1, _, _⟩
            · refine ⟨ρ, .tuple #[Z, .int .i64 c], { w with heap := w.heap.setIfInBounds B (.map (E.push ⟨K, Z, c⟩) (c + 1)) }, ρ.le_refl, ?_, ?_, h.upd hg hB _ (.map (E.push ⟨K, Z, c⟩) (c + 1)) rfl ⟨_, rfl, by rw [Array.toList_push]; exact hrel.snoc hk hzr⟩, fr_set hbase rfl⟩
              · simp [Instr.mapEntry, run_und hd, getObj_map hE, run_checkKeyE hk hp, h2, hZ, setObj_map hE, goInt]
              · simp only [VRel]
                exact ⟨_, rfl, LRel.cons hzr (LRel.cons (vint _ _) LRel.nil)⟩
            · cases h1
          · cases hq
        · cases hq
      · cases hq
    · cases hq
  · cases hq

theorem stampE_rel {n : Nat} : ∀ {l : List (V × V × Nat)} {E : List MapEntry}, MRel ρ l E → ∀ {i j : Nat}, stampE n l i = some j → ∃ d, j = i + d ∧ E.findIdx? (fun e => (e.born : Int) == (n : Int)) = some d
  | [], _, _, i, j, h => by simp [stampE] at h
  | a :: l, E, hr, i, j, h => by
    obtain ⟨x, y, rfl, h1, h2, h3, h4⟩ := hr
    simp only [stampE] at h
    cases hb : Nat.beq a.2.2 n with
    | true =>
      simp only [hb, cond_true, Option.some.injEq] at h
      have : a.2.2 = n := by simpa using hb
      refine ⟨0, by omega, ?_⟩
      rw [List.findIdx?_cons]
      have e : ((x.born : Int) == (n : Int)) = true := by simp; omega
      simp [e]
    | false =>
      simp only [hb, cond_false] at h
      obtain ⟨d, e1, e2⟩ := stampE_rel h4 h
      refine ⟨d + 1, by omega, ?_⟩
      rw [List.findIdx?_cons]
      have hne : a.2.2 ≠ n := by intro e; subst e; simp at hb
      have e : ((x.born : Int) == (n : Int)) = false := by simp; omega
      simp [e, e2]

theorem eEntryStore_rel (h : SRel own ρ s w) {t : TypeId} {m st v : V} {s' : St} {cn : List Bool} (hq : eEntryStore s m st v = some (cn, s')) (hc : allB cn) {M T X : Value} (hm : VRel ρ m M) (ht : VRel ρ st T) (hv : VRel ρ v X) :
    ∃ w', (Instr.entryStore t M T X).run P w = .ok () w' ∧ SRel own ρ s' w' ∧ Fr own w w' := by
  unfold eEntryStore at hq
  split at hq
  · rename_i b cn' n hn
    split at hq
    · rename_i es c hg
      split at hq
      · rename_i i hi
        cases hq
        simp only [VRel] at hm
        obtain ⟨B, O, S, hB, rfl⟩ := hm
        obtain ⟨k, rfl⟩ := natOf_rel hn hc ht
        obtain ⟨E, hE, hrel, hbase⟩ := h.mapObj hg hB
        obtain ⟨d, e1, e2⟩ := stampE_rel hrel hi
        have e1 : i = d := by omega
        subst e1
        have e3 : E.findIdx? (fun e => (e.born : Int) == (n : Int)) = some i := by
          rw [← e2]; cases E; simp
        refine ⟨{ w with heap := w.heap.setIfInBounds B (.map (E.modify i fun e => { e with val := X }) c) }, ?_, h.upd hg hB _ (.map (E.modify i fun e => { e with val := X }) c) rfl ⟨_, rfl, by rw [Array.toList_modify]; exact hrel.setv i hv⟩, fr_set hbase rfl⟩
        simp [Instr.entryStore, getObj_map hE, asInt, run_asIntOf, e3, setObj_map hE]
      · cases hq
    · cases hq
  · cases hq

theorem eDelete_rel (h : SRel own ρ s w) {ts : Array TypeId} {ty : TypeId} {m k v : V} {s' : St} (hq : eDelete P s ts m k = some (v, s')) {M K : Value} (hm : VRel ρ m M) (hk : VRel ρ k K) :
    OKv P own ρ (Builtin.delete_ ts ty #[M, K]) w v s' := by
  unfold eDelete at hq
  split at hq
  · cases hq
  rename_i t ht
  split at hq
  · rename_i kt et hd
    obtain ⟨hp, hq⟩ := bool_not_cond hq (by simp)
    split at hq
    · cases hq
      simp only [VRel] at hm; subst hm
      exact ⟨ρ, _, w, ρ.le_refl, by simp [Builtin.delete_, ht, run_und hd, run_checkKeyE hk hp]; rfl, by simp only [VRel], h, Fr.refl _ _⟩
    · rename_i b
      split at hq
      · rename_i es c hg
        simp only [VRel] at hm
        obtain ⟨B, O, S, hB, rfl⟩ := hm
        obtain ⟨E, hE, hrel, hbase⟩ := h.mapObj hg hB
        split at hq
        · rename_i i v0 hf
          cases hq
          rcases run_findKeyE (w := w) hk hp hrel hf with ⟨h1, _⟩ | ⟨j, v2, W, h1, h2, h3⟩
          · cases h1
          · cases h1
            obtain ⟨e, _, he1, _, _⟩ := findE_bound hf
            rw [Nat.sub_zero] at he1
            obtain ⟨x, hx1, _⟩ := hrel.get he1
            have hlt : i < E.size := by
              have := (List.getElem?_eq_some_iff.1 hx1).1
              simpa using this
            refine ⟨ρ, _, { w with heap := w.heap.setIfInBounds B (.map (E.eraseIdxIfInBounds i) c) }, ρ.le_refl, by simp [Builtin.delete_, ht, run_und hd, getObj_map hE, run_checkKeyE hk hp, h2, setObj_map hE]; rfl, by simp only [VRel], h.upd hg hB _ (.map (E.eraseIdxIfInBounds i) c) rfl ⟨_, rfl, ?_⟩, fr_set hbase rfl⟩
            have : (E.eraseIdxIfInBounds i).toList = E.toList.eraseIdx i := by
              simp [Array.eraseIdxIfInBounds, hlt]
            rw [this]
            exact hrel.del i
        · rename_i hf
          cases hq
          rcases run_findKeyE (w := w) hk hp hrel hf with ⟨_, h2⟩ | ⟨j, v2, W, h1, _, _⟩
          · refine ⟨ρ, _, { w with heap := w.heap.setIfInBounds B (.map E c) }, ρ.le_refl, by simp [Builtin.delete_, ht, run_und hd, getObj_map hE, run_checkKeyE hk hp, h2, setObj_map hE]; rfl, by simp only [VRel], h.upd hg hB _ (.map E c) rfl ⟨_, rfl, hrel⟩, fr_set hbase rfl⟩
          · cases h1
        · cases hq
      · cases hq
    · cases hq
  · cases hq


theorem SRel.recast (h : SRel own ρ s w) {b : Nat} {o o1 : EObj} (hg : s.heap.get b = some o) (ho : ∀ O S X, ORel ρ O S X o → ORel ρ O S X o1) : SRel own ρ (s.upd b o1) w := by
  refine ⟨h.le, fun k o' x hk hx => ?_, fun k k' o1' o2' x x' hk hk' hx hx' hne => ?_, h.dom, h.top, h.fz, h.old⟩
  · simp only [St.upd, T.get_set] at hk
    split at hk
    · rename_i ek; subst ek; cases hk
      obtain ⟨g1, g2⟩ := h.obj k _ x hg hx
      exact ⟨g1, ho _ _ _ g2⟩
    · exact h.obj k o' x hk hx
  · have g : ∀ k o', (s.upd b o1).heap.get k = some o' → ∃ o'', s.heap.get k = some o'' := by
      intro k o' hk
      simp only [St.upd, T.get_set] at hk
      split at hk
      · rename_i ek; subst ek; exact ⟨_, hg⟩
      · exact ⟨_, hk⟩
    obtain ⟨_, g1⟩ := g _ _ hk
    obtain ⟨_, g2⟩ := g _ _ hk'
    exact h.inj k k' _ _ x x' g1 g2 hx hx' hne
theorem St.upd_get (b : Nat) (o : EObj) : (s.upd b o).heap.get b = some o := by simp only [St.upd, T.get_set, if_true]
theorem SRel.asMap (h : SRel own ρ s w) {b : Nat} {k t : Ty} {M : List (k.den × t.den × Nat)} {c : Nat} (hg : s.heap.get b = some (.pm k t M c)) : SRel own ρ (s.upd b (.map (pmV k t M) c)) w :=
  h.recast hg fun _ _ _ h => h
theorem SRel.asPm (h : SRel own ρ s w) {b : Nat} {k t : Ty} {M : List (k.den × t.den × Nat)} {c : Nat} {s' : St} (hg : s.heap.get b = some (.map (pmV k t M) c)) (hs : s'.next = s.next) (hk : ∀ j, s'.heap.get j = if j = b then some (.pm k t M c) else s.heap.get j) : SRel own ρ s' w := by
  have h1 := h.recast (o1 := .pm k t M c) hg fun _ _ _ h => h
  have h2 := h1.congr (T' := s'.heap) fun j => by
    rw [hk]
    simp only [St.upd, T.get_set]
  cases s' with
  | mk hp n =>
    have hs : n = s.next := hs
    subst hs
    exact h2
theorem modP_V {k t : Ty} : ∀ (M : List (k.den × t.den × Nat)) (i : Nat) (d : k.den) (x : t.den), modE (pmV k t M) i (toV k d) (toV t x) = pmV k t (modP k t M i d x)
  | [], _, _, _ => rfl
  | _ :: _, 0, _, _ => rfl
  | m :: M, i + 1, d, x => congrArg (_ :: ·) (modP_V M i d x)
theorem setP_V {k t : Ty} : ∀ (M : List (k.den × t.den × Nat)) (i : Nat) (x : t.den), setVal (pmV k t M) i (toV t x) = pmV k t (setP k t M i x)
  | [], _, _ => rfl
  | _ :: _, 0, _ => rfl
  | m :: M, i + 1, x => congrArg (_ :: ·) (setP_V M i x)
theorem delP_V {k t : Ty} : ∀ (M : List (k.den × t.den × Nat)) (i : Nat), delE (pmV k t M) i = pmV k t (delP k t M i)
  | [], _ => rfl
  | _ :: _, 0 => rfl
  | m :: M, i + 1 => congrArg (_ :: ·) (delP_V M i)
theorem stampP_V {k t : Ty} {n : Nat} : ∀ (M : List (k.den × t.den × Nat)) (i : Nat), stampE n (pmV k t M) i = stampP k t n M i
  | [], _ => rfl
  | m :: M, i => by
    show (bif Nat.beq m.2.2 n then some i else stampE n (pmV k t M) (i + 1)) = (bif Nat.beq m.2.2 n then some i else stampP k t n M (i + 1))
    rw [stampP_V M (i + 1)]
theorem snocP_V {k t : Ty} (M : List (k.den × t.den × Nat)) (d : k.den) (x : t.den) (c : Nat) : pmV k t M ++ [(toV k d, toV t x, c)] = pmV k t (M ++ [(d, x, c)]) := by
  unfold pmV; rw [List.map_append]; rfl
theorem pmF_lget {k t : Ty} {d : k.den} : ∀ (M : List (k.den × t.den × Nat)) (i : Nat) {r : Nat × t.den × Nat}, pmF k t d M i = some r → i ≤ r.1 ∧ ∃ e, (pmV k t M)[r.1 - i]? = some e ∧ e.2.2 = r.2.2
  | [], i, r, h => by cases h
  | m :: M, i, r, h => by
    rw [pmF] at h
    cases hb : kB k d m.1 with
    | true => rw [hb, cond_true] at h; cases h; exact ⟨Nat.le_refl _, _, by rw [Nat.sub_self]; rfl, rfl⟩
    | false =>
      rw [hb, cond_false] at h
      obtain ⟨h1, e, h2, h3⟩ := pmF_lget M (i + 1) h
      refine ⟨by omega, e, ?_, h3⟩
      rw [show r.1 - i = (r.1 - (i + 1)) + 1 by omega]
      exact h2

theorem eMapSet_rel (h : SRel own ρ s w) {t : TypeId} {m key v : V} {cn : List Bool} {s' : St} (hq : eMapSet P s t m key v = some (cn, s')) {M K X : Value} (hm : VRel ρ m M) (hk : VRel ρ key K) (hv : VRel ρ v X) :
    ∃ w', (Instr.mapUpdate t M K X).run P w = .ok () w' ∧ SRel own ρ s' w' ∧ Fr own w w' := by
  unfold eMapSet at hq
  split at hq
  · rename_i kt et b hd
    split at hq
    · rename_i k t' ML c hp
      have hg := pmAt_some hp
      cases hpk : plainKeyE P kt key with
      | false => rw [hpk] at hq; cases hq
      | true =>
      rw [hpk, cond_true] at hq
      split at hq
      · rename_i d x hd1 hx1
        cases hq
        obtain ⟨rfl, hkeq⟩ := keyV hpk hd1
        have hv' := ofV_toV hx1 hv
        have h1 := h.asMap hg
        have hf := pmF_find hkeq ML 0
        have key : ∀ (es : List (V × V × Nat)) (ML' : List (k.den × t'.den × Nat)) (c' : Nat), es = pmV k t' ML' → eMapUpdate P (s.upd b (.map (pmV k t' ML) c)) t (.map b) (toV k d) (toV t' x) = some ((s.upd b (.map (pmV k t' ML) c)).upd b (.map es c')) →
            pmPut0 k t' ML d x c = ML' → pmClk0 k t' ML d c = c' → ∃ w', (Instr.mapUpdate t M K X).run P w = .ok () w' ∧ SRel own ρ (s.upd b (.pm k t' (pmPut k t' ML d x c) (pmClk k t' ML d c))) w' ∧ Fr own w w' := by
          intro es ML' c' he hu e1 e2
          obtain ⟨w', g1, g2, g3⟩ := eMapUpdate_rel h1 hu hm hk hv'
          refine ⟨w', g1, ?_, g3⟩
          rw [pmPut_eq, pmClk_eq, e1, e2]
          subst he
          refine g2.asPm (St.upd_get b _) rfl fun j => ?_
          simp only [St.upd, T.get_set]
          split
          · rfl
          · rfl
        cases hF : pmF k t' d ML 0 with
        | some r =>
          rw [hF] at hf
          refine key _ (modP k t' ML r.1 d x) c (modP_V ML r.1 d x) ?_ (by simp only [pmPut0, hF]) (by simp only [pmClk0, hF])
          simp only [eMapUpdate, hd, hpk, Bool.not_true, cond_false, St.upd_get, hf]
        | none =>
          rw [hF] at hf
          refine key _ (ML ++ [(d, x, c)]) (c + 1) (snocP_V ML d x c) ?_ (by simp only [pmPut0, hF]) (by simp only [pmClk0, hF])
          simp only [eMapUpdate, hd, hpk, Bool.not_true, cond_false, St.upd_get, hf, lapp_eq]
      · cases hq
    · split at hq
      · rename_i s1 hu
        cases hq
        exact eMapUpdate_rel h hu hm hk hv
      · cases hq
  · cases hq
theorem ofV_id {t : Ty} {z : V} {dz : t.den} (hn : notLst t = true) (h : ofV t z = some dz) : toV t dz = z := by
  cases t with
  | int kk =>
    simp only [ofV, ofInt] at h
    split at h
    · rename_i k' n
      cases hk : kEq kk k' with
      | false => rw [hk] at h; cases h
      | true =>
        rw [hk, cond_true] at h
        cases h
        rw [kEq_iff] at hk
        have hk := of_decide_eq_true hk
        subst hk
        rfl
    · cases h
  | bool =>
    simp only [ofV, ofBool] at h
    split at h
    · cases h; rfl
    · cases h
  | str =>
    simp only [ofV, ofStr] at h
    split at h
    · cases h; rfl
    · cases h
  | lst e => cases hn
theorem eMapAt_rel (h : SRel own ρ s w) {t : TypeId} {m key v : V} {cn : List Bool} {s' : St} (hq : eMapAt P s t m key = some (cn, v, s')) {M K : Value} (hm : VRel ρ m M) (hk : VRel ρ key K) :
    OKv P own ρ (Instr.mapEntry t M K) w v s' := by
  unfold eMapAt at hq
  split at hq
  · rename_i kt et b hd
    split at hq
    · rename_i k t' ML c hp
      have hg := pmAt_some hp
      cases hpk : plainKeyE P kt key with
      | false => rw [hpk] at hq; cases hq
      | true =>
      rw [hpk, cond_true] at hq
      split at hq
      · rename_i d z hd1 hz1
        split at hq
        · rename_i dz hdz
          cases hnl : notLst t' with
          | false => rw [hnl] at hq; cases hq
          | true =>
          rw [hnl] at hq
          cases hq
          obtain ⟨rfl, hkeq⟩ := keyV hpk hd1
          have h1 := h.asMap hg
          have hf := pmF_find hkeq ML 0
          have key : ∀ (es : List (V × V × Nat)) (ML' : List (k.den × t'.den × Nat)) (c' n : Nat) (y : t'.den) (y' : V), es = pmV k t' ML' → (∀ (ρ' : Env) Y, VRel ρ' y' Y → VRel ρ' (toV t' y) Y) →
              eMapEntry P (s.upd b (.map (pmV k t' ML) c)) t (.map b) (toV k d) = some (.tup [y', .int .i64 (Int.ofNat n)], (s.upd b (.map (pmV k t' ML) c)).upd b (.map es c')) →
              pmTouch0 k t' ML d dz c = ML' → pmClk0 k t' ML d c = c' → pmBorn0 k t' ML d c = n → pmGet0 k t' ML d dz = y →
              OKv P own ρ (Instr.mapEntry t M K) w (.tup [toV t' (pmGet k t' ML d dz), .int .i64 ((pmBorn k t' ML d c : Nat) : Int)]) (s.upd b (.pm k t' (pmTouch k t' ML d dz c) (pmClk k t' ML d c))) := by
            intro es ML' c' n y y' he hy hu e1 e2 e3 e4
            obtain ⟨ρ', Y, w', g0, g1, g2, g3, g4⟩ := eMapEntry_rel h1 hu hm hk
            refine ⟨ρ', Y, w', g0, g1, ?_, ?_, g4⟩
            · rw [pmGet_eq, pmBorn_eq, e4, e3]
              simp only [VRel] at g2 ⊢
              obtain ⟨A, a1, a2⟩ := g2
              obtain ⟨Y1, Y2, b1, b2, b3⟩ := a2
              exact ⟨A, a1, Y1, Y2, b1, hy _ _ b2, b3⟩
            · rw [pmTouch_eq, pmClk_eq, e1, e2]
              subst he
              refine g3.asPm (St.upd_get b _) rfl fun j => ?_
              simp only [St.upd, T.get_set]
              split
              · rfl
              · rfl
          cases hF : pmF k t' d ML 0 with
          | some r =>
            rw [hF] at hf
            obtain ⟨_, e, he1, he2⟩ := pmF_lget ML 0 hF
            rw [Nat.sub_zero] at he1
            refine key _ (modP k t' ML r.1 d r.2.1) c r.2.2 r.2.1 (toV t' r.2.1) (modP_V ML r.1 d r.2.1) (fun _ _ h => h) ?_ (by simp only [pmTouch0, hF]) (by simp only [pmClk0, hF]) (by simp only [pmBorn0, hF]) (by simp only [pmGet0, hF])
            simp only [eMapEntry, hd, hpk, Bool.not_true, cond_false, St.upd_get, hf, lget_eq, he1, he2]
          | none =>
            rw [hF] at hf
            refine key (pmV k t' ML ++ [(toV k d, z, c)]) (ML ++ [(d, dz, c)]) (c + 1) c dz z ?_ (fun _ _ h => ofV_toV hdz h) ?_ (by simp only [pmTouch0, hF]) (by simp only [pmClk0, hF]) (by simp only [pmBorn0, hF]) (by simp only [pmGet0, hF])
            · rw [← snocP_V, ofV_id hnl hdz]
            · simp only [eMapEntry, hd, hpk, Bool.not_true, cond_false, St.upd_get, hf, hz1, lapp_eq]
        · cases hq
      · cases hq
    · split at hq
      · rename_i v1 s1 hu
        cases hq
        exact eMapEntry_rel h hu hm hk
      · cases hq
  · cases hq
theorem eStamp_rel (h : SRel own ρ s w) {t : TypeId} {m st v : V} {cn : List Bool} {s' : St} (hq : eStamp s m st v = some (cn, s')) (hc : allB cn) {M TT X : Value} (hm : VRel ρ m M) (ht : VRel ρ st TT) (hv : VRel ρ v X) :
    ∃ w', (Instr.entryStore t M TT X).run P w = .ok () w' ∧ SRel own ρ s' w' ∧ Fr own w w' := by
  unfold eStamp at hq
  split at hq
  · rename_i b
    split at hq
    · rename_i k t' ML c hp
      have hg := pmAt_some hp
      split at hq
      · rename_i cn1 n x hn hx
        cases hq
        obtain ⟨hb, hc⟩ := hc
        have h1 := h.asMap hg
        have hv' := ofV_toV hx hv
        rw [pmHasB_eq] at hb
        cases hS : stampP k t' n ML 0 with
        | none => simp only [pmHasB0, hS] at hb; cases hb
        | some i =>
          have hu : eEntryStore (s.upd b (.map (pmV k t' ML) c)) (.map b) st (toV t' x) = some (cn1, (s.upd b (.map (pmV k t' ML) c)).upd b (.map (setVal (pmV k t' ML) i (toV t' x)) c)) := by
            simp only [eEntryStore, hn, St.upd_get, stampP_V, hS]
          obtain ⟨w', g1, g2, g3⟩ := eEntryStore_rel (t := t) h1 hu hc hm ht hv'
          refine ⟨w', g1, ?_, g3⟩
          have e1 : pmSet k t' ML n x = setP k t' ML i x := by rw [pmSet_eq]; simp only [pmSet0, hS]
          rw [e1]
          rw [setP_V] at g2
          refine g2.asPm (St.upd_get b _) rfl fun j => ?_
          simp only [St.upd, T.get_set]
          split
          · rfl
          · rfl
      · cases hq
    · exact eEntryStore_rel h hq hc hm ht hv
  · cases hq
theorem eDel_rel (h : SRel own ρ s w) {ts : Array TypeId} {ty : TypeId} {m key v : V} {cn : List Bool} {s' : St} (hq : eDel P s ts m key = some (cn, v, s')) {M K : Value} (hm : VRel ρ m M) (hk : VRel ρ key K) :
    OKv P own ρ (Builtin.delete_ ts ty #[M, K]) w v s' := by
  unfold eDel at hq
  split at hq
  · cases hq
  rename_i t ht
  split at hq
  · rename_i kt et b hd
    split at hq
    · rename_i k t' ML c hp
      have hg := pmAt_some hp
      cases hpk : plainKeyE P kt key with
      | false => rw [hpk] at hq; cases hq
      | true =>
      rw [hpk, cond_true] at hq
      split at hq
      · rename_i d hd1
        cases hq
        obtain ⟨rfl, hkeq⟩ := keyV hpk hd1
        have h1 := h.asMap hg
        have hf := pmF_find hkeq ML 0
        have key : ∀ (es : List (V × V × Nat)) (ML' : List (k.den × t'.den × Nat)), es = pmV k t' ML' → eDelete P (s.upd b (.map (pmV k t' ML) c)) ts (.map b) (toV k d) = some (.undef, (s.upd b (.map (pmV k t' ML) c)).upd b (.map es c)) →
            pmDel0 k t' ML d = ML' → OKv P own ρ (Builtin.delete_ ts ty #[M, K]) w .undef (s.upd b (.pm k t' (pmDel k t' ML d) c)) := by
          intro es ML' he hu e1
          obtain ⟨ρ', Y, w', g0, g1, g2, g3, g4⟩ := eDelete_rel (ty := ty) h1 hu hm hk
          refine ⟨ρ', Y, w', g0, g1, g2, ?_, g4⟩
          rw [pmDel_eq, e1]
          subst he
          refine g3.asPm (St.upd_get b _) rfl fun j => ?_
          simp only [St.upd, T.get_set]
          split
          · rfl
          · rfl
        cases hF : pmF k t' d ML 0 with
        | some r =>
          rw [hF] at hf
          refine key _ (delP k t' ML r.1) (delP_V ML r.1) ?_ (by simp only [pmDel0, hF])
          simp only [eDelete, ht, hd, hpk, Bool.not_true, cond_false, St.upd_get, hf]
        | none =>
          rw [hF] at hf
          refine key _ ML rfl ?_ (by simp only [pmDel0, hF])
          simp only [eDelete, ht, hd, hpk, Bool.not_true, cond_false, St.upd_get, hf]
      · cases hq
    · split at hq
      · rename_i v1 s1 hu
        cases hq
        exact eDelete_rel h hu hm hk
      · cases hq
  · split at hq
    · rename_i v1 s1 hu
      cases hq
      exact eDelete_rel h hu hm hk
    · cases hq
  · cases hq
theorem eMakeMap_rel (h : SRel own ρ s w) {t : TypeId} {r : Option V} {v : V} {cn : List Bool} {s' : St} (hq : eMakeMap P s t r = some (cn, v, s')) (hc : allB cn) {R : Option Value} (hr : OptRel ρ r R) : OKv P own ρ (Instr.makeMap t R) w v s' := by
  have core : ∀ o : EObj, (∀ ρ', ORel ρ' 0 0 (some (.map #[] 0)) o) → OKv P own ρ (do pure (.map (some (← newObj (.map #[] 0)))) : Sem Value) w (.map s.next) (s.new o) := by
    intro o ho
    have hle := Env.le_put ⟨w.heap.size, 0, 0⟩ h.fresh
    refine ⟨_, .map (some w.heap.size), { w with heap := w.heap.push (.map #[] 0) }, hle, by simp, ?_, h.new _ (.map #[] 0) 0 rfl (ho _), fr_new h.le rfl⟩
    simp only [VRel]; exact ⟨_, _, _, Env.put_same, rfl⟩
  have all : ∀ o : EObj, (∀ ρ', ORel ρ' 0 0 (some (.map #[] 0)) o) → ∀ kt et, P.underlying t = some (.map kt et) → optC r = some cn → OKv P own ρ (Instr.makeMap t R) w (.map s.next) (s.new o) := by
    intro o ho kt et hd hcn
    obtain ⟨ρ', X, w', h1, h2, h3⟩ := core o ho
    cases r with
    | none =>
      have hr : R = none := hr
      subst hr
      exact ⟨ρ', X, w', h1, by simpa [Instr.makeMap] using h2, h3⟩
    | some v0 =>
      obtain ⟨W, rfl, hW⟩ := hr
      simp only [optC] at hcn
      split at hcn
      · rename_i c1 n hn
        cases hcn
        obtain ⟨k, rfl⟩ := natOf_rel hn hc hW
        exact ⟨ρ', X, w', h1, by simpa [Instr.makeMap, run_und hd, asInt, run_asIntOf] using h2, h3⟩
      · cases hcn
  unfold eMakeMap at hq
  split at hq
  · rename_i c1 kt et hcn hd
    split at hq
    · cases hq
      exact all _ (fun ρ' => ⟨#[], rfl, rfl⟩) kt et hd hcn
    · cases hq
      exact all _ (fun ρ' => ⟨#[], rfl, rfl⟩) kt et hd hcn
  · cases hq
theorem stampP_find {k t : Ty} {n : Nat} : ∀ (M : List (k.den × t.den × Nat)) (i : Nat) {E : List MapEntry}, MRel ρ (pmV k t M) E → (stampP k t n M i).isSome = true →
    ∃ e x, M.find? (fun e => e.2.2 == n) = some e ∧ E.find? (·.born == n) = some x ∧ VRel ρ (toV k e.1) x.key ∧ VRel ρ (toV t e.2.1) x.val
  | [], i, E, _, h => by simp [stampP] at h
  | m :: M, i, E, hr, h => by
    obtain ⟨x, y, rfl, h1, h2, h3, h4⟩ := hr
    have h3 : m.2.2 = x.born := h3
    simp only [stampP] at h
    cases hb : Nat.beq m.2.2 n with
    | true =>
      have e : m.2.2 = n := Nat.eq_of_beq_eq_true hb
      refine ⟨m, x, by simp [List.find?_cons, e], by simp [List.find?_cons, ← h3, e], h1, h2⟩
    | false =>
      rw [hb, cond_false] at h
      have e : m.2.2 ≠ n := fun e => by rw [e] at hb; simp at hb
      obtain ⟨e1, x1, g1, g2, g3, g4⟩ := stampP_find M (i + 1) h4 h
      have eb : (m.2.2 == n) = false := by simpa using e
      have ex : (x.born == n) = false := by rw [← h3]; exact eb
      exact ⟨e1, x1, by rw [List.find?_cons, eb]; exact g1, by rw [List.find?_cons, ex]; exact g2, g3, g4⟩
theorem eRange_rel (h : SRel own ρ s w) {t : TypeId} {x v : V} {cn : List Bool} {s' : St} (hq : eRange P s t x = some (cn, v, s')) {X : Value} (hx : VRel ρ x X) : OKv P own ρ (Instr.range t X) w v s' := by
  unfold eRange at hq
  split at hq
  · rename_i kt et b hd
    split at hq
    · rename_i k t' M c hp
      cases hq
      have hg := pmAt_some hp
      simp only [VRel] at hx
      obtain ⟨B, O, S, h1, rfl⟩ := hx
      obtain ⟨_, E, hE, hm⟩ := h.obj b _ _ hg h1
      have hlt := h.lt hg h1
      have hle := Env.le_put ⟨w.heap.size, 0, 0⟩ h.fresh
      have hne : b ≠ s.next := fun e => by
        have := h.dom _ _ h1; omega
      refine ⟨_, .pointer (some ⟨w.heap.size, 0, none⟩), { w with heap := w.heap.push (.mapIter (some B) c #[] c) }, hle, run_range_map w t kt et B E c hd hE, ?_, h.new _ (.mapIter (some B) c #[] c) 0 rfl ⟨rfl, ⟨B, O, S⟩, ?_, rfl⟩, fr_new h.le rfl⟩
      · simp only [VRel]; exact ⟨_, _, _, Env.put_same, rfl⟩
      · rw [Env.put_ne hne]; exact h1
    · cases hq
  · cases hq
theorem eEntry_rel (h : SRel own ρ s w) {x v : V} {cn : List Bool} {s' : St} (hq : eEntry s x = some (cn, v, s')) (hc : allB cn) {X : Value} (hx : VRel ρ x X) : OKv P own ρ (Instr.entry X) w v s' := by
  unfold eEntry at hq
  split at hq
  · rename_i b o
    cases ho : Nat.beq o 0 with
    | false => rw [ho] at hq; cases hq
    | true =>
    rw [ho, cond_true] at hq
    have ho := Nat.eq_of_beq_eq_true ho
    subst ho
    split at hq
    · rename_i m a n l c hi
      split at hq
      · rename_i k t M c' hp
        cases hq
        have hg := pmAt_some hp
        simp only [allB, decide_eq_true_eq] at hc
        obtain ⟨hc1, hc2, _⟩ := hc
        subst hc1
        simp only [VRel] at hx
        obtain ⟨B, O, S, h1, rfl⟩ := hx
        obtain ⟨_, h0, y, hy, hI⟩ := h.obj b _ _ hi h1
        have h0 : O = 0 := h0
        subst h0
        obtain ⟨_, E, hE, hm⟩ := h.obj m _ _ hg hy
        rw [pmHasB_eq] at hc2
        have hs : (stampP k t n M 0).isSome = true := by
          unfold pmHasB0 at hc2
          split at hc2
          · rename_i e; rw [e]; rfl
          · cases hc2
        obtain ⟨e, x, g1, g2, g3, g4⟩ := stampP_find M 0 hm hs
        have g2' : E.find? (·.born == n) = some x := by rw [← Array.find?_toList]; exact g2
        have hI : w.heap[B]? = some (.mapIter (some y.B) a (n :: l).reverse.toArray c') := hI
        have hE : w.heap[y.B]? = some (.map E c') := hE
        refine ⟨ρ, .tuple #[x.key, x.val], w, ρ.le_refl, ?_, ?_, h, Fr.refl _ _⟩
        · simp only [Instr.entry, getObj, Sem.run_bind, Sem.run, hI, hE, Result.andThen, Nat.zero_add, List.reverse_cons, List.back?_toArray, List.getLast?_append, List.getLast?_singleton, Option.some_or, bne_self_eq_false, Bool.false_eq_true, if_false, g2']
          rfl
        · simp only [VRel]
          refine ⟨_, rfl, ?_⟩
          simp only [pmEntK_eq, pmEntV_eq, pmEnt0, g1]
          exact ⟨_, _, rfl, g3, _, _, rfl, g4, rfl⟩
      · cases hq
    · cases hq
  · cases hq
end
end Go.Sym
end
