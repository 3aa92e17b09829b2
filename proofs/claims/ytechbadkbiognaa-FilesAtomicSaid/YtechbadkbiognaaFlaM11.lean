/-
  Texts of this claim, one behind the other: SymMa SymK SymL. Each says its own conditions.
-/
import Derived.Test.YtechbadkbiognaaFlaM10
import Derived.Maps.RangeRun
import Derived.RangeFuncLeaves
import Derived.OrdersIn

set_option linter.unusedVariables false
set_option linter.unusedSimpArgs false
set_option linter.unusedSectionVars false
section
namespace Go.Sym
set_option linter.unusedSimpArgs false
set_option linter.unusedVariables false

noncomputable section
variable (P : Program)
def modE (l : List (V × V × Nat)) (i : Nat) (k v : V) : List (V × V × Nat) :=
  match l, i with
  | [], _ => []
  | e :: l, 0 => (k, v, e.2.2) :: l
  | e :: l, i + 1 => e :: modE l i k v
def eMapUpdate (s : St) (t : TypeId) (m k v : V) : Option St :=
  match P.underlying t with
  | some (.map kt _) =>
    bif !plainKeyE P kt k then none else
    match m with
    | .map b => match s.heap.get b with
      | some (.map es c) => match findE k es 0 with
        | some (some (i, _)) => some (s.upd b (.map (modE es i k v) c))
        | some none => some (s.upd b (.map (lapp es [(k, v, c)]) (c + 1)))
        | none => none
      | _ => none
    | _ => none
  | _ => none
def eMapEntry (s : St) (t : TypeId) (m k : V) : Option (V × St) :=
  match P.underlying t with
  | some (.map kt e) =>
    bif !plainKeyE P kt k then none else
    match m with
    | .map b => match s.heap.get b with
      | some (.map es c) => match findE k es 0 with
        | some (some (i, v)) => match lget es i with
          | some x => some (.tup [v, .int .i64 (Int.ofNat x.2.2)], s.upd b (.map (modE es i k v) c))
          | none => none
        | some none => match zeroE P e with
          | some z => some (.tup [z, .int .i64 (Int.ofNat c)], s.upd b (.map (lapp es [(k, z, c)]) (c + 1)))
          | none => none
        | none => none
      | _ => none
    | _ => none
  | _ => none
def stampE (n : Nat) : List (V × V × Nat) → Nat → Option Nat
  | [], _ => none
  | e :: l, i => bif Nat.beq e.2.2 n then some i else stampE n l (i + 1)
def setVal (l : List (V × V × Nat)) (i : Nat) (v : V) : List (V × V × Nat) :=
  match l, i with
  | [], _ => []
  | e :: l, 0 => (e.1, v, e.2.2) :: l
  | e :: l, i + 1 => e :: setVal l i v
def eEntryStore (s : St) (m st v : V) : Option (List Bool × St) :=
  match m, natOf st with
  | .map b, some (cn, n) => match s.heap.get b with
    | some (.map es c) => match stampE n es 0 with
      | some i => some (cn, s.upd b (.map (setVal es i v) c))
      | none => none
    | _ => none
  | _, _ => none
def delE (l : List (V × V × Nat)) (i : Nat) : List (V × V × Nat) :=
  match l, i with
  | [], _ => []
  | _ :: l, 0 => l
  | e :: l, i + 1 => e :: delE l i
def eDelete (s : St) (ts : Array TypeId) (m k : V) : Option (V × St) :=
  match ts[0]? with
  | none => none
  | some t =>
  match P.underlying t with
  | some (.map kt _) =>
    bif !plainKeyE P kt k then none else
    match m with
    | .nilm => some (.undef, s)
    | .map b => match s.heap.get b with
      | some (.map es c) => match findE k es 0 with
        | some (some (i, _)) => some (.undef, s.upd b (.map (delE es i) c))
        | some none => some (.undef, s.upd b (.map es c))
        | none => none
      | _ => none
    | _ => none
  | _ => none
end

section
variable {k t : Ty}
def modP (k t : Ty) : List (k.den × t.den × Nat) → Nat → k.den → t.den → List (k.den × t.den × Nat)
  | [], _, _, _ => []
  | e :: l, 0, d, x => (d, x, e.2.2) :: l
  | e :: l, i + 1, d, x => e :: modP k t l i d x
def setP (k t : Ty) : List (k.den × t.den × Nat) → Nat → t.den → List (k.den × t.den × Nat)
  | [], _, _ => []
  | e :: l, 0, x => (e.1, x, e.2.2) :: l
  | e :: l, i + 1, x => e :: setP k t l i x
def delP (k t : Ty) : List (k.den × t.den × Nat) → Nat → List (k.den × t.den × Nat)
  | [], _ => []
  | _ :: l, 0 => l
  | e :: l, i + 1 => e :: delP k t l i
def stampP (k t : Ty) (n : Nat) : List (k.den × t.den × Nat) → Nat → Option Nat
  | [], _ => none
  | e :: l, i => bif Nat.beq e.2.2 n then some i else stampP k t n l (i + 1)
def pmPut0 (k t : Ty) (M : List (k.den × t.den × Nat)) (d : k.den) (x : t.den) (c : Nat) : List (k.den × t.den × Nat) := match pmF k t d M 0 with
  | some r => modP k t M r.1 d x
  | none => M ++ [(d, x, c)]
def pmClk0 (k t : Ty) (M : List (k.den × t.den × Nat)) (d : k.den) (c : Nat) : Nat := match pmF k t d M 0 with
  | some _ => c
  | none => c + 1
def pmDel0 (k t : Ty) (M : List (k.den × t.den × Nat)) (d : k.den) : List (k.den × t.den × Nat) := match pmF k t d M 0 with
  | some r => delP k t M r.1
  | none => M
def pmTouch0 (k t : Ty) (M : List (k.den × t.den × Nat)) (d : k.den) (z : t.den) (c : Nat) : List (k.den × t.den × Nat) := match pmF k t d M 0 with
  | some r => modP k t M r.1 d r.2.1
  | none => M ++ [(d, z, c)]
def pmBorn0 (k t : Ty) (M : List (k.den × t.den × Nat)) (d : k.den) (c : Nat) : Nat := match pmF k t d M 0 with
  | some r => r.2.2
  | none => c
def pmSet0 (k t : Ty) (M : List (k.den × t.den × Nat)) (n : Nat) (x : t.den) : List (k.den × t.den × Nat) := match stampP k t n M 0 with
  | some i => setP k t M i x
  | none => M
def pmHasB0 (k t : Ty) (M : List (k.den × t.den × Nat)) (n : Nat) : Bool := match stampP k t n M 0 with
  | some _ => true
  | none => false
end
def tyD : (t : Ty) → t.den
  | .int _ => (0 : Int)
  | .bool => false
  | .str => ByteArray.empty
  | .lst _ => []
def pmEnt0 (k t : Ty) (M : List (k.den × t.den × Nat)) (n : Nat) : k.den × t.den × Nat := match M.find? fun e => e.2.2 == n with
  | some e => e
  | none => (tyD k, tyD t, 0)
noncomputable def pmEntK : (k t : Ty) → List (k.den × t.den × Nat) → Nat → k.den := hide fun k t M n => (pmEnt0 k t M n).1
noncomputable def pmEntV : (k t : Ty) → List (k.den × t.den × Nat) → Nat → t.den := hide fun k t M n => (pmEnt0 k t M n).2.1
theorem pmEntK_eq : pmEntK = fun k t M n => (pmEnt0 k t M n).1 := hide_eq _
theorem pmEntV_eq : pmEntV = fun k t M n => (pmEnt0 k t M n).2.1 := hide_eq _
noncomputable def pmPut : (k t : Ty) → List (k.den × t.den × Nat) → k.den → t.den → Nat → List (k.den × t.den × Nat) := hide pmPut0
noncomputable def pmClk : (k t : Ty) → List (k.den × t.den × Nat) → k.den → Nat → Nat := hide pmClk0
noncomputable def pmDel : (k t : Ty) → List (k.den × t.den × Nat) → k.den → List (k.den × t.den × Nat) := hide pmDel0
noncomputable def pmTouch : (k t : Ty) → List (k.den × t.den × Nat) → k.den → t.den → Nat → List (k.den × t.den × Nat) := hide pmTouch0
noncomputable def pmBorn : (k t : Ty) → List (k.den × t.den × Nat) → k.den → Nat → Nat := hide pmBorn0
noncomputable def pmSet : (k t : Ty) → List (k.den × t.den × Nat) → Nat → t.den → List (k.den × t.den × Nat) := hide pmSet0
noncomputable def pmHasB : (k t : Ty) → List (k.den × t.den × Nat) → Nat → Bool := hide pmHasB0
theorem pmPut_eq : pmPut = pmPut0 := hide_eq _
theorem pmClk_eq : pmClk = pmClk0 := hide_eq _
theorem pmDel_eq : pmDel = pmDel0 := hide_eq _
theorem pmTouch_eq : pmTouch = pmTouch0 := hide_eq _
theorem pmBorn_eq : pmBorn = pmBorn0 := hide_eq _
theorem pmSet_eq : pmSet = pmSet0 := hide_eq _
theorem pmHasB_eq : pmHasB = pmHasB0 := hide_eq _

def notLst : Ty → Bool
  | .lst _ => false
  | _ => true
noncomputable section
variable (P : Program)
def plain1 (t : TypeId) : Option Ty :=
  match P.underlying t with
  | some (.int k) => some (.int k)
  | some .bool => some .bool
  | some .string => some .str
  | _ => none
def optC : Option V → Option (List Bool)
  | none => some []
  | some h => match natOf h with
    | some (c, _) => some c
    | none => none
def eMakeMap (s : St) (t : TypeId) (r : Option V) : Er :=
  match optC r, P.underlying t with
  | some c, some (.map kt et) => (match plain1 P kt, plain1 P et with
    | some k, some t' => some (c, .map s.next, s.new (.pm k t' [] 0))
    | _, _ => some (c, .map s.next, s.new (.map [] 0)))
  | _, _ => none
def eRange (s : St) (t : TypeId) (x : V) : Er :=
  match P.underlying t, x with
  | some (.map _ _), .map b => (match pmAt s b with
    | some ⟨_, _, _, c⟩ => some ([], .ptr s.next 0, s.new (.mit b c [] c))
    | none => none)
  | _, _ => none
def eEntry (s : St) (x : V) : Er :=
  match x with
  | .ptr b o => bif Nat.beq o 0 then (match s.heap.get b with
    | some (.mit m _ (n :: _) c) => (match pmAt s m with
      | some ⟨k, t, M, c'⟩ => some ([decide (c' = c), pmHasB k t M n], .tup [toV k (pmEntK k t M n), toV t (pmEntV k t M n)], s)
      | none => none)
    | _ => none) else none
  | _ => none
def eMapSet (s : St) (t : TypeId) (m key v : V) : Es :=
  match P.underlying t, m with
  | some (.map kt et), .map b => (match pmAt s b with
    | some ⟨k, t', M, c⟩ => bif plainKeyE P kt key then (match ofV k key, ofV t' v with
      | some d, some x => some ([], s.upd b (.pm k t' (pmPut k t' M d x c) (pmClk k t' M d c)))
      | _, _ => none) else none
    | none => (match eMapUpdate P s t m key v with
      | some s' => some ([], s')
      | none => none))
  | _, _ => none
def eMapAt (s : St) (t : TypeId) (m key : V) : Er :=
  match P.underlying t, m with
  | some (.map kt et), .map b => (match pmAt s b with
    | some ⟨k, t', M, c⟩ => bif plainKeyE P kt key then (match ofV k key, zeroE P et with
      | some d, some z => (match ofV t' z with
        | some dz => bif !notLst t' then none else some ([], .tup [toV t' (pmGet k t' M d dz), .int .i64 ((pmBorn k t' M d c : Nat) : Int)], s.upd b (.pm k t' (pmTouch k t' M d dz c) (pmClk k t' M d c)))
        | none => none)
      | _, _ => none) else none
    | none => (match eMapEntry P s t m key with
      | some (v, s') => some ([], v, s')
      | none => none))
  | _, _ => none
def eStamp (s : St) (m st v : V) : Es :=
  match m with
  | .map b => (match pmAt s b with
    | some ⟨k, t', M, c⟩ => (match natOf st, ofV t' v with
      | some (cn, n), some x => some (pmHasB k t' M n :: cn, s.upd b (.pm k t' (pmSet k t' M n x) c))
      | _, _ => none)
    | none => eEntryStore s m st v)
  | _ => none
def eDel (s : St) (ts : Array TypeId) (m key : V) : Er :=
  match ts[0]? with
  | none => none
  | some t => (match P.underlying t, m with
    | some (.map kt et), .map b => (match pmAt s b with
      | some ⟨k, t', M, c⟩ => bif plainKeyE P kt key then (match ofV k key with
        | some d => some ([], .undef, s.upd b (.pm k t' (pmDel k t' M d) c))
        | none => none) else none
      | none => (match eDelete P s ts m key with
        | some (v, s') => some ([], v, s')
        | none => none))
    | some (.map kt et), .nilm => (match eDelete P s ts m key with
        | some (v, s') => some ([], v, s')
        | none => none)
    | _, _ => none)
end

section
variable {P : Program} {own : Own} {ρ : Env} {s : St} {w : World}

theorem getObj_map {B : Nat} {E : Array MapEntry} {c : Nat} (h : w.heap[B]? = some (.map E c)) : (getObj B).run P w = .ok (.map E c) w := by simp only [getObj, Sem.run, h]
theorem setObj_map {B : Nat} {E : Array MapEntry} {c : Nat} (h : w.heap[B]? = some (.map E c)) (o : Obj) : (setObj B o).run P w = .ok () { w with heap := w.heap.setIfInBounds B o } := by simp only [setObj, Sem.run, h]

theorem findE_bound {k : V} : ∀ {l : List (V × V × Nat)} {i j : Nat} {v : V}, findE k l i = some (some (j, v)) → ∃ e, i ≤ j ∧ l[j - i]? = some e ∧ keyEq k e.1 = some true ∧ e.2.1 = v
  | [], i, j, v, h => by simp [findE] at h
  | e :: l, i, j, v, h => by
    simp only [findE] at h
    split at h
    · rename_i he
      cases h
      exact ⟨e, Nat.le_refl _, by simp, he, rfl⟩
    · obtain ⟨e', h1, h2, h3, h4⟩ := findE_bound h
      refine ⟨e', by omega, ?_, h3, h4⟩
      obtain ⟨d, rfl⟩ : ∃ d, j = i + 1 + d := ⟨j - (i + 1), by omega⟩
      rw [show i + 1 + d - (i + 1) = d from by omega] at h2
      rw [show i + 1 + d - i = d + 1 from by omega]
      simpa using h2
    · cases h

theorem MRel.get : ∀ {l : List (V × V × Nat)} {E : List MapEntry}, MRel ρ l E → ∀ {i : Nat} {e : V × V × Nat}, l[i]? = some e → ∃ x, E[i]? = some x ∧ VRel ρ e.1 x.key ∧ VRel ρ e.2.1 x.val ∧ e.2.2 = x.born
  | [], _, _, i, e, h => by simp at h
  | a :: l, E, hr, i, e, h => by
    obtain ⟨x, y, rfl, h1, h2, h3, h4⟩ := hr
    cases i with
    | zero => simp at h; subst h; exact ⟨x, rfl, h1, h2, h3⟩
    | succ i => simp at h; simpa using MRel.get h4 h

theorem MRel.mod : ∀ {l : List (V × V × Nat)} {E : List MapEntry}, MRel ρ l E → ∀ (i : Nat) {k v : V} {K X : Value}, VRel ρ k K → VRel ρ v X → MRel ρ (modE l i k v) (E.modify i fun e => { e with key := K, val := X })
  | [], E, h, i, k, v, K, X, hk, hv => by have h : E = [] := h; subst h; simp [modE, MRel]
  | a :: l, E, hr, i, k, v, K, X, hk, hv => by
    obtain ⟨x, y, rfl, h1, h2, h3, h4⟩ := hr
    cases i with
    | zero => rw [List.modify_zero_cons]; exact ⟨_, _, rfl, hk, hv, h3, h4⟩
    | succ i => rw [List.modify_succ_cons]; exact ⟨x, _, rfl, h1, h2, h3, MRel.mod h4 i hk hv⟩
theorem MRel.snoc : ∀ {l : List (V × V × Nat)} {E : List MapEntry}, MRel ρ l E → ∀ {k v : V} {K X : Value} {c : Nat}, VRel ρ k K → VRel ρ v X → MRel ρ (l ++ [(k, v, c)]) (E ++ [⟨K, X, c⟩])
  | [], E, h, k, v, K, X, c, hk, hv => by have h : E = [] := h; subst h; exact ⟨_, _, rfl, hk, hv, rfl, rfl⟩
  | a :: l, E, hr, k, v, K, X, c, hk, hv => by
    obtain ⟨x, y, rfl, h1, h2, h3, h4⟩ := hr
    exact ⟨x, _, rfl, h1, h2, h3, MRel.snoc h4 hk hv⟩
theorem MRel.del : ∀ {l : List (V × V × Nat)} {E : List MapEntry}, MRel ρ l E → ∀ (i : Nat), MRel ρ (delE l i) (E.eraseIdx i)
  | [], E, h, i => by have h : E = [] := h; subst h; simp [delE, MRel]
  | a :: l, E, hr, i => by
    obtain ⟨x, y, rfl, h1, h2, h3, h4⟩ := hr
    cases i with
    | zero => exact h4
    | succ i => rw [List.eraseIdx_cons_succ]; exact ⟨x, _, rfl, h1, h2, h3, MRel.del h4 i⟩
theorem MRel.setv : ∀ {l : List (V × V × Nat)} {E : List MapEntry}, MRel ρ l E → ∀ (i : Nat) {v : V} {X : Value}, VRel ρ v X → MRel ρ (setVal l i v) (E.modify i fun e => { e with val := X })
  | [], E, h, i, v, X, hv => by have h : E = [] := h; subst h; simp [setVal, MRel]
  | a :: l, E, hr, i, v, X, hv => by
    obtain ⟨x, y, rfl, h1, h2, h3, h4⟩ := hr
    cases i with
    | zero => rw [List.modify_zero_cons]; exact ⟨_, _, rfl, h1, hv, h3, h4⟩
    | succ i => rw [List.modify_succ_cons]; exact ⟨x, _, rfl, h1, h2, h3, MRel.setv h4 i hv⟩

theorem keyStays {k e : V} (h : keyEq k e = some true) {K X : Value} (hk : VRel ρ k K) (he : VRel ρ e X) : (Instr.keyThatStays X K).run P w = .ok K w := by
  have : Instr.sameBits 10000 X K = true := by
    unfold keyEq at h
    split at h
    · rename_i k1 x k2 y
      rw [kEq_iff] at h
      cases hkk : decide (k1 = k2) with
      | false => simp [hkk] at h
      | true =>
        have ee : k1 = k2 := by simpa using hkk
        subst ee
        simp only [decide_true, cond_true, Option.some.injEq, decide_eq_true_eq] at h
        subst h
        simp only [VRel] at hk he; subst hk; subst he
        simp [Instr.sameBits]
    · simp only [Option.some.injEq] at h
      have h := of_decide_eq_true h
      subst h
      simp only [VRel] at hk he; subst hk; subst he
      simp [Instr.sameBits, beq_toListBytes]
    · simp only [Option.some.injEq, beq_iff_eq] at h
      subst h
      simp only [VRel] at hk he; subst hk; subst he
      simp [Instr.sameBits]
    · cases h
  simp [Instr.keyThatStays, this]

theorem SRel.mapObj (h : SRel own ρ s w) {b : Nat} {es : List (V × V × Nat)} {c : Nat} (hg : s.heap.get b = some (.map es c)) {B O S : Nat} (hx : ρ b = some ⟨B, O, S⟩) :
    ∃ E, w.heap[B]? = some (.map E c) ∧ MRel ρ es E.toList ∧ own B := by
  obtain ⟨y, h1, h2, E, h3, h4⟩ := h.obj' hg hx
  rw [hx] at h1; cases h1
  exact ⟨E, h3, h4, h2.1⟩

theorem eMapUpdate_rel (h : SRel own ρ s w) {t : TypeId} {m k v : V} {s' : St} (hq : eMapUpdate P s t m k v = some s') {M K X : Value} (hm : VRel ρ m M) (hk : VRel ρ k K) (hv : VRel ρ v X) :
    ∃ w', (Instr.mapUpdate t M K X).run P w = .ok () w' ∧ SRel own ρ s' w' ∧ Fr own w w' := by
  unfold eMapUpdate at hq
  simp only [llen_eq, lall_eq, ltake_eq, ldrop_eq, lapp_eq, lget_eq] at hq
  split at hq
  · rename_i kt et hd
    obtain ⟨hp, hq⟩ := bool_not_cond hq (by simp)
    split at hq
    · rename_i b
      split at hq
      · rename_i es c hg
        simp only [VRel] at hm
        obtain ⟨B, O, S, hB, rfl⟩ := hm
        obtain ⟨E, hE, hrel, hbase⟩ := h.mapObj hg hB
        split at hq
        · rename_i i v0 hf
          cases hq
          obtain ⟨e, _, he1, he2, _⟩ := findE_bound hf
          rw [Nat.sub_zero] at he1
          obtain ⟨x, hx1, hx2, _, _⟩ := hrel.get he1
          simp only [Array.getElem?_toList] at hx1
          rcases run_findKeyE (w := w) hk hp hrel hf with ⟨h1, _⟩ | ⟨j, v2, W, h1, h2, h3⟩
          · cases h1
          · cases h1
            refine ⟨{ w with heap := w.heap.setIfInBounds B (.map (E.modify i fun e => { e with key := K, val := X }) c) }, ?_, h.upd hg hB _ (.map (E.modify i fun e => { e with key := K, val := X }) c) rfl ⟨_, rfl, by rw [Array.toList_modify]; exact hrel.mod i hk hv⟩, fr_set hbase rfl⟩
            simp [Instr.mapUpdate, run_und hd, getObj_map hE, run_checkKeyE hk hp, h2, hx1, keyStays he2 hk hx2, setObj_map hE]
        · rename_i hf
          cases hq
          rcases run_findKeyE (w := w) hk hp hrel hf with ⟨_, h2⟩ | ⟨j, v2, W, h1, _, _⟩
          · refine ⟨{ w with heap := w.heap.setIfInBounds B (.map (E.push ⟨K, X, c⟩) (c + 1)) }, ?_, h.upd hg hB _ (.map (E.push ⟨K, X, c⟩) (c + 1)) rfl ⟨_, rfl, by rw [Array.toList_push]; exact hrel.snoc hk hv⟩, fr_set hbase rfl⟩
            simp [Instr.mapUpdate, run_und hd, getObj_map hE, run_checkKeyE hk hp, h2, setObj_map hE]
          · cases h1
        · cases hq
      · cases hq
    · cases hq
  · cases hq

theorem eMapEntry_rel (h : SRel own ρ s w) {t : TypeId} {m k v : V} {s' : St} (hq : eMapEntry P s t m k = some (v, s')) {M K : Value} (hm : VRel ρ m M) (hk : VRel ρ k K) :
    OKv P own ρ (Instr.mapEntry t M K) w v s' := by
  unfold eMapEntry at hq
  simp only [llen_eq, lall_eq, ltake_eq, ldrop_eq, lapp_eq, lget_eq] at hq
  split at hq
  · rename_i kt et hd
    obtain ⟨hp, hq⟩ := bool_not_cond hq (by simp)
    split at hq
    · rename_i b
      split at hq
      · rename_i es c hg
        simp only [VRel] at hm
        obtain ⟨B, O, S, hB, rfl⟩ := hm
        obtain ⟨E, hE, hrel, hbase⟩ := h.mapObj hg hB
        split at hq
        · rename_i i v0 hf
          obtain ⟨e, _, he1, he2, he3⟩ := findE_bound hf
          rw [Nat.sub_zero] at he1
          rw [he1] at hq
          cases hq
          obtain ⟨x, hx1, hx2, hx3, hx4⟩ := hrel.get he1
          simp only [Array.getElem?_toList] at hx1
          rcases run_findKeyE (w := w) hk hp hrel hf with ⟨h1, _⟩ | ⟨j, v2, W, h1, h2, h3⟩
          · cases h1
          · cases h1
            have hrel' : MRel ρ (modE es i k v0) (E.modify i fun e => { e with key := K }).toList := by
              have hx3' : VRel ρ v0 x.val := by rw [← he3]; exact hx3
              have := hrel.mod i hk hx3'
              rw [Array.toList_modify]
              have e1 : (E.toList.modify i fun e => { e with key := K, val := x.val }) = E.toList.modify i fun e => { e with key := K } := by
                apply List.ext_getElem?
                intro n
                rw [List.getElem?_modify, List.getElem?_modify]
                by_cases hn : i = n
                · subst hn
                  have : E.toList[i]? = some x := by simpa using hx1
                  simp [this]
                · simp [hn]
              rw [← e1]; exact this
            refine ⟨ρ, .tuple #[W, .int .i64 x.born], { w with heap := w.heap.setIfInBounds B (.map (E.modify i fun e => { e with key := K }) c) }, ρ.le_refl, ?_, ?_, h.upd hg hB _ (.map (E.modify i fun e => { e with key := K }) c) rfl ⟨_, rfl, hrel'⟩, fr_set hbase rfl⟩
            · simp [Instr.mapEntry, run_und hd, getObj_map hE, run_checkKeyE hk hp, h2, hx1, keyStays he2 hk hx2, setObj_map hE, goInt]
            · simp only [VRel]
              exact ⟨_, rfl, LRel.cons h3 (LRel.cons (by rw [← hx4]; exact vint _ _) LRel.nil)⟩
        · rename_i hf
          split at hq
          · rename_i z hz
            cases hq
            obtain ⟨Z, hZ, hzr, _⟩ := zeroE_rel (ρ := ρ) (w := w) hz
            rcases run_findKeyE (w := w) hk hp hrel hf with ⟨_, h2⟩ | ⟨j, v2, W, h1, _, _⟩
            · refine ⟨ρ, .tuple #[Z, .int .i64 c], { w with heap := w.heap.setIfInBounds B (.map (E.push ⟨K, Z, c⟩) (c + 1)) }, ρ.le_refl, ?_, ?_, h.upd hg hB _ (.map (E.push ⟨K, Z, c⟩) (c + 1)) rfl ⟨_, rfl, by rw [Array.toList_push]; exact hrel.snoc hk hzr⟩, fr_set hbase rfl⟩
              · simp [Instr.mapEntry, run_und hd, getObj_map hE, run_checkKeyE hk hp, h2, hZ, setObj_map hE, goInt]
              · simp only [VRel]
                exact ⟨_, rfl, LRel.cons hzr (LRel.cons (vint _ _) LRel.nil)⟩
            · cases h1
          · cases hq
        · cases hq
      · cases hq
    · cases hq
  · cases hq

theorem stampE_rel {n : Nat} : ∀ {l : List (V × V × Nat)} {E : List MapEntry}, MRel ρ l E → ∀ {i j : Nat}, stampE n l i = some j → ∃ d, j = i + d ∧ E.findIdx? (fun e => (e.born : Int) == (n : Int)) = some d
  | [], _, _, i, j, h => by simp [stampE] at h
  | a :: l, E, hr, i, j, h => by
    obtain ⟨x, y, rfl, h1, h2, h3, h4⟩ := hr
    simp only [stampE] at h
    cases hb : Nat.beq a.2.2 n with
    | true =>
      simp only [hb, cond_true, Option.some.injEq] at h
      have : a.2.2 = n := by simpa using hb
      refine ⟨0, by omega, ?_⟩
      rw [List.findIdx?_cons]
      have e : ((x.born : Int) == (n : Int)) = true := by simp; omega
      simp [e]
    | false =>
      simp only [hb, cond_false] at h
      obtain ⟨d, e1, e2⟩ := stampE_rel h4 h
      refine ⟨d + 1, by omega, ?_⟩
      rw [List.findIdx?_cons]
      have hne : a.2.2 ≠ n := by intro e; subst e; simp at hb
      have e : ((x.born : Int) == (n : Int)) = false := by simp; omega
      simp [e, e2]

theorem eEntryStore_rel (h : SRel own ρ s w) {t : TypeId} {m st v : V} {s' : St} {cn : List Bool} (hq : eEntryStore s m st v = some (cn, s')) (hc : allB cn) {M T X : Value} (hm : VRel ρ m M) (ht : VRel ρ st T) (hv : VRel ρ v X) :
    ∃ w', (Instr.entryStore t M T X).run P w = .ok () w' ∧ SRel own ρ s' w' ∧ Fr own w w' := by
  unfold eEntryStore at hq
  split at hq
  · rename_i b cn' n hn
    split at hq
    · rename_i es c hg
      split at hq
      · rename_i i hi
        cases hq
        simp only [VRel] at hm
        obtain ⟨B, O, S, hB, rfl⟩ := hm
        obtain ⟨k, rfl⟩ := natOf_rel hn hc ht
        obtain ⟨E, hE, hrel, hbase⟩ := h.mapObj hg hB
        obtain ⟨d, e1, e2⟩ := stampE_rel hrel hi
        have e1 : i = d := by omega
        subst e1
        have e3 : E.findIdx? (fun e => (e.born : Int) == (n : Int)) = some i := by
          rw [← e2]; cases E; simp
        refine ⟨{ w with heap := w.heap.setIfInBounds B (.map (E.modify i fun e => { e with val := X }) c) }, ?_, h.upd hg hB _ (.map (E.modify i fun e => { e with val := X }) c) rfl ⟨_, rfl, by rw [Array.toList_modify]; exact hrel.setv i hv⟩, fr_set hbase rfl⟩
        simp [Instr.entryStore, getObj_map hE, asInt, run_asIntOf, e3, setObj_map hE]
      · cases hq
    · cases hq
  · cases hq

theorem eDelete_rel (h : SRel own ρ s w) {ts : Array TypeId} {ty : TypeId} {m k v : V} {s' : St} (hq : eDelete P s ts m k = some (v, s')) {M K : Value} (hm : VRel ρ m M) (hk : VRel ρ k K) :
    OKv P own ρ (Builtin.delete_ ts ty #[M, K]) w v s' := by
  unfold eDelete at hq
  split at hq
  · cases hq
  rename_i t ht
  split at hq
  · rename_i kt et hd
    obtain ⟨hp, hq⟩ := bool_not_cond hq (by simp)
    split at hq
    · cases hq
      simp only [VRel] at hm; subst hm
      exact ⟨ρ, _, w, ρ.le_refl, by simp [Builtin.delete_, ht, run_und hd, run_checkKeyE hk hp]; rfl, by simp only [VRel], h, Fr.refl _ _⟩
    · rename_i b
      split at hq
      · rename_i es c hg
        simp only [VRel] at hm
        obtain ⟨B, O, S, hB, rfl⟩ := hm
        obtain ⟨E, hE, hrel, hbase⟩ := h.mapObj hg hB
        split at hq
        · rename_i i v0 hf
          cases hq
          rcases run_findKeyE (w := w) hk hp hrel hf with ⟨h1, _⟩ | ⟨j, v2, W, h1, h2, h3⟩
          · cases h1
          · cases h1
            obtain ⟨e, _, he1, _, _⟩ := findE_bound hf
            rw [Nat.sub_zero] at he1
            obtain ⟨x, hx1, _⟩ := hrel.get he1
            have hlt : i < E.size := by
              have := (List.getElem?_eq_some_iff.1 hx1).1
              simpa using this
            refine ⟨ρ, _, { w with heap := w.heap.setIfInBounds B (.map (E.eraseIdxIfInBounds i) c) }, ρ.le_refl, by simp [Builtin.delete_, ht, run_und hd, getObj_map hE, run_checkKeyE hk hp, h2, setObj_map hE]; rfl, by simp only [VRel], h.upd hg hB _ (.map (E.eraseIdxIfInBounds i) c) rfl ⟨_, rfl, ?_⟩, fr_set hbase rfl⟩
            have : (E.eraseIdxIfInBounds i).toList = E.toList.eraseIdx i := by
              simp [Array.eraseIdxIfInBounds, hlt]
            rw [this]
            exact hrel.del i
        · rename_i hf
          cases hq
          rcases run_findKeyE (w := w) hk hp hrel hf with ⟨_, h2⟩ | ⟨j, v2, W, h1, _, _⟩
          · refine ⟨ρ, _, { w with heap := w.heap.setIfInBounds B (.map E c) }, ρ.le_refl, by simp [Builtin.delete_, ht, run_und hd, getObj_map hE, run_checkKeyE hk hp, h2, setObj_map hE]; rfl, by simp only [VRel], h.upd hg hB _ (.map E c) rfl ⟨_, rfl, hrel⟩, fr_set hbase rfl⟩
          · cases h1
        · cases hq
      · cases hq
    · cases hq
  · cases hq


theorem SRel.recast (h : SRel own ρ s w) {b : Nat} {o o1 : EObj} (hg : s.heap.get b = some o) (ho : ∀ O S X, ORel ρ O S X o → ORel ρ O S X o1) : SRel own ρ (s.upd b o1) w := by
  refine ⟨h.le, fun k o' x hk hx => ?_, fun k k' o1' o2' x x' hk hk' hx hx' hne => ?_, h.dom, h.top, h.fz, h.old⟩
  · simp only [St.upd, T.get_set] at hk
    split at hk
    · rename_i ek; subst ek; cases hk
      obtain ⟨g1, g2⟩ := h.obj k _ x hg hx
      exact ⟨g1, ho _ _ _ g2⟩
    · exact h.obj k o' x hk hx
  · have g : ∀ k o', (s.upd b o1).heap.get k = some o' → ∃ o'', s.heap.get k = some o'' := by
      intro k o' hk
      simp only [St.upd, T.get_set] at hk
      split at hk
      · rename_i ek; subst ek; exact ⟨_, hg⟩
      · exact ⟨_, hk⟩
    obtain ⟨_, g1⟩ := g _ _ hk
    obtain ⟨_, g2⟩ := g _ _ hk'
    exact h.inj k k' _ _ x x' g1 g2 hx hx' hne
theorem St.upd_get (b : Nat) (o : EObj) : (s.upd b o).heap.get b = some o := by simp only [St.upd, T.get_set, if_true]
theorem SRel.asMap (h : SRel own ρ s w) {b : Nat} {k t : Ty} {M : List (k.den × t.den × Nat)} {c : Nat} (hg : s.heap.get b = some (.pm k t M c)) : SRel own ρ (s.upd b (.map (pmV k t M) c)) w :=
  h.recast hg fun _ _ _ h => h
theorem SRel.asPm (h : SRel own ρ s w) {b : Nat} {k t : Ty} {M : List (k.den × t.den × Nat)} {c : Nat} {s' : St} (hg : s.heap.get b = some (.map (pmV k t M) c)) (hs : s'.next = s.next) (hk : ∀ j, s'.heap.get j = if j = b then some (.pm k t M c) else s.heap.get j) : SRel own ρ s' w := by
  have h1 := h.recast (o1 := .pm k t M c) hg fun _ _ _ h => h
  have h2 := h1.congr (T' := s'.heap) fun j => by
    rw [hk]
    simp only [St.upd, T.get_set]
  cases s' with
  | mk hp n =>
    have hs : n = s.next := hs
    subst hs
    exact h2
theorem modP_V {k t : Ty} : ∀ (M : List (k.den × t.den × Nat)) (i : Nat) (d : k.den) (x : t.den), modE (pmV k t M) i (toV k d) (toV t x) = pmV k t (modP k t M i d x)
  | [], _, _, _ => rfl
  | _ :: _, 0, _, _ => rfl
  | m :: M, i + 1, d, x => congrArg (_ :: ·) (modP_V M i d x)
theorem setP_V {k t : Ty} : ∀ (M : List (k.den × t.den × Nat)) (i : Nat) (x : t.den), setVal (pmV k t M) i (toV t x) = pmV k t (setP k t M i x)
  | [], _, _ => rfl
  | _ :: _, 0, _ => rfl
  | m :: M, i + 1, x => congrArg (_ :: ·) (setP_V M i x)
theorem delP_V {k t : Ty} : ∀ (M : List (k.den × t.den × Nat)) (i : Nat), delE (pmV k t M) i = pmV k t (delP k t M i)
  | [], _ => rfl
  | _ :: _, 0 => rfl
  | m :: M, i + 1 => congrArg (_ :: ·) (delP_V M i)
theorem stampP_V {k t : Ty} {n : Nat} : ∀ (M : List (k.den × t.den × Nat)) (i : Nat), stampE n (pmV k t M) i = stampP k t n M i
  | [], _ => rfl
  | m :: M, i => by
    show (bif Nat.beq m.2.2 n then some i else stampE n (pmV k t M) (i + 1)) = (bif Nat.beq m.2.2 n then some i else stampP k t n M (i + 1))
    rw [stampP_V M (i + 1)]
theorem snocP_V {k t : Ty} (M : List (k.den × t.den × Nat)) (d : k.den) (x : t.den) (c : Nat) : pmV k t M ++ [(toV k d, toV t x, c)] = pmV k t (M ++ [(d, x, c)]) := by
  unfold pmV; rw [List.map_append]; rfl
theorem pmF_lget {k t : Ty} {d : k.den} : ∀ (M : List (k.den × t.den × Nat)) (i : Nat) {r : Nat × t.den × Nat}, pmF k t d M i = some r → i ≤ r.1 ∧ ∃ e, (pmV k t M)[r.1 - i]? = some e ∧ e.2.2 = r.2.2
  | [], i, r, h => by cases h
  | m :: M, i, r, h => by
    rw [pmF] at h
    cases hb : kB k d m.1 with
    | true => rw [hb, cond_true] at h; cases h; exact ⟨Nat.le_refl _, _, by rw [Nat.sub_self]; rfl, rfl⟩
    | false =>
      rw [hb, cond_false] at h
      obtain ⟨h1, e, h2, h3⟩ := pmF_lget M (i + 1) h
      refine ⟨by omega, e, ?_, h3⟩
      rw [show r.1 - i = (r.1 - (i + 1)) + 1 by omega]
      exact h2

theorem eMapSet_rel (h : SRel own ρ s w) {t : TypeId} {m key v : V} {cn : List Bool} {s' : St} (hq : eMapSet P s t m key v = some (cn, s')) {M K X : Value} (hm : VRel ρ m M) (hk : VRel ρ key K) (hv : VRel ρ v X) :
    ∃ w', (Instr.mapUpdate t M K X).run P w = .ok () w' ∧ SRel own ρ s' w' ∧ Fr own w w' := by
  unfold eMapSet at hq
  split at hq
  · rename_i kt et b hd
    split at hq
    · rename_i k t' ML c hp
      have hg := pmAt_some hp
      cases hpk : plainKeyE P kt key with
      | false => rw [hpk] at hq; cases hq
      | true =>
      rw [hpk, cond_true] at hq
      split at hq
      · rename_i d x hd1 hx1
        cases hq
        obtain ⟨rfl, hkeq⟩ := keyV hpk hd1
        have hv' := ofV_toV hx1 hv
        have h1 := h.asMap hg
        have hf := pmF_find hkeq ML 0
        have key : ∀ (es : List (V × V × Nat)) (ML' : List (k.den × t'.den × Nat)) (c' : Nat), es = pmV k t' ML' → eMapUpdate P (s.upd b (.map (pmV k t' ML) c)) t (.map b) (toV k d) (toV t' x) = some ((s.upd b (.map (pmV k t' ML) c)).upd b (.map es c')) →
            pmPut0 k t' ML d x c = ML' → pmClk0 k t' ML d c = c' → ∃ w', (Instr.mapUpdate t M K X).run P w = .ok () w' ∧ SRel own ρ (s.upd b (.pm k t' (pmPut k t' ML d x c) (pmClk k t' ML d c))) w' ∧ Fr own w w' := by
          intro es ML' c' he hu e1 e2
          obtain ⟨w', g1, g2, g3⟩ := eMapUpdate_rel h1 hu hm hk hv'
          refine ⟨w', g1, ?_, g3⟩
          rw [pmPut_eq, pmClk_eq, e1, e2]
          subst he
          refine g2.asPm (St.upd_get b _) rfl fun j => ?_
          simp only [St.upd, T.get_set]
          split
          · rfl
          · rfl
        cases hF : pmF k t' d ML 0 with
        | some r =>
          rw [hF] at hf
          refine key _ (modP k t' ML r.1 d x) c (modP_V ML r.1 d x) ?_ (by simp only [pmPut0, hF]) (by simp only [pmClk0, hF])
          simp only [eMapUpdate, hd, hpk, Bool.not_true, cond_false, St.upd_get, hf]
        | none =>
          rw [hF] at hf
          refine key _ (ML ++ [(d, x, c)]) (c + 1) (snocP_V ML d x c) ?_ (by simp only [pmPut0, hF]) (by simp only [pmClk0, hF])
          simp only [eMapUpdate, hd, hpk, Bool.not_true, cond_false, St.upd_get, hf, lapp_eq]
      · cases hq
    · split at hq
      · rename_i s1 hu
        cases hq
        exact eMapUpdate_rel h hu hm hk hv
      · cases hq
  · cases hq
theorem ofV_id {t : Ty} {z : V} {dz : t.den} (hn : notLst t = true) (h : ofV t z = some dz) : toV t dz = z := by
  cases t with
  | int kk =>
    simp only [ofV, ofInt] at h
    split at h
    · rename_i k' n
      cases hk : kEq kk k' with
      | false => rw [hk] at h; cases h
      | true =>
        rw [hk, cond_true] at h
        cases h
        rw [kEq_iff] at hk
        have hk := of_decide_eq_true hk
        subst hk
        rfl
    · cases h
  | bool =>
    simp only [ofV, ofBool] at h
    split at h
    · cases h; rfl
    · cases h
  | str =>
    simp only [ofV, ofStr] at h
    split at h
    · cases h; rfl
    · cases h
  | lst e => cases hn
theorem eMapAt_rel (h : SRel own ρ s w) {t : TypeId} {m key v : V} {cn : List Bool} {s' : St} (hq : eMapAt P s t m key = some (cn, v, s')) {M K : Value} (hm : VRel ρ m M) (hk : VRel ρ key K) :
    OKv P own ρ (Instr.mapEntry t M K) w v s' := by
  unfold eMapAt at hq
  split at hq
  · rename_i kt et b hd
    split at hq
    · rename_i k t' ML c hp
      have hg := pmAt_some hp
      cases hpk : plainKeyE P kt key with
      | false => rw [hpk] at hq; cases hq
      | true =>
      rw [hpk, cond_true] at hq
      split at hq
      · rename_i d z hd1 hz1
        split at hq
        · rename_i dz hdz
          cases hnl : notLst t' with
          | false => rw [hnl] at hq; cases hq
          | true =>
          rw [hnl] at hq
          cases hq
          obtain ⟨rfl, hkeq⟩ := keyV hpk hd1
          have h1 := h.asMap hg
          have hf := pmF_find hkeq ML 0
          have key : ∀ (es : List (V × V × Nat)) (ML' : List (k.den × t'.den × Nat)) (c' n : Nat) (y : t'.den) (y' : V), es = pmV k t' ML' → (∀ (ρ' : Env) Y, VRel ρ' y' Y → VRel ρ' (toV t' y) Y) →
              eMapEntry P (s.upd b (.map (pmV k t' ML) c)) t (.map b) (toV k d) = some (.tup [y', .int .i64 (Int.ofNat n)], (s.upd b (.map (pmV k t' ML) c)).upd b (.map es c')) →
              pmTouch0 k t' ML d dz c = ML' → pmClk0 k t' ML d c = c' → pmBorn0 k t' ML d c = n → pmGet0 k t' ML d dz = y →
              OKv P own ρ (Instr.mapEntry t M K) w (.tup [toV t' (pmGet k t' ML d dz), .int .i64 ((pmBorn k t' ML d c : Nat) : Int)]) (s.upd b (.pm k t' (pmTouch k t' ML d dz c) (pmClk k t' ML d c))) := by
            intro es ML' c' n y y' he hy hu e1 e2 e3 e4
            obtain ⟨ρ', Y, w', g0, g1, g2, g3, g4⟩ := eMapEntry_rel h1 hu hm hk
            refine ⟨ρ', Y, w', g0, g1, ?_, ?_, g4⟩
            · rw [pmGet_eq, pmBorn_eq, e4, e3]
              simp only [VRel] at g2 ⊢
              obtain ⟨A, a1, a2⟩ := g2
              obtain ⟨Y1, Y2, b1, b2, b3⟩ := a2
              exact ⟨A, a1, Y1, Y2, b1, hy _ _ b2, b3⟩
            · rw [pmTouch_eq, pmClk_eq, e1, e2]
              subst he
              refine g3.asPm (St.upd_get b _) rfl fun j => ?_
              simp only [St.upd, T.get_set]
              split
              · rfl
              · rfl
          cases hF : pmF k t' d ML 0 with
          | some r =>
            rw [hF] at hf
            obtain ⟨_, e, he1, he2⟩ := pmF_lget ML 0 hF
            rw [Nat.sub_zero] at he1
            refine key _ (modP k t' ML r.1 d r.2.1) c r.2.2 r.2.1 (toV t' r.2.1) (modP_V ML r.1 d r.2.1) (fun _ _ h => h) ?_ (by simp only [pmTouch0, hF]) (by simp only [pmClk0, hF]) (by simp only [pmBorn0, hF]) (by simp only [pmGet0, hF])
            simp only [eMapEntry, hd, hpk, Bool.not_true, cond_false, St.upd_get, hf, lget_eq, he1, he2]
          | none =>
            rw [hF] at hf
            refine key (pmV k t' ML ++ [(toV k d, z, c)]) (ML ++ [(d, dz, c)]) (c + 1) c dz z ?_ (fun _ _ h => ofV_toV hdz h) ?_ (by simp only [pmTouch0, hF]) (by simp only [pmClk0, hF]) (by simp only [pmBorn0, hF]) (by simp only [pmGet0, hF])
            · rw [← snocP_V, ofV_id hnl hdz]
            · simp only [eMapEntry, hd, hpk, Bool.not_true, cond_false, St.upd_get, hf, hz1, lapp_eq]
        · cases hq
      · cases hq
    · split at hq
      · rename_i v1 s1 hu
        cases hq
        exact eMapEntry_rel h hu hm hk
      · cases hq
  · cases hq
theorem eStamp_rel (h : SRel own ρ s w) {t : TypeId} {m st v : V} {cn : List Bool} {s' : St} (hq : eStamp s m st v = some (cn, s')) (hc : allB cn) {M TT X : Value} (hm : VRel ρ m M) (ht : VRel ρ st TT) (hv : VRel ρ v X) :
    ∃ w', (Instr.entryStore t M TT X).run P w = .ok () w' ∧ SRel own ρ s' w' ∧ Fr own w w' := by
  unfold eStamp at hq
  split at hq
  · rename_i b
    split at hq
    · rename_i k t' ML c hp
      have hg := pmAt_some hp
      split at hq
      · rename_i cn1 n x hn hx
        cases hq
        obtain ⟨hb, hc⟩ := hc
        have h1 := h.asMap hg
        have hv' := ofV_toV hx hv
        rw [pmHasB_eq] at hb
        cases hS : stampP k t' n ML 0 with
        | none => simp only [pmHasB0, hS] at hb; cases hb
        | some i =>
          have hu : eEntryStore (s.upd b (.map (pmV k t' ML) c)) (.map b) st (toV t' x) = some (cn1, (s.upd b (.map (pmV k t' ML) c)).upd b (.map (setVal (pmV k t' ML) i (toV t' x)) c)) := by
            simp only [eEntryStore, hn, St.upd_get, stampP_V, hS]
          obtain ⟨w', g1, g2, g3⟩ := eEntryStore_rel (t := t) h1 hu hc hm ht hv'
          refine ⟨w', g1, ?_, g3⟩
          have e1 : pmSet k t' ML n x = setP k t' ML i x := by rw [pmSet_eq]; simp only [pmSet0, hS]
          rw [e1]
          rw [setP_V] at g2
          refine g2.asPm (St.upd_get b _) rfl fun j => ?_
          simp only [St.upd, T.get_set]
          split
          · rfl
          · rfl
      · cases hq
    · exact eEntryStore_rel h hq hc hm ht hv
  · cases hq
theorem eDel_rel (h : SRel own ρ s w) {ts : Array TypeId} {ty : TypeId} {m key v : V} {cn : List Bool} {s' : St} (hq : eDel P s ts m key = some (cn, v, s')) {M K : Value} (hm : VRel ρ m M) (hk : VRel ρ key K) :
    OKv P own ρ (Builtin.delete_ ts ty #[M, K]) w v s' := by
  unfold eDel at hq
  split at hq
  · cases hq
  rename_i t ht
  split at hq
  · rename_i kt et b hd
    split at hq
    · rename_i k t' ML c hp
      have hg := pmAt_some hp
      cases hpk : plainKeyE P kt key with
      | false => rw [hpk] at hq; cases hq
      | true =>
      rw [hpk, cond_true] at hq
      split at hq
      · rename_i d hd1
        cases hq
        obtain ⟨rfl, hkeq⟩ := keyV hpk hd1
        have h1 := h.asMap hg
        have hf := pmF_find hkeq ML 0
        have key : ∀ (es : List (V × V × Nat)) (ML' : List (k.den × t'.den × Nat)), es = pmV k t' ML' → eDelete P (s.upd b (.map (pmV k t' ML) c)) ts (.map b) (toV k d) = some (.undef, (s.upd b (.map (pmV k t' ML) c)).upd b (.map es c)) →
            pmDel0 k t' ML d = ML' → OKv P own ρ (Builtin.delete_ ts ty #[M, K]) w .undef (s.upd b (.pm k t' (pmDel k t' ML d) c)) := by
          intro es ML' he hu e1
          obtain ⟨ρ', Y, w', g0, g1, g2, g3, g4⟩ := eDelete_rel (ty := ty) h1 hu hm hk
          refine ⟨ρ', Y, w', g0, g1, g2, ?_, g4⟩
          rw [pmDel_eq, e1]
          subst he
          refine g3.asPm (St.upd_get b _) rfl fun j => ?_
          simp only [St.upd, T.get_set]
          split
          · rfl
          · rfl
        cases hF : pmF k t' d ML 0 with
        | some r =>
          rw [hF] at hf
          refine key _ (delP k t' ML r.1) (delP_V ML r.1) ?_ (by simp only [pmDel0, hF])
          simp only [eDelete, ht, hd, hpk, Bool.not_true, cond_false, St.upd_get, hf]
        | none =>
          rw [hF] at hf
          refine key _ ML rfl ?_ (by simp only [pmDel0, hF])
          simp only [eDelete, ht, hd, hpk, Bool.not_true, cond_false, St.upd_get, hf]
      · cases hq
    · split at hq
      · rename_i v1 s1 hu
        cases hq
        exact eDelete_rel h hu hm hk
      · cases hq
  · split at hq
    · rename_i v1 s1 hu
      cases hq
      exact eDelete_rel h hu hm hk
    · cases hq
  · cases hq
theorem eMakeMap_rel (h : SRel own ρ s w) {t : TypeId} {r : Option V} {v : V} {cn : List Bool} {s' : St} (hq : eMakeMap P s t r = some (cn, v, s')) (hc : allB cn) {R : Option Value} (hr : OptRel ρ r R) : OKv P own ρ (Instr.makeMap t R) w v s' := by
  have core : ∀ o : EObj, (∀ ρ', ORel ρ' 0 0 (some (.map #[] 0)) o) → OKv P own ρ (do pure (.map (some (← newObj (.map #[] 0)))) : Sem Value) w (.map s.next) (s.new o) := by
    intro o ho
    have hle := Env.le_put ⟨w.heap.size, 0, 0⟩ h.fresh
    refine ⟨_, .map (some w.heap.size), { w with heap := w.heap.push (.map #[] 0) }, hle, by simp, ?_, h.new _ (.map #[] 0) 0 rfl (ho _), fr_new h.le rfl⟩
    simp only [VRel]; exact ⟨_, _, _, Env.put_same, rfl⟩
  have all : ∀ o : EObj, (∀ ρ', ORel ρ' 0 0 (some (.map #[] 0)) o) → ∀ kt et, P.underlying t = some (.map kt et) → optC r = some cn → OKv P own ρ (Instr.makeMap t R) w (.map s.next) (s.new o) := by
    intro o ho kt et hd hcn
    obtain ⟨ρ', X, w', h1, h2, h3⟩ := core o ho
    cases r with
    | none =>
      have hr : R = none := hr
      subst hr
      exact ⟨ρ', X, w', h1, by simpa [Instr.makeMap] using h2, h3⟩
    | some v0 =>
      obtain ⟨W, rfl, hW⟩ := hr
      simp only [optC] at hcn
      split at hcn
      · rename_i c1 n hn
        cases hcn
        obtain ⟨k, rfl⟩ := natOf_rel hn hc hW
        exact ⟨ρ', X, w', h1, by simpa [Instr.makeMap, run_und hd, asInt, run_asIntOf] using h2, h3⟩
      · cases hcn
  unfold eMakeMap at hq
  split at hq
  · rename_i c1 kt et hcn hd
    split at hq
    · cases hq
      exact all _ (fun ρ' => ⟨#[], rfl, rfl⟩) kt et hd hcn
    · cases hq
      exact all _ (fun ρ' => ⟨#[], rfl, rfl⟩) kt et hd hcn
  · cases hq
theorem stampP_find {k t : Ty} {n : Nat} : ∀ (M : List (k.den × t.den × Nat)) (i : Nat) {E : List MapEntry}, MRel ρ (pmV k t M) E → (stampP k t n M i).isSome = true →
    ∃ e x, M.find? (fun e => e.2.2 == n) = some e ∧ E.find? (·.born == n) = some x ∧ VRel ρ (toV k e.1) x.key ∧ VRel ρ (toV t e.2.1) x.val
  | [], i, E, _, h => by simp [stampP] at h
  | m :: M, i, E, hr, h => by
    obtain ⟨x, y, rfl, h1, h2, h3, h4⟩ := hr
    have h3 : m.2.2 = x.born := h3
    simp only [stampP] at h
    cases hb : Nat.beq m.2.2 n with
    | true =>
      have e : m.2.2 = n := Nat.eq_of_beq_eq_true hb
      refine ⟨m, x, by simp [List.find?_cons, e], by simp [List.find?_cons, ← h3, e], h1, h2⟩
    | false =>
      rw [hb, cond_false] at h
      have e : m.2.2 ≠ n := fun e => by rw [e] at hb; simp at hb
      obtain ⟨e1, x1, g1, g2, g3, g4⟩ := stampP_find M (i + 1) h4 h
      have eb : (m.2.2 == n) = false := by simpa using e
      have ex : (x.born == n) = false := by rw [← h3]; exact eb
      exact ⟨e1, x1, by rw [List.find?_cons, eb]; exact g1, by rw [List.find?_cons, ex]; exact g2, g3, g4⟩
theorem eRange_rel (h : SRel own ρ s w) {t : TypeId} {x v : V} {cn : List Bool} {s' : St} (hq : eRange P s t x = some (cn, v, s')) {X : Value} (hx : VRel ρ x X) : OKv P own ρ (Instr.range t X) w v s' := by
  unfold eRange at hq
  split at hq
  · rename_i kt et b hd
    split at hq
    · rename_i k t' M c hp
      cases hq
      have hg := pmAt_some hp
      simp only [VRel] at hx
      obtain ⟨B, O, S, h1, rfl⟩ := hx
      obtain ⟨_, E, hE, hm⟩ := h.obj b _ _ hg h1
      have hlt := h.lt hg h1
      have hle := Env.le_put ⟨w.heap.size, 0, 0⟩ h.fresh
      have hne : b ≠ s.next := fun e => by
        have := h.dom _ _ h1; omega
      refine ⟨_, .pointer (some ⟨w.heap.size, 0, none⟩), { w with heap := w.heap.push (.mapIter (some B) c #[] c) }, hle, run_range_map w t kt et B E c hd hE, ?_, h.new _ (.mapIter (some B) c #[] c) 0 rfl ⟨rfl, ⟨B, O, S⟩, ?_, rfl⟩, fr_new h.le rfl⟩
      · simp only [VRel]; exact ⟨_, _, _, Env.put_same, rfl⟩
      · rw [Env.put_ne hne]; exact h1
    · cases hq
  · cases hq
theorem eEntry_rel (h : SRel own ρ s w) {x v : V} {cn : List Bool} {s' : St} (hq : eEntry s x = some (cn, v, s')) (hc : allB cn) {X : Value} (hx : VRel ρ x X) : OKv P own ρ (Instr.entry X) w v s' := by
  unfold eEntry at hq
  split at hq
  · rename_i b o
    cases ho : Nat.beq o 0 with
    | false => rw [ho] at hq; cases hq
    | true =>
    rw [ho, cond_true] at hq
    have ho := Nat.eq_of_beq_eq_true ho
    subst ho
    split at hq
    · rename_i m a n l c hi
      split at hq
      · rename_i k t M c' hp
        cases hq
        have hg := pmAt_some hp
        simp only [allB, decide_eq_true_eq] at hc
        obtain ⟨hc1, hc2, _⟩ := hc
        subst hc1
        simp only [VRel] at hx
        obtain ⟨B, O, S, h1, rfl⟩ := hx
        obtain ⟨_, h0, y, hy, hI⟩ := h.obj b _ _ hi h1
        have h0 : O = 0 := h0
        subst h0
        obtain ⟨_, E, hE, hm⟩ := h.obj m _ _ hg hy
        rw [pmHasB_eq] at hc2
        have hs : (stampP k t n M 0).isSome = true := by
          unfold pmHasB0 at hc2
          split at hc2
          · rename_i e; rw [e]; rfl
          · cases hc2
        obtain ⟨e, x, g1, g2, g3, g4⟩ := stampP_find M 0 hm hs
        have g2' : E.find? (·.born == n) = some x := by rw [← Array.find?_toList]; exact g2
        have hI : w.heap[B]? = some (.mapIter (some y.B) a (n :: l).reverse.toArray c') := hI
        have hE : w.heap[y.B]? = some (.map E c') := hE
        refine ⟨ρ, .tuple #[x.key, x.val], w, ρ.le_refl, ?_, ?_, h, Fr.refl _ _⟩
        · simp only [Instr.entry, getObj, Sem.run_bind, Sem.run, hI, hE, Result.andThen, Nat.zero_add, List.reverse_cons, List.back?_toArray, List.getLast?_append, List.getLast?_singleton, Option.some_or, bne_self_eq_false, Bool.false_eq_true, if_false, g2']
          rfl
        · simp only [VRel]
          refine ⟨_, rfl, ?_⟩
          simp only [pmEntK_eq, pmEntV_eq, pmEnt0, g1]
          exact ⟨_, _, rfl, g3, _, _, rfl, g4, rfl⟩
      · cases hq
    · cases hq
  · cases hq
end
end Go.Sym
end

section
namespace Go.Sym

inductive EDef where
  | mark (r : Nat)
  | call (f : FuncId) (args cap : List V)

structure Cfg where
  tmps : Frm
  defers : List EDef
  st : St

noncomputable section
def Frm.get (f : Frm) (k : Nat) : V := @Frm.rec (fun _ => V) (fun n t => @Bool.rec (fun _ => V) .undef (t.get k) (Nat.ble (Nat.succ k) n)) f
theorem Frm.get_eq (f : Frm) (k : Nat) : f.get k = bif Nat.blt k f.n then f.t.get k else .undef := by
  cases f with
  | mk n t =>
    show @Bool.rec (fun _ => V) .undef (t.get k) (Nat.blt k n) = _
    cases Nat.blt k n <;> rfl
def evF (f : Frm) (x : Operand) : Option V :=
  @Operand.rec (fun _ => Option V) (fun t => some (f.get t)) (fun v => ofVal v) (fun _ => none) (fun g => some (.fn g [] [])) x
def putE (f : Frm) (d : Option Tmp) (v : V) : Frm :=
  @Option.rec Tmp (fun _ => Frm) f (fun k => @Frm.rec (fun _ => Frm) (fun n t => @Bool.rec (fun _ => Frm) ⟨n, t⟩ ⟨n, B.set v t k⟩ (Nat.ble (Nat.succ k) n)) f) d
theorem putE_some (f : Frm) (k : Tmp) (v : V) : putE f (some k) v = bif Nat.blt k f.n then ⟨f.n, B.set v f.t k⟩ else f := by
  cases f with
  | mk n t =>
    show @Bool.rec (fun _ => Frm) ⟨n, t⟩ ⟨n, B.set v t k⟩ (Nat.blt k n) = _
    cases Nat.blt k n <;> rfl
def hOf : Nat → Nat
  | n => bif Nat.ble n 1 then 0 else bif Nat.ble n 2 then 1 else bif Nat.ble n 4 then 2 else bif Nat.ble n 8 then 3 else bif Nat.ble n 16 then 4 else bif Nat.ble n 32 then 5 else bif Nat.ble n 64 then 6 else bif Nat.ble n 128 then 7 else bif Nat.ble n 256 then 8 else bif Nat.ble n 512 then 9 else bif Nat.ble n 1024 then 10 else 12
def mkFrm (n : Nat) (args : List V) : Frm := ⟨n, B.ofList .undef (hOf n) args⟩
end

inductive EExit where
  | normal
  | exit (id : Nat)
  | ret
  | pan (v : V)

inductive ETgt where
  | fn (f : FuncId) (args : List V)
  | round (l : Nat) (args : List V)

inductive EEnd where
  | ret (v : V)
  | pan (v : V)

inductive EOut where
  | val (v : V)
  | skip
  | enter (t : ETgt)
  | pan (v : V)

abbrev ESelf := ETgt → St → Option (EEnd × St)


noncomputable section
open Classical in
def V.same (v w : V) : Bool := decide (v = w)
def allb : List Bool → Bool
  | [] => true
  | b :: l => bif b then allb l else false
theorem allb_iff : ∀ l : List Bool, allb l = true ↔ allB l
  | [] => by simp [allb, allB]
  | b :: l => by cases b <;> simp [allb, allB, allb_iff l]
def chkQ : Qr → Option V
  | some (c, v) => bif allb c then some v else none
  | none => none
end
noncomputable section
variable (P : Program)

def bodyOK (f : FuncId) : Bool :=
  match P.funcs[f]? with
  | some fn => !(fn.name == "runtime.NumGoroutine") && fn.body.isSome
  | none => false

def qopO (s : St) (ev : Operand → Option V) (op : Op) : Option V := chkQ (qop P s ev op)
def outV : Er → Option (EOut × St)
  | some (c, v, s) => bif allb c then some (.val v, s) else none
  | none => none
def outS : Es → Option (EOut × St)
  | some (c, s) => bif allb c then some (.skip, s) else none
  | none => none

def eBuiltin (s : St) (b : Builtin) (ts : Array TypeId) (args : List V) : Er :=
  match b, args with
  | .append, [a, x] => eAppend P s ts a x
  | .copy, [a, x] => eCopy P s ts a x
  | .clear, [a] => eClear P s ts a
  | .delete, [m, x] => eDel P s ts m x
  | _, _ => none

def eopR (s : St) (ev : Operand → Option V) (op : Op) : Option (Er ⊕ Es) :=
  match op with
  | .alloc t => some (.inl (eAlloc P s t))
  | .box t x => match ev x with
    | some v => some (.inl (eBox P s t v))
    | none => none
  | .buildSlice t len parts => match evalParts ev parts.toList with
    | some ps => some (.inl (eBuildSlice P s t len ps))
    | none => none
  | .store t a x => match ev a, ev x with
    | some av, some v => some (.inr (eStore P s t av v))
    | _, _ => none
  | .convert src dst x => match ev x with
    | some v => some (.inl (eBytes P s src dst v))
    | none => none
  | .makeSlice t l c => match ev l, ev c with
    | some lv, some cv => some (.inl (eMakeSlice P s t lv cv))
    | _, _ => none
  | .makeMap t r => match optO ev r with
    | some rv => some (.inl (eMakeMap P s t rv))
    | none => none
  | .range t x => match ev x with
    | some v => some (.inl (eRange P s t v))
    | none => none
  | .entry x => match ev x with
    | some v => some (.inl (eEntry s v))
    | none => none
  | .mapUpdate t m k x => match ev m, ev k, ev x with
    | some mv, some kv, some v => some (.inr (eMapSet P s t mv kv v))
    | _, _, _ => none
  | .insert t m k x => match ev m, ev k, ev x with
    | some mv, some kv, some v => some (.inr (eMapSet P s t mv kv v))
    | _, _, _ => none
  | .mapEntry t m k => match ev m, ev k with
    | some mv, some kv => some (.inl (eMapAt P s t mv kv))
    | _, _ => none
  | .entryStore t m k x => match ev m, ev k, ev x with
    | some mv, some kv, some v => some (.inr (eStamp s mv kv v))
    | _, _, _ => none
  | .call c => match c.callee with
    | .builtin b => match evalOs ev c.args.toList with
      | some vs => some (.inl (eBuiltin P s b c.argTypes vs))
      | none => none
    | _ => none
  | _ => none
def eopC (s : St) (ev : Operand → Option V) (op : Op) : Option (EOut × St) :=
  match op with
  | .panic x => match ev x with
    | some (.iface t v) => some (.pan (.iface t v), s)
    | _ => none
  | .call c => match c.callee with
    | .value f => match ev f, evalOs ev c.args.toList with
      | some (.fn g first cap), some vs => bif bodyOK P g then some (.enter (.fn g (lapp (lapp first vs) cap)), s) else none
      | some (.yld l), some vs => match s.heap.get l with
        | some (.loop r) => bif Nat.beq (llen vs) (llen r.params) then some (.enter (.round l vs), s) else none
        | _ => none
      | _, _ => none
    | _ => none
  | _ => none
def outR : Er ⊕ Es → Option (EOut × St)
  | .inl x => outV x
  | .inr x => outS x
def eop (s : St) (ev : Operand → Option V) (op : Op) : Option (EOut × St) :=
  match eopR P s ev op with
  | some x => outR x
  | none => eopC P s ev op

def opE (s : St) (ev : Operand → Option V) (op : Op) : Option (EOut × St) :=
  match qop P s ev op with
  | some r => (match chkQ (some r) with
    | some v => some (.val v, s)
    | none => none)
  | none => eop P s ev op

def guardOf (ops : Array Oper) (o : Oper) : Option (Option Tmp × Bool) :=
  match o.guard with
  | none => none
  | some (j, want) => match ops[j]? with
    | some o' => some (o'.dst, want)
    | none => some (none, want)

def wantedE (g : Option (Option Tmp × Bool)) (f : Frm) : Bool :=
  match g with
  | none => true
  | some (some d, want) => match f.get d with
    | .bool b => bif want then b else !b
    | _ => false
  | some (none, _) => false

def isAny : V → Bool
  | .any => true
  | _ => false
def wantOK (g : Option (Option Tmp × Bool)) (f : Frm) : Bool :=
  match g with
  | some (some d, _) => !isAny (f.get d)
  | _ => true

def nextE (self : ESelf) (d : Option Tmp) (rest : Cfg → Option (EExit × Cfg)) (f : Frm) (ds : List EDef) : Option (EOut × St) → Option (EExit × Cfg)
  | some (.val v, s) => rest ⟨putE f d v, ds, s⟩
  | some (.skip, s) => rest ⟨putE f d .undef, ds, s⟩
  | some (.pan v, s) => some (.pan v, ⟨f, ds, s⟩)
  | some (.enter t, s) => match self t s with
    | some (.ret v, s') => rest ⟨putE f d v, ds, s'⟩
    | some (.pan v, s') => some (.pan v, ⟨f, ds, s'⟩)
    | none => none
  | none => none
def stepE (self : ESelf) (ops : Array Oper) (rest : Cfg → Option (EExit × Cfg)) (o : Oper) (c : Cfg) : Option (EExit × Cfg) :=
  match c with
    | ⟨fr, ds, s⟩ => bif !wantOK (guardOf ops o) fr then none else bif wantedE (guardOf ops o) fr then nextE self o.dst rest fr ds (opE P s (evF fr) o.op) else rest ⟨putE fr o.dst .undef, ds, s⟩
def runOps (self : ESelf) (ops : Array Oper) (l : List Oper) : Cfg → Option (EExit × Cfg) :=
  @List.rec Oper (fun _ => Cfg → Option (EExit × Cfg)) (fun c => some (.normal, c)) (fun x _ ih => stepE P self ops ih x) l

def iterE (body : Cfg → Option (EExit × Cfg)) (n : Nat) : Cfg → Option (EExit × Cfg) :=
  @Nat.rec (fun _ => Cfg → Option (EExit × Cfg)) (fun _ => none) (fun _ ih c => match body c with
    | some (.normal, c') => ih c'
    | r => r) n

def jumpE : Option Code → Option EExit
  | none => some .normal
  | some .ret => some .ret
  | some (.exit id) => some (.exit id)
  | _ => none

def rangeE (self : ESelf) (round : Option Nat) (f : Operand) (ps : Array Tmp) (assign body : Code) (c : Cfg) : Option (EExit × Cfg) :=
  match (match round with
    | none => some ((c.st.new (.dfr false)), c.st.next, [EDef.mark c.st.next])
    | some l0 => match c.st.heap.get l0 with
      | some (.loop r) => some (c.st, r.defers, [])
      | _ => none : Option (St × Nat × List EDef)) with
  | none => none
  | some (s1, d, marks) =>
    match evF c.tmps f with
    | some (.fn g first cap) =>
      bif bodyOK P g then
        match self (.fn g (lapp (lapp first [.yld s1.next]) cap)) (s1.new (.loop ⟨.ready, none, c.tmps, ps.toList, assign, body, d⟩)) with
        | some (.ret _, s2) => match s2.heap.get s1.next with
          | some (.loop r) => match r.state with
            | .busy => none
            | _ => match jumpE r.pending with
              | some e => some (e, ⟨c.tmps, marks ++ c.defers, s2.upd s1.next (.loop { r with state := .exhausted })⟩)
              | none => none
          | _ => none
        | some (.pan v, s2) => some (.pan v, ⟨c.tmps, marks ++ c.defers, s2⟩)
        | none => none
      else none
    | _ => none

def seqE (a b : Cfg → Option (EExit × Cfg)) (c : Cfg) : Option (EExit × Cfg) :=
  match a c with
  | some (.normal, c') => b c'
  | r => r
def condE (x : Operand) (a b : Cfg → Option (EExit × Cfg)) (c : Cfg) : Option (EExit × Cfg) :=
  match evF c.tmps x with
  | some (.bool true) => a c
  | some (.bool false) => b c
  | _ => none
def blockE (id : Nat) (b : Cfg → Option (EExit × Cfg)) (c : Cfg) : Option (EExit × Cfg) :=
  match b c with
  | some (.exit id', c') => bif Nat.beq id' id then some (.normal, c') else some (.exit id', c')
  | r => r
def tbQ (m i : Nat) : Bool := Nat.beq (Nat.mod (Nat.div m (Nat.pow 2 i)) 2) 1
def bindsQ (e : Edge) : Bool :=
  match e.ground with
  | .textOnly _ => false
  | .gcOnly _ => false
  | _ => true
def ogetN : Option Nat → Nat
  | some n => n
  | none => 0
def maskE (A : List Nat) : List Edge → Nat
  | [] => 0
  | e :: es => bif bindsQ e then Nat.lor (Nat.lor (Nat.pow 2 e.on) (ogetN (lget A e.on))) (maskE A es) else maskE A es
def ancsE : List Oper → List Nat → List Nat
  | [], A => A
  | o :: l, A => ancsE l (lapp A [maskE A o.after.toList])
def hasN (d : Nat) : List Nat → Bool
  | [] => false
  | x :: l => bif Nat.beq x d then true else hasN d l
def apartE (ops : Array Oper) (A : List Nat) (i : Nat) (d : Nat) : List Oper → Nat → Bool
  | [], _ => true
  | o :: l, j => (bif Nat.beq i j then true else
      (match o.dst with
        | some d' => !Nat.beq d' d
        | none => true) && (bif hasN d (o.looksAt ops) then tbQ (ogetN (lget A i)) j || tbQ (ogetN (lget A j)) i else true)) && apartE ops A i d l (Nat.succ j)
def backE (i : Nat) : List Edge → Bool
  | [] => true
  | e :: l => (bif bindsQ e then Nat.ble (Nat.succ e.on) i else true) && backE i l
def stE (ops : Array Oper) (A : List Nat) : List Oper → Nat → Bool
  | [], _ => true
  | o :: l, i => backE i o.after.toList && (match o.dst with
      | some d => apartE ops A i d ops.toList 0
      | none => true) && stE ops A l (Nat.succ i)
def stOK (ops : Array Oper) : Bool := stE ops (ancsE ops.toList []) ops.toList 0

def evL (L : List Tmp) (f : Frm) (x : Operand) : Option V :=
  match x with
  | .tmp t => bif hasN t L then some (f.get t) else none
  | .const v => ofVal v
  | .global _ => none
  | .func g => some (.fn g [] [])

structure DRec where
  i : Nat
  o : Oper
  f : Frm
  s : St
  v : V
  q : Bool
  eff : Option St
  mb : Option Nat

def mkR (ev : Operand → Option V) (op : Op) : Option (List Bool × Mk) :=
  match op with
  | .alloc t => mAlloc P t
  | .box t x => match ev x with
    | some v => mBox P t v
    | none => none
  | .buildSlice t len parts => match evalParts ev parts.toList with
    | some ps => mBuildSlice P t len ps
    | none => none
  | .makeSlice t l c => match ev l, ev c with
    | some lv, some cv => mMakeSlice P t lv cv
    | _, _ => none
  | _ => none
def mkQ (ev : Operand → Option V) (op : Op) : Option Mk :=
  match mkR P ev op with
  | some (c, m) => bif allb c then some m else none
  | none => none
open Classical in
def Mk.isAt (m : Mk) (o : Option EObj) : Bool := decide (o = some m.obj)
def qopM (mb : Option Nat) (s : St) (ev : Operand → Option V) (op : Op) : Option V :=
  match mb with
  | none => qopO P s ev op
  | some b => match mkQ P ev op with
    | some m => bif m.isAt (s.heap.get b) then some (m.val b) else none
    | none => none
def findM (i : Nat) : List (Nat × Nat) → Option Nat
  | [] => none
  | e :: l => bif Nat.beq e.1 i then some e.2 else findM i l
def doneAll (D : Nat) : List Edge → Bool
  | [] => true
  | e :: l => (bif bindsQ e then tbQ D e.on else true) && doneAll D l
def strictN {α : Type} : Nat → (Nat → α) → α
  | 0, k => k 0
  | n + 1, k => strictN n fun m => k (m + 1)
theorem strictN_eq {α : Type} : ∀ (n : Nat) (k : Nat → α), strictN n k = k n
  | 0, k => rfl
  | n + 1, k => strictN_eq n fun m => k (m + 1)
def preRun (ops : Array Oper) : List Oper → Nat → Frm → St → Nat → List (Nat × Nat) → St × List (Nat × Nat)
  | [], _, _, s, _, M => (s, M)
  | o :: l, i, f, s, D, M =>
    bif doneAll D o.after.toList && o.guard.isNone then
      match qop P s (evL (o.looksAt ops) f) o.op with
        | some (_, v) => preRun ops l (Nat.succ i) (putE f o.dst v) s (Nat.lor D (Nat.pow 2 i)) M
        | none => match mkR P (evL (o.looksAt ops) f) o.op with
          | some (_, m) => strictN s.next fun n => preRun ops l (Nat.succ i) (putE f o.dst (m.val n)) ⟨s.heap.set n (some m.obj), n + 1⟩ (Nat.lor D (Nat.pow 2 i)) ((i, n) :: M)
          | none => preRun ops l (Nat.succ i) f s D M
    else preRun ops l (Nat.succ i) f s D M
def loudOp (op : Op) : Bool :=
  match op with
  | .alloc _ | .box .. | .buildSlice .. | .insert .. | .store .. | .makeMap .. | .makeSlice .. | .mapUpdate .. | .mapEntry .. | .entryStore .. | .range .. | .entry .. | .panic .. => true
  | .call c => match c.callee with
    | .builtin b => match b with
      | .append | .copy | .delete | .clear => true
      | _ => false
    | _ => true
  | _ => false
def effIdx : List Oper → Nat → List (Nat × St)
  | [], _ => []
  | o :: l, i => bif loudOp o.op then (i, ⟨.leaf, 0⟩) :: effIdx l (Nat.succ i) else effIdx l (Nat.succ i)

def opOut (self : ESelf) : Option (EOut × St) → Option (V × St)
  | some (.val v, s) => some (v, s)
  | some (.skip, s) => some (.undef, s)
  | some (.enter t, s) => match self t s with
    | some (.ret v, s') => some (v, s')
    | _ => none
  | _ => none
def drawStep (self : ESelf) (ops : Array Oper) (mb : Option Nat) (i : Nat) (o : Oper) (f : Frm) (s : St) : Option DRec :=
  bif !wantOK (guardOf ops o) f then none else
  bif wantedE (guardOf ops o) f then
    match qopM P mb s (evL (o.looksAt ops) f) o.op with
    | some v => some ⟨i, o, f, s, v, true, none, mb⟩
    | none => match mb with
      | some _ => none
      | none => match opOut self (eop P s (evL (o.looksAt ops) f) o.op) with
        | some (v, s') => some ⟨i, o, f, s, v, false, some s', none⟩
        | none => none
  else some ⟨i, o, f, s, .undef, false, none, mb⟩
def orS (s : St) : Option St → St
  | some s' => s'
  | none => s
def drawRun (self : ESelf) (ops : Array Oper) (M : List (Nat × Nat)) : List Oper → Nat → Frm → St → Option (List DRec)
  | [], _, _, _ => some []
  | o :: l, i, f, s => match drawStep P self ops (findM i M) i o f s with
    | some r => match drawRun self ops M l (Nat.succ i) (putE f o.dst r.v) (orS s r.eff) with
      | some R => some (r :: R)
      | none => none
    | none => none
def effs : List DRec → List (Nat × St)
  | [] => []
  | r :: l => match r.eff with
    | some s => (r.i, s) :: effs l
    | none => effs l
def lastS (s : St) : List (Nat × St) → St
  | [] => s
  | e :: l => lastS e.2 l
def anyB (m : Nat) : List (Nat × St) → Bool
  | [] => false
  | e :: l => bif tbQ m e.1 then true else anyB m l
def chkE (ops : Array Oper) (A : List Nat) (r : DRec) (s : St) : List (Nat × St) → Bool
  | [] => (match qopM P r.mb s (evL (r.o.looksAt ops) r.f) r.o.op with
      | some v => v.same r.v
      | none => false)
  | e :: l => (bif anyB (ogetN (lget A r.i)) (e :: l) then true else match qopM P r.mb s (evL (r.o.looksAt ops) r.f) r.o.op with
      | some v => v.same r.v
      | none => false) && (bif tbQ (ogetN (lget A e.1)) r.i then true else chkE ops A r e.2 l)
def chainE (A : List Nat) : List (Nat × St) → Bool
  | [] => true
  | e :: l => beforeE A e.1 l && chainE A l
where beforeE (A : List Nat) (i : Nat) : List (Nat × St) → Bool
  | [] => true
  | e :: l => tbQ (ogetN (lget A e.1)) i && beforeE A i l
def chkAll (ops : Array Oper) (A : List Nat) (s : St) (E : List (Nat × St)) : List DRec → Bool
  | [] => true
  | r :: l => (bif r.q then chkE P ops A r s E else true) && chkAll ops A s E l
def finF (f : Frm) : List DRec → Frm
  | [] => f
  | r :: l => finF (putE f r.o.dst r.v) l
def opPan (self : ESelf) : Option (EOut × St) → Option (V × St)
  | some (.pan v, s) => some (v, s)
  | some (.enter t, s) => match self t s with
    | some (.pan v, s') => some (v, s')
    | _ => none
  | _ => none
def panTail (ops : Array Oper) (M : List (Nat × Nat)) (A : List Nat) (ip : Nat) : List Oper → Nat → Frm → St → Option (List DRec)
  | [], _, _, _ => some []
  | o :: l, i, f, s => bif tbQ (ogetN (lget A i)) ip then (match panTail ops M A ip l (Nat.succ i) (putE f o.dst .undef) s with
      | some R => some (⟨i, o, f, s, .undef, false, none, none⟩ :: R)
      | none => none) else match drawStep P (fun _ _ => none) ops (findM i M) i o f s with
      | some r => match r.eff with
        | none => match panTail ops M A ip l (Nat.succ i) (putE f o.dst r.v) s with
          | some R => some (r :: R)
          | none => none
        | some _ => none
      | none => none
def panRun (self : ESelf) (ops : Array Oper) (M : List (Nat × Nat)) (A : List Nat) : List Oper → Nat → Frm → St → Option (List DRec × Nat × V × St)
  | [], _, _, _ => none
  | o :: l, i, f, s => match drawStep P self ops (findM i M) i o f s with
    | some r => match panRun self ops M A l (Nat.succ i) (putE f o.dst r.v) (orS s r.eff) with
      | some (R, x) => some (r :: R, x)
      | none => none
    | none => bif wantOK (guardOf ops o) f && wantedE (guardOf ops o) f then (match findM i M with
      | some _ => none
      | none => match opPan self (eop P s (evL (o.looksAt ops) f) o.op) with
        | some (v, s') => match panTail P ops M A i l (Nat.succ i) (putE f o.dst .undef) s with
          | some R => some (⟨i, o, f, s, .undef, false, none, none⟩ :: R, i, v, s')
          | none => none
        | none => none) else none
def allAfter (m : Nat) : List (Nat × St) → Bool
  | [] => true
  | e :: l => tbQ m e.1 && allAfter m l
def anyF (f : Frm) : List Oper → Frm
  | [] => f
  | o :: l => anyF (putE f o.dst .any) l
def drawP (self : ESelf) (ops : Array Oper) (M : List (Nat × Nat)) (c : Cfg) (s0 : St) : Option (EExit × Cfg) :=
  match panRun P self ops M (ancsE ops.toList []) ops.toList 0 c.tmps s0 with
  | some (R, ip, v, s') => bif chainE (ancsE ops.toList []) (effs R) && (allAfter (ogetN (lget (ancsE ops.toList []) ip)) (effs R) && chkAll P ops (ancsE ops.toList []) s0 (effs R) R) then
      some (.pan v, ⟨anyF c.tmps ops.toList, c.defers, s'⟩) else none
  | none => none
def preM (ops : Array Oper) (f : Frm) (s : St) : St × List (Nat × Nat) :=
  bif chainE (ancsE ops.toList []) (effIdx ops.toList 0) then (s, []) else preRun P ops ops.toList 0 f s 0 []
def drawE (self : ESelf) (ops : Array Oper) (c : Cfg) : Option (EExit × Cfg) :=
  bif P.follows .mixedOrders && stOK ops then
    match preM P ops c.tmps c.st with
    | (s0, M) =>
      match drawRun P self ops M ops.toList 0 c.tmps s0 with
      | some R => bif chainE (ancsE ops.toList []) (effs R) && chkAll P ops (ancsE ops.toList []) s0 (effs R) R then
          some (.normal, ⟨finF c.tmps R, c.defers, lastS s0 (effs R)⟩) else none
      | none => drawP P self ops M c s0
  else none

def hasDefer : List Oper → Bool
  | [] => false
  | o :: l => match o.op with
    | .defer _ => true
    | _ => hasDefer l
def dferE : List Oper → Cfg → Option (EExit × Cfg)
  | [], c => some (.normal, c)
  | o :: l, c => match o.guard with
    | some _ => none
    | none => match o.op with
      | .defer cl => match cl.callee with
        | .value f => match evF c.tmps f, evalOs (evF c.tmps) cl.args.toList with
          | some (.fn g first cap), some vs => bif bodyOK P g then dferE l ⟨putE c.tmps o.dst .undef, .call g (lapp first vs) cap :: c.defers, c.st⟩ else none
          | _, _ => none
        | _ => none
      | op => match qopO P c.st (evF c.tmps) op with
        | some v => dferE l ⟨putE c.tmps o.dst v, c.defers, c.st⟩
        | none => none
def regionE (self : ESelf) (round : Option Nat) (ops : Array Oper) (draw : Bool) (c : Cfg) : Option (EExit × Cfg) :=
  match draw with
  | false => bif hasDefer ops.toList then (match round with
      | none => dferE P ops.toList c
      | some _ => none) else runOps P self ops ops.toList c
  | true => drawE P self ops c
inductive CodeF where
  | mk (f : Cfg → Option (EExit × Cfg))
def runF (f : CodeF) (c : Cfg) : Option (EExit × Cfg) := match f with | .mk f => f c
abbrev LpF := Nat → Option (Cfg → Option (EExit × Cfg))
def noLp : LpF := fun _ => none
def orO (a b : Option Nat) : Option Nat := match a with
  | some n => some n
  | none => b
def firstR (x : Code) : Option Nat :=
  @Code.rec (fun _ => Option Nat) none (fun id _ _ => some id) (fun _ _ ia ib => orO ia ib) (fun _ _ _ ia ib => orO ia ib) (fun _ _ ib => ib) (fun _ ib => ib) (fun _ _ _ _ ia ib => orO ia ib) (fun _ => none) (fun _ ib => ib) (fun _ => none) (fun _ => none) none (fun _ => none) x
def loopF (lp : LpF) (b : Code) (f : Cfg → Option (EExit × Cfg)) : Cfg → Option (EExit × Cfg) :=
  match firstR b with
  | some id => (match lp id with
    | some F => F
    | none => f)
  | none => f
def compC (self : ESelf) (fuel : Nat) (round : Option Nat) (lp : LpF) (x : Code) : CodeF :=
  @Code.rec (fun _ => CodeF)
    (.mk fun c => some (.normal, c))
    (fun _ ops draw => .mk (regionE P self round ops draw))
    (fun _ _ ia ib => .mk (seqE (runF ia) (runF ib)))
    (fun x _ _ ia ib => .mk (condE x (runF ia) (runF ib)))
    (fun id _ ib => .mk (blockE id (runF ib)))
    (fun b ib => .mk (loopF lp b (iterE (runF ib) fuel)))
    (fun f ps assign body _ _ => .mk (rangeE P self round f ps assign body))
    (fun id => .mk fun c => some (.exit id, c))
    (fun _ ib => .mk (runF ib))
    (fun _ => .mk fun c => some (.normal, c))
    (fun _ => .mk fun _ => none)
    (.mk fun c => some (.ret, c))
    (fun _ => .mk fun _ => none) x
def runCode (self : ESelf) (fuel : Nat) (round : Option Nat) (x : Code) (c : Cfg) : Option (EExit × Cfg) := runF (compC P self fuel round noLp x) c

def setParams : Frm → List Tmp → List V → Frm
  | t, p :: ps, v :: vs => setParams (putE t (some p) v) ps vs
  | t, _, _ => t

def runRound (self : ESelf) (fuel : Nat) (l : Nat) (args : List V) (s : St) : Option (EEnd × St) :=
  match s.heap.get l with
  | some (.loop r) =>
    match runCode P self fuel (some l) r.assign ⟨setParams r.tmps r.params args, [], s⟩ with
    | some (.normal, c1) => match c1.st.heap.get l with
      | some (.loop r1) => match r1.state with
        | .ready =>
          match runCode P self fuel (some l) r.body ⟨c1.tmps, c1.defers, c1.st.upd l (.loop { r1 with state := .busy })⟩ with
          | some (e, c2) => match c2.st.heap.get l with
            | some (.loop r2) => match e with
              | .normal => some (.ret (.bool true), c2.st.upd l (.loop { r2 with state := .ready, pending := none }))
              | .ret => some (.ret (.bool false), c2.st.upd l (.loop { r2 with state := .done, pending := some .ret }))
              | .exit id => some (.ret (.bool false), c2.st.upd l (.loop { r2 with state := .done, pending := some (.exit id) }))
              | .pan _ => none
            | _ => none
          | none => none
        | _ => none
      | _ => none
    | _ => none
  | _ => none

def resultsE (s : St) (f : Frm) : List ResultVar → Option (List V)
  | [] => some []
  | .tmp t :: l => match resultsE s f l with
    | some r => match f.get t with
      | .any => none
      | v => some (v :: r)
    | none => none
  | .cell a t :: l => match chkQ (qLoad P s t (f.get a)) with
    | some v => match resultsE s f l with
      | some r => some (v :: r)
      | none => none
    | none => none
def resultE (s : St) (f : Frm) (rs : List ResultVar) : Option V :=
  match resultsE P s f rs with
  | some [v] => some v
  | some l => some (match l with | [] => .undef | _ => .tup l)
  | none => none

abbrev DM := Option (V × Bool)
inductive DCodeF where
  | mk (f : Cfg → DM → Option (EExit × Cfg × DM))
def runD (f : DCodeF) (c : Cfg) (m : DM) : Option (EExit × Cfg × DM) := match f with | .mk f => f c m
def withD (m : DM) : Option (EExit × Cfg) → Option (EExit × Cfg × DM)
  | some (.pan _, _) => none
  | some (e, c) => some (e, c, m)
  | none => none
def isRec : Op → Bool
  | .call cl => match cl.callee with
    | .builtin .recover => cl.args.isEmpty
    | _ => false
  | _ => false
def hasRec : List Oper → Bool
  | [] => false
  | o :: l => bif isRec o.op then true else hasRec l
def recE : List Oper → Cfg → DM → Option (EExit × Cfg × DM)
  | [], c, m => some (.normal, c, m)
  | o :: l, c, m => match o.guard with
    | some _ => none
    | none => bif isRec o.op then (match m with
        | some (v, false) => recE l ⟨putE c.tmps o.dst v, c.defers, c.st⟩ (some (v, true))
        | m => recE l ⟨putE c.tmps o.dst .nili, c.defers, c.st⟩ m) else
      match qopO P c.st (evF c.tmps) o.op with
        | some v => recE l ⟨putE c.tmps o.dst v, c.defers, c.st⟩ m
        | none => none
def seqD (a b : Cfg → DM → Option (EExit × Cfg × DM)) (c : Cfg) (m : DM) : Option (EExit × Cfg × DM) :=
  match a c m with
  | some (.normal, c', m') => b c' m'
  | r => r
def condD (x : Operand) (a b : Cfg → DM → Option (EExit × Cfg × DM)) (c : Cfg) (m : DM) : Option (EExit × Cfg × DM) :=
  match evF c.tmps x with
  | some (.bool true) => a c m
  | some (.bool false) => b c m
  | _ => none
def compD (self : ESelf) (fuel : Nat) (x : Code) : DCodeF :=
  @Code.rec (fun _ => DCodeF)
    (.mk fun c m => withD m (runCode P self fuel none .skip c))
    (fun id ops draw => .mk fun c m => match draw with
      | false => bif hasRec ops.toList then recE P ops.toList c m else withD m (runCode P self fuel none (.region id ops false) c)
      | true => withD m (runCode P self fuel none (.region id ops true) c))
    (fun _ _ ia ib => .mk (seqD (runD ia) (runD ib)))
    (fun x _ _ ia ib => .mk (condD x (runD ia) (runD ib)))
    (fun id b _ => .mk fun c m => withD m (runCode P self fuel none (.block id b) c))
    (fun b _ => .mk fun c m => withD m (runCode P self fuel none (.loop b) c))
    (fun f ps assign body _ _ => .mk fun c m => withD m (runCode P self fuel none (.rangeFunc f ps assign body) c))
    (fun id => .mk fun c m => withD m (runCode P self fuel none (.exit id) c))
    (fun b _ => .mk fun c m => withD m (runCode P self fuel none (.scope b) c))
    (fun l => .mk fun c m => withD m (runCode P self fuel none (.label l) c))
    (fun l => .mk fun c m => withD m (runCode P self fuel none (.goto l) c))
    (.mk fun c m => withD m (runCode P self fuel none .ret c))
    (fun why => .mk fun c m => withD m (runCode P self fuel none (.refuse why) c)) x
def runDef (self : ESelf) (fuel : Nat) (g : FuncId) (args : List V) (m : DM) (s : St) : Option (DM × St) :=
  match P.funcs[g]? with
  | some fn => match fn.body with
    | some c => bif !(Nat.ble (llen args) fn.ntmps && Nat.ble fn.ntmps 4096) then none else match runD (compD P self fuel c) ⟨mkFrm fn.ntmps args, [], s⟩ m with
      | some (e, c', m') => match e with
        | .normal | .ret => match c'.defers with
          | [] => match resultE P c'.st c'.tmps fn.results.toList with
            | some _ => some (m', c'.st)
            | none => none
          | _ :: _ => none
        | _ => none
      | none => none
    | none => none
  | none => none
def settleE : DM → DM
  | some (_, true) => none
  | m => m

def leaveE (self : ESelf) (fuel : Nat) (fn : Func) (tmps : Frm) (pan : DM) : List EDef → St → Option (EEnd × St)
  | [], s => match pan with
    | some (v, false) => some (.pan v, s)
    | some (_, true) => none
    | none => match resultE P s tmps fn.results.toList with
      | some v => some (.ret v, s)
      | none => none
  | .mark r :: ds, s => match s.heap.get r with
    | some (.dfr false) => leaveE self fuel fn tmps pan ds (s.upd r (.dfr true))
    | _ => none
  | .call g args cap :: ds, s => bif bodyOK P g then (match runDef P self fuel g (lapp args cap) pan s with
    | some (m, s') => leaveE self fuel fn tmps (settleE m) ds s'
    | none => none) else none

def runFnL (self : ESelf) (fuel : Nat) (lp : LpF) (f : FuncId) (args : List V) (s : St) : Option (EEnd × St) :=
  match P.funcs[f]? with
  | some fn => match fn.body with
    | some c => bif !(Nat.ble (llen args) fn.ntmps && Nat.ble fn.ntmps 4096) then none else match runF (compC P self fuel none lp c) ⟨mkFrm fn.ntmps args, [], s⟩ with
      | some (.normal, c') => leaveE P self fuel fn c'.tmps none c'.defers c'.st
      | some (.ret, c') => leaveE P self fuel fn c'.tmps none c'.defers c'.st
      | some (.pan v, c') => leaveE P self fuel fn c'.tmps (some (v, false)) c'.defers c'.st
      | _ => none
    | none => none
  | none => none

def runFn (self : ESelf) (fuel : Nat) (f : FuncId) (args : List V) (s : St) : Option (EEnd × St) := runFnL P self fuel noLp f args s

def runT (self : ESelf) (fuel : Nat) : ESelf
  | .fn f args, s => runFn P self fuel f args s
  | .round l args, s => runRound P self fuel l args s

def callE (known : ESelf) (fuel : Nat) (d : Nat) : ESelf :=
  @Nat.rec (fun _ => ESelf) (fun _ _ => none) (fun _ ih t s => match known t s with
    | some r => some r
    | none => runT P ih fuel t s) d
end
end Go.Sym
end

section
namespace Go.Sym
set_option linter.unusedSimpArgs false
set_option linter.unusedVariables false

def DRel (ρ : Env) : List EDef → List Deferred → Prop
  | [], D => D = []
  | .mark r :: l, D => ∃ x Y, ρ r = some x ∧ D = { target := .collected x.B, args := #[] } :: Y ∧ DRel ρ l Y
  | .call f a c :: l, D => ∃ (A C : Array Value) (Y : List Deferred), D = { target := .fn (.func f) C, args := A } :: Y ∧ LRel ρ a A.toList ∧ LRel ρ c C.toList ∧ DRel ρ l Y
theorem DRel.up {ρ ρ' : Env} (h : ρ.sub ρ') : ∀ {l : List EDef} {D : List Deferred}, DRel ρ l D → DRel ρ' l D
  | [], _, r => r
  | .mark _ :: _, _, r => by obtain ⟨x, Y, h1, h2, h3⟩ := r; exact ⟨x, Y, h.1 _ _ h1, h2, h3.up h⟩
  | .call .. :: _, _, r => by obtain ⟨A, C, Y, h1, h2, h3, h4⟩ := r; exact ⟨A, C, Y, h1, LRel.up h _ _ h2, LRel.up h _ _ h3, h4.up h⟩
theorem DRel.mono {ρ ρ' : Env} (h : ρ.le ρ') {l : List EDef} {D : List Deferred} (r : DRel ρ l D) : DRel ρ' l D := DRel.up h.sub r

def XRel (ρ : Env) : EExit → Exit → Prop
  | .normal, E => E = .normal
  | .exit id, E => E = .exit id
  | .ret, E => E = .ret
  | .pan v, E => ∃ X, E = .panic [{ v := X, recovered := false }] ∧ VRel ρ v X
def NRel (ρ : Env) : EEnd → Ending → Prop
  | .ret v, E => ∃ X, E = .returned X ∧ VRel ρ v X
  | .pan v, E => ∃ X, E = .panicked [{ v := X, recovered := false }] ∧ VRel ρ v X

def RF (round : Option Nat) : Fence := { Fence.wide with round := round }
theorem RF_fn (r : Option Nat) (f : FuncId) : (RF r).fn f := trivial
theorem RF_depth (r : Option Nat) : (RF r).depth = none := rfl

def Post (own : Own) (ρ : Env) (w : World) (e : EEnd) (s' : St) : Ending → World → Prop :=
  fun E w' => ∃ ρ', ρ.le ρ' ∧ NRel ρ' e E ∧ SRel own ρ' s' w' ∧ Fr own w w'
abbrev FRelA := FRel
theorem FRel.toA {ρ : Env} {f : Frm} {A : Array Value} (r : FRel ρ f A) : FRelA ρ f A := r
abbrev FX (ρ : Env) (_ : EExit) (f : Frm) (A : Array Value) : Prop := FRel ρ f A
theorem FRel.toX {ρ : Env} {f : Frm} {A : Array Value} (r : FRel ρ f A) : ∀ e, FX ρ e f A := fun _ => r
def CPost (own : Own) (ρ : Env) (w : World) (e : EExit) (c' : Cfg) : Exit → Act → World → Prop :=
  fun E A' w' => ∃ ρ', ρ.le ρ' ∧ XRel ρ' e E ∧ FX ρ' e c'.tmps A'.tmps ∧ DRel ρ' c'.defers A'.defers ∧ SRel own ρ' c'.st w' ∧ Fr own w w'

def SelfOK (P : Program) (self : ESelf) : Prop := ∀ t s e s', self t s = some (e, s') → ∀ own ρ w, SRel own ρ s w → ∀ n : Nat,
  match t with
  | .fn f args => ∀ A : Array Value, LRel ρ args A.toList → CallsIn Fence.wide n P f A w (Post own ρ w e s')
  | .round l args => ∀ (x : Blk) (L : Loop) (A : Array Value), ρ l = some x → w.heap[x.B]? = some (.loop L) → LRel ρ args A.toList → A.size = L.params.size →
      RoundIn Fence.wide n P x.B L.fn ((L.params.zip A).foldl (fun tmps (t, a) => tmps.setIfInBounds t a) L.tmps) L.assign L.body w (Post own ρ w e s')

def NextRel (own : Own) (ρ : Env) (s : St) (w : World) (s' : St) (r : Result Next) : EOut → Prop
  | .val v => ∃ ρ' X w', ρ.le ρ' ∧ r = .ok (.value X) w' ∧ VRel ρ' v X ∧ SRel own ρ' s' w' ∧ Fr own w w'
  | .skip => ∃ w', r = .ok .skip w' ∧ SRel own ρ s' w' ∧ Fr own w w'
  | .pan v => s' = s ∧ ∃ X, r = .halt (.panic X) w ∧ VRel ρ v X
  | .enter (.fn f args) => s' = s ∧ ∃ A, r = .ok (.enter f A) w ∧ LRel ρ args A.toList
  | .enter (.round l args) => s' = s ∧ ∃ (x : Blk) (L : Loop) (A : Array Value), ρ l = some x ∧ w.heap[x.B]? = some (.loop L) ∧ LRel ρ args A.toList ∧ A.size = L.params.size ∧
      r = .ok (.round x.B L.fn ((L.params.zip A).foldl (fun tmps (t, a) => tmps.setIfInBounds t a) L.tmps) L.assign L.body) w

section
variable {P : Program} {own : Own} {ρ : Env} {s : St} {w : World}

theorem FRel.get {f : Frm} {A : Array Value} (h : FRel ρ f A) (k : Nat) : VRel ρ (f.get k) (A.getD k undef) := by
  obtain ⟨h1, d, h2, h3, h4⟩ := h
  rw [Frm.get_eq, blt_iff, Array.getD_eq_getD_getElem?]
  by_cases hk : k < f.n
  · rw [decide_eq_true hk]
    have hk' : k < A.size := by omega
    have := h4 k A[k] (Array.getElem?_eq_getElem hk')
    rw [Array.getElem?_eq_getElem hk']
    exact this
  · rw [decide_eq_false hk]
    have hk' : A.size ≤ k := by omega
    rw [Array.getElem?_eq_none hk']
    show VRel ρ .undef (.tuple #[])
    simp only [VRel]

theorem evF_rel {f : Frm} {A : Act} (h : FRel ρ f A.tmps) : EvRel ρ (evF f) A := by
  intro x v hv
  cases x with
  | tmp t =>
    have hv : some (f.get t) = some v := hv
    cases hv
    exact h.get t
  | const c => exact ofVal_rel hv
  | global g => cases hv
  | func g =>
    have hv : some (V.fn g [] []) = some v := hv
    cases hv
    simp only [VRel, Act.eval]
    exact ⟨#[], #[], rfl, rfl, rfl⟩

theorem FRel.set {f : Frm} {A : Array Value} (h : FRel ρ f A) {v : V} {X : Value} (hv : VRel ρ v X) (k : Nat) : FRel ρ (putE f (some k) v) (A.setIfInBounds k X) := by
  obtain ⟨h1, d, h2, h3, h4⟩ := h
  rw [putE_some, blt_iff]
  by_cases hk : k < f.n
  · rw [decide_eq_true hk]
    refine ⟨by simpa using h1, d, B.set_full _ _ _ _ h2, h3, fun i Y hi => ?_⟩
    show VRel ρ ((B.set v f.t k).get i) Y
    have hi' : i < A.size := by
      have := (Array.getElem?_eq_some_iff.1 hi).1
      simpa using this
    rw [B.get_set v f.t d k i h2 (by omega) (by omega)]
    rw [Array.getElem?_setIfInBounds] at hi
    by_cases e : k = i
    · subst e
      simp only [if_true, hi'] at hi
      cases hi
      simpa using hv
    · rw [if_neg e] at hi
      rw [if_neg (fun e' => e e'.symm)]
      exact h4 i Y hi
  · rw [decide_eq_false hk]
    have : A.setIfInBounds k X = A := by
      apply Array.ext_getElem?
      intro i
      rw [Array.getElem?_setIfInBounds]
      split
      · rename_i e; subst e
        rw [if_neg (by omega), Array.getElem?_eq_none (by omega)]
      · rfl
    rw [this]
    exact ⟨h1, d, h2, h3, h4⟩
theorem putE_rel {f : Frm} {A : Act} (h : FRel ρ f A.tmps) {v : V} {X : Value} (hv : VRel ρ v X) (d : Option Tmp) : FRel ρ (putE f d v) (A.put d X).tmps := by
  cases d with
  | none => exact h
  | some k => exact h.set hv k
theorem put_defers (A : Act) (d : Option Tmp) (X : Value) : (A.put d X).defers = A.defers := by cases d <;> rfl

theorem isAny_ne {v : V} (h : isAny v = false) : v ≠ .any := fun e => by subst e; cases h
theorem wanted_rel {f : Frm} {A : Act} (h : FRel ρ f A.tmps) (ops : Array Oper) (o : Oper) (hok : wantOK (guardOf ops o) f = true) : wantedE (guardOf ops o) f = Region.wanted o (yielded ops A.tmps) := by
  unfold guardOf at hok ⊢
  unfold Region.wanted
  cases hg : o.guard with
  | none => rfl
  | some p =>
    obtain ⟨j, want⟩ := p
    simp only [hg] at hok ⊢
    cases ho : ops[j]? with
    | none => simp [wantedE, yielded, ho]
    | some o' =>
      simp only [ho] at hok ⊢
      cases hd : o'.dst with
      | none => simp [wantedE, yielded, ho, hd]
      | some d =>
        rw [hd] at hok
        have hna : f.get d ≠ .any := isAny_ne (by simpa [wantOK] using hok)
        obtain ⟨h1, dd, h2, h3, h4⟩ := h
        simp only [wantedE, yielded, ho, hd, Option.bind_some, Frm.get_eq, blt_iff]
        rw [Frm.get_eq, blt_iff] at hna
        by_cases hk : d < f.n
        · rw [decide_eq_true hk] at hna ⊢
          have hk' : d < A.tmps.size := h1 ▸ hk
          have hv := h4 d A.tmps[d] (Array.getElem?_eq_getElem hk')
          rw [Array.getElem?_eq_getElem hk']
          simp only [cond_true] at hna ⊢
          generalize A.tmps[d] = X at hv
          generalize f.t.get d = v at hv hna
          cases v <;> simp only [VRel] at hv
          case bool b => subst hv; cases want <;> cases b <;> rfl
          case any => exact absurd rfl hna
          all_goals first
            | (subst hv; rfl)
            | (obtain ⟨_, _, _, _, rfl⟩ := hv; rfl)
            | (obtain ⟨_, _, _, _, _, rfl, _⟩ := hv; rfl)
            | (obtain ⟨_, _, rfl⟩ := hv; rfl)
            | (obtain ⟨_, _, rfl, _⟩ := hv; rfl)
            | (obtain ⟨_, rfl, _⟩ := hv; rfl)
        · rw [decide_eq_false hk]
          have hk' : A.tmps.size ≤ d := Nat.le_of_not_lt (h1 ▸ hk)
          rw [Array.getElem?_eq_none hk']
          rfl

theorem outV_some {x : Er} {o : EOut} {s' : St} (h : outV x = some (o, s')) : ∃ c v, x = some (c, v, s') ∧ allB c ∧ o = .val v := by
  cases x with
  | none => cases h
  | some p =>
    obtain ⟨c, v, t⟩ := p
    simp only [outV] at h
    cases hc : allb c with
    | false => rw [hc] at h; cases h
    | true => rw [hc] at h; cases h; exact ⟨c, v, rfl, (allb_iff c).1 hc, rfl⟩
theorem outS_some {x : Es} {o : EOut} {s' : St} (h : outS x = some (o, s')) : ∃ c, x = some (c, s') ∧ allB c ∧ o = .skip := by
  cases x with
  | none => cases h
  | some p =>
    obtain ⟨c, t⟩ := p
    simp only [outS] at h
    cases hc : allb c with
    | false => rw [hc] at h; cases h
    | true => rw [hc] at h; cases h; exact ⟨c, rfl, (allb_iff c).1 hc, rfl⟩
theorem chkQ_some {x : Qr} {v : V} (h : chkQ x = some v) : ∃ c, x = some (c, v) ∧ allB c := by
  cases x with
  | none => cases h
  | some p =>
    obtain ⟨c, t⟩ := p
    simp only [chkQ] at h
    cases hc : allb c with
    | false => rw [hc] at h; cases h
    | true => rw [hc] at h; cases h; exact ⟨c, rfl, (allb_iff c).1 hc⟩

theorem NextRel.ofV {m : Sem Value} {v : V} {s' : St} (h : OKv P own ρ m w v s') : NextRel own ρ s w s' ((do pure (.value (← m)) : Sem Next).run P w) (.val v) := by
  obtain ⟨ρ', X, w', h1, h2, h3⟩ := h
  exact ⟨ρ', X, w', h1, by simp [h2], h3⟩
theorem NextRel.ofU {m : Sem Unit} {s' : St} (h : ∃ w', m.run P w = .ok () w' ∧ SRel own ρ s' w' ∧ Fr own w w') : NextRel own ρ s w s' ((do m; pure .skip : Sem Next).run P w) .skip := by
  obtain ⟨w', h1, h2, h3⟩ := h
  exact ⟨w', by simp [h1], h2, h3⟩

theorem bodyOK_spec {f : FuncId} (h : bodyOK P f = true) : ∃ fn, P.funcs[f]? = some fn ∧ (fn.name == "runtime.NumGoroutine") = false ∧ fn.body.isNone = false := by
  unfold bodyOK at h
  split at h
  · rename_i fn hf
    simp only [Bool.and_eq_true, Bool.not_eq_true'] at h
    refine ⟨fn, hf, h.1, ?_⟩
    cases hb : fn.body with
    | none => rw [hb] at h; cases h.2
    | some c => rfl
  · cases h

theorem run_callFunc {f : FuncId} (h : bodyOK P f = true) (A : Array Value) : (callFunc f A).run P w = .ok (.enter f A) w := by
  obtain ⟨fn, h1, h2, h3⟩ := bodyOK_spec h
  simp only [callFunc, Sem.run_bind, run_program, Result.andThen_ok, h1, h2, h3, Bool.false_eq_true, if_false, Sem.run_pure]

theorem arr2 {A : Array Value} {X Y : Value} (h : A.toList = [X, Y]) : A = #[X, Y] := by cases A; simp at h; simp [h]

theorem eBuiltin_rel (h : SRel own ρ s w) {b : Builtin} {ts : Array TypeId} {vs : List V} {v : V} {s' : St} {c : List Bool} (hq : eBuiltin P s b ts vs = some (c, v, s')) (hc : allB c) {A : Array Value} (ha : LRel ρ vs A.toList) (ty : TypeId) (cs : Array Bool) :
    NextRel own ρ s w s' ((Go.builtin b ts ty cs A).run P w) (.val v) := by
  unfold eBuiltin at hq
  split at hq
  · obtain ⟨X, _, e, h1, Y, _, rfl, h2, h3⟩ := ha
    have h3 : _ = [] := h3
    subst h3
    obtain rfl := arr2 e
    exact NextRel.ofV (eAppend_rel h hq hc h1 h2)
  · obtain ⟨X, _, e, h1, Y, _, rfl, h2, h3⟩ := ha
    have h3 : _ = [] := h3
    subst h3
    obtain rfl := arr2 e
    exact NextRel.ofV (eCopy_rel h hq hc h1 h2)
  · obtain ⟨X, _, e, h1, h3⟩ := ha
    have h3 : _ = [] := h3
    subst h3
    have e1 : A = #[X] := by cases A; simp at e; simp [e]
    subst e1
    exact NextRel.ofV (eClear_rel h hq hc h1)
  · obtain ⟨X, _, e, h1, Y, _, rfl, h2, h3⟩ := ha
    have h3 : _ = [] := h3
    subst h3
    obtain rfl := arr2 e
    exact NextRel.ofV (eDel_rel h hq h1 h2)
  · cases hq

theorem mkQ_run {m : Sem Value} {k : Mk} (h : MkOK P ρ m w k) {o : Oper} {A : Act} (he : ∀ X w', m.run P w = .ok X w' → (execOp A.eval o).run P w = .ok (.value X) w') : ∃ m : Sem Value, (∀ X w', m.run P w = .ok X w' → (execOp A.eval o).run P w = .ok (.value X) w') ∧ MkOK P ρ m w k := ⟨m, he, h⟩
theorem mkQ_rel {ev : Operand → Option V} {A : Act} (hA : EvRel ρ ev A) {o : Oper} {k : Mk} (hq : mkQ P ev o.op = some k) :
    ∃ m : Sem Value, (∀ X w', m.run P w = .ok X w' → (execOp A.eval o).run P w = .ok (.value X) w') ∧ MkOK P ρ m w k := by
  unfold mkQ at hq
  split at hq
  · rename_i c m hr
    cases hc : allb c with
    | false => rw [hc] at hq; cases hq
    | true =>
    rw [hc, cond_true] at hq
    cases hq
    have hc := (allb_iff c).1 hc
    unfold mkR at hr
    split at hr <;> rename_i heq
    · exact mkQ_run (mAlloc_rel (ρ := ρ) (w := w) hr) fun X w' e => by unfold execOp; simp only [heq]; simp [e]
    · split at hr
      · rename_i hx
        exact mkQ_run (mBox_rel (P := P) (w := w) hr (hA _ _ hx)) fun X w' e => by unfold execOp; simp only [heq]; simp [e]
      · cases hr
    · split at hr
      · rename_i hx
        exact mkQ_run (mBuildSlice_rel (w := w) hr (by rw [map_toList]; exact evalParts_rel hA hx)) fun X w' e => by unfold execOp; simp only [heq]; simp [e]
      · cases hr
    · split at hr
      · rename_i h1 h2
        exact mkQ_run (mMakeSlice_rel (w := w) hr hc (hA _ _ h1) (hA _ _ h2)) fun X w' e => by unfold execOp; simp only [heq]; simp [e]
      · cases hr
    · cases hr
  · cases hq

theorem optO_rel' {ev : Operand → Option V} {A : Act} (hA : EvRel ρ ev A) {x : Option Operand} {v : Option V} (h : optO ev x = some v) : OptRel ρ v (x.map A.eval) := by
  unfold optO at h
  split at h
  · cases h; rfl
  · split at h
    · rename_i hv; cases h; exact ⟨_, rfl, hA _ _ hv⟩
    · cases h
theorem eopR_rel (h : SRel own ρ s w) {ev : Operand → Option V} {A : Act} (hA : EvRel ρ ev A) {o : Oper} {out : EOut} {s' : St} {x : Er ⊕ Es} (hx : eopR P s ev o.op = some x) (hq : outR x = some (out, s')) :
    NextRel own ρ s w s' ((execOp A.eval o).run P w) out := by
  unfold eopR at hx
  unfold execOp
  split at hx <;> rename_i heq <;> simp only [heq]
  · cases hx
    obtain ⟨c, v, h1, hc, rfl⟩ := outV_some hq
    exact NextRel.ofV (eAlloc_rel h h1 hc)
  · split at hx
    · rename_i hv
      cases hx
      obtain ⟨c, v, h1, hc, rfl⟩ := outV_some hq
      exact NextRel.ofV (eBox_rel h h1 hc (hA _ _ hv))
    · cases hx
  · split at hx
    · rename_i hv
      cases hx
      obtain ⟨c, v, h1, hc, rfl⟩ := outV_some hq
      exact NextRel.ofV (eBuildSlice_rel h h1 hc (by rw [map_toList]; exact evalParts_rel hA hv))
    · cases hx
  · split at hx
    · rename_i h1 h2
      cases hx
      obtain ⟨c, h3, hc, rfl⟩ := outS_some hq
      exact NextRel.ofU (eStore_rel h h3 hc (hA _ _ h1) (hA _ _ h2))
    · cases hx
  · split at hx
    · rename_i hv
      cases hx
      obtain ⟨c, v, h1, hc, rfl⟩ := outV_some hq
      exact NextRel.ofV (eBytes_rel h h1 (hA _ _ hv))
    · cases hx
  · split at hx
    · rename_i h1 h2
      cases hx
      obtain ⟨c, v, h3, hc, rfl⟩ := outV_some hq
      exact NextRel.ofV (eMakeSlice_rel h h3 hc (hA _ _ h1) (hA _ _ h2))
    · cases hx
  · split at hx
    · rename_i h1
      cases hx
      obtain ⟨c, v, h3, hc, rfl⟩ := outV_some hq
      exact NextRel.ofV (eMakeMap_rel h h3 hc (optO_rel' hA h1))
    · cases hx
  · split at hx
    · rename_i h1
      cases hx
      obtain ⟨c, v, h3, hc, rfl⟩ := outV_some hq
      exact NextRel.ofV (eRange_rel h h3 (hA _ _ h1))
    · cases hx
  · split at hx
    · rename_i h1
      cases hx
      obtain ⟨c, v, h3, hc, rfl⟩ := outV_some hq
      exact NextRel.ofV (eEntry_rel h h3 hc (hA _ _ h1))
    · cases hx
  · split at hx
    · rename_i h1 h2 h3
      cases hx
      obtain ⟨c, h4, hc, rfl⟩ := outS_some hq
      exact NextRel.ofU (eMapSet_rel h h4 (hA _ _ h1) (hA _ _ h2) (hA _ _ h3))
    · cases hx
  · split at hx
    · rename_i h1 h2 h3
      cases hx
      obtain ⟨c, h4, hc, rfl⟩ := outS_some hq
      exact NextRel.ofU (eMapSet_rel h h4 (hA _ _ h1) (hA _ _ h2) (hA _ _ h3))
    · cases hx
  · split at hx
    · rename_i h1 h2
      cases hx
      obtain ⟨c, v, h3, hc, rfl⟩ := outV_some hq
      exact NextRel.ofV (eMapAt_rel h h3 (hA _ _ h1) (hA _ _ h2))
    · cases hx
  · split at hx
    · rename_i h1 h2 h3
      cases hx
      obtain ⟨c, h4, hc, rfl⟩ := outS_some hq
      exact NextRel.ofU (eStamp_rel h h4 hc (hA _ _ h1) (hA _ _ h2) (hA _ _ h3))
    · cases hx
  · split at hx
    · rename_i hc
      split at hx
      · rename_i vs hvs
        cases hx
        obtain ⟨c, v, h3, hcc, rfl⟩ := outV_some hq
        have := evalOs_rel hA hvs
        rw [← map_toList] at this
        simp only [resolve, hc, Sem.run_bind, Sem.run_pure, Result.andThen_ok, invoke]
        exact eBuiltin_rel h h3 hcc this o.type _
      · cases hx
    · cases hx
  · cases hx

theorem eopC_rel (h : SRel own ρ s w) {ev : Operand → Option V} {A : Act} (hA : EvRel ρ ev A) {o : Oper} {out : EOut} {s' : St} (hq : eopC P s ev o.op = some (out, s')) :
    NextRel own ρ s w s' ((execOp A.eval o).run P w) out := by
  unfold eopC at hq
  unfold execOp
  split at hq <;> rename_i heq <;> simp only [heq]
  · split at hq
    · rename_i hx
      cases hq
      have := hA _ _ hx
      have hv := this
      simp only [VRel] at this
      obtain ⟨X, e, _⟩ := this
      refine ⟨rfl, .iface _ X, ?_, by rw [← e]; exact hv⟩
      simp [Instr.panic, e]
    · cases hq
  · rename_i c
    split at hq
    · rename_i f hc
      split at hq
      · rename_i g first cap vs hf hvs
        cases hb : bodyOK P g with
        | false => simp [hb] at hq
        | true =>
        simp only [hb, cond_true, Option.some.injEq, Prod.mk.injEq] at hq
        obtain ⟨rfl, rfl⟩ := hq
        have e1 := hA _ _ hf
        simp only [VRel] at e1
        obtain ⟨A1, C1, e1, e2, e3⟩ := e1
        have e4 := evalOs_rel hA hvs
        rw [← map_toList] at e4
        refine ⟨rfl, A1 ++ (c.args.map A.eval) ++ C1, ?_, ?_⟩
        · simp only [resolve, hc, Sem.run_bind, e1, Deferred.ofValue, Sem.run_pure, Result.andThen_ok, invoke]
          exact run_callFunc hb _
        · rw [lapp_eq, lapp_eq]
          simp only [Array.toList_append]
          exact (e2.append e4).append e3
      · rename_i l vs hf hvs
        split at hq
        · rename_i r hg
          simp only [llen_eq] at hq
          cases hb : Nat.beq vs.length r.params.length with
          | false => simp [hb] at hq
          | true =>
          simp only [hb, cond_true, Option.some.injEq, Prod.mk.injEq] at hq
          obtain ⟨rfl, rfl⟩ := hq
          have e1 := hA _ _ hf
          simp only [VRel] at e1
          obtain ⟨B, O, S, hB, e1⟩ := e1
          have e4 := evalOs_rel hA hvs
          rw [← map_toList] at e4
          obtain ⟨x, hx, _, L, D, l1, l2, l3, l4, l5, l6⟩ := h.obj' hg hB
          rw [hB] at hx; cases hx
          have hsz : (c.args.map A.eval).size = L.params.size := by
            have a1 := e4.length
            have a2 : vs.length = r.params.length := by simpa using hb
            have a3 : L.params.toList.length = r.params.length := by rw [l5]
            simp only [Array.length_toList] at a1 a3
            omega
          refine ⟨rfl, ⟨B, O, S⟩, L, c.args.map A.eval, hB, l1, e4, hsz, ?_⟩
          simp only [resolve, hc, Sem.run_bind, e1, Deferred.ofValue, Sem.run_pure, Result.andThen_ok, invoke]
          have hy := run_yield (P := P) (w := w) l1 hsz
          simpa using hy
        · cases hq
      · cases hq
    · cases hq
  · cases hq
theorem eop_rel (h : SRel own ρ s w) {ev : Operand → Option V} {A : Act} (hA : EvRel ρ ev A) {o : Oper} {out : EOut} {s' : St} (hq : eop P s ev o.op = some (out, s')) :
    NextRel own ρ s w s' ((execOp A.eval o).run P w) out := by
  unfold eop at hq
  split at hq
  · rename_i x hx
    exact eopR_rel h hA hx hq
  · exact eopC_rel h hA hq

theorem opE_rel (h : SRel own ρ s w) {ev : Operand → Option V} {A : Act} (hA : EvRel ρ ev A) {o : Oper} {out : EOut} {s' : St} (hq : opE P s ev o.op = some (out, s')) :
    NextRel own ρ s w s' ((execOp A.eval o).run P w) out := by
  unfold opE at hq
  split at hq
  · rename_i r hr
    split at hq
    · rename_i v hv
      cases hq
      obtain ⟨c, e, hc⟩ := chkQ_some hv
      cases e
      obtain ⟨X, h1, h2⟩ := qop_rel h hA hr hc
      exact ⟨ρ, X, w, ρ.le_refl, h1, h2, h, Fr.refl _ _⟩
    · cases hq
  · exact eop_rel h hA hq

theorem opE_defer {ev : Operand → Option V} {c : Call} : opE P s ev (.defer c) = none := rfl
end
end Go.Sym
end
