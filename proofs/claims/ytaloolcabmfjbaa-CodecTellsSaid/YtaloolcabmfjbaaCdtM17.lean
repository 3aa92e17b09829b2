/-
  Texts of this claim, one behind the other: EngJ EngK EngL EngQ EngR EngM. Each says its own conditions.
-/
import Derived.Test.YtaloolcabmfjbaaCdtM16
import Derived.RangeFuncLeaves
import Derived.OrdersIn
import Derived.LoopNIn
import Derived.RangeFuncNested

set_option linter.unusedVariables false
set_option linter.unusedSimpArgs false
set_option linter.unusedSectionVars false
section
namespace Go.Eng
open Go.RowKit (Below)
set_option linter.unusedSimpArgs false
set_option linter.unusedVariables false

noncomputable section
variable (P : Program)
def modE (l : List (V × V × Nat)) (i : Nat) (k v : V) : List (V × V × Nat) :=
 match l, i with
 | [], _ => []
 | e :: l, 0 => (k, v, e.2.2) :: l
 | e :: l, i + 1 => e :: modE l i k v
def eMakeMap (s : St) (t : TypeId) (r : Option V) : Option (V × St) :=
 match r with
 | none => some (.map s.next, s.new (.map [] 0))
 | some h => match P.underlying t, natOf h with
  | some (.map _ _), some _ => some (.map s.next, s.new (.map [] 0))
  | _, _ => none
def eMapUpdate (s : St) (t : TypeId) (m k v : V) : Option St :=
 match P.underlying t with
 | some (.map kt _) =>
  bif !plainKeyE P kt k then none else
  match m with
  | .map b => match s.heap.get b with
   | some (.map es c) => match findE k es 0 with
    | some (some (i, _)) => some (s.upd b (.map (modE es i k v) c))
    | some none => some (s.upd b (.map (lapp es [(k, v, c)]) (c + 1)))
    | none => none
   | _ => none
  | _ => none
 | _ => none
def eMapEntry (s : St) (t : TypeId) (m k : V) : Option (V × St) :=
 match P.underlying t with
 | some (.map kt e) =>
  bif !plainKeyE P kt k then none else
  match m with
  | .map b => match s.heap.get b with
   | some (.map es c) => match findE k es 0 with
    | some (some (i, v)) => match lget es i with
     | some x => some (.tup [v, .int .i64 (Int.ofNat x.2.2)], s.upd b (.map (modE es i k v) c))
     | none => none
    | some none => match zeroE P e with
     | some z => some (.tup [z, .int .i64 (Int.ofNat c)], s.upd b (.map (lapp es [(k, z, c)]) (c + 1)))
     | none => none
    | none => none
   | _ => none
  | _ => none
 | _ => none
def stampE (n : Nat) : List (V × V × Nat) → Nat → Option Nat
 | [], _ => none
 | e :: l, i => bif Nat.beq e.2.2 n then some i else stampE n l (i + 1)
def setVal (l : List (V × V × Nat)) (i : Nat) (v : V) : List (V × V × Nat) :=
 match l, i with
 | [], _ => []
 | e :: l, 0 => (e.1, v, e.2.2) :: l
 | e :: l, i + 1 => e :: setVal l i v
def eEntryStore (s : St) (m st v : V) : Option St :=
 match m, natOf st with
 | .map b, some n => match s.heap.get b with
  | some (.map es c) => match stampE n es 0 with
   | some i => some (s.upd b (.map (setVal es i v) c))
   | none => none
  | _ => none
 | _, _ => none
def delE (l : List (V × V × Nat)) (i : Nat) : List (V × V × Nat) :=
 match l, i with
 | [], _ => []
 | _ :: l, 0 => l
 | e :: l, i + 1 => e :: delE l i
def eDelete (s : St) (ts : Array TypeId) (m k : V) : Option (V × St) :=
 match ts[0]? with
 | none => none
 | some t =>
 match P.underlying t with
 | some (.map kt _) =>
  bif !plainKeyE P kt k then none else
  match m with
  | .nilm => some (.undef, s)
  | .map b => match s.heap.get b with
   | some (.map es c) => match findE k es 0 with
    | some (some (i, _)) => some (.undef, s.upd b (.map (delE es i) c))
    | some none => some (.undef, s.upd b (.map es c))
    | none => none
   | _ => none
  | _ => none
 | _ => none
def eClear (s : St) (ts : Array TypeId) (m : V) : Option (V × St) :=
 match ts[0]? with
 | none => none
 | some t =>
 match P.underlying t, m with
 | some (.map _ _), .nilm => some (.undef, s)
 | some (.map _ _), .map b => match s.heap.get b with
  | some (.map es c) => some (.undef, s.upd b (.map [] c))
  | _ => none
 | some (.slice _), .nils => some (.undef, s)
 | some (.slice e), .sl b o len _ _ es =>
  bif Nat.beq len 0 then some (.undef, s) else
  match zeroE P e, s.heap.get b with
  | some z, some (.cells cs t' ish) =>
   bif Nat.beq (llen (cellsV z)) es && (Nat.ble (o + len * es) (llen cs) && lall oneV (cellsV z)) then some (.undef, s.upd b (.cells (setAll cs o (repE len (cellsV z))) t' ish)) else none
  | _, _ => none
 | _, _ => none
end

section
variable {P : Program} {base : Nat} {ρ : Env} {s : St} {w : World}

theorem zeroCells_rel {zs : List V} {Z : Array Value} (hz : LRel ρ zs Z.toList) (n : Nat) : LRel ρ (repE n zs) (Builtin.zeroCells Z n).toList := by
 have h := range_rep hz n
 have hl := hz.length
 simp only [Array.length_toList] at hl
 rw [hl] at h
 exact h
theorem zeroCells_size (Z : Array Value) (n : Nat) : (Builtin.zeroCells Z n).size = n * Z.size := by simp [Builtin.zeroCells]

theorem bool_not_cond {α : Type} {b : Bool} {x y : α} {z : α} (h : (bif !b then x else y) = z) (hx : x ≠ z) : b = true ∧ y = z := by
 cases b
 ·exact absurd h hx
 ·exact ⟨rfl, h⟩

theorem srcCells_length {x : V} {n sz : Nat} {l : List V} (hn : lenE x = some n) (hq : srcCells s x sz = some l) : l.length = n * sz := by
 cases x <;> simp only [lenE, reduceCtorEq, Option.some.injEq] at hn
 case str y =>
  subst hn
  simp only [srcCells] at hq
  cases hb : Nat.beq sz 1 with
  | false => simp [hb] at hq
  | true =>
   simp only [hb, cond_true, Option.some.injEq] at hq
   subst hq
   have : sz = 1 := by simpa using hb
   simp [BS.list, dig_length, this]
 case nils =>
  subst hn
  simp [srcCells, esOk, lenE, sliceCells] at hq
  subst hq; simp
 case slz x =>
  subst hn
  simp [srcCells, esOk, lenE, sliceCells] at hq
  subst hq; simp
 case sl b o len cap x es =>
  subst hn
  simp only [srcCells, esOk, lenE] at hq
  cases hb : Nat.beq es sz with
  | false => simp [hb] at hq
  | true =>
   have : es = sz := by simpa using hb
   subst this
   simp only [hb, cond_true, sliceCells, llen_eq, ltake_eq, ldrop_eq] at hq
   split at hq
   ·rename_i cs _
    cases hbb : Nat.ble (o + len * es) cs.length with
    | false => simp [hbb] at hq
    | true =>
     simp only [hbb, cond_true, Option.some.injEq] at hq
     subst hq
     rw [Nat.ble_eq] at hbb
     simp; omega
   ·cases hq

theorem srcE_length {ts : Array TypeId} {i : TypeInfo} {z x : V} {n : Nat} {l : List V} (hz : (cellsV z).length = i.size) (hq : srcE P s ts i z x = some (n, l)) : l.length = n * i.size := by
 unfold srcE at hq
 cases h0 : zerosE P ts with
 | true =>
  rw [h0, cond_true] at hq
  split at hq
  ·split at hq
   ·split at hq
    ·rename_i m
     cases hb : (Nat.ble (m * i.bytes) 281474976710656 && Nat.ble m 1099511627776) with
     | false => rw [hb] at hq; cases hq
     | true => rw [hb, cond_true] at hq; cases hq; rw [repE_length, hz]
    ·cases hq
   ·cases hq
  ·cases hq
 | false =>
  rw [h0, cond_false] at hq
  split at hq
  ·rename_i hn
   split at hq
   ·rename_i hnew
    cases hq
    exact srcCells_length hn hnew
   ·cases hq
  ·cases hq

theorem srcE_rel {w' : World} (h : SRel base ρ s w) (h' : SRel base ρ s w') {ts : Array TypeId} {e : TypeId} {i : TypeInfo} (hi : P.info? e = some i) {z x : V} (hzz : zeroE P e = some z) (hz : (cellsV z).length = i.size) {n : Nat} {l : List V} (hq : srcE P s ts i z x = some (n, l)) {X : Value} (hx : VRel ρ x X) :
  ∃ L : List Value, SrcOK P ts e i X n w w' L ∧ LRel ρ l L := by
 unfold srcE at hq
 cases h0 : zerosE P ts with
 | true =>
  rw [h0, cond_true] at hq
  split at hq
  ·rename_i t1 h1
   split at hq
   ·rename_i k hu
    split at hq
    ·rename_i m
     cases hb : (Nat.ble (m * i.bytes) 281474976710656 && Nat.ble m 1099511627776) with
     | false => rw [hb] at hq; cases hq
     | true =>
      rw [hb, cond_true] at hq
      cases hq
      simp only [Bool.and_eq_true, Nat.ble_eq] at hb
      simp only [VRel] at hx
      obtain ⟨Z, hZ, hzr, _⟩ := zeroE_rel (ρ := ρ) (w := w') hzz
      have hrep := range_rep (cellsV_rel hzr) n
      refine ⟨(Builtin.zeroCells Z.cells n).toList, .inr ⟨⟨t1, k, h1, hu⟩, hx, hb.1, hb.2, ?_⟩, ?_⟩
      ·by_cases hn : n * i.size = 0
       ·refine .inl ⟨hn, ?_⟩
        have hs : (Builtin.zeroCells Z.cells n).size = 0 := by
         have hl := (cellsV_rel hzr).length
         simp only [Array.length_toList] at hl
         rw [zeroCells_size, ← hl, hz, hn]
        have : Builtin.zeroCells Z.cells n = #[] := Array.eq_empty_of_size_eq_zero hs
        rw [this]
       ·exact .inr ⟨hn, Z, hZ, by simp⟩
      ·have hl := (cellsV_rel hzr).length
       simp only [Array.length_toList] at hl
       rw [hl] at hrep
       exact hrep
    ·cases hq
   ·cases hq
  ·cases hq
 | false =>
  rw [h0, cond_false] at hq
  split at hq
  ·rename_i m hn
   split at hq
   ·rename_i new hnew
    cases hq
    obtain ⟨L, hL, hLr⟩ := srcCells_rel (P := P) h' hn hnew hx
    exact ⟨L, .inl ⟨h0, lenE_rel (P := P) (w := w) hn hx, hL⟩, hLr⟩
   ·cases hq
  ·cases hq

theorem eAppend_rel (h : SRel base ρ s w) {ts : Array TypeId} {ty : TypeId} {a x v : V} {s' : St} (hq : eAppend P s ts a x = some (v, s')) {A X : Value} (ha : VRel ρ a A) (hx : VRel ρ x X) :
  OKv P base ρ (Builtin.append_ ts ty #[A, X]) w v s' := by
 unfold eAppend at hq
 simp only [llen_eq, lall_eq, ltake_eq, ldrop_eq, lapp_eq, lget_eq] at hq
 split at hq
 ·cases hq
 rename_i t ht
 split at hq
 ·rename_i e hd
  split at hq
  ·rename_i i z hi hzz
   obtain ⟨hb0, hq⟩ := bool_not_cond hq (by simp)
   simp only [Bool.and_eq_true, Nat.ble_eq, Nat.beq_eq] at hb0
   split at hq
   ·cases hq
   rename_i n new hnew
   have h' : SRel base ρ s { w with drawn := w.drawn + 1 } := h.same rfl
   obtain ⟨L, hL, hLr⟩ := srcE_rel (P := P) h h hi hzz hb0.1 hnew hx
   obtain ⟨L', hL', hLr'⟩ := srcE_rel (P := P) h h' hi hzz hb0.1 hnew hx
   obtain ⟨Z, hZ, hzr, _⟩ := zeroE_rel (ρ := ρ) (w := { w with drawn := w.drawn + 1 }) hzz
   have hzc := (cellsV_rel hzr).length
   simp only [Array.length_toList] at hzc
   -- how many cells are appended
   have hnc : new.length = n * i.size := srcE_length hb0.1 hnew
   split at hq
   ·rename_i x' _
    have ha0 := ha
    simp only [VRel] at ha
    obtain ⟨ad, cz, rfl, hcz⟩ := ha
    cases hn0 : Nat.beq n 0 with
    | true =>
     simp only [hn0, cond_true, Option.some.injEq, Prod.mk.injEq] at hq
     obtain ⟨rfl, rfl⟩ := hq
     have e : n = 0 := by simpa using hn0
     subst e
     refine ⟨ρ, .slice (some ad) 0 cz, w, ρ.le_refl, ?_, ha0, h, Below.refl _ _⟩
     rw [run_append_in ht hd hi hL (by omega)]
     have hl := hLr.length
     rw [hnc, Nat.zero_mul] at hl
     have : L = [] := List.length_eq_zero_iff.1 hl.symm
     subst this
     simp [storeCells]
    | false =>
     simp only [hn0, cond_false] at hq
     cases hb : (x' && (Nat.ble ((2 * n + 768) * i.bytes) 281474976710656 && Nat.ble n 1099511627776)) with
     | false => simp [hb] at hq
     | true =>
     simp only [hb, cond_true, Option.some.injEq, Prod.mk.injEq] at hq
     obtain ⟨rfl, rfl⟩ := hq
     simp only [Bool.and_eq_true, Nat.ble_eq] at hb
     have := hcz hb.1
     subst this
     have hn1 : 0 < n := by
      rcases Nat.eq_zero_or_pos n with e | e
      ·subst e; simp at hn0
      ·exact e
     obtain ⟨cap', hc, hrun⟩ := run_append_grow (P := P) (w := w) (ty := ty) (base := some ad) (len := 0) (cap := 0) (K := []) ht hd hi hL' (by simp [Builtin.firstCells, loadCells, loadCellsFrom]) hZ (by omega) (by simpa using hb.2.1) (by simpa using hb.2.2)
     simp only [Nat.zero_add, List.nil_append, Array.append_assoc] at hrun hc
     have hz2 : (#[] : Array Value) ++ (L'.toArray ++ Builtin.zeroCells Z.cells (cap' - n)) = L'.toArray ++ Builtin.zeroCells Z.cells (cap' - n) := by simp
     rw [hz2] at hrun
     obtain ⟨e1, e2, e3⟩ := h.newLong hLr' (Builtin.zeroCells Z.cells (cap' - n)) e e (w.drawn + 1)
     refine ⟨_, _, _, e1, hrun, ?_, e2, e3⟩
     simp only [VRel]
     refine ⟨_, _, _, cap', Env.put_same, rfl, Nat.le_refl _, hc, by simp, ?_⟩
     have hl := hLr'.length
     simp only [Array.size_append, zeroCells_size, List.size_toArray]
     rw [← hl, hnc, ← hzc, hb0.1, ← Nat.add_mul]
     simp only [Nat.zero_add]
     exact Nat.mul_le_mul_right _ (by omega)
   ·-- nil
    simp only [VRel] at ha; subst ha
    cases hn0 : Nat.beq n 0 with
    | true =>
     simp only [hn0, cond_true, Option.some.injEq, Prod.mk.injEq] at hq
     obtain ⟨rfl, rfl⟩ := hq
     have e : n = 0 := by simpa using hn0
     subst e
     refine ⟨ρ, .slice none 0 0, w, ρ.le_refl, ?_, by simp only [VRel], h, Below.refl _ _⟩
     rw [run_append_in ht hd hi hL (by omega)]
     rfl
    | false =>
     simp only [hn0, cond_false] at hq
     cases hb : (Nat.ble ((2 * n + 768) * i.bytes) 281474976710656 && Nat.ble n 1099511627776) with
     | false => simp [hb] at hq
     | true =>
     simp only [hb, cond_true, Option.some.injEq, Prod.mk.injEq] at hq
     obtain ⟨rfl, rfl⟩ := hq
     simp only [Bool.and_eq_true, Nat.ble_eq] at hb
     have hn1 : 0 < n := by
      rcases Nat.eq_zero_or_pos n with e | e
      ·subst e; simp at hn0
      ·exact e
     obtain ⟨cap', hc, hrun⟩ := run_append_grow (P := P) (w := w) (ty := ty) (base := none) (len := 0) (cap := 0) (K := []) ht hd hi hL' (by simp [Builtin.firstCells]) hZ (by omega) (by simpa using hb.1) (by simpa using hb.2)
     simp only [Nat.zero_add, List.nil_append, Array.append_assoc] at hrun hc
     have hz2 : (#[] : Array Value) ++ (L'.toArray ++ Builtin.zeroCells Z.cells (cap' - n)) = L'.toArray ++ Builtin.zeroCells Z.cells (cap' - n) := by simp
     rw [hz2] at hrun
     obtain ⟨e1, e2, e3⟩ := h.newLong hLr' (Builtin.zeroCells Z.cells (cap' - n)) e e (w.drawn + 1)
     refine ⟨_, _, _, e1, hrun, ?_, e2, e3⟩
     simp only [VRel]
     refine ⟨_, _, _, cap', Env.put_same, rfl, Nat.le_refl _, hc, by simp, ?_⟩
     have hl := hLr'.length
     simp only [Array.size_append, zeroCells_size, List.size_toArray]
     rw [← hl, hnc, ← hzc, hb0.1, ← Nat.add_mul]
     simp only [Nat.zero_add]
     exact Nat.mul_le_mul_right _ (by omega)
   ·rename_i b o len cap x' es _
    obtain ⟨hes, hq⟩ := bool_not_cond hq (by simp)
    have hes : es = i.size := by simpa using hes
    subst hes
    have ha0 := ha
    simp only [VRel] at ha
    obtain ⟨B, O, S, cap', hB, rfl, c1, c2, c3, c4⟩ := ha
    cases hcap : Nat.ble (len + n) cap with
    | true =>
     simp only [hcap, cond_true] at hq
     rw [Nat.ble_eq] at hcap
     split at hq
     ·rename_i cs t' ish hg
      cases hb : (Nat.ble (o + (len + n) * i.size) cs.length && new.all oneV) with
      | false => simp [hb] at hq
      | true =>
      simp only [hb, cond_true, Option.some.injEq, Prod.mk.injEq] at hq
      obtain ⟨rfl, rfl⟩ := hq
      simp only [Bool.and_eq_true, Nat.ble_eq] at hb
      have hmul : (len + n) * i.size = len * i.size + n * i.size := Nat.add_mul _ _ _
      obtain ⟨w', g1, g2, g3⟩ := h.write (P := P) hg hB hLr (o := o + len * i.size) (by omega) hb.2
      refine ⟨ρ, .slice (some ⟨B, O + o, none⟩) (len + n) cap', w', ρ.le_refl, ?_, ?_, g2, g3⟩
      ·rw [run_append_in ht hd hi hL (by omega)]
       simp only [addr_add]
       simp only at g1
       rw [Nat.add_assoc, g1]
       rfl
      ·simp only [VRel]
       exact ⟨B, O, S, cap', hB, rfl, hcap, c2, c3, c4⟩
     ·cases hq
    | false =>
     simp only [hcap, cond_false] at hq
     have hcap' : cap < len + n := by
      refine Nat.lt_of_not_le fun hh => ?_
      rw [← Nat.ble_eq, hcap] at hh; cases hh
     obtain ⟨hb1, hq⟩ := bool_not_cond hq (by simp)
     simp only [Bool.and_eq_true, Nat.ble_eq] at hb1
     split at hq
     ·rename_i cs t' ish hg
      obtain ⟨hb2, hq⟩ := bool_not_cond hq (by simp)
      simp only [Bool.and_eq_true, Nat.ble_eq] at hb2
      have hcsAt : cellsAt s b = some cs := by simp [cellsAt, hg]
      have hold : sliceCells s (.sl b o len cap x' i.size) len = some ((cs.drop o).take (len * i.size)) := by
       simp only [sliceCells, hcsAt, llen_eq, ltake_eq, ldrop_eq]
       have : Nat.ble (o + len * i.size) cs.length = true := by rw [Nat.ble_eq]; exact hb2.1
       rw [this]; rfl
      obtain ⟨K, hK, hKr⟩ := sliceCells_rel (P := P) h' (sz := i.size) (by simp [esOk]) hold ha0
      have hKlen : ((cs.drop o).take (len * i.size)).length = len * i.size := by simp; omega
      -- a new block
      have grow : cap' < len + n → ∃ ρ' Y w', ρ.le ρ' ∧ (Builtin.append_ ts ty #[.slice (some ⟨B, O + o, none⟩) len cap', X]).run P w = .ok Y w' ∧
        VRel ρ' (.sl s.next 0 (len + n) (len + n) false i.size) Y ∧ SRel base ρ' (s.new (.cells ((cs.drop o).take (len * i.size) ++ new) e false)) w' ∧ Below base w w' := by
       intro hgt
       obtain ⟨cap2, hc, hrun⟩ := run_append_grow (P := P) (w := w) (ty := ty) ht hd hi hL' hK hZ hgt hb1.1 hb1.2
       have hKL : LRel ρ ((cs.drop o).take (len * i.size) ++ new) (K ++ L') := hKr.append hLr'
       obtain ⟨e1, e2, e3⟩ := h.newLong hKL (Builtin.zeroCells Z.cells (cap2 - (len + n))) e e (w.drawn + 1)
       have e4 : (K ++ L').toArray = K.toArray ++ L'.toArray := by simp
       rw [← e4] at hrun
       refine ⟨_, _, _, e1, hrun, ?_, e2, e3⟩
       simp only [VRel]
       refine ⟨_, _, _, cap2, Env.put_same, rfl, Nat.le_refl _, hc, by simp, ?_⟩
       have hl := hKL.length
       simp only [Array.size_append, zeroCells_size, List.size_toArray]
       rw [← hl, List.length_append, hKlen, hnc, ← hzc, hb0.1, ← Nat.add_mul, ← Nat.add_mul]
       simp only [Nat.zero_add]
       exact Nat.mul_le_mul_right _ (by omega)
      cases hx' : x' with
      | true =>
       simp only [hx', cond_true, Option.some.injEq, Prod.mk.injEq] at hq
       obtain ⟨rfl, rfl⟩ := hq
       exact grow (by rw [c3 hx']; exact hcap')
      | false =>
       simp only [hx', cond_false, Option.some.injEq, Prod.mk.injEq] at hq
       obtain ⟨rfl, rfl⟩ := hq
       rcases Nat.lt_or_ge cap' (len + n) with hgt | hle
       ·obtain ⟨ρ', Y, w', g1, g2, g3, g4, g5⟩ := grow hgt
        refine ⟨ρ', Y, w', g1, g2, g3, ?_, g5⟩
        -- what is struck is asked for no more
        refine ⟨g4.le, ?_, ?_, g4.dom, g4.top⟩
        ·intro k u z hk hz
         simp only [St.move, T.get_set] at hk
         have hk2 : (k = s.next ∧ u = .cells ((cs.drop o).take (len * i.size) ++ new) e ish) ∨ (k ≠ s.next ∧ s.heap.get k = some u) := by
          split at hk
          ·rename_i ee; cases hk; exact .inl ⟨ee, rfl⟩
          ·rename_i ee
           split at hk
           ·cases hk
           ·exact .inr ⟨ee, hk⟩
         rcases hk2 with ⟨rfl, rfl⟩ | ⟨ee, hk⟩
         ·obtain ⟨y2, C, tt, fr, y3, y4, y5, y6, y7, y8⟩ := g4.obj s.next (.cells ((cs.drop o).take (len * i.size) ++ new) e false) z (by simp [St.new, T.get_set]) hz
          exact ⟨y2, C, tt, fr, y3, y4, y5, y6, y7, fun _ => y8 rfl⟩
         ·exact g4.obj k u z (by simp only [St.new, T.get_set, ee, if_false]; exact hk) hz
        ·intro k k' u u' y y' hk hk' hy hy' hne
         have sub : ∀ k u, (s.move b (.cells ((cs.drop o).take (len * i.size) ++ new) e ish)).heap.get k = some u → ∃ u', (s.new (.cells ((cs.drop o).take (len * i.size) ++ new) e false)).heap.get k = some u' := by
          intro k u hk
          simp only [St.move, St.new, T.get_set] at hk ⊢
          split at hk
          ·rename_i ee; exact ⟨_, by simp [ee]; rfl⟩
          ·rename_i ee
           split at hk
           ·cases hk
           ·exact ⟨u, by simp [ee, hk]⟩
         obtain ⟨u1, k1⟩ := sub k u hk
         obtain ⟨u2, k2⟩ := sub k' u' hk'
         exact g4.inj k k' u1 u2 y y' k1 k2 hy hy' hne
       ·-- in place
        obtain ⟨C, tt, fr, e1, e2, e3, e4, e5, e6, e7⟩ := h.cellsObj hg hB
        simp only at e1 e2 e3 e4 e5 e7
        have hl := hLr.length
        have hmul : (len + n) * i.size = len * i.size + n * i.size := Nat.add_mul _ _ _
        have hfit : O + o + (len + n) * i.size ≤ S := Nat.le_trans (Nat.add_le_add_left (Nat.mul_le_mul_right _ hle) _) c4
        have hst := run_storeAll (P := P) L (O + (o + len * i.size)) 0 C w e1 (by rw [e2]; exact e5) (by omega) (allOne_rel hLr hb2.2)
        refine ⟨ρ.put s.next ⟨B, O + o, S⟩, .slice (some ⟨B, O + o, none⟩) (len + n) cap', _, Env.le_put _ h.fresh, ?_, ?_, h.move hg hB _ (.cells (setA C (O + (o + len * i.size)) L) tt fr) (O + o) rfl ?_, below_set e7 rfl⟩
        ·rw [run_append_in ht hd hi hL hle]
         simp only [addr_add]
         rw [Nat.add_assoc, hst]
         rfl
        ·simp only [VRel]
         exact ⟨B, O + o, S, cap', Env.put_same, rfl, Nat.le_refl _, hle, by simp, by omega⟩
        ·refine ⟨_, tt, fr, rfl, by rw [setA_size]; exact e2, ?_, ?_, e5, e6⟩
         ·rw [List.length_append, hKlen, hnc]; show O + o + _ ≤ S; omega
         ·have hle' := Env.le_put ⟨B, O + o, S⟩ h.fresh
          have hcp : CP ρ O (setAll (cs ++ List.replicate (o + (len + n) * i.size) .undef) (o + len * i.size) new) (setA C (O + (o + len * i.size)) L) ∨ True := .inr trivial
          intro j u hj
          simp only
          have sa : ∀ (l : List Value) (C : Array Value) (p k : Nat), p + l.length ≤ C.size → (setA C p l)[k]? = if p ≤ k ∧ k < p + l.length then l[k - p]? else C[k]? := by
           intro l
           induction l with
           | nil => intro C p k _; simp [setA]; omega
           | cons c l ih =>
            intro C p k hp
            simp only [List.length_cons] at hp ⊢
            simp only [setA]
            rw [ih _ _ _ (by simp; omega)]
            by_cases hk : k = p
            ·subst hk
             rw [if_neg (by omega), if_pos (by omega), Array.getElem?_setIfInBounds_self_of_lt (by omega)]
             simp
            ·by_cases hk2 : p + 1 ≤ k ∧ k < p + 1 + l.length
             ·rw [if_pos hk2, if_pos (by omega)]
              obtain ⟨d, rfl⟩ : ∃ d, k = p + 1 + d := ⟨k - (p + 1), by omega⟩
              rw [show p + 1 + d - (p + 1) = d from by omega, show p + 1 + d - p = d + 1 from by omega]
              simp
             ·rw [if_neg hk2, if_neg (by omega), Array.getElem?_setIfInBounds_ne (by omega)]
          have hlen2 : L.length = n * i.size := by rw [← hl, hnc]
          rw [sa _ _ _ _ (by omega)]
          rcases Nat.lt_or_ge j (len * i.size) with hj1 | hj1
          ·rw [if_neg (by omega)]
           rw [List.getElem?_append_left (by omega), List.getElem?_take_of_lt hj1, List.getElem?_drop] at hj
           obtain ⟨W, q1, q2⟩ := e4 _ _ hj
           exact ⟨W, by rw [Nat.add_assoc]; exact q1, VRel.mono hle' _ _ q2⟩
          ·rw [List.getElem?_append_right (by omega), hKlen] at hj
           have hj2 := (List.getElem?_eq_some_iff.1 hj).1
           rw [if_pos (by omega)]
           obtain ⟨W, q1, q2⟩ := hLr.get hj
           refine ⟨W, ?_, VRel.mono hle' _ _ q2⟩
           rw [← q1]; congr 1; omega
     ·cases hq
   ·cases hq
  ·cases hq
 ·cases hq

theorem eCopy_rel (h : SRel base ρ s w) {ts : Array TypeId} {ty : TypeId} {d x v : V} {s' : St} (hq : eCopy P s ts d x = some (v, s')) {D X : Value} (hd : VRel ρ d D) (hx : VRel ρ x X) :
  OKv P base ρ (Builtin.copy_ ts ty #[D, X]) w v s' := by
 unfold eCopy at hq
 simp only [llen_eq, lall_eq, ltake_eq, ldrop_eq, lapp_eq, lget_eq] at hq
 split at hq
 ·cases hq
 rename_i t ht
 split at hq
 ·rename_i e hu
  split at hq
  ·rename_i sz dl xl hsz hdl hxl
   obtain ⟨hb0, hq⟩ := bool_not_cond hq (by simp)
   simp only [Bool.and_eq_true, Nat.ble_eq] at hb0
   split at hq
   ·cases hq
   rename_i all hall
   have hlx := lenE_rel (P := P) (w := w) hxl hx
   have hlen := srcCells_length hxl hall
   -- the first cells of the source
   have key : ∃ L : List Value, (Builtin.firstCells sz (Nat.min xl dl) X).run P w = .ok L.toArray w ∧ LRel ρ (all.take (Nat.min xl dl * sz)) L := by
    unfold srcCells at hall
    split at hall
    ·rename_i y
     cases hb : Nat.beq sz 1 with
     | false => simp [hb] at hall
     | true =>
      have hs1 : sz = 1 := by simpa using hb
      subst hs1
      simp only [hb, cond_true, Option.some.injEq] at hall
      subst hall
      simp only [VRel] at hx; subst hx
      simp only [lenE, Option.some.injEq] at hxl
      subst hxl
      refine ⟨(y.list.take (Nat.min y.n dl)).map fun b => Value.int .u8 b.toNat, ?_, ?_⟩
      ·have e2 : (y.den.extract 0 (Nat.min y.n dl)).data.map (fun b => Value.int .u8 b.toNat) = ((y.list.take (Nat.min y.n dl)).map fun b => Value.int .u8 b.toNat).toArray := by
        apply Array.ext'
        simp [BS.den, BS.list, List.extract_eq_take_drop]
       simp only [Builtin.firstCells, e2, Sem.run_pure]
      ·have := bytes_rel (ρ := ρ) (y.list.take (Nat.min y.n dl))
       rw [List.map_take] at this
       simpa using this
    ·cases hb : esOk x sz with
     | false => simp [hb] at hall
     | true =>
      simp only [hb, cond_true, hxl] at hall
      have hsub : sliceCells s x (Nat.min xl dl) = some (all.take (Nat.min xl dl * sz)) := by
       have hmin : Nat.min xl dl ≤ xl := Nat.min_le_left _ _
       unfold sliceCells at hall ⊢
       simp only [llen_eq, ltake_eq, ldrop_eq] at hall ⊢
       split at hall
       ·simp only [lenE, Option.some.injEq] at hxl
        subst hxl
        simp at hall
        subst hall
        have : Nat.min 0 dl = 0 := by simp
        simp [this]
       ·simp only [lenE, Option.some.injEq] at hxl
        subst hxl
        simp at hall
        subst hall
        have : Nat.min 0 dl = 0 := by simp
        simp [this]
       ·rename_i b o len cap x' es _
        have hes : es = sz := by simpa [esOk] using hb
        subst hes
        split at hall
        ·rename_i cs hcs
         cases hbb : Nat.ble (o + xl * es) cs.length with
         | false => simp [hbb] at hall
         | true =>
          simp only [hbb, cond_true, Option.some.injEq] at hall
          subst hall
          rw [Nat.ble_eq] at hbb
          have hm := Nat.mul_le_mul_right es hmin
          have : Nat.ble (o + Nat.min xl dl * es) cs.length = true := by rw [Nat.ble_eq]; omega
          rw [this]
          simp only [cond_true, List.take_take]
          rw [Nat.min_eq_left hm]
        ·cases hall
       ·cases hall
      exact sliceCells_rel h hb hsub hx
   obtain ⟨L, hL, hLr⟩ := key
   split at hq
   ·cases hq
    simp only [VRel] at hd; subst hd
    simp only [lenE, Option.some.injEq] at hdl
    subst hdl
    refine ⟨ρ, .int .i64 0, w, ρ.le_refl, ?_, by simp only [VRel], h, Below.refl _ _⟩
    have : Nat.min xl 0 = 0 := by simp
    rw [this] at hL
    simp [Builtin.copy_, ht, run_und hu, hlx, run_size hsz, this, hL, goInt]
   ·rename_i b o len cap x' es _
    split at hq
    ·rename_i cs t' ish hg
     cases hb : (Nat.ble (o + (all.take (Nat.min xl dl * sz)).length) cs.length && (all.take (Nat.min xl dl * sz)).all oneV) with
     | false => rw [hb] at hq; cases hq
     | true =>
     rw [hb] at hq
     simp only [cond_true, Option.some.injEq, Prod.mk.injEq] at hq
     obtain ⟨rfl, rfl⟩ := hq
     simp only [Bool.and_eq_true, Nat.ble_eq] at hb
     simp only [VRel] at hd
     obtain ⟨B, O, S, cap', hB, rfl, _⟩ := hd
     simp only [lenE, Option.some.injEq] at hdl
     subst hdl
     obtain ⟨w', g1, g2, g3⟩ := h.write (P := P) hg hB hLr (o := o) hb.1 hb.2
     refine ⟨ρ, .int .i64 (Nat.min xl len : Nat), w', ρ.le_refl, ?_, vint _ _, g2, g3⟩
     simp only at g1
     simp [Builtin.copy_, ht, run_und hu, hlx, run_size hsz, hL, g1, goInt]
    ·cases hq
   ·cases hq
  ·cases hq
 ·cases hq

theorem getObj_map {B : Nat} {E : Array MapEntry} {c : Nat} (h : w.heap[B]? = some (.map E c)) : (getObj B).run P w = .ok (.map E c) w := by simp only [getObj, Sem.run, h]
theorem setObj_map {B : Nat} {E : Array MapEntry} {c : Nat} (h : w.heap[B]? = some (.map E c)) (o : Obj) : (setObj B o).run P w = .ok () { w with heap := w.heap.setIfInBounds B o } := by simp only [setObj, Sem.run, h]

theorem eMakeMap_rel (h : SRel base ρ s w) {t : TypeId} {r : Option V} {v : V} {s' : St} (hq : eMakeMap P s t r = some (v, s')) {R : Option Value} (hr : OptRel ρ r R) : OKv P base ρ (Instr.makeMap t R) w v s' := by
 have core : OKv P base ρ (do pure (.map (some (← newObj (.map #[] 0)))) : Sem Value) w (.map s.next) (s.new (.map [] 0)) := by
  have hle := Env.le_put ⟨w.heap.size, 0, 0⟩ h.fresh
  refine ⟨_, .map (some w.heap.size), { w with heap := w.heap.push (.map #[] 0) }, hle, by simp, ?_, h.new _ (.map #[] 0) 0 rfl ⟨#[], rfl, rfl⟩, below_new h.le rfl⟩
  simp only [VRel]; exact ⟨_, _, _, Env.put_same, rfl⟩
 unfold eMakeMap at hq
 split at hq
 ·cases hq
  have hr : R = none := hr
  subst hr
  obtain ⟨ρ', X, w', h1, h2, h3⟩ := core
  exact ⟨ρ', X, w', h1, by simpa [Instr.makeMap] using h2, h3⟩
 ·split at hq
  ·rename_i hd hn
   cases hq
   obtain ⟨W, rfl, hW⟩ := hr
   obtain ⟨k, rfl⟩ := natOf_rel hn hW
   obtain ⟨ρ', X, w', h1, h2, h3⟩ := core
   exact ⟨ρ', X, w', h1, by simpa [Instr.makeMap, run_und hd, asInt, run_asIntOf] using h2, h3⟩
  ·cases hq

theorem findE_bound {k : V} : ∀ {l : List (V × V × Nat)} {i j : Nat} {v : V}, findE k l i = some (some (j, v)) → ∃ e, i ≤ j ∧ l[j - i]? = some e ∧ keyEq k e.1 = some true ∧ e.2.1 = v
 | [], i, j, v, h => by simp [findE] at h
 | e :: l, i, j, v, h => by
  simp only [findE] at h
  split at h
  ·rename_i he
   cases h
   exact ⟨e, Nat.le_refl _, by simp, he, rfl⟩
  ·obtain ⟨e', h1, h2, h3, h4⟩ := findE_bound h
   refine ⟨e', by omega, ?_, h3, h4⟩
   obtain ⟨d, rfl⟩ : ∃ d, j = i + 1 + d := ⟨j - (i + 1), by omega⟩
   rw [show i + 1 + d - (i + 1) = d from by omega] at h2
   rw [show i + 1 + d - i = d + 1 from by omega]
   simpa using h2
  ·cases h

theorem MRel.get : ∀ {l : List (V × V × Nat)} {E : List MapEntry}, MRel ρ l E → ∀ {i : Nat} {e : V × V × Nat}, l[i]? = some e → ∃ x, E[i]? = some x ∧ VRel ρ e.1 x.key ∧ VRel ρ e.2.1 x.val ∧ e.2.2 = x.born
 | [], _, _, i, e, h => by simp at h
 | a :: l, E, hr, i, e, h => by
  obtain ⟨x, y, rfl, h1, h2, h3, h4⟩ := hr
  cases i with
  | zero => simp at h; subst h; exact ⟨x, rfl, h1, h2, h3⟩
  | succ i => simp at h; simpa using MRel.get h4 h

theorem MRel.mod : ∀ {l : List (V × V × Nat)} {E : List MapEntry}, MRel ρ l E → ∀ (i : Nat) {k v : V} {K X : Value}, VRel ρ k K → VRel ρ v X → MRel ρ (modE l i k v) (E.modify i fun e => { e with key := K, val := X })
 | [], E, h, i, k, v, K, X, hk, hv => by have h : E = [] := h; subst h; simp [modE, MRel]
 | a :: l, E, hr, i, k, v, K, X, hk, hv => by
  obtain ⟨x, y, rfl, h1, h2, h3, h4⟩ := hr
  cases i with
  | zero => rw [List.modify_zero_cons]; exact ⟨_, _, rfl, hk, hv, h3, h4⟩
  | succ i => rw [List.modify_succ_cons]; exact ⟨x, _, rfl, h1, h2, h3, MRel.mod h4 i hk hv⟩
theorem MRel.snoc : ∀ {l : List (V × V × Nat)} {E : List MapEntry}, MRel ρ l E → ∀ {k v : V} {K X : Value} {c : Nat}, VRel ρ k K → VRel ρ v X → MRel ρ (l ++ [(k, v, c)]) (E ++ [⟨K, X, c⟩])
 | [], E, h, k, v, K, X, c, hk, hv => by have h : E = [] := h; subst h; exact ⟨_, _, rfl, hk, hv, rfl, rfl⟩
 | a :: l, E, hr, k, v, K, X, c, hk, hv => by
  obtain ⟨x, y, rfl, h1, h2, h3, h4⟩ := hr
  exact ⟨x, _, rfl, h1, h2, h3, MRel.snoc h4 hk hv⟩
theorem MRel.del : ∀ {l : List (V × V × Nat)} {E : List MapEntry}, MRel ρ l E → ∀ (i : Nat), MRel ρ (delE l i) (E.eraseIdx i)
 | [], E, h, i => by have h : E = [] := h; subst h; simp [delE, MRel]
 | a :: l, E, hr, i => by
  obtain ⟨x, y, rfl, h1, h2, h3, h4⟩ := hr
  cases i with
  | zero => exact h4
  | succ i => rw [List.eraseIdx_cons_succ]; exact ⟨x, _, rfl, h1, h2, h3, MRel.del h4 i⟩
theorem MRel.setv : ∀ {l : List (V × V × Nat)} {E : List MapEntry}, MRel ρ l E → ∀ (i : Nat) {v : V} {X : Value}, VRel ρ v X → MRel ρ (setVal l i v) (E.modify i fun e => { e with val := X })
 | [], E, h, i, v, X, hv => by have h : E = [] := h; subst h; simp [setVal, MRel]
 | a :: l, E, hr, i, v, X, hv => by
  obtain ⟨x, y, rfl, h1, h2, h3, h4⟩ := hr
  cases i with
  | zero => rw [List.modify_zero_cons]; exact ⟨_, _, rfl, h1, hv, h3, h4⟩
  | succ i => rw [List.modify_succ_cons]; exact ⟨x, _, rfl, h1, h2, h3, MRel.setv h4 i hv⟩

theorem keyStays {k e : V} (h : keyEq k e = some true) {K X : Value} (hk : VRel ρ k K) (he : VRel ρ e X) : (Instr.keyThatStays X K).run P w = .ok K w := by
 have : Instr.sameBits 10000 X K = true := by
  unfold keyEq at h
  split at h
  ·rename_i k1 x k2 y
   rw [kEq_iff, eqQ_eq] at h
   cases hkk : decide (k1 = k2) with
   | false => simp [hkk] at h
   | true =>
    have ee : k1 = k2 := by simpa using hkk
    subst ee
    simp only [decide_true, cond_true, Option.some.injEq, beq_iff_eq] at h
    subst h
    simp only [VRel] at hk he; subst hk; subst he
    simp [Instr.sameBits]
  ·simp only [Option.some.injEq] at h
   simp only [VRel] at hk he; subst hk; subst he
   rw [BS.eq_iff] at h
   simp only [beq_iff_eq] at h
   have := ba_ext h
   simp [Instr.sameBits, this, beq_toListBytes]
  ·simp only [Option.some.injEq, beq_iff_eq] at h
   subst h
   simp only [VRel] at hk he; subst hk; subst he
   simp [Instr.sameBits]
  ·cases h
 simp [Instr.keyThatStays, this]

theorem SRel.mapObj (h : SRel base ρ s w) {b : Nat} {es : List (V × V × Nat)} {c : Nat} (hg : s.heap.get b = some (.map es c)) {B O S : Nat} (hx : ρ b = some ⟨B, O, S⟩) :
  ∃ E, w.heap[B]? = some (.map E c) ∧ MRel ρ es E.toList ∧ base ≤ B := by
 obtain ⟨y, h1, h2, E, h3, h4⟩ := h.obj' hg hx
 rw [hx] at h1; cases h1
 exact ⟨E, h3, h4, h2⟩

theorem eMapUpdate_rel (h : SRel base ρ s w) {t : TypeId} {m k v : V} {s' : St} (hq : eMapUpdate P s t m k v = some s') {M K X : Value} (hm : VRel ρ m M) (hk : VRel ρ k K) (hv : VRel ρ v X) :
  ∃ w', (Instr.mapUpdate t M K X).run P w = .ok () w' ∧ SRel base ρ s' w' ∧ Below base w w' := by
 unfold eMapUpdate at hq
 simp only [llen_eq, lall_eq, ltake_eq, ldrop_eq, lapp_eq, lget_eq] at hq
 split at hq
 ·rename_i kt et hd
  obtain ⟨hp, hq⟩ := bool_not_cond hq (by simp)
  split at hq
  ·rename_i b
   split at hq
   ·rename_i es c hg
    simp only [VRel] at hm
    obtain ⟨B, O, S, hB, rfl⟩ := hm
    obtain ⟨E, hE, hrel, hbase⟩ := h.mapObj hg hB
    split at hq
    ·rename_i i v0 hf
     cases hq
     obtain ⟨e, _, he1, he2, _⟩ := findE_bound hf
     rw [Nat.sub_zero] at he1
     obtain ⟨x, hx1, hx2, _, _⟩ := hrel.get he1
     simp only [Array.getElem?_toList] at hx1
     rcases run_findKeyE (w := w) hk hp hrel hf with ⟨h1, _⟩ | ⟨j, v2, W, h1, h2, h3⟩
     ·cases h1
     ·cases h1
      refine ⟨{ w with heap := w.heap.setIfInBounds B (.map (E.modify i fun e => { e with key := K, val := X }) c) }, ?_, h.upd hg hB _ (.map (E.modify i fun e => { e with key := K, val := X }) c) rfl ⟨_, rfl, by rw [Array.toList_modify]; exact hrel.mod i hk hv⟩, below_set hbase rfl⟩
      simp [Instr.mapUpdate, run_und hd, getObj_map hE, run_checkKeyE hk hp, h2, hx1, keyStays he2 hk hx2, setObj_map hE]
    ·rename_i hf
     cases hq
     rcases run_findKeyE (w := w) hk hp hrel hf with ⟨_, h2⟩ | ⟨j, v2, W, h1, _, _⟩
     ·refine ⟨{ w with heap := w.heap.setIfInBounds B (.map (E.push ⟨K, X, c⟩) (c + 1)) }, ?_, h.upd hg hB _ (.map (E.push ⟨K, X, c⟩) (c + 1)) rfl ⟨_, rfl, by rw [Array.toList_push]; exact hrel.snoc hk hv⟩, below_set hbase rfl⟩
      simp [Instr.mapUpdate, run_und hd, getObj_map hE, run_checkKeyE hk hp, h2, setObj_map hE]
     ·cases h1
    ·cases hq
   ·cases hq
  ·cases hq
 ·cases hq

theorem eMapEntry_rel (h : SRel base ρ s w) {t : TypeId} {m k v : V} {s' : St} (hq : eMapEntry P s t m k = some (v, s')) {M K : Value} (hm : VRel ρ m M) (hk : VRel ρ k K) :
  OKv P base ρ (Instr.mapEntry t M K) w v s' := by
 unfold eMapEntry at hq
 simp only [llen_eq, lall_eq, ltake_eq, ldrop_eq, lapp_eq, lget_eq] at hq
 split at hq
 ·rename_i kt et hd
  obtain ⟨hp, hq⟩ := bool_not_cond hq (by simp)
  split at hq
  ·rename_i b
   split at hq
   ·rename_i es c hg
    simp only [VRel] at hm
    obtain ⟨B, O, S, hB, rfl⟩ := hm
    obtain ⟨E, hE, hrel, hbase⟩ := h.mapObj hg hB
    split at hq
    ·rename_i i v0 hf
     obtain ⟨e, _, he1, he2, he3⟩ := findE_bound hf
     rw [Nat.sub_zero] at he1
     rw [he1] at hq
     cases hq
     obtain ⟨x, hx1, hx2, hx3, hx4⟩ := hrel.get he1
     simp only [Array.getElem?_toList] at hx1
     rcases run_findKeyE (w := w) hk hp hrel hf with ⟨h1, _⟩ | ⟨j, v2, W, h1, h2, h3⟩
     ·cases h1
     ·cases h1
      have hrel' : MRel ρ (modE es i k v0) (E.modify i fun e => { e with key := K }).toList := by
       have hx3' : VRel ρ v0 x.val := by rw [← he3]; exact hx3
       have := hrel.mod i hk hx3'
       rw [Array.toList_modify]
       have e1 : (E.toList.modify i fun e => { e with key := K, val := x.val }) = E.toList.modify i fun e => { e with key := K } := by
        apply List.ext_getElem?
        intro n
        rw [List.getElem?_modify, List.getElem?_modify]
        by_cases hn : i = n
        ·subst hn
         have : E.toList[i]? = some x := by simpa using hx1
         simp [this]
        ·simp [hn]
       rw [← e1]; exact this
      refine ⟨ρ, .tuple #[W, .int .i64 x.born], { w with heap := w.heap.setIfInBounds B (.map (E.modify i fun e => { e with key := K }) c) }, ρ.le_refl, ?_, ?_, h.upd hg hB _ (.map (E.modify i fun e => { e with key := K }) c) rfl ⟨_, rfl, hrel'⟩, below_set hbase rfl⟩
      ·simp [Instr.mapEntry, run_und hd, getObj_map hE, run_checkKeyE hk hp, h2, hx1, keyStays he2 hk hx2, setObj_map hE, goInt]
      ·simp only [VRel]
       exact ⟨_, rfl, LRel.cons h3 (LRel.cons (by rw [← hx4]; exact vint _ _) LRel.nil)⟩
    ·rename_i hf
     split at hq
     ·rename_i z hz
      cases hq
      obtain ⟨Z, hZ, hzr, _⟩ := zeroE_rel (ρ := ρ) (w := w) hz
      rcases run_findKeyE (w := w) hk hp hrel hf with ⟨_, h2⟩ | ⟨j, v2, W, h1, _, _⟩
      ·refine ⟨ρ, .tuple #[Z, .int .i64 c], { w with heap := w.heap.setIfInBounds B (.map (E.push ⟨K, Z, c⟩) (c + 1)) }, ρ.le_refl, ?_, ?_, h.upd hg hB _ (.map (E.push ⟨K, Z, c⟩) (c + 1)) rfl ⟨_, rfl, by rw [Array.toList_push]; exact hrel.snoc hk hzr⟩, below_set hbase rfl⟩
       ·simp [Instr.mapEntry, run_und hd, getObj_map hE, run_checkKeyE hk hp, h2, hZ, setObj_map hE, goInt]
       ·simp only [VRel]
        exact ⟨_, rfl, LRel.cons hzr (LRel.cons (vint _ _) LRel.nil)⟩
      ·cases h1
     ·cases hq
    ·cases hq
   ·cases hq
  ·cases hq
 ·cases hq

theorem stampE_rel {n : Nat} : ∀ {l : List (V × V × Nat)} {E : List MapEntry}, MRel ρ l E → ∀ {i j : Nat}, stampE n l i = some j → ∃ d, j = i + d ∧ E.findIdx? (fun e => (e.born : Int) == (n : Int)) = some d
 | [], _, _, i, j, h => by simp [stampE] at h
 | a :: l, E, hr, i, j, h => by
  obtain ⟨x, y, rfl, h1, h2, h3, h4⟩ := hr
  simp only [stampE] at h
  cases hb : Nat.beq a.2.2 n with
  | true =>
   simp only [hb, cond_true, Option.some.injEq] at h
   have : a.2.2 = n := by simpa using hb
   refine ⟨0, by omega, ?_⟩
   rw [List.findIdx?_cons]
   have e : ((x.born : Int) == (n : Int)) = true := by simp; omega
   simp [e]
  | false =>
   simp only [hb, cond_false] at h
   obtain ⟨d, e1, e2⟩ := stampE_rel h4 h
   refine ⟨d + 1, by omega, ?_⟩
   rw [List.findIdx?_cons]
   have hne : a.2.2 ≠ n := by intro e; subst e; simp at hb
   have e : ((x.born : Int) == (n : Int)) = false := by simp; omega
   simp [e, e2]

theorem eEntryStore_rel (h : SRel base ρ s w) {t : TypeId} {m st v : V} {s' : St} (hq : eEntryStore s m st v = some s') {M T X : Value} (hm : VRel ρ m M) (ht : VRel ρ st T) (hv : VRel ρ v X) :
  ∃ w', (Instr.entryStore t M T X).run P w = .ok () w' ∧ SRel base ρ s' w' ∧ Below base w w' := by
 unfold eEntryStore at hq
 split at hq
 ·rename_i b n hn
  split at hq
  ·rename_i es c hg
   split at hq
   ·rename_i i hi
    cases hq
    simp only [VRel] at hm
    obtain ⟨B, O, S, hB, rfl⟩ := hm
    obtain ⟨k, rfl⟩ := natOf_rel hn ht
    obtain ⟨E, hE, hrel, hbase⟩ := h.mapObj hg hB
    obtain ⟨d, e1, e2⟩ := stampE_rel hrel hi
    have e1 : i = d := by omega
    subst e1
    have e3 : E.findIdx? (fun e => (e.born : Int) == (n : Int)) = some i := by
     rw [← e2]; cases E; simp
    refine ⟨{ w with heap := w.heap.setIfInBounds B (.map (E.modify i fun e => { e with val := X }) c) }, ?_, h.upd hg hB _ (.map (E.modify i fun e => { e with val := X }) c) rfl ⟨_, rfl, by rw [Array.toList_modify]; exact hrel.setv i hv⟩, below_set hbase rfl⟩
    simp [Instr.entryStore, getObj_map hE, asInt, run_asIntOf, e3, setObj_map hE]
   ·cases hq
  ·cases hq
 ·cases hq

theorem eDelete_rel (h : SRel base ρ s w) {ts : Array TypeId} {ty : TypeId} {m k v : V} {s' : St} (hq : eDelete P s ts m k = some (v, s')) {M K : Value} (hm : VRel ρ m M) (hk : VRel ρ k K) :
  OKv P base ρ (Builtin.delete_ ts ty #[M, K]) w v s' := by
 unfold eDelete at hq
 split at hq
 ·cases hq
 rename_i t ht
 split at hq
 ·rename_i kt et hd
  obtain ⟨hp, hq⟩ := bool_not_cond hq (by simp)
  split at hq
  ·cases hq
   simp only [VRel] at hm; subst hm
   exact ⟨ρ, _, w, ρ.le_refl, by simp [Builtin.delete_, ht, run_und hd, run_checkKeyE hk hp]; rfl, by simp only [VRel], h, Below.refl _ _⟩
  ·rename_i b
   split at hq
   ·rename_i es c hg
    simp only [VRel] at hm
    obtain ⟨B, O, S, hB, rfl⟩ := hm
    obtain ⟨E, hE, hrel, hbase⟩ := h.mapObj hg hB
    split at hq
    ·rename_i i v0 hf
     cases hq
     rcases run_findKeyE (w := w) hk hp hrel hf with ⟨h1, _⟩ | ⟨j, v2, W, h1, h2, h3⟩
     ·cases h1
     ·cases h1
      obtain ⟨e, _, he1, _, _⟩ := findE_bound hf
      rw [Nat.sub_zero] at he1
      obtain ⟨x, hx1, _⟩ := hrel.get he1
      have hlt : i < E.size := by
       have := (List.getElem?_eq_some_iff.1 hx1).1
       simpa using this
      refine ⟨ρ, _, { w with heap := w.heap.setIfInBounds B (.map (E.eraseIdxIfInBounds i) c) }, ρ.le_refl, by simp [Builtin.delete_, ht, run_und hd, getObj_map hE, run_checkKeyE hk hp, h2, setObj_map hE]; rfl, by simp only [VRel], h.upd hg hB _ (.map (E.eraseIdxIfInBounds i) c) rfl ⟨_, rfl, ?_⟩, below_set hbase rfl⟩
      have : (E.eraseIdxIfInBounds i).toList = E.toList.eraseIdx i := by
       simp [Array.eraseIdxIfInBounds, hlt]
      rw [this]
      exact hrel.del i
    ·rename_i hf
     cases hq
     rcases run_findKeyE (w := w) hk hp hrel hf with ⟨_, h2⟩ | ⟨j, v2, W, h1, _, _⟩
     ·refine ⟨ρ, _, { w with heap := w.heap.setIfInBounds B (.map E c) }, ρ.le_refl, by simp [Builtin.delete_, ht, run_und hd, getObj_map hE, run_checkKeyE hk hp, h2, setObj_map hE]; rfl, by simp only [VRel], h.upd hg hB _ (.map E c) rfl ⟨_, rfl, hrel⟩, below_set hbase rfl⟩
     ·cases h1
    ·cases hq
   ·cases hq
  ·cases hq
 ·cases hq

theorem eClear_rel (h : SRel base ρ s w) {ts : Array TypeId} {ty : TypeId} {m v : V} {s' : St} (hq : eClear P s ts m = some (v, s')) {M : Value} (hm : VRel ρ m M) :
  OKv P base ρ (Builtin.clear_ ts ty #[M]) w v s' := by
 unfold eClear at hq
 simp only [llen_eq, lall_eq, ltake_eq, ldrop_eq, lapp_eq, lget_eq] at hq
 split at hq
 ·cases hq
 rename_i t ht
 split at hq
 ·rename_i hd
  cases hq
  simp only [VRel] at hm; subst hm
  exact ⟨ρ, _, w, ρ.le_refl, by simp [Builtin.clear_, ht, run_und hd]; rfl, by simp only [VRel], h, Below.refl _ _⟩
 ·rename_i b hd
  split at hq
  ·rename_i es c hg
   cases hq
   simp only [VRel] at hm
   obtain ⟨B, O, S, hB, rfl⟩ := hm
   obtain ⟨E, hE, hrel, hbase⟩ := h.mapObj hg hB
   exact ⟨ρ, _, { w with heap := w.heap.setIfInBounds B (.map #[] c) }, ρ.le_refl, by simp [Builtin.clear_, ht, run_und hd, getObj_map hE, setObj_map hE]; rfl, by simp only [VRel], h.upd hg hB _ (.map #[] c) rfl ⟨_, rfl, rfl⟩, below_set hbase rfl⟩
  ·cases hq
 ·rename_i hd
  cases hq
  simp only [VRel] at hm; subst hm
  exact ⟨ρ, _, w, ρ.le_refl, by simp [Builtin.clear_, ht, run_und hd]; rfl, by simp only [VRel], h, Below.refl _ _⟩
 ·rename_i e b o len cap x es hd
  simp only [VRel] at hm
  obtain ⟨B, O, S, cap', hB, rfl, _⟩ := hm
  cases hl0 : Nat.beq len 0 with
  | true =>
   have e0 : len = 0 := by simpa using hl0
   subst e0
   simp only [hl0, cond_true, Option.some.injEq, Prod.mk.injEq] at hq
   obtain ⟨rfl, rfl⟩ := hq
   exact ⟨ρ, _, w, ρ.le_refl, by simp [Builtin.clear_, ht, run_und hd]; rfl, by simp only [VRel], h, Below.refl _ _⟩
  | false =>
   simp only [hl0, cond_false] at hq
   split at hq
   ·rename_i z cs t' ish hz hg
    cases hb : (Nat.beq (cellsV z).length es && (Nat.ble (o + len * es) cs.length && (cellsV z).all oneV)) with
    | false => simp [hb] at hq
    | true =>
    simp only [hb, cond_true, Option.some.injEq, Prod.mk.injEq] at hq
    obtain ⟨rfl, rfl⟩ := hq
    simp only [Bool.and_eq_true, Nat.ble_eq, Nat.beq_eq] at hb
    obtain ⟨Z, hZ, hzr, _⟩ := zeroE_rel (ρ := ρ) (w := w) hz
    have hrep := zeroCells_rel (cellsV_rel hzr) len
    have hone : (repE len (cellsV z)).all oneV = true := by
     rw [List.all_eq_true] at *
     intro u hu
     obtain ⟨n, hn⟩ := List.mem_iff_getElem?.1 hu
     have hlt : n < len * (cellsV z).length := by
      have := (List.getElem?_eq_some_iff.1 hn).1
      rwa [repE_length] at this
     rw [repE_get _ _ _ hlt] at hn
     exact hb.2.2 u (List.mem_of_getElem? hn)
    obtain ⟨w', g1, g2, g3⟩ := h.write (P := P) hg hB hrep (o := o) (by rw [repE_length, hb.1]; exact hb.2.1) hone
    simp only at g1
    obtain ⟨n, rfl⟩ : ∃ n, len = n + 1 := ⟨len - 1, by
      have : len ≠ 0 := by intro e; subst e; simp at hl0
      omega⟩
    exact ⟨ρ, _, w', ρ.le_refl, by simp [Builtin.clear_, ht, run_und hd, hZ, g1]; rfl, by simp only [VRel], g2, g3⟩
   ·cases hq
 ·cases hq

end
end Go.Eng
end

section
namespace Go.Eng

inductive EDef where
 | mark (r : Nat)
 | call (f : FuncId) (args cap : List V)

structure Cfg where
 tmps : Frm
 defers : List EDef
 st : St

noncomputable section
def Frm.get (f : Frm) (k : Nat) : V := @Frm.rec (fun _ => V) (fun n t => @Bool.rec (fun _ => V) .undef (t.get k) (Nat.ble (Nat.succ k) n)) f
theorem Frm.get_eq (f : Frm) (k : Nat) : f.get k = bif Nat.blt k f.n then f.t.get k else .undef := by
 cases f with
 | mk n t =>
  show @Bool.rec (fun _ => V) .undef (t.get k) (Nat.blt k n) = _
  cases Nat.blt k n <;> rfl
def evF (f : Frm) (x : Operand) : Option V :=
 @Operand.rec (fun _ => Option V) (fun t => some (f.get t)) (fun v => ofVal v) (fun _ => none) (fun g => some (.fn g [] [])) x
def putE (f : Frm) (d : Option Tmp) (v : V) : Frm :=
 @Option.rec Tmp (fun _ => Frm) f (fun k => @Frm.rec (fun _ => Frm) (fun n t => @Bool.rec (fun _ => Frm) ⟨n, t⟩ ⟨n, B.set v t k⟩ (Nat.ble (Nat.succ k) n)) f) d
theorem putE_some (f : Frm) (k : Tmp) (v : V) : putE f (some k) v = bif Nat.blt k f.n then ⟨f.n, B.set v f.t k⟩ else f := by
 cases f with
 | mk n t =>
  show @Bool.rec (fun _ => Frm) ⟨n, t⟩ ⟨n, B.set v t k⟩ (Nat.blt k n) = _
  cases Nat.blt k n <;> rfl
def hOf : Nat → Nat
 | n => bif Nat.ble n 1 then 0 else bif Nat.ble n 2 then 1 else bif Nat.ble n 4 then 2 else bif Nat.ble n 8 then 3 else bif Nat.ble n 16 then 4 else bif Nat.ble n 32 then 5 else bif Nat.ble n 64 then 6 else bif Nat.ble n 128 then 7 else bif Nat.ble n 256 then 8 else bif Nat.ble n 512 then 9 else bif Nat.ble n 1024 then 10 else 12
def mkFrm (n : Nat) (args : List V) : Frm := ⟨n, B.ofList .undef (hOf n) args⟩
end

inductive EExit where
 | normal
 | exit (id : Nat)
 | ret
 | pan (v : V)

inductive ETgt where
 | fn (f : FuncId) (args : List V)
 | round (l : Nat) (args : List V)

inductive EEnd where
 | ret (v : V)
 | pan (v : V)

inductive EOut where
 | val (v : V)
 | skip
 | enter (t : ETgt)
 | pan (v : V)

abbrev ESelf := ETgt → St → Option (EEnd × St)


mutual
def V.same : V → V → Bool
 | .undef, w => (match w with | .undef => true | _ => false)
 | .bool a, w => (match w with | .bool b => (bif a then b else !b) | _ => false)
 | .int k a, w => (match w with | .int k' b => bif kEq k k' then eqQ a b else false | _ => false)
 | .str s, w => (match w with | .str t => bif Nat.beq s.1 t.1 then Nat.beq s.2 t.2 else false | _ => false)
 | .nilp, w => (match w with | .nilp => true | _ => false)
 | .nils, w => (match w with | .nils => true | _ => false)
 | .slz a, w => (match w with | .slz b => (bif a then b else !b) | _ => false)
 | .nilm, w => (match w with | .nilm => true | _ => false)
 | .nilf, w => (match w with | .nilf => true | _ => false)
 | .nili, w => (match w with | .nili => true | _ => false)
 | .ptr b o, w => (match w with | .ptr b' o' => bif Nat.beq b b' then Nat.beq o o' else false | _ => false)
 | .sl b o l c x e, w => (match w with
   | .sl b' o' l' c' x' e' => bif Nat.beq b b' then bif Nat.beq o o' then bif Nat.beq l l' then bif Nat.beq c c' then bif (bif x then x' else !x') then Nat.beq e e' else false else false else false else false else false
   | _ => false)
 | .map b, w => (match w with | .map b' => Nat.beq b b' | _ => false)
 | .fn f a c, w => (match w with | .fn f' a' c' => bif Nat.beq f f' then bif sameL a a' then sameL c c' else false else false | _ => false)
 | .yld l, w => (match w with | .yld l' => Nat.beq l l' | _ => false)
 | .iface t v, w => (match w with | .iface t' v' => bif Nat.beq t t' then v.same v' else false | _ => false)
 | .agg l, w => (match w with | .agg l' => sameL l l' | _ => false)
 | .tup l, w => (match w with | .tup l' => sameL l l' | _ => false)
 | .it b, w => (match w with | .it b' => Nat.beq b b' | _ => false)
 | .any, _ => false
def sameL : List V → List V → Bool
 | [], w => (match w with | [] => true | _ :: _ => false)
 | v :: l, w => (match w with | [] => false | u :: m => bif v.same u then sameL l m else false)
end

noncomputable section
variable (P : Program)

def bodyOK (f : FuncId) : Bool :=
 match P.funcs[f]? with
 | some fn => !(fn.name == "runtime.NumGoroutine") && fn.body.isSome
 | none => false

def outV : Option (V × St) → Option (EOut × St)
 | some (v, s) => some (.val v, s)
 | none => none
def outS : Option St → Option (EOut × St)
 | some s => some (.skip, s)
 | none => none

def eBuiltin (s : St) (b : Builtin) (ts : Array TypeId) (args : List V) : Option (V × St) :=
 match b, args with
 | .append, [a, x] => eAppend P s ts a x
 | .copy, [a, x] => eCopy P s ts a x
 | .delete, [m, k] => eDelete P s ts m k
 | .clear, [m] => eClear P s ts m
 | _, _ => none

def eop (s : St) (ev : Operand → Option V) (op : Op) : Option (EOut × St) :=
 match op with
 | .alloc t => outV (eAlloc P s t)
 | .box t x => match ev x with
  | some v => outV (eBox s t v)
  | none => none
 | .buildSlice t len parts => match evalParts ev parts.toList with
  | some ps => outV (eBuildSlice P s t len ps)
  | none => none
 | .store t a x => match ev a, ev x with
  | some av, some v => outS (eStore P s t av v)
  | _, _ => none
 | .convert src dst x => match ev x with
  | some v => outV (eBytes P s src dst v)
  | none => none
 | .makeMap t r => match optO ev r with
  | some r => outV (eMakeMap P s t r)
  | none => none
 | .makeSlice t l c => match ev l, ev c with
  | some lv, some cv => outV (eMakeSlice P s t lv cv)
  | _, _ => none
 | .mapUpdate t m k x => match ev m, ev k, ev x with
  | some mv, some kv, some v => outS (eMapUpdate P s t mv kv v)
  | _, _, _ => none
 | .insert t m k x => match ev m, ev k, ev x with
  | some mv, some kv, some v => outS (eMapUpdate P s t mv kv v)
  | _, _, _ => none
 | .mapEntry t m k => match ev m, ev k with
  | some mv, some kv => outV (eMapEntry P s t mv kv)
  | _, _ => none
 | .entryStore _ m st x => match ev m, ev st, ev x with
  | some mv, some sv, some v => outS (eEntryStore s mv sv v)
  | _, _, _ => none
 | .panic x => match ev x with
  | some (.iface t v) => some (.pan (.iface t v), s)
  | _ => none
 | .range t x => match ev x with
  | some v => outV (eRange P s t v)
  | none => none
 | .next it isS => match ev it, isS with
  | some v, true => outV (eNext s v)
  | _, _ => none
 | .call c => match c.callee with
  | .builtin b => match evalOs ev c.args.toList with
   | some vs => outV (eBuiltin P s b c.argTypes vs)
   | none => none
  | .value f => match ev f, evalOs ev c.args.toList with
   | some (.fn g first cap), some vs => bif bodyOK P g then some (.enter (.fn g (lapp (lapp first vs) cap)), s) else none
   | some (.yld l), some vs => match s.heap.get l with
    | some (.loop r) => bif Nat.beq (llen vs) (llen r.params) then some (.enter (.round l vs), s) else none
    | _ => none
   | _, _ => none
  | _ => none
 | _ => none

def opE (s : St) (ev : Operand → Option V) (op : Op) : Option (EOut × St) :=
 match qop P s ev op with
 | some v => some (.val v, s)
 | none => eop P s ev op

inductive OpF where
 | mk (f : St → (Operand → Option V) → Option (EOut × St))
inductive BinF where
 | mk (f : IntKind → Int → Int → Option V)

def toOut (s : St) : Option V → Option (EOut × St)
 | some v => some (.val v, s)
 | none => none

def binF (op : BinOp) : BinF :=
 match op with
 | .add => .mk fun k a b => some (.int k (wrapQ k (a + b)))
 | .sub => .mk fun k a b => some (.int k (wrapQ k (a - b)))
 | .mul => .mk fun k a b => some (.int k (wrapQ k (a * b)))
 | .and => .mk fun k a b => some (.int k (wrapQ k (.ofNat (Nat.land (ofI k a) (ofI k b)))))
 | .or => .mk fun k a b => some (.int k (wrapQ k (.ofNat (Nat.lor (ofI k a) (ofI k b)))))
 | .xor => .mk fun k a b => some (.int k (wrapQ k (.ofNat (Nat.xor (ofI k a) (ofI k b)))))
 | .eql => .mk fun _ a b => some (.bool (eqQ a b))
 | .neq => .mk fun _ a b => some (.bool (!eqQ a b))
 | .lss => .mk fun _ a b => some (.bool (ltQ a b))
 | .leq => .mk fun _ a b => some (.bool (!ltQ b a))
 | .gtr => .mk fun _ a b => some (.bool (ltQ b a))
 | .geq => .mk fun _ a b => some (.bool (!ltQ a b))
 | .quo => .mk (intBin .quo)
 | .rem => .mk (intBin .rem)
 | .andNot => .mk (intBin .andNot)
 | .shl => .mk fun _ _ _ => none
 | .shr => .mk fun _ _ _ => none
def binG (op : BinOp) (k : IntKind) (a b : Int) : Option V := match binF op with | .mk f => f k a b
theorem binG_eq (op : BinOp) (k : IntKind) (a b : Int) : binG op k a b = intBin op k a b := by cases op <;> rfl

def cBinI (op : BinOp) (t : TypeId) (s : St) (v u : V) : Option V :=
 match v with
 | .int k x => match u with
  | .int k' y => bif kEq k k' then binG op k x y else none
  | _ => qBin P s op t (.int k x) u
 | _ => qBin P s op t v u
def cBin (op : BinOp) (t : TypeId) (x y : Operand) (s : St) (ev : Operand → Option V) : Option (EOut × St) :=
 match ev x with
 | some a => match ev y with
  | some b => toOut s (cBinI P op t s a b)
  | none => none
 | none => none
def cShift (op : BinOp) (t : TypeId) (x y : Operand) (s : St) (ev : Operand → Option V) : Option (EOut × St) :=
 match ev x with
 | some a => match ev y with
  | some b => toOut s (qBin P s op t a b)
  | none => none
 | none => none
def cLoad (t : TypeId) (x : Operand) (s : St) (ev : Operand → Option V) : Option (EOut × St) :=
 match ev x with
 | some a => toOut s (qLoad P s t a)
 | none => none
def cStore (t : TypeId) (x y : Operand) (s : St) (ev : Operand → Option V) : Option (EOut × St) :=
 match ev x with
 | some a => match ev y with
  | some b => outS (eStore P s t a b)
  | none => none
 | none => none
def cIndexAddr (t : TypeId) (x y : Operand) (s : St) (ev : Operand → Option V) : Option (EOut × St) :=
 match ev x with
 | some a => match ev y with
  | some b => toOut s (qIndexAddr P t a b)
  | none => none
 | none => none
def cIndex (t : TypeId) (x y : Operand) (s : St) (ev : Operand → Option V) : Option (EOut × St) :=
 match ev x with
 | some a => match ev y with
  | some b => toOut s (qIndex P t a b)
  | none => none
 | none => none
def cFieldAddr (t : TypeId) (x : Operand) (i : Nat) (s : St) (ev : Operand → Option V) : Option (EOut × St) :=
 match ev x with
 | some a => toOut s (qFieldAddr P t a i)
 | none => none
def cUn (op : UnOp) (x : Operand) (s : St) (ev : Operand → Option V) : Option (EOut × St) :=
 match ev x with
 | some a => toOut s (qUn op a)
 | none => none
def cConv (src dst : TypeId) (x : Operand) (s : St) (ev : Operand → Option V) : Option (EOut × St) :=
 match ev x with
 | some a => match qConv P s src dst a with
  | some v => some (.val v, s)
  | none => outV (eBytes P s src dst a)
 | none => none
def cPick (c a b : Operand) (s : St) (ev : Operand → Option V) : Option (EOut × St) :=
 match ev c with
 | some (.bool true) => toOut s (ev a)
 | some (.bool false) => toOut s (ev b)
 | _ => none
def cCall (c : Call) (s : St) (ev : Operand → Option V) : Option (EOut × St) := opE P s ev (.call c)
def cAny (op : Op) (s : St) (ev : Operand → Option V) : Option (EOut × St) := opE P s ev op

def isShift : BinOp → Bool
 | .shl | .shr => true
 | _ => false
def compOp (op : Op) : OpF :=
 match op with
 | .move x => .mk fun s ev => toOut s (ev x)
 | .assign x => .mk fun s ev => toOut s (ev x)
 | .pick c a b => .mk (cPick c a b)
 | .load t a => .mk (cLoad P t a)
 | .store t a x => .mk (cStore P t a x)
 | .binOp op t x y _ => bif isShift op then .mk (cShift P op t x y) else .mk (cBin P op t x y)
 | .unOp op _ x => .mk (cUn op x)
 | .convert src dst x => .mk (cConv P src dst x)
 | .fieldAddr t x f => .mk (cFieldAddr P t x f)
 | .indexAddr t x i => .mk (cIndexAddr P t x i)
 | .index t x i => .mk (cIndex P t x i)
 | .call c => .mk (cCall P c)
 | op => .mk (cAny P op)
def runOpF (f : OpF) (s : St) (ev : Operand → Option V) : Option (EOut × St) := match f with | .mk f => f s ev

inductive StepF where
 | mk (g : Option (Option Tmp × Bool)) (d : Option Tmp) (f : St → (Operand → Option V) → Option (EOut × St))
def guardOf (ops : Array Oper) (o : Oper) : Option (Option Tmp × Bool) :=
 match o.guard with
 | none => none
 | some (j, want) => match ops[j]? with
  | some o' => some (o'.dst, want)
  | none => some (none, want)
def compStep (ops : Array Oper) (o : Oper) : StepF :=
 match compOp P o.op with
 | .mk f => .mk (guardOf ops o) o.dst f
def compOps (ops : Array Oper) (l : List Oper) : List StepF := @List.rec Oper (fun _ => List StepF) [] (fun o _ ih => compStep P ops o :: ih) l

def wantedE (g : Option (Option Tmp × Bool)) (f : Frm) : Bool :=
 match g with
 | none => true
 | some (some d, want) => match f.get d with
  | .bool b => bif want then b else !b
  | _ => false
 | some (none, _) => false

def nextE (self : ESelf) (d : Option Tmp) (rest : Cfg → Option (EExit × Cfg)) (f : Frm) (ds : List EDef) : Option (EOut × St) → Option (EExit × Cfg)
 | some (.val v, s) => rest ⟨putE f d v, ds, s⟩
 | some (.skip, s) => rest ⟨putE f d .undef, ds, s⟩
 | some (.pan v, s) => some (.pan v, ⟨f, ds, s⟩)
 | some (.enter t, s) => match self t s with
  | some (.ret v, s') => rest ⟨putE f d v, ds, s'⟩
  | some (.pan v, s') => some (.pan v, ⟨f, ds, s'⟩)
  | none => none
 | none => none
def stepE (self : ESelf) (rest : Cfg → Option (EExit × Cfg)) (x : StepF) (c : Cfg) : Option (EExit × Cfg) :=
 match x with
 | .mk g d f => match c with
  | ⟨fr, ds, s⟩ => bif wantedE g fr then nextE self d rest fr ds (f s (evF fr)) else rest ⟨putE fr d .undef, ds, s⟩
def runOps (self : ESelf) (l : List StepF) : Cfg → Option (EExit × Cfg) :=
 @List.rec StepF (fun _ => Cfg → Option (EExit × Cfg)) (fun c => some (.normal, c)) (fun x _ ih => stepE self ih x) l

def iterE (body : Cfg → Option (EExit × Cfg)) (n : Nat) : Cfg → Option (EExit × Cfg) :=
 @Nat.rec (fun _ => Cfg → Option (EExit × Cfg)) (fun _ => none) (fun _ ih c => match body c with
   | some (.normal, c') => ih c'
   | r => r) n

def jumpE : Option Code → Option EExit
 | none => some .normal
 | some .ret => some .ret
 | some (.exit id) => some (.exit id)
 | _ => none

def rangeE (self : ESelf) (round : Option Nat) (f : Operand) (ps : Array Tmp) (assign body : Code) (c : Cfg) : Option (EExit × Cfg) :=
 match (match round with
   | none => some ((c.st.new (.dfr false)), c.st.next, [EDef.mark c.st.next])
   | some l0 => match c.st.heap.get l0 with
     | some (.loop r) => some (c.st, r.defers, [])
     | _ => none : Option (St × Nat × List EDef)) with
 | none => none
 | some (s1, d, marks) =>
  match evF c.tmps f with
  | some (.fn g first cap) =>
   bif bodyOK P g then
    match self (.fn g (lapp (lapp first [.yld s1.next]) cap)) (s1.new (.loop ⟨.ready, none, c.tmps, ps.toList, assign, body, d⟩)) with
    | some (.ret _, s2) => match s2.heap.get s1.next with
     | some (.loop r) => match r.state with
      | .busy => none
      | _ => match jumpE r.pending with
       | some e => some (e, ⟨c.tmps, marks ++ c.defers, s2.upd s1.next (.loop { r with state := .exhausted })⟩)
       | none => none
     | _ => none
    | some (.pan v, s2) => some (.pan v, ⟨c.tmps, marks ++ c.defers, s2⟩)
    | none => none
   else none
  | _ => none

def seqE (a b : Cfg → Option (EExit × Cfg)) (c : Cfg) : Option (EExit × Cfg) :=
 match a c with
 | some (.normal, c') => b c'
 | r => r
def condE (x : Operand) (a b : Cfg → Option (EExit × Cfg)) (c : Cfg) : Option (EExit × Cfg) :=
 match evF c.tmps x with
 | some (.bool true) => a c
 | some (.bool false) => b c
 | _ => none
def blockE (id : Nat) (b : Cfg → Option (EExit × Cfg)) (c : Cfg) : Option (EExit × Cfg) :=
 match b c with
 | some (.exit id', c') => bif Nat.beq id' id then some (.normal, c') else some (.exit id', c')
 | r => r
def tbQ (m i : Nat) : Bool := Nat.beq (Nat.mod (Nat.div m (Nat.pow 2 i)) 2) 1
def bindsQ (e : Edge) : Bool :=
 match e.ground with
 | .textOnly _ => false
 | .gcOnly _ => false
 | _ => true
def ogetN : Option Nat → Nat
 | some n => n
 | none => 0
def maskE (A : List Nat) : List Edge → Nat
 | [] => 0
 | e :: es => bif bindsQ e then Nat.lor (Nat.lor (Nat.pow 2 e.on) (ogetN (lget A e.on))) (maskE A es) else maskE A es
def ancsE : List Oper → List Nat → List Nat
 | [], A => A
 | o :: l, A => ancsE l (lapp A [maskE A o.after.toList])
def hasN (d : Nat) : List Nat → Bool
 | [] => false
 | x :: l => bif Nat.beq x d then true else hasN d l
def apartE (ops : Array Oper) (A : List Nat) (i : Nat) (d : Nat) : List Oper → Nat → Bool
 | [], _ => true
 | o :: l, j => (bif Nat.beq i j then true else
     (match o.dst with
       | some d' => !Nat.beq d' d
       | none => true) && (bif hasN d (o.looksAt ops) then tbQ (ogetN (lget A i)) j || tbQ (ogetN (lget A j)) i else true)) && apartE ops A i d l (Nat.succ j)
def backE (i : Nat) : List Edge → Bool
 | [] => true
 | e :: l => (bif bindsQ e then Nat.ble (Nat.succ e.on) i else true) && backE i l
def stE (ops : Array Oper) (A : List Nat) : List Oper → Nat → Bool
 | [], _ => true
 | o :: l, i => backE i o.after.toList && (match o.dst with
     | some d => apartE ops A i d ops.toList 0
     | none => true) && stE ops A l (Nat.succ i)
def stOK (ops : Array Oper) : Bool := stE ops (ancsE ops.toList []) ops.toList 0

def evL (L : List Tmp) (f : Frm) (x : Operand) : Option V :=
 match x with
 | .tmp t => bif hasN t L then some (f.get t) else none
 | .const v => ofVal v
 | .global _ => none
 | .func g => some (.fn g [] [])

structure DRec where
 i : Nat
 o : Oper
 f : Frm
 s : St
 v : V
 q : Bool
 eff : Option St
 mb : Option Nat

def mkQ (ev : Operand → Option V) (op : Op) : Option Mk :=
 match op with
 | .alloc t => mAlloc P t
 | .box t x => match ev x with
  | some v => mBox t v
  | none => none
 | .buildSlice t len parts => match evalParts ev parts.toList with
  | some ps => mBuildSlice P t len ps
  | none => none
 | .makeSlice t l c => match ev l, ev c with
  | some lv, some cv => mMakeSlice P t lv cv
  | _, _ => none
 | _ => none
def Mk.isAt (m : Mk) (o : Option EObj) : Bool :=
 match m with
 | .mk cs t _ => match o with
  | some (.cells cs' t' false) => bif Nat.beq t t' then sameL cs cs' else false
  | _ => false
def qopM (mb : Option Nat) (s : St) (ev : Operand → Option V) (op : Op) : Option V :=
 match mb with
 | none => qop P s ev op
 | some b => match mkQ P ev op with
  | some m => bif m.isAt (s.heap.get b) then some (m.val b) else none
  | none => none
def findM (i : Nat) : List (Nat × Nat) → Option Nat
 | [] => none
 | e :: l => bif Nat.beq e.1 i then some e.2 else findM i l
def doneAll (D : Nat) : List Edge → Bool
 | [] => true
 | e :: l => (bif bindsQ e then tbQ D e.on else true) && doneAll D l
def preRun (ops : Array Oper) : List Oper → Nat → Frm → St → Nat → List (Nat × Nat) → St × List (Nat × Nat)
 | [], _, _, s, _, M => (s, M)
 | o :: l, i, f, s, D, M =>
  bif doneAll D o.after.toList then
   bif wantedE (guardOf ops o) f then
    match qop P s (evL (o.looksAt ops) f) o.op with
    | some v => preRun ops l (Nat.succ i) (putE f o.dst v) s (Nat.lor D (Nat.pow 2 i)) M
    | none => match mkQ P (evL (o.looksAt ops) f) o.op with
     | some m => preRun ops l (Nat.succ i) (putE f o.dst (m.val s.next)) (s.new m.obj) (Nat.lor D (Nat.pow 2 i)) ((i, s.next) :: M)
     | none => preRun ops l (Nat.succ i) f s D M
   else preRun ops l (Nat.succ i) (putE f o.dst .undef) s (Nat.lor D (Nat.pow 2 i)) M
  else preRun ops l (Nat.succ i) f s D M
def loudOp (op : Op) : Bool :=
 match op with
 | .alloc _ | .box .. | .buildSlice .. | .insert .. | .store .. | .makeMap .. | .makeSlice .. | .mapUpdate .. | .mapEntry .. | .entryStore .. | .panic .. => true
 | .call c => match c.callee with
  | .builtin b => match b with
   | .append | .copy | .delete | .clear => true
   | _ => false
  | _ => true
 | _ => false
def effIdx : List Oper → Nat → List (Nat × St)
 | [], _ => []
 | o :: l, i => bif loudOp o.op then (i, ⟨.leaf, 0⟩) :: effIdx l (Nat.succ i) else effIdx l (Nat.succ i)

def opOut (self : ESelf) : Option (EOut × St) → Option (V × St)
 | some (.val v, s) => some (v, s)
 | some (.skip, s) => some (.undef, s)
 | some (.enter t, s) => match self t s with
  | some (.ret v, s') => some (v, s')
  | _ => none
 | _ => none
def drawStep (self : ESelf) (ops : Array Oper) (mb : Option Nat) (i : Nat) (o : Oper) (f : Frm) (s : St) : Option DRec :=
 bif wantedE (guardOf ops o) f then
  match qopM P mb s (evL (o.looksAt ops) f) o.op with
  | some v => some ⟨i, o, f, s, v, true, none, mb⟩
  | none => match mb with
   | some _ => none
   | none => match opOut self (eop P s (evL (o.looksAt ops) f) o.op) with
    | some (v, s') => some ⟨i, o, f, s, v, false, some s', none⟩
    | none => none
 else some ⟨i, o, f, s, .undef, false, none, mb⟩
def orS (s : St) : Option St → St
 | some s' => s'
 | none => s
def drawRun (self : ESelf) (ops : Array Oper) (M : List (Nat × Nat)) : List Oper → Nat → Frm → St → Option (List DRec)
 | [], _, _, _ => some []
 | o :: l, i, f, s => match drawStep P self ops (findM i M) i o f s with
  | some r => match drawRun self ops M l (Nat.succ i) (putE f o.dst r.v) (orS s r.eff) with
   | some R => some (r :: R)
   | none => none
  | none => none
def effs : List DRec → List (Nat × St)
 | [] => []
 | r :: l => match r.eff with
  | some s => (r.i, s) :: effs l
  | none => effs l
def lastS (s : St) : List (Nat × St) → St
 | [] => s
 | e :: l => lastS e.2 l
def anyB (m : Nat) : List (Nat × St) → Bool
 | [] => false
 | e :: l => bif tbQ m e.1 then true else anyB m l
def chkE (ops : Array Oper) (A : List Nat) (r : DRec) (s : St) : List (Nat × St) → Bool
 | [] => (match qopM P r.mb s (evL (r.o.looksAt ops) r.f) r.o.op with
     | some v => v.same r.v
     | none => false)
 | e :: l => (bif anyB (ogetN (lget A r.i)) (e :: l) then true else match qopM P r.mb s (evL (r.o.looksAt ops) r.f) r.o.op with
     | some v => v.same r.v
     | none => false) && (bif tbQ (ogetN (lget A e.1)) r.i then true else chkE ops A r e.2 l)
def chainE (A : List Nat) : List (Nat × St) → Bool
 | [] => true
 | e :: l => beforeE A e.1 l && chainE A l
where beforeE (A : List Nat) (i : Nat) : List (Nat × St) → Bool
 | [] => true
 | e :: l => tbQ (ogetN (lget A e.1)) i && beforeE A i l
def chkAll (ops : Array Oper) (A : List Nat) (s : St) (E : List (Nat × St)) : List DRec → Bool
 | [] => true
 | r :: l => (bif r.q then chkE P ops A r s E else true) && chkAll ops A s E l
def finF (f : Frm) : List DRec → Frm
 | [] => f
 | r :: l => finF (putE f r.o.dst r.v) l
def opPan (self : ESelf) : Option (EOut × St) → Option (V × St)
 | some (.pan v, s) => some (v, s)
 | some (.enter t, s) => match self t s with
  | some (.pan v, s') => some (v, s')
  | _ => none
 | _ => none
def panTail (ops : Array Oper) (M : List (Nat × Nat)) (A : List Nat) (ip : Nat) : List Oper → Nat → Frm → St → Option (List DRec)
 | [], _, _, _ => some []
 | o :: l, i, f, s => bif tbQ (ogetN (lget A i)) ip then (match panTail ops M A ip l (Nat.succ i) (putE f o.dst .undef) s with
     | some R => some (⟨i, o, f, s, .undef, false, none, none⟩ :: R)
     | none => none) else match drawStep P (fun _ _ => none) ops (findM i M) i o f s with
   | some r => match r.eff with
    | none => match panTail ops M A ip l (Nat.succ i) (putE f o.dst r.v) s with
     | some R => some (r :: R)
     | none => none
    | some _ => none
   | none => none
def panRun (self : ESelf) (ops : Array Oper) (M : List (Nat × Nat)) (A : List Nat) : List Oper → Nat → Frm → St → Option (List DRec × Nat × V × St)
 | [], _, _, _ => none
 | o :: l, i, f, s => match drawStep P self ops (findM i M) i o f s with
  | some r => match panRun self ops M A l (Nat.succ i) (putE f o.dst r.v) (orS s r.eff) with
   | some (R, x) => some (r :: R, x)
   | none => none
  | none => bif wantedE (guardOf ops o) f then (match findM i M with
    | some _ => none
    | none => match opPan self (eop P s (evL (o.looksAt ops) f) o.op) with
      | some (v, s') => match panTail P ops M A i l (Nat.succ i) (putE f o.dst .undef) s with
        | some R => some (⟨i, o, f, s, .undef, false, none, none⟩ :: R, i, v, s')
        | none => none
      | none => none) else none
def allAfter (m : Nat) : List (Nat × St) → Bool
 | [] => true
 | e :: l => tbQ m e.1 && allAfter m l
def anyF (f : Frm) : List Oper → Frm
 | [] => f
 | o :: l => anyF (putE f o.dst .any) l
def drawP (self : ESelf) (ops : Array Oper) (M : List (Nat × Nat)) (c : Cfg) (s0 : St) : Option (EExit × Cfg) :=
 match panRun P self ops M (ancsE ops.toList []) ops.toList 0 c.tmps s0 with
 | some (R, ip, v, s') => bif chainE (ancsE ops.toList []) (effs R) && (allAfter (ogetN (lget (ancsE ops.toList []) ip)) (effs R) && chkAll P ops (ancsE ops.toList []) s0 (effs R) R) then
   some (.pan v, ⟨anyF c.tmps ops.toList, c.defers, s'⟩) else none
 | none => none
def preM (ops : Array Oper) (f : Frm) (s : St) : St × List (Nat × Nat) :=
 bif chainE (ancsE ops.toList []) (effIdx ops.toList 0) then (s, []) else preRun P ops ops.toList 0 f s 0 []
def drawE (self : ESelf) (ops : Array Oper) (c : Cfg) : Option (EExit × Cfg) :=
 bif P.follows .mixedOrders && stOK ops then
  match preM P ops c.tmps c.st with
  | (s0, M) =>
   match drawRun P self ops M ops.toList 0 c.tmps s0 with
   | some R => bif chainE (ancsE ops.toList []) (effs R) && chkAll P ops (ancsE ops.toList []) s0 (effs R) R then
     some (.normal, ⟨finF c.tmps R, c.defers, lastS s0 (effs R)⟩) else none
   | none => drawP P self ops M c s0
 else none

def hasDefer : List Oper → Bool
 | [] => false
 | o :: l => match o.op with
  | .defer _ => true
  | _ => hasDefer l
def dferE : List Oper → Cfg → Option (EExit × Cfg)
 | [], c => some (.normal, c)
 | o :: l, c => match o.guard with
  | some _ => none
  | none => match o.op with
   | .defer cl => match cl.callee with
    | .value f => match evF c.tmps f, evalOs (evF c.tmps) cl.args.toList with
     | some (.fn g first cap), some vs => bif bodyOK P g then dferE l ⟨putE c.tmps o.dst .undef, .call g (lapp first vs) cap :: c.defers, c.st⟩ else none
     | _, _ => none
    | _ => none
   | op => match qop P c.st (evF c.tmps) op with
    | some v => dferE l ⟨putE c.tmps o.dst v, c.defers, c.st⟩
    | none => none
def regionE (self : ESelf) (round : Option Nat) (ops : Array Oper) (draw : Bool) (c : Cfg) : Option (EExit × Cfg) :=
 match draw with
 | false => bif hasDefer ops.toList then (match round with
     | none => dferE P ops.toList c
     | some _ => none) else runOps self (compOps P ops ops.toList) c
 | true => drawE P self ops c
inductive CodeF where
 | mk (f : Cfg → Option (EExit × Cfg))
def runF (f : CodeF) (c : Cfg) : Option (EExit × Cfg) := match f with | .mk f => f c
def compC (self : ESelf) (fuel : Nat) (round : Option Nat) (x : Code) : CodeF :=
 @Code.rec (fun _ => CodeF)
  (.mk fun c => some (.normal, c))
  (fun _ ops draw => .mk (regionE P self round ops draw))
  (fun _ _ ia ib => .mk (seqE (runF ia) (runF ib)))
  (fun x _ _ ia ib => .mk (condE x (runF ia) (runF ib)))
  (fun id _ ib => .mk (blockE id (runF ib)))
  (fun _ ib => .mk (iterE (runF ib) fuel))
  (fun f ps assign body _ _ => .mk (rangeE P self round f ps assign body))
  (fun id => .mk fun c => some (.exit id, c))
  (fun _ ib => .mk (runF ib))
  (fun _ => .mk fun c => some (.normal, c))
  (fun _ => .mk fun _ => none)
  (.mk fun c => some (.ret, c))
  (fun _ => .mk fun _ => none) x
def runCode (self : ESelf) (fuel : Nat) (round : Option Nat) (x : Code) (c : Cfg) : Option (EExit × Cfg) := runF (compC P self fuel round x) c

def setParams : Frm → List Tmp → List V → Frm
 | t, p :: ps, v :: vs => setParams (putE t (some p) v) ps vs
 | t, _, _ => t

def runRound (self : ESelf) (fuel : Nat) (l : Nat) (args : List V) (s : St) : Option (EEnd × St) :=
 match s.heap.get l with
 | some (.loop r) =>
  match runCode P self fuel (some l) r.assign ⟨setParams r.tmps r.params args, [], s⟩ with
  | some (.normal, c1) => match c1.st.heap.get l with
   | some (.loop r1) => match r1.state with
    | .ready =>
     match runCode P self fuel (some l) r.body ⟨c1.tmps, c1.defers, c1.st.upd l (.loop { r1 with state := .busy })⟩ with
     | some (e, c2) => match c2.st.heap.get l with
      | some (.loop r2) => match e with
       | .normal => some (.ret (.bool true), c2.st.upd l (.loop { r2 with state := .ready, pending := none }))
       | .ret => some (.ret (.bool false), c2.st.upd l (.loop { r2 with state := .done, pending := some .ret }))
       | .exit id => some (.ret (.bool false), c2.st.upd l (.loop { r2 with state := .done, pending := some (.exit id) }))
       | .pan _ => none
      | _ => none
     | none => none
    | _ => none
   | _ => none
  | _ => none
 | _ => none

def resultsE (s : St) (f : Frm) : List ResultVar → Option (List V)
 | [] => some []
 | .tmp t :: l => match resultsE s f l with
  | some r => match f.get t with
   | .any => none
   | v => some (v :: r)
  | none => none
 | .cell a t :: l => match qLoad P s t (f.get a) with
  | some v => match resultsE s f l with
   | some r => some (v :: r)
   | none => none
  | none => none
def resultE (s : St) (f : Frm) (rs : List ResultVar) : Option V :=
 match resultsE P s f rs with
 | some [v] => some v
 | some l => some (match l with | [] => .undef | _ => .tup l)
 | none => none

abbrev DM := Option (V × Bool)
inductive DCodeF where
 | mk (f : Cfg → DM → Option (EExit × Cfg × DM))
def runD (f : DCodeF) (c : Cfg) (m : DM) : Option (EExit × Cfg × DM) := match f with | .mk f => f c m
def withD (m : DM) : Option (EExit × Cfg) → Option (EExit × Cfg × DM)
 | some (.pan _, _) => none
 | some (e, c) => some (e, c, m)
 | none => none
def isRec : Op → Bool
 | .call cl => match cl.callee with
  | .builtin .recover => cl.args.isEmpty
  | _ => false
 | _ => false
def hasRec : List Oper → Bool
 | [] => false
 | o :: l => bif isRec o.op then true else hasRec l
def recE : List Oper → Cfg → DM → Option (EExit × Cfg × DM)
 | [], c, m => some (.normal, c, m)
 | o :: l, c, m => match o.guard with
  | some _ => none
  | none => bif isRec o.op then (match m with
      | some (v, false) => recE l ⟨putE c.tmps o.dst v, c.defers, c.st⟩ (some (v, true))
      | m => recE l ⟨putE c.tmps o.dst .nili, c.defers, c.st⟩ m) else
   match qop P c.st (evF c.tmps) o.op with
    | some v => recE l ⟨putE c.tmps o.dst v, c.defers, c.st⟩ m
    | none => none
def seqD (a b : Cfg → DM → Option (EExit × Cfg × DM)) (c : Cfg) (m : DM) : Option (EExit × Cfg × DM) :=
 match a c m with
 | some (.normal, c', m') => b c' m'
 | r => r
def condD (x : Operand) (a b : Cfg → DM → Option (EExit × Cfg × DM)) (c : Cfg) (m : DM) : Option (EExit × Cfg × DM) :=
 match evF c.tmps x with
 | some (.bool true) => a c m
 | some (.bool false) => b c m
 | _ => none
def compD (self : ESelf) (fuel : Nat) (x : Code) : DCodeF :=
 @Code.rec (fun _ => DCodeF)
  (.mk fun c m => withD m (runCode P self fuel none .skip c))
  (fun id ops draw => .mk fun c m => match draw with
    | false => bif hasRec ops.toList then recE P ops.toList c m else withD m (runCode P self fuel none (.region id ops false) c)
    | true => withD m (runCode P self fuel none (.region id ops true) c))
  (fun _ _ ia ib => .mk (seqD (runD ia) (runD ib)))
  (fun x _ _ ia ib => .mk (condD x (runD ia) (runD ib)))
  (fun id b _ => .mk fun c m => withD m (runCode P self fuel none (.block id b) c))
  (fun b _ => .mk fun c m => withD m (runCode P self fuel none (.loop b) c))
  (fun f ps assign body _ _ => .mk fun c m => withD m (runCode P self fuel none (.rangeFunc f ps assign body) c))
  (fun id => .mk fun c m => withD m (runCode P self fuel none (.exit id) c))
  (fun b _ => .mk fun c m => withD m (runCode P self fuel none (.scope b) c))
  (fun l => .mk fun c m => withD m (runCode P self fuel none (.label l) c))
  (fun l => .mk fun c m => withD m (runCode P self fuel none (.goto l) c))
  (.mk fun c m => withD m (runCode P self fuel none .ret c))
  (fun why => .mk fun c m => withD m (runCode P self fuel none (.refuse why) c)) x
def runDef (self : ESelf) (fuel : Nat) (g : FuncId) (args : List V) (m : DM) (s : St) : Option (DM × St) :=
 match P.funcs[g]? with
 | some fn => match fn.body with
  | some c => bif !(Nat.ble (llen args) fn.ntmps && Nat.ble fn.ntmps 4096) then none else match runD (compD P self fuel c) ⟨mkFrm fn.ntmps args, [], s⟩ m with
   | some (e, c', m') => match e with
    | .normal | .ret => match c'.defers with
     | [] => match resultE P c'.st c'.tmps fn.results.toList with
      | some _ => some (m', c'.st)
      | none => none
     | _ :: _ => none
    | _ => none
   | none => none
  | none => none
 | none => none
def settleE : DM → DM
 | some (_, true) => none
 | m => m

def leaveE (self : ESelf) (fuel : Nat) (fn : Func) (tmps : Frm) (pan : DM) : List EDef → St → Option (EEnd × St)
 | [], s => match pan with
  | some (v, false) => some (.pan v, s)
  | some (_, true) => none
  | none => match resultE P s tmps fn.results.toList with
   | some v => some (.ret v, s)
   | none => none
 | .mark r :: ds, s => match s.heap.get r with
  | some (.dfr false) => leaveE self fuel fn tmps pan ds (s.upd r (.dfr true))
  | _ => none
 | .call g args cap :: ds, s => bif bodyOK P g then (match runDef P self fuel g (lapp args cap) pan s with
   | some (m, s') => leaveE self fuel fn tmps (settleE m) ds s'
   | none => none) else none

def runFn (self : ESelf) (fuel : Nat) (f : FuncId) (args : List V) (s : St) : Option (EEnd × St) :=
 match P.funcs[f]? with
 | some fn => match fn.body with
  | some c => bif !(Nat.ble (llen args) fn.ntmps && Nat.ble fn.ntmps 4096) then none else match runCode P self fuel none c ⟨mkFrm fn.ntmps args, [], s⟩ with
   | some (.normal, c') => leaveE P self fuel fn c'.tmps none c'.defers c'.st
   | some (.ret, c') => leaveE P self fuel fn c'.tmps none c'.defers c'.st
   | some (.pan v, c') => leaveE P self fuel fn c'.tmps (some (v, false)) c'.defers c'.st
   | _ => none
  | none => none
 | none => none

def runT (self : ESelf) (fuel : Nat) : ESelf
 | .fn f args, s => runFn P self fuel f args s
 | .round l args, s => runRound P self fuel l args s

def callE (known : ESelf) (fuel : Nat) (d : Nat) : ESelf :=
 @Nat.rec (fun _ => ESelf) (fun _ _ => none) (fun _ ih t s => match known t s with
   | some r => some r
   | none => runT P ih fuel t s) d
end
end Go.Eng
end

section
namespace Go.Eng
open Go.RowKit (Below)
set_option linter.unusedSimpArgs false
set_option linter.unusedVariables false

def DRel (ρ : Env) : List EDef → List Deferred → Prop
 | [], D => D = []
 | .mark r :: l, D => ∃ x Y, ρ r = some x ∧ D = { target := .collected x.B, args := #[] } :: Y ∧ DRel ρ l Y
 | .call f a c :: l, D => ∃ (A C : Array Value) (Y : List Deferred), D = { target := .fn (.func f) C, args := A } :: Y ∧ LRel ρ a A.toList ∧ LRel ρ c C.toList ∧ DRel ρ l Y
theorem DRel.up {ρ ρ' : Env} (h : ρ.sub ρ') : ∀ {l : List EDef} {D : List Deferred}, DRel ρ l D → DRel ρ' l D
 | [], _, r => r
 | .mark _ :: _, _, r => by obtain ⟨x, Y, h1, h2, h3⟩ := r; exact ⟨x, Y, h _ _ h1, h2, h3.up h⟩
 | .call .. :: _, _, r => by obtain ⟨A, C, Y, h1, h2, h3, h4⟩ := r; exact ⟨A, C, Y, h1, LRel.up h _ _ h2, LRel.up h _ _ h3, h4.up h⟩
theorem DRel.mono {ρ ρ' : Env} (h : ρ.le ρ') {l : List EDef} {D : List Deferred} (r : DRel ρ l D) : DRel ρ' l D := DRel.up h.sub r

def XRel (ρ : Env) : EExit → Exit → Prop
 | .normal, E => E = .normal
 | .exit id, E => E = .exit id
 | .ret, E => E = .ret
 | .pan v, E => ∃ X, E = .panic [{ v := X, recovered := false }] ∧ VRel ρ v X
def NRel (ρ : Env) : EEnd → Ending → Prop
 | .ret v, E => ∃ X, E = .returned X ∧ VRel ρ v X
 | .pan v, E => ∃ X, E = .panicked [{ v := X, recovered := false }] ∧ VRel ρ v X

def RF (round : Option Nat) : Fence := { Fence.wide with round := round }
theorem RF_fn (r : Option Nat) (f : FuncId) : (RF r).fn f := trivial
theorem RF_depth (r : Option Nat) : (RF r).depth = none := rfl

def Post (base : Nat) (ρ : Env) (w : World) (e : EEnd) (s' : St) : Ending → World → Prop :=
 fun E w' => ∃ ρ', ρ.le ρ' ∧ NRel ρ' e E ∧ SRel base ρ' s' w' ∧ Below base w w'
def FX (ρ : Env) (e : EExit) (f : Frm) (A : Array Value) : Prop :=
 match e with
 | .pan _ => FRelA ρ f A
 | _ => FRel ρ f A
theorem FRel.toX {ρ : Env} {f : Frm} {A : Array Value} (r : FRel ρ f A) : ∀ e, FX ρ e f A
 | .pan _ => r.toA
 | .normal => r
 | .exit _ => r
 | .ret => r
def CPost (base : Nat) (ρ : Env) (w : World) (e : EExit) (c' : Cfg) : Exit → Act → World → Prop :=
 fun E A' w' => ∃ ρ', ρ.le ρ' ∧ XRel ρ' e E ∧ FX ρ' e c'.tmps A'.tmps ∧ DRel ρ' c'.defers A'.defers ∧ SRel base ρ' c'.st w' ∧ Below base w w'

def SelfOK (P : Program) (self : ESelf) : Prop := ∀ t s e s', self t s = some (e, s') → ∀ base ρ w, SRel base ρ s w → ∀ n : Nat,
 match t with
 | .fn f args => ∀ A : Array Value, LRel ρ args A.toList → CallsIn Fence.wide n P f A w (Post base ρ w e s')
 | .round l args => ∀ (x : Blk) (L : Loop) (A : Array Value), ρ l = some x → w.heap[x.B]? = some (.loop L) → LRel ρ args A.toList → A.size = L.params.size →
   RoundIn Fence.wide n P x.B L.fn ((L.params.zip A).foldl (fun tmps (t, a) => tmps.setIfInBounds t a) L.tmps) L.assign L.body w (Post base ρ w e s')

def NextRel (base : Nat) (ρ : Env) (s : St) (w : World) (s' : St) (r : Result Next) : EOut → Prop
 | .val v => ∃ ρ' X w', ρ.le ρ' ∧ r = .ok (.value X) w' ∧ VRel ρ' v X ∧ SRel base ρ' s' w' ∧ Below base w w'
 | .skip => ∃ w', r = .ok .skip w' ∧ SRel base ρ s' w' ∧ Below base w w'
 | .pan v => s' = s ∧ ∃ X, r = .halt (.panic X) w ∧ VRel ρ v X
 | .enter (.fn f args) => s' = s ∧ ∃ A, r = .ok (.enter f A) w ∧ LRel ρ args A.toList
 | .enter (.round l args) => s' = s ∧ ∃ (x : Blk) (L : Loop) (A : Array Value), ρ l = some x ∧ w.heap[x.B]? = some (.loop L) ∧ LRel ρ args A.toList ∧ A.size = L.params.size ∧
   r = .ok (.round x.B L.fn ((L.params.zip A).foldl (fun tmps (t, a) => tmps.setIfInBounds t a) L.tmps) L.assign L.body) w

section
variable {P : Program} {base : Nat} {ρ : Env} {s : St} {w : World}

theorem FRel.get {f : Frm} {A : Array Value} (h : FRel ρ f A) (k : Nat) : VRel ρ (f.get k) (A.getD k undef) := by
 obtain ⟨h1, d, h2, h3, h4⟩ := h
 rw [Frm.get_eq, blt_iff, Array.getD_eq_getD_getElem?]
 by_cases hk : k < f.n
 ·rw [decide_eq_true hk]
  have hk' : k < A.size := by omega
  have := h4 k A[k] (Array.getElem?_eq_getElem hk')
  rw [Array.getElem?_eq_getElem hk']
  exact this
 ·rw [decide_eq_false hk]
  have hk' : A.size ≤ k := by omega
  rw [Array.getElem?_eq_none hk']
  show VRel ρ .undef (.tuple #[])
  simp only [VRel]

theorem evF_rel {f : Frm} {A : Act} (h : FRel ρ f A.tmps) : EvRel ρ (evF f) A := by
 intro x v hv
 cases x with
 | tmp t =>
  have hv : some (f.get t) = some v := hv
  cases hv
  exact h.get t
 | const c => exact ofVal_rel hv
 | global g => cases hv
 | func g =>
  have hv : some (V.fn g [] []) = some v := hv
  cases hv
  simp only [VRel, Act.eval]
  exact ⟨#[], #[], rfl, rfl, rfl⟩

theorem FRel.set {f : Frm} {A : Array Value} (h : FRel ρ f A) {v : V} {X : Value} (hv : VRel ρ v X) (k : Nat) : FRel ρ (putE f (some k) v) (A.setIfInBounds k X) := by
 obtain ⟨h1, d, h2, h3, h4⟩ := h
 rw [putE_some, blt_iff]
 by_cases hk : k < f.n
 ·rw [decide_eq_true hk]
  refine ⟨by simpa using h1, d, B.set_full _ _ _ _ h2, h3, fun i Y hi => ?_⟩
  show VRel ρ ((B.set v f.t k).get i) Y
  have hi' : i < A.size := by
   have := (Array.getElem?_eq_some_iff.1 hi).1
   simpa using this
  rw [B.get_set v f.t d k i h2 (by omega) (by omega)]
  rw [Array.getElem?_setIfInBounds] at hi
  by_cases e : k = i
  ·subst e
   simp only [if_true, hi'] at hi
   cases hi
   simpa using hv
  ·rw [if_neg e] at hi
   rw [if_neg (fun e' => e e'.symm)]
   exact h4 i Y hi
 ·rw [decide_eq_false hk]
  have : A.setIfInBounds k X = A := by
   apply Array.ext_getElem?
   intro i
   rw [Array.getElem?_setIfInBounds]
   split
   ·rename_i e; subst e
    rw [if_neg (by omega), Array.getElem?_eq_none (by omega)]
   ·rfl
  rw [this]
  exact ⟨h1, d, h2, h3, h4⟩
theorem putE_rel {f : Frm} {A : Act} (h : FRel ρ f A.tmps) {v : V} {X : Value} (hv : VRel ρ v X) (d : Option Tmp) : FRel ρ (putE f d v) (A.put d X).tmps := by
 cases d with
 | none => exact h
 | some k => exact h.set hv k
theorem put_defers (A : Act) (d : Option Tmp) (X : Value) : (A.put d X).defers = A.defers := by cases d <;> rfl

theorem wanted_rel {f : Frm} {A : Act} (h : FRel ρ f A.tmps) (ops : Array Oper) (o : Oper) : wantedE (guardOf ops o) f = Region.wanted o (yielded ops A.tmps) := by
 unfold guardOf Region.wanted
 cases hg : o.guard with
 | none => rfl
 | some p =>
  obtain ⟨j, want⟩ := p
  simp only
  cases ho : ops[j]? with
  | none => simp [wantedE, yielded, ho]
  | some o' =>
   simp only
   cases hd : o'.dst with
   | none => simp [wantedE, yielded, ho, hd]
   | some d =>
    obtain ⟨h1, dd, h2, h3, h4⟩ := h
    simp only [wantedE, yielded, ho, hd, Option.bind_some, Frm.get_eq, blt_iff]
    by_cases hk : d < f.n
    ·rw [decide_eq_true hk]
     have hk' : d < A.tmps.size := h1 ▸ hk
     have hv := h4 d A.tmps[d] (Array.getElem?_eq_getElem hk')
     rw [Array.getElem?_eq_getElem hk']
     simp only [cond_true]
     generalize A.tmps[d] = X at hv
     generalize f.t.get d = v at hv
     cases v <;> simp only [VRel] at hv
     case bool b => subst hv; cases want <;> cases b <;> rfl
     all_goals first
      | (subst hv; rfl)
      | (obtain ⟨_, _, _, _, rfl⟩ := hv; rfl)
      | (obtain ⟨_, _, _, _, _, rfl, _⟩ := hv; rfl)
      | (obtain ⟨_, _, rfl⟩ := hv; rfl)
      | (obtain ⟨_, _, rfl, _⟩ := hv; rfl)
      | (obtain ⟨_, rfl, _⟩ := hv; rfl)
    ·rw [decide_eq_false hk]
     have hk' : A.tmps.size ≤ d := Nat.le_of_not_lt (h1 ▸ hk)
     rw [Array.getElem?_eq_none hk']
     rfl

theorem outV_some {x : Option (V × St)} {o : EOut} {s' : St} (h : outV x = some (o, s')) : ∃ v, x = some (v, s') ∧ o = .val v := by
 cases x with
 | none => cases h
 | some p => obtain ⟨v, t⟩ := p; cases h; exact ⟨v, rfl, rfl⟩
theorem outS_some {x : Option St} {o : EOut} {s' : St} (h : outS x = some (o, s')) : x = some s' ∧ o = .skip := by
 cases x with
 | none => cases h
 | some p => cases h; exact ⟨rfl, rfl⟩

theorem NextRel.ofV {m : Sem Value} {v : V} {s' : St} (h : OKv P base ρ m w v s') : NextRel base ρ s w s' ((do pure (.value (← m)) : Sem Next).run P w) (.val v) := by
 obtain ⟨ρ', X, w', h1, h2, h3⟩ := h
 exact ⟨ρ', X, w', h1, by simp [h2], h3⟩
theorem NextRel.ofU {m : Sem Unit} {s' : St} (h : ∃ w', m.run P w = .ok () w' ∧ SRel base ρ s' w' ∧ Below base w w') : NextRel base ρ s w s' ((do m; pure .skip : Sem Next).run P w) .skip := by
 obtain ⟨w', h1, h2, h3⟩ := h
 exact ⟨w', by simp [h1], h2, h3⟩

theorem bodyOK_spec {f : FuncId} (h : bodyOK P f = true) : ∃ fn, P.funcs[f]? = some fn ∧ (fn.name == "runtime.NumGoroutine") = false ∧ fn.body.isNone = false := by
 unfold bodyOK at h
 split at h
 ·rename_i fn hf
  simp only [Bool.and_eq_true, Bool.not_eq_true'] at h
  refine ⟨fn, hf, h.1, ?_⟩
  cases hb : fn.body with
  | none => rw [hb] at h; cases h.2
  | some c => rfl
 ·cases h

theorem run_callFunc {f : FuncId} (h : bodyOK P f = true) (A : Array Value) : (callFunc f A).run P w = .ok (.enter f A) w := by
 obtain ⟨fn, h1, h2, h3⟩ := bodyOK_spec h
 simp only [callFunc, Sem.run_bind, run_program, Result.andThen_ok, h1, h2, h3, Bool.false_eq_true, if_false, Sem.run_pure]

theorem arr2 {A : Array Value} {X Y : Value} (h : A.toList = [X, Y]) : A = #[X, Y] := by cases A; simp at h; simp [h]

theorem eBuiltin_rel (h : SRel base ρ s w) {b : Builtin} {ts : Array TypeId} {vs : List V} {v : V} {s' : St} (hq : eBuiltin P s b ts vs = some (v, s')) {A : Array Value} (ha : LRel ρ vs A.toList) (ty : TypeId) (cs : Array Bool) :
  NextRel base ρ s w s' ((Go.builtin b ts ty cs A).run P w) (.val v) := by
 unfold eBuiltin at hq
 split at hq
 ·obtain ⟨X, _, e, h1, Y, _, rfl, h2, h3⟩ := ha
  have h3 : _ = [] := h3
  subst h3
  obtain rfl := arr2 e
  exact NextRel.ofV (eAppend_rel h hq h1 h2)
 ·obtain ⟨X, _, e, h1, Y, _, rfl, h2, h3⟩ := ha
  have h3 : _ = [] := h3
  subst h3
  obtain rfl := arr2 e
  exact NextRel.ofV (eCopy_rel h hq h1 h2)
 ·obtain ⟨X, _, e, h1, Y, _, rfl, h2, h3⟩ := ha
  have h3 : _ = [] := h3
  subst h3
  obtain rfl := arr2 e
  exact NextRel.ofV (eDelete_rel h hq h1 h2)
 ·obtain ⟨X, _, e, h1, h3⟩ := ha
  have h3 : _ = [] := h3
  subst h3
  obtain rfl := arr1 e
  exact NextRel.ofV (eClear_rel h hq h1)
 ·cases hq

theorem MkOK.next {m : Sem Value} {k : Mk} (h : MkOK P ρ m w k) : MkOK P ρ m w k ∧ ∀ X w', m.run P w = .ok X w' → (do pure (.value (← m)) : Sem Next).run P w = .ok (.value X) w' :=
 ⟨h, fun X w' e => by simp [e]⟩
theorem mkQ_rel {ev : Operand → Option V} {A : Act} (hA : EvRel ρ ev A) {o : Oper} {k : Mk} (hq : mkQ P ev o.op = some k) :
  ∃ m : Sem Value, (∀ X w', m.run P w = .ok X w' → (execOp A.eval o).run P w = .ok (.value X) w') ∧ MkOK P ρ m w k := by
 unfold mkQ at hq
 unfold execOp
 split at hq <;> rename_i heq <;> simp only [heq]
 ·have := (mAlloc_rel (ρ := ρ) (w := w) hq).next; exact ⟨_, this.2, this.1⟩
 ·split at hq
  ·rename_i hx
   have := (mBox_rel (P := P) (w := w) hq (hA _ _ hx)).next; exact ⟨_, this.2, this.1⟩
  ·cases hq
 ·split at hq
  ·rename_i hx
   have := (mBuildSlice_rel (w := w) hq (by rw [map_toList]; exact evalParts_rel hA hx)).next; exact ⟨_, this.2, this.1⟩
  ·cases hq
 ·split at hq
  ·rename_i h1 h2
   have := (mMakeSlice_rel (w := w) hq (hA _ _ h1) (hA _ _ h2)).next; exact ⟨_, this.2, this.1⟩
  ·cases hq
 ·cases hq

theorem eop_rel (h : SRel base ρ s w) {ev : Operand → Option V} {A : Act} (hA : EvRel ρ ev A) {o : Oper} {out : EOut} {s' : St} (hq : eop P s ev o.op = some (out, s')) :
  NextRel base ρ s w s' ((execOp A.eval o).run P w) out := by
 unfold eop at hq
 unfold execOp
 split at hq <;> rename_i heq <;> simp only [heq]
 ·obtain ⟨v, h1, rfl⟩ := outV_some hq
  exact NextRel.ofV (eAlloc_rel h h1)
 ·split at hq
  ·rename_i hx
   obtain ⟨v, h1, rfl⟩ := outV_some hq
   exact NextRel.ofV (eBox_rel h h1 (hA _ _ hx))
  ·cases hq
 ·split at hq
  ·rename_i hx
   obtain ⟨v, h1, rfl⟩ := outV_some hq
   exact NextRel.ofV (eBuildSlice_rel h h1 (by rw [map_toList]; exact evalParts_rel hA hx))
  ·cases hq
 ·split at hq
  ·rename_i h1 h2
   obtain ⟨h3, rfl⟩ := outS_some hq
   exact NextRel.ofU (eStore_rel h h3 (hA _ _ h1) (hA _ _ h2))
  ·cases hq
 ·split at hq
  ·rename_i hx
   obtain ⟨v, h1, rfl⟩ := outV_some hq
   exact NextRel.ofV (eBytes_rel h h1 (hA _ _ hx))
  ·cases hq
 ·split at hq
  ·rename_i hx
   obtain ⟨v, h1, rfl⟩ := outV_some hq
   exact NextRel.ofV (eMakeMap_rel h h1 (optO_rel hA hx))
  ·cases hq
 ·split at hq
  ·rename_i h1 h2
   obtain ⟨v, h3, rfl⟩ := outV_some hq
   exact NextRel.ofV (eMakeSlice_rel h h3 (hA _ _ h1) (hA _ _ h2))
  ·cases hq
 ·split at hq
  ·rename_i h1 h2 h3
   obtain ⟨h4, rfl⟩ := outS_some hq
   exact NextRel.ofU (eMapUpdate_rel h h4 (hA _ _ h1) (hA _ _ h2) (hA _ _ h3))
  ·cases hq
 ·split at hq
  ·rename_i h1 h2 h3
   obtain ⟨h4, rfl⟩ := outS_some hq
   exact NextRel.ofU (eMapUpdate_rel h h4 (hA _ _ h1) (hA _ _ h2) (hA _ _ h3))
  ·cases hq
 ·split at hq
  ·rename_i h1 h2
   obtain ⟨v, h3, rfl⟩ := outV_some hq
   exact NextRel.ofV (eMapEntry_rel h h3 (hA _ _ h1) (hA _ _ h2))
  ·cases hq
 ·split at hq
  ·rename_i h1 h2 h3
   obtain ⟨h4, rfl⟩ := outS_some hq
   exact NextRel.ofU (eEntryStore_rel h h4 (hA _ _ h1) (hA _ _ h2) (hA _ _ h3))
  ·cases hq
 ·split at hq
  ·rename_i hx
   cases hq
   have := hA _ _ hx
   have hv := this
   simp only [VRel] at this
   obtain ⟨X, e, _⟩ := this
   refine ⟨rfl, .iface _ X, ?_, by rw [← e]; exact hv⟩
   simp [Instr.panic, e]
  ·cases hq
 ·split at hq
  ·rename_i hx
   obtain ⟨v, h1, rfl⟩ := outV_some hq
   exact NextRel.ofV (eRange_rel h h1 (hA _ _ hx))
  ·cases hq
 ·split at hq
  ·rename_i hx
   obtain ⟨v, h1, rfl⟩ := outV_some hq
   exact NextRel.ofV (eNext_rel h h1 (hA _ _ hx) _)
  ·cases hq
 ·rename_i c
  split at hq
  ·rename_i hc
   split at hq
   ·rename_i vs hvs
    obtain ⟨v, h3, rfl⟩ := outV_some hq
    have := evalOs_rel hA hvs
    rw [← map_toList] at this
    simp only [resolve, hc, Sem.run_bind, Sem.run_pure, Result.andThen_ok, invoke]
    exact eBuiltin_rel h h3 this o.type _
   ·cases hq
  ·rename_i f hc
   split at hq
   ·rename_i g first cap vs hf hvs
    cases hb : bodyOK P g with
    | false => simp [hb] at hq
    | true =>
    simp only [hb, cond_true, Option.some.injEq, Prod.mk.injEq] at hq
    obtain ⟨rfl, rfl⟩ := hq
    have e1 := hA _ _ hf
    simp only [VRel] at e1
    obtain ⟨A1, C1, e1, e2, e3⟩ := e1
    have e4 := evalOs_rel hA hvs
    rw [← map_toList] at e4
    refine ⟨rfl, A1 ++ (c.args.map A.eval) ++ C1, ?_, ?_⟩
    ·simp only [resolve, hc, Sem.run_bind, e1, Deferred.ofValue, Sem.run_pure, Result.andThen_ok, invoke]
     exact run_callFunc hb _
    ·rw [lapp_eq, lapp_eq]
     simp only [Array.toList_append]
     exact (e2.append e4).append e3
   ·rename_i l vs hf hvs
    split at hq
    ·rename_i r hg
     simp only [llen_eq] at hq
     cases hb : Nat.beq vs.length r.params.length with
     | false => simp [hb] at hq
     | true =>
     simp only [hb, cond_true, Option.some.injEq, Prod.mk.injEq] at hq
     obtain ⟨rfl, rfl⟩ := hq
     have e1 := hA _ _ hf
     simp only [VRel] at e1
     obtain ⟨B, O, S, hB, e1⟩ := e1
     have e4 := evalOs_rel hA hvs
     rw [← map_toList] at e4
     obtain ⟨x, hx, _, L, D, l1, l2, l3, l4, l5, l6⟩ := h.obj' hg hB
     rw [hB] at hx; cases hx
     have hsz : (c.args.map A.eval).size = L.params.size := by
      have a1 := e4.length
      have a2 : vs.length = r.params.length := by simpa using hb
      have a3 : L.params.toList.length = r.params.length := by rw [l5]
      simp only [Array.length_toList] at a1 a3
      omega
     refine ⟨rfl, ⟨B, O, S⟩, L, c.args.map A.eval, hB, l1, e4, hsz, ?_⟩
     simp only [resolve, hc, Sem.run_bind, e1, Deferred.ofValue, Sem.run_pure, Result.andThen_ok, invoke]
     have hy := run_yield (P := P) (w := w) l1 hsz
     simpa using hy
    ·cases hq
   ·cases hq
  ·cases hq
 ·cases hq

theorem opE_rel (h : SRel base ρ s w) {ev : Operand → Option V} {A : Act} (hA : EvRel ρ ev A) {o : Oper} {out : EOut} {s' : St} (hq : opE P s ev o.op = some (out, s')) :
  NextRel base ρ s w s' ((execOp A.eval o).run P w) out := by
 unfold opE at hq
 split at hq
 ·rename_i v hv
  cases hq
  obtain ⟨X, h1, h2⟩ := qop_rel h hA hv
  exact ⟨ρ, X, w, ρ.le_refl, h1, h2, h, Below.refl _ _⟩
 ·exact eop_rel h hA hq

theorem opE_defer {ev : Operand → Option V} {c : Call} : opE P s ev (.defer c) = none := rfl

theorem compOp_eq (op : Op) (s : St) (ev : Operand → Option V) : runOpF (compOp P op) s ev = opE P s ev op := by
 cases op
 case move x => simp only [compOp, runOpF, opE, qop, eop]; cases ev x <;> rfl
 case assign x => simp only [compOp, runOpF, opE, qop, eop]; cases ev x <;> rfl
 case pick c a b =>
  simp only [compOp, runOpF, opE, qop, eop, cPick]
  cases ev c with
  | none => rfl
  | some x =>
   cases x <;> first | rfl | skip
   rename_i bb
   cases bb
   ·simp only; cases ev b <;> rfl
   ·simp only; cases ev a <;> rfl
 case load t x =>
  simp only [compOp, runOpF, opE, qop, eop, cLoad]
  cases ev x with
  | none => rfl
  | some a => simp only; cases qLoad P s t a <;> rfl
 case store t x y =>
  simp only [compOp, runOpF, opE, qop, eop, cStore]
  cases ev x with
  | none => rfl
  | some a => cases ev y <;> rfl
 case binOp op t x y yt =>
  have key : (match ev x, ev y with | some a, some b => toOut s (qBin P s op t a b) | _, _ => none) = opE P s ev (.binOp op t x y yt) := by
   simp only [opE, qop, eop]
   cases ev x with
   | none => rfl
   | some a => cases ev y with
    | none => rfl
    | some b => simp only; cases qBin P s op t a b <;> rfl
  rw [← key]
  simp only [compOp]
  cases hs : isShift op with
  | true =>
   simp only [cond_true, runOpF, cShift]
   cases ev x with
   | none => rfl
   | some a => cases ev y <;> rfl
  | false =>
   simp only [cond_false, runOpF, cBin]
   cases ev x with
   | none => rfl
   | some a => cases ev y with
    | none => rfl
    | some b =>
     simp only
     congr 1
     unfold cBinI
     split
     ·split
      ·rename_i k x1 k' y1
       rw [binG_eq]
       cases op <;> first | rfl | cases hs
      ·rfl
     ·rfl
 case unOp op t x =>
  simp only [compOp, runOpF, opE, qop, eop, cUn]
  cases ev x with
  | none => rfl
  | some a => simp only; cases qUn op a <;> rfl
 case convert src dst x =>
  simp only [compOp, runOpF, opE, qop, eop, cConv]
  cases ev x with
  | none => rfl
  | some a => simp only
 case fieldAddr t x f =>
  simp only [compOp, runOpF, opE, qop, eop, cFieldAddr]
  cases ev x with
  | none => rfl
  | some a => simp only; cases qFieldAddr P t a f <;> rfl
 case indexAddr t x y =>
  simp only [compOp, runOpF, opE, qop, eop, cIndexAddr]
  cases ev x with
  | none => rfl
  | some a => cases ev y with
   | none => rfl
   | some b => simp only; cases qIndexAddr P t a b <;> rfl
 case index t x y =>
  simp only [compOp, runOpF, opE, qop, eop, cIndex]
  cases ev x with
  | none => rfl
  | some a => cases ev y with
   | none => rfl
   | some b => simp only; cases qIndex P t a b <;> rfl
 all_goals rfl
end
end Go.Eng
end

section
namespace Go.Eng
open Go.RowKit (Below)
set_option linter.unusedSimpArgs false
set_option linter.unusedVariables false

theorem eqQ_spec {a b : Int} (h : eqQ a b = true) : a = b := by rw [eqQ_eq] at h; simpa using h
theorem kEq_spec {a b : IntKind} (h : kEq a b = true) : a = b := by rw [kEq_iff] at h; simpa using h

mutual
theorem V.same_eq : ∀ (v w : V), v.same w = true → v = w
 | .undef, w, h => by cases w <;> simp [V.same] at h <;> rfl
 | .bool a, w, h => by cases w <;> simp [V.same] at h; cases a <;> simp_all
 | .int k a, w, h => by
  cases w <;> simp [V.same] at h
  rename_i k' b
  cases hk : kEq k k' with
  | false => simp [hk] at h
  | true => simp [hk] at h; rw [kEq_spec hk, eqQ_spec h]
 | .str s, w, h => by
  cases w <;> simp [V.same] at h
  rename_i t
  cases s; cases t
  simp_all
 | .nilp, w, h => by cases w <;> simp [V.same] at h <;> rfl
 | .nils, w, h => by cases w <;> simp [V.same] at h <;> rfl
 | .slz a, w, h => by cases w <;> simp [V.same] at h; cases a <;> simp_all
 | .nilm, w, h => by cases w <;> simp [V.same] at h <;> rfl
 | .nilf, w, h => by cases w <;> simp [V.same] at h <;> rfl
 | .nili, w, h => by cases w <;> simp [V.same] at h <;> rfl
 | .ptr b o, w, h => by cases w <;> simp [V.same] at h; simp_all
 | .sl b o l c x e, w, h => by
  cases w <;> simp [V.same] at h
  rename_i b' o' l' c' x' e'
  cases x <;> cases x' <;> simp_all
 | .map b, w, h => by cases w <;> simp [V.same] at h; simp_all
 | .fn f a c, w, h => by
  cases w <;> simp only [V.same, Bool.false_eq_true] at h
  rename_i f' a' c'
  cases h1 : Nat.beq f f' <;> cases h2 : sameL a a' <;> simp [h1, h2] at h
  rw [sameL_eq _ _ h2, sameL_eq _ _ h, Nat.eq_of_beq_eq_true h1]
 | .yld l, w, h => by cases w <;> simp [V.same] at h; simp_all
 | .iface t v, w, h => by
  cases w <;> simp only [V.same, Bool.false_eq_true] at h
  rename_i t' v'
  cases h1 : Nat.beq t t' <;> simp [h1] at h
  rw [V.same_eq _ _ h, Nat.eq_of_beq_eq_true h1]
 | .agg l, w, h => by
  cases w <;> simp only [V.same, Bool.false_eq_true] at h
  rw [sameL_eq _ _ h]
 | .tup l, w, h => by
  cases w <;> simp only [V.same, Bool.false_eq_true] at h
  rw [sameL_eq _ _ h]
 | .it b, w, h => by cases w <;> simp [V.same] at h; simp_all
 | .any, w, h => by simp [V.same] at h
theorem sameL_eq : ∀ (v w : List V), sameL v w = true → v = w
 | [], w, h => by cases w <;> simp [sameL] at h <;> rfl
 | v :: l, w, h => by
  cases w with
  | nil => simp [sameL] at h
  | cons u m =>
   simp only [sameL] at h
   cases h1 : v.same u <;> simp [h1] at h
   rw [V.same_eq _ _ h1, sameL_eq _ _ h]
end

theorem tbQ_eq (m i : Nat) : tbQ m i = m.testBit i := by
 have e : tbQ m i = Nat.beq (m / 2 ^ i % 2) 1 := rfl
 rw [e, Nat.testBit_eq_decide_div_mod_eq, Bool.eq_iff_iff]
 simp
theorem tbQ_lor (a b i : Nat) : tbQ (Nat.lor a b) i = (tbQ a i || tbQ b i) := by
 simp only [tbQ_eq]
 exact Nat.testBit_or a b i
theorem tbQ_pow (a i : Nat) : tbQ (Nat.pow 2 a) i = decide (a = i) := by
 rw [tbQ_eq]
 exact Nat.testBit_two_pow
theorem tbQ_zero (i : Nat) : tbQ 0 i = false := by rw [tbQ_eq]; simp
theorem bindsQ_eq (e : Edge) : bindsQ e = Region.binds .any e := by
 unfold bindsQ Region.binds
 split <;> rename_i h <;> simp only [h] <;> rfl

inductive Reach (ops : Array Oper) : Nat → Nat → Prop
 | step {i : Nat} {o : Oper} {e : Edge} (ho : ops[i]? = some o) (he : e ∈ o.after) (hb : Region.binds .any e = true) : Reach ops i e.on
 | trans {i j k : Nat} : Reach ops i j → Reach ops j k → Reach ops i k

theorem maskE_spec {ops : Array Oper} {A : List Nat} (hA : ∀ (i m : Nat), A[i]? = some m → ∀ j, tbQ m j = true → Reach ops i j) : ∀ (es : List Edge) (j : Nat), tbQ (maskE A es) j = true →
  ∃ e ∈ es, Region.binds .any e = true ∧ (e.on = j ∨ Reach ops e.on j)
 | [], j, h => by rw [maskE, tbQ_zero] at h; cases h
 | e :: es, j, h => by
  rw [maskE] at h
  cases hb : bindsQ e with
  | false =>
   rw [hb, cond_false] at h
   obtain ⟨e', h1, h2⟩ := maskE_spec hA es j h
   exact ⟨e', List.mem_cons_of_mem _ h1, h2⟩
  | true =>
   rw [hb, cond_true, tbQ_lor, tbQ_lor, tbQ_pow] at h
   rw [bindsQ_eq] at hb
   simp only [Bool.or_eq_true, decide_eq_true_eq] at h
   rcases h with (h | h) | h
   ·exact ⟨e, List.mem_cons_self, hb, .inl h⟩
   ·rw [lget_eq] at h
    cases hg : A[e.on]? with
    | none => rw [hg, ogetN, tbQ_zero] at h; cases h
    | some m =>
     rw [hg, ogetN] at h
     exact ⟨e, List.mem_cons_self, hb, .inr (hA _ _ hg _ h)⟩
   ·obtain ⟨e', h1, h2⟩ := maskE_spec hA es j h
    exact ⟨e', List.mem_cons_of_mem _ h1, h2⟩

theorem ancsE_spec {ops : Array Oper} : ∀ (l : List Oper) (A : List Nat), (∀ (i m : Nat), A[i]? = some m → ∀ j, tbQ m j = true → Reach ops i j) → (∀ (i : Nat) o, l[i]? = some o → ops[A.length + i]? = some o) →
  ∀ (i m : Nat), (ancsE l A)[i]? = some m → ∀ j, tbQ m j = true → Reach ops i j
 | [], A, hA, _ => hA
 | o :: l, A, hA, hl => by
  rw [ancsE, lapp_eq]
  refine ancsE_spec l _ ?_ ?_
  ·intro i m hm j hj
   by_cases hi : i < A.length
   ·rw [List.getElem?_append_left hi] at hm
    exact hA i m hm j hj
   ·have hi' : i = A.length := by
     have := (List.getElem?_eq_some_iff.1 hm).1
     simp at this; omega
    subst hi'
    simp at hm
    subst hm
    have ho := hl 0 o rfl
    rw [Nat.add_zero] at ho
    obtain ⟨e, h1, h2, h3⟩ := maskE_spec hA _ j hj
    have h0 := Reach.step ho (by simpa using h1) h2
    rcases h3 with rfl | h3
    ·exact h0
    ·exact .trans h0 h3
  ·intro i o' ho'
   have := hl (i + 1) o' (by simpa using ho')
   rw [List.length_append, List.length_singleton]
   rw [show A.length + 1 + i = A.length + (i + 1) by omega]
   exact this
theorem reach_of {ops : Array Oper} {i j : Nat} (h : tbQ (ogetN (lget (ancsE ops.toList []) i)) j = true) : Reach ops i j := by
 rw [lget_eq] at h
 cases hg : (ancsE ops.toList [])[i]? with
 | none => rw [hg, ogetN, tbQ_zero] at h; cases h
 | some m =>
  rw [hg, ogetN] at h
  exact ancsE_spec ops.toList [] (fun i m hm => by simp at hm) (fun i o ho => by simpa using ho) i m hg j h

theorem hasN_eq (d : Nat) : ∀ l : List Nat, hasN d l = true ↔ d ∈ l
 | [] => by simp [hasN]
 | x :: l => by
  have := hasN_eq d l
  cases h : Nat.beq x d with
  | true => simp [hasN, h, (Nat.eq_of_beq_eq_true h)]
  | false =>
   have hne : d ≠ x := fun e => by subst e; simp at h
   simp [hasN, h, this, hne]

theorem backE_spec {i : Nat} : ∀ {l : List Edge}, backE i l = true → ∀ e ∈ l, Region.binds .any e = true → e.on < i
 | [], _, e, he, _ => by cases he
 | a :: l, h, e, he, hb => by
  simp only [backE, Bool.and_eq_true] at h
  rcases List.mem_cons.1 he with rfl | he
  ·have h1 := h.1
   rw [bindsQ_eq, hb, cond_true] at h1
   exact Nat.le_of_ble_eq_true h1
  ·exact backE_spec h.2 e he hb
theorem apartE_spec {ops : Array Oper} {A : List Nat} {i d : Nat} : ∀ {l : List Oper} {j0 : Nat}, apartE ops A i d l j0 = true → ∀ (j : Nat) o, l[j]? = some o → i ≠ j0 + j →
  o.dst ≠ some d ∧ (d ∈ o.looksAt ops → tbQ (ogetN (lget A i)) (j0 + j) = true ∨ tbQ (ogetN (lget A (j0 + j))) i = true)
 | [], _, _, j, o, ho, _ => by simp at ho
 | a :: l, j0, h, j, o, ho, hne => by
  simp only [apartE, Bool.and_eq_true] at h
  cases j with
  | zero =>
   simp at ho; subst ho
   have h1 := h.1
   have hb : Nat.beq i j0 = false := by
    cases e : Nat.beq i j0 with
    | false => rfl
    | true => exact absurd (Nat.eq_of_beq_eq_true e) (by simpa using hne)
   rw [hb, cond_false, Bool.and_eq_true] at h1
   refine ⟨fun e => ?_, fun hd => ?_⟩
   ·rw [e] at h1; simp at h1
   ·have h2 := h1.2
    rw [(hasN_eq d _).2 hd, cond_true, Bool.or_eq_true] at h2
    simpa using h2
  | succ j =>
   have := apartE_spec h.2 j o (by simpa using ho) (by simp only [Nat.succ_eq_add_one]; omega)
   rw [show Nat.succ j0 + j = j0 + (j + 1) by simp only [Nat.succ_eq_add_one]; omega] at this
   exact this
theorem stE_spec {ops : Array Oper} {A : List Nat} : ∀ {l : List Oper} {i0 : Nat}, stE ops A l i0 = true → ∀ (i : Nat) o, l[i]? = some o →
  backE (i0 + i) o.after.toList = true ∧ ∀ d, o.dst = some d → apartE ops A (i0 + i) d ops.toList 0 = true
 | [], _, _, i, o, ho => by simp at ho
 | a :: l, i0, h, i, o, ho => by
  simp only [stE, Bool.and_eq_true] at h
  cases i with
  | zero =>
   simp at ho; subst ho
   exact ⟨h.1.1, fun d hd => by have := h.1.2; rw [hd] at this; exact this⟩
  | succ i =>
   have := stE_spec h.2 i o (by simpa using ho)
   rw [show Nat.succ i0 + i = i0 + (i + 1) by simp only [Nat.succ_eq_add_one]; omega] at this
   exact this

structure StOK (ops : Array Oper) : Prop where
 back : ∀ (i : Nat) o, ops[i]? = some o → ∀ e ∈ o.after, Region.binds .any e = true → e.on < i
 once : ∀ (i j : Nat) o o' d, ops[i]? = some o → ops[j]? = some o' → o.dst = some d → o'.dst = some d → i = j
 read : ∀ (i j : Nat) o o' d, ops[i]? = some o → ops[j]? = some o' → o.dst = some d → d ∈ o'.looksAt ops → i ≠ j → Reach ops i j ∨ Reach ops j i
theorem stOK_spec {ops : Array Oper} (h : stOK ops = true) : StOK ops where
 back := fun i o ho e he hb => by
  have := (stE_spec h i o (by simpa using ho)).1
  rw [Nat.zero_add] at this
  exact backE_spec this e (by simpa using he) hb
 once := fun i j o o' d ho ho' hd hd' => by
  by_cases hij : i = j
  ·exact hij
  ·have := (stE_spec h i o (by simpa using ho)).2 d hd
   rw [Nat.zero_add] at this
   exact absurd hd' (apartE_spec this j o' (by simpa using ho') (by omega)).1
 read := fun i j o o' d ho ho' hd hl hne => by
  have := (stE_spec h i o (by simpa using ho)).2 d hd
  rw [Nat.zero_add] at this
  have := (apartE_spec this j o' (by simpa using ho') (by omega)).2 hl
  rw [Nat.zero_add] at this
  exact this.imp reach_of reach_of
theorem StOK.lt {ops : Array Oper} (h : StOK ops) {i j : Nat} (r : Reach ops i j) : j < i := by
 induction r with
 | step ho he hb => exact h.back _ _ ho _ he hb
 | trans _ _ h1 h2 => omega

section
variable {P : Program} {self : ESelf} {ops : Array Oper}
theorem drawRun_spec {M : List (Nat × Nat)} : ∀ {l : List Oper} {i : Nat} {f : Frm} {s : St} {R : List DRec}, drawRun P self ops M l i f s = some R →
  R.length = l.length ∧ ∀ (k : Nat) r, R[k]? = some r → r.i = i + k ∧ l[k]? = some r.o ∧ drawStep P self ops (findM r.i M) r.i r.o r.f r.s = some r ∧ r.f = finF f (R.take k) ∧ r.s = lastS s (effs (R.take k))
 | [], i, f, s, R, h => by
  simp only [drawRun] at h
  cases h
  exact ⟨rfl, fun k r hr => by simp at hr⟩
 | o :: l, i, f, s, R, h => by
  simp only [drawRun] at h
  split at h
  ·rename_i r hr
   split at h
   ·rename_i R' hR
    cases h
    obtain ⟨h1, h2⟩ := drawRun_spec hR
    have hrr : r.i = i ∧ r.o = o ∧ r.f = f ∧ r.s = s := by
     unfold drawStep at hr
     cases hw : wantedE (guardOf ops o) f with
     | false => rw [hw, cond_false] at hr; cases hr; exact ⟨rfl, rfl, rfl, rfl⟩
     | true =>
      rw [hw, cond_true] at hr
      split at hr
      ·cases hr; exact ⟨rfl, rfl, rfl, rfl⟩
      ·split at hr
       ·cases hr
       ·split at hr
        ·cases hr; exact ⟨rfl, rfl, rfl, rfl⟩
        ·cases hr
    obtain ⟨e1, e2, e3, e4⟩ := hrr
    refine ⟨by simp [h1], fun k r' hr' => ?_⟩
    cases k with
    | zero =>
     simp at hr'; subst hr'
     refine ⟨e1, by simp [e2], by rw [e1, e2, e3, e4]; exact hr, by simp [finF, e3], by simp [effs, lastS, e4]⟩
    | succ k =>
     obtain ⟨g1, g2, g3, g4, g5⟩ := h2 k r' (by simpa using hr')
     refine ⟨by rw [g1]; simp only [Nat.succ_eq_add_one]; omega, by simpa using g2, g3, ?_, ?_⟩
     ·rw [g4, List.take_succ_cons, finF, e2]
     ·rw [g5, List.take_succ_cons, effs]
      cases he : r.eff with
      | none => simp [orS, he]
      | some s' => simp [orS, he, lastS]
   ·cases h
  ·cases h

theorem drawStep_fields {M : Option Nat} {i : Nat} {o : Oper} {f : Frm} {s : St} {r : DRec} (hr : drawStep P self ops M i o f s = some r) : r.i = i ∧ r.o = o ∧ r.f = f ∧ r.s = s := by
 unfold drawStep at hr
 cases hw : wantedE (guardOf ops o) f with
 | false => rw [hw, cond_false] at hr; cases hr; exact ⟨rfl, rfl, rfl, rfl⟩
 | true =>
  rw [hw, cond_true] at hr
  split at hr
  ·cases hr; exact ⟨rfl, rfl, rfl, rfl⟩
  ·split at hr
   ·cases hr
   ·split at hr
    ·cases hr; exact ⟨rfl, rfl, rfl, rfl⟩
    ·cases hr
theorem drawStep_self {self' : ESelf} {M : Option Nat} {i : Nat} {o : Oper} {f : Frm} {s : St} {r : DRec} (hr : drawStep P self ops M i o f s = some r) (he : r.eff = none) : drawStep P self' ops M i o f s = some r := by
 unfold drawStep at hr ⊢
 cases hw : wantedE (guardOf ops o) f with
 | false => rw [hw, cond_false] at hr; rw [cond_false]; exact hr
 | true =>
  rw [hw, cond_true] at hr
  rw [cond_true]
  split at hr
  ·exact hr
  ·split at hr
   ·cases hr
   ·split at hr
    ·cases hr; cases he
    ·cases hr
theorem panTail_spec {M : List (Nat × Nat)} {A : List Nat} {ip : Nat} : ∀ {l : List Oper} {i : Nat} {f : Frm} {s : St} {R : List DRec}, panTail P ops M A ip l i f s = some R →
  R.length = l.length ∧ effs R = [] ∧ ∀ (k : Nat) r, R[k]? = some r → r.i = i + k ∧ l[k]? = some r.o ∧ (tbQ (ogetN (lget A r.i)) ip = true ∧ r.q = false ∨ ∀ sf, drawStep P sf ops (findM r.i M) r.i r.o r.f r.s = some r) ∧ r.f = finF f (R.take k) ∧ r.s = s
 | [], i, f, s, R, h => by
  simp only [panTail] at h
  cases h
  exact ⟨rfl, rfl, fun k r hr => by simp at hr⟩
 | o :: l, i, f, s, R, h => by
  simp only [panTail] at h
  cases hd : tbQ (ogetN (lget A i)) ip with
  | true =>
   rw [hd, cond_true] at h
   split at h
   ·rename_i R' hR
    cases h
    obtain ⟨h1, h2, h3⟩ := panTail_spec hR
    refine ⟨by simp [h1], by simpa [effs] using h2, fun k r' hr' => ?_⟩
    cases k with
    | zero =>
     simp at hr'; subst hr'
     exact ⟨rfl, rfl, .inl ⟨hd, rfl⟩, rfl, rfl⟩
    | succ k =>
     obtain ⟨g1, g2, g3, g4, g5⟩ := h3 k r' (by simpa using hr')
     refine ⟨by rw [g1]; simp only [Nat.succ_eq_add_one]; omega, by simpa using g2, g3, ?_, g5⟩
     rw [g4, List.take_succ_cons, finF]
   ·cases h
  | false =>
   rw [hd, cond_false] at h
   split at h
   ·rename_i r hr
    split at h
    ·rename_i he
     split at h
     ·rename_i R' hR
      cases h
      obtain ⟨e1, e2, e3, e4⟩ := drawStep_fields hr
      obtain ⟨h1, h2, h3⟩ := panTail_spec hR
      refine ⟨by simp [h1], by simp [effs, he, h2], fun k r' hr' => ?_⟩
      cases k with
      | zero =>
       simp at hr'; subst hr'
       refine ⟨e1, by simp [e2], .inr fun sf => by rw [e1, e2, e3, e4]; exact drawStep_self hr he, by simp [finF, e3], e4⟩
      | succ k =>
       obtain ⟨g1, g2, g3, g4, g5⟩ := h3 k r' (by simpa using hr')
       refine ⟨by rw [g1]; simp only [Nat.succ_eq_add_one]; omega, by simpa using g2, g3, ?_, g5⟩
       rw [g4, List.take_succ_cons, finF, e2]
     ·cases h
    ·cases h
   ·cases h
theorem panRun_spec {M : List (Nat × Nat)} {A : List Nat} : ∀ {l : List Oper} {i : Nat} {f : Frm} {s : St} {R : List DRec} {ip : Nat} {v : V} {s' : St}, panRun P self ops M A l i f s = some (R, ip, v, s') →
  R.length = l.length ∧ i ≤ ip ∧ (∃ rp, R[ip - i]? = some rp ∧ rp.q = false ∧ rp.s = lastS s (effs R) ∧ wantedE (guardOf ops rp.o) rp.f = true ∧ opPan self (eop P rp.s (evL (rp.o.looksAt ops) rp.f) rp.o.op) = some (v, s')) ∧
  ∀ (k : Nat) r, R[k]? = some r → r.i = i + k ∧ l[k]? = some r.o ∧ (r.i = ip ∧ r.q = false ∨ tbQ (ogetN (lget A r.i)) ip = true ∧ r.q = false ∨ drawStep P self ops (findM r.i M) r.i r.o r.f r.s = some r) ∧ r.f = finF f (R.take k) ∧ r.s = lastS s (effs (R.take k))
 | [], i, f, s, R, ip, v, s', h => by simp only [panRun] at h; cases h
 | o :: l, i, f, s, R, ip, v, s', h => by
  simp only [panRun] at h
  split at h
  ·rename_i r hr
   split at h
   ·rename_i R' x hR
    cases h
    obtain ⟨e1, e2, e3, e4⟩ := drawStep_fields hr
    obtain ⟨h1, h2, ⟨rp, a1, a2, a3, a4, a5⟩, h3⟩ := panRun_spec hR
    simp only [Nat.succ_eq_add_one] at h2 a1
    have hl : ∀ E : List (Nat × St), lastS s (match r.eff with | some s1 => (r.i, s1) :: E | none => E) = lastS (orS s r.eff) E := fun E => by cases r.eff <;> rfl
    refine ⟨by simp [h1], by omega, ⟨rp, ?_, a2, ?_, a4, a5⟩, fun k r' hr' => ?_⟩
    ·rw [show ip - i = (ip - (i + 1)) + 1 by omega]; simpa using a1
    ·rw [a3, effs]; cases he : r.eff <;> simp [orS, lastS]
    ·cases k with
     | zero =>
      simp at hr'; subst hr'
      refine ⟨e1, by simp [e2], .inr (.inr (by rw [e1, e2, e3, e4]; exact hr)), by simp [finF, e3], by simp [effs, lastS, e4]⟩
     | succ k =>
      obtain ⟨g1, g2, g3, g4, g5⟩ := h3 k r' (by simpa using hr')
      refine ⟨by rw [g1]; simp only [Nat.succ_eq_add_one]; omega, by simpa using g2, g3, ?_, ?_⟩
      ·rw [g4, List.take_succ_cons, finF, e2]
      ·rw [g5, List.take_succ_cons, effs]
       cases he : r.eff with
       | none => simp [orS, he]
       | some s1 => simp [orS, he, lastS]
   ·cases h
  ·cases hw : wantedE (guardOf ops o) f with
   | false => rw [hw, cond_false] at h; cases h
   | true =>
    rw [hw, cond_true] at h
    split at h
    ·cases h
    ·split at h
     ·rename_i v1 s1 hp
      split at h
      ·rename_i R' hR
       cases h
       obtain ⟨h1, h2, h3⟩ := panTail_spec hR
       refine ⟨by simp [h1], Nat.le_refl _, ⟨_, by rw [Nat.sub_self]; rfl, rfl, by simp [effs, h2, lastS], hw, hp⟩, fun k r' hr' => ?_⟩
       cases k with
       | zero =>
        simp at hr'; subst hr'
        exact ⟨rfl, rfl, .inl ⟨rfl, rfl⟩, rfl, rfl⟩
       | succ k =>
        obtain ⟨g1, g2, g3, g4, g5⟩ := h3 k r' (by simpa using hr')
        refine ⟨by rw [g1]; simp only [Nat.succ_eq_add_one]; omega, by simpa using g2, .inr (g3.imp id fun g => g self), ?_, ?_⟩
        ·rw [g4, List.take_succ_cons, finF]
        ·have : effs (R'.take k) = [] := by
          have : ∀ (R : List DRec) k, effs R = [] → effs (R.take k) = [] := by
           intro R
           induction R with
           | nil => intro k _; simp [effs]
           | cons a R ih =>
            intro k hh
            cases k with
            | zero => rfl
            | succ k =>
             simp only [effs] at hh
             cases he : a.eff with
             | none => rw [he] at hh; simp only [List.take_succ_cons, effs, he]; exact ih k hh
             | some s2 => rw [he] at hh; cases hh
          exact this R' k h2
         simp [List.take_succ_cons, effs, this, lastS, g5]
      ·cases h
     ·cases h
theorem allAfter_spec {m : Nat} : ∀ {l : List (Nat × St)}, allAfter m l = true → ∀ (q : Nat) e, l[q]? = some e → tbQ m e.1 = true
 | [], _, q, e, h => by simp at h
 | a :: l, h, q, e, he => by
  simp only [allAfter, Bool.and_eq_true] at h
  cases q with
  | zero => simp at he; subst he; exact h.1
  | succ q => exact allAfter_spec h.2 q e (by simpa using he)

theorem effs_get : ∀ {R : List DRec} {q : Nat} {e : Nat × St}, (effs R)[q]? = some e → ∃ (k : Nat) (r : DRec), R[k]? = some r ∧ r.eff = some e.2 ∧ r.i = e.1 ∧ effs (R.take k) = (effs R).take q
 | [], q, e, h => by simp [effs] at h
 | r :: R, q, e, h => by
  cases he : r.eff with
  | none =>
   simp only [effs, he] at h ⊢
   obtain ⟨k, r', h1, h2, h3, h4⟩ := effs_get h
   exact ⟨k + 1, r', by simpa using h1, h2, h3, by simp only [List.take_succ_cons, effs, he, h4]⟩
  | some s =>
   simp only [effs, he] at h ⊢
   cases q with
   | zero =>
    simp at h
    exact ⟨0, r, rfl, by rw [← h]; exact he, by rw [← h], by simp [effs]⟩
   | succ q =>
    obtain ⟨k, r', h1, h2, h3, h4⟩ := effs_get (R := R) (by simpa using h)
    exact ⟨k + 1, r', by simpa using h1, h2, h3, by simp only [List.take_succ_cons, effs, he, h4]⟩
theorem effs_of : ∀ {R : List DRec} {k : Nat} {r : DRec} {s : St}, R[k]? = some r → r.eff = some s → ∃ q, (effs R)[q]? = some (r.i, s) ∧ effs (R.take k) = (effs R).take q
 | [], k, r, s, h, _ => by simp at h
 | a :: R, k, r, s, h, hs => by
  cases k with
  | zero =>
   simp at h; subst h
   exact ⟨0, by simp [effs, hs], by simp [effs]⟩
  | succ k =>
   obtain ⟨q, h1, h2⟩ := effs_of (R := R) (by simpa using h) hs
   cases he : a.eff with
   | none => exact ⟨q, by simpa [effs, he] using h1, by simp only [List.take_succ_cons, effs, he, h2]⟩
   | some s' => exact ⟨q + 1, by simpa [effs, he] using h1, by simp only [List.take_succ_cons, effs, he, h2]⟩

theorem beforeE_spec {A : List Nat} {i : Nat} : ∀ {l : List (Nat × St)}, chainE.beforeE A i l = true → ∀ (q : Nat) e, l[q]? = some e → tbQ (ogetN (lget A e.1)) i = true
 | [], _, q, e, h => by simp at h
 | a :: l, h, q, e, he => by
  simp only [chainE.beforeE, Bool.and_eq_true] at h
  cases q with
  | zero => simp at he; subst he; exact h.1
  | succ q => exact beforeE_spec h.2 q e (by simpa using he)
theorem chainE_spec {A : List Nat} : ∀ {l : List (Nat × St)}, chainE A l = true → ∀ (q q' : Nat) e e', q < q' → l[q]? = some e → l[q']? = some e' → tbQ (ogetN (lget A e'.1)) e.1 = true
 | [], _, q, q', e, e', _, h, _ => by simp at h
 | a :: l, h, q, q', e, e', hq, he, he' => by
  simp only [chainE, Bool.and_eq_true] at h
  cases q' with
  | zero => omega
  | succ q' =>
   cases q with
   | zero => simp at he; subst he; exact beforeE_spec h.1 q' e' (by simpa using he')
   | succ q => exact chainE_spec h.2 q q' e e' (by omega) (by simpa using he) (by simpa using he')

theorem anyB_false {m : Nat} : ∀ {l : List (Nat × St)}, (∀ e ∈ l, tbQ m e.1 = false) → anyB m l = false
 | [], _ => rfl
 | e :: l, h => by rw [anyB, h e List.mem_cons_self, cond_false]; exact anyB_false fun e he => h e (List.mem_cons_of_mem _ he)

theorem chkE_spec {A : List Nat} {r : DRec} : ∀ {E : List (Nat × St)} {s : St}, chkE P ops A r s E = true → ∀ p, p ≤ E.length →
  (∀ q e, q < p → E[q]? = some e → tbQ (ogetN (lget A e.1)) r.i = false) → (∀ q e, p ≤ q → E[q]? = some e → tbQ (ogetN (lget A r.i)) e.1 = false) →
  qopM P r.mb (lastS s (E.take p)) (evL (r.o.looksAt ops) r.f) r.o.op = some r.v
 | [], s, h, p, hp, _, _ => by
  have hp : p = 0 := by simpa using hp
  subst hp
  simp only [chkE] at h
  split at h
  ·rename_i v hv
   rw [← V.same_eq _ _ h]
   exact hv
  ·cases h
 | e :: l, s, h, p, hp, h1, h2 => by
  simp only [chkE, Bool.and_eq_true] at h
  cases p with
  | zero =>
   have h3 := h.1
   rw [anyB_false (fun e' he' => by
     obtain ⟨q, hq⟩ := List.getElem?_of_mem he'
     exact h2 q e' (Nat.zero_le _) hq), cond_false] at h3
   split at h3
   ·rename_i v hv
    rw [← V.same_eq _ _ h3]
    exact hv
   ·cases h3
  | succ p =>
   have h4 := h.2
   rw [h1 0 e (by omega) rfl, cond_false] at h4
   exact chkE_spec h4 p (by simpa using hp) (fun q e' hq he' => h1 (q + 1) e' (by omega) (by simpa using he')) (fun q e' hq he' => h2 (q + 1) e' (by omega) (by simpa using he'))
theorem chkAll_spec {A : List Nat} {s : St} {E : List (Nat × St)} : ∀ {R : List DRec}, chkAll P ops A s E R = true → ∀ r ∈ R, r.q = true → chkE P ops A r s E = true
 | [], _, r, hr, _ => by cases hr
 | a :: l, h, r, hr, hq => by
  simp only [chkAll, Bool.and_eq_true] at h
  rcases List.mem_cons.1 hr with rfl | hr
  ·have := h.1; rw [hq, cond_true] at this; exact this
  ·exact chkAll_spec h.2 r hr hq
end

structure PreOK (s s1 : St) (M : List (Nat × Nat)) : Prop where
 old : ∀ b, b < s.next → s1.heap.get b = s.heap.get b
 le : s.next ≤ s1.next
 new : ∀ i b, findM i M = some b → s.next ≤ b ∧ b < s1.next
 one : ∀ i j b, findM i M = some b → findM j M = some b → i = j
theorem preRun_ok {P : Program} {ops : Array Oper} {s0 : St} : ∀ (l : List Oper) (i : Nat) (f : Frm) (s : St) (D : Nat) (M : List (Nat × Nat)), PreOK s0 s M → PreOK s0 (preRun P ops l i f s D M).1 (preRun P ops l i f s D M).2
 | [], _, _, _, _, _, h => h
 | o :: l, i, f, s, D, M, h => by
  unfold preRun
  cases doneAll D o.after.toList with
  | false => exact preRun_ok l _ _ _ _ _ h
  | true =>
   rw [cond_true]
   cases wantedE (guardOf ops o) f with
   | false => exact preRun_ok l _ _ _ _ _ h
   | true =>
    rw [cond_true]
    split
    ·exact preRun_ok l _ _ _ _ _ h
    ·split
     ·rename_i m _
      refine preRun_ok l _ _ _ _ _ ⟨fun b hb => ?_, Nat.le_trans h.le (Nat.le_succ _), fun k b hk => ?_, fun k k' b hk hk' => ?_⟩
      ·have := h.le
       simp only [St.new, T.get_set]
       rw [if_neg (by omega)]
       exact h.old b hb
      ·have e : (s.new m.obj).next = s.next + 1 := rfl
       rw [e]
       simp only [findM] at hk
       cases hb : Nat.beq i k with
       | true => rw [hb, cond_true] at hk; cases hk; exact ⟨h.le, Nat.lt_succ_self _⟩
       | false =>
        rw [hb, cond_false] at hk
        have := h.new k b hk
        exact ⟨this.1, by omega⟩
      ·simp only [findM] at hk hk'
       cases hb : Nat.beq i k with
       | true =>
        rw [hb, cond_true] at hk; cases hk
        cases hb' : Nat.beq i k' with
        | true => rw [← Nat.eq_of_beq_eq_true hb, ← Nat.eq_of_beq_eq_true hb']
        | false =>
         rw [hb', cond_false] at hk'
         exact absurd (h.new k' _ hk').2 (Nat.lt_irrefl _)
       | false =>
        rw [hb, cond_false] at hk
        cases hb' : Nat.beq i k' with
        | true =>
         rw [hb', cond_true] at hk'; cases hk'
         exact absurd (h.new k _ hk).2 (Nat.lt_irrefl _)
        | false =>
         rw [hb', cond_false] at hk'
         exact h.one k k' b hk hk'
     ·exact preRun_ok l _ _ _ _ _ h
theorem preM_ok {P : Program} {ops : Array Oper} {f : Frm} {s s1 : St} {M : List (Nat × Nat)} (h : preM P ops f s = (s1, M)) : PreOK s s1 M := by
 unfold preM at h
 have base : PreOK s s [] := ⟨fun _ _ => rfl, Nat.le_refl _, fun i b h => (by cases h), fun i j b h => (by cases h)⟩
 cases hc : chainE (ancsE ops.toList []) (effIdx ops.toList 0) with
 | true => rw [hc, cond_true] at h; cases h; exact base
 | false =>
  rw [hc, cond_false] at h
  have := preRun_ok (P := P) (ops := ops) ops.toList 0 f s 0 [] base
  rw [h] at this
  exact this

def Frm.ok (f : Frm) : Prop := ∃ d, f.t.full d ∧ f.n ≤ 2 ^ d
theorem FRel.ok {ρ : Env} {f : Frm} {A : Array Value} (h : FRel ρ f A) : f.ok := by obtain ⟨_, d, h2, h3, _⟩ := h; exact ⟨d, h2, h3⟩
theorem putE_n (f : Frm) (d : Option Tmp) (v : V) : (putE f d v).n = f.n := by
 cases d with
 | none => rfl
 | some k => rw [putE_some]; cases Nat.blt k f.n <;> rfl
theorem putE_ok {f : Frm} (h : f.ok) (d : Option Tmp) (v : V) : (putE f d v).ok := by
 cases d with
 | none => exact h
 | some k =>
  obtain ⟨d, h2, h3⟩ := h
  rw [putE_some]
  cases Nat.blt k f.n with
  | false => exact ⟨d, h2, h3⟩
  | true => exact ⟨d, B.set_full _ _ _ _ h2, h3⟩
def gv (n t : Nat) (v : V) : V := if t < n then v else .undef
theorem get_putE {f : Frm} (h : f.ok) (k : Nat) (v : V) (t : Nat) : (putE f (some k) v).get t = if t = k then gv f.n t v else f.get t := by
 obtain ⟨d, h2, h3⟩ := h
 rw [putE_some, blt_iff]
 by_cases hk : k < f.n
 ·rw [decide_eq_true hk, cond_true, Frm.get_eq, Frm.get_eq, blt_iff]
  show (bif decide (t < f.n) then (B.set v f.t k).get t else .undef) = _
  by_cases ht : t < f.n
  ·rw [decide_eq_true ht, cond_true, cond_true, B.get_set v f.t d k t h2 (by omega) (by omega)]
   by_cases e : t = k
   ·subst e; simp [gv, hk]
   ·simp [e]
  ·rw [decide_eq_false ht, cond_false, cond_false]
   by_cases e : t = k
   ·subst e; exact absurd hk ht
   ·simp [e]
 ·rw [decide_eq_false hk, cond_false]
  by_cases e : t = k
  ·subst e; rw [if_pos rfl, gv, if_neg hk, Frm.get_eq, blt_iff, decide_eq_false hk]; rfl
  ·simp [e]
theorem get_putE_ne {f : Frm} (h : f.ok) {d : Option Tmp} (v : V) {t : Nat} (hd : d ≠ some t) : (putE f d v).get t = f.get t := by
 cases d with
 | none => rfl
 | some k => rw [get_putE h, if_neg (fun e => hd (by rw [e]))]

theorem finF_n : ∀ (R : List DRec) (f : Frm), (finF f R).n = f.n
 | [], _ => rfl
 | r :: R, f => by rw [finF, finF_n, putE_n]
theorem finF_ok : ∀ (R : List DRec) {f : Frm}, f.ok → (finF f R).ok
 | [], _, h => h
 | r :: R, f, h => by rw [finF]; exact finF_ok R (putE_ok h _ _)
theorem finF_none {t : Nat} : ∀ {R : List DRec} {f : Frm}, f.ok → (∀ r ∈ R, r.o.dst ≠ some t) → (finF f R).get t = f.get t
 | [], _, _, _ => rfl
 | r :: R, f, h, hr => by
  rw [finF, finF_none (putE_ok h _ _) fun r hr' => hr r (List.mem_cons_of_mem _ hr'), get_putE_ne h _ (hr r List.mem_cons_self)]
theorem finF_some {t : Nat} : ∀ {R : List DRec} {f : Frm} {k : Nat} {r : DRec}, f.ok → R[k]? = some r → r.o.dst = some t → (∀ (k' : Nat) r', R[k']? = some r' → r'.o.dst = some t → k' = k) → (finF f R).get t = gv f.n t r.v
 | [], _, _, _, _, h, _, _ => by simp at h
 | a :: R, f, k, r, h, hr, hd, hu => by
  cases k with
  | zero =>
   simp at hr; subst hr
   rw [finF, finF_none (putE_ok h _ _), hd, get_putE h, if_pos rfl]
   intro r' hr' e
   obtain ⟨q, hq⟩ := List.getElem?_of_mem hr'
   have := hu (q + 1) r' (by simpa using hq) e
   omega
  | succ k =>
   rw [finF, finF_some (putE_ok h _ _) (by simpa using hr) hd fun k' r' h1 h2 => by have := hu (k' + 1) r' (by simpa using h1) h2; omega, putE_n]
theorem anyF_n : ∀ (l : List Oper) (f : Frm), (anyF f l).n = f.n
 | [], _ => rfl
 | o :: l, f => by rw [anyF, anyF_n, putE_n]
theorem anyF_ok : ∀ (l : List Oper) {f : Frm}, f.ok → (anyF f l).ok
 | [], _, h => h
 | o :: l, f, h => by rw [anyF]; exact anyF_ok l (putE_ok h _ _)
theorem anyF_get {t : Nat} : ∀ (l : List Oper) {f : Frm}, f.ok → t < f.n → ((∃ o ∈ l, o.dst = some t) → (anyF f l).get t = .any) ∧ (f.get t = .any → (anyF f l).get t = .any) ∧ ((∀ o ∈ l, o.dst ≠ some t) → (anyF f l).get t = f.get t)
 | [], f, h, ht => ⟨fun ⟨_, h, _⟩ => (by cases h), fun h => h, fun _ => rfl⟩
 | o :: l, f, h, ht => by
  obtain ⟨i1, i2, i3⟩ := anyF_get (t := t) l (putE_ok h o.dst .any) (by rw [putE_n]; exact ht)
  have hput : o.dst = some t → (putE f o.dst .any).get t = .any := fun e => by rw [e, get_putE h, if_pos rfl, gv, if_pos ht]
  refine ⟨fun ⟨o', ho', he⟩ => ?_, fun hf => ?_, fun hn => ?_⟩
  ·rw [anyF]
   rcases List.mem_cons.1 ho' with rfl | ho'
   ·exact i2 (hput he)
   ·exact i1 ⟨o', ho', he⟩
  ·rw [anyF]
   by_cases e : o.dst = some t
   ·exact i2 (hput e)
   ·exact i2 (by rw [get_putE_ne h _ e]; exact hf)
  ·rw [anyF, i3 fun o' ho' => hn o' (List.mem_cons_of_mem _ ho'), get_putE_ne h _ (hn o List.mem_cons_self)]
end Go.Eng
end

section
namespace Go.Eng
open Go.RowKit (Below)
set_option linter.unusedSimpArgs false
set_option linter.unusedVariables false

section
variable {P : Program} {self : ESelf} {n : Nat} {r : Option Nat} {M : List (Nat × Nat)} {dead : Nat → Prop}

theorem opOut_sound (hs : SelfOK P self) {base : Nat} {ρ : Env} {s s' : St} {w : World} (h : SRel base ρ s w) {ev : Operand → Option V} {A : Act} (hA : EvRel ρ ev A) {o : Oper} {v : V}
  (hq : opOut self (eop P s ev o.op) = some (v, s')) {Q : Exit → Act → World → Prop} {K : Act → World → Prop}
  (hK : ∀ ρ' X w', ρ.le ρ' → VRel ρ' v X → SRel base ρ' s' w' → Below base w w' → K (A.put o.dst X) w') : o.wpIn (RF r) n P A w K Q := by
 have hru := fun ρ : Env => (VRel.eq_1 ρ (.tuple #[])).mpr rfl
 cases ho : eop P s ev o.op with
 | none => rw [ho] at hq; cases hq
 | some x =>
  obtain ⟨out, s1⟩ := x
  rw [ho] at hq
  have hrel := eop_rel h hA ho
  have hnd : ∀ cc, o.op ≠ .defer cc := fun cc ec => by rw [ec] at ho; cases ho
  refine ⟨fun f' _ => RF_fn _ _, ?_⟩
  rw [Oper.semAt_eq _ _ _ hnd]
  cases out with
  | val v1 =>
   cases hq
   obtain ⟨ρ', X, w', g1, g2, g3, g4, g5⟩ := hrel
   rw [g2, Oper.uponIn_value]
   exact hK ρ' X w' g1 g3 g4 g5
  | skip =>
   cases hq
   obtain ⟨w', g2, g4, g5⟩ := hrel
   rw [g2, Oper.uponIn_skip]
   exact hK ρ _ w' ρ.le_refl (hru ρ) g4 g5
  | pan v1 => cases hq
  | enter t =>
   have hs1 : s1 = s := by
    cases t with
    | fn f' a' => exact hrel.1
    | round l' a' => exact hrel.1
   subst hs1
   simp only [opOut] at hq
   cases hself : self t s1 with
   | none => rw [hself] at hq; cases hq
   | some p =>
    obtain ⟨ee, s2⟩ := p
    rw [hself] at hq
    cases ee with
    | pan v1 => cases hq
    | ret v1 =>
     cases hq
     have hcon := hs t s1 _ _ hself base ρ w h (n - 1)
     have tail : ∀ (E : Ending) (w' : World), Post base ρ w (.ret v) s' E w' →
       (match E, w' with
         | .returned v, w'' => K (A.put o.dst v) w''
         | .panicked chain, w'' => Q (.panic chain) A w''
         | .outgrown, _ => LetsOut Q) := by
      rintro E w' ⟨ρ', g1, ⟨X, rfl, g6⟩, g4, g5⟩
      exact hK ρ' X w' g1 g6 g4 g5
     cases t with
     | fn f' a' =>
      obtain ⟨_, A', g2, g3⟩ := hrel
      rw [g2, Oper.uponIn_enter]
      refine ⟨fun hh => by simp [RF_depth] at hh, (show CallsIn (RF r) _ P _ _ _ _ from (hcon A' g3).mono fun E w' hp => ?_)⟩
      have := tail E w' hp
      cases E <;> exact this
     | round l' a' =>
      obtain ⟨_, x, L, A', g1, g2, g3, g4, g5⟩ := hrel
      rw [g5, Oper.uponIn_round]
      refine ⟨fun hh => by simp [RF_depth] at hh, (show RoundIn (RF r) _ P _ _ _ _ _ _ _ from (hcon x L A' g1 g2 g3 g4).mono fun E w' hp => ?_)⟩
      have := tail E w' hp
      cases E <;> exact this

theorem qop_sound {base : Nat} {ρ : Env} {s : St} {w : World} (h : SRel base ρ s w) {ev : Operand → Option V} {A : Act} (hA : EvRel ρ ev A) {o : Oper} {v : V}
  (hq : qop P s ev o.op = some v) {Q : Exit → Act → World → Prop} {K : Act → World → Prop} (hK : ∀ X, VRel ρ v X → K (A.put o.dst X) w) : o.wpIn (RF r) n P A w K Q := by
 have hnd : ∀ cc, o.op ≠ .defer cc := fun cc ec => by rw [ec] at hq; cases hq
 refine ⟨fun f' _ => RF_fn _ _, ?_⟩
 rw [Oper.semAt_eq _ _ _ hnd]
 obtain ⟨X, h1, h2⟩ := qop_rel h hA hq
 rw [h1, Oper.uponIn_value]
 exact hK X h2

theorem mk_sound {base : Nat} {ρ : Env} {s : St} {w : World} (h : SRel base ρ s w) {ev : Operand → Option V} {A : Act} (hA : EvRel ρ ev A) {o : Oper} {b : Nat} {v : V} (hq : qopM P (some b) s ev o.op = some v)
  (hn : ρ b = none) (hlt : b < s.next) {Q : Exit → Act → World → Prop} {K : Act → World → Prop}
  (hK : ∀ x X w', VRel (ρ.put b x) v X → SRel base (ρ.put b x) s w' → Below base w w' → K (A.put o.dst X) w') : o.wpIn (RF r) n P A w K Q := by
 simp only [qopM] at hq
 split at hq
 ·rename_i m hm
  cases hat : m.isAt (s.heap.get b) with
  | false => rw [hat] at hq; cases hq
  | true =>
   rw [hat, cond_true] at hq
   cases hq
   have hnd : ∀ cc, o.op ≠ .defer cc := fun cc ec => by rw [ec] at hm; cases hm
   refine ⟨fun f' _ => RF_fn _ _, ?_⟩
   rw [Oper.semAt_eq _ _ _ hnd]
   obtain ⟨cs, t, sl⟩ := m
   obtain ⟨x, h1, X, C, t', h2, h3, h4⟩ := mkQ_rel (w := w) hA hm
   rw [h1 X _ h2, Oper.uponIn_value]
   have hob : s.heap.get b = some (.cells cs t false) := by
    simp only [Mk.isAt] at hat
    split at hat
    ·rename_i cs' t2 hg
     cases hb : Nat.beq t t2 with
     | false => rw [hb] at hat; cases hat
     | true =>
      rw [hb, cond_true] at hat
      rw [hg, sameL_eq _ _ hat, Nat.eq_of_beq_eq_true hb]
    ·cases hat
   have hsub := Env.sub_put (⟨w.heap.size, 0, C.size⟩ : Blk) hn
   refine hK ⟨w.heap.size, 0, C.size⟩ X _ (h4 _ _ Env.put_same) (h.fill hob hn hlt (.cells C t') C.size rfl ⟨C, t', (0, 0), rfl, rfl, ?_, ?_, by simp, fun _ => rfl⟩) (below_new h.le rfl)
   ·have := h3.length; simp at this; omega
   ·intro i v hi
    obtain ⟨Y, e1, e2⟩ := h3.get hi
    exact ⟨Y, by simpa using e1, VRel.up hsub _ _ e2⟩
 ·cases hq

structure DInv (ops : Array Oper) (R : List DRec) (F0 : Frm) (listed : Array Bool) (f : Frm) (p : Nat) : Prop where
 size : listed.size = ops.size
 down : ∀ (i : Nat) o, ops[i]? = some o → listed.getD i false = true → ∀ e ∈ o.after, Region.binds .any e = true → listed.getD e.on false = true
 ok : f.ok
 n : f.n = F0.n
 did : ∀ (k : Nat) rk t, R[k]? = some rk → rk.o.dst = some t → listed.getD k false = true → f.get t = gv F0.n t rk.v
 not : ∀ t, (∀ (k : Nat) rk, R[k]? = some rk → rk.o.dst = some t → listed.getD k false = false) → f.get t = F0.get t
 le : p ≤ (effs R).length
 ph : ∀ (q : Nat) e, (effs R)[q]? = some e → (listed.getD e.1 false = true ↔ q < p)

structure DRun (P : Program) (sf : ESelf) (ops : Array Oper) (M : List (Nat × Nat)) (dead : Nat → Prop) (F0 : Frm) (s0 : St) (R : List DRec) : Prop where
 st : StOK ops
 len : R.length = ops.size
 row : ∀ (k : Nat) rk, R[k]? = some rk → rk.i = k ∧ ops[k]? = some rk.o ∧ (dead k ∨ drawStep P sf ops (findM k M) k rk.o rk.f rk.s = some rk) ∧ rk.f = finF F0 (R.take k) ∧ rk.s = lastS s0 (effs (R.take k))
 chain : ∀ (q q' : Nat) e e', q < q' → (effs R)[q]? = some e → (effs R)[q']? = some e' → Reach ops e'.1 e.1
 quiet : ∀ (k : Nat) rk, R[k]? = some rk → rk.q = true → ∀ p, p ≤ (effs R).length → (∀ q e, q < p → (effs R)[q]? = some e → ¬ Reach ops e.1 k) → (∀ q e, p ≤ q → (effs R)[q]? = some e → ¬ Reach ops k e.1) →
  qopM P rk.mb (lastS s0 ((effs R).take p)) (evL (rk.o.looksAt ops) rk.f) rk.o.op = some rk.v
 ok : F0.ok

theorem DInv.reach {ops : Array Oper} {R : List DRec} {F0 f : Frm} {listed : Array Bool} {p : Nat} (h : DInv ops R F0 listed f p) {i j : Nat} (hr : Reach ops i j) : listed.getD i false = true → listed.getD j false = true := by
 induction hr with
 | step ho he hb => exact fun hi => h.down _ _ ho hi _ he hb
 | trans _ _ h1 h2 => exact fun hi => h2 (h1 hi)
theorem DInv.reach_ready {ops : Array Oper} {R : List DRec} {F0 f : Frm} {listed : Array Bool} {p : Nat} (h : DInv ops R F0 listed f p) {i j : Nat} (hr : Reach ops i j) :
  (∀ o, ops[i]? = some o → ∀ e ∈ o.after, Region.binds .any e = true → listed.getD e.on false = true) → listed.getD j false = true := by
 induction hr with
 | step ho he hb => exact fun hi => hi _ ho _ he hb
 | trans h1 h2 ih1 ih2 => exact fun hi => h.reach h2 (ih1 hi)

theorem DInv.looks {ops : Array Oper} {R : List DRec} {F0 f : Frm} {s0 : St} {listed : Array Bool} {p : Nat} (h : DInv ops R F0 listed f p) (D : DRun P self ops M dead F0 s0 R) {i : Nat} {ri : DRec}
  (hi : R[i]? = some ri) (hun : listed.getD i false = false) (hrd : ∀ o, ops[i]? = some o → ∀ e ∈ o.after, Region.binds .any e = true → listed.getD e.on false = true) {t : Tmp} (ht : t ∈ ri.o.looksAt ops) :
  f.get t = ri.f.get t := by
 obtain ⟨_, ho, _, hf, _⟩ := D.row i ri hi
 rw [hf]
 have uniq : ∀ (k k' : Nat) rk rk', R[k]? = some rk → R[k']? = some rk' → rk.o.dst = some t → rk'.o.dst = some t → k' = k := fun k k' rk rk' a b c d =>
  D.st.once _ _ _ _ t (D.row k' rk' b).2.1 (D.row k rk a).2.1 d c
 by_cases hw : ∃ (k : Nat) (rk : DRec), R[k]? = some rk ∧ rk.o.dst = some t
 ·obtain ⟨k, rk, hk, hd⟩ := hw
  have hF0 : ∀ {m : Nat}, m ≤ k → (finF F0 (R.take m)).get t = F0.get t := fun {m} hm => finF_none D.ok fun r' hr' e' => by
   obtain ⟨q, hq⟩ := List.getElem?_of_mem hr'
   rw [List.getElem?_take] at hq
   split at hq
   ·have := uniq k q rk r' hk hq hd e'
    omega
   ·cases hq
  have hfF0 : listed.getD k false = false → f.get t = F0.get t := fun hl => h.not t fun k' rk' hk' hd' => by rw [uniq k k' rk rk' hk hk' hd hd']; exact hl
  by_cases hki : k = i
  ·subst hki
   rw [hfF0 hun, hF0 (Nat.le_refl _)]
  ·rcases D.st.read k i _ _ t (D.row k rk hk).2.1 ho hd ht hki with hr | hr
   ·have hlt := D.st.lt hr
    rw [hF0 (by omega), hfF0]
    cases hl : listed.getD k false with
    | false => rfl
    | true => rw [h.reach hr hl] at hun; cases hun
   ·have hlt := D.st.lt hr
    have hl := h.reach_ready hr hrd
    rw [h.did k rk t hk hd hl]
    rw [finF_some D.ok (k := k) (r := rk) (by rw [List.getElem?_take, if_pos hlt]; exact hk) hd fun k' r' h1 h2 => ?_]
    rw [List.getElem?_take] at h1
    split at h1
    ·exact uniq k k' rk r' hk h1 hd h2
    ·cases h1
 ·rw [h.not t fun k rk hk hd => absurd ⟨k, rk, hk, hd⟩ hw]
  rw [finF_none D.ok fun r' hr' e' => by
    obtain ⟨q, hq⟩ := List.getElem?_of_mem (List.mem_of_mem_take hr')
    exact hw ⟨q, r', hq, e'⟩]

theorem getD_set_self {listed : Array Bool} {i : Nat} (d : Bool) (h : i < listed.size) : (listed.setIfInBounds i true).getD i d = true := by
 simp [h]
theorem getD_any {listed : Array Bool} {i : Nat} (h : i < listed.size) (d d' : Bool) : listed.getD i d = listed.getD i d' := by
 simp [h]

theorem DInv.step {ops : Array Oper} {R : List DRec} {F0 f : Frm} {s0 : St} {listed : Array Bool} {p : Nat} (h : DInv ops R F0 listed f p) (D : DRun P self ops M dead F0 s0 R) {i : Nat} {ri : DRec}
  (hi : R[i]? = some ri) (hun : listed.getD i false = false) (hrd : ∀ o, ops[i]? = some o → ∀ e ∈ o.after, Region.binds .any e = true → listed.getD e.on false = true) {p' : Nat}
  (hp' : p' ≤ (effs R).length) (hph : ∀ (q : Nat) e, (effs R)[q]? = some e → (q < p' ↔ (q < p ∨ e.1 = i))) :
  DInv ops R F0 (listed.setIfInBounds i true) (putE f ri.o.dst ri.v) p' := by
 obtain ⟨_, ho, _, _, _⟩ := D.row i ri hi
 have hlt : i < listed.size := by rw [h.size]; exact (Array.getElem?_eq_some_iff.1 ho).1
 have hset : ∀ k, (listed.setIfInBounds i true).getD k false = true ↔ (k = i ∨ listed.getD k false = true) := fun k => by
  by_cases e : k = i
  ·subst e; simp [getD_set_self false hlt]
  ·rw [getD_set_ne false (fun e' => e e'.symm)]; simp [e]
 refine ⟨by simpa using h.size, ?_, putE_ok h.ok _ _, by rw [putE_n, h.n], ?_, ?_, hp', ?_⟩
 ·intro k o hk hl e he hb
  rw [hset]
  rcases (hset k).1 hl with rfl | hl
  ·exact .inr (hrd o hk e he hb)
  ·exact .inr (h.down k o hk hl e he hb)
 ·intro k rk t hk hd hl
  rcases (hset k).1 hl with rfl | hl1
  ·rw [hi] at hk; cases hk
   rw [hd, get_putE h.ok, if_pos rfl, h.n]
  ·rw [get_putE_ne h.ok]
   ·exact h.did k rk t hk hd hl1
   ·intro e
    have := D.st.once _ _ _ _ t (D.row k rk hk).2.1 ho hd e
    subst this
    rw [hun] at hl1; cases hl1
 ·intro t hn
  have e1 : ri.o.dst ≠ some t := fun e => by
   have := hn i ri hi e
   rw [getD_set_self false hlt] at this; cases this
  rw [get_putE_ne h.ok _ e1]
  refine h.not t fun k rk hk hd => ?_
  have := hn k rk hk hd
  cases hl : listed.getD k false with
  | false => rfl
  | true => rw [(hset k).2 (.inr hl)] at this; cases this
 ·intro q e he
  rw [hset, hph q e he, h.ph q e he]
  exact Or.comm

theorem evL_sub {f g : Frm} {L : List Tmp} (h : ∀ t ∈ L, f.get t = g.get t) {ρ : Env} {A : Act} (hf : FRel ρ f A.tmps) : EvRel ρ (evL L g) A := by
 intro x v hv
 cases x with
 | tmp t =>
  simp only [evL] at hv
  cases ht : hasN t L with
  | false => rw [ht] at hv; cases hv
  | true =>
   rw [ht] at hv
   cases hv
   rw [← h t ((hasN_eq t L).1 ht)]
   exact hf.get t
 | const c => exact evF_rel hf _ _ (show evF f (.const c) = some v from hv)
 | global g => cases hv
 | func g => exact evF_rel hf _ _ (show evF f (.func g) = some v from hv)

theorem wantedE_sub {f g : Frm} {ops : Array Oper} {o : Oper} (h : ∀ t ∈ o.looksAt ops, f.get t = g.get t) : wantedE (guardOf ops o) f = wantedE (guardOf ops o) g := by
 unfold guardOf
 cases hg : o.guard with
 | none => rfl
 | some x =>
  obtain ⟨j, want⟩ := x
  simp only
  cases ho : ops[j]? with
  | none => rfl
  | some o' =>
   simp only
   cases hd : o'.dst with
   | none => rfl
   | some d =>
    simp only [wantedE]
    rw [h d (by unfold Oper.looksAt; rw [hg]; simp [ho, hd])]

theorem draw_end {ops : Array Oper} {R : List DRec} {F0 f : Frm} {s0 : St} (D : DRun P self ops M dead F0 s0 R) {listed : Array Bool} {p : Nat} (h : DInv ops R F0 listed f p) (all : ∀ i, i < listed.size → listed.getD i false = true)
  {base : Nat} {ρ0 ρ : Env} {w0 w : World} {ds : List EDef} {A : Act} (h1 : ρ0.le ρ) (h2 : Below base w0 w) (hf : FRel ρ f A.tmps) (hd : DRel ρ ds A.defers) (hS : SRel base ρ (lastS s0 ((effs R).take p)) w) :
  CPost base ρ0 w0 .normal ⟨finF F0 R, ds, lastS s0 (effs R)⟩ .normal A w := by
 have allR : ∀ (k : Nat) rk, R[k]? = some rk → listed.getD k false = true := fun k rk hk => all k (by
   rw [h.size, ← D.len]; exact (List.getElem?_eq_some_iff.1 hk).1)
 have hp : p = (effs R).length := by
  rcases Nat.lt_or_ge p (effs R).length with hlt | hge
  ·obtain ⟨k, rk, a1, a2, a3, _⟩ := effs_get (List.getElem?_eq_getElem hlt)
   have := (h.ph p _ (List.getElem?_eq_getElem hlt)).1 (by rw [← a3, (D.row k rk a1).1]; exact allR k rk a1)
   omega
  ·have := h.le; omega
 subst hp
 rw [List.take_length] at hS
 have hget : ∀ t, f.get t = (finF F0 R).get t := fun t => by
  by_cases hw : ∃ (k : Nat) (rk : DRec), R[k]? = some rk ∧ rk.o.dst = some t
  ·obtain ⟨k, rk, hk, hdd⟩ := hw
   rw [h.did k rk t hk hdd (allR k rk hk), finF_some D.ok hk hdd fun k' rk' hk' hd' => D.st.once _ _ _ _ t (D.row k' rk' hk').2.1 (D.row k rk hk).2.1 hd' hdd]
  ·rw [h.not t fun k rk hk hdd => absurd ⟨k, rk, hk, hdd⟩ hw, finF_none D.ok fun r' hr' e' => by
     obtain ⟨q, hq⟩ := List.getElem?_of_mem hr'
     exact hw ⟨q, r', hq, e'⟩]
 refine ⟨ρ, h1, rfl, ?_, hd, hS, h2⟩
 obtain ⟨a1, d, a2, a3, a4⟩ := hf
 obtain ⟨d', b2, b3⟩ := finF_ok R D.ok
 have hn : (finF F0 R).n = f.n := by rw [finF_n, h.n]
 refine ⟨by rw [hn]; exact a1, d', b2, b3, fun i X hX => ?_⟩
 have hlt : i < f.n := by rw [a1]; exact (Array.getElem?_eq_some_iff.1 hX).1
 have := hget i
 rw [Frm.get_eq, Frm.get_eq, blt_iff, blt_iff, hn, decide_eq_true hlt, cond_true, cond_true] at this
 rw [← this]
 exact a4 i X hX

structure DFin (P : Program) (sf : ESelf) (ops : Array Oper) (dead : Nat → Prop) (F0 : Frm) (s0 : St) (R : List DRec) (ds : List EDef) (e : EExit) (c' : Cfg) : Prop where
 fin : (∀ k, ¬ dead k) → e = .normal ∧ c' = ⟨finF F0 R, ds, lastS s0 (effs R)⟩
 pan : ∀ k, dead k → ∃ ip, dead ip ∧ (∀ j, dead j → j = ip ∨ Reach ops j ip) ∧ ∃ rp v s', R[ip]? = some rp ∧ rp.s = lastS s0 (effs R) ∧ wantedE (guardOf ops rp.o) rp.f = true ∧ opPan sf (eop P rp.s (evL (rp.o.looksAt ops) rp.f) rp.o.op) = some (v, s') ∧
  (∀ (q : Nat) e, (effs R)[q]? = some e → Reach ops ip e.1) ∧ e = .pan v ∧ c' = ⟨anyF F0 ops.toList, ds, s'⟩

theorem opPan_sound (hs : SelfOK P self) {base : Nat} {ρ : Env} {s s' : St} {w : World} (h : SRel base ρ s w) {ev : Operand → Option V} {A : Act} (hA : EvRel ρ ev A) {o : Oper} {v : V}
  (hq : opPan self (eop P s ev o.op) = some (v, s')) {Q : Exit → Act → World → Prop} {K : Act → World → Prop}
  (hQ : ∀ ρ' X w', ρ.le ρ' → VRel ρ' v X → SRel base ρ' s' w' → Below base w w' → Q (.panic [{ v := X, recovered := false }]) A w') : o.wpIn (RF r) n P A w K Q := by
 cases ho : eop P s ev o.op with
 | none => rw [ho] at hq; cases hq
 | some x =>
  obtain ⟨out, s1⟩ := x
  rw [ho] at hq
  have hrel := eop_rel h hA ho
  have hnd : ∀ cc, o.op ≠ .defer cc := fun cc ec => by rw [ec] at ho; cases ho
  refine ⟨fun f' _ => RF_fn _ _, ?_⟩
  rw [Oper.semAt_eq _ _ _ hnd]
  cases out with
  | val v1 => cases hq
  | skip => cases hq
  | pan v1 =>
   cases hq
   obtain ⟨rfl, X, g1, g2⟩ := hrel
   rw [g1, Oper.uponIn_panic]
   exact hQ ρ X w ρ.le_refl g2 h (Below.refl _ _)
  | enter t =>
   have hs1 : s1 = s := by
    cases t with
    | fn f' a' => exact hrel.1
    | round l' a' => exact hrel.1
   subst hs1
   simp only [opPan] at hq
   cases hself : self t s1 with
   | none => rw [hself] at hq; cases hq
   | some p =>
    obtain ⟨ee, s2⟩ := p
    rw [hself] at hq
    cases ee with
    | ret v1 => cases hq
    | pan v1 =>
     cases hq
     have hcon := hs t s1 _ _ hself base ρ w h (n - 1)
     have tail : ∀ (E : Ending) (w' : World), Post base ρ w (.pan v) s' E w' →
       (match E, w' with
         | .returned v, w'' => K (A.put o.dst v) w''
         | .panicked chain, w'' => Q (.panic chain) A w''
         | .outgrown, _ => LetsOut Q) := by
      rintro E w' ⟨ρ', g1, ⟨X, rfl, g6⟩, g4, g5⟩
      exact hQ ρ' X w' g1 g6 g4 g5
     cases t with
     | fn f' a' =>
      obtain ⟨_, A', g2, g3⟩ := hrel
      rw [g2, Oper.uponIn_enter]
      refine ⟨fun hh => by simp [RF_depth] at hh, (show CallsIn (RF r) _ P _ _ _ _ from (hcon A' g3).mono fun E w' hp => ?_)⟩
      have := tail E w' hp
      cases E <;> exact this
     | round l' a' =>
      obtain ⟨_, x, L, A', g1, g2, g3, g4, g5⟩ := hrel
      rw [g5, Oper.uponIn_round]
      refine ⟨fun hh => by simp [RF_depth] at hh, (show RoundIn (RF r) _ P _ _ _ _ _ _ _ from (hcon x L A' g1 g2 g3 g4).mono fun E w' hp => ?_)⟩
      have := tail E w' hp
      cases E <;> exact this

theorem drawE_spec {ops : Array Oper} {c c' : Cfg} {e : EExit} (hf : c.tmps.ok) (h : drawE P self ops c = some (e, c')) :
  P.follows .mixedOrders = true ∧ ∃ s0 M R dead, PreOK c.st s0 M ∧ DRun P self ops M dead c.tmps s0 R ∧ DFin P self ops dead c.tmps s0 R c.defers e c' := by
 unfold drawE at h
 cases h1 : P.follows .mixedOrders with
 | false => simp [h1] at h
 | true =>
 cases h2 : stOK ops with
 | false => simp [h1, h2] at h
 | true =>
 simp only [h1, h2, Bool.and_self, cond_true] at h
 rcases hpre : preM P ops c.tmps c.st with ⟨s0, M⟩
 rw [hpre] at h
 simp only at h
 split at h
 ·rename_i R hR
  cases h3 : chainE (ancsE ops.toList []) (effs R) with
  | false => simp [h3] at h
  | true =>
  cases h4 : chkAll P ops (ancsE ops.toList []) s0 (effs R) R with
  | false => simp [h3, h4] at h
  | true =>
  simp only [h3, h4, Bool.and_self, cond_true, Option.some.injEq, Prod.mk.injEq] at h
  obtain ⟨rfl, rfl⟩ := h
  obtain ⟨g1, g2⟩ := drawRun_spec hR
  have hi : ∀ (k : Nat) rk, R[k]? = some rk → rk.i = k := fun k rk hk => by simpa using (g2 k rk hk).1
  refine ⟨rfl, s0, M, R, fun _ => False, preM_ok hpre, ⟨stOK_spec h2, by simpa using g1, fun k rk hk => ?_, fun q q' e e' hq he he' => reach_of (chainE_spec h3 q q' e e' hq he he'), fun k rk hk hq p hp a b => ?_, hf⟩, ⟨fun _ => ⟨rfl, rfl⟩, fun k hk => hk.elim⟩⟩
  ·obtain ⟨b1, b2, b3, b4, b5⟩ := g2 k rk hk
   refine ⟨hi k rk hk, by simpa using b2, .inr ?_, b4, b5⟩
   rw [hi k rk hk] at b3
   exact b3
  ·have := chkAll_spec h4 rk (List.mem_of_getElem? hk) hq
   refine chkE_spec this p hp (fun q e hqp he => ?_) (fun q e hqp he => ?_)
   ·rw [hi k rk hk, Bool.eq_false_iff]
    exact fun hh => a q e hqp he (reach_of hh)
   ·rw [hi k rk hk, Bool.eq_false_iff]
    exact fun hh => b q e hqp he (reach_of hh)
 ·unfold drawP at h
  split at h
  ·rename_i R ip v s' hR
   cases h3 : chainE (ancsE ops.toList []) (effs R) with
   | false => simp [h3] at h
   | true =>
   cases h5 : allAfter (ogetN (lget (ancsE ops.toList []) ip)) (effs R) with
   | false => simp [h3, h5] at h
   | true =>
   cases h4 : chkAll P ops (ancsE ops.toList []) s0 (effs R) R with
   | false => simp [h3, h5, h4] at h
   | true =>
   simp only [h3, h4, h5, Bool.and_self, cond_true, Option.some.injEq, Prod.mk.injEq] at h
   obtain ⟨rfl, rfl⟩ := h
   obtain ⟨g1, _, ⟨rp, a1, a2, a3, a4, a5⟩, g2⟩ := panRun_spec hR
   rw [Nat.sub_zero] at a1
   have hi : ∀ (k : Nat) rk, R[k]? = some rk → rk.i = k := fun k rk hk => by simpa using (g2 k rk hk).1
   refine ⟨rfl, s0, M, R, fun k => k = ip ∨ Reach ops k ip, preM_ok hpre, ⟨stOK_spec h2, by simpa using g1, fun k rk hk => ?_, fun q q' e e' hq he he' => reach_of (chainE_spec h3 q q' e e' hq he he'), fun k rk hk hq p hp a b => ?_, hf⟩,
     ⟨fun hn => absurd (Or.inl rfl) (hn ip), fun k _ => ⟨ip, .inl rfl, fun j hj => hj, rp, v, s', a1, a3, a4, a5, fun q e he => reach_of (allAfter_spec h5 q e he), rfl, rfl⟩⟩⟩
   ·obtain ⟨b1, b2, b3, b4, b5⟩ := g2 k rk hk
    refine ⟨hi k rk hk, by simpa using b2, ?_, b4, b5⟩
    rw [hi k rk hk] at b3
    rcases b3 with ⟨e, _⟩ | ⟨e, _⟩ | e
    ·exact .inl (.inl e)
    ·exact .inl (.inr (reach_of e))
    ·exact .inr e
   ·have := chkAll_spec h4 rk (List.mem_of_getElem? hk) hq
    refine chkE_spec this p hp (fun q e hqp he => ?_) (fun q e hqp he => ?_)
    ·rw [hi k rk hk, Bool.eq_false_iff]
     exact fun hh => a q e hqp he (reach_of hh)
    ·rw [hi k rk hk, Bool.eq_false_iff]
     exact fun hh => b q e hqp he (reach_of hh)
  ·cases h

theorem count_set {l : List Bool} {i : Nat} (h : l[i]? = some false) : (l.set i true).countP (! ·) + 1 = l.countP (! ·) := by
 induction l generalizing i with
 | nil => simp at h
 | cons a l ih =>
  cases i with
  | zero => simp at h; subst h; simp
  | succ i =>
   have := ih (by simpa using h)
   simp only [List.set_cons_succ, List.countP_cons]
   omega

theorem draw_any (hs : SelfOK P self) {ops : Array Oper} {R : List DRec} {F0 : Frm} {s0 : St} (D : DRun P self ops M dead F0 s0 R) {base : Nat} {ρ0 : Env} {w0 : World} {ds : List EDef} {e : EExit} {c' : Cfg} (hF : DFin P self ops dead F0 s0 R ds e c') :
  (∀ i b, findM i M = some b → ρ0.n ≤ b) → (∀ i j b, findM i M = some b → findM j M = some b → i = j) →
  ∀ (fuel : Nat) (listed : Array Bool) (f : Frm) (p : Nat) (ρ : Env) (A : Act) (w : World), DInv ops R F0 listed f p → listed.toList.countP (! ·) ≤ fuel → (∀ k, dead k → listed.getD k false = false) → (∀ i b, findM i M = some b → listed.getD i false = false → ρ b = none ∧ b < ρ.n) → ρ0.le ρ → Below base w0 w → FRel ρ f A.tmps → DRel ρ ds A.defers →
   SRel base ρ (lastS s0 ((effs R).take p)) w →
   wpAnyIn (RF r) n P .any ops (CPost base ρ0 w0 e c') fuel listed A w := by
 intro hM0 hM1 fuel
 have nodead : ∀ {listed : Array Bool} {f : Frm} {p : Nat}, DInv ops R F0 listed f p → (∀ i, i < listed.size → listed.getD i false = true) → (∀ k, dead k → listed.getD k false = false) → ∀ k, ¬ dead k := fun h all hdd k hk => by
  obtain ⟨ip, h1, _, rp, v, s', h2, _⟩ := hF.pan k hk
  have hlt : ip < ops.size := by rw [← D.len]; exact (List.getElem?_eq_some_iff.1 h2).1
  have := all ip (by rw [h.size]; exact hlt)
  rw [hdd ip h1] at this; cases this
 induction fuel with
 | zero =>
  intro listed f p ρ A w h hc hdd hM h1 h2 hf hd hS
  have all : ∀ i, i < listed.size → listed.getD i false = true := fun i hi => by
   have h0 : listed.toList.countP (! ·) = 0 := by omega
   rw [List.countP_eq_zero] at h0
   have := h0 listed[i] (by simp)
   simpa [hi] using this
  refine ⟨?_, ?_⟩
  ·cases hr : Region.ready .any ops listed with
   | nil => rfl
   | cons x l =>
    have := mem_ready.1 (hr ▸ List.mem_cons_self : x ∈ Region.ready .any ops listed)
    obtain ⟨a, o, b, _⟩ := this
    have hx : x < listed.size := by rw [h.size]; exact (Array.getElem?_eq_some_iff.1 b).1
    rw [getD_any hx true false, all x hx] at a
    cases a
  ·obtain ⟨rfl, rfl⟩ := hF.fin (nodead h all hdd)
   exact draw_end D h all h1 h2 hf hd hS
 | succ fuel ih =>
  intro listed f p ρ A w h hc hdd hM h1 h2 hf hd hS
  refine ⟨fun hnil => ?_, fun i hi => ?_⟩
  ·have all : ∀ i, i < listed.size → listed.getD i false = true := by
    intro i
    induction i using Nat.strongRecOn with
    | ind i ih =>
     intro hi
     cases hl : listed.getD i false with
     | true => rfl
     | false =>
      have hio : i < ops.size := by rw [← h.size]; exact hi
      have : i ∈ Region.ready .any ops listed := mem_ready.2 ⟨by rw [getD_any hi true false]; exact hl, ops[i], Array.getElem?_eq_getElem hio, fun e he hb => by
        have := D.st.back i ops[i] (Array.getElem?_eq_getElem hio) e he hb
        exact ih e.on this (by omega)⟩
      rw [hnil] at this; cases this
   obtain ⟨rfl, rfl⟩ := hF.fin (nodead h all hdd)
   exact draw_end D h all h1 h2 hf hd hS
  ·obtain ⟨hun, o, ho, hrd⟩ := mem_ready.1 hi
   have hio : i < ops.size := (Array.getElem?_eq_some_iff.1 ho).1
   have hil : i < listed.size := by rw [h.size]; exact hio
   rw [getD_any hil true false] at hun
   have hri : R[i]? = some (R[i]'(by rw [D.len]; exact hio)) := List.getElem?_eq_getElem _
   generalize R[i]'(by rw [D.len]; exact hio) = ri at hri
   obtain ⟨ei, ho', hstep, _, hs'⟩ := D.row i ri hri
   have : o = ri.o := by rw [ho] at ho'; exact Option.some.inj ho'
   subst this
   have hrd : ∀ o, ops[i]? = some o → ∀ e ∈ o.after, Region.binds .any e = true → listed.getD e.on false = true := fun o2 h2 => by rw [ho] at h2; cases h2; exact hrd
   have hlk := fun t => h.looks D hri hun hrd (t := t)
   rcases Classical.em (dead i) with hdi | hdi
   ·have hrd2 := hrd
    clear hrd
    obtain ⟨ip, q1, q2, rp, v, s', q3, q4, q5, q6, q7, rfl, rfl⟩ := hF.pan i hdi
    rcases q2 i hdi with rfl | hr
    ·have hrp : rp = ri := by rw [hri] at q3; exact (Option.some.inj q3).symm
     subst hrp
     have hp : p = (effs R).length := by
      rcases Nat.lt_or_ge p (effs R).length with hlt | hge
      ·have := (h.ph p _ (List.getElem?_eq_getElem hlt)).1 (h.reach_ready (q7 p _ (List.getElem?_eq_getElem hlt)) hrd2)
       omega
      ·have := h.le; omega
     rw [hp, List.take_length, ← q4] at hS
     have hwant := wanted_rel hf ops rp.o
     rw [wantedE_sub hlk, q5] at hwant
     unfold wpOpIn
     simp only [ho]
     rw [← hwant]
     simp only [if_true]
     refine opPan_sound hs hS (evL_sub hlk hf) q6 fun ρ' X w' b1 b2 b3 b4 => ?_
     refine ⟨ρ', Env.le_trans h1 b1, ⟨X, rfl, b2⟩, ?_, hd.mono b1, b3, h2.trans b4⟩
     obtain ⟨a1, d, a2, a3, a4⟩ := hf.mono b1
     obtain ⟨d', e2, e3⟩ := anyF_ok ops.toList D.ok
     have hn : (anyF F0 ops.toList).n = f.n := by rw [anyF_n, h.n]
     refine ⟨by rw [hn]; exact a1, d', e2, e3, fun t Y hY => ?_⟩
     have hlt : t < f.n := by rw [a1]; exact (Array.getElem?_eq_some_iff.1 hY).1
     have hraw : ∀ g : Frm, g.n = f.n → g.get t = g.t.get t := fun g hg => by rw [Frm.get_eq, blt_iff, hg, decide_eq_true hlt, cond_true]
     obtain ⟨i1, _, i3⟩ := anyF_get (t := t) ops.toList D.ok (by rw [← h.n]; exact hlt)
     by_cases hdst : ∃ o ∈ ops.toList, o.dst = some t
     ·exact .inl (by rw [← hraw _ hn]; exact i1 hdst)
     ·refine .inr ?_
      rw [← hraw _ hn, i3 (fun o ho he => hdst ⟨o, ho, he⟩), ← h.not t fun k rk hk hdk => absurd ⟨rk.o, by
        have := (D.row k rk hk).2.1
        exact Array.mem_toList_iff.2 (Array.mem_of_getElem? this), hdk⟩ hdst, hraw f rfl]
      exact a4 t Y hY
    ·have := h.reach_ready hr hrd2
     rw [hdd ip q1] at this; cases this
   have hstep := hstep.resolve_left hdi
   have hdd' : ∀ k, dead k → (listed.setIfInBounds i true).getD k false = false := fun k hk => by
    rw [getD_set_ne false (fun e' : i = k => hdi (by rw [e']; exact hk))]; exact hdd k hk
   have hcnt : (listed.setIfInBounds i true).toList.countP (! ·) ≤ fuel := by
    have : listed.toList[i]? = some false := by
     rw [Array.getElem?_toList, Array.getElem?_eq_getElem hil]
     simpa [hil] using hun
    have := count_set this
    rw [Array.toList_setIfInBounds]
    omega
   have hMs : ∀ ρ' : Env, (∀ j b, findM j M = some b → j ≠ i → listed.getD j false = false → ρ' b = none ∧ b < ρ'.n) → ∀ j b, findM j M = some b → (listed.setIfInBounds i true).getD j false = false → ρ' b = none ∧ b < ρ'.n := fun ρ' hh j b hj hl => by
    by_cases e : j = i
    ·subst e; rw [getD_set_self false hil] at hl; cases hl
    ·rw [getD_set_ne false (fun e' => e e'.symm)] at hl
     exact hh j b hj e hl
   have hwant := wanted_rel hf ops ri.o
   rw [wantedE_sub hlk] at hwant
   unfold wpOpIn
   simp only [ho]
   unfold drawStep at hstep
   cases hw : wantedE (guardOf ops ri.o) ri.f with
   | false =>
    rw [hw, cond_false] at hstep
    have hrv : ri.v = .undef ∧ ri.eff = none := by rw [← Option.some.inj hstep]; exact ⟨rfl, rfl⟩
    rw [hw] at hwant
    rw [← hwant]
    simp only [Bool.false_eq_true, if_false]
    refine ⟨fun f' _ => RF_fn _ _, ?_⟩
    have hinv := h.step D hri hun hrd h.le fun q e he => by
     obtain ⟨k, rk, a1, a2, a3, _⟩ := effs_get he
     constructor
     ·exact .inl
     ·rintro (b | b)
      ·exact b
      ·have : k = i := by rw [← b, ← a3]; exact ((D.row k rk a1).1).symm
       subst this
       rw [hri] at a1; cases a1
       rw [hrv.2] at a2; cases a2
    rw [hrv.1] at hinv
    exact ih _ _ p ρ _ w hinv hcnt hdd' (hMs ρ fun j b hj _ hl => hM j b hj hl) h1 h2 (putE_rel hf ((VRel.eq_1 ρ (.tuple #[])).mpr rfl) _) (by rw [put_defers]; exact hd) hS
   | true =>
    rw [hw, cond_true] at hstep
    rw [hw] at hwant
    rw [← hwant]
    simp only [if_true]
    split at hstep
    ·rename_i v0 hv0
     have hrv : ri.q = true ∧ ri.eff = none ∧ ri.mb = findM i M := by rw [← Option.some.inj hstep]; exact ⟨rfl, rfl, rfl⟩
     have hq := D.quiet i ri hri hrv.1 p h.le (fun q e hq he hr => by
         have := h.reach hr ((h.ph q e he).2 hq)
         rw [hun] at this; cases this) (fun q e hq he hr => by
         have := (h.ph q e he).1 (h.reach_ready hr hrd)
         omega)
     have hinv := h.step D hri hun hrd h.le fun q e he => by
      obtain ⟨k, rk, a1, a2, a3, _⟩ := effs_get he
      constructor
      ·exact .inl
      ·rintro (b | b)
       ·exact b
       ·have : k = i := by rw [← b, ← a3]; exact ((D.row k rk a1).1).symm
        subst this
        rw [hri] at a1; cases a1
        rw [hrv.2.1] at a2; cases a2
     rw [hrv.2.2] at hq
     cases hmb : findM i M with
     | none =>
      rw [hmb] at hq
      exact qop_sound hS (evL_sub hlk hf) hq fun X hX => ih _ _ p ρ _ w hinv hcnt hdd' (hMs ρ fun j b hj _ hl => hM j b hj hl) h1 h2 (putE_rel hf hX _) (by rw [put_defers]; exact hd) hS
     | some b =>
      rw [hmb] at hq
      obtain ⟨hn1, hn2⟩ := hM i b hmb hun
      refine mk_sound hS (evL_sub hlk hf) hq hn1 (Nat.lt_of_lt_of_le hn2 hS.top) fun x X w' g1 g2 g3 => ?_
      have hsub := Env.sub_put x hn1
      have hle : ρ0.le (ρ.put b x) := ⟨fun k y e => hsub k y (h1.sub k y e), Nat.le_trans h1.top (Nat.le_max_left _ _), fun k hk e => by
        have := hM0 i b hmb
        rw [Env.put_ne (by omega)]
        exact h1.keep k hk e⟩
      refine ih _ _ p (ρ.put b x) _ w' hinv hcnt hdd' (hMs _ fun j b' hj hne hl => ?_) hle (h2.trans g3) (putE_rel (hf.up hsub) g1 _) (by rw [put_defers]; exact hd.up hsub) g2
      obtain ⟨k1, k2⟩ := hM j b' hj hl
      have hbb : b' ≠ b := fun e => hne (hM1 j i b (e ▸ hj) hmb)
      rw [Env.put_ne hbb]
      exact ⟨k1, Nat.lt_of_lt_of_le k2 (Nat.le_max_left _ _)⟩
    ·split at hstep
     ·cases hstep
     split at hstep
     ·rename_i v0 s1 hv0
      have hrv : ri.v = v0 ∧ ri.eff = some s1 := by rw [← Option.some.inj hstep]; exact ⟨rfl, rfl⟩
      obtain ⟨q0, g1, g2⟩ := effs_of hri hrv.2
      rw [ei] at g1
      have hq0 : q0 = p := by
       have a1 : ¬ q0 < p := fun hh => by
        have := (h.ph q0 _ g1).2 hh
        rw [show ((i, s1) : Nat × St).1 = i from rfl, hun] at this; cases this
       rcases Nat.lt_or_ge p q0 with a2 | a2
       ·have hp : p < (effs R).length := Nat.lt_trans a2 (List.getElem?_eq_some_iff.1 g1).1
        have := D.chain p q0 _ _ a2 (List.getElem?_eq_getElem hp) g1
        have := (h.ph p _ (List.getElem?_eq_getElem hp)).1 (h.reach_ready this hrd)
        omega
       ·omega
      subst hq0
      have hlt : q0 < (effs R).length := (List.getElem?_eq_some_iff.1 g1).1
      rw [hs', g2] at hv0
      have hinv := h.step D hri hun hrd (p' := q0 + 1) hlt fun q e he => by
       obtain ⟨k, rk, a1, a2, a3, _⟩ := effs_get he
       constructor
       ·intro b
        rcases Nat.lt_or_ge q q0 with b' | b'
        ·exact .inl b'
        ·have : q = q0 := by omega
         subst this
         rw [g1] at he; cases he
         exact .inr rfl
       ·rintro (b | b)
        ·omega
        ·rcases Nat.lt_trichotomy q q0 with c | c | c
         ·omega
         ·omega
         ·have := D.st.lt (D.chain q0 q _ _ c g1 he)
          rw [b] at this
          exact absurd this (Nat.lt_irrefl _)
      have htake : lastS s0 ((effs R).take (q0 + 1)) = s1 := by
       have hlast : ∀ (E : List (Nat × St)) (s : St) (e : Nat × St), lastS s (E ++ [e]) = e.2 := by
        intro E
        induction E with
        | nil => intro s e; rfl
        | cons a E ih => intro s e; exact ih a.2 e
       rw [List.take_add_one, g1]
       exact hlast _ _ _
      refine opOut_sound hs hS (evL_sub hlk hf) hv0 fun ρ' X w' b1 b2 b3 b4 => ?_
      rw [hrv.1] at hinv
      exact ih _ _ (q0 + 1) ρ' _ w' hinv hcnt hdd' (hMs ρ' fun j b hj _ hl => by obtain ⟨k1, k2⟩ := hM j b hj hl; exact ⟨b1.keep b k2 k1, Nat.lt_of_lt_of_le k2 b1.top⟩) (Env.le_trans h1 b1) (h2.trans b4) (putE_rel (hf.mono b1) b2 _) (by rw [put_defers]; exact hd.mono b1) (by rw [htake]; exact b3)
     ·cases hstep
end
end Go.Eng
end

section
namespace Go.Eng
open Go.RowKit (Below)
set_option linter.unusedSimpArgs false
set_option linter.unusedVariables false

structure Rel (base : Nat) (ρ : Env) (c : Cfg) (A : Act) (w : World) : Prop where
 f : FRel ρ c.tmps A.tmps
 d : DRel ρ c.defers A.defers
 s : SRel base ρ c.st w

def RR (ρ : Env) : Option Nat → Option Nat → Prop
 | none, r => r = none
 | some l, r => ∃ x, ρ l = some x ∧ r = some x.B
theorem RR.mono {ρ ρ' : Env} (h : ρ.le ρ') : ∀ {a b : Option Nat}, RR ρ a b → RR ρ' a b
 | none, _, r => r
 | some _, _, ⟨x, h1, h2⟩ => ⟨x, h.sub _ _ h1, h2⟩

def CodeOK (P : Program) (ro r : Option Nat) (n : Nat) (x : Code) (f : Cfg → Option (EExit × Cfg)) : Prop :=
 ∀ c e c', f c = some (e, c') → ∀ base ρ0 w0 ρ A w, RR ρ0 ro r → ρ0.le ρ → Below base w0 w → Rel base ρ c A w → x.wpIn (RF r) n P (CPost base ρ0 w0 e c') A w

section
variable {P : Program} {self : ESelf} {ro r : Option Nat} {n : Nat}

theorem CPost.mk {base : Nat} {ρ0 ρ : Env} {w0 w : World} {e : EExit} {c : Cfg} {A : Act} {E : Exit} (h1 : ρ0.le ρ) (h2 : Below base w0 w) (h : Rel base ρ c A w) (hx : XRel ρ e E) : CPost base ρ0 w0 e c E A w :=
 ⟨ρ, h1, hx, h.f.toX e, h.d, h.s, h2⟩

theorem callsIn_RF {m : Nat} {f : FuncId} {args : Array Value} {w : World} {R : Ending → World → Prop} (h : CallsIn Fence.wide m P f args w R) : CallsIn (RF r) m P f args w R := h
theorem roundIn_RF {m l : Nat} {f : FuncId} {tmps : Array Value} {a b : Code} {w : World} {R : Ending → World → Prop} (h : RoundIn Fence.wide m P l f tmps a b w R) : RoundIn (RF r) m P l f tmps a b w R := h

theorem ops_sound (hs : SelfOK P self) (ops : Array Oper) : ∀ (l : List Oper) (idx : List Nat), idx.map (ops[·]?) = l.map some → ∀ c e c', runOps self (compOps P ops l) c = some (e, c') →
  ∀ base ρ0 w0 ρ A w, ρ0.le ρ → Below base w0 w → Rel base ρ c A w → wpOpsIn (RF r) n P ops (CPost base ρ0 w0 e c') idx A w := by
 intro l
 induction l with
 | nil =>
  intro idx hi c e c' h base ρ0 w0 ρ A w h1 h2 hr
  have hi : idx = [] := by simpa using hi
  subst hi
  have h : some (EExit.normal, c) = some (e, c') := h
  cases h
  exact CPost.mk h1 h2 hr rfl
 | cons o l ih =>
  intro idx hi c e c' h base ρ0 w0 ρ A w h1 h2 hr
  cases idx with
  | nil => simp at hi
  | cons i idx =>
  simp only [List.map_cons, List.cons.injEq] at hi
  obtain ⟨hio, hi⟩ := hi
  have ih := fun {c e c'} hh => ih idx hi c e c' hh base ρ0 w0
  replace h : stepE self (runOps self (compOps P ops l)) (compStep P ops o) c = some (e, c') := h
  obtain ⟨fr, ds, s⟩ := c
  have hop := compOp_eq (P := P) o.op s (evF fr)
  unfold compStep at h
  cases hc : compOp P o.op with
  | mk f =>
  rw [hc] at h hop
  simp only [runOpF] at hop
  simp only [stepE] at h
  rw [hop] at h
  have hw := wanted_rel hr.f ops o
  simp only at hw
  simp only [wpOpsIn, hio]
  have hru := (VRel.eq_1 ρ (.tuple #[])).mpr rfl
  cases hwt : wantedE (guardOf ops o) fr with
  | false =>
   rw [hwt] at h
   rw [hwt] at hw
   simp only [cond_false] at h
   rw [← hw]
   simp only [Bool.false_eq_true, if_false]
   refine ⟨fun f' _ => RF_fn _ _, ih h ρ _ w h1 h2 ⟨putE_rel hr.f hru o.dst, ?_, hr.s⟩⟩
   rw [put_defers]; exact hr.d
  | true =>
   rw [hwt] at h
   rw [hwt] at hw
   simp only [cond_true] at h
   rw [← hw]
   simp only [if_true]
   unfold nextE at h
   split at h
   all_goals try rename_i hopv
   case h_5 => cases h
   all_goals
    have hnd : ∀ cc, o.op ≠ .defer cc := fun cc ec => by rw [ec, opE_defer] at hopv; cases hopv
    have hrel := opE_rel hr.s (evF_rel hr.f) hopv
    refine ⟨fun f' _ => RF_fn _ _, ?_⟩
    rw [Oper.semAt_eq _ _ _ hnd]
   ·rename_i v s1
    obtain ⟨ρ', X, w', g1, g2, g3, g4, g5⟩ := hrel
    rw [g2, Oper.uponIn_value]
    refine ih h ρ' _ w' (Env.le_trans h1 g1) (h2.trans g5) ⟨putE_rel (hr.f.mono g1) g3 o.dst, ?_, g4⟩
    rw [put_defers]; exact hr.d.mono g1
   ·rename_i s1
    obtain ⟨w', g2, g4, g5⟩ := hrel
    rw [g2, Oper.uponIn_skip]
    refine ih h ρ _ w' h1 (h2.trans g5) ⟨putE_rel hr.f hru o.dst, ?_, g4⟩
    rw [put_defers]; exact hr.d
   ·rename_i v s1
    cases h
    obtain ⟨rfl, X, g2, g3⟩ := hrel
    rw [g2, Oper.uponIn_panic]
    exact CPost.mk h1 h2 ⟨hr.f, hr.d, hr.s⟩ ⟨X, rfl, g3⟩
   ·rename_i t s1
    have tail : ∀ (E : Ending) (w' : World) (ee : EEnd) (s2 : St), self t s = some (ee, s2) → Post base ρ w ee s2 E w' →
      (match E, w' with
        | .returned v, w'' => wpOpsIn (RF r) n P ops (CPost base ρ0 w0 e c') idx (A.put o.dst v) w''
        | .panicked chain, w'' => CPost base ρ0 w0 e c' (.panic chain) A w''
        | .outgrown, _ => LetsOut (CPost base ρ0 w0 e c')) := by
     intro E w' ee s2 hself hpost
     have hs1 : s1 = s := by
      cases t with
      | fn f' a' => exact hrel.1
      | round l' a' => exact hrel.1
     subst hs1
     rw [hself] at h
     obtain ⟨ρ', g1, g3, g4, g5⟩ := hpost
     cases ee with
     | ret v =>
      obtain ⟨X, rfl, g6⟩ := g3
      simp only at h ⊢
      refine ih h ρ' _ w' (Env.le_trans h1 g1) (h2.trans g5) ⟨putE_rel (hr.f.mono g1) g6 o.dst, ?_, g4⟩
      rw [put_defers]; exact hr.d.mono g1
     | pan v =>
      obtain ⟨X, rfl, g6⟩ := g3
      simp only at h ⊢
      cases h
      exact CPost.mk (Env.le_trans h1 g1) (h2.trans g5) ⟨hr.f.mono g1, hr.d.mono g1, g4⟩ ⟨X, rfl, g6⟩
    have hsome : ∃ ee s2, self t s = some (ee, s2) := by
     have hs1 : s1 = s := by
      cases t with
      | fn f' a' => exact hrel.1
      | round l' a' => exact hrel.1
     subst hs1
     cases hself : self t s1 with
     | none => rw [hself] at h; cases h
     | some p => exact ⟨p.1, p.2, rfl⟩
    obtain ⟨ee, s2, hself⟩ := hsome
    have hcon := hs t s ee s2 hself base ρ w hr.s (n - 1)
    cases t with
    | fn f' a' =>
     obtain ⟨rfl, A', g2, g3⟩ := hrel
     rw [g2, Oper.uponIn_enter]
     refine ⟨fun hh => by simp [RF_depth] at hh, callsIn_RF ((hcon A' g3).mono fun E w' hp => ?_)⟩
     have := tail E w' ee s2 hself hp
     cases E <;> exact this
    | round l' a' =>
     obtain ⟨rfl, x, L, A', g1, g2, g3, g4, g5⟩ := hrel
     rw [g5, Oper.uponIn_round]
     refine ⟨fun hh => by simp [RF_depth] at hh, roundIn_RF ((hcon x L A' g1 g2 g3 g4).mono fun E w' hp => ?_)⟩
     have := tail E w' ee s2 hself hp
     cases E <;> exact this

theorem range_map {α : Type} (ops : Array α) : (List.range ops.size).map (ops[·]?) = ops.toList.map some := by
 apply List.ext_getElem?
 intro i
 rw [List.getElem?_map, List.getElem?_map]
 by_cases hi : i < ops.size
 ·rw [List.getElem?_range hi]
  simp [hi]
 ·rw [List.getElem?_eq_none (by simpa using hi), List.getElem?_eq_none (by simpa using hi)]
  rfl

theorem resolve_fn {A : Act} {cl : Call} {f : Operand} {fv : FuncId} {A1 C1 : Array Value} (hc : cl.callee = .value f) (e1 : A.eval f = .func (.func fv) A1 C1) (ty : TypeId) {w : World} :
  (resolve A.eval cl ty).run P w = .ok { target := .fn (.func fv) C1, args := A1 ++ cl.args.map A.eval } w := by
 simp only [resolve, hc, Sem.run_bind, e1, Deferred.ofValue, Sem.run_pure, Result.andThen_ok]

theorem dfer_sound (ops : Array Oper) : ∀ (l : List Oper) (idx : List Nat), idx.map (ops[·]?) = l.map some → ∀ c e c', dferE P l c = some (e, c') →
  ∀ base ρ0 w0 ρ A w, ρ0.le ρ → Below base w0 w → Rel base ρ c A w → wpOpsIn (RF none) n P ops (CPost base ρ0 w0 e c') idx A w := by
 intro l
 induction l with
 | nil =>
  intro idx hi c e c' h base ρ0 w0 ρ A w h1 h2 hr
  have hi : idx = [] := by simpa using hi
  subst hi
  simp only [dferE] at h
  cases h
  exact CPost.mk h1 h2 hr rfl
 | cons o l ih =>
  intro idx hi c e c' h base ρ0 w0 ρ A w h1 h2 hr
  cases idx with
  | nil => simp at hi
  | cons i idx =>
  simp only [List.map_cons, List.cons.injEq] at hi
  obtain ⟨hio, hi⟩ := hi
  have ih := fun {c e c'} hh => ih idx hi c e c' hh base ρ0 w0
  simp only [dferE] at h
  split at h
  ·cases h
  rename_i hg
  have hw : Region.wanted o (yielded ops A.tmps) = true := by unfold Region.wanted; rw [hg]
  have hru := (VRel.eq_1 ρ (.tuple #[])).mpr rfl
  simp only [wpOpsIn, hio, hw, if_true]
  split at h
  ·rename_i cl hop
   split at h
   ·rename_i f hc
    split at h
    ·rename_i g first cap vs hf hvs
     cases hb : bodyOK P g with
     | false => rw [hb] at h; cases h
     | true =>
      rw [hb, cond_true] at h
      refine ⟨fun f' _ => RF_fn _ _, ?_⟩
      have e1 := evF_rel hr.f _ _ hf
      simp only [VRel] at e1
      obtain ⟨A1, C1, e1, e2, e3⟩ := e1
      have e4 := evalOs_rel (evF_rel hr.f) hvs
      rw [← map_toList] at e4
      have hrun : (o.semAt (RF none).round A.eval).run P w = .ok (.defer { target := .fn (.func g) C1, args := A1 ++ cl.args.map A.eval }) w := by
       show (o.semAt none A.eval).run P w = _
       rw [Oper.semAt_none]
       unfold execOp
       simp only [hop, Sem.run_bind, resolve_fn hc e1, Result.andThen_ok, Sem.run_pure]
      rw [hrun, Oper.uponIn_defer]
      refine ih h ρ _ w h1 h2 ⟨putE_rel (A := { A with defers := _ :: A.defers }) hr.f hru o.dst, ?_, hr.s⟩
      rw [put_defers]
      refine ⟨A1 ++ cl.args.map A.eval, C1, A.defers, rfl, ?_, e3, hr.d⟩
      rw [lapp_eq, Array.toList_append]
      exact e2.append e4
    ·cases h
   ·cases h
  ·split at h
   ·rename_i v hv
    exact qop_sound hr.s (evF_rel hr.f) hv fun X hX => ih h ρ _ w h1 h2 ⟨putE_rel hr.f hX o.dst, by rw [put_defers]; exact hr.d, hr.s⟩
   ·cases h

theorem region_sound (hs : SelfOK P self) (id : Nat) (ops : Array Oper) (draw : Bool) : CodeOK P ro r n (.region id ops draw) (regionE P self ro ops draw) := by
 intro c e c' h base ρ0 w0 ρ A w h0 h1 h2 hr
 cases draw with
 | false =>
  simp only [regionE] at h
  cases hd : hasDefer ops.toList with
  | true =>
   rw [hd, cond_true] at h
   cases ro with
   | some l => cases h
   | none =>
    have h0 : r = none := h0
    subst h0
    exact wpIn_region (dfer_sound ops ops.toList _ (range_map ops) c e c' h base ρ0 w0 ρ A w h1 h2 hr)
  | false =>
   rw [hd, cond_false] at h
   exact wpIn_region (ops_sound hs ops ops.toList _ (range_map ops) c e c' h base ρ0 w0 ρ A w h1 h2 hr)
 | true =>
  obtain ⟨hm, s0, M, R, dead, hpre, D, hfin⟩ := drawE_spec hr.f.ok h
  have hS0 := hr.s.ahead hpre.old hpre.le
  have hle0 : ρ.le ⟨ρ.f, s0.next⟩ := ⟨fun _ _ e => e, Nat.le_trans hr.s.top hpre.le, fun _ _ e => e⟩
  refine wpIn_region_any hm ?_
  have hw : Below base w0 { w with drawn := w.drawn + 1 } := h2.trans ⟨rfl, rfl, rfl, Nat.le_refl _, fun _ _ => rfl⟩
  refine draw_any hs D hfin (fun i b hb => Nat.le_trans h1.top (Nat.le_trans hr.s.top (hpre.new i b hb).1)) hpre.one ops.size _ c.tmps 0 ⟨ρ.f, s0.next⟩ A _ ⟨by simp, ?_, hr.f.ok, rfl, ?_, fun _ _ => rfl, Nat.zero_le _, ?_⟩ ?_ (fun k _ => ?_) (fun i b hb _ => ⟨?_, (hpre.new i b hb).2⟩) (Env.le_trans h1 hle0) hw (hr.f.mono hle0) (hr.d.mono hle0) ⟨hS0.le, hS0.obj, hS0.inj, hS0.dom, hS0.top⟩
  ·intro i o ho hl
   by_cases hi : i < ops.size <;> simp [hi] at hl
  ·intro k rk t _ _ hl
   by_cases hi : k < ops.size <;> simp [hi] at hl
  ·intro q e he
   constructor
   ·intro hl
    by_cases hi : e.1 < ops.size <;> simp [hi] at hl
   ·omega
  ·refine Nat.le_trans List.countP_le_length ?_
   simp
  ·by_cases hi : k < ops.size <;> simp [hi]
  ·cases e : ρ b with
   | none => rfl
   | some x => have := hr.s.dom b x e; have := (hpre.new i b hb).1; omega

section
variable {F : Fence} {b : Frame} {a : Act} {k : List Item} {cs : List Frame} {w : World} {Q : Exit → Act → World → Prop}
theorem stepR_scope {c : Code} : step P (lone (b.atR a (.code (.scope c) :: k)) cs w) = .next (lone (b.atR a (.code c :: .inScope c :: k)) cs w) := step_lone_go (by simp [stepG, stepG.exec, Frame.atR])
theorem stepR_inScope {c : Code} : step P (lone (b.atR a (.inScope c :: k)) cs w) = .next (lone (b.atR a k) cs w) := step_lone_go (by simp [stepG, stepG.exec, Frame.atR])
theorem wpIn_scope {c : Code} (h : c.wpIn F n P (fun e a' w' => (∀ l, e ≠ .goto l) ∧ Q e a' w') a w) : (Code.scope c).wpIn F n P Q a w := by
 intro b k cs hro hb hr
 have h0 : (lone (b.atR a (.code (.scope c) :: k)) cs w).fenced P F := fenced_calm hb hr rfl
 obtain ⟨e, a₁, w₁, hq, harr⟩ := h b (.inScope c :: k) cs hro hb hr
 cases e with
 | normal => exact ⟨.normal, a₁, w₁, hq.2, .head h0 stepR_scope (StepsIn.trans harr (.one (fenced_calm hb hr rfl) stepR_inScope))⟩
 | exit id =>
  have hx : exitTo id (.inScope c :: k) = exitTo id k := by simp [exitTo]
  exact ⟨.exit id, a₁, w₁, hq.2, fun k' hk => .head h0 stepR_scope (harr.1 k' (by rw [hx]; exact hk)),
    fun hr' hk => let ⟨k₁, h1, h2⟩ := harr.2 hr' (by rw [hx]; exact hk); ⟨k₁, h1, .head h0 stepR_scope h2⟩⟩
 | goto l => exact absurd rfl (hq.1 l)
 | ret => exact ⟨_, a₁, w₁, hq.2, .of_steps (.one h0 stepR_scope) harr⟩
 | panic ch => exact ⟨_, a₁, w₁, hq.2, .of_steps (.one h0 stepR_scope) harr⟩
 | outgrown => exact ⟨_, a₁, w₁, hq.2, .of_steps (.one h0 stepR_scope) harr⟩
end
theorem scope_sound {a : Code} {fa : Cfg → Option (EExit × Cfg)} (ha : CodeOK P ro r n a fa) : CodeOK P ro r n (.scope a) fa := by
 intro c e c' h base ρ0 w0 ρ A w h0 h1 h2 hr
 refine wpIn_scope (wpIn_mono (ha c _ _ h base ρ0 w0 ρ A w h0 h1 h2 hr) ?_)
 rintro E A1 w1 hp
 refine ⟨fun l hl => ?_, hp⟩
 obtain ⟨ρ', _, g, _⟩ := hp
 subst hl
 cases e with
 | normal => cases g
 | exit id => cases g
 | ret => cases g
 | pan v => obtain ⟨X, g, _⟩ := g; cases g

theorem seq_sound {a b : Code} {fa fb : Cfg → Option (EExit × Cfg)} (ha : CodeOK P ro r n a fa) (hb : CodeOK P ro r n b fb) : CodeOK P ro r n (.seq a b) (seqE fa fb) := by
 intro c e c' h base ρ0 w0 ρ A w h0 h1 h2 hr
 refine wpIn_seq ?_
 unfold seqE at h
 split at h
 ·rename_i c1 hc1
  refine wpIn_mono (ha c _ _ hc1 base ρ0 w0 ρ A w h0 h1 h2 hr) ?_
  rintro E A1 w1 ⟨ρ', g1, g2, g3, g4, g5, g6⟩
  have g2 : E = .normal := g2
  subst g2
  exact hb c1 e c' h base ρ0 w0 ρ' A1 w1 h0 g1 g6 ⟨g3, g4, g5⟩
 ·rename_i hne
  refine wpIn_mono (ha c e c' h base ρ0 w0 ρ A w h0 h1 h2 hr) ?_
  intro E A1 w1 hq
  cases e with
  | normal => exact absurd h (hne c')
  | exit id => obtain ⟨ρ', g1, g2, g3⟩ := hq; have g2 : E = .exit id := g2; subst g2; exact ⟨ρ', g1, rfl, g3⟩
  | ret => obtain ⟨ρ', g1, g2, g3⟩ := hq; have g2 : E = .ret := g2; subst g2; exact ⟨ρ', g1, rfl, g3⟩
  | pan v => obtain ⟨ρ', g1, ⟨X, rfl, g2⟩, g3⟩ := hq; exact ⟨ρ', g1, ⟨X, rfl, g2⟩, g3⟩

theorem cond_sound {x : Operand} {a b : Code} {fa fb : Cfg → Option (EExit × Cfg)} (ha : CodeOK P ro r n a fa) (hb : CodeOK P ro r n b fb) : CodeOK P ro r n (.cond x a b) (condE x fa fb) := by
 intro c e c' h base ρ0 w0 ρ A w h0 h1 h2 hr
 unfold condE at h
 split at h
 ·rename_i hx
  have := evF_rel hr.f x _ hx
  simp only [VRel] at this
  exact wpIn_cond_true this (ha c e c' h base ρ0 w0 ρ A w h0 h1 h2 hr)
 ·rename_i hx
  have := evF_rel hr.f x _ hx
  simp only [VRel] at this
  exact wpIn_cond_false this (hb c e c' h base ρ0 w0 ρ A w h0 h1 h2 hr)
 ·cases h

theorem block_sound {id : Nat} {b : Code} {fb : Cfg → Option (EExit × Cfg)} (hb : CodeOK P ro r n b fb) : CodeOK P ro r n (.block id b) (blockE id fb) := by
 intro c e c' h base ρ0 w0 ρ A w h0 h1 h2 hr
 refine wpIn_block ?_
 unfold blockE at h
 split at h
 ·rename_i id' c1 hc1
  refine wpIn_mono (hb c _ _ hc1 base ρ0 w0 ρ A w h0 h1 h2 hr) ?_
  rintro E A1 w1 ⟨ρ', g1, g2, g3⟩
  have g2 : E = .exit id' := g2
  subst g2
  cases hid : Nat.beq id' id with
  | true =>
   have e1 : id' = id := by simpa using hid
   rw [hid] at h; cases h
   simp only [Exit.inBlock, e1, if_true]
   exact ⟨ρ', g1, rfl, g3⟩
  | false =>
   have e1 : id' ≠ id := by intro e; subst e; simp at hid
   rw [hid] at h; cases h
   simp only [Exit.inBlock, e1, if_false]
   exact ⟨ρ', g1, rfl, g3⟩
 ·rename_i hne
  refine wpIn_mono (hb c e c' h base ρ0 w0 ρ A w h0 h1 h2 hr) ?_
  intro E A1 w1 hq
  cases e with
  | exit id => exact absurd h (hne id c')
  | normal => obtain ⟨ρ', g1, g2, g3⟩ := hq; have g2 : E = .normal := g2; subst g2; exact ⟨ρ', g1, rfl, g3⟩
  | ret => obtain ⟨ρ', g1, g2, g3⟩ := hq; have g2 : E = .ret := g2; subst g2; exact ⟨ρ', g1, rfl, g3⟩
  | pan v => obtain ⟨ρ', g1, ⟨X, rfl, g2⟩, g3⟩ := hq; exact ⟨ρ', g1, ⟨X, rfl, g2⟩, g3⟩

theorem loop_sound {b : Code} {fb : Cfg → Option (EExit × Cfg)} (hb : CodeOK P ro r n b fb) (fuel : Nat) : CodeOK P ro r n (.loop b) (iterE fb fuel) := by
 intro c e c' h base ρ0 w0 ρ A w h0 h1 h2 hr
 refine wpIn_loop_rounds fuel ?_
 induction fuel generalizing c ρ A w with
 | zero => cases h
 | succ m ih =>
  rw [roundsIn_succ]
  have h : (match fb c with | some (.normal, c') => iterE fb m c' | r => r) = some (e, c') := h
  split at h
  ·rename_i c1 hc1
   refine wpIn_mono (hb c _ _ hc1 base ρ0 w0 ρ A w h0 h1 h2 hr) ?_
   rintro E A1 w1 ⟨ρ', g1, g2, g3, g4, g5, g6⟩
   have g2 : E = .normal := g2
   subst g2
   exact ih c1 h ρ' A1 w1 g1 g6 ⟨g3, g4, g5⟩
  ·rename_i hne
   refine wpIn_mono (hb c e c' h base ρ0 w0 ρ A w h0 h1 h2 hr) ?_
   intro E A1 w1 hq
   cases e with
   | normal => exact absurd h (hne c')
   | exit id => obtain ⟨ρ', g1, g2, g3⟩ := hq; have g2 : E = .exit id := g2; subst g2; exact ⟨ρ', g1, rfl, g3⟩
   | ret => obtain ⟨ρ', g1, g2, g3⟩ := hq; have g2 : E = .ret := g2; subst g2; exact ⟨ρ', g1, rfl, g3⟩
   | pan v => obtain ⟨ρ', g1, ⟨X, rfl, g2⟩, g3⟩ := hq; exact ⟨ρ', g1, ⟨X, rfl, g2⟩, g3⟩
end
end Go.Eng
end
