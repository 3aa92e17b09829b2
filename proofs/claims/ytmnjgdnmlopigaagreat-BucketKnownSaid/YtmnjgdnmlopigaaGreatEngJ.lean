/-
  The evaluator's append and copy; maps.
-/
import Derived.Test.YtmnjgdnmlopigaaGreatEngI
namespace Go.Eng
open Go.RowKit (Below)
set_option linter.unusedSimpArgs false
set_option linter.unusedVariables false

noncomputable section
variable (P : Program)
def modE (l : List (V × V × Nat)) (i : Nat) (k v : V) : List (V × V × Nat) :=
  match l, i with
  | [], _ => []
  | e :: l, 0 => (k, v, e.2.2) :: l
  | e :: l, i + 1 => e :: modE l i k v
def eMakeMap (s : St) (t : TypeId) (r : Option V) : Option (V × St) :=
  match r with
  | none => some (.map s.next, s.new (.map [] 0))
  | some h => match P.underlying t, natOf h with
    | some (.map _ _), some _ => some (.map s.next, s.new (.map [] 0))
    | _, _ => none
def eMapUpdate (s : St) (t : TypeId) (m k v : V) : Option St :=
  match P.underlying t with
  | some (.map kt _) =>
    bif !plainKeyE P kt k then none else
    match m with
    | .map b => match s.heap.get b with
      | some (.map es c) => match findE k es 0 with
        | some (some (i, _)) => some (s.upd b (.map (modE es i k v) c))
        | some none => some (s.upd b (.map (lapp es [(k, v, c)]) (c + 1)))
        | none => none
      | _ => none
    | _ => none
  | _ => none
def eMapEntry (s : St) (t : TypeId) (m k : V) : Option (V × St) :=
  match P.underlying t with
  | some (.map kt e) =>
    bif !plainKeyE P kt k then none else
    match m with
    | .map b => match s.heap.get b with
      | some (.map es c) => match findE k es 0 with
        | some (some (i, v)) => match lget es i with
          | some x => some (.tup [v, .int .i64 (Int.ofNat x.2.2)], s.upd b (.map (modE es i k v) c))
          | none => none
        | some none => match zeroE P e with
          | some z => some (.tup [z, .int .i64 (Int.ofNat c)], s.upd b (.map (lapp es [(k, z, c)]) (c + 1)))
          | none => none
        | none => none
      | _ => none
    | _ => none
  | _ => none
def stampE (n : Nat) : List (V × V × Nat) → Nat → Option Nat
  | [], _ => none
  | e :: l, i => bif Nat.beq e.2.2 n then some i else stampE n l (i + 1)
def setVal (l : List (V × V × Nat)) (i : Nat) (v : V) : List (V × V × Nat) :=
  match l, i with
  | [], _ => []
  | e :: l, 0 => (e.1, v, e.2.2) :: l
  | e :: l, i + 1 => e :: setVal l i v
def eEntryStore (s : St) (m st v : V) : Option St :=
  match m, natOf st with
  | .map b, some n => match s.heap.get b with
    | some (.map es c) => match stampE n es 0 with
      | some i => some (s.upd b (.map (setVal es i v) c))
      | none => none
    | _ => none
  | _, _ => none
def delE (l : List (V × V × Nat)) (i : Nat) : List (V × V × Nat) :=
  match l, i with
  | [], _ => []
  | _ :: l, 0 => l
  | e :: l, i + 1 => e :: delE l i
def eDelete (s : St) (ts : Array TypeId) (m k : V) : Option (V × St) :=
  match ts[0]? with
  | none => none
  | some t =>
  match P.underlying t with
  | some (.map kt _) =>
    bif !plainKeyE P kt k then none else
    match m with
    | .nilm => some (.undef, s)
    | .map b => match s.heap.get b with
      | some (.map es c) => match findE k es 0 with
        | some (some (i, _)) => some (.undef, s.upd b (.map (delE es i) c))
        | some none => some (.undef, s.upd b (.map es c))
        | none => none
      | _ => none
    | _ => none
  | _ => none
def eClear (s : St) (ts : Array TypeId) (m : V) : Option (V × St) :=
  match ts[0]? with
  | none => none
  | some t =>
  match P.underlying t, m with
  | some (.map _ _), .nilm => some (.undef, s)
  | some (.map _ _), .map b => match s.heap.get b with
    | some (.map es c) => some (.undef, s.upd b (.map [] c))
    | _ => none
  | some (.slice _), .nils => some (.undef, s)
  | some (.slice e), .sl b o len _ _ es =>
    bif Nat.beq len 0 then some (.undef, s) else
    match zeroE P e, s.heap.get b with
    | some z, some (.cells cs t' ish) =>
      bif Nat.beq (llen (cellsV z)) es && (Nat.ble (o + len * es) (llen cs) && lall oneV (cellsV z)) then some (.undef, s.upd b (.cells (setAll cs o (repE len (cellsV z))) t' ish)) else none
    | _, _ => none
  | _, _ => none
end

section
variable {P : Program} {base : Nat} {ρ : Env} {s : St} {w : World}

theorem zeroCells_rel {zs : List V} {Z : Array Value} (hz : LRel ρ zs Z.toList) (n : Nat) : LRel ρ (repE n zs) (Builtin.zeroCells Z n).toList := by
  have h := range_rep hz n
  have hl := hz.length
  simp only [Array.length_toList] at hl
  rw [hl] at h
  exact h
theorem zeroCells_size (Z : Array Value) (n : Nat) : (Builtin.zeroCells Z n).size = n * Z.size := by simp [Builtin.zeroCells]

theorem bool_not_cond {α : Type} {b : Bool} {x y : α} {z : α} (h : (bif !b then x else y) = z) (hx : x ≠ z) : b = true ∧ y = z := by
  cases b
  · exact absurd h hx
  · exact ⟨rfl, h⟩

theorem srcCells_length {x : V} {n sz : Nat} {l : List V} (hn : lenE x = some n) (hq : srcCells s x sz = some l) : l.length = n * sz := by
  cases x <;> simp only [lenE, reduceCtorEq, Option.some.injEq] at hn
  case str y =>
    subst hn
    simp only [srcCells] at hq
    cases hb : Nat.beq sz 1 with
    | false => simp [hb] at hq
    | true =>
      simp only [hb, cond_true, Option.some.injEq, bytesV_eq] at hq
      subst hq
      have : sz = 1 := by simpa using hb
      simp [BS.list, dig_length, this]
  case nils =>
    subst hn
    simp [srcCells, esOk, lenE, sliceCells] at hq
    subst hq; simp
  case slz x =>
    subst hn
    simp [srcCells, esOk, lenE, sliceCells] at hq
    subst hq; simp
  case sl b o len cap x es =>
    subst hn
    simp only [srcCells, esOk, lenE] at hq
    cases hb : Nat.beq es sz with
    | false => simp [hb] at hq
    | true =>
      have : es = sz := by simpa using hb
      subst this
      simp only [hb, cond_true, sliceCells, llen_eq, ltake_eq, ldrop_eq] at hq
      split at hq
      · rename_i cs _
        cases hbb : Nat.ble (o + len * es) cs.length with
        | false => simp [hbb] at hq
        | true =>
          simp only [hbb, cond_true, Option.some.injEq] at hq
          subst hq
          rw [Nat.ble_eq] at hbb
          simp; omega
      · cases hq

theorem srcE_length {ts : Array TypeId} {i : TypeInfo} {z x : V} {n : Nat} {l : List V} (hz : (cellsV z).length = i.size) (hq : srcE P s ts i z x = some (n, l)) : l.length = n * i.size := by
  unfold srcE at hq
  cases h0 : zerosE P ts with
  | true =>
    rw [h0, cond_true] at hq
    split at hq
    · split at hq
      · split at hq
        · rename_i m
          cases hb : (Nat.ble (m * i.bytes) 281474976710656 && Nat.ble m 1099511627776) with
          | false => rw [hb] at hq; cases hq
          | true => rw [hb, cond_true] at hq; cases hq; rw [repE_length, hz]
        · cases hq
      · cases hq
    · cases hq
  | false =>
    rw [h0, cond_false] at hq
    split at hq
    · rename_i hn
      split at hq
      · rename_i hnew
        cases hq
        exact srcCells_length hn hnew
      · cases hq
    · cases hq

theorem srcE_rel {w' : World} (h : SRel base ρ s w) (h' : SRel base ρ s w') {ts : Array TypeId} {e : TypeId} {i : TypeInfo} (hi : P.info? e = some i) {z x : V} (hzz : zeroE P e = some z) (hz : (cellsV z).length = i.size) {n : Nat} {l : List V} (hq : srcE P s ts i z x = some (n, l)) {X : Value} (hx : VRel ρ x X) :
    ∃ L : List Value, SrcOK P ts e i X n w w' L ∧ LRel ρ l L := by
  unfold srcE at hq
  cases h0 : zerosE P ts with
  | true =>
    rw [h0, cond_true] at hq
    split at hq
    · rename_i t1 h1
      split at hq
      · rename_i k hu
        split at hq
        · rename_i m
          cases hb : (Nat.ble (m * i.bytes) 281474976710656 && Nat.ble m 1099511627776) with
          | false => rw [hb] at hq; cases hq
          | true =>
            rw [hb, cond_true] at hq
            cases hq
            simp only [Bool.and_eq_true, Nat.ble_eq] at hb
            simp only [VRel] at hx
            obtain ⟨Z, hZ, hzr, _⟩ := zeroE_rel (ρ := ρ) (w := w') hzz
            have hrep := range_rep (cellsV_rel hzr) n
            refine ⟨(Builtin.zeroCells Z.cells n).toList, .inr ⟨⟨t1, k, h1, hu⟩, hx, hb.1, hb.2, ?_⟩, ?_⟩
            · by_cases hn : n * i.size = 0
              · refine .inl ⟨hn, ?_⟩
                have hs : (Builtin.zeroCells Z.cells n).size = 0 := by
                  have hl := (cellsV_rel hzr).length
                  simp only [Array.length_toList] at hl
                  rw [zeroCells_size, ← hl, hz, hn]
                have : Builtin.zeroCells Z.cells n = #[] := Array.eq_empty_of_size_eq_zero hs
                rw [this]
              · exact .inr ⟨hn, Z, hZ, by simp⟩
            · have hl := (cellsV_rel hzr).length
              simp only [Array.length_toList] at hl
              rw [hl] at hrep
              exact hrep
        · cases hq
      · cases hq
    · cases hq
  | false =>
    rw [h0, cond_false] at hq
    split at hq
    · rename_i m hn
      split at hq
      · rename_i new hnew
        cases hq
        obtain ⟨L, hL, hLr⟩ := srcCells_rel (P := P) h' hn hnew hx
        exact ⟨L, .inl ⟨h0, lenE_rel (P := P) (w := w) hn hx, hL⟩, hLr⟩
      · cases hq
    · cases hq

theorem eAppend_rel (h : SRel base ρ s w) {ts : Array TypeId} {ty : TypeId} {a x v : V} {s' : St} (hq : eAppend P s ts a x = some (v, s')) {A X : Value} (ha : VRel ρ a A) (hx : VRel ρ x X) :
    OKv P base ρ (Builtin.append_ ts ty #[A, X]) w v s' := by
  unfold eAppend at hq
  simp only [llen_eq, lall_eq, ltake_eq, ldrop_eq, lapp_eq, lget_eq] at hq
  split at hq
  · cases hq
  rename_i t ht
  split at hq
  · rename_i e hd
    split at hq
    · rename_i i z hi hzz
      obtain ⟨hb0, hq⟩ := bool_not_cond hq (by simp)
      simp only [Bool.and_eq_true, Nat.ble_eq, Nat.beq_eq] at hb0
      split at hq
      · cases hq
      rename_i n new hnew
      have h' : SRel base ρ s { w with drawn := w.drawn + 1 } := h.same rfl
      obtain ⟨L, hL, hLr⟩ := srcE_rel (P := P) h h hi hzz hb0.1 hnew hx
      obtain ⟨L', hL', hLr'⟩ := srcE_rel (P := P) h h' hi hzz hb0.1 hnew hx
      obtain ⟨Z, hZ, hzr, _⟩ := zeroE_rel (ρ := ρ) (w := { w with drawn := w.drawn + 1 }) hzz
      have hzc := (cellsV_rel hzr).length
      simp only [Array.length_toList] at hzc
      -- how many cells are appended
      have hnc : new.length = n * i.size := srcE_length hb0.1 hnew
      split at hq
      · rename_i x' _
        have ha0 := ha
        simp only [VRel] at ha
        obtain ⟨ad, cz, rfl, hcz⟩ := ha
        cases hn0 : Nat.beq n 0 with
        | true =>
          simp only [hn0, cond_true, Option.some.injEq, Prod.mk.injEq] at hq
          obtain ⟨rfl, rfl⟩ := hq
          have e : n = 0 := by simpa using hn0
          subst e
          refine ⟨ρ, .slice (some ad) 0 cz, w, ρ.le_refl, ?_, ha0, h, Below.refl _ _⟩
          rw [run_append_in ht hd hi hL (by omega)]
          have hl := hLr.length
          rw [hnc, Nat.zero_mul] at hl
          have : L = [] := List.length_eq_zero_iff.1 hl.symm
          subst this
          simp [storeCells]
        | false =>
          simp only [hn0, cond_false] at hq
          cases hb : (x' && (Nat.ble ((2 * n + 768) * i.bytes) 281474976710656 && Nat.ble n 1099511627776)) with
          | false => simp [hb] at hq
          | true =>
          simp only [hb, cond_true, Option.some.injEq, Prod.mk.injEq] at hq
          obtain ⟨rfl, rfl⟩ := hq
          simp only [Bool.and_eq_true, Nat.ble_eq] at hb
          have := hcz hb.1
          subst this
          have hn1 : 0 < n := by
            rcases Nat.eq_zero_or_pos n with e | e
            · subst e; simp at hn0
            · exact e
          obtain ⟨cap', ⟨hc, hc2⟩, hrun⟩ := run_append_grow (P := P) (w := w) (ty := ty) (base := some ad) (len := 0) (cap := 0) (K := []) ht hd hi hL' (by simp [Builtin.firstCells, loadCells, loadCellsFrom]) hZ (by omega) (by simpa using hb.2.1) (by simpa using hb.2.2)
          simp only [Nat.zero_add, List.nil_append, Array.append_assoc] at hrun hc
          have hz2 : (#[] : Array Value) ++ (L'.toArray ++ Builtin.zeroCells Z.cells (cap' - n)) = L'.toArray ++ Builtin.zeroCells Z.cells (cap' - n) := by simp
          rw [hz2] at hrun
          obtain ⟨e1, e2, e3⟩ := h.newLong hLr' (Builtin.zeroCells Z.cells (cap' - n)) e e (w.drawn + 1)
          refine ⟨_, _, _, e1, hrun, ?_, e2, e3⟩
          simp only [VRel]
          refine ⟨_, _, _, cap', Env.put_same, rfl, Nat.le_refl _, hc, by simp, ?_, hc2⟩
          have hl := hLr'.length
          simp only [Array.size_append, zeroCells_size, List.size_toArray]
          rw [← hl, hnc, ← hzc, hb0.1, ← Nat.add_mul]
          simp only [Nat.zero_add]
          exact Nat.mul_le_mul_right _ (by omega)
      · -- nil
        simp only [VRel] at ha; subst ha
        cases hn0 : Nat.beq n 0 with
        | true =>
          simp only [hn0, cond_true, Option.some.injEq, Prod.mk.injEq] at hq
          obtain ⟨rfl, rfl⟩ := hq
          have e : n = 0 := by simpa using hn0
          subst e
          refine ⟨ρ, .slice none 0 0, w, ρ.le_refl, ?_, by simp only [VRel], h, Below.refl _ _⟩
          rw [run_append_in ht hd hi hL (by omega)]
          rfl
        | false =>
          simp only [hn0, cond_false] at hq
          cases hb : (Nat.ble ((2 * n + 768) * i.bytes) 281474976710656 && Nat.ble n 1099511627776) with
          | false => simp [hb] at hq
          | true =>
          simp only [hb, cond_true, Option.some.injEq, Prod.mk.injEq] at hq
          obtain ⟨rfl, rfl⟩ := hq
          simp only [Bool.and_eq_true, Nat.ble_eq] at hb
          have hn1 : 0 < n := by
            rcases Nat.eq_zero_or_pos n with e | e
            · subst e; simp at hn0
            · exact e
          obtain ⟨cap', ⟨hc, hc2⟩, hrun⟩ := run_append_grow (P := P) (w := w) (ty := ty) (base := none) (len := 0) (cap := 0) (K := []) ht hd hi hL' (by simp [Builtin.firstCells]) hZ (by omega) (by simpa using hb.1) (by simpa using hb.2)
          simp only [Nat.zero_add, List.nil_append, Array.append_assoc] at hrun hc
          have hz2 : (#[] : Array Value) ++ (L'.toArray ++ Builtin.zeroCells Z.cells (cap' - n)) = L'.toArray ++ Builtin.zeroCells Z.cells (cap' - n) := by simp
          rw [hz2] at hrun
          obtain ⟨e1, e2, e3⟩ := h.newLong hLr' (Builtin.zeroCells Z.cells (cap' - n)) e e (w.drawn + 1)
          refine ⟨_, _, _, e1, hrun, ?_, e2, e3⟩
          simp only [VRel]
          refine ⟨_, _, _, cap', Env.put_same, rfl, Nat.le_refl _, hc, by simp, ?_, hc2⟩
          have hl := hLr'.length
          simp only [Array.size_append, zeroCells_size, List.size_toArray]
          rw [← hl, hnc, ← hzc, hb0.1, ← Nat.add_mul]
          simp only [Nat.zero_add]
          exact Nat.mul_le_mul_right _ (by omega)
      · rename_i b o len cap x' es _
        obtain ⟨hes, hq⟩ := bool_not_cond hq (by simp)
        have hes : es = i.size := by simpa using hes
        subst hes
        have ha0 := ha
        simp only [VRel] at ha
        obtain ⟨B, O, S, cap', hB, rfl, c1, c2, c3, c4⟩ := ha
        cases hcap : Nat.ble (len + n) cap with
        | true =>
          simp only [hcap, cond_true] at hq
          rw [Nat.ble_eq] at hcap
          split at hq
          · rename_i cs t' ish hg
            cases hb : (Nat.ble (o + (len + n) * i.size) cs.length && new.all oneV) with
            | false => simp [hb] at hq
            | true =>
            simp only [hb, cond_true, Option.some.injEq, Prod.mk.injEq] at hq
            obtain ⟨rfl, rfl⟩ := hq
            simp only [Bool.and_eq_true, Nat.ble_eq] at hb
            have hmul : (len + n) * i.size = len * i.size + n * i.size := Nat.add_mul _ _ _
            obtain ⟨w', g1, g2, g3⟩ := h.write (P := P) hg hB hLr (o := o + len * i.size) (by omega) hb.2
            refine ⟨ρ, .slice (some ⟨B, O + o, none⟩) (len + n) cap', w', ρ.le_refl, ?_, ?_, g2, g3⟩
            · rw [run_append_in ht hd hi hL (by omega)]
              simp only [addr_add]
              simp only at g1
              rw [Nat.add_assoc, g1]
              rfl
            · simp only [VRel]
              exact ⟨B, O, S, cap', hB, rfl, hcap, c2, c3, c4⟩
          · cases hq
        | false =>
          simp only [hcap, cond_false] at hq
          have hcap' : cap < len + n := by
            refine Nat.lt_of_not_le fun hh => ?_
            rw [← Nat.ble_eq, hcap] at hh; cases hh
          obtain ⟨hb1, hq⟩ := bool_not_cond hq (by simp)
          simp only [Bool.and_eq_true, Nat.ble_eq] at hb1
          split at hq
          · rename_i cs t' ish hg
            obtain ⟨hb2, hq⟩ := bool_not_cond hq (by simp)
            simp only [Bool.and_eq_true, Nat.ble_eq] at hb2
            have hcsAt : cellsAt s b = some cs := by simp [cellsAt, hg]
            have hold : sliceCells s (.sl b o len cap x' i.size) len = some ((cs.drop o).take (len * i.size)) := by
              simp only [sliceCells, hcsAt, llen_eq, ltake_eq, ldrop_eq]
              have : Nat.ble (o + len * i.size) cs.length = true := by rw [Nat.ble_eq]; exact hb2.1
              rw [this]; rfl
            obtain ⟨K, hK, hKr⟩ := sliceCells_rel (P := P) h' (sz := i.size) (by simp [esOk]) hold ha0
            have hKlen : ((cs.drop o).take (len * i.size)).length = len * i.size := by simp; omega
            -- a new block
            have grow : cap' < len + n → ∃ ρ' Y w', ρ.le ρ' ∧ (Builtin.append_ ts ty #[.slice (some ⟨B, O + o, none⟩) len cap', X]).run P w = .ok Y w' ∧
                VRel ρ' (.sl s.next 0 (len + n) (len + n) false i.size) Y ∧ SRel base ρ' (s.new (.cells ((cs.drop o).take (len * i.size) ++ new) e false)) w' ∧ Below base w w' := by
              intro hgt
              obtain ⟨cap2, ⟨hc, hc2⟩, hrun⟩ := run_append_grow (P := P) (w := w) (ty := ty) ht hd hi hL' hK hZ hgt hb1.1 hb1.2
              have hKL : LRel ρ ((cs.drop o).take (len * i.size) ++ new) (K ++ L') := hKr.append hLr'
              obtain ⟨e1, e2, e3⟩ := h.newLong hKL (Builtin.zeroCells Z.cells (cap2 - (len + n))) e e (w.drawn + 1)
              have e4 : (K ++ L').toArray = K.toArray ++ L'.toArray := by simp
              rw [← e4] at hrun
              refine ⟨_, _, _, e1, hrun, ?_, e2, e3⟩
              simp only [VRel]
              refine ⟨_, _, _, cap2, Env.put_same, rfl, Nat.le_refl _, hc, by simp, ?_, hc2⟩
              have hl := hKL.length
              simp only [Array.size_append, zeroCells_size, List.size_toArray]
              rw [← hl, List.length_append, hKlen, hnc, ← hzc, hb0.1, ← Nat.add_mul, ← Nat.add_mul]
              simp only [Nat.zero_add]
              exact Nat.mul_le_mul_right _ (by omega)
            cases hx' : x' with
            | true =>
              simp only [hx', cond_true, Option.some.injEq, Prod.mk.injEq] at hq
              obtain ⟨rfl, rfl⟩ := hq
              exact grow (by rw [c3 hx']; exact hcap')
            | false =>
              simp only [hx', cond_false, Option.some.injEq, Prod.mk.injEq] at hq
              obtain ⟨rfl, rfl⟩ := hq
              rcases Nat.lt_or_ge cap' (len + n) with hgt | hle
              · obtain ⟨ρ', Y, w', g1, g2, g3, g4, g5⟩ := grow hgt
                refine ⟨ρ', Y, w', g1, g2, g3, ?_, g5⟩
                -- what is struck is asked for no more
                refine ⟨g4.le, ?_, ?_, g4.dom, g4.top⟩
                · intro k u z hk hz
                  simp only [St.move, T.get_set] at hk
                  have hk2 : (k = s.next ∧ u = .cells ((cs.drop o).take (len * i.size) ++ new) e ish) ∨ (k ≠ s.next ∧ s.heap.get k = some u) := by
                    split at hk
                    · rename_i ee; cases hk; exact .inl ⟨ee, rfl⟩
                    · rename_i ee
                      split at hk
                      · cases hk
                      · exact .inr ⟨ee, hk⟩
                  rcases hk2 with ⟨rfl, rfl⟩ | ⟨ee, hk⟩
                  · obtain ⟨y2, C, tt, fr, y3, y4, y5, y6, y7, y8⟩ := g4.obj s.next (.cells ((cs.drop o).take (len * i.size) ++ new) e false) z (by simp [St.new, T.get_set]) hz
                    exact ⟨y2, C, tt, fr, y3, y4, y5, y6, y7, fun _ => y8 rfl⟩
                  · exact g4.obj k u z (by simp only [St.new, T.get_set, ee, if_false]; exact hk) hz
                · intro k k' u u' y y' hk hk' hy hy' hne
                  have sub : ∀ k u, (s.move b (.cells ((cs.drop o).take (len * i.size) ++ new) e ish)).heap.get k = some u → ∃ u', (s.new (.cells ((cs.drop o).take (len * i.size) ++ new) e false)).heap.get k = some u' := by
                    intro k u hk
                    simp only [St.move, St.new, T.get_set] at hk ⊢
                    split at hk
                    · rename_i ee; exact ⟨_, by simp [ee]; rfl⟩
                    · rename_i ee
                      split at hk
                      · cases hk
                      · exact ⟨u, by simp [ee, hk]⟩
                  obtain ⟨u1, k1⟩ := sub k u hk
                  obtain ⟨u2, k2⟩ := sub k' u' hk'
                  exact g4.inj k k' u1 u2 y y' k1 k2 hy hy' hne
              · -- in place
                obtain ⟨C, tt, fr, e1, e2, e3, e4, e5, e6, e7⟩ := h.cellsObj hg hB
                simp only at e1 e2 e3 e4 e5 e7
                have hl := hLr.length
                have hmul : (len + n) * i.size = len * i.size + n * i.size := Nat.add_mul _ _ _
                have hfit : O + o + (len + n) * i.size ≤ S := Nat.le_trans (Nat.add_le_add_left (Nat.mul_le_mul_right _ hle) _) c4.1
                have hst := run_storeAll (P := P) L (O + (o + len * i.size)) 0 C w e1 (by rw [e2]; exact e5) (by omega) (allOne_rel hLr hb2.2)
                refine ⟨ρ.put s.next ⟨B, O + o, S⟩, .slice (some ⟨B, O + o, none⟩) (len + n) cap', _, Env.le_put _ h.fresh, ?_, ?_, h.move hg hB _ (.cells (setA C (O + (o + len * i.size)) L) tt fr) (O + o) rfl ?_, below_set e7 rfl⟩
                · rw [run_append_in ht hd hi hL hle]
                  simp only [addr_add]
                  rw [Nat.add_assoc, hst]
                  rfl
                · simp only [VRel]
                  exact ⟨B, O + o, S, cap', Env.put_same, rfl, Nat.le_refl _, hle, by simp, by omega⟩
                · refine ⟨_, tt, fr, rfl, by rw [setA_size]; exact e2, ?_, ?_, e5, e6⟩
                  · rw [List.length_append, hKlen, hnc]; show O + o + _ ≤ S; omega
                  · have hle' := Env.le_put ⟨B, O + o, S⟩ h.fresh
                    have hcp : CP ρ O (setAll (cs ++ List.replicate (o + (len + n) * i.size) .undef) (o + len * i.size) new) (setA C (O + (o + len * i.size)) L) ∨ True := .inr trivial
                    intro j u hj
                    simp only
                    have sa : ∀ (l : List Value) (C : Array Value) (p k : Nat), p + l.length ≤ C.size → (setA C p l)[k]? = if p ≤ k ∧ k < p + l.length then l[k - p]? else C[k]? := by
                      intro l
                      induction l with
                      | nil => intro C p k _; simp [setA]; omega
                      | cons c l ih =>
                        intro C p k hp
                        simp only [List.length_cons] at hp ⊢
                        simp only [setA]
                        rw [ih _ _ _ (by simp; omega)]
                        by_cases hk : k = p
                        · subst hk
                          rw [if_neg (by omega), if_pos (by omega), Array.getElem?_setIfInBounds_self_of_lt (by omega)]
                          simp
                        · by_cases hk2 : p + 1 ≤ k ∧ k < p + 1 + l.length
                          · rw [if_pos hk2, if_pos (by omega)]
                            obtain ⟨d, rfl⟩ : ∃ d, k = p + 1 + d := ⟨k - (p + 1), by omega⟩
                            rw [show p + 1 + d - (p + 1) = d from by omega, show p + 1 + d - p = d + 1 from by omega]
                            simp
                          · rw [if_neg hk2, if_neg (by omega), Array.getElem?_setIfInBounds_ne (by omega)]
                    have hlen2 : L.length = n * i.size := by rw [← hl, hnc]
                    rw [sa _ _ _ _ (by omega)]
                    rcases Nat.lt_or_ge j (len * i.size) with hj1 | hj1
                    · rw [if_neg (by omega)]
                      rw [List.getElem?_append_left (by omega), List.getElem?_take_of_lt hj1, List.getElem?_drop] at hj
                      obtain ⟨W, q1, q2⟩ := e4 _ _ hj
                      exact ⟨W, by rw [Nat.add_assoc]; exact q1, VRel.mono hle' _ _ q2⟩
                    · rw [List.getElem?_append_right (by omega), hKlen] at hj
                      have hj2 := (List.getElem?_eq_some_iff.1 hj).1
                      rw [if_pos (by omega)]
                      obtain ⟨W, q1, q2⟩ := hLr.get hj
                      refine ⟨W, ?_, VRel.mono hle' _ _ q2⟩
                      rw [← q1]; congr 1; omega
          · cases hq
      · cases hq
    · cases hq
  · cases hq

theorem eCopy_rel (h : SRel base ρ s w) {ts : Array TypeId} {ty : TypeId} {d x v : V} {s' : St} (hq : eCopy P s ts d x = some (v, s')) {D X : Value} (hd : VRel ρ d D) (hx : VRel ρ x X) :
    OKv P base ρ (Builtin.copy_ ts ty #[D, X]) w v s' := by
  unfold eCopy at hq
  simp only [llen_eq, lall_eq, ltake_eq, ldrop_eq, lapp_eq, lget_eq] at hq
  split at hq
  · cases hq
  rename_i t ht
  split at hq
  · rename_i e hu
    split at hq
    · rename_i sz dl xl hsz hdl hxl
      obtain ⟨hb0, hq⟩ := bool_not_cond hq (by simp)
      simp only [Bool.and_eq_true, Nat.ble_eq] at hb0
      split at hq
      · cases hq
      rename_i all hall
      have hlx := lenE_rel (P := P) (w := w) hxl hx
      have hlen := srcCells_length hxl hall
      -- the first cells of the source
      have key : ∃ L : List Value, (Builtin.firstCells sz (Nat.min xl dl) X).run P w = .ok L.toArray w ∧ LRel ρ (all.take (Nat.min xl dl * sz)) L := by
        unfold srcCells at hall
        split at hall
        · rename_i y
          cases hb : Nat.beq sz 1 with
          | false => simp [hb] at hall
          | true =>
            have hs1 : sz = 1 := by simpa using hb
            subst hs1
            simp only [hb, cond_true, Option.some.injEq, bytesV_eq] at hall
            subst hall
            simp only [VRel] at hx; subst hx
            simp only [lenE, Option.some.injEq] at hxl
            subst hxl
            refine ⟨(y.list.take (Nat.min y.n dl)).map fun b => Value.int .u8 b.toNat, ?_, ?_⟩
            · have e2 : (y.den.extract 0 (Nat.min y.n dl)).data.map (fun b => Value.int .u8 b.toNat) = ((y.list.take (Nat.min y.n dl)).map fun b => Value.int .u8 b.toNat).toArray := by
                apply Array.ext'
                simp [BS.den, BS.list, List.extract_eq_take_drop]
              simp only [Builtin.firstCells, e2, Sem.run_pure]
            · have := bytes_rel (ρ := ρ) (y.list.take (Nat.min y.n dl))
              rw [List.map_take] at this
              simpa using this
        · cases hb : esOk x sz with
          | false => simp [hb] at hall
          | true =>
            simp only [hb, cond_true, hxl] at hall
            have hsub : sliceCells s x (Nat.min xl dl) = some (all.take (Nat.min xl dl * sz)) := by
              have hmin : Nat.min xl dl ≤ xl := Nat.min_le_left _ _
              unfold sliceCells at hall ⊢
              simp only [llen_eq, ltake_eq, ldrop_eq] at hall ⊢
              split at hall
              · simp only [lenE, Option.some.injEq] at hxl
                subst hxl
                simp at hall
                subst hall
                have : Nat.min 0 dl = 0 := by simp
                simp [this]
              · simp only [lenE, Option.some.injEq] at hxl
                subst hxl
                simp at hall
                subst hall
                have : Nat.min 0 dl = 0 := by simp
                simp [this]
              · rename_i b o len cap x' es _
                have hes : es = sz := by simpa [esOk] using hb
                subst hes
                split at hall
                · rename_i cs hcs
                  cases hbb : Nat.ble (o + xl * es) cs.length with
                  | false => simp [hbb] at hall
                  | true =>
                    simp only [hbb, cond_true, Option.some.injEq] at hall
                    subst hall
                    rw [Nat.ble_eq] at hbb
                    have hm := Nat.mul_le_mul_right es hmin
                    have : Nat.ble (o + Nat.min xl dl * es) cs.length = true := by rw [Nat.ble_eq]; omega
                    rw [this]
                    simp only [cond_true, List.take_take]
                    rw [Nat.min_eq_left hm]
                · cases hall
              · cases hall
            exact sliceCells_rel h hb hsub hx
      obtain ⟨L, hL, hLr⟩ := key
      split at hq
      · cases hq
        simp only [VRel] at hd; subst hd
        simp only [lenE, Option.some.injEq] at hdl
        subst hdl
        refine ⟨ρ, .int .i64 0, w, ρ.le_refl, ?_, by simp only [VRel], h, Below.refl _ _⟩
        have : Nat.min xl 0 = 0 := by simp
        rw [this] at hL
        simp [Builtin.copy_, ht, run_und hu, hlx, run_size hsz, this, hL, goInt]
      · rename_i b o len cap x' es _
        split at hq
        · rename_i cs t' ish hg
          cases hb : (Nat.ble (o + (all.take (Nat.min xl dl * sz)).length) cs.length && (all.take (Nat.min xl dl * sz)).all oneV) with
          | false => rw [hb] at hq; cases hq
          | true =>
          rw [hb] at hq
          simp only [cond_true, Option.some.injEq, Prod.mk.injEq] at hq
          obtain ⟨rfl, rfl⟩ := hq
          simp only [Bool.and_eq_true, Nat.ble_eq] at hb
          simp only [VRel] at hd
          obtain ⟨B, O, S, cap', hB, rfl, _⟩ := hd
          simp only [lenE, Option.some.injEq] at hdl
          subst hdl
          obtain ⟨w', g1, g2, g3⟩ := h.write (P := P) hg hB hLr (o := o) hb.1 hb.2
          refine ⟨ρ, .int .i64 (Nat.min xl len : Nat), w', ρ.le_refl, ?_, vint _ _, g2, g3⟩
          simp only at g1
          simp [Builtin.copy_, ht, run_und hu, hlx, run_size hsz, hL, g1, goInt]
        · cases hq
      · cases hq
    · cases hq
  · cases hq

theorem getObj_map {B : Nat} {E : Array MapEntry} {c : Nat} (h : w.heap[B]? = some (.map E c)) : (getObj B).run P w = .ok (.map E c) w := by simp only [getObj, Sem.run, h]
theorem setObj_map {B : Nat} {E : Array MapEntry} {c : Nat} (h : w.heap[B]? = some (.map E c)) (o : Obj) : (setObj B o).run P w = .ok () { w with heap := w.heap.setIfInBounds B o } := by simp only [setObj, Sem.run, h]

theorem eMakeMap_rel (h : SRel base ρ s w) {t : TypeId} {r : Option V} {v : V} {s' : St} (hq : eMakeMap P s t r = some (v, s')) {R : Option Value} (hr : OptRel ρ r R) : OKv P base ρ (Instr.makeMap t R) w v s' := by
  have core : OKv P base ρ (do pure (.map (some (← newObj (.map #[] 0)))) : Sem Value) w (.map s.next) (s.new (.map [] 0)) := by
    have hle := Env.le_put ⟨w.heap.size, 0, 0⟩ h.fresh
    refine ⟨_, .map (some w.heap.size), { w with heap := w.heap.push (.map #[] 0) }, hle, by simp, ?_, h.new _ (.map #[] 0) 0 rfl ⟨#[], rfl, rfl⟩, below_new h.le rfl⟩
    simp only [VRel]; exact ⟨_, _, _, Env.put_same, rfl⟩
  unfold eMakeMap at hq
  split at hq
  · cases hq
    have hr : R = none := hr
    subst hr
    obtain ⟨ρ', X, w', h1, h2, h3⟩ := core
    exact ⟨ρ', X, w', h1, by simpa [Instr.makeMap] using h2, h3⟩
  · split at hq
    · rename_i hd hn
      cases hq
      obtain ⟨W, rfl, hW⟩ := hr
      obtain ⟨k, rfl⟩ := natOf_rel hn hW
      obtain ⟨ρ', X, w', h1, h2, h3⟩ := core
      exact ⟨ρ', X, w', h1, by simpa [Instr.makeMap, run_und hd, asInt, run_asIntOf] using h2, h3⟩
    · cases hq

theorem findE_bound {k : V} : ∀ {l : List (V × V × Nat)} {i j : Nat} {v : V}, findE k l i = some (some (j, v)) → ∃ e, i ≤ j ∧ l[j - i]? = some e ∧ keyEq k e.1 = some true ∧ e.2.1 = v
  | [], i, j, v, h => by simp [findE] at h
  | e :: l, i, j, v, h => by
    simp only [findE] at h
    split at h
    · rename_i he
      cases h
      exact ⟨e, Nat.le_refl _, by simp, he, rfl⟩
    · obtain ⟨e', h1, h2, h3, h4⟩ := findE_bound h
      refine ⟨e', by omega, ?_, h3, h4⟩
      obtain ⟨d, rfl⟩ : ∃ d, j = i + 1 + d := ⟨j - (i + 1), by omega⟩
      rw [show i + 1 + d - (i + 1) = d from by omega] at h2
      rw [show i + 1 + d - i = d + 1 from by omega]
      simpa using h2
    · cases h

theorem MRel.get : ∀ {l : List (V × V × Nat)} {E : List MapEntry}, MRel ρ l E → ∀ {i : Nat} {e : V × V × Nat}, l[i]? = some e → ∃ x, E[i]? = some x ∧ VRel ρ e.1 x.key ∧ VRel ρ e.2.1 x.val ∧ e.2.2 = x.born
  | [], _, _, i, e, h => by simp at h
  | a :: l, E, hr, i, e, h => by
    obtain ⟨x, y, rfl, h1, h2, h3, h4⟩ := hr
    cases i with
    | zero => simp at h; subst h; exact ⟨x, rfl, h1, h2, h3⟩
    | succ i => simp at h; simpa using MRel.get h4 h

theorem MRel.mod : ∀ {l : List (V × V × Nat)} {E : List MapEntry}, MRel ρ l E → ∀ (i : Nat) {k v : V} {K X : Value}, VRel ρ k K → VRel ρ v X → MRel ρ (modE l i k v) (E.modify i fun e => { e with key := K, val := X })
  | [], E, h, i, k, v, K, X, hk, hv => by have h : E = [] := h; subst h; simp [modE, MRel]
  | a :: l, E, hr, i, k, v, K, X, hk, hv => by
    obtain ⟨x, y, rfl, h1, h2, h3, h4⟩ := hr
    cases i with
    | zero => rw [List.modify_zero_cons]; exact ⟨_, _, rfl, hk, hv, h3, h4⟩
    | succ i => rw [List.modify_succ_cons]; exact ⟨x, _, rfl, h1, h2, h3, MRel.mod h4 i hk hv⟩
theorem MRel.snoc : ∀ {l : List (V × V × Nat)} {E : List MapEntry}, MRel ρ l E → ∀ {k v : V} {K X : Value} {c : Nat}, VRel ρ k K → VRel ρ v X → MRel ρ (l ++ [(k, v, c)]) (E ++ [⟨K, X, c⟩])
  | [], E, h, k, v, K, X, c, hk, hv => by have h : E = [] := h; subst h; exact ⟨_, _, rfl, hk, hv, rfl, rfl⟩
  | a :: l, E, hr, k, v, K, X, c, hk, hv => by
    obtain ⟨x, y, rfl, h1, h2, h3, h4⟩ := hr
    exact ⟨x, _, rfl, h1, h2, h3, MRel.snoc h4 hk hv⟩
theorem MRel.del : ∀ {l : List (V × V × Nat)} {E : List MapEntry}, MRel ρ l E → ∀ (i : Nat), MRel ρ (delE l i) (E.eraseIdx i)
  | [], E, h, i => by have h : E = [] := h; subst h; simp [delE, MRel]
  | a :: l, E, hr, i => by
    obtain ⟨x, y, rfl, h1, h2, h3, h4⟩ := hr
    cases i with
    | zero => exact h4
    | succ i => rw [List.eraseIdx_cons_succ]; exact ⟨x, _, rfl, h1, h2, h3, MRel.del h4 i⟩
theorem MRel.setv : ∀ {l : List (V × V × Nat)} {E : List MapEntry}, MRel ρ l E → ∀ (i : Nat) {v : V} {X : Value}, VRel ρ v X → MRel ρ (setVal l i v) (E.modify i fun e => { e with val := X })
  | [], E, h, i, v, X, hv => by have h : E = [] := h; subst h; simp [setVal, MRel]
  | a :: l, E, hr, i, v, X, hv => by
    obtain ⟨x, y, rfl, h1, h2, h3, h4⟩ := hr
    cases i with
    | zero => rw [List.modify_zero_cons]; exact ⟨_, _, rfl, h1, hv, h3, h4⟩
    | succ i => rw [List.modify_succ_cons]; exact ⟨x, _, rfl, h1, h2, h3, MRel.setv h4 i hv⟩

theorem keyStays {k e : V} (h : keyEq k e = some true) {K X : Value} (hk : VRel ρ k K) (he : VRel ρ e X) : (Instr.keyThatStays X K).run P w = .ok K w := by
  have : Instr.sameBits 10000 X K = true := by
    unfold keyEq at h
    split at h
    · rename_i k1 x k2 y
      rw [kEq_iff, eqQ_eq] at h
      cases hkk : decide (k1 = k2) with
      | false => simp [hkk] at h
      | true =>
        have ee : k1 = k2 := by simpa using hkk
        subst ee
        simp only [decide_true, cond_true, Option.some.injEq, beq_iff_eq] at h
        subst h
        simp only [VRel] at hk he; subst hk; subst he
        simp [Instr.sameBits]
    · simp only [Option.some.injEq] at h
      simp only [VRel] at hk he; subst hk; subst he
      rw [BS.eq_iff] at h
      simp only [beq_iff_eq] at h
      have := ba_ext h
      simp [Instr.sameBits, this, beq_toListBytes]
    · simp only [Option.some.injEq, beq_iff_eq] at h
      subst h
      simp only [VRel] at hk he; subst hk; subst he
      simp [Instr.sameBits]
    · cases h
  simp [Instr.keyThatStays, this]

theorem SRel.mapObj (h : SRel base ρ s w) {b : Nat} {es : List (V × V × Nat)} {c : Nat} (hg : s.heap.get b = some (.map es c)) {B O S : Nat} (hx : ρ b = some ⟨B, O, S⟩) :
    ∃ E, w.heap[B]? = some (.map E c) ∧ MRel ρ es E.toList ∧ base ≤ B := by
  obtain ⟨y, h1, h2, E, h3, h4⟩ := h.obj' hg hx
  rw [hx] at h1; cases h1
  exact ⟨E, h3, h4, h2⟩

theorem eMapUpdate_rel (h : SRel base ρ s w) {t : TypeId} {m k v : V} {s' : St} (hq : eMapUpdate P s t m k v = some s') {M K X : Value} (hm : VRel ρ m M) (hk : VRel ρ k K) (hv : VRel ρ v X) :
    ∃ w', (Instr.mapUpdate t M K X).run P w = .ok () w' ∧ SRel base ρ s' w' ∧ Below base w w' := by
  unfold eMapUpdate at hq
  simp only [llen_eq, lall_eq, ltake_eq, ldrop_eq, lapp_eq, lget_eq] at hq
  split at hq
  · rename_i kt et hd
    obtain ⟨hp, hq⟩ := bool_not_cond hq (by simp)
    split at hq
    · rename_i b
      split at hq
      · rename_i es c hg
        simp only [VRel] at hm
        obtain ⟨B, O, S, hB, rfl⟩ := hm
        obtain ⟨E, hE, hrel, hbase⟩ := h.mapObj hg hB
        split at hq
        · rename_i i v0 hf
          cases hq
          obtain ⟨e, _, he1, he2, _⟩ := findE_bound hf
          rw [Nat.sub_zero] at he1
          obtain ⟨x, hx1, hx2, _, _⟩ := hrel.get he1
          simp only [Array.getElem?_toList] at hx1
          rcases run_findKeyE (w := w) hk hp hrel hf with ⟨h1, _⟩ | ⟨j, v2, W, h1, h2, h3⟩
          · cases h1
          · cases h1
            refine ⟨{ w with heap := w.heap.setIfInBounds B (.map (E.modify i fun e => { e with key := K, val := X }) c) }, ?_, h.upd hg hB _ (.map (E.modify i fun e => { e with key := K, val := X }) c) rfl ⟨_, rfl, by rw [Array.toList_modify]; exact hrel.mod i hk hv⟩, below_set hbase rfl⟩
            simp [Instr.mapUpdate, run_und hd, getObj_map hE, run_checkKeyE hk hp, h2, hx1, keyStays he2 hk hx2, setObj_map hE]
        · rename_i hf
          cases hq
          rcases run_findKeyE (w := w) hk hp hrel hf with ⟨_, h2⟩ | ⟨j, v2, W, h1, _, _⟩
          · refine ⟨{ w with heap := w.heap.setIfInBounds B (.map (E.push ⟨K, X, c⟩) (c + 1)) }, ?_, h.upd hg hB _ (.map (E.push ⟨K, X, c⟩) (c + 1)) rfl ⟨_, rfl, by rw [Array.toList_push]; exact hrel.snoc hk hv⟩, below_set hbase rfl⟩
            simp [Instr.mapUpdate, run_und hd, getObj_map hE, run_checkKeyE hk hp, h2, setObj_map hE]
          · cases h1
        · cases hq
      · cases hq
    · cases hq
  · cases hq

theorem eMapEntry_rel (h : SRel base ρ s w) {t : TypeId} {m k v : V} {s' : St} (hq : eMapEntry P s t m k = some (v, s')) {M K : Value} (hm : VRel ρ m M) (hk : VRel ρ k K) :
    OKv P base ρ (Instr.mapEntry t M K) w v s' := by
  unfold eMapEntry at hq
  simp only [llen_eq, lall_eq, ltake_eq, ldrop_eq, lapp_eq, lget_eq] at hq
  split at hq
  · rename_i kt et hd
    obtain ⟨hp, hq⟩ := bool_not_cond hq (by simp)
    split at hq
    · rename_i b
      split at hq
      · rename_i es c hg
        simp only [VRel] at hm
        obtain ⟨B, O, S, hB, rfl⟩ := hm
        obtain ⟨E, hE, hrel, hbase⟩ := h.mapObj hg hB
        split at hq
        · rename_i i v0 hf
          obtain ⟨e, _, he1, he2, he3⟩ := findE_bound hf
          rw [Nat.sub_zero] at he1
          rw [he1] at hq
          cases hq
          obtain ⟨x, hx1, hx2, hx3, hx4⟩ := hrel.get he1
          simp only [Array.getElem?_toList] at hx1
          rcases run_findKeyE (w := w) hk hp hrel hf with ⟨h1, _⟩ | ⟨j, v2, W, h1, h2, h3⟩
          · cases h1
          · cases h1
            have hrel' : MRel ρ (modE es i k v0) (E.modify i fun e => { e with key := K }).toList := by
              have hx3' : VRel ρ v0 x.val := by rw [← he3]; exact hx3
              have := hrel.mod i hk hx3'
              rw [Array.toList_modify]
              have e1 : (E.toList.modify i fun e => { e with key := K, val := x.val }) = E.toList.modify i fun e => { e with key := K } := by
                apply List.ext_getElem?
                intro n
                rw [List.getElem?_modify, List.getElem?_modify]
                by_cases hn : i = n
                · subst hn
                  have : E.toList[i]? = some x := by simpa using hx1
                  simp [this]
                · simp [hn]
              rw [← e1]; exact this
            refine ⟨ρ, .tuple #[W, .int .i64 x.born], { w with heap := w.heap.setIfInBounds B (.map (E.modify i fun e => { e with key := K }) c) }, ρ.le_refl, ?_, ?_, h.upd hg hB _ (.map (E.modify i fun e => { e with key := K }) c) rfl ⟨_, rfl, hrel'⟩, below_set hbase rfl⟩
            · simp [Instr.mapEntry, run_und hd, getObj_map hE, run_checkKeyE hk hp, h2, hx1, keyStays he2 hk hx2, setObj_map hE, goInt]
            · simp only [VRel]
              exact ⟨_, rfl, LRel.cons h3 (LRel.cons (by rw [← hx4]; exact vint _ _) LRel.nil)⟩
        · rename_i hf
          split at hq
          · rename_i z hz
            cases hq
            obtain ⟨Z, hZ, hzr, _⟩ := zeroE_rel (ρ := ρ) (w := w) hz
            rcases run_findKeyE (w := w) hk hp hrel hf with ⟨_, h2⟩ | ⟨j, v2, W, h1, _, _⟩
            · refine ⟨ρ, .tuple #[Z, .int .i64 c], { w with heap := w.heap.setIfInBounds B (.map (E.push ⟨K, Z, c⟩) (c + 1)) }, ρ.le_refl, ?_, ?_, h.upd hg hB _ (.map (E.push ⟨K, Z, c⟩) (c + 1)) rfl ⟨_, rfl, by rw [Array.toList_push]; exact hrel.snoc hk hzr⟩, below_set hbase rfl⟩
              · simp [Instr.mapEntry, run_und hd, getObj_map hE, run_checkKeyE hk hp, h2, hZ, setObj_map hE, goInt]
              · simp only [VRel]
                exact ⟨_, rfl, LRel.cons hzr (LRel.cons (vint _ _) LRel.nil)⟩
            · cases h1
          · cases hq
        · cases hq
      · cases hq
    · cases hq
  · cases hq

theorem stampE_rel {n : Nat} : ∀ {l : List (V × V × Nat)} {E : List MapEntry}, MRel ρ l E → ∀ {i j : Nat}, stampE n l i = some j → ∃ d, j = i + d ∧ E.findIdx? (fun e => (e.born : Int) == (n : Int)) = some d
  | [], _, _, i, j, h => by simp [stampE] at h
  | a :: l, E, hr, i, j, h => by
    obtain ⟨x, y, rfl, h1, h2, h3, h4⟩ := hr
    simp only [stampE] at h
    cases hb : Nat.beq a.2.2 n with
    | true =>
      simp only [hb, cond_true, Option.some.injEq] at h
      have : a.2.2 = n := by simpa using hb
      refine ⟨0, by omega, ?_⟩
      rw [List.findIdx?_cons]
      have e : ((x.born : Int) == (n : Int)) = true := by simp; omega
      simp [e]
    | false =>
      simp only [hb, cond_false] at h
      obtain ⟨d, e1, e2⟩ := stampE_rel h4 h
      refine ⟨d + 1, by omega, ?_⟩
      rw [List.findIdx?_cons]
      have hne : a.2.2 ≠ n := by intro e; subst e; simp at hb
      have e : ((x.born : Int) == (n : Int)) = false := by simp; omega
      simp [e, e2]

theorem eEntryStore_rel (h : SRel base ρ s w) {t : TypeId} {m st v : V} {s' : St} (hq : eEntryStore s m st v = some s') {M T X : Value} (hm : VRel ρ m M) (ht : VRel ρ st T) (hv : VRel ρ v X) :
    ∃ w', (Instr.entryStore t M T X).run P w = .ok () w' ∧ SRel base ρ s' w' ∧ Below base w w' := by
  unfold eEntryStore at hq
  split at hq
  · rename_i b n hn
    split at hq
    · rename_i es c hg
      split at hq
      · rename_i i hi
        cases hq
        simp only [VRel] at hm
        obtain ⟨B, O, S, hB, rfl⟩ := hm
        obtain ⟨k, rfl⟩ := natOf_rel hn ht
        obtain ⟨E, hE, hrel, hbase⟩ := h.mapObj hg hB
        obtain ⟨d, e1, e2⟩ := stampE_rel hrel hi
        have e1 : i = d := by omega
        subst e1
        have e3 : E.findIdx? (fun e => (e.born : Int) == (n : Int)) = some i := by
          rw [← e2]; cases E; simp
        refine ⟨{ w with heap := w.heap.setIfInBounds B (.map (E.modify i fun e => { e with val := X }) c) }, ?_, h.upd hg hB _ (.map (E.modify i fun e => { e with val := X }) c) rfl ⟨_, rfl, by rw [Array.toList_modify]; exact hrel.setv i hv⟩, below_set hbase rfl⟩
        simp [Instr.entryStore, getObj_map hE, asInt, run_asIntOf, e3, setObj_map hE]
      · cases hq
    · cases hq
  · cases hq

theorem eDelete_rel (h : SRel base ρ s w) {ts : Array TypeId} {ty : TypeId} {m k v : V} {s' : St} (hq : eDelete P s ts m k = some (v, s')) {M K : Value} (hm : VRel ρ m M) (hk : VRel ρ k K) :
    OKv P base ρ (Builtin.delete_ ts ty #[M, K]) w v s' := by
  unfold eDelete at hq
  split at hq
  · cases hq
  rename_i t ht
  split at hq
  · rename_i kt et hd
    obtain ⟨hp, hq⟩ := bool_not_cond hq (by simp)
    split at hq
    · cases hq
      simp only [VRel] at hm; subst hm
      exact ⟨ρ, _, w, ρ.le_refl, by simp [Builtin.delete_, ht, run_und hd, run_checkKeyE hk hp]; rfl, by simp only [VRel], h, Below.refl _ _⟩
    · rename_i b
      split at hq
      · rename_i es c hg
        simp only [VRel] at hm
        obtain ⟨B, O, S, hB, rfl⟩ := hm
        obtain ⟨E, hE, hrel, hbase⟩ := h.mapObj hg hB
        split at hq
        · rename_i i v0 hf
          cases hq
          rcases run_findKeyE (w := w) hk hp hrel hf with ⟨h1, _⟩ | ⟨j, v2, W, h1, h2, h3⟩
          · cases h1
          · cases h1
            obtain ⟨e, _, he1, _, _⟩ := findE_bound hf
            rw [Nat.sub_zero] at he1
            obtain ⟨x, hx1, _⟩ := hrel.get he1
            have hlt : i < E.size := by
              have := (List.getElem?_eq_some_iff.1 hx1).1
              simpa using this
            refine ⟨ρ, _, { w with heap := w.heap.setIfInBounds B (.map (E.eraseIdxIfInBounds i) c) }, ρ.le_refl, by simp [Builtin.delete_, ht, run_und hd, getObj_map hE, run_checkKeyE hk hp, h2, setObj_map hE]; rfl, by simp only [VRel], h.upd hg hB _ (.map (E.eraseIdxIfInBounds i) c) rfl ⟨_, rfl, ?_⟩, below_set hbase rfl⟩
            have : (E.eraseIdxIfInBounds i).toList = E.toList.eraseIdx i := by
              simp [Array.eraseIdxIfInBounds, hlt]
            rw [this]
            exact hrel.del i
        · rename_i hf
          cases hq
          rcases run_findKeyE (w := w) hk hp hrel hf with ⟨_, h2⟩ | ⟨j, v2, W, h1, _, _⟩
          · refine ⟨ρ, _, { w with heap := w.heap.setIfInBounds B (.map E c) }, ρ.le_refl, by simp [Builtin.delete_, ht, run_und hd, getObj_map hE, run_checkKeyE hk hp, h2, setObj_map hE]; rfl, by simp only [VRel], h.upd hg hB _ (.map E c) rfl ⟨_, rfl, hrel⟩, below_set hbase rfl⟩
          · cases h1
        · cases hq
      · cases hq
    · cases hq
  · cases hq

theorem eClear_rel (h : SRel base ρ s w) {ts : Array TypeId} {ty : TypeId} {m v : V} {s' : St} (hq : eClear P s ts m = some (v, s')) {M : Value} (hm : VRel ρ m M) :
    OKv P base ρ (Builtin.clear_ ts ty #[M]) w v s' := by
  unfold eClear at hq
  simp only [llen_eq, lall_eq, ltake_eq, ldrop_eq, lapp_eq, lget_eq] at hq
  split at hq
  · cases hq
  rename_i t ht
  split at hq
  · rename_i hd
    cases hq
    simp only [VRel] at hm; subst hm
    exact ⟨ρ, _, w, ρ.le_refl, by simp [Builtin.clear_, ht, run_und hd]; rfl, by simp only [VRel], h, Below.refl _ _⟩
  · rename_i b hd
    split at hq
    · rename_i es c hg
      cases hq
      simp only [VRel] at hm
      obtain ⟨B, O, S, hB, rfl⟩ := hm
      obtain ⟨E, hE, hrel, hbase⟩ := h.mapObj hg hB
      exact ⟨ρ, _, { w with heap := w.heap.setIfInBounds B (.map #[] c) }, ρ.le_refl, by simp [Builtin.clear_, ht, run_und hd, getObj_map hE, setObj_map hE]; rfl, by simp only [VRel], h.upd hg hB _ (.map #[] c) rfl ⟨_, rfl, rfl⟩, below_set hbase rfl⟩
    · cases hq
  · rename_i hd
    cases hq
    simp only [VRel] at hm; subst hm
    exact ⟨ρ, _, w, ρ.le_refl, by simp [Builtin.clear_, ht, run_und hd]; rfl, by simp only [VRel], h, Below.refl _ _⟩
  · rename_i e b o len cap x es hd
    simp only [VRel] at hm
    obtain ⟨B, O, S, cap', hB, rfl, _⟩ := hm
    cases hl0 : Nat.beq len 0 with
    | true =>
      have e0 : len = 0 := by simpa using hl0
      subst e0
      simp only [hl0, cond_true, Option.some.injEq, Prod.mk.injEq] at hq
      obtain ⟨rfl, rfl⟩ := hq
      exact ⟨ρ, _, w, ρ.le_refl, by simp [Builtin.clear_, ht, run_und hd]; rfl, by simp only [VRel], h, Below.refl _ _⟩
    | false =>
      simp only [hl0, cond_false] at hq
      split at hq
      · rename_i z cs t' ish hz hg
        cases hb : (Nat.beq (cellsV z).length es && (Nat.ble (o + len * es) cs.length && (cellsV z).all oneV)) with
        | false => simp [hb] at hq
        | true =>
        simp only [hb, cond_true, Option.some.injEq, Prod.mk.injEq] at hq
        obtain ⟨rfl, rfl⟩ := hq
        simp only [Bool.and_eq_true, Nat.ble_eq, Nat.beq_eq] at hb
        obtain ⟨Z, hZ, hzr, _⟩ := zeroE_rel (ρ := ρ) (w := w) hz
        have hrep := zeroCells_rel (cellsV_rel hzr) len
        have hone : (repE len (cellsV z)).all oneV = true := by
          rw [List.all_eq_true] at *
          intro u hu
          obtain ⟨n, hn⟩ := List.mem_iff_getElem?.1 hu
          have hlt : n < len * (cellsV z).length := by
            have := (List.getElem?_eq_some_iff.1 hn).1
            rwa [repE_length] at this
          rw [repE_get _ _ _ hlt] at hn
          exact hb.2.2 u (List.mem_of_getElem? hn)
        obtain ⟨w', g1, g2, g3⟩ := h.write (P := P) hg hB hrep (o := o) (by rw [repE_length, hb.1]; exact hb.2.1) hone
        simp only at g1
        obtain ⟨n, rfl⟩ : ∃ n, len = n + 1 := ⟨len - 1, by
          have : len ≠ 0 := by intro e; subst e; simp at hl0
          omega⟩
        exact ⟨ρ, _, w', ρ.le_refl, by simp [Builtin.clear_, ht, run_und hd, hZ, g1]; rfl, by simp only [VRel], g2, g3⟩
      · cases hq
  · cases hq

end
end Go.Eng
