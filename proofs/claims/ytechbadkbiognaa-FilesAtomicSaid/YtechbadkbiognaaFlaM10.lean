/-
  Texts of this claim, one behind the other: SymS. Each says its own conditions.
-/
import Derived.Test.YtechbadkbiognaaFlaM9

set_option linter.unusedVariables false
set_option linter.unusedSimpArgs false
set_option linter.unusedSectionVars false
section
namespace Go.Sym
set_option linter.unusedSimpArgs false
set_option linter.unusedVariables false
section
variable {P : Program} {own : Own} {ρ : Env} {s : St} {w : World}

theorem bool_not_cond {α : Type} {b : Bool} {x y : α} {z : α} (h : (bif !b then x else y) = z) (hx : x ≠ z) : b = true ∧ y = z := by
  cases b
  · exact absurd h hx
  · exact ⟨rfl, h⟩
theorem zeroCells_size (Z : Array Value) (n : Nat) : (Builtin.zeroCells Z n).size = n * Z.size := by simp [Builtin.zeroCells]

theorem rows_seg {φ : Nat → Nat → Option Value} {e : List Ty} {L : List (rowDen e)} {C : Nat → Option Value} {lo len : Nat} (h : lo + len ≤ L.length) (hr : RowsAt φ e L C) : RowsAt φ e (seg L lo len) (fun k => C (lo * e.length + k)) :=
  rows_drop lo (lo + len) h hr

structure SrcR (P : Program) (φ : Nat → Nat → Option Value) (e : List Ty) (M : List (rowDen e)) (X : Value) (w : World) (V : List Value) : Prop where
  size : V.length = M.length * e.length
  rows : RowsAt φ e M (fun k => V[k]?)
  ones : Ones V
  len : (Builtin.lenOf X).run P w = .ok M.length w
  load : ∀ n, n ≤ M.length → (Builtin.firstCells e.length n X).run P w = .ok (V.take (n * e.length)).toArray w

theorem take_load {B o : Nat} {V : List Value} {m : Nat} (h : (loadCells ⟨B, o, none⟩ m).run P w = .ok V.toArray w) (hV : ∀ k X, V[k]? = some X → w.cell? ⟨B, o + k, none⟩ = some X) (n : Nat) (hn : n ≤ V.length) : (loadCells ⟨B, o, none⟩ n).run P w = .ok (V.take n).toArray w := by
  have := run_loadCells_list (P := P) w ⟨B, o, none⟩ (V.take n) (fun j v hj => by
    rw [addr_add]
    refine hV j v ?_
    have hlt : j < n := by
      have := (List.getElem?_eq_some_iff.1 hj).1
      simp at this; omega
    rwa [List.getElem?_take_of_lt hlt] at hj)
  rwa [List.length_take, Nat.min_eq_left hn] at this

theorem src_slice {e : List Ty} {M : List (rowDen e)} {a : Option Addr} {c : Nat} (hn : a = none → M.length = 0) (hr : 0 < M.length → ∃ B o, a = some ⟨B, o, none⟩ ∧ RowsAt ρ.φ e M (fun k => w.cell? ⟨B, o + k, none⟩)) :
    ∃ V, SrcR P ρ.φ e M (.slice a M.length c) w V := by
  rcases Nat.eq_zero_or_pos M.length with h0 | h0
  · refine ⟨[], by simp [h0], fun i hi => by omega, fun X hX => by simp at hX, rfl, fun n hn' => ?_⟩
    have : n = 0 := by omega
    subst this
    cases a with
    | none => simp [Builtin.firstCells]
    | some a => simp [Builtin.firstCells, loadCells, loadCellsFrom]
  · obtain ⟨B, o, rfl, hro⟩ := hr h0
    obtain ⟨V, g1, g2, g3, g4⟩ := hro.list
    refine ⟨V, g1, g3, g4, rfl, fun n hn' => ?_⟩
    have hall := run_loadCells_list (P := P) w ⟨B, o, none⟩ V (fun j v hj => by rw [addr_add]; exact g2 j v hj)
    have hle : n * e.length ≤ V.length := by rw [g1]; exact Nat.mul_le_mul_right _ hn'
    have := take_load hall g2 (n * e.length) hle
    simpa [Builtin.firstCells] using this

theorem srcRows_rel (h : SRel own ρ s w) {e : List Ty} {x : V} {cs : List Bool} {M : List (rowDen e)} (hq : srcRows s e x = some (cs, M)) (hp : allB cs) {X : Value} (hx : VRel ρ x X) : ∃ V, SrcR P ρ.φ e M X w V := by
  unfold srcRows at hq
  split at hq
  · cases hq
    simp only [VRel] at hx; subst hx
    exact src_slice (M := ([] : List (rowDen e))) (a := none) (c := 0) (fun _ => rfl) (fun h => absurd h (Nat.lt_irrefl _))
  · rename_i e' L cl
    split at hq
    · rename_i M' hM
      cases hq
      simp only [VRel] at hx
      obtain ⟨a, c, rfl, h1, _, h3, h4⟩ := hx
      obtain ⟨q, rfl⟩ := asL_some hM
      subst q
      exact src_slice (M := L) (fun hn => by have := h3 hn; omega) fun hp => let ⟨B, o, g1, g2⟩ := h4 hp; ⟨B, o, g1, h.rowsφ g2⟩
    · cases hq
  · rename_i b lo len cap x' es
    split at hq
    · rename_i e' L hL
      split at hq
      · rename_i M' hM
        cases hes : Nat.beq es e.length with
        | false => rw [hes] at hq; cases hq
        | true =>
        rw [hes, cond_true] at hq
        have hes := Nat.eq_of_beq_eq_true hes
        subst hes
        cases hq
        have hle : lo + len ≤ M'.length := by simpa using hp.1
        obtain ⟨q, rfl⟩ := asL_some hM
        subst q
        simp only [VRel] at hx
        obtain ⟨a, c, rfl, h1, h2, _, h3, h4⟩ := hx
        have hsl := seg_length hle
        have hle' : lo + len ≤ L.length := hle
        have hsl' : (seg L lo len).length = len := seg_length hle'
        have := src_slice (P := P) (ρ := ρ) (w := w) (M := seg L lo len) (a := a) (c := c) (fun hn => by have := h3 hn; omega) fun hp => by
          obtain ⟨B, O, S, g1, g2, g3⟩ := h4 (by omega)
          have hr := rows_seg hle' (h.rowsAt hL g1).1
          exact ⟨B, _, g2, by simpa [Nat.add_assoc] using hr⟩
        rw [hsl'] at this
        exact this
      · cases hq
    · cases hq
  · rename_i t
    split at hq
    · rename_i M' hM
      cases hq
      simp only [VRel] at hx; subst hx
      obtain ⟨q, rfl⟩ := asL_some hM
      subst q
      have hl : List.length (α := Int) (bytesL t) = t.size := bytesL_length t
      refine ⟨(bytesL t).map (Value.int .u8), ?_, ?_, ?_, ?_, ?_⟩
      · show _ = List.length (α := Int) (bytesL t) * 1
        simp
      · refine bytes_rows t fun i hi => ?_
        simp only [List.getElem?_map]
        have e2 : (bytesL t)[i]? = some (bAt t i) := by
          rw [← bytesL_get t i hi, List.getD_eq_getElem?_getD, List.getElem?_eq_getElem (by rw [bytesL_length]; exact hi)]
          rfl
        rw [e2]; rfl
      · intro X hX
        obtain ⟨n, _, rfl⟩ := List.mem_map.1 hX
        rfl
      · show (Builtin.lenOf (.string t)).run P w = .ok (List.length (α := Int) (bytesL t)) w
        rw [hl]; simp [Builtin.lenOf]
      · intro n hn
        have hn : n ≤ List.length (α := Int) (bytesL t) := hn
        rw [hl] at hn
        have e2 : (t.extract 0 n).data.map (fun b => Value.int .u8 b.toNat) = (((bytesL t).map (Value.int .u8)).take (n * 1)).toArray := by
          apply Array.ext'
          simp [bytesL, List.extract_eq_take_drop]
          rfl
        show (Builtin.firstCells 1 n (.string t)).run P w = .ok (((bytesL t).map (Value.int .u8)).take (n * 1)).toArray w
        simp only [Builtin.firstCells, e2, Sem.run_pure]
    · cases hq
  · rename_i b o len cap x' es
    split at hq
    · rename_i cs' hcs
      simp only [llen_eq, ltake_eq, ldrop_eq] at hq
      cases hb : (Nat.beq es e.length && Nat.ble (o + len * es) cs'.length) with
      | false => rw [hb] at hq; cases hq
      | true =>
      rw [hb, cond_true] at hq
      simp only [Bool.and_eq_true, Nat.beq_eq, Nat.ble_eq] at hb
      obtain ⟨he, hb⟩ := hb
      subst he
      split at hq
      · rename_i M' hM
        cases hq
        obtain ⟨g1, g2, g3⟩ := ofRows_spec (ρ := ρ) e len _ M hM
        simp only [VRel] at hx
        obtain ⟨B, O, S, c, hB, rfl, _⟩ := hx
        have hc := (h.cellsAt hcs hB).1
        have := src_slice (P := P) (ρ := ρ) (w := w) (M := M) (a := some ⟨B, O + o, none⟩) (c := c) (fun hn => by cases hn) fun _ => ⟨B, O + o, rfl, g3 fun i v hi => by
          have hlt : i < len * e.length := by
            have := (List.getElem?_eq_some_iff.1 hi).1
            simp at this; omega
          rw [List.getElem?_take_of_lt hlt, List.getElem?_drop] at hi
          obtain ⟨W, q1, q2⟩ := hc _ _ hi
          exact ⟨W, by rw [Nat.add_assoc]; exact q1, q2⟩⟩
        rw [g1] at this
        exact this
      · cases hq
    · cases hq
  · cases hq

theorem SrcR.ok (hz : ∀ {ts : Array TypeId}, True) {ts : Array TypeId} (h0 : zerosE P ts = false) {e : List Ty} {el : TypeId} {i : TypeInfo} (hi : i.size = e.length) {M : List (rowDen e)} {X : Value} {V V' : List Value} {w' : World} (h : SrcR P ρ.φ e M X w V) (k : SrcR P ρ.φ e M X w' V') :
    SrcOK P ts el i X M.length w w' V' := by
  refine .inl ⟨h0, h.len, ?_⟩
  have := k.load M.length (Nat.le_refl _)
  rw [hi, this, ← k.size, List.take_length]

theorem info_szE {el : TypeId} {i : TypeInfo} (hi : P.info? el = some i) : szE P el = some i.size := by simp [szE, hi]

theorem roomy_spec {i : TypeInfo} {n : Nat} (h : allB (roomy i n)) : (2 * n + 768) * i.bytes ≤ 281474976710656 ∧ n ≤ 1099511627776 := by
  obtain ⟨h1, h2, _⟩ := h
  simp only [decide_eq_true_eq] at h2
  exact ⟨(roomB_iff _ _).1 h1, h2⟩

structure SrcZ (P : Program) (φ : Nat → Nat → Option Value) (ts : Array TypeId) (el : TypeId) (i : TypeInfo) (e : List Ty) (M : List (rowDen e)) (X : Value) (w w' : World) (V : List Value) : Prop where
  size : V.length = M.length * e.length
  rows : RowsAt φ e M (fun k => V[k]?)
  ones : Ones V
  ok : SrcOK P ts el i X M.length w w' V
theorem eAppendG_rel (h : SRel own ρ s w) {ts : Array TypeId} {ty t el : TypeId} {i : TypeInfo} {zv : V} (ht : ts[0]? = some t) (hd : P.underlying t = some (.slice el)) (hi : P.info? el = some i) (hzz : zeroE P el = some zv) {e : List Ty} (he : rowTy P el = some e)
    {z : List V} (hz : cellsO zv = some z) (hzl : z.length = i.size) {a v : V} {s' : St} {ps cs : List Bool} {M : List (rowDen e)} {m : Nat} (hm : M.length = m) (hq : eAppendG s e el i a cs M m = some (ps, v, s')) (hp : allB ps) {A X : Value} (ha : VRel ρ a A)
    (src : allB cs → ∃ V V', SrcZ P ρ.φ ts el i e M X w w V ∧ SrcZ P ρ.φ ts el i e M X w { w with drawn := w.drawn + 1 } V') :
    OKv P own ρ (Builtin.append_ ts ty #[A, X]) w v s' := by
  obtain ⟨hsz, hs1⟩ := rowTy_spec he
  have his : i.size = e.length := by
    rw [info_szE hi] at hsz; exact Option.some.inj hsz
  have h' : SRel own ρ s { w with drawn := w.drawn + 1 } := h.same rfl
  obtain ⟨Z, hZ, hzr, _⟩ := zeroE_rel (ρ := ρ) (w := { w with drawn := w.drawn + 1 }) hzz
  have hzc := (cellsO_rel hz hzr).length
  simp only [Array.length_toList] at hzc
  subst hm
  unfold eAppendG at hq
  split at hq
  · -- nil
    cases hq
    rw [allB_append] at hp
    obtain ⟨V, V', hV, hV'⟩ := src hp.1
    obtain ⟨r1, r2⟩ := roomy_spec hp.2
    simp only [VRel] at ha; subst ha
    rcases Nat.eq_zero_or_pos M.length with hn0 | hn0
    · have hso := hV.ok
      rw [hn0] at hso ⊢
      refine ⟨ρ, .slice none 0 0, w, ρ.le_refl, ?_, ?_, h.ghost _, Fr.refl _ _⟩
      · rw [run_append_in ht hd hi hso (by omega)]
        rfl
      · simp only [VRel]
        exact ⟨none, 0, rfl, Nat.le_refl _, Nat.le_refl _, fun hx => (by cases hx), fun _ => rfl, fun hx => absurd hx (Nat.lt_irrefl _)⟩
    · have hso := hV'.ok
      obtain ⟨cap', hc, hrun⟩ := run_append_grow (P := P) (w := w) (ty := ty) (base := none) (len := 0) (cap := 0) (K := []) ht hd hi hso (by simp [Builtin.firstCells]) hZ (by omega) (by simpa using r1) (by simpa using r2)
      simp only [Nat.zero_add, List.nil_append, Array.append_assoc] at hrun hc
      have hz2 : (#[] : Array Value) ++ (V'.toArray ++ Builtin.zeroCells Z.cells (cap' - M.length)) = V'.toArray ++ Builtin.zeroCells Z.cells (cap' - M.length) := by simp
      rw [hz2] at hrun
      obtain ⟨e1, e2, e3⟩ := h.newLongRows (by rw [hV'.size]; exact Nat.le_refl _) hV'.rows (Builtin.zeroCells Z.cells (cap' - M.length)) el el (w.drawn + 1) false
      refine ⟨_, _, _, e1, hrun, ?_, e2, e3⟩
      simp only [VRel]
      refine ⟨_, cap', rfl, Nat.le_refl _, hc, fun hx => (by cases hx), fun hn => (by cases hn), fun _ => ⟨_, _, _, Env.put_same, by simp, ?_⟩⟩
      simp only [Array.size_append, zeroCells_size, List.size_toArray]
      rw [hV'.size, ← hzc, hzl, his, ← Nat.add_mul]
      simp only [Nat.zero_mul, Nat.zero_add]
      exact Nat.mul_le_mul_right _ (by omega)
  · rename_i e' L
    split at hq
    · rename_i L' hL'
      cases hq
      rw [allB_append] at hp
      obtain ⟨hp1, hp2, hp3⟩ := hp
      have hm0 : 0 < M.length ∨ L'.length = 0 := of_decide_eq_true hp2
      obtain ⟨V, V', hV, hV'⟩ := src hp1
      obtain ⟨r1, r2⟩ := roomy_spec hp3
      obtain ⟨q, rfl⟩ := asL_some hL'
      subst q
      have hm0 : 0 < M.length ∨ L.length = 0 := hm0
      simp only [VRel] at ha
      obtain ⟨ad, c, rfl, _, hcl, hn, hrow⟩ := ha
      have hcl := hcl trivial
      subst hcl
      rcases Nat.eq_zero_or_pos M.length with hn0 | hn0
      · have hL0 : L.length = 0 := by omega
        have hLe : L = [] := List.length_eq_zero_iff.1 hL0
        subst hLe
        have hMe : M = [] := List.length_eq_zero_iff.1 hn0
        subst hMe
        have hso := hV.ok
        have hV0 : V = [] := List.length_eq_zero_iff.1 (by rw [hV.size]; simp)
        have hrun := run_append_in (P := P) (w := w) (ty := ty) (base := ad) (len := 0) (cap := 0) ht hd hi hso (Nat.le_refl _)
        refine ⟨ρ, .slice ad 0 0, w, ρ.le_refl, ?_, ?_, h.ghost _, Fr.refl _ _⟩
        · show (Builtin.append_ ts ty #[.slice ad 0 0, X]).run P w = _
          rw [hrun, hV0]
          cases ad <;> simp [storeCells]
        · simp only [VRel]
          exact ⟨ad, 0, rfl, Nat.le_refl _, Nat.le_refl _, fun hx => (by cases hx), fun _ => rfl, fun hx => absurd hx (Nat.lt_irrefl _)⟩
      have hso := hV'.ok
      obtain ⟨K, hK⟩ := src_slice (P := P) (ρ := ρ) (w := { w with drawn := w.drawn + 1 }) (M := L) (a := ad) (c := L.length) hn fun hp => let ⟨B, o, g1, g2⟩ := hrow hp; ⟨B, o, g1, h'.rowsφ g2⟩
      have hKl := hK.load L.length (Nat.le_refl _)
      rw [← hK.size, List.take_length, ← his] at hKl
      obtain ⟨cap', hc, hrun⟩ := run_append_grow (P := P) (w := w) (ty := ty) ht hd hi hso hKl hZ (by omega) r1 r2
      have e4 : (K ++ V').toArray = K.toArray ++ V'.toArray := by simp
      rw [← e4] at hrun
      have hsz2 : (L ++ M).length * e'.length ≤ (K ++ V').length := by rw [List.length_append, List.length_append, hK.size, hV'.size, Nat.add_mul]; exact Nat.le_refl _
      have hrows : RowsAt ρ.φ e' (L ++ M) (fun k => (K ++ V')[k]?) := by
        refine rows_app hK.rows ?_ fun j hj => ?_
        · refine hV'.rows.mono (fun _ _ _ hv => hv) fun j v hj => ?_
          rw [List.getElem?_append_right (by rw [hK.size]; omega), hK.size, Nat.add_sub_cancel_left]
          exact hj
        · rw [List.getElem?_append_left (by rw [hK.size]; exact hj)]
      obtain ⟨e1, e2, e3⟩ := h.newLongRows hsz2 hrows (Builtin.zeroCells Z.cells (cap' - (L.length + M.length))) el el (w.drawn + 1) false
      refine ⟨_, _, _, e1, hrun, ?_, e2, e3⟩
      simp only [VRel]
      refine ⟨_, cap', rfl, Nat.le_refl _, hc, fun hx => (by cases hx), fun hn => (by cases hn), fun _ => ⟨_, _, _, Env.put_same, by simp, ?_⟩⟩
      simp only [Array.size_append, zeroCells_size, List.size_toArray, List.length_append]
      rw [hK.size, hV'.size, ← hzc, hzl, his, ← Nat.add_mul, ← Nat.add_mul]
      simp only [Nat.zero_mul, Nat.zero_add]
      exact Nat.mul_le_mul_right _ (by omega)
    · cases hq
  · rename_i b lo len cap x' es
    split at hq
    · rename_i e' L t' ish hg
      split at hq
      · rename_i L' hL'
        cases hes : Nat.beq es e.length with
        | false => rw [hes] at hq; cases hq
        | true =>
        rw [hes, cond_true] at hq
        have hes := Nat.eq_of_beq_eq_true hes
        subst hes
        cases hq
        rw [allB_append] at hp
        obtain ⟨hp1, hp2, hp3⟩ := hp
        have hle : lo + len ≤ L'.length := by simpa using hp2
        obtain ⟨V, V', hV, hV'⟩ := src hp1
        obtain ⟨r1, r2⟩ := roomy_spec hp3
        obtain ⟨q, rfl⟩ := asL_some hL'
        subst q
        have hle : lo + len ≤ L.length := hle
        have hsl := seg_length hle
        simp only [VRel] at ha
        obtain ⟨ad, c, rfl, c1, c2, _, hn, hblk⟩ := ha
        have hsegl : (seg L lo len ++ M).length = len + M.length := by rw [List.length_append, hsl]
        rcases Nat.lt_or_ge c (len + M.length) with hgt | hin
        · -- a new block
          have hrowsAt : rowsAt s b = some ⟨e', L⟩ := by simp [rowsAt, hg]
          have hso := hV'.ok
          obtain ⟨K, hK⟩ := src_slice (P := P) (ρ := ρ) (w := { w with drawn := w.drawn + 1 }) (M := seg L lo len) (a := ad) (c := c) (fun hh => by have := hn hh; omega) fun hp => by
            obtain ⟨B, O, S, g1, g2, g3⟩ := hblk (by omega)
            have hr := rows_seg hle (h'.rowsAt hrowsAt g1).1
            exact ⟨B, _, g2, by simpa [Nat.add_assoc] using hr⟩
          rw [hsl] at hK
          have hKl := hK.load len (by rw [hsl]; exact Nat.le_refl _)
          have hKs := hK.size
          rw [hsl] at hKs
          rw [← hKs, List.take_length, ← his] at hKl
          obtain ⟨cap', hc, hrun⟩ := run_append_grow (P := P) (w := w) (ty := ty) ht hd hi hso hKl hZ hgt r1 r2
          have e4 : (K ++ V').toArray = K.toArray ++ V'.toArray := by simp
          rw [← e4] at hrun
          have hsz2 : (seg L lo len ++ M).length * e'.length ≤ (K ++ V').length := by rw [hsegl, List.length_append, hKs, hV'.size, Nat.add_mul]; exact Nat.le_refl _
          have hrows : RowsAt ρ.φ e' (seg L lo len ++ M) (fun k => (K ++ V')[k]?) := by
            refine rows_app hK.rows ?_ fun j hj => ?_
            · rw [hsl]
              refine hV'.rows.mono (fun _ _ _ hv => hv) fun j v hj => ?_
              rw [List.getElem?_append_right (by rw [hKs]; omega), hKs, Nat.add_sub_cancel_left]
              exact hj
            · rw [hsl] at hj
              rw [List.getElem?_append_left (by rw [hKs]; exact hj)]
          obtain ⟨e1, e2, e3⟩ := (h.strike b).newLongRows hsz2 hrows (Builtin.zeroCells Z.cells (cap' - (len + M.length))) el el (w.drawn + 1) ish
          refine ⟨_, _, _, e1, hrun, ?_, e2, e3⟩
          simp only [VRel]
          refine ⟨_, cap', rfl, Nat.le_refl _, hc, fun hx => (by cases hx), fun hn => (by cases hn), fun _ => ⟨_, _, _, Env.put_same, by simp, ?_⟩⟩
          simp only [Array.size_append, zeroCells_size, List.size_toArray, List.length_append]
          rw [hKs, hV'.size, ← hzc, hzl, his, ← Nat.add_mul, ← Nat.add_mul]
          simp only [Nat.zero_mul, Nat.zero_add]
          exact Nat.mul_le_mul_right _ (by omega)
        · -- in place
          have hso := hV.ok
          have hrun := run_append_in (P := P) (w := w) (ty := ty) (base := ad) (len := len) (cap := c) ht hd hi hso hin
          rcases Nat.eq_zero_or_pos c with hc0 | hc0
          · subst hc0
            have hl0 : len = 0 := by omega
            have hm0 : M.length = 0 := by omega
            have hV0 : V = [] := List.length_eq_zero_iff.1 (by rw [hV.size, hm0]; simp)
            refine ⟨ρ, .slice ad (len + M.length) 0, w, ρ.le_refl, ?_, ?_, (h.strike b).ghost _, Fr.refl _ _⟩
            · rw [hrun, hV0]
              cases ad <;> simp [storeCells]
            · simp only [VRel]
              exact ⟨ad, 0, rfl, Nat.le_refl _, hin, fun hx => (by cases hx), fun _ => rfl, fun hx => absurd hx (Nat.lt_irrefl _)⟩
          · obtain ⟨B, O, S, g1, rfl, g3⟩ := hblk hc0
            obtain ⟨C, tt, fr, e1, e2, e3, e4, e5, e6, e7⟩ := h.rowsObj hg g1
            simp only at e1 e2 e3 e4 e5 e7
            have hfit : O + lo * e'.length + (len + M.length) * e'.length ≤ S := Nat.le_trans (Nat.add_le_add_left (Nat.mul_le_mul_right _ hin) _) g3
            have hVl := hV.size
            have hmul : (len + M.length) * e'.length = len * e'.length + M.length * e'.length := Nat.add_mul _ _ _
            have hst := run_storeAll (P := P) V (O + lo * e'.length + len * e'.length) 0 C w e1 (by rw [e2]; exact e5) (by omega) hV.ones
            refine ⟨ρ.put s.next ⟨B, O + lo * e'.length, S⟩, .slice (some ⟨B, O + lo * e'.length, none⟩) (len + M.length) c, _, Env.le_put _ h.fresh, ?_, ?_, h.move hg g1 _ (.cells (setA C (O + lo * e'.length + len * e'.length) V) tt fr) (O + lo * e'.length) rfl ?_, fr_set e7.1 rfl⟩
            · rw [hrun]
              simp only [addr_add, his]
              rw [hst]
              rfl
            · simp only [VRel]
              exact ⟨_, c, rfl, Nat.le_refl _, hin, fun hx => (by cases hx), fun hn => (by cases hn), fun _ => ⟨_, _, _, Env.put_same, by simp, by simp only [Nat.zero_mul, Nat.add_zero]; exact g3⟩⟩
            · refine ⟨_, tt, fr, rfl, by rw [setA_size]; exact e2, ?_, ?_, e5, e6⟩
              · show O + lo * e'.length + (seg L lo len ++ M).length * e'.length ≤ S
                rw [hsegl]; omega
              · show RowsAt ρ.φ e' (seg L lo len ++ M) (fun k => (setA C (O + lo * e'.length + len * e'.length) V)[O + lo * e'.length + k]?)
                have hs := rows_seg hle e4
                refine rows_app hs ?_ fun j hj => ?_
                · rw [hsl]
                  refine hV.rows.mono (fun _ _ _ hv => hv) fun j v hj => ?_
                  have hjl := (List.getElem?_eq_some_iff.1 hj).1
                  rw [setA_get _ _ _ _ (by omega), if_pos (by omega), ← hj]
                  congr 1; omega
                · rw [hsl] at hj
                  rw [setA_get _ _ _ _ (by omega), if_neg (by omega)]
                  congr 1; omega
      · cases hq
    · cases hq
  · cases hq

theorem eAppendR_rel (h : SRel own ρ s w) {ts : Array TypeId} {ty t el : TypeId} {i : TypeInfo} {zv : V} (ht : ts[0]? = some t) (hd : P.underlying t = some (.slice el)) (hi : P.info? el = some i) (hzz : zeroE P el = some zv) (h0 : zerosE P ts = false) {e : List Ty} (he : rowTy P el = some e)
    {z : List V} (hz : cellsO zv = some z) (hzl : z.length = i.size) {a x v : V} {s' : St} {ps : List Bool} (hq : eAppendR s e el i a x = some (ps, v, s')) (hp : allB ps) {A X : Value} (ha : VRel ρ a A) (hx : VRel ρ x X) :
    OKv P own ρ (Builtin.append_ ts ty #[A, X]) w v s' := by
  obtain ⟨hsz, hs1⟩ := rowTy_spec he
  have his : i.size = e.length := by
    rw [info_szE hi] at hsz; exact Option.some.inj hsz
  have h' : SRel own ρ s { w with drawn := w.drawn + 1 } := h.same rfl
  unfold eAppendR at hq
  split at hq
  · cases hq
  rename_i cs M hM
  refine eAppendG_rel h ht hd hi hzz he hz hzl rfl hq hp ha fun hc => ?_
  obtain ⟨V, hV⟩ := srcRows_rel (P := P) h hM hc hx
  obtain ⟨V', hV'⟩ := srcRows_rel (P := P) h' hM hc hx
  exact ⟨V, V', ⟨hV.size, hV.rows, hV.ones, SrcR.ok (fun {_} => trivial) h0 (el := el) his hV hV⟩, ⟨hV'.size, hV'.rows, hV'.ones, SrcR.ok (fun {_} => trivial) h0 (el := el) his hV hV'⟩⟩

theorem ones_of_rows {φ : Nat → Nat → Option Value} {e : List Ty} {M : List (rowDen e)} {V : List Value} (hl : V.length = M.length * e.length) (h : RowsAt φ e M (fun k => V[k]?)) : Ones V := by
  obtain ⟨V2, h1, h2, h3, h4⟩ := h.list
  have : V2 = V := List.ext_getElem? fun k => by
    rcases Nat.lt_or_ge k V2.length with hk | hk
    · have := h2 k _ (List.getElem?_eq_getElem hk)
      rw [this, List.getElem?_eq_getElem hk]
    · rw [List.getElem?_eq_none hk, List.getElem?_eq_none (by omega)]
  rwa [← this]
theorem eAppendZ_rel (h : SRel own ρ s w) {ts : Array TypeId} {ty t el : TypeId} {i : TypeInfo} {zv : V} (ht : ts[0]? = some t) (hd : P.underlying t = some (.slice el)) (hi : P.info? el = some i) (hzz : zeroE P el = some zv) (h0 : zeroT P ts = true)
    {z : List V} (hz : cellsO zv = some z) (hzl : z.length = i.size) {a x v : V} {s' : St} {ps : List Bool} (hq : eAppendZ P s el i z a x = some (ps, v, s')) (hp : allB ps) {A X : Value} (ha : VRel ρ a A) (hx : VRel ρ x X) :
    OKv P own ρ (Builtin.append_ ts ty #[A, X]) w v s' := by
  unfold eAppendZ at hq
  split at hq
  · rename_i e cx n he hn
    obtain ⟨hsz, hs1⟩ := rowTy_spec he
    have his : i.size = e.length := by
      rw [info_szE hi] at hsz; exact Option.some.inj hsz
    split at hq
    · rename_i r hr
      cases hk : isI64 x with
      | false => rw [hk] at hq; cases hq
      | true =>
      rw [hk, cond_true] at hq
      refine eAppendG_rel h ht hd hi hzz he hz hzl List.length_replicate hq hp ha fun hc => ?_
      rw [allB_append] at hc
      obtain ⟨hc1, hc0⟩ := hc
      obtain ⟨hc2, hc3⟩ := roomy_spec hc0
      have hc2 : n * i.bytes ≤ 281474976710656 := Nat.le_trans (Nat.mul_le_mul_right _ (by omega)) hc2
      obtain ⟨k, rfl⟩ := natOf_rel hn hc1 hx
      have hki : k = .i64 := by
        unfold isI64 at hk
        split at hk
        · simp only [VRel] at hx
          injection hx with h1 h2
        · cases hk
      subst hki
      have hT : ∃ t1 k, ts[1]? = some t1 ∧ P.underlying t1 = some (.int k) := by
        unfold zeroT at h0
        split at h0
        · rename_i t1 ht1
          split at h0
          · rename_i k hk1; exact ⟨t1, k, ht1, hk1⟩
          · cases h0
        · cases h0
      have one : ∀ w' : World, ∃ V, SrcZ P ρ.φ ts el i e (List.replicate n r) (.int .i64 (n : Int)) w w' V := fun w' => by
        obtain ⟨Z, hZ, hzr, _⟩ := zeroE_rel (ρ := ρ) (w := w') hzz
        have hzc := cellsO_rel hz hzr
        have hzs := hzc.length
        simp only [Array.length_toList] at hzs
        have hrep := rep_rows hr hzc n
        have hzsz : Z.cells.size = e.length := by rw [← hzs, hzl, his]
        have e0 : (Array.range (n * e.length)).map (fun j => Z.cells[j % Z.cells.size]!) = Builtin.zeroCells Z.cells n := by
          unfold Builtin.zeroCells
          rw [hzsz]
        rw [e0] at hrep
        have hsize : (Builtin.zeroCells Z.cells n).toList.length = (List.replicate n r).length * e.length := by
          simp [zeroCells_size, hzsz]
        have hrows : RowsAt ρ.φ e (List.replicate n r) (fun k => (Builtin.zeroCells Z.cells n).toList[k]?) := by
          simpa using hrep
        refine ⟨(Builtin.zeroCells Z.cells n).toList, hsize, hrows, ones_of_rows hsize hrows, .inr ⟨hT, by simp, by simpa using hc2, by simpa using hc3, ?_⟩⟩
        rw [List.length_replicate]
        rcases Nat.eq_zero_or_pos (n * i.size) with hh | hh
        · refine .inl ⟨hh, List.length_eq_zero_iff.1 ?_⟩
          rw [hsize, List.length_replicate, ← his, hh]
        · exact .inr ⟨by omega, Z, hZ, by simp⟩
      obtain ⟨V, hV⟩ := one w
      obtain ⟨V', hV'⟩ := one { w with drawn := w.drawn + 1 }
      exact ⟨V, V', hV, hV'⟩
    · cases hq
  · cases hq

theorem lenE_rel {v : V} {n : Nat} (h : lenE v = some n) {A : Value} (ha : VRel ρ v A) : (Builtin.lenOf A).run P w = .ok n w := by
  unfold lenE at h
  split at h <;> cases h <;> simp only [VRel] at ha
  · subst ha; rfl
  · obtain ⟨_, _, _, _, _, rfl, _⟩ := ha; rfl

theorem sliceCells_rel (h : SRel own ρ s w) {v : V} {n sz : Nat} (hes : esOk v sz = true) {l : List V} (hq : sliceCells s v n = some l) {A : Value} (ha : VRel ρ v A) :
    ∃ L : List Value, (Builtin.firstCells sz n A).run P w = .ok L.toArray w ∧ LRel ρ l L := by
  unfold sliceCells at hq
  simp only [llen_eq, ltake_eq, ldrop_eq] at hq
  split at hq
  · cases hb : Nat.beq n 0 with
    | false => simp [hb] at hq
    | true =>
      simp only [hb, cond_true, Option.some.injEq] at hq
      subst hq
      simp only [VRel] at ha; subst ha
      exact ⟨[], rfl, LRel.nil⟩
  · rename_i b o len cap x es
    simp only [esOk, Nat.beq_eq] at hes
    subst hes
    split at hq
    · rename_i cs hcs
      cases hb : Nat.ble (o + n * es) cs.length with
      | false => simp [hb] at hq
      | true =>
        simp only [hb, cond_true, Option.some.injEq] at hq
        subst hq
        simp only [VRel] at ha
        obtain ⟨B, O, S, cap', hB, rfl, _⟩ := ha
        obtain ⟨L, h1, h2⟩ := load_of_cells (P := P) (h.cellsAt hcs hB).1 o (n * es) (by simpa [Nat.ble_eq] using hb)
        exact ⟨L, by simpa [Builtin.firstCells] using h1, h2⟩
    · cases hq
  · cases hq

theorem srcCells_rel (h : SRel own ρ s w) {v : V} {n sz : Nat} {l : List V} (hn : lenE v = some n) (hq : srcCells s v sz = some l) {A : Value} (ha : VRel ρ v A) :
    ∃ L : List Value, (Builtin.firstCells sz n A).run P w = .ok L.toArray w ∧ LRel ρ l L := by
  unfold srcCells at hq
  cases hb : esOk v sz with
  | false => simp [hb] at hq
  | true =>
    simp only [hb, cond_true, hn] at hq
    exact sliceCells_rel h hb hq ha
theorem srcCells_length {x : V} {n sz : Nat} {l : List V} (hn : lenE x = some n) (hq : srcCells s x sz = some l) : l.length = n * sz := by
  cases x <;> simp only [lenE, reduceCtorEq, Option.some.injEq] at hn
  case nils =>
    subst hn
    simp [srcCells, esOk, lenE, sliceCells] at hq
    subst hq; simp
  case sl b o len cap x es =>
    subst hn
    simp only [srcCells, esOk, lenE] at hq
    cases hb : Nat.beq es sz with
    | false => simp [hb] at hq
    | true =>
      have : es = sz := by simpa using hb
      subst this
      simp only [hb, cond_true, sliceCells, llen_eq, ltake_eq, ldrop_eq] at hq
      split at hq
      · rename_i cs _
        cases hbb : Nat.ble (o + len * es) cs.length with
        | false => simp [hbb] at hq
        | true =>
          simp only [hbb, cond_true, Option.some.injEq] at hq
          subst hq
          rw [Nat.ble_eq] at hbb
          simp; omega
      · cases hq
theorem srcE_length {i : TypeInfo} {x : V} {n : Nat} {l : List V} (hq : srcE s i x = some (n, l)) : l.length = n * i.size := by
  unfold srcE at hq
  split at hq
  · rename_i hn
    split at hq
    · rename_i hnew
      cases hq
      exact srcCells_length hn hnew
    · cases hq
  · cases hq
theorem srcE_rel {w' : World} (h : SRel own ρ s w) (h' : SRel own ρ s w') {ts : Array TypeId} (h0 : zerosE P ts = false) {e : TypeId} {i : TypeInfo} {x : V} {n : Nat} {l : List V} (hq : srcE s i x = some (n, l)) {X : Value} (hx : VRel ρ x X) :
    ∃ L : List Value, SrcOK P ts e i X n w w' L ∧ LRel ρ l L := by
  unfold srcE at hq
  split at hq
  · rename_i m hn
    split at hq
    · rename_i new hnew
      cases hq
      obtain ⟨L, hL, hLr⟩ := srcCells_rel (P := P) h' hn hnew hx
      exact ⟨L, .inl ⟨h0, lenE_rel (P := P) (w := w) hn hx, hL⟩, hLr⟩
    · cases hq
  · cases hq

theorem eAppendC_rel (h : SRel own ρ s w) {ts : Array TypeId} {ty t e : TypeId} {i : TypeInfo} {zv : V} (ht : ts[0]? = some t) (hd : P.underlying t = some (.slice e)) (hi : P.info? e = some i) (hzz : zeroE P e = some zv) (h0 : zerosE P ts = false)
    {z : List V} (hz : cellsO zv = some z) (hb0 : z.length = i.size ∧ 1 ≤ i.size) {a x v : V} {s' : St} {ps : List Bool} (hq : eAppendC s e i a x = some (ps, v, s')) {A X : Value} (ha : VRel ρ a A) (hx : VRel ρ x X) :
    OKv P own ρ (Builtin.append_ ts ty #[A, X]) w v s' := by
  unfold eAppendC at hq
  simp only [llen_eq, lall_eq, ltake_eq, ldrop_eq, lapp_eq, lget_eq] at hq
  split at hq
  · cases hq
  rename_i n new hnew
  have h' : SRel own ρ s { w with drawn := w.drawn + 1 } := h.same rfl
  obtain ⟨L, hL, hLr⟩ := srcE_rel (P := P) h h h0 (e := e) hnew hx
  obtain ⟨L', hL', hLr'⟩ := srcE_rel (P := P) h h' h0 (e := e) hnew hx
  obtain ⟨Z, hZ, hzr, _⟩ := zeroE_rel (ρ := ρ) (w := { w with drawn := w.drawn + 1 }) hzz
  have hzc := (cellsO_rel hz hzr).length
  simp only [Array.length_toList] at hzc
  have hnc : new.length = n * i.size := srcE_length hnew
  split at hq
  · -- nil
    simp only [VRel] at ha; subst ha
    cases hn0 : Nat.beq n 0 with
    | true =>
      rw [hn0, cond_true] at hq
      cases hq
      have e : n = 0 := by simpa using hn0
      subst e
      refine ⟨ρ, .slice none 0 0, w, ρ.le_refl, ?_, by simp only [VRel], h, Fr.refl _ _⟩
      rw [run_append_in ht hd hi hL (by omega)]
      rfl
    | false =>
      simp only [hn0, cond_false] at hq
      cases hb : (Nat.ble ((2 * n + 768) * i.bytes) 281474976710656 && Nat.ble n 1099511627776) with
      | false => simp [hb] at hq
      | true =>
      simp only [hb, cond_true] at hq
      cases hq
      simp only [Bool.and_eq_true, Nat.ble_eq] at hb
      have hn1 : 0 < n := by
        rcases Nat.eq_zero_or_pos n with e | e
        · subst e; simp at hn0
        · exact e
      obtain ⟨cap', hc, hrun⟩ := run_append_grow (P := P) (w := w) (ty := ty) (base := none) (len := 0) (cap := 0) (K := []) ht hd hi hL' (by simp [Builtin.firstCells]) hZ (by omega) (by simpa using hb.1) (by simpa using hb.2)
      simp only [Nat.zero_add, List.nil_append, Array.append_assoc] at hrun hc
      have hz2 : (#[] : Array Value) ++ (L'.toArray ++ Builtin.zeroCells Z.cells (cap' - n)) = L'.toArray ++ Builtin.zeroCells Z.cells (cap' - n) := by simp
      rw [hz2] at hrun
      obtain ⟨e1, e2, e3⟩ := h.newLong hLr' (Builtin.zeroCells Z.cells (cap' - n)) e e (w.drawn + 1) false
      refine ⟨_, _, _, e1, hrun, ?_, e2, e3⟩
      simp only [VRel]
      refine ⟨_, _, _, cap', Env.put_same, rfl, Nat.le_refl _, hc, by simp, ?_⟩
      have hl := hLr'.length
      simp only [Array.size_append, zeroCells_size, List.size_toArray]
      rw [← hl, hnc, ← hzc, hb0.1, ← Nat.add_mul]
      simp only [Nat.zero_add]
      exact Nat.mul_le_mul_right _ (by omega)
  · rename_i b o len cap x' es
    obtain ⟨hes, hq⟩ := bool_not_cond hq (by simp)
    have hes : es = i.size := by simpa using hes
    subst hes
    have ha0 := ha
    simp only [VRel] at ha
    obtain ⟨B, O, S, cap', hB, rfl, c1, c2, c3, c4⟩ := ha
    cases hcap : Nat.ble (len + n) cap with
    | true =>
      simp only [hcap, cond_true] at hq
      rw [Nat.ble_eq] at hcap
      split at hq
      · rename_i cs t' ish hg
        cases hb : (Nat.ble (o + (len + n) * i.size) cs.length && new.all oneV) with
        | false => simp [hb] at hq
        | true =>
        simp only [hb, cond_true] at hq
        cases hq
        simp only [Bool.and_eq_true, Nat.ble_eq] at hb
        have hmul : (len + n) * i.size = len * i.size + n * i.size := Nat.add_mul _ _ _
        obtain ⟨w', g1, g2, g3⟩ := h.write (P := P) hg hB hLr (o := o + len * i.size) (by omega) hb.2
        refine ⟨ρ, .slice (some ⟨B, O + o, none⟩) (len + n) cap', w', ρ.le_refl, ?_, ?_, g2, g3⟩
        · rw [run_append_in ht hd hi hL (by omega)]
          simp only [addr_add]
          simp only at g1
          rw [Nat.add_assoc, g1]
          rfl
        · simp only [VRel]
          exact ⟨B, O, S, cap', hB, rfl, hcap, c2, c3, c4⟩
      · cases hq
    | false =>
      simp only [hcap, cond_false] at hq
      have hcap' : cap < len + n := by
        refine Nat.lt_of_not_le fun hh => ?_
        rw [← Nat.ble_eq, hcap] at hh; cases hh
      obtain ⟨hb1, hq⟩ := bool_not_cond hq (by simp)
      simp only [Bool.and_eq_true, Nat.ble_eq] at hb1
      split at hq
      · rename_i cs t' ish hg
        obtain ⟨hb2, hq⟩ := bool_not_cond hq (by simp)
        simp only [Bool.and_eq_true, Nat.ble_eq] at hb2
        have hcsAt : cellsAt s b = some cs := by simp [cellsAt, hg]
        have hold : sliceCells s (.sl b o len cap x' i.size) len = some ((cs.drop o).take (len * i.size)) := by
          simp only [sliceCells, hcsAt, llen_eq, ltake_eq, ldrop_eq]
          have : Nat.ble (o + len * i.size) cs.length = true := by rw [Nat.ble_eq]; exact hb2.1
          rw [this]; rfl
        obtain ⟨K, hK, hKr⟩ := sliceCells_rel (P := P) h' (sz := i.size) (by simp [esOk]) hold ha0
        have hKlen : ((cs.drop o).take (len * i.size)).length = len * i.size := by simp; omega
        -- a new block
        have grow : cap' < len + n → ∃ ρ' Y w', ρ.le ρ' ∧ (Builtin.append_ ts ty #[.slice (some ⟨B, O + o, none⟩) len cap', X]).run P w = .ok Y w' ∧
            VRel ρ' (.sl s.next 0 (len + n) (len + n) false i.size) Y ∧ SRel own ρ' (s.new (.cells ((cs.drop o).take (len * i.size) ++ new) e false)) w' ∧ Fr own w w' := by
          intro hgt
          obtain ⟨cap2, hc, hrun⟩ := run_append_grow (P := P) (w := w) (ty := ty) ht hd hi hL' hK hZ hgt hb1.1 hb1.2
          have hKL : LRel ρ ((cs.drop o).take (len * i.size) ++ new) (K ++ L') := hKr.append hLr'
          obtain ⟨e1, e2, e3⟩ := h.newLong hKL (Builtin.zeroCells Z.cells (cap2 - (len + n))) e e (w.drawn + 1) false
          have e4 : (K ++ L').toArray = K.toArray ++ L'.toArray := by simp
          rw [← e4] at hrun
          refine ⟨_, _, _, e1, hrun, ?_, e2, e3⟩
          simp only [VRel]
          refine ⟨_, _, _, cap2, Env.put_same, rfl, Nat.le_refl _, hc, by simp, ?_⟩
          have hl := hKL.length
          simp only [Array.size_append, zeroCells_size, List.size_toArray]
          rw [← hl, List.length_append, hKlen, hnc, ← hzc, hb0.1, ← Nat.add_mul, ← Nat.add_mul]
          simp only [Nat.zero_add]
          exact Nat.mul_le_mul_right _ (by omega)
        cases hx' : x' with
        | true =>
          simp only [hx', cond_true] at hq
          cases hq
          exact grow (by rw [c3 hx']; exact hcap')
        | false =>
          simp only [hx', cond_false] at hq
          cases hq
          rcases Nat.lt_or_ge cap' (len + n) with hgt | hle
          · obtain ⟨ρ', Y, w', g1, g2, g3, g4, g5⟩ := grow hgt
            refine ⟨ρ', Y, w', g1, g2, g3, ?_, g5⟩
            -- what is struck is asked for no more
            refine ⟨g4.le, ?_, ?_, g4.dom, g4.top, g4.fz, g4.old⟩
            · intro k u z hk hz
              simp only [St.move, T.get_set] at hk
              have hk2 : (k = s.next ∧ u = .cells ((cs.drop o).take (len * i.size) ++ new) e ish) ∨ (k ≠ s.next ∧ s.heap.get k = some u) := by
                split at hk
                · rename_i ee; cases hk; exact .inl ⟨ee, rfl⟩
                · rename_i ee
                  split at hk
                  · cases hk
                  · exact .inr ⟨ee, hk⟩
              rcases hk2 with ⟨rfl, rfl⟩ | ⟨ee, hk⟩
              · obtain ⟨y2, C, tt, fr, y3, y4, y5, y6, y7, y8⟩ := g4.obj s.next (.cells ((cs.drop o).take (len * i.size) ++ new) e false) z (by simp [St.new, T.get_set]) hz
                exact ⟨y2, C, tt, fr, y3, y4, y5, y6, y7, fun _ => y8 rfl⟩
              · exact g4.obj k u z (by simp only [St.new, T.get_set, ee, if_false]; exact hk) hz
            · intro k k' u u' y y' hk hk' hy hy' hne
              have sub : ∀ k u, (s.move b (.cells ((cs.drop o).take (len * i.size) ++ new) e ish)).heap.get k = some u → ∃ u', (s.new (.cells ((cs.drop o).take (len * i.size) ++ new) e false)).heap.get k = some u' := by
                intro k u hk
                simp only [St.move, St.new, T.get_set] at hk ⊢
                split at hk
                · rename_i ee; exact ⟨_, by simp [ee]; rfl⟩
                · rename_i ee
                  split at hk
                  · cases hk
                  · exact ⟨u, by simp [ee, hk]⟩
              obtain ⟨u1, k1⟩ := sub k u hk
              obtain ⟨u2, k2⟩ := sub k' u' hk'
              exact g4.inj k k' u1 u2 y y' k1 k2 hy hy' hne
          · -- in place
            obtain ⟨C, tt, fr, e1, e2, e3, e4, e5, e6, e7⟩ := h.cellsObj hg hB
            simp only at e1 e2 e3 e4 e5 e7
            have hl := hLr.length
            have hmul : (len + n) * i.size = len * i.size + n * i.size := Nat.add_mul _ _ _
            have hfit : O + o + (len + n) * i.size ≤ S := Nat.le_trans (Nat.add_le_add_left (Nat.mul_le_mul_right _ hle) _) c4
            have hst := run_storeAll (P := P) L (O + (o + len * i.size)) 0 C w e1 (by rw [e2]; exact e5) (by omega) (allOne_rel hLr hb2.2)
            refine ⟨ρ.put s.next ⟨B, O + o, S⟩, .slice (some ⟨B, O + o, none⟩) (len + n) cap', _, Env.le_put _ h.fresh, ?_, ?_, h.move hg hB _ (.cells (setA C (O + (o + len * i.size)) L) tt fr) (O + o) rfl ?_, fr_set e7.1 rfl⟩
            · rw [run_append_in ht hd hi hL hle]
              simp only [addr_add]
              rw [Nat.add_assoc, hst]
              rfl
            · simp only [VRel]
              exact ⟨B, O + o, S, cap', Env.put_same, rfl, Nat.le_refl _, hle, by simp, by omega⟩
            · refine ⟨_, tt, fr, rfl, by rw [setA_size]; exact e2, ?_, ?_, e5, e6⟩
              · rw [List.length_append, hKlen, hnc]; show O + o + _ ≤ S; omega
              · have hle' := Env.le_put ⟨B, O + o, S⟩ h.fresh
                have hcp : CP ρ O (setAll (cs ++ List.replicate (o + (len + n) * i.size) .undef) (o + len * i.size) new) (setA C (O + (o + len * i.size)) L) ∨ True := .inr trivial
                intro j u hj
                simp only
                have sa : ∀ (l : List Value) (C : Array Value) (p k : Nat), p + l.length ≤ C.size → (setA C p l)[k]? = if p ≤ k ∧ k < p + l.length then l[k - p]? else C[k]? := by
                  intro l
                  induction l with
                  | nil => intro C p k _; simp [setA]; omega
                  | cons c l ih =>
                    intro C p k hp
                    simp only [List.length_cons] at hp ⊢
                    simp only [setA]
                    rw [ih _ _ _ (by simp; omega)]
                    by_cases hk : k = p
                    · subst hk
                      rw [if_neg (by omega), if_pos (by omega), Array.getElem?_setIfInBounds_self_of_lt (by omega)]
                      simp
                    · by_cases hk2 : p + 1 ≤ k ∧ k < p + 1 + l.length
                      · rw [if_pos hk2, if_pos (by omega)]
                        obtain ⟨d, rfl⟩ : ∃ d, k = p + 1 + d := ⟨k - (p + 1), by omega⟩
                        rw [show p + 1 + d - (p + 1) = d from by omega, show p + 1 + d - p = d + 1 from by omega]
                        simp
                      · rw [if_neg hk2, if_neg (by omega), Array.getElem?_setIfInBounds_ne (by omega)]
                have hlen2 : L.length = n * i.size := by rw [← hl, hnc]
                rw [sa _ _ _ _ (by omega)]
                rcases Nat.lt_or_ge j (len * i.size) with hj1 | hj1
                · rw [if_neg (by omega)]
                  rw [List.getElem?_append_left (by omega), List.getElem?_take_of_lt hj1, List.getElem?_drop] at hj
                  obtain ⟨W, q1, q2⟩ := e4 _ _ hj
                  exact ⟨W, by rw [Nat.add_assoc]; exact q1, VRel.mono hle' _ _ q2⟩
                · rw [List.getElem?_append_right (by omega), hKlen] at hj
                  have hj2 := (List.getElem?_eq_some_iff.1 hj).1
                  rw [if_pos (by omega)]
                  obtain ⟨W, q1, q2⟩ := hLr.get hj
                  refine ⟨W, ?_, VRel.mono hle' _ _ q2⟩
                  rw [← q1]; congr 1; omega
      · cases hq
  · cases hq

theorem SRel.writeMid (h : SRel own ρ s w) {b : Nat} {e : List Ty} {L M : List (rowDen e)} {t : TypeId} {ish : Bool} (hg : s.heap.get b = some (.rows e L t ish)) {x : Blk} (hx : ρ b = some x) {lo : Nat} (hlo : lo + M.length ≤ L.length)
    {V : List Value} (hs : V.length = M.length * e.length) (hr : RowsAt ρ.φ e M (fun k => V[k]?)) (h1 : Ones V) :
    ∃ w', (storeCells ⟨x.B, x.O + lo * e.length, none⟩ V).run P w = .ok () w' ∧ SRel own ρ (s.upd b (.rows e (L.take lo ++ (M ++ L.drop (lo + M.length))) t ish)) w' ∧ Fr own w w' := by
  have hlm : (lo + M.length) * e.length ≤ L.length * e.length := Nat.mul_le_mul_right _ hlo
  have hmul : (lo + M.length) * e.length = lo * e.length + M.length * e.length := Nat.add_mul _ _ _
  have hlen' : (L.take lo ++ (M ++ L.drop (lo + M.length))).length = L.length := by simp; omega
  refine h.writeRows (P := P) hg hx (o := lo * e.length) (V := V) (by rw [hs]; omega) h1 (M := L.take lo ++ (M ++ L.drop (lo + M.length))) (by rw [hlen']; exact Nat.le_refl _) (fun C C' hC hC' => ?_)
  have t1 : RowsAt ρ.φ e (L.take lo) (fun k => C[x.O + k]?) := by
    have := rows_drop 0 lo (by omega) hC
    simpa using this
  have t3 : RowsAt ρ.φ e (L.drop (lo + M.length)) (fun k => C[x.O + ((lo + M.length) * e.length + k)]?) := by
    have := rows_drop (lo + M.length) L.length (Nat.le_refl _) hC
    rw [List.take_length] at this
    exact this
  have l1 : (L.take lo).length = lo := by simp; omega
  refine rows_app t1 (rows_app (C := fun k => V[k]?) hr ?_ fun j hj => ?_) fun j hj => ?_
  · rw [l1]
    refine t3.mono (fun _ _ _ hv => hv) fun j v hj => ?_
    have := hC' (lo * e.length + (M.length * e.length + j))
    show C'[x.O + (lo * e.length + (M.length * e.length + j))]? = _
    rw [this, hs, if_neg (by omega), ← hj, hmul, Nat.add_assoc]
  · rw [l1]
    have := hC' (lo * e.length + j)
    show C'[x.O + (lo * e.length + j)]? = _
    rw [this, hs, if_pos (by omega), Nat.add_sub_cancel_left]
  · rw [l1] at hj
    have := hC' j
    show C'[x.O + j]? = _
    rw [this, if_neg (by omega)]
theorem SRel.upd_same (h : SRel own ρ s w) {b : Nat} {o : EObj} (hg : s.heap.get b = some o) : SRel own ρ (s.upd b o) w := by
  have key : ∀ k, (s.upd b o).heap.get k = s.heap.get k := by
    intro k
    simp only [St.upd, T.get_set]
    split
    · rename_i ek; subst ek; exact hg.symm
    · rfl
  exact ⟨h.le, fun k o x hk hx => h.obj k o x (by rw [← key]; exact hk) hx, fun k k' o1 o2 x x' hk hk' hx hx' => h.inj k k' o1 o2 x x' (by rw [← key]; exact hk) (by rw [← key]; exact hk') hx hx', h.dom, h.top, h.fz, h.old⟩

theorem eOver_rel (h : SRel own ρ s w) {ts : Array TypeId} {ty t el : TypeId} {i : TypeInfo} (ht : ts[0]? = some t) (hd : P.underlying t = some (.slice el)) (hi : P.info? el = some i) (h0 : zerosE P ts = false) {e : List Ty} (he : rowTy P el = some e)
    {a x v : V} {s' : St} {ps : List Bool} (hq : eOver s e a x = some (ps, v, s')) (hp : allB ps) {A X : Value} (ha : VRel ρ a A) (hx : VRel ρ x X) :
    OKv P own ρ (Builtin.append_ ts ty #[A, X]) w v s' := by
  obtain ⟨hsz, hs1⟩ := rowTy_spec he
  have his : i.size = e.length := by
    rw [info_szE hi] at hsz; exact Option.some.inj hsz
  unfold eOver at hq
  split at hq
  · rename_i b lo len cap es b2 lo2 len2 c2 x2 es2
    cases hb : (Nat.beq b b2 && (Nat.beq es e.length && Nat.beq es2 e.length)) with
    | false => rw [hb] at hq; cases hq
    | true =>
    rw [hb, cond_true] at hq
    simp only [Bool.and_eq_true, Nat.beq_eq] at hb
    obtain ⟨rfl, rfl, hes2⟩ := hb
    subst hes2
    split at hq
    · rename_i e' L t' ish hg
      split at hq
      · rename_i L' hL'
        cases hq
        obtain ⟨q, rfl⟩ := asL_some hL'
        subst q
        obtain ⟨hp1, hp2, hp3, _⟩ := hp
        have hle2 : lo2 + len2 ≤ L.length := of_decide_eq_true hp1
        have hcap : len + len2 ≤ cap := of_decide_eq_true hp2
        have hle : lo + len + len2 ≤ L.length := of_decide_eq_true hp3
        have hsl : (seg L lo2 len2).length = len2 := seg_length hle2
        have hrowsAt : rowsAt s b = some ⟨e', L⟩ := by simp [rowsAt, hg]
        obtain ⟨V, hV⟩ := srcRows_rel (P := P) h (e := e') (cs := [decide (lo2 + len2 ≤ L.length)]) (M := seg L lo2 len2) (x := .rs b lo2 len2 c2 x2 e'.length) (by
          simp only [srcRows, hrowsAt, hL', Nat.beq_refl, cond_true]
          rfl) ⟨decide_eq_true hle2, trivial⟩ hx
        have hso := SrcR.ok (fun {_} => trivial) h0 (el := el) his hV hV
        rw [hsl] at hso
        simp only [VRel] at ha
        obtain ⟨ad, c, rfl, g1, g2, g3, hn, hblk⟩ := ha
        have hin : len + len2 ≤ c := by omega
        have hrun := run_append_in (P := P) (w := w) (ty := ty) (base := ad) (len := len) (cap := c) ht hd hi hso hin
        rcases Nat.eq_zero_or_pos c with hc0 | hc0
        · subst hc0
          have hl0 : len = 0 := by omega
          have hm0 : len2 = 0 := by omega
          subst hl0; subst hm0
          have hV0 : V = [] := List.length_eq_zero_iff.1 (by rw [hV.size, hsl]; simp)
          have e1 : L.take (lo + 0) ++ (seg L lo2 0 ++ L.drop (lo + 0 + 0)) = L := by
            have : seg L lo2 0 = [] := List.length_eq_zero_iff.1 hsl
            rw [this]; simp
          refine ⟨ρ, .slice ad (0 + 0) 0, w, ρ.le_refl, ?_, ?_, ?_, Fr.refl _ _⟩
          · rw [hrun, hV0]
            cases ad <;> simp [storeCells]
          · simp only [VRel]
            exact ⟨ad, 0, rfl, hcap, g2, g3, fun _ => rfl, fun hx => absurd hx (Nat.lt_irrefl _)⟩
          · show SRel own ρ (s.upd b (.rows e' (L.take (lo + 0) ++ (seg L lo2 0 ++ L.drop (lo + 0 + 0))) t' ish)) w
            rw [e1]
            exact h.upd_same hg
        · obtain ⟨B, O, S, k1, rfl, k3⟩ := hblk hc0
          obtain ⟨w', q1, q2, q3⟩ := h.writeMid (P := P) hg k1 (M := seg L lo2 len2) (lo := lo + len) (by rw [hsl]; exact hle) hV.size hV.rows hV.ones
          rw [hsl] at q2
          refine ⟨ρ, .slice (some ⟨B, O + lo * e'.length, none⟩) (len + len2) c, w', ρ.le_refl, ?_, ?_, q2, q3⟩
          · rw [hrun]
            simp only [addr_add, his]
            have e3 : O + lo * e'.length + len * e'.length = O + (lo + len) * e'.length := by rw [Nat.add_mul]; omega
            simp only [e3]
            simp only at q1
            rw [q1]
            rfl
          · simp only [VRel]
            exact ⟨_, c, rfl, hcap, g2, g3, fun hn => (by cases hn), fun _ => ⟨_, _, _, k1, rfl, k3⟩⟩
      · cases hq
    · cases hq
  · cases hq

theorem eGrow_rel (h : SRel own ρ s w) {ts : Array TypeId} {ty t el : TypeId} {i : TypeInfo} {zv : V} (ht : ts[0]? = some t) (hd : P.underlying t = some (.slice el)) (hi : P.info? el = some i) (hzz : zeroE P el = some zv) (h0 : zerosE P ts = false) {e : List Ty} (he : rowTy P el = some e)
    {z : List V} (hz : cellsO zv = some z) (hzl : z.length = i.size) {a x v : V} {s' : St} {ps : List Bool} (hq : eGrow s e el i a x = some (ps, v, s')) (hp : allB ps) {A X : Value} (ha : VRel ρ a A) (hx : VRel ρ x X) :
    OKv P own ρ (Builtin.append_ ts ty #[A, X]) w v s' := by
  obtain ⟨hsz, hs1⟩ := rowTy_spec he
  have his : i.size = e.length := by
    rw [info_szE hi] at hsz; exact Option.some.inj hsz
  have h' : SRel own ρ s { w with drawn := w.drawn + 1 } := h.same rfl
  obtain ⟨Z, hZ, hzr, _⟩ := zeroE_rel (ρ := ρ) (w := { w with drawn := w.drawn + 1 }) hzz
  have hzc := (cellsO_rel hz hzr).length
  simp only [Array.length_toList] at hzc
  unfold eGrow at hq
  split at hq
  · rename_i b lo len cap es
    split at hq
    · rename_i cs M hM
      split at hq
      · rename_i e' L t' ish hg
        split at hq
        · rename_i L' hL'
          cases hes : Nat.beq es e.length with
          | false => rw [hes] at hq; cases hq
          | true =>
          rw [hes, cond_true] at hq
          have hes := Nat.eq_of_beq_eq_true hes
          subst hes
          cases hq
          rw [allB_append] at hp
          obtain ⟨hp1, hp2, hp4, hp3⟩ := hp
          have hle : lo + len ≤ L'.length := by simpa using hp2
          have hroom : cap < len + M.length ∨ cap = 0 := of_decide_eq_true hp4
          obtain ⟨V, hV⟩ := srcRows_rel (P := P) h hM hp1 hx
          obtain ⟨V', hV'⟩ := srcRows_rel (P := P) h' hM hp1 hx
          obtain ⟨r1, r2⟩ := roomy_spec hp3
          obtain ⟨q, rfl⟩ := asL_some hL'
          subst q
          have hle : lo + len ≤ L.length := hle
          have hsl := seg_length hle
          simp only [VRel] at ha
          obtain ⟨ad, c, rfl, c1, c2, c3, hn, hblk⟩ := ha
          have c3 := c3 trivial
          subst c3
          have hsegl : (seg L lo len ++ M).length = len + M.length := by rw [List.length_append, hsl]
          rcases Nat.lt_or_ge c (len + M.length) with hgt | hin
          · have hrowsAt : rowsAt s b = some ⟨e', L⟩ := by simp [rowsAt, hg]
            have hso := SrcR.ok (fun {_} => trivial) h0 (el := el) his hV hV'
            obtain ⟨K, hK⟩ := src_slice (P := P) (ρ := ρ) (w := { w with drawn := w.drawn + 1 }) (M := seg L lo len) (a := ad) (c := c) (fun hh => by have := hn hh; omega) fun hp => by
              obtain ⟨B, O, S, g1, g2, g3⟩ := hblk (by omega)
              have hr := rows_seg hle (h'.rowsAt hrowsAt g1).1
              exact ⟨B, _, g2, by simpa [Nat.add_assoc] using hr⟩
            rw [hsl] at hK
            have hKl := hK.load len (by rw [hsl]; exact Nat.le_refl _)
            have hKs := hK.size
            rw [hsl] at hKs
            rw [← hKs, List.take_length, ← his] at hKl
            obtain ⟨cap', hc, hrun⟩ := run_append_grow (P := P) (w := w) (ty := ty) ht hd hi hso hKl hZ hgt r1 r2
            have e4 : (K ++ V').toArray = K.toArray ++ V'.toArray := by simp
            rw [← e4] at hrun
            have hsz2 : (seg L lo len ++ M).length * e'.length ≤ (K ++ V').length := by rw [hsegl, List.length_append, hKs, hV'.size, Nat.add_mul]; exact Nat.le_refl _
            have hrows : RowsAt ρ.φ e' (seg L lo len ++ M) (fun k => (K ++ V')[k]?) := by
              refine rows_app hK.rows ?_ fun j hj => ?_
              · rw [hsl]
                refine hV'.rows.mono (fun _ _ _ hv => hv) fun j v hj => ?_
                rw [List.getElem?_append_right (by rw [hKs]; omega), hKs, Nat.add_sub_cancel_left]
                exact hj
              · rw [hsl] at hj
                rw [List.getElem?_append_left (by rw [hKs]; exact hj)]
            obtain ⟨e1, e2, e3⟩ := h.newLongRows hsz2 hrows (Builtin.zeroCells Z.cells (cap' - (len + M.length))) el el (w.drawn + 1) false
            refine ⟨_, _, _, e1, hrun, ?_, e2, e3⟩
            simp only [VRel]
            refine ⟨_, cap', rfl, Nat.le_refl _, hc, fun hx => (by cases hx), fun hn => (by cases hn), fun _ => ⟨_, _, _, Env.put_same, by simp, ?_⟩⟩
            simp only [Array.size_append, zeroCells_size, List.size_toArray, List.length_append]
            rw [hKs, hV'.size, ← hzc, hzl, his, ← Nat.add_mul, ← Nat.add_mul]
            simp only [Nat.zero_mul, Nat.zero_add]
            exact Nat.mul_le_mul_right _ (by omega)
          · have hc0 : c = 0 := by omega
            subst hc0
            have hl0 : len = 0 := by omega
            have hm0 : M.length = 0 := by omega
            have hso := SrcR.ok (fun {_} => trivial) h0 (el := el) his hV hV
            have hrun := run_append_in (P := P) (w := w) (ty := ty) (base := ad) (len := len) (cap := 0) ht hd hi hso hin
            have hV0 : V = [] := List.length_eq_zero_iff.1 (by rw [hV.size, hm0]; simp)
            refine ⟨ρ, .slice ad (len + M.length) 0, w, ρ.le_refl, ?_, ?_, h.ghost _, Fr.refl _ _⟩
            · rw [hrun, hV0]
              cases ad <;> simp [storeCells]
            · simp only [VRel]
              exact ⟨ad, 0, rfl, Nat.le_refl _, hin, fun hx => (by cases hx), fun _ => rfl, fun hx => absurd hx (Nat.lt_irrefl _)⟩
        · cases hq
      · cases hq
    · cases hq
  · cases hq

theorem eAppend_rel (h : SRel own ρ s w) {ts : Array TypeId} {ty : TypeId} {a x v : V} {s' : St} {ps : List Bool} (hq : eAppend P s ts a x = some (ps, v, s')) (hp : allB ps) {A X : Value} (ha : VRel ρ a A) (hx : VRel ρ x X) :
    OKv P own ρ (Builtin.append_ ts ty #[A, X]) w v s' := by
  unfold eAppend at hq
  simp only [llen_eq] at hq
  split at hq
  · cases hq
  rename_i t ht
  split at hq
  · rename_i el hd
    split at hq
    · rename_i i zv hi hzz
      split at hq
      · rename_i z hz
        cases hzt : zeroT P ts with
        | true =>
          rw [hzt, cond_true] at hq
          cases hb : (Nat.beq z.length i.size && Nat.ble 1 i.size) with
          | false => rw [hb] at hq; cases hq
          | true =>
          rw [hb, cond_true] at hq
          simp only [Bool.and_eq_true, Nat.beq_eq, Nat.ble_eq] at hb
          exact eAppendZ_rel h ht hd hi hzz hzt hz hb.1 hq hp ha hx
        | false =>
        rw [hzt, cond_false] at hq
        cases hb : (zerosE P ts || !(Nat.beq z.length i.size && Nat.ble 1 i.size)) with
        | true => rw [hb] at hq; cases hq
        | false =>
        rw [hb, cond_false] at hq
        simp only [Bool.or_eq_false_iff, Bool.not_eq_false', Bool.and_eq_true, Nat.beq_eq, Nat.ble_eq] at hb
        obtain ⟨h0, hb0⟩ := hb
        split at hq
        · rename_i e he
          split at hq
          · rename_i r hr
            cases hq
            exact eOver_rel h ht hd hi h0 he hr hp ha hx
          · split at hq
            · rename_i r hr
              cases hq
              exact eGrow_rel h ht hd hi hzz h0 he hz hb0.1 hr hp ha hx
            · split at hq
              · rename_i r hr
                cases hq
                exact eAppendR_rel h ht hd hi hzz h0 he hz hb0.1 hr hp ha hx
              · exact eAppendC_rel h ht hd hi hzz h0 hz hb0 hq ha hx
        · exact eAppendC_rel h ht hd hi hzz h0 hz hb0 hq ha hx
      · cases hq
    · cases hq
  · cases hq

theorem eCopy_rel (h : SRel own ρ s w) {ts : Array TypeId} {ty : TypeId} {d x v : V} {s' : St} {ps : List Bool} (hq : eCopy P s ts d x = some (ps, v, s')) (hp : allB ps) {D X : Value} (hd : VRel ρ d D) (hx : VRel ρ x X) :
    OKv P own ρ (Builtin.copy_ ts ty #[D, X]) w v s' := by
  unfold eCopy at hq
  split at hq
  · cases hq
  rename_i t ht
  split at hq
  · rename_i el hu
    split at hq
    · cases hq
    rename_i e he
    obtain ⟨hsz, hs1⟩ := rowTy_spec he
    split at hq
    · cases hq
    rename_i cs M hM
    split at hq
    · cases hq
      obtain ⟨V, hV⟩ := srcRows_rel (P := P) h hM hp hx
      simp only [VRel] at hd; subst hd
      have hL := hV.load (Nat.min M.length 0) (Nat.min_le_left _ _)
      refine ⟨ρ, .int .i64 0, w, ρ.le_refl, ?_, by simp only [VRel], h, Fr.refl _ _⟩
      have h0 : Nat.min M.length 0 = 0 := by simp
      rw [h0] at hL
      have hln := hV.len
      simp [Builtin.copy_, ht, run_und hu, hln, run_size hsz, h0, hL, goInt]
    · rename_i b lo len cap x' es
      split at hq
      · rename_i e' L t' ish hg
        split at hq
        · rename_i L' hL'
          cases hes : Nat.beq es e.length with
          | false => rw [hes] at hq; cases hq
          | true =>
          rw [hes, cond_true] at hq
          have hes := Nat.eq_of_beq_eq_true hes
          subst hes
          cases hq
          rw [allB_append] at hp
          obtain ⟨hp1, hp2, _⟩ := hp
          obtain ⟨V, hV⟩ := srcRows_rel (P := P) h hM hp1 hx
          obtain ⟨q, rfl⟩ := asL_some hL'
          subst q
          have hle0 := of_decide_eq_true hp2
          have hle : lo + len ≤ L.length := hle0
          generalize hm : Nat.min M.length len = m
          have hm1 : m ≤ M.length := by rw [← hm]; exact Nat.min_le_left _ _
          have hm2 : m ≤ len := by rw [← hm]; exact Nat.min_le_right _ _
          have hmm : min M.length len = m := hm
          simp only [VRel] at hd
          obtain ⟨ad, c, rfl, c1, c2, _, hn, hblk⟩ := hd
          have hload := hV.load m hm1
          have hln := hV.len
          rcases Nat.eq_zero_or_pos c with hc0 | hc0
          · subst hc0
            have hl0 : len = 0 := by omega
            have hm0 : m = 0 := by omega
            subst hl0; subst hm0
            refine ⟨ρ, .int .i64 (0 : Nat), w, ρ.le_refl, ?_, by simp only [VRel]; rfl, ?_, Fr.refl _ _⟩
            · cases ad <;> simp [Builtin.copy_, ht, run_und hu, hln, run_size hsz, hmm, hload, goInt, storeCells]
            · have e1 : L.take lo ++ (M.take 0 ++ L.drop (lo + 0)) = L := by simp
              show SRel own ρ (s.upd b (.rows e' (L.take lo ++ (M.take 0 ++ L.drop (lo + 0))) t' ish)) w
              rw [e1]
              have key : ∀ k, (s.upd b (.rows e' L t' ish)).heap.get k = s.heap.get k := by
                intro k
                simp only [St.upd, T.get_set]
                split
                · rename_i ek; subst ek; exact hg.symm
                · rfl
              exact ⟨h.le, fun k o x hk hx => h.obj k o x (by rw [← key]; exact hk) hx, fun k k' o1 o2 x x' hk hk' hx hx' => h.inj k k' o1 o2 x x' (by rw [← key]; exact hk) (by rw [← key]; exact hk') hx hx', h.dom, h.top, h.fz, h.old⟩
          · obtain ⟨B, O, S, g1, rfl, g3⟩ := hblk hc0
            have hVm : (V.take (m * e'.length)).length = m * e'.length := by
              rw [List.length_take, hV.size]
              exact Nat.min_eq_left (Nat.mul_le_mul_right _ hm1)
            have hlm : (lo + m) * e'.length ≤ L.length * e'.length := Nat.mul_le_mul_right _ (by omega)
            have hmul : (lo + m) * e'.length = lo * e'.length + m * e'.length := Nat.add_mul _ _ _
            have hlen' : (L.take lo ++ (M.take m ++ L.drop (lo + m))).length = L.length := by simp; omega
            obtain ⟨w', q1, q2, q3⟩ := h.writeRows (P := P) hg g1 (o := lo * e'.length) (V := V.take (m * e'.length)) (by rw [hVm]; omega) (fun X hX => hV.ones X (List.mem_of_mem_take hX)) (M := L.take lo ++ (M.take m ++ L.drop (lo + m))) (by rw [hlen']; exact Nat.le_refl _) (fun C C' hC hC' => by
              have t1 : RowsAt ρ.φ e' (L.take lo) (fun k => C[O + k]?) := by
                have := rows_drop 0 lo (by omega) hC
                simpa using this
              have t2 : RowsAt ρ.φ e' (M.take m) (fun k => V[k]?) := by
                have := rows_drop 0 m hm1 hV.rows
                simpa using this
              have t3 : RowsAt ρ.φ e' (L.drop (lo + m)) (fun k => C[O + ((lo + m) * e'.length + k)]?) := by
                have := rows_drop (lo + m) L.length (Nat.le_refl _) hC
                rw [List.take_length] at this
                exact this
              have l1 : (L.take lo).length = lo := by simp; omega
              have l2 : (M.take m).length = m := by simp; omega
              refine rows_app t1 (rows_app (C := fun k => V[k]?) t2 ?_ fun j hj => ?_) fun j hj => ?_
              · rw [l1, l2]
                refine t3.mono (fun _ _ _ hv => hv) fun j v hj => ?_
                have := hC' (lo * e'.length + (m * e'.length + j))
                simp only at this
                show C'[O + (lo * e'.length + (m * e'.length + j))]? = _
                rw [this, hVm, if_neg (by omega), ← hj, hmul, Nat.add_assoc]
              · rw [l1]
                rw [l2] at hj
                have := hC' (lo * e'.length + j)
                simp only at this
                show C'[O + (lo * e'.length + j)]? = _
                rw [this, hVm, if_pos (by omega), Nat.add_sub_cancel_left, List.getElem?_take_of_lt hj]
              · rw [l1] at hj
                have := hC' j
                simp only at this
                show C'[O + j]? = _
                rw [this, if_neg (by omega)])
            refine ⟨ρ, .int .i64 (m : Nat), w', ρ.le_refl, ?_, by simp only [VRel]; rfl, q2, q3⟩
            simp only at q1
            simp [Builtin.copy_, ht, run_und hu, hln, run_size hsz, hmm, hload, goInt, q1]
        · cases hq
      · cases hq
    · cases hq
  · cases hq
theorem SRel.congr (h : SRel own ρ s w) {T' : T EObj} (hk : ∀ k, T'.get k = s.heap.get k) : SRel own ρ ⟨T', s.next⟩ w :=
  ⟨h.le, fun k o x hg hx => h.obj k o x (by rw [← hk]; exact hg) hx, fun k k' o1 o2 x x' hg hg' hx hx' => h.inj k k' o1 o2 x x' (by rw [← hk]; exact hg) (by rw [← hk]; exact hg') hx hx', h.dom, h.top, h.fz, h.old⟩
theorem SRel.cutRows (h : SRel own ρ s w) {b : Nat} {e : List Ty} {L : List (rowDen e)} {t : TypeId} {ish : Bool} (hg : s.heap.get b = some (.rows e L t ish)) (n : Nat) : SRel own ρ (s.upd b (.rows e (L.take n) t ish)) w := by
  refine ⟨h.le, fun k o x hk hx => ?_, fun k k' o1 o2 x x' hk hk' hx hx' hne => ?_, h.dom, h.top, h.fz, h.old⟩
  · simp only [St.upd, T.get_set] at hk
    split at hk
    · rename_i ek; subst ek; cases hk
      obtain ⟨g1, C, t', fr, e1, e2, e3, e4, e5⟩ := h.obj k _ x hg hx
      refine ⟨g1, C, t', fr, e1, e2, ?_, ?_, e5⟩
      · have : (L.take n).length * e.length ≤ L.length * e.length := Nat.mul_le_mul_right _ (by rw [List.length_take]; omega)
        omega
      · intro i hi
        rw [List.length_take] at hi
        have := e4 i (by omega)
        have e6 : rowAt e (L.take n) i = rowAt e L i := by
          simp only [rowAt, List.getD_eq_getElem?_getD]
          rw [List.getElem?_take_of_lt (by omega)]
        rw [e6]
        exact this
    · exact h.obj k o x hk hx
  · have g : ∀ k o, (s.upd b (.rows e (L.take n) t ish)).heap.get k = some o → ∃ o', s.heap.get k = some o' := by
      intro k o hk
      simp only [St.upd, T.get_set] at hk
      split at hk
      · rename_i ek; subst ek; exact ⟨_, hg⟩
      · exact ⟨_, hk⟩
    obtain ⟨_, g1⟩ := g _ _ hk
    obtain ⟨_, g2⟩ := g _ _ hk'
    exact h.inj k k' _ _ x x' g1 g2 hx hx' hne
theorem eClear_rel (h : SRel own ρ s w) {ts : Array TypeId} {ty : TypeId} {d v : V} {s' : St} {ps : List Bool} (hq : eClear P s ts d = some (ps, v, s')) (hp : allB ps) {D : Value} (hd : VRel ρ d D) :
    OKv P own ρ (Builtin.clear_ ts ty #[D]) w v s' := by
  unfold eClear at hq
  split at hq
  · cases hq
  rename_i t ht
  split at hq
  · rename_i el hu
    split at hq
    · rename_i e zv he hzz
      obtain ⟨hsz, hs1⟩ := rowTy_spec he
      split at hq
      · rename_i z hz
        split at hq
        · rename_i r hr
          split at hq
          · cases hq
            simp only [VRel] at hd; subst hd
            exact ⟨ρ, .tuple #[], w, ρ.le_refl, by simp [Builtin.clear_, ht, run_und hu], by simp only [VRel], h, Fr.refl _ _⟩
          · rename_i b lo len cap x' es
            split at hq
            · rename_i e' L t' ish hg
              split at hq
              · rename_i L' hL'
                cases hes : Nat.beq es e.length with
                | false => rw [hes] at hq; cases hq
                | true =>
                rw [hes, cond_true] at hq
                have hes := Nat.eq_of_beq_eq_true hes
                subst hes
                cases hq
                obtain ⟨q, rfl⟩ := asL_some hL'
                subst q
                have hle : lo + len ≤ L.length := of_decide_eq_true hp.1
                simp only [VRel] at hd
                obtain ⟨ad, c, rfl, c1, c2, _, hn, hblk⟩ := hd
                rcases Nat.eq_zero_or_pos len with hl0 | hl0
                · subst hl0
                  refine ⟨ρ, .tuple #[], w, ρ.le_refl, by cases ad <;> simp [Builtin.clear_, ht, run_und hu], by simp only [VRel], ?_, Fr.refl _ _⟩
                  exact h.cutRows hg lo
                · obtain ⟨B, O, S, k1, rfl, k3⟩ := hblk (by omega)
                  obtain ⟨Z, hZ, hzr, _⟩ := zeroE_rel (ρ := ρ) (w := w) hzz
                  have hzc := cellsO_rel hz hzr
                  have hzl := hzc.length
                  simp only [Array.length_toList] at hzl
                  have hrl := ofRow_length _ _ _ hr
                  have hrep := rep_rows hr hzc len
                  have hVl : (Builtin.zeroCells Z.cells len).toList.length = (List.replicate len r).length * e'.length := by
                    rw [Array.length_toList, zeroCells_size, ← hzl, hrl, List.length_replicate]
                  have hrep' : RowsAt ρ.φ e' (List.replicate len r) (fun k => (Builtin.zeroCells Z.cells len).toList[k]?) := by
                    have : Builtin.zeroCells Z.cells len = (Array.range (len * e'.length)).map fun j => Z.cells[j % Z.cells.size]! := by
                      unfold Builtin.zeroCells
                      rw [← hzl, hrl]
                    rw [this]
                    simpa only [Array.getElem?_toList] using hrep
                  have hones : Ones (Builtin.zeroCells Z.cells len).toList := by
                    intro X hX
                    obtain ⟨k, hk, rfl⟩ := List.mem_iff_getElem.1 hX
                    obtain ⟨X', hX', h1⟩ := RowsAt.cell hrep' (k := k) (by rw [← hVl]; exact hk)
                    rw [List.getElem?_eq_getElem hk] at hX'
                    cases hX'
                    exact h1
                  obtain ⟨w', q1, q2, q3⟩ := h.writeMid (P := P) hg k1 (M := List.replicate len r) (lo := lo) (by rw [List.length_replicate]; exact hle) hVl hrep' hones
                  have hcut := q2.cutRows (b := b) (by simp only [St.upd, T.get_set, if_true]; rfl) lo
                  have e5 : (L.take lo ++ (List.replicate len r ++ L.drop (lo + (List.replicate len r).length))).take lo = L.take lo := by rw [List.take_append_of_le_length (by rw [List.length_take]; omega), List.take_take, Nat.min_self]
                  rw [e5] at hcut
                  have q2' : SRel own ρ (s.upd b (.rows e' (L.take lo) t' ish)) w' := hcut.congr fun k => by
                    simp only [St.upd, T.get_set]
                    split <;> rfl
                  refine ⟨ρ, .tuple #[], w', ρ.le_refl, ?_, by simp only [VRel], q2', q3⟩
                  simp only at q1
                  obtain ⟨m, rfl⟩ : ∃ m, len = m + 1 := ⟨len - 1, by omega⟩
                  simp [Builtin.clear_, ht, run_und hu, hZ, q1]
              · cases hq
            · cases hq
          · cases hq
        · cases hq
      · cases hq
    · cases hq
  · cases hq
end
end Go.Sym
end
