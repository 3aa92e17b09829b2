/-
  The evaluator's append, copy, bytes of a string, and maps: the model does the like.
-/
import Derived.Test.YtmnjgdnmlopigaaGreatEngH
namespace Go.Eng
open Go.RowKit (Below)
set_option linter.unusedSimpArgs false
set_option linter.unusedVariables false

section
variable {P : Program} {base : Nat} {ρ : Env} {s : St} {w : World}

theorem bytes_rel : ∀ (l : List UInt8), LRel ρ (l.map byteV) (l.map fun b => Value.int .u8 b.toNat)
  | [] => LRel.nil
  | b :: l => LRel.cons (by simp only [byteV, VRel]; rfl) (bytes_rel l)

theorem cut_cap {n o : Nat} {e : TypeId} {t : Nat} (h : n ≤ 1099511627776) : n ≤ (Question.appendCap n o e).cut t ∧ (Question.appendCap n o e).cut t ≤ 9223372036854775807 := by
  have := Nat.mod_lt t (y := 2 ^ 63 - n) (by omega)
  show n ≤ n + t % (2 ^ 63 - n) ∧ n + t % (2 ^ 63 - n) ≤ _
  omega
theorem eBytes_rel (h : SRel base ρ s w) {src dst : TypeId} {a v : V} {s' : St} (hq : eBytes P s src dst a = some (v, s')) {A : Value} (ha : VRel ρ a A) : OKv P base ρ (Go.convert src dst A) w v s' := by
  unfold eBytes at hq
  split at hq
  · rename_i sd e x hs hd
    split at hq
    · rename_i he
      have hbn : x.n ≤ 1099511627776 := by
        cases hbn : Nat.ble x.n 1099511627776 with
        | false => rw [hbn] at hq; cases hq
        | true => exact Nat.le_of_ble_eq_true hbn
      rw [show Nat.ble x.n 1099511627776 = true from Nat.ble_eq_true_of_le hbn, cond_true, bytesV_eq] at hq
      cases hq
      simp only [VRel] at ha; subst ha
      obtain ⟨cap, ⟨hcap, hcap2⟩, hrun⟩ : ∃ cap, (x.n ≤ cap ∧ cap ≤ 9223372036854775807) ∧ (choose (.appendCap x.n 0 e)).run P w = .ok cap { w with drawn := w.drawn + 1 } := by
        refine ⟨_, ?_, by simp [Question.forced]; rfl⟩
        exact cut_cap hbn
      let C : Array Value := (x.den.data.map fun b => Value.int .u8 b.toNat) ++ Array.replicate (cap - x.n) (.int .u8 0)
      have hC : C.size = cap := by
        have : x.den.data.size = x.n := BS.den_size x
        simp [C, this, BS.den_size]; omega
      have hle := Env.le_put ⟨w.heap.size, 0, C.size⟩ h.fresh
      let w' : World := { w with drawn := w.drawn + 1, heap := w.heap.push (.cells C e (C.size, C.size + 1)) }
      refine ⟨ρ.put s.next ⟨w.heap.size, 0, C.size⟩, .slice (some ⟨w.heap.size, 0, none⟩) x.n cap, w', hle, ?_, ?_, ?_, ?_⟩
      · simp only [Go.convert, Sem.run_bind, run_und hs, run_und hd, Result.andThen_ok, run_und he, Conv.stringToBytes, BS.den_size, hrun, newRow, run_newObj, Sem.run_pure, markStringish, run_shape]
        have hsh : ({ w with drawn := w.drawn + 1, heap := w.heap.push (.cells C e) } : World).shape? w.heap.size = some (e, C.size) := by simp [World.shape?]
        have hfr : ({ w with drawn := w.drawn + 1, heap := w.heap.push (.cells C e) } : World).freeze ⟨w.heap.size, C.size, none⟩ 1 = w' := by
          simp only [World.freeze]
          rw [if_neg (by decide)]
          simp only [w']
          congr 1
          apply Array.ext_getElem?
          intro i
          rw [Array.getElem?_modify, Array.getElem?_push, Array.getElem?_push]
          by_cases hi : i = w.heap.size
          · subst hi; simp
          · simp [hi, Ne.symm hi]
        simp only [C] at hsh hfr
        simp only [hsh, Sem.run_bind, run_freeze, hfr, Result.andThen_ok, Sem.run_pure, BS.den_size]
      · simp only [VRel]
        exact ⟨_, _, _, cap, Env.put_same, rfl, Nat.le_refl _, hcap, by simp, by show 0 + 0 + cap * 1 ≤ C.size; omega, hcap2⟩
      · refine h.new _ (.cells C e (C.size, C.size + 1)) C.size rfl ⟨C, e, (C.size, C.size + 1), rfl, rfl, ?_, ?_, ?_, by simp⟩
        · simp [BS.list, dig_length]; omega
        · intro i v hi
          obtain ⟨X, e1, e2⟩ := (bytes_rel (ρ := ρ) x.list).get hi
          refine ⟨X, ?_, VRel.mono hle _ _ e2⟩
          have hlt : i < x.n := by
            have := (List.getElem?_eq_some_iff.1 hi).1
            simpa [BS.list, dig_length] using this
          have hsz : x.den.data.size = x.n := BS.den_size x
          simp only [C, Nat.zero_add]
          rw [Array.getElem?_append_left (by simpa [hsz] using hlt)]
          have : x.den.data.toList = x.list := rfl
          rw [← Array.getElem?_toList, Array.toList_map, this]
          exact e1
        · intro k hk
          have : decide (C.size ≤ k) = false := by simp; omega
          simp [this]
      · exact ⟨rfl, rfl, rfl, by simp [w'], fun k hk => by simp only [w']; rw [Array.getElem?_push, if_neg (by have := h.le; omega)]⟩
    · cases hq
  · cases hq

theorem lenE_rel {v : V} {n : Nat} (h : lenE v = some n) {A : Value} (ha : VRel ρ v A) : (Builtin.lenOf A).run P w = .ok n w := by
  unfold lenE at h
  split at h <;> cases h <;> simp only [VRel] at ha
  · subst ha; rfl
  · obtain ⟨_, _, rfl, _⟩ := ha; rfl
  · obtain ⟨_, _, _, _, _, rfl, _⟩ := ha; rfl
  · subst ha; simp [Builtin.lenOf, BS.den_size]

theorem sliceCells_rel (h : SRel base ρ s w) {v : V} {n sz : Nat} (hes : esOk v sz = true) {l : List V} (hq : sliceCells s v n = some l) {A : Value} (ha : VRel ρ v A) :
    ∃ L : List Value, (Builtin.firstCells sz n A).run P w = .ok L.toArray w ∧ LRel ρ l L := by
  unfold sliceCells at hq
  simp only [llen_eq, ltake_eq, ldrop_eq] at hq
  split at hq
  · cases hb : Nat.beq n 0 with
    | false => simp [hb] at hq
    | true =>
      simp only [hb, cond_true, Option.some.injEq, bytesV_eq] at hq
      subst hq
      simp only [VRel] at ha; subst ha
      exact ⟨[], rfl, LRel.nil⟩
  · cases hb : Nat.beq n 0 with
    | false => simp [hb] at hq
    | true =>
      simp only [hb, cond_true, Option.some.injEq] at hq
      subst hq
      have : n = 0 := Nat.eq_of_beq_eq_true hb
      subst this
      simp only [VRel] at ha
      obtain ⟨a, c, rfl, _⟩ := ha
      exact ⟨[], by simp [Builtin.firstCells, loadCells, loadCellsFrom], LRel.nil⟩
  · rename_i b o len cap x es
    simp only [esOk, Nat.beq_eq] at hes
    subst hes
    split at hq
    · rename_i cs hcs
      cases hb : Nat.ble (o + n * es) cs.length with
      | false => simp [hb] at hq
      | true =>
        simp only [hb, cond_true, Option.some.injEq] at hq
        subst hq
        simp only [VRel] at ha
        obtain ⟨B, O, S, cap', hB, rfl, _⟩ := ha
        obtain ⟨x', hx, hc⟩ := h.cellsAt hcs hB
        rw [hB] at hx; cases hx
        obtain ⟨L, h1, h2⟩ := hc.load (P := P) o (n * es) (by simpa [Nat.ble_eq] using hb)
        exact ⟨L, by simpa [Builtin.firstCells] using h1, h2⟩
    · cases hq
  · cases hq

theorem srcCells_rel (h : SRel base ρ s w) {v : V} {n sz : Nat} {l : List V} (hn : lenE v = some n) (hq : srcCells s v sz = some l) {A : Value} (ha : VRel ρ v A) :
    ∃ L : List Value, (Builtin.firstCells sz n A).run P w = .ok L.toArray w ∧ LRel ρ l L := by
  unfold srcCells at hq
  split at hq
  · rename_i x
    cases hb : Nat.beq sz 1 with
    | false => simp [hb] at hq
    | true =>
      simp only [hb, cond_true, Option.some.injEq] at hq
      subst hq
      simp only [VRel] at ha; subst ha
      simp only [lenE, Option.some.injEq] at hn
      subst hn
      refine ⟨x.list.map fun b => Value.int .u8 b.toNat, ?_, by first | exact bytes_rel _ | (rw [bytesV_eq]; exact bytes_rel _)⟩
      have e : x.den.extract 0 x.n = x.den := by rw [← BS.den_size x, ByteArray.extract_zero_size]
      have e2 : x.den.data.map (fun b => Value.int .u8 b.toNat) = (x.list.map fun b => Value.int .u8 b.toNat).toArray := by
        apply Array.ext'; simp [BS.den, BS.list]
      simp only [Builtin.firstCells, e, e2, Sem.run_pure]
  · cases hb : esOk v sz with
    | false => simp [hb] at hq
    | true =>
      simp only [hb, cond_true, hn] at hq
      exact sliceCells_rel h hb hq ha

theorem growBy_le (n : Nat) : ∀ r c, c ≤ n + (n + 768) / 4 → Builtin.growBy n r c ≤ n + (n + 768) / 4
  | 0, c, h => h
  | r + 1, c, h => by
    simp only [Builtin.growBy]
    split
    · exact h
    · exact growBy_le n r _ (by omega)
theorem nextcap_le {n c : Nat} (h : c < n) : Builtin.nextslicecap n c ≤ 2 * n + 768 := by
  unfold Builtin.nextslicecap
  split
  · omega
  · split
    · omega
    · have := growBy_le n 4 c (by omega)
      omega

/-- a new block whose first cells are told -/
theorem SRel.newLong (h : SRel base ρ s w) {cs : List V} {L : List Value} (hc : LRel ρ cs L) (R : Array Value) (t t' : TypeId) (d : Nat) :
    ρ.le (ρ.put s.next ⟨w.heap.size, 0, (L.toArray ++ R).size⟩) ∧ SRel base (ρ.put s.next ⟨w.heap.size, 0, (L.toArray ++ R).size⟩) (s.new (.cells cs t false)) { w with drawn := d, heap := w.heap.push (.cells (L.toArray ++ R) t') } ∧
      Below base w { w with drawn := d, heap := w.heap.push (.cells (L.toArray ++ R) t') } := by
  have hle := Env.le_put ⟨w.heap.size, 0, (L.toArray ++ R).size⟩ h.fresh
  refine ⟨hle, h.new _ (.cells (L.toArray ++ R) t') _ rfl ⟨_, t', (0, 0), rfl, rfl, ?_, ?_, by simp, fun _ => rfl⟩, rfl, rfl, rfl, by simp, fun k hk => ?_⟩
  · have := hc.length; simp; omega
  · intro i v hi
    obtain ⟨X, e1, e2⟩ := hc.get hi
    have hlt := (List.getElem?_eq_some_iff.1 e1).1
    refine ⟨X, ?_, VRel.mono hle _ _ e2⟩
    rw [Nat.zero_add, Array.getElem?_append_left (by simpa using hlt)]
    simpa using e1
  · simp only
    rw [Array.getElem?_push, if_neg (by have := h.le; omega)]

/-- the same block under a new name, the elder name struck -/
theorem SRel.move (h : SRel base ρ s w) {b : Nat} {o : EObj} {x : Blk} (hb : s.heap.get b = some o) (hx : ρ b = some x) (o1 : EObj) (X : Obj) (O1 : Nat) {w' : World} (hw : w'.heap = w.heap.setIfInBounds x.B X)
    (ho : ORel (ρ.put s.next ⟨x.B, O1, x.S⟩) O1 x.S (some X) o1) : SRel base (ρ.put s.next ⟨x.B, O1, x.S⟩) (s.move b o1) w' := by
  have hlt := h.lt hb hx
  have hle := Env.le_put ⟨x.B, O1, x.S⟩ h.fresh
  have hbn : b < s.next := h.dom _ _ hx
  have get : ∀ k v, (s.move b o1).heap.get k = some v → (k = s.next ∧ v = o1) ∨ (k ≠ s.next ∧ k ≠ b ∧ s.heap.get k = some v) := by
    intro k v hk
    simp only [St.move, T.get_set] at hk
    split at hk
    · rename_i e; cases hk; exact .inl ⟨e, rfl⟩
    · rename_i e
      split at hk
      · cases hk
      · rename_i e2; exact .inr ⟨e, e2, hk⟩
  obtain ⟨y, g1, g2, _⟩ := h.obj' hb hx
  rw [hx] at g1; cases g1
  refine ⟨by rw [hw]; simpa using h.le, ?_, ?_, ?_, by simp only [Env.put, St.move]; have := h.top; omega⟩
  · intro k v z hk hz
    rcases get k v hk with ⟨rfl, rfl⟩ | ⟨e1, e2, hk⟩
    · rw [Env.put_same] at hz; cases hz
      exact ⟨g2, by rw [hw]; simpa [hlt] using ho⟩
    · rw [Env.put_ne e1] at hz
      obtain ⟨y, h1, h2, h3⟩ := h.obj' hk hz
      rw [hz] at h1; cases h1
      have h1 := hz
      refine ⟨h2, ?_⟩
      have := h.inj k b _ _ z x hk hb h1 hx e2
      rw [hw, Array.getElem?_setIfInBounds_ne (fun k => this k.symm)]
      exact h3.mono hle
  · intro k k' v v' y y' hk hk' hy hy' hne
    rcases get k v hk with ⟨rfl, rfl⟩ | ⟨e1, e2, g⟩ <;> rcases get k' v' hk' with ⟨rfl, rfl⟩ | ⟨e1', e2', g'⟩
    · exact absurd rfl hne
    · rw [Env.put_same] at hy; cases hy
      rw [Env.put_ne e1'] at hy'
      exact fun e => h.inj k' b _ _ y' x g' hb hy' hx e2' e.symm
    · rw [Env.put_same] at hy'; cases hy'
      rw [Env.put_ne e1] at hy
      exact h.inj k b _ _ y x g hb hy hx e2
    · rw [Env.put_ne e1] at hy
      rw [Env.put_ne e1'] at hy'
      exact h.inj k k' v v' y y' g g' hy hy' hne
  · intro k y hy
    simp only [Env.put] at hy
    show k < s.next + 1
    split at hy
    · omega
    · have := h.dom k y hy; omega

theorem wrap_small2 {n : Nat} (h : n ≤ 1099511627776) : IntKind.i64.wrap (n : Int) = n := wrap_small (by omega)

/-- what is appended, run: a slice's or a string's elements, or so many zero values -/
def SrcOK (P : Program) (ts : Array TypeId) (e : TypeId) (i : TypeInfo) (X : Value) (n : Nat) (w w' : World) (L : List Value) : Prop :=
  (zerosE P ts = false ∧ (Builtin.lenOf X).run P w = .ok n w ∧ (Builtin.firstCells i.size n X).run P w' = .ok L.toArray w') ∨
  ((∃ t1 k, ts[1]? = some t1 ∧ P.underlying t1 = some (.int k)) ∧ X = .int .i64 (n : Int) ∧ n * i.bytes ≤ 281474976710656 ∧ n ≤ 1099511627776 ∧
    ((n * i.size = 0 ∧ L = []) ∨ (n * i.size ≠ 0 ∧ ∃ Z, (zeroValue e).run P w' = .ok Z w' ∧ L.toArray = Builtin.zeroCells Z.cells n)))

theorem notInt {ts : Array TypeId} (hz : zerosE P ts = false) : ts[1]? = none ∨ ∃ t1 d, ts[1]? = some t1 ∧ P.underlying t1 = some d ∧ ∀ k, d ≠ .int k := by
  unfold zerosE at hz
  cases h1 : ts[1]? with
  | none => exact .inl rfl
  | some t1 =>
    simp only [h1] at hz
    cases hu : P.underlying t1 with
    | none => simp [hu] at hz
    | some d => exact .inr ⟨t1, d, rfl, hu, fun k e => by subst e; simp [hu] at hz⟩

theorem run_append_in {t e : TypeId} {ts : Array TypeId} {ty : TypeId} {X : Value} {base : Option Addr} {len cap n : Nat} {i : TypeInfo} {L : List Value} (ht : ts[0]? = some t) (hd : P.underlying t = some (.slice e)) (hi : P.info? e = some i)
    (hs : SrcOK P ts e i X n w w L) (hle : len + n ≤ cap) :
    (Builtin.append_ ts ty #[.slice base len cap, X]).run P w = ((match base with | some a => storeCells (a.add (len * i.size)) L | none => pure () : Sem Unit).run P w).andThen fun _ w' => .ok (.slice base (len + n) cap) w' := by
  rcases hs with ⟨hz, hn, hL⟩ | ⟨⟨t1, k, h1, hu⟩, rfl, hb, hm, hL⟩
  · rcases notInt hz with h1 | ⟨t1, d, h1, hu, hd'⟩
    · simp only [Builtin.append_, ht, h1, List.getElem?_toArray, List.getElem?_cons_zero, List.getElem?_cons_succ, Sem.run_bind, run_und hd, Result.andThen_ok, info_size hi, Sem.run_pure, Bool.false_eq_true, if_false, hn, hle, if_true, Bool.not_false, hL]
      cases base with
      | none => simp
      | some a => simp
    · cases d <;> first
        | exact absurd rfl (hd' _)
        | (simp only [Builtin.append_, ht, h1, List.getElem?_toArray, List.getElem?_cons_zero, List.getElem?_cons_succ, Sem.run_bind, run_und hd, run_und hu, Result.andThen_ok, info_size hi, Sem.run_pure, Bool.false_eq_true, if_false, hn, hle, if_true, Bool.not_false, hL]
           cases base with
           | none => simp
           | some a => simp)
  · have hw := wrap_small2 hm
    have hti : (typeInfo e).run P w = .ok i w := by simp [typeInfo, hi]
    have hneg : ¬ ((n : Int) < 0) := by omega
    have hbb : ¬ ((n : Int) * (i.bytes : Int) > 2 ^ 48) := by
      have : ((n * i.bytes : Nat) : Int) ≤ 281474976710656 := by omega
      rw [Int.natCast_mul] at this; omega
    have hbb' : ¬ (281474976710656 < (n : Int) * (i.bytes : Int)) := by simpa using hbb
    rcases hL with ⟨h0, rfl⟩ | ⟨h0, Z, hZ, hL⟩
    · cases base with
      | none => simp [Builtin.append_, ht, h1, run_und hd, run_und hu, info_size hi, asInt, run_asIntOf, hw, hneg, hti, hbb', hle, h0]
      | some a => simp [Builtin.append_, ht, h1, run_und hd, run_und hu, info_size hi, asInt, run_asIntOf, hw, hneg, hti, hbb', hle, h0]
    · have hL' : L = (Builtin.zeroCells Z.cells n).toList := by rw [← hL]
      have h0' : ¬ (n = 0 ∨ i.size = 0) := by rw [← Nat.mul_eq_zero]; exact h0
      subst hL'
      cases base with
      | none => simp [Builtin.append_, ht, h1, run_und hd, run_und hu, info_size hi, asInt, run_asIntOf, hw, hneg, hti, hbb', hle, h0', hZ]
      | some a =>
        simp [Builtin.append_, ht, h1, run_und hd, run_und hu, info_size hi, asInt, run_asIntOf, hw, hneg, hti, hbb', hle, h0', hZ]
        exact fun hh => absurd hh h0

theorem run_append_grow {t e : TypeId} {ts : Array TypeId} {ty : TypeId} {X : Value} {base : Option Addr} {len cap n : Nat} {i : TypeInfo} {K L : List Value} {Z : Value} (ht : ts[0]? = some t) (hd : P.underlying t = some (.slice e)) (hi : P.info? e = some i)
    (hs : SrcOK P ts e i X n w { w with drawn := w.drawn + 1 } L)
    (hK : (Builtin.firstCells i.size len (.slice base len cap)).run P { w with drawn := w.drawn + 1 } = .ok K.toArray { w with drawn := w.drawn + 1 })
    (hZ : (zeroValue e).run P { w with drawn := w.drawn + 1 } = .ok Z { w with drawn := w.drawn + 1 })
    (hgt : cap < len + n) (hb : (2 * (len + n) + 768) * i.bytes ≤ 281474976710656) (hm : len + n ≤ 1099511627776) :
    ∃ cap', (len + n ≤ cap' ∧ cap' ≤ 9223372036854775807) ∧ (Builtin.append_ ts ty #[.slice base len cap, X]).run P w =
      .ok (.slice (some ⟨w.heap.size, 0, none⟩) (len + n) cap') { w with drawn := w.drawn + 1, heap := w.heap.push (.cells (K.toArray ++ L.toArray ++ Builtin.zeroCells Z.cells (cap' - (len + n))) e) } := by
  obtain ⟨cap', hcap, hrun⟩ : ∃ cap', (len + n ≤ cap' ∧ cap' ≤ 9223372036854775807) ∧ (choose (.appendCap (len + n) cap e)).run P w = .ok cap' { w with drawn := w.drawn + 1 } := by
    refine ⟨_, ?_, by simp [Question.forced]; rfl⟩
    exact cut_cap hm
  have hni : ¬ len + n ≤ cap := by omega
  have h63 : ¬ (((len + n : Nat) : Int) > IntKind.i64.max) := by rw [i64max]; omega
  have hti : (typeInfo e).run P w = .ok i w := by simp [typeInfo, hi]
  have hti' : (typeInfo e).run P { w with drawn := w.drawn + 1 } = .ok i { w with drawn := w.drawn + 1 } := by simp [typeInfo, hi]
  have hcapb : ¬ (Builtin.nextslicecap (len + n) cap * i.bytes > 2 ^ 48) := by
    have h1 := nextcap_le hgt
    have h2 := Nat.mul_le_mul_right i.bytes h1
    omega
  refine ⟨cap', hcap, ?_⟩
  rcases hs with ⟨hz, hn, hL⟩ | ⟨⟨t1, k, h1, hu⟩, rfl, hbn, hmn, hL⟩
  · rcases notInt hz with h1 | ⟨t1, d, h1, hu, hd'⟩
    · simp only [Builtin.append_, ht, h1, List.getElem?_toArray, List.getElem?_cons_zero, List.getElem?_cons_succ, Sem.run_bind, run_und hd, Result.andThen_ok, info_size hi, Sem.run_pure, Bool.false_eq_true, if_false, hn, hni, h63, false_and, hti, hti', hcapb, hrun, run_askRoom, hK, Bool.not_false, if_true, hL, hZ, newRow, run_newObj]
    · cases d <;> first
        | exact absurd rfl (hd' _)
        | simp only [Builtin.append_, ht, h1, List.getElem?_toArray, List.getElem?_cons_zero, List.getElem?_cons_succ, Sem.run_bind, run_und hd, run_und hu, Result.andThen_ok, info_size hi, Sem.run_pure, Bool.false_eq_true, if_false, hn, hni, h63, false_and, hti, hti', hcapb, hrun, run_askRoom, hK, Bool.not_false, if_true, hL, hZ, newRow, run_newObj]
  · have hw := wrap_small2 hmn
    have hneg : ¬ ((n : Int) < 0) := by omega
    have hbb : ¬ ((n : Int) * (i.bytes : Int) > 2 ^ 48) := by
      have : ((n * i.bytes : Nat) : Int) ≤ 281474976710656 := by omega
      rw [Int.natCast_mul] at this; omega
    have ha : (asInt (.int .i64 (n : Int))).run P w = .ok (n : Int) w := by simp [asInt, run_asIntOf]
    have h63' : ¬ ((((len + n : Nat) : Int) > IntKind.i64.max) ∧ (True ∨ i.bytes = 0)) := fun h => h63 h.1
    rcases hL with ⟨h0, rfl⟩ | ⟨h0, Z2, hZ2, hL⟩
    · simp only [Builtin.append_, ht, h1, List.getElem?_toArray, List.getElem?_cons_zero, List.getElem?_cons_succ, Sem.run_bind, run_und hd, run_und hu, Result.andThen_ok, info_size hi, Sem.run_pure, ha, hw, hneg, if_false, hti, hti', hbb, Int.toNat_natCast, hni, h63, false_and, hcapb, hrun, run_askRoom, hK, h0, if_true, hZ, newRow, run_newObj, Bool.not_true, Bool.false_eq_true]
    · simp only [Builtin.append_, ht, h1, List.getElem?_toArray, List.getElem?_cons_zero, List.getElem?_cons_succ, Sem.run_bind, run_und hd, run_und hu, Result.andThen_ok, info_size hi, Sem.run_pure, ha, hw, hneg, if_false, hti, hti', hbb, Int.toNat_natCast, hni, h63, false_and, hcapb, hrun, run_askRoom, hK, h0, hZ2, hZ, newRow, run_newObj, Bool.not_true, Bool.false_eq_true, if_true]
      rw [hL, show Z2 = Z by rw [hZ] at hZ2; cases hZ2; rfl]

end
end Go.Eng
