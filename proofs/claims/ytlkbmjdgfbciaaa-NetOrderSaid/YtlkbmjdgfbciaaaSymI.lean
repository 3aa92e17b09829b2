/-
  The evaluator's operations that make one block: the model does the like.
-/
import Derived.Test.YtlkbmjdgfbciaaaSymH
namespace Go.Sym
set_option linter.unusedSimpArgs false
set_option linter.unusedVariables false
section
variable {P : Program} {own : Own} {ρ : Env} {s : St} {w : World}

/-- a new block of cells -/
theorem SRel.newCells (h : SRel own ρ s w) {cs : List V} {C : Array Value} (hc : LRel ρ cs C.toList) (t t' : TypeId) :
    ρ.le (ρ.put s.next ⟨w.heap.size, 0, C.size⟩) ∧ SRel own (ρ.put s.next ⟨w.heap.size, 0, C.size⟩) (s.new (.cells cs t false)) { w with heap := w.heap.push (.cells C t') } ∧
      Fr own w { w with heap := w.heap.push (.cells C t') } := by
  have hle := Env.le_put ⟨w.heap.size, 0, C.size⟩ h.fresh
  refine ⟨hle, h.new _ (.cells C t') C.size rfl ⟨C, t', (0, 0), rfl, rfl, ?_, ?_, by simp, fun _ => rfl⟩, fr_new h.le rfl⟩
  · have := hc.length; simp at this; omega
  · intro i v hi
    obtain ⟨X, e1, e2⟩ := hc.get hi
    exact ⟨X, by simpa using e1, VRel.mono hle _ _ e2⟩

def OKv (P : Program) (own : Own) (ρ : Env) (m : Sem Value) (w : World) (v : V) (s' : St) : Prop :=
  ∃ ρ' X w', ρ.le ρ' ∧ m.run P w = .ok X w' ∧ VRel ρ' v X ∧ SRel own ρ' s' w' ∧ Fr own w w'

/-- a new block of rows -/
theorem SRel.newRows (h : SRel own ρ s w) {e : List Ty} {L : List (rowDen e)} {C : Array Value} (hs : L.length * e.length ≤ C.size) (hc : RowsAt ρ.φ e L (fun k => C[k]?)) (t t' : TypeId) :
    ρ.le (ρ.put s.next ⟨w.heap.size, 0, C.size⟩) ∧ SRel own (ρ.put s.next ⟨w.heap.size, 0, C.size⟩) (s.new (.rows e L t false)) { w with heap := w.heap.push (.cells C t') } ∧
      Fr own w { w with heap := w.heap.push (.cells C t') } := by
  have hle := Env.le_put ⟨w.heap.size, 0, C.size⟩ h.fresh
  refine ⟨hle, h.new _ (.cells C t') C.size rfl ⟨C, t', (0, 0), rfl, rfl, ?_, ?_, by simp, fun _ => rfl⟩, fr_new h.le rfl⟩
  · omega
  · show RowsAt ρ.φ e L (fun k => C[0 + k]?)
    simpa using hc

/-- the operation makes one block, that is just so -/
def MkOK (P : Program) (ρ : Env) (m : Sem Value) (w : World) : Mk → Prop
  | .cells cs t sl => ∃ X C t', m.run P w = .ok X { w with heap := w.heap.push (.cells C t') } ∧ LRel ρ cs C.toList ∧
      ∀ (ρ' : Env) (b : Nat), ρ' b = some ⟨w.heap.size, 0, C.size⟩ → VRel ρ' ((Mk.cells cs t sl).val b) X
  | .rows e L t sl => ∃ X C t', m.run P w = .ok X { w with heap := w.heap.push (.cells C t') } ∧ C.size = L.length * e.length ∧ RowsAt ρ.φ e L (fun k => C[k]?) ∧
      ∀ (ρ' : Env) (b : Nat), ρ' b = some ⟨w.heap.size, 0, C.size⟩ → VRel ρ' ((Mk.rows e L t sl).val b) X
theorem mkNew_rel (h : SRel own ρ s w) {m : Option (List Bool × Mk)} {v : V} {s' : St} {ps : List Bool} (hq : mkNew s m = some (ps, v, s')) (hp : allB ps) {x : Sem Value} (hm : ∀ c k, m = some (c, k) → allB c → MkOK P ρ x w k) : OKv P own ρ x w v s' := by
  unfold mkNew at hq
  split at hq
  · rename_i c m
    cases hq
    have hm := hm _ _ rfl hp
    cases m with
    | cells cs t sl =>
      obtain ⟨X, C, t', e1, e2, e3⟩ := hm
      obtain ⟨h1, h2, h3⟩ := h.newCells e2 t t'
      exact ⟨_, X, _, h1, e1, e3 _ _ Env.put_same, h2, h3⟩
    | rows e L t sl =>
      obtain ⟨X, C, t', e1, e2, e3, e4⟩ := hm
      obtain ⟨h1, h2, h3⟩ := h.newRows (by omega) e3 t t'
      exact ⟨_, X, _, h1, e1, e4 _ _ Env.put_same, h2, h3⟩
  · cases hq

theorem mBox_rel {t : TypeId} {v : V} {m : Mk} {c : List Bool} (hq : mBox P t v = some (c, m)) {X : Value} (hv : VRel ρ v X) : MkOK P ρ (Instr.box t X) w m := by
  have run : (Instr.box t X).run P w = .ok (.pointer (some ⟨w.heap.size, 0, none⟩)) { w with heap := w.heap.push (.cells X.cells t) } := by
    simp [Instr.box, newVar, newRow]
  unfold mBox at hq
  split at hq
  · rename_i n e hat
    split at hq
    · rename_i L hL
      cases hq
      obtain ⟨A, rfl, h1, h2⟩ := arrRows_rel hL hv
      refine ⟨_, A, t, run, h1, h2, fun ρ' b hb => ?_⟩
      simp only [Mk.val, VRel]
      exact ⟨_, _, _, hb, by simp⟩
    · cases hq
  · split at hq
    · rename_i cc hcc
      cases hq
      refine ⟨_, X.cells, t, run, cellsO_rel hcc hv, fun ρ' b hb => ?_⟩
      simp only [Mk.val, VRel]
      exact ⟨_, _, _, hb, rfl⟩
    · cases hq
theorem mAlloc_rel {t : TypeId} {m : Mk} {c : List Bool} (hq : mAlloc P t = some (c, m)) : MkOK P ρ (Instr.alloc t true (.tuple #[])) w m := by
  unfold mAlloc at hq
  split at hq
  · rename_i z hz
    obtain ⟨Z, hZ, hzr, _⟩ := zeroE_rel (ρ := ρ) (w := w) hz
    have hb := mBox_rel (w := w) hq hzr
    have e : (Instr.alloc t true (.tuple #[])).run P w = (Instr.box t Z).run P w := by
      simp only [Instr.alloc, Sem.run_bind, hZ, Result.andThen_ok]
      simp [Instr.box]
    cases m with
    | cells cs t' sl => obtain ⟨X, C, t2, h1, h2⟩ := hb; exact ⟨X, C, t2, by rw [e]; exact h1, h2⟩
    | rows e' L t' sl => obtain ⟨X, C, t2, h1, h2⟩ := hb; exact ⟨X, C, t2, by rw [e]; exact h1, h2⟩
  · cases hq
theorem eAlloc_rel (h : SRel own ρ s w) {t : TypeId} {v : V} {s' : St} {ps : List Bool} (hq : eAlloc P s t = some (ps, v, s')) (hp : allB ps) : OKv P own ρ (Instr.alloc t true (.tuple #[])) w v s' :=
  mkNew_rel h hq hp fun _ _ h _ => mAlloc_rel h
theorem eBox_rel (h : SRel own ρ s w) {t : TypeId} {v u : V} {s' : St} {ps : List Bool} (hq : eBox P s t v = some (ps, u, s')) (hp : allB ps) {X : Value} (hv : VRel ρ v X) : OKv P own ρ (Instr.box t X) w u s' :=
  mkNew_rel h hq hp fun _ _ h _ => mBox_rel h hv

theorem repE_length : ∀ n (zs : List V), (repE n zs).length = n * zs.length
  | 0, _ => by simp [repE]
  | n + 1, zs => by simp [repE, lapp_eq, repE_length n, Nat.succ_mul, Nat.add_comm]
theorem repE_get : ∀ n (zs : List V) i, i < n * zs.length → (repE n zs)[i]? = zs[i % zs.length]?
  | 0, _, _, h => by simp at h
  | n + 1, zs, i, h => by
    simp only [repE, lapp_eq]
    rcases Nat.lt_or_ge i zs.length with hi | hi
    · rw [List.getElem?_append_left hi, Nat.mod_eq_of_lt hi]
    · rw [List.getElem?_append_right hi, repE_get n zs _ (by rw [Nat.succ_mul] at h; omega), ← Nat.mod_eq_sub_mod hi]

theorem range_rep {zs : List V} {Z : Array Value} (hz : LRel ρ zs Z.toList) (n : Nat) : LRel ρ (repE n zs) ((Array.range (n * zs.length)).map (fun i => Z[i % Z.size]!)).toList := by
  have hl := hz.length
  simp only [Array.length_toList] at hl
  refine LRel.of_get (by simp [repE_length]) fun i v hi => ?_
  have hlt : i < n * zs.length := by
    have := (List.getElem?_eq_some_iff.1 hi).1
    rwa [repE_length] at this
  rw [repE_get n zs i hlt] at hi
  obtain ⟨X, h1, h2⟩ := hz.get hi
  simp only [Array.getElem?_toList] at h1
  refine ⟨X, ?_, h2⟩
  simp only [Array.toList_map, Array.toList_range, List.getElem?_map, List.getElem?_range hlt, Option.map_some, Option.some.injEq]
  rw [← hl, Array.getElem!_eq_getD, Array.getD_eq_getD_getElem?, h1]
  rfl

theorem map_range0 {α : Type} (f : Nat → α) : (Array.range 0).map f = #[] := by apply Array.eq_empty_of_size_eq_zero; simp

theorem info_size {t : TypeId} {i : TypeInfo} (h : P.info? t = some i) : (sizeOf t).run P w = .ok i.size w := by simp [sizeOf, typeInfo, h]

theorem rowTy_spec {el : TypeId} {e : List Ty} (h : rowTy P el = some e) : szE P el = some e.length ∧ 1 ≤ e.length := by
  unfold rowTy at h
  split at h
  · rename_i e' z he hz
    cases hb : (Nat.beq z e'.length && Nat.ble 1 z) with
    | false => rw [hb] at h; cases h
    | true =>
      rw [hb, cond_true] at h
      cases h
      simp only [Bool.and_eq_true, Nat.beq_eq, Nat.ble_eq] at hb
      obtain ⟨h1, h2⟩ := hb
      exact ⟨by rw [hz, h1], by omega⟩
  · cases h
/-- cells, or rows: the same block -/
theorem mRows_ok {m : Sem Value} {el : TypeId} {len sz : Nat} {cs : List V} {C : Array Value} {t' : TypeId} (h1 : 1 ≤ sz) (hrun : m.run P w = .ok (.slice (some ⟨w.heap.size, 0, none⟩) len len) { w with heap := w.heap.push (.cells C t') })
    (hc : LRel ρ cs C.toList) (hlen : cs.length = len * sz) : MkOK P ρ m w (mRows P el len cs sz) := by
  have hl := hc.length
  simp only [Array.length_toList] at hl
  have plain : MkOK P ρ m w (.cells cs el (some (len, len, sz))) := by
    refine ⟨_, C, t', hrun, hc, fun ρ' b hb => ?_⟩
    simp only [Mk.val, VRel]
    exact ⟨_, _, _, len, hb, rfl, Nat.le_refl _, Nat.le_refl _, fun _ => rfl, by omega⟩
  unfold mRows
  split
  · rename_i e he
    obtain ⟨h3, h4⟩ := rowTy_spec he
    cases hb : Nat.beq e.length sz with
    | false => exact plain
    | true =>
    have hb := Nat.eq_of_beq_eq_true hb
    subst hb
    rw [cond_true]
    split
    · rename_i L hL
      obtain ⟨g1, g2, g3⟩ := ofRows_spec (ρ := ρ) e len cs L hL
      refine ⟨_, C, t', hrun, by rw [g1]; omega, g3 fun i v hi => ?_, fun ρ' b hb => ?_⟩
      · obtain ⟨W, q1, q2⟩ := hc.get hi
        exact ⟨W, by simpa using q1, q2⟩
      · simp only [Mk.val, VRel]
        refine ⟨_, _, rfl, Nat.le_refl _, Nat.le_refl _, fun _ => rfl, fun hn => (by cases hn), fun hp => ⟨_, _, _, hb, by simp, ?_⟩⟩
        omega
    · exact plain
  · exact plain

theorem fillE_length {sz : Nat} : ∀ (ps : List (Nat × V)) (c r : List V), fillE (fun i => some (i * sz, sz)) c ps = some r → r.length = c.length := by
  intro ps
  induction ps with
  | nil => intro c r hh; simp only [fillE] at hh; cases hh; rfl
  | cons p ps ih =>
    intro c r hh
    simp only [fillE, llen_eq] at hh
    split at hh
    · rename_i q1 q2 c2 q3 q4
      cases q3
      cases hc : (Nat.beq c2.length sz && Nat.ble (p.1 * sz + sz) c.length) with
      | false => simp [hc] at hh
      | true => simp only [hc, cond_true] at hh; rw [ih _ _ hh, setAll_length]
    · cases hh

theorem mBuildSlice_rel {t : TypeId} {len : Nat} {ps : List (Nat × V)} {m : Mk} {c : List Bool} (hq : mBuildSlice P t len ps = some (c, m)) {Ps : Array (Nat × Value)} (hp : PRel ρ ps Ps.toList) :
    MkOK P ρ (Instr.buildSlice t len Ps) w m := by
  unfold mBuildSlice at hq
  simp only [llen_eq, lall_eq, ltake_eq, ldrop_eq, lapp_eq, lget_eq] at hq
  split at hq
  · rename_i e hd
    split at hq
    · rename_i sz zv hsz hzv
      split at hq
      · rename_i z hz
        cases hb : (Nat.beq z.length sz && (Nat.ble (len * sz) 16777216 && Nat.ble 1 sz)) with
        | false => simp [hb] at hq
        | true =>
        simp only [hb, cond_true] at hq
        simp only [Bool.and_eq_true, Nat.ble_eq, Nat.beq_eq] at hb
        split at hq
        · rename_i cs hcs
          cases hq
          obtain ⟨Z, hZ, hzr, _⟩ := zeroE_rel (ρ := ρ) (w := w) hzv
          have hzc := cellsO_rel hz hzr
          have hrep := range_rep hzc len
          rw [hb.1] at hrep
          obtain ⟨R, e1, e2⟩ := fillE_rel hp hrep hcs
          refine mRows_ok (C := R) (t' := e) hb.2.2 ?_ e2 (by rw [fillE_length _ _ _ hcs, repE_length, hb.1])
          by_cases h0 : len * sz = 0
          · have hlen : len = 0 := by rcases Nat.mul_eq_zero.1 h0 with h | h; exact h; omega
            subst hlen
            simp only [Nat.zero_mul] at e1
            have e0 : (Array.range 0).map (fun i => Z.cells[i % Z.cells.size]!) = #[] := by apply Array.eq_empty_of_size_eq_zero; simp
            rw [e0] at e1
            have e1' : Instr.fill (fun i => some (i * sz, sz)) #[] Ps.toList = some R := e1
            simp [Instr.buildSlice, run_und hd, run_size hsz, newRow, map_range0, e1']
          · have hbig : ¬ len * sz > 2 ^ 24 := by omega
            have hbig' : ¬ 16777216 < len * sz := by omega
            simp only [Instr.buildSlice, Sem.run_bind, run_und hd, Result.andThen_ok, run_size hsz, Sem.run_ite, hbig, h0, if_false, hZ, Sem.run_pure]
            rw [e1]
            simp [newRow]
        · cases hq
      · cases hq
    · cases hq
  · cases hq

theorem eBuildSlice_rel (h : SRel own ρ s w) {t : TypeId} {len : Nat} {ps : List (Nat × V)} {v : V} {s' : St} {c : List Bool} (hq : eBuildSlice P s t len ps = some (c, v, s')) (hc : allB c) {Ps : Array (Nat × Value)} (hp : PRel ρ ps Ps.toList) :
    OKv P own ρ (Instr.buildSlice t len Ps) w v s' := mkNew_rel h hq hc fun _ _ h _ => mBuildSlice_rel h hp

theorem wrap_small {n : Nat} (h : n ≤ 281474976710656) : IntKind.i64.wrap (n : Int) = n := by
  have h2 : (n : Int) % (2 ^ IntKind.i64.bits : Int) = n := Int.emod_eq_of_lt (by omega) (by simp only [IntKind.bits]; omega)
  unfold IntKind.wrap
  simp only [h2]
  exact if_neg (by simp [IntKind.signed, IntKind.bits]; omega)

theorem run_makeSlice {t el : TypeId} {i : TypeInfo} {l c : Nat} {k1 k2 : IntKind} {Z : Value} (hd : P.underlying t = some (.slice el)) (hi : P.info? el = some i) (hZ : (zeroValue el).run P w = .ok Z w) (b2 : 1 ≤ i.size) (b3 : l ≤ c) (b4 : c ≤ 281474976710656) (b5 : i.bytes * c ≤ 281474976710656) :
    (Instr.makeSlice t (.int k1 (l : Int)) (.int k2 (c : Int))).run P w = .ok (.slice (some ⟨w.heap.size, 0, none⟩) l c) { w with heap := w.heap.push (.cells ((Array.range (c * i.size)).map fun j => Z.cells[j % Z.cells.size]!) el) } := by
  have w1 := wrap_small (n := l) (by omega)
  have w2 := wrap_small (n := c) b4
  have t1 : ¬ ((c : Int) < 0) := by omega
  have t2 : ¬ ((i.bytes : Int) * (c : Int) > 2 ^ 48) := by
    have : ((i.bytes * c : Nat) : Int) ≤ 281474976710656 := by omega
    simp only [Int.natCast_mul] at this; omega
  have t2' : ¬ ((281474976710656 : Int) < (i.bytes : Int) * (c : Int)) := by simpa using t2
  have t3 : ¬ ((l : Int) < 0) := by omega
  have t4 : ¬ ((l : Int) > (c : Int)) := by omega
  have hti : (typeInfo el).run P w = .ok i w := by simp [typeInfo, hi]
  by_cases h0 : c * i.size = 0
  · have hc0 : c = 0 := by rcases Nat.mul_eq_zero.1 h0 with h | h; exact h; omega
    subst hc0
    have hl0 : l = 0 := by omega
    subst hl0
    have e0 : (Array.range (0 * i.size)).map (fun i => Z.cells[i % Z.cells.size]!) = #[] := by apply Array.eq_empty_of_size_eq_zero; simp
    rw [e0]
    have w0 : IntKind.i64.wrap 0 = 0 := by simpa using w2
    simp [Instr.makeSlice, run_und hd, asInt, run_asIntOf, hti, w0, info_size hi, newRow, map_range0]
  · simp [Instr.makeSlice, run_und hd, asInt, run_asIntOf, hti, w1, w2, t1, t2', t3, info_size hi, newRow, h0, hZ, Nat.not_lt.2 b3]

theorem rep_rows {e : List Ty} {r : rowDen e} {z : List V} {Z : Array Value} (hr : ofRow e z = some r) (hz : LRel ρ z Z.toList) (c : Nat) : RowsAt ρ.φ e (List.replicate c r) (fun k => ((Array.range (c * e.length)).map fun j => Z[j % Z.size]!)[k]?) := by
  have hl := ofRow_length _ _ _ hr
  have hlz := hz.length
  simp only [Array.length_toList] at hlz
  intro i hi
  simp only [List.length_replicate] at hi
  have e2 : rowAt e (List.replicate c r) i = r := by simp [rowAt, hi]
  rw [e2]
  refine ofRow_rel e z r hr fun j v hj => ?_
  have hjl : j < e.length := by
    have := (List.getElem?_eq_some_iff.1 hj).1
    omega
  obtain ⟨X, h1, h2⟩ := hz.get hj
  simp only [Array.getElem?_toList] at h1
  refine ⟨X, ?_, h2⟩
  have hk : i * e.length + j < c * e.length := by
    have : (i + 1) * e.length ≤ c * e.length := Nat.mul_le_mul_right _ hi
    rw [Nat.succ_mul] at this; omega
  have hm : (i * e.length + j) % Z.size = j := by
    rw [← hlz, hl, Nat.mul_comm, Nat.mul_add_mod, Nat.mod_eq_of_lt hjl]
  simp only [Array.getElem?_map, Array.getElem?_range, hk, if_true, Option.map_some, hm, Option.some.injEq]
  rw [Array.getElem!_eq_getD, Array.getD_eq_getD_getElem?, h1]
  rfl

theorem mMakeSlice_rel {t : TypeId} {len cap : V} {m : Mk} {cc : List Bool} (hq : mMakeSlice P t len cap = some (cc, m)) (hp : allB cc) {L K : Value} (hl : VRel ρ len L) (hk : VRel ρ cap K) :
    MkOK P ρ (Instr.makeSlice t L K) w m := by
  unfold mMakeSlice at hq
  simp only [llen_eq, lall_eq, ltake_eq, ldrop_eq, lapp_eq, lget_eq] at hq
  split at hq
  · rename_i el cl l cp c hd hln hcn
    split at hq
    · rename_i i zv hi hzv
      split at hq
      · rename_i z hz
        cases hb : (Nat.beq z.length i.size && Nat.ble 1 i.size) with
        | false => simp [hb] at hq
        | true =>
        simp only [hb, cond_true] at hq
        simp only [Bool.and_eq_true, Nat.ble_eq, Nat.beq_eq] at hb
        obtain ⟨b1, b2⟩ := hb
        obtain ⟨Z, hZ, hzr, _⟩ := zeroE_rel (ρ := ρ) (w := w) hzv
        have hzc := cellsO_rel hz hzr
        split at hq
        · rename_i e he
          cases hes : Nat.beq e.length i.size with
          | false => rw [hes] at hq; cases hq
          | true =>
          rw [hes, cond_true] at hq
          have hes := Nat.eq_of_beq_eq_true hes
          split at hq
          · rename_i r hr
            cases hq
            simp only [allB_append] at hp
            obtain ⟨p1, p2, p3, p4, p5, _⟩ := hp
            simp only [decide_eq_true_eq] at p3 p4 p5
            obtain ⟨k1, rfl⟩ := natOf_rel hln p1 hl
            obtain ⟨k2, rfl⟩ := natOf_rel hcn p2 hk
            refine ⟨_, _, el, run_makeSlice hd hi hZ b2 p3 p4 p5, by simp [hes], ?_, fun ρ' b hbb => ?_⟩
            · have := rep_rows hr hzc c
              rw [hes] at this
              exact this
            · simp only [Mk.val, VRel]
              refine ⟨_, _, rfl, p3, Nat.le_refl _, fun _ => rfl, fun hn => (by cases hn), fun _ => ⟨_, _, _, hbb, by simp, ?_⟩⟩
              simp [hes]
          · cases hq
        · cases hq
          simp only [allB_append] at hp
          obtain ⟨p1, p2, p3, p4, p5, _⟩ := hp
          simp only [decide_eq_true_eq] at p3 p4 p5
          obtain ⟨k1, rfl⟩ := natOf_rel hln p1 hl
          obtain ⟨k2, rfl⟩ := natOf_rel hcn p2 hk
          have hrep := range_rep hzc c
          rw [b1] at hrep
          refine ⟨_, _, el, run_makeSlice hd hi hZ b2 p3 p4 p5, hrep, fun ρ' b hbb => ?_⟩
          simp only [Mk.val, VRel]
          refine ⟨_, _, _, c, hbb, rfl, p3, Nat.le_refl _, fun _ => rfl, ?_⟩
          simp
      · cases hq
    · cases hq
  · cases hq
theorem eMakeSlice_rel (h : SRel own ρ s w) {t : TypeId} {len cap v : V} {s' : St} {c : List Bool} (hq : eMakeSlice P s t len cap = some (c, v, s')) (hc : allB c) {L K : Value} (hl : VRel ρ len L) (hk : VRel ρ cap K) :
    OKv P own ρ (Instr.makeSlice t L K) w v s' := mkNew_rel h hq hc fun _ _ h hc => mMakeSlice_rel h hc hl hk

theorem bytesL_length (x : ByteArray) : (bytesL x).length = x.size := by simp [bytesL]
theorem bytesL_get (x : ByteArray) (i : Nat) (hi : i < x.size) : (bytesL x).getD i 0 = bAt x i := by
  unfold bytesL bAt
  rw [List.getD_eq_getElem?_getD, List.getD_eq_getElem?_getD, List.getElem?_map, List.getElem?_eq_getElem (by simpa using hi)]
  rfl
theorem bytes_rows {φ : Nat → Nat → Option Value} (x : ByteArray) {C : Nat → Option Value} (hc : ∀ i, i < x.size → C i = some (.int .u8 (bAt x i))) : RowsAt φ [.int .u8] (bytesL x) C := by
  intro i hi
  have hi' : i < x.size := by
    have : i < List.length (α := Int) (bytesL x) := hi
    rwa [bytesL_length] at this
  rw [CRel]
  refine ⟨.int .u8 (bAt x i), by simpa using hc i hi', ?_⟩
  have e : rowAt [.int .u8] (bytesL x) i = bAt x i := bytesL_get x i hi'
  show Value.int .u8 _ = Value.int .u8 (rowAt [.int .u8] (bytesL x) i)
  rw [e]

theorem eBytes_rel (h : SRel own ρ s w) {src dst : TypeId} {a v : V} {s' : St} {c : List Bool} (hq : eBytes P s src dst a = some (c, v, s')) {A : Value} (ha : VRel ρ a A) : OKv P own ρ (Go.convert src dst A) w v s' := by
  unfold eBytes at hq
  split at hq
  · rename_i sd e x hs hd
    split at hq
    · rename_i he
      cases hq
      simp only [VRel] at ha; subst ha
      obtain ⟨cap, hcap, hrun⟩ : ∃ cap, x.size ≤ cap ∧ (choose (.appendCap x.size 0 e)).run P w = .ok cap { w with drawn := w.drawn + 1 } := by
        refine ⟨_, ?_, by simp [Question.forced]; rfl⟩
        simp [Question.cut]
      let C : Array Value := (x.data.map fun b => Value.int .u8 b.toNat) ++ Array.replicate (cap - x.size) (.int .u8 0)
      have hxs : x.data.size = x.size := rfl
      have hC : C.size = cap := by
        simp [C]; omega
      have hle := Env.le_put ⟨w.heap.size, 0, C.size⟩ h.fresh
      let w' : World := { w with drawn := w.drawn + 1, heap := w.heap.push (.cells C e (C.size, C.size + 1)) }
      refine ⟨ρ.put s.next ⟨w.heap.size, 0, C.size⟩, .slice (some ⟨w.heap.size, 0, none⟩) x.size cap, w', hle, ?_, ?_, ?_, ?_⟩
      · simp only [Go.convert, Sem.run_bind, run_und hs, run_und hd, Result.andThen_ok, run_und he, Conv.stringToBytes, hrun, newRow, run_newObj, Sem.run_pure, markStringish, run_shape]
        have hsh : ({ w with drawn := w.drawn + 1, heap := w.heap.push (.cells C e) } : World).shape? w.heap.size = some (e, C.size) := by simp [World.shape?]
        have hfr : ({ w with drawn := w.drawn + 1, heap := w.heap.push (.cells C e) } : World).freeze ⟨w.heap.size, C.size, none⟩ 1 = w' := by
          simp only [World.freeze]
          rw [if_neg (by decide)]
          simp only [w']
          congr 1
          apply Array.ext_getElem?
          intro i
          rw [Array.getElem?_modify, Array.getElem?_push, Array.getElem?_push]
          by_cases hi : i = w.heap.size
          · subst hi; simp
          · simp [hi, Ne.symm hi]
        simp only [C] at hsh hfr
        simp only [hsh, Sem.run_bind, run_freeze, hfr, Result.andThen_ok, Sem.run_pure]
      · simp only [VRel]
        exact ⟨_, cap, rfl, Nat.le_refl _, hcap, fun hx => (by cases hx), fun hn => (by cases hn), fun _ => ⟨_, _, _, Env.put_same, by simp, by show 0 + 0 * 1 + cap * 1 ≤ C.size; omega⟩⟩
      · refine h.new _ (.cells C e (C.size, C.size + 1)) C.size rfl ⟨C, e, (C.size, C.size + 1), rfl, rfl, ?_, ?_, ?_, by simp⟩
        · have : List.length (α := Int) (bytesL x) = x.size := bytesL_length x
          show 0 + List.length (α := Int) (bytesL x) * 1 ≤ C.size
          omega
        · refine bytes_rows x fun i hi => ?_
          simp only [C, Nat.zero_add]
          rw [Array.getElem?_append_left (by simpa using hi)]
          rw [Array.getElem?_map]
          unfold bAt
          rw [List.getD_eq_getElem?_getD, Array.getElem?_toList, Array.getElem?_eq_getElem (by simpa using hi)]
          rfl
        · intro k hk
          have : decide (C.size ≤ k) = false := by simp; omega
          simp [this]
      · exact ⟨rfl, rfl, rfl, by simp [w'], fun k hk => by simp only [w']; rw [Array.getElem?_push, if_neg (fun e => hk (h.le k (by omega)))]⟩
    · cases hq
  · cases hq
end
end Go.Sym
