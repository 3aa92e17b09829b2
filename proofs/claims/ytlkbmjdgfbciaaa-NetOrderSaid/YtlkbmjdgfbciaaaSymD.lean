/-
  The evaluator's quiet operations are the model's: whatever the evaluator answers, the model's operation answers the like, and leaves the world as it was.
-/
import Derived.Test.YtlkbmjdgfbciaaaSymC
import Derived.Laws.Cells
import Derived.Laws.BytesString
import Derived.Laws.StructEq
import Derived.Laws.Strings
namespace Go.Sym
set_option linter.unusedSimpArgs false
set_option linter.unusedVariables false

section
variable {P : Program} {own : Own} {ρ : Env} {s : St} {w : World}

theorem run_und {t : TypeId} {d : TypeDesc} (h : P.underlying t = some d) : (underlying t).run P w = .ok d w := run_underlying h w
theorem run_size {t : TypeId} {n : Nat} (h : szE P t = some n) : (sizeOf t).run P w = .ok n w := by
  unfold szE at h
  split at h
  · rename_i i hi
    cases h
    simp [sizeOf, typeInfo, hi]
  · cases h
theorem run_isAgg {t : TypeId} {b : Bool} (h : isAggE P t = some b) : (isAgg t).run P w = .ok b w := by
  unfold isAggE at h
  split at h
  · rename_i hd; cases h; simp [isAgg, run_und hd]
  · rename_i hd; cases h; simp [isAgg, run_und hd]
  · rename_i d h1 h2 hd
    cases h
    simp only [isAgg, Sem.run_bind, run_und hd, Result.andThen_ok]
    cases d <;> first | rfl | exact absurd rfl (h1 _) | exact absurd rfl (h2 _ _)
  · cases h

theorem ofCell_rel {v : Value} {x : V} (h : ofCell v = some x) : VRel ρ x v := by
  unfold ofCell at h
  split at h <;> first | cases h | skip
  all_goals simp only [VRel]
theorem ofCells_rel : ∀ {l : List Value} {x : List V}, ofCells l = some x → LRel ρ x l
  | [], x, h => by simp only [ofCells] at h; cases h; exact LRel.nil
  | v :: l, x, h => by
    simp only [ofCells] at h
    split at h
    · rename_i a ha
      split at h
      · rename_i b hb; cases h; exact LRel.cons (ofCell_rel ha) (ofCells_rel hb)
      · cases h
    · cases h
theorem ofVal_rel {v : Value} {x : V} (h : ofVal v = some x) : VRel ρ x v := by
  unfold ofVal at h
  split at h
  · rename_i cs
    split at h
    · rename_i l hl; cases h; simp only [VRel]; exact ⟨cs, rfl, ofCells_rel hl⟩
    · cases h
  · rename_i cs
    split at h
    · rename_i e
      cases h
      have : cs = #[] := by cases cs; simp at e; simp [e]
      simp only [VRel]; rw [this]
    · cases h
  · exact ofCell_rel h

/-- what the evaluator reads of a frame is what stands there -/
def EvRel (ρ : Env) (ev : Operand → Option V) (A : Act) : Prop := ∀ x v, ev x = some v → VRel ρ v (A.eval x)
theorem evalO_rel {ev : Operand → Option V} {A : Act} (hA : EvRel ρ ev A) {x : Operand} {v : V} (h : ev x = some v) : VRel ρ v (A.eval x) := hA x v h
theorem evalOs_rel {ev : Operand → Option V} {A : Act} (hA : EvRel ρ ev A) : ∀ {xs : List Operand} {vs : List V}, evalOs ev xs = some vs → LRel ρ vs (xs.map A.eval)
  | [], vs, h => by simp only [evalOs] at h; cases h; exact LRel.nil
  | x :: xs, vs, h => by
    simp only [evalOs] at h
    split at h
    · rename_i v hv
      split at h
      · rename_i r hr; cases h; exact LRel.cons (evalO_rel hA hv) (evalOs_rel hA hr)
      · cases h
    · cases h

theorem partE_rel {t : TypeId} {l : List V} {off : Nat} {v : V} (h : partE P t l off = some v) {A : Array Value} (hl : LRel ρ l A.toList) :
    ∃ X, (part t A off).run P w = .ok X w ∧ VRel ρ v X := by
  unfold partE at h
  split at h
  · rename_i ha
    split at h
    · rename_i n hn
      simp only [llen_eq, ltake_eq, ldrop_eq] at h
      cases hb : Nat.ble (off + n) l.length with
      | false => simp [hb] at h
      | true =>
        simp only [hb, cond_true, Option.some.injEq] at h
        subst h
        refine ⟨.agg (A.extract off (off + n)), by simp [part, run_isAgg ha, run_size hn], ?_⟩
        simp only [VRel]
        refine ⟨_, rfl, ?_⟩
        simp only [Array.toList_extract, List.extract_eq_take_drop, Nat.add_sub_cancel_left]
        exact (hl.drop off).take n
    · cases h
  · rename_i ha
    rw [lget_eq] at h
    obtain ⟨X, h1, h2⟩ := hl.get h
    simp only [Array.getElem?_toList] at h1
    exact ⟨X, by simp [part, run_isAgg ha, h1], h2⟩
  · cases h

/-- cells of the world are like these -/
def CellsIn (ρ : Env) (w : World) (cs : List V) (B o : Nat) : Prop := ∀ i v, cs[i]? = some v → ∃ W, w.cell? ⟨B, o + i, none⟩ = some W ∧ VRel ρ v W

theorem SRel.cellsAt (h : SRel own ρ s w) {b : Nat} {cs : List V} (hc : cellsAt s b = some cs) {x : Blk} (hx : ρ b = some x) : CellsIn ρ w cs x.B x.O ∧ x.O + cs.length ≤ x.S := by
  unfold Sym.cellsAt at hc
  split at hc
  · rename_i cs' t ish hb
    cases hc
    obtain ⟨y, h1, _, C, t, fr, h3, h4, h5, h6, h7, _⟩ := h.obj' hb hx
    rw [hx] at h1; cases h1
    exact ⟨fun i v hi => by obtain ⟨W, a, b⟩ := h6 i v hi; exact ⟨W, by simp [World.cell?, h3, a], b⟩, h5⟩
  · cases hc

theorem addr_add (B o i : Nat) : (⟨B, o, none⟩ : Addr).add i = ⟨B, o + i, none⟩ := by
  unfold Addr.add; split
  · rename_i e; subst e; rfl
  · rfl

theorem ex_list {f : Nat → Option Value} : ∀ {l : List V}, (∀ i v, l[i]? = some v → ∃ W, f i = some W ∧ VRel ρ v W) → ∃ L, LRel ρ l L ∧ ∀ j X, L[j]? = some X → f j = some X
  | [], _ => ⟨[], LRel.nil, fun j X h => by simp at h⟩
  | v :: l, h => by
    obtain ⟨W, h1, h2⟩ := h 0 v rfl
    obtain ⟨L, h3, h4⟩ := ex_list (f := fun i => f (i + 1)) (l := l) fun i u hi => h (i + 1) u (by simpa using hi)
    refine ⟨W :: L, LRel.cons h2 h3, fun j X hj => ?_⟩
    cases j with
    | zero => simp at hj; subst hj; exact h1
    | succ j => exact h4 j X (by simpa using hj)
theorem load_of_cells {cs : List V} {B o : Nat} (h : CellsIn ρ w cs B o) (k n : Nat) (hn : k + n ≤ cs.length) :
    ∃ L : List Value, (loadCells ⟨B, o + k, none⟩ n).run P w = .ok L.toArray w ∧ LRel ρ ((cs.drop k).take n) L := by
  obtain ⟨L, h1, h2⟩ := ex_list (ρ := ρ) (f := fun i => w.cell? ⟨B, o + k + i, none⟩) (l := (cs.drop k).take n) fun i v hi => by
    have hi' : i < n := by
      have := (List.getElem?_eq_some_iff.1 hi).1
      simp at this; omega
    rw [List.getElem?_take_of_lt hi', List.getElem?_drop] at hi
    obtain ⟨W, a, b⟩ := h _ _ hi
    exact ⟨W, by rw [Nat.add_assoc]; exact a, b⟩
  refine ⟨L, ?_, h1⟩
  have hl : L.length = n := by
    have := h1.length
    simp at this; omega
  have := run_loadCells_list (P := P) w ⟨B, o + k, none⟩ L (fun j v hj => by rw [addr_add]; exact h2 j v hj)
  rwa [hl] at this

theorem toV_rel : ∀ (t : Ty) (x : t.den) (X : Value), TRel ρ.φ t x X → VRel ρ (toV t x) X
  | .int k, n, X, h => by rw [TRel] at h; simp only [toV, VRel]; exact h
  | .bool, b, X, h => by rw [TRel] at h; simp only [toV, VRel]; exact h
  | .str, s, X, h => by rw [TRel] at h; simp only [toV, VRel]; exact h
  | .lst e, L, X, h => by
    rw [TRel] at h
    obtain ⟨a, c, h1, h2, h3, h4⟩ := h
    simp only [toV, VRel]
    exact ⟨a, c, h1, h2, fun hh => (by cases hh), h3, fun hp => let ⟨B, o, g1, g2⟩ := h4 hp; ⟨B, o, g1, fun i hi => by simpa [Nat.add_assoc] using g2 i hi⟩⟩
theorem rowV_length : ∀ (e : List Ty) (x : rowDen e), (rowV e x).length = e.length
  | [], _ => rfl
  | [_], _ => rfl
  | t :: u :: ts, x => by rw [rowV]; simp [rowV_length (u :: ts)]
theorem rowV_get : ∀ (e : List Ty) (x : rowDen e) {C : Nat → Option Value}, CRel ρ.φ e x C → ∀ i v, (rowV e x)[i]? = some v → ∃ W, C i = some W ∧ VRel ρ v W
  | [], _, _, _, i, v, h => by simp [rowV] at h
  | [t], x, C, hc, i, v, h => by
    rw [CRel] at hc
    obtain ⟨X, h1, h2⟩ := hc
    cases i with
    | zero => simp [rowV] at h; subst h; exact ⟨X, h1, toV_rel t _ _ h2⟩
    | succ i => simp [rowV] at h
  | t :: u :: ts, x, C, hc, i, v, h => by
    rw [CRel] at hc
    obtain ⟨⟨X, h1, h2⟩, h3⟩ := hc
    cases i with
    | zero => rw [rowV] at h; simp at h; subst h; exact ⟨X, h1, toV_rel t _ _ h2⟩
    | succ i => exact rowV_get (u :: ts) x.2 h3 i v (by rw [rowV] at h; simpa using h)

theorem SRel.rowsAt (h : SRel own ρ s w) {b : Nat} {e : List Ty} {L : List (rowDen e)} (hc : rowsAt s b = some ⟨e, L⟩) {x : Blk} (hx : ρ b = some x) :
    RowsAt ρ.φ e L (fun k => w.cell? ⟨x.B, x.O + k, none⟩) ∧ x.O + L.length * e.length ≤ x.S := by
  unfold Sym.rowsAt at hc
  split at hc
  · rename_i e' L' t ish hb
    cases hc
    obtain ⟨y, h1, _, C, t, fr, h3, h4, h5, h6, h7, _⟩ := h.obj' hb hx
    rw [hx] at h1; cases h1
    exact ⟨fun i hi => CRel.mono (fun _ _ _ hv => hv) e _ (fun j v hv => by simpa [World.cell?, h3] using hv) (h6 i hi), h5⟩
  · cases hc

theorem row_cells {e : List Ty} {L : List (rowDen e)} {B o : Nat} (h : RowsAt ρ.φ e L (fun k => w.cell? ⟨B, o + k, none⟩)) {i : Nat} (hi : i < L.length) : CellsIn ρ w (rowV e (rowAt e L i)) B (o + i * e.length) := by
  intro j v hj
  obtain ⟨W, h1, h2⟩ := rowV_get e _ (h i hi) j v hj
  exact ⟨W, by simpa [Nat.add_assoc] using h1, h2⟩
theorem SRel.rowsφ (h : SRel own ρ s w) {e : List Ty} {L : List (rowDen e)} {B o : Nat} (hr : RowsAt ρ.φ e L (fun k => ρ.φ B (o + k))) : RowsAt ρ.φ e L (fun k => w.cell? ⟨B, o + k, none⟩) :=
  hr.mono (fun _ _ _ hv => hv) fun j v hv => h.fz _ _ _ hv

theorem loadPart_rel {t : TypeId} {cs : List V} {o B O : Nat} {v : V} (hq : partE P t cs o = some v) (hc : CellsIn ρ w cs B O) :
    ∃ X, (Instr.loadAt t (.pointer (some ⟨B, O + o, none⟩))).run P w = .ok X w ∧ VRel ρ v X := by
  unfold partE at hq
  split at hq
  · rename_i ht
    split at hq
    · rename_i n hn
      simp only [llen_eq, ltake_eq, ldrop_eq] at hq
      cases hb' : Nat.ble (o + n) cs.length with
      | false => simp [hb'] at hq
      | true =>
        simp only [hb', cond_true, Option.some.injEq] at hq
        subst hq
        obtain ⟨L, h1, h2⟩ := load_of_cells (P := P) hc o n (by simpa [Nat.ble_eq] using hb')
        refine ⟨.agg L.toArray, ?_, ?_⟩
        · simp [Instr.loadAt, Instr.sureAddr, loadVar, run_isAgg ht, run_size hn, h1]
        · simp only [VRel]; exact ⟨_, rfl, by simpa using h2⟩
    · cases hq
  · rename_i ht
    rw [lget_eq] at hq
    obtain ⟨W, h1, h2⟩ := hc _ _ hq
    exact ⟨W, by simp [Instr.loadAt, Instr.sureAddr, loadVar, run_isAgg ht, h1], h2⟩
  · cases hq

theorem okO_some {x : Option V} {ps : List Bool} {v : V} (h : okO x = some (ps, v)) : x = some v ∧ ps = [] := by
  cases x with
  | none => cases h
  | some u => cases h; exact ⟨rfl, rfl⟩
theorem okB_some {b : Bool} {x : Option V} {ps : List Bool} {v : V} (h : okB b x = some (ps, v)) : x = some v ∧ ps = [b] := by
  cases x with
  | none => cases h
  | some u => cases h; exact ⟨rfl, rfl⟩
theorem allB_one {b : Bool} (h : allB [b]) : b = true := h.1

theorem CRel.lt : ∀ (e : List Ty) (x : rowDen e) {C : Nat → Option Value}, CRel ρ.φ e x C → CRel ρ.φ e x (fun j => if j < e.length then C j else none)
  | [], _, _, _ => by rw [CRel]; trivial
  | [t], x, C, h => by
    rw [CRel] at h ⊢
    obtain ⟨X, h1, h2⟩ := h
    exact ⟨X, by simpa using h1, h2⟩
  | t :: u :: ts, x, C, h => by
    rw [CRel] at h ⊢
    obtain ⟨⟨X, h1, h2⟩, h3⟩ := h
    refine ⟨⟨X, by simpa using h1, h2⟩, ?_⟩
    refine CRel.mono (fun _ _ _ hv => hv) (u :: ts) x.2 ?_ (CRel.lt (u :: ts) x.2 h3)
    intro j v hv
    simp only [List.length_cons] at hv ⊢
    split at hv
    · rename_i hj; rw [if_pos (by omega)]; exact hv
    · cases hv
theorem rows_arr {e : List Ty} {L : List (rowDen e)} {A : Array Value} {C : Nat → Option Value} (h : RowsAt ρ.φ e L C) (hA : ∀ k, k < L.length * e.length → A[k]? = C k) : RowsAt ρ.φ e L (fun k => A[k]?) := by
  intro i hi
  refine CRel.mono (fun _ _ _ hv => hv) e _ ?_ (CRel.lt e _ (h i hi))
  intro j v hv
  split at hv
  · rename_i hj
    show A[i * e.length + j]? = some v
    rw [hA _ (by
      have h1 : (i + 1) * e.length ≤ L.length * e.length := Nat.mul_le_mul_right _ hi
      rw [Nat.succ_mul] at h1; omega)]
    exact hv
  · cases hv

theorem qLoad_rel (h : SRel own ρ s w) {t : TypeId} {a v : V} {A : Value} {ps : List Bool} (hq : qLoad P s t a = some (ps, v)) (hp : allB ps) (ha : VRel ρ a A) :
    ∃ X, (Instr.loadAt t A).run P w = .ok X w ∧ VRel ρ v X := by
  unfold qLoad at hq
  split at hq
  · rename_i b o
    split at hq
    · rename_i cs hcs
      simp only [VRel] at ha
      obtain ⟨B, O, S, hb, rfl⟩ := ha
      exact loadPart_rel (okO_some hq).1 (h.cellsAt hcs hb).1
    · cases hq
  · rename_i b i j es
    split at hq
    · rename_i e L hL
      cases he : Nat.beq es e.length with
      | false => rw [he] at hq; cases hq
      | true =>
      rw [he, cond_true] at hq
      have he := Nat.eq_of_beq_eq_true he
      subst he
      simp only [VRel] at ha
      obtain ⟨B, O, S, hb, rfl⟩ := ha
      obtain ⟨hr, hS⟩ := h.rowsAt hL hb
      split at hq
      · rename_i n el hd
        split at hq
        · split at hq
          · rename_i z hz
            cases hzz : Nat.beq z (n * e.length) with
            | false => rw [hzz] at hq; cases hq
            | true =>
            rw [hzz, cond_true] at hq
            have hzz := Nat.eq_of_beq_eq_true hzz
            cases hq
            have hn : L.length = n := by simpa using hp.1
            have hag : isAggE P t = some true := by simp [isAggE, hd]
            have hex : ∀ k, k < n * e.length → ∃ X, w.cell? ⟨B, O + k, none⟩ = some X := by
              intro k hk
              have he0 : 0 < e.length := by
                rcases Nat.eq_zero_or_pos e.length with h0 | h0
                · rw [h0] at hk; simp at hk
                · exact h0
              have hkk : k / e.length < L.length := by rw [hn]; exact (Nat.div_lt_iff_lt_mul he0).2 hk
              obtain ⟨X, h1, _⟩ := rowV_get e _ (hr _ hkk) (k % e.length) ((rowV e (rowAt e L (k / e.length)))[k % e.length]'(by rw [rowV_length]; exact Nat.mod_lt _ he0)) (List.getElem?_eq_getElem _)
              refine ⟨X, ?_⟩
              have e2 : k / e.length * e.length + k % e.length = k := by rw [Nat.mul_comm]; exact Nat.div_add_mod k e.length
              simpa [e2] using h1
            obtain ⟨g, hg⟩ : ∃ g : Nat → Value, ∀ k, k < n * e.length → w.cell? ⟨B, O + k, none⟩ = some (g k) :=
              ⟨fun k => if hk : k < n * e.length then (hex k hk).choose else undef, fun k hk => by simp only [hk, dif_pos]; exact (hex k hk).choose_spec⟩
            have hrun := run_loadCells_list (P := P) w ⟨B, O, none⟩ ((List.range (n * e.length)).map g) (fun j v hj => by
              rw [addr_add]
              have hj' : j < n * e.length := by have := (List.getElem?_eq_some_iff.1 hj).1; simpa using this
              rw [List.getElem?_map, List.getElem?_range hj'] at hj
              simp at hj; subst hj
              exact hg j hj')
            simp only [List.length_map, List.length_range] at hrun
            refine ⟨.agg ((List.range (n * e.length)).map g).toArray, by simp [Instr.loadAt, Instr.sureAddr, loadVar, run_isAgg hag, run_size hz, hzz, hrun], ?_⟩
            simp only [VRel]
            refine ⟨_, rfl, by simp [hn], rows_arr hr fun k hk => ?_⟩
            rw [hn] at hk
            rw [hg k hk]
            simp [List.getElem?_range hk]
          · cases hq
        · cases hq
      · obtain ⟨h1, rfl⟩ := okB_some hq
        have := loadPart_rel h1 (row_cells hr (by simpa using hp.1))
        simpa [Nat.add_assoc] using this
    · cases hq
  · rename_i e L i j
    obtain ⟨h1, rfl⟩ := okB_some hq
    simp only [VRel] at ha
    obtain ⟨B, o, rfl, hr⟩ := ha
    exact loadPart_rel h1 (row_cells (h.rowsφ hr) (by simpa using hp.1))
  · cases hq

theorem bits_toNat (k : IntKind) (x : Int) : (BitVec.ofInt k.bits x).toNat = ofI k x := by
  have h := modN_eq (kM k) (by cases k <;> decide) x
  rw [BitVec.toNat_ofInt, kM_eqN, ofI]
  omega

theorem wrap_in {n : Int} (h : -9223372036854775808 ≤ n) (h' : n ≤ 9223372036854775807) : IntKind.i64.wrap n = n := by
  simp only [IntKind.wrap, IntKind.bits, IntKind.signed, Bool.true_and, decide_eq_true_eq, ge_iff_le]; split <;> omega
theorem arithE_rel {k : IntKind} {n : Int} {v : V} {ps : List Bool} (h : arithE k n = some (ps, v)) (hp : allB ps) : VRel ρ v (.int k (k.wrap n)) := by
  unfold arithE at h
  split at h <;> cases h
  · obtain ⟨p1, _⟩ := hp
    rw [inI_eq] at p1
    have p1 := of_decide_eq_true p1
    rw [wrap_in p1.1 p1.2]
    simp only [VRel]
  all_goals simp only [VRel, IntKind.wrap, IntKind.bits, IntKind.signed, Bool.false_and, Bool.false_eq_true, if_false]
  all_goals rfl
theorem quoE_rel {k : IntKind} {a b : Int} {v : V} {ps : List Bool} (h : quoE k a b = some (ps, v)) (hp : allB ps) : b ≠ 0 ∧ VRel ρ v (.int k (k.wrap (a.tdiv b))) := by
  have key : ∀ M : Int, 0 ≤ a → 0 < b → a < M → a.tdiv b = a / b ∧ 0 ≤ a / b ∧ a / b < M := fun M h1 h2 h3 =>
    ⟨Int.tdiv_eq_ediv_of_nonneg h1, Int.ediv_nonneg h1 (Int.le_of_lt h2), Int.lt_of_le_of_lt (Int.ediv_le_self b h1) h3⟩
  unfold quoE at h
  split at h <;> cases h
  · obtain ⟨p1, p2, p3, _⟩ := hp
    rw [leI_eq] at p1
    rw [ltI_eq] at p2
    rw [inI_eq] at p3
    have h2 := of_decide_eq_true p2
    obtain ⟨k1, k2, k3⟩ := key 9223372036854775808 (of_decide_eq_true p1) h2 (by have := of_decide_eq_true p3; omega)
    rw [k1, wrap_in (by omega) (by omega)]
    exact ⟨by omega, by simp only [VRel]⟩
  · obtain ⟨p1, p2, p3, _⟩ := hp
    rw [leI_eq] at p1
    rw [ltI_eq] at p2 p3
    have h2 := of_decide_eq_true p2
    obtain ⟨k1, k2, k3⟩ := key _ (of_decide_eq_true p1) h2 (of_decide_eq_true p3)
    rw [k1]
    refine ⟨by omega, ?_⟩
    simp only [VRel, IntKind.wrap, IntKind.bits, IntKind.signed, Bool.false_and, Bool.false_eq_true, if_false]
    congr 1
    omega
  · obtain ⟨p1, p2, p3, _⟩ := hp
    rw [leI_eq] at p1
    rw [ltI_eq] at p2 p3
    have h2 := of_decide_eq_true p2
    obtain ⟨k1, k2, k3⟩ := key _ (of_decide_eq_true p1) h2 (of_decide_eq_true p3)
    rw [k1]
    refine ⟨by omega, ?_⟩
    simp only [VRel, IntKind.wrap, IntKind.bits, IntKind.signed, Bool.false_and, Bool.false_eq_true, if_false]
    congr 1
    omega
  · obtain ⟨p1, p2, p3, _⟩ := hp
    rw [leI_eq] at p1
    rw [ltI_eq] at p2 p3
    have h2 := of_decide_eq_true p2
    obtain ⟨k1, k2, k3⟩ := key _ (of_decide_eq_true p1) h2 (of_decide_eq_true p3)
    rw [k1]
    refine ⟨by omega, ?_⟩
    simp only [VRel, IntKind.wrap, IntKind.bits, IntKind.signed, Bool.false_and, Bool.false_eq_true, if_false]
    congr 1
    omega
  · exact ⟨by simpa using hp.1, by simp only [VRel]⟩
theorem intBin_rel {op : BinOp} {k : IntKind} {a b : Int} {v : V} {ps : List Bool} (h : intBin op k a b = some (ps, v)) (hp : allB ps) (h1 : op ≠ .shl) (h2 : op ≠ .shr) (t : TypeId) :
    ∃ X, (Go.binOp op t (.int k a) (.int k b)).run P w = .ok X w ∧ VRel ρ v X := by
  have e1 := bits_toNat k a
  have e2 := bits_toNat k b
  have e3 : (~~~ BitVec.ofInt k.bits b).toNat = kM k - 1 - ofI k b := by rw [BitVec.toNat_not, e2, kM_eqN]
  cases op
  case shl => exact absurd rfl h1
  case shr => exact absurd rfl h2
  case add => exact ⟨.int k (k.wrap (a + b)), by simp [Go.binOp, Op.intArith], arithE_rel h hp⟩
  case sub => exact ⟨.int k (k.wrap (a - b)), by simp [Go.binOp, Op.intArith], arithE_rel h hp⟩
  case mul => exact ⟨.int k (k.wrap (a * b)), by simp [Go.binOp, Op.intArith], arithE_rel h hp⟩
  case quo =>
    obtain ⟨hb', hv⟩ := quoE_rel (ρ := ρ) h hp
    exact ⟨.int k (k.wrap (a.tdiv b)), by simp [Go.binOp, Op.intDiv, hb'], hv⟩
  case rem =>
    cases h
    obtain ⟨p1, p2, _⟩ := hp
    rw [leI_eq] at p1
    rw [ltI_eq] at p2
    have ha' := of_decide_eq_true p1
    have hb' := of_decide_eq_true p2
    have hb : b ≠ 0 := by omega
    exact ⟨.int k (a.tmod b), by simp [Go.binOp, Op.intDiv, hb], by simp only [VRel]; rw [Int.tmod_eq_emod_of_nonneg ha']⟩
  case and => cases h; exact ⟨_, by simp only [Go.binOp, Op.intBits, ne_eq, not_true_eq_false, if_false, Sem.run_pure, BitVec.toNat_and, e1, e2]; rfl, by simp only [VRel]; rfl⟩
  case or => cases h; exact ⟨_, by simp only [Go.binOp, Op.intBits, ne_eq, not_true_eq_false, if_false, Sem.run_pure, BitVec.toNat_or, e1, e2]; rfl, by simp only [VRel]; rfl⟩
  case xor => cases h; exact ⟨_, by simp only [Go.binOp, Op.intBits, ne_eq, not_true_eq_false, if_false, Sem.run_pure, BitVec.toNat_xor, e1, e2]; rfl, by simp only [VRel]; rfl⟩
  case andNot => cases h; exact ⟨_, by simp only [Go.binOp, Op.intBits, ne_eq, not_true_eq_false, if_false, Sem.run_pure, BitVec.toNat_and, e1, e3]; rfl, by simp only [VRel]; rfl⟩
  case eql => cases h; exact ⟨.bool (a == b), by simp [Go.binOp, Op.intCmp], by simp only [VRel]; rfl⟩
  case neq => cases h; exact ⟨.bool (a != b), by simp [Go.binOp, Op.intCmp], by simp only [VRel]; rfl⟩
  case lss => cases h; exact ⟨.bool (decide (a < b)), by simp [Go.binOp, Op.intCmp], by simp only [VRel, ltI_eq]⟩
  case leq => cases h; exact ⟨.bool (decide (a ≤ b)), by simp [Go.binOp, Op.intCmp], by simp only [VRel, leI_eq]⟩
  case gtr => cases h; exact ⟨.bool (decide (a > b)), by simp [Go.binOp, Op.intCmp], by simp only [VRel, ltI_eq]⟩
  case geq => cases h; exact ⟨.bool (decide (a ≥ b)), by simp [Go.binOp, Op.intCmp], by simp only [VRel, leI_eq]⟩

theorem shiftE_rel {op : BinOp} {k k' : IntKind} {a b : Int} {v : V} {ps : List Bool} (h : shiftE op k a b = some (ps, v)) (hp : allB ps) :
    ∃ X, (Op.shift op k a k' b).run P w = .ok X w ∧ VRel ρ v X := by
  unfold shiftE at h
  split at h
  · have hb : 0 ≤ b := by split at h <;> (cases h; simpa [leI_eq] using hp.1)
    have hn : ¬ (b < 0) := by omega
    refine ⟨.int k (k.wrap (a * 2 ^ min b.toNat k.bits)), by simp [Op.shift, hn], ?_⟩
    split at h <;> cases h <;> simp only [VRel, IntKind.wrap, IntKind.bits, IntKind.signed, Bool.false_and, Bool.false_eq_true, if_false] <;> rfl
  · cases h
    have hb : 0 ≤ b := by simpa [leI_eq] using hp.1
    have hn : ¬ (b < 0) := by omega
    refine ⟨.int k (a.fdiv (2 ^ min b.toNat k.bits)), by simp [Op.shift, hn], ?_⟩
    simp only [VRel]
    rw [Int.fdiv_eq_ediv_of_nonneg _ (Int.le_of_lt (Int.pow_pos (by decide)))]
  · cases h

theorem i64max : IntKind.i64.max = 9223372036854775807 := by decide
theorem sEq_eq (a b : ByteArray) : sEq a b = (a.data.toList == b.data.toList) := by
  unfold sEq
  rw [Bool.eq_iff_iff]
  simp only [decide_eq_true_eq, beq_iff_eq]
  exact ⟨fun h => by rw [h], ba_ext⟩

theorem strBin_rel {op : BinOp} {a b : ByteArray} {v : V} {ps : List Bool} (h : strBin op a b = some (ps, v)) (hp : allB ps) :
    ∃ X, (Op.stringOp op a b).run P w = .ok X w ∧ VRel ρ v X := by
  have he := sEq_eq a b
  have hl : sLt a b = Op.bytesLess a.data.toList b.data.toList := rfl
  cases op <;> simp only [strBin, ok0, reduceCtorEq, Option.some.injEq, Prod.mk.injEq] at h
  case add =>
    obtain ⟨rfl, rfl⟩ := h
    have hb' : a.size + b.size ≤ 4611686018427387904 := by simpa using hp.1
    refine ⟨.string (a ++ b), ?_, by simp [VRel]⟩
    simp only [Op.stringOp, i64max]
    rw [if_neg (by omega)]
    rfl
  all_goals
    obtain ⟨rfl, rfl⟩ := h
    simp only [Op.stringOp, ByteArray.toList_eq, VRel, ← he, ← hl]
    exact ⟨_, rfl, rfl⟩

theorem frozen_false {C : Array Value} {t : TypeId} {fr : Nat × Nat} {B S : Nat} (hw : w.heap[B]? = some (.cells C t fr)) (hf : fr = (0, 0)) (o : Nat) (sp : Option Nat) :
    w.frozen? ⟨B, o, sp⟩ = false := by
  subst hf; simp [World.frozen?, hw]

theorem plain_rel (h : SRel own ρ s w) {b : Nat} (hb : plainBlock s b = true) {x0 : Blk} (hx0 : ρ b = some x0) : ∃ x C t, ρ b = some x ∧ w.heap[x.B]? = some (.cells C t (0, 0)) := by
  unfold plainBlock at hb
  split at hb
  · rename_i cs t0 hg
    obtain ⟨x, h1, _, C, t, fr, h3, _, _, _, _, h8⟩ := h.obj' hg hx0
    rw [h8 rfl] at h3
    exact ⟨x, C, t, h1, h3⟩
  · cases hb

theorem run_mayBeOne {a b : Addr} {C D : Array Value} {t u : TypeId} (ha : w.heap[a.block]? = some (.cells C t (0, 0))) (hb : w.heap[b.block]? = some (.cells D u (0, 0))) :
    (mayBeOne a b).run P w = .ok false w := by
  have s1 : (stringish a).run P w = .ok false w := by simp [stringish, World.frozen?, World.shape?, ha]
  have s2 : (stringish b).run P w = .ok false w := by simp [stringish, World.frozen?, World.shape?, hb]
  have sh1 : w.shape? a.block = some (t, C.size) := by simp [World.shape?, ha]
  have sh2 : w.shape? b.block = some (u, D.size) := by simp [World.shape?, hb]
  simp [mayBeOne, s1, s2, sh1, sh2]

theorem run_sameAddr {a b : Addr} {C D : Array Value} {t u : TypeId} (ha : w.heap[a.block]? = some (.cells C t (0, 0))) (hb : w.heap[b.block]? = some (.cells D u (0, 0))) (hne : a.block ≠ b.block) :
    (sameAddr a b).run P w = .ok false w := by
  have n1 : (noView a).run P w = .ok () w := by simp [noView, viewAt, World.shape?, ha]
  have n2 : (noView b).run P w = .ok () w := by simp [noView, viewAt, World.shape?, hb]
  have e : (a.block == b.block) = false := by simpa using hne
  have f1 : w.frozen? a = false := by simp [World.frozen?, ha]
  simp [sameAddr, e, f1, n1, n2, run_mayBeOne ha hb]

set_option maxHeartbeats 800000 in
theorem eqE_rel (h : SRel own ρ s w) {t : TypeId} {a b : V} {r : Bool} (hq : eqE P s t a b = some r) {A B : Value} (ha : VRel ρ a A) (hb : VRel ρ b B) (d : Nat) :
    (Op.equalIn (d + 1) t A B).run P w = .ok r w := by
  unfold eqE at hq
  split at hq <;> rename_i hd
  · split at hq <;> cases hq
    simp only [VRel] at ha hb; subst ha; subst hb
    simp [Op.equalIn, run_und hd]
  · rename_i e
    split at hq
    · cases hq; simp only [VRel] at ha hb; subst ha; subst hb; simp [Op.equalIn, run_und hd]
    · cases hq; simp only [VRel] at ha hb; obtain ⟨_, _, _, _, rfl⟩ := hb; subst ha; simp [Op.equalIn, run_und hd]
    · cases hq; simp only [VRel] at ha hb; obtain ⟨_, _, _, _, rfl⟩ := ha; subst hb; simp [Op.equalIn, run_und hd]
    · rename_i x o y q
      split at hq
      · rename_i n hn
        cases hp : (plainBlock s x && plainBlock s y) with
        | false => simp [hp] at hq
        | true =>
          simp only [hp, cond_true] at hq
          simp only [Bool.and_eq_true] at hp
          simp only [VRel] at ha hb
          obtain ⟨B1, O1, S1, hB1, rfl⟩ := ha
          obtain ⟨B2, O2, S2, hB2, rfl⟩ := hb
          obtain ⟨x1, C1, t1, hx1, hw1⟩ := plain_rel h hp.1 hB1
          obtain ⟨x2, C2, t2, hx2, hw2⟩ := plain_rel h hp.2 hB2
          rw [hB1] at hx1; cases hx1
          rw [hB2] at hx2; cases hx2
          simp only [Op.equalIn, Sem.run_bind, run_und hd, Result.andThen_ok, run_size hn]
          cases hxy : Nat.beq x y with
          | true =>
            have e' : x = y := by simpa using hxy
            subst e'
            rw [hB1] at hB2; cases hB2
            simp only [hxy, cond_true, Option.some.injEq] at hq
            subst hq
            simp only [sameAddr]
            simp
            rw [Bool.eq_iff_iff]; simp
          | false =>
            simp only [hxy, cond_false, Option.some.injEq] at hq
            subst hq
            have hne : x ≠ y := by intro e; subst e; simp at hxy
            have hBne : B1 ≠ B2 := by
              unfold plainBlock at hp
              obtain ⟨p1, p2⟩ := hp
              split at p1
              · rename_i g1
                split at p2
                · rename_i g2
                  exact h.inj x y _ _ _ _ g1 g2 hB1 hB2 hne
                · cases p2
              · cases p1
            simp only [ne_eq, Nat.add_eq_zero_iff, Nat.succ_ne_self, and_false, not_false_eq_true, if_true, Nat.add_one_ne_zero]
            exact run_sameAddr hw1 hw2 hBne
      · cases hq
    · cases hq
  · split at hq <;> cases hq <;> simp only [VRel] at ha hb
    · subst ha; subst hb; simp [Op.equalIn, run_und hd]
    · obtain ⟨_, _, _, _, _, rfl, _⟩ := hb; subst ha; simp [Op.equalIn, run_und hd]
    · obtain ⟨_, _, _, _, _, rfl, _⟩ := ha; subst hb; simp [Op.equalIn, run_und hd]
  · split at hq <;> cases hq <;> simp only [VRel] at ha hb
    · subst ha; subst hb; simp [Op.equalIn, run_und hd]
    · obtain ⟨_, _, _, _, rfl⟩ := hb; subst ha; simp [Op.equalIn, run_und hd]
    · obtain ⟨_, _, _, _, rfl⟩ := ha; subst hb; simp [Op.equalIn, run_und hd]
  · split at hq <;> cases hq <;> simp only [VRel] at ha hb
    · subst ha; subst hb; simp [Op.equalIn, run_und hd]
    · obtain ⟨_, _, rfl, _⟩ := hb; subst ha; simp [Op.equalIn, run_und hd]
    · obtain ⟨_, _, rfl, _⟩ := ha; subst hb; simp [Op.equalIn, run_und hd]
    · obtain ⟨_, _, _, _, rfl⟩ := hb; subst ha; simp [Op.equalIn, run_und hd]
    · obtain ⟨_, _, _, _, rfl⟩ := ha; subst hb; simp [Op.equalIn, run_und hd]
  · split at hq <;> cases hq <;> simp only [VRel] at ha hb
    · obtain ⟨_, rfl, _⟩ := hb; subst ha; simp [Op.equalIn, run_und hd]
    · obtain ⟨_, rfl, _⟩ := ha; subst hb; simp [Op.equalIn, run_und hd]
  · cases hq

end
end Go.Sym
