/-
  Plain facts of rows and lists.
-/
import Derived.Test.YtlkbmjdgfbciaaaSymO
namespace Go.Sym

theorem rowAt_lt {e : List Ty} {L : List (rowDen e)} {i : Nat} (h : i < L.length) : rowAt e L i = L[i] := by
  unfold rowAt
  rw [List.getD_eq_getElem?_getD, List.getElem?_eq_getElem h]
  rfl
theorem all_row {e : List Ty} {L : List (rowDen e)} {f : rowDen e → Bool} (h : L.all f = true) {k : Nat} (hk : k < L.length) : f (rowAt e L k) = true := by
  rw [rowAt_lt hk]
  exact List.all_eq_true.1 h _ (List.getElem_mem hk)
theorem all_rows {e : List Ty} {L : List (rowDen e)} {f : rowDen e → Bool} (h : ∀ i, i < L.length → f (rowAt e L i) = true) : L.all f = true := by
  rw [List.all_eq_true]
  intro x hx
  obtain ⟨i, hi, rfl⟩ := List.mem_iff_getElem.1 hx
  have := h i hi
  rwa [rowAt_lt hi] at this
theorem findIdx_row {e : List Ty} {L : List (rowDen e)} {f : rowDen e → Bool} {k : Nat} (hk : k < L.length) (h : ∀ i, i < k → f (rowAt e L i) = false) (h' : f (rowAt e L k) = true) : L.findIdx f = k := by
  rw [List.findIdx_eq hk]
  refine ⟨by rwa [rowAt_lt hk] at h', fun j hj => ?_⟩
  have := h j hj
  rwa [rowAt_lt (by omega)] at this
theorem size0 : ByteArray.size ⟨#[]⟩ = 0 := rfl
theorem lt_succ_cases {P : Nat → Prop} {k : Nat} (h : ∀ i, i < k → P i) (hk : P k) : ∀ i, i < k + 1 → P i := fun i hi => by
  rcases Nat.lt_succ_iff_lt_or_eq.1 hi with h' | rfl
  · exact h i h'
  · exact hk
theorem wrap_i64 {n : Int} (h : -9223372036854775808 ≤ n) (h' : n < 9223372036854775808) : IntKind.i64.wrap n = n := by
  simp only [IntKind.wrap, IntKind.bits, IntKind.signed, Bool.true_and, decide_eq_true_eq, ge_iff_le]; split <;> omega
theorem wrap_i32 {n : Int} (h : -2147483648 ≤ n) (h' : n < 2147483648) : IntKind.i32.wrap n = n := by
  simp only [IntKind.wrap, IntKind.bits, IntKind.signed, Bool.true_and, decide_eq_true_eq, ge_iff_le]; split <;> omega
theorem wrap_u64 {n : Int} (h : 0 ≤ n) (h' : n < 18446744073709551616) : IntKind.u64.wrap n = n := by
  simp only [IntKind.wrap, IntKind.bits, IntKind.signed, Bool.false_and, Bool.false_eq_true, if_false]; omega
theorem wrap_u32 {n : Int} (h : 0 ≤ n) (h' : n < 4294967296) : IntKind.u32.wrap n = n := by
  simp only [IntKind.wrap, IntKind.bits, IntKind.signed, Bool.false_and, Bool.false_eq_true, if_false]; omega
theorem wrap_u16 {n : Int} (h : 0 ≤ n) (h' : n < 65536) : IntKind.u16.wrap n = n := by
  simp only [IntKind.wrap, IntKind.bits, IntKind.signed, Bool.false_and, Bool.false_eq_true, if_false]; omega
theorem wrap_u8 {n : Int} (h : 0 ≤ n) (h' : n < 256) : IntKind.u8.wrap n = n := by
  simp only [IntKind.wrap, IntKind.bits, IntKind.signed, Bool.false_and, Bool.false_eq_true, if_false]; omega
theorem PureAt.weak {P : Program} {g : FuncId} {args args' : List V} {v : V} (h : PureAt P g args v) (hw : ∀ (φ : Nat → Nat → Option Value) (X : List Value), LRel (envφ φ) args' X → LRel (envφ φ) args X) : PureAt P g args' v :=
  fun φ w A hφ hA => h φ w A hφ (hw φ _ hA)
theorem asL_eq {e e' : List Ty} {L : List (rowDen e')} {M : List (rowDen e)} (h : asL e e' L = some M) : ∃ q : e' = e, M = castL q L := by
  unfold asL at h
  split at h
  · exact ⟨_, (Option.some.inj h).symm⟩
  · cases h
theorem ofLst_rel {ρ : Env} {e : List Ty} {a : V} {L : List (rowDen e)} (h : ofLst e a = some L) {X : Value} (hX : VRel ρ a X) : VRel ρ (.lst e L false) X := by
  unfold ofLst at h
  split at h
  · obtain ⟨q, rfl⟩ := asL_eq h
    subst q
    simp only [VRel] at hX ⊢
    obtain ⟨a, c, h1, h2, h3, h4, h5⟩ := hX
    exact ⟨a, c, h1, h2, fun h => (by cases h), h4, h5⟩
  · cases h
    simp only [VRel] at hX ⊢
    exact ⟨none, 0, hX, Nat.le_refl _, fun h => (by cases h), fun _ => rfl, fun h => absurd h (Nat.lt_irrefl _)⟩
  · cases h
theorem PureAt.lst {P : Program} {g : FuncId} {e : List Ty} {a : V} {L : List (rowDen e)} {pre rest : List V} {v : V} (h : PureAt P g (pre ++ .lst e L false :: rest) v) (ha : ofLst e a = some L) : PureAt P g (pre ++ a :: rest) v := by
  refine h.weak fun φ => ?_
  clear h
  induction pre with
  | nil =>
    rintro X ⟨x, Y, rfl, h1, h2⟩
    exact ⟨x, Y, rfl, ofLst_rel ha h1, h2⟩
  | cons b pre ih =>
    rintro X ⟨x, Y, rfl, h1, h2⟩
    exact ⟨x, Y, rfl, h1, ih Y h2⟩
theorem PureAt.lst0 {P : Program} {g : FuncId} {e : List Ty} {a : V} {L : List (rowDen e)} {rest : List V} {v : V} (h : PureAt P g (.lst e L false :: rest) v) (ha : ofLst e a = some L) : PureAt P g (a :: rest) v := PureAt.lst (pre := []) h ha
theorem allB1 {b : Bool} (h : allB [b]) : b = true := h.1
theorem seg_one {α : Type} (x : α) : seg [x] 0 1 = [x] := rfl
theorem seg_all {α : Type} (L : List α) {n : Nat} (h : L.length = n) : seg L 0 n = L := by subst h; simp [seg]
theorem castL_self {e : List Ty} (h : e = e) (L : List (rowDen e)) : castL h L = L := rfl
end Go.Sym
