/-
  Weaker descriptions of a frame and a state: names struck, names changed, slots forgotten. Loops by a relation.
-/
import Derived.Test.YtlkbmjdgfbciaaaSymX
namespace Go.Sym
set_option linter.unusedSimpArgs false
set_option linter.unusedVariables false

/-- a description holds, and so a weaker one does: names below k stand as they are -/
def Wk (k : Nat) (c1 c0 : Cfg) : Prop := ∀ (own : Own) (ρ0 ρ : Env) (A : Act) (w : World), ρ0.below k → ρ0.le ρ → Rel own ρ c1 A w → ∃ ρ', ρ0.le ρ' ∧ Rel own ρ' c0 A w
theorem Wk.refl (k : Nat) (c : Cfg) : Wk k c c := fun _ _ ρ _ _ _ h r => ⟨ρ, h, r⟩

/-- a heap, written down -/
noncomputable def heapOf : List (Nat × EObj) → T EObj
  | [] => .leaf
  | e :: l => (heapOf l).set e.1 (some e.2)
theorem heapOf_mem : ∀ {l : List (Nat × EObj)} {b : Nat} {o : EObj}, (heapOf l).get b = some o → (b, o) ∈ l
  | [], b, o, h => by rw [heapOf, T.get_leaf] at h; cases h
  | e :: l, b, o, h => by
    rw [heapOf, T.get_set] at h
    split at h
    · rename_i hb; cases h; subst hb; exact List.mem_cons_self
    · exact List.mem_cons_of_mem _ (heapOf_mem h)
noncomputable def mkCfg (n : Nat) (sl : List V) (ds : List EDef) (h : List (Nat × EObj)) (next : Nat) : Cfg := ⟨mkFrm n sl, ds, ⟨heapOf h, next⟩⟩

section
variable (k : Nat) (m : List (Nat × Nat))
def look (b : Nat) : List (Nat × Nat) → Option Nat
  | [] => none
  | e :: l => bif Nat.beq e.1 b then some e.2 else look b l
/-- which name that was -/
def renN (b : Nat) : Option Nat := bif Nat.blt b k then some b else look b m
def isN (b b0 : Nat) : Bool := match renN k m b0 with
  | some b1 => Nat.beq b b1
  | none => false
def isGone (b0 : Nat) : Bool := match renN k m b0 with
  | some _ => false
  | none => true
def sameLst (e e0 : List Ty) (L : List (rowDen e)) (L0 : List (rowDen e0)) : Prop := match asL e0 e L with
  | some L' => L' = L0
  | none => False
def capW (x0 : Bool) (len0 cap0 cap : Nat) : Prop := match x0 with
  | true => cap = cap0
  | false => len0 ≤ cap0 ∧ cap0 ≤ cap
mutual
def weakV : V → V → Prop
  | v, .any => True
  | v, .undef => (match v with
    | .undef => True
    | _ => False)
  | v, .bool b => (match v with
    | .bool a => a = b
    | _ => False)
  | v, .int k0 b => (match v with
    | .int k a => guardB (kEq k k0) (a = b)
    | _ => False)
  | v, .str b => (match v with
    | .str a => a = b
    | _ => False)
  | v, .nilp => (match v with
    | .nilp => True
    | _ => False)
  | v, .nils => (match v with
    | .nils => True
    | _ => False)
  | v, .nilm => (match v with
    | .nilm => True
    | _ => False)
  | v, .nilf => (match v with
    | .nilf => True
    | _ => False)
  | v, .nili => (match v with
    | .nili => True
    | _ => False)
  | v, .ptr b0 o0 => (match v with
    | .ptr b o => guardB (isN k m b b0 && Nat.beq o o0) True
    | _ => False)
  | v, .rptr b0 i0 j0 es0 => (match v with
    | .rptr b i j es => guardB (isN k m b b0 && (Nat.beq j j0 && Nat.beq es es0)) (i = i0)
    | _ => False)
  | v, .lptr e0 L0 i0 j0 => (match v with
    | .lptr e L i j => sameLst e e0 L L0 ∧ (i = i0 ∧ j = j0)
    | _ => False)
  | v, .sl b0 o0 len0 cap0 x0 es0 => (match v with
    | .sl b o len cap x es => guardB (isN k m b b0 && (Nat.beq o o0 && (Nat.beq len len0 && (Nat.beq cap cap0 && ((x == x0) && Nat.beq es es0))))) True
    | _ => False)
  | v, .rs b0 lo0 len0 cap0 x0 es0 => (match v with
    | .rs b lo len cap x es => guardB (isN k m b b0 && (Nat.beq es es0 && (!x0 || x))) (lo = lo0 ∧ (len = len0 ∧ capW x0 len0 cap0 cap))
    | .nils => guardB (isGone k m b0) (len0 = 0 ∧ cap0 = 0)
    | _ => False)
  | v, .lst e0 L0 cl0 => (match v with
    | .lst e L cl => guardB (!cl0 || cl) (sameLst e e0 L L0)
    | .nils => L0 = []
    | _ => False)
  | v, .arr e0 L0 => (match v with
    | .arr e L => sameLst e e0 L L0
    | _ => False)
  | v, .map b0 => (match v with
    | .map b => guardB (isN k m b b0) True
    | _ => False)
  | v, .fn f0 a0 c0 => (match v with
    | .fn f a c => guardB (Nat.beq f f0) (weakL a a0 ∧ weakL c c0)
    | _ => False)
  | v, .yld l0 => (match v with
    | .yld l => guardB (isN k m l l0) True
    | _ => False)
  | v, .iface t0 v0 => (match v with
    | .iface t v => guardB (Nat.beq t t0) (weakV v v0)
    | _ => False)
  | v, .agg l0 => (match v with
    | .agg l => weakL l l0
    | _ => False)
  | v, .tup l0 => (match v with
    | .tup l => weakL l l0
    | _ => False)
def weakL : List V → List V → Prop
  | l, [] => (match l with
    | [] => True
    | _ :: _ => False)
  | l, v0 :: l0 => (match l with
    | [] => False
    | v :: l => weakV v v0 ∧ weakL l l0)
end
end

section
variable {k : Nat} {m : List (Nat × Nat)}
def Env.ren (ρ : Env) (k : Nat) (m : List (Nat × Nat)) : Env := ⟨fun b => match renN k m b with
  | some b1 => ρ b1
  | none => none, k, ρ.φ⟩
theorem isN_spec {b b0 : Nat} (h : isN k m b b0 = true) : renN k m b0 = some b := by
  unfold isN at h
  split at h
  · rename_i b1 hb; rw [hb, Nat.eq_of_beq_eq_true h]
  · cases h
theorem ren_get {ρ : Env} {b b0 : Nat} (h : isN k m b b0 = true) : ρ.ren k m b0 = ρ b := by
  simp only [Env.ren, isN_spec h]
theorem sameLst_spec {e e0 : List Ty} {L : List (rowDen e)} {L0 : List (rowDen e0)} (h : sameLst e e0 L L0) : ∃ q : e = e0, L0 = castL q L := by
  unfold sameLst at h
  split at h
  · rename_i L' hL
    obtain ⟨q, rfl⟩ := asL_some hL
    exact ⟨q, h.symm⟩
  · exact h.elim

mutual
theorem weakV_rel {ρ : Env} : ∀ (v0 v : V) (X : Value), weakV k m v v0 → VRel ρ v X → VRel (ρ.ren k m) v0 X
  | .any, v, X, h, hv => by simp only [VRel]
  | .undef, v, X, h, hv => by
    rw [weakV.eq_def] at h
    simp only at h
    split at h
    · simpa only [VRel] using hv
    · exact h.elim
  | .bool b, v, X, h, hv => by
    rw [weakV.eq_def] at h
    simp only at h
    split at h
    · subst h; simpa only [VRel] using hv
    · exact h.elim
  | .int k0 b, v, X, h, hv => by
    rw [weakV.eq_def] at h
    simp only at h
    split at h
    · obtain ⟨h1, rfl⟩ := guardB_b h
      rw [kEq_iff] at h1
      have h1 := of_decide_eq_true h1
      subst h1
      simpa only [VRel] using hv
    · exact h.elim
  | .str b, v, X, h, hv => by
    rw [weakV.eq_def] at h
    simp only at h
    split at h
    · subst h; simpa only [VRel] using hv
    · exact h.elim
  | .nilp, v, X, h, hv => by
    rw [weakV.eq_def] at h
    simp only at h
    split at h
    · simpa only [VRel] using hv
    · exact h.elim
  | .nils, v, X, h, hv => by
    rw [weakV.eq_def] at h
    simp only at h
    split at h
    · simpa only [VRel] using hv
    · exact h.elim
  | .nilm, v, X, h, hv => by
    rw [weakV.eq_def] at h
    simp only at h
    split at h
    · simpa only [VRel] using hv
    · exact h.elim
  | .nilf, v, X, h, hv => by
    rw [weakV.eq_def] at h
    simp only at h
    split at h
    · simpa only [VRel] using hv
    · exact h.elim
  | .nili, v, X, h, hv => by
    rw [weakV.eq_def] at h
    simp only at h
    split at h
    · simpa only [VRel] using hv
    · exact h.elim
  | .ptr b0 o0, v, X, h, hv => by
    rw [weakV.eq_def] at h
    simp only at h
    split at h
    · obtain ⟨h1, _⟩ := guardB_b h
      rw [Bool.and_eq_true] at h1
      have h2 := Nat.eq_of_beq_eq_true h1.2
      subst h2
      simp only [VRel] at hv ⊢
      rw [ren_get h1.1]; exact hv
    · exact h.elim
  | .rptr b0 i0 j0 es0, v, X, h, hv => by
    rw [weakV.eq_def] at h
    simp only at h
    split at h
    · obtain ⟨h1, rfl⟩ := guardB_b h
      simp only [Bool.and_eq_true] at h1
      have h2 := Nat.eq_of_beq_eq_true h1.2.1
      have h3 := Nat.eq_of_beq_eq_true h1.2.2
      subst h2; subst h3
      simp only [VRel] at hv ⊢
      rw [ren_get h1.1]; exact hv
    · exact h.elim
  | .lptr e0 L0 i0 j0, v, X, h, hv => by
    rw [weakV.eq_def] at h
    simp only at h
    split at h
    · obtain ⟨h1, rfl, rfl⟩ := h
      obtain ⟨q, rfl⟩ := sameLst_spec h1
      subst q
      simp only [VRel] at hv ⊢
      exact hv
    · exact h.elim
  | .sl b0 o0 len0 cap0 x0 es0, v, X, h, hv => by
    rw [weakV.eq_def] at h
    simp only at h
    split at h
    · obtain ⟨h1, _⟩ := guardB_b h
      simp only [Bool.and_eq_true] at h1
      obtain ⟨g1, g2, g3, g4, g5, g6⟩ := h1
      have g2 := Nat.eq_of_beq_eq_true g2
      have g3 := Nat.eq_of_beq_eq_true g3
      have g4 := Nat.eq_of_beq_eq_true g4
      have g5 := eq_of_beq g5
      have g6 := Nat.eq_of_beq_eq_true g6
      subst g2; subst g3; subst g4; subst g5; subst g6
      simp only [VRel] at hv ⊢
      rw [ren_get g1]; exact hv
    · exact h.elim
  | .rs b0 lo0 len0 cap0 x0 es0, v, X, h, hv => by
    rw [weakV.eq_def] at h
    simp only at h
    split at h
    · obtain ⟨h1, rfl, rfl, hcap⟩ := guardB_b h
      simp only [Bool.and_eq_true, Bool.or_eq_true, Bool.not_eq_true'] at h1
      obtain ⟨g1, g2, g3⟩ := h1
      have g2 := Nat.eq_of_beq_eq_true g2
      subst g2
      simp only [VRel] at hv ⊢
      rw [ren_get g1]
      obtain ⟨a, c, q1, q2, q3, q4, q5⟩ := hv
      cases x0 with
      | true =>
        have hcap : _ = _ := hcap
        subst hcap
        refine ⟨a, c, q1, q2, q3, fun hx => q4 ?_, q5⟩
        rcases g3 with g3 | g3
        · cases g3
        · exact g3
      | false =>
        obtain ⟨c1, c2⟩ : _ ≤ _ ∧ _ ≤ _ := hcap
        exact ⟨a, c, q1, c1, by omega, fun hx => (by cases hx), q5⟩
    · obtain ⟨h1, rfl, rfl⟩ := guardB_b h
      simp only [VRel] at hv ⊢
      exact ⟨none, 0, hv, Nat.le_refl _, Nat.le_refl _, fun _ => rfl, fun _ => rfl, fun hp => absurd hp (Nat.lt_irrefl _)⟩
    · exact h.elim
  | .lst e0 L0 cl0, v, X, h, hv => by
    rw [weakV.eq_def] at h
    simp only at h
    split at h
    · obtain ⟨h1, h2⟩ := guardB_b h
      obtain ⟨q, rfl⟩ := sameLst_spec h2
      subst q
      simp only [VRel] at hv ⊢
      obtain ⟨a, c, q1, q2, q3, q4⟩ := hv
      refine ⟨a, c, q1, q2, fun hx => q3 ?_, q4⟩
      rw [Bool.or_eq_true, Bool.not_eq_true'] at h1
      rcases h1 with h1 | h1
      · rw [h1] at hx; cases hx
      · exact h1
    · subst h
      simp only [VRel] at hv ⊢
      exact ⟨none, 0, hv, Nat.le_refl _, fun _ => rfl, fun _ => rfl, fun hp => absurd hp (Nat.lt_irrefl _)⟩
    · exact h.elim
  | .arr e0 L0, v, X, h, hv => by
    rw [weakV.eq_def] at h
    simp only at h
    split at h
    · obtain ⟨q, rfl⟩ := sameLst_spec h
      subst q
      simp only [VRel] at hv ⊢
      exact hv
    · exact h.elim
  | .map b0, v, X, h, hv => by
    rw [weakV.eq_def] at h
    simp only at h
    split at h
    · obtain ⟨h1, _⟩ := guardB_b h
      simp only [VRel] at hv ⊢
      rw [ren_get h1]; exact hv
    · exact h.elim
  | .fn f0 a0 c0, v, X, h, hv => by
    rw [weakV.eq_def] at h
    simp only at h
    split at h
    · obtain ⟨h1, h2, h3⟩ := guardB_b h
      have h1 := Nat.eq_of_beq_eq_true h1
      subst h1
      simp only [VRel] at hv ⊢
      obtain ⟨A, C, q1, q2, q3⟩ := hv
      exact ⟨A, C, q1, weakL_rel a0 _ _ h2 q2, weakL_rel c0 _ _ h3 q3⟩
    · exact h.elim
  | .yld l0, v, X, h, hv => by
    rw [weakV.eq_def] at h
    simp only at h
    split at h
    · obtain ⟨h1, _⟩ := guardB_b h
      simp only [VRel] at hv ⊢
      rw [ren_get h1]; exact hv
    · exact h.elim
  | .iface t0 v0, v, X, h, hv => by
    rw [weakV.eq_def] at h
    simp only at h
    split at h
    · obtain ⟨h1, h2⟩ := guardB_b h
      have h1 := Nat.eq_of_beq_eq_true h1
      subst h1
      simp only [VRel] at hv ⊢
      obtain ⟨Y, q1, q2⟩ := hv
      exact ⟨Y, q1, weakV_rel v0 _ _ h2 q2⟩
    · exact h.elim
  | .agg l0, v, X, h, hv => by
    rw [weakV.eq_def] at h
    simp only at h
    split at h
    · simp only [VRel] at hv ⊢
      obtain ⟨A, q1, q2⟩ := hv
      exact ⟨A, q1, weakL_rel l0 _ _ h q2⟩
    · exact h.elim
  | .tup l0, v, X, h, hv => by
    rw [weakV.eq_def] at h
    simp only at h
    split at h
    · simp only [VRel] at hv ⊢
      obtain ⟨A, q1, q2⟩ := hv
      exact ⟨A, q1, weakL_rel l0 _ _ h q2⟩
    · exact h.elim
theorem weakL_rel {ρ : Env} : ∀ (l0 l : List V) (X : List Value), weakL k m l l0 → LRel ρ l X → LRel (ρ.ren k m) l0 X
  | [], l, X, h, hv => by
    rw [weakL.eq_def] at h
    simp only at h
    split at h
    · exact hv
    · exact h.elim
  | v0 :: l0, l, X, h, hv => by
    rw [weakL.eq_def] at h
    simp only at h
    split at h
    · exact h.elim
    · obtain ⟨Y, Z, q1, q2, q3⟩ := hv
      exact ⟨Y, Z, q1, weakV_rel v0 _ _ h.1 q2, weakL_rel l0 _ _ h.2 q3⟩
end

/-- slot by slot -/
def weakF (k : Nat) (m : List (Nat × Nat)) (f : Frm) : Nat → List V → Prop
  | _, [] => True
  | i, v0 :: l => weakV k m (f.get i) v0 ∧ weakF k m f (i + 1) l
theorem weakF_get {f : Frm} : ∀ {l : List V} {i : Nat}, weakF k m f i l → ∀ (j : Nat) v0, l[j]? = some v0 → weakV k m (f.get (i + j)) v0
  | [], _, _, j, v0, h => by simp at h
  | v :: l, i, h, j, v0, hj => by
    cases j with
    | zero => simp at hj; subst hj; exact h.1
    | succ j =>
      have := weakF_get (l := l) h.2 j v0 (by simpa using hj)
      rwa [Nat.add_assoc, Nat.add_comm 1 j] at this
def weakD (k : Nat) (m : List (Nat × Nat)) : List EDef → List EDef → Prop
  | l, [] => (match l with
    | [] => True
    | _ :: _ => False)
  | l, .mark r0 :: l0 => (match l with
    | .mark r :: l => guardB (isN k m r r0) (weakD k m l l0)
    | _ => False)
  | l, .call g0 a0 c0 :: l0 => (match l with
    | .call g a c :: l => guardB (Nat.beq g g0) (weakL k m a a0 ∧ (weakL k m c c0 ∧ weakD k m l l0))
    | _ => False)
theorem weakD_rel {ρ : Env} : ∀ (l0 l : List EDef) (D : List Deferred), weakD k m l l0 → DRel ρ l D → DRel (ρ.ren k m) l0 D
  | [], l, D, h, hd => by
    rw [weakD.eq_def] at h
    simp only at h
    split at h
    · exact hd
    · exact h.elim
  | .mark r0 :: l0, l, D, h, hd => by
    rw [weakD.eq_def] at h
    simp only at h
    split at h
    · obtain ⟨h1, h2⟩ := guardB_b h
      obtain ⟨x, Y, q1, q2, q3⟩ := hd
      exact ⟨x, Y, by rw [ren_get h1]; exact q1, q2, weakD_rel l0 _ _ h2 q3⟩
    · exact h.elim
  | .call g0 a0 c0 :: l0, l, D, h, hd => by
    rw [weakD.eq_def] at h
    simp only at h
    split at h
    · obtain ⟨h1, h2, h3, h4⟩ := guardB_b h
      have h1 := Nat.eq_of_beq_eq_true h1
      subst h1
      obtain ⟨A, C, Y, q1, q2, q3, q4⟩ := hd
      exact ⟨A, C, Y, q1, weakL_rel a0 _ _ h2 q2, weakL_rel c0 _ _ h3 q3, weakD_rel l0 _ _ h4 q4⟩
    · exact h.elim
theorem hOf_le' {n : Nat} (h : n ≤ 4096) : n ≤ 2 ^ hOf n := hOf_le h
theorem mkFrm_ok {n : Nat} {sl : List V} (hm : n ≤ 4096) : (mkFrm n sl).ok := ⟨hOf n, B.ofList_full _ _ _, hOf_le hm⟩
theorem mkFrm_get {n : Nat} {sl : List V} (hm : n ≤ 4096) (i : Nat) (hi : i < n) : (mkFrm n sl).get i = sl.getD i .undef := by
  rw [Frm.get_eq, blt_iff]
  have : i < (mkFrm n sl).n := hi
  rw [decide_eq_true this, cond_true]
  exact B.ofList_get _ _ _ _ (Nat.lt_of_lt_of_le hi (hOf_le hm))
theorem toV_plain {ρ ρ' : Env} (h : subφ ρ.φ ρ'.φ) : ∀ (t : Ty) (x : t.den) {X : Value}, VRel ρ (toV t x) X → VRel ρ' (toV t x) X
  | .int _, _, _, r => by simp only [toV, VRel] at r ⊢; exact r
  | .bool, _, _, r => by simp only [toV, VRel] at r ⊢; exact r
  | .str, _, _, r => by simp only [toV, VRel] at r ⊢; exact r
  | .lst e, _, _, r => by
    simp only [toV, VRel] at r ⊢
    obtain ⟨a, c, h1, h2, h3, h5, h4⟩ := r
    exact ⟨a, c, h1, h2, h3, h5, fun hp => let ⟨B, o, g1, g2⟩ := h4 hp; ⟨B, o, g1, g2.mono h fun _ _ hv => h _ _ _ hv⟩⟩
theorem MRel.plain {ρ ρ' : Env} (h : subφ ρ.φ ρ'.φ) {k t : Ty} : ∀ {M : List (k.den × t.den × Nat)} {E : List MapEntry}, MRel ρ (pmV k t M) E → MRel ρ' (pmV k t M) E
  | [], _, r => r
  | _ :: _, _, r => by
    obtain ⟨x, y, e, h1, h2, h3, h4⟩ := r
    exact ⟨x, y, e, toV_plain h _ _ h1, toV_plain h _ _ h2, h3, MRel.plain h h4⟩
def castM {k k0 t t0 : Ty} (hk : k = k0) (ht : t = t0) (M : List (k.den × t.den × Nat)) : List (k0.den × t0.den × Nat) := by subst hk; subst ht; exact M
theorem castM_self {k t : Ty} (hk : k = k) (ht : t = t) (M : List (k.den × t.den × Nat)) : castM hk ht M = M := rfl
def sameM (k k0 t t0 : Ty) (M : List (k.den × t.den × Nat)) (M0 : List (k0.den × t0.den × Nat)) : Prop :=
  if h : Ty.beq k k0 = true then (if h' : Ty.beq t t0 = true then castM (Ty.beq_eq k k0 h) (Ty.beq_eq t t0 h') M = M0 else False) else False
theorem sameM_spec {k k0 t t0 : Ty} {M : List (k.den × t.den × Nat)} {M0 : List (k0.den × t0.den × Nat)} (h : sameM k k0 t t0 M M0) : ∃ (q : k = k0) (q' : t = t0), castM q q' M = M0 := by
  unfold sameM at h
  split at h
  · split at h
    · exact ⟨_, _, h⟩
    · exact h.elim
  · exact h.elim
def weakO (k : Nat) (m : List (Nat × Nat)) (o o0 : EObj) : Prop :=
  match o0 with
  | .cells cs0 t0 ish0 => (match o with
    | .cells cs t ish => guardB (!ish || ish0) (weakL k m cs cs0)
    | _ => False)
  | .rows e0 L0 t0 ish0 => (match o with
    | .rows e L t ish => guardB (!ish || ish0) (sameLst e e0 L L0)
    | _ => False)
  | .dfr s0 => (match o with
    | .dfr s => guardB (s == s0) True
    | _ => False)
  | .loop r0 => (match o with
    | .loop r => r.state = r0.state ∧ (r.pending = r0.pending ∧ (r.params = r0.params ∧ (r.assign = r0.assign ∧ (r.body = r0.body ∧ guardB (isN k m r.defers r0.defers) (∃ n sl, r0.tmps = mkFrm n sl ∧ guardB (Nat.beq r.tmps.n n && (Nat.beq (llen sl) n && Nat.ble n 4096)) (weakF k m r.tmps 0 sl))))))
    | _ => False)
  | .map _ _ => False
  | .pm k0 t0 M0 c0 => (match o with
    | .pm k t M c => sameM k k0 t t0 M M0 ∧ c = c0
    | _ => False)
theorem weakL_length : ∀ (l0 l : List V), weakL k m l l0 → l.length = l0.length
  | [], l, h => by
    rw [weakL.eq_def] at h
    simp only at h
    split at h
    · rfl
    · exact h.elim
  | v0 :: l0, l, h => by
    rw [weakL.eq_def] at h
    simp only at h
    split at h
    · exact h.elim
    · simp [weakL_length l0 _ h.2]
theorem weakL_get : ∀ (l0 l : List V), weakL k m l l0 → ∀ (i : Nat) v0, l0[i]? = some v0 → ∃ v, l[i]? = some v ∧ weakV k m v v0
  | [], l, h, i, v0, hi => by simp at hi
  | u0 :: l0, l, h, i, v0, hi => by
    rw [weakL.eq_def] at h
    simp only at h
    split at h
    · exact h.elim
    · cases i with
      | zero => simp at hi; subst hi; exact ⟨_, rfl, h.1⟩
      | succ i =>
        obtain ⟨v, h1, h2⟩ := weakL_get l0 _ h.2 i v0 (by simpa using hi)
        exact ⟨v, by simpa using h1, h2⟩
theorem frel_weak {ρ : Env} {f f0 : Frm} {A : Array Value} (h : FRel ρ f A) (hn : f.n = f0.n) (hok : f0.ok) (hw : ∀ i, i < f0.n → weakV k m (f.get i) (f0.get i)) : FRel (ρ.ren k m) f0 A := by
  obtain ⟨h1, d, h2, h3, h4⟩ := h
  obtain ⟨d', g2, g3⟩ := hok
  refine ⟨by rw [← hn]; exact h1, d', g2, g3, fun i X hi => ?_⟩
  have hlt : i < f0.n := by rw [← hn, h1]; exact (Array.getElem?_eq_some_iff.1 hi).1
  have := hw i hlt
  rw [Frm.get_eq, Frm.get_eq, blt_iff, blt_iff, decide_eq_true (by omega), decide_eq_true hlt, cond_true, cond_true] at this
  exact weakV_rel _ _ _ this (h4 i X hi)
theorem weakO_rel {ρ : Env} {o o0 : EObj} {O S : Nat} {X : Option Obj} (h : weakO k m o o0) (ho : ORel ρ O S X o) : ORel (ρ.ren k m) O S X o0 := by
  unfold weakO at h
  split at h
  · split at h
    · obtain ⟨h1, h2⟩ := guardB_b h
      rw [Bool.or_eq_true, Bool.not_eq_true'] at h1
      obtain ⟨C, t, fr, q1, q2, q3, q4, q5, q6⟩ := ho
      refine ⟨C, t, fr, q1, q2, by rw [← weakL_length _ _ h2]; exact q3, fun i v0 hi => ?_, q5, fun hx => q6 ?_⟩
      · obtain ⟨v, g1, g2⟩ := weakL_get _ _ h2 i v0 hi
        obtain ⟨W, g3, g4⟩ := q4 i v g1
        exact ⟨W, g3, weakV_rel _ _ _ g2 g4⟩
      · rcases h1 with h1 | h1
        · exact h1
        · rw [h1] at hx; cases hx
    · exact h.elim
  · split at h
    · obtain ⟨h1, h2⟩ := guardB_b h
      rw [Bool.or_eq_true, Bool.not_eq_true'] at h1
      obtain ⟨q, rfl⟩ := sameLst_spec h2
      subst q
      obtain ⟨C, t, fr, q1, q2, q3, q4, q5, q6⟩ := ho
      refine ⟨C, t, fr, q1, q2, q3, q4, q5, fun hx => q6 ?_⟩
      rcases h1 with h1 | h1
      · exact h1
      · rw [h1] at hx; cases hx
    · exact h.elim
  · split at h
    · obtain ⟨h1, _⟩ := guardB_b h
      have h1 := eq_of_beq h1
      subst h1
      exact ho
    · exact h.elim
  · split at h
    · obtain ⟨h1, h2, h3, h4, h5, h6⟩ := h
      obtain ⟨h6, n, sl, h7, h8⟩ := guardB_b h6
      obtain ⟨h8, h9⟩ := guardB_b h8
      simp only [Bool.and_eq_true, Nat.ble_eq, Nat.beq_eq, llen_eq] at h8
      obtain ⟨hn, hlen, h4096⟩ := h8
      obtain ⟨L, D, q1, q2, q3, q4, q5, q6, q7, q8, q9⟩ := ho
      refine ⟨L, D, q1, by rw [← h1]; exact q2, by rw [← h2]; exact q3, ?_, by rw [← h3]; exact q5, by rw [← h4]; exact q6, by rw [← h5]; exact q7, by rw [ren_get h6]; exact q8, q9⟩
      rw [h7]
      refine frel_weak q4 hn (mkFrm_ok h4096) fun i hi => ?_
      have hi : i < n := hi
      have hsl : sl[i]? = some (sl.getD i .undef) := by
        rw [List.getD_eq_getElem?_getD, List.getElem?_eq_getElem (by omega)]; rfl
      have := weakF_get h9 i _ hsl
      rw [Nat.zero_add] at this
      rw [mkFrm_get h4096 i hi]
      exact this
    · exact h.elim
  · exact h.elim
  · split at h
    · obtain ⟨h1, rfl⟩ := h
      obtain ⟨q, q', rfl⟩ := sameM_spec h1
      subst q; subst q'
      obtain ⟨E, e1, e2⟩ := ho
      exact ⟨E, e1, by rw [castM_self]; exact MRel.plain (ρ := ρ) (ρ' := ρ.ren k m) (fun _ _ _ h => h) e2⟩
    · exact h.elim

/-- object by object -/
def weakH (k : Nat) (m : List (Nat × Nat)) (h1 : T EObj) : List (Nat × EObj) → Prop
  | [] => True
  | e :: l => (match renN k m e.1 with
    | none => True
    | some b1 => (match h1.get b1 with
      | some o1 => weakO k m o1 e.2
      | none => False)) ∧ weakH k m h1 l
theorem weakH_mem {h1 : T EObj} : ∀ {l : List (Nat × EObj)}, weakH k m h1 l → ∀ b o b1, (b, o) ∈ l → renN k m b = some b1 → ∃ o1, h1.get b1 = some o1 ∧ weakO k m o1 o
  | [], _, b, o, b1, h, _ => by cases h
  | e :: l, hw, b, o, b1, h, hr => by
    rcases List.mem_cons.1 h with h | h
    · subst h
      have := hw.1
      simp only [hr] at this
      split at this
      · exact ⟨_, ‹_›, this⟩
      · exact this.elim
    · exact weakH_mem hw.2 b o b1 h hr
/-- the names' map is one that serves -/
def mapOK (k next : Nat) : List (Nat × Nat) → Bool
  | [] => true
  | e :: l => (Nat.ble k e.1 && (Nat.blt e.1 next && Nat.ble k e.2)) && (l.all (fun e' => !Nat.beq e.2 e'.2) && mapOK k next l)
theorem mapOK_look {k next : Nat} : ∀ {m : List (Nat × Nat)}, mapOK k next m = true → ∀ b b1, look b m = some b1 → k ≤ b ∧ b < next ∧ k ≤ b1
  | [], _, b, b1, h => by cases h
  | e :: l, hm, b, b1, h => by
    simp only [mapOK, Bool.and_eq_true, Nat.ble_eq, Nat.blt_eq] at hm
    simp only [look] at h
    cases hb : Nat.beq e.1 b with
    | true =>
      rw [hb, cond_true] at h; cases h
      have := Nat.eq_of_beq_eq_true hb
      subst this
      exact ⟨hm.1.1, hm.1.2.1, hm.1.2.2⟩
    | false => rw [hb, cond_false] at h; exact mapOK_look hm.2.2 b b1 h
theorem look_mem : ∀ {m : List (Nat × Nat)} {b b1 : Nat}, look b m = some b1 → (b, b1) ∈ m
  | [], b, b1, h => by cases h
  | e :: l, b, b1, h => by
    simp only [look] at h
    cases hb : Nat.beq e.1 b with
    | true =>
      rw [hb, cond_true] at h; cases h
      have := Nat.eq_of_beq_eq_true hb
      subst this
      exact List.mem_cons_self
    | false => rw [hb, cond_false] at h; exact List.mem_cons_of_mem _ (look_mem h)
theorem mapOK_inj {k next : Nat} : ∀ {m : List (Nat × Nat)}, mapOK k next m = true → ∀ b b' b1, look b m = some b1 → look b' m = some b1 → b = b'
  | [], _, b, b', b1, h, _ => by cases h
  | e :: l, hm, b, b', b1, h, h' => by
    simp only [mapOK, Bool.and_eq_true, List.all_eq_true, Bool.not_eq_true'] at hm
    simp only [look] at h h'
    cases hb : Nat.beq e.1 b with
    | true =>
      rw [hb, cond_true] at h; cases h
      cases hb' : Nat.beq e.1 b' with
      | true => rw [← Nat.eq_of_beq_eq_true hb, ← Nat.eq_of_beq_eq_true hb']
      | false =>
        rw [hb', cond_false] at h'
        have := hm.2.1 _ (look_mem h')
        simp at this
    | false =>
      rw [hb, cond_false] at h
      cases hb' : Nat.beq e.1 b' with
      | true =>
        rw [hb', cond_true] at h'; cases h'
        have := hm.2.1 _ (look_mem h)
        simp at this
      | false =>
        rw [hb', cond_false] at h'
        exact mapOK_inj hm.2.2 b b' b1 h h'
theorem renN_cases {b b1 : Nat} (h : renN k m b = some b1) : (b < k ∧ b1 = b) ∨ (k ≤ b ∧ look b m = some b1) := by
  unfold renN at h
  rw [blt_iff] at h
  by_cases hb : b < k
  · rw [decide_eq_true hb, cond_true] at h; cases h; exact .inl ⟨hb, rfl⟩
  · rw [decide_eq_false hb, cond_false] at h; exact .inr ⟨by omega, h⟩

/-- a weaker description, told slot by slot and object by object; m: which name that was -/
def wkP (k : Nat) (m : List (Nat × Nat)) (c1 : Cfg) (n : Nat) (sl : List V) (ds : List EDef) (h : List (Nat × EObj)) (next : Nat) : Prop :=
  guardB (mapOK k next m && (Nat.ble k next && (Nat.beq c1.tmps.n n && (Nat.beq (llen sl) n && Nat.ble n 4096))))
    (weakF k m c1.tmps 0 sl ∧ (weakD k m c1.defers ds ∧ weakH k m c1.st.heap h))


theorem wkP_ok {c1 : Cfg} {n : Nat} {sl : List V} {ds : List EDef} {h : List (Nat × EObj)} {next : Nat} (hw : wkP k m c1 n sl ds h next) : Wk k c1 (mkCfg n sl ds h next) := by
  obtain ⟨h1, h2, h3, h4⟩ := guardB_b hw
  simp only [Bool.and_eq_true, Nat.ble_eq, Nat.beq_eq, llen_eq] at h1
  obtain ⟨hmap, hkn, hn, hlen, h4096⟩ := h1
  intro own ρ0 ρ A w hk hle hr
  have hlt : ∀ b, b < k → (ρ.ren k m) b = ρ b := fun b hb => by simp only [Env.ren, renN, blt_iff, decide_eq_true hb, cond_true]
  have hle' : ρ0.le (ρ.ren k m) := by
    refine ⟨⟨fun b x hb => ?_, hle.sub.2⟩, hk.1, fun b hb hn => ?_⟩
    · rw [hlt b (hk.2 b x hb)]; exact hle.sub.1 b x hb
    · rw [hlt b (Nat.lt_of_lt_of_le hb hk.1)]; exact hle.keep b hb hn
  refine ⟨ρ.ren k m, hle', ?_, weakD_rel _ _ _ h3 hr.d, ?_⟩
  · refine frel_weak hr.f hn (mkFrm_ok h4096) fun i hi => ?_
    have hi : i < n := hi
    have hsl : sl[i]? = some (sl.getD i .undef) := by
      rw [List.getD_eq_getElem?_getD, List.getElem?_eq_getElem (by omega)]; rfl
    have := weakF_get h2 i _ hsl
    rw [Nat.zero_add] at this
    rw [show (mkCfg n sl ds h next).tmps.get i = sl.getD i .undef from mkFrm_get h4096 i hi]
    exact this
  · have key : ∀ b o x, (heapOf h).get b = some o → (ρ.ren k m) b = some x → ∃ b1 o1, renN k m b = some b1 ∧ c1.st.heap.get b1 = some o1 ∧ ρ b1 = some x ∧ weakO k m o1 o := by
      intro b o x hb hx
      have hmem := heapOf_mem hb
      simp only [Env.ren] at hx
      cases hr1 : renN k m b with
      | none => rw [hr1] at hx; cases hx
      | some b1 =>
        rw [hr1] at hx
        obtain ⟨o1, g1, g2⟩ := weakH_mem h4 b o b1 hmem hr1
        exact ⟨b1, o1, rfl, g1, hx, g2⟩
    refine ⟨hr.s.le, ?_, ?_, ?_, hkn, hr.s.fz, hr.s.old⟩
    · intro b o x hb hx
      obtain ⟨b1, o1, g1, g2, g3, g4⟩ := key b o x hb hx
      obtain ⟨q1, q2⟩ := hr.s.obj b1 o1 x g2 g3
      exact ⟨q1, weakO_rel g4 q2⟩
    · intro b b' o o' x x' hb hb' hx hx' hne
      obtain ⟨b1, o1, g1, g2, g3, g4⟩ := key b o x hb hx
      obtain ⟨b1', o1', g1', g2', g3', g4'⟩ := key b' o' x' hb' hx'
      refine hr.s.inj b1 b1' o1 o1' x x' g2 g2' g3 g3' fun e => hne ?_
      subst e
      rcases renN_cases g1 with ⟨a1, rfl⟩ | ⟨a1, a2⟩ <;> rcases renN_cases g1' with ⟨a1', e⟩ | ⟨a1', a2'⟩
      · exact e
      · have := (mapOK_look hmap _ _ a2').2.2; omega
      · have := (mapOK_look hmap _ _ a2).2.2; omega
      · exact mapOK_inj hmap _ _ _ a2 a2'
    · intro b x hx
      simp only [Env.ren] at hx
      show b < next
      cases hr1 : renN k m b with
      | none => rw [hr1] at hx; cases hx
      | some b1 =>
        rcases renN_cases hr1 with ⟨a1, _⟩ | ⟨a1, a2⟩
        · omega
        · exact (mapOK_look hmap _ _ a2).2.1

/-! ### loops -/
/-- what a loop comes to: one of some ends -/
inductive OT where
  | leaf (e : EExit) (c : Cfg)
  | ite (b : Bool) (l r : OT)
def OT.den : OT → EExit × Cfg
  | .leaf e c => (e, c)
  | .ite b l r => bif b then l.den else r.den
def OT.w (K : KC) : OT → Prop
  | .leaf e c => forceC c fun c => K e c
  | .ite b l r => iteB b (l.w K) (r.w K)
theorem OT.w_den {K : KC} : ∀ {o : OT}, o.w K → K o.den.1 o.den.2
  | .leaf e c, h => (forceC_iff _ _).1 h
  | .ite b l r, h => by
    cases b
    · exact OT.w_den (o := r) h
    · exact OT.w_den (o := l) h
open Classical in
/-- a loop told: from here, to there -/
noncomputable def cutF (k : Nat) (c0 : Cfg) (o : OT) : Cfg → Option (EExit × Cfg) := fun c => if Wk k c c0 then some o.den else none
def cutW (k : Nat) (m : List (Nat × Nat)) (n : Nat) (sl : List V) (ds : List EDef) (h : List (Nat × EObj)) (next : Nat) (o : OT) : CW := fun c K => wkP k m c n sl ds h next ∧ o.w K
theorem cut_ad {n : Nat} {sl : List V} {ds : List EDef} {h : List (Nat × EObj)} {next : Nat} {o : OT} : AdC (cutW k m n sl ds h next o) (cutF k (mkCfg n sl ds h next) o) := by
  intro c K hk
  refine ⟨_, _, ?_, OT.w_den hk.2⟩
  unfold cutF
  rw [if_pos (wkP_ok hk.1)]
theorem cutF_ok {P : Program} {ro r : Option Nat} {n : Nat} {x : Code} {c0 : Cfg} {o : OT} (h : CodeAt P ro r n k x c0 o.den.1 o.den.2) : CodeOK P ro r n k x (cutF k c0 o) := by
  intro c e c' hq own ρ0 w0 ρ A w hk hro hle hfr hr
  unfold cutF at hq
  split at hq
  · rename_i hw
    have hq : o.den = (e, c') := Option.some.inj hq
    rw [hq] at h
    obtain ⟨ρ', g1, g2⟩ := hw own ρ0 ρ A w hk hle hr
    exact h own ρ0 w0 ρ' A w hk hro g1 hfr g2
  · cases hq

mutual
/-- a value that says nothing of memory -/
def V.flat : V → Bool
  | .undef | .bool _ | .int .. | .str _ | .nilp | .nils | .nilm | .nilf | .nili => true
  | .iface _ v => v.flat
  | .agg l => flatL l
  | .tup l => flatL l
  | .fn _ a c => flatL a && flatL c
  | _ => false
def flatL : List V → Bool
  | [] => true
  | v :: l => v.flat && flatL l
end
mutual
theorem VRel.flat {ρ ρ' : Env} : ∀ (v : V) (X : Value), v.flat = true → VRel ρ v X → VRel ρ' v X
  | .undef, X, _, h => by simpa only [VRel] using h
  | .bool _, X, _, h => by simpa only [VRel] using h
  | .int .., X, _, h => by simpa only [VRel] using h
  | .str _, X, _, h => by simpa only [VRel] using h
  | .nilp, X, _, h => by simpa only [VRel] using h
  | .nils, X, _, h => by simpa only [VRel] using h
  | .nilm, X, _, h => by simpa only [VRel] using h
  | .nilf, X, _, h => by simpa only [VRel] using h
  | .nili, X, _, h => by simpa only [VRel] using h
  | .iface t v, X, hf, h => by
    simp only [VRel] at h ⊢
    obtain ⟨Y, h1, h2⟩ := h
    exact ⟨Y, h1, VRel.flat v Y (by simpa only [V.flat] using hf) h2⟩
  | .agg l, X, hf, h => by
    simp only [VRel] at h ⊢
    obtain ⟨Y, h1, h2⟩ := h
    exact ⟨Y, h1, LRel.flat l _ (by simpa only [V.flat] using hf) h2⟩
  | .tup l, X, hf, h => by
    simp only [VRel] at h ⊢
    obtain ⟨Y, h1, h2⟩ := h
    exact ⟨Y, h1, LRel.flat l _ (by simpa only [V.flat] using hf) h2⟩
  | .fn f a c, X, hf, h => by
    simp only [VRel] at h ⊢
    simp only [V.flat, Bool.and_eq_true] at hf
    obtain ⟨A, C, h1, h2, h3⟩ := h
    exact ⟨A, C, h1, LRel.flat a _ hf.1 h2, LRel.flat c _ hf.2 h3⟩
  | .any, _, hf, _ => by simp [V.flat] at hf
  | .ptr .., _, hf, _ => by simp [V.flat] at hf
  | .rptr .., _, hf, _ => by simp [V.flat] at hf
  | .lptr .., _, hf, _ => by simp [V.flat] at hf
  | .sl .., _, hf, _ => by simp [V.flat] at hf
  | .rs .., _, hf, _ => by simp [V.flat] at hf
  | .lst .., _, hf, _ => by simp [V.flat] at hf
  | .arr .., _, hf, _ => by simp [V.flat] at hf
  | .map _, _, hf, _ => by simp [V.flat] at hf
  | .yld _, _, hf, _ => by simp [V.flat] at hf
theorem LRel.flat {ρ ρ' : Env} : ∀ (l : List V) (X : List Value), flatL l = true → LRel ρ l X → LRel ρ' l X
  | [], X, _, h => h
  | v :: l, X, hf, h => by
    simp only [flatL, Bool.and_eq_true] at hf
    obtain ⟨Y, Z, h1, h2, h3⟩ := h
    exact ⟨Y, Z, h1, VRel.flat v Y hf.1 h2, LRel.flat l Z hf.2 h3⟩
end

/-- what a round comes to: the loop goes on, lower; or it ends as it should -/
def Round {X : Type} (k : Nat) (cfg : X → Cfg) (μ : X → Nat) (out : X → EExit × Cfg) (x : X) : KC := fun e c1 => match e with
  | .normal => ∃ x', μ x' < μ x ∧ Wk k c1 (cfg x') ∧ out x' = out x
  | .exit id => (out x).1 = .exit id ∧ Wk k c1 (out x).2
  | .ret => (out x).1 = .ret ∧ Wk k c1 (out x).2
  | .pan v => (out x).1 = .pan v ∧ v.flat = true ∧ Wk k c1 (out x).2
theorem loop_at {P : Program} {ro r : Option Nat} {n : Nat} {b : Code} {X : Type} {fb : X → Cfg → Option (EExit × Cfg)} (cfg : X → Cfg) (μ : X → Nat) (out : X → EExit × Cfg) (hb : ∀ x, CodeOK P ro r n k b (fb x))
    (h : ∀ x, ∃ e c1, fb x (cfg x) = some (e, c1) ∧ Round k cfg μ out x e c1) : ∀ x, CodeAt P ro r n k (.loop b) (cfg x) (out x).1 (out x).2 := by
  intro x own ρ0 w0 ρ A w hk hro hle hfr hr
  refine wpIn_loop_rounds (μ x + 1) ?_
  have main : ∀ (N : Nat) (x : X) (ρ : Env) (A : Act) (w : World), μ x < N → ρ0.le ρ → Fr own w0 w → Rel own ρ (cfg x) A w → Code.roundsIn (RF r) n P b (CPost own ρ0 w0 (out x).1 (out x).2) N A w := by
    intro N
    induction N with
    | zero => intro x ρ A w hlt; omega
    | succ N ih =>
      intro x ρ A w hlt hle hfr hr
      rw [roundsIn_succ]
      obtain ⟨e, c1, h1, h2⟩ := h x
      refine wpIn_mono (hb x (cfg x) e c1 h1 own ρ0 w0 ρ A w hk hro hle hfr hr) ?_
      rintro E A1 w1 ⟨ρ1, g1, g2, g3, g4, g5, g6⟩
      cases e with
      | normal =>
        have g2 : E = .normal := g2
        subst g2
        obtain ⟨x', q1, q2, q3⟩ := h2
        obtain ⟨ρ2, t1, t2⟩ := q2 own ρ0 ρ1 A1 w1 hk g1 ⟨g3, g4, g5⟩
        have := ih x' ρ2 A1 w1 (by omega) t1 g6 t2
        rw [q3] at this
        exact this
      | exit id =>
        obtain ⟨q1, q2⟩ := h2
        obtain ⟨ρ2, t1, t2⟩ := q2 own ρ0 ρ1 A1 w1 hk g1 ⟨g3, g4, g5⟩
        have g2 : E = .exit id := g2
        subst g2
        exact ⟨ρ2, t1, by rw [q1]; rfl, t2.f, t2.d, t2.s, g6⟩
      | ret =>
        obtain ⟨q1, q2⟩ := h2
        obtain ⟨ρ2, t1, t2⟩ := q2 own ρ0 ρ1 A1 w1 hk g1 ⟨g3, g4, g5⟩
        have g2 : E = .ret := g2
        subst g2
        exact ⟨ρ2, t1, by rw [q1]; rfl, t2.f, t2.d, t2.s, g6⟩
      | pan v =>
        obtain ⟨q1, q3, q2⟩ := h2
        obtain ⟨ρ2, t1, t2⟩ := q2 own ρ0 ρ1 A1 w1 hk g1 ⟨g3, g4, g5⟩
        obtain ⟨X, rfl, g2⟩ := g2
        exact ⟨ρ2, t1, by rw [q1]; exact ⟨X, rfl, VRel.flat v X q3 g2⟩, t2.f, t2.d, t2.s, g6⟩
  exact main _ x ρ A w (Nat.lt_succ_self _) hle hfr hr
end
end Go.Sym
