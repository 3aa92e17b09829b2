/-
  Texts of this claim, one behind the other: SymY SymZ SymO SymP SymV SymT SymAu CdLaw CdRdL CdRrL CdPutL. Each says its own conditions.
-/
import Derived.Test.YtaloolcabmfjbaaCdrM4
import Derived.Test.YtaloolcabmfjbaaCdrM1

set_option linter.unusedVariables false
set_option linter.unusedSimpArgs false
set_option linter.unusedSectionVars false
noncomputable section
namespace Go.Sym

def Wk (k : Nat) (c1 c0 : Cfg) : Prop := ∀ (own : Own) (ρ0 ρ : Env) (A : Act) (w : World), ρ0.below k → ρ0.le ρ → Rel own ρ c1 A w → ∃ ρ', ρ0.le ρ' ∧ Rel own ρ' c0 A w
theorem Wk.refl (k : Nat) (c : Cfg) : Wk k c c := fun _ _ ρ _ _ _ h r => ⟨ρ, h, r⟩

def heapOf : List (Nat × EObj) → T EObj
 | [] => .leaf
 | e :: l => (heapOf l).set e.1 (some e.2)
theorem heapOf_mem : ∀ {l : List (Nat × EObj)} {b : Nat} {o : EObj}, (heapOf l).get b = some o → (b, o) ∈ l
 | [], b, o, h => by rw [heapOf, T.get_leaf] at h; cases h
 | e :: l, b, o, h => by
  rw [heapOf, T.get_set] at h
  split at h
  ·rename_i hb; cases h; subst hb; exact List.mem_cons_self
  ·exact List.mem_cons_of_mem _ (heapOf_mem h)
def mkCfg (n : Nat) (sl : List V) (ds : List EDef) (h : List (Nat × EObj)) (next : Nat) : Cfg := ⟨mkFrm n sl, ds, ⟨heapOf h, next⟩⟩

section
variable (k : Nat) (m : List (Nat × Nat))
def look (b : Nat) : List (Nat × Nat) → Option Nat
 | [] => none
 | e :: l => bif Nat.beq e.1 b then some e.2 else look b l
def renN (b : Nat) : Option Nat := bif Nat.blt b k then some b else look b m
def isN (b b0 : Nat) : Bool := match renN k m b0 with
 | some b1 => Nat.beq b b1
 | none => false
def isGone (b0 : Nat) : Bool := match renN k m b0 with
 | some _ => false
 | none => true
def sameLst (e e0 : List Ty) (L : List (rowDen e)) (L0 : List (rowDen e0)) : Prop := match asL e0 e L with
 | some L' => L' = L0
 | none => False
def capW (x0 : Bool) (len0 cap0 cap : Nat) : Prop := match x0 with
 | true => cap = cap0
 | false => len0 ≤ cap0 ∧ cap0 ≤ cap
mutual
def weakV : V → V → Prop
 | v, .any => True
 | v, .undef => (match v with
   | .undef => True
   | _ => False)
 | v, .bool b => (match v with
   | .bool a => a = b
   | _ => False)
 | v, .int k0 b => (match v with
   | .int k a => guardB (kEq k k0) (a = b)
   | _ => False)
 | v, .str b => (match v with
   | .str a => a = b
   | _ => False)
 | v, .nilp => (match v with
   | .nilp => True
   | _ => False)
 | v, .nils => (match v with
   | .nils => True
   | _ => False)
 | v, .nilm => (match v with
   | .nilm => True
   | _ => False)
 | v, .nilf => (match v with
   | .nilf => True
   | _ => False)
 | v, .nili => (match v with
   | .nili => True
   | _ => False)
 | v, .ptr b0 o0 => (match v with
   | .ptr b o => guardB (isN k m b b0 && Nat.beq o o0) True
   | _ => False)
 | v, .rptr b0 i0 j0 es0 => (match v with
   | .rptr b i j es => guardB (isN k m b b0 && (Nat.beq j j0 && Nat.beq es es0)) (i = i0)
   | _ => False)
 | v, .lptr e0 L0 i0 j0 => (match v with
   | .lptr e L i j => sameLst e e0 L L0 ∧ (i = i0 ∧ j = j0)
   | _ => False)
 | v, .sl b0 o0 len0 cap0 x0 es0 => (match v with
   | .sl b o len cap x es => guardB (isN k m b b0 && (Nat.beq o o0 && (Nat.beq len len0 && (Nat.beq cap cap0 && ((x == x0) && Nat.beq es es0))))) True
   | _ => False)
 | v, .rs b0 lo0 len0 cap0 x0 es0 => (match v with
   | .rs b lo len cap x es => guardB (isN k m b b0 && (Nat.beq es es0 && (!x0 || x))) (lo = lo0 ∧ (len = len0 ∧ capW x0 len0 cap0 cap))
   | .nils => guardB (isGone k m b0) (len0 = 0 ∧ cap0 = 0)
   | _ => False)
 | v, .lst e0 L0 cl0 => (match v with
   | .lst e L cl => guardB (!cl0 || cl) (sameLst e e0 L L0)
   | .nils => L0 = []
   | _ => False)
 | v, .arr e0 L0 => (match v with
   | .arr e L => sameLst e e0 L L0
   | _ => False)
 | v, .map b0 => (match v with
   | .map b => guardB (isN k m b b0) True
   | _ => False)
 | v, .fn f0 a0 c0 => (match v with
   | .fn f a c => guardB (Nat.beq f f0) (weakL a a0 ∧ weakL c c0)
   | _ => False)
 | v, .yld l0 => (match v with
   | .yld l => guardB (isN k m l l0) True
   | _ => False)
 | v, .iface t0 v0 => (match v with
   | .iface t v => guardB (Nat.beq t t0) (weakV v v0)
   | _ => False)
 | v, .agg l0 => (match v with
   | .agg l => weakL l l0
   | _ => False)
 | v, .tup l0 => (match v with
   | .tup l => weakL l l0
   | _ => False)
def weakL : List V → List V → Prop
 | l, [] => (match l with
   | [] => True
   | _ :: _ => False)
 | l, v0 :: l0 => (match l with
   | [] => False
   | v :: l => weakV v v0 ∧ weakL l l0)
end
end

section
variable {k : Nat} {m : List (Nat × Nat)}
def Env.ren (ρ : Env) (k : Nat) (m : List (Nat × Nat)) : Env := ⟨fun b => match renN k m b with
  | some b1 => ρ b1
  | none => none, k, ρ.φ⟩
theorem isN_spec {b b0 : Nat} (h : isN k m b b0 = true) : renN k m b0 = some b := by
 unfold isN at h
 split at h
 ·rename_i b1 hb; rw [hb, Nat.eq_of_beq_eq_true h]
 ·cases h
theorem ren_get {ρ : Env} {b b0 : Nat} (h : isN k m b b0 = true) : ρ.ren k m b0 = ρ b := by
 simp only [Env.ren, isN_spec h]
theorem sameLst_spec {e e0 : List Ty} {L : List (rowDen e)} {L0 : List (rowDen e0)} (h : sameLst e e0 L L0) : ∃ q : e = e0, L0 = castL q L := by
 unfold sameLst at h
 split at h
 ·rename_i L' hL
  obtain ⟨q, rfl⟩ := asL_some hL
  exact ⟨q, h.symm⟩
 ·exact h.elim

mutual
theorem weakV_rel {ρ : Env} : ∀ (v0 v : V) (X : Value), weakV k m v v0 → VRel ρ v X → VRel (ρ.ren k m) v0 X
 | .any, v, X, h, hv => by simp only [VRel]
 | .undef, v, X, h, hv => by
  rw [weakV.eq_def] at h
  simp only at h
  split at h
  ·simpa only [VRel] using hv
  ·exact h.elim
 | .bool b, v, X, h, hv => by
  rw [weakV.eq_def] at h
  simp only at h
  split at h
  ·subst h; simpa only [VRel] using hv
  ·exact h.elim
 | .int k0 b, v, X, h, hv => by
  rw [weakV.eq_def] at h
  simp only at h
  split at h
  ·obtain ⟨h1, rfl⟩ := guardB_b h
   rw [kEq_iff] at h1
   have h1 := of_decide_eq_true h1
   subst h1
   simpa only [VRel] using hv
  ·exact h.elim
 | .str b, v, X, h, hv => by
  rw [weakV.eq_def] at h
  simp only at h
  split at h
  ·subst h; simpa only [VRel] using hv
  ·exact h.elim
 | .nilp, v, X, h, hv => by
  rw [weakV.eq_def] at h
  simp only at h
  split at h
  ·simpa only [VRel] using hv
  ·exact h.elim
 | .nils, v, X, h, hv => by
  rw [weakV.eq_def] at h
  simp only at h
  split at h
  ·simpa only [VRel] using hv
  ·exact h.elim
 | .nilm, v, X, h, hv => by
  rw [weakV.eq_def] at h
  simp only at h
  split at h
  ·simpa only [VRel] using hv
  ·exact h.elim
 | .nilf, v, X, h, hv => by
  rw [weakV.eq_def] at h
  simp only at h
  split at h
  ·simpa only [VRel] using hv
  ·exact h.elim
 | .nili, v, X, h, hv => by
  rw [weakV.eq_def] at h
  simp only at h
  split at h
  ·simpa only [VRel] using hv
  ·exact h.elim
 | .ptr b0 o0, v, X, h, hv => by
  rw [weakV.eq_def] at h
  simp only at h
  split at h
  ·obtain ⟨h1, _⟩ := guardB_b h
   rw [Bool.and_eq_true] at h1
   have h2 := Nat.eq_of_beq_eq_true h1.2
   subst h2
   simp only [VRel] at hv ⊢
   rw [ren_get h1.1]; exact hv
  ·exact h.elim
 | .rptr b0 i0 j0 es0, v, X, h, hv => by
  rw [weakV.eq_def] at h
  simp only at h
  split at h
  ·obtain ⟨h1, rfl⟩ := guardB_b h
   simp only [Bool.and_eq_true] at h1
   have h2 := Nat.eq_of_beq_eq_true h1.2.1
   have h3 := Nat.eq_of_beq_eq_true h1.2.2
   subst h2; subst h3
   simp only [VRel] at hv ⊢
   rw [ren_get h1.1]; exact hv
  ·exact h.elim
 | .lptr e0 L0 i0 j0, v, X, h, hv => by
  rw [weakV.eq_def] at h
  simp only at h
  split at h
  ·obtain ⟨h1, rfl, rfl⟩ := h
   obtain ⟨q, rfl⟩ := sameLst_spec h1
   subst q
   simp only [VRel] at hv ⊢
   exact hv
  ·exact h.elim
 | .sl b0 o0 len0 cap0 x0 es0, v, X, h, hv => by
  rw [weakV.eq_def] at h
  simp only at h
  split at h
  ·obtain ⟨h1, _⟩ := guardB_b h
   simp only [Bool.and_eq_true] at h1
   obtain ⟨g1, g2, g3, g4, g5, g6⟩ := h1
   have g2 := Nat.eq_of_beq_eq_true g2
   have g3 := Nat.eq_of_beq_eq_true g3
   have g4 := Nat.eq_of_beq_eq_true g4
   have g5 := eq_of_beq g5
   have g6 := Nat.eq_of_beq_eq_true g6
   subst g2; subst g3; subst g4; subst g5; subst g6
   simp only [VRel] at hv ⊢
   rw [ren_get g1]; exact hv
  ·exact h.elim
 | .rs b0 lo0 len0 cap0 x0 es0, v, X, h, hv => by
  rw [weakV.eq_def] at h
  simp only at h
  split at h
  ·obtain ⟨h1, rfl, rfl, hcap⟩ := guardB_b h
   simp only [Bool.and_eq_true, Bool.or_eq_true, Bool.not_eq_true'] at h1
   obtain ⟨g1, g2, g3⟩ := h1
   have g2 := Nat.eq_of_beq_eq_true g2
   subst g2
   simp only [VRel] at hv ⊢
   rw [ren_get g1]
   obtain ⟨a, c, q1, q2, q3, q4, q5⟩ := hv
   cases x0 with
   | true =>
    have hcap : _ = _ := hcap
    subst hcap
    refine ⟨a, c, q1, q2, q3, fun hx => q4 ?_, q5⟩
    rcases g3 with g3 | g3
    ·cases g3
    ·exact g3
   | false =>
    obtain ⟨c1, c2⟩ : _ ≤ _ ∧ _ ≤ _ := hcap
    exact ⟨a, c, q1, c1, by omega, fun hx => (by cases hx), q5⟩
  ·obtain ⟨h1, rfl, rfl⟩ := guardB_b h
   simp only [VRel] at hv ⊢
   exact ⟨none, 0, hv, Nat.le_refl _, Nat.le_refl _, fun _ => rfl, fun _ => rfl, fun hp => absurd hp (Nat.lt_irrefl _)⟩
  ·exact h.elim
 | .lst e0 L0 cl0, v, X, h, hv => by
  rw [weakV.eq_def] at h
  simp only at h
  split at h
  ·obtain ⟨h1, h2⟩ := guardB_b h
   obtain ⟨q, rfl⟩ := sameLst_spec h2
   subst q
   simp only [VRel] at hv ⊢
   obtain ⟨a, c, q1, q2, q3, q4⟩ := hv
   refine ⟨a, c, q1, q2, fun hx => q3 ?_, q4⟩
   rw [Bool.or_eq_true, Bool.not_eq_true'] at h1
   rcases h1 with h1 | h1
   ·rw [h1] at hx; cases hx
   ·exact h1
  ·subst h
   simp only [VRel] at hv ⊢
   exact ⟨none, 0, hv, Nat.le_refl _, fun _ => rfl, fun _ => rfl, fun hp => absurd hp (Nat.lt_irrefl _)⟩
  ·exact h.elim
 | .arr e0 L0, v, X, h, hv => by
  rw [weakV.eq_def] at h
  simp only at h
  split at h
  ·obtain ⟨q, rfl⟩ := sameLst_spec h
   subst q
   simp only [VRel] at hv ⊢
   exact hv
  ·exact h.elim
 | .map b0, v, X, h, hv => by
  rw [weakV.eq_def] at h
  simp only at h
  split at h
  ·obtain ⟨h1, _⟩ := guardB_b h
   simp only [VRel] at hv ⊢
   rw [ren_get h1]; exact hv
  ·exact h.elim
 | .fn f0 a0 c0, v, X, h, hv => by
  rw [weakV.eq_def] at h
  simp only at h
  split at h
  ·obtain ⟨h1, h2, h3⟩ := guardB_b h
   have h1 := Nat.eq_of_beq_eq_true h1
   subst h1
   simp only [VRel] at hv ⊢
   obtain ⟨A, C, q1, q2, q3⟩ := hv
   exact ⟨A, C, q1, weakL_rel a0 _ _ h2 q2, weakL_rel c0 _ _ h3 q3⟩
  ·exact h.elim
 | .yld l0, v, X, h, hv => by
  rw [weakV.eq_def] at h
  simp only at h
  split at h
  ·obtain ⟨h1, _⟩ := guardB_b h
   simp only [VRel] at hv ⊢
   rw [ren_get h1]; exact hv
  ·exact h.elim
 | .iface t0 v0, v, X, h, hv => by
  rw [weakV.eq_def] at h
  simp only at h
  split at h
  ·obtain ⟨h1, h2⟩ := guardB_b h
   have h1 := Nat.eq_of_beq_eq_true h1
   subst h1
   simp only [VRel] at hv ⊢
   obtain ⟨Y, q1, q2⟩ := hv
   exact ⟨Y, q1, weakV_rel v0 _ _ h2 q2⟩
  ·exact h.elim
 | .agg l0, v, X, h, hv => by
  rw [weakV.eq_def] at h
  simp only at h
  split at h
  ·simp only [VRel] at hv ⊢
   obtain ⟨A, q1, q2⟩ := hv
   exact ⟨A, q1, weakL_rel l0 _ _ h q2⟩
  ·exact h.elim
 | .tup l0, v, X, h, hv => by
  rw [weakV.eq_def] at h
  simp only at h
  split at h
  ·simp only [VRel] at hv ⊢
   obtain ⟨A, q1, q2⟩ := hv
   exact ⟨A, q1, weakL_rel l0 _ _ h q2⟩
  ·exact h.elim
theorem weakL_rel {ρ : Env} : ∀ (l0 l : List V) (X : List Value), weakL k m l l0 → LRel ρ l X → LRel (ρ.ren k m) l0 X
 | [], l, X, h, hv => by
  rw [weakL.eq_def] at h
  simp only at h
  split at h
  ·exact hv
  ·exact h.elim
 | v0 :: l0, l, X, h, hv => by
  rw [weakL.eq_def] at h
  simp only at h
  split at h
  ·exact h.elim
  ·obtain ⟨Y, Z, q1, q2, q3⟩ := hv
   exact ⟨Y, Z, q1, weakV_rel v0 _ _ h.1 q2, weakL_rel l0 _ _ h.2 q3⟩
end

def weakF (k : Nat) (m : List (Nat × Nat)) (f : Frm) : Nat → List V → Prop
 | _, [] => True
 | i, v0 :: l => weakV k m (f.get i) v0 ∧ weakF k m f (i + 1) l
theorem weakF_get {f : Frm} : ∀ {l : List V} {i : Nat}, weakF k m f i l → ∀ (j : Nat) v0, l[j]? = some v0 → weakV k m (f.get (i + j)) v0
 | [], _, _, j, v0, h => by simp at h
 | v :: l, i, h, j, v0, hj => by
  cases j with
  | zero => simp at hj; subst hj; exact h.1
  | succ j =>
   have := weakF_get (l := l) h.2 j v0 (by simpa using hj)
   rwa [Nat.add_assoc, Nat.add_comm 1 j] at this
def weakD (k : Nat) (m : List (Nat × Nat)) : List EDef → List EDef → Prop
 | l, [] => (match l with
   | [] => True
   | _ :: _ => False)
 | l, .mark r0 :: l0 => (match l with
   | .mark r :: l => guardB (isN k m r r0) (weakD k m l l0)
   | _ => False)
 | l, .call g0 a0 c0 :: l0 => (match l with
   | .call g a c :: l => guardB (Nat.beq g g0) (weakL k m a a0 ∧ (weakL k m c c0 ∧ weakD k m l l0))
   | _ => False)
theorem weakD_rel {ρ : Env} : ∀ (l0 l : List EDef) (D : List Deferred), weakD k m l l0 → DRel ρ l D → DRel (ρ.ren k m) l0 D
 | [], l, D, h, hd => by
  rw [weakD.eq_def] at h
  simp only at h
  split at h
  ·exact hd
  ·exact h.elim
 | .mark r0 :: l0, l, D, h, hd => by
  rw [weakD.eq_def] at h
  simp only at h
  split at h
  ·obtain ⟨h1, h2⟩ := guardB_b h
   obtain ⟨x, Y, q1, q2, q3⟩ := hd
   exact ⟨x, Y, by rw [ren_get h1]; exact q1, q2, weakD_rel l0 _ _ h2 q3⟩
  ·exact h.elim
 | .call g0 a0 c0 :: l0, l, D, h, hd => by
  rw [weakD.eq_def] at h
  simp only at h
  split at h
  ·obtain ⟨h1, h2, h3, h4⟩ := guardB_b h
   have h1 := Nat.eq_of_beq_eq_true h1
   subst h1
   obtain ⟨A, C, Y, q1, q2, q3, q4⟩ := hd
   exact ⟨A, C, Y, q1, weakL_rel a0 _ _ h2 q2, weakL_rel c0 _ _ h3 q3, weakD_rel l0 _ _ h4 q4⟩
  ·exact h.elim
theorem mkFrm_ok {n : Nat} {sl : List V} (hm : n ≤ 4096) : (mkFrm n sl).ok := ⟨hOf n, B.ofList_full _ _ _, hOf_le hm⟩
theorem mkFrm_get {n : Nat} {sl : List V} (hm : n ≤ 4096) (i : Nat) (hi : i < n) : (mkFrm n sl).get i = sl.getD i .undef := by
 rw [Frm.get_eq, blt_iff]
 have : i < (mkFrm n sl).n := hi
 rw [decide_eq_true this, cond_true]
 exact B.ofList_get _ _ _ _ (Nat.lt_of_lt_of_le hi (hOf_le hm))
theorem toV_plain {ρ ρ' : Env} (h : subφ ρ.φ ρ'.φ) : ∀ (t : Ty) (x : t.den) {X : Value}, VRel ρ (toV t x) X → VRel ρ' (toV t x) X
 | .int _, _, _, r => by simp only [toV, VRel] at r ⊢; exact r
 | .bool, _, _, r => by simp only [toV, VRel] at r ⊢; exact r
 | .str, _, _, r => by simp only [toV, VRel] at r ⊢; exact r
 | .lst e, _, _, r => by
  simp only [toV, VRel] at r ⊢
  obtain ⟨a, c, h1, h2, h3, h5, h4⟩ := r
  exact ⟨a, c, h1, h2, h3, h5, fun hp => let ⟨B, o, g1, g2⟩ := h4 hp; ⟨B, o, g1, g2.mono h fun _ _ hv => h _ _ _ hv⟩⟩
theorem MRel.plain {ρ ρ' : Env} (h : subφ ρ.φ ρ'.φ) {k t : Ty} : ∀ {M : List (k.den × t.den × Nat)} {E : List MapEntry}, MRel ρ (pmV k t M) E → MRel ρ' (pmV k t M) E
 | [], _, r => r
 | _ :: _, _, r => by
  obtain ⟨x, y, e, h1, h2, h3, h4⟩ := r
  exact ⟨x, y, e, toV_plain h _ _ h1, toV_plain h _ _ h2, h3, MRel.plain h h4⟩
def castM {k k0 t t0 : Ty} (hk : k = k0) (ht : t = t0) (M : List (k.den × t.den × Nat)) : List (k0.den × t0.den × Nat) := by subst hk; subst ht; exact M
theorem castM_self {k t : Ty} (hk : k = k) (ht : t = t) (M : List (k.den × t.den × Nat)) : castM hk ht M = M := rfl
def sameM (k k0 t t0 : Ty) (M : List (k.den × t.den × Nat)) (M0 : List (k0.den × t0.den × Nat)) : Prop :=
 if h : Ty.beq k k0 = true then (if h' : Ty.beq t t0 = true then castM (Ty.beq_eq k k0 h) (Ty.beq_eq t t0 h') M = M0 else False) else False
theorem sameM_spec {k k0 t t0 : Ty} {M : List (k.den × t.den × Nat)} {M0 : List (k0.den × t0.den × Nat)} (h : sameM k k0 t t0 M M0) : ∃ (q : k = k0) (q' : t = t0), castM q q' M = M0 := by
 unfold sameM at h
 split at h
 ·split at h
  ·exact ⟨_, _, h⟩
  ·exact h.elim
 ·exact h.elim
def weakO (k : Nat) (m : List (Nat × Nat)) (o o0 : EObj) : Prop :=
 match o0 with
 | .cells cs0 t0 ish0 => (match o with
   | .cells cs t ish => guardB (!ish || ish0) (weakL k m cs cs0)
   | _ => False)
 | .rows e0 L0 t0 ish0 => (match o with
   | .rows e L t ish => guardB (!ish || ish0) (sameLst e e0 L L0)
   | _ => False)
 | .dfr s0 => (match o with
   | .dfr s => guardB (s == s0) True
   | _ => False)
 | .loop r0 => (match o with
   | .loop r => r.state = r0.state ∧ (r.pending = r0.pending ∧ (r.params = r0.params ∧ (r.assign = r0.assign ∧ (r.body = r0.body ∧ guardB (isN k m r.defers r0.defers) (∃ n sl, r0.tmps = mkFrm n sl ∧ guardB (Nat.beq r.tmps.n n && (Nat.beq (llen sl) n && Nat.ble n 4096)) (weakF k m r.tmps 0 sl))))))
   | _ => False)
 | .map _ _ => False
 | .pm k0 t0 M0 c0 => (match o with
   | .pm k t M c => sameM k k0 t t0 M M0 ∧ c = c0
   | _ => False)
 | .mit m0 a0 s0 c0 => (match o with
   | .mit m1 a s c => guardB (isN k m m1 m0) (a = a0 ∧ (s = s0 ∧ c = c0))
   | _ => False)
theorem weakL_length : ∀ (l0 l : List V), weakL k m l l0 → l.length = l0.length
 | [], l, h => by
  rw [weakL.eq_def] at h
  simp only at h
  split at h
  ·rfl
  ·exact h.elim
 | v0 :: l0, l, h => by
  rw [weakL.eq_def] at h
  simp only at h
  split at h
  ·exact h.elim
  ·simp [weakL_length l0 _ h.2]
theorem weakL_get : ∀ (l0 l : List V), weakL k m l l0 → ∀ (i : Nat) v0, l0[i]? = some v0 → ∃ v, l[i]? = some v ∧ weakV k m v v0
 | [], l, h, i, v0, hi => by simp at hi
 | u0 :: l0, l, h, i, v0, hi => by
  rw [weakL.eq_def] at h
  simp only at h
  split at h
  ·exact h.elim
  ·cases i with
   | zero => simp at hi; subst hi; exact ⟨_, rfl, h.1⟩
   | succ i =>
    obtain ⟨v, h1, h2⟩ := weakL_get l0 _ h.2 i v0 (by simpa using hi)
    exact ⟨v, by simpa using h1, h2⟩
theorem frel_weak {ρ : Env} {f f0 : Frm} {A : Array Value} (h : FRel ρ f A) (hn : f.n = f0.n) (hok : f0.ok) (hw : ∀ i, i < f0.n → weakV k m (f.get i) (f0.get i)) : FRel (ρ.ren k m) f0 A := by
 obtain ⟨h1, d, h2, h3, h4⟩ := h
 obtain ⟨d', g2, g3⟩ := hok
 refine ⟨by rw [← hn]; exact h1, d', g2, g3, fun i X hi => ?_⟩
 have hlt : i < f0.n := by rw [← hn, h1]; exact (Array.getElem?_eq_some_iff.1 hi).1
 have := hw i hlt
 rw [Frm.get_eq, Frm.get_eq, blt_iff, blt_iff, decide_eq_true (by omega), decide_eq_true hlt, cond_true, cond_true] at this
 exact weakV_rel _ _ _ this (h4 i X hi)
theorem weakO_rel {ρ : Env} {o o0 : EObj} {O S : Nat} {X : Option Obj} (h : weakO k m o o0) (ho : ORel ρ O S X o) : ORel (ρ.ren k m) O S X o0 := by
 unfold weakO at h
 split at h
 ·split at h
  ·obtain ⟨h1, h2⟩ := guardB_b h
   rw [Bool.or_eq_true, Bool.not_eq_true'] at h1
   obtain ⟨C, t, fr, q1, q2, q3, q4, q5, q6⟩ := ho
   refine ⟨C, t, fr, q1, q2, by rw [← weakL_length _ _ h2]; exact q3, fun i v0 hi => ?_, q5, fun hx => q6 ?_⟩
   ·obtain ⟨v, g1, g2⟩ := weakL_get _ _ h2 i v0 hi
    obtain ⟨W, g3, g4⟩ := q4 i v g1
    exact ⟨W, g3, weakV_rel _ _ _ g2 g4⟩
   ·rcases h1 with h1 | h1
    ·exact h1
    ·rw [h1] at hx; cases hx
  ·exact h.elim
 ·split at h
  ·obtain ⟨h1, h2⟩ := guardB_b h
   rw [Bool.or_eq_true, Bool.not_eq_true'] at h1
   obtain ⟨q, rfl⟩ := sameLst_spec h2
   subst q
   obtain ⟨C, t, fr, q1, q2, q3, q4, q5, q6⟩ := ho
   refine ⟨C, t, fr, q1, q2, q3, q4, q5, fun hx => q6 ?_⟩
   rcases h1 with h1 | h1
   ·exact h1
   ·rw [h1] at hx; cases hx
  ·exact h.elim
 ·split at h
  ·obtain ⟨h1, _⟩ := guardB_b h
   have h1 := eq_of_beq h1
   subst h1
   exact ho
  ·exact h.elim
 ·split at h
  ·obtain ⟨h1, h2, h3, h4, h5, h6⟩ := h
   obtain ⟨h6, n, sl, h7, h8⟩ := guardB_b h6
   obtain ⟨h8, h9⟩ := guardB_b h8
   simp only [Bool.and_eq_true, Nat.ble_eq, Nat.beq_eq, llen_eq] at h8
   obtain ⟨hn, hlen, h4096⟩ := h8
   obtain ⟨L, D, q1, q2, q3, q4, q5, q6, q7, q8, q9⟩ := ho
   refine ⟨L, D, q1, by rw [← h1]; exact q2, by rw [← h2]; exact q3, ?_, by rw [← h3]; exact q5, by rw [← h4]; exact q6, by rw [← h5]; exact q7, by rw [ren_get h6]; exact q8, q9⟩
   rw [h7]
   refine frel_weak q4 hn (mkFrm_ok h4096) fun i hi => ?_
   have hi : i < n := hi
   have hsl : sl[i]? = some (sl.getD i .undef) := by
    rw [List.getD_eq_getElem?_getD, List.getElem?_eq_getElem (by omega)]; rfl
   have := weakF_get h9 i _ hsl
   rw [Nat.zero_add] at this
   rw [mkFrm_get h4096 i hi]
   exact this
  ·exact h.elim
 ·exact h.elim
 ·split at h
  ·obtain ⟨h1, rfl⟩ := h
   obtain ⟨q, q', rfl⟩ := sameM_spec h1
   subst q; subst q'
   obtain ⟨E, e1, e2⟩ := ho
   exact ⟨E, e1, by rw [castM_self]; exact MRel.plain (ρ := ρ) (ρ' := ρ.ren k m) (fun _ _ _ h => h) e2⟩
  ·exact h.elim
 ·split at h
  ·obtain ⟨h1, rfl, rfl, rfl⟩ := guardB_b h
   obtain ⟨h0, y, e1, e2⟩ := ho
   exact ⟨h0, y, by rw [ren_get h1]; exact e1, e2⟩
  ·exact h.elim

def weakH (k : Nat) (m : List (Nat × Nat)) (h1 : T EObj) : List (Nat × EObj) → Prop
 | [] => True
 | e :: l => (match renN k m e.1 with
   | none => True
   | some b1 => (match h1.get b1 with
     | some o1 => weakO k m o1 e.2
     | none => False)) ∧ weakH k m h1 l
theorem weakH_mem {h1 : T EObj} : ∀ {l : List (Nat × EObj)}, weakH k m h1 l → ∀ b o b1, (b, o) ∈ l → renN k m b = some b1 → ∃ o1, h1.get b1 = some o1 ∧ weakO k m o1 o
 | [], _, b, o, b1, h, _ => by cases h
 | e :: l, hw, b, o, b1, h, hr => by
  rcases List.mem_cons.1 h with h | h
  ·subst h
   have := hw.1
   simp only [hr] at this
   split at this
   ·exact ⟨_, ‹_›, this⟩
   ·exact this.elim
  ·exact weakH_mem hw.2 b o b1 h hr
def mapOK (k next : Nat) : List (Nat × Nat) → Bool
 | [] => true
 | e :: l => (Nat.ble k e.1 && (Nat.blt e.1 next && Nat.ble k e.2)) && (l.all (fun e' => !Nat.beq e.2 e'.2) && mapOK k next l)
theorem mapOK_look {k next : Nat} : ∀ {m : List (Nat × Nat)}, mapOK k next m = true → ∀ b b1, look b m = some b1 → k ≤ b ∧ b < next ∧ k ≤ b1
 | [], _, b, b1, h => by cases h
 | e :: l, hm, b, b1, h => by
  simp only [mapOK, Bool.and_eq_true, Nat.ble_eq, Nat.blt_eq] at hm
  simp only [look] at h
  cases hb : Nat.beq e.1 b with
  | true =>
   rw [hb, cond_true] at h; cases h
   have := Nat.eq_of_beq_eq_true hb
   subst this
   exact ⟨hm.1.1, hm.1.2.1, hm.1.2.2⟩
  | false => rw [hb, cond_false] at h; exact mapOK_look hm.2.2 b b1 h
theorem look_mem : ∀ {m : List (Nat × Nat)} {b b1 : Nat}, look b m = some b1 → (b, b1) ∈ m
 | [], b, b1, h => by cases h
 | e :: l, b, b1, h => by
  simp only [look] at h
  cases hb : Nat.beq e.1 b with
  | true =>
   rw [hb, cond_true] at h; cases h
   have := Nat.eq_of_beq_eq_true hb
   subst this
   exact List.mem_cons_self
  | false => rw [hb, cond_false] at h; exact List.mem_cons_of_mem _ (look_mem h)
theorem mapOK_inj {k next : Nat} : ∀ {m : List (Nat × Nat)}, mapOK k next m = true → ∀ b b' b1, look b m = some b1 → look b' m = some b1 → b = b'
 | [], _, b, b', b1, h, _ => by cases h
 | e :: l, hm, b, b', b1, h, h' => by
  simp only [mapOK, Bool.and_eq_true, List.all_eq_true, Bool.not_eq_true'] at hm
  simp only [look] at h h'
  cases hb : Nat.beq e.1 b with
  | true =>
   rw [hb, cond_true] at h; cases h
   cases hb' : Nat.beq e.1 b' with
   | true => rw [← Nat.eq_of_beq_eq_true hb, ← Nat.eq_of_beq_eq_true hb']
   | false =>
    rw [hb', cond_false] at h'
    have := hm.2.1 _ (look_mem h')
    simp at this
  | false =>
   rw [hb, cond_false] at h
   cases hb' : Nat.beq e.1 b' with
   | true =>
    rw [hb', cond_true] at h'; cases h'
    have := hm.2.1 _ (look_mem h)
    simp at this
   | false =>
    rw [hb', cond_false] at h'
    exact mapOK_inj hm.2.2 b b' b1 h h'
theorem renN_cases {b b1 : Nat} (h : renN k m b = some b1) : (b < k ∧ b1 = b) ∨ (k ≤ b ∧ look b m = some b1) := by
 unfold renN at h
 rw [blt_iff] at h
 by_cases hb : b < k
 ·rw [decide_eq_true hb, cond_true] at h; cases h; exact .inl ⟨hb, rfl⟩
 ·rw [decide_eq_false hb, cond_false] at h; exact .inr ⟨by omega, h⟩

def wkP (k : Nat) (m : List (Nat × Nat)) (c1 : Cfg) (n : Nat) (sl : List V) (ds : List EDef) (h : List (Nat × EObj)) (next : Nat) : Prop :=
 guardB (mapOK k next m && (Nat.ble k next && (Nat.beq c1.tmps.n n && (Nat.beq (llen sl) n && Nat.ble n 4096))))
  (weakF k m c1.tmps 0 sl ∧ (weakD k m c1.defers ds ∧ weakH k m c1.st.heap h))


theorem wkP_ok {c1 : Cfg} {n : Nat} {sl : List V} {ds : List EDef} {h : List (Nat × EObj)} {next : Nat} (hw : wkP k m c1 n sl ds h next) : Wk k c1 (mkCfg n sl ds h next) := by
 obtain ⟨h1, h2, h3, h4⟩ := guardB_b hw
 simp only [Bool.and_eq_true, Nat.ble_eq, Nat.beq_eq, llen_eq] at h1
 obtain ⟨hmap, hkn, hn, hlen, h4096⟩ := h1
 intro own ρ0 ρ A w hk hle hr
 have hlt : ∀ b, b < k → (ρ.ren k m) b = ρ b := fun b hb => by simp only [Env.ren, renN, blt_iff, decide_eq_true hb, cond_true]
 have hle' : ρ0.le (ρ.ren k m) := by
  refine ⟨⟨fun b x hb => ?_, hle.sub.2⟩, hk.1, fun b hb hn => ?_⟩
  ·rw [hlt b (hk.2 b x hb)]; exact hle.sub.1 b x hb
  ·rw [hlt b (Nat.lt_of_lt_of_le hb hk.1)]; exact hle.keep b hb hn
 refine ⟨ρ.ren k m, hle', ?_, weakD_rel _ _ _ h3 hr.d, ?_⟩
 ·refine frel_weak hr.f hn (mkFrm_ok h4096) fun i hi => ?_
  have hi : i < n := hi
  have hsl : sl[i]? = some (sl.getD i .undef) := by
   rw [List.getD_eq_getElem?_getD, List.getElem?_eq_getElem (by omega)]; rfl
  have := weakF_get h2 i _ hsl
  rw [Nat.zero_add] at this
  rw [show (mkCfg n sl ds h next).tmps.get i = sl.getD i .undef from mkFrm_get h4096 i hi]
  exact this
 ·have key : ∀ b o x, (heapOf h).get b = some o → (ρ.ren k m) b = some x → ∃ b1 o1, renN k m b = some b1 ∧ c1.st.heap.get b1 = some o1 ∧ ρ b1 = some x ∧ weakO k m o1 o := by
   intro b o x hb hx
   have hmem := heapOf_mem hb
   simp only [Env.ren] at hx
   cases hr1 : renN k m b with
   | none => rw [hr1] at hx; cases hx
   | some b1 =>
    rw [hr1] at hx
    obtain ⟨o1, g1, g2⟩ := weakH_mem h4 b o b1 hmem hr1
    exact ⟨b1, o1, rfl, g1, hx, g2⟩
  refine ⟨hr.s.le, ?_, ?_, ?_, hkn, hr.s.fz, hr.s.old⟩
  ·intro b o x hb hx
   obtain ⟨b1, o1, g1, g2, g3, g4⟩ := key b o x hb hx
   obtain ⟨q1, q2⟩ := hr.s.obj b1 o1 x g2 g3
   exact ⟨q1, weakO_rel g4 q2⟩
  ·intro b b' o o' x x' hb hb' hx hx' hne
   obtain ⟨b1, o1, g1, g2, g3, g4⟩ := key b o x hb hx
   obtain ⟨b1', o1', g1', g2', g3', g4'⟩ := key b' o' x' hb' hx'
   refine hr.s.inj b1 b1' o1 o1' x x' g2 g2' g3 g3' fun e => hne ?_
   subst e
   rcases renN_cases g1 with ⟨a1, rfl⟩ | ⟨a1, a2⟩ <;> rcases renN_cases g1' with ⟨a1', e⟩ | ⟨a1', a2'⟩
   ·exact e
   ·have := (mapOK_look hmap _ _ a2').2.2; omega
   ·have := (mapOK_look hmap _ _ a2).2.2; omega
   ·exact mapOK_inj hmap _ _ _ a2 a2'
  ·intro b x hx
   simp only [Env.ren] at hx
   show b < next
   cases hr1 : renN k m b with
   | none => rw [hr1] at hx; cases hx
   | some b1 =>
    rcases renN_cases hr1 with ⟨a1, _⟩ | ⟨a1, a2⟩
    ·omega
    ·exact (mapOK_look hmap _ _ a2).2.1

inductive OT where
 | leaf (e : EExit) (c : Cfg)
 | ite (b : Bool) (l r : OT)
def OT.den : OT → EExit × Cfg
 | .leaf e c => (e, c)
 | .ite b l r => bif b then l.den else r.den
def OT.w (K : KC) : OT → Prop
 | .leaf e c => forceC c fun c => K e c
 | .ite b l r => iteB b (l.w K) (r.w K)
theorem OT.w_den {K : KC} : ∀ {o : OT}, o.w K → K o.den.1 o.den.2
 | .leaf e c, h => (forceC_iff _ _).1 h
 | .ite b l r, h => by
  cases b
  ·exact OT.w_den (o := r) h
  ·exact OT.w_den (o := l) h
open Classical in
def cutF (k : Nat) (c0 : Cfg) (o : OT) : Cfg → Option (EExit × Cfg) := fun c => if Wk k c c0 then some o.den else none
theorem cutF_ok {P : Program} {ro r : Option Nat} {n : Nat} {x : Code} {c0 : Cfg} {o : OT} (h : CodeAt P ro r n k x c0 o.den.1 o.den.2) : CodeOK P ro r n k x (cutF k c0 o) := by
 intro c e c' hq own ρ0 w0 ρ A w hk hro hle hfr hr
 unfold cutF at hq
 split at hq
 ·rename_i hw
  have hq : o.den = (e, c') := Option.some.inj hq
  rw [hq] at h
  obtain ⟨ρ', g1, g2⟩ := hw own ρ0 ρ A w hk hle hr
  exact h own ρ0 w0 ρ' A w hk hro g1 hfr g2
 ·cases hq

mutual
def V.flat : V → Bool
 | .undef | .bool _ | .int .. | .str _ | .nilp | .nils | .nilm | .nilf | .nili => true
 | .iface _ v => v.flat
 | .agg l => flatL l
 | .tup l => flatL l
 | .fn _ a c => flatL a && flatL c
 | _ => false
def flatL : List V → Bool
 | [] => true
 | v :: l => v.flat && flatL l
end
mutual
theorem VRel.flat {ρ ρ' : Env} : ∀ (v : V) (X : Value), v.flat = true → VRel ρ v X → VRel ρ' v X
 | .undef, X, _, h => by simpa only [VRel] using h
 | .bool _, X, _, h => by simpa only [VRel] using h
 | .int .., X, _, h => by simpa only [VRel] using h
 | .str _, X, _, h => by simpa only [VRel] using h
 | .nilp, X, _, h => by simpa only [VRel] using h
 | .nils, X, _, h => by simpa only [VRel] using h
 | .nilm, X, _, h => by simpa only [VRel] using h
 | .nilf, X, _, h => by simpa only [VRel] using h
 | .nili, X, _, h => by simpa only [VRel] using h
 | .iface t v, X, hf, h => by
  simp only [VRel] at h ⊢
  obtain ⟨Y, h1, h2⟩ := h
  exact ⟨Y, h1, VRel.flat v Y (by simpa only [V.flat] using hf) h2⟩
 | .agg l, X, hf, h => by
  simp only [VRel] at h ⊢
  obtain ⟨Y, h1, h2⟩ := h
  exact ⟨Y, h1, LRel.flat l _ (by simpa only [V.flat] using hf) h2⟩
 | .tup l, X, hf, h => by
  simp only [VRel] at h ⊢
  obtain ⟨Y, h1, h2⟩ := h
  exact ⟨Y, h1, LRel.flat l _ (by simpa only [V.flat] using hf) h2⟩
 | .fn f a c, X, hf, h => by
  simp only [VRel] at h ⊢
  simp only [V.flat, Bool.and_eq_true] at hf
  obtain ⟨A, C, h1, h2, h3⟩ := h
  exact ⟨A, C, h1, LRel.flat a _ hf.1 h2, LRel.flat c _ hf.2 h3⟩
 | .any, _, hf, _ => by simp [V.flat] at hf
 | .ptr .., _, hf, _ => by simp [V.flat] at hf
 | .rptr .., _, hf, _ => by simp [V.flat] at hf
 | .lptr .., _, hf, _ => by simp [V.flat] at hf
 | .sl .., _, hf, _ => by simp [V.flat] at hf
 | .rs .., _, hf, _ => by simp [V.flat] at hf
 | .lst .., _, hf, _ => by simp [V.flat] at hf
 | .arr .., _, hf, _ => by simp [V.flat] at hf
 | .map _, _, hf, _ => by simp [V.flat] at hf
 | .yld _, _, hf, _ => by simp [V.flat] at hf
theorem LRel.flat {ρ ρ' : Env} : ∀ (l : List V) (X : List Value), flatL l = true → LRel ρ l X → LRel ρ' l X
 | [], X, _, h => h
 | v :: l, X, hf, h => by
  simp only [flatL, Bool.and_eq_true] at hf
  obtain ⟨Y, Z, h1, h2, h3⟩ := h
  exact ⟨Y, Z, h1, VRel.flat v Y hf.1 h2, LRel.flat l Z hf.2 h3⟩
end

def Round {X : Type} (k : Nat) (cfg : X → Cfg) (μ : X → Nat) (out : X → EExit × Cfg) (x : X) : KC := fun e c1 => match e with
 | .normal => ∃ x', μ x' < μ x ∧ Wk k c1 (cfg x') ∧ out x' = out x
 | .exit id => (out x).1 = .exit id ∧ Wk k c1 (out x).2
 | .ret => (out x).1 = .ret ∧ Wk k c1 (out x).2
 | .pan v => (out x).1 = .pan v ∧ v.flat = true ∧ Wk k c1 (out x).2
theorem loop_at {P : Program} {ro r : Option Nat} {n : Nat} {b : Code} {X : Type} {fb : X → Cfg → Option (EExit × Cfg)} (cfg : X → Cfg) (μ : X → Nat) (out : X → EExit × Cfg) (hb : ∀ x, CodeOK P ro r n k b (fb x))
  (h : ∀ x, ∃ e c1, fb x (cfg x) = some (e, c1) ∧ Round k cfg μ out x e c1) : ∀ x, CodeAt P ro r n k (.loop b) (cfg x) (out x).1 (out x).2 := by
 intro x own ρ0 w0 ρ A w hk hro hle hfr hr
 refine wpIn_loop_rounds (μ x + 1) ?_
 have main : ∀ (N : Nat) (x : X) (ρ : Env) (A : Act) (w : World), μ x < N → ρ0.le ρ → Fr own w0 w → Rel own ρ (cfg x) A w → Code.roundsIn (RF r) n P b (CPost own ρ0 w0 (out x).1 (out x).2) N A w := by
  intro N
  induction N with
  | zero => intro x ρ A w hlt; omega
  | succ N ih =>
   intro x ρ A w hlt hle hfr hr
   rw [roundsIn_succ]
   obtain ⟨e, c1, h1, h2⟩ := h x
   refine wpIn_mono (hb x (cfg x) e c1 h1 own ρ0 w0 ρ A w hk hro hle hfr hr) ?_
   rintro E A1 w1 ⟨ρ1, g1, g2, g3, g4, g5, g6⟩
   cases e with
   | normal =>
    have g2 : E = .normal := g2
    subst g2
    obtain ⟨x', q1, q2, q3⟩ := h2
    obtain ⟨ρ2, t1, t2⟩ := q2 own ρ0 ρ1 A1 w1 hk g1 ⟨g3, g4, g5⟩
    have := ih x' ρ2 A1 w1 (by omega) t1 g6 t2
    rw [q3] at this
    exact this
   | exit id =>
    obtain ⟨q1, q2⟩ := h2
    obtain ⟨ρ2, t1, t2⟩ := q2 own ρ0 ρ1 A1 w1 hk g1 ⟨g3, g4, g5⟩
    have g2 : E = .exit id := g2
    subst g2
    exact ⟨ρ2, t1, by rw [q1]; rfl, t2.f, t2.d, t2.s, g6⟩
   | ret =>
    obtain ⟨q1, q2⟩ := h2
    obtain ⟨ρ2, t1, t2⟩ := q2 own ρ0 ρ1 A1 w1 hk g1 ⟨g3, g4, g5⟩
    have g2 : E = .ret := g2
    subst g2
    exact ⟨ρ2, t1, by rw [q1]; rfl, t2.f, t2.d, t2.s, g6⟩
   | pan v =>
    obtain ⟨q1, q3, q2⟩ := h2
    obtain ⟨ρ2, t1, t2⟩ := q2 own ρ0 ρ1 A1 w1 hk g1 ⟨g3, g4, g5⟩
    obtain ⟨X, rfl, g2⟩ := g2
    exact ⟨ρ2, t1, by rw [q1]; exact ⟨X, rfl, VRel.flat v X q3 g2⟩, t2.f, t2.d, t2.s, g6⟩
 exact main _ x ρ A w (Nat.lt_succ_self _) hle hfr hr
end
end Go.Sym
end

noncomputable section
namespace Go.Sym
open Go.RowKit (Below)

def envφ (φ : Nat → Nat → Option Value) : Env := ⟨fun _ => none, 0, φ⟩
def FzW (φ : Nat → Nat → Option Value) (w : World) : Prop := ∀ B k v, φ B k = some v → w.cell? ⟨B, k, none⟩ = some v
def PureAt (P : Program) (g : FuncId) (args : List V) (v : V) : Prop := ∀ (φ : Nat → Nat → Option Value) (w : World) (A : Array Value), FzW φ w → LRel (envφ φ) args A.toList →
 Calls P g A w fun E w' => ∃ φ' X, E = .returned X ∧ subφ φ φ' ∧ (∀ B k, B < w.heap.size → φ' B k = φ B k) ∧ FzW φ' w' ∧ VRel (envφ φ') v X ∧ Below w.heap.size w w'

mutual
def V.bare : V → Bool
 | .undef | .bool _ | .int .. | .str _ | .nilp | .nils | .nilm | .nilf | .nili | .lptr .. | .lst .. | .arr .. => true
 | .iface _ v => v.bare
 | .agg l => bareL l
 | .tup l => bareL l
 | .fn _ a c => bareL a && bareL c
 | _ => false
def bareL : List V → Bool
 | [] => true
 | v :: l => v.bare && bareL l
end
noncomputable section
def frzC (s : St) : V → Option (List Bool × (t : Ty) × t.den)
 | .int k n => some ([], ⟨.int k, (n : Int)⟩)
 | .bool b => some ([], ⟨.bool, (b : Bool)⟩)
 | .str x => some ([], ⟨.str, (x : ByteArray)⟩)
 | .lst e L _ => some ([], ⟨.lst e, (L : List (rowDen e))⟩)
 | .rs b lo len _ _ es => (match rowsAt s b with
   | some ⟨e, L⟩ => bif Nat.beq es e.length then some ([decide (lo + len ≤ L.length)], ⟨.lst e, (seg L lo len : List (rowDen e))⟩) else none
   | none => none)
 | _ => none
def consR : (t : Ty) → t.den → (e : List Ty) → rowDen e → (e' : List Ty) × rowDen e'
 | t, x, [], _ => ⟨[t], x⟩
 | t, x, u :: ts, y => ⟨t :: u :: ts, (x, y)⟩
def frzR (s : St) : List V → Option (List Bool × (e : List Ty) × rowDen e)
 | [] => some ([], ⟨[], ()⟩)
 | v :: l => (match frzC s v, frzR s l with
   | some (c, ⟨t, x⟩), some (c', ⟨e, y⟩) => some (c ++ c', consR t x e y)
   | _, _ => none)
mutual
def frzV (s : St) : V → Option (List Bool × V)
 | .rs b lo len _ _ es => (match rowsAt s b with
   | some ⟨e, L⟩ => bif Nat.beq es e.length then some ([decide (lo + len ≤ L.length)], .lst e (seg L lo len) false) else none
   | none => none)
 | .ptr b o => (match o with
   | 0 => (match cellsAt s b with
     | some cs => (match frzR s cs with
       | some (c, ⟨e, x⟩) => some (c, .lptr e [x] 0 0)
       | none => none)
     | none => none)
   | _ + 1 => none)
 | .iface t v => (match frzV s v with
   | some (c, v') => some (c, .iface t v')
   | none => none)
 | .agg l => (match frzL s l with
   | some (c, l') => some (c, .agg l')
   | none => none)
 | .tup l => (match frzL s l with
   | some (c, l') => some (c, .tup l')
   | none => none)
 | .undef => some ([], .undef)
 | .bool b => some ([], .bool b)
 | .int k n => some ([], .int k n)
 | .str x => some ([], .str x)
 | .nilp => some ([], .nilp)
 | .nils => some ([], .nils)
 | .nilm => some ([], .nilm)
 | .nilf => some ([], .nilf)
 | .nili => some ([], .nili)
 | .lptr e L i j => some ([], .lptr e L i j)
 | .lst e L cl => some ([], .lst e L cl)
 | .arr e L => some ([], .arr e L)
 | .fn f a c => (bif bareL a && bareL c then some ([], .fn f a c) else none)
 | _ => none
def frzL (s : St) : List V → Option (List Bool × List V)
 | [] => some ([], [])
 | v :: l => (match frzV s v, frzL s l with
   | some (c, v'), some (c', l') => some (c ++ c', v' :: l')
   | _, _ => none)
end
end

mutual
theorem VRel.bare {ρ ρ' : Env} (h : subφ ρ.φ ρ'.φ) : ∀ (v : V) (X : Value), v.bare = true → VRel ρ v X → VRel ρ' v X
 | .undef, X, _, r => by simpa only [VRel] using r
 | .bool _, X, _, r => by simpa only [VRel] using r
 | .int .., X, _, r => by simpa only [VRel] using r
 | .str _, X, _, r => by simpa only [VRel] using r
 | .nilp, X, _, r => by simpa only [VRel] using r
 | .nils, X, _, r => by simpa only [VRel] using r
 | .nilm, X, _, r => by simpa only [VRel] using r
 | .nilf, X, _, r => by simpa only [VRel] using r
 | .nili, X, _, r => by simpa only [VRel] using r
 | .lptr e L i j, X, _, r => by simp only [VRel] at r ⊢; obtain ⟨B, o, h1, h2⟩ := r; exact ⟨B, o, h1, h2.mono h fun _ _ hv => h _ _ _ hv⟩
 | .lst e L cl, X, _, r => by
  simp only [VRel] at r ⊢; obtain ⟨a, c, h1, h2, h3, h5, h4⟩ := r
  exact ⟨a, c, h1, h2, h3, h5, fun hp => let ⟨B, o, g1, g2⟩ := h4 hp; ⟨B, o, g1, g2.mono h fun _ _ hv => h _ _ _ hv⟩⟩
 | .arr e L, X, _, r => by simp only [VRel] at r ⊢; obtain ⟨A, h1, h2, h3⟩ := r; exact ⟨A, h1, h2, h3.mono h fun _ _ hv => hv⟩
 | .iface t v, X, hf, r => by
  simp only [VRel] at r ⊢
  obtain ⟨Y, h1, h2⟩ := r
  exact ⟨Y, h1, VRel.bare h v Y (by simpa only [V.bare] using hf) h2⟩
 | .agg l, X, hf, r => by
  simp only [VRel] at r ⊢
  obtain ⟨Y, h1, h2⟩ := r
  exact ⟨Y, h1, LRel.bare h l _ (by simpa only [V.bare] using hf) h2⟩
 | .tup l, X, hf, r => by
  simp only [VRel] at r ⊢
  obtain ⟨Y, h1, h2⟩ := r
  exact ⟨Y, h1, LRel.bare h l _ (by simpa only [V.bare] using hf) h2⟩
 | .fn f a c, X, hf, r => by
  simp only [VRel] at r ⊢
  simp only [V.bare, Bool.and_eq_true] at hf
  obtain ⟨A, C, h1, h2, h3⟩ := r
  exact ⟨A, C, h1, LRel.bare h a _ hf.1 h2, LRel.bare h c _ hf.2 h3⟩
 | .any, _, hf, _ => by simp [V.bare] at hf
 | .ptr .., _, hf, _ => by simp [V.bare] at hf
 | .rptr .., _, hf, _ => by simp [V.bare] at hf
 | .sl .., _, hf, _ => by simp [V.bare] at hf
 | .rs .., _, hf, _ => by simp [V.bare] at hf
 | .map _, _, hf, _ => by simp [V.bare] at hf
 | .yld _, _, hf, _ => by simp [V.bare] at hf
theorem LRel.bare {ρ ρ' : Env} (h : subφ ρ.φ ρ'.φ) : ∀ (l : List V) (X : List Value), bareL l = true → LRel ρ l X → LRel ρ' l X
 | [], X, _, r => r
 | v :: l, X, hf, r => by
  simp only [bareL, Bool.and_eq_true] at hf
  obtain ⟨Y, Z, h1, h2, h3⟩ := r
  exact ⟨Y, Z, h1, VRel.bare h v Y hf.1 h2, LRel.bare h l Z hf.2 h3⟩
end

section
variable {P : Program} {own : Own} {ρ ρ' : Env} {s : St} {w : World}

theorem frz_id {v : V} (hb : v.bare = true) (h : subφ ρ.φ ρ'.φ) {X : Value} (hv : VRel ρ v X) : VRel ρ' v X := VRel.bare h v X hb hv
theorem rowsAt_get {b : Nat} {e : List Ty} {L : List (rowDen e)} (h : rowsAt s b = some ⟨e, L⟩) : ∃ t ish, s.heap.get b = some (.rows e L t ish) := by
 unfold Sym.rowsAt at h
 split at h
 ·rename_i h1; cases h; exact ⟨_, _, h1⟩
 ·cases h
theorem cellsAt_get {b : Nat} {cs : List V} (h : cellsAt s b = some cs) : ∃ t ish, s.heap.get b = some (.cells cs t ish) := by
 unfold Sym.cellsAt at h
 split at h
 ·rename_i h1; cases h; exact ⟨_, _, h1⟩
 ·cases h
theorem CRel_nil {φ : Nat → Nat → Option Value} (x : rowDen []) (C : Nat → Option Value) : CRel φ [] x C := by rw [CRel]; trivial
theorem CRel_one {φ : Nat → Nat → Option Value} {t : Ty} (x : rowDen [t]) {C : Nat → Option Value} {X : Value} (h : C 0 = some X) (h2 : TRel φ t x X) : CRel φ [t] x C := by rw [CRel]; exact ⟨X, h, h2⟩
theorem CRel_cons {φ : Nat → Nat → Option Value} {t u : Ty} {ts : List Ty} (x : rowDen (t :: u :: ts)) {C : Nat → Option Value} (h1 : ∃ X, C 0 = some X ∧ TRel φ t x.1 X) (h2 : CRel φ (u :: ts) x.2 (fun j => C (j + 1))) : CRel φ (t :: u :: ts) x C := by rw [CRel]; exact ⟨h1, h2⟩
theorem TRel_int {φ : Nat → Nat → Option Value} (k : IntKind) (n : (Ty.int k).den) : TRel φ (.int k) n (.int k n) := by rw [TRel]
theorem TRel_bool {φ : Nat → Nat → Option Value} (b : Ty.bool.den) : TRel φ .bool b (.bool b) := by rw [TRel]
theorem TRel_str {φ : Nat → Nat → Option Value} (b : Ty.str.den) : TRel φ .str b (.string b) := by rw [TRel]
theorem TRel_lstU {φ : Nat → Nat → Option Value} {e : List Ty} (L : (Ty.lst e).den) {a : Option Addr} {c : Nat} (h1 : List.length (α := rowDen e) L ≤ c) (h2 : a = none → c = 0) (h3 : 0 < List.length (α := rowDen e) L → ∃ B o, a = some ⟨B, o, none⟩ ∧ ∀ i, i < List.length (α := rowDen e) L → CRel φ e (rowAt e L i) (fun j => φ B (o + i * e.length + j))) : TRel φ (.lst e) L (.slice a (List.length (α := rowDen e) L) c) := by
 rw [TRel]; exact ⟨a, c, rfl, h1, h2, h3⟩
theorem frzC_rel (hS : SRel own ρ s w) (hφ : subφ ρ.φ ρ'.φ) (hc : ∀ (b : Nat) (x : Blk) o, s.heap.get b = some o → ρ b = some x → ∀ k u, w.cell? ⟨x.B, k, none⟩ = some u → ρ'.φ x.B k = some u) {v : V} {c : List Bool} {t : Ty} {x : t.den} {X : Value} (h : frzC s v = some (c, ⟨t, x⟩)) (ha : allB c) (r : VRel ρ v X) : TRel ρ'.φ t x X := by
 unfold frzC at h
 split at h
 ·cases h; simp only [VRel] at r; subst r; exact TRel_int _ _
 ·cases h; simp only [VRel] at r; subst r; exact TRel_bool _
 ·cases h; simp only [VRel] at r; subst r; exact TRel_str _
 ·cases h
  simp only [VRel] at r
  obtain ⟨a, c', rfl, h2, h3, h5, h4⟩ := r
  refine TRel_lstU _ h2 h5 fun hp => ?_
  obtain ⟨B, o, g1, g2⟩ := h4 hp
  refine ⟨B, o, g1, fun i hi => ?_⟩
  refine CRel.mono (fun _ _ _ hv => hφ _ _ _ hv) _ _ (fun j u hu => ?_) (g2 i hi)
  rw [Nat.add_assoc]
  exact hφ _ _ _ hu
 ·rename_i b lo len cap xx es
  split at h
  ·rename_i e L hL
   cases hb : Nat.beq es e.length with
   | false => rw [hb] at h; cases h
   | true =>
   rw [hb, cond_true] at h
   have hb := Nat.eq_of_beq_eq_true hb
   subst hb
   cases h
   have hle : lo + len ≤ L.length := by simpa using ha.1
   have hl := seg_length hle
   simp only [VRel] at r
   obtain ⟨a, c', rfl, h2, h3, h4, h5, h6⟩ := r
   have hX : Value.slice a len c' = .slice a (List.length (α := rowDen e) (seg L lo len)) c' := by rw [hl]
   rw [hX]
   refine TRel_lstU (e := e) (seg L lo len) (by rw [hl]; omega) (fun hh => h5 hh) fun hp => ?_
   rw [hl] at hp
   obtain ⟨B, O, S, g1, g2, g3⟩ := h6 (by omega)
   obtain ⟨t0, ish0, hg⟩ := rowsAt_get hL
   have hr := rows_seg hle (hS.rowsAt hL g1).1
   refine ⟨B, _, g2, fun i hi => ?_⟩
   refine CRel.mono (fun _ _ _ hv => hφ _ _ _ hv) _ _ (fun j u hu => ?_) (hr i hi)
   have := hc b _ _ hg g1 _ _ hu
   simp only at this
   rw [← this]
   congr 1
   omega
  ·cases h
 ·cases h
theorem consR_rel {φ : Nat → Nat → Option Value} {t : Ty} {x : t.den} {X : Value} (hx : TRel φ t x X) : ∀ {e : List Ty} {y : rowDen e} {C : Nat → Option Value}, C 0 = some X → CRel φ e y (fun j => C (j + 1)) → CRel φ (consR t x e y).1 (consR t x e y).2 C
 | [], _, C, h0, _ => CRel_one x h0 hx
 | u :: ts, y, C, h0, hy => CRel_cons (t := t) (u := u) (ts := ts) (x, y) ⟨X, h0, hx⟩ hy
theorem frzR_rel (hS : SRel own ρ s w) (hφ : subφ ρ.φ ρ'.φ) (hc : ∀ (b : Nat) (x : Blk) o, s.heap.get b = some o → ρ b = some x → ∀ k u, w.cell? ⟨x.B, k, none⟩ = some u → ρ'.φ x.B k = some u) : ∀ (l : List V) (c : List Bool) (e : (e : List Ty) × rowDen e), frzR s l = some (c, e) → allB c → ∀ {C : Nat → Option Value},
  (∀ (i : Nat) (v : V), l[i]? = some v → ∃ W, C i = some W ∧ VRel ρ v W) → CRel ρ'.φ e.1 e.2 C
 | [], c, e, h, _, C, _ => by
  rw [frzR.eq_def] at h
  cases h
  exact CRel_nil () _
 | v :: l, c, e, h, ha, C, hC => by
  rw [frzR.eq_def] at h
  simp only at h
  split at h
  ·rename_i c1 t x c2 e2 y2 h1 h2
   cases h
   rw [allB_append] at ha
   obtain ⟨W, g1, g2⟩ := hC 0 v rfl
   exact consR_rel (frzC_rel hS hφ hc h1 ha.1 g2) g1 (frzR_rel hS hφ hc l _ _ h2 ha.2 fun i v' hi => hC (i + 1) v' (by simpa using hi))
  ·cases h
mutual
theorem frzV_rel (hS : SRel own ρ s w) (hφ : subφ ρ.φ ρ'.φ) (hc : ∀ (b : Nat) (x : Blk) o, s.heap.get b = some o → ρ b = some x → ∀ k u, w.cell? ⟨x.B, k, none⟩ = some u → ρ'.φ x.B k = some u) : ∀ (v : V) (c : List Bool) (v' : V) (X : Value), frzV s v = some (c, v') → allB c → VRel ρ v X → VRel ρ' v' X
 | .rs b lo len cap x es, c, v', X, h, ha, r => by
  rw [frzV.eq_def] at h
  simp only at h
  split at h
  ·rename_i e L hL
   cases hb : Nat.beq es e.length with
   | false => rw [hb] at h; cases h
   | true =>
   rw [hb, cond_true] at h
   have hb := Nat.eq_of_beq_eq_true hb
   subst hb
   cases h
   have hle : lo + len ≤ L.length := by simpa using ha.1
   simp only [VRel] at r ⊢
   obtain ⟨a, c', h1, h2, h3, h4, h5, h6⟩ := r
   have hl := seg_length hle
   refine ⟨a, c', by rw [hl]; exact h1, by rw [hl]; omega, fun hh => (by cases hh), h5, fun hp => ?_⟩
   rw [hl] at hp
   obtain ⟨B, O, S, g1, g2, g3⟩ := h6 (by omega)
   have hr := rows_seg hle (hS.rowsAt hL g1).1
   refine ⟨B, _, g2, hr.mono (fun _ _ _ hv => hφ _ _ _ hv) fun j u hu => ?_⟩
   rw [Nat.add_assoc]
   exact hc b _ _ (rowsAt_get hL).choose_spec.choose_spec g1 _ _ hu
  ·cases h
 | .iface t v, c, v', X, h, ha, r => by
  rw [frzV.eq_def] at h
  simp only at h
  split at h
  ·rename_i c1 v1 hv
   cases h
   simp only [VRel] at r ⊢
   obtain ⟨Y, h1, h2⟩ := r
   exact ⟨Y, h1, frzV_rel hS hφ hc v _ _ Y hv ha h2⟩
  ·cases h
 | .agg l, c, v', X, h, ha, r => by
  rw [frzV.eq_def] at h
  simp only at h
  split at h
  ·rename_i c1 v1 hv
   cases h
   simp only [VRel] at r ⊢
   obtain ⟨Y, h1, h2⟩ := r
   exact ⟨Y, h1, frzL_rel hS hφ hc l _ _ _ hv ha h2⟩
  ·cases h
 | .tup l, c, v', X, h, ha, r => by
  rw [frzV.eq_def] at h
  simp only at h
  split at h
  ·rename_i c1 v1 hv
   cases h
   simp only [VRel] at r ⊢
   obtain ⟨Y, h1, h2⟩ := r
   exact ⟨Y, h1, frzL_rel hS hφ hc l _ _ _ hv ha h2⟩
  ·cases h
 | .undef, c, v', X, h, _, r => by rw [frzV.eq_def] at h; cases h; exact frz_id rfl hφ r
 | .bool _, c, v', X, h, _, r => by rw [frzV.eq_def] at h; cases h; exact frz_id rfl hφ r
 | .int .., c, v', X, h, _, r => by rw [frzV.eq_def] at h; cases h; exact frz_id rfl hφ r
 | .str _, c, v', X, h, _, r => by rw [frzV.eq_def] at h; cases h; exact frz_id rfl hφ r
 | .nilp, c, v', X, h, _, r => by rw [frzV.eq_def] at h; cases h; exact frz_id rfl hφ r
 | .nils, c, v', X, h, _, r => by rw [frzV.eq_def] at h; cases h; exact frz_id rfl hφ r
 | .nilm, c, v', X, h, _, r => by rw [frzV.eq_def] at h; cases h; exact frz_id rfl hφ r
 | .nilf, c, v', X, h, _, r => by rw [frzV.eq_def] at h; cases h; exact frz_id rfl hφ r
 | .nili, c, v', X, h, _, r => by rw [frzV.eq_def] at h; cases h; exact frz_id rfl hφ r
 | .lptr .., c, v', X, h, _, r => by rw [frzV.eq_def] at h; cases h; exact frz_id rfl hφ r
 | .lst .., c, v', X, h, _, r => by rw [frzV.eq_def] at h; cases h; exact frz_id rfl hφ r
 | .arr .., c, v', X, h, _, r => by rw [frzV.eq_def] at h; cases h; exact frz_id rfl hφ r
 | .fn f a d, c, v', X, h, _, r => by
  rw [frzV.eq_def] at h
  simp only at h
  cases hb : (bareL a && bareL d) with
  | false => rw [hb] at h; cases h
  | true => rw [hb] at h; cases h; exact frz_id (by simpa only [V.bare] using hb) hφ r
 | .any, c, v', X, h, _, _ => by rw [frzV.eq_def] at h; cases h
 | .ptr b o, c, v', X, h, ha, r => by
  rw [frzV.eq_def] at h
  simp only at h
  split at h
  ·split at h
   ·rename_i cs hcs
    split at h
    ·rename_i c1 e x hf
     cases h
     simp only [VRel] at r ⊢
     obtain ⟨B, O, S, hB, rfl⟩ := r
     obtain ⟨t0, ish0, hg⟩ := cellsAt_get hcs
     obtain ⟨_, C, t1, fr, e1, e2, e3, e4, _⟩ := hS.obj b _ _ hg hB
     refine ⟨B, O, by simp, fun i hi => ?_⟩
     have hi0 : i = 0 := by simp only [List.length_singleton] at hi; omega
     subst hi0
     show CRel ρ'.φ e x (fun j => ρ'.φ B (O + (0 * e.length + j)))
     refine frzR_rel (ρ' := ρ') hS hφ hc cs _ ⟨e, x⟩ hf ha fun i v hi => ?_
     obtain ⟨W, g1, g2⟩ := e4 i v hi
     refine ⟨W, ?_, g2⟩
     have := hc b _ _ hg hB (O + i) W (by simp [World.cell?, e1, g1])
     rw [← this]
     simp
    ·cases h
   ·cases h
  ·cases h
 | .rptr .., c, v', X, h, _, _ => by rw [frzV.eq_def] at h; cases h
 | .sl .., c, v', X, h, _, _ => by rw [frzV.eq_def] at h; cases h
 | .map _, c, v', X, h, _, _ => by rw [frzV.eq_def] at h; cases h
 | .yld _, c, v', X, h, _, _ => by rw [frzV.eq_def] at h; cases h
theorem frzL_rel (hS : SRel own ρ s w) (hφ : subφ ρ.φ ρ'.φ) (hc : ∀ (b : Nat) (x : Blk) o, s.heap.get b = some o → ρ b = some x → ∀ k u, w.cell? ⟨x.B, k, none⟩ = some u → ρ'.φ x.B k = some u) : ∀ (l : List V) (c : List Bool) (l' : List V) (X : List Value), frzL s l = some (c, l') → allB c → LRel ρ l X → LRel ρ' l' X
 | [], c, l', X, h, _, r => by rw [frzL.eq_def] at h; cases h; exact r
 | v :: l, c, l', X, h, ha, r => by
  rw [frzL.eq_def] at h
  simp only at h
  split at h
  ·rename_i c1 v1 c2 l2 h1 h2
   cases h
   rw [allB_append] at ha
   obtain ⟨Y, Z, g1, g2, g3⟩ := r
   exact ⟨Y, Z, g1, frzV_rel hS hφ hc v _ _ Y h1 ha.1 g2, frzL_rel hS hφ hc l _ _ Z h2 ha.2 g3⟩
  ·cases h
end

abbrev Tab := FuncId → List V → Option (List Bool × V)
def TabOK (P : Program) (tab : Tab) : Prop := ∀ g args c v, tab g args = some (c, v) → allB c → PureAt P g args v
noncomputable section
def tabAt (tab : Tab) (t : ETgt) (s : St) : Option (List Bool × V) :=
 match t with
 | .fn g args => (match bareL args with
   | true => tab g args
   | false => (match frzL s args with
     | some (c, args') => (match tab g args' with
       | some (c', v) => bif v.flat then some (c ++ c', v) else none
       | none => none)
     | none => none))
 | .round _ _ => none
def knW (tab : Tab) : KnW := fun t s => match tabAt tab t s with
 | some (c, v) => some fun k => needsR c (k (.ret v) s)
 | none => none
def knE (tab : Tab) : ESelf := fun t s => match tabAt tab t s with
 | some (c, v) => bif allb c then some (.ret v, s) else none
 | none => none
end
theorem kn_ad (tab : Tab) : AdK (knW tab) (knE tab) := by
 intro t s r hr k hk
 unfold knW at hr
 unfold knE
 split at hr
 ·rename_i c v hc
  cases hr
  obtain ⟨h1, h2⟩ := needs_b hk
  exact ⟨_, _, by simp only [h1, cond_true], h2⟩
 ·cases hr
theorem kn_no (tab : Tab) : NoK (knW tab) (knE tab) := by
 intro t s h
 unfold knW at h
 unfold knE
 split at h
 ·cases h
 ·rfl

theorem SRel.grow (h : SRel own ρ s w) {w' : World} (hb : Below w.heap.size w w') {φ' : Nat → Nat → Option Value} (h1 : subφ ρ.φ φ') (h2 : ∀ B k, B < w.heap.size → φ' B k = ρ.φ B k) (h3 : FzW φ' w') :
  ρ.le ⟨ρ.f, ρ.n, φ'⟩ ∧ SRel own ⟨ρ.f, ρ.n, φ'⟩ s w' ∧ Fr own w w' := by
 have hle : ρ.le ⟨ρ.f, ρ.n, φ'⟩ := ⟨⟨fun _ _ e => e, h1⟩, Nat.le_refl _, fun _ _ e => e⟩
 have hown : ∀ k, ¬ own k → k < w.heap.size := fun k hk => Nat.lt_of_not_le fun hh => hk (h.le k hh)
 refine ⟨hle, ⟨fun B hB => h.le B (Nat.le_trans hb.size hB), fun b o x hg hx => ?_, h.inj, h.dom, h.top, h3, fun B k hB => ?_⟩, ⟨hb.os, hb.tape, hb.output, hb.size, fun k hk => hb.block k (hown k hk)⟩⟩
 ·obtain ⟨⟨q1, q2⟩, q3⟩ := h.obj b o x hg hx
  have hlt := h.lt hg hx
  refine ⟨⟨q1, fun k => by rw [show (⟨ρ.f, ρ.n, φ'⟩ : Env).φ x.B k = φ' x.B k from rfl, h2 _ _ hlt]; exact q2 k⟩, ?_⟩
  rw [hb.block _ hlt]
  exact q3.mono hle
 ·rw [show (⟨ρ.f, ρ.n, φ'⟩ : Env).φ B k = φ' B k from rfl, h2 _ _ (hown B hB)]
  exact h.old B k hB

theorem kn_ok {tab : Tab} (ht : TabOK P tab) : SelfOK P (knE tab) := by
 intro t s e s' hk own ρ w hS n
 unfold knE at hk
 split at hk
 ·rename_i c v hc
  cases hcc : allb c with
  | false => rw [hcc] at hk; cases hk
  | true =>
  rw [hcc, cond_true] at hk
  cases hk
  have hcc := (allb_iff c).1 hcc
  cases t with
  | round l args => cases hc
  | fn g args =>
   intro A hA
   simp only [tabAt] at hc
   split at hc
   ·rename_i hb
    have hp := ht g args c v hc hcc ρ.φ w A hS.fz (LRel.bare (ρ := ρ) (ρ' := envφ ρ.φ) (fun _ _ _ h => h) args _ hb hA)
    refine callsIn_wide.2 (hp.mono ?_)
    rintro E w' ⟨φ', X, rfl, h1, h2, h3, h4, h5⟩
    obtain ⟨g1, g2, g3⟩ := hS.grow h5 h1 h2 h3
    exact ⟨_, g1, ⟨X, rfl, VRel.up (ρ := envφ φ') (ρ' := ⟨ρ.f, ρ.n, φ'⟩) ⟨fun _ _ h => (by cases h), fun _ _ _ h => h⟩ v X h4⟩, g2, g3⟩
   ·split at hc
    ·rename_i c1 args' hf
     split at hc
     ·rename_i c2 v2 h2
      cases hfl : v2.flat with
      | false => rw [hfl] at hc; cases hc
      | true =>
      rw [hfl, cond_true] at hc
      cases hc
      rw [allB_append] at hcc
      let φ1 : Nat → Nat → Option Value := fun B k => w.cell? ⟨B, k, none⟩
      have hA' : LRel (envφ φ1) args' A.toList := frzL_rel (ρ' := envφ φ1) hS (fun B k u hu => hS.fz B k u hu) (fun b x o _ _ k u hu => hu) args c1 args' _ hf hcc.1 hA
      have hp := ht g args' c2 v h2 hcc.2 φ1 w A (fun _ _ _ h => h) hA'
      refine callsIn_wide.2 (hp.mono ?_)
      rintro E w' ⟨φ', X, rfl, h1, h2, h3, h4, h5⟩
      obtain ⟨g1, g2, g3⟩ := hS.grow h5 (φ' := ρ.φ) (fun _ _ _ h => h) (fun _ _ _ => rfl) (fun B k u hu => by
        have hc := hS.fz B k u hu
        have hlt : B < w.heap.size := Nat.lt_of_not_le fun hh => by simp [World.cell?, Array.getElem?_eq_none hh] at hc
        rw [cell_of_block (h := h5.block B hlt)]
        exact hc)
      exact ⟨_, g1, ⟨X, rfl, VRel.flat v X hfl h4⟩, g2, g3⟩
     ·cases hc
    ·cases hc
 ·cases hk

def s0 : St := ⟨.leaf, 0⟩
theorem s0_rel (φ : Nat → Nat → Option Value) (w : World) (h : FzW φ w) : SRel ⟨fun B => w.heap.size ≤ B, φ⟩ (envφ φ) s0 w where
 le := fun B hB => hB
 obj := fun b o x hb _ => by rw [show s0.heap.get b = none from T.get_leaf b] at hb; cases hb
 inj := fun b b' o o' x x' hb _ _ _ => by rw [show s0.heap.get b = none from T.get_leaf b] at hb; cases hb
 dom := fun b x hx => by cases hx
 top := Nat.le_refl _
 fz := h
 old := fun _ _ _ => rfl
def RetW (v : V) : KS := fun e s' => match e with
 | .ret v' => (match frzV s' v' with
   | some (c, u) => needsR c (u = v)
   | none => False)
 | .pan _ => False
theorem pure_of_run {tab : Tab} (ht : TabOK P tab) {self : ESelf} (hs : SelfOK P self) {fuel : Nat} {lp : LpF} {g : FuncId} {args : List V} (hlp : ∀ fn c n, P.funcs[g]? = some fn → fn.body = some c → LpOK P none none n 0 lp c) {e : EEnd} {s' : St} {v : V}
  (h : runFnL P self fuel lp g args s0 = some (e, s')) (hr : RetW v e s') : PureAt P g args v := by
 intro φ w A hφ hA
 have := fnL_sound hs fuel lp g args s0 hlp e s' h ⟨fun B => w.heap.size ≤ B, φ⟩ (envφ φ) w (s0_rel φ w hφ) 0 A hA
 refine (callsIn_wide.1 this).mono ?_
 rintro E w' ⟨ρ', h1, h2, h3, h4⟩
 cases e with
 | pan v' => exact hr.elim
 | ret v' =>
  obtain ⟨X, rfl, hX⟩ := h2
  simp only [RetW] at hr
  split at hr
  ·rename_i c u hf
   obtain ⟨hc, rfl⟩ := (needsR_iff _ _).1 hr
   refine ⟨fun B k => if B < w.heap.size then φ B k else w'.cell? ⟨B, k, none⟩, X, rfl, fun B k u hu => ?_, fun B k hB => by simp only [hB, if_true], fun B k u hu => ?_, ?_, ?_⟩
   ·have hc := hφ B k u hu
    have hlt : B < w.heap.size := Nat.lt_of_not_le fun hh => by simp [World.cell?, Array.getElem?_eq_none hh] at hc
    simp only [hlt, if_true]; exact hu
   ·simp only at hu
    split at hu
    ·exact h3.fz B k u (h1.sub.2 _ _ _ hu)
    ·exact hu
   ·refine frzV_rel (ρ' := envφ _) h3 (fun B k u hu => ?_) (fun b x o hL hx k u hu => ?_) v' c u X hf hc hX
    ·show (if B < w.heap.size then φ B k else w'.cell? ⟨B, k, none⟩) = some u
     split
     ·rename_i hB
      have := h3.old B k (Nat.not_le.2 hB)
      rw [← hu, this]
     ·exact h3.fz B k u hu
    ·show (if x.B < w.heap.size then φ x.B k else w'.cell? ⟨x.B, k, none⟩) = some u
     have hown : w.heap.size ≤ x.B := (h3.obj b o x hL hx).1.1
     rw [if_neg (Nat.not_lt.2 hown)]
     exact hu
   ·exact ⟨h4.os, h4.tape, h4.output, h4.size, fun k hk => h4.block k (Nat.not_le.2 hk)⟩
  ·exact hr.elim
theorem pure_of_W {tab : Tab} (ht : TabOK P tab) {fuel d : Nat} {lw : LpW} {lp : LpF} (hl : AdL lw lp) {g : FuncId} {args : List V} (hlp : ∀ fn c n, P.funcs[g]? = some fn → fn.body = some c → LpOK P none none n 0 lp c) {v : V}
  (h : fnLW P (callW P (knW tab) fuel d) fuel lw g args s0 (RetW v)) : PureAt P g args v := by
 obtain ⟨e, s', h1, h2⟩ := fnLW_ad (callW_ad (kn_ad tab) (kn_no tab) fuel d) fuel hl g args s0 _ h
 exact pure_of_run ht (call_sound (kn_ok ht) fuel d) hlp h1 h2
theorem pure_of_W0 {tab : Tab} (ht : TabOK P tab) {fuel d : Nat} {g : FuncId} {args : List V} {v : V} (h : fnLW P (callW P (knW tab) fuel d) fuel noLpW g args s0 (RetW v)) : PureAt P g args v :=
 pure_of_W ht noLp_ad (fun _ c _ _ _ => noLp_ok c) h

def noTab : Tab := fun _ _ => none
theorem noTab_ok : TabOK P noTab := fun _ _ _ _ h => by cases h
def oneTab (f : FuncId) (F : List V → Option (List Bool × V)) (b : Tab) : Tab := fun g args => bif Nat.beq g f then F args else b g args
theorem oneTab_ok {f : FuncId} {F : List V → Option (List Bool × V)} {b : Tab} (hF : ∀ args c v, F args = some (c, v) → allB c → PureAt P f args v) (hb : TabOK P b) : TabOK P (oneTab f F b) := by
 intro g args c v h
 unfold oneTab at h
 cases hg : Nat.beq g f with
 | true => rw [hg, cond_true] at h; rw [Nat.eq_of_beq_eq_true hg]; exact hF args c v h
 | false => rw [hg, cond_false] at h; exact hb g args c v h

theorem pure_true {g : FuncId} {args : List V} (h : PureAt P g args (.bool true)) (w : World) (A : Array Value) (hA : LRel (envφ fun B k => w.cell? ⟨B, k, none⟩) args A.toList) :
  Calls P g A w fun E w' => E = .returned (.bool true) ∧ Below w.heap.size w w' := by
 refine (h _ w A (fun _ _ _ h => h) hA).mono ?_
 rintro E w' ⟨φ', X, rfl, _, _, _, h4, h5⟩
 have h4 : X = .bool true := by simpa only [VRel] using h4
 exact ⟨by rw [h4], h5⟩
end

theorem sEq_self (a : ByteArray) : sEq a a = true := decide_eq_true rfl
theorem eqOK_i {P : Program} {t : TypeId} (h : eqOK0 P t = true) : eqOK P t = true := (eqOK_eq P t).trans h
theorem V.same_t {v w : V} (h : v = w) : v.same w = true := by rw [h]; exact V.same_self w
theorem andB_i {b : Bool} {q : Prop} (h : b = true) (k : q) : @Bool.rec (fun _ => Prop) False q b := (andB_iff _ _).2 ⟨h, k⟩
theorem iteB_t {b : Bool} {p q : Prop} (h : b = true) (k : p) : @Bool.rec (fun _ => Prop) q p b := (iteB_iff _ _ _).2 ⟨fun _ => k, fun e => by rw [h] at e; cases e⟩
theorem iteB_f {b : Bool} {p q : Prop} (h : b = false) (k : q) : @Bool.rec (fun _ => Prop) q p b := (iteB_iff _ _ _).2 ⟨fun e => (by rw [h] at e; cases e), fun _ => k⟩
theorem iteB_n {b : Bool} {p q : Prop} (k : @Bool.rec (fun _ => Prop) p q b) : @Bool.rec (fun _ => Prop) q p (!b) := by cases b <;> exact k
theorem iteB_s {b : Bool} {p q : Prop} (h : b = true → p) (k : b = false → q) : @Bool.rec (fun _ => Prop) q p b := (iteB_iff _ _ _).2 ⟨h, k⟩
theorem andB_lt {a b : Int} {q : Prop} (h : a < b) (k : q) : @Bool.rec (fun _ => Prop) False q (ltI a b) := andB_i (by rw [ltI_eq]; exact decide_eq_true h) k
theorem andB_le {a b : Int} {q : Prop} (h : a ≤ b) (k : q) : @Bool.rec (fun _ => Prop) False q (leI a b) := andB_i (by rw [leI_eq]; exact decide_eq_true h) k
theorem andB_in {n : Int} {q : Prop} (h : -9223372036854775808 ≤ n ∧ n ≤ 9223372036854775807) (k : q) : @Bool.rec (fun _ => Prop) False q (inI n) := andB_i (by rw [inI_eq]; exact decide_eq_true h) k
theorem iteB_ltt {a b : Int} {p q : Prop} (h : a < b) (k : p) : @Bool.rec (fun _ => Prop) q p (ltI a b) := iteB_t (by rw [ltI_eq]; exact decide_eq_true h) k
theorem iteB_ltf {a b : Int} {p q : Prop} (h : ¬ a < b) (k : q) : @Bool.rec (fun _ => Prop) q p (ltI a b) := iteB_f (by rw [ltI_eq]; exact decide_eq_false h) k
theorem iteB_lts {a b : Int} {p q : Prop} (h : a < b → p) (k : ¬ a < b → q) : @Bool.rec (fun _ => Prop) q p (ltI a b) := iteB_s (fun e => h (by rw [ltI_eq] at e; exact of_decide_eq_true e)) (fun e => k (by rw [ltI_eq] at e; exact of_decide_eq_false e))
theorem iteB_let {a b : Int} {p q : Prop} (h : a ≤ b) (k : p) : @Bool.rec (fun _ => Prop) q p (leI a b) := iteB_t (by rw [leI_eq]; exact decide_eq_true h) k
theorem iteB_lef {a b : Int} {p q : Prop} (h : ¬ a ≤ b) (k : q) : @Bool.rec (fun _ => Prop) q p (leI a b) := iteB_f (by rw [leI_eq]; exact decide_eq_false h) k
theorem iteB_les {a b : Int} {p q : Prop} (h : a ≤ b → p) (k : ¬ a ≤ b → q) : @Bool.rec (fun _ => Prop) q p (leI a b) := iteB_s (fun e => h (by rw [leI_eq] at e; exact of_decide_eq_true e)) (fun e => k (by rw [leI_eq] at e; exact of_decide_eq_false e))
theorem andB_d {p : Prop} [Decidable p] {q : Prop} (h : p) (k : q) : @Bool.rec (fun _ => Prop) False q (decide p) := andB_i (decide_eq_true h) k
theorem iteB_dt {c : Prop} [Decidable c] {p q : Prop} (h : c) (k : p) : @Bool.rec (fun _ => Prop) q p (decide c) := iteB_t (decide_eq_true h) k
theorem iteB_df {c : Prop} [Decidable c] {p q : Prop} (h : ¬ c) (k : q) : @Bool.rec (fun _ => Prop) q p (decide c) := iteB_f (decide_eq_false h) k
theorem iteB_ds {c : Prop} [Decidable c] {p q : Prop} (h : c → p) (k : ¬ c → q) : @Bool.rec (fun _ => Prop) q p (decide c) := iteB_s (fun e => h (of_decide_eq_true e)) (fun e => k (of_decide_eq_false e))
end Go.Sym
end

noncomputable section
namespace Go.Sym

structure CD where
 n : Nat
 l : List (Nat × V)
 ds : List EDef
 h : List (Nat × EObj)
 next : Nat
def CD.cfg (c : CD) : Cfg := ⟨⟨c.n, setsB c.n (repB .any (hOf c.n)) c.l⟩, c.ds, ⟨heapOf c.h, c.next⟩⟩
def slotsF (l : List (Nat × V)) : Nat → Nat → List V
 | 0, _ => []
 | n + 1, i => slotD .any i l :: slotsF l n (i + 1)
def slots (n : Nat) (l : List (Nat × V)) : List V := slotsF l n 0
theorem slotsF_get (l : List (Nat × V)) : ∀ (n j i : Nat), i < n → (slotsF l n j).getD i .undef = slotD .any (j + i) l
 | 0, _, _, h => by omega
 | n + 1, j, 0, _ => rfl
 | n + 1, j, i + 1, h => by
  have := slotsF_get l n (j + 1) i (by omega)
  rw [show j + (i + 1) = j + 1 + i by omega, ← this]
  rfl
def CD.wk (k : Nat) (m : List (Nat × Nat)) (c : CD) (c1 : Cfg) : Prop := wkP k m c1 c.n (slots c.n c.l) c.ds c.h c.next
theorem CD.wk_ok {k : Nat} {m : List (Nat × Nat)} {c : CD} {c1 : Cfg} (h : c.wk k m c1) : Wk k c1 c.cfg := by
 have hw := wkP_ok h
 obtain ⟨h1, _⟩ := guardB_b h
 simp only [Bool.and_eq_true, Nat.ble_eq] at h1
 have h4096 : c.n ≤ 4096 := h1.2.2.2.2
 have hd := hOf_le h4096
 intro own ρ0 ρ A w hk hle hr
 obtain ⟨ρ', g1, g2⟩ := hw own ρ0 ρ A w hk hle hr
 refine ⟨ρ', g1, ⟨?_, g2.d, g2.s⟩⟩
 obtain ⟨f1, d, f2, f3, f4⟩ := g2.f
 refine ⟨f1, hOf c.n, setsB_full (repB_full _ _) _, hd, fun i X hi => ?_⟩
 have hlt : i < c.n := by
  have : c.n = A.tmps.size := f1
  have := (Array.getElem?_eq_some_iff.1 hi).1
  omega
 have := f4 i X hi
 have e : (mkFrm c.n (slots c.n c.l)).t.get i = slotD .any i c.l := by
  show (B.ofList .undef (hOf c.n) (slots c.n c.l)).get i = _
  rw [B.ofList_get _ _ _ _ (by omega), slots, slotsF_get _ _ _ _ hlt, Nat.zero_add]
 show VRel ρ' ((setsB c.n (repB .any (hOf c.n)) c.l).get i) X
 rw [setsB_get hd _ _ hlt, ← e]
 exact this
def cfgK (c : CD) (k : Cfg → Prop) : Prop := frmK c.n .any c.l fun f => forceS ⟨heapOf c.h, c.next⟩ fun s => k ⟨f, c.ds, s⟩
theorem cfgK_iff (c : CD) (k : Cfg → Prop) : cfgK c k ↔ k c.cfg := by rw [cfgK, frmK_iff, forceS_iff]; exact Iff.rfl
def idm : List (Nat × EObj) → List (Nat × Nat)
 | [] => []
 | e :: l => (e.1, e.1) :: idm l

inductive OD where
 | leaf (e : EExit) (c : CD)
 | ite (b : Bool) (l r : OD)
def OD.ot : OD → OT
 | .leaf e c => .leaf e c.cfg
 | .ite b l r => .ite b l.ot r.ot
def OD.w (K : KC) : OD → Prop
 | .leaf e c => cfgK c fun c => K e c
 | .ite b l r => iteB b (l.w K) (r.w K)
theorem OD.w_den {K : KC} : ∀ {o : OD}, o.w K → K o.ot.den.1 o.ot.den.2
 | .leaf e c, h => (cfgK_iff _ _).1 h
 | .ite b l r, h => by
  cases b
  ·exact OD.w_den (o := r) h
  ·exact OD.w_den (o := l) h
theorem CD.wk_as {k : Nat} {c : CD} {c1 : Cfg} (h : c.wk k (idm c.h) c1) : ∃ m, c.wk k m c1 := ⟨_, h⟩
def exitIs (e e0 : EExit) : Prop :=
 match e0 with
 | .exit i0 => (match e with
   | .exit i => guardB (Nat.beq i i0) True
   | _ => False)
 | .ret => (match e with
   | .ret => True
   | _ => False)
 | .pan v0 => (match e with
   | .pan v => v = v0 ∧ guardB v0.flat True
   | _ => False)
 | .normal => False
def OD.hit (k : Nat) (e : EExit) (c1 : Cfg) : OD → Prop
 | .leaf e0 c0 => exitIs e e0 ∧ ∃ m, c0.wk k m c1
 | .ite b l r => iteB b (l.hit k e c1) (r.hit k e c1)
def notNormal : EExit → Bool
 | .normal => false
 | _ => true
def RoundW {X : Type} (k : Nat) (cd : X → CD) (μ : X → Nat) (out : X → OD) (x : X) : KC := fun e c1 => match notNormal e with
 | false => ∃ x', μ x' < μ x ∧ out x' = out x ∧ ∃ m, (cd x').wk k m c1
 | true => (out x).hit k e c1
theorem OD.hit_den {k : Nat} {e : EExit} {c1 : Cfg} : ∀ {o : OD}, notNormal e = true → o.hit k e c1 → match e with
  | .normal => False
  | .exit id => o.ot.den.1 = .exit id ∧ Wk k c1 o.ot.den.2
  | .ret => o.ot.den.1 = .ret ∧ Wk k c1 o.ot.den.2
  | .pan v => o.ot.den.1 = .pan v ∧ v.flat = true ∧ Wk k c1 o.ot.den.2
 | .leaf e0 c0, hn, h => by
  obtain ⟨h1, m, h2⟩ := h
  have hw := CD.wk_ok h2
  cases e0 <;> cases e <;> simp only [exitIs] at h1 <;> simp only [OD.ot, OT.den]
  ·obtain ⟨a, _⟩ := guardB_b h1
   have := Nat.eq_of_beq_eq_true a
   subst this
   exact ⟨rfl, hw⟩
  ·exact ⟨trivial, hw⟩
  ·obtain ⟨a, b⟩ := h1
   subst a
   exact ⟨rfl, (guardB_b b).1, hw⟩
 | .ite b l r, hn, h => by
  simp only [OD.hit] at h
  have h := (iteB_iff _ _ _).1 h
  cases b
  ·exact OD.hit_den (o := r) hn (h.2 rfl)
  ·exact OD.hit_den (o := l) hn (h.1 rfl)

section
variable {P : Program} {tab : Tab}
theorem loop_W (ht : TabOK P tab) {fuel d n k : Nat} {b : Code} {X : Type} (cd : X → CD) (μ : X → Nat) (out : X → OD) (lw : X → LpW) (lp : X → LpF) (hl : ∀ x, AdL (lw x) (lp x)) (hlb : ∀ x, LpOK P none none n k (lp x) b)
  (h : ∀ x, cfgK (cd x) fun c => compW P (callW P (knW tab) fuel d) fuel none (lw x) b c (RoundW k cd μ out x)) (x : X) : CodeAt P none none n k (.loop b) (cd x).cfg (out x).ot.den.1 (out x).ot.den.2 :=
 loop_at (fun x => (cd x).cfg) μ (fun x => (out x).ot.den) (fun x => codeL_sound (call_sound (kn_ok ht) fuel d) fuel (lp x) b (hlb x)) (fun x => by
   obtain ⟨e, c1, h1, h2⟩ := compW_ad (callW_ad (kn_ad tab) (kn_no tab) fuel d) fuel none (hl x) b _ _ ((cfgK_iff _ _).1 (h x))
   refine ⟨e, c1, h1, ?_⟩
   unfold RoundW at h2
   cases hn : notNormal e with
   | false =>
     rw [hn] at h2
     cases e <;> simp [notNormal] at hn
     obtain ⟨x', g1, g2, m, g3⟩ := h2
     exact ⟨x', g1, CD.wk_ok g3, congrArg (fun o => o.ot.den) g2⟩
   | true =>
     rw [hn] at h2
     have := OD.hit_den hn h2
     cases e with
     | normal => exact this.elim
     | exit id => exact this
     | ret => exact this
     | pan v => exact this) x

def sameR (r : Nat) : Option Nat → Bool
 | some i => Nat.beq i r
 | none => false
def loopsIn (r : Nat) : Code → List Code
 | .loop b => bif sameR r (firstR b) then b :: loopsIn r b else loopsIn r b
 | .seq a b => loopsIn r a ++ loopsIn r b
 | .cond _ a b => loopsIn r a ++ loopsIn r b
 | .block _ b => loopsIn r b
 | .scope b => loopsIn r b
 | _ => []
def bodyOf (P : Program) (g : FuncId) : Code := match P.funcs[g]? with
 | some fn => (match fn.body with
   | some c => c
   | none => .skip)
 | none => .skip
def headC : List Code → Code
 | [] => .skip
 | b :: _ => b
def bodyAt (P : Program) (g : FuncId) (r : Nat) : Code := headC (loopsIn r (bodyOf P g))

structure LpD where
 r : Nat
 m : List (Nat × Nat)
 c : CD
 o : OD
def LpD.w (k : Nat) (l : LpD) : CW := fun c K => l.c.wk k l.m c ∧ l.o.w K
def LpD.f (k : Nat) (l : LpD) : Cfg → Option (EExit × Cfg) := cutF k l.c.cfg l.o.ot
def lpsW (k : Nat) : List LpD → LpW
 | [] => fun _ => none
 | l :: ls => fun id => bif Nat.beq l.r id then some (l.w k) else lpsW k ls id
def lpsF (k : Nat) : List LpD → LpF
 | [] => fun _ => none
 | l :: ls => fun id => bif Nat.beq l.r id then some (l.f k) else lpsF k ls id
theorem lps_ad (k : Nat) : ∀ ls : List LpD, AdL (lpsW k ls) (lpsF k ls)
 | [] => fun _ => rfl
 | l :: ls => fun id => by
  simp only [lpsW, lpsF]
  cases Nat.beq l.r id with
  | true => exact ⟨_, rfl, fun c K hk => ⟨_, _, by unfold LpD.f cutF; rw [if_pos (CD.wk_ok hk.1)], OD.w_den hk.2⟩⟩
  | false => exact lps_ad k ls id
theorem lpsF_mem {k : Nat} : ∀ {ls : List LpD} {id : Nat} {F : Cfg → Option (EExit × Cfg)}, lpsF k ls id = some F → ∃ l ∈ ls, l.r = id ∧ F = l.f k
 | [], id, F, h => by cases h
 | l :: ls, id, F, h => by
  simp only [lpsF] at h
  cases hb : Nat.beq l.r id with
  | true => rw [hb, cond_true] at h; cases h; exact ⟨l, List.mem_cons_self, Nat.eq_of_beq_eq_true hb, rfl⟩
  | false =>
   rw [hb, cond_false] at h
   obtain ⟨l', h1, h2⟩ := lpsF_mem h
   exact ⟨l', List.mem_cons_of_mem _ h1, h2⟩
theorem loopsIn_sub : ∀ {c : Code} {ro rr : Option Nat} {n k : Nat} {lp : LpF}, (∀ id F, lp id = some F → ∀ b ∈ loopsIn id c, CodeOK P ro rr n k (.loop b) F) → LpOK P ro rr n k lp c
 | .loop b, ro, rr, n, k, lp, h => by
  refine ⟨fun id F h1 h2 => h id F h2 b ?_, loopsIn_sub fun id F h2 b' hb' => h id F h2 b' ?_⟩
  ·simp [loopsIn, h1, sameR]
  ·simp only [loopsIn]
   cases sameR id (firstR b)
   ·exact hb'
   ·exact List.mem_cons_of_mem _ hb'
 | .seq a b, ro, rr, n, k, lp, h => ⟨loopsIn_sub fun id F h2 b' hb' => h id F h2 b' (List.mem_append_left _ hb'), loopsIn_sub fun id F h2 b' hb' => h id F h2 b' (List.mem_append_right _ hb')⟩
 | .cond _ a b, ro, rr, n, k, lp, h => ⟨loopsIn_sub fun id F h2 b' hb' => h id F h2 b' (List.mem_append_left _ hb'), loopsIn_sub fun id F h2 b' hb' => h id F h2 b' (List.mem_append_right _ hb')⟩
 | .block _ b, ro, rr, n, k, lp, h => loopsIn_sub (c := b) fun id F h2 b' hb' => h id F h2 b' (by simpa only [loopsIn] using hb')
 | .scope b, ro, rr, n, k, lp, h => loopsIn_sub (c := b) fun id F h2 b' hb' => h id F h2 b' (by simpa only [loopsIn] using hb')
 | .skip, _, _, _, _, _, _ => trivial
 | .label _, _, _, _, _, _, _ => trivial
 | .ret, _, _, _, _, _, _ => trivial
 | .exit _, _, _, _, _, _, _ => trivial
 | .goto _, _, _, _, _, _, _ => trivial
 | .refuse _, _, _, _, _, _, _ => trivial
 | .region .., _, _, _, _, _, _ => trivial
 | .rangeFunc .., _, _, _, _, _, _ => trivial
def LpD.ok (P : Program) (n k : Nat) (c : Code) (l : LpD) : Prop := ∀ b ∈ loopsIn l.r c, CodeAt P none none n k (.loop b) l.c.cfg l.o.ot.den.1 l.o.ot.den.2
theorem lps_ok {n k : Nat} {c : Code} {ls : List LpD} (h : ∀ l ∈ ls, l.ok P n k c) : LpOK P none none n k (lpsF k ls) c :=
 loopsIn_sub fun id F hF b hb => by
  obtain ⟨l, h1, rfl, rfl⟩ := lpsF_mem hF
  exact cutF_ok (h l h1 b hb)
theorem LpD.ok_one {n k : Nat} {c b : Code} {l : LpD} (hb : loopsIn l.r c = [b]) (h : CodeAt P none none n k (.loop b) l.c.cfg l.o.ot.den.1 l.o.ot.den.2) : l.ok P n k c := by
 intro b' hb'
 rw [hb] at hb'
 rw [List.mem_singleton.1 hb']
 exact h
theorem pure_of_loops (ht : TabOK P tab) {fuel d : Nat} {g : FuncId} {args : List V} {v : V} (ls : List LpD) (hls : ∀ n, ∀ l ∈ ls, l.ok P n 0 (bodyOf P g))
  (h : fnLW P (callW P (knW tab) fuel d) fuel (lpsW 0 ls) g args s0 (RetW v)) : PureAt P g args v :=
 pure_of_W ht (lps_ad 0 ls) (fun fn c n hf hc => by
   have hb : bodyOf P g = c := by simp only [bodyOf, hf, hc]
   rw [← hb]
   exact lps_ok (hls n)) h
theorem pure_of_loop (ht : TabOK P tab) {fuel d : Nat} {g : FuncId} {args : List V} {v : V} (r : Nat) {X : Type} (cd : X → CD) (μ : X → Nat) (out : X → OD) (x0 : X) (m : List (Nat × Nat)) (hr : loopsIn r (bodyOf P g) = [bodyAt P g r])
  (hround : ∀ x, cfgK (cd x) fun c => compW P (callW P (knW tab) fuel d) fuel none noLpW (bodyAt P g r) c (RoundW 0 cd μ out x))
  (h : fnLW P (callW P (knW tab) fuel d) fuel (lpsW 0 [⟨r, m, cd x0, out x0⟩]) g args s0 (RetW v)) : PureAt P g args v :=
 pure_of_loops ht _ (fun n l hl => by
   rw [List.mem_singleton.1 hl]
   exact LpD.ok_one hr (loop_W ht cd μ out (fun _ => noLpW) (fun _ => noLp) (fun _ => noLp_ad) (fun _ => noLp_ok _) hround x0)) h
end
end Go.Sym
end

noncomputable section
namespace Go.Sym

theorem rowAt_lt {e : List Ty} {L : List (rowDen e)} {i : Nat} (h : i < L.length) : rowAt e L i = L[i] := by
 unfold rowAt
 rw [List.getD_eq_getElem?_getD, List.getElem?_eq_getElem h]
 rfl
theorem size0 : ByteArray.size ⟨#[]⟩ = 0 := rfl
theorem wrap_u64 {n : Int} (h : 0 ≤ n) (h' : n < 18446744073709551616) : IntKind.u64.wrap n = n := by
 simp only [IntKind.wrap, IntKind.bits, IntKind.signed, Bool.false_and, Bool.false_eq_true, if_false]; omega
theorem PureAt.weak {P : Program} {g : FuncId} {args args' : List V} {v : V} (h : PureAt P g args v) (hw : ∀ (φ : Nat → Nat → Option Value) (X : List Value), LRel (envφ φ) args' X → LRel (envφ φ) args X) : PureAt P g args' v :=
 fun φ w A hφ hA => h φ w A hφ (hw φ _ hA)
theorem asL_eq {e e' : List Ty} {L : List (rowDen e')} {M : List (rowDen e)} (h : asL e e' L = some M) : ∃ q : e' = e, M = castL q L := by
 unfold asL at h
 split at h
 ·exact ⟨_, (Option.some.inj h).symm⟩
 ·cases h
theorem ofLst_rel {ρ : Env} {e : List Ty} {a : V} {L : List (rowDen e)} (h : ofLst e a = some L) {X : Value} (hX : VRel ρ a X) : VRel ρ (.lst e L false) X := by
 unfold ofLst at h
 split at h
 ·obtain ⟨q, rfl⟩ := asL_eq h
  subst q
  simp only [VRel] at hX ⊢
  obtain ⟨a, c, h1, h2, h3, h4, h5⟩ := hX
  exact ⟨a, c, h1, h2, fun h => (by cases h), h4, h5⟩
 ·cases h
  simp only [VRel] at hX ⊢
  exact ⟨none, 0, hX, Nat.le_refl _, fun h => (by cases h), fun _ => rfl, fun h => absurd h (Nat.lt_irrefl _)⟩
 ·cases h
theorem PureAt.lst {P : Program} {g : FuncId} {e : List Ty} {a : V} {L : List (rowDen e)} {pre rest : List V} {v : V} (h : PureAt P g (pre ++ .lst e L false :: rest) v) (ha : ofLst e a = some L) : PureAt P g (pre ++ a :: rest) v := by
 refine h.weak fun φ => ?_
 clear h
 induction pre with
 | nil =>
  rintro X ⟨x, Y, rfl, h1, h2⟩
  exact ⟨x, Y, rfl, ofLst_rel ha h1, h2⟩
 | cons b pre ih =>
  rintro X ⟨x, Y, rfl, h1, h2⟩
  exact ⟨x, Y, rfl, h1, ih Y h2⟩
theorem PureAt.lst0 {P : Program} {g : FuncId} {e : List Ty} {a : V} {L : List (rowDen e)} {rest : List V} {v : V} (h : PureAt P g (.lst e L false :: rest) v) (ha : ofLst e a = some L) : PureAt P g (a :: rest) v := PureAt.lst (pre := []) h ha
theorem seg_all {α : Type} (L : List α) {n : Nat} (h : L.length = n) : seg L 0 n = L := by subst h; simp [seg]
theorem castL_self {e : List Ty} (h : e = e) (L : List (rowDen e)) : castL h L = L := rfl
end Go.Sym
end

noncomputable section
namespace Go.Sym

noncomputable section
variable (P : Program)
end
section
variable {P : Program}
structure GL where
 f : FuncId
 k : Nat
 l : LpD
variable {tab : Tab}
end
end Go.Sym
end

noncomputable section
namespace Go.Sym
open Go.RowKit (Below)

noncomputable section
end
section
variable {P : Program}
theorem pure_of_K {kw : KnW} {known : ESelf} (hk : SelfOK P known) (ha : AdK kw known) (hn : NoK kw known) {fuel d : Nat} {g : FuncId} {args : List V} {v : V} (ls : List LpD) (hls : ∀ n, ∀ l ∈ ls, l.ok P n 0 (bodyOf P g))
  (h : fnLW P (callW P kw fuel d) fuel (lpsW 0 ls) g args s0 (RetW v)) : PureAt P g args v := by
 obtain ⟨e, s', h1, h2⟩ := fnLW_ad (callW_ad ha hn fuel d) fuel (lps_ad 0 ls) g args s0 _ h
 exact pure_of_run (tab := noTab) noTab_ok (call_sound hk fuel d) (fun fn c n hf hc => by
   have hb : bodyOf P g = c := by simp only [bodyOf, hf, hc]
   rw [← hb]
   exact lps_ok (hls n)) h1 h2
theorem loop_K {kw : KnW} {known : ESelf} (hk : SelfOK P known) (ha : AdK kw known) (hn : NoK kw known) {fuel d n k : Nat} {b : Code} {X : Type} (cd : X → CD) (μ : X → Nat) (out : X → OD) (ls : X → List LpD) (hls : ∀ x, ∀ l ∈ ls x, l.ok P n k b)
  (h : ∀ x, cfgK (cd x) fun c => compW P (callW P kw fuel d) fuel none (lpsW k (ls x)) b c (RoundW k cd μ out x)) (x : X) : CodeAt P none none n k (.loop b) (cd x).cfg (out x).ot.den.1 (out x).ot.den.2 :=
 loop_at (fun x => (cd x).cfg) μ (fun x => (out x).ot.den) (fun x => codeL_sound (call_sound hk fuel d) fuel (lpsF k (ls x)) b (lps_ok (hls x))) (fun x => by
   obtain ⟨e, c1, h1, h2⟩ := compW_ad (callW_ad ha hn fuel d) fuel none (lps_ad k (ls x)) b _ _ ((cfgK_iff _ _).1 (h x))
   refine ⟨e, c1, h1, ?_⟩
   unfold RoundW at h2
   cases hn : notNormal e with
   | false =>
     rw [hn] at h2
     cases e <;> simp [notNormal] at hn
     obtain ⟨x', g1, g2, m, g3⟩ := h2
     exact ⟨x', g1, CD.wk_ok g3, congrArg (fun o => o.ot.den) g2⟩
   | true =>
     rw [hn] at h2
     have := OD.hit_den hn h2
     cases e with
     | normal => exact this.elim
     | exit id => exact this
     | ret => exact this
     | pan v => exact this) x

end
end Go.Sym
end

noncomputable section
namespace Go.Sym

noncomputable section
mutual
@[reducible] def pairV : V → V → List (Nat × Nat)
 | .ptr b _, w => (match w with
   | .ptr c _ => [(b, c)]
   | _ => [])
 | .rptr b _ _ _, w => (match w with
   | .rptr c _ _ _ => [(b, c)]
   | _ => [])
 | .sl b _ _ _ _ _, w => (match w with
   | .sl c _ _ _ _ _ => [(b, c)]
   | _ => [])
 | .rs b _ _ _ _ _, w => (match w with
   | .rs c _ _ _ _ _ => [(b, c)]
   | _ => [])
 | .map b, w => (match w with
   | .map c => [(b, c)]
   | _ => [])
 | .yld b, w => (match w with
   | .yld c => [(b, c)]
   | _ => [])
 | .iface _ v, w => (match w with
   | .iface _ u => pairV v u
   | _ => [])
 | .agg l, w => (match w with
   | .agg m => pairL l m
   | _ => [])
 | .tup l, w => (match w with
   | .tup m => pairL l m
   | _ => [])
 | .fn _ a c, w => (match w with
   | .fn _ a' c' => pairL a a' ++ pairL c c'
   | _ => [])
 | _, _ => []
@[reducible] def pairL : List V → List V → List (Nat × Nat)
 | [], _ => []
 | v :: l, m => (match m with
   | w :: m => pairV v w ++ pairL l m
   | [] => [])
end
@[reducible] def pairS (f : Frm) (l : List (Nat × V)) : List (Nat × Nat) := @List.rec (Nat × V) (fun _ => List (Nat × Nat)) [] (fun e _ ih => @Prod.rec Nat V (fun _ => List (Nat × Nat)) (fun k v => lapp (pairV v (f.get k)) ih) e) l
@[reducible] def objN (b : Nat) : List (Nat × EObj) → Option EObj
 | [] => none
 | (k, x) :: l => bif Nat.beq k b then some x else objN b l
@[reducible] def pairOb : Option EObj → Option EObj → List (Nat × Nat)
 | some (.cells cs _ _), o => (match o with
   | some (.cells ds _ _) => pairL cs ds
   | _ => [])
 | some (.mit m _ _ _), o => (match o with
   | some (.mit m1 _ _ _) => [(m, m1)]
   | _ => [])
 | some (.loop r), o => (match o with
   | some (.loop q) => [(r.defers, q.defers)]
   | _ => [])
 | _, _ => []
@[reducible] def seenN (b : Nat) : List (Nat × Nat) → Bool
 | [] => false
 | e :: l => bif Nat.beq e.1 b then true else seenN b l
@[reducible] def growM (h : List (Nat × EObj)) (h1 : T EObj) (n : Nat) : List (Nat × Nat) → List (Nat × Nat) → List (Nat × Nat) :=
 @Nat.rec (fun _ => List (Nat × Nat) → List (Nat × Nat) → List (Nat × Nat)) (fun _ acc => acc)
  (fun _ ih pend acc => @List.rec (Nat × Nat) (fun _ => List (Nat × Nat)) acc (fun e l _ => @Bool.rec (fun _ => List (Nat × Nat))
    (@Option.rec EObj (fun _ => List (Nat × Nat)) (ih l acc) (fun o => ih (lapp (pairOb (objN e.1 h) (some o)) l) (lapp acc [e])) (h1.get e.2)) (ih l acc) (seenN e.1 acc)) pend) n
@[reducible] def idK (k : Nat) (l : List (Nat × EObj)) : List (Nat × Nat) := @List.rec (Nat × EObj) (fun _ => List (Nat × Nat)) [] (fun e _ ih => @Prod.rec Nat EObj (fun _ => List (Nat × Nat)) (fun b _ => @Bool.rec (fun _ => List (Nat × Nat)) ih ((b, b) :: ih) (Nat.blt b k)) e) l
@[reducible] def autoM (k : Nat) (c : CD) (c1 : Cfg) : List (Nat × Nat) := growM c.h c1.st.heap 60 (lapp (idK k c.h) (pairS c1.tmps c.l)) []
@[reducible] def keepM (k : Nat) (l : List (Nat × Nat)) : List (Nat × Nat) := @List.rec (Nat × Nat) (fun _ => List (Nat × Nat)) [] (fun e _ ih => @Bool.rec (fun _ => List (Nat × Nat)) (e :: ih) ih (Nat.blt e.1 k)) l
end
theorem seg_len {α : Type} (L : List α) (lo len : Nat) : (seg L lo len).length = min (lo + len) L.length - lo := by
 unfold seg
 rw [List.length_drop, List.length_take]
theorem rowAt_one (k : IntKind) (x : Int) : @Eq Int (rowAt [.int k] ([x] : List Int) 0) x := rfl
theorem rowAt_oneS (x : ByteArray) : @Eq ByteArray (rowAt [.str] ([x] : List ByteArray) 0) x := rfl
theorem bs_app (a b : ByteArray) : (a ++ b).size = a.size + b.size := ByteArray.size_append
theorem strOf_size (l : List Int) : (strOf l).size = l.length := by
 unfold strOf
 show (l.map fun n => UInt8.ofNat n.toNat).toArray.size = _
 rw [List.size_toArray, List.length_map]
theorem bytesL_len (s : ByteArray) : (bytesL s).length = s.size := by
 unfold bytesL
 rw [List.length_map, Array.length_toList]; rfl
theorem lens : (∀ {e : List Ty} (h : e = e) (L : List (rowDen e)), castL h L = L) ∧ (∀ {α : Type} (L : List α) (lo len : Nat), (seg L lo len).length = min (lo + len) L.length - lo) ∧
  (∀ (k : IntKind) (x : Int), @Eq Int (rowAt [.int k] ([x] : List Int) 0) x) ∧ (∀ x : ByteArray, @Eq ByteArray (rowAt [.str] ([x] : List ByteArray) 0) x) ∧
  (∀ {α : Type} {a b : List α}, (a ++ b).length = a.length + b.length) ∧ (∀ {α : Type} {a : α} {l : List α}, (a :: l).length = l.length + 1) ∧ (∀ {α : Type}, ([] : List α).length = 0) ∧
  (∀ {α : Type} {i : Nat} {l : List α}, (l.drop i).length = l.length - i) ∧ (∀ {α : Type} {i : Nat} {l : List α}, (l.take i).length = min i l.length) ∧ (∀ {α : Type} {l : List α} {i : Nat}, (l.eraseIdx i).length = if i < l.length then l.length - 1 else l.length) ∧
  (∀ {α : Type} {n : Nat} {a : α}, (List.replicate n a).length = n) ∧ (∀ {s : ByteArray} {i j : Nat}, (s.extract i j).size = min j s.size - i) ∧ (∀ (s : ByteArray) (i j : Nat), (cutS s i j).size = min j s.size - i) ∧ (∀ a b : ByteArray, (a ++ b).size = a.size + b.size) ∧
  (∀ l : List Int, (strOf l).size = l.length) ∧ (∀ s : ByteArray, (bytesL s).length = s.size) ∧ (∀ a b : Int, maxI a b = max a b) :=
 ⟨castL_self, seg_len, rowAt_one, rowAt_oneS, List.length_append, List.length_cons, List.length_nil, List.length_drop, List.length_take, List.length_eraseIdx, List.length_replicate, ByteArray.size_extract, cutS_size, bs_app, strOf_size, bytesL_len, maxI_eq⟩
theorem andB_room {n b : Nat} {q : Prop} (hb : Nat.ble b 65536 = true) (hn : n ≤ 1000000000) (k : q) : @Bool.rec (fun _ => Prop) False q (roomB n b) := by
 refine andB_i ((roomB_iff n b).2 ?_) k
 have h1 : b ≤ 65536 := Nat.le_of_ble_eq_true hb
 have h2 := Nat.mul_le_mul (show 2 * n + 768 ≤ 2000000768 by omega) h1
 omega
theorem iteB_bt {b : Bool} {p q : Prop} (k : @Bool.rec (fun _ => Prop) q p b) : @Bool.rec (fun _ => Prop) q p (true == b) := by cases b <;> exact k
theorem iteB_bf {b : Bool} {p q : Prop} (k : @Bool.rec (fun _ => Prop) p q b) : @Bool.rec (fun _ => Prop) q p (false == b) := by cases b <;> exact k
theorem iteB_tb {b : Bool} {p q : Prop} (k : @Bool.rec (fun _ => Prop) q p b) : @Bool.rec (fun _ => Prop) q p (b == true) := by cases b <;> exact k
theorem iteB_fb {b : Bool} {p q : Prop} (k : @Bool.rec (fun _ => Prop) p q b) : @Bool.rec (fun _ => Prop) q p (b == false) := by cases b <;> exact k
theorem CD.wk_au {k : Nat} {c : CD} {c1 : Cfg} (h : forceM (keepM k (autoM k c c1)) fun m => c.wk k m c1) : ∃ m, c.wk k m c1 := ⟨_, (forceM_iff _ _).1 h⟩
inductive W1 : Prop → Prop
 | t : W1 True
 | n {b : Bool} {p q : Prop} (k : @Bool.rec (fun _ => Prop) p q b) : W1 (@Bool.rec (fun _ => Prop) q p (!b))
 | ct {b c : Bool} {p q : Prop} (k : @Bool.rec (fun _ => Prop) q p b) : W1 (@Bool.rec (fun _ => Prop) q p (bif true then b else c))
 | cf {b c : Bool} {p q : Prop} (k : @Bool.rec (fun _ => Prop) q p c) : W1 (@Bool.rec (fun _ => Prop) q p (bif false then b else c))
 | bt {b : Bool} {p q : Prop} (k : @Bool.rec (fun _ => Prop) q p b) : W1 (@Bool.rec (fun _ => Prop) q p (true == b))
 | bf {b : Bool} {p q : Prop} (k : @Bool.rec (fun _ => Prop) p q b) : W1 (@Bool.rec (fun _ => Prop) q p (false == b))
 | tb {b : Bool} {p q : Prop} (k : @Bool.rec (fun _ => Prop) q p b) : W1 (@Bool.rec (fun _ => Prop) q p (b == true))
 | fb {b : Bool} {p q : Prop} (k : @Bool.rec (fun _ => Prop) p q b) : W1 (@Bool.rec (fun _ => Prop) q p (b == false))
theorem W1.o {p : Prop} (h : W1 p) : p := by
 cases h with
 | t => exact True.intro
 | n k => exact iteB_n k
 | ct k => exact k
 | cf k => exact k
 | bt k => exact iteB_bt k
 | bf k => exact iteB_bf k
 | tb k => exact iteB_tb k
 | fb k => exact iteB_fb k
inductive W2 : Prop → Prop
 | a {n : Int} {q : Prop} (h : -9223372036854775808 ≤ n ∧ n ≤ 9223372036854775807) (k : q) : W2 (@Bool.rec (fun _ => Prop) False q (inI n))
 | b {p : Prop} [Decidable p] {q : Prop} (h : p) (k : q) : W2 (@Bool.rec (fun _ => Prop) False q (decide p))
 | c {a b : Int} {q : Prop} (h : a < b) (k : q) : W2 (@Bool.rec (fun _ => Prop) False q (ltI a b))
 | d {a b : Int} {q : Prop} (h : a ≤ b) (k : q) : W2 (@Bool.rec (fun _ => Prop) False q (leI a b))
 | e {a b : Int} {p q : Prop} (h : a < b) (k : p) : W2 (@Bool.rec (fun _ => Prop) q p (ltI a b))
 | f {a b : Int} {p q : Prop} (h : a ≤ b) (k : p) : W2 (@Bool.rec (fun _ => Prop) q p (leI a b))
 | g {c : Prop} [Decidable c] {p q : Prop} (h : c) (k : p) : W2 (@Bool.rec (fun _ => Prop) q p (decide c))
theorem W2.o {p : Prop} (h : W2 p) : p := by
 cases h with
 | a h k => exact andB_in h k
 | b h k => exact andB_d h k
 | c h k => exact andB_lt h k
 | d h k => exact andB_le h k
 | e h k => exact iteB_ltt h k
 | f h k => exact iteB_let h k
 | g h k => exact iteB_dt h k
inductive W3 : Prop → Prop
 | a {a b : Int} {p q : Prop} (h : ¬ a < b) (k : q) : W3 (@Bool.rec (fun _ => Prop) q p (ltI a b))
 | b {a b : Int} {p q : Prop} (h : ¬ a ≤ b) (k : q) : W3 (@Bool.rec (fun _ => Prop) q p (leI a b))
 | c {c : Prop} [Decidable c] {p q : Prop} (h : ¬ c) (k : q) : W3 (@Bool.rec (fun _ => Prop) q p (decide c))
theorem W3.o {p : Prop} (h : W3 p) : p := by
 cases h with
 | a h k => exact iteB_ltf h k
 | b h k => exact iteB_lef h k
 | c h k => exact iteB_df h k
inductive W4 : Prop → Prop
 | a {b : Bool} {q : Prop} (h : b = true) (k : q) : W4 (@Bool.rec (fun _ => Prop) False q b)
 | b {b : Bool} {p q : Prop} (h : b = true) (k : p) : W4 (@Bool.rec (fun _ => Prop) q p b)
theorem W4.o {p : Prop} (h : W4 p) : p := by
 cases h with
 | a h k => exact andB_i h k
 | b h k => exact iteB_t h k
inductive W5 : Prop → Prop
 | a {n : Int} {q : Prop} (h : -9223372036854775808 ≤ n ∧ n ≤ 9223372036854775807) (k : q) : W5 (@Bool.rec (fun _ => Prop) False q (inI n))
 | b {a b : Int} {q : Prop} (h : a < b) (k : q) : W5 (@Bool.rec (fun _ => Prop) False q (ltI a b))
 | c {a b : Int} {q : Prop} (h : a ≤ b) (k : q) : W5 (@Bool.rec (fun _ => Prop) False q (leI a b))
 | d {p : Prop} [Decidable p] {q : Prop} (h : p) (k : q) : W5 (@Bool.rec (fun _ => Prop) False q (decide p))
 | e {b : Bool} {q : Prop} (h : b = true) (k : q) : W5 (@Bool.rec (fun _ => Prop) False q b)
 | f {k : Nat} {c : CD} {c1 : Cfg} (h : c.wk k (idm c.h) c1) : W5 (∃ m, c.wk k m c1)
 | g {a b : Prop} (h : a) (k : b) : W5 (a ∧ b)
theorem W5.o {p : Prop} (h : W5 p) : p := by
 cases h with
 | a h k => exact andB_in h k
 | b h k => exact andB_lt h k
 | c h k => exact andB_le h k
 | d h k => exact andB_d h k
 | e h k => exact andB_i h k
 | f h => exact CD.wk_as h
 | g h k => exact ⟨h, k⟩
inductive W6 : Prop → Prop
 | a {a b : Int} {p q : Prop} (h : a < b → p) (k : ¬ a < b → q) : W6 (@Bool.rec (fun _ => Prop) q p (ltI a b))
 | b {a b : Int} {p q : Prop} (h : a ≤ b → p) (k : ¬ a ≤ b → q) : W6 (@Bool.rec (fun _ => Prop) q p (leI a b))
 | c {c : Prop} [Decidable c] {p q : Prop} (h : c → p) (k : ¬ c → q) : W6 (@Bool.rec (fun _ => Prop) q p (decide c))
 | d {b : Bool} {p q : Prop} (h : b = true → p) (k : b = false → q) : W6 (@Bool.rec (fun _ => Prop) q p b)
theorem W6.o {p : Prop} (h : W6 p) : p := by
 cases h with
 | a h k => exact iteB_lts h k
 | b h k => exact iteB_les h k
 | c h k => exact iteB_ds h k
 | d h k => exact iteB_s h k
theorem pms : (∀ a b : Int, maxI a b = max a b) ∧ pmGet = pmGet0 ∧ pmHas = pmHas0 ∧ pmPut = pmPut0 ∧ pmClk = pmClk0 ∧ pmDel = pmDel0 := ⟨maxI_eq, pmGet_eq, pmHas_eq, pmPut_eq, pmClk_eq, pmDel_eq⟩
end Go.Sym
end

noncomputable section
namespace Go.Proofs.Ytaloolcabmfjbaa
open Go.Sym
def encU (n : Nat) : ByteArray := ⟨(Wire.enc n).toArray⟩
def numT : Int → ByteArray := hide fun n => encU (n.toNat % 18446744073709551616)
def txtT : ByteArray → ByteArray := hide fun t => encU (t.size % 18446744073709551616) ++ t
theorem numT_eq0 (n : Int) : numT n = encU (n.toNat % 18446744073709551616) := by unfold numT; rw [hide_eq]
theorem numT_eq {n : Int} (h : n < 18446744073709551616) : numT n = encU n.toNat := by rw [numT_eq0, Nat.mod_eq_of_lt (by omega)]
theorem txtT_eq (t : ByteArray) : txtT t = numT t.size ++ t := by unfold txtT; rw [hide_eq, numT_eq0]; rfl
theorem encU_list (n : Nat) : (encU n).data.toList = Wire.enc n := rfl
theorem numT_size (n : Int) : 1 ≤ (numT n).size ∧ (numT n).size ≤ 9 := by
 rw [numT_eq0]
 have e : (encU (n.toNat % 18446744073709551616)).size = (Wire.enc (n.toNat % 18446744073709551616)).length := List.size_toArray
 rw [e]
 exact Wire.enc_length (by omega)
theorem numT_le (n : Int) : (numT n).size ≤ 9 := (numT_size n).2
theorem txtT_size (t : ByteArray) : t.size + 1 ≤ (txtT t).size ∧ (txtT t).size ≤ t.size + 9 := by
 have := numT_size (t.size : Int)
 rw [txtT_eq, ByteArray.size_append]; omega
theorem txtT_le (t : ByteArray) : (txtT t).size ≤ t.size + 9 := (txtT_size t).2
theorem ba_ext {a b : ByteArray} (h : a.data.toList = b.data.toList) : a = b := by
 cases a; cases b; simp at h; rw [h]
def numV : ByteArray → Int := hide fun s => (((Wire.numP s.data.toList).1 : Nat) : Int)
def numB : ByteArray → Bool := hide fun s => (Wire.numP s.data.toList).2.1
def numR : ByteArray → ByteArray := hide fun s => ⟨(Wire.numP s.data.toList).2.2.toArray⟩
theorem numV_eq (s : ByteArray) : numV s = (((Wire.numP s.data.toList).1 : Nat) : Int) := by unfold numV; rw [hide_eq]
theorem numB_eq (s : ByteArray) : numB s = (Wire.numP s.data.toList).2.1 := by unfold numB; rw [hide_eq]
theorem numR_eq (s : ByteArray) : numR s = ⟨(Wire.numP s.data.toList).2.2.toArray⟩ := by unfold numR; rw [hide_eq]
theorem num_is {s : ByteArray} {n : Nat} {b : Bool} {r : ByteArray} (h : Wire.numP s.data.toList = (n, b, r.data.toList)) : numV s = n ∧ numB s = b ∧ numR s = r := by
 rw [numV_eq, numB_eq, numR_eq, h]
 exact ⟨rfl, rfl, rfl⟩
theorem num_bad {s : ByteArray} (h : Wire.numP s.data.toList = (0, true, [])) : numV s = 0 ∧ numB s = true ∧ numR s = ⟨#[]⟩ := num_is (r := ⟨#[]⟩) h
theorem numR_size (s : ByteArray) : (numR s).size ≤ s.size := by
 rw [numR_eq]
 have := Wire.numP_left s.data.toList
 rw [Array.length_toList] at this
 show (Wire.numP s.data.toList).2.2.toArray.size ≤ _
 rw [List.size_toArray]
 exact this
theorem numV_in (s : ByteArray) : 0 ≤ numV s ∧ numV s < 18446744073709551616 := by
 have := Wire.numP_lt s.data.toList
 rw [numV_eq]; omega
theorem num_enc {s : ByteArray} (h : numB s = false) : s = numT (numV s) ++ numR s := by
 rw [numB_eq] at h
 have e := Wire.numP_enc _ h
 rw [numT_eq (numV_in s).2, numV_eq, numR_eq, Int.toNat_natCast]
 refine ba_ext ?_
 rw [ByteArray.data_append, Array.toList_append, encU_list]
 exact e
theorem num_less {s : ByteArray} (h : numB s = false) : (numR s).size + 1 ≤ s.size := by
 have e := congrArg ByteArray.size (num_enc h)
 have h2 := numT_size (numV s)
 rw [ByteArray.size_append] at e
 omega
theorem val_be : ∀ (k n : Nat), n < 256 ^ k → Wire.val (Wire.be k n) = n
 | 0, n, h => by
  have : n = 0 := by simpa using h
  subst this; rfl
 | k + 1, n, h => by
  rw [Nat.pow_succ] at h
  rw [Wire.be, Wire.val_snoc, val_be k (n / 256) (by omega)]
  have : (UInt8.ofNat (n % 256)).toNat = n % 256 := by simp
  rw [this]; omega
theorem numP_back {n : Nat} (h : n < 2 ^ 64) (t : List UInt8) : Wire.numP (Wire.enc n ++ t) = (n, false, t) := by
 by_cases h8 : n < 248
 ·rw [Wire.enc, if_pos h8]
  have e : (UInt8.ofNat n).toNat = n := by simp; omega
  have := Wire.numP_small (UInt8.ofNat n) t (by rw [e]; exact h8)
  rw [e] at this; exact this
 ·have hs := Wire.sz_8 h
  have hs1 := Wire.sz_one (n := n) (by omega)
  have e : (UInt8.ofNat (247 + Wire.sz n)).toNat = 247 + Wire.sz n := by simp; omega
  have hk : (UInt8.ofNat (247 + Wire.sz n)).toNat - 247 = Wire.sz n := by omega
  have ht : (Wire.be (Wire.sz n) n ++ t).take (Wire.sz n) = Wire.be (Wire.sz n) n := by
   have := List.take_left (l₁ := Wire.be (Wire.sz n) n) (l₂ := t)
   rw [Wire.be_length] at this; exact this
  have hd : (Wire.be (Wire.sz n) n ++ t).drop (Wire.sz n) = t := by
   have := List.drop_left (l₁ := Wire.be (Wire.sz n) n) (l₂ := t)
   rw [Wire.be_length] at this; exact this
  have hv := val_be _ n (Wire.sz_lt n)
  have he : Wire.enc n = UInt8.ofNat (247 + Wire.sz n) :: Wire.be (Wire.sz n) n := by rw [Wire.enc, if_neg h8]
  rw [he, List.cons_append, Wire.numP, Wire.readNum, if_neg (by omega), if_neg (by rw [List.length_append, Wire.be_length]; omega), hk, ht, hd, hv, if_pos he]
theorem num_back {n : Int} (h0 : 0 ≤ n) (h : n < 18446744073709551616) (t : ByteArray) : numV (numT n ++ t) = n ∧ numB (numT n ++ t) = false ∧ numR (numT n ++ t) = t := by
 have e : Wire.numP (numT n ++ t).data.toList = (n.toNat, false, t.data.toList) := by
  rw [numT_eq h, ByteArray.data_append, Array.toList_append, encU_list]
  exact numP_back (by omega) _
 have h1 := num_is e
 rw [Int.toNat_of_nonneg h0] at h1; exact h1
def txW : ByteArray → Bool := hide fun s => decide (((numR s).size : Int) < numV s)
def txV : ByteArray → ByteArray := hide fun s => bif txW s then ⟨#[]⟩ else (numR s).extract 0 (numV s).toNat
def txB : ByteArray → Bool := hide fun s => txW s || numB s
def txR : ByteArray → ByteArray := hide fun s => bif txW s then ⟨#[]⟩ else (numR s).extract (numV s).toNat (numR s).size
theorem txW_eq (s : ByteArray) : txW s = decide (((numR s).size : Int) < numV s) := by unfold txW; rw [hide_eq]
theorem txV_eq (s : ByteArray) : txV s = bif txW s then ⟨#[]⟩ else (numR s).extract 0 (numV s).toNat := by unfold txV; rw [hide_eq]
theorem txB_eq (s : ByteArray) : txB s = (txW s || numB s) := by unfold txB; rw [hide_eq]
theorem txR_eq (s : ByteArray) : txR s = bif txW s then ⟨#[]⟩ else (numR s).extract (numV s).toNat (numR s).size := by unfold txR; rw [hide_eq]
theorem txR_size (s : ByteArray) : (txR s).size ≤ s.size := by
 have hr := numR_size s
 rw [txR_eq]
 cases txW s
 ·rw [cond_false, ByteArray.size_extract]; omega
 ·exact Nat.zero_le _
theorem txV_size (s : ByteArray) : (txV s).size ≤ s.size := by
 have hr := numR_size s
 rw [txV_eq]
 cases txW s
 ·rw [cond_false, ByteArray.size_extract]; omega
 ·exact Nat.zero_le _
theorem txt_less {s : ByteArray} (h : txB s = false) : (txR s).size + 1 ≤ s.size := by
 rw [txB_eq, Bool.or_eq_false_iff] at h
 have hr := num_less h.2
 rw [txR_eq, h.1, cond_false, ByteArray.size_extract]; omega
theorem ext_app_l (a b : ByteArray) : (a ++ b).extract 0 a.size = a := by
 have e : a.size = a.data.toList.length := (Array.length_toList).symm
 refine ba_ext ?_
 rw [ByteArray.data_extract, ByteArray.data_append, Array.toList_extract, Array.toList_append, List.extract_eq_take_drop, List.drop_zero, e, Nat.sub_zero, List.take_left]
theorem ext_app_r (a b : ByteArray) : (a ++ b).extract a.size (a ++ b).size = b := by
 have e : a.size = a.data.toList.length := (Array.length_toList).symm
 have e2 : b.size = b.data.toList.length := (Array.length_toList).symm
 refine ba_ext ?_
 rw [ByteArray.size_append, ByteArray.data_extract, ByteArray.data_append, Array.toList_extract, Array.toList_append, List.extract_eq_take_drop, e, List.drop_left, e2, Nat.add_sub_cancel_left, List.take_length]
theorem txt_back {x : ByteArray} (h : x.size < 18446744073709551616) (t : ByteArray) : txV (txtT x ++ t) = x ∧ txB (txtT x ++ t) = false ∧ txR (txtT x ++ t) = t := by
 obtain ⟨e1, e2, e3⟩ := num_back (n := (x.size : Int)) (by omega) (by omega) (x ++ t)
 rw [txtT_eq, ByteArray.append_assoc, txV_eq, txB_eq, txR_eq, txW_eq, e1, e2, e3, Int.toNat_natCast]
 have hd : decide (((x ++ t).size : Int) < (x.size : Int)) = false := decide_eq_false (by rw [ByteArray.size_append]; omega)
 rw [hd, cond_false, cond_false]
 exact ⟨ext_app_l x t, rfl, ext_app_r x t⟩
end Go.Proofs.Ytaloolcabmfjbaa
end

noncomputable section
namespace Go.Proofs.Ytaloolcabmfjbaa
open Go.Sym
theorem wrap_u64' {n : Int} (h0 : 0 ≤ n) (h : n < 18446744073709551616) : IntKind.u64.wrap n = n := wrap_u64 h0 h
def lorU (x b : Int) : Int := IntKind.u64.wrap (Int.ofNat (Nat.lor (ofI .u64 ((x * 2 ^ (min (Int.toNat 8) 64)) % 18446744073709551616)) (ofI .u64 (b % 18446744073709551616))))
theorem lorU_eq (x b : Nat) (hx : x < 2 ^ 56) (hb : b < 256) : lorU x b = ((x * 256 + b : Nat) : Int) := by
 have e1 : ((x : Int) * 2 ^ min (Int.toNat 8) 64) % 18446744073709551616 = ((x * 256 : Nat) : Int) := by
  rw [show ((x : Int) * 2 ^ min (Int.toNat 8) 64) = ((x * 256 : Nat) : Int) by rw [Int.natCast_mul]; rfl]
  omega
 have e2 : (b : Int) % 18446744073709551616 = (b : Int) := by omega
 have e3 : ∀ q : Nat, q < 2 ^ 64 → ofI .u64 (q : Int) = q := fun q hq => by
  have h : ((ofI .u64 (q : Int) : Nat) : Int) = (q : Int) % ((kM .u64 : Nat) : Int) := modN_eq (kM .u64) (by decide) q
  have hk : ((kM .u64 : Nat) : Int) = 18446744073709551616 := rfl
  rw [hk] at h
  omega
 unfold lorU
 rw [e1, e2, e3 _ (by omega), e3 _ (by omega)]
 have e4 : Nat.lor (x * 256) b = x * 256 + b := by
  have := Nat.two_pow_add_eq_or_of_lt (i := 8) (b := b) (by omega) x
  rw [Nat.mul_comm x 256]
  exact this.symm
 rw [e4]
 exact wrap_u64' (by simp only [Int.ofNat_eq_natCast]; omega) (by simp only [Int.ofNat_eq_natCast]; omega)
def numS : ByteArray → Nat → Int := hide fun s k => ((Wire.val (s.data.toList.take k) : Nat) : Int)
theorem numS_eq (s : ByteArray) (k : Nat) : numS s k = ((Wire.val (s.data.toList.take k) : Nat) : Int) := by unfold numS; rw [hide_eq]
theorem numS_0 (s : ByteArray) : numS s 0 = 0 := by rw [numS_eq]; rfl
theorem val_take_lt (s : ByteArray) (k : Nat) : Wire.val (s.data.toList.take k) < 256 ^ k := by
 have h1 := (Wire.be_snoc_val (s.data.toList.take k) _ rfl).2
 exact Nat.lt_of_lt_of_le h1 (Wire.pow_mono (by rw [List.length_take]; omega))
theorem bAt_get (s : ByteArray) (i : Nat) (h : i < s.size) : bAt s i = (((s.data.toList[i]'(by rw [Array.length_toList]; exact h)).toNat : Nat) : Int) := by
 unfold bAt
 rw [List.getD_eq_getElem?_getD, List.getElem?_eq_getElem (by rw [Array.length_toList]; exact h)]
 rfl
theorem bAt_in (s : ByteArray) (i : Nat) : 0 ≤ bAt s i ∧ bAt s i < 256 := by
 unfold bAt
 have := UInt8.toNat_lt (s.data.toList.getD i 0)
 omega
theorem numS_succ (s : ByteArray) (k : Nat) (h : k < 7 ∨ k = 7) (h2 : k < s.size) : lorU (numS s k) (bAt s k) = numS s (k + 1) := by
 have hlt : k < s.data.toList.length := by rw [Array.length_toList]; exact h2
 have h3 := val_take_lt s k
 have h4 := Wire.pow_mono (a := k) (b := 7) (by omega)
 have h256 := UInt8.toNat_lt (s.data.toList[k])
 have h7 : (256 : Nat) ^ 7 = 2 ^ 56 := by decide
 rw [bAt_get s k h2, numS_eq, numS_eq, lorU_eq _ _ (by omega) (by omega), List.take_succ_eq_append_getElem hlt, Wire.val_snoc]
def rst (s : ByteArray) : ByteArray := cutS s 1 s.size
theorem rst_size (s : ByteArray) : (rst s).size = s.size - 1 := by unfold rst; rw [cutS_size]; omega
theorem rd_cons (s : ByteArray) (h : 0 < s.size) : s.data.toList = (s.data.toList[0]'(by rw [Array.length_toList]; exact h)) :: (rst s).data.toList := by
 have hl : 0 < s.data.toList.length := by rw [Array.length_toList]; exact h
 unfold rst
 rw [cutS_eq, ByteArray.data_extract, Array.toList_extract, List.extract_eq_take_drop]
 have e2 : s.size - 1 = (s.data.toList.drop 1).length := by rw [List.length_drop, Array.length_toList]; rfl
 rw [e2, List.take_length]
 have := List.drop_eq_getElem_cons hl
 rw [List.drop_zero] at this
 exact this
theorem rd_nil : numV ⟨#[]⟩ = 0 ∧ numB ⟨#[]⟩ = true ∧ numR ⟨#[]⟩ = ⟨#[]⟩ := num_bad rfl
theorem rd_small (s : ByteArray) (h : 0 < s.size) (hc : bAt s 0 < 248) : numV s = bAt s 0 ∧ numB s = false ∧ numR s = rst s := by
 rw [bAt_get s 0 h] at hc ⊢
 refine num_is ?_
 have e := rd_cons s h
 have := Wire.numP_small (s.data.toList[0]'(by rw [Array.length_toList]; exact h)) (rst s).data.toList (by omega)
 rw [← e] at this
 exact this
section
variable (s : ByteArray) (k : Nat) (h : 0 < s.size) (hc : bAt s 0 = 247 + k) (hk0 : 0 < k)
include h hc hk0
theorem rd_short (hk : (rst s).size < k) : numV s = 0 ∧ numB s = true ∧ numR s = ⟨#[]⟩ := by
 rw [bAt_get s 0 h] at hc
 refine num_bad ?_
 rw [rd_cons s h]
 exact Wire.numP_short _ _ (by omega) (by rw [Array.length_toList]; have : (rst s).data.size = (rst s).size := rfl; omega)
theorem rd_zero (hp : 0 < (rst s).size) (h0 : bAt (rst s) 0 = 0) : numV s = 0 ∧ numB s = true ∧ numR s = ⟨#[]⟩ := by
 have hl : 0 < (rst s).data.toList.length := by rw [Array.length_toList]; exact hp
 rw [bAt_get s 0 h] at hc
 rw [bAt_get _ 0 hp] at h0
 refine num_bad ?_
 rw [rd_cons s h]
 refine Wire.numP_zero _ _ (by omega) ?_
 rw [List.head?_eq_getElem?, List.getElem?_eq_getElem hl]
 exact congrArg some (UInt8.toNat_inj.1 (by show _ = 0; omega))
theorem rd_low (hk : k ≤ (rst s).size) (hv : numS (rst s) k < 248) : numV s = 0 ∧ numB s = true ∧ numR s = ⟨#[]⟩ := by
 rw [numS_eq] at hv
 rw [bAt_get s 0 h] at hc
 have e : (s.data.toList[0]'(by rw [Array.length_toList]; exact h)).toNat - 247 = k := by omega
 refine num_bad ?_
 rw [rd_cons s h]
 exact Wire.numP_low _ _ (by omega) (by rw [Array.length_toList, e]; exact Nat.not_lt.2 hk) (by rw [e]; omega)
theorem rd_good (hk : k ≤ (rst s).size) (h0 : ¬ bAt (rst s) 0 = 0) (hv : 248 ≤ numS (rst s) k) :
  numV s = numS (rst s) k ∧ numB s = false ∧ numR s = cutS (rst s) k (rst s).size := by
 have hl : 0 < (rst s).data.toList.length := by rw [Array.length_toList]; have : (rst s).data.size = (rst s).size := rfl; omega
 rw [numS_eq] at hv ⊢
 rw [bAt_get s 0 h] at hc
 rw [bAt_get _ 0 (by omega)] at h0
 have e : (s.data.toList[0]'(by rw [Array.length_toList]; exact h)).toNat - 247 = k := by omega
 have hg := Wire.numP_good (s.data.toList[0]'(by rw [Array.length_toList]; exact h)) (rst s).data.toList (by omega) (by rw [Array.length_toList, e]; exact Nat.not_lt.2 hk) (by rw [List.head?_eq_getElem?, List.getElem?_eq_getElem hl]; intro hh; apply h0; rw [Option.some.inj hh]; rfl) (by rw [e]; omega)
 rw [e] at hg
 have hr : (cutS (rst s) k (rst s).size).data.toList = (rst s).data.toList.drop k := by
  rw [cutS_eq, ByteArray.data_extract, Array.toList_extract, List.extract_eq_take_drop]
  have e2 : (rst s).size - k = ((rst s).data.toList.drop k).length := by rw [List.length_drop, Array.length_toList]; rfl
  rw [e2, List.take_length]
 refine num_is ?_
 rw [rd_cons s h, hg, hr]
end
end Go.Proofs.Ytaloolcabmfjbaa
end

noncomputable section
namespace Go.Proofs.Ytaloolcabmfjbaa
open Go.Sym
theorem nil_cat (x : ByteArray) : (⟨#[]⟩ : ByteArray) ++ x = x := by
 refine ba_ext ?_
 rw [ByteArray.data_append, Array.toList_append]; rfl
theorem bAt_rst (s : ByteArray) (j : Nat) (h : j + 1 < s.size) : bAt (rst s) j = bAt s (j + 1) := by
 have e := rd_cons s (by omega)
 unfold bAt
 rw [e]
 rfl
theorem rS_succ (s : ByteArray) (j : Nat) (h : j < 8) (h2 : j + 1 < s.size) : (256 * numS (rst s) j % 18446744073709551616 + bAt s (j + 1) % 18446744073709551616) % 18446744073709551616 = numS (rst s) (j + 1) := by
 have hz := rst_size s
 have hlt : j < (rst s).data.toList.length := by rw [Array.length_toList]; show j < (rst s).size; omega
 have h3 := val_take_lt (rst s) j
 have h4 := Wire.pow_mono (a := j) (b := 7) (by omega)
 have h7 : (256 : Nat) ^ 7 = 2 ^ 56 := by decide
 have h256 := UInt8.toNat_lt ((rst s).data.toList[j])
 rw [← bAt_rst s j h2, bAt_get (rst s) j (by omega), numS_eq, numS_eq, List.take_succ_eq_append_getElem hlt, Wire.val_snoc]
 omega
theorem cut_list (s : ByteArray) (k : Nat) : (cutS s 0 k).data.toList = s.data.toList.take k := by
 rw [cutS_eq, ByteArray.data_extract, Array.toList_extract, List.extract_eq_take_drop, List.drop_zero, Nat.sub_zero]
theorem cut_list2 (s : ByteArray) (k : Nat) : (cutS s k s.size).data.toList = s.data.toList.drop k := by
 rw [cutS_eq, ByteArray.data_extract, Array.toList_extract, List.extract_eq_take_drop]
 have e2 : s.size - k = (s.data.toList.drop k).length := by rw [List.length_drop, Array.length_toList]; rfl
 rw [e2, List.take_length]
theorem rr_small (s : ByteArray) (h : 0 < s.size) (hc : bAt s 0 < 248) : numT (bAt s 0) = cutS s 0 1 := by
 have e := rd_cons s h
 have hb := bAt_in s 0
 refine ba_ext ?_
 rw [cut_list, e, numT_eq (by omega), encU_list, Wire.enc, if_pos (by omega), bAt_get s 0 h, Int.toNat_natCast, UInt8.ofNat_toNat]
 rfl
theorem numS_lt (s : ByteArray) (k : Nat) (h : k ≤ 8) : 0 ≤ numS s k ∧ numS s k < 18446744073709551616 := by
 have h3 := val_take_lt s k
 have h4 := Wire.pow_mono (a := k) (b := 8) h
 have h8 : (256 : Nat) ^ 8 = 18446744073709551616 := by decide
 rw [numS_eq]; omega
section
variable (s : ByteArray) (k : Nat) (h : 0 < s.size) (hc : bAt s 0 = 247 + k) (hk0 : 0 < k) (hk8 : k ≤ 8) (hk : k ≤ (rst s).size)
include h hc hk0 hk8 hk
theorem rr_iff : numT (numS (rst s) k) = cutS s 0 (1 + k) ↔ Wire.enc (Wire.val ((rst s).data.toList.take k)) = (s.data.toList[0]'(by rw [Array.length_toList]; exact h)) :: (rst s).data.toList.take k := by
 have e := rd_cons s h
 have h1 := numS_lt (rst s) k hk8
 have e1 : (numT (numS (rst s) k)).data.toList = Wire.enc (Wire.val ((rst s).data.toList.take k)) := by
  rw [numT_eq h1.2, encU_list, numS_eq, Int.toNat_natCast]
 have e2 : (cutS s 0 (1 + k)).data.toList = (s.data.toList[0]'(by rw [Array.length_toList]; exact h)) :: (rst s).data.toList.take k := by
  rw [cut_list, Nat.add_comm]
  conv => lhs; rw [e]
  rfl
 exact ⟨fun q => by rw [← e1, q, e2], fun q => ba_ext (by rw [e1, e2]; exact q)⟩
theorem rr_yes (he : numT (numS (rst s) k) = cutS s 0 (1 + k)) : numV s = numS (rst s) k ∧ numB s = false ∧ numR s = cutS s (1 + k) s.size := by
 have he := (rr_iff s k h hc hk0 hk8 hk).1 he
 rw [bAt_get s 0 h] at hc
 have e := rd_cons s h
 have ek : (s.data.toList[0]'(by rw [Array.length_toList]; exact h)).toNat - 247 = k := by omega
 have hr : (cutS s (1 + k) s.size).data.toList = (rst s).data.toList.drop k := by
  rw [cut_list2, Nat.add_comm]
  conv => lhs; rw [e]
  rfl
 rw [numS_eq]
 refine num_is ?_
 have hl : ¬ (rst s).data.toList.length < k := by rw [Array.length_toList]; exact Nat.not_lt.2 hk
 conv => lhs; rw [e]
 rw [Wire.numP, Wire.readNum, if_neg (by omega), ek, if_neg hl, if_pos he, hr]
theorem rr_no (he : ¬ numT (numS (rst s) k) = cutS s 0 (1 + k)) : numV s = 0 ∧ numB s = true ∧ numR s = ⟨#[]⟩ := by
 have he := fun q => he ((rr_iff s k h hc hk0 hk8 hk).2 q)
 rw [bAt_get s 0 h] at hc
 have e := rd_cons s h
 have ek : (s.data.toList[0]'(by rw [Array.length_toList]; exact h)).toNat - 247 = k := by omega
 refine num_bad ?_
 have hl : ¬ (rst s).data.toList.length < k := by rw [Array.length_toList]; exact Nat.not_lt.2 hk
 conv => lhs; rw [e]
 rw [Wire.numP, Wire.readNum, if_neg (by omega), ek, if_neg hl, if_neg he]
end
end Go.Proofs.Ytaloolcabmfjbaa
end

noncomputable section
namespace Go.Proofs.Ytaloolcabmfjbaa
open Go.Sym
theorem be_cons : ∀ (k n : Nat), Wire.be (k + 1) n = UInt8.ofNat (n / 256 ^ k % 256) :: Wire.be k n
 | 0, n => by simp [Wire.be]
 | k + 1, n => by
  rw [Wire.be, be_cons k (n / 256), Wire.be, Nat.div_div_eq_div_mul, ← Nat.pow_succ']
  rfl
def szN : Int → Nat := hide fun n => Wire.sz n.toNat
theorem szN_eq (n : Int) : szN n = Wire.sz n.toNat := by unfold szN; rw [hide_eq]
theorem szN_le {n : Int} (h : n < 18446744073709551616) : szN n ≤ 8 := by rw [szN_eq]; exact Wire.sz_8 (by omega)
def qN : Int → Nat → Int := hide fun n j => ((n.toNat / 256 ^ j : Nat) : Int)
theorem qN_eq (n : Int) (j : Nat) : qN n j = ((n.toNat / 256 ^ j : Nat) : Int) := by unfold qN; rw [hide_eq]
theorem qN_0 {n : Int} (h : 0 ≤ n) : qN n 0 = n := by rw [qN_eq, Nat.pow_zero, Nat.div_one]; omega
theorem qN_succ (n : Int) (j : Nat) : qN n j / 256 = qN n (j + 1) := by
 rw [qN_eq, qN_eq, Nat.pow_succ, ← Nat.div_div_eq_div_mul]; omega
theorem qN_nn (n : Int) (j : Nat) : 0 ≤ qN n j := by rw [qN_eq]; exact Int.natCast_nonneg _
theorem qN_lt {n : Int} (j : Nat) (h : n < 18446744073709551616) : qN n j < 18446744073709551616 := by
 rw [qN_eq]
 have := Nat.div_le_self n.toNat (256 ^ j)
 omega
theorem qN_pos {n : Int} {j : Nat} (h : j < szN n) : 0 < qN n j := by
 rw [szN_eq] at h
 rw [qN_eq]
 have hn : n.toNat ≠ 0 := fun e => by rw [e, Wire.sz_zero] at h; exact absurd h (Nat.not_lt_zero _)
 have h1 := Wire.sz_ge _ hn
 have h2 := Wire.pow_mono (a := j) (b := Wire.sz n.toNat - 1) (by omega)
 have : 0 < n.toNat / 256 ^ j := Nat.div_pos (Nat.le_trans h2 h1) (Nat.pow_pos (by omega))
 omega
theorem qN_end (n : Int) : qN n (szN n) = 0 := by
 rw [szN_eq, qN_eq, Nat.div_eq_of_lt (Wire.sz_lt _)]; rfl
def arN0 (n : Int) : Nat → List Int
 | 0 => [0, 0, 0, 0, 0, 0, 0, 0, 0]
 | j + 1 => (arN0 n j).set (8 - j) (qN n j % 256)
def arN : Int → Nat → List Int := hide arN0
theorem arN_0 (n : Int) : arN n 0 = [0, 0, 0, 0, 0, 0, 0, 0, 0] := by unfold arN; rw [hide_eq]; rfl
theorem arN_succ (n : Int) (j : Nat) : arN n (j + 1) = (arN n j).set (8 - j) (qN n j % 256) := by unfold arN; rw [hide_eq]; rfl
theorem arN_len (n : Int) : ∀ j, (arN n j).length = 9
 | 0 => by rw [arN_0]; rfl
 | j + 1 => by rw [arN_succ, List.length_set, arN_len n j]
def i8 (b : UInt8) : Int := ((b.toNat : Nat) : Int)
theorem drop_set {L : List Int} {i : Nat} (h : i < L.length) (x : Int) : (L.set i x).drop i = x :: L.drop (i + 1) := by
 have h2 : i < (L.set i x).length := by rw [List.length_set]; exact h
 rw [List.drop_eq_getElem_cons h2, List.getElem_set_self, List.drop_set_of_lt (Nat.lt_succ_self i)]
theorem arN_drop {n : Int} : ∀ j, j ≤ 9 → (arN n j).drop (9 - j) = (Wire.be j n.toNat).map i8
 | 0, _ => by rw [arN_0]; rfl
 | j + 1, h => by
  have hl := arN_len n j
  rw [arN_succ, be_cons, List.map_cons, show 9 - (j + 1) = 8 - j by omega, drop_set (by omega), show 8 - j + 1 = 9 - j by omega, arN_drop j (by omega)]
  congr 1
  rw [qN_eq]
  show _ = (((UInt8.ofNat (n.toNat / 256 ^ j % 256)).toNat : Nat) : Int)
  have : (UInt8.ofNat (n.toNat / 256 ^ j % 256)).toNat = n.toNat / 256 ^ j % 256 := by simp
  rw [this]; omega
theorem strOf_i8 (l : List UInt8) : strOf (l.map i8) = ⟨l.toArray⟩ := by
 unfold strOf
 rw [List.map_map]
 have e : (fun n : Int => UInt8.ofNat n.toNat) ∘ i8 = id := funext fun b => by
  show UInt8.ofNat (i8 b).toNat = b
  unfold i8
  rw [Int.toNat_natCast]
  exact UInt8.ofNat_toNat
 rw [e, List.map_id]
theorem one_lo {n : Int} (h0 : 0 ≤ n) (h : n < 248) : strOf [n % 256] = numT n := by
 rw [numT_eq (by omega)]
 refine ba_ext ?_
 rw [encU_list, Wire.enc, if_pos (by omega)]
 show [UInt8.ofNat (n % 256).toNat] = _
 rw [Int.emod_eq_of_lt h0 (by omega)]
theorem arN_end {n : Int} (h : 248 ≤ n) (h2 : n < 18446744073709551616) : strOf (((arN n (szN n)).set (8 - szN n) (247 + (szN n : Int))).drop (8 - szN n)) = numT n := by
 have h8 := szN_le h2
 rw [drop_set (by rw [arN_len]; omega), show 8 - szN n + 1 = 9 - szN n by omega, arN_drop _ (by omega), numT_eq h2]
 have e : (247 + (szN n : Int)) = i8 (UInt8.ofNat (247 + szN n)) := by
  unfold i8
  have : (UInt8.ofNat (247 + szN n)).toNat = 247 + szN n := by simp; omega
  rw [this]; omega
 rw [e, ← List.map_cons, strOf_i8]
 refine ba_ext ?_
 rw [encU_list, Wire.enc, if_neg (by omega), szN_eq]
def dgN : Int → Nat → ByteArray := hide fun n j => ⟨(Wire.be j n.toNat).toArray⟩
theorem dgN_0 (n : Int) : dgN n 0 = ⟨#[]⟩ := by unfold dgN; rw [hide_eq]; rfl
theorem dgN_succ (n : Int) (j : Nat) : strOf [qN n j % 256 % 256] ++ dgN n j = dgN n (j + 1) := by
 unfold dgN
 rw [hide_eq]
 refine ba_ext ?_
 rw [ByteArray.data_append, Array.toList_append, be_cons]
 show [UInt8.ofNat (qN n j % 256 % 256).toNat] ++ Wire.be j n.toNat = _
 rw [qN_eq, show (((n.toNat / 256 ^ j : Nat) : Int) % 256 % 256).toNat = n.toNat / 256 ^ j % 256 by omega]
 rfl
theorem dgN_size (n : Int) (j : Nat) : (dgN n j).size = j := by
 unfold dgN
 rw [hide_eq]
 show (Wire.be j n.toNat).toArray.size = j
 rw [List.size_toArray, Wire.be_length]
theorem dgN_end {n : Int} (h : 248 ≤ n) (h2 : n < 18446744073709551616) (s : ByteArray) : s ++ strOf [(247 + (szN n : Int)) % 256] ++ dgN n (szN n) = s ++ numT n := by
 have h8 := szN_le h2
 rw [ByteArray.append_assoc, numT_eq h2]
 congr 1
 unfold dgN
 rw [hide_eq]
 refine ba_ext ?_
 rw [ByteArray.data_append, Array.toList_append, encU_list, Wire.enc, if_neg (by omega)]
 show [UInt8.ofNat ((247 + (szN n : Int)) % 256).toNat] ++ Wire.be (szN n) n.toNat = _
 rw [show ((247 + (szN n : Int)) % 256).toNat = 247 + szN n by omega, szN_eq]
 rfl
end Go.Proofs.Ytaloolcabmfjbaa
end
