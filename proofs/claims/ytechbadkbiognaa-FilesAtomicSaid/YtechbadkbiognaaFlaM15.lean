/-
  Texts of this claim, one behind the other: SymZ SymO SymP SymV SymT SymAu. Each says its own conditions.
-/
import Derived.Test.YtechbadkbiognaaFlaM14

set_option linter.unusedVariables false
set_option linter.unusedSimpArgs false
set_option linter.unusedSectionVars false
section
namespace Go.Sym
open Go.RowKit (Below)
set_option linter.unusedSimpArgs false
set_option linter.unusedVariables false

def envφ (φ : Nat → Nat → Option Value) : Env := ⟨fun _ => none, 0, φ⟩
def FzW (φ : Nat → Nat → Option Value) (w : World) : Prop := ∀ B k v, φ B k = some v → w.cell? ⟨B, k, none⟩ = some v
def PureAt (P : Program) (g : FuncId) (args : List V) (v : V) : Prop := ∀ (φ : Nat → Nat → Option Value) (w : World) (A : Array Value), FzW φ w → LRel (envφ φ) args A.toList →
  Calls P g A w fun E w' => ∃ φ' X, E = .returned X ∧ subφ φ φ' ∧ (∀ B k, B < w.heap.size → φ' B k = φ B k) ∧ FzW φ' w' ∧ VRel (envφ φ') v X ∧ Below w.heap.size w w'

mutual
def V.bare : V → Bool
  | .undef | .bool _ | .int .. | .str _ | .nilp | .nils | .nilm | .nilf | .nili | .lptr .. | .lst .. | .arr .. => true
  | .iface _ v => v.bare
  | .agg l => bareL l
  | .tup l => bareL l
  | .fn _ a c => bareL a && bareL c
  | _ => false
def bareL : List V → Bool
  | [] => true
  | v :: l => v.bare && bareL l
end
noncomputable section
def frzC (s : St) : V → Option (List Bool × (t : Ty) × t.den)
  | .int k n => some ([], ⟨.int k, (n : Int)⟩)
  | .bool b => some ([], ⟨.bool, (b : Bool)⟩)
  | .str x => some ([], ⟨.str, (x : ByteArray)⟩)
  | .lst e L _ => some ([], ⟨.lst e, (L : List (rowDen e))⟩)
  | .rs b lo len _ _ es => (match rowsAt s b with
    | some ⟨e, L⟩ => bif Nat.beq es e.length then some ([decide (lo + len ≤ L.length)], ⟨.lst e, (seg L lo len : List (rowDen e))⟩) else none
    | none => none)
  | _ => none
def consR : (t : Ty) → t.den → (e : List Ty) → rowDen e → (e' : List Ty) × rowDen e'
  | t, x, [], _ => ⟨[t], x⟩
  | t, x, u :: ts, y => ⟨t :: u :: ts, (x, y)⟩
def frzR (s : St) : List V → Option (List Bool × (e : List Ty) × rowDen e)
  | [] => some ([], ⟨[], ()⟩)
  | v :: l => (match frzC s v, frzR s l with
    | some (c, ⟨t, x⟩), some (c', ⟨e, y⟩) => some (c ++ c', consR t x e y)
    | _, _ => none)
mutual
def frzV (s : St) : V → Option (List Bool × V)
  | .rs b lo len _ _ es => (match rowsAt s b with
    | some ⟨e, L⟩ => bif Nat.beq es e.length then some ([decide (lo + len ≤ L.length)], .lst e (seg L lo len) false) else none
    | none => none)
  | .ptr b o => (match o with
    | 0 => (match cellsAt s b with
      | some cs => (match frzR s cs with
        | some (c, ⟨e, x⟩) => some (c, .lptr e [x] 0 0)
        | none => none)
      | none => none)
    | _ + 1 => none)
  | .iface t v => (match frzV s v with
    | some (c, v') => some (c, .iface t v')
    | none => none)
  | .agg l => (match frzL s l with
    | some (c, l') => some (c, .agg l')
    | none => none)
  | .tup l => (match frzL s l with
    | some (c, l') => some (c, .tup l')
    | none => none)
  | .undef => some ([], .undef)
  | .bool b => some ([], .bool b)
  | .int k n => some ([], .int k n)
  | .str x => some ([], .str x)
  | .nilp => some ([], .nilp)
  | .nils => some ([], .nils)
  | .nilm => some ([], .nilm)
  | .nilf => some ([], .nilf)
  | .nili => some ([], .nili)
  | .lptr e L i j => some ([], .lptr e L i j)
  | .lst e L cl => some ([], .lst e L cl)
  | .arr e L => some ([], .arr e L)
  | .fn f a c => (bif bareL a && bareL c then some ([], .fn f a c) else none)
  | _ => none
def frzL (s : St) : List V → Option (List Bool × List V)
  | [] => some ([], [])
  | v :: l => (match frzV s v, frzL s l with
    | some (c, v'), some (c', l') => some (c ++ c', v' :: l')
    | _, _ => none)
end
end

mutual
theorem VRel.bare {ρ ρ' : Env} (h : subφ ρ.φ ρ'.φ) : ∀ (v : V) (X : Value), v.bare = true → VRel ρ v X → VRel ρ' v X
  | .undef, X, _, r => by simpa only [VRel] using r
  | .bool _, X, _, r => by simpa only [VRel] using r
  | .int .., X, _, r => by simpa only [VRel] using r
  | .str _, X, _, r => by simpa only [VRel] using r
  | .nilp, X, _, r => by simpa only [VRel] using r
  | .nils, X, _, r => by simpa only [VRel] using r
  | .nilm, X, _, r => by simpa only [VRel] using r
  | .nilf, X, _, r => by simpa only [VRel] using r
  | .nili, X, _, r => by simpa only [VRel] using r
  | .lptr e L i j, X, _, r => by simp only [VRel] at r ⊢; obtain ⟨B, o, h1, h2⟩ := r; exact ⟨B, o, h1, h2.mono h fun _ _ hv => h _ _ _ hv⟩
  | .lst e L cl, X, _, r => by
    simp only [VRel] at r ⊢; obtain ⟨a, c, h1, h2, h3, h5, h4⟩ := r
    exact ⟨a, c, h1, h2, h3, h5, fun hp => let ⟨B, o, g1, g2⟩ := h4 hp; ⟨B, o, g1, g2.mono h fun _ _ hv => h _ _ _ hv⟩⟩
  | .arr e L, X, _, r => by simp only [VRel] at r ⊢; obtain ⟨A, h1, h2, h3⟩ := r; exact ⟨A, h1, h2, h3.mono h fun _ _ hv => hv⟩
  | .iface t v, X, hf, r => by
    simp only [VRel] at r ⊢
    obtain ⟨Y, h1, h2⟩ := r
    exact ⟨Y, h1, VRel.bare h v Y (by simpa only [V.bare] using hf) h2⟩
  | .agg l, X, hf, r => by
    simp only [VRel] at r ⊢
    obtain ⟨Y, h1, h2⟩ := r
    exact ⟨Y, h1, LRel.bare h l _ (by simpa only [V.bare] using hf) h2⟩
  | .tup l, X, hf, r => by
    simp only [VRel] at r ⊢
    obtain ⟨Y, h1, h2⟩ := r
    exact ⟨Y, h1, LRel.bare h l _ (by simpa only [V.bare] using hf) h2⟩
  | .fn f a c, X, hf, r => by
    simp only [VRel] at r ⊢
    simp only [V.bare, Bool.and_eq_true] at hf
    obtain ⟨A, C, h1, h2, h3⟩ := r
    exact ⟨A, C, h1, LRel.bare h a _ hf.1 h2, LRel.bare h c _ hf.2 h3⟩
  | .any, _, hf, _ => by simp [V.bare] at hf
  | .ptr .., _, hf, _ => by simp [V.bare] at hf
  | .rptr .., _, hf, _ => by simp [V.bare] at hf
  | .sl .., _, hf, _ => by simp [V.bare] at hf
  | .rs .., _, hf, _ => by simp [V.bare] at hf
  | .map _, _, hf, _ => by simp [V.bare] at hf
  | .yld _, _, hf, _ => by simp [V.bare] at hf
theorem LRel.bare {ρ ρ' : Env} (h : subφ ρ.φ ρ'.φ) : ∀ (l : List V) (X : List Value), bareL l = true → LRel ρ l X → LRel ρ' l X
  | [], X, _, r => r
  | v :: l, X, hf, r => by
    simp only [bareL, Bool.and_eq_true] at hf
    obtain ⟨Y, Z, h1, h2, h3⟩ := r
    exact ⟨Y, Z, h1, VRel.bare h v Y hf.1 h2, LRel.bare h l Z hf.2 h3⟩
end

section
variable {P : Program} {own : Own} {ρ ρ' : Env} {s : St} {w : World}

theorem frz_id {v : V} (hb : v.bare = true) (h : subφ ρ.φ ρ'.φ) {X : Value} (hv : VRel ρ v X) : VRel ρ' v X := VRel.bare h v X hb hv
theorem rowsAt_get {b : Nat} {e : List Ty} {L : List (rowDen e)} (h : rowsAt s b = some ⟨e, L⟩) : ∃ t ish, s.heap.get b = some (.rows e L t ish) := by
  unfold Sym.rowsAt at h
  split at h
  · rename_i h1; cases h; exact ⟨_, _, h1⟩
  · cases h
theorem cellsAt_get {b : Nat} {cs : List V} (h : cellsAt s b = some cs) : ∃ t ish, s.heap.get b = some (.cells cs t ish) := by
  unfold Sym.cellsAt at h
  split at h
  · rename_i h1; cases h; exact ⟨_, _, h1⟩
  · cases h
theorem CRel_nil {φ : Nat → Nat → Option Value} (x : rowDen []) (C : Nat → Option Value) : CRel φ [] x C := by rw [CRel]; trivial
theorem CRel_one {φ : Nat → Nat → Option Value} {t : Ty} (x : rowDen [t]) {C : Nat → Option Value} {X : Value} (h : C 0 = some X) (h2 : TRel φ t x X) : CRel φ [t] x C := by rw [CRel]; exact ⟨X, h, h2⟩
theorem CRel_cons {φ : Nat → Nat → Option Value} {t u : Ty} {ts : List Ty} (x : rowDen (t :: u :: ts)) {C : Nat → Option Value} (h1 : ∃ X, C 0 = some X ∧ TRel φ t x.1 X) (h2 : CRel φ (u :: ts) x.2 (fun j => C (j + 1))) : CRel φ (t :: u :: ts) x C := by rw [CRel]; exact ⟨h1, h2⟩
theorem TRel_int {φ : Nat → Nat → Option Value} (k : IntKind) (n : (Ty.int k).den) : TRel φ (.int k) n (.int k n) := by rw [TRel]
theorem TRel_bool {φ : Nat → Nat → Option Value} (b : Ty.bool.den) : TRel φ .bool b (.bool b) := by rw [TRel]
theorem TRel_str {φ : Nat → Nat → Option Value} (b : Ty.str.den) : TRel φ .str b (.string b) := by rw [TRel]
theorem TRel_lstU {φ : Nat → Nat → Option Value} {e : List Ty} (L : (Ty.lst e).den) {a : Option Addr} {c : Nat} (h1 : List.length (α := rowDen e) L ≤ c) (h2 : a = none → c = 0) (h3 : 0 < List.length (α := rowDen e) L → ∃ B o, a = some ⟨B, o, none⟩ ∧ ∀ i, i < List.length (α := rowDen e) L → CRel φ e (rowAt e L i) (fun j => φ B (o + i * e.length + j))) : TRel φ (.lst e) L (.slice a (List.length (α := rowDen e) L) c) := by
  rw [TRel]; exact ⟨a, c, rfl, h1, h2, h3⟩
theorem frzC_rel (hS : SRel own ρ s w) (hφ : subφ ρ.φ ρ'.φ) (hc : ∀ (b : Nat) (x : Blk) o, s.heap.get b = some o → ρ b = some x → ∀ k u, w.cell? ⟨x.B, k, none⟩ = some u → ρ'.φ x.B k = some u) {v : V} {c : List Bool} {t : Ty} {x : t.den} {X : Value} (h : frzC s v = some (c, ⟨t, x⟩)) (ha : allB c) (r : VRel ρ v X) : TRel ρ'.φ t x X := by
  unfold frzC at h
  split at h
  · cases h; simp only [VRel] at r; subst r; exact TRel_int _ _
  · cases h; simp only [VRel] at r; subst r; exact TRel_bool _
  · cases h; simp only [VRel] at r; subst r; exact TRel_str _
  · cases h
    simp only [VRel] at r
    obtain ⟨a, c', rfl, h2, h3, h5, h4⟩ := r
    refine TRel_lstU _ h2 h5 fun hp => ?_
    obtain ⟨B, o, g1, g2⟩ := h4 hp
    refine ⟨B, o, g1, fun i hi => ?_⟩
    refine CRel.mono (fun _ _ _ hv => hφ _ _ _ hv) _ _ (fun j u hu => ?_) (g2 i hi)
    rw [Nat.add_assoc]
    exact hφ _ _ _ hu
  · rename_i b lo len cap xx es
    split at h
    · rename_i e L hL
      cases hb : Nat.beq es e.length with
      | false => rw [hb] at h; cases h
      | true =>
      rw [hb, cond_true] at h
      have hb := Nat.eq_of_beq_eq_true hb
      subst hb
      cases h
      have hle : lo + len ≤ L.length := by simpa using ha.1
      have hl := seg_length hle
      simp only [VRel] at r
      obtain ⟨a, c', rfl, h2, h3, h4, h5, h6⟩ := r
      have hX : Value.slice a len c' = .slice a (List.length (α := rowDen e) (seg L lo len)) c' := by rw [hl]
      rw [hX]
      refine TRel_lstU (e := e) (seg L lo len) (by rw [hl]; omega) (fun hh => h5 hh) fun hp => ?_
      rw [hl] at hp
      obtain ⟨B, O, S, g1, g2, g3⟩ := h6 (by omega)
      obtain ⟨t0, ish0, hg⟩ := rowsAt_get hL
      have hr := rows_seg hle (hS.rowsAt hL g1).1
      refine ⟨B, _, g2, fun i hi => ?_⟩
      refine CRel.mono (fun _ _ _ hv => hφ _ _ _ hv) _ _ (fun j u hu => ?_) (hr i hi)
      have := hc b _ _ hg g1 _ _ hu
      simp only at this
      rw [← this]
      congr 1
      omega
    · cases h
  · cases h
theorem consR_rel {φ : Nat → Nat → Option Value} {t : Ty} {x : t.den} {X : Value} (hx : TRel φ t x X) : ∀ {e : List Ty} {y : rowDen e} {C : Nat → Option Value}, C 0 = some X → CRel φ e y (fun j => C (j + 1)) → CRel φ (consR t x e y).1 (consR t x e y).2 C
  | [], _, C, h0, _ => CRel_one x h0 hx
  | u :: ts, y, C, h0, hy => CRel_cons (t := t) (u := u) (ts := ts) (x, y) ⟨X, h0, hx⟩ hy
theorem frzR_rel (hS : SRel own ρ s w) (hφ : subφ ρ.φ ρ'.φ) (hc : ∀ (b : Nat) (x : Blk) o, s.heap.get b = some o → ρ b = some x → ∀ k u, w.cell? ⟨x.B, k, none⟩ = some u → ρ'.φ x.B k = some u) : ∀ (l : List V) (c : List Bool) (e : (e : List Ty) × rowDen e), frzR s l = some (c, e) → allB c → ∀ {C : Nat → Option Value},
    (∀ (i : Nat) (v : V), l[i]? = some v → ∃ W, C i = some W ∧ VRel ρ v W) → CRel ρ'.φ e.1 e.2 C
  | [], c, e, h, _, C, _ => by
    rw [frzR.eq_def] at h
    cases h
    exact CRel_nil () _
  | v :: l, c, e, h, ha, C, hC => by
    rw [frzR.eq_def] at h
    simp only at h
    split at h
    · rename_i c1 t x c2 e2 y2 h1 h2
      cases h
      rw [allB_append] at ha
      obtain ⟨W, g1, g2⟩ := hC 0 v rfl
      exact consR_rel (frzC_rel hS hφ hc h1 ha.1 g2) g1 (frzR_rel hS hφ hc l _ _ h2 ha.2 fun i v' hi => hC (i + 1) v' (by simpa using hi))
    · cases h
mutual
theorem frzV_rel (hS : SRel own ρ s w) (hφ : subφ ρ.φ ρ'.φ) (hc : ∀ (b : Nat) (x : Blk) o, s.heap.get b = some o → ρ b = some x → ∀ k u, w.cell? ⟨x.B, k, none⟩ = some u → ρ'.φ x.B k = some u) : ∀ (v : V) (c : List Bool) (v' : V) (X : Value), frzV s v = some (c, v') → allB c → VRel ρ v X → VRel ρ' v' X
  | .rs b lo len cap x es, c, v', X, h, ha, r => by
    rw [frzV.eq_def] at h
    simp only at h
    split at h
    · rename_i e L hL
      cases hb : Nat.beq es e.length with
      | false => rw [hb] at h; cases h
      | true =>
      rw [hb, cond_true] at h
      have hb := Nat.eq_of_beq_eq_true hb
      subst hb
      cases h
      have hle : lo + len ≤ L.length := by simpa using ha.1
      simp only [VRel] at r ⊢
      obtain ⟨a, c', h1, h2, h3, h4, h5, h6⟩ := r
      have hl := seg_length hle
      refine ⟨a, c', by rw [hl]; exact h1, by rw [hl]; omega, fun hh => (by cases hh), h5, fun hp => ?_⟩
      rw [hl] at hp
      obtain ⟨B, O, S, g1, g2, g3⟩ := h6 (by omega)
      have hr := rows_seg hle (hS.rowsAt hL g1).1
      refine ⟨B, _, g2, hr.mono (fun _ _ _ hv => hφ _ _ _ hv) fun j u hu => ?_⟩
      rw [Nat.add_assoc]
      exact hc b _ _ (rowsAt_get hL).choose_spec.choose_spec g1 _ _ hu
    · cases h
  | .iface t v, c, v', X, h, ha, r => by
    rw [frzV.eq_def] at h
    simp only at h
    split at h
    · rename_i c1 v1 hv
      cases h
      simp only [VRel] at r ⊢
      obtain ⟨Y, h1, h2⟩ := r
      exact ⟨Y, h1, frzV_rel hS hφ hc v _ _ Y hv ha h2⟩
    · cases h
  | .agg l, c, v', X, h, ha, r => by
    rw [frzV.eq_def] at h
    simp only at h
    split at h
    · rename_i c1 v1 hv
      cases h
      simp only [VRel] at r ⊢
      obtain ⟨Y, h1, h2⟩ := r
      exact ⟨Y, h1, frzL_rel hS hφ hc l _ _ _ hv ha h2⟩
    · cases h
  | .tup l, c, v', X, h, ha, r => by
    rw [frzV.eq_def] at h
    simp only at h
    split at h
    · rename_i c1 v1 hv
      cases h
      simp only [VRel] at r ⊢
      obtain ⟨Y, h1, h2⟩ := r
      exact ⟨Y, h1, frzL_rel hS hφ hc l _ _ _ hv ha h2⟩
    · cases h
  | .undef, c, v', X, h, _, r => by rw [frzV.eq_def] at h; cases h; exact frz_id rfl hφ r
  | .bool _, c, v', X, h, _, r => by rw [frzV.eq_def] at h; cases h; exact frz_id rfl hφ r
  | .int .., c, v', X, h, _, r => by rw [frzV.eq_def] at h; cases h; exact frz_id rfl hφ r
  | .str _, c, v', X, h, _, r => by rw [frzV.eq_def] at h; cases h; exact frz_id rfl hφ r
  | .nilp, c, v', X, h, _, r => by rw [frzV.eq_def] at h; cases h; exact frz_id rfl hφ r
  | .nils, c, v', X, h, _, r => by rw [frzV.eq_def] at h; cases h; exact frz_id rfl hφ r
  | .nilm, c, v', X, h, _, r => by rw [frzV.eq_def] at h; cases h; exact frz_id rfl hφ r
  | .nilf, c, v', X, h, _, r => by rw [frzV.eq_def] at h; cases h; exact frz_id rfl hφ r
  | .nili, c, v', X, h, _, r => by rw [frzV.eq_def] at h; cases h; exact frz_id rfl hφ r
  | .lptr .., c, v', X, h, _, r => by rw [frzV.eq_def] at h; cases h; exact frz_id rfl hφ r
  | .lst .., c, v', X, h, _, r => by rw [frzV.eq_def] at h; cases h; exact frz_id rfl hφ r
  | .arr .., c, v', X, h, _, r => by rw [frzV.eq_def] at h; cases h; exact frz_id rfl hφ r
  | .fn f a d, c, v', X, h, _, r => by
    rw [frzV.eq_def] at h
    simp only at h
    cases hb : (bareL a && bareL d) with
    | false => rw [hb] at h; cases h
    | true => rw [hb] at h; cases h; exact frz_id (by simpa only [V.bare] using hb) hφ r
  | .any, c, v', X, h, _, _ => by rw [frzV.eq_def] at h; cases h
  | .ptr b o, c, v', X, h, ha, r => by
    rw [frzV.eq_def] at h
    simp only at h
    split at h
    · split at h
      · rename_i cs hcs
        split at h
        · rename_i c1 e x hf
          cases h
          simp only [VRel] at r ⊢
          obtain ⟨B, O, S, hB, rfl⟩ := r
          obtain ⟨t0, ish0, hg⟩ := cellsAt_get hcs
          obtain ⟨_, C, t1, fr, e1, e2, e3, e4, _⟩ := hS.obj b _ _ hg hB
          refine ⟨B, O, by simp, fun i hi => ?_⟩
          have hi0 : i = 0 := by simp only [List.length_singleton] at hi; omega
          subst hi0
          show CRel ρ'.φ e x (fun j => ρ'.φ B (O + (0 * e.length + j)))
          refine frzR_rel (ρ' := ρ') hS hφ hc cs _ ⟨e, x⟩ hf ha fun i v hi => ?_
          obtain ⟨W, g1, g2⟩ := e4 i v hi
          refine ⟨W, ?_, g2⟩
          have := hc b _ _ hg hB (O + i) W (by simp [World.cell?, e1, g1])
          rw [← this]
          simp
        · cases h
      · cases h
    · cases h
  | .rptr .., c, v', X, h, _, _ => by rw [frzV.eq_def] at h; cases h
  | .sl .., c, v', X, h, _, _ => by rw [frzV.eq_def] at h; cases h
  | .map _, c, v', X, h, _, _ => by rw [frzV.eq_def] at h; cases h
  | .yld _, c, v', X, h, _, _ => by rw [frzV.eq_def] at h; cases h
theorem frzL_rel (hS : SRel own ρ s w) (hφ : subφ ρ.φ ρ'.φ) (hc : ∀ (b : Nat) (x : Blk) o, s.heap.get b = some o → ρ b = some x → ∀ k u, w.cell? ⟨x.B, k, none⟩ = some u → ρ'.φ x.B k = some u) : ∀ (l : List V) (c : List Bool) (l' : List V) (X : List Value), frzL s l = some (c, l') → allB c → LRel ρ l X → LRel ρ' l' X
  | [], c, l', X, h, _, r => by rw [frzL.eq_def] at h; cases h; exact r
  | v :: l, c, l', X, h, ha, r => by
    rw [frzL.eq_def] at h
    simp only at h
    split at h
    · rename_i c1 v1 c2 l2 h1 h2
      cases h
      rw [allB_append] at ha
      obtain ⟨Y, Z, g1, g2, g3⟩ := r
      exact ⟨Y, Z, g1, frzV_rel hS hφ hc v _ _ Y h1 ha.1 g2, frzL_rel hS hφ hc l _ _ Z h2 ha.2 g3⟩
    · cases h
end

abbrev Tab := FuncId → List V → Option (List Bool × V)
def TabOK (P : Program) (tab : Tab) : Prop := ∀ g args c v, tab g args = some (c, v) → allB c → PureAt P g args v
noncomputable section
def tabAt (tab : Tab) (t : ETgt) (s : St) : Option (List Bool × V) :=
  match t with
  | .fn g args => (match bareL args with
    | true => tab g args
    | false => (match frzL s args with
      | some (c, args') => (match tab g args' with
        | some (c', v) => bif v.flat then some (c ++ c', v) else none
        | none => none)
      | none => none))
  | .round _ _ => none
def knW (tab : Tab) : KnW := fun t s => match tabAt tab t s with
  | some (c, v) => some fun k => needsR c (k (.ret v) s)
  | none => none
def knE (tab : Tab) : ESelf := fun t s => match tabAt tab t s with
  | some (c, v) => bif allb c then some (.ret v, s) else none
  | none => none
end
theorem kn_ad (tab : Tab) : AdK (knW tab) (knE tab) := by
  intro t s r hr k hk
  unfold knW at hr
  unfold knE
  split at hr
  · rename_i c v hc
    cases hr
    obtain ⟨h1, h2⟩ := needs_b hk
    exact ⟨_, _, by simp only [h1, cond_true], h2⟩
  · cases hr
theorem kn_no (tab : Tab) : NoK (knW tab) (knE tab) := by
  intro t s h
  unfold knW at h
  unfold knE
  split at h
  · cases h
  · rfl

theorem SRel.grow (h : SRel own ρ s w) {w' : World} (hb : Below w.heap.size w w') {φ' : Nat → Nat → Option Value} (h1 : subφ ρ.φ φ') (h2 : ∀ B k, B < w.heap.size → φ' B k = ρ.φ B k) (h3 : FzW φ' w') :
    ρ.le ⟨ρ.f, ρ.n, φ'⟩ ∧ SRel own ⟨ρ.f, ρ.n, φ'⟩ s w' ∧ Fr own w w' := by
  have hle : ρ.le ⟨ρ.f, ρ.n, φ'⟩ := ⟨⟨fun _ _ e => e, h1⟩, Nat.le_refl _, fun _ _ e => e⟩
  have hown : ∀ k, ¬ own k → k < w.heap.size := fun k hk => Nat.lt_of_not_le fun hh => hk (h.le k hh)
  refine ⟨hle, ⟨fun B hB => h.le B (Nat.le_trans hb.size hB), fun b o x hg hx => ?_, h.inj, h.dom, h.top, h3, fun B k hB => ?_⟩, ⟨hb.os, hb.tape, hb.output, hb.size, fun k hk => hb.block k (hown k hk)⟩⟩
  · obtain ⟨⟨q1, q2⟩, q3⟩ := h.obj b o x hg hx
    have hlt := h.lt hg hx
    refine ⟨⟨q1, fun k => by rw [show (⟨ρ.f, ρ.n, φ'⟩ : Env).φ x.B k = φ' x.B k from rfl, h2 _ _ hlt]; exact q2 k⟩, ?_⟩
    rw [hb.block _ hlt]
    exact q3.mono hle
  · rw [show (⟨ρ.f, ρ.n, φ'⟩ : Env).φ B k = φ' B k from rfl, h2 _ _ (hown B hB)]
    exact h.old B k hB

theorem kn_ok {tab : Tab} (ht : TabOK P tab) : SelfOK P (knE tab) := by
  intro t s e s' hk own ρ w hS n
  unfold knE at hk
  split at hk
  · rename_i c v hc
    cases hcc : allb c with
    | false => rw [hcc] at hk; cases hk
    | true =>
    rw [hcc, cond_true] at hk
    cases hk
    have hcc := (allb_iff c).1 hcc
    cases t with
    | round l args => cases hc
    | fn g args =>
      intro A hA
      simp only [tabAt] at hc
      split at hc
      · rename_i hb
        have hp := ht g args c v hc hcc ρ.φ w A hS.fz (LRel.bare (ρ := ρ) (ρ' := envφ ρ.φ) (fun _ _ _ h => h) args _ hb hA)
        refine callsIn_wide.2 (hp.mono ?_)
        rintro E w' ⟨φ', X, rfl, h1, h2, h3, h4, h5⟩
        obtain ⟨g1, g2, g3⟩ := hS.grow h5 h1 h2 h3
        exact ⟨_, g1, ⟨X, rfl, VRel.up (ρ := envφ φ') (ρ' := ⟨ρ.f, ρ.n, φ'⟩) ⟨fun _ _ h => (by cases h), fun _ _ _ h => h⟩ v X h4⟩, g2, g3⟩
      · split at hc
        · rename_i c1 args' hf
          split at hc
          · rename_i c2 v2 h2
            cases hfl : v2.flat with
            | false => rw [hfl] at hc; cases hc
            | true =>
            rw [hfl, cond_true] at hc
            cases hc
            rw [allB_append] at hcc
            let φ1 : Nat → Nat → Option Value := fun B k => w.cell? ⟨B, k, none⟩
            have hA' : LRel (envφ φ1) args' A.toList := frzL_rel (ρ' := envφ φ1) hS (fun B k u hu => hS.fz B k u hu) (fun b x o _ _ k u hu => hu) args c1 args' _ hf hcc.1 hA
            have hp := ht g args' c2 v h2 hcc.2 φ1 w A (fun _ _ _ h => h) hA'
            refine callsIn_wide.2 (hp.mono ?_)
            rintro E w' ⟨φ', X, rfl, h1, h2, h3, h4, h5⟩
            obtain ⟨g1, g2, g3⟩ := hS.grow h5 (φ' := ρ.φ) (fun _ _ _ h => h) (fun _ _ _ => rfl) (fun B k u hu => by
              have hc := hS.fz B k u hu
              have hlt : B < w.heap.size := Nat.lt_of_not_le fun hh => by simp [World.cell?, Array.getElem?_eq_none hh] at hc
              rw [cell_of_block (h := h5.block B hlt)]
              exact hc)
            exact ⟨_, g1, ⟨X, rfl, VRel.flat v X hfl h4⟩, g2, g3⟩
          · cases hc
        · cases hc
  · cases hk

noncomputable def s0 : St := ⟨.leaf, 0⟩
theorem s0_rel (φ : Nat → Nat → Option Value) (w : World) (h : FzW φ w) : SRel ⟨fun B => w.heap.size ≤ B, φ⟩ (envφ φ) s0 w where
  le := fun B hB => hB
  obj := fun b o x hb _ => by rw [show s0.heap.get b = none from T.get_leaf b] at hb; cases hb
  inj := fun b b' o o' x x' hb _ _ _ => by rw [show s0.heap.get b = none from T.get_leaf b] at hb; cases hb
  dom := fun b x hx => by cases hx
  top := Nat.le_refl _
  fz := h
  old := fun _ _ _ => rfl
def RetW (v : V) : KS := fun e s' => match e with
  | .ret v' => (match frzV s' v' with
    | some (c, u) => needsR c (u = v)
    | none => False)
  | .pan _ => False
theorem pure_of_run {tab : Tab} (ht : TabOK P tab) {self : ESelf} (hs : SelfOK P self) {fuel : Nat} {lp : LpF} {g : FuncId} {args : List V} (hlp : ∀ fn c n, P.funcs[g]? = some fn → fn.body = some c → LpOK P none none n 0 lp c) {e : EEnd} {s' : St} {v : V}
    (h : runFnL P self fuel lp g args s0 = some (e, s')) (hr : RetW v e s') : PureAt P g args v := by
  intro φ w A hφ hA
  have := fnL_sound hs fuel lp g args s0 hlp e s' h ⟨fun B => w.heap.size ≤ B, φ⟩ (envφ φ) w (s0_rel φ w hφ) 0 A hA
  refine (callsIn_wide.1 this).mono ?_
  rintro E w' ⟨ρ', h1, h2, h3, h4⟩
  cases e with
  | pan v' => exact hr.elim
  | ret v' =>
    obtain ⟨X, rfl, hX⟩ := h2
    simp only [RetW] at hr
    split at hr
    · rename_i c u hf
      obtain ⟨hc, rfl⟩ := (needsR_iff _ _).1 hr
      refine ⟨fun B k => if B < w.heap.size then φ B k else w'.cell? ⟨B, k, none⟩, X, rfl, fun B k u hu => ?_, fun B k hB => by simp only [hB, if_true], fun B k u hu => ?_, ?_, ?_⟩
      · have hc := hφ B k u hu
        have hlt : B < w.heap.size := Nat.lt_of_not_le fun hh => by simp [World.cell?, Array.getElem?_eq_none hh] at hc
        simp only [hlt, if_true]; exact hu
      · simp only at hu
        split at hu
        · exact h3.fz B k u (h1.sub.2 _ _ _ hu)
        · exact hu
      · refine frzV_rel (ρ' := envφ _) h3 (fun B k u hu => ?_) (fun b x o hL hx k u hu => ?_) v' c u X hf hc hX
        · show (if B < w.heap.size then φ B k else w'.cell? ⟨B, k, none⟩) = some u
          split
          · rename_i hB
            have := h3.old B k (Nat.not_le.2 hB)
            rw [← hu, this]
          · exact h3.fz B k u hu
        · show (if x.B < w.heap.size then φ x.B k else w'.cell? ⟨x.B, k, none⟩) = some u
          have hown : w.heap.size ≤ x.B := (h3.obj b o x hL hx).1.1
          rw [if_neg (Nat.not_lt.2 hown)]
          exact hu
      · exact ⟨h4.os, h4.tape, h4.output, h4.size, fun k hk => h4.block k (Nat.not_le.2 hk)⟩
    · exact hr.elim
def noTab : Tab := fun _ _ => none
theorem noTab_ok : TabOK P noTab := fun _ _ _ _ h => by cases h
def oneTab (f : FuncId) (F : List V → Option (List Bool × V)) (b : Tab) : Tab := fun g args => bif Nat.beq g f then F args else b g args
theorem oneTab_ok {f : FuncId} {F : List V → Option (List Bool × V)} {b : Tab} (hF : ∀ args c v, F args = some (c, v) → allB c → PureAt P f args v) (hb : TabOK P b) : TabOK P (oneTab f F b) := by
  intro g args c v h
  unfold oneTab at h
  cases hg : Nat.beq g f with
  | true => rw [hg, cond_true] at h; rw [Nat.eq_of_beq_eq_true hg]; exact hF args c v h
  | false => rw [hg, cond_false] at h; exact hb g args c v h

theorem pure_true {g : FuncId} {args : List V} (h : PureAt P g args (.bool true)) (w : World) (A : Array Value) (hA : LRel (envφ fun B k => w.cell? ⟨B, k, none⟩) args A.toList) :
    Calls P g A w fun E w' => E = .returned (.bool true) ∧ Below w.heap.size w w' := by
  refine (h _ w A (fun _ _ _ h => h) hA).mono ?_
  rintro E w' ⟨φ', X, rfl, _, _, _, h4, h5⟩
  have h4 : X = .bool true := by simpa only [VRel] using h4
  exact ⟨by rw [h4], h5⟩
end

theorem sEq_self (a : ByteArray) : sEq a a = true := decide_eq_true rfl
theorem eqOK_i {P : Program} {t : TypeId} (h : eqOK0 P t = true) : eqOK P t = true := (eqOK_eq P t).trans h
theorem V.same_t {v w : V} (h : v = w) : v.same w = true := by rw [h]; exact V.same_self w
theorem andB_i {b : Bool} {q : Prop} (h : b = true) (k : q) : @Bool.rec (fun _ => Prop) False q b := (andB_iff _ _).2 ⟨h, k⟩
theorem iteB_t {b : Bool} {p q : Prop} (h : b = true) (k : p) : @Bool.rec (fun _ => Prop) q p b := (iteB_iff _ _ _).2 ⟨fun _ => k, fun e => by rw [h] at e; cases e⟩
theorem iteB_f {b : Bool} {p q : Prop} (h : b = false) (k : q) : @Bool.rec (fun _ => Prop) q p b := (iteB_iff _ _ _).2 ⟨fun e => (by rw [h] at e; cases e), fun _ => k⟩
theorem iteB_n {b : Bool} {p q : Prop} (k : @Bool.rec (fun _ => Prop) p q b) : @Bool.rec (fun _ => Prop) q p (!b) := by cases b <;> exact k
theorem iteB_s {b : Bool} {p q : Prop} (h : b = true → p) (k : b = false → q) : @Bool.rec (fun _ => Prop) q p b := (iteB_iff _ _ _).2 ⟨h, k⟩
theorem andB_lt {a b : Int} {q : Prop} (h : a < b) (k : q) : @Bool.rec (fun _ => Prop) False q (ltI a b) := andB_i (by rw [ltI_eq]; exact decide_eq_true h) k
theorem andB_le {a b : Int} {q : Prop} (h : a ≤ b) (k : q) : @Bool.rec (fun _ => Prop) False q (leI a b) := andB_i (by rw [leI_eq]; exact decide_eq_true h) k
theorem andB_in {n : Int} {q : Prop} (h : -9223372036854775808 ≤ n ∧ n ≤ 9223372036854775807) (k : q) : @Bool.rec (fun _ => Prop) False q (inI n) := andB_i (by rw [inI_eq]; exact decide_eq_true h) k
theorem iteB_ltt {a b : Int} {p q : Prop} (h : a < b) (k : p) : @Bool.rec (fun _ => Prop) q p (ltI a b) := iteB_t (by rw [ltI_eq]; exact decide_eq_true h) k
theorem iteB_ltf {a b : Int} {p q : Prop} (h : ¬ a < b) (k : q) : @Bool.rec (fun _ => Prop) q p (ltI a b) := iteB_f (by rw [ltI_eq]; exact decide_eq_false h) k
theorem iteB_lts {a b : Int} {p q : Prop} (h : a < b → p) (k : ¬ a < b → q) : @Bool.rec (fun _ => Prop) q p (ltI a b) := iteB_s (fun e => h (by rw [ltI_eq] at e; exact of_decide_eq_true e)) (fun e => k (by rw [ltI_eq] at e; exact of_decide_eq_false e))
theorem iteB_let {a b : Int} {p q : Prop} (h : a ≤ b) (k : p) : @Bool.rec (fun _ => Prop) q p (leI a b) := iteB_t (by rw [leI_eq]; exact decide_eq_true h) k
theorem iteB_lef {a b : Int} {p q : Prop} (h : ¬ a ≤ b) (k : q) : @Bool.rec (fun _ => Prop) q p (leI a b) := iteB_f (by rw [leI_eq]; exact decide_eq_false h) k
theorem iteB_les {a b : Int} {p q : Prop} (h : a ≤ b → p) (k : ¬ a ≤ b → q) : @Bool.rec (fun _ => Prop) q p (leI a b) := iteB_s (fun e => h (by rw [leI_eq] at e; exact of_decide_eq_true e)) (fun e => k (by rw [leI_eq] at e; exact of_decide_eq_false e))
theorem andB_d {p : Prop} [Decidable p] {q : Prop} (h : p) (k : q) : @Bool.rec (fun _ => Prop) False q (decide p) := andB_i (decide_eq_true h) k
theorem iteB_dt {c : Prop} [Decidable c] {p q : Prop} (h : c) (k : p) : @Bool.rec (fun _ => Prop) q p (decide c) := iteB_t (decide_eq_true h) k
theorem iteB_df {c : Prop} [Decidable c] {p q : Prop} (h : ¬ c) (k : q) : @Bool.rec (fun _ => Prop) q p (decide c) := iteB_f (decide_eq_false h) k
theorem iteB_ds {c : Prop} [Decidable c] {p q : Prop} (h : c → p) (k : ¬ c → q) : @Bool.rec (fun _ => Prop) q p (decide c) := iteB_s (fun e => h (of_decide_eq_true e)) (fun e => k (of_decide_eq_false e))
end Go.Sym
end

section
namespace Go.Sym
set_option linter.unusedSimpArgs false
set_option linter.unusedVariables false

structure CD where
  n : Nat
  l : List (Nat × V)
  ds : List EDef
  h : List (Nat × EObj)
  next : Nat
noncomputable def CD.cfg (c : CD) : Cfg := ⟨⟨c.n, setsB c.n (repB .any (hOf c.n)) c.l⟩, c.ds, ⟨heapOf c.h, c.next⟩⟩
def slotsF (l : List (Nat × V)) : Nat → Nat → List V
  | 0, _ => []
  | n + 1, i => slotD .any i l :: slotsF l n (i + 1)
def slots (n : Nat) (l : List (Nat × V)) : List V := slotsF l n 0
theorem slotsF_get (l : List (Nat × V)) : ∀ (n j i : Nat), i < n → (slotsF l n j).getD i .undef = slotD .any (j + i) l
  | 0, _, _, h => by omega
  | n + 1, j, 0, _ => rfl
  | n + 1, j, i + 1, h => by
    have := slotsF_get l n (j + 1) i (by omega)
    rw [show j + (i + 1) = j + 1 + i by omega, ← this]
    rfl
def CD.wk (k : Nat) (m : List (Nat × Nat)) (c : CD) (c1 : Cfg) : Prop := wkP k m c1 c.n (slots c.n c.l) c.ds c.h c.next
theorem CD.wk_ok {k : Nat} {m : List (Nat × Nat)} {c : CD} {c1 : Cfg} (h : c.wk k m c1) : Wk k c1 c.cfg := by
  have hw := wkP_ok h
  obtain ⟨h1, _⟩ := guardB_b h
  simp only [Bool.and_eq_true, Nat.ble_eq] at h1
  have h4096 : c.n ≤ 4096 := h1.2.2.2.2
  have hd := hOf_le h4096
  intro own ρ0 ρ A w hk hle hr
  obtain ⟨ρ', g1, g2⟩ := hw own ρ0 ρ A w hk hle hr
  refine ⟨ρ', g1, ⟨?_, g2.d, g2.s⟩⟩
  obtain ⟨f1, d, f2, f3, f4⟩ := g2.f
  refine ⟨f1, hOf c.n, setsB_full (repB_full _ _) _, hd, fun i X hi => ?_⟩
  have hlt : i < c.n := by
    have : c.n = A.tmps.size := f1
    have := (Array.getElem?_eq_some_iff.1 hi).1
    omega
  have := f4 i X hi
  have e : (mkFrm c.n (slots c.n c.l)).t.get i = slotD .any i c.l := by
    show (B.ofList .undef (hOf c.n) (slots c.n c.l)).get i = _
    rw [B.ofList_get _ _ _ _ (by omega), slots, slotsF_get _ _ _ _ hlt, Nat.zero_add]
  show VRel ρ' ((setsB c.n (repB .any (hOf c.n)) c.l).get i) X
  rw [setsB_get hd _ _ hlt, ← e]
  exact this
def cfgK (c : CD) (k : Cfg → Prop) : Prop := frmK c.n .any c.l fun f => forceS ⟨heapOf c.h, c.next⟩ fun s => k ⟨f, c.ds, s⟩
theorem cfgK_iff (c : CD) (k : Cfg → Prop) : cfgK c k ↔ k c.cfg := by rw [cfgK, frmK_iff, forceS_iff]; exact Iff.rfl
def idm : List (Nat × EObj) → List (Nat × Nat)
  | [] => []
  | e :: l => (e.1, e.1) :: idm l

inductive OD where
  | leaf (e : EExit) (c : CD)
  | ite (b : Bool) (l r : OD)
noncomputable def OD.ot : OD → OT
  | .leaf e c => .leaf e c.cfg
  | .ite b l r => .ite b l.ot r.ot
def OD.w (K : KC) : OD → Prop
  | .leaf e c => cfgK c fun c => K e c
  | .ite b l r => iteB b (l.w K) (r.w K)
theorem OD.w_den {K : KC} : ∀ {o : OD}, o.w K → K o.ot.den.1 o.ot.den.2
  | .leaf e c, h => (cfgK_iff _ _).1 h
  | .ite b l r, h => by
    cases b
    · exact OD.w_den (o := r) h
    · exact OD.w_den (o := l) h
theorem CD.wk_as {k : Nat} {c : CD} {c1 : Cfg} (h : c.wk k (idm c.h) c1) : ∃ m, c.wk k m c1 := ⟨_, h⟩
section
variable {P : Program} {tab : Tab}
def sameR (r : Nat) : Option Nat → Bool
  | some i => Nat.beq i r
  | none => false
noncomputable def loopsIn (r : Nat) : Code → List Code
  | .loop b => bif sameR r (firstR b) then b :: loopsIn r b else loopsIn r b
  | .seq a b => loopsIn r a ++ loopsIn r b
  | .cond _ a b => loopsIn r a ++ loopsIn r b
  | .block _ b => loopsIn r b
  | .scope b => loopsIn r b
  | _ => []
noncomputable def bodyOf (P : Program) (g : FuncId) : Code := match P.funcs[g]? with
  | some fn => (match fn.body with
    | some c => c
    | none => .skip)
  | none => .skip
structure LpD where
  r : Nat
  m : List (Nat × Nat)
  c : CD
  o : OD
noncomputable def LpD.w (k : Nat) (l : LpD) : CW := fun c K => l.c.wk k l.m c ∧ l.o.w K
noncomputable def LpD.f (k : Nat) (l : LpD) : Cfg → Option (EExit × Cfg) := cutF k l.c.cfg l.o.ot
noncomputable def lpsW (k : Nat) : List LpD → LpW
  | [] => fun _ => none
  | l :: ls => fun id => bif Nat.beq l.r id then some (l.w k) else lpsW k ls id
noncomputable def lpsF (k : Nat) : List LpD → LpF
  | [] => fun _ => none
  | l :: ls => fun id => bif Nat.beq l.r id then some (l.f k) else lpsF k ls id
theorem lps_ad (k : Nat) : ∀ ls : List LpD, AdL (lpsW k ls) (lpsF k ls)
  | [] => fun _ => rfl
  | l :: ls => fun id => by
    simp only [lpsW, lpsF]
    cases Nat.beq l.r id with
    | true => exact ⟨_, rfl, fun c K hk => ⟨_, _, by unfold LpD.f cutF; rw [if_pos (CD.wk_ok hk.1)], OD.w_den hk.2⟩⟩
    | false => exact lps_ad k ls id
theorem lpsF_mem {k : Nat} : ∀ {ls : List LpD} {id : Nat} {F : Cfg → Option (EExit × Cfg)}, lpsF k ls id = some F → ∃ l ∈ ls, l.r = id ∧ F = l.f k
  | [], id, F, h => by cases h
  | l :: ls, id, F, h => by
    simp only [lpsF] at h
    cases hb : Nat.beq l.r id with
    | true => rw [hb, cond_true] at h; cases h; exact ⟨l, List.mem_cons_self, Nat.eq_of_beq_eq_true hb, rfl⟩
    | false =>
      rw [hb, cond_false] at h
      obtain ⟨l', h1, h2⟩ := lpsF_mem h
      exact ⟨l', List.mem_cons_of_mem _ h1, h2⟩
theorem loopsIn_sub : ∀ {c : Code} {ro rr : Option Nat} {n k : Nat} {lp : LpF}, (∀ id F, lp id = some F → ∀ b ∈ loopsIn id c, CodeOK P ro rr n k (.loop b) F) → LpOK P ro rr n k lp c
  | .loop b, ro, rr, n, k, lp, h => by
    refine ⟨fun id F h1 h2 => h id F h2 b ?_, loopsIn_sub fun id F h2 b' hb' => h id F h2 b' ?_⟩
    · simp [loopsIn, h1, sameR]
    · simp only [loopsIn]
      cases sameR id (firstR b)
      · exact hb'
      · exact List.mem_cons_of_mem _ hb'
  | .seq a b, ro, rr, n, k, lp, h => ⟨loopsIn_sub fun id F h2 b' hb' => h id F h2 b' (List.mem_append_left _ hb'), loopsIn_sub fun id F h2 b' hb' => h id F h2 b' (List.mem_append_right _ hb')⟩
  | .cond _ a b, ro, rr, n, k, lp, h => ⟨loopsIn_sub fun id F h2 b' hb' => h id F h2 b' (List.mem_append_left _ hb'), loopsIn_sub fun id F h2 b' hb' => h id F h2 b' (List.mem_append_right _ hb')⟩
  | .block _ b, ro, rr, n, k, lp, h => loopsIn_sub (c := b) fun id F h2 b' hb' => h id F h2 b' (by simpa only [loopsIn] using hb')
  | .scope b, ro, rr, n, k, lp, h => loopsIn_sub (c := b) fun id F h2 b' hb' => h id F h2 b' (by simpa only [loopsIn] using hb')
  | .skip, _, _, _, _, _, _ => trivial
  | .label _, _, _, _, _, _, _ => trivial
  | .ret, _, _, _, _, _, _ => trivial
  | .exit _, _, _, _, _, _, _ => trivial
  | .goto _, _, _, _, _, _, _ => trivial
  | .refuse _, _, _, _, _, _, _ => trivial
  | .region .., _, _, _, _, _, _ => trivial
  | .rangeFunc .., _, _, _, _, _, _ => trivial
def LpD.ok (P : Program) (n k : Nat) (c : Code) (l : LpD) : Prop := ∀ b ∈ loopsIn l.r c, CodeAt P none none n k (.loop b) l.c.cfg l.o.ot.den.1 l.o.ot.den.2
theorem lps_ok {n k : Nat} {c : Code} {ls : List LpD} (h : ∀ l ∈ ls, l.ok P n k c) : LpOK P none none n k (lpsF k ls) c :=
  loopsIn_sub fun id F hF b hb => by
    obtain ⟨l, h1, rfl, rfl⟩ := lpsF_mem hF
    exact cutF_ok (h l h1 b hb)
end
end Go.Sym
end

section
namespace Go.Sym

theorem PureAt.weak {P : Program} {g : FuncId} {args args' : List V} {v : V} (h : PureAt P g args v) (hw : ∀ (φ : Nat → Nat → Option Value) (X : List Value), LRel (envφ φ) args' X → LRel (envφ φ) args X) : PureAt P g args' v :=
  fun φ w A hφ hA => h φ w A hφ (hw φ _ hA)
theorem asL_eq {e e' : List Ty} {L : List (rowDen e')} {M : List (rowDen e)} (h : asL e e' L = some M) : ∃ q : e' = e, M = castL q L := by
  unfold asL at h
  split at h
  · exact ⟨_, (Option.some.inj h).symm⟩
  · cases h
theorem ofLst_rel {ρ : Env} {e : List Ty} {a : V} {L : List (rowDen e)} (h : ofLst e a = some L) {X : Value} (hX : VRel ρ a X) : VRel ρ (.lst e L false) X := by
  unfold ofLst at h
  split at h
  · obtain ⟨q, rfl⟩ := asL_eq h
    subst q
    simp only [VRel] at hX ⊢
    obtain ⟨a, c, h1, h2, h3, h4, h5⟩ := hX
    exact ⟨a, c, h1, h2, fun h => (by cases h), h4, h5⟩
  · cases h
    simp only [VRel] at hX ⊢
    exact ⟨none, 0, hX, Nat.le_refl _, fun h => (by cases h), fun _ => rfl, fun h => absurd h (Nat.lt_irrefl _)⟩
  · cases h
theorem PureAt.lst {P : Program} {g : FuncId} {e : List Ty} {a : V} {L : List (rowDen e)} {pre rest : List V} {v : V} (h : PureAt P g (pre ++ .lst e L false :: rest) v) (ha : ofLst e a = some L) : PureAt P g (pre ++ a :: rest) v := by
  refine h.weak fun φ => ?_
  clear h
  induction pre with
  | nil =>
    rintro X ⟨x, Y, rfl, h1, h2⟩
    exact ⟨x, Y, rfl, ofLst_rel ha h1, h2⟩
  | cons b pre ih =>
    rintro X ⟨x, Y, rfl, h1, h2⟩
    exact ⟨x, Y, rfl, h1, ih Y h2⟩
theorem seg_all {α : Type} (L : List α) {n : Nat} (h : L.length = n) : seg L 0 n = L := by subst h; simp [seg]
theorem castL_self {e : List Ty} (h : e = e) (L : List (rowDen e)) : castL h L = L := rfl
end Go.Sym
end

section
namespace Go.Sym
set_option linter.unusedSimpArgs false
set_option linter.unusedVariables false

noncomputable section
variable (P : Program)
end
section
variable {P : Program}
structure GL where
  f : FuncId
  k : Nat
  l : LpD
variable {tab : Tab}
theorem pure_of_calls {g : FuncId} {args : List V} {v : V} {A : Array Value} {X : Value} (ha : ∀ φ Y, LRel (envφ φ) args Y → Y = A.toList) (hv : ∀ φ, VRel (envφ φ) v X)
    (h : ∀ w, Calls P g A w fun e w' => e = .returned X ∧ Go.RowKit.Below w.heap.size w w') : PureAt P g args v := by
  intro φ w A' hφ hA
  have e : A' = A := Array.ext' (ha φ _ hA)
  subst e
  refine (h w).mono ?_
  rintro E w' ⟨rfl, hB⟩
  refine ⟨φ, X, rfl, fun _ _ _ h => h, fun _ _ _ => rfl, fun B k u hu => ?_, hv φ, hB⟩
  have hc := hφ B k u hu
  have hlt : B < w.heap.size := Nat.lt_of_not_le fun hh => by simp [World.cell?, Array.getElem?_eq_none hh] at hc
  rw [cell_of_block (h := hB.block B hlt)]
  exact hc
end
end Go.Sym
end

section
namespace Go.Sym
open Go.RowKit (Below)
set_option linter.unusedSimpArgs false
set_option linter.unusedVariables false

noncomputable section
end
section
variable {P : Program}
theorem pure_of_K {kw : KnW} {known : ESelf} (hk : SelfOK P known) (ha : AdK kw known) (hn : NoK kw known) {fuel d : Nat} {g : FuncId} {args : List V} {v : V} (ls : List LpD) (hls : ∀ n, ∀ l ∈ ls, l.ok P n 0 (bodyOf P g))
    (h : fnLW P (callW P kw fuel d) fuel (lpsW 0 ls) g args s0 (RetW v)) : PureAt P g args v := by
  obtain ⟨e, s', h1, h2⟩ := fnLW_ad (callW_ad ha hn fuel d) fuel (lps_ad 0 ls) g args s0 _ h
  exact pure_of_run (tab := noTab) noTab_ok (call_sound hk fuel d) (fun fn c n hf hc => by
    have hb : bodyOf P g = c := by simp only [bodyOf, hf, hc]
    rw [← hb]
    exact lps_ok (hls n)) h1 h2
end
end Go.Sym
end

section
namespace Go.Sym
set_option linter.unusedVariables false

noncomputable section
mutual
@[reducible] def pairV : V → V → List (Nat × Nat)
  | .ptr b _, w => (match w with
    | .ptr c _ => [(b, c)]
    | _ => [])
  | .rptr b _ _ _, w => (match w with
    | .rptr c _ _ _ => [(b, c)]
    | _ => [])
  | .sl b _ _ _ _ _, w => (match w with
    | .sl c _ _ _ _ _ => [(b, c)]
    | _ => [])
  | .rs b _ _ _ _ _, w => (match w with
    | .rs c _ _ _ _ _ => [(b, c)]
    | _ => [])
  | .map b, w => (match w with
    | .map c => [(b, c)]
    | _ => [])
  | .yld b, w => (match w with
    | .yld c => [(b, c)]
    | _ => [])
  | .iface _ v, w => (match w with
    | .iface _ u => pairV v u
    | _ => [])
  | .agg l, w => (match w with
    | .agg m => pairL l m
    | _ => [])
  | .tup l, w => (match w with
    | .tup m => pairL l m
    | _ => [])
  | .fn _ a c, w => (match w with
    | .fn _ a' c' => pairL a a' ++ pairL c c'
    | _ => [])
  | _, _ => []
@[reducible] def pairL : List V → List V → List (Nat × Nat)
  | [], _ => []
  | v :: l, m => (match m with
    | w :: m => pairV v w ++ pairL l m
    | [] => [])
end
@[reducible] def pairS (f : Frm) (l : List (Nat × V)) : List (Nat × Nat) := @List.rec (Nat × V) (fun _ => List (Nat × Nat)) [] (fun e _ ih => @Prod.rec Nat V (fun _ => List (Nat × Nat)) (fun k v => lapp (pairV v (f.get k)) ih) e) l
@[reducible] def objN (b : Nat) : List (Nat × EObj) → Option EObj
  | [] => none
  | (k, x) :: l => bif Nat.beq k b then some x else objN b l
@[reducible] def pairMp : List (V × V × Nat) → List (V × V × Nat) → List (Nat × Nat)
  | [], _ => []
  | e :: l, m => (match m with
    | f :: m => pairV e.2.1 f.2.1 ++ pairMp l m
    | [] => [])
@[reducible] def pairOb : Option EObj → Option EObj → List (Nat × Nat)
  | some (.cells cs _ _), o => (match o with
    | some (.cells ds _ _) => pairL cs ds
    | _ => [])
  | some (.map es _), o => (match o with
    | some (.map fs _) => pairMp es fs
    | _ => [])
  | some (.mit m _ _ _), o => (match o with
    | some (.mit m1 _ _ _) => [(m, m1)]
    | _ => [])
  | some (.loop r), o => (match o with
    | some (.loop q) => [(r.defers, q.defers)]
    | _ => [])
  | _, _ => []
@[reducible] def seenN (b : Nat) : List (Nat × Nat) → Bool
  | [] => false
  | e :: l => bif Nat.beq e.1 b then true else seenN b l
@[reducible] def growM (h : List (Nat × EObj)) (h1 : T EObj) (n : Nat) : List (Nat × Nat) → List (Nat × Nat) → List (Nat × Nat) :=
  @Nat.rec (fun _ => List (Nat × Nat) → List (Nat × Nat) → List (Nat × Nat)) (fun _ acc => acc)
    (fun _ ih pend acc => @List.rec (Nat × Nat) (fun _ => List (Nat × Nat)) acc (fun e l _ => @Bool.rec (fun _ => List (Nat × Nat))
      (@Option.rec EObj (fun _ => List (Nat × Nat)) (ih l acc) (fun o => ih (lapp (pairOb (objN e.1 h) (some o)) l) (lapp acc [e])) (h1.get e.2)) (ih l acc) (seenN e.1 acc)) pend) n
@[reducible] def idK (k : Nat) (l : List (Nat × EObj)) : List (Nat × Nat) := @List.rec (Nat × EObj) (fun _ => List (Nat × Nat)) [] (fun e _ ih => @Prod.rec Nat EObj (fun _ => List (Nat × Nat)) (fun b _ => @Bool.rec (fun _ => List (Nat × Nat)) ih ((b, b) :: ih) (Nat.blt b k)) e) l
@[reducible] def autoM (k : Nat) (c : CD) (c1 : Cfg) : List (Nat × Nat) := growM c.h c1.st.heap 60 (lapp (idK k c.h) (pairS c1.tmps c.l)) []
@[reducible] def keepM (k : Nat) (l : List (Nat × Nat)) : List (Nat × Nat) := @List.rec (Nat × Nat) (fun _ => List (Nat × Nat)) [] (fun e _ ih => @Bool.rec (fun _ => List (Nat × Nat)) (e :: ih) ih (Nat.blt e.1 k)) l
end
theorem seg_len {α : Type} (L : List α) (lo len : Nat) : (seg L lo len).length = min (lo + len) L.length - lo := by
  unfold seg
  rw [List.length_drop, List.length_take]
theorem rowAt_one (k : IntKind) (x : Int) : @Eq Int (rowAt [.int k] ([x] : List Int) 0) x := rfl
theorem rowAt_oneS (x : ByteArray) : @Eq ByteArray (rowAt [.str] ([x] : List ByteArray) 0) x := rfl
theorem bs_app (a b : ByteArray) : (a ++ b).size = a.size + b.size := ByteArray.size_append
theorem strOf_size (l : List Int) : (strOf l).size = l.length := by
  unfold strOf
  show (l.map fun n => UInt8.ofNat n.toNat).toArray.size = _
  rw [List.size_toArray, List.length_map]
theorem bytesL_len (s : ByteArray) : (bytesL s).length = s.size := by
  unfold bytesL
  rw [List.length_map, Array.length_toList]; rfl
theorem lens : (∀ {e : List Ty} (h : e = e) (L : List (rowDen e)), castL h L = L) ∧ (∀ {α : Type} (L : List α) (lo len : Nat), (seg L lo len).length = min (lo + len) L.length - lo) ∧
    (∀ (k : IntKind) (x : Int), @Eq Int (rowAt [.int k] ([x] : List Int) 0) x) ∧ (∀ x : ByteArray, @Eq ByteArray (rowAt [.str] ([x] : List ByteArray) 0) x) ∧
    (∀ {α : Type} {a b : List α}, (a ++ b).length = a.length + b.length) ∧ (∀ {α : Type} {a : α} {l : List α}, (a :: l).length = l.length + 1) ∧ (∀ {α : Type}, ([] : List α).length = 0) ∧
    (∀ {α : Type} {i : Nat} {l : List α}, (l.drop i).length = l.length - i) ∧ (∀ {α : Type} {i : Nat} {l : List α}, (l.take i).length = min i l.length) ∧ (∀ {α : Type} {l : List α} {i : Nat}, (l.eraseIdx i).length = if i < l.length then l.length - 1 else l.length) ∧
    (∀ {α : Type} {n : Nat} {a : α}, (List.replicate n a).length = n) ∧ (∀ {s : ByteArray} {i j : Nat}, (s.extract i j).size = min j s.size - i) ∧ (∀ (s : ByteArray) (i j : Nat), (cutS s i j).size = min j s.size - i) ∧ (∀ a b : ByteArray, (a ++ b).size = a.size + b.size) ∧
    (∀ l : List Int, (strOf l).size = l.length) ∧ (∀ s : ByteArray, (bytesL s).length = s.size) ∧ (∀ a b : Int, maxI a b = max a b) :=
  ⟨castL_self, seg_len, rowAt_one, rowAt_oneS, List.length_append, List.length_cons, List.length_nil, List.length_drop, List.length_take, List.length_eraseIdx, List.length_replicate, ByteArray.size_extract, cutS_size, bs_app, strOf_size, bytesL_len, maxI_eq⟩
theorem andB_room {n b : Nat} {q : Prop} (hb : Nat.ble b 65536 = true) (hn : n ≤ 1000000000) (k : q) : @Bool.rec (fun _ => Prop) False q (roomB n b) := by
  refine andB_i ((roomB_iff n b).2 ?_) k
  have h1 : b ≤ 65536 := Nat.le_of_ble_eq_true hb
  have h2 := Nat.mul_le_mul (show 2 * n + 768 ≤ 2000000768 by omega) h1
  omega
theorem iteB_bt {b : Bool} {p q : Prop} (k : @Bool.rec (fun _ => Prop) q p b) : @Bool.rec (fun _ => Prop) q p (true == b) := by cases b <;> exact k
theorem iteB_bf {b : Bool} {p q : Prop} (k : @Bool.rec (fun _ => Prop) p q b) : @Bool.rec (fun _ => Prop) q p (false == b) := by cases b <;> exact k
theorem iteB_tb {b : Bool} {p q : Prop} (k : @Bool.rec (fun _ => Prop) q p b) : @Bool.rec (fun _ => Prop) q p (b == true) := by cases b <;> exact k
theorem iteB_fb {b : Bool} {p q : Prop} (k : @Bool.rec (fun _ => Prop) p q b) : @Bool.rec (fun _ => Prop) q p (b == false) := by cases b <;> exact k
theorem CD.wk_au {k : Nat} {c : CD} {c1 : Cfg} (h : forceM (keepM k (autoM k c c1)) fun m => c.wk k m c1) : ∃ m, c.wk k m c1 := ⟨_, (forceM_iff _ _).1 h⟩
inductive W1 : Prop → Prop
  | t : W1 True
  | n {b : Bool} {p q : Prop} (k : @Bool.rec (fun _ => Prop) p q b) : W1 (@Bool.rec (fun _ => Prop) q p (!b))
  | ct {b c : Bool} {p q : Prop} (k : @Bool.rec (fun _ => Prop) q p b) : W1 (@Bool.rec (fun _ => Prop) q p (bif true then b else c))
  | cf {b c : Bool} {p q : Prop} (k : @Bool.rec (fun _ => Prop) q p c) : W1 (@Bool.rec (fun _ => Prop) q p (bif false then b else c))
  | bt {b : Bool} {p q : Prop} (k : @Bool.rec (fun _ => Prop) q p b) : W1 (@Bool.rec (fun _ => Prop) q p (true == b))
  | bf {b : Bool} {p q : Prop} (k : @Bool.rec (fun _ => Prop) p q b) : W1 (@Bool.rec (fun _ => Prop) q p (false == b))
  | tb {b : Bool} {p q : Prop} (k : @Bool.rec (fun _ => Prop) q p b) : W1 (@Bool.rec (fun _ => Prop) q p (b == true))
  | fb {b : Bool} {p q : Prop} (k : @Bool.rec (fun _ => Prop) p q b) : W1 (@Bool.rec (fun _ => Prop) q p (b == false))
theorem W1.o {p : Prop} (h : W1 p) : p := by
  cases h with
  | t => exact True.intro
  | n k => exact iteB_n k
  | ct k => exact k
  | cf k => exact k
  | bt k => exact iteB_bt k
  | bf k => exact iteB_bf k
  | tb k => exact iteB_tb k
  | fb k => exact iteB_fb k
inductive W2 : Prop → Prop
  | a {n : Int} {q : Prop} (h : -9223372036854775808 ≤ n ∧ n ≤ 9223372036854775807) (k : q) : W2 (@Bool.rec (fun _ => Prop) False q (inI n))
  | b {p : Prop} [Decidable p] {q : Prop} (h : p) (k : q) : W2 (@Bool.rec (fun _ => Prop) False q (decide p))
  | c {a b : Int} {q : Prop} (h : a < b) (k : q) : W2 (@Bool.rec (fun _ => Prop) False q (ltI a b))
  | d {a b : Int} {q : Prop} (h : a ≤ b) (k : q) : W2 (@Bool.rec (fun _ => Prop) False q (leI a b))
  | e {a b : Int} {p q : Prop} (h : a < b) (k : p) : W2 (@Bool.rec (fun _ => Prop) q p (ltI a b))
  | f {a b : Int} {p q : Prop} (h : a ≤ b) (k : p) : W2 (@Bool.rec (fun _ => Prop) q p (leI a b))
  | g {c : Prop} [Decidable c] {p q : Prop} (h : c) (k : p) : W2 (@Bool.rec (fun _ => Prop) q p (decide c))
theorem W2.o {p : Prop} (h : W2 p) : p := by
  cases h with
  | a h k => exact andB_in h k
  | b h k => exact andB_d h k
  | c h k => exact andB_lt h k
  | d h k => exact andB_le h k
  | e h k => exact iteB_ltt h k
  | f h k => exact iteB_let h k
  | g h k => exact iteB_dt h k
inductive W3 : Prop → Prop
  | a {a b : Int} {p q : Prop} (h : ¬ a < b) (k : q) : W3 (@Bool.rec (fun _ => Prop) q p (ltI a b))
  | b {a b : Int} {p q : Prop} (h : ¬ a ≤ b) (k : q) : W3 (@Bool.rec (fun _ => Prop) q p (leI a b))
  | c {c : Prop} [Decidable c] {p q : Prop} (h : ¬ c) (k : q) : W3 (@Bool.rec (fun _ => Prop) q p (decide c))
theorem W3.o {p : Prop} (h : W3 p) : p := by
  cases h with
  | a h k => exact iteB_ltf h k
  | b h k => exact iteB_lef h k
  | c h k => exact iteB_df h k
inductive W4 : Prop → Prop
  | a {b : Bool} {q : Prop} (h : b = true) (k : q) : W4 (@Bool.rec (fun _ => Prop) False q b)
  | b {b : Bool} {p q : Prop} (h : b = true) (k : p) : W4 (@Bool.rec (fun _ => Prop) q p b)
theorem W4.o {p : Prop} (h : W4 p) : p := by
  cases h with
  | a h k => exact andB_i h k
  | b h k => exact iteB_t h k
inductive W5 : Prop → Prop
  | a {n : Int} {q : Prop} (h : -9223372036854775808 ≤ n ∧ n ≤ 9223372036854775807) (k : q) : W5 (@Bool.rec (fun _ => Prop) False q (inI n))
  | b {a b : Int} {q : Prop} (h : a < b) (k : q) : W5 (@Bool.rec (fun _ => Prop) False q (ltI a b))
  | c {a b : Int} {q : Prop} (h : a ≤ b) (k : q) : W5 (@Bool.rec (fun _ => Prop) False q (leI a b))
  | d {p : Prop} [Decidable p] {q : Prop} (h : p) (k : q) : W5 (@Bool.rec (fun _ => Prop) False q (decide p))
  | e {b : Bool} {q : Prop} (h : b = true) (k : q) : W5 (@Bool.rec (fun _ => Prop) False q b)
  | f {k : Nat} {c : CD} {c1 : Cfg} (h : c.wk k (idm c.h) c1) : W5 (∃ m, c.wk k m c1)
  | g {a b : Prop} (h : a) (k : b) : W5 (a ∧ b)
theorem W5.o {p : Prop} (h : W5 p) : p := by
  cases h with
  | a h k => exact andB_in h k
  | b h k => exact andB_lt h k
  | c h k => exact andB_le h k
  | d h k => exact andB_d h k
  | e h k => exact andB_i h k
  | f h => exact CD.wk_as h
  | g h k => exact ⟨h, k⟩
inductive W6 : Prop → Prop
  | a {a b : Int} {p q : Prop} (h : a < b → p) (k : ¬ a < b → q) : W6 (@Bool.rec (fun _ => Prop) q p (ltI a b))
  | b {a b : Int} {p q : Prop} (h : a ≤ b → p) (k : ¬ a ≤ b → q) : W6 (@Bool.rec (fun _ => Prop) q p (leI a b))
  | c {c : Prop} [Decidable c] {p q : Prop} (h : c → p) (k : ¬ c → q) : W6 (@Bool.rec (fun _ => Prop) q p (decide c))
  | d {b : Bool} {p q : Prop} (h : b = true → p) (k : b = false → q) : W6 (@Bool.rec (fun _ => Prop) q p b)
theorem W6.o {p : Prop} (h : W6 p) : p := by
  cases h with
  | a h k => exact iteB_lts h k
  | b h k => exact iteB_les h k
  | c h k => exact iteB_ds h k
  | d h k => exact iteB_s h k
theorem pms : (∀ a b : Int, maxI a b = max a b) ∧ pmGet = pmGet0 ∧ pmHas = pmHas0 ∧ pmPut = pmPut0 ∧ pmClk = pmClk0 ∧ pmDel = pmDel0 := ⟨maxI_eq, pmGet_eq, pmHas_eq, pmPut_eq, pmClk_eq, pmDel_eq⟩
end Go.Sym
end
