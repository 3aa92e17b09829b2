/-
  Contracts: what a call with plain arguments comes to, in whatever world; and what such a contract is proved by.
-/
import Derived.Test.YtpdckafighfadaaSymY
namespace Go.Sym
open Go.RowKit (Below)
set_option linter.unusedSimpArgs false
set_option linter.unusedVariables false

def envφ (φ : Nat → Nat → Option Value) : Env := ⟨fun _ => none, 0, φ⟩
def FzW (φ : Nat → Nat → Option Value) (w : World) : Prop := ∀ B k v, φ B k = some v → w.cell? ⟨B, k, none⟩ = some v
/-- a call with these arguments returns that, and changes nothing that was there -/
def PureAt (P : Program) (g : FuncId) (args : List V) (v : V) : Prop := ∀ (φ : Nat → Nat → Option Value) (w : World) (A : Array Value), FzW φ w → LRel (envφ φ) args A.toList →
  Calls P g A w fun E w' => ∃ φ' X, E = .returned X ∧ subφ φ φ' ∧ (∀ B k, B < w.heap.size → φ' B k = φ B k) ∧ FzW φ' w' ∧ VRel (envφ φ') v X ∧ Below w.heap.size w w'

mutual
/-- a value that names no block -/
def V.bare : V → Bool
  | .undef | .bool _ | .int .. | .str _ | .nilp | .nils | .nilm | .nilf | .nili | .lptr .. | .lst .. | .arr .. => true
  | .iface _ v => v.bare
  | .agg l => bareL l
  | .tup l => bareL l
  | .fn _ a c => bareL a && bareL c
  | _ => false
def bareL : List V → Bool
  | [] => true
  | v :: l => v.bare && bareL l
end
noncomputable section
mutual
/-- a value, its slices of rows as plain lists -/
def frzV (s : St) : V → Option (List Bool × V)
  | .rs b lo len _ _ es => (match rowsAt s b with
    | some ⟨e, L⟩ => bif Nat.beq es e.length then some ([decide (lo + len ≤ L.length)], .lst e (seg L lo len) false) else none
    | none => none)
  | .iface t v => (match frzV s v with
    | some (c, v') => some (c, .iface t v')
    | none => none)
  | .agg l => (match frzL s l with
    | some (c, l') => some (c, .agg l')
    | none => none)
  | .tup l => (match frzL s l with
    | some (c, l') => some (c, .tup l')
    | none => none)
  | .undef => some ([], .undef)
  | .bool b => some ([], .bool b)
  | .int k n => some ([], .int k n)
  | .str x => some ([], .str x)
  | .nilp => some ([], .nilp)
  | .nils => some ([], .nils)
  | .nilm => some ([], .nilm)
  | .nilf => some ([], .nilf)
  | .nili => some ([], .nili)
  | .lptr e L i j => some ([], .lptr e L i j)
  | .lst e L cl => some ([], .lst e L cl)
  | .arr e L => some ([], .arr e L)
  | .fn f a c => (bif bareL a && bareL c then some ([], .fn f a c) else none)
  | _ => none
def frzL (s : St) : List V → Option (List Bool × List V)
  | [] => some ([], [])
  | v :: l => (match frzV s v, frzL s l with
    | some (c, v'), some (c', l') => some (c ++ c', v' :: l')
    | _, _ => none)
end
end

mutual
theorem VRel.bare {ρ ρ' : Env} (h : subφ ρ.φ ρ'.φ) : ∀ (v : V) (X : Value), v.bare = true → VRel ρ v X → VRel ρ' v X
  | .undef, X, _, r => by simpa only [VRel] using r
  | .bool _, X, _, r => by simpa only [VRel] using r
  | .int .., X, _, r => by simpa only [VRel] using r
  | .str _, X, _, r => by simpa only [VRel] using r
  | .nilp, X, _, r => by simpa only [VRel] using r
  | .nils, X, _, r => by simpa only [VRel] using r
  | .nilm, X, _, r => by simpa only [VRel] using r
  | .nilf, X, _, r => by simpa only [VRel] using r
  | .nili, X, _, r => by simpa only [VRel] using r
  | .lptr e L i j, X, _, r => by simp only [VRel] at r ⊢; obtain ⟨B, o, h1, h2⟩ := r; exact ⟨B, o, h1, h2.mono h fun _ _ hv => h _ _ _ hv⟩
  | .lst e L cl, X, _, r => by
    simp only [VRel] at r ⊢; obtain ⟨a, c, h1, h2, h3, h5, h4⟩ := r
    exact ⟨a, c, h1, h2, h3, h5, fun hp => let ⟨B, o, g1, g2⟩ := h4 hp; ⟨B, o, g1, g2.mono h fun _ _ hv => h _ _ _ hv⟩⟩
  | .arr e L, X, _, r => by simp only [VRel] at r ⊢; obtain ⟨A, h1, h2, h3⟩ := r; exact ⟨A, h1, h2, h3.mono h fun _ _ hv => hv⟩
  | .iface t v, X, hf, r => by
    simp only [VRel] at r ⊢
    obtain ⟨Y, h1, h2⟩ := r
    exact ⟨Y, h1, VRel.bare h v Y (by simpa only [V.bare] using hf) h2⟩
  | .agg l, X, hf, r => by
    simp only [VRel] at r ⊢
    obtain ⟨Y, h1, h2⟩ := r
    exact ⟨Y, h1, LRel.bare h l _ (by simpa only [V.bare] using hf) h2⟩
  | .tup l, X, hf, r => by
    simp only [VRel] at r ⊢
    obtain ⟨Y, h1, h2⟩ := r
    exact ⟨Y, h1, LRel.bare h l _ (by simpa only [V.bare] using hf) h2⟩
  | .fn f a c, X, hf, r => by
    simp only [VRel] at r ⊢
    simp only [V.bare, Bool.and_eq_true] at hf
    obtain ⟨A, C, h1, h2, h3⟩ := r
    exact ⟨A, C, h1, LRel.bare h a _ hf.1 h2, LRel.bare h c _ hf.2 h3⟩
  | .any, _, hf, _ => by simp [V.bare] at hf
  | .ptr .., _, hf, _ => by simp [V.bare] at hf
  | .rptr .., _, hf, _ => by simp [V.bare] at hf
  | .sl .., _, hf, _ => by simp [V.bare] at hf
  | .rs .., _, hf, _ => by simp [V.bare] at hf
  | .map _, _, hf, _ => by simp [V.bare] at hf
  | .yld _, _, hf, _ => by simp [V.bare] at hf
theorem LRel.bare {ρ ρ' : Env} (h : subφ ρ.φ ρ'.φ) : ∀ (l : List V) (X : List Value), bareL l = true → LRel ρ l X → LRel ρ' l X
  | [], X, _, r => r
  | v :: l, X, hf, r => by
    simp only [bareL, Bool.and_eq_true] at hf
    obtain ⟨Y, Z, h1, h2, h3⟩ := r
    exact ⟨Y, Z, h1, VRel.bare h v Y hf.1 h2, LRel.bare h l Z hf.2 h3⟩
end

section
variable {P : Program} {own : Own} {ρ ρ' : Env} {s : St} {w : World}

theorem frz_id {v : V} (hb : v.bare = true) (h : subφ ρ.φ ρ'.φ) {X : Value} (hv : VRel ρ v X) : VRel ρ' v X := VRel.bare h v X hb hv
mutual
theorem frzV_rel (hS : SRel own ρ s w) (hφ : subφ ρ.φ ρ'.φ) (hc : ∀ (b : Nat) (x : Blk) e L, rowsAt s b = some ⟨e, L⟩ → ρ b = some x → ∀ k u, w.cell? ⟨x.B, k, none⟩ = some u → ρ'.φ x.B k = some u) : ∀ (v : V) (c : List Bool) (v' : V) (X : Value), frzV s v = some (c, v') → allB c → VRel ρ v X → VRel ρ' v' X
  | .rs b lo len cap x es, c, v', X, h, ha, r => by
    rw [frzV.eq_def] at h
    simp only at h
    split at h
    · rename_i e L hL
      cases hb : Nat.beq es e.length with
      | false => rw [hb] at h; cases h
      | true =>
      rw [hb, cond_true] at h
      have hb := Nat.eq_of_beq_eq_true hb
      subst hb
      cases h
      have hle : lo + len ≤ L.length := by simpa using ha.1
      simp only [VRel] at r ⊢
      obtain ⟨a, c', h1, h2, h3, h4, h5, h6⟩ := r
      have hl := seg_length hle
      refine ⟨a, c', by rw [hl]; exact h1, by rw [hl]; omega, fun hh => (by cases hh), h5, fun hp => ?_⟩
      rw [hl] at hp
      obtain ⟨B, O, S, g1, g2, g3⟩ := h6 (by omega)
      have hr := rows_seg hle (hS.rowsAt hL g1).1
      refine ⟨B, _, g2, hr.mono (fun _ _ _ hv => hφ _ _ _ hv) fun j u hu => ?_⟩
      rw [Nat.add_assoc]
      exact hc b _ e L hL g1 _ _ hu
    · cases h
  | .iface t v, c, v', X, h, ha, r => by
    rw [frzV.eq_def] at h
    simp only at h
    split at h
    · rename_i c1 v1 hv
      cases h
      simp only [VRel] at r ⊢
      obtain ⟨Y, h1, h2⟩ := r
      exact ⟨Y, h1, frzV_rel hS hφ hc v _ _ Y hv ha h2⟩
    · cases h
  | .agg l, c, v', X, h, ha, r => by
    rw [frzV.eq_def] at h
    simp only at h
    split at h
    · rename_i c1 v1 hv
      cases h
      simp only [VRel] at r ⊢
      obtain ⟨Y, h1, h2⟩ := r
      exact ⟨Y, h1, frzL_rel hS hφ hc l _ _ _ hv ha h2⟩
    · cases h
  | .tup l, c, v', X, h, ha, r => by
    rw [frzV.eq_def] at h
    simp only at h
    split at h
    · rename_i c1 v1 hv
      cases h
      simp only [VRel] at r ⊢
      obtain ⟨Y, h1, h2⟩ := r
      exact ⟨Y, h1, frzL_rel hS hφ hc l _ _ _ hv ha h2⟩
    · cases h
  | .undef, c, v', X, h, _, r => by rw [frzV.eq_def] at h; cases h; exact frz_id rfl hφ r
  | .bool _, c, v', X, h, _, r => by rw [frzV.eq_def] at h; cases h; exact frz_id rfl hφ r
  | .int .., c, v', X, h, _, r => by rw [frzV.eq_def] at h; cases h; exact frz_id rfl hφ r
  | .str _, c, v', X, h, _, r => by rw [frzV.eq_def] at h; cases h; exact frz_id rfl hφ r
  | .nilp, c, v', X, h, _, r => by rw [frzV.eq_def] at h; cases h; exact frz_id rfl hφ r
  | .nils, c, v', X, h, _, r => by rw [frzV.eq_def] at h; cases h; exact frz_id rfl hφ r
  | .nilm, c, v', X, h, _, r => by rw [frzV.eq_def] at h; cases h; exact frz_id rfl hφ r
  | .nilf, c, v', X, h, _, r => by rw [frzV.eq_def] at h; cases h; exact frz_id rfl hφ r
  | .nili, c, v', X, h, _, r => by rw [frzV.eq_def] at h; cases h; exact frz_id rfl hφ r
  | .lptr .., c, v', X, h, _, r => by rw [frzV.eq_def] at h; cases h; exact frz_id rfl hφ r
  | .lst .., c, v', X, h, _, r => by rw [frzV.eq_def] at h; cases h; exact frz_id rfl hφ r
  | .arr .., c, v', X, h, _, r => by rw [frzV.eq_def] at h; cases h; exact frz_id rfl hφ r
  | .fn f a d, c, v', X, h, _, r => by
    rw [frzV.eq_def] at h
    simp only at h
    cases hb : (bareL a && bareL d) with
    | false => rw [hb] at h; cases h
    | true => rw [hb] at h; cases h; exact frz_id (by simpa only [V.bare] using hb) hφ r
  | .any, c, v', X, h, _, _ => by rw [frzV.eq_def] at h; cases h
  | .ptr .., c, v', X, h, _, _ => by rw [frzV.eq_def] at h; cases h
  | .rptr .., c, v', X, h, _, _ => by rw [frzV.eq_def] at h; cases h
  | .sl .., c, v', X, h, _, _ => by rw [frzV.eq_def] at h; cases h
  | .map _, c, v', X, h, _, _ => by rw [frzV.eq_def] at h; cases h
  | .yld _, c, v', X, h, _, _ => by rw [frzV.eq_def] at h; cases h
theorem frzL_rel (hS : SRel own ρ s w) (hφ : subφ ρ.φ ρ'.φ) (hc : ∀ (b : Nat) (x : Blk) e L, rowsAt s b = some ⟨e, L⟩ → ρ b = some x → ∀ k u, w.cell? ⟨x.B, k, none⟩ = some u → ρ'.φ x.B k = some u) : ∀ (l : List V) (c : List Bool) (l' : List V) (X : List Value), frzL s l = some (c, l') → allB c → LRel ρ l X → LRel ρ' l' X
  | [], c, l', X, h, _, r => by rw [frzL.eq_def] at h; cases h; exact r
  | v :: l, c, l', X, h, ha, r => by
    rw [frzL.eq_def] at h
    simp only at h
    split at h
    · rename_i c1 v1 c2 l2 h1 h2
      cases h
      rw [allB_append] at ha
      obtain ⟨Y, Z, g1, g2, g3⟩ := r
      exact ⟨Y, Z, g1, frzV_rel hS hφ hc v _ _ Y h1 ha.1 g2, frzL_rel hS hφ hc l _ _ Z h2 ha.2 g3⟩
    · cases h
end

/-! ### a table of contracts -/
abbrev Tab := FuncId → List V → Option (List Bool × V)
def TabOK (P : Program) (tab : Tab) : Prop := ∀ g args c v, tab g args = some (c, v) → allB c → PureAt P g args v
noncomputable section
/-- what the table says of a call -/
def tabAt (tab : Tab) (t : ETgt) (s : St) : Option (List Bool × V) :=
  match t with
  | .fn g args => (match bareL args with
    | true => tab g args
    | false => (match frzL s args with
      | some (c, args') => (match tab g args' with
        | some (c', v) => bif v.flat then some (c ++ c', v) else none
        | none => none)
      | none => none))
  | .round _ _ => none
def knW (tab : Tab) : KnW := fun t s => match tabAt tab t s with
  | some (c, v) => some fun k => needsR c (k (.ret v) s)
  | none => none
def knE (tab : Tab) : ESelf := fun t s => match tabAt tab t s with
  | some (c, v) => bif allb c then some (.ret v, s) else none
  | none => none
end
theorem kn_ad (tab : Tab) : AdK (knW tab) (knE tab) := by
  intro t s r hr k hk
  unfold knW at hr
  unfold knE
  split at hr
  · rename_i c v hc
    cases hr
    obtain ⟨h1, h2⟩ := needs_b hk
    exact ⟨_, _, by simp only [h1, cond_true], h2⟩
  · cases hr
theorem kn_no (tab : Tab) : NoK (knW tab) (knE tab) := by
  intro t s h
  unfold knW at h
  unfold knE
  split at h
  · cases h
  · rfl

theorem SRel.grow (h : SRel own ρ s w) {w' : World} (hb : Below w.heap.size w w') {φ' : Nat → Nat → Option Value} (h1 : subφ ρ.φ φ') (h2 : ∀ B k, B < w.heap.size → φ' B k = ρ.φ B k) (h3 : FzW φ' w') :
    ρ.le ⟨ρ.f, ρ.n, φ'⟩ ∧ SRel own ⟨ρ.f, ρ.n, φ'⟩ s w' ∧ Fr own w w' := by
  have hle : ρ.le ⟨ρ.f, ρ.n, φ'⟩ := ⟨⟨fun _ _ e => e, h1⟩, Nat.le_refl _, fun _ _ e => e⟩
  have hown : ∀ k, ¬ own k → k < w.heap.size := fun k hk => Nat.lt_of_not_le fun hh => hk (h.le k hh)
  refine ⟨hle, ⟨fun B hB => h.le B (Nat.le_trans hb.size hB), fun b o x hg hx => ?_, h.inj, h.dom, h.top, h3, fun B k hB => ?_⟩, ⟨hb.os, hb.tape, hb.output, hb.size, fun k hk => hb.block k (hown k hk)⟩⟩
  · obtain ⟨⟨q1, q2⟩, q3⟩ := h.obj b o x hg hx
    have hlt := h.lt hg hx
    refine ⟨⟨q1, fun k => by rw [show (⟨ρ.f, ρ.n, φ'⟩ : Env).φ x.B k = φ' x.B k from rfl, h2 _ _ hlt]; exact q2 k⟩, ?_⟩
    rw [hb.block _ hlt]
    exact q3.mono hle
  · rw [show (⟨ρ.f, ρ.n, φ'⟩ : Env).φ B k = φ' B k from rfl, h2 _ _ (hown B hB)]
    exact h.old B k hB

theorem kn_ok {tab : Tab} (ht : TabOK P tab) : SelfOK P (knE tab) := by
  intro t s e s' hk own ρ w hS n
  unfold knE at hk
  split at hk
  · rename_i c v hc
    cases hcc : allb c with
    | false => rw [hcc] at hk; cases hk
    | true =>
    rw [hcc, cond_true] at hk
    cases hk
    have hcc := (allb_iff c).1 hcc
    cases t with
    | round l args => cases hc
    | fn g args =>
      intro A hA
      simp only [tabAt] at hc
      split at hc
      · rename_i hb
        have hp := ht g args c v hc hcc ρ.φ w A hS.fz (LRel.bare (ρ := ρ) (ρ' := envφ ρ.φ) (fun _ _ _ h => h) args _ hb hA)
        refine callsIn_wide.2 (hp.mono ?_)
        rintro E w' ⟨φ', X, rfl, h1, h2, h3, h4, h5⟩
        obtain ⟨g1, g2, g3⟩ := hS.grow h5 h1 h2 h3
        exact ⟨_, g1, ⟨X, rfl, VRel.up (ρ := envφ φ') (ρ' := ⟨ρ.f, ρ.n, φ'⟩) ⟨fun _ _ h => (by cases h), fun _ _ _ h => h⟩ v X h4⟩, g2, g3⟩
      · split at hc
        · rename_i c1 args' hf
          split at hc
          · rename_i c2 v2 h2
            cases hfl : v2.flat with
            | false => rw [hfl] at hc; cases hc
            | true =>
            rw [hfl, cond_true] at hc
            cases hc
            rw [allB_append] at hcc
            let φ1 : Nat → Nat → Option Value := fun B k => w.cell? ⟨B, k, none⟩
            have hA' : LRel (envφ φ1) args' A.toList := frzL_rel (ρ' := envφ φ1) hS (fun B k u hu => hS.fz B k u hu) (fun b x e L _ _ k u hu => hu) args c1 args' _ hf hcc.1 hA
            have hp := ht g args' c2 v h2 hcc.2 φ1 w A (fun _ _ _ h => h) hA'
            refine callsIn_wide.2 (hp.mono ?_)
            rintro E w' ⟨φ', X, rfl, h1, h2, h3, h4, h5⟩
            obtain ⟨g1, g2, g3⟩ := hS.grow h5 (φ' := ρ.φ) (fun _ _ _ h => h) (fun _ _ _ => rfl) (fun B k u hu => by
              have hc := hS.fz B k u hu
              have hlt : B < w.heap.size := Nat.lt_of_not_le fun hh => by simp [World.cell?, Array.getElem?_eq_none hh] at hc
              rw [cell_of_block (h := h5.block B hlt)]
              exact hc)
            exact ⟨_, g1, ⟨X, rfl, VRel.flat v X hfl h4⟩, g2, g3⟩
          · cases hc
        · cases hc
  · cases hk

/-! ### what proves a contract -/
noncomputable def s0 : St := ⟨.leaf, 0⟩
theorem s0_rel (φ : Nat → Nat → Option Value) (w : World) (h : FzW φ w) : SRel ⟨fun B => w.heap.size ≤ B, φ⟩ (envφ φ) s0 w where
  le := fun B hB => hB
  obj := fun b o x hb _ => by rw [show s0.heap.get b = none from T.get_leaf b] at hb; cases hb
  inj := fun b b' o o' x x' hb _ _ _ => by rw [show s0.heap.get b = none from T.get_leaf b] at hb; cases hb
  dom := fun b x hx => by cases hx
  top := Nat.le_refl _
  fz := h
  old := fun _ _ _ => rfl
/-- the value that a call returns, its lists as plain ones -/
def RetW (v : V) : KS := fun e s' => match e with
  | .ret v' => (match frzV s' v' with
    | some (c, u) => needsR c (u = v)
    | none => False)
  | .pan _ => False
theorem pure_of_run {tab : Tab} (ht : TabOK P tab) {self : ESelf} (hs : SelfOK P self) {fuel : Nat} {lp : LpF} {g : FuncId} {args : List V} (hlp : ∀ fn c n, P.funcs[g]? = some fn → fn.body = some c → LpOK P none none n 0 lp c) {e : EEnd} {s' : St} {v : V}
    (h : runFnL P self fuel lp g args s0 = some (e, s')) (hr : RetW v e s') : PureAt P g args v := by
  intro φ w A hφ hA
  have := fnL_sound hs fuel lp g args s0 hlp e s' h ⟨fun B => w.heap.size ≤ B, φ⟩ (envφ φ) w (s0_rel φ w hφ) 0 A hA
  refine (callsIn_wide.1 this).mono ?_
  rintro E w' ⟨ρ', h1, h2, h3, h4⟩
  cases e with
  | pan v' => exact hr.elim
  | ret v' =>
    obtain ⟨X, rfl, hX⟩ := h2
    simp only [RetW] at hr
    split at hr
    · rename_i c u hf
      obtain ⟨hc, rfl⟩ := (needsR_iff _ _).1 hr
      refine ⟨fun B k => if B < w.heap.size then φ B k else w'.cell? ⟨B, k, none⟩, X, rfl, fun B k u hu => ?_, fun B k hB => by simp only [hB, if_true], fun B k u hu => ?_, ?_, ?_⟩
      · have hc := hφ B k u hu
        have hlt : B < w.heap.size := Nat.lt_of_not_le fun hh => by simp [World.cell?, Array.getElem?_eq_none hh] at hc
        simp only [hlt, if_true]; exact hu
      · simp only at hu
        split at hu
        · exact h3.fz B k u (h1.sub.2 _ _ _ hu)
        · exact hu
      · refine frzV_rel (ρ' := envφ _) h3 (fun B k u hu => ?_) (fun b x e L hL hx k u hu => ?_) v' c u X hf hc hX
        · show (if B < w.heap.size then φ B k else w'.cell? ⟨B, k, none⟩) = some u
          split
          · rename_i hB
            have := h3.old B k (Nat.not_le.2 hB)
            rw [← hu, this]
          · exact h3.fz B k u hu
        · show (if x.B < w.heap.size then φ x.B k else w'.cell? ⟨x.B, k, none⟩) = some u
          have hown : w.heap.size ≤ x.B := by
            unfold Sym.rowsAt at hL
            split at hL
            · rename_i hg
              exact (h3.obj b _ x hg hx).1.1
            · cases hL
          rw [if_neg (Nat.not_lt.2 hown)]
          exact hu
      · exact ⟨h4.os, h4.tape, h4.output, h4.size, fun k hk => h4.block k (Nat.not_le.2 hk)⟩
    · exact hr.elim
theorem pure_of_W {tab : Tab} (ht : TabOK P tab) {fuel d : Nat} {lw : LpW} {lp : LpF} (hl : AdL lw lp) {g : FuncId} {args : List V} (hlp : ∀ fn c n, P.funcs[g]? = some fn → fn.body = some c → LpOK P none none n 0 lp c) {v : V}
    (h : fnLW P (callW P (knW tab) fuel d) fuel lw g args s0 (RetW v)) : PureAt P g args v := by
  obtain ⟨e, s', h1, h2⟩ := fnLW_ad (callW_ad (kn_ad tab) (kn_no tab) fuel d) fuel hl g args s0 _ h
  exact pure_of_run ht (call_sound (kn_ok ht) fuel d) hlp h1 h2
/-- .. a function without loops that are told elsewhere -/
theorem pure_of_W0 {tab : Tab} (ht : TabOK P tab) {fuel d : Nat} {g : FuncId} {args : List V} {v : V} (h : fnLW P (callW P (knW tab) fuel d) fuel noLpW g args s0 (RetW v)) : PureAt P g args v :=
  pure_of_W ht noLp_ad (fun _ c _ _ _ => noLp_ok c) h

def noTab : Tab := fun _ _ => none
theorem noTab_ok : TabOK P noTab := fun _ _ _ _ h => by cases h
/-- of two tables the first that knows -/
def orTab (a b : Tab) : Tab := fun g args => match a g args with
  | some r => some r
  | none => b g args
theorem orTab_ok {a b : Tab} (ha : TabOK P a) (hb : TabOK P b) : TabOK P (orTab a b) := by
  intro g args c v h
  unfold orTab at h
  split at h
  · rename_i r hr; cases h; exact ha g args c v hr
  · exact hb g args c v h
/-- one function's contract, and those of others -/
def oneTab (f : FuncId) (F : List V → Option (List Bool × V)) (b : Tab) : Tab := fun g args => bif Nat.beq g f then F args else b g args
theorem oneTab_ok {f : FuncId} {F : List V → Option (List Bool × V)} {b : Tab} (hF : ∀ args c v, F args = some (c, v) → allB c → PureAt P f args v) (hb : TabOK P b) : TabOK P (oneTab f F b) := by
  intro g args c v h
  unfold oneTab at h
  cases hg : Nat.beq g f with
  | true => rw [hg, cond_true] at h; rw [Nat.eq_of_beq_eq_true hg]; exact hF args c v h
  | false => rw [hg, cond_false] at h; exact hb g args c v h

/-- what the law's row wants -/
theorem pure_true {g : FuncId} {args : List V} (h : PureAt P g args (.bool true)) (w : World) (A : Array Value) (hA : LRel (envφ fun B k => w.cell? ⟨B, k, none⟩) args A.toList) :
    Calls P g A w fun E w' => E = .returned (.bool true) ∧ Below w.heap.size w w' := by
  refine (h _ w A (fun _ _ _ h => h) hA).mono ?_
  rintro E w' ⟨φ', X, rfl, _, _, _, h4, h5⟩
  have h4 : X = .bool true := by simpa only [VRel] using h4
  exact ⟨by rw [h4], h5⟩
end

/-! ### how a statement is taken apart -/
theorem sEq_self (a : ByteArray) : sEq a a = true := decide_eq_true rfl
theorem eqOK_i {P : Program} {t : TypeId} (h : eqOK0 P t = true) : eqOK P t = true := (eqOK_eq P t).trans h
theorem V.same_t {v w : V} (h : v = w) : v.same w = true := by rw [h]; exact V.same_self w
theorem andB_i {b : Bool} {q : Prop} (h : b = true) (k : q) : @Bool.rec (fun _ => Prop) False q b := (andB_iff _ _).2 ⟨h, k⟩
theorem iteB_t {b : Bool} {p q : Prop} (h : b = true) (k : p) : @Bool.rec (fun _ => Prop) q p b := (iteB_iff _ _ _).2 ⟨fun _ => k, fun e => by rw [h] at e; cases e⟩
theorem iteB_f {b : Bool} {p q : Prop} (h : b = false) (k : q) : @Bool.rec (fun _ => Prop) q p b := (iteB_iff _ _ _).2 ⟨fun e => (by rw [h] at e; cases e), fun _ => k⟩
theorem iteB_n {b : Bool} {p q : Prop} (k : @Bool.rec (fun _ => Prop) p q b) : @Bool.rec (fun _ => Prop) q p (!b) := by cases b <;> exact k
theorem iteB_s {b : Bool} {p q : Prop} (h : b = true → p) (k : b = false → q) : @Bool.rec (fun _ => Prop) q p b := (iteB_iff _ _ _).2 ⟨h, k⟩
end Go.Sym
