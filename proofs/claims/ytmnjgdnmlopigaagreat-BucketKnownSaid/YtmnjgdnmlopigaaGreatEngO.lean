/-
  Contracts for the evaluator: what is known of one call is used at every later call. No condition; nothing here speaks of one program.
-/
import Derived.Test.YtmnjgdnmlopigaaGreatEngN
namespace Go.Eng
open Go.RowKit (Below)

mutual
/-- a value in which no address stands -/
def V.flat : V → Bool
  | .undef => true
  | .bool _ => true
  | .int _ _ => true
  | .str _ => true
  | .nilp => true
  | .nils => true
  | .nilm => true
  | .nilf => true
  | .nili => true
  | .iface _ v => v.flat
  | .agg l => flatL l
  | .tup l => flatL l
  | _ => false
def flatL : List V → Bool
  | [] => true
  | v :: l => v.flat && flatL l
end

mutual
theorem VRel.flat {ρ ρ' : Env} : ∀ (v : V) (W : Value), v.flat = true → VRel ρ v W → VRel ρ' v W
  | .undef, _, _, r => by simpa only [VRel] using r
  | .bool _, _, _, r => by simpa only [VRel] using r
  | .int _ _, _, _, r => by simpa only [VRel] using r
  | .str _, _, _, r => by simpa only [VRel] using r
  | .nilp, _, _, r => by simpa only [VRel] using r
  | .nils, _, _, r => by simpa only [VRel] using r
  | .nilm, _, _, r => by simpa only [VRel] using r
  | .nilf, _, _, r => by simpa only [VRel] using r
  | .nili, _, _, r => by simpa only [VRel] using r
  | .ptr .., _, h, _ => by simp only [V.flat] at h; cases h
  | .sl .., _, h, _ => by simp only [V.flat] at h; cases h
  | .map .., _, h, _ => by simp only [V.flat] at h; cases h
  | .yld .., _, h, _ => by simp only [V.flat] at h; cases h
  | .it .., _, h, _ => by simp only [V.flat] at h; cases h
  | .any, _, h, _ => by simp only [V.flat] at h; cases h
  | .slz _, _, h, _ => by simp only [V.flat] at h; cases h
  | .fn .., _, h, _ => by simp only [V.flat] at h; cases h
  | .iface t v, _, h, r => by
    simp only [V.flat] at h; simp only [VRel] at r ⊢; obtain ⟨X, h1, h2⟩ := r; exact ⟨X, h1, VRel.flat v _ h h2⟩
  | .agg l, _, h, r => by
    simp only [V.flat] at h; simp only [VRel] at r ⊢; obtain ⟨X, h1, h2⟩ := r; exact ⟨X, h1, LRel.flat l _ h h2⟩
  | .tup l, _, h, r => by
    simp only [V.flat] at h; simp only [VRel] at r ⊢; obtain ⟨X, h1, h2⟩ := r; exact ⟨X, h1, LRel.flat l _ h h2⟩
theorem LRel.flat {ρ ρ' : Env} : ∀ (l : List V) (W : List Value), flatL l = true → LRel ρ l W → LRel ρ' l W
  | [], _, _, r => by simpa only [LRel] using r
  | v :: l, _, h, r => by
    simp only [flatL, Bool.and_eq_true] at h
    simp only [LRel] at r ⊢; obtain ⟨X, Y, h1, h2, h3⟩ := r; exact ⟨X, Y, h1, VRel.flat v _ h.1 h2, LRel.flat l _ h.2 h3⟩
end

theorem SRel.grow {base : Nat} {ρ : Env} {s : St} {w w' : World} (h : SRel base ρ s w) (hb : Below w.heap.size w w') : SRel base ρ s w' where
  le := Nat.le_trans h.le hb.size
  obj := fun b o x hg hx => by
    obtain ⟨h2, h3⟩ := h.obj b o x hg hx
    refine ⟨h2, ?_⟩
    rw [hb.block _ (h.lt hg hx)]
    exact h3
  inj := h.inj
  dom := h.dom
  top := h.top

/-- what one call with no argument is known to give -/
def known0 (g : FuncId) (v : V) : ESelf := fun t s => match t with
  | .fn f args => match args with
    | [] => bif Nat.beq f g then some (.ret v, s) else none
    | _ :: _ => none
  | .round _ _ => none

theorem known0_ok {P : Program} {g : FuncId} {v : V} (hv : v.flat = true)
    (h : ∀ w, Calls P g #[] w fun E w' => ∃ ρ X, E = .returned X ∧ VRel ρ v X ∧ Below w.heap.size w w') : SelfOK P (known0 g v) := by
  intro t s e s' hk base ρ w hS n
  cases t with
  | round l args => cases hk
  | fn f args =>
    cases args with
    | cons => cases hk
    | nil =>
      intro A hA
      have hA : A.toList = [] := hA
      have hA : A = #[] := by simpa using hA
      subst hA
      simp only [known0] at hk
      cases he : Nat.beq f g with
      | false => rw [he] at hk; cases hk
      | true =>
        rw [he] at hk
        have := Nat.eq_of_beq_eq_true he
        subst this
        cases hk
        refine callsIn_wide.2 ((h w).mono ?_)
        rintro E w' ⟨ρ', X, rfl, h1, h2⟩
        exact ⟨ρ, ρ.le_refl, ⟨X, rfl, VRel.flat _ _ hv h1⟩, hS.grow h2, h2.mono hS.le⟩

/-- of two sources the first that knows -/
def knownOr (a b : ESelf) : ESelf := fun t s => match a t s with
  | some r => some r
  | none => b t s
theorem knownOr_ok {P : Program} {a b : ESelf} (ha : SelfOK P a) (hb : SelfOK P b) : SelfOK P (knownOr a b) := by
  intro t s e s' hk
  unfold knownOr at hk
  split at hk
  · rename_i r hr
    cases hk
    exact ha t s e s' hr
  · exact hb t s e s' hk

/-- a call that answers true -/
def isTrue : Option (EEnd × St) → Bool
  | some (.ret (.bool b), _) => b
  | _ => false
theorem calls_true {P : Program} {known : ESelf} (hk : SelfOK P known) {fuel d : Nat} {g : FuncId} (h : isTrue (callE P known fuel d (.fn g []) st0) = true) (w : World) :
    Calls P g #[] w fun E w' => E = .returned (.bool true) ∧ Below w.heap.size w w' := by
  cases hr : callE P known fuel d (.fn g []) st0 with
  | none => rw [hr] at h; cases h
  | some r =>
    obtain ⟨e, s'⟩ := r
    rw [hr] at h
    cases e with
    | pan v => cases h
    | ret v =>
      cases v with
      | bool b =>
        have hb : b = true := h
        subst hb
        refine (calls_of_eval hk hr w (A := #[]) rfl).mono ?_
        rintro E w' ⟨ρ, X, rfl, h1, _, h3⟩
        have h1 : X = .bool true := by simpa only [VRel] using h1
        exact ⟨by rw [h1], h3⟩
      | _ => cases h
end Go.Eng
