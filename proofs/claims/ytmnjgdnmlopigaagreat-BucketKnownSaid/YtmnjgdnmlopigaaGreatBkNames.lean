/-
  Names of the store's files, that may be: a contract for the evaluator. No condition.
-/
import Derived.Test.YtmnjgdnmlopigaaGreatBkKnow
import Derived.Test.YtmnjgdnmlopigaaGreatFilesKeys
import Derived.Test.YtmnjgdnmlopigaaGreatPoolKeys
import Derived.Test.YtmnjgdnmlopigaaGreatCrcKnow
import Derived.KernelRfl
namespace Go.Proofs.YtmnjgdnmlopigaaGreat
open Go.Eng
open Go.RowKit (Below)

theorem calls_true1 {P : Program} {known : ESelf} (hk : SelfOK P known) {fuel d : Nat} {g : FuncId} {x : BS} (h : isTrue (callE P known fuel d (.fn g [.str x]) st0) = true) (w : World) :
    Calls P g #[.string x.den] w fun E w' => E = .returned (.bool true) ∧ Below w.heap.size w w' := by
  cases hr : callE P known fuel d (.fn g [.str x]) st0 with
  | none => rw [hr] at h; cases h
  | some r =>
    obtain ⟨e, s'⟩ := r
    rw [hr] at h
    cases e with
    | pan v => cases h
    | ret v =>
      cases v with
      | bool b =>
        have hb : b = true := h
        subst hb
        refine (calls_of_eval hk hr w (A := #[.string x.den]) (LRel.cons (by simp only [VRel]) LRel.nil)).mono ?_
        rintro E w' ⟨ρ, X, rfl, h1, _, h3⟩
        have h1 : X = .bool true := by simpa only [VRel] using h1
        exact ⟨by rw [h1], h3⟩
      | _ => cases h
def pagesL : List UInt8 := [112, 97, 103, 101, 115]
def spareL : List UInt8 := [112, 97, 103, 101, 115, 46, 116, 109, 112]
noncomputable def knownNo : ESelf := fun _ _ => none
theorem pages_run : isTrue (callE Tryz.prog knownNo 300 40 (.fn 102 [.str (BS.ofList pagesL)]) st0) = true := by kernel_rfl
theorem spare_run : isTrue (callE Tryz.prog knownNo 300 40 (.fn 102 [.str (BS.ofList spareL)]) st0) = true := by kernel_rfl
theorem name_calls (l : List UInt8) (h : l = pagesL ∨ l = spareL) (w : World) : Calls Tryz.prog 102 #[.string ⟨l.toArray⟩] w fun E w' => E = .returned (.bool true) ∧ Below w.heap.size w w' := by
  have hr : isTrue (callE Tryz.prog knownNo 300 40 (.fn 102 [.str (BS.ofList l)]) st0) = true := by
    rcases h with rfl | rfl
    · exact pages_run
    · exact spare_run
  have := calls_true1 (P := Tryz.prog) (known := knownNo) none_ok hr w
  rw [BS.den_ofList] at this
  exact this
def nameOK (x : BS) : Bool := bif eqL x.list pagesL then true else eqL x.list spareL
noncomputable def knownName : ESelf := fun t s => match t with
  | .fn f args => bif Nat.beq f 102 then (match args with
      | [.str x] => bif nameOK x then some (.ret (.bool true), s) else none
      | _ => none) else none
  | .round _ _ => none
theorem knownName_ok : SelfOK Tryz.prog knownName := by
  intro t s e s' hk base ρ w hS n
  cases t with
  | round l args => cases hk
  | fn f args =>
    intro A hA
    simp only [knownName] at hk
    cases hf : Nat.beq f 102 with
    | false => rw [hf] at hk; cases hk
    | true =>
      rw [hf, cond_true] at hk
      have := Nat.eq_of_beq_eq_true hf
      subst this
      split at hk
      · rename_i x
        cases hx : nameOK x with
        | false => rw [hx] at hk; cases hk
        | true =>
          rw [hx, cond_true] at hk
          cases hk
          have hl : x.list = pagesL ∨ x.list = spareL := by
            unfold nameOK at hx
            cases h1 : eqL x.list pagesL with
            | true => exact .inl ((eqL_iff _ _).1 h1)
            | false => rw [h1, cond_false] at hx; exact .inr ((eqL_iff _ _).1 hx)
          obtain ⟨X, Y, e1, h1, h2⟩ := hA
          have h2 : Y = [] := h2
          subst h2
          simp only [VRel] at h1
          have eA : A = #[.string ⟨x.list.toArray⟩] := by
            cases A; simp at e1; rw [e1, h1]; rfl
          subst eA
          refine callsIn_wide.2 ((name_calls _ hl w).mono ?_)
          rintro E w' ⟨rfl, hw⟩
          exact ⟨ρ, ρ.le_refl, ⟨_, rfl, by simp only [VRel]⟩, hS.grow hw, hw.mono hS.le⟩
      · cases hk
end Go.Proofs.YtmnjgdnmlopigaaGreat
