/-
  The chapter's rows, run: the program's function "works" returns true, in whatever world; a contract of it for the evaluator. No condition.
-/
import Derived.Test.YtmnjgdnmlopigaaGreatFilesKeys
import Derived.Test.YtmnjgdnmlopigaaGreatPoolKeys
import Derived.Test.YtmnjgdnmlopigaaGreatBkKnow
import Derived.Test.YtmnjgdnmlopigaaGreatBkMemo
import Derived.Test.YtmnjgdnmlopigaaGreatCrcKnow
import Derived.Test.YtmnjgdnmlopigaaGreatProg
import Derived.KernelRfl
namespace Go.Proofs.YtmnjgdnmlopigaaGreat
open Go.Eng
open Go.RowKit (Below)

/-- asked of these functions alone (the bits of a number): for speed -/
noncomputable def knownFast (m : Nat) (k : ESelf) : ESelf := fun t s => match t with
  | .fn f _ => bif tbQ m f then k t s else none
  | .round _ _ => none
theorem knownFast_ok {P : Program} {m : Nat} {k : ESelf} (hk : SelfOK P k) : SelfOK P (knownFast m k) := by
  intro t s e s' h
  cases t with
  | round l args => cases h
  | fn f args =>
    simp only [knownFast] at h
    cases hb : tbQ m f with
    | false => rw [hb] at h; cases h
    | true => rw [hb, cond_true] at h; exact hk _ s e s' h
noncomputable def knownBk : ESelf := knownOr knownCont (knownOr knownName (knownOr knownSum (knownOr knownRoot (knownOr knownFiles (knownOr knownPool knownMemo)))))
theorem knownBk_ok : SelfOK Tryz.prog knownBk := knownOr_ok knownCont_ok (knownOr_ok knownName_ok (knownOr_ok knownSum_ok (knownOr_ok knownRoot_ok (knownOr_ok knownFiles_ok (knownOr_ok knownPool_ok knownMemo_ok)))))
-- the numbers of: works, isName, slices.ContainsFunc (texts), says, page of meta, crc.Seal, crc.Open, root, maps.Keys (two), slices.Sorted, slices.Collect, crc.Sum at this seat
noncomputable def knownBk0 : ESelf := knownFast 1645504557321299578326666040457665613144676987100321079103586304 knownBk
theorem knownBk0_ok : SelfOK Tryz.prog knownBk0 := knownFast_ok knownBk_ok
theorem works10_run : isTrue (callE Tryz.prog knownBk0 3000 40 (.fn 23 []) st0) = true := by kernel_rfl
theorem works10_calls (w : World) : Calls Tryz.prog 23 #[] w fun E w' => E = .returned (.bool true) ∧ Below w.heap.size w w' :=
  calls_true knownBk0_ok works10_run w
noncomputable def knownWorks10 : ESelf := fun t s => match t with
  | .fn f args => bif Nat.beq f 23 then (match args with
      | [] => some (.ret (.bool true), s)
      | _ => none) else none
  | .round _ _ => none
theorem knownWorks10_ok : SelfOK Tryz.prog knownWorks10 := by
  intro t s e s' hk base ρ w hS n
  cases t with
  | round l args => cases hk
  | fn f args =>
    intro A hA
    simp only [knownWorks10] at hk
    cases hf : Nat.beq f 23 with
    | false => rw [hf] at hk; cases hk
    | true =>
      rw [hf, cond_true] at hk
      have := Nat.eq_of_beq_eq_true hf
      subst this
      split at hk
      · cases hk
        have hA : A.toList = [] := hA
        have eA : A = #[] := by simpa using hA
        subst eA
        refine callsIn_wide.2 ((works10_calls w).mono ?_)
        rintro E w' ⟨rfl, hw⟩
        exact ⟨ρ, ρ.le_refl, ⟨_, rfl, by simp only [VRel]⟩, hS.grow hw, hw.mono hS.le⟩
      · cases hk
end Go.Proofs.YtmnjgdnmlopigaaGreat
