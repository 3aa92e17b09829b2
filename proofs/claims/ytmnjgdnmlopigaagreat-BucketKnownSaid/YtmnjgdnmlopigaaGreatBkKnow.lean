/-
  A contract for the evaluator: where a bucket's root stands. No condition.
-/
import Derived.Test.YtmnjgdnmlopigaaGreatBkRoot
namespace Go.Proofs.YtmnjgdnmlopigaaGreat
open Go.Eng
open Go.RowKit (Below)

def eqL : List UInt8 → List UInt8 → Bool
  | [], [] => true
  | a :: x, b :: y => bif Nat.beq a.toNat b.toNat then eqL x y else false
  | _, _ => false
theorem eqL_iff : ∀ x y : List UInt8, eqL x y = true ↔ x = y
  | [], [] => by simp [eqL]
  | [], _ :: _ => by simp [eqL]
  | _ :: _, [] => by simp [eqL]
  | a :: x, b :: y => by
    have ih := eqL_iff x y
    rw [eqL]
    cases h : Nat.beq a.toNat b.toNat with
    | true =>
      have h := Nat.eq_of_beq_eq_true h
      have : a = b := UInt8.toNat_inj.1 h
      simp [ih, this]
    | false =>
      have : a ≠ b := fun e => by subst e; simp at h
      simp [this]
noncomputable def rootOf (b : Nat) (x : BS) : V := bif eqL x.list [107, 101, 121] then .tup [.ptr b 2, .int .i64 0] else bif eqL x.list [109, 101, 116, 97] then .tup [.ptr b 3, .int .i64 0] else .tup [.nilp, .int .i64 2]
noncomputable def knownRoot : ESelf := fun t s => match t with
  | .fn f args => bif Nat.beq f 65 then (match args with
      | [.ptr b 0, .str x] => (match cellsAt s b with
        | some [.ptr _ _, _, _, _, _, .bool false] => some (.ret (rootOf b x), s)
        | _ => none)
      | _ => none) else none
  | .round _ _ => none

theorem list_ne {x : BS} {l : List UInt8} (h : eqL x.list l = false) : (x.den == (⟨l.toArray⟩ : ByteArray)) = false := by
  rw [Bool.eq_false_iff]
  intro e
  rw [beq_toListBytes, ByteArray.toList_eq, ByteArray.toList_eq, beq_iff_eq] at e
  have : x.list = l := by simpa [BS.den, BS.list] using e
  rw [← eqL_iff] at this
  rw [this] at h; cases h
theorem list_eq {x : BS} {l : List UInt8} (h : eqL x.list l = true) : x.den = ⟨l.toArray⟩ := by
  have := (eqL_iff _ _).1 h
  rw [← this]; rfl
theorem knownRoot_ok : SelfOK Tryz.prog knownRoot := by
  intro t s e s' hk base ρ w hS n
  cases t with
  | round l args => cases hk
  | fn f args =>
    intro A hA
    simp only [knownRoot] at hk
    cases hf : Nat.beq f 65 with
    | false => rw [hf] at hk; cases hk
    | true =>
      rw [hf, cond_true] at hk
      have := Nat.eq_of_beq_eq_true hf
      subst this
      split at hk
      · rename_i b x
        split at hk
        · rename_i pb po c1 c2 c3 c4 hcs
          cases hk
          obtain ⟨X1, Y1, e1, h1, h2⟩ := hA
          obtain ⟨X2, Y2, rfl, h3, h4⟩ := h2
          have h4 : Y2 = [] := h4
          subst h4
          have eA : A = #[X1, X2] := by cases A; simp at e1; simp [e1]
          subst eA
          simp only [VRel] at h1 h3
          obtain ⟨B, O, S, hB, rfl⟩ := h1
          subst h3
          obtain ⟨y, hy, hcA⟩ := hS.cellsAt hcs hB
          rw [hB] at hy; cases hy
          obtain ⟨W0, g1, g2⟩ := hcA.cell (i := 0) (v := .ptr pb po) rfl
          obtain ⟨W5, k1, k2⟩ := hcA.cell (i := 5) (v := .bool false) rfl
          simp only [VRel] at g2 k2
          obtain ⟨Bp, Op, Sp, _, rfl⟩ := g2
          subst k2
          have p0 : w.cell? ⟨B, O, none⟩ = some (.pointer (some ⟨Bp, Op + po, none⟩)) := by simpa using g1
          have p5 : w.cell? ⟨B, O + 5, none⟩ = some (.bool false) := by simpa using k1
          unfold rootOf
          cases hk1 : eqL x.list [107, 101, 121] with
          | true =>
            have e1 := list_eq hk1
            have r1 : Instr.findNow .string (.string keyT) (km B O) 0 = some (some (0, .pointer (some ⟨B, O + 2, none⟩))) := rfl
            have r2 : Instr.findNow .string (.string keyT) (mk B O) 0 = some (some (1, .pointer (some ⟨B, O + 2, none⟩))) := rfl
            rw [e1]
            refine callsIn_wide.2 ((root_has B O _ _ w p0 p5 _ _ _ r1 r2).mono ?_)
            rintro E w' ⟨rfl, hw⟩
            refine ⟨ρ, ρ.le_refl, ⟨_, rfl, ?_⟩, hS.grow hw, hw.mono hS.le⟩
            rw [cond_true]
            simp only [VRel, LRel]
            exact ⟨_, rfl, _, _, rfl, ⟨B, O, S, hB, rfl⟩, _, _, rfl, rfl, rfl⟩
          | false =>
            cases hk2 : eqL x.list [109, 101, 116, 97] with
            | true =>
              have e1 := list_eq hk2
              have r1 : Instr.findNow .string (.string metaT) (km B O) 0 = some (some (1, .pointer (some ⟨B, O + 3, none⟩))) := rfl
              have r2 : Instr.findNow .string (.string metaT) (mk B O) 0 = some (some (0, .pointer (some ⟨B, O + 3, none⟩))) := rfl
              rw [e1]
              refine callsIn_wide.2 ((root_has B O _ _ w p0 p5 _ _ _ r1 r2).mono ?_)
              rintro E w' ⟨rfl, hw⟩
              refine ⟨ρ, ρ.le_refl, ⟨_, rfl, ?_⟩, hS.grow hw, hw.mono hS.le⟩
              rw [cond_false, cond_true]
              simp only [VRel, LRel]
              exact ⟨_, rfl, _, _, rfl, ⟨B, O, S, hB, rfl⟩, _, _, rfl, rfl, rfl⟩
            | false =>
              have n1 := list_ne hk1
              have n2 := list_ne hk2
              have r1 : Instr.findNow .string (.string x.den) (km B O) 0 = some none := by simp [Instr.findNow, Instr.sameNow, km, keyT, metaT, n1, n2]
              have r2 : Instr.findNow .string (.string x.den) (mk B O) 0 = some none := by simp [Instr.findNow, Instr.sameNow, mk, keyT, metaT, n1, n2]
              refine callsIn_wide.2 ((root_not B O _ _ w p0 p5 r1 r2).mono ?_)
              rintro E w' ⟨rfl, hw⟩
              refine ⟨ρ, ρ.le_refl, ⟨_, rfl, ?_⟩, hS.grow hw, hw.mono hS.le⟩
              rw [cond_false, cond_false]
              simp only [VRel, LRel]
              exact ⟨_, rfl, _, _, rfl, rfl, _, _, rfl, rfl, rfl⟩
        · cases hk
      · cases hk
end Go.Proofs.YtmnjgdnmlopigaaGreat
