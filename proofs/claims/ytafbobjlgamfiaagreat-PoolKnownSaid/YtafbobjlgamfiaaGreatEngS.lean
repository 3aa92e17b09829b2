/-
  A contract for the evaluator: strings.Repeat, wherever the program is known to have it. No condition; nothing here speaks of one program.
-/
import Derived.Test.YtafbobjlgamfiaaGreatEngO
import Derived.Lib.Repeat
namespace Go.Eng
open Go.RowKit (Below)

/-- c copies, by doubling -/
def BS.rep : Nat → BS → Nat → BS
  | 0, _, _ => ⟨0, 0⟩
  | f + 1, s, c => bif Nat.beq c 0 then ⟨0, 0⟩ else bif Nat.beq (Nat.mod c 2) 1 then BS.cat s (BS.rep f (BS.cat s s) (Nat.div c 2)) else BS.rep f (BS.cat s s) (Nat.div c 2)

theorem repeatL_twice (l : List UInt8) : ∀ k, Lib.repeatL (l ++ l) k = Lib.repeatL l (2 * k)
  | 0 => rfl
  | k + 1 => by
    rw [show 2 * (k + 1) = 2 * k + 1 + 1 by omega]
    simp only [Lib.repeatL, repeatL_twice l k, List.append_assoc]

theorem den_zero : (⟨0, 0⟩ : BS).den = ⟨#[]⟩ := rfl
theorem BS.den_rep : ∀ (f : Nat) (s : BS) (c : Nat), c < 2 ^ f → (BS.rep f s c).den.data.toList = Lib.repeatL s.den.data.toList c
  | 0, s, c, h => by
    have : c = 0 := by simpa using h
    subst this; rfl
  | f + 1, s, c, h => by
    have ih := BS.den_rep f (BS.cat s s) (c / 2) (by omega)
    rw [BS.den_cat] at ih
    simp only [ByteArray.data_append, Array.toList_append, repeatL_twice] at ih
    unfold BS.rep
    cases h0 : Nat.beq c 0 with
    | true =>
      have : c = 0 := Nat.eq_of_beq_eq_true h0
      subst this; rfl
    | false =>
      rw [cond_false]
      cases h1 : Nat.beq (Nat.mod c 2) 1 with
      | true =>
        have e1 : c % 2 = 1 := Nat.eq_of_beq_eq_true h1
        rw [cond_true, BS.den_cat]
        simp only [ByteArray.data_append, Array.toList_append]
        show _ ++ (BS.rep f (BS.cat s s) (c / 2)).den.data.toList = _
        rw [ih]
        have e2 : c = 2 * (c / 2) + 1 := by omega
        conv => rhs; rw [e2]
        rfl
      | false =>
        have e1 : c % 2 ≠ 1 := fun e => by
          have : Nat.beq (c % 2) 1 = true := by rw [e]; rfl
          rw [show Nat.mod c 2 = c % 2 from rfl, this] at h1; cases h1
        rw [cond_false]
        show (BS.rep f (BS.cat s s) (c / 2)).den.data.toList = _
        rw [ih]
        have e2 : 2 * (c / 2) = c := by omega
        rw [e2]

/-- what a call of strings.Repeat (function g) is known to give -/
def repOf (s : St) : List V → Option (EEnd × St)
  | [.str x, .int .i64 (.ofNat c)] => bif Nat.ble (x.n * c) 140737488355328 && Nat.ble c 9223372036854775807 then some (.ret (.str (BS.rep 64 x c)), s) else none
  | _ => none
def knownRep (g : FuncId) : ESelf := fun t s => match t with
  | .fn f args => bif Nat.beq f g then repOf s args else none
  | .round _ _ => none

theorem knownRep_ok {P : Program} {g : FuncId}
    (h : ∀ (s : ByteArray) (c : Nat) (w : World), c ≤ 9223372036854775807 → s.size * c ≤ 140737488355328 →
      Calls P g #[.string s, .int .i64 c] w fun e w' => e = .returned (.string ⟨(Lib.repeatL s.data.toList c).toArray⟩) ∧ Below w.heap.size w w') : SelfOK P (knownRep g) := by
  intro t s e s' hk base ρ w hS n
  cases t with
  | round l args => cases hk
  | fn f args =>
    intro A hA
    simp only [knownRep] at hk
    cases he : Nat.beq f g with
    | false => rw [he] at hk; cases hk
    | true =>
      rw [he] at hk
      have := Nat.eq_of_beq_eq_true he
      subst this
      simp only [cond_true] at hk
      unfold repOf at hk
      split at hk
      · rename_i x c
        cases hb : (Nat.ble (x.n * c) 140737488355328 && Nat.ble c 9223372036854775807) with
        | false => rw [hb] at hk; cases hk
        | true =>
          rw [hb] at hk
          simp only [Bool.and_eq_true] at hb
          have b1 := Nat.le_of_ble_eq_true hb.1
          have b2 := Nat.le_of_ble_eq_true hb.2
          cases hk
          obtain ⟨X, Y, e1, h1, X', Y', e2, h2, e3⟩ := hA
          have e3 : Y' = [] := e3
          subst e3; subst e2
          have h1 : X = .string x.den := by simpa only [VRel] using h1
          have h2 : X' = .int .i64 (Int.ofNat c) := by simpa only [VRel] using h2
          subst h1; subst h2
          have hAA : A = #[.string x.den, .int .i64 c] := by cases A; simp at e1; simp [e1]
          subst hAA
          refine callsIn_wide.2 ((h x.den c w b2 (by rw [BS.den_size]; exact b1)).mono ?_)
          rintro E w' ⟨rfl, hw⟩
          refine ⟨ρ, ρ.le_refl, ⟨_, rfl, ?_⟩, hS.grow hw, hw.mono hS.le⟩
          simp only [VRel]
          congr 1
          have := BS.den_rep 64 x c (by omega)
          rw [← this]
      · cases hk
end Go.Eng
