/-
  No name of a row is bad: slices.ContainsFunc over names that may be; a contract for the evaluator. No condition.
-/
import Derived.Test.YtmnjgdnmlopigaaGreatBkNames
import Derived.WalkKit
import Derived.Below
namespace Go.Proofs.YtmnjgdnmlopigaaGreat
open Go.RowKit Go.ChangeShapes Go.WideShapes

theorem bad_walk (l : List UInt8) (h : l = pagesL ∨ l = spareL) (w : World) : Calls Tryz.prog 101 #[.string ⟨l.toArray⟩] w fun e w' => e = .returned (.bool false) ∧ Below w.heap.size w w' := by
  have hn := name_calls l h
  clear h
  generalize (⟨l.toArray⟩ : ByteArray) = s at *
  go_enter Tryz.func101, Tryz.ntmps101
  go_wp2_with (go_at_call 102; refine (hn w).mono ?_; rintro e w1 ⟨rfl, hw1⟩)
  go_ret
  exact ⟨rfl, hw1⟩
set_option maxRecDepth 100000 in
theorem index_walk (b off n cap : Nat) (ss : Nat → List UInt8) (w : World) (hb : b < w.heap.size) (hc : ∀ k, k < n → w.cell? ⟨b, off + k, none⟩ = some (.string ⟨(ss k).toArray⟩)) (hok : ∀ k, k < n → ss k = pagesL ∨ ss k = spareL) (hn : n ≤ 9) :
    Calls Tryz.prog 154 #[.slice (some ⟨b, off, none⟩) n cap, .func (.func 101) #[] #[]] w fun e w' => e = .returned (.int .i64 (-1)) ∧ Below w.heap.size w w' := by
  go_enter Tryz.func154, Tryz.ntmps154
  go_wp2
  go_loopw [8] (fun i wr => ∃ k : Nat, k ≤ n ∧ i = .int .i64 k ∧ Below w.heap.size w wr) (fun i _ => n - (intOf i).toNat)
  case atStart => exact ⟨0, Nat.zero_le _, rfl, Below.refl _ _⟩
  case round =>
    obtain ⟨k, hk, rfl, hB⟩ := hrel
    have hsz := hB.size
    by_cases hlt : k < n
    · have hcell : wr.cell? ⟨b, off + k, none⟩ = some (.string ⟨(ss k).toArray⟩) := (hB.cell hb).trans (hc k hlt)
      have hbad := bad_walk (ss k) (hok k hlt) wr
      generalize (⟨(ss k).toArray⟩ : ByteArray) = s at *
      go_wp2_with (go_at_call 101; refine hbad.mono ?_; rintro e w1 ⟨rfl, hw1⟩; have hB1 := hB.trans (hw1.mono hB.size))
      exact ⟨⟨k + 1, by omega, by go_num, hB1⟩, by simp [intOf]; omega⟩
    · go_wp2
      go_ret
      exact ⟨rfl, hB⟩
theorem contains_walk (b off n cap : Nat) (ss : Nat → List UInt8) (w : World) (hb : b < w.heap.size) (hc : ∀ k, k < n → w.cell? ⟨b, off + k, none⟩ = some (.string ⟨(ss k).toArray⟩)) (hok : ∀ k, k < n → ss k = pagesL ∨ ss k = spareL) (hn : n ≤ 9) :
    Calls Tryz.prog 100 #[.slice (some ⟨b, off, none⟩) n cap, .func (.func 101) #[] #[]] w fun e w' => e = .returned (.bool false) ∧ Below w.heap.size w w' := by
  have hi := index_walk b off n cap ss w hb hc hok hn
  clear hc hok
  go_enter Tryz.func100, Tryz.ntmps100
  go_wp2_with (go_at_call 154; refine hi.mono ?_; rintro e w1 ⟨rfl, hw1⟩)
  go_ret
  exact ⟨rfl, hw1⟩

open Go.Eng in
def namesE : List V → Bool
  | [] => true
  | v :: l => match v with
    | .str x => bif nameOK x then namesE l else false
    | _ => false
open Go.Eng in
theorem nameOK_or {x : BS} (h : nameOK x = true) : x.list = pagesL ∨ x.list = spareL := by
  unfold nameOK at h
  cases h1 : eqL x.list pagesL with
  | true => exact .inl ((eqL_iff _ _).1 h1)
  | false => rw [h1, cond_false] at h; exact .inr ((eqL_iff _ _).1 h)
open Go.Eng in
theorem namesE_get : ∀ (l : List V), namesE l = true → ∀ (k : Nat), k < l.length → ∃ x : BS, l[k]? = some (.str x) ∧ (x.list = pagesL ∨ x.list = spareL)
  | [], _, k, hk => by simp at hk
  | v :: l, h, k, hk => by
    simp only [namesE] at h
    split at h
    · rename_i x
      cases hx : nameOK x with
      | false => rw [hx] at h; cases h
      | true =>
        rw [hx, cond_true] at h
        cases k with
        | zero => exact ⟨x, rfl, nameOK_or hx⟩
        | succ k =>
          obtain ⟨y, h1, h2⟩ := namesE_get l h k (by simpa using hk)
          exact ⟨y, by simpa using h1, h2⟩
    · cases h
open Go.Eng in
noncomputable def knownCont : ESelf := fun t s => match t with
  | .fn f args => bif Nat.beq f 100 then (match args with
      | [.sl b o len cap x es, .fn g [] []] => bif Nat.beq g 101 && (Nat.beq es 1 && Nat.ble len 9) then (match cellsAt s b with
        | some cs => bif Nat.ble (o + len) (llen cs) && namesE (ltake (ldrop cs o) len) then some (.ret (.bool false), s) else none
        | none => none) else none
      | _ => none) else none
  | .round _ _ => none
open Go.Eng in
theorem knownCont_ok : SelfOK Tryz.prog knownCont := by
  intro t s e s' hk base ρ w hS n
  cases t with
  | round l args => cases hk
  | fn f args =>
    intro A hA
    simp only [knownCont] at hk
    cases hf : Nat.beq f 100 with
    | false => rw [hf] at hk; cases hk
    | true =>
      rw [hf, cond_true] at hk
      have := Nat.eq_of_beq_eq_true hf
      subst this
      split at hk
      · rename_i b o len cap x es g
        cases h1 : (Nat.beq g 101 && (Nat.beq es 1 && Nat.ble len 9)) with
        | false => rw [h1] at hk; cases hk
        | true =>
        rw [h1, cond_true] at hk
        simp only [Bool.and_eq_true, Nat.beq_eq, Nat.ble_eq] at h1
        obtain ⟨rfl, rfl, h9⟩ := h1
        split at hk
        · rename_i cs hcs
          simp only [llen_eq, ltake_eq, ldrop_eq] at hk
          cases h2 : (Nat.ble (o + len) cs.length && namesE ((cs.drop o).take len)) with
          | false => rw [h2] at hk; cases hk
          | true =>
          rw [h2, cond_true] at hk
          simp only [Bool.and_eq_true, Nat.ble_eq] at h2
          cases hk
          obtain ⟨X1, Y1, e1, g1, g2⟩ := hA
          obtain ⟨X2, Y2, rfl, g3, g4⟩ := g2
          have g4 : Y2 = [] := g4
          subst g4
          have eA : A = #[X1, X2] := by cases A; simp at e1; simp [e1]
          subst eA
          simp only [VRel] at g1 g3
          obtain ⟨B, O, S, cap', hB, rfl, _⟩ := g1
          obtain ⟨A1, C1, rfl, k1, k2⟩ := g3
          have k1 : A1.toList = [] := k1
          have k2 : C1.toList = [] := k2
          have k1 : A1 = #[] := by simpa using k1
          have k2 : C1 = #[] := by simpa using k2
          subst k1; subst k2
          obtain ⟨y, hy, hcA⟩ := hS.cellsAt hcs hB
          rw [hB] at hy; cases hy
          have hlt : B < w.heap.size := by
            obtain ⟨C, t', fr, q1, _⟩ := hcA.ex
            rcases Nat.lt_or_ge B w.heap.size with hh | hh
            · exact hh
            · rw [Array.getElem?_eq_none hh] at q1; cases q1
          have hl : ((cs.drop o).take len).length = len := by simp; omega
          have hget := namesE_get _ h2.2
          rw [hl] at hget
          obtain ⟨ss, hss⟩ : ∃ ss : Nat → List UInt8, ∀ k, k < len → w.cell? ⟨B, O + o + k, none⟩ = some (.string ⟨(ss k).toArray⟩) ∧ (ss k = pagesL ∨ ss k = spareL) := by
            have : ∀ k, ∃ l : List UInt8, k < len → w.cell? ⟨B, O + o + k, none⟩ = some (.string ⟨l.toArray⟩) ∧ (l = pagesL ∨ l = spareL) := fun k => by
              by_cases hk : k < len
              · obtain ⟨x, p1, p2⟩ := hget k hk
                rw [List.getElem?_take, if_pos hk, List.getElem?_drop] at p1
                obtain ⟨W, q1, q2⟩ := hcA.cell p1
                simp only [VRel] at q2
                subst q2
                refine ⟨x.list, fun _ => ⟨?_, p2⟩⟩
                rw [Nat.add_assoc]
                exact q1
              · exact ⟨[], fun h => absurd h hk⟩
            exact ⟨fun k => Classical.choose (this k), fun k => Classical.choose_spec (this k)⟩
          refine callsIn_wide.2 ((contains_walk B (O + o) len cap' ss w hlt (fun k hk => (hss k hk).1) (fun k hk => (hss k hk).2) h9).mono ?_)
          rintro E w' ⟨rfl, hw⟩
          exact ⟨ρ, ρ.le_refl, ⟨_, rfl, by simp only [VRel]⟩, hS.grow hw, hw.mono hS.le⟩
        · cases hk
      · cases hk
end Go.Proofs.YtmnjgdnmlopigaaGreat
