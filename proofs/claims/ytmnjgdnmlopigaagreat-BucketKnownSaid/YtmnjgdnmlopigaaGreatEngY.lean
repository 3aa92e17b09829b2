/-
  A contract for the evaluator: slices.Collect(maps.Keys(m)), the keys ints, of a map that has one key at most, wherever the program is known to have it. Conditions: keys from 0 to 2^31. Nothing here speaks of one program.
-/
import Derived.Test.YtmnjgdnmlopigaaGreatEngT
import Derived.Lib.SlKeysI
namespace Go.Eng
open Go.RowKit (Below)
open Go.Proofs
open Go

def keysOfI : List (V × V × Nat) → Option (List Int)
  | [] => some []
  | e :: l => match e.1 with
    | .int .i64 x => bif decide (0 ≤ x) && decide (x ≤ 2147483648) then (match keysOfI l with
      | some r => some (x :: r)
      | none => none) else none
    | _ => none
theorem keysOfI_rel {ρ : Env} : ∀ {es : List (V × V × Nat)} {ks : List Int} {E : List MapEntry}, keysOfI es = some ks → MRel ρ es E → E.map (·.key) = ks.map encZ ∧ ∀ k ∈ ks, 0 ≤ k ∧ k ≤ 2147483648
  | [], ks, E, h, r => by
    simp only [keysOfI] at h; cases h
    have r : E = [] := r
    subst r; exact ⟨rfl, fun k hk => by cases hk⟩
  | e :: l, ks, E, h, r => by
    obtain ⟨x, y, rfl, h1, _, _, h5⟩ := r
    simp only [keysOfI] at h
    split at h
    · rename_i z hz
      cases hb : (decide (0 ≤ z) && decide (z ≤ 2147483648)) with
      | false => rw [hb] at h; cases h
      | true =>
        rw [hb, cond_true] at h
        simp only [Bool.and_eq_true, decide_eq_true_eq] at hb
        split at h
        · rename_i r hr
          cases h
          obtain ⟨g1, g2⟩ := keysOfI_rel hr h5
          rw [hz] at h1
          simp only [VRel] at h1
          refine ⟨by simp only [List.map_cons, g1, h1], fun k hk => ?_⟩
          rcases List.mem_cons.1 hk with rfl | hk
          · exact hb
          · exact g2 k hk
        · cases h
    · cases h
/-- what is known of maps.Keys (gK; its iterator gI; the map's type T) and of slices.Collect (gC) of what it handed back, at ints (their type K) -/
structure KeysHypI (P : Program) (gK gC gI : FuncId) (T K : TypeId) : Prop where
  keys : ∀ (b : Nat) (w : World), Calls P gK #[.map (some b)] w fun e w' => e = .returned (.func (.func gI) #[] #[.pointer (some ⟨w.heap.size, 0, none⟩)]) ∧ w' = w.alloc (.cells #[.map (some b)] T)
  coll : ∀ (pb b : Nat) (es : Array MapEntry) (clock : Nat) (ks : List Int) (w : World), pb < w.heap.size → w.cell? ⟨pb, 0, none⟩ = some (.map (some b)) → w.heap[b]? = some (.map es clock) → es.toList.map (·.key) = ks.map encZ →
    (∀ k ∈ ks, 0 ≤ k ∧ k ≤ 2147483648) → MapKept.Stamped es clock → ks.length ≤ 1 →
    Calls P gC #[.func (.func gI) #[] #[.pointer (some ⟨pb, 0, none⟩)]] w fun e w' => ∃ (v : Value) (ss : List Int), e = .returned v ∧ ss.Perm ks ∧
      w'.ownsRow w.heap.size K 1 v ss.length (ss.map encZ) ∧ (v = .slice none 0 0 ↔ ss = []) ∧ Below w.heap.size w w'

noncomputable def collOf (K : TypeId) (s : St) : List Int → Option (EEnd × St)
  | [] => some (.ret .nils, s)
  | [x] => some (.ret (.sl s.next 0 1 1 false 1), s.new (.cells [.int .i64 x] K false))
  | _ => none
noncomputable def knownColl (gK gC gI : FuncId) (T K : TypeId) : ESelf := fun t s => match t with
  | .fn f args => bif Nat.beq f gK then (match args with
      | [.map b] => some (.ret (.fn gI [] [.it s.next]), s.new (.cells [.map b] T false))
      | _ => none) else
    bif Nat.beq f gC then (match args with
      | [.fn g [] [.it p]] => bif Nat.beq g gI then (match cellsAt s p with
        | some (.map b :: _) => match s.heap.get b with
          | some (.map es clock) => match keysOfI es with
            | some ks => bif bornOK clock es then collOf K s ks else none
            | none => none
          | _ => none
        | _ => none) else none
      | _ => none) else none
  | .round _ _ => none
theorem knownColl_ok {P : Program} {gK gC gI : FuncId} {T K : TypeId} (H : KeysHypI P gK gC gI T K) : SelfOK P (knownColl gK gC gI T K) := by
  intro t s e s' hk base ρ w hS n
  cases t with
  | round l args => cases hk
  | fn f args =>
    intro A hA
    simp only [knownColl] at hk
    cases hf : Nat.beq f gK with
    | true =>
      rw [hf, cond_true] at hk
      have := Nat.eq_of_beq_eq_true hf
      subst this
      split at hk
      · rename_i b
        cases hk
        obtain ⟨X, Y, e1, h1, e3⟩ := hA
        have e3 : Y = [] := e3
        subst e3
        obtain rfl := arr1' e1
        simp only [VRel] at h1
        obtain ⟨B, O, S, hB, rfl⟩ := h1
        refine callsIn_wide.2 ((H.keys B w).mono ?_)
        rintro E w' ⟨rfl, rfl⟩
        have hc : LRel ρ [V.map b] (#[Value.map (some B)] : Array Value).toList := LRel.cons (by simp only [VRel]; exact ⟨B, O, S, hB, rfl⟩) LRel.nil
        obtain ⟨g1, g2, g3⟩ := hS.newCells hc T T
        refine ⟨_, g1, ⟨_, rfl, ?_⟩, g2, g3⟩
        simp only [VRel]
        exact ⟨#[], _, rfl, rfl, LRel.cons (by simp only [VRel]; exact ⟨_, _, Env.put_same, rfl⟩) LRel.nil⟩
      · cases hk
    | false =>
      rw [hf, cond_false] at hk
      cases hg : Nat.beq f gC with
      | false => rw [hg] at hk; cases hk
      | true =>
      rw [hg, cond_true] at hk
      have := Nat.eq_of_beq_eq_true hg
      subst this
      split at hk
      · rename_i g p
        cases hi : Nat.beq g gI with
        | false => rw [hi] at hk; cases hk
        | true =>
        rw [hi, cond_true] at hk
        have := Nat.eq_of_beq_eq_true hi
        subst this
        split at hk
        · rename_i b cs hcs
          split at hk
          · rename_i es clock hm
            split at hk
            · rename_i ks hks
              cases b2 : bornOK clock es with
              | false => rw [b2] at hk; cases hk
              | true =>
              rw [b2, cond_true] at hk
              obtain ⟨X, Y, e1, h1, e3⟩ := hA
              have e3 : Y = [] := e3
              subst e3
              obtain rfl := arr1' e1
              simp only [VRel] at h1
              obtain ⟨A1, C1, rfl, h2, h3⟩ := h1
              have h2 : A1.toList = [] := h2
              have h2 : A1 = #[] := by simpa using h2
              subst h2
              obtain ⟨X1, Y1, e4, h4, e5⟩ := h3
              have e5 : Y1 = [] := e5
              subst e5
              obtain rfl := arr1' e4
              simp only [VRel] at h4
              obtain ⟨B, S, hB, rfl⟩ := h4
              obtain ⟨y, hy, hcA⟩ := hS.cellsAt hcs hB
              rw [hB] at hy; cases hy
              obtain ⟨W, g1, g2⟩ := hcA.cell (i := 0) (v := .map b) rfl
              simp only [VRel] at g2
              obtain ⟨Bm, Om, Sm, hBm, rfl⟩ := g2
              obtain ⟨z, hz, hbz, E, hE, hrel⟩ := hS.obj' hm hBm
              rw [hBm] at hz; cases hz
              simp only at hE
              obtain ⟨k1, k2⟩ := keysOfI_rel hks hrel
              obtain ⟨k3, k4⟩ := bornOK_rel b2 hrel
              have hlt : B < w.heap.size := by
                obtain ⟨C, t', fr, q1, _⟩ := hcA.ex
                rcases Nat.lt_or_ge B w.heap.size with hh | hh
                · exact hh
                · rw [Array.getElem?_eq_none hh] at q1; cases q1
              have hk1 : ks.length ≤ 1 := by
                rcases ks with _ | ⟨x, _ | ⟨y, l⟩⟩
                · exact Nat.zero_le _
                · exact Nat.le_refl _
                · simp only [collOf] at hk; cases hk
              have hst : MapKept.Stamped E clock := by
                refine ⟨k4, k3.imp fun h => Nat.ne_of_lt h, ?_⟩
                rw [k1]
                rcases ks with _ | ⟨x, _ | ⟨y, l⟩⟩
                · exact .nil
                · simp
                · exact absurd hk1 (by simp)
              have hcell : w.cell? ⟨B, 0, none⟩ = some (.map (some Bm)) := by simpa using g1
              refine callsIn_wide.2 ((H.coll B Bm E clock ks w hlt hcell hE k1 k2 hst hk1).mono ?_)
              rintro En w' ⟨v, ss, rfl, hp, hrow, hnil, hbel⟩
              have hse : ss = ks := by
                rcases ks with _ | ⟨x, _ | ⟨y, l⟩⟩
                · exact List.perm_nil.1 hp
                · exact List.perm_singleton.1 hp
                · exact absurd hk1 (by simp)
              subst hse
              have hSw := hS.grow hbel
              rcases ss with _ | ⟨x, _ | ⟨y, l⟩⟩
              · simp only [collOf] at hk
                cases hk
                exact ⟨ρ, ρ.le_refl, ⟨v, rfl, by rw [hnil.2 rfl]; simp only [VRel]⟩, hSw, hbel.mono hS.le⟩
              · simp only [collOf] at hk
                cases hk
                rcases hrow.2 with ⟨hv, _⟩ | ⟨g, cap, cur, rfl, q1, q2, q3, q4, q5, q6⟩
                · exact absurd (hnil.1 hv) (by simp)
                · have hg : g < w'.heap.size := by
                    rcases Nat.lt_or_ge g w'.heap.size with hh | hh
                    · exact hh
                    · rw [Array.getElem?_eq_none hh] at q2; cases q2
                  have hfresh : ∀ b o x, s.heap.get b = some o → ρ b = some x → x.B ≠ g := fun b o x h1 h2 e => by
                    have := hS.lt h1 h2
                    omega
                  have hlr : LRel (ρ.put s.next ⟨g, 0, cur.size⟩) [V.int .i64 x] (cur.toList.take ([x].length * 1)) := by
                    rw [q6]
                    exact LRel.cons (by simp only [VRel]) LRel.nil
                  obtain ⟨a1, a2⟩ := hSw.attach (.cells [V.int .i64 x] K false) (B := g) (S := cur.size) (Nat.le_trans hS.le q1) hg hfresh (by
                    refine ⟨cur, K, (0, 0), q2, rfl, ?_, fun i v hi => ?_, by simp, fun _ => rfl⟩
                    · have h1 := hlr.length
                      have h2 : (cur.toList.take ([x].length * 1)).length ≤ cur.size := by simp; omega
                      rw [Nat.zero_add, h1]; exact h2
                    · obtain ⟨Z, z1, z2⟩ := hlr.get hi
                      rw [List.getElem?_take] at z1
                      split at z1
                      · exact ⟨Z, by simpa using z1, z2⟩
                      · cases z1)
                  refine ⟨_, a1, ⟨_, rfl, ?_⟩, a2, hbel.mono hS.le⟩
                  simp only [VRel]
                  have hln : [x].length = 1 := rfl
                  refine ⟨g, 0, cur.size, cap, Env.put_same, by rw [hln], Nat.le_refl _, by omega, by simp, by unfold maxLen at *; omega⟩
              · exact absurd hk1 (by simp)
            · cases hk
          · cases hk
        · cases hk
      · cases hk
end Go.Eng
