/-
  A contract for the evaluator: slices.Sorted(maps.Keys(m)), the keys texts, wherever the program is known to have it. Conditions: as many keys, and keys as long, as 2^40 at most. Nothing here speaks of one program.
-/
import Derived.Test.YtmnjgdnmlopigaaGreatEngO
import Derived.Sort.KeysCollected
import Derived.Sort.Walk0
import Derived.Laws.AppendOwn
namespace Go.Eng
open Go.RowKit (Below)
open Go.Proofs (encStr)

def insB (x : BS) : List BS → List BS
  | [] => [x]
  | y :: l => bif BS.ltG x.list y.list then x :: y :: l else y :: insB x l
def sortB : List BS → List BS
  | [] => []
  | x :: l => insB x (sortB l)
theorem insB_perm (x : BS) : ∀ l, (insB x l).Perm (x :: l)
  | [] => .refl _
  | y :: l => by
    unfold insB
    cases BS.ltG x.list y.list with
    | true => exact .refl _
    | false => exact ((insB_perm x l).cons y).trans (.swap x y l)
theorem sortB_perm : ∀ l, (sortB l).Perm l
  | [] => .refl _
  | x :: l => (insB_perm x _).trans ((sortB_perm l).cons x)
/-- strictly rising -/
def ascS : List BS → Bool
  | x :: l => (match l with
    | y :: _ => BS.ltG x.list y.list
    | [] => true) && ascS l
  | [] => true
theorem ltG_lt (x y : List UInt8) : BS.ltG x y = decide (x < y) := by rw [BS.ltG_eq, Go.Proofs.bytesLess_eq]
theorem ascS_pairwise : ∀ {l : List BS}, ascS l = true → (l.map BS.list).Pairwise (· < ·)
  | [], _ => .nil
  | [x], _ => by simp
  | x :: y :: l, h => by
    simp only [ascS, Bool.and_eq_true, ltG_lt, decide_eq_true_eq] at h
    have ih := ascS_pairwise (l := y :: l) (by simp only [ascS, Bool.and_eq_true, ltG_lt, decide_eq_true_eq]; exact h.2)
    rw [List.map_cons, List.pairwise_cons]
    refine ⟨fun z hz => ?_, ih⟩
    rw [List.map_cons] at hz ih
    rcases List.mem_cons.1 hz with rfl | hz
    · exact h.1
    · exact List.lt_trans h.1 ((List.pairwise_cons.1 ih).1 z hz)

def keysOfE : List (V × V × Nat) → Option (List BS)
  | [] => some []
  | e :: l => match e.1 with
    | .str x => bif Nat.ble x.n 1099511627776 then (match keysOfE l with
      | some r => some (x :: r)
      | none => none) else none
    | _ => none
/-- the stamps rise, and are below -/
def bornOK (clock : Nat) : List (V × V × Nat) → Bool
  | e :: l => (match l with
    | e' :: _ => Nat.blt e.2.2 e'.2.2
    | [] => Nat.blt e.2.2 clock) && bornOK clock l
  | [] => true

theorem keysOfE_rel {ρ : Env} : ∀ {es : List (V × V × Nat)} {ks : List BS} {E : List MapEntry}, keysOfE es = some ks → MRel ρ es E → E.map (·.key) = (ks.map BS.list).map encStr ∧ ∀ k ∈ ks, k.n ≤ 1099511627776
  | [], ks, E, h, r => by
    simp only [keysOfE] at h; cases h
    have r : E = [] := r
    subst r; exact ⟨rfl, fun k hk => by cases hk⟩
  | e :: l, ks, E, h, r => by
    obtain ⟨x, y, rfl, h1, _, _, h5⟩ := r
    simp only [keysOfE] at h
    split at h
    · rename_i z hz
      cases hb : Nat.ble z.n 1099511627776 with
      | false => rw [hb] at h; cases h
      | true =>
        rw [hb, cond_true] at h
        split at h
        · rename_i r hr
          cases h
          obtain ⟨g1, g2⟩ := keysOfE_rel hr h5
          rw [hz] at h1
          simp only [VRel] at h1
          refine ⟨by simp only [List.map_cons, g1, h1]; rfl, fun k hk => ?_⟩
          rcases List.mem_cons.1 hk with rfl | hk
          · exact Nat.le_of_ble_eq_true hb
          · exact g2 k hk
        · cases h
    · cases h
theorem bornOK_rel {ρ : Env} {clock : Nat} : ∀ {es : List (V × V × Nat)} {E : List MapEntry}, bornOK clock es = true → MRel ρ es E → (E.map (·.born)).Pairwise (· < ·) ∧ ∀ x ∈ E, x.born < clock
  | [], E, _, r => by have r : E = [] := r; subst r; exact ⟨.nil, fun x hx => by cases hx⟩
  | [e], E, h, r => by
    obtain ⟨x, y, rfl, _, _, h3, h5⟩ := r
    have h5 : y = [] := h5
    subst h5
    simp only [bornOK, Bool.and_true, blt_iff, decide_eq_true_eq] at h
    exact ⟨by simp, fun z hz => by simp at hz; subst hz; omega⟩
  | e :: e' :: l, E, h, r => by
    obtain ⟨x, y, rfl, _, _, h3, h5⟩ := r
    rw [bornOK, Bool.and_eq_true] at h
    obtain ⟨h, hh⟩ := h
    simp only [blt_iff, decide_eq_true_eq] at h
    obtain ⟨g1, g2⟩ := bornOK_rel (es := e' :: l) hh h5
    obtain ⟨x', y', rfl, _, _, h3', _⟩ := h5
    rw [List.map_cons] at g1 ⊢
    have hx : x.born < x'.born := by omega
    refine ⟨List.pairwise_cons.2 ⟨fun z hz => ?_, by rw [List.map_cons]; exact g1⟩, fun z hz => ?_⟩
    · rw [List.map_cons] at hz
      rcases List.mem_cons.1 hz with rfl | hz
      · exact hx
      · exact Nat.lt_trans hx ((List.pairwise_cons.1 g1).1 z hz)
    · rcases List.mem_cons.1 hz with rfl | hz
      · exact Nat.lt_trans hx (g2 x' List.mem_cons_self)
      · exact g2 z hz

/-- what is known of maps.Keys (gK; its iterator gI; the map's type T) and of slices.Sorted (gS) of what it handed back, at texts (their type K) -/
structure KeysHyp (P : Program) (gK gS gI : FuncId) (T K : TypeId) : Prop where
  keys : ∀ (b : Nat) (w : World), Calls P gK #[.map (some b)] w fun e w' => e = .returned (.func (.func gI) #[] #[.pointer (some ⟨w.heap.size, 0, none⟩)]) ∧ w' = w.alloc (.cells #[.map (some b)] T)
  sorted : ∀ (pb b : Nat) (es : Array MapEntry) (clock : Nat) (ks : List (List UInt8)) (w : World), pb < w.heap.size → w.cell? ⟨pb, 0, none⟩ = some (.map (some b)) → w.heap[b]? = some (.map es clock) → es.toList.map (·.key) = ks.map encStr →
    (∀ k ∈ ks, k.length ≤ 1099511627776) → MapKept.Stamped es clock → ks.length ≤ 1099511627776 →
    Calls P gS #[.func (.func gI) #[] #[.pointer (some ⟨pb, 0, none⟩)]] w fun e w' => ∃ (v : Value) (ss : List (List UInt8)), e = .returned v ∧ ss.Perm ks ∧
      w'.ownsRow w.heap.size K 1 v ss.length ((ss.mergeSort (fun x y => decide (x ≤ y))).map encStr) ∧ (v = .slice none 0 0 ↔ ss = []) ∧ Below w.heap.size w w'

noncomputable def sortedOf (K : TypeId) (s : St) : List BS → Option (EEnd × St)
  | [] => some (.ret .nils, s)
  | x :: l => some (.ret (.sl s.next 0 (Nat.succ (llen l)) (Nat.succ (llen l)) false 1), s.new (.cells ((x :: l).map V.str) K false))
noncomputable def knownKeys (gK gS gI : FuncId) (T K : TypeId) : ESelf := fun t s => match t with
  | .fn f args => bif Nat.beq f gK then (match args with
      | [.map b] => some (.ret (.fn gI [] [.it s.next]), s.new (.cells [.map b] T false))
      | _ => none) else
    bif Nat.beq f gS then (match args with
      | [.fn g [] [.it p]] => bif Nat.beq g gI then (match cellsAt s p with
        | some (.map b :: _) => match s.heap.get b with
          | some (.map es clock) => match keysOfE es with
            | some ks => bif ascS (sortB ks) && (bornOK clock es && Nat.ble (llen ks) 1099511627776) then sortedOf K s (sortB ks) else none
            | none => none
          | _ => none
        | _ => none) else none
      | _ => none) else none
  | .round _ _ => none

theorem arr1' {A : Array Value} {X : Value} (h : A.toList = [X]) : A = #[X] := by cases A; simp at h; simp [h]

theorem knownKeys_ok {P : Program} {gK gS gI : FuncId} {T K : TypeId} (H : KeysHyp P gK gS gI T K) : SelfOK P (knownKeys gK gS gI T K) := by
  intro t s e s' hk base ρ w hS n
  cases t with
  | round l args => cases hk
  | fn f args =>
    intro A hA
    simp only [knownKeys] at hk
    cases hf : Nat.beq f gK with
    | true =>
      rw [hf, cond_true] at hk
      have := Nat.eq_of_beq_eq_true hf
      subst this
      split at hk
      · rename_i b
        cases hk
        obtain ⟨X, Y, e1, h1, e3⟩ := hA
        have e3 : Y = [] := e3
        subst e3
        obtain rfl := arr1' e1
        simp only [VRel] at h1
        obtain ⟨B, O, S, hB, rfl⟩ := h1
        refine callsIn_wide.2 ((H.keys B w).mono ?_)
        rintro E w' ⟨rfl, rfl⟩
        have hc : LRel ρ [V.map b] (#[Value.map (some B)] : Array Value).toList := LRel.cons (by simp only [VRel]; exact ⟨B, O, S, hB, rfl⟩) LRel.nil
        obtain ⟨g1, g2, g3⟩ := hS.newCells hc T T
        refine ⟨_, g1, ⟨_, rfl, ?_⟩, g2, g3⟩
        simp only [VRel]
        exact ⟨#[], _, rfl, rfl, LRel.cons (by simp only [VRel]; exact ⟨_, _, Env.put_same, rfl⟩) LRel.nil⟩
      · cases hk
    | false =>
      rw [hf, cond_false] at hk
      cases hg : Nat.beq f gS with
      | false => rw [hg] at hk; cases hk
      | true =>
      rw [hg, cond_true] at hk
      have := Nat.eq_of_beq_eq_true hg
      subst this
      split at hk
      · rename_i g p
        cases hi : Nat.beq g gI with
        | false => rw [hi] at hk; cases hk
        | true =>
        rw [hi, cond_true] at hk
        have := Nat.eq_of_beq_eq_true hi
        subst this
        split at hk
        · rename_i b cs hcs
          split at hk
          · rename_i es clock hm
            split at hk
            · rename_i ks hks
              simp only [llen_eq] at hk
              cases hb : (ascS (sortB ks) && (bornOK clock es && Nat.ble ks.length 1099511627776)) with
              | false => rw [hb] at hk; cases hk
              | true =>
              rw [hb, cond_true] at hk
              simp only [Bool.and_eq_true, Nat.ble_eq] at hb
              obtain ⟨b1, b2, b3⟩ := hb
              obtain ⟨X, Y, e1, h1, e3⟩ := hA
              have e3 : Y = [] := e3
              subst e3
              obtain rfl := arr1' e1
              simp only [VRel] at h1
              obtain ⟨A1, C1, rfl, h2, h3⟩ := h1
              have h2 : A1.toList = [] := h2
              have h2 : A1 = #[] := by simpa using h2
              subst h2
              obtain ⟨X1, Y1, e4, h4, e5⟩ := h3
              have e5 : Y1 = [] := e5
              subst e5
              obtain rfl := arr1' e4
              simp only [VRel] at h4
              obtain ⟨B, S, hB, rfl⟩ := h4
              obtain ⟨y, hy, hcA⟩ := hS.cellsAt hcs hB
              rw [hB] at hy; cases hy
              obtain ⟨W, g1, g2⟩ := hcA.cell (i := 0) (v := .map b) rfl
              simp only [VRel] at g2
              obtain ⟨Bm, Om, Sm, hBm, rfl⟩ := g2
              obtain ⟨z, hz, hbz, E, hE, hrel⟩ := hS.obj' hm hBm
              rw [hBm] at hz; cases hz
              simp only at hE
              obtain ⟨k1, k2⟩ := keysOfE_rel hks hrel
              obtain ⟨k3, k4⟩ := bornOK_rel b2 hrel
              have hlt : B < w.heap.size := by
                obtain ⟨C, t', fr, q1, _⟩ := hcA.ex
                rcases Nat.lt_or_ge B w.heap.size with hh | hh
                · exact hh
                · rw [Array.getElem?_eq_none hh] at q1; cases q1
              have hasc := ascS_pairwise b1
              have hperm := (sortB_perm ks).map BS.list
              have hnd : (ks.map BS.list).Nodup := by
                rw [← hperm.nodup_iff]
                exact hasc.imp fun h e => by subst e; exact List.lt_irrefl _ h
              have hst : MapKept.Stamped E clock := by
                refine ⟨k4, k3.imp fun h => Nat.ne_of_lt h, ?_⟩
                rw [k1]
                exact List.pairwise_map.2 (List.Pairwise.imp (fun hne e => hne (by simpa [encStr] using e)) hnd)
              have hkl : ∀ k ∈ ks.map BS.list, k.length ≤ 1099511627776 := fun k hk => by
                obtain ⟨x, hx, rfl⟩ := List.mem_map.1 hk
                have := k2 x hx
                simpa [BS.list, dig_length] using this
              have hcell : w.cell? ⟨B, 0, none⟩ = some (.map (some Bm)) := by simpa using g1
              refine callsIn_wide.2 ((H.sorted B Bm E clock (ks.map BS.list) w hlt hcell hE k1 hkl hst (by simpa using b3)).mono ?_)
              rintro En w' ⟨v, ss, rfl, hp, hrow, hnil, hbel⟩
              have hsort : ss.mergeSort (fun x y => decide (x ≤ y)) = (sortB ks).map BS.list := by
                have tr : ∀ a b c : List UInt8, decide (a ≤ b) = true → decide (b ≤ c) = true → decide (a ≤ c) = true := fun a b c h1 h2 => by
                  simp only [decide_eq_true_eq] at *; exact List.le_trans h1 h2
                have to : ∀ a b : List UInt8, (decide (a ≤ b) || decide (b ≤ a)) = true := fun a b => by simp only [Bool.or_eq_true, decide_eq_true_eq]; exact List.le_total a b
                refine List.Perm.eq_of_pairwise (le := fun a b => decide (a ≤ b) = true) (fun a b _ _ h1 h2 => ?_) (List.pairwise_mergeSort tr to ss) (hasc.imp fun h => by simp only [decide_eq_true_eq]; exact List.le_of_lt h) (((List.mergeSort_perm ss _).trans hp).trans hperm.symm)
                simp only [decide_eq_true_eq] at h1 h2
                exact List.le_antisymm h1 h2
              rw [hsort] at hrow
              have hlen : ss.length = (sortB ks).length := by rw [hp.length_eq, List.length_map, (sortB_perm ks).length_eq]
              have hSw := hS.grow hbel
              cases hl : sortB ks with
              | nil =>
                rw [hl] at hk hlen
                simp only [sortedOf] at hk
                cases hk
                have : ss = [] := List.length_eq_zero_iff.1 (by simpa using hlen)
                exact ⟨ρ, ρ.le_refl, ⟨v, rfl, by rw [hnil.2 this]; simp only [VRel]⟩, hSw, hbel.mono hS.le⟩
              | cons x l =>
                rw [hl] at hk hlen hrow
                simp only [sortedOf, llen_eq] at hk
                cases hk
                have hne : ss ≠ [] := fun e => by rw [e] at hlen; simp at hlen
                rcases hrow.2 with ⟨hv, _⟩ | ⟨g, cap, cur, rfl, q1, q2, q3, q4, q5, q6⟩
                · exact absurd (hnil.1 hv) hne
                · have hg : g < w'.heap.size := by
                    rcases Nat.lt_or_ge g w'.heap.size with hh | hh
                    · exact hh
                    · rw [Array.getElem?_eq_none hh] at q2; cases q2
                  have hfresh : ∀ b o x, s.heap.get b = some o → ρ b = some x → x.B ≠ g := fun b o x h1 h2 e => by
                    have := hS.lt h1 h2
                    omega
                  have hlr : LRel (ρ.put s.next ⟨g, 0, cur.size⟩) ((x :: l).map V.str) (cur.toList.take (ss.length * 1)) := by
                    rw [q6]
                    generalize x :: l = m
                    induction m with
                    | nil => exact LRel.nil
                    | cons a m ih => exact LRel.cons (by simp only [VRel]; rfl) ih
                  obtain ⟨a1, a2⟩ := hSw.attach (.cells ((x :: l).map V.str) K false) (B := g) (S := cur.size) (Nat.le_trans hS.le q1) hg hfresh (by
                    refine ⟨cur, K, (0, 0), q2, rfl, ?_, fun i v hi => ?_, by simp, fun _ => rfl⟩
                    · have h1 := hlr.length
                      have h2 : (cur.toList.take (ss.length * 1)).length ≤ cur.size := by simp; omega
                      rw [Nat.zero_add, h1]; exact h2
                    · obtain ⟨Z, z1, z2⟩ := hlr.get hi
                      rw [List.getElem?_take] at z1
                      split at z1
                      · exact ⟨Z, by simpa using z1, z2⟩
                      · cases z1)
                  refine ⟨_, a1, ⟨_, rfl, ?_⟩, a2, hbel.mono hS.le⟩
                  simp only [VRel]
                  have hln : ss.length = Nat.succ l.length := by rw [hlen]; rfl
                  refine ⟨g, 0, cur.size, cap, Env.put_same, by rw [hln], Nat.le_refl _, by omega, by simp, by unfold maxLen at *; omega⟩
            · cases hk
          · cases hk
        · cases hk
      · cases hk
end Go.Eng
