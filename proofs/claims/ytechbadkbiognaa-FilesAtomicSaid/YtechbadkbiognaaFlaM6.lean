/-
  Texts of this claim, one behind the other: EngO EngT FilesKeys SymA SymB. Each says its own conditions.
-/
import Derived.Test.YtechbadkbiognaaFlaM5
import Derived.Sort.KeysCollected
import Derived.Sort.Walk0
import Derived.Laws.AppendOwn
import Derived.Test.YtechbadkbiognaaIter
import Derived.RowKit3
import Derived.Below
import Derived.RangeFuncRecord

set_option linter.unusedVariables false
set_option linter.unusedSimpArgs false
set_option linter.unusedSectionVars false
section
namespace Go.Eng
open Go.RowKit (Below)

mutual
def V.flat : V → Bool
  | .undef => true
  | .bool _ => true
  | .int _ _ => true
  | .str _ => true
  | .nilp => true
  | .nils => true
  | .nilm => true
  | .nilf => true
  | .nili => true
  | .iface _ v => v.flat
  | .agg l => flatL l
  | .tup l => flatL l
  | _ => false
def flatL : List V → Bool
  | [] => true
  | v :: l => v.flat && flatL l
end

mutual
theorem VRel.flat {ρ ρ' : Env} : ∀ (v : V) (W : Value), v.flat = true → VRel ρ v W → VRel ρ' v W
  | .undef, _, _, r => by simpa only [VRel] using r
  | .bool _, _, _, r => by simpa only [VRel] using r
  | .int _ _, _, _, r => by simpa only [VRel] using r
  | .str _, _, _, r => by simpa only [VRel] using r
  | .nilp, _, _, r => by simpa only [VRel] using r
  | .nils, _, _, r => by simpa only [VRel] using r
  | .nilm, _, _, r => by simpa only [VRel] using r
  | .nilf, _, _, r => by simpa only [VRel] using r
  | .nili, _, _, r => by simpa only [VRel] using r
  | .ptr .., _, h, _ => by simp only [V.flat] at h; cases h
  | .sl .., _, h, _ => by simp only [V.flat] at h; cases h
  | .map .., _, h, _ => by simp only [V.flat] at h; cases h
  | .yld .., _, h, _ => by simp only [V.flat] at h; cases h
  | .it .., _, h, _ => by simp only [V.flat] at h; cases h
  | .any, _, h, _ => by simp only [V.flat] at h; cases h
  | .slz _, _, h, _ => by simp only [V.flat] at h; cases h
  | .fn .., _, h, _ => by simp only [V.flat] at h; cases h
  | .iface t v, _, h, r => by
    simp only [V.flat] at h; simp only [VRel] at r ⊢; obtain ⟨X, h1, h2⟩ := r; exact ⟨X, h1, VRel.flat v _ h h2⟩
  | .agg l, _, h, r => by
    simp only [V.flat] at h; simp only [VRel] at r ⊢; obtain ⟨X, h1, h2⟩ := r; exact ⟨X, h1, LRel.flat l _ h h2⟩
  | .tup l, _, h, r => by
    simp only [V.flat] at h; simp only [VRel] at r ⊢; obtain ⟨X, h1, h2⟩ := r; exact ⟨X, h1, LRel.flat l _ h h2⟩
theorem LRel.flat {ρ ρ' : Env} : ∀ (l : List V) (W : List Value), flatL l = true → LRel ρ l W → LRel ρ' l W
  | [], _, _, r => by simpa only [LRel] using r
  | v :: l, _, h, r => by
    simp only [flatL, Bool.and_eq_true] at h
    simp only [LRel] at r ⊢; obtain ⟨X, Y, h1, h2, h3⟩ := r; exact ⟨X, Y, h1, VRel.flat v _ h.1 h2, LRel.flat l _ h.2 h3⟩
end

theorem SRel.grow {base : Nat} {ρ : Env} {s : St} {w w' : World} (h : SRel base ρ s w) (hb : Below w.heap.size w w') : SRel base ρ s w' where
  le := Nat.le_trans h.le hb.size
  obj := fun b o x hg hx => by
    obtain ⟨h2, h3⟩ := h.obj b o x hg hx
    refine ⟨h2, ?_⟩
    rw [hb.block _ (h.lt hg hx)]
    exact h3
  inj := h.inj
  dom := h.dom
  top := h.top

def isTrue : Option (EEnd × St) → Bool
  | some (.ret (.bool b), _) => b
  | _ => false
theorem calls_true {P : Program} {known : ESelf} (hk : SelfOK P known) {fuel d : Nat} {g : FuncId} (h : isTrue (callE P known fuel d (.fn g []) st0) = true) (w : World) :
    Calls P g #[] w fun E w' => E = .returned (.bool true) ∧ Below w.heap.size w w' := by
  cases hr : callE P known fuel d (.fn g []) st0 with
  | none => rw [hr] at h; cases h
  | some r =>
    obtain ⟨e, s'⟩ := r
    rw [hr] at h
    cases e with
    | pan v => cases h
    | ret v =>
      cases v with
      | bool b =>
        have hb : b = true := h
        subst hb
        refine (calls_of_eval hk hr w (A := #[]) rfl).mono ?_
        rintro E w' ⟨ρ, X, rfl, h1, _, h3⟩
        have h1 : X = .bool true := by simpa only [VRel] using h1
        exact ⟨by rw [h1], h3⟩
      | _ => cases h
end Go.Eng
end

section
namespace Go.Eng
open Go.RowKit (Below)
open Go.Proofs (encStr)

def insB (x : BS) : List BS → List BS
  | [] => [x]
  | y :: l => bif BS.ltG x.list y.list then x :: y :: l else y :: insB x l
def sortB : List BS → List BS
  | [] => []
  | x :: l => insB x (sortB l)
theorem insB_perm (x : BS) : ∀ l, (insB x l).Perm (x :: l)
  | [] => .refl _
  | y :: l => by
    unfold insB
    cases BS.ltG x.list y.list with
    | true => exact .refl _
    | false => exact ((insB_perm x l).cons y).trans (.swap x y l)
theorem sortB_perm : ∀ l, (sortB l).Perm l
  | [] => .refl _
  | x :: l => (insB_perm x _).trans ((sortB_perm l).cons x)
def ascS : List BS → Bool
  | x :: l => (match l with
    | y :: _ => BS.ltG x.list y.list
    | [] => true) && ascS l
  | [] => true
theorem ltG_lt (x y : List UInt8) : BS.ltG x y = decide (x < y) := by rw [BS.ltG_eq, Go.Proofs.bytesLess_eq]
theorem ascS_pairwise : ∀ {l : List BS}, ascS l = true → (l.map BS.list).Pairwise (· < ·)
  | [], _ => .nil
  | [x], _ => by simp
  | x :: y :: l, h => by
    simp only [ascS, Bool.and_eq_true, ltG_lt, decide_eq_true_eq] at h
    have ih := ascS_pairwise (l := y :: l) (by simp only [ascS, Bool.and_eq_true, ltG_lt, decide_eq_true_eq]; exact h.2)
    rw [List.map_cons, List.pairwise_cons]
    refine ⟨fun z hz => ?_, ih⟩
    rw [List.map_cons] at hz ih
    rcases List.mem_cons.1 hz with rfl | hz
    · exact h.1
    · exact List.lt_trans h.1 ((List.pairwise_cons.1 ih).1 z hz)

def keysOfE : List (V × V × Nat) → Option (List BS)
  | [] => some []
  | e :: l => match e.1 with
    | .str x => bif Nat.ble x.n 1099511627776 then (match keysOfE l with
      | some r => some (x :: r)
      | none => none) else none
    | _ => none
def bornOK (clock : Nat) : List (V × V × Nat) → Bool
  | e :: l => (match l with
    | e' :: _ => Nat.blt e.2.2 e'.2.2
    | [] => Nat.blt e.2.2 clock) && bornOK clock l
  | [] => true

theorem keysOfE_rel {ρ : Env} : ∀ {es : List (V × V × Nat)} {ks : List BS} {E : List MapEntry}, keysOfE es = some ks → MRel ρ es E → E.map (·.key) = (ks.map BS.list).map encStr ∧ ∀ k ∈ ks, k.n ≤ 1099511627776
  | [], ks, E, h, r => by
    simp only [keysOfE] at h; cases h
    have r : E = [] := r
    subst r; exact ⟨rfl, fun k hk => by cases hk⟩
  | e :: l, ks, E, h, r => by
    obtain ⟨x, y, rfl, h1, _, _, h5⟩ := r
    simp only [keysOfE] at h
    split at h
    · rename_i z hz
      cases hb : Nat.ble z.n 1099511627776 with
      | false => rw [hb] at h; cases h
      | true =>
        rw [hb, cond_true] at h
        split at h
        · rename_i r hr
          cases h
          obtain ⟨g1, g2⟩ := keysOfE_rel hr h5
          rw [hz] at h1
          simp only [VRel] at h1
          refine ⟨by simp only [List.map_cons, g1, h1]; rfl, fun k hk => ?_⟩
          rcases List.mem_cons.1 hk with rfl | hk
          · exact Nat.le_of_ble_eq_true hb
          · exact g2 k hk
        · cases h
    · cases h
theorem bornOK_rel {ρ : Env} {clock : Nat} : ∀ {es : List (V × V × Nat)} {E : List MapEntry}, bornOK clock es = true → MRel ρ es E → (E.map (·.born)).Pairwise (· < ·) ∧ ∀ x ∈ E, x.born < clock
  | [], E, _, r => by have r : E = [] := r; subst r; exact ⟨.nil, fun x hx => by cases hx⟩
  | [e], E, h, r => by
    obtain ⟨x, y, rfl, _, _, h3, h5⟩ := r
    have h5 : y = [] := h5
    subst h5
    simp only [bornOK, Bool.and_true, blt_iff, decide_eq_true_eq] at h
    exact ⟨by simp, fun z hz => by simp at hz; subst hz; omega⟩
  | e :: e' :: l, E, h, r => by
    obtain ⟨x, y, rfl, _, _, h3, h5⟩ := r
    rw [bornOK, Bool.and_eq_true] at h
    obtain ⟨h, hh⟩ := h
    simp only [blt_iff, decide_eq_true_eq] at h
    obtain ⟨g1, g2⟩ := bornOK_rel (es := e' :: l) hh h5
    obtain ⟨x', y', rfl, _, _, h3', _⟩ := h5
    rw [List.map_cons] at g1 ⊢
    have hx : x.born < x'.born := by omega
    refine ⟨List.pairwise_cons.2 ⟨fun z hz => ?_, by rw [List.map_cons]; exact g1⟩, fun z hz => ?_⟩
    · rw [List.map_cons] at hz
      rcases List.mem_cons.1 hz with rfl | hz
      · exact hx
      · exact Nat.lt_trans hx ((List.pairwise_cons.1 g1).1 z hz)
    · rcases List.mem_cons.1 hz with rfl | hz
      · exact Nat.lt_trans hx (g2 x' List.mem_cons_self)
      · exact g2 z hz

structure KeysHyp (P : Program) (gK gS gI : FuncId) (T K : TypeId) : Prop where
  keys : ∀ (b : Nat) (w : World), Calls P gK #[.map (some b)] w fun e w' => e = .returned (.func (.func gI) #[] #[.pointer (some ⟨w.heap.size, 0, none⟩)]) ∧ w' = w.alloc (.cells #[.map (some b)] T)
  sorted : ∀ (pb b : Nat) (es : Array MapEntry) (clock : Nat) (ks : List (List UInt8)) (w : World), pb < w.heap.size → w.cell? ⟨pb, 0, none⟩ = some (.map (some b)) → w.heap[b]? = some (.map es clock) → es.toList.map (·.key) = ks.map encStr →
    (∀ k ∈ ks, k.length ≤ 1099511627776) → MapKept.Stamped es clock → ks.length ≤ 1099511627776 →
    Calls P gS #[.func (.func gI) #[] #[.pointer (some ⟨pb, 0, none⟩)]] w fun e w' => ∃ (v : Value) (ss : List (List UInt8)), e = .returned v ∧ ss.Perm ks ∧
      w'.ownsRow w.heap.size K 1 v ss.length ((ss.mergeSort (fun x y => decide (x ≤ y))).map encStr) ∧ (v = .slice none 0 0 ↔ ss = []) ∧ Below w.heap.size w w'

noncomputable def sortedOf (K : TypeId) (s : St) : List BS → Option (EEnd × St)
  | [] => some (.ret .nils, s)
  | x :: l => some (.ret (.sl s.next 0 (Nat.succ (llen l)) (Nat.succ (llen l)) false 1), s.new (.cells ((x :: l).map V.str) K false))
noncomputable def knownKeys (gK gS gI : FuncId) (T K : TypeId) : ESelf := fun t s => match t with
  | .fn f args => bif Nat.beq f gK then (match args with
      | [.map b] => some (.ret (.fn gI [] [.it s.next]), s.new (.cells [.map b] T false))
      | _ => none) else
    bif Nat.beq f gS then (match args with
      | [.fn g [] [.it p]] => bif Nat.beq g gI then (match cellsAt s p with
        | some (.map b :: _) => match s.heap.get b with
          | some (.map es clock) => match keysOfE es with
            | some ks => bif ascS (sortB ks) && (bornOK clock es && Nat.ble (llen ks) 1099511627776) then sortedOf K s (sortB ks) else none
            | none => none
          | _ => none
        | _ => none) else none
      | _ => none) else none
  | .round _ _ => none

theorem arr1' {A : Array Value} {X : Value} (h : A.toList = [X]) : A = #[X] := by cases A; simp at h; simp [h]

theorem knownKeys_ok {P : Program} {gK gS gI : FuncId} {T K : TypeId} (H : KeysHyp P gK gS gI T K) : SelfOK P (knownKeys gK gS gI T K) := by
  intro t s e s' hk base ρ w hS n
  cases t with
  | round l args => cases hk
  | fn f args =>
    intro A hA
    simp only [knownKeys] at hk
    cases hf : Nat.beq f gK with
    | true =>
      rw [hf, cond_true] at hk
      have := Nat.eq_of_beq_eq_true hf
      subst this
      split at hk
      · rename_i b
        cases hk
        obtain ⟨X, Y, e1, h1, e3⟩ := hA
        have e3 : Y = [] := e3
        subst e3
        obtain rfl := arr1' e1
        simp only [VRel] at h1
        obtain ⟨B, O, S, hB, rfl⟩ := h1
        refine callsIn_wide.2 ((H.keys B w).mono ?_)
        rintro E w' ⟨rfl, rfl⟩
        have hc : LRel ρ [V.map b] (#[Value.map (some B)] : Array Value).toList := LRel.cons (by simp only [VRel]; exact ⟨B, O, S, hB, rfl⟩) LRel.nil
        obtain ⟨g1, g2, g3⟩ := hS.newCells hc T T
        refine ⟨_, g1, ⟨_, rfl, ?_⟩, g2, g3⟩
        simp only [VRel]
        exact ⟨#[], _, rfl, rfl, LRel.cons (by simp only [VRel]; exact ⟨_, _, Env.put_same, rfl⟩) LRel.nil⟩
      · cases hk
    | false =>
      rw [hf, cond_false] at hk
      cases hg : Nat.beq f gS with
      | false => rw [hg] at hk; cases hk
      | true =>
      rw [hg, cond_true] at hk
      have := Nat.eq_of_beq_eq_true hg
      subst this
      split at hk
      · rename_i g p
        cases hi : Nat.beq g gI with
        | false => rw [hi] at hk; cases hk
        | true =>
        rw [hi, cond_true] at hk
        have := Nat.eq_of_beq_eq_true hi
        subst this
        split at hk
        · rename_i b cs hcs
          split at hk
          · rename_i es clock hm
            split at hk
            · rename_i ks hks
              simp only [llen_eq] at hk
              cases hb : (ascS (sortB ks) && (bornOK clock es && Nat.ble ks.length 1099511627776)) with
              | false => rw [hb] at hk; cases hk
              | true =>
              rw [hb, cond_true] at hk
              simp only [Bool.and_eq_true, Nat.ble_eq] at hb
              obtain ⟨b1, b2, b3⟩ := hb
              obtain ⟨X, Y, e1, h1, e3⟩ := hA
              have e3 : Y = [] := e3
              subst e3
              obtain rfl := arr1' e1
              simp only [VRel] at h1
              obtain ⟨A1, C1, rfl, h2, h3⟩ := h1
              have h2 : A1.toList = [] := h2
              have h2 : A1 = #[] := by simpa using h2
              subst h2
              obtain ⟨X1, Y1, e4, h4, e5⟩ := h3
              have e5 : Y1 = [] := e5
              subst e5
              obtain rfl := arr1' e4
              simp only [VRel] at h4
              obtain ⟨B, S, hB, rfl⟩ := h4
              obtain ⟨y, hy, hcA⟩ := hS.cellsAt hcs hB
              rw [hB] at hy; cases hy
              obtain ⟨W, g1, g2⟩ := hcA.cell (i := 0) (v := .map b) rfl
              simp only [VRel] at g2
              obtain ⟨Bm, Om, Sm, hBm, rfl⟩ := g2
              obtain ⟨z, hz, hbz, E, hE, hrel⟩ := hS.obj' hm hBm
              rw [hBm] at hz; cases hz
              simp only at hE
              obtain ⟨k1, k2⟩ := keysOfE_rel hks hrel
              obtain ⟨k3, k4⟩ := bornOK_rel b2 hrel
              have hlt : B < w.heap.size := by
                obtain ⟨C, t', fr, q1, _⟩ := hcA.ex
                rcases Nat.lt_or_ge B w.heap.size with hh | hh
                · exact hh
                · rw [Array.getElem?_eq_none hh] at q1; cases q1
              have hasc := ascS_pairwise b1
              have hperm := (sortB_perm ks).map BS.list
              have hnd : (ks.map BS.list).Nodup := by
                rw [← hperm.nodup_iff]
                exact hasc.imp fun h e => by subst e; exact List.lt_irrefl _ h
              have hst : MapKept.Stamped E clock := by
                refine ⟨k4, k3.imp fun h => Nat.ne_of_lt h, ?_⟩
                rw [k1]
                exact List.pairwise_map.2 (List.Pairwise.imp (fun hne e => hne (by simpa [encStr] using e)) hnd)
              have hkl : ∀ k ∈ ks.map BS.list, k.length ≤ 1099511627776 := fun k hk => by
                obtain ⟨x, hx, rfl⟩ := List.mem_map.1 hk
                have := k2 x hx
                simpa [BS.list, dig_length] using this
              have hcell : w.cell? ⟨B, 0, none⟩ = some (.map (some Bm)) := by simpa using g1
              refine callsIn_wide.2 ((H.sorted B Bm E clock (ks.map BS.list) w hlt hcell hE k1 hkl hst (by simpa using b3)).mono ?_)
              rintro En w' ⟨v, ss, rfl, hp, hrow, hnil, hbel⟩
              have hsort : ss.mergeSort (fun x y => decide (x ≤ y)) = (sortB ks).map BS.list := by
                have tr : ∀ a b c : List UInt8, decide (a ≤ b) = true → decide (b ≤ c) = true → decide (a ≤ c) = true := fun a b c h1 h2 => by
                  simp only [decide_eq_true_eq] at *; exact List.le_trans h1 h2
                have to : ∀ a b : List UInt8, (decide (a ≤ b) || decide (b ≤ a)) = true := fun a b => by simp only [Bool.or_eq_true, decide_eq_true_eq]; exact List.le_total a b
                refine List.Perm.eq_of_pairwise (le := fun a b => decide (a ≤ b) = true) (fun a b _ _ h1 h2 => ?_) (List.pairwise_mergeSort tr to ss) (hasc.imp fun h => by simp only [decide_eq_true_eq]; exact List.le_of_lt h) (((List.mergeSort_perm ss _).trans hp).trans hperm.symm)
                simp only [decide_eq_true_eq] at h1 h2
                exact List.le_antisymm h1 h2
              rw [hsort] at hrow
              have hlen : ss.length = (sortB ks).length := by rw [hp.length_eq, List.length_map, (sortB_perm ks).length_eq]
              have hSw := hS.grow hbel
              cases hl : sortB ks with
              | nil =>
                rw [hl] at hk hlen
                simp only [sortedOf] at hk
                cases hk
                have : ss = [] := List.length_eq_zero_iff.1 (by simpa using hlen)
                exact ⟨ρ, ρ.le_refl, ⟨v, rfl, by rw [hnil.2 this]; simp only [VRel]⟩, hSw, hbel.mono hS.le⟩
              | cons x l =>
                rw [hl] at hk hlen hrow
                simp only [sortedOf, llen_eq] at hk
                cases hk
                have hne : ss ≠ [] := fun e => by rw [e] at hlen; simp at hlen
                rcases hrow.2 with ⟨hv, _⟩ | ⟨g, cap, cur, rfl, q1, q2, q3, q4, q5, q6⟩
                · exact absurd (hnil.1 hv) hne
                · have hg : g < w'.heap.size := by
                    rcases Nat.lt_or_ge g w'.heap.size with hh | hh
                    · exact hh
                    · rw [Array.getElem?_eq_none hh] at q2; cases q2
                  have hfresh : ∀ b o x, s.heap.get b = some o → ρ b = some x → x.B ≠ g := fun b o x h1 h2 e => by
                    have := hS.lt h1 h2
                    omega
                  have hlr : LRel (ρ.put s.next ⟨g, 0, cur.size⟩) ((x :: l).map V.str) (cur.toList.take (ss.length * 1)) := by
                    rw [q6]
                    generalize x :: l = m
                    induction m with
                    | nil => exact LRel.nil
                    | cons a m ih => exact LRel.cons (by simp only [VRel]; rfl) ih
                  obtain ⟨a1, a2⟩ := hSw.attach (.cells ((x :: l).map V.str) K false) (B := g) (S := cur.size) (Nat.le_trans hS.le q1) hg hfresh (by
                    refine ⟨cur, K, (0, 0), q2, rfl, ?_, fun i v hi => ?_, by simp, fun _ => rfl⟩
                    · have h1 := hlr.length
                      have h2 : (cur.toList.take (ss.length * 1)).length ≤ cur.size := by simp; omega
                      rw [Nat.zero_add, h1]; exact h2
                    · obtain ⟨Z, z1, z2⟩ := hlr.get hi
                      rw [List.getElem?_take] at z1
                      split at z1
                      · exact ⟨Z, by simpa using z1, z2⟩
                      · cases z1)
                  refine ⟨_, a1, ⟨_, rfl, ?_⟩, a2, hbel.mono hS.le⟩
                  simp only [VRel]
                  have hln : ss.length = Nat.succ l.length := by rw [hlen]; rfl
                  refine ⟨g, 0, cur.size, cap, Env.put_same, by rw [hln], Nat.le_refl _, by omega, by simp, by unfold maxLen at *; omega⟩
            · cases hk
          · cases hk
        · cases hk
      · cases hk
end Go.Eng
end

section
namespace Go.Proofs.Ytechbadkbiognaa
open Go.RowKit Go.Maps Go.Sort Go.Shelf Go.Proofs

theorem sortsStr (m : Nat) : AnyZ.SortsIn Try.prog Try.sorted54_ren Fence.wide m :=
  ⟨fun blk off cap ss W hH hblk hsz => callsIn_wide.2 (AnyM.slices_Sort_string Try.sort64 blk off cap ss W hH hblk hsz),
   fun p cap W => callsIn_wide.2 (AnyM.slices_Sort_string_none Try.sort64 p cap W)⟩

theorem keys_fit {P : Program} {K : TypeId} (hK : P.underlying K = some .string) {es : Array MapEntry} {clock : Nat} {ks : List (List UInt8)} (hk : es.toList.map (·.key) = ks.map encStr) (hl : ∀ k ∈ ks, k.length ≤ 1099511627776) (hst : MapKept.Stamped es clock) (hn : ks.length ≤ 1099511627776) :
    WideElems.Fit (H := Unit) P K (fun _ => some (.nil, [])) es clock ∧ (strKeys (H := Unit) (.map ((es.toList.map (WideElems.rg P K fun _ => some (.nil, []))).foldr DataW.insert []))).Perm ks := by
  have hlen : es.size = ks.length := by simpa using congrArg List.length hk
  have hrd : ∀ x ∈ es.toList, ∃ k ∈ ks, x.key = encStr k ∧ WideElems.rd (H := Unit) P K (fun _ => some (.nil, [])) x = some (.string k, .nil) := fun x hx => by
    have h1 : x.key ∈ ks.map encStr := by rw [← hk]; exact List.mem_map.2 ⟨x, hx, rfl⟩
    obtain ⟨k, h2, h3⟩ := List.mem_map.1 h1
    refine ⟨k, h2, h3.symm, ?_⟩
    have h4 := hl k h2
    have h5 : k.length ≤ maxLen := by unfold maxLen; omega
    have h6 : (⟨k.toArray⟩ : ByteArray).size ≤ maxLen := by show k.toArray.size ≤ _; simpa using h5
    unfold WideElems.rd
    rw [← h3]
    simp [keyOf, mapKey, hK, encStr, h6]
  refine ⟨⟨by rw [hlen]; unfold maxLen; omega, hst, fun x hx => by obtain ⟨k, _, _, h⟩ := hrd x hx; exact ⟨_, h⟩⟩, ?_⟩
  have e : (es.toList.map (WideElems.rg (H := Unit) P K fun _ => some (.nil, []))).map (fun p => strOf p.1) = ks := by
    have h1 : ks = (es.toList.map (·.key)).map (fun v => match v with | .string s => s.data.toList | _ => []) := by
      rw [hk, List.map_map]
      conv => lhs; rw [← List.map_id ks]
      apply List.map_congr_left
      intro k _
      simp [encStr]
    conv => rhs; rw [h1]
    rw [List.map_map, List.map_map]
    apply List.map_congr_left
    intro x hx
    obtain ⟨k, _, h2, h3⟩ := hrd x hx
    simp only [Function.comp, WideElems.rg, h3, h2, Option.getD_some, strOf, encStr]
  have := (WideShapes.sorted_perm (es.toList.map (WideElems.rg (H := Unit) P K fun _ => some (.nil, [])))).map (fun p => strOf p.1)
  rw [e] at this
  exact this

set_option maxHeartbeats 1000000 in
theorem filesKeys : Go.Eng.KeysHyp Try.prog 55 54 65 51 9 where
  keys := fun b w => callsIn_wide.1 (AnyZ.keys_in Try.keys55 Fence.wide 5 trivial rfl (some b) w)
  sorted := fun pb b es clock ks w hpb hc hb hk hl hst hn => by
    obtain ⟨F, hp⟩ := keys_fit (P := Try.prog) (K := 9) Try.underlying9 hk hl hst hn
    have hown : w.ownsMap Try.prog 9 (fun _ => some (.nil, [])) b es.size (.map ((es.toList.map (WideElems.rg (H := Unit) Try.prog 9 fun _ => some (.nil, []))).foldr DataW.insert [])) := ⟨es, clock, hb, F, Nat.le_refl _, rfl⟩
    have hsz : Maps.size (H := Unit) (.map ((es.toList.map (WideElems.rg (H := Unit) Try.prog 9 fun _ => some (.nil, []))).foldr DataW.insert [])) = ks.length := by
      have := hp.length_eq
      simpa [strKeys, Maps.size] using this
    have hseq := AnyZ.keys_gives (ρ := Try.keys55_ren) { Try.keys55 with } Fence.wide 2 trivial rfl (by omega) pb b es.size _ w hpb hc hown
    refine callsIn_wide.1 ((AnyZ.sorted_in Try.sorted54 Fence.wide 5 trivial trivial trivial trivial rfl (by omega) (sortsStr _) (enters_of Try.func64 (by kernel_rfl) rfl) 65 #[.pointer (some ⟨pb, 0, none⟩)] trivial (enters_of Try.func65 (by kernel_rfl) rfl) _ _ (by rw [hsz]; unfold maxLen; omega) (by rw [hsz]; omega) w hseq).mono ?_)
    rintro e w' ⟨v, ss, rfl, h1, h2, h3, h4⟩
    exact ⟨v, ss, rfl, h1.trans hp, h2, h3, h4⟩

noncomputable def knownFiles : Go.Eng.ESelf := Go.Eng.knownKeys 55 54 65 51 9
theorem knownFiles_ok : Go.Eng.SelfOK Try.prog knownFiles := Go.Eng.knownKeys_ok filesKeys
end Go.Proofs.Ytechbadkbiognaa
end

section
namespace Go.Sym

noncomputable def hide {α : Type} (x : α) : α := Classical.choose (⟨x, rfl⟩ : ∃ y, y = x)
theorem hide_eq {α : Type} (x : α) : hide x = x := Classical.choose_spec (⟨x, rfl⟩ : ∃ y, y = x)

theorem ba_ext {a b : ByteArray} (h : a.data.toList = b.data.toList) : a = b := by
  cases a; cases b; simp at h; simp [h]

inductive T (α : Type) where
  | leaf
  | node (v : Option α) (l r : T α)

noncomputable def T.get {α : Type} (t : T α) : Nat → Option α :=
  @T.rec α (fun _ => Nat → Option α) (fun _ => none)
    (fun v _ _ hl hr n => @Nat.rec (fun _ => Option α) v (fun m _ => @Bool.rec (fun _ => Option α) (hr (Nat.div m (nat_lit 2))) (hl (Nat.div m (nat_lit 2))) (Nat.beq (Nat.mod m (nat_lit 2)) (nat_lit 0))) n) t
theorem T.get_leaf {α : Type} (n : Nat) : (T.leaf : T α).get n = none := rfl
theorem T.get_zero {α : Type} (v : Option α) (l r : T α) : (T.node v l r).get 0 = v := rfl
theorem T.get_succ {α : Type} (v : Option α) (l r : T α) (m : Nat) : (T.node v l r).get (m + 1) = bif Nat.beq (m % 2) 0 then l.get (m / 2) else r.get (m / 2) := by
  show @Bool.rec (fun _ => Option α) (r.get (m / 2)) (l.get (m / 2)) (Nat.beq (m % 2) 0) = _
  cases Nat.beq (m % 2) 0 <;> rfl

noncomputable def T.setF {α : Type} (f : Nat) : T α → Nat → Option α → T α :=
  @Nat.rec (fun _ => T α → Nat → Option α → T α) (fun t _ _ => t)
    (fun _ ih t n x => @T.rec α (fun _ => T α)
      (@Nat.rec (fun _ => T α) (.node x .leaf .leaf) (fun m _ => @Bool.rec (fun _ => T α) (.node none .leaf (ih .leaf (Nat.div m (nat_lit 2)) x)) (.node none (ih .leaf (Nat.div m (nat_lit 2)) x) .leaf) (Nat.beq (Nat.mod m (nat_lit 2)) (nat_lit 0))) n)
      (fun v l r _ _ => @Nat.rec (fun _ => T α) (.node x l r) (fun m _ => @Bool.rec (fun _ => T α) (.node v l (ih r (Nat.div m (nat_lit 2)) x)) (.node v (ih l (Nat.div m (nat_lit 2)) x) r) (Nat.beq (Nat.mod m (nat_lit 2)) (nat_lit 0))) n) t) f
theorem T.setF_leaf0 {α : Type} (f : Nat) (x : Option α) : T.setF (f + 1) .leaf 0 x = .node x .leaf .leaf := rfl
theorem T.setF_leaf1 {α : Type} (f m : Nat) (x : Option α) : T.setF (f + 1) .leaf (m + 1) x = bif Nat.beq (m % 2) 0 then .node none (T.setF f .leaf (m / 2) x) .leaf else .node none .leaf (T.setF f .leaf (m / 2) x) := by
  show @Bool.rec (fun _ => T α) (.node none .leaf (T.setF f .leaf (m / 2) x)) (.node none (T.setF f .leaf (m / 2) x) .leaf) (Nat.beq (m % 2) 0) = _
  cases Nat.beq (m % 2) 0 <;> rfl
theorem T.setF_node0 {α : Type} (f : Nat) (v : Option α) (l r : T α) (x : Option α) : T.setF (f + 1) (.node v l r) 0 x = .node x l r := rfl
theorem T.setF_node1 {α : Type} (f m : Nat) (v : Option α) (l r : T α) (x : Option α) : T.setF (f + 1) (.node v l r) (m + 1) x = bif Nat.beq (m % 2) 0 then .node v (T.setF f l (m / 2) x) r else .node v l (T.setF f r (m / 2) x) := by
  show @Bool.rec (fun _ => T α) (.node v l (T.setF f r (m / 2) x)) (.node v (T.setF f l (m / 2) x) r) (Nat.beq (m % 2) 0) = _
  cases Nat.beq (m % 2) 0 <;> rfl

noncomputable def T.set {α : Type} (t : T α) (n : Nat) (x : Option α) : T α := T.setF (n + 1) t n x

theorem T.get_setF {α : Type} : ∀ (f : Nat) (t : T α) (n : Nat) (x : Option α) (k : Nat), n < f → (T.setF f t n x).get k = if k = n then x else t.get k
  | 0, _, _, _, _, h => absurd h (by omega)
  | f + 1, t, n, x, k, h => by
    cases t with
    | leaf =>
      cases n with
      | zero => cases k <;> simp [T.setF_leaf0, T.get_leaf, T.get_zero, T.get_succ]
      | succ m =>
        have ih := fun k => T.get_setF f (.leaf : T α) (m / 2) x k (by omega)
        simp only [T.setF_leaf1]
        cases hm : Nat.beq (m % 2) 0 <;> cases k with
        | zero => simp [T.get_zero, T.get_leaf]
        | succ j =>
          cases hj : Nat.beq (j % 2) 0 <;> simp only [T.get_leaf, T.get_succ, hj, cond_true, cond_false, ih] <;>
            simp only [Nat.beq_eq_true_eq, Nat.beq_eq, Bool.eq_false_iff, ne_eq] at hm hj <;>
            first
              | rfl
              | (have : (j / 2 = m / 2) ↔ (j + 1 = m + 1) := by omega
                 simp only [this])
              | (rw [if_neg (by omega)])
    | node v l r =>
      cases n with
      | zero => cases k <;> simp [T.setF_node0, T.get_zero, T.get_succ]
      | succ m =>
        have ih := fun t k => T.get_setF f (t : T α) (m / 2) x k (by omega)
        simp only [T.setF_node1]
        cases hm : Nat.beq (m % 2) 0 <;> cases k with
        | zero => simp [T.get_zero, T.get_leaf]
        | succ j =>
          cases hj : Nat.beq (j % 2) 0 <;> simp only [T.get_leaf, T.get_succ, hj, cond_true, cond_false, ih] <;>
            simp only [Nat.beq_eq_true_eq, Nat.beq_eq, Bool.eq_false_iff, ne_eq] at hm hj <;>
            first
              | (have : (j / 2 = m / 2) ↔ (j + 1 = m + 1) := by omega
                 simp only [this])
              | (rw [if_neg (by omega)])

theorem T.get_set {α : Type} (t : T α) (n : Nat) (x : Option α) (k : Nat) : (t.set n x).get k = if k = n then x else t.get k :=
  T.get_setF _ _ _ _ _ (Nat.lt_succ_self n)

inductive B (α : Type) where
  | leaf (v : α)
  | node (l r : B α)
noncomputable def B.get {α : Type} (t : B α) : Nat → α :=
  @B.rec α (fun _ => Nat → α) (fun v _ => v) (fun _ _ hl hr n => @Bool.rec (fun _ => α) (hl (Nat.div n (nat_lit 2))) (hr (Nat.div n (nat_lit 2))) (Nat.beq (Nat.mod n (nat_lit 2)) (nat_lit 1))) t
noncomputable def B.set {α : Type} (x : α) (t : B α) : Nat → B α :=
  @B.rec α (fun _ => Nat → B α) (fun _ _ => .leaf x) (fun l r hl hr n => @Bool.rec (fun _ => B α) (.node (hl (Nat.div n (nat_lit 2))) r) (.node l (hr (Nat.div n (nat_lit 2)))) (Nat.beq (Nat.mod n (nat_lit 2)) (nat_lit 1))) t
theorem B.get_node {α : Type} (l r : B α) (n : Nat) : (B.node l r).get n = bif Nat.beq (n % 2) 1 then r.get (n / 2) else l.get (n / 2) := by
  show @Bool.rec (fun _ => α) (l.get (n / 2)) (r.get (n / 2)) (Nat.beq (n % 2) 1) = _
  cases Nat.beq (n % 2) 1 <;> rfl
theorem B.set_node {α : Type} (x : α) (l r : B α) (n : Nat) : B.set x (.node l r) n = bif Nat.beq (n % 2) 1 then .node l (B.set x r (n / 2)) else .node (B.set x l (n / 2)) r := by
  show @Bool.rec (fun _ => B α) (.node (B.set x l (n / 2)) r) (.node l (B.set x r (n / 2))) (Nat.beq (n % 2) 1) = _
  cases Nat.beq (n % 2) 1 <;> rfl
def B.full {α : Type} : B α → Nat → Prop
  | .leaf _, d => d = 0
  | .node l r, d => ∃ e, d = e + 1 ∧ l.full e ∧ r.full e
theorem B.set_full {α : Type} (x : α) : ∀ (t : B α) (d n : Nat), t.full d → (B.set x t n).full d
  | .leaf _, d, n, h => h
  | .node l r, d, n, h => by
    obtain ⟨e, rfl, h1, h2⟩ := h
    rw [B.set_node]
    cases Nat.beq (n % 2) 1
    · exact ⟨e, rfl, B.set_full x l e _ h1, h2⟩
    · exact ⟨e, rfl, h1, B.set_full x r e _ h2⟩
theorem B.get_set {α : Type} (x : α) : ∀ (t : B α) (d n k : Nat), t.full d → n < 2 ^ d → k < 2 ^ d → (B.set x t n).get k = if k = n then x else t.get k
  | .leaf v, d, n, k, h, hn, hk => by
    have h : d = 0 := h
    subst h
    have : n = 0 := by simpa using hn
    have : k = 0 := by simpa using hk
    subst n; subst k; rfl
  | .node l r, d, n, k, h, hn, hk => by
    obtain ⟨e, rfl, h1, h2⟩ := h
    rw [Nat.pow_succ] at hn hk
    have il := B.get_set x l e (n / 2) (k / 2) h1 (by omega) (by omega)
    have ir := B.get_set x r e (n / 2) (k / 2) h2 (by omega) (by omega)
    rw [B.set_node]
    cases hb : Nat.beq (n % 2) 1 <;> simp only [cond_true, cond_false, B.get_node] <;> cases hc : Nat.beq (k % 2) 1 <;>
      simp only [cond_true, cond_false, il, ir] <;> simp only [Nat.beq_eq_true_eq, Nat.beq_eq, Bool.eq_false_iff, ne_eq] at hb hc
    · have : (k / 2 = n / 2) ↔ (k = n) := by omega
      simp only [this]
    · rw [if_neg (by omega)]
    · rw [if_neg (by omega)]
    · have : (k / 2 = n / 2) ↔ (k = n) := by omega
      simp only [this]
noncomputable def B.ofList {α : Type} (z : α) : Nat → List α → B α
  | 0, l => .leaf (l.headD z)
  | d + 1, l => .node (B.ofList z d (evens l)) (B.ofList z d (odds l))
where
  evens : List α → List α
  | [] => []
  | [a] => [a]
  | a :: _ :: l => a :: evens l
  odds : List α → List α
  | [] => []
  | [_] => []
  | _ :: b :: l => b :: odds l
theorem B.evens_get {α : Type} : ∀ (l : List α) (i : Nat), (B.ofList.evens l)[i]? = l[2 * i]?
  | [], i => by simp [B.ofList.evens]
  | [a], i => by cases i <;> simp [B.ofList.evens]
  | a :: b :: l, i => by
    cases i with
    | zero => simp [B.ofList.evens]
    | succ i => simp [B.ofList.evens, B.evens_get l i, show 2 * (i + 1) = 2 * i + 1 + 1 from by omega]
theorem B.odds_get {α : Type} : ∀ (l : List α) (i : Nat), (B.ofList.odds l)[i]? = l[2 * i + 1]?
  | [], i => by simp [B.ofList.odds]
  | [a], i => by cases i <;> simp [B.ofList.odds]
  | a :: b :: l, i => by
    cases i with
    | zero => simp [B.ofList.odds]
    | succ i => simp [B.ofList.odds, B.odds_get l i, show 2 * (i + 1) + 1 = 2 * i + 1 + 1 + 1 from by omega]
theorem B.ofList_full {α : Type} (z : α) : ∀ (d : Nat) (l : List α), (B.ofList z d l).full d
  | 0, _ => rfl
  | d + 1, l => ⟨d, rfl, B.ofList_full z d _, B.ofList_full z d _⟩
theorem B.ofList_get {α : Type} (z : α) : ∀ (d : Nat) (l : List α) (i : Nat), i < 2 ^ d → (B.ofList z d l).get i = l.getD i z
  | 0, l, i, h => by
    have : i = 0 := by simpa using h
    subst this
    cases l <;> rfl
  | d + 1, l, i, h => by
    rw [Nat.pow_succ] at h
    have ih := B.ofList_get z d
    show (B.node (B.ofList z d (B.ofList.evens l)) (B.ofList z d (B.ofList.odds l))).get i = _
    rw [B.get_node]
    simp only [List.getD_eq_getElem?_getD]
    cases hb : Nat.beq (i % 2) 1
    · simp only [cond_false]
      rw [ih _ _ (by omega), List.getD_eq_getElem?_getD, B.evens_get]
      have : ¬ i % 2 = 1 := by intro e; rw [e] at hb; cases hb
      rw [show 2 * (i / 2) = i from by omega]
    · simp only [cond_true]
      rw [ih _ _ (by omega), List.getD_eq_getElem?_getD, B.odds_get]
      have : i % 2 = 1 := by simpa using hb
      rw [show 2 * (i / 2) + 1 = i from by omega]

noncomputable def llen {α : Type} (l : List α) : Nat := @List.rec α (fun _ => Nat) 0 (fun _ _ ih => ih + 1) l
theorem llen_eq {α : Type} : ∀ l : List α, llen l = l.length
  | [] => rfl
  | _ :: l => congrArg (· + 1) (llen_eq l)
noncomputable def lget {α : Type} (l : List α) : Nat → Option α := @List.rec α (fun _ => Nat → Option α) (fun _ => none) (fun a _ ih n => @Nat.rec (fun _ => Option α) (some a) (fun m _ => ih m) n) l
theorem lget_eq {α : Type} : ∀ (l : List α) (n : Nat), lget l n = l[n]?
  | [], _ => by simp [lget]
  | a :: l, 0 => rfl
  | a :: l, n + 1 => by rw [List.getElem?_cons_succ]; exact lget_eq l n
noncomputable def ldrop {α : Type} (l : List α) : Nat → List α := @List.rec α (fun _ => Nat → List α) (fun _ => []) (fun a l ih n => @Nat.rec (fun _ => List α) (a :: l) (fun m _ => ih m) n) l
theorem ldrop_eq {α : Type} : ∀ (l : List α) (n : Nat), ldrop l n = l.drop n
  | [], _ => by simp [ldrop]
  | a :: l, 0 => rfl
  | a :: l, n + 1 => by rw [List.drop_succ_cons]; exact ldrop_eq l n
noncomputable def ltake {α : Type} (l : List α) : Nat → List α := @List.rec α (fun _ => Nat → List α) (fun _ => []) (fun a _ ih n => @Nat.rec (fun _ => List α) [] (fun m _ => a :: ih m) n) l
theorem ltake_eq {α : Type} : ∀ (l : List α) (n : Nat), ltake l n = l.take n
  | [], _ => by simp [ltake]
  | a :: l, 0 => rfl
  | a :: l, n + 1 => by rw [List.take_succ_cons]; exact congrArg (a :: ·) (ltake_eq l n)
noncomputable def lset {α : Type} (l : List α) (v : α) : Nat → List α := @List.rec α (fun _ => Nat → List α) (fun _ => []) (fun a l ih n => @Nat.rec (fun _ => List α) (v :: l) (fun m _ => a :: ih m) n) l
theorem lset_eq {α : Type} : ∀ (l : List α) (v : α) (n : Nat), lset l v n = l.set n v
  | [], _, _ => rfl
  | a :: l, v, 0 => rfl
  | a :: l, v, n + 1 => congrArg (a :: ·) (lset_eq l v n)
noncomputable def lapp {α : Type} (l m : List α) : List α := @List.rec α (fun _ => List α) m (fun a _ ih => a :: ih) l
theorem lapp_eq {α : Type} : ∀ (l m : List α), lapp l m = l ++ m
  | [], _ => rfl
  | a :: l, m => congrArg (a :: ·) (lapp_eq l m)
noncomputable def lall {α : Type} (f : α → Bool) (l : List α) : Bool := @List.rec α (fun _ => Bool) true (fun a _ ih => @Bool.rec (fun _ => Bool) false ih (f a)) l
theorem lall_eq {α : Type} (f : α → Bool) : ∀ (l : List α), lall f l = l.all f
  | [] => rfl
  | a :: l => by
    show @Bool.rec (fun _ => Bool) false (lall f l) (f a) = _
    rw [List.all_cons, ← lall_eq f l]
    cases f a <;> rfl

def kM : IntKind → Nat
  | .i8 | .u8 => nat_lit 256
  | .i16 | .u16 => nat_lit 65536
  | .i32 | .u32 => nat_lit 4294967296
  | .i64 | .u64 => nat_lit 18446744073709551616
def modN (M : Nat) : Int → Nat
  | .ofNat m => Nat.mod m M
  | .negSucc m => Nat.sub (Nat.sub M (nat_lit 1)) (Nat.mod m M)
theorem modN_eq (M : Nat) (hM : 0 < M) : ∀ n : Int, (modN M n : Int) = n % (M : Int)
  | .ofNat m => rfl
  | .negSucc m => by
    have h1 : m % M < M := Nat.mod_lt _ hM
    have h2 : (Int.negSucc m) = -((m : Int) + 1) := by omega
    have e : (modN M (Int.negSucc m) : Int) = (M : Int) - 1 - ((m % M : Nat) : Int) := by
      show ((M - 1 - m % M : Nat) : Int) = _
      omega
    rw [e, h2]
    have h3 : (m : Int) = (M : Int) * ((m / M : Nat) : Int) + ((m % M : Nat) : Int) := by
      have := Nat.div_add_mod m M
      omega
    have h4 : -((m : Int) + 1) = ((M : Int) - 1 - ((m % M : Nat) : Int)) + (M : Int) * (-((m / M : Nat) : Int) - 1) := by
      rw [Int.mul_sub, Int.mul_neg]; omega
    rw [h4, Int.add_mul_emod_self_left, Int.emod_eq_of_lt (by omega) (by omega)]
theorem kM_eqN (k : IntKind) : 2 ^ k.bits = kM k := by cases k <;> rfl
theorem blt_iff (a b : Nat) : Nat.blt a b = decide (a < b) := by
  rw [Bool.eq_iff_iff]; simp [Nat.blt_eq]
def kEq (a b : IntKind) : Bool := Nat.beq a.ctorIdx b.ctorIdx
theorem kEq_iff (a b : IntKind) : kEq a b = decide (a = b) := by cases a <;> cases b <;> rfl

end Go.Sym
end

section
namespace Go.Sym
open Go.RowKit (Below)

structure Blk where
  B : Nat
  O : Nat
  S : Nat

structure Env where
  f : Nat → Option Blk
  n : Nat
  φ : Nat → Nat → Option Value
instance : CoeFun Env (fun _ => Nat → Option Blk) := ⟨Env.f⟩
def Env.sub (ρ ρ' : Env) : Prop := (∀ b x, ρ b = some x → ρ' b = some x) ∧ ∀ B k v, ρ.φ B k = some v → ρ'.φ B k = some v
structure Env.le (ρ ρ' : Env) : Prop where
  sub : ρ.sub ρ'
  top : ρ.n ≤ ρ'.n
  keep : ∀ b, b < ρ.n → ρ b = none → ρ' b = none
theorem Env.sub_refl (ρ : Env) : ρ.sub ρ := ⟨fun _ _ h => h, fun _ _ _ h => h⟩
theorem Env.sub_trans {a b c : Env} (h : a.sub b) (k : b.sub c) : a.sub c := ⟨fun x y e => k.1 x y (h.1 x y e), fun x y z e => k.2 x y z (h.2 x y z e)⟩
theorem Env.le_refl (ρ : Env) : ρ.le ρ := ⟨ρ.sub_refl, Nat.le_refl _, fun _ _ h => h⟩
theorem Env.le_trans {a b c : Env} (h : a.le b) (k : b.le c) : a.le c :=
  ⟨Env.sub_trans h.sub k.sub, Nat.le_trans h.top k.top, fun x hx e => k.keep x (Nat.lt_of_lt_of_le hx h.top) (h.keep x hx e)⟩

inductive Ty where
  | int (k : IntKind)
  | bool
  | str
  | lst (e : List Ty)

@[reducible] def consDen (ts : List Ty) (a b : Type) : Type := match ts with
  | [] => a
  | _ :: _ => a × b
mutual
@[reducible] def Ty.den : Ty → Type
  | .int _ => Int
  | .bool => Bool
  | .str => ByteArray
  | .lst e => List (rowDen e)
@[reducible] def rowDen : List Ty → Type
  | [] => Unit
  | t :: ts => consDen ts t.den (rowDen ts)
end
def Ty.dflt : (t : Ty) → t.den
  | .int _ => (0 : Int)
  | .bool => false
  | .str => (⟨#[]⟩ : ByteArray)
  | .lst e => ([] : List (rowDen e))
def rowDflt : (e : List Ty) → rowDen e
  | [] => ()
  | [t] => t.dflt
  | t :: u :: ts => (t.dflt, rowDflt (u :: ts))
def rowAt (e : List Ty) (L : List (rowDen e)) (i : Nat) : rowDen e := L.getD i (rowDflt e)

inductive V where
  | undef
  | any
  | bool (b : Bool)
  | int (k : IntKind) (n : Int)
  | str (s : ByteArray)
  | nilp
  | nils
  | nilm
  | nilf
  | nili
  | ptr (b o : Nat)
  | rptr (b i j es : Nat)
  | lptr (e : List Ty) (L : List (rowDen e)) (i j : Nat)
  | sl (b o len cap : Nat) (x : Bool) (es : Nat)
  | rs (b lo len cap : Nat) (x : Bool) (es : Nat)
  | lst (e : List Ty) (L : List (rowDen e)) (cl : Bool)
  | arr (e : List Ty) (L : List (rowDen e))
  | map (b : Nat)
  | fn (f : FuncId) (first cap : List V)
  | yld (l : Nat)
  | iface (t : TypeId) (v : V)
  | agg (l : List V)
  | tup (l : List V)
  deriving Inhabited

mutual
def TRel (φ : Nat → Nat → Option Value) : (t : Ty) → t.den → Value → Prop
  | .int k, n, X => X = .int k n
  | .bool, b, X => X = .bool b
  | .str, s, X => X = .string s
  | .lst e, L, X => ∃ a c, X = .slice a (List.length (α := rowDen e) L) c ∧ List.length (α := rowDen e) L ≤ c ∧ (a = none → c = 0) ∧
      (0 < List.length (α := rowDen e) L → ∃ B o, a = some ⟨B, o, none⟩ ∧ ∀ i, i < List.length (α := rowDen e) L → CRel φ e (rowAt e L i) (fun j => φ B (o + i * e.length + j)))
def CRel (φ : Nat → Nat → Option Value) : (e : List Ty) → rowDen e → (Nat → Option Value) → Prop
  | [], _, _ => True
  | [t], x, C => ∃ X, C 0 = some X ∧ TRel φ t x X
  | t :: u :: ts, x, C => (∃ X, C 0 = some X ∧ TRel φ t x.1 X) ∧ CRel φ (u :: ts) x.2 (fun j => C (j + 1))
end
def RowsAt (φ : Nat → Nat → Option Value) (e : List Ty) (L : List (rowDen e)) (C : Nat → Option Value) : Prop := ∀ i, i < L.length → CRel φ e (rowAt e L i) (fun j => C (i * e.length + j))

def subφ (φ φ' : Nat → Nat → Option Value) : Prop := ∀ B k v, φ B k = some v → φ' B k = some v
mutual
theorem TRel.mono {φ φ' : Nat → Nat → Option Value} (h : subφ φ φ') : ∀ (t : Ty) (x : t.den) (X : Value), TRel φ t x X → TRel φ' t x X
  | .int _, _, _, r => by rw [TRel] at r ⊢; exact r
  | .bool, _, _, r => by rw [TRel] at r ⊢; exact r
  | .str, _, _, r => by rw [TRel] at r ⊢; exact r
  | .lst e, L, X, r => by
    rw [TRel] at r ⊢
    obtain ⟨a, c, h1, h2, h3, h4⟩ := r
    refine ⟨a, c, h1, h2, h3, fun hp => ?_⟩
    obtain ⟨B, o, h5, h6⟩ := h4 hp
    exact ⟨B, o, h5, fun i hi => CRel.mono h e _ (fun j v hv => h _ _ _ hv) (h6 i hi)⟩
theorem CRel.mono {φ φ' : Nat → Nat → Option Value} (h : subφ φ φ') : ∀ (e : List Ty) (x : rowDen e) {C C' : Nat → Option Value}, (∀ j v, C j = some v → C' j = some v) → CRel φ e x C → CRel φ' e x C'
  | [], _, _, _, _, _ => by rw [CRel]; trivial
  | [t], x, C, C', hc, r => by
    rw [CRel] at r ⊢
    obtain ⟨X, h1, h2⟩ := r
    exact ⟨X, hc _ _ h1, TRel.mono h t _ _ h2⟩
  | t :: u :: ts, x, C, C', hc, r => by
    rw [CRel] at r ⊢
    obtain ⟨⟨X, h1, h2⟩, h3⟩ := r
    exact ⟨⟨X, hc _ _ h1, TRel.mono h t _ _ h2⟩, CRel.mono h (u :: ts) _ (fun j v hv => hc _ _ hv) h3⟩
end
theorem RowsAt.mono {φ φ' : Nat → Nat → Option Value} (h : subφ φ φ') {e : List Ty} {L : List (rowDen e)} {C C' : Nat → Option Value} (hc : ∀ j v, C j = some v → C' j = some v) (r : RowsAt φ e L C) : RowsAt φ' e L C' :=
  fun i hi => CRel.mono h e _ (fun _ _ hv => hc _ _ hv) (r i hi)

mutual
def VRel (ρ : Env) : V → Value → Prop
  | .undef, W => W = .tuple #[]
  | .any, _ => True
  | .bool b, W => W = .bool b
  | .int k n, W => W = .int k n
  | .str s, W => W = .string s
  | .nilp, W => W = .pointer none
  | .nils, W => W = .slice none 0 0
  | .nilm, W => W = .map none
  | .nilf, W => W = .nilFunc
  | .nili, W => W = .nilIface
  | .ptr b o, W => ∃ B O S, ρ b = some ⟨B, O, S⟩ ∧ W = .pointer (some ⟨B, O + o, none⟩)
  | .rptr b i j es, W => ∃ B O S, ρ b = some ⟨B, O, S⟩ ∧ W = .pointer (some ⟨B, O + i * es + j, none⟩)
  | .lptr e L i j, W => ∃ B o, W = .pointer (some ⟨B, o + i * e.length + j, none⟩) ∧ RowsAt ρ.φ e L (fun k => ρ.φ B (o + k))
  | .sl b o len cap x es, W => ∃ B O S cap', ρ b = some ⟨B, O, S⟩ ∧ W = .slice (some ⟨B, O + o, none⟩) len cap' ∧ len ≤ cap ∧ cap ≤ cap' ∧
      (x = true → cap' = cap) ∧ O + o + cap' * es ≤ S
  | .rs b lo len cap x es, W => ∃ a cap', W = .slice a len cap' ∧ len ≤ cap ∧ cap ≤ cap' ∧ (x = true → cap' = cap) ∧ (a = none → cap' = 0) ∧
      (0 < cap' → ∃ B O S, ρ b = some ⟨B, O, S⟩ ∧ a = some ⟨B, O + lo * es, none⟩ ∧ O + lo * es + cap' * es ≤ S)
  | .lst e L cl, W => ∃ a c, W = .slice a L.length c ∧ L.length ≤ c ∧ (cl = true → c = L.length) ∧ (a = none → c = 0) ∧ (0 < L.length → ∃ B o, a = some ⟨B, o, none⟩ ∧ RowsAt ρ.φ e L (fun k => ρ.φ B (o + k)))
  | .arr e L, W => ∃ A, W = .agg A ∧ A.size = L.length * e.length ∧ RowsAt ρ.φ e L (fun k => A[k]?)
  | .map b, W => ∃ B O S, ρ b = some ⟨B, O, S⟩ ∧ W = .map (some B)
  | .fn f first cap, W => ∃ A C, W = .func (.func f) A C ∧ LRel ρ first A.toList ∧ LRel ρ cap C.toList
  | .yld l, W => ∃ B O S, ρ l = some ⟨B, O, S⟩ ∧ W = .func (.yield B) #[] #[]
  | .iface t v, W => ∃ X, W = .iface t X ∧ VRel ρ v X
  | .agg l, W => ∃ A, W = .agg A ∧ LRel ρ l A.toList
  | .tup l, W => ∃ A, W = .tuple A ∧ LRel ρ l A.toList
def LRel (ρ : Env) : List V → List Value → Prop
  | [], W => W = []
  | v :: l, W => ∃ X Y, W = X :: Y ∧ VRel ρ v X ∧ LRel ρ l Y
end

mutual
theorem VRel.up {ρ ρ' : Env} (h : ρ.sub ρ') : ∀ (v : V) (W : Value), VRel ρ v W → VRel ρ' v W
  | .undef, _, r => by simpa only [VRel] using r
  | .any, _, _ => by simp only [VRel]
  | .bool _, _, r => by simpa only [VRel] using r
  | .int _ _, _, r => by simpa only [VRel] using r
  | .str _, _, r => by simpa only [VRel] using r
  | .nilp, _, r => by simpa only [VRel] using r
  | .nils, _, r => by simpa only [VRel] using r
  | .nilm, _, r => by simpa only [VRel] using r
  | .nilf, _, r => by simpa only [VRel] using r
  | .nili, _, r => by simpa only [VRel] using r
  | .ptr b o, _, r => by simp only [VRel] at r ⊢; obtain ⟨B, O, S, h1, h2⟩ := r; exact ⟨B, O, S, h.1 _ _ h1, h2⟩
  | .rptr .., _, r => by simp only [VRel] at r ⊢; obtain ⟨B, O, S, h1, h2⟩ := r; exact ⟨B, O, S, h.1 _ _ h1, h2⟩
  | .lptr e L i j, _, r => by simp only [VRel] at r ⊢; obtain ⟨B, o, h1, h2⟩ := r; exact ⟨B, o, h1, h2.mono h.2 fun _ _ hv => h.2 _ _ _ hv⟩
  | .sl .., _, r => by simp only [VRel] at r ⊢; obtain ⟨B, O, S, c, h1, h2⟩ := r; exact ⟨B, O, S, c, h.1 _ _ h1, h2⟩
  | .rs .., _, r => by
    simp only [VRel] at r ⊢; obtain ⟨a, c, h1, h2, h3, h4, h6, h5⟩ := r
    exact ⟨a, c, h1, h2, h3, h4, h6, fun hp => let ⟨B, O, S, g1, g2⟩ := h5 hp; ⟨B, O, S, h.1 _ _ g1, g2⟩⟩
  | .lst .., _, r => by
    simp only [VRel] at r ⊢; obtain ⟨a, c, h1, h2, h3, h5, h4⟩ := r
    exact ⟨a, c, h1, h2, h3, h5, fun hp => let ⟨B, o, g1, g2⟩ := h4 hp; ⟨B, o, g1, g2.mono h.2 fun _ _ hv => h.2 _ _ _ hv⟩⟩
  | .arr .., _, r => by simp only [VRel] at r ⊢; obtain ⟨A, h1, h2, h3⟩ := r; exact ⟨A, h1, h2, h3.mono h.2 fun _ _ hv => hv⟩
  | .map b, _, r => by simp only [VRel] at r ⊢; obtain ⟨B, O, S, h1, h2⟩ := r; exact ⟨B, O, S, h.1 _ _ h1, h2⟩
  | .yld b, _, r => by simp only [VRel] at r ⊢; obtain ⟨B, O, S, h1, h2⟩ := r; exact ⟨B, O, S, h.1 _ _ h1, h2⟩
  | .fn f a c, _, r => by
    simp only [VRel] at r ⊢; obtain ⟨A, C, h1, h2, h3⟩ := r; exact ⟨A, C, h1, LRel.up h a _ h2, LRel.up h c _ h3⟩
  | .iface t v, _, r => by simp only [VRel] at r ⊢; obtain ⟨X, h1, h2⟩ := r; exact ⟨X, h1, VRel.up h v _ h2⟩
  | .agg l, _, r => by simp only [VRel] at r ⊢; obtain ⟨X, h1, h2⟩ := r; exact ⟨X, h1, LRel.up h l _ h2⟩
  | .tup l, _, r => by simp only [VRel] at r ⊢; obtain ⟨X, h1, h2⟩ := r; exact ⟨X, h1, LRel.up h l _ h2⟩
theorem LRel.up {ρ ρ' : Env} (h : ρ.sub ρ') : ∀ (l : List V) (W : List Value), LRel ρ l W → LRel ρ' l W
  | [], _, r => by simpa only [LRel] using r
  | v :: l, _, r => by
    simp only [LRel] at r ⊢; obtain ⟨X, Y, h1, h2, h3⟩ := r; exact ⟨X, Y, h1, VRel.up h v _ h2, LRel.up h l _ h3⟩
end

theorem VRel.mono {ρ ρ' : Env} (h : ρ.le ρ') (v : V) (W : Value) (r : VRel ρ v W) : VRel ρ' v W := VRel.up h.sub v W r
theorem LRel.mono {ρ ρ' : Env} (h : ρ.le ρ') (l : List V) (W : List Value) (r : LRel ρ l W) : LRel ρ' l W := LRel.up h.sub l W r
theorem LRel.nil {ρ : Env} : LRel ρ [] [] := rfl
theorem LRel.cons {ρ : Env} {v : V} {l : List V} {X : Value} {Y : List Value} (h : VRel ρ v X) (k : LRel ρ l Y) : LRel ρ (v :: l) (X :: Y) := ⟨X, Y, rfl, h, k⟩
theorem LRel.length {ρ : Env} : ∀ {l : List V} {W : List Value}, LRel ρ l W → l.length = W.length
  | [], _, r => by simp only [LRel] at r; subst r; rfl
  | _ :: _, _, r => by simp only [LRel] at r; obtain ⟨X, Y, rfl, _, h3⟩ := r; simp [LRel.length h3]
theorem LRel.get {ρ : Env} : ∀ {l : List V} {W : List Value}, LRel ρ l W → ∀ {i : Nat} {v : V}, l[i]? = some v → ∃ X, W[i]? = some X ∧ VRel ρ v X
  | [], _, r, i, v, hi => by simp at hi
  | a :: l, _, r, i, v, hi => by
    simp only [LRel] at r; obtain ⟨X, Y, rfl, h2, h3⟩ := r
    cases i with
    | zero => simp at hi; subst hi; exact ⟨X, rfl, h2⟩
    | succ i => simp at hi; simpa using LRel.get h3 hi
theorem LRel.append {ρ : Env} : ∀ {l : List V} {W : List Value} {m : List V} {U : List Value}, LRel ρ l W → LRel ρ m U → LRel ρ (l ++ m) (W ++ U)
  | [], _, _, _, r, k => by simp only [LRel] at r; subst r; exact k
  | a :: l, _, _, _, r, k => by
    simp only [LRel] at r; obtain ⟨X, Y, rfl, h2, h3⟩ := r
    exact LRel.cons h2 (LRel.append h3 k)
theorem LRel.set {ρ : Env} : ∀ {l : List V} {W : List Value}, LRel ρ l W → ∀ {i : Nat} {v : V} {X : Value}, VRel ρ v X → LRel ρ (l.set i v) (W.set i X)
  | [], _, r, i, v, X, hv => by simp only [LRel] at r; subst r; exact LRel.nil
  | a :: l, _, r, i, v, X, hv => by
    simp only [LRel] at r; obtain ⟨Y, Z, rfl, h2, h3⟩ := r
    cases i with
    | zero => exact LRel.cons hv h3
    | succ i => exact LRel.cons h2 (LRel.set h3 hv)
theorem LRel.take {ρ : Env} : ∀ {l : List V} {W : List Value}, LRel ρ l W → ∀ n, LRel ρ (l.take n) (W.take n)
  | [], _, r, n => by simp only [LRel] at r; subst r; simp [LRel.nil]
  | a :: l, _, r, n => by
    simp only [LRel] at r; obtain ⟨X, Y, rfl, h2, h3⟩ := r
    cases n with
    | zero => exact LRel.nil
    | succ n => exact LRel.cons h2 (LRel.take h3 n)
theorem LRel.drop {ρ : Env} : ∀ {l : List V} {W : List Value}, LRel ρ l W → ∀ n, LRel ρ (l.drop n) (W.drop n)
  | [], _, r, n => by simp only [LRel] at r; subst r; simp [LRel.nil]
  | a :: l, _, r, n => by
    simp only [LRel] at r; obtain ⟨X, Y, rfl, h2, h3⟩ := r
    cases n with
    | zero => exact LRel.cons h2 h3
    | succ n => exact LRel.drop h3 n
theorem LRel.replicate {ρ : Env} {v : V} {X : Value} (h : VRel ρ v X) : ∀ n, LRel ρ (List.replicate n v) (List.replicate n X)
  | 0 => LRel.nil
  | n + 1 => LRel.cons h (LRel.replicate h n)
theorem LRel.of_get {ρ : Env} : ∀ {l : List V} {W : List Value}, l.length = W.length → (∀ (i : Nat) (v : V), l[i]? = some v → ∃ X, W[i]? = some X ∧ VRel ρ v X) → LRel ρ l W
  | [], [], _, _ => LRel.nil
  | [], _ :: _, h, _ => by simp at h
  | a :: l, [], h, _ => by simp at h
  | a :: l, X :: Y, h, hg => by
    obtain ⟨X', h1, h2⟩ := hg 0 a rfl
    simp at h1; subst h1
    exact LRel.cons h2 (LRel.of_get (by simpa using h) fun i v hi => by simpa using hg (i + 1) v (by simpa using hi))

structure Frm where
  n : Nat
  t : B V
def FRel (ρ : Env) (f : Frm) (A : Array Value) : Prop :=
  f.n = A.size ∧ ∃ d, f.t.full d ∧ f.n ≤ 2 ^ d ∧ ∀ (i : Nat) (X : Value), A[i]? = some X → VRel ρ (f.t.get i) X
theorem FRel.up {ρ ρ' : Env} (h : ρ.sub ρ') {f : Frm} {A : Array Value} (r : FRel ρ f A) : FRel ρ' f A := by
  obtain ⟨h1, d, h2, h3, h4⟩ := r
  exact ⟨h1, d, h2, h3, fun i X hi => VRel.up h _ _ (h4 i X hi)⟩
theorem FRel.mono {ρ ρ' : Env} (h : ρ.le ρ') {f : Frm} {A : Array Value} (r : FRel ρ f A) : FRel ρ' f A := r.up h.sub

def toV : (t : Ty) → t.den → V
  | .int k, n => .int k n
  | .bool, b => .bool b
  | .str, s => .str s
  | .lst e, L => .lst e L false
def pmV (k t : Ty) (M : List (k.den × t.den × Nat)) : List (V × V × Nat) := M.map fun m => (toV k m.1, toV t m.2.1, m.2.2)

structure ELoop where
  state : LoopState
  pending : Option Code
  tmps : Frm
  params : List Tmp
  assign : Code
  body : Code
  defers : Nat

inductive EObj where
  | cells (cs : List V) (t : TypeId) (ish : Bool)
  | map (es : List (V × V × Nat)) (clock : Nat)
  | loop (r : ELoop)
  | dfr (shut : Bool)
  | rows (e : List Ty) (L : List (rowDen e)) (t : TypeId) (ish : Bool)
  | pm (k t : Ty) (M : List (k.den × t.den × Nat)) (clock : Nat)
  | mit (m since : Nat) (seen : List Nat) (clock : Nat)

structure St where
  heap : T EObj
  next : Nat

def MRel (ρ : Env) : List (V × V × Nat) → List MapEntry → Prop
  | [], E => E = []
  | e :: l, E => ∃ x y, E = x :: y ∧ VRel ρ e.1 x.key ∧ VRel ρ e.2.1 x.val ∧ e.2.2 = x.born ∧ MRel ρ l y
theorem MRel.up {ρ ρ' : Env} (h : ρ.sub ρ') : ∀ {l : List (V × V × Nat)} {E : List MapEntry}, MRel ρ l E → MRel ρ' l E
  | [], _, r => r
  | _ :: _, _, r => by
    simp only [MRel] at r ⊢; obtain ⟨x, y, h1, h2, h3, h4, h5⟩ := r
    exact ⟨x, y, h1, VRel.up h _ _ h2, VRel.up h _ _ h3, h4, MRel.up h h5⟩
theorem MRel.mono {ρ ρ' : Env} (h : ρ.le ρ') {l : List (V × V × Nat)} {E : List MapEntry} (r : MRel ρ l E) : MRel ρ' l E := MRel.up h.sub r

def ORel (ρ : Env) (O S : Nat) (X : Option Obj) : EObj → Prop
  | .cells cs _ ish => ∃ C t fr, X = some (.cells C t fr) ∧ C.size = S ∧ O + cs.length ≤ S ∧
      (∀ (i : Nat) (v : V), cs[i]? = some v → ∃ W, C[O + i]? = some W ∧ VRel ρ v W) ∧ (∀ k, k < S → (decide (fr.1 ≤ k) && decide (k < fr.2)) = false) ∧ (ish = false → fr = (0, 0))
  | .map es clock => ∃ E, X = some (.map E clock) ∧ MRel ρ es E.toList
  | .pm k t M clock => ∃ E, X = some (.map E clock) ∧ MRel ρ (pmV k t M) E.toList
  | .mit m since seen clock => O = 0 ∧ ∃ y, ρ m = some y ∧ X = some (.mapIter (some y.B) since seen.reverse.toArray clock)
  | .loop r => ∃ L D, X = some (.loop L) ∧ L.state = r.state ∧ L.pending = r.pending ∧ FRel ρ r.tmps L.tmps ∧ L.params.toList = r.params ∧
      L.assign = r.assign ∧ L.body = r.body ∧ ρ r.defers = some D ∧ L.defers = D.B
  | .dfr shut => X = some (.deferred (if shut then none else some []))
  | .rows e L _ ish => ∃ C t fr, X = some (.cells C t fr) ∧ C.size = S ∧ O + L.length * e.length ≤ S ∧ RowsAt ρ.φ e L (fun k => C[O + k]?) ∧
      (∀ k, k < S → (decide (fr.1 ≤ k) && decide (k < fr.2)) = false) ∧ (ish = false → fr = (0, 0))
theorem ORel.up {ρ ρ' : Env} (h : ρ.sub ρ') {O S : Nat} {X : Option Obj} : ∀ {o : EObj}, ORel ρ O S X o → ORel ρ' O S X o
  | .cells .., r => by
    obtain ⟨C, t, fr, h1, h2, h3, h4, h5⟩ := r
    exact ⟨C, t, fr, h1, h2, h3, fun i v hi => let ⟨W, a, b⟩ := h4 i v hi; ⟨W, a, VRel.up h _ _ b⟩, h5⟩
  | .map .., r => by obtain ⟨E, h1, h2⟩ := r; exact ⟨E, h1, MRel.up h h2⟩
  | .pm .., r => by obtain ⟨E, h1, h2⟩ := r; exact ⟨E, h1, MRel.up h h2⟩
  | .mit .., r => by obtain ⟨h0, y, h1, h2⟩ := r; exact ⟨h0, y, h.1 _ _ h1, h2⟩
  | .loop _, r => by
    obtain ⟨L, D, h1, h2, h3, h4, h5, h6, h7, h8, h9⟩ := r
    exact ⟨L, D, h1, h2, h3, h4.up h, h5, h6, h7, h.1 _ _ h8, h9⟩
  | .dfr _, r => r
  | .rows .., r => by obtain ⟨C, t, fr, h1, h2, h3, h4, h5⟩ := r; exact ⟨C, t, fr, h1, h2, h3, h4.mono h.2 fun _ _ hv => hv, h5⟩
theorem ORel.mono {ρ ρ' : Env} (h : ρ.le ρ') {O S : Nat} {X : Option Obj} {o : EObj} (r : ORel ρ O S X o) : ORel ρ' O S X o := ORel.up h.sub r

structure Own where
  p : Nat → Prop
  φ : Nat → Nat → Option Value
instance : CoeFun Own (fun _ => Nat → Prop) := ⟨Own.p⟩
structure Fr (own : Own) (w w' : World) : Prop where
  os : w'.os = w.os
  tape : w'.tape = w.tape
  output : w'.output = w.output
  size : w.heap.size ≤ w'.heap.size
  block : ∀ k, ¬ own k → w'.heap[k]? = w.heap[k]?
theorem Fr.refl (own : Own) (w : World) : Fr own w w := ⟨rfl, rfl, rfl, Nat.le_refl _, fun _ _ => rfl⟩
theorem Fr.trans {own : Own} {a b c : World} (h : Fr own a b) (k : Fr own b c) : Fr own a c :=
  ⟨k.os.trans h.os, k.tape.trans h.tape, k.output.trans h.output, Nat.le_trans h.size k.size, fun i hi => (k.block i hi).trans (h.block i hi)⟩

structure SRel (own : Own) (ρ : Env) (s : St) (w : World) : Prop where
  le : ∀ B, w.heap.size ≤ B → own B
  obj : ∀ b o x, s.heap.get b = some o → ρ b = some x → (own x.B ∧ ∀ k, ρ.φ x.B k = none) ∧ ORel ρ x.O x.S w.heap[x.B]? o
  inj : ∀ b b' o o' x x', s.heap.get b = some o → s.heap.get b' = some o' → ρ b = some x → ρ b' = some x' → b ≠ b' → x.B ≠ x'.B
  dom : ∀ b x, ρ b = some x → b < s.next
  top : ρ.n ≤ s.next
  fz : ∀ B k v, ρ.φ B k = some v → w.cell? ⟨B, k, none⟩ = some v
  old : ∀ B k, ¬ own B → ρ.φ B k = own.φ B k
section
variable {own : Own}
theorem SRel.obj' {ρ : Env} {s : St} {w : World} (h : SRel own ρ s w) {b : Nat} {o : EObj} (hb : s.heap.get b = some o) {x : Blk} (hx : ρ b = some x) :
    ∃ y, ρ b = some y ∧ (own y.B ∧ ∀ k, ρ.φ y.B k = none) ∧ ORel ρ y.O y.S w.heap[y.B]? o := ⟨x, hx, h.obj b o x hb hx⟩
theorem SRel.φnew {ρ : Env} {s : St} {w : World} (h : SRel own ρ s w) (k : Nat) : ρ.φ w.heap.size k = none := by
  cases e : ρ.φ w.heap.size k with
  | none => rfl
  | some v => have := h.fz _ _ _ e; simp [World.cell?] at this

theorem ORel.ne_none {ρ : Env} {O S : Nat} {X : Option Obj} {o : EObj} (h : ORel ρ O S X o) : X ≠ none := by
  cases o with
  | cells => obtain ⟨_, _, _, h, _⟩ := h; simp [h]
  | map => obtain ⟨_, h, _⟩ := h; simp [h]
  | pm => obtain ⟨_, h, _⟩ := h; simp [h]
  | mit => obtain ⟨_, _, _, h⟩ := h; simp [h]
  | loop => obtain ⟨_, _, h, _⟩ := h; simp [h]
  | dfr => intro e; rw [ORel] at h; rw [h] at e; cases e
  | rows => obtain ⟨_, _, _, h, _⟩ := h; simp [h]

theorem SRel.lt {ρ : Env} {s : St} {w : World} (h : SRel own ρ s w) {b : Nat} {o : EObj} {x : Blk} (hb : s.heap.get b = some o) (hx : ρ b = some x) : x.B < w.heap.size := by
  obtain ⟨y, h1, _, h3⟩ := h.obj' hb hx
  rw [hx] at h1
  cases h1
  exact Nat.lt_of_not_le fun hle => h3.ne_none (Array.getElem?_eq_none hle)

def Env.put (ρ : Env) (b : Nat) (x : Blk) : Env := ⟨fun k => if k = b then some x else ρ k, max ρ.n (b + 1), ρ.φ⟩
theorem Env.sub_put {ρ : Env} {b : Nat} (x : Blk) (h : ρ b = none) : ρ.sub (ρ.put b x) := ⟨fun k y e => by
  simp only [Env.put]; split
  · subst k; rw [h] at e; cases e
  · exact e, fun _ _ _ e => e⟩
theorem Env.le_put {ρ : Env} {b : Nat} (x : Blk) (h : ρ b = none ∧ ρ.n ≤ b) : ρ.le (ρ.put b x) :=
  ⟨Env.sub_put x h.1, Nat.le_max_left _ _, fun k hk e => by
    simp only [Env.put]; rw [if_neg (by omega)]; exact e⟩
theorem Env.put_same {ρ : Env} {b : Nat} {x : Blk} : ρ.put b x b = some x := by simp [Env.put]
theorem Env.put_ne {ρ : Env} {b k : Nat} {x : Blk} (h : k ≠ b) : ρ.put b x k = ρ k := by simp [Env.put, h]

theorem SRel.fresh {ρ : Env} {s : St} {w : World} (h : SRel own ρ s w) : ρ s.next = none ∧ ρ.n ≤ s.next := by
  refine ⟨?_, h.top⟩
  cases e : ρ s.next with
  | none => rfl
  | some x => exact absurd (h.dom _ _ e) (Nat.lt_irrefl _)

noncomputable def St.new (s : St) (o : EObj) : St := ⟨s.heap.set s.next (some o), s.next + 1⟩
noncomputable def St.upd (s : St) (b : Nat) (o : EObj) : St := ⟨s.heap.set b (some o), s.next⟩

theorem cell_of_block {w w' : World} {B k : Nat} (h : w'.heap[B]? = w.heap[B]?) : w'.cell? ⟨B, k, none⟩ = w.cell? ⟨B, k, none⟩ := by
  simp only [World.cell?, h]
theorem SRel.fz_of {ρ : Env} {s : St} {w w' : World} (h : SRel own ρ s w) (hh : ∀ B, (∀ k, w.cell? ⟨B, k, none⟩ = none) ∨ (∀ k, ρ.φ B k = none) ∨ w'.heap[B]? = w.heap[B]?) :
    ∀ B k v, ρ.φ B k = some v → w'.cell? ⟨B, k, none⟩ = some v := by
  intro B k v e
  rcases hh B with h1 | h1 | h1
  · have := h.fz B k v e; rw [h1] at this; cases this
  · rw [h1] at e; cases e
  · rw [cell_of_block h1]; exact h.fz B k v e

theorem SRel.new {ρ : Env} {s : St} {w w' : World} (h : SRel own ρ s w) (o : EObj) (X : Obj) (S : Nat) (hw : w'.heap = w.heap.push X)
    (ho : ORel (ρ.put s.next ⟨w.heap.size, 0, S⟩) 0 S (some X) o) :
    SRel own (ρ.put s.next ⟨w.heap.size, 0, S⟩) (s.new o) w' := by
  have hle := Env.le_put ⟨w.heap.size, 0, S⟩ h.fresh
  refine ⟨fun B hB => h.le B (by rw [hw] at hB; simp at hB; omega), ?_, ?_, ?_, by simp only [Env.put, St.new]; have := h.top; omega, ?_, h.old⟩
  · intro b o' y hb hy
    simp only [St.new, T.get_set] at hb
    split at hb
    · rename_i e; subst e; cases hb
      rw [Env.put_same] at hy; cases hy
      exact ⟨⟨h.le _ (Nat.le_refl _), h.φnew⟩, by rw [hw]; simpa using ho⟩
    · rename_i e
      rw [Env.put_ne e] at hy
      obtain ⟨x, h1, h2, h3⟩ := h.obj' hb hy
      rw [hy] at h1; cases h1
      have hlt := h.lt hb hy
      refine ⟨h2, ?_⟩
      rw [hw, Array.getElem?_push, if_neg (by omega)]
      exact h3.mono hle
  · intro b b' o1 o2 x x' hb hb' hx hx' hne
    simp only [St.new, T.get_set] at hb hb'
    simp only [Env.put] at hx hx'
    by_cases e : b = s.next
    · subst e
      have e' : b' ≠ s.next := fun e => hne e.symm
      simp only [e', if_false] at hb' hx'
      simp only [if_true] at hx
      cases hx
      have := h.lt hb' hx'
      simp only; omega
    · simp only [e, if_false] at hb hx
      by_cases e' : b' = s.next
      · subst e'
        simp only [if_true] at hx'
        cases hx'
        have := h.lt hb hx
        simp only; omega
      · simp only [e', if_false] at hb' hx'
        exact h.inj b b' o1 o2 x x' hb hb' hx hx' hne
  · intro b x hx
    simp only [Env.put] at hx
    show b < s.next + 1
    split at hx
    · omega
    · have := h.dom b x hx; omega
  · refine SRel.fz_of (own := own) (ρ := ρ) (s := s) (w := w) h fun B => ?_
    rcases Nat.lt_or_ge B w.heap.size with hB | hB
    · exact .inr (.inr (by rw [hw, Array.getElem?_push, if_neg (by omega)]))
    · exact .inl fun k => by simp [World.cell?, Array.getElem?_eq_none hB]

theorem SRel.upd {ρ : Env} {s : St} {w w' : World} (h : SRel own ρ s w) {b : Nat} {o : EObj} {x : Blk} (hb : s.heap.get b = some o) (hx : ρ b = some x)
    (o1 : EObj) (X : Obj) (hw : w'.heap = w.heap.setIfInBounds x.B X) (ho : ORel ρ x.O x.S (some X) o1) : SRel own ρ (s.upd b o1) w' := by
  have hlt := h.lt hb hx
  refine ⟨by rw [hw]; simpa using h.le, ?_, ?_, h.dom, h.top, ?_, h.old⟩
  · intro b' o' y hb' hy
    simp only [St.upd, T.get_set] at hb'
    split at hb'
    · rename_i e; subst e; cases hb'
      obtain ⟨h2, _⟩ := h.obj _ _ _ hb hx
      rw [hx] at hy; cases hy
      exact ⟨h2, by rw [hw]; simpa [hlt] using ho⟩
    · rename_i e
      have h1 := hy
      obtain ⟨h2, h3⟩ := h.obj b' o' y hb' hy
      refine ⟨h2, ?_⟩
      have := h.inj b' b _ _ y x hb' hb h1 hx e
      rw [hw, Array.getElem?_setIfInBounds_ne (fun k => this k.symm)]
      exact h3
  · intro b1 b2 o1' o2' x1 x2 h1 h2 hx1 hx2 hne
    simp only [St.upd, T.get_set] at h1 h2
    have g : ∀ k v, (if k = b then some o1 else s.heap.get k) = some v → ∃ v', s.heap.get k = some v' := by
      intro k v hk
      split at hk
      · rename_i e; subst e; exact ⟨_, hb⟩
      · exact ⟨_, hk⟩
    obtain ⟨v1, g1⟩ := g _ _ h1
    obtain ⟨v2, g2⟩ := g _ _ h2
    exact h.inj b1 b2 v1 v2 x1 x2 g1 g2 hx1 hx2 hne
  · refine SRel.fz_of (own := own) (ρ := ρ) (s := s) (w := w) h fun B => ?_
    by_cases e : x.B = B
    · exact .inr (.inl (e ▸ (h.obj _ _ _ hb hx).1.2))
    · exact .inr (.inr (by rw [hw, Array.getElem?_setIfInBounds_ne e]))

theorem SRel.fill {ρ : Env} {s : St} {w w' : World} (h : SRel own ρ s w) {b : Nat} {o : EObj} (hb : s.heap.get b = some o) (hn : ρ b = none) (hlt : b < s.next) (X : Obj) (S : Nat) (hw : w'.heap = w.heap.push X)
    (ho : ORel (ρ.put b ⟨w.heap.size, 0, S⟩) 0 S (some X) o) : SRel own (ρ.put b ⟨w.heap.size, 0, S⟩) s w' := by
  have hle := Env.sub_put ⟨w.heap.size, 0, S⟩ hn
  refine ⟨fun B hB => h.le B (by rw [hw] at hB; simp at hB; omega), ?_, ?_, ?_, by simp only [Env.put]; have := h.top; omega, ?_, h.old⟩
  · intro k o' y hk hy
    by_cases e : k = b
    · subst e
      rw [hb] at hk; cases hk
      rw [Env.put_same] at hy; cases hy
      exact ⟨⟨h.le _ (Nat.le_refl _), h.φnew⟩, by rw [hw]; simpa using ho⟩
    · rw [Env.put_ne e] at hy
      obtain ⟨h2, h3⟩ := h.obj k o' y hk hy
      have hl := h.lt hk hy
      refine ⟨h2, ?_⟩
      rw [hw, Array.getElem?_push, if_neg (by omega)]
      exact h3.up hle
  · intro k k' o1 o2 x x' hk hk' hx hx' hne
    by_cases e : k = b
    · subst e
      have e' : k' ≠ k := fun e => hne e.symm
      rw [Env.put_same] at hx; cases hx
      rw [Env.put_ne e'] at hx'
      have := h.lt hk' hx'
      simp only; omega
    · rw [Env.put_ne e] at hx
      by_cases e' : k' = b
      · subst e'
        rw [Env.put_same] at hx'; cases hx'
        have := h.lt hk hx
        simp only; omega
      · rw [Env.put_ne e'] at hx'
        exact h.inj k k' o1 o2 x x' hk hk' hx hx' hne
  · intro k x hx
    by_cases e : k = b
    · subst e; exact hlt
    · rw [Env.put_ne e] at hx; exact h.dom k x hx
  · refine SRel.fz_of (own := own) (ρ := ρ) (s := s) (w := w) h fun B => ?_
    rcases Nat.lt_or_ge B w.heap.size with hB | hB
    · exact .inr (.inr (by rw [hw, Array.getElem?_push, if_neg (by omega)]))
    · exact .inl fun k => by simp [World.cell?, Array.getElem?_eq_none hB]

theorem SRel.ahead {ρ : Env} {s s1 : St} {w : World} (h : SRel own ρ s w) (h1 : ∀ b, b < s.next → s1.heap.get b = s.heap.get b) (h2 : s.next ≤ s1.next) : SRel own ⟨ρ.f, s1.next, ρ.φ⟩ s1 w := by
  have key : ∀ k o x, s1.heap.get k = some o → ρ k = some x → s.heap.get k = some o := fun k o x hk hx => by rw [← h1 k (h.dom k x hx)]; exact hk
  have hsub : ρ.sub ⟨ρ.f, s1.next, ρ.φ⟩ := ⟨fun _ _ e => e, fun _ _ _ e => e⟩
  refine ⟨h.le, fun k o x hk hx => ?_, fun k k' o1 o2 x x' hk hk' hx hx' hne => h.inj k k' o1 o2 x x' (key k o1 x hk hx) (key k' o2 x' hk' hx') hx hx' hne, fun k x hx => Nat.lt_of_lt_of_le (h.dom k x hx) h2, Nat.le_refl _, h.fz, h.old⟩
  obtain ⟨g1, g2⟩ := h.obj k o x (key k o x hk hx) hx
  exact ⟨g1, g2.up hsub⟩

theorem SRel.same {ρ : Env} {s : St} {w w' : World} (h : SRel own ρ s w) (hw : w'.heap = w.heap) : SRel own ρ s w' :=
  ⟨by rw [hw]; exact h.le, by rw [hw]; exact h.obj, h.inj, h.dom, h.top, fun B k v e => by rw [cell_of_block (w := w) (by rw [hw])]; exact h.fz B k v e, h.old⟩

theorem fr_new {w w' : World} {X : Obj} (h : ∀ B, w.heap.size ≤ B → own B) (hw : w' = { w with heap := w.heap.push X }) : Fr own w w' := by
  subst hw
  refine ⟨rfl, rfl, rfl, by simp, fun k hk => ?_⟩
  simp only [Array.getElem?_push]
  rw [if_neg (fun e => hk (h k (by omega)))]
theorem fr_set {w w' : World} {B : Nat} {X : Obj} (h : own B) (hw : w' = { w with heap := w.heap.setIfInBounds B X }) : Fr own w w' := by
  subst hw
  refine ⟨rfl, rfl, rfl, by simp, fun k hk => ?_⟩
  simp only
  rw [Array.getElem?_setIfInBounds_ne (fun e => hk (by rw [← e]; exact h))]
end
end Go.Sym
end
