/-
  Texts of this claim, one behind the other: SymF SymG SymH SymI SymJ. Each says its own conditions.
-/
import Derived.Test.YtaloolcabmfjbaaCdrM1

set_option linter.unusedVariables false
set_option linter.unusedSimpArgs false
set_option linter.unusedSectionVars false
noncomputable section
namespace Go.Sym

section
variable {P : Program} {own : Own} {ρ : Env} {s : St} {w : World}

def OptRel (ρ : Env) : Option V → Option Value → Prop
 | none, X => X = none
 | some v, X => ∃ W, X = some W ∧ VRel ρ v W

theorem optO_rel {ev : Operand → Option V} {A : Act} (hA : EvRel ρ ev A) {x : Option Operand} {v : Option V} (h : optO ev x = some v) : OptRel ρ v (x.map A.eval) := by
 unfold optO at h
 split at h
 ·cases h; rfl
 ·split at h
  ·rename_i hv; cases h; exact ⟨_, rfl, evalO_rel hA hv⟩
  ·cases h

theorem boundE_rel {v : Option V} {d n : Nat} {c : List Bool} (h : boundE v d = some (c, n)) (hc : allB c) {X : Option Value} (hx : OptRel ρ v X) : (X = none ∧ v = none ∧ n = d) ∨ ∃ k, X = some (.int k (n : Int)) := by
 unfold boundE at h
 split at h
 ·cases h; exact .inl ⟨hx, rfl, rfl⟩
 ·obtain ⟨W, rfl, hw⟩ := hx
  obtain ⟨k, rfl⟩ := natOf_rel h hc hw
  exact .inr ⟨k, rfl⟩

theorem run_sliceBound {k : IntKind} {n y : Nat} {c : BoundsCode} (h : n ≤ y) : (Instr.sliceBound (.int k (n : Int)) y c).run P w = .ok n w := by
 simp [Instr.sliceBound, run_asIntOf, h]

theorem run_bounds {b : Bool} {len cap l h : Nat} {LO HI : Option Value} (hlo : (LO = none ∧ l = 0) ∨ ∃ k, LO = some (.int k (l : Int))) (hhi : (HI = none ∧ h = len) ∨ ∃ k, HI = some (.int k (h : Int)))
  (h1 : l ≤ h) (h2 : h ≤ cap) : (Instr.sliceBounds b len cap LO HI none).run P w = .ok (l, h, cap) w := by
 rcases hlo with ⟨rfl, rfl⟩ | ⟨k, rfl⟩ <;> rcases hhi with ⟨rfl, rfl⟩ | ⟨k', rfl⟩ <;>
  simp [Instr.sliceBounds, run_sliceBound h2, run_sliceBound h1]

theorem run_bounds3 {b : Bool} {len cap l h m : Nat} {LO : Option Value} (hlo : (LO = none ∧ l = 0) ∨ ∃ k, LO = some (.int k (l : Int))) {k k' : IntKind}
  (h1 : l ≤ h) (h2 : h ≤ m) (h3 : m ≤ cap) : (Instr.sliceBounds b len cap LO (some (.int k (h : Int))) (some (.int k' (m : Int)))).run P w = .ok (l, h, m) w := by
 rcases hlo with ⟨rfl, rfl⟩ | ⟨k, rfl⟩ <;> simp [Instr.sliceBounds, run_sliceBound h3, run_sliceBound h2, run_sliceBound h1]

theorem rows_drop {φ : Nat → Nat → Option Value} {e : List Ty} {L : List (rowDen e)} {C : Nat → Option Value} (l h : Nat) (hh : h ≤ L.length) (hr : RowsAt φ e L C) : RowsAt φ e ((L.take h).drop l) (fun k => C (l * e.length + k)) := by
 intro i hi
 simp at hi
 have h1 := hr (l + i) (by omega)
 have h2 : rowAt e ((L.take h).drop l) i = rowAt e L (l + i) := by
  simp only [rowAt, List.getD_eq_getElem?_getD, List.getElem?_drop]
  rw [List.getElem?_take_of_lt (by omega)]
 rw [h2]
 simpa [Nat.add_mul, Nat.add_assoc] using h1

theorem qSlice_rel (h : SRel own ρ s w) {t : TypeId} {a v : V} {lo hi mx : Option V} {ps : List Bool} (hq : qSlice P s t a lo hi mx = some (ps, v)) (hp : allB ps) {A : Value} {LO HI MX : Option Value}
  (ha : VRel ρ a A) (hlo : OptRel ρ lo LO) (hhi : OptRel ρ hi HI) (hmx : OptRel ρ mx MX) : ∃ X, (Instr.sliceAt t A LO HI MX).run P w = .ok X w ∧ VRel ρ v X := by
 unfold qSlice at hq
 split at hq
 ·cases hq
 rename_i cl l hl
 split at hq
 ·rename_i hd
  split at hq
  ·rename_i x
   have hmx : MX = none := hmx
   subst hmx
   split at hq
   ·rename_i ch hh hhe
    cases hq
    simp only [allB_append] at hp
    obtain ⟨p1, p2, p3, p4, _⟩ := hp
    have hL : (LO = none ∧ l = 0) ∨ ∃ k, LO = some (.int k (l : Int)) := (boundE_rel hl p1 hlo).imp (fun x => ⟨x.1, x.2.2⟩) id
    have hH : (HI = none ∧ hh = x.size) ∨ ∃ k, HI = some (.int k (hh : Int)) := (boundE_rel hhe p2 hhi).imp (fun x => ⟨x.1, x.2.2⟩) id
    simp only [decide_eq_true_eq] at p3 p4
    simp only [VRel] at ha; subst ha
    rw [cutS_eq]
    refine ⟨_, ?_, vstr _⟩
    simp [Instr.sliceAt, run_und hd, Instr.slice, run_bounds (b := false) hL hH p3 p4]
   ·cases hq
  ·cases hq
 ·rename_i e hd
  split at hq
  ·cases hq
  rename_i sz hsz
  split at hq
  ·-- nil
   split at hq
   ·rename_i ch hh hhe
    cases hq
    have hmx : MX = none := hmx
    subst hmx
    simp only [allB_append] at hp
    obtain ⟨p1, p2, p3, p4, _⟩ := hp
    simp only [decide_eq_true_eq] at p3 p4
    have hL : (LO = none ∧ l = 0) ∨ ∃ k, LO = some (.int k (l : Int)) := (boundE_rel hl p1 hlo).imp (fun x => ⟨x.1, x.2.2⟩) id
    have hH : (HI = none ∧ hh = 0) ∨ ∃ k, HI = some (.int k (hh : Int)) := (boundE_rel hhe p2 hhi).imp (fun x => ⟨x.1, x.2.2⟩) id
    simp only [VRel] at ha; subst ha
    have e1 : hh = 0 := by omega
    have e2 : l = 0 := by omega
    subst e1; subst e2
    refine ⟨.slice none 0 0, ?_, by simp only [VRel]⟩
    simp [Instr.sliceAt, run_und hd, Instr.slice, run_size hsz, run_bounds (P := P) (w := w) (b := true) (cap := 0) hL hH (Nat.le_refl 0) (Nat.le_refl 0)]
   ·cases hq
  ·rename_i b lo' len cap x es
   cases hse : Nat.beq sz es with
   | false => simp [hse] at hq
   | true =>
   have hse' : sz = es := by simpa using hse
   subst hse'
   simp only [hse, Bool.not_true, cond_false] at hq
   split at hq
   ·cases hq
   rename_i ch hh hhe
   simp only [VRel] at ha
   obtain ⟨a, cap', rfl, c1, c2, c3, c4, c5⟩ := ha
   split at hq
   ·have hmx : MX = none := hmx
    subst hmx
    cases hq
    simp only [allB_append] at hp
    obtain ⟨p1, p2, p3, p4, _⟩ := hp
    simp only [decide_eq_true_eq] at p3 p4
    have hL : (LO = none ∧ l = 0) ∨ ∃ k, LO = some (.int k (l : Int)) := (boundE_rel hl p1 hlo).imp (fun x => ⟨x.1, x.2.2⟩) id
    have hH : (HI = none ∧ hh = len) ∨ ∃ k, HI = some (.int k (hh : Int)) := (boundE_rel hhe p2 hhi).imp (fun x => ⟨x.1, x.2.2⟩) id
    have hrun := run_bounds (P := P) (w := w) (b := true) (cap := cap') hL hH p3 (by omega)
    cases a with
    | none =>
     have := c4 rfl; subst this
     refine ⟨.slice none 0 0, ?_, ?_⟩
     ·have e1 : hh = 0 := by omega
      have e2 : l = 0 := by omega
      subst e1; subst e2
      simp [Instr.sliceAt, run_und hd, Instr.slice, run_size hsz, hrun]
     ·simp only [VRel]
      refine ⟨none, 0, by congr 1; omega, by omega, by omega, fun _ => (by omega), fun _ => rfl, fun h => absurd h (Nat.lt_irrefl _)⟩
    | some ad =>
     refine ⟨.slice (if cap' = l then some ad else some (ad.add (l * sz))) (hh - l) (cap' - l), by simp [Instr.sliceAt, run_und hd, Instr.slice, run_size hsz, hrun], ?_⟩
     simp only [VRel]
     refine ⟨_, _, rfl, by omega, by omega, fun hx => (by rw [c3 hx]), fun hn => ?_, fun hp => ?_⟩
     ·split at hn <;> cases hn
     ·have h0 : 0 < cap' := by omega
      have hne : ¬ cap' = l := by omega
      have hlc : l + (cap' - l) = cap' := by omega
      have hmul : l * sz + (cap' - l) * sz = cap' * sz := by rw [← Nat.add_mul, hlc]
      obtain ⟨B, O, S, g1, g2, g3⟩ := c5 h0
      cases g2
      refine ⟨B, O, S, g1, by rw [if_neg hne, addr_add, Nat.add_mul, Nat.add_assoc], ?_⟩
      rw [Nat.add_mul]; omega
   ·rename_i mv hv
    split at hq
    ·rename_i cm m hm
     obtain ⟨W, rfl, hW⟩ := hmx
     cases hq
     simp only [allB_append] at hp
     obtain ⟨p1, p2, p3, p4, p5, p6, _⟩ := hp
     simp only [decide_eq_true_eq] at p4 p5 p6
     have hL : (LO = none ∧ l = 0) ∨ ∃ k, LO = some (.int k (l : Int)) := (boundE_rel hl p1 hlo).imp (fun x => ⟨x.1, x.2.2⟩) id
     have hH : (HI = none ∧ hh = len) ∨ ∃ k, HI = some (.int k (hh : Int)) := (boundE_rel hhe p2 hhi).imp (fun x => ⟨x.1, x.2.2⟩) id
     obtain ⟨k', rfl⟩ := natOf_rel hm p3 hW
     rcases hH with ⟨rfl, _⟩ | ⟨k, rfl⟩
     ·obtain ⟨_, hh', _⟩ := hhi; cases hh'
     cases a with
     | none =>
      have := c4 rfl; subst this
      have hrun := run_bounds3 (P := P) (w := w) (b := true) (cap := 0) (len := len) (k := k) (k' := k') hL p4 p5 (by omega)
      have e0 : m = 0 := by omega
      have e1 : hh = 0 := by omega
      have e2 : l = 0 := by omega
      have e3 : len = 0 := by omega
      subst e0; subst e1; subst e2; subst e3
      have hrun : (Instr.sliceBounds true 0 0 LO (some (.int k 0)) (some (.int k' 0))).run P w = .ok (0, 0, 0) w := hrun
      refine ⟨.slice none 0 0, by simp [Instr.sliceAt, run_und hd, Instr.slice, run_size hsz, hrun], ?_⟩
      simp only [VRel]
      exact ⟨none, 0, rfl, by omega, by omega, fun _ => rfl, fun _ => rfl, fun h => absurd h (Nat.lt_irrefl _)⟩
     | some ad =>
      have hrun := run_bounds3 (P := P) (w := w) (b := true) (cap := cap') (len := len) (k := k) (k' := k') hL p4 p5 (by omega)
      refine ⟨.slice (if m = l then some ad else some (ad.add (l * sz))) (hh - l) (m - l), by simp [Instr.sliceAt, run_und hd, Instr.slice, run_size hsz, hrun], ?_⟩
      simp only [VRel]
      refine ⟨_, _, rfl, by omega, by omega, fun hx => rfl, fun hn => ?_, fun hp => ?_⟩
      ·split at hn <;> cases hn
      ·have h0 : 0 < cap' := by omega
       have hne : ¬ m = l := by omega
       have hlm : l + (m - l) = m := by omega
       have hmc : m ≤ cap' := by omega
       have hmul : l * sz + (m - l) * sz = m * sz := by rw [← Nat.add_mul, hlm]
       have hmul2 : m * sz ≤ cap' * sz := Nat.mul_le_mul_right _ hmc
       obtain ⟨B, O, S, g1, g2, g3⟩ := c5 h0
       cases g2
       refine ⟨B, O, S, g1, by rw [if_neg hne, addr_add, Nat.add_mul, Nat.add_assoc], ?_⟩
       rw [Nat.add_mul]; omega
    ·cases hq
   ·cases hq
  ·rename_i e' L cx
   cases hse : Nat.beq sz e'.length with
   | false => simp [hse] at hq
   | true =>
   have hse' : sz = e'.length := by simpa using hse
   subst hse'
   simp only [hse, Bool.not_true, cond_false] at hq
   split at hq
   ·cases hq
   rename_i ch hh hhe
   simp only [VRel] at ha
   obtain ⟨a, cap', rfl, c1, c2, c4, c5⟩ := ha
   split at hq
   ·have hmx : MX = none := hmx
    subst hmx
    cases hq
    simp only [allB_append] at hp
    obtain ⟨p1, p3, _⟩ := hp
    simp only [decide_eq_true_eq] at p3
    have hL : (LO = none ∧ l = 0) ∨ ∃ k, LO = some (.int k (l : Int)) := (boundE_rel hl p1 hlo).imp (fun x => ⟨x.1, x.2.2⟩) id
    have hhi : HI = none := hhi
    subst hhi
    have hrun := run_bounds (P := P) (w := w) (b := true) (cap := cap') (h := L.length) (HI := none) hL (.inl ⟨rfl, rfl⟩) p3 c1
    cases a with
    | none =>
     have := c4 rfl; subst this
     have e1 : L.length = 0 := by omega
     have e2 : l = 0 := by omega
     have e3 : L = [] := List.length_eq_zero_iff.1 e1
     subst e2; subst e3
     refine ⟨.slice none 0 0, by simp only [List.length_nil] at hrun; simp [Instr.sliceAt, run_und hd, Instr.slice, run_size hsz, hrun], ?_⟩
     simp only [VRel]
     exact ⟨none, 0, by simp, by simp, fun _ => (by simp), fun _ => rfl, fun h => by simp at h⟩
    | some ad =>
     refine ⟨.slice (if cap' = l then some ad else some (ad.add (l * e'.length))) (L.length - l) (cap' - l), by simp [Instr.sliceAt, run_und hd, Instr.slice, run_size hsz, hrun], ?_⟩
     simp only [VRel]
     refine ⟨_, cap' - l, by rw [List.length_drop], by rw [List.length_drop]; omega, fun hx => (by rw [c2 hx, List.length_drop]), fun hn => ?_, fun hp => ?_⟩
     ·split at hn <;> cases hn
     ·rw [List.length_drop] at hp
      obtain ⟨B, o, g1, g2⟩ := c5 (by omega)
      cases g1
      refine ⟨B, o + l * e'.length, by rw [if_neg (by omega), addr_add], ?_⟩
      have := rows_drop l L.length (Nat.le_refl _) g2
      rw [List.take_length] at this
      simpa [Nat.add_assoc] using this
   ·have hmx : MX = none := hmx
    subst hmx
    cases hq
    simp only [allB_append] at hp
    obtain ⟨p1, p2, p3, p4, _⟩ := hp
    simp only [decide_eq_true_eq] at p3 p4
    have hL : (LO = none ∧ l = 0) ∨ ∃ k, LO = some (.int k (l : Int)) := (boundE_rel hl p1 hlo).imp (fun x => ⟨x.1, x.2.2⟩) id
    have hH : (HI = none ∧ hh = L.length) ∨ ∃ k, HI = some (.int k (hh : Int)) := (boundE_rel hhe p2 hhi).imp (fun x => ⟨x.1, x.2.2⟩) id
    have hrun := run_bounds (P := P) (w := w) (b := true) (cap := cap') hL hH p3 (by omega)
    have hlen : ((L.take hh).drop l).length = hh - l := by simp; omega
    cases a with
    | none =>
     have := c4 rfl; subst this
     have e1 : hh = 0 := by omega
     have e2 : l = 0 := by omega
     subst e1; subst e2
     refine ⟨.slice none 0 0, by simp [Instr.sliceAt, run_und hd, Instr.slice, run_size hsz, hrun], ?_⟩
     simp only [VRel]
     exact ⟨none, 0, by simp, by simp, fun h => (by cases h), fun _ => rfl, fun h => by simp at h⟩
    | some ad =>
     refine ⟨.slice (if cap' = l then some ad else some (ad.add (l * e'.length))) (hh - l) (cap' - l), by simp [Instr.sliceAt, run_und hd, Instr.slice, run_size hsz, hrun], ?_⟩
     simp only [VRel]
     refine ⟨_, cap' - l, by rw [hlen], by rw [hlen]; omega, fun hx => (by cases hx), fun hn => ?_, fun hp => ?_⟩
     ·split at hn <;> cases hn
     ·rw [hlen] at hp
      obtain ⟨B, o, g1, g2⟩ := c5 (by omega)
      cases g1
      refine ⟨B, o + l * e'.length, by rw [if_neg (by omega), addr_add], ?_⟩
      simpa [Nat.add_assoc] using rows_drop l hh p4 g2
   ·rename_i mv hv
    split at hq
    ·rename_i cm m hm
     obtain ⟨W, rfl, hW⟩ := hmx
     cases hq
     simp only [allB_append] at hp
     obtain ⟨p1, p2, p3, p4, p5, p6, _⟩ := hp
     simp only [decide_eq_true_eq] at p4 p5 p6
     subst p5
     have hL : (LO = none ∧ l = 0) ∨ ∃ k, LO = some (.int k (l : Int)) := (boundE_rel hl p1 hlo).imp (fun x => ⟨x.1, x.2.2⟩) id
     have hH : (HI = none ∧ hh = L.length) ∨ ∃ k, HI = some (.int k (hh : Int)) := (boundE_rel hhe p2 hhi).imp (fun x => ⟨x.1, x.2.2⟩) id
     obtain ⟨k', rfl⟩ := natOf_rel hm p3 hW
     rcases hH with ⟨rfl, _⟩ | ⟨k, rfl⟩
     ·obtain ⟨_, hh', _⟩ := hhi; cases hh'
     have hlen : ((L.take hh).drop l).length = hh - l := by simp; omega
     have hrun := run_bounds3 (P := P) (w := w) (b := true) (cap := cap') (len := L.length) (k := k) (k' := k') hL p4 (Nat.le_refl hh) (by omega)
     cases a with
     | none =>
      have := c4 rfl; subst this
      have e1 : hh = 0 := by omega
      have e2 : l = 0 := by omega
      subst e1; subst e2
      have hrun : (Instr.sliceBounds true L.length 0 LO (some (.int k 0)) (some (.int k' 0))).run P w = .ok (0, 0, 0) w := hrun
      refine ⟨.slice none 0 0, by simp [Instr.sliceAt, run_und hd, Instr.slice, run_size hsz, hrun], ?_⟩
      simp only [VRel]
      exact ⟨none, 0, by simp, by simp, fun h => (by simp), fun _ => rfl, fun h => by simp at h⟩
     | some ad =>
      refine ⟨.slice (if hh = l then some ad else some (ad.add (l * e'.length))) (hh - l) (hh - l), by simp [Instr.sliceAt, run_und hd, Instr.slice, run_size hsz, hrun], ?_⟩
      simp only [VRel]
      refine ⟨_, hh - l, by rw [hlen], by rw [hlen]; omega, fun hx => (by rw [hlen]), fun hn => ?_, fun hp => ?_⟩
      ·split at hn <;> cases hn
      ·rw [hlen] at hp
       obtain ⟨B, o, g1, g2⟩ := c5 (by omega)
       cases g1
       refine ⟨B, o + l * e'.length, by rw [if_neg (by omega), addr_add], ?_⟩
       simpa [Nat.add_assoc] using rows_drop l hh p6 g2
    ·cases hq
   ·cases hq
  ·rename_i b o len cap x es
   cases hse : Nat.beq sz es with
   | false => simp [hse] at hq
   | true =>
   have hse' : sz = es := by simpa using hse
   subst hse'
   simp only [hse, Bool.not_true, cond_false] at hq
   split at hq
   ·cases hq
   rename_i ch hh hhe
   simp only [VRel] at ha
   obtain ⟨B, O, S, cap', hB, rfl, c1, c2, c3, c4⟩ := ha
   split at hq
   ·have hmx : MX = none := hmx
    subst hmx
    have main : ∀ {p3 : l ≤ hh} {p4 : hh ≤ cap}, allB cl → allB ch → (Instr.sliceAt t (.slice (some ⟨B, O + o, none⟩) len cap') LO HI none).run P w =
      .ok (.slice (if cap' = l then some ⟨B, O + o, none⟩ else some ((⟨B, O + o, none⟩ : Addr).add (l * sz))) (hh - l) (cap' - l)) w := by
     intro p3 p4 p1 p2
     have hL : (LO = none ∧ l = 0) ∨ ∃ k, LO = some (.int k (l : Int)) := (boundE_rel hl p1 hlo).imp (fun x => ⟨x.1, x.2.2⟩) id
     have hH : (HI = none ∧ hh = len) ∨ ∃ k, HI = some (.int k (hh : Int)) := (boundE_rel hhe p2 hhi).imp (fun x => ⟨x.1, x.2.2⟩) id
     have hrun := run_bounds (P := P) (w := w) (b := true) (cap := cap') hL hH p3 (by omega)
     simp [Instr.sliceAt, run_und hd, Instr.slice, run_size hsz, hrun]
    cases hl0 : Nat.beq l 0 with
    | true =>
     have e : l = 0 := by simpa using hl0
     subst e
     simp only [hl0, cond_true] at hq
     cases hq
     simp only [allB_append] at hp
     obtain ⟨p1, p2, p3, p4, _⟩ := hp
     simp only [decide_eq_true_eq] at p3 p4
     rw [main (p3 := p3) (p4 := p4) p1 p2]
     refine ⟨_, rfl, ?_⟩
     simp only [VRel]
     refine ⟨B, O, S, cap', hB, ?_, p4, c2, c3, c4⟩
     simp [addr_add]
    | false =>
     simp only [hl0, cond_false] at hq
     cases hlc : Nat.blt l cap with
     | true =>
      have hlt : l < cap := by simpa [Nat.blt_eq] using hlc
      simp only [hlc, cond_true] at hq
      cases hq
      simp only [allB_append] at hp
      obtain ⟨p1, p2, p3, p4, _⟩ := hp
      simp only [decide_eq_true_eq] at p3 p4
      rw [main (p3 := p3) (p4 := p4) p1 p2]
      refine ⟨_, rfl, ?_⟩
      simp only [VRel]
      refine ⟨B, O, S, cap' - l, hB, ?_, by omega, by omega, fun hx => by rw [c3 hx], ?_⟩
      ·rw [if_neg (by omega), addr_add, Nat.add_assoc]
      ·have : l * sz + (cap' - l) * sz = cap' * sz := by rw [← Nat.add_mul]; congr 1; omega
       omega
     | false => rw [hlc] at hq; cases hq
   ·rename_i mv hv
    split at hq
    ·rename_i cm m hm
     obtain ⟨W, rfl, hW⟩ := hmx
     cases hml : Nat.beq m l with
     | true => rw [hml] at hq; cases hq
     | false =>
     rw [hml, cond_false] at hq
     have e : m ≠ l := by intro e; subst e; simp at hml
     cases hq
     simp only [allB_append] at hp
     obtain ⟨p1, p2, p3, p4, p5, p6, _⟩ := hp
     simp only [decide_eq_true_eq] at p4 p5 p6
     have hL : (LO = none ∧ l = 0) ∨ ∃ k, LO = some (.int k (l : Int)) := (boundE_rel hl p1 hlo).imp (fun x => ⟨x.1, x.2.2⟩) id
     have hH : (HI = none ∧ hh = len) ∨ ∃ k, HI = some (.int k (hh : Int)) := (boundE_rel hhe p2 hhi).imp (fun x => ⟨x.1, x.2.2⟩) id
     obtain ⟨k', rfl⟩ := natOf_rel hm p3 hW
     rcases hH with ⟨rfl, _⟩ | ⟨k, rfl⟩
     ·obtain ⟨_, hh', _⟩ := hhi; cases hh'
     have hrun := run_bounds3 (P := P) (w := w) (b := true) (cap := cap') (len := len) (k := k) (k' := k') hL p4 p5 (by omega)
     have hrun' : (Instr.sliceAt t (.slice (some ⟨B, O + o, none⟩) len cap') LO (some (.int k (hh : Int))) (some (.int k' (m : Int)))).run P w =
       .ok (.slice (if m = l then some ⟨B, O + o, none⟩ else some ((⟨B, O + o, none⟩ : Addr).add (l * sz))) (hh - l) (m - l)) w := by
      simp [Instr.sliceAt, run_und hd, Instr.slice, run_size hsz, hrun]
     rw [hrun']
     refine ⟨_, rfl, ?_⟩
     simp only [VRel]
     refine ⟨B, O, S, m - l, hB, by rw [if_neg e, addr_add, Nat.add_assoc], by omega, by omega, fun _ => rfl, ?_⟩
     have : l * sz + (m - l) * sz = m * sz := by rw [← Nat.add_mul]; congr 1; omega
     have : m * sz ≤ cap' * sz := Nat.mul_le_mul_right _ (by omega)
     omega
    ·cases hq
   ·cases hq
  ·cases hq
 ·rename_i n e hd
  split at hq
  ·rename_i sz hsz
   have hmx : MX = none := hmx
   subst hmx
   split at hq
   ·rename_i b o ch hh hhe
    split at hq
    ·rename_i cs hcs
     simp only [llen_eq] at hq
     cases hb : Nat.ble (o + n * sz) cs.length with
     | false => simp [hb] at hq
     | true =>
     simp only [hb, cond_true] at hq
     simp only [Nat.ble_eq] at hb
     cases hnl : Nat.beq n l with
     | true => rw [hnl] at hq; cases hq
     | false =>
     rw [hnl, cond_false] at hq
     have e : n ≠ l := by intro e; subst e; simp at hnl
     cases hq
     simp only [allB_append] at hp
     obtain ⟨p1, p2, p3, p4, _⟩ := hp
     simp only [decide_eq_true_eq] at p3 p4
     have hL : (LO = none ∧ l = 0) ∨ ∃ k, LO = some (.int k (l : Int)) := (boundE_rel hl p1 hlo).imp (fun x => ⟨x.1, x.2.2⟩) id
     have hH : (HI = none ∧ hh = n) ∨ ∃ k, HI = some (.int k (hh : Int)) := (boundE_rel hhe p2 hhi).imp (fun x => ⟨x.1, x.2.2⟩) id
     simp only [VRel] at ha
     obtain ⟨B, O, S, hB, rfl⟩ := ha
     have hlen := (h.cellsAt hcs hB).2
     simp only at hlen
     have hrun := run_bounds (P := P) (w := w) (b := false) (cap := n) hL hH p3 p4
     have hrun' : (Instr.sliceAt t (.pointer (some ⟨B, O + o, none⟩)) LO HI none).run P w =
       .ok (.slice (some (if n = l then ⟨B, O + o, none⟩ else ((⟨B, O + o, none⟩ : Addr).add (l * sz)))) (hh - l) (n - l)) w := by
      simp [Instr.sliceAt, run_und hd, Instr.sureAddr, run_size hsz, hrun]
     rw [hrun']
     refine ⟨_, rfl, ?_⟩
     simp only [VRel]
     refine ⟨B, O, S, n - l, hB, by rw [if_neg e, addr_add, Nat.add_assoc], by omega, by omega, fun _ => rfl, ?_⟩
     have : l * sz + (n - l) * sz = n * sz := by rw [← Nat.add_mul]; congr 1; omega
     omega
    ·cases hq
   ·rename_i b es ch hh hhe
    split at hq
    ·rename_i e' L hL'
     cases hse : (Nat.beq sz es && Nat.beq es e'.length) with
     | false => rw [hse] at hq; cases hq
     | true =>
     rw [hse, cond_true] at hq
     simp only [Bool.and_eq_true, Nat.beq_eq] at hse
     obtain ⟨e1, e2⟩ := hse
     subst e1; subst e2
     cases hq
     simp only [allB_append] at hp
     obtain ⟨p1, p2, p3, p4, p5, _⟩ := hp
     simp only [decide_eq_true_eq] at p3 p4 p5
     have hL : (LO = none ∧ l = 0) ∨ ∃ k, LO = some (.int k (l : Int)) := (boundE_rel hl p1 hlo).imp (fun x => ⟨x.1, x.2.2⟩) id
     have hH : (HI = none ∧ hh = n) ∨ ∃ k, HI = some (.int k (hh : Int)) := (boundE_rel hhe p2 hhi).imp (fun x => ⟨x.1, x.2.2⟩) id
     simp only [VRel] at ha
     obtain ⟨B, O, S, hB, rfl⟩ := ha
     have hlen := (h.rowsAt hL' hB).2
     simp only at hlen
     simp only [Nat.zero_mul, Nat.add_zero]
     have hrun := run_bounds (P := P) (w := w) (b := false) (cap := n) hL hH p3 p4
     have hrun' : (Instr.sliceAt t (.pointer (some ⟨B, O, none⟩)) LO HI none).run P w =
       .ok (.slice (some (if n = l then ⟨B, O, none⟩ else ((⟨B, O, none⟩ : Addr).add (l * e'.length)))) (hh - l) (n - l)) w := by
      simp [Instr.sliceAt, run_und hd, Instr.sureAddr, run_size hsz, hrun]
     rw [hrun']
     refine ⟨_, rfl, ?_⟩
     simp only [VRel]
     refine ⟨_, _, rfl, by omega, by omega, fun _ => rfl, fun hn => (by cases hn), fun hp => ⟨B, O, S, hB, by rw [if_neg (by omega), addr_add], ?_⟩⟩
     have h1 : l * e'.length + (n - l) * e'.length = n * e'.length := by rw [← Nat.add_mul]; congr 1; omega
     have h2 : n * e'.length ≤ L.length * e'.length := Nat.mul_le_mul_right _ p5
     omega
    ·cases hq
   ·cases hq
  ·cases hq
 ·cases hq

theorem keyEq_rel {a b : V} {r : Bool} (h : keyEq a b = some r) {A B : Value} (ha : VRel ρ a A) (hb : VRel ρ b B) {kt : TypeId} {d : TypeDesc} (hd : P.underlying kt = some d) (hk : plainKeyE P kt a = true) :
  Instr.sameNow d A B = some r := by
 unfold keyEq at h
 unfold plainKeyE at hk
 rw [hd] at hk
 split at h
 ·rename_i k x k' y
  rw [kEq_iff] at h
  cases hkk : decide (k = k') with
  | false => simp [hkk] at h
  | true =>
   have e : k = k' := by simpa using hkk
   subst e
   simp only [decide_true, cond_true, Option.some.injEq] at h
   subst h
   simp only [VRel] at ha hb; subst ha; subst hb
   cases d <;> simp at hk
   simp [Instr.sameNow]; rfl
 ·rename_i x y
  cases h
  simp only [VRel] at ha hb; subst ha; subst hb
  cases d <;> simp at hk
  simp only [Instr.sameNow, sEq_eq, beq_toListBytes, ByteArray.toList_eq]
 ·cases h
  simp only [VRel] at ha hb; subst ha; subst hb
  cases d <;> simp at hk
  simp [Instr.sameNow]
 ·cases h

theorem findE_rel {k : V} {K : Value} (hk : VRel ρ k K) {kt : TypeId} {d : TypeDesc} (hd : P.underlying kt = some d) (hp : plainKeyE P kt k = true) :
  ∀ {l : List (V × V × Nat)} {E : List MapEntry} (_ : MRel ρ l E) (i : Nat) {r : Option (Nat × V)}, findE k l i = some r →
   (r = none ∧ Instr.findNow d K E i = some none) ∨ ∃ j v W, r = some (j, v) ∧ Instr.findNow d K E i = some (some (j, W)) ∧ VRel ρ v W
 | [], E, hm, i, r, h => by
  have hm : E = [] := hm
  subst hm
  simp only [findE] at h; cases h
  exact .inl ⟨rfl, rfl⟩
 | e :: l, E, hm, i, r, h => by
  obtain ⟨x, y, rfl, h1, h2, h3, h4⟩ := hm
  simp only [findE] at h
  split at h
  ·rename_i he
   cases h
   exact .inr ⟨_, _, _, rfl, by simp [Instr.findNow, keyEq_rel he hk h1 hd hp], h2⟩
  ·rename_i he
   have := findE_rel hk hd hp h4 (i + 1) h
   simpa [Instr.findNow, keyEq_rel he hk h1 hd hp] using this
  ·cases h

theorem run_checkKeyE {kt : TypeId} {k : V} {K : Value} (hk : VRel ρ k K) (hp : plainKeyE P kt k = true) (e : Bool) (n : Nat) : (Instr.checkKey e (n + 1) kt K).run P w = .ok () w := by
 unfold plainKeyE at hp
 split at hp
 ·rename_i hd; simp only [VRel] at hk; subst hk; simp [Instr.checkKey, run_und hd]
 ·rename_i hd; simp only [VRel] at hk; subst hk; simp [Instr.checkKey, run_und hd]
 ·rename_i hd; simp only [VRel] at hk; subst hk; simp [Instr.checkKey, run_und hd]
 ·cases hp

theorem plainKeyE_und {kt : TypeId} {k : V} (hp : plainKeyE P kt k = true) : ∃ d, P.underlying kt = some d := by
 unfold plainKeyE at hp
 split at hp <;> rename_i hd <;> first | exact ⟨_, hd⟩ | cases hp

theorem run_findKeyE {k : V} {K : Value} (hk : VRel ρ k K) {kt : TypeId} (hp : plainKeyE P kt k = true) {l : List (V × V × Nat)} {E : List MapEntry} (hm : MRel ρ l E) {r : Option (Nat × V)} (h : findE k l 0 = some r) :
  (r = none ∧ (Instr.findKey kt K E).run P w = .ok none w) ∨ ∃ j v W, r = some (j, v) ∧ (Instr.findKey kt K E).run P w = .ok (some (j, W)) w ∧ VRel ρ v W := by
 obtain ⟨d, hd⟩ := plainKeyE_und hp
 rcases findE_rel hk hd hp hm 0 h with ⟨h1, h2⟩ | ⟨j, v, W, h1, h2, h3⟩
 ·exact .inl ⟨h1, by simp [Instr.findKey, run_und hd, h2]⟩
 ·exact .inr ⟨j, v, W, h1, by simp [Instr.findKey, run_und hd, h2], h3⟩

theorem zeroE_rel {t : TypeId} {z : V} (h : zeroE P t = some z) : ∃ Z, (zeroValue t).run P w = .ok Z w ∧ VRel ρ z Z ∧ (∃ i, P.info? t = some i ∧ i.zero = some Z) := by
 unfold zeroE at h
 split at h
 ·rename_i i hi
  split at h
  ·rename_i v hv
   exact ⟨v, by simp [zeroValue, typeInfo, hi, hv], ofVal_rel h, i, hi, hv⟩
  ·cases h
 ·cases h

theorem qLookup_rel (h : SRel own ρ s w) {t : TypeId} {m k v : V} {ok : Bool} (hq : qLookup P s t m k ok = some v) {M K : Value} (hm : VRel ρ m M) (hk : VRel ρ k K) :
  ∃ X, (Instr.lookup t M K ok).run P w = .ok X w ∧ VRel ρ v X := by
 unfold qLookup at hq
 split at hq
 ·rename_i kt e hd
  cases hp : plainKeyE P kt k with
  | false => simp [hp] at hq
  | true =>
  simp only [hp, Bool.not_true, cond_false] at hq
  split at hq
  ·cases hq
  rename_i es hes
  have key : ∃ E : Array MapEntry, MRel ρ es E.toList ∧ (Instr.lookup t M K ok).run P w = (do
      Instr.checkKey E.isEmpty 10000 kt K
      let (v, ok') ← match ← Instr.findKey kt K E.toList with
        | some (_, v) => pure (v, true)
        | none => pure (← zeroValue e, false)
      pure (if ok then .tuple #[v, .bool ok'] else v) : Sem Value).run P w := by
   split at hes
   ·cases hes
    simp only [VRel] at hm; subst hm
    exact ⟨#[], rfl, by simp only [Instr.lookup, Sem.run_bind, run_und hd, Result.andThen_ok, Sem.run_pure]; rfl⟩
   ·rename_i b
    split at hes
    ·rename_i es' c hg
     cases hes
     simp only [VRel] at hm
     obtain ⟨B, O, S, hB, rfl⟩ := hm
     obtain ⟨x, hx, _, E, hE, hrel⟩ := h.obj' hg hB
     rw [hB] at hx; cases hx
     have hgo : (getObj B).run P w = .ok (.map E c) w := by simp only [getObj, Sem.run]; simp only at hE; rw [hE]
     exact ⟨E, hrel, by simp only [Instr.lookup, Sem.run_bind, run_und hd, Result.andThen_ok, hgo, Sem.run_pure]; rfl⟩
    ·cases hes
   ·cases hes
  obtain ⟨E, hrel, h0⟩ := key
  rw [h0]
  simp only [Sem.run_bind, run_checkKeyE hk hp, Result.andThen_ok]
  split at hq
  ·rename_i j v' hf
   rcases run_findKeyE (w := w) hk hp hrel hf with ⟨h1, _⟩ | ⟨j', v2, W, h1, h2, h3⟩
   ·cases h1
   ·cases h1
    cases hq
    simp only [h2, Result.andThen_ok, Sem.run_pure]
    cases ok
    ·exact ⟨_, rfl, h3⟩
    ·exact ⟨_, rfl, by simp only [cond_true, VRel]; exact ⟨_, rfl, LRel.cons h3 (LRel.cons (vbool _) LRel.nil)⟩⟩
  ·rename_i hf
   split at hq
   ·rename_i z hz
    cases hq
    obtain ⟨Z, hZ, hz', _⟩ := zeroE_rel (ρ := ρ) (w := w) hz
    rcases run_findKeyE (w := w) hk hp hrel hf with ⟨_, h2⟩ | ⟨j', v2, W, h1, h2, h3⟩
    ·simp only [h2, Result.andThen_ok, Sem.run_bind, Sem.run_pure, hZ]
     cases ok
     ·exact ⟨_, rfl, hz'⟩
     ·exact ⟨_, rfl, by simp only [cond_true, VRel]; exact ⟨_, rfl, LRel.cons hz' (LRel.cons (vbool _) LRel.nil)⟩⟩
    ·cases h1
   ·cases hq
  ·cases hq
 ·cases hq

theorem keyV {kt : TypeId} {k : Ty} {key : V} {d : k.den} (hp : plainKeyE P kt key = true) (h : ofV k key = some d) : key = toV k d ∧ ∀ d' : k.den, keyEq (toV k d) (toV k d') = some (kB k d d') := by
 cases k with
 | int kk =>
  simp only [ofV, ofInt] at h
  split at h
  ·rename_i k' n
   cases hk : kEq kk k' with
   | false => rw [hk] at h; cases h
   | true =>
    rw [hk, cond_true] at h
    cases h
    rw [kEq_iff] at hk
    have hk := of_decide_eq_true hk
    subst hk
    exact ⟨rfl, fun d' => by
      have : kEq kk kk = true := by rw [kEq_iff]; exact decide_eq_true rfl
      simp only [toV, keyEq, this, cond_true, kB, eqI]⟩
  ·cases h
 | bool =>
  simp only [ofV, ofBool] at h
  split at h
  ·cases h; exact ⟨rfl, fun d' => rfl⟩
  ·cases h
 | str =>
  simp only [ofV, ofStr] at h
  split at h
  ·cases h; exact ⟨rfl, fun d' => rfl⟩
  ·cases h
 | lst e =>
  simp only [ofV] at h
  unfold ofLst at h
  split at h
  ·unfold plainKeyE at hp; split at hp <;> simp_all
  ·unfold plainKeyE at hp; split at hp <;> simp_all
  ·cases h
theorem ofV_toV {t : Ty} {v : V} {x : t.den} (h : ofV t v = some x) {X : Value} (hv : VRel ρ v X) : VRel ρ (toV t x) X := by
 cases t with
 | int kk =>
  simp only [ofV, ofInt] at h
  split at h
  ·rename_i k' n
   cases hk : kEq kk k' with
   | false => rw [hk] at h; cases h
   | true =>
    rw [hk, cond_true] at h
    cases h
    rw [kEq_iff] at hk
    have hk := of_decide_eq_true hk
    subst hk
    exact hv
  ·cases h
 | bool =>
  simp only [ofV, ofBool] at h
  split at h
  ·cases h; exact hv
  ·cases h
 | str =>
  simp only [ofV, ofStr] at h
  split at h
  ·cases h; exact hv
  ·cases h
 | lst e =>
  simp only [ofV] at h
  unfold ofLst at h
  split at h
  ·obtain ⟨q, rfl⟩ := asL_some h
   subst q
   simp only [toV, VRel] at hv ⊢
   obtain ⟨a, c, h1, h2, h3, h4, h5⟩ := hv
   exact ⟨a, c, h1, h2, fun h => (by cases h), h4, h5⟩
  ·cases h
   simp only [toV, VRel] at hv ⊢
   exact ⟨none, 0, hv, Nat.le_refl _, fun h => (by cases h), fun _ => rfl, fun h => absurd h (Nat.lt_irrefl _)⟩
  ·cases h
theorem pmF_find {k t : Ty} {d : k.den} (hk : ∀ d' : k.den, keyEq (toV k d) (toV k d') = some (kB k d d')) : ∀ (M : List (k.den × t.den × Nat)) (i : Nat), findE (toV k d) (pmV k t M) i = some (match pmF k t d M i with
    | some r => some (r.1, toV t r.2.1)
    | none => none)
 | [], i => rfl
 | m :: M, i => by
  show (match keyEq (toV k d) (toV k m.1) with
    | some true => some (some (i, toV t m.2.1))
    | some false => findE (toV k d) (pmV k t M) (i + 1)
    | none => none) = _
  rw [hk, pmF]
  cases kB k d m.1
  ·exact pmF_find hk M (i + 1)
  ·rfl
theorem pmAt_some {b : Nat} {k t : Ty} {M : List (k.den × t.den × Nat)} {c : Nat} (h : pmAt s b = some ⟨k, t, M, c⟩) : s.heap.get b = some (.pm k t M c) := by
 unfold pmAt at h
 split at h
 ·rename_i h1; cases h; exact h1
 ·cases h
theorem qLookup1_rel (h : SRel own ρ s w) {t : TypeId} {m key v : V} {ok : Bool} (hq : qLookup1 P s t m key ok = some v) {M K : Value} (hm : VRel ρ m M) (hk : VRel ρ key K) :
  ∃ X, (Instr.lookup t M K ok).run P w = .ok X w ∧ VRel ρ v X := by
 unfold qLookup1 at hq
 split at hq
 ·rename_i kt e b hd
  split at hq
  ·rename_i k t' ML c hp
   have hg := pmAt_some hp
   cases hpk : plainKeyE P kt key with
   | false => rw [hpk] at hq; cases hq
   | true =>
   rw [hpk, cond_true] at hq
   split at hq
   ·rename_i d z hd1 hz1
    unfold qLookP at hq
    split at hq
    ·rename_i dz hdz
     cases hq
     obtain ⟨rfl, hkeq⟩ := keyV hpk hd1
     simp only [VRel] at hm
     obtain ⟨B, O, S, hB, rfl⟩ := hm
     obtain ⟨x, hx, _, E, hE, hrel⟩ := h.obj' hg hB
     rw [hB] at hx; cases hx
     have hgo : (getObj B).run P w = .ok (.map E c) w := by simp only [getObj, Sem.run]; simp only at hE; rw [hE]
     have hf := pmF_find hkeq ML 0
     have hrun : (Instr.lookup t (.map (some B)) K ok).run P w = (do
         let (v, ok') ← match ← Instr.findKey kt K E.toList with
           | some (_, v) => pure (v, true)
           | none => pure (← zeroValue e, false)
         pure (if ok then .tuple #[v, .bool ok'] else v) : Sem Value).run P w := by
      simp only [Instr.lookup, Sem.run_bind, run_und hd, Result.andThen_ok, hgo, Sem.run_pure, run_checkKeyE hk hpk]
      rfl
     rw [hrun]
     obtain ⟨Z, hZ, hz', _⟩ := zeroE_rel (ρ := ρ) (w := w) hz1
     have hzz := ofV_toV hdz hz'
     cases hF : pmF k t' d ML 0 with
     | some r =>
      rw [hF] at hf
      rcases run_findKeyE (w := w) hk hpk hrel hf with ⟨h1, _⟩ | ⟨j', v2, W, h1, h2, h3⟩
      ·cases h1
      ·cases h1
       have e1 : pmGet k t' ML d dz = r.2.1 := by rw [pmGet_eq]; simp only [pmGet0, hF]
       have e2 : pmHas k t' ML d = true := by rw [pmHas_eq]; simp only [pmHas0, hF]
       rw [e1, e2]
       simp only [Sem.run_bind, h2, Result.andThen_ok, Sem.run_pure]
       cases ok
       ·exact ⟨_, rfl, h3⟩
       ·exact ⟨_, rfl, by simp only [cond_true, VRel]; exact ⟨_, rfl, LRel.cons h3 (LRel.cons (vbool _) LRel.nil)⟩⟩
     | none =>
      rw [hF] at hf
      rcases run_findKeyE (w := w) hk hpk hrel hf with ⟨_, h2⟩ | ⟨j', v2, W, h1, h2, h3⟩
      ·have e1 : pmGet k t' ML d dz = dz := by rw [pmGet_eq]; simp only [pmGet0, hF]
       have e2 : pmHas k t' ML d = false := by rw [pmHas_eq]; simp only [pmHas0, hF]
       rw [e1, e2]
       simp only [Sem.run_bind, h2, Result.andThen_ok, Sem.run_bind, Sem.run_pure, hZ]
       cases ok
       ·exact ⟨_, rfl, hzz⟩
       ·exact ⟨_, rfl, by simp only [cond_true, VRel]; exact ⟨_, rfl, LRel.cons hzz (LRel.cons (vbool _) LRel.nil)⟩⟩
      ·cases h1
    ·cases hq
   ·cases hq
  ·cases hq
 ·cases hq
theorem qLookup2_rel (h : SRel own ρ s w) {t : TypeId} {m key v : V} {ok : Bool} (hq : qLookup2 P s t m key ok = some v) {M K : Value} (hm : VRel ρ m M) (hk : VRel ρ key K) :
  ∃ X, (Instr.lookup t M K ok).run P w = .ok X w ∧ VRel ρ v X := by
 unfold qLookup2 at hq
 split at hq
 ·rename_i v1 h1; cases hq; exact qLookup1_rel h h1 hm hk
 ·exact qLookup_rel h hq hm hk

theorem MRel.length : ∀ {l : List (V × V × Nat)} {E : List MapEntry}, MRel ρ l E → l.length = E.length
 | [], _, h => by have h : _ = [] := h; subst h; rfl
 | _ :: _, _, h => by obtain ⟨x, y, rfl, _, _, _, h4⟩ := h; simp [MRel.length h4]

theorem qLen_rel (h : SRel own ρ s w) {t ty : TypeId} {a v : V} (hq : qLen P s t a = some v) {A : Value} (ha : VRel ρ a A) {ts : Array TypeId} (ht : ts[0]? = some t) :
  ∃ X, (Builtin.len_ ts ty #[A]).run P w = .ok X w ∧ VRel ρ v X := by
 unfold qLen at hq
 split at hq
 ·rename_i hd
  split at hq <;> cases hq
  simp only [VRel] at ha; subst ha
  exact ⟨_, by simp [Builtin.len_, ht, run_und hd, goInt], vint _ _⟩
 ·rename_i n e hd
  cases hq
  refine ⟨_, by simp [Builtin.len_, ht, run_und hd, goInt], vint _ _⟩
 ·rename_i e hd
  split at hq <;> cases hq <;> simp only [VRel] at ha
  ·subst ha
   exact ⟨_, by simp [Builtin.len_, ht, run_und hd, goInt], vint _ _⟩
  ·obtain ⟨B, O, S, cap', _, rfl, _⟩ := ha
   exact ⟨_, by simp [Builtin.len_, ht, run_und hd, goInt], vint _ _⟩
  ·obtain ⟨_, _, rfl, _⟩ := ha
   exact ⟨_, by simp [Builtin.len_, ht, run_und hd, goInt], vint _ _⟩
  ·obtain ⟨_, _, rfl, _⟩ := ha
   exact ⟨_, by simp [Builtin.len_, ht, run_und hd, goInt], vint _ _⟩
 ·rename_i k e hd
  split at hq
  ·cases hq
   simp only [VRel] at ha; subst ha
   exact ⟨_, by simp [Builtin.len_, ht, run_und hd, goInt], vint _ _⟩
  ·split at hq
   ·rename_i hg
    cases hq
    simp only [VRel] at ha
    obtain ⟨B, O, S, hB, rfl⟩ := ha
    obtain ⟨x, hx, _, E, hE, hrel⟩ := h.obj' hg hB
    rw [hB] at hx; cases hx
    refine ⟨_, ?_, vint _ _⟩
    have := hrel.length
    simp at this
    rw [llen_eq]
    simp [Builtin.len_, ht, run_und hd, goInt, getObj, Sem.run, hE, this]
   ·rename_i hg
    cases hq
    simp only [VRel] at ha
    obtain ⟨B, O, S, hB, rfl⟩ := ha
    obtain ⟨x, hx, _, E, hE, hrel⟩ := h.obj' hg hB
    rw [hB] at hx; cases hx
    refine ⟨_, ?_, vint _ _⟩
    have := hrel.length
    simp [pmV] at this
    simp [Builtin.len_, ht, run_und hd, goInt, getObj, Sem.run, hE, this]
   ·cases hq
  ·cases hq
 ·rename_i arr hd
  split at hq
  ·rename_i n e hd2
   cases hq
   refine ⟨_, by simp [Builtin.len_, ht, run_und hd, run_und hd2, goInt], vint _ _⟩
  ·cases hq
 ·cases hq

theorem qCap_rel {t ty : TypeId} {a v : V} (hq : qCap P t a = some v) {A : Value} (ha : VRel ρ a A) {ts : Array TypeId} (ht : ts[0]? = some t) :
  ∃ X, (Builtin.cap_ ts ty #[A]).run P w = .ok X w ∧ VRel ρ v X := by
 unfold qCap at hq
 split at hq
 ·rename_i n e hd
  cases hq
  exact ⟨_, by simp [Builtin.cap_, ht, run_und hd, goInt], vint _ _⟩
 ·rename_i e hd
  split at hq <;> cases hq <;> simp only [VRel] at ha
  ·subst ha
   exact ⟨_, by simp [Builtin.cap_, ht, run_und hd, goInt], vint _ _⟩
  ·obtain ⟨B, O, S, cap', _, rfl, _, _, hc, _⟩ := ha
   rw [hc trivial]
   exact ⟨_, by simp [Builtin.cap_, ht, run_und hd, goInt], vint _ _⟩
  ·obtain ⟨_, cap', rfl, _, _, hc, _⟩ := ha
   rw [hc trivial]
   exact ⟨_, by simp [Builtin.cap_, ht, run_und hd, goInt], vint _ _⟩
  ·obtain ⟨_, cap', rfl, _, hc, _⟩ := ha
   rw [hc trivial]
   exact ⟨_, by simp [Builtin.cap_, ht, run_und hd, goInt], vint _ _⟩
 ·cases hq

theorem minMax_rel : ∀ (l : List V) (k : IntKind) (x : Int) (v : V), minMax false (.int k x) l = some v → ∀ {L : List Value}, LRel ρ l L → ∃ X, (L.foldlM Builtin.min2 (.int k x)).run P w = .ok X w ∧ VRel ρ v X
 | [], k, x, v, h, L, hl => by
  have hl : L = [] := hl
  subst hl; simp only [minMax] at h; cases h
  exact ⟨_, by simp, vint _ _⟩
 | b :: l, k, x, v, h, L, hl => by
  obtain ⟨X, Y, rfl, h1, h2⟩ := hl
  cases b <;> simp only [minMax, reduceCtorEq] at h
  simp only [VRel] at h1; subst h1
  obtain ⟨Z, e1, e2⟩ := minMax_rel l _ _ v h h2
  rename_i k' y
  have e : min x y = if y < x then y else x := by split <;> omega
  simp only [e] at e1
  exact ⟨Z, by simpa [Builtin.min2] using e1, e2⟩
theorem maxMin_rel : ∀ (l : List V) (k : IntKind) (x : Int) (v : V), minMax true (.int k x) l = some v → ∀ {L : List Value}, LRel ρ l L → ∃ X, (L.foldlM Builtin.max2 (.int k x)).run P w = .ok X w ∧ VRel ρ v X
 | [], k, x, v, h, L, hl => by
  have hl : L = [] := hl
  subst hl; simp only [minMax] at h; cases h
  exact ⟨_, by simp, vint _ _⟩
 | b :: l, k, x, v, h, L, hl => by
  obtain ⟨X, Y, rfl, h1, h2⟩ := hl
  cases b <;> simp only [minMax, reduceCtorEq] at h
  simp only [VRel] at h1; subst h1
  obtain ⟨Z, e1, e2⟩ := maxMin_rel l _ _ v h h2
  rename_i k' y
  have e : maxI x y = if y > x then y else x := by rw [maxI_eq]; split <;> omega
  simp only [e] at e1
  exact ⟨Z, by simpa [Builtin.max2] using e1, e2⟩

theorem cells_one {X : Value} (h : ∀ A, X ≠ .agg A) : X.cells.toList = [X] := by
 cases X <;> first | exact absurd rfl (h _) | rfl
theorem cellsO_rel {v : V} {c : List V} (hc : cellsO v = some c) {X : Value} (h : VRel ρ v X) : LRel ρ c X.cells.toList := by
 have one : (∀ A, X ≠ .agg A) → c = [v] → LRel ρ c X.cells.toList := fun h1 h2 => by
  rw [cells_one h1, h2]; exact LRel.cons h LRel.nil
 cases v <;> simp only [cellsO, Option.some.injEq, reduceCtorEq] at hc
 case agg => subst hc; simp only [VRel] at h; obtain ⟨A, rfl, h2⟩ := h; exact h2
 all_goals
  refine one ?_ hc.symm
  intro A e
  subst e
  simp only [VRel] at h
  first
   | (cases h; done)
   | (obtain ⟨_, _, _, _, e⟩ := h; cases e; done)
   | (obtain ⟨_, _, _, _, _, e, _⟩ := h; cases e; done)
   | (obtain ⟨_, _, e⟩ := h; cases e; done)
   | (obtain ⟨_, _, e, _⟩ := h; cases e; done)
   | (obtain ⟨_, e, _⟩ := h; cases e; done)

theorem setAll_rel : ∀ {l : List V} {L : List Value}, LRel ρ l L → ∀ {cs : List V} {A : Array Value}, LRel ρ cs A.toList → ∀ (off k : Nat),
  LRel ρ (setAll cs (off + k) l) ((L.zipIdx k).foldl (fun (cs : Array Value) (x : Value × Nat) => cs.setIfInBounds (off + x.2) x.1) A).toList
 | [], L, h, cs, A, hA, off, k => by
  have h : L = [] := h
  subst h; simpa [setAll] using hA
 | v :: l, L, h, cs, A, hA, off, k => by
  obtain ⟨X, Y, rfl, h1, h2⟩ := h
  simp only [setAll, lset_eq, List.zipIdx_cons, List.foldl_cons]
  rw [Nat.add_assoc]
  exact setAll_rel h2 (by rw [Array.toList_setIfInBounds]; exact hA.set h1) off (k + 1)

theorem setAll_length : ∀ (l cs : List V) (off : Nat), (setAll cs off l).length = cs.length
 | [], _, _ => rfl
 | c :: l, cs, off => by simp [setAll, lset_eq, setAll_length l]

def PRel (ρ : Env) : List (Nat × V) → List (Nat × Value) → Prop
 | [], L => L = []
 | p :: l, L => ∃ X Y, L = (p.1, X) :: Y ∧ VRel ρ p.2 X ∧ PRel ρ l Y

theorem evalParts_rel {ev : Operand → Option V} {A : Act} (hA : EvRel ρ ev A) : ∀ {xs : List (Nat × Operand)} {ps : List (Nat × V)}, evalParts ev xs = some ps → PRel ρ ps (xs.map fun p => (p.1, A.eval p.2))
 | [], ps, h => by simp only [evalParts] at h; cases h; rfl
 | (i, x) :: xs, ps, h => by
  simp only [evalParts] at h
  split at h
  ·rename_i v hv
   split at h
   ·rename_i r hr; cases h; exact ⟨_, _, rfl, evalO_rel hA hv, evalParts_rel hA hr⟩
   ·cases h
  ·cases h

theorem fillE_rel {place : Nat → Option (Nat × Nat)} : ∀ {ps : List (Nat × V)} {Ps : List (Nat × Value)}, PRel ρ ps Ps → ∀ {cs r : List V} {A : Array Value}, LRel ρ cs A.toList → fillE place cs ps = some r →
  ∃ R, Instr.fill place A Ps = some R ∧ LRel ρ r R.toList
 | [], Ps, hp, cs, r, A, hA, h => by
  have hp : Ps = [] := hp
  subst hp; simp only [fillE] at h; cases h
  exact ⟨A, rfl, hA⟩
 | (i, v) :: ps, Ps, hp, cs, r, A, hA, h => by
  obtain ⟨X, Y, rfl, h1, h2⟩ := hp
  simp only [fillE] at h
  split at h
  ·rename_i off size c hpl hcv
   simp only [llen_eq] at h
   cases hb : (Nat.beq c.length size && Nat.ble (off + size) cs.length) with
   | false => simp [hb] at h
   | true =>
    simp only [hb, cond_true] at h
    simp only [Bool.and_eq_true, Nat.ble_eq, Nat.beq_eq] at hb
    have hc := cellsO_rel hcv h1
    have hl := hc.length
    have hl2 := hA.length
    simp only [Array.length_toList] at hl hl2
    have hset := setAll_rel hc hA off 0
    obtain ⟨R, e1, e2⟩ := fillE_rel h2 (A := X.cells.zipIdx.foldl (fun cs (x : Value × Nat) => cs.setIfInBounds (off + x.2) x.1) A)
     (by rw [← Array.foldl_toList, Array.toList_zipIdx]; exact hset) h
    refine ⟨R, ?_, e2⟩
    simp only [Instr.fill, hpl]
    rw [if_neg (by simp; omega)]
    exact e1
  ·cases h

theorem run_places : ∀ (fs : List Field) {pl : List (Nat × Nat)}, placesE P fs = some pl → (fs.mapM fun f => do pure (f.offset, ← sizeOf f.type) : Sem (List (Nat × Nat))).run P w = .ok pl w
 | [], pl, h => by simp only [placesE] at h; cases h; simp
 | f :: fs, pl, h => by
  simp only [placesE] at h
  split at h
  ·rename_i n hn
   split at h
   ·rename_i r hr
    cases h
    have ih := run_places fs hr
    simp only [List.mapM_cons, Sem.run_bind, run_size hn, Result.andThen_ok, Sem.run_pure, ih]
   ·cases h
  ·cases h

theorem qBuild_rel {t : TypeId} {ps : List (Nat × V)} {v : V} (hq : qBuild P t ps = some v) {Ps : Array (Nat × Value)} (hp : PRel ρ ps Ps.toList) :
  ∃ X, (Instr.build t Ps).run P w = .ok X w ∧ VRel ρ v X := by
 unfold qBuild at hq
 split at hq
 ·cases hq
 rename_i z hz
 split at hq
 ·cases hq
 rename_i zc hzc0
 obtain ⟨Z, hZ, hzr, _⟩ := zeroE_rel (ρ := ρ) (w := w) hz
 have hzc := cellsO_rel hzc0 hzr
 split at hq
 ·rename_i fs hd
  split at hq
  ·rename_i pl hpl
   split at hq
   ·rename_i cs hcs
    cases hq
    obtain ⟨R, e1, e2⟩ := fillE_rel hp hzc hcs
    refine ⟨.agg R, ?_, by simp only [VRel]; exact ⟨R, rfl, e2⟩⟩
    have hpr := run_places (w := w) fs.toList hpl
    have e3 : (fun (i : Nat) => (pl.toArray[i]? : Option (Nat × Nat))) = fun (i : Nat) => lget pl i := by funext i; simp [lget_eq]
    simp only [Instr.build, Sem.run_bind, hZ, Result.andThen_ok, run_und hd, Array.mapM_eq_mapM_toList, Sem.run_map, hpr, Sem.run_pure]
    rw [e3, e1]
    rfl
   ·cases hq
  ·cases hq
 ·rename_i n e hd
  split at hq
  ·rename_i sz hsz
   split at hq
   ·rename_i cs hcs
    cases hq
    obtain ⟨R, e1, e2⟩ := fillE_rel hp hzc hcs
    refine ⟨.agg R, ?_, by simp only [VRel]; exact ⟨R, rfl, e2⟩⟩
    simp only [Instr.build, Sem.run_bind, hZ, Result.andThen_ok, run_und hd, run_size hsz]
    rw [e1]
    rfl
   ·cases hq
  ·cases hq
 ·cases hq

theorem qAssert_rel (xt : TypeId) {t : TypeId} {v u : V} {ok : Bool} (hq : qAssert P t v ok = some u) {X : Value} (hv : VRel ρ v X) : ∃ Y, (Instr.typeAssert X xt t ok).run P w = .ok Y w ∧ VRel ρ u Y := by
 unfold qAssert at hq
 have zer : ∀ {u : V}, assertZ P t ok = some u → ok = true ∧ ∃ Z, (zeroValue t).run P w = .ok Z w ∧ VRel ρ u (.tuple #[Z, .bool false]) := by
  intro u h
  unfold assertZ at h
  split at h
  ·rename_i z hz
   cases h
   obtain ⟨Z, hZ, hzr, _⟩ := zeroE_rel (ρ := ρ) (w := w) hz
   refine ⟨rfl, Z, hZ, ?_⟩
   simp only [VRel]
   exact ⟨_, rfl, LRel.cons hzr (LRel.cons (by simp only [VRel]) LRel.nil)⟩
  ·cases h
 split at hq
 ·cases hq
 ·rename_i d hni hd
  cases v with
  | iface t' x =>
   simp only [VRel] at hv
   simp only at hq
   obtain ⟨Y, rfl, hy⟩ := hv
   cases hb : Nat.beq t' t with
   | true =>
    rw [hb, cond_true] at hq
    cases hq
    have e := Nat.eq_of_beq_eq_true hb
    subst e
    cases ok with
    | true => exact ⟨.tuple #[Y, .bool true], by cases d <;> first | exact absurd rfl (hni _) | simp [Instr.typeAssert, run_und hd], by simp only [cond_true, VRel]; exact ⟨_, rfl, LRel.cons hy (LRel.cons (by simp only [VRel]) LRel.nil)⟩⟩
    | false => exact ⟨Y, by cases d <;> first | exact absurd rfl (hni _) | simp [Instr.typeAssert, run_und hd], hy⟩
   | false =>
    rw [hb, cond_false] at hq
    obtain ⟨rfl, Z, hZ, hr⟩ := zer hq
    have hne : ¬ t' = t := fun e => by subst e; simp at hb
    exact ⟨_, by cases d <;> first | exact absurd rfl (hni _) | simp [Instr.typeAssert, run_und hd, hne, hZ], hr⟩
  | nili =>
   simp only [VRel] at hv
   subst hv
   obtain ⟨rfl, Z, hZ, hr⟩ := zer hq
   exact ⟨_, by cases d <;> first | exact absurd rfl (hni _) | simp [Instr.typeAssert, run_und hd, hZ], hr⟩
  | _ => cases hq
 ·cases hq

end
end Go.Sym
end

noncomputable section
namespace Go.Sym

section
variable {P : Program} {own : Own} {ρ : Env} {s : St} {w : World}

theorem arr1 {A : Array Value} {X : Value} (h : A.toList = [X]) : A = #[X] := by cases A; simp at h; simp [h]

theorem qBuiltin_rel (h : SRel own ρ s w) {b : Builtin} {ts : Array TypeId} {vs : List V} {v : V} (hq : qBuiltin P s b ts vs = some v) {A : Array Value} (ha : LRel ρ vs A.toList) (ty : TypeId) (cs : Array Bool) :
  ∃ X, (Go.builtin b ts ty cs A).run P w = .ok (.value X) w ∧ VRel ρ v X := by
 unfold qBuiltin at hq
 split at hq
 ·split at hq
  ·rename_i t a ht
   obtain ⟨X, Y, e, h1, h2⟩ := ha
   have h2 : Y = [] := h2
   subst h2
   obtain rfl := arr1 e
   obtain ⟨Z, e1, e2⟩ := qLen_rel h (ty := ty) hq h1 ht
   exact ⟨Z, by simp [Go.builtin, e1], e2⟩
  ·cases hq
 ·split at hq
  ·rename_i t a ht
   obtain ⟨X, Y, e, h1, h2⟩ := ha
   have h2 : Y = [] := h2
   subst h2
   obtain rfl := arr1 e
   obtain ⟨Z, e1, e2⟩ := qCap_rel (w := w) (ty := ty) hq h1 ht
   exact ⟨Z, by simp [Go.builtin, e1], e2⟩
  ·cases hq
 ·split at hq
  ·rename_i k x l
   obtain ⟨X, Y, e, h1, h2⟩ := ha
   simp only [VRel] at h1; subst h1
   obtain ⟨Z, e1, e2⟩ := minMax_rel (P := P) (w := w) l _ _ v hq h2
   exact ⟨Z, by simp [Go.builtin, Builtin.min_, e, e1], e2⟩
  ·cases hq
 ·split at hq
  ·rename_i k x l
   obtain ⟨X, Y, e, h1, h2⟩ := ha
   simp only [VRel] at h1; subst h1
   obtain ⟨Z, e1, e2⟩ := maxMin_rel (P := P) (w := w) l _ _ v hq h2
   exact ⟨Z, by simp [Go.builtin, Builtin.max_, e, e1], e2⟩
  ·cases hq
 ·cases hq

theorem map_toList {α β : Type} (a : Array α) (f : α → β) : (a.map f).toList = a.toList.map f := by simp

theorem pickV_rel {b : Bool} {x y v : V} (hq : pickV b x y = some v) {X Y : Value} (hx : VRel ρ x X) (hy : VRel ρ y Y) : VRel ρ v (if b then X else Y) := by
 unfold pickV at hq
 split at hq
 ·rename_i k m k' n
  rw [kEq_iff] at hq
  by_cases hk : k = k'
  ·subst hk
   simp only [decide_true, cond_true, Option.some.injEq] at hq
   subst hq
   simp only [VRel] at hx hy ⊢; subst hx; subst hy
   cases b <;> rfl
  ·simp [hk] at hq
 ·cases hq
  simp only [VRel] at hx hy ⊢; subst hx; subst hy
  cases b <;> rfl
 ·cases hq
  simp only [VRel] at hx hy ⊢; subst hx; subst hy
  cases b <;> rfl
 ·split at hq <;> cases hq
  ·exact hx
  ·exact hy

theorem qop_rel (h : SRel own ρ s w) {ev : Operand → Option V} {A : Act} (hA : EvRel ρ ev A) {o : Oper} {v : V} {ps : List Bool} (hq : qop P s ev o.op = some (ps, v)) (hp : allB ps) :
  ∃ X, (execOp A.eval o).run P w = .ok (.value X) w ∧ VRel ρ v X := by
 unfold qop at hq
 unfold execOp
 split at hq <;> rename_i heq <;> simp only [heq]
 ·exact ⟨_, rfl, evalO_rel hA (okO_some hq).1⟩
 ·exact ⟨_, rfl, evalO_rel hA (okO_some hq).1⟩
 ·split at hq
  ·rename_i hc hx hy
   have h1 := evalO_rel hA hc
   simp only [VRel] at h1
   exact ⟨_, by simp [h1, asBool], pickV_rel (okO_some hq).1 (evalO_rel hA hx) (evalO_rel hA hy)⟩
  ·cases hq
 ·split at hq
  ·rename_i hv
   obtain ⟨X, h1, h2⟩ := qLoad_rel h hq hp (evalO_rel hA hv)
   exact ⟨X, by simp [h1], h2⟩
  ·cases hq
 ·split at hq
  ·rename_i hv
   cases hq
   have := evalO_rel hA hv
   refine ⟨_, ?_, this⟩
   simp only [VRel] at this
   obtain ⟨B, O, S, _, e⟩ := this
   simp [e]
  ·rename_i hv
   cases hq
   have := evalO_rel hA hv
   refine ⟨_, ?_, this⟩
   simp only [VRel] at this
   obtain ⟨B, O, e, _⟩ := this
   simp [e]
  ·rename_i hv
   cases hq
   have := evalO_rel hA hv
   refine ⟨_, ?_, this⟩
   simp only [VRel] at this
   obtain ⟨B, O, S, _, e⟩ := this
   simp [e]
  ·rename_i hv
   cases hq
   have := evalO_rel hA hv
   refine ⟨_, ?_, this⟩
   simp only [VRel] at this
   obtain ⟨B, O, e, _⟩ := this
   simp [e]
  ·rename_i hv
   cases hq
   have := evalO_rel hA hv
   refine ⟨_, ?_, this⟩
   simp only [VRel] at this
   obtain ⟨B, O, S, _, e⟩ := this
   simp [e]
  ·cases hq
 ·split at hq
  ·rename_i x y _ _ _ a b hx hy
   obtain ⟨X, h1, h2⟩ := qBin_rel h hq hp (evalO_rel hA hx) (evalO_rel hA hy) x y
   refine ⟨X, ?_, h2⟩
   rw [Sem.run_bind, h1]
   rfl
  ·cases hq
 ·split at hq
  ·rename_i hv
   obtain ⟨X, h1, h2⟩ := qUn_rel (P := P) (w := w) (okO_some hq).1 (evalO_rel hA hv)
   exact ⟨X, by simp [h1], h2⟩
  ·cases hq
 ·split at hq
  ·rename_i hv
   obtain ⟨X, h1, h2⟩ := qConv_rel h hq hp (evalO_rel hA hv)
   exact ⟨X, by simp [h1], h2⟩
  ·cases hq
 ·split at hq
  ·cases hq
  ·rename_i t x _ d hne hd
   split at hq
   ·rename_i hv
    cases hq
    refine ⟨.iface _ _, ?_, by simp only [VRel]; exact ⟨_, rfl, evalO_rel hA hv⟩⟩
    have : (Instr.makeInterface t (A.eval x)).run P w = .ok (.iface t (A.eval x)) w := by
     simp only [Instr.makeInterface, Sem.run_bind, run_und hd, Result.andThen_ok]
     cases d <;> first | rfl | exact absurd rfl (hne _)
    simp [this]
   ·cases hq
  ·cases hq
 ·split at hq
  ·split at hq
   ·rename_i h1 h2
    cases hq
    refine ⟨_, by simp [Instr.makeFunc]; rfl, ?_⟩
    simp only [VRel]
    exact ⟨_, _, rfl, by rw [map_toList]; exact evalOs_rel hA h1, by rw [map_toList]; exact evalOs_rel hA h2⟩
   ·cases hq
  ·cases hq
 ·split at hq
  ·rename_i h1 h2 h3 h4
   obtain ⟨X, e1, e2⟩ := qSlice_rel h hq hp (evalO_rel hA h1) (optO_rel hA h2) (optO_rel hA h3) (optO_rel hA h4)
   exact ⟨X, by simp [e1], e2⟩
  ·cases hq
 ·split at hq
  ·rename_i hv
   obtain ⟨X, h1, h2⟩ := qFieldAddr_rel (w := w) (okO_some hq).1 (evalO_rel hA hv)
   exact ⟨X, by simp [h1], h2⟩
  ·cases hq
 ·split at hq
  ·rename_i hv
   obtain ⟨X, h1, h2⟩ := qField_rel (w := w) (okO_some hq).1 (evalO_rel hA hv)
   exact ⟨X, by simp [h1], h2⟩
  ·cases hq
 ·split at hq
  ·rename_i hx hy
   obtain ⟨X, h1, h2⟩ := qIndexAddr_rel (w := w) hq hp (evalO_rel hA hx) (evalO_rel hA hy)
   exact ⟨X, by simp [h1], h2⟩
  ·cases hq
 ·split at hq
  ·rename_i hx hy
   obtain ⟨X, h1, h2⟩ := qIndex_rel (w := w) hq hp (evalO_rel hA hx) (evalO_rel hA hy)
   exact ⟨X, by simp [h1], h2⟩
  ·cases hq
 ·split at hq
  ·rename_i hx hy
   obtain ⟨X, h1, h2⟩ := qLookup2_rel h (okO_some hq).1 (evalO_rel hA hx) (evalO_rel hA hy)
   exact ⟨X, by simp [h1], h2⟩
  ·cases hq
 ·split at hq
  ·rename_i hv
   have := evalParts_rel hA hv
   obtain ⟨X, h1, h2⟩ := qBuild_rel (w := w) (okO_some hq).1 (Ps := _) (by rw [map_toList]; exact this)
   refine ⟨X, ?_, h2⟩
   simp [h1]
  ·cases hq
 ·split at hq
  ·rename_i hv
   have := evalO_rel hA hv
   simp only [VRel] at this
   obtain ⟨cs, e, hl⟩ := this
   have hq := (okO_some hq).1
   rw [lget_eq] at hq
   obtain ⟨X, h1, h2⟩ := hl.get hq
   simp only [Array.getElem?_toList] at h1
   exact ⟨X, by simp [Instr.extract, e, h1], h2⟩
  ·cases hq
 ·split at hq
  ·rename_i hv
   have hk := fun xt => qAssert_rel (w := w) xt (okO_some hq).1 (evalO_rel hA hv)
   rename_i xt _ _ _ _
   obtain ⟨X, h1, h2⟩ := hk xt
   exact ⟨X, by simp [h1], h2⟩
  ·cases hq
 ·split at hq
  ·rename_i hc
   split at hq
   ·rename_i vs hvs
    have := evalOs_rel hA hvs
    rw [← map_toList] at this
    obtain ⟨X, h1, h2⟩ := qBuiltin_rel h (okO_some hq).1 this o.type _
    exact ⟨X, by simp only [resolve, hc, Sem.run_bind, Sem.run_pure, Result.andThen_ok, invoke]; exact h1, h2⟩
   ·cases hq
  ·cases hq
 ·cases hq

end
end Go.Sym
end

noncomputable section
namespace Go.Sym

abbrev Er := Option (List Bool × V × St)
abbrev Es := Option (List Bool × St)
noncomputable section
variable (P : Program)

def arrTy (t : TypeId) : Option (Nat × List Ty) :=
 match P.underlying t with
 | some (.array n el) => match rowTyE P 9 el, szE P el with
  | some e, some z => bif Nat.beq z e.length && (Nat.ble 1 z && match szE P t with
    | some zt => Nat.beq zt (n * e.length)
    | none => false) then some (n, e) else none
  | _, _ => none
 | _ => none
def arrRows (n : Nat) (e : List Ty) (v : V) : Option (List (rowDen e)) :=
 match v with
 | .arr e' L => asL e e' L
 | .agg l => ofRows e n l
 | _ => none

def eStore (s : St) (t : TypeId) (a v : V) : Es :=
 match a with
 | .ptr b o => match s.heap.get b with
  | some (.cells cs t' ish) => match szE P t, cellsO v with
   | some n, some c => bif Nat.beq (llen c) n && (Nat.ble (o + n) (llen cs) && lall oneV c) then some ([], s.upd b (.cells (setAll cs o c) t' ish)) else none
   | _, _ => none
  | _ => none
 | .rptr b i j es => match s.heap.get b with
  | some (.rows e L t' ish) => bif !Nat.beq es e.length then none else
   match arrTy P t with
   | some (n, e2) => match i, j with
    | 0, 0 => bif !beqL e2 e then none else (match arrRows n e v with
      | some M => some ([decide (M.length = n), decide (L.length = n)], s.upd b (.rows e M t' ish))
      | none => none)
    | _, _ => none
   | none => match szE P t, cellsO v with
    | some n, some c => bif Nat.beq (llen c) n && (Nat.ble (j + n) es && lall oneV c) then (match ofRow e (setAll (rowV e (rowAt e L i)) j c) with
      | some r => some ([decide (i < L.length)], s.upd b (.rows e (L.set i r) t' ish))
      | none => none) else none
    | _, _ => none
  | _ => none
 | _ => none

inductive Mk where
 | cells (cs : List V) (t : TypeId) (sl : Option (Nat × Nat × Nat))
 | rows (e : List Ty) (L : List (rowDen e)) (t : TypeId) (sl : Option (Nat × Nat))
def Mk.val : Mk → Nat → V
 | .cells _ _ none, b => .ptr b 0
 | .cells _ _ (some (l, c, es)), b => .sl b 0 l c true es
 | .rows e _ _ none, b => .rptr b 0 0 e.length
 | .rows e _ _ (some (l, c)), b => .rs b 0 l c true e.length
def Mk.obj : Mk → EObj
 | .cells cs t _ => .cells cs t false
 | .rows e L t _ => .rows e L t false
def mkNew (s : St) : Option (List Bool × Mk) → Er
 | some (c, m) => some (c, m.val s.next, s.new m.obj)
 | none => none
def mBox (t : TypeId) (v : V) : Option (List Bool × Mk) :=
 match arrTy P t with
 | some (n, e) => match arrRows n e v with
  | some L => some ([], .rows e L t none)
  | none => none
 | none => match cellsO v with
  | some c => some ([], .cells c t none)
  | none => none
def mAlloc (t : TypeId) : Option (List Bool × Mk) :=
 match zeroE P t with
 | some z => mBox P t z
 | none => none
def eAlloc (s : St) (t : TypeId) : Er := mkNew s (mAlloc P t)
def eBox (s : St) (t : TypeId) (v : V) : Er := mkNew s (mBox P t v)

def repE : Nat → List V → List V
 | 0, _ => []
 | n + 1, zs => lapp zs (repE n zs)

def rowTy (el : TypeId) : Option (List Ty) :=
 match rowTyE P 9 el, szE P el with
 | some e, some z => bif Nat.beq z e.length && Nat.ble 1 z then some e else none
 | _, _ => none
def mRows (el : TypeId) (len : Nat) (cs : List V) (sz : Nat) : Mk :=
 match rowTy P el with
 | some e => bif Nat.beq e.length sz then (match ofRows e len cs with
   | some L => .rows e L el (some (len, len))
   | none => .cells cs el (some (len, len, sz))) else .cells cs el (some (len, len, sz))
 | none => .cells cs el (some (len, len, sz))
def mBuildSlice (t : TypeId) (len : Nat) (parts : List (Nat × V)) : Option (List Bool × Mk) :=
 match P.underlying t with
 | some (.slice e) => match szE P e, zeroE P e with
  | some sz, some zv => match cellsO zv with
   | some z =>
    bif Nat.beq (llen z) sz && (Nat.ble (len * sz) 16777216 && Nat.ble 1 sz) then
     (match fillE (fun i => some (i * sz, sz)) (repE len z) parts with
     | some cs => some ([], mRows P e len cs sz)
     | none => none) else none
   | none => none
  | _, _ => none
 | _ => none
def eBuildSlice (s : St) (t : TypeId) (len : Nat) (parts : List (Nat × V)) : Er := mkNew s (mBuildSlice P t len parts)

def mMakeSlice (t : TypeId) (len cap : V) : Option (List Bool × Mk) :=
 match P.underlying t, natOf len, natOf cap with
 | some (.slice el), some (cl, l), some (cc, c) => match P.info? el, zeroE P el with
  | some i, some zv => match cellsO zv with
   | some z =>
    bif Nat.beq (llen z) i.size && Nat.ble 1 i.size then
     (match rowTy P el with
     | some e => bif Nat.beq e.length i.size then (match ofRow e z with
       | some r => some (cl ++ (cc ++ [decide (l ≤ c), decide (c ≤ 281474976710656), decide (i.bytes * c ≤ 281474976710656)]), .rows e (List.replicate c r) el (some (l, c)))
       | none => none) else none
     | none => some (cl ++ (cc ++ [decide (l ≤ c), decide (c ≤ 281474976710656), decide (i.bytes * c ≤ 281474976710656)]), .cells (repE c z) el (some (l, c, i.size)))) else none
   | none => none
  | _, _ => none
 | _, _, _ => none
def eMakeSlice (s : St) (t : TypeId) (len cap : V) : Er := mkNew s (mMakeSlice P t len cap)

def eBytes (s : St) (src dst : TypeId) (a : V) : Er :=
 match P.underlying src, P.underlying dst, a with
 | some _, some (.slice e), .str x => match P.underlying e with
  | some (.int .u8) => some ([], .rs s.next 0 x.size x.size false 1, s.new (.rows [.int .u8] (bytesL x) e true))
  | _ => none
 | _, _, _ => none
end

section
variable {P : Program} {own : Own} {ρ : Env} {s : St} {w : World}

def CP (ρ : Env) (O : Nat) (cs : List V) (C : Array Value) : Prop := ∀ (i : Nat) (v : V), cs[i]? = some v → ∃ W, C[O + i]? = some W ∧ VRel ρ v W
def setA : Array Value → Nat → List Value → Array Value
 | C, _, [] => C
 | C, o, v :: l => setA (C.setIfInBounds o v) (o + 1) l
theorem setA_size : ∀ (l : List Value) (C : Array Value) (o : Nat), (setA C o l).size = C.size
 | [], _, _ => rfl
 | v :: l, C, o => by simp [setA, setA_size l]

theorem CP.set {O : Nat} {cs : List V} {C : Array Value} (h : CP ρ O cs C) {v : V} {X : Value} (hv : VRel ρ v X) {o : Nat} (ho : O + o < C.size) : CP ρ O (cs.set o v) (C.setIfInBounds (O + o) X) := by
 intro i u hi
 rw [List.getElem?_set] at hi
 rw [Array.getElem?_setIfInBounds]
 by_cases e : o = i
 ·subst e
  simp only [if_true] at hi ⊢
  split at hi
  ·cases hi; exact ⟨X, by simp [ho], hv⟩
  ·cases hi
 ·rw [if_neg e] at hi
  rw [if_neg (by omega)]
  exact h i u hi

theorem CP.setAll {O : Nat} : ∀ {l : List V} {L : List Value}, LRel ρ l L → ∀ {cs : List V} {C : Array Value}, CP ρ O cs C → ∀ {o : Nat}, O + o + l.length ≤ C.size → CP ρ O (setAll cs o l) (setA C (O + o) L)
 | [], L, hl, cs, C, h, o, ho => by
  have hl : L = [] := hl
  subst hl; exact h
 | v :: l, L, hl, cs, C, h, o, ho => by
  obtain ⟨X, Y, rfl, h1, h2⟩ := hl
  simp only [List.length_cons] at ho
  have := CP.setAll h2 (h.set h1 (o := o) (by omega)) (o := o + 1) (by simp; omega)
  rw [← lset_eq] at this
  exact this

theorem oneV_rel {v : V} {X : Value} (h : VRel ρ v X) (ho : oneV v = true) : X.oneCell' = true := by
 cases v <;> simp only [oneV, Bool.false_eq_true] at ho <;> simp only [VRel] at h
 all_goals first
  | (subst h; rfl)
  | (obtain ⟨_, _, _, _, rfl⟩ := h; rfl)
  | (obtain ⟨_, _, _, _, _, rfl, _⟩ := h; rfl)
  | (obtain ⟨_, _, rfl⟩ := h; rfl)
  | (obtain ⟨_, _, rfl, _⟩ := h; rfl)
  | (obtain ⟨_, rfl, _⟩ := h; rfl)
theorem allOne_rel : ∀ {l : List V} {L : List Value}, LRel ρ l L → l.all oneV = true → ∀ X ∈ L, X.oneCell' = true
 | [], L, h, _, X, hX => by have h : L = [] := h; subst h; cases hX
 | v :: l, L, h, ho, X, hX => by
  obtain ⟨Y, Z, rfl, h1, h2⟩ := h
  simp only [List.all_cons, Bool.and_eq_true] at ho
  rcases List.mem_cons.1 hX with rfl | hX
  ·exact oneV_rel h1 ho.1
  ·exact allOne_rel h2 ho.2 X hX

def NotFrozen (S : Nat) (fr : Nat × Nat) : Prop := ∀ k, k < S → (decide (fr.1 ≤ k) && decide (k < fr.2)) = false

theorem set_at {w : World} {B : Nat} {C : Array Value} {t : TypeId} {fr : Nat × Nat} (h : w.heap[B]? = some (.cells C t fr)) (o : Nat) (X : Value) :
  w.setCell ⟨B, o, none⟩ X = { w with heap := w.heap.setIfInBounds B (.cells (C.setIfInBounds o X) t fr) } := by
 simp only [World.setCell]
 congr 1
 apply Array.ext_getElem?
 intro i
 rw [Array.getElem?_modify, Array.getElem?_setIfInBounds]
 have hlt : B < w.heap.size := by
  rcases Nat.lt_or_ge B w.heap.size with hh | hh
  ·exact hh
  ·rw [Array.getElem?_eq_none hh] at h; cases h
 by_cases e : B = i
 ·subst e
  have hh : w.heap[B] = .cells C t fr := by
   rw [Array.getElem?_eq_getElem hlt] at h
   exact Option.some.inj h
  simp [hlt, hh]
 ·simp [e]

theorem run_storeAll {B : Nat} {t : TypeId} {fr : Nat × Nat} : ∀ (vs : List Value) (off i : Nat) (C : Array Value) (w : World), w.heap[B]? = some (.cells C t fr) → NotFrozen C.size fr → off + i + vs.length ≤ C.size →
  (∀ v ∈ vs, v.oneCell' = true) → (storeCells ⟨B, off, none⟩ vs i).run P w = .ok () { w with heap := w.heap.setIfInBounds B (.cells (setA C (off + i) vs) t fr) }
 | [], off, i, C, w, hw, _, _, _ => by
  simp only [storeCells, Sem.run_pure, setA]
  congr 1
  cases w with
  | mk heap tape drawn os output =>
   simp only at hw ⊢
   congr 1
   apply Array.ext_getElem?
   intro k
   rw [Array.getElem?_setIfInBounds]
   split
   ·rename_i e; subst e
    split
    ·exact hw
    ·rename_i hh; rw [Array.getElem?_eq_none (by omega)] at hw; cases hw
   ·rfl
 | v :: vs, off, i, C, w, hw, hf, hl, h1 => by
  simp only [List.length_cons] at hl
  have hlt : off + i < C.size := by omega
  have hc : w.cell? ⟨B, off + i, none⟩ = some C[off + i] := by simp [World.cell?, hw, hlt]
  have hfr : w.frozen? ⟨B, off + i, none⟩ = false := by simp only [World.frozen?, hw]; exact hf _ hlt
  simp only [storeCells, Sem.run_bind, addr_add, run_store P w _ v _ (h1 v (by simp)), hc, hfr, Bool.false_eq_true, if_false, Result.andThen_ok, set_at hw]
  have hB : B < w.heap.size := by
   rcases Nat.lt_or_ge B w.heap.size with hh | hh
   ·exact hh
   ·rw [Array.getElem?_eq_none hh] at hw; cases hw
  have := run_storeAll (B := B) (t := t) (fr := fr) vs off (i + 1) (C.setIfInBounds (off + i) v) { w with heap := w.heap.setIfInBounds B (.cells (C.setIfInBounds (off + i) v) t fr) }
   (by simp [hB]) (by simpa using hf) (by simp; omega) (fun u hu => h1 u (by simp [hu]))
  rw [this]
  simp [setA, Nat.add_assoc]

theorem SRel.cellsObj (h : SRel own ρ s w) {b : Nat} {cs : List V} {t : TypeId} {ish : Bool} (hg : s.heap.get b = some (.cells cs t ish)) {x : Blk} (hx : ρ b = some x) :
  ∃ C t' fr, w.heap[x.B]? = some (.cells C t' fr) ∧ C.size = x.S ∧ x.O + cs.length ≤ x.S ∧ CP ρ x.O cs C ∧ NotFrozen x.S fr ∧ (ish = false → fr = (0, 0)) ∧ (own x.B ∧ ∀ k, ρ.φ x.B k = none) := by
 obtain ⟨y, h1, h2, C, t', fr, h3, h4, h5, h6, h7, h8⟩ := h.obj' hg hx
 rw [hx] at h1; cases h1
 exact ⟨C, t', fr, h3, h4, h5, h6, h7, h8, h2⟩

theorem SRel.write (h : SRel own ρ s w) {b : Nat} {cs : List V} {t : TypeId} {ish : Bool} (hg : s.heap.get b = some (.cells cs t ish)) {x : Blk} (hx : ρ b = some x)
  {o : Nat} {l : List V} {L : List Value} (hl : LRel ρ l L) (ho : o + l.length ≤ cs.length) (h1 : l.all oneV = true) :
  ∃ w', (storeCells ⟨x.B, x.O + o, none⟩ L).run P w = .ok () w' ∧ SRel own ρ (s.upd b (.cells (Sym.setAll cs o l) t ish)) w' ∧ Fr own w w' := by
 obtain ⟨C, t', fr, e1, e2, e3, e4, e5, e6, e7⟩ := h.cellsObj hg hx
 have hlen := hl.length
 have hrun := run_storeAll (P := P) L (x.O + o) 0 C w e1 (by rw [e2]; exact e5) (by omega) (allOne_rel hl h1)
 refine ⟨_, hrun, ?_, fr_set e7.1 rfl⟩
 refine h.upd hg hx _ _ rfl ⟨_, t', fr, rfl, by rw [setA_size]; exact e2, by rw [setAll_length]; exact e3, ?_, e5, e6⟩
 rw [Nat.add_zero]
 exact CP.setAll hl e4 (by omega)

theorem TRel_lst (φ : Nat → Nat → Option Value) (e : List Ty) (L : (Ty.lst e).den) (X : Value) : TRel φ (.lst e) L X ↔ ∃ a c, X = .slice a (List.length (α := rowDen e) L) c ∧ List.length (α := rowDen e) L ≤ c ∧ (a = none → c = 0) ∧
   (0 < List.length (α := rowDen e) L → ∃ B o, a = some ⟨B, o, none⟩ ∧ ∀ i, i < List.length (α := rowDen e) L → CRel φ e (rowAt e L i) (fun j => φ B (o + i * e.length + j))) := by
 rw [TRel]
theorem ofV_rel : ∀ (t : Ty) (v : V) (x : t.den) (X : Value), ofV t v = some x → VRel ρ v X → TRel ρ.φ t x X
 | .int k, v, x, X, h, hv => by
  change ofInt k v = some x at h
  unfold ofInt at h
  split at h
  ·rename_i k' n
   rw [kEq_iff] at h
   by_cases hk : k = k'
   ·subst hk
    simp only [decide_true, cond_true] at h
    cases h
    rw [TRel]; simpa only [VRel] using hv
   ·simp [hk] at h
  ·cases h
 | .bool, v, x, X, h, hv => by
  change ofBool v = some x at h
  unfold ofBool at h
  split at h
  ·cases h
   rw [TRel]; simpa only [VRel] using hv
  ·cases h
 | .str, v, x, X, h, hv => by
  change ofStr v = some x at h
  unfold ofStr at h
  split at h
  ·cases h
   rw [TRel]; simpa only [VRel] using hv
  ·cases h
 | .lst e, v, x, X, h, hv => by
  change ofLst e v = some x at h
  unfold ofLst at h
  split at h
  ·rename_i e' L cl
   obtain ⟨q, e1⟩ := asL_some h
   subst q
   have e1 : x = L := e1
   subst e1
   rw [TRel]
   simp only [VRel] at hv
   obtain ⟨a, c, h1, h2, _, h3, h4⟩ := hv
   exact ⟨a, c, h1, h2, h3, fun hp => let ⟨B, o, g1, g2⟩ := h4 hp; ⟨B, o, g1, fun i hi => by simpa [Nat.add_assoc] using g2 i hi⟩⟩
  ·cases h
   simp only [VRel] at hv
   exact (TRel_lst ρ.φ e _ X).2 ⟨none, 0, hv, Nat.le_refl _, fun _ => rfl, fun hp => absurd hp (Nat.lt_irrefl _)⟩
  ·cases h
theorem pairO_some {α β : Type} {x : Option α} {y : Option β} {r : α × β} (h : pairO x y = some r) : x = some r.1 ∧ y = some r.2 := by
 cases x <;> cases y <;> simp only [pairO, reduceCtorEq, Option.some.injEq] at h
 subst h; exact ⟨rfl, rfl⟩
theorem oneO_some {α : Type} {f : V → Option α} {l : List V} {r : α} (h : oneO f l = some r) : ∃ v, l = [v] ∧ f v = some r := by
 unfold oneO at h
 split at h
 ·exact ⟨_, rfl, h⟩
 ·cases h
theorem consO_some {α β : Type} {f : V → Option α} {g : List V → Option β} {l : List V} {r : α × β} (h : consO f g l = some r) : ∃ v vs, l = v :: vs ∧ f v = some r.1 ∧ g vs = some r.2 := by
 unfold consO at h
 split at h
 ·obtain ⟨h1, h2⟩ := pairO_some h
  exact ⟨_, _, rfl, h1, h2⟩
 ·cases h
theorem ofRow_rel : ∀ (e : List Ty) (l : List V) (x : rowDen e), ofRow e l = some x → ∀ {C : Nat → Option Value}, (∀ i v, l[i]? = some v → ∃ W, C i = some W ∧ VRel ρ v W) → CRel ρ.φ e x C
 | [], l, x, h, C, hc => by rw [CRel]; trivial
 | [t], l, x, h, C, hc => by
  obtain ⟨v, rfl, hv⟩ := oneO_some (α := t.den) h
  obtain ⟨W, h1, h2⟩ := hc 0 v rfl
  rw [CRel]
  exact ⟨W, h1, ofV_rel t v x W hv h2⟩
 | t :: u :: ts, l, x, h, C, hc => by
  obtain ⟨v, vs, rfl, ha, hb⟩ := consO_some (α := t.den) (β := rowDen (u :: ts)) h
  obtain ⟨W, h1, h2⟩ := hc 0 v rfl
  rw [CRel]
  exact ⟨⟨W, h1, ofV_rel t v _ W ha h2⟩, ofRow_rel (u :: ts) vs _ hb fun i v' hi => hc (i + 1) v' (by simpa using hi)⟩
theorem ofRow_length : ∀ (e : List Ty) (l : List V) (x : rowDen e), ofRow e l = some x → l.length = e.length
 | [], l, x, h => by
  change nilO l = some x at h
  unfold nilO at h
  split at h
  ·rfl
  ·cases h
 | [t], l, x, h => by
  obtain ⟨v, rfl, hv⟩ := oneO_some (α := t.den) h
  rfl
 | t :: u :: ts, l, x, h => by
  obtain ⟨v, vs, rfl, ha, hb⟩ := consO_some (α := t.den) (β := rowDen (u :: ts)) h
  simp [ofRow_length (u :: ts) vs _ hb]
theorem ofRows_spec (e : List Ty) : ∀ (n : Nat) (l : List V) (L : List (rowDen e)), ofRows e n l = some L → L.length = n ∧ l.length = n * e.length ∧
  ∀ {C : Nat → Option Value}, (∀ i v, l[i]? = some v → ∃ W, C i = some W ∧ VRel ρ v W) → RowsAt ρ.φ e L C
 | 0, l, L, h => by
  simp only [ofRows] at h
  split at h
  ·cases h; exact ⟨rfl, by simp, fun _ i hi => absurd hi (by simp)⟩
  ·cases h
 | n + 1, l, L, h => by
  simp only [ofRows, ltake_eq, ldrop_eq] at h
  split at h
  ·rename_i x y hx hy
   cases h
   obtain ⟨i1, i2, i3⟩ := ofRows_spec e n _ _ hy
   have h1 := ofRow_length _ _ _ hx
   simp only [List.length_take, List.length_drop] at h1 i2
   refine ⟨by simp [i1], by rw [Nat.succ_mul]; omega, fun {C} hc => ?_⟩
   intro i hi
   cases i with
   | zero =>
    refine ofRow_rel e _ x hx fun j v hj => ?_
    have hlt : j < e.length := by
     have := (List.getElem?_eq_some_iff.1 hj).1
     simp at this; omega
    rw [List.getElem?_take_of_lt hlt] at hj
    simpa using hc j v hj
   | succ i =>
    have := i3 (C := fun k => C (e.length + k)) (fun j v hj => by
      rw [List.getElem?_drop] at hj
      exact hc _ v hj) i (by simpa using hi)
    have e2 : rowAt e (x :: y) (i + 1) = rowAt e y i := by simp [rowAt]
    rw [e2]
    refine CRel.mono (fun _ _ _ hv => hv) e _ (fun j v hv => ?_) this
    rw [← hv]; congr 1; rw [Nat.succ_mul]; omega
  ·cases h

theorem CRel.ltφ {φ : Nat → Nat → Option Value} (e : List Ty) (x : rowDen e) {C : Nat → Option Value} (h : CRel φ e x C) : CRel φ e x (fun j => if j < e.length then C j else none) :=
 CRel.lt (ρ := ⟨fun _ => none, 0, φ⟩) e x h
theorem RowsAt.set {φ : Nat → Nat → Option Value} {e : List Ty} {L : List (rowDen e)} {C C' : Nat → Option Value} (h : RowsAt φ e L C) {i : Nat} {r : rowDen e} (hr : CRel φ e r (fun j => C' (i * e.length + j)))
  (hc : ∀ k, k < i * e.length ∨ (i + 1) * e.length ≤ k → C' k = C k) : RowsAt φ e (L.set i r) C' := by
 intro k hk
 simp only [List.length_set] at hk
 by_cases hik : i = k
 ·subst hik
  have : rowAt e (L.set i r) i = r := by simp [rowAt, hk]
  rw [this]; exact hr
 ·have : rowAt e (L.set i r) k = rowAt e L k := by simp [rowAt, List.getD_eq_getElem?_getD, List.getElem?_set_ne hik]
  rw [this]
  refine CRel.mono (fun _ _ _ hv => hv) e _ (fun j v hv => ?_) (CRel.ltφ e _ (h k hk))
  split at hv
  ·rename_i hj
   rw [hc _ ?_]; exact hv
   rcases Nat.lt_or_gt_of_ne hik with hh | hh
   ·right
    have := Nat.mul_le_mul_right e.length (show i + 1 ≤ k from hh); omega
   ·left
    have := Nat.mul_le_mul_right e.length (show k + 1 ≤ i from hh)
    rw [Nat.succ_mul] at this; omega
  ·cases hv

theorem arrTy_spec {t : TypeId} {n : Nat} {e : List Ty} (h : arrTy P t = some (n, e)) : ∃ el, P.underlying t = some (.array n el) ∧ szE P el = some e.length ∧ szE P t = some (n * e.length) ∧ 1 ≤ e.length := by
 unfold arrTy at h
 split at h
 ·rename_i n' el hd
  split at h
  ·rename_i e' z he hz
   cases hb : (Nat.beq z e'.length && (Nat.ble 1 z && match szE P t with
     | some zt => Nat.beq zt (n' * e'.length)
     | none => false)) with
   | false => rw [hb] at h; cases h
   | true =>
    rw [hb, cond_true] at h
    cases h
    simp only [Bool.and_eq_true, Nat.beq_eq, Nat.ble_eq] at hb
    obtain ⟨b1, b2, b3⟩ := hb
    split at b3
    ·rename_i zt hzt
     have b3 := Nat.eq_of_beq_eq_true b3
     refine ⟨el, hd, by rw [hz, b1], by rw [hzt, b3], by omega⟩
    ·cases b3
  ·cases h
 ·cases h

theorem arrRows_rel {n : Nat} {e : List Ty} {v : V} {M : List (rowDen e)} (h : arrRows n e v = some M) {X : Value} (hv : VRel ρ v X) : ∃ A, X = .agg A ∧ A.size = M.length * e.length ∧ RowsAt ρ.φ e M (fun k => A[k]?) := by
 unfold arrRows at h
 split at h
 ·rename_i e' L
  obtain ⟨q, rfl⟩ := asL_some h
  subst q
  simp only [VRel] at hv
  exact hv
 ·rename_i l
  simp only [VRel] at hv
  obtain ⟨A, rfl, hl⟩ := hv
  obtain ⟨h1, h2, h3⟩ := ofRows_spec (ρ := ρ) e n l M h
  have hlen := hl.length
  simp only [Array.length_toList] at hlen
  refine ⟨A, rfl, by rw [← hlen, h2, h1], h3 fun i u hi => ?_⟩
  obtain ⟨W, g1, g2⟩ := hl.get hi
  exact ⟨W, by simpa using g1, g2⟩
 ·cases h

theorem setA_get : ∀ (l : List Value) (C : Array Value) (p k : Nat), p + l.length ≤ C.size → (setA C p l)[k]? = if p ≤ k ∧ k < p + l.length then l[k - p]? else C[k]? := by
 intro l
 induction l with
 | nil => intro C p k _; simp [setA]; omega
 | cons c l ih =>
  intro C p k hp
  simp only [List.length_cons] at hp ⊢
  simp only [setA]
  rw [ih _ _ _ (by simp; omega)]
  by_cases hk : k = p
  ·subst hk
   rw [if_neg (by omega), if_pos (by omega), Array.getElem?_setIfInBounds_self_of_lt (by omega)]
   simp
  ·by_cases hk2 : p + 1 ≤ k ∧ k < p + 1 + l.length
   ·rw [if_pos hk2, if_pos (by omega)]
    obtain ⟨d, rfl⟩ : ∃ d, k = p + 1 + d := ⟨k - (p + 1), by omega⟩
    rw [show p + 1 + d - (p + 1) = d from by omega, show p + 1 + d - p = d + 1 from by omega]
    simp
   ·rw [if_neg hk2, if_neg (by omega), Array.getElem?_setIfInBounds_ne (by omega)]

theorem SRel.rowsObj (h : SRel own ρ s w) {b : Nat} {e : List Ty} {L : List (rowDen e)} {t : TypeId} {ish : Bool} (hg : s.heap.get b = some (.rows e L t ish)) {x : Blk} (hx : ρ b = some x) :
  ∃ C t' fr, w.heap[x.B]? = some (.cells C t' fr) ∧ C.size = x.S ∧ x.O + L.length * e.length ≤ x.S ∧ RowsAt ρ.φ e L (fun k => C[x.O + k]?) ∧ NotFrozen x.S fr ∧ (ish = false → fr = (0, 0)) ∧ (own x.B ∧ ∀ k, ρ.φ x.B k = none) := by
 obtain ⟨y, h1, h2, C, t', fr, h3, h4, h5, h6, h7, h8⟩ := h.obj' hg hx
 rw [hx] at h1; cases h1
 exact ⟨C, t', fr, h3, h4, h5, h6, h7, h8, h2⟩

def Ones (L : List Value) : Prop := ∀ X ∈ L, X.oneCell' = true
theorem TRel.one {φ : Nat → Nat → Option Value} : ∀ (t : Ty) (x : t.den) (X : Value), TRel φ t x X → X.oneCell' = true
 | .int k, n, X, h => by rw [TRel] at h; subst h; rfl
 | .bool, b, X, h => by rw [TRel] at h; subst h; rfl
 | .str, s, X, h => by rw [TRel] at h; subst h; rfl
 | .lst e, L, X, h => by rw [TRel] at h; obtain ⟨a, c, rfl, _⟩ := h; rfl
theorem CRel.one {φ : Nat → Nat → Option Value} : ∀ (e : List Ty) (x : rowDen e) (C : Nat → Option Value), CRel φ e x C → ∀ j X, j < e.length → C j = some X → X.oneCell' = true
 | [], _, _, _, j, X, hj, _ => by simp at hj
 | [t], x, C, h, j, X, hj, hX => by
  rw [CRel] at h
  obtain ⟨Y, h1, h2⟩ := h
  have : j = 0 := by simpa using hj
  subst this
  rw [h1] at hX; cases hX
  exact TRel.one t _ _ h2
 | t :: u :: ts, x, C, h, j, X, hj, hX => by
  rw [CRel] at h
  obtain ⟨⟨Y, h1, h2⟩, h3⟩ := h
  cases j with
  | zero => rw [h1] at hX; cases hX; exact TRel.one t _ _ h2
  | succ j => exact CRel.one (u :: ts) x.2 _ h3 j X (by simpa using hj) hX
theorem CRel.some {φ : Nat → Nat → Option Value} : ∀ (e : List Ty) (x : rowDen e) (C : Nat → Option Value), CRel φ e x C → ∀ j, j < e.length → ∃ X, C j = some X
 | [], _, _, _, j, hj => by simp at hj
 | [t], x, C, h, j, hj => by
  rw [CRel] at h
  obtain ⟨Y, h1, h2⟩ := h
  have : j = 0 := by simpa using hj
  subst this
  exact ⟨_, h1⟩
 | t :: u :: ts, x, C, h, j, hj => by
  rw [CRel] at h
  obtain ⟨⟨Y, h1, h2⟩, h3⟩ := h
  cases j with
  | zero => exact ⟨_, h1⟩
  | succ j => exact CRel.some (u :: ts) x.2 _ h3 j (by simpa using hj)
theorem RowsAt.cell {φ : Nat → Nat → Option Value} {e : List Ty} {L : List (rowDen e)} {C : Nat → Option Value} (h : RowsAt φ e L C) {k : Nat} (hk : k < L.length * e.length) : ∃ X, C k = some X ∧ X.oneCell' = true := by
 have he0 : 0 < e.length := by
  rcases Nat.eq_zero_or_pos e.length with h0 | h0
  ·rw [h0] at hk; simp at hk
  ·exact h0
 have hkk : k / e.length < L.length := (Nat.div_lt_iff_lt_mul he0).2 hk
 have hm := Nat.mod_lt k he0
 obtain ⟨X, hX⟩ := CRel.some e _ _ (h _ hkk) _ hm
 have e2 : k / e.length * e.length + k % e.length = k := by rw [Nat.mul_comm]; exact Nat.div_add_mod k e.length
 refine ⟨X, ?_, CRel.one e _ _ (h _ hkk) _ X hm hX⟩
 simpa [e2] using hX
theorem RowsAt.list {φ : Nat → Nat → Option Value} {e : List Ty} {L : List (rowDen e)} {C : Nat → Option Value} (h : RowsAt φ e L C) :
  ∃ V : List Value, V.length = L.length * e.length ∧ (∀ k X, V[k]? = some X → C k = some X) ∧ RowsAt φ e L (fun k => V[k]?) ∧ Ones V := by
 have hex : ∀ k, k < L.length * e.length → ∃ X, C k = some X ∧ X.oneCell' = true := fun k hk => h.cell hk
 refine ⟨(List.range (L.length * e.length)).map fun k => if hk : k < L.length * e.length then (hex k hk).choose else undef, by simp, ?_, ?_, ?_⟩
 ·intro k X hX
  have hk : k < L.length * e.length := by
   have := (List.getElem?_eq_some_iff.1 hX).1
   simpa using this
  rw [List.getElem?_map, List.getElem?_range hk] at hX
  simp only [Option.map_some, hk, dif_pos, Option.some.injEq] at hX
  subst hX
  exact (hex k hk).choose_spec.1
 ·intro i hi
  refine CRel.mono (fun _ _ _ hv => hv) e _ (fun j v hv => ?_) (CRel.ltφ e _ (h i hi))
  split at hv
  ·rename_i hj
   have hk : i * e.length + j < L.length * e.length := by
    have h1 : (i + 1) * e.length ≤ L.length * e.length := Nat.mul_le_mul_right _ hi
    rw [Nat.succ_mul] at h1; omega
   show ((List.range (L.length * e.length)).map _)[i * e.length + j]? = _
   rw [List.getElem?_map, List.getElem?_range hk]
   simp only [Option.map_some, hk, dif_pos]
   rw [← (hex _ hk).choose_spec.1]
   exact hv
  ·cases hv
 ·intro X hX
  obtain ⟨k, hk, rfl⟩ := List.mem_map.1 hX
  have hk : k < L.length * e.length := by simpa using hk
  simp only [hk, dif_pos]
  exact (hex k hk).choose_spec.2

theorem SRel.writeRows (h : SRel own ρ s w) {b : Nat} {e : List Ty} {L : List (rowDen e)} {t : TypeId} {ish : Bool} (hg : s.heap.get b = some (.rows e L t ish)) {x : Blk} (hx : ρ b = some x)
  {o : Nat} {V : List Value} (ho : o + V.length ≤ L.length * e.length) (h1 : Ones V) {M : List (rowDen e)} (hM : M.length * e.length ≤ L.length * e.length)
  (hrel : ∀ C C' : Array Value, RowsAt ρ.φ e L (fun k => C[x.O + k]?) → (∀ k, C'[x.O + k]? = if o ≤ k ∧ k < o + V.length then V[k - o]? else C[x.O + k]?) → RowsAt ρ.φ e M (fun k => C'[x.O + k]?)) :
  ∃ w', (storeCells ⟨x.B, x.O + o, none⟩ V).run P w = .ok () w' ∧ SRel own ρ (s.upd b (.rows e M t ish)) w' ∧ Fr own w w' := by
 obtain ⟨C, t', fr, e1, e2, e3, e4, e5, e6, e7⟩ := h.rowsObj hg hx
 have hrun := run_storeAll (P := P) V (x.O + o) 0 C w e1 (by rw [e2]; exact e5) (by omega) h1
 refine ⟨_, hrun, ?_, fr_set e7.1 rfl⟩
 refine h.upd hg hx _ _ rfl ⟨_, t', fr, rfl, by rw [setA_size]; exact e2, by omega, ?_, e5, e6⟩
 rw [Nat.add_zero]
 refine hrel C _ e4 fun k => ?_
 rw [setA_get _ _ _ _ (by omega)]
 by_cases hk : o ≤ k ∧ k < o + V.length
 ·rw [if_pos hk, if_pos (by omega)]; congr 1; omega
 ·rw [if_neg hk, if_neg (by omega)]

theorem eStore_rel (h : SRel own ρ s w) {t : TypeId} {a v : V} {s' : St} {ps : List Bool} (hq : eStore P s t a v = some (ps, s')) (hp : allB ps) {A X : Value} (ha : VRel ρ a A) (hv : VRel ρ v X) :
  ∃ w', (Instr.storeAt t A X).run P w = .ok () w' ∧ SRel own ρ s' w' ∧ Fr own w w' := by
 unfold eStore at hq
 simp only [llen_eq, lall_eq, ltake_eq, ldrop_eq, lapp_eq, lget_eq] at hq
 split at hq
 ·rename_i b o
  split at hq
  ·rename_i cs t' ish hg
   split at hq
   ·rename_i n c hn hcv
    cases hb : (Nat.beq c.length n && (Nat.ble (o + n) cs.length && c.all oneV)) with
    | false => simp [hb] at hq
    | true =>
     simp only [hb, cond_true] at hq
     cases hq
     simp only [Bool.and_eq_true, Nat.ble_eq, Nat.beq_eq] at hb
     simp only [VRel] at ha
     obtain ⟨B, O, S, hB, rfl⟩ := ha
     have hc := cellsO_rel hcv hv
     obtain ⟨w', h1, h2, h3⟩ := h.write (P := P) hg hB hc (o := o) (by omega) hb.2.2
     refine ⟨w', ?_, h2, h3⟩
     have hl := hc.length
     simp only [Array.length_toList] at hl
     have : ¬ X.cells.size ≠ n := by omega
     simp only at h1
     simp [Instr.storeAt, Instr.sureAddr, storeVar, run_size hn, this, h1]
   ·cases hq
  ·cases hq
 ·rename_i b i j es
  split at hq
  ·rename_i e L t' ish hg
   cases hes : Nat.beq es e.length with
   | false => rw [hes] at hq; cases hq
   | true =>
   have he := Nat.eq_of_beq_eq_true hes
   subst he
   simp only [hes, Bool.not_true, cond_false] at hq
   simp only [VRel] at ha
   obtain ⟨B, O, S, hB, rfl⟩ := ha
   split at hq
   ·rename_i n e2 hat
    split at hq
    ·cases hbe : beqL e2 e with
     | false => rw [hbe] at hq; cases hq
     | true =>
     have := beqL_eq _ _ hbe
     subst this
     simp only [hbe, Bool.not_true, cond_false] at hq
     split at hq
     ·rename_i M hM
      cases hq
      obtain ⟨p1, p2, _⟩ := hp
      simp only [decide_eq_true_eq] at p1 p2
      obtain ⟨el, _, _, hsz, _⟩ := arrTy_spec hat
      obtain ⟨A, rfl, hA, hr⟩ := arrRows_rel hM hv
      obtain ⟨w', g1, g2, g3⟩ := h.writeRows (P := P) hg hB (o := 0) (V := A.toList) (by simp [hA, p1, p2]) (fun X hX => by
        obtain ⟨k, hk⟩ := List.mem_iff_getElem?.1 hX
        have hlt : k < M.length * e2.length := by
          have := (List.getElem?_eq_some_iff.1 hk).1
          simpa [hA] using this
        obtain ⟨Y, q1, q2⟩ := hr.cell hlt
        rw [Array.getElem?_toList, q1] at hk
        cases hk; exact q2) (M := M) (by rw [p1, p2]; exact Nat.le_refl _) (fun C C' _ hC => by
        refine RowsAt.mono (fun _ _ _ hv => hv) (fun k u hu => ?_) hr
        have hk : k < A.size := (Array.getElem?_eq_some_iff.1 hu).1
        show C'[O + k]? = _
        have := hC k
        rw [this, if_pos (by simp; omega)]
        simpa using hu)
      refine ⟨w', ?_, g2, g3⟩
      simp only [Nat.add_zero] at g1
      have hne : ¬ A.size ≠ n * e2.length := by rw [hA, p1]; simp
      simp [Instr.storeAt, Instr.sureAddr, storeVar, run_size hsz, Value.cells, hne, g1]
     ·cases hq
    ·cases hq
   ·split at hq
    ·rename_i n c hn hcv
     cases hb : (Nat.beq c.length n && (Nat.ble (j + n) e.length && c.all oneV)) with
     | false => rw [hb] at hq; cases hq
     | true =>
     rw [hb, cond_true] at hq
     simp only [Bool.and_eq_true, Nat.ble_eq, Nat.beq_eq] at hb
     split at hq
     ·rename_i r hr
      cases hq
      have hi : i < L.length := by simpa using hp.1
      have hc := cellsO_rel hcv hv
      have hl := hc.length
      simp only [Array.length_toList] at hl
      have hmul : (i + 1) * e.length ≤ L.length * e.length := Nat.mul_le_mul_right _ hi
      rw [Nat.succ_mul] at hmul
      obtain ⟨w', g1, g2, g3⟩ := h.writeRows (P := P) hg hB (o := i * e.length + j) (V := X.cells.toList) (by simp; omega) (allOne_rel hc hb.2.2) (M := L.set i r) (by simp) (fun C C' hC hC' => by
        refine hC.set ?_ ?_
        · refine ofRow_rel e _ r hr fun k u hk => ?_
          have hrow := rowV_get (ρ := ρ) e _ (hC i hi)
          have hlr := rowV_length e (rowAt e L i)
          have sg : ∀ (l cs : List V) (off k : Nat), off + l.length ≤ cs.length → (Sym.setAll cs off l)[k]? = if off ≤ k ∧ k < off + l.length then l[k - off]? else cs[k]? := by
            intro l
            induction l with
            | nil => intro cs off k _; simp [Sym.setAll]; omega
            | cons c l ih =>
              intro cs off k ho
              simp only [List.length_cons] at ho ⊢
              simp only [Sym.setAll, lset_eq]
              rw [ih _ _ _ (by simp; omega)]
              by_cases hk : k = off
              · subst hk
                rw [if_neg (by omega), if_pos (by omega), List.getElem?_set_self (by omega)]
                simp
              · by_cases hk2 : off + 1 ≤ k ∧ k < off + 1 + l.length
                · rw [if_pos hk2, if_pos (by omega)]
                  obtain ⟨d, rfl⟩ : ∃ d, k = off + 1 + d := ⟨k - (off + 1), by omega⟩
                  rw [show off + 1 + d - (off + 1) = d from by omega, show off + 1 + d - off = d + 1 from by omega]
                  simp
                · rw [if_neg hk2, if_neg (by omega), List.getElem?_set_ne (by omega)]
          rw [sg _ _ _ _ (by omega)] at hk
          have hck := hC' (i * e.length + k)
          simp only at hck
          rw [hck]
          by_cases hjk : j ≤ k ∧ k < j + c.length
          · rw [if_pos hjk] at hk
            rw [if_pos (by simp; omega)]
            obtain ⟨W, q1, q2⟩ := hc.get hk
            refine ⟨W, ?_, q2⟩
            rw [show i * e.length + k - (i * e.length + j) = k - j from by omega]
            exact q1
          · rw [if_neg hjk] at hk
            rw [if_neg (by simp; omega)]
            exact hrow k u hk
        · intro k hk
          have hck := hC' k
          simp only at hck
          rw [Nat.succ_mul] at hk
          rw [hck, if_neg (by simp; omega)])
      refine ⟨w', ?_, g2, g3⟩
      have hne : ¬ X.cells.size ≠ n := by omega
      simp only [← Nat.add_assoc] at g1
      simp [Instr.storeAt, Instr.sureAddr, storeVar, run_size hn, hne, g1]
     ·cases hq
    ·cases hq
  ·cases hq
 ·cases hq

end
end Go.Sym
end

noncomputable section
namespace Go.Sym
section
variable {P : Program} {own : Own} {ρ : Env} {s : St} {w : World}

theorem SRel.newCells (h : SRel own ρ s w) {cs : List V} {C : Array Value} (hc : LRel ρ cs C.toList) (t t' : TypeId) :
  ρ.le (ρ.put s.next ⟨w.heap.size, 0, C.size⟩) ∧ SRel own (ρ.put s.next ⟨w.heap.size, 0, C.size⟩) (s.new (.cells cs t false)) { w with heap := w.heap.push (.cells C t') } ∧
   Fr own w { w with heap := w.heap.push (.cells C t') } := by
 have hle := Env.le_put ⟨w.heap.size, 0, C.size⟩ h.fresh
 refine ⟨hle, h.new _ (.cells C t') C.size rfl ⟨C, t', (0, 0), rfl, rfl, ?_, ?_, by simp, fun _ => rfl⟩, fr_new h.le rfl⟩
 ·have := hc.length; simp at this; omega
 ·intro i v hi
  obtain ⟨X, e1, e2⟩ := hc.get hi
  exact ⟨X, by simpa using e1, VRel.mono hle _ _ e2⟩

def OKv (P : Program) (own : Own) (ρ : Env) (m : Sem Value) (w : World) (v : V) (s' : St) : Prop :=
 ∃ ρ' X w', ρ.le ρ' ∧ m.run P w = .ok X w' ∧ VRel ρ' v X ∧ SRel own ρ' s' w' ∧ Fr own w w'

theorem SRel.newRows (h : SRel own ρ s w) {e : List Ty} {L : List (rowDen e)} {C : Array Value} (hs : L.length * e.length ≤ C.size) (hc : RowsAt ρ.φ e L (fun k => C[k]?)) (t t' : TypeId) :
  ρ.le (ρ.put s.next ⟨w.heap.size, 0, C.size⟩) ∧ SRel own (ρ.put s.next ⟨w.heap.size, 0, C.size⟩) (s.new (.rows e L t false)) { w with heap := w.heap.push (.cells C t') } ∧
   Fr own w { w with heap := w.heap.push (.cells C t') } := by
 have hle := Env.le_put ⟨w.heap.size, 0, C.size⟩ h.fresh
 refine ⟨hle, h.new _ (.cells C t') C.size rfl ⟨C, t', (0, 0), rfl, rfl, ?_, ?_, by simp, fun _ => rfl⟩, fr_new h.le rfl⟩
 ·omega
 ·show RowsAt ρ.φ e L (fun k => C[0 + k]?)
  simpa using hc

def MkOK (P : Program) (ρ : Env) (m : Sem Value) (w : World) : Mk → Prop
 | .cells cs t sl => ∃ X C t', m.run P w = .ok X { w with heap := w.heap.push (.cells C t') } ∧ LRel ρ cs C.toList ∧
   ∀ (ρ' : Env) (b : Nat), ρ' b = some ⟨w.heap.size, 0, C.size⟩ → VRel ρ' ((Mk.cells cs t sl).val b) X
 | .rows e L t sl => ∃ X C t', m.run P w = .ok X { w with heap := w.heap.push (.cells C t') } ∧ C.size = L.length * e.length ∧ RowsAt ρ.φ e L (fun k => C[k]?) ∧
   ∀ (ρ' : Env) (b : Nat), ρ' b = some ⟨w.heap.size, 0, C.size⟩ → VRel ρ' ((Mk.rows e L t sl).val b) X
theorem mkNew_rel (h : SRel own ρ s w) {m : Option (List Bool × Mk)} {v : V} {s' : St} {ps : List Bool} (hq : mkNew s m = some (ps, v, s')) (hp : allB ps) {x : Sem Value} (hm : ∀ c k, m = some (c, k) → allB c → MkOK P ρ x w k) : OKv P own ρ x w v s' := by
 unfold mkNew at hq
 split at hq
 ·rename_i c m
  cases hq
  have hm := hm _ _ rfl hp
  cases m with
  | cells cs t sl =>
   obtain ⟨X, C, t', e1, e2, e3⟩ := hm
   obtain ⟨h1, h2, h3⟩ := h.newCells e2 t t'
   exact ⟨_, X, _, h1, e1, e3 _ _ Env.put_same, h2, h3⟩
  | rows e L t sl =>
   obtain ⟨X, C, t', e1, e2, e3, e4⟩ := hm
   obtain ⟨h1, h2, h3⟩ := h.newRows (by omega) e3 t t'
   exact ⟨_, X, _, h1, e1, e4 _ _ Env.put_same, h2, h3⟩
 ·cases hq

theorem mBox_rel {t : TypeId} {v : V} {m : Mk} {c : List Bool} (hq : mBox P t v = some (c, m)) {X : Value} (hv : VRel ρ v X) : MkOK P ρ (Instr.box t X) w m := by
 have run : (Instr.box t X).run P w = .ok (.pointer (some ⟨w.heap.size, 0, none⟩)) { w with heap := w.heap.push (.cells X.cells t) } := by
  simp [Instr.box, newVar, newRow]
 unfold mBox at hq
 split at hq
 ·rename_i n e hat
  split at hq
  ·rename_i L hL
   cases hq
   obtain ⟨A, rfl, h1, h2⟩ := arrRows_rel hL hv
   refine ⟨_, A, t, run, h1, h2, fun ρ' b hb => ?_⟩
   simp only [Mk.val, VRel]
   exact ⟨_, _, _, hb, by simp⟩
  ·cases hq
 ·split at hq
  ·rename_i cc hcc
   cases hq
   refine ⟨_, X.cells, t, run, cellsO_rel hcc hv, fun ρ' b hb => ?_⟩
   simp only [Mk.val, VRel]
   exact ⟨_, _, _, hb, rfl⟩
  ·cases hq
theorem mAlloc_rel {t : TypeId} {m : Mk} {c : List Bool} (hq : mAlloc P t = some (c, m)) : MkOK P ρ (Instr.alloc t true (.tuple #[])) w m := by
 unfold mAlloc at hq
 split at hq
 ·rename_i z hz
  obtain ⟨Z, hZ, hzr, _⟩ := zeroE_rel (ρ := ρ) (w := w) hz
  have hb := mBox_rel (w := w) hq hzr
  have e : (Instr.alloc t true (.tuple #[])).run P w = (Instr.box t Z).run P w := by
   simp only [Instr.alloc, Sem.run_bind, hZ, Result.andThen_ok]
   simp [Instr.box]
  cases m with
  | cells cs t' sl => obtain ⟨X, C, t2, h1, h2⟩ := hb; exact ⟨X, C, t2, by rw [e]; exact h1, h2⟩
  | rows e' L t' sl => obtain ⟨X, C, t2, h1, h2⟩ := hb; exact ⟨X, C, t2, by rw [e]; exact h1, h2⟩
 ·cases hq
theorem eAlloc_rel (h : SRel own ρ s w) {t : TypeId} {v : V} {s' : St} {ps : List Bool} (hq : eAlloc P s t = some (ps, v, s')) (hp : allB ps) : OKv P own ρ (Instr.alloc t true (.tuple #[])) w v s' :=
 mkNew_rel h hq hp fun _ _ h _ => mAlloc_rel h
theorem eBox_rel (h : SRel own ρ s w) {t : TypeId} {v u : V} {s' : St} {ps : List Bool} (hq : eBox P s t v = some (ps, u, s')) (hp : allB ps) {X : Value} (hv : VRel ρ v X) : OKv P own ρ (Instr.box t X) w u s' :=
 mkNew_rel h hq hp fun _ _ h _ => mBox_rel h hv

theorem repE_length : ∀ n (zs : List V), (repE n zs).length = n * zs.length
 | 0, _ => by simp [repE]
 | n + 1, zs => by simp [repE, lapp_eq, repE_length n, Nat.succ_mul, Nat.add_comm]
theorem repE_get : ∀ n (zs : List V) i, i < n * zs.length → (repE n zs)[i]? = zs[i % zs.length]?
 | 0, _, _, h => by simp at h
 | n + 1, zs, i, h => by
  simp only [repE, lapp_eq]
  rcases Nat.lt_or_ge i zs.length with hi | hi
  ·rw [List.getElem?_append_left hi, Nat.mod_eq_of_lt hi]
  ·rw [List.getElem?_append_right hi, repE_get n zs _ (by rw [Nat.succ_mul] at h; omega), ← Nat.mod_eq_sub_mod hi]

theorem range_rep {zs : List V} {Z : Array Value} (hz : LRel ρ zs Z.toList) (n : Nat) : LRel ρ (repE n zs) ((Array.range (n * zs.length)).map (fun i => Z[i % Z.size]!)).toList := by
 have hl := hz.length
 simp only [Array.length_toList] at hl
 refine LRel.of_get (by simp [repE_length]) fun i v hi => ?_
 have hlt : i < n * zs.length := by
  have := (List.getElem?_eq_some_iff.1 hi).1
  rwa [repE_length] at this
 rw [repE_get n zs i hlt] at hi
 obtain ⟨X, h1, h2⟩ := hz.get hi
 simp only [Array.getElem?_toList] at h1
 refine ⟨X, ?_, h2⟩
 simp only [Array.toList_map, Array.toList_range, List.getElem?_map, List.getElem?_range hlt, Option.map_some, Option.some.injEq]
 rw [← hl, Array.getElem!_eq_getD, Array.getD_eq_getD_getElem?, h1]
 rfl

theorem map_range0 {α : Type} (f : Nat → α) : (Array.range 0).map f = #[] := by apply Array.eq_empty_of_size_eq_zero; simp

theorem info_size {t : TypeId} {i : TypeInfo} (h : P.info? t = some i) : (sizeOf t).run P w = .ok i.size w := by simp [sizeOf, typeInfo, h]

theorem rowTy_spec {el : TypeId} {e : List Ty} (h : rowTy P el = some e) : szE P el = some e.length ∧ 1 ≤ e.length := by
 unfold rowTy at h
 split at h
 ·rename_i e' z he hz
  cases hb : (Nat.beq z e'.length && Nat.ble 1 z) with
  | false => rw [hb] at h; cases h
  | true =>
   rw [hb, cond_true] at h
   cases h
   simp only [Bool.and_eq_true, Nat.beq_eq, Nat.ble_eq] at hb
   obtain ⟨h1, h2⟩ := hb
   exact ⟨by rw [hz, h1], by omega⟩
 ·cases h
theorem mRows_ok {m : Sem Value} {el : TypeId} {len sz : Nat} {cs : List V} {C : Array Value} {t' : TypeId} (h1 : 1 ≤ sz) (hrun : m.run P w = .ok (.slice (some ⟨w.heap.size, 0, none⟩) len len) { w with heap := w.heap.push (.cells C t') })
  (hc : LRel ρ cs C.toList) (hlen : cs.length = len * sz) : MkOK P ρ m w (mRows P el len cs sz) := by
 have hl := hc.length
 simp only [Array.length_toList] at hl
 have plain : MkOK P ρ m w (.cells cs el (some (len, len, sz))) := by
  refine ⟨_, C, t', hrun, hc, fun ρ' b hb => ?_⟩
  simp only [Mk.val, VRel]
  exact ⟨_, _, _, len, hb, rfl, Nat.le_refl _, Nat.le_refl _, fun _ => rfl, by omega⟩
 unfold mRows
 split
 ·rename_i e he
  obtain ⟨h3, h4⟩ := rowTy_spec he
  cases hb : Nat.beq e.length sz with
  | false => exact plain
  | true =>
  have hb := Nat.eq_of_beq_eq_true hb
  subst hb
  rw [cond_true]
  split
  ·rename_i L hL
   obtain ⟨g1, g2, g3⟩ := ofRows_spec (ρ := ρ) e len cs L hL
   refine ⟨_, C, t', hrun, by rw [g1]; omega, g3 fun i v hi => ?_, fun ρ' b hb => ?_⟩
   ·obtain ⟨W, q1, q2⟩ := hc.get hi
    exact ⟨W, by simpa using q1, q2⟩
   ·simp only [Mk.val, VRel]
    refine ⟨_, _, rfl, Nat.le_refl _, Nat.le_refl _, fun _ => rfl, fun hn => (by cases hn), fun hp => ⟨_, _, _, hb, by simp, ?_⟩⟩
    omega
  ·exact plain
 ·exact plain

theorem fillE_length {sz : Nat} : ∀ (ps : List (Nat × V)) (c r : List V), fillE (fun i => some (i * sz, sz)) c ps = some r → r.length = c.length := by
 intro ps
 induction ps with
 | nil => intro c r hh; simp only [fillE] at hh; cases hh; rfl
 | cons p ps ih =>
  intro c r hh
  simp only [fillE, llen_eq] at hh
  split at hh
  ·rename_i q1 q2 c2 q3 q4
   cases q3
   cases hc : (Nat.beq c2.length sz && Nat.ble (p.1 * sz + sz) c.length) with
   | false => simp [hc] at hh
   | true => simp only [hc, cond_true] at hh; rw [ih _ _ hh, setAll_length]
  ·cases hh

theorem mBuildSlice_rel {t : TypeId} {len : Nat} {ps : List (Nat × V)} {m : Mk} {c : List Bool} (hq : mBuildSlice P t len ps = some (c, m)) {Ps : Array (Nat × Value)} (hp : PRel ρ ps Ps.toList) :
  MkOK P ρ (Instr.buildSlice t len Ps) w m := by
 unfold mBuildSlice at hq
 simp only [llen_eq, lall_eq, ltake_eq, ldrop_eq, lapp_eq, lget_eq] at hq
 split at hq
 ·rename_i e hd
  split at hq
  ·rename_i sz zv hsz hzv
   split at hq
   ·rename_i z hz
    cases hb : (Nat.beq z.length sz && (Nat.ble (len * sz) 16777216 && Nat.ble 1 sz)) with
    | false => simp [hb] at hq
    | true =>
    simp only [hb, cond_true] at hq
    simp only [Bool.and_eq_true, Nat.ble_eq, Nat.beq_eq] at hb
    split at hq
    ·rename_i cs hcs
     cases hq
     obtain ⟨Z, hZ, hzr, _⟩ := zeroE_rel (ρ := ρ) (w := w) hzv
     have hzc := cellsO_rel hz hzr
     have hrep := range_rep hzc len
     rw [hb.1] at hrep
     obtain ⟨R, e1, e2⟩ := fillE_rel hp hrep hcs
     refine mRows_ok (C := R) (t' := e) hb.2.2 ?_ e2 (by rw [fillE_length _ _ _ hcs, repE_length, hb.1])
     by_cases h0 : len * sz = 0
     ·have hlen : len = 0 := by rcases Nat.mul_eq_zero.1 h0 with h | h; exact h; omega
      subst hlen
      simp only [Nat.zero_mul] at e1
      have e0 : (Array.range 0).map (fun i => Z.cells[i % Z.cells.size]!) = #[] := by apply Array.eq_empty_of_size_eq_zero; simp
      rw [e0] at e1
      have e1' : Instr.fill (fun i => some (i * sz, sz)) #[] Ps.toList = some R := e1
      simp [Instr.buildSlice, run_und hd, run_size hsz, newRow, map_range0, e1']
     ·have hbig : ¬ len * sz > 2 ^ 24 := by omega
      have hbig' : ¬ 16777216 < len * sz := by omega
      simp only [Instr.buildSlice, Sem.run_bind, run_und hd, Result.andThen_ok, run_size hsz, Sem.run_ite, hbig, h0, if_false, hZ, Sem.run_pure]
      rw [e1]
      simp [newRow]
    ·cases hq
   ·cases hq
  ·cases hq
 ·cases hq

theorem eBuildSlice_rel (h : SRel own ρ s w) {t : TypeId} {len : Nat} {ps : List (Nat × V)} {v : V} {s' : St} {c : List Bool} (hq : eBuildSlice P s t len ps = some (c, v, s')) (hc : allB c) {Ps : Array (Nat × Value)} (hp : PRel ρ ps Ps.toList) :
  OKv P own ρ (Instr.buildSlice t len Ps) w v s' := mkNew_rel h hq hc fun _ _ h _ => mBuildSlice_rel h hp

theorem wrap_small {n : Nat} (h : n ≤ 281474976710656) : IntKind.i64.wrap (n : Int) = n := by
 have h2 : (n : Int) % (2 ^ IntKind.i64.bits : Int) = n := Int.emod_eq_of_lt (by omega) (by simp only [IntKind.bits]; omega)
 unfold IntKind.wrap
 simp only [h2]
 exact if_neg (by simp [IntKind.signed, IntKind.bits]; omega)

theorem run_makeSlice {t el : TypeId} {i : TypeInfo} {l c : Nat} {k1 k2 : IntKind} {Z : Value} (hd : P.underlying t = some (.slice el)) (hi : P.info? el = some i) (hZ : (zeroValue el).run P w = .ok Z w) (b2 : 1 ≤ i.size) (b3 : l ≤ c) (b4 : c ≤ 281474976710656) (b5 : i.bytes * c ≤ 281474976710656) :
  (Instr.makeSlice t (.int k1 (l : Int)) (.int k2 (c : Int))).run P w = .ok (.slice (some ⟨w.heap.size, 0, none⟩) l c) { w with heap := w.heap.push (.cells ((Array.range (c * i.size)).map fun j => Z.cells[j % Z.cells.size]!) el) } := by
 have w1 := wrap_small (n := l) (by omega)
 have w2 := wrap_small (n := c) b4
 have t1 : ¬ ((c : Int) < 0) := by omega
 have t2 : ¬ ((i.bytes : Int) * (c : Int) > 2 ^ 48) := by
  have : ((i.bytes * c : Nat) : Int) ≤ 281474976710656 := by omega
  simp only [Int.natCast_mul] at this; omega
 have t2' : ¬ ((281474976710656 : Int) < (i.bytes : Int) * (c : Int)) := by simpa using t2
 have t3 : ¬ ((l : Int) < 0) := by omega
 have t4 : ¬ ((l : Int) > (c : Int)) := by omega
 have hti : (typeInfo el).run P w = .ok i w := by simp [typeInfo, hi]
 by_cases h0 : c * i.size = 0
 ·have hc0 : c = 0 := by rcases Nat.mul_eq_zero.1 h0 with h | h; exact h; omega
  subst hc0
  have hl0 : l = 0 := by omega
  subst hl0
  have e0 : (Array.range (0 * i.size)).map (fun i => Z.cells[i % Z.cells.size]!) = #[] := by apply Array.eq_empty_of_size_eq_zero; simp
  rw [e0]
  have w0 : IntKind.i64.wrap 0 = 0 := by simpa using w2
  simp [Instr.makeSlice, run_und hd, asInt, run_asIntOf, hti, w0, info_size hi, newRow, map_range0]
 ·simp [Instr.makeSlice, run_und hd, asInt, run_asIntOf, hti, w1, w2, t1, t2', t3, info_size hi, newRow, h0, hZ, Nat.not_lt.2 b3]

theorem rep_rows {e : List Ty} {r : rowDen e} {z : List V} {Z : Array Value} (hr : ofRow e z = some r) (hz : LRel ρ z Z.toList) (c : Nat) : RowsAt ρ.φ e (List.replicate c r) (fun k => ((Array.range (c * e.length)).map fun j => Z[j % Z.size]!)[k]?) := by
 have hl := ofRow_length _ _ _ hr
 have hlz := hz.length
 simp only [Array.length_toList] at hlz
 intro i hi
 simp only [List.length_replicate] at hi
 have e2 : rowAt e (List.replicate c r) i = r := by simp [rowAt, hi]
 rw [e2]
 refine ofRow_rel e z r hr fun j v hj => ?_
 have hjl : j < e.length := by
  have := (List.getElem?_eq_some_iff.1 hj).1
  omega
 obtain ⟨X, h1, h2⟩ := hz.get hj
 simp only [Array.getElem?_toList] at h1
 refine ⟨X, ?_, h2⟩
 have hk : i * e.length + j < c * e.length := by
  have : (i + 1) * e.length ≤ c * e.length := Nat.mul_le_mul_right _ hi
  rw [Nat.succ_mul] at this; omega
 have hm : (i * e.length + j) % Z.size = j := by
  rw [← hlz, hl, Nat.mul_comm, Nat.mul_add_mod, Nat.mod_eq_of_lt hjl]
 simp only [Array.getElem?_map, Array.getElem?_range, hk, if_true, Option.map_some, hm, Option.some.injEq]
 rw [Array.getElem!_eq_getD, Array.getD_eq_getD_getElem?, h1]
 rfl

theorem mMakeSlice_rel {t : TypeId} {len cap : V} {m : Mk} {cc : List Bool} (hq : mMakeSlice P t len cap = some (cc, m)) (hp : allB cc) {L K : Value} (hl : VRel ρ len L) (hk : VRel ρ cap K) :
  MkOK P ρ (Instr.makeSlice t L K) w m := by
 unfold mMakeSlice at hq
 simp only [llen_eq, lall_eq, ltake_eq, ldrop_eq, lapp_eq, lget_eq] at hq
 split at hq
 ·rename_i el cl l cp c hd hln hcn
  split at hq
  ·rename_i i zv hi hzv
   split at hq
   ·rename_i z hz
    cases hb : (Nat.beq z.length i.size && Nat.ble 1 i.size) with
    | false => simp [hb] at hq
    | true =>
    simp only [hb, cond_true] at hq
    simp only [Bool.and_eq_true, Nat.ble_eq, Nat.beq_eq] at hb
    obtain ⟨b1, b2⟩ := hb
    obtain ⟨Z, hZ, hzr, _⟩ := zeroE_rel (ρ := ρ) (w := w) hzv
    have hzc := cellsO_rel hz hzr
    split at hq
    ·rename_i e he
     cases hes : Nat.beq e.length i.size with
     | false => rw [hes] at hq; cases hq
     | true =>
     rw [hes, cond_true] at hq
     have hes := Nat.eq_of_beq_eq_true hes
     split at hq
     ·rename_i r hr
      cases hq
      simp only [allB_append] at hp
      obtain ⟨p1, p2, p3, p4, p5, _⟩ := hp
      simp only [decide_eq_true_eq] at p3 p4 p5
      obtain ⟨k1, rfl⟩ := natOf_rel hln p1 hl
      obtain ⟨k2, rfl⟩ := natOf_rel hcn p2 hk
      refine ⟨_, _, el, run_makeSlice hd hi hZ b2 p3 p4 p5, by simp [hes], ?_, fun ρ' b hbb => ?_⟩
      ·have := rep_rows hr hzc c
       rw [hes] at this
       exact this
      ·simp only [Mk.val, VRel]
       refine ⟨_, _, rfl, p3, Nat.le_refl _, fun _ => rfl, fun hn => (by cases hn), fun _ => ⟨_, _, _, hbb, by simp, ?_⟩⟩
       simp [hes]
     ·cases hq
    ·cases hq
     simp only [allB_append] at hp
     obtain ⟨p1, p2, p3, p4, p5, _⟩ := hp
     simp only [decide_eq_true_eq] at p3 p4 p5
     obtain ⟨k1, rfl⟩ := natOf_rel hln p1 hl
     obtain ⟨k2, rfl⟩ := natOf_rel hcn p2 hk
     have hrep := range_rep hzc c
     rw [b1] at hrep
     refine ⟨_, _, el, run_makeSlice hd hi hZ b2 p3 p4 p5, hrep, fun ρ' b hbb => ?_⟩
     simp only [Mk.val, VRel]
     refine ⟨_, _, _, c, hbb, rfl, p3, Nat.le_refl _, fun _ => rfl, ?_⟩
     simp
   ·cases hq
  ·cases hq
 ·cases hq
theorem eMakeSlice_rel (h : SRel own ρ s w) {t : TypeId} {len cap v : V} {s' : St} {c : List Bool} (hq : eMakeSlice P s t len cap = some (c, v, s')) (hc : allB c) {L K : Value} (hl : VRel ρ len L) (hk : VRel ρ cap K) :
  OKv P own ρ (Instr.makeSlice t L K) w v s' := mkNew_rel h hq hc fun _ _ h hc => mMakeSlice_rel h hc hl hk

theorem bytesL_length (x : ByteArray) : (bytesL x).length = x.size := by simp [bytesL]
theorem bytesL_get (x : ByteArray) (i : Nat) (hi : i < x.size) : (bytesL x).getD i 0 = bAt x i := by
 unfold bytesL bAt
 rw [List.getD_eq_getElem?_getD, List.getD_eq_getElem?_getD, List.getElem?_map, List.getElem?_eq_getElem (by simpa using hi)]
 rfl
theorem bytes_rows {φ : Nat → Nat → Option Value} (x : ByteArray) {C : Nat → Option Value} (hc : ∀ i, i < x.size → C i = some (.int .u8 (bAt x i))) : RowsAt φ [.int .u8] (bytesL x) C := by
 intro i hi
 have hi' : i < x.size := by
  have : i < List.length (α := Int) (bytesL x) := hi
  rwa [bytesL_length] at this
 rw [CRel]
 refine ⟨.int .u8 (bAt x i), by simpa using hc i hi', ?_⟩
 have e : rowAt [.int .u8] (bytesL x) i = bAt x i := bytesL_get x i hi'
 show Value.int .u8 _ = Value.int .u8 (rowAt [.int .u8] (bytesL x) i)
 rw [e]

theorem eBytes_rel (h : SRel own ρ s w) {src dst : TypeId} {a v : V} {s' : St} {c : List Bool} (hq : eBytes P s src dst a = some (c, v, s')) {A : Value} (ha : VRel ρ a A) : OKv P own ρ (Go.convert src dst A) w v s' := by
 unfold eBytes at hq
 split at hq
 ·rename_i sd e x hs hd
  split at hq
  ·rename_i he
   cases hq
   simp only [VRel] at ha; subst ha
   obtain ⟨cap, hcap, hrun⟩ : ∃ cap, x.size ≤ cap ∧ (choose (.appendCap x.size 0 e)).run P w = .ok cap { w with drawn := w.drawn + 1 } := by
    refine ⟨_, ?_, by simp [Question.forced]; rfl⟩
    simp [Question.cut]
   let C : Array Value := (x.data.map fun b => Value.int .u8 b.toNat) ++ Array.replicate (cap - x.size) (.int .u8 0)
   have hxs : x.data.size = x.size := rfl
   have hC : C.size = cap := by
    simp [C]; omega
   have hle := Env.le_put ⟨w.heap.size, 0, C.size⟩ h.fresh
   let w' : World := { w with drawn := w.drawn + 1, heap := w.heap.push (.cells C e (C.size, C.size + 1)) }
   refine ⟨ρ.put s.next ⟨w.heap.size, 0, C.size⟩, .slice (some ⟨w.heap.size, 0, none⟩) x.size cap, w', hle, ?_, ?_, ?_, ?_⟩
   ·simp only [Go.convert, Sem.run_bind, run_und hs, run_und hd, Result.andThen_ok, run_und he, Conv.stringToBytes, hrun, newRow, run_newObj, Sem.run_pure, markStringish, run_shape]
    have hsh : ({ w with drawn := w.drawn + 1, heap := w.heap.push (.cells C e) } : World).shape? w.heap.size = some (e, C.size) := by simp [World.shape?]
    have hfr : ({ w with drawn := w.drawn + 1, heap := w.heap.push (.cells C e) } : World).freeze ⟨w.heap.size, C.size, none⟩ 1 = w' := by
     simp only [World.freeze]
     rw [if_neg (by decide)]
     simp only [w']
     congr 1
     apply Array.ext_getElem?
     intro i
     rw [Array.getElem?_modify, Array.getElem?_push, Array.getElem?_push]
     by_cases hi : i = w.heap.size
     ·subst hi; simp
     ·simp [hi, Ne.symm hi]
    simp only [C] at hsh hfr
    simp only [hsh, Sem.run_bind, run_freeze, hfr, Result.andThen_ok, Sem.run_pure]
   ·simp only [VRel]
    exact ⟨_, cap, rfl, Nat.le_refl _, hcap, fun hx => (by cases hx), fun hn => (by cases hn), fun _ => ⟨_, _, _, Env.put_same, by simp, by show 0 + 0 * 1 + cap * 1 ≤ C.size; omega⟩⟩
   ·refine h.new _ (.cells C e (C.size, C.size + 1)) C.size rfl ⟨C, e, (C.size, C.size + 1), rfl, rfl, ?_, ?_, ?_, by simp⟩
    ·have : List.length (α := Int) (bytesL x) = x.size := bytesL_length x
     show 0 + List.length (α := Int) (bytesL x) * 1 ≤ C.size
     omega
    ·refine bytes_rows x fun i hi => ?_
     simp only [C, Nat.zero_add]
     rw [Array.getElem?_append_left (by simpa using hi)]
     rw [Array.getElem?_map]
     unfold bAt
     rw [List.getD_eq_getElem?_getD, Array.getElem?_toList, Array.getElem?_eq_getElem (by simpa using hi)]
     rfl
    ·intro k hk
     have : decide (C.size ≤ k) = false := by simp; omega
     simp [this]
   ·exact ⟨rfl, rfl, rfl, by simp [w'], fun k hk => by simp only [w']; rw [Array.getElem?_push, if_neg (fun e => hk (h.le k (by omega)))]⟩
  ·cases hq
 ·cases hq
end
end Go.Sym
end

noncomputable section
namespace Go.Sym

def seg {α : Type} (L : List α) (lo len : Nat) : List α := (L.take (lo + len)).drop lo
theorem seg_length {α : Type} {L : List α} {lo len : Nat} (h : lo + len ≤ L.length) : (seg L lo len).length = len := by simp [seg]; omega

noncomputable section
variable (P : Program)
def zerosE (ts : Array TypeId) : Bool :=
 match ts[1]? with
 | some t1 => (match P.underlying t1 with
   | some (.int _) => true
   | some _ => false
   | none => true)
 | none => false
def St.move (s : St) (b : Nat) (o : EObj) : St := ⟨(s.heap.set b none).set s.next (some o), s.next + 1⟩
def St.drop (s : St) (b : Nat) : St := ⟨s.heap.set b none, s.next⟩

def srcRows (s : St) (e : List Ty) (x : V) : Option (List Bool × List (rowDen e)) :=
 match x with
 | .nils => some ([], [])
 | .lst e' L _ => match asL e e' L with
  | some M => some ([], M)
  | none => none
 | .rs b lo len _ _ es => match rowsAt s b with
  | some ⟨e', L⟩ => match asL e e' L with
   | some M => bif Nat.beq es e.length then some ([decide (lo + len ≤ M.length)], seg M lo len) else none
   | none => none
  | none => none
 | .str t => match asL e [.int .u8] (bytesL t) with
  | some M => some ([], M)
  | none => none
 | .sl b o len _ _ es => match cellsAt s b with
  | some cs => bif Nat.beq es e.length && Nat.ble (o + len * es) (llen cs) then (match ofRows e len (ltake (ldrop cs o) (len * es)) with
    | some M => some ([], M)
    | none => none) else none
  | none => none
 | _ => none
def roomB : Nat → Nat → Bool := hide fun n b => decide ((2 * n + 768) * b ≤ 281474976710656)
theorem roomB_iff (n b : Nat) : roomB n b = true ↔ (2 * n + 768) * b ≤ 281474976710656 := by unfold roomB; rw [hide_eq, decide_eq_true_iff]
def roomy (i : TypeInfo) (n : Nat) : List Bool := [roomB n i.bytes, decide (n ≤ 1099511627776)]
def eAppendR (s : St) (e : List Ty) (el : TypeId) (i : TypeInfo) (a x : V) : Er :=
 match srcRows s e x with
 | none => none
 | some (cs, M) => match a with
  | .nils => some (cs ++ roomy i M.length, .rs s.next 0 M.length M.length false e.length, s.new (.rows e M el false))
  | .lst e' L true => match asL e e' L with
   | some L' => some (cs ++ (decide (0 < M.length ∨ L'.length = 0) :: roomy i (L'.length + M.length)), .rs s.next 0 (L'.length + M.length) (L'.length + M.length) false e.length, s.new (.rows e (L' ++ M) el false))
   | none => none
  | .rs b lo len _ _ es => match s.heap.get b with
   | some (.rows e' L _ ish) => match asL e e' L with
    | some L' => bif Nat.beq es e.length then
      some (cs ++ (decide (lo + len ≤ L'.length) :: roomy i (len + M.length)), .rs s.next 0 (len + M.length) (len + M.length) false es, s.move b (.rows e (seg L' lo len ++ M) el ish)) else none
    | none => none
   | _ => none
  | _ => none

def eOver (s : St) (e : List Ty) (a x : V) : Er :=
 match a, x with
 | .rs b lo len cap false es, .rs b2 lo2 len2 _ _ es2 => bif Nat.beq b b2 && (Nat.beq es e.length && Nat.beq es2 e.length) then
   (match s.heap.get b with
   | some (.rows e' L t' ish) => match asL e e' L with
     | some L' => some ([decide (lo2 + len2 ≤ L'.length), decide (len + len2 ≤ cap), decide (lo + len + len2 ≤ L'.length)], .rs b lo (len + len2) cap false es,
         s.upd b (.rows e (L'.take (lo + len) ++ (seg L' lo2 len2 ++ L'.drop (lo + len + len2))) t' ish))
     | none => none
   | _ => none) else none
 | _, _ => none

def eGrow (s : St) (e : List Ty) (el : TypeId) (i : TypeInfo) (a x : V) : Er :=
 match a with
 | .rs b lo len cap true es => (match srcRows s e x with
   | some (cs, M) => (match s.heap.get b with
     | some (.rows e' L _ _) => (match asL e e' L with
       | some L' => bif Nat.beq es e.length then
           some (cs ++ (decide (lo + len ≤ L'.length) :: decide (cap < len + M.length ∨ cap = 0) :: roomy i (len + M.length)), .rs s.next 0 (len + M.length) (len + M.length) false es, s.new (.rows e (seg L' lo len ++ M) el false)) else none
       | none => none)
     | _ => none)
   | none => none)
 | _ => none

def sliceCells (s : St) (v : V) (n : Nat) : Option (List V) :=
 match v with
 | .nils => bif Nat.beq n 0 then some [] else none
 | .sl b o _ _ _ es => match cellsAt s b with
  | some cs => bif Nat.ble (o + n * es) (llen cs) then some (ltake (ldrop cs o) (n * es)) else none
  | none => none
 | _ => none
def lenE : V → Option Nat
 | .nils => some 0
 | .sl _ _ len _ _ _ => some len
 | _ => none
def esOk (v : V) (sz : Nat) : Bool :=
 match v with
 | .sl _ _ _ _ _ es => Nat.beq es sz
 | .nils => true
 | _ => false
def srcCells (s : St) (x : V) (sz : Nat) : Option (List V) :=
 bif esOk x sz then (match lenE x with
   | some n => sliceCells s x n
   | none => none) else none
def srcE (s : St) (i : TypeInfo) (x : V) : Option (Nat × List V) :=
 match lenE x with
  | some n => match srcCells s x i.size with
   | some new => some (n, new)
   | none => none
  | none => none
def eAppendC (s : St) (e : TypeId) (i : TypeInfo) (a x : V) : Er :=
 match srcE s i x with
 | none => none
 | some (n, new) =>
 match a with
 | .nils =>
  bif Nat.beq n 0 then some ([], .nils, s) else
  bif Nat.ble ((2 * n + 768) * i.bytes) 281474976710656 && Nat.ble n 1099511627776 then
   some ([], .sl s.next 0 n n false i.size, s.new (.cells new e false)) else none
 | .sl b o len cap x' es =>
  bif !Nat.beq es i.size then none else
  bif Nat.ble (len + n) cap then
   (match s.heap.get b with
   | some (.cells cs t' ish) => bif Nat.ble (o + (len + n) * es) (llen cs) && lall oneV new then some ([], .sl b o (len + n) cap x' es, s.upd b (.cells (setAll cs (o + len * es) new) t' ish)) else none
   | _ => none)
  else
  bif !(Nat.ble ((2 * (len + n) + 768) * i.bytes) 281474976710656 && Nat.ble (len + n) 1099511627776) then none else
  match s.heap.get b with
  | some (.cells cs t' ish) =>
   bif !(Nat.ble (o + len * es) (llen cs) && lall oneV new) then none else
   bif x' then some ([], .sl s.next 0 (len + n) (len + n) false es, s.new (.cells (lapp (ltake (ldrop cs o) (len * es)) new) e false))
   else some ([], .sl s.next 0 (len + n) (len + n) false es, s.move b (.cells (lapp (ltake (ldrop cs o) (len * es)) new) e ish))
  | _ => none
 | _ => none

def eAppend (s : St) (ts : Array TypeId) (a x : V) : Er :=
 match ts[0]? with
 | none => none
 | some t =>
 match P.underlying t with
 | some (.slice el) =>
  match P.info? el, zeroE P el with
  | some i, some zv => match cellsO zv with
   | some z =>
    bif zerosE P ts || !(Nat.beq (llen z) i.size && Nat.ble 1 i.size) then none else
    (match rowTy P el with
    | some e => (match eOver s e a x with
      | some r => some r
      | none => (match eGrow s e el i a x with
        | some r => some r
        | none => (match eAppendR s e el i a x with
          | some r => some r
          | none => eAppendC s el i a x)))
    | none => eAppendC s el i a x)
   | none => none
  | _, _ => none
 | _ => none

def eCopy (s : St) (ts : Array TypeId) (d x : V) : Er :=
 match ts[0]? with
 | none => none
 | some t =>
 match P.underlying t with
 | some (.slice el) => match rowTy P el with
  | none => none
  | some e => match srcRows s e x with
   | none => none
   | some (cs, M) => match d with
    | .nils => some (cs, .int .i64 0, s)
    | .rs b lo len _ _ es => match s.heap.get b with
     | some (.rows e' L t' ish) => match asL e e' L with
      | some L' => bif Nat.beq es e.length then
        some (cs ++ [decide (lo + len ≤ L'.length)], .int .i64 (Int.ofNat (Nat.min M.length len)), s.upd b (.rows e (L'.take lo ++ (M.take (Nat.min M.length len) ++ L'.drop (lo + Nat.min M.length len))) t' ish)) else none
      | none => none
     | _ => none
    | _ => none
 | _ => none
def eClear (s : St) (ts : Array TypeId) (d : V) : Er :=
 match ts[0]? with
 | none => none
 | some t =>
 match P.underlying t with
 | some (.slice el) => match rowTy P el, zeroE P el with
  | some e, some zv => (match cellsO zv with
    | some z => (match ofRow e z with
      | some r => (match d with
        | .nils => some ([], .undef, s)
        | .rs b lo len _ _ es => (match s.heap.get b with
          | some (.rows e' L t' ish) => (match asL e e' L with
            | some L' => bif Nat.beq es e.length then
                some ([decide (lo + len ≤ L'.length)], .undef, s.upd b (.rows e (L'.take lo) t' ish)) else none
            | none => none)
          | _ => none)
        | _ => none)
      | none => none)
    | none => none)
  | _, _ => none
 | _ => none
end

section
variable {P : Program} {own : Own} {ρ : Env} {s : St} {w : World}

theorem growBy_le (n : Nat) : ∀ r c, c ≤ n + (n + 768) / 4 → Builtin.growBy n r c ≤ n + (n + 768) / 4
 | 0, c, h => h
 | r + 1, c, h => by
  simp only [Builtin.growBy]
  split
  ·exact h
  ·exact growBy_le n r _ (by omega)
theorem nextcap_le {n c : Nat} (h : c < n) : Builtin.nextslicecap n c ≤ 2 * n + 768 := by
 unfold Builtin.nextslicecap
 split
 ·omega
 ·split
  ·omega
  ·have := growBy_le n 4 c (by omega)
   omega

theorem SRel.newLong (h : SRel own ρ s w) {cs : List V} {L : List Value} (hc : LRel ρ cs L) (R : Array Value) (t t' : TypeId) (d : Nat) (ish : Bool) :
  ρ.le (ρ.put s.next ⟨w.heap.size, 0, (L.toArray ++ R).size⟩) ∧ SRel own (ρ.put s.next ⟨w.heap.size, 0, (L.toArray ++ R).size⟩) (s.new (.cells cs t ish)) { w with drawn := d, heap := w.heap.push (.cells (L.toArray ++ R) t') } ∧
   Fr own w { w with drawn := d, heap := w.heap.push (.cells (L.toArray ++ R) t') } := by
 have hle := Env.le_put ⟨w.heap.size, 0, (L.toArray ++ R).size⟩ h.fresh
 refine ⟨hle, h.new _ (.cells (L.toArray ++ R) t') _ rfl ⟨_, t', (0, 0), rfl, rfl, ?_, ?_, by simp, fun _ => rfl⟩, rfl, rfl, rfl, by simp, fun k hk => ?_⟩
 ·have := hc.length; simp; omega
 ·intro i v hi
  obtain ⟨X, e1, e2⟩ := hc.get hi
  have hlt := (List.getElem?_eq_some_iff.1 e1).1
  refine ⟨X, ?_, VRel.mono hle _ _ e2⟩
  rw [Nat.zero_add, Array.getElem?_append_left (by simpa using hlt)]
  simpa using e1
 ·simp only
  rw [Array.getElem?_push, if_neg (fun e => hk (h.le k (by omega)))]
theorem rows_long {φ : Nat → Nat → Option Value} {e : List Ty} {L : List (rowDen e)} {V : List Value} (h : RowsAt φ e L (fun k => V[k]?)) (R : Array Value) : RowsAt φ e L (fun k => (V.toArray ++ R)[k]?) :=
 h.mono (fun _ _ _ hv => hv) fun j v hj => by
  have hlt := (List.getElem?_eq_some_iff.1 hj).1
  rw [Array.getElem?_append_left (by simpa using hlt)]
  simpa using hj
theorem rows_app {φ : Nat → Nat → Option Value} {e : List Ty} {L M : List (rowDen e)} {C D : Nat → Option Value} (h : RowsAt φ e L C) (k : RowsAt φ e M (fun j => D (L.length * e.length + j))) (hC : ∀ j, j < L.length * e.length → D j = C j) : RowsAt φ e (L ++ M) D := by
 intro i hi
 rcases Nat.lt_or_ge i L.length with h1 | h1
 ·have e1 : rowAt e (L ++ M) i = rowAt e L i := by simp [rowAt, List.getD_eq_getElem?_getD, List.getElem?_append_left h1]
  rw [e1]
  refine CRel.mono (fun _ _ _ hv => hv) e _ (fun j v hv => ?_) (CRel.ltφ e _ (h i h1))
  split at hv
  ·rename_i hj
   rw [hC _ ?_]; exact hv
   have := Nat.mul_le_mul_right e.length (show i + 1 ≤ L.length from h1)
   rw [Nat.succ_mul] at this; omega
  ·cases hv
 ·have e1 : rowAt e (L ++ M) i = rowAt e M (i - L.length) := by simp [rowAt, List.getD_eq_getElem?_getD, List.getElem?_append_right h1]
  rw [e1]
  have := k (i - L.length) (by simp at hi; omega)
  refine CRel.mono (fun _ _ _ hv => hv) e _ (fun j v hv => ?_) this
  rw [← hv]; congr 1
  rw [← Nat.add_assoc, ← Nat.add_mul]; congr 2; omega
theorem SRel.newLongRows (h : SRel own ρ s w) {e : List Ty} {L : List (rowDen e)} {V : List Value} (hl : L.length * e.length ≤ V.length) (hc : RowsAt ρ.φ e L (fun k => V[k]?)) (R : Array Value) (t t' : TypeId) (d : Nat) (ish : Bool) :
  ρ.le (ρ.put s.next ⟨w.heap.size, 0, (V.toArray ++ R).size⟩) ∧ SRel own (ρ.put s.next ⟨w.heap.size, 0, (V.toArray ++ R).size⟩) (s.new (.rows e L t ish)) { w with drawn := d, heap := w.heap.push (.cells (V.toArray ++ R) t') } ∧
   Fr own w { w with drawn := d, heap := w.heap.push (.cells (V.toArray ++ R) t') } := by
 have hle := Env.le_put ⟨w.heap.size, 0, (V.toArray ++ R).size⟩ h.fresh
 refine ⟨hle, h.new _ (.cells (V.toArray ++ R) t') _ rfl ⟨_, t', (0, 0), rfl, rfl, ?_, ?_, by simp, fun _ => rfl⟩, rfl, rfl, rfl, by simp, fun k hk => ?_⟩
 ·simp; omega
 ·show RowsAt ρ.φ e L (fun k => (V.toArray ++ R)[0 + k]?)
  simpa using rows_long hc R
 ·simp only
  rw [Array.getElem?_push, if_neg (fun e => hk (h.le k (by omega)))]
theorem SRel.ghost (h : SRel own ρ s w) (o : EObj) : SRel own ρ (s.new o) w := by
 have key : ∀ b o' x, (s.new o).heap.get b = some o' → ρ b = some x → s.heap.get b = some o' := by
  intro b o' x hb hx
  simp only [St.new, T.get_set] at hb
  split at hb
  ·rename_i e; subst e; rw [h.fresh.1] at hx; cases hx
  ·exact hb
 refine ⟨h.le, fun b o' x hb hx => h.obj b o' x (key b o' x hb hx) hx, fun b b' o1 o2 x x' hb hb' hx hx' => h.inj b b' o1 o2 x x' (key _ _ _ hb hx) (key _ _ _ hb' hx') hx hx', fun b x hx => ?_, ?_, h.fz, h.old⟩
 ·have := h.dom b x hx; show b < s.next + 1; omega
 ·have := h.top; show ρ.n ≤ s.next + 1; omega
theorem SRel.strike (h : SRel own ρ s w) (b : Nat) : SRel own ρ (s.drop b) w := by
 have key : ∀ k o', (s.drop b).heap.get k = some o' → s.heap.get k = some o' := by
  intro k o' hk
  simp only [St.drop, T.get_set] at hk
  split at hk
  ·cases hk
  ·exact hk
 exact ⟨h.le, fun k o' x hk hx => h.obj k o' x (key _ _ hk) hx, fun k k' o1 o2 x x' hk hk' hx hx' => h.inj k k' o1 o2 x x' (key _ _ hk) (key _ _ hk') hx hx', h.dom, h.top, h.fz, h.old⟩
theorem SRel.move (h : SRel own ρ s w) {b : Nat} {o : EObj} {x : Blk} (hb : s.heap.get b = some o) (hx : ρ b = some x) (o1 : EObj) (X : Obj) (O1 : Nat) {w' : World} (hw : w'.heap = w.heap.setIfInBounds x.B X)
  (ho : ORel (ρ.put s.next ⟨x.B, O1, x.S⟩) O1 x.S (some X) o1) : SRel own (ρ.put s.next ⟨x.B, O1, x.S⟩) (s.move b o1) w' := by
 have hlt := h.lt hb hx
 have hle := Env.le_put ⟨x.B, O1, x.S⟩ h.fresh
 have hbn : b < s.next := h.dom _ _ hx
 have get : ∀ k v, (s.move b o1).heap.get k = some v → (k = s.next ∧ v = o1) ∨ (k ≠ s.next ∧ k ≠ b ∧ s.heap.get k = some v) := by
  intro k v hk
  simp only [St.move, T.get_set] at hk
  split at hk
  ·rename_i e; cases hk; exact .inl ⟨e, rfl⟩
  ·rename_i e
   split at hk
   ·cases hk
   ·rename_i e2; exact .inr ⟨e, e2, hk⟩
 obtain ⟨y, g1, g2, _⟩ := h.obj' hb hx
 rw [hx] at g1; cases g1
 refine ⟨by rw [hw]; simpa using h.le, ?_, ?_, ?_, by simp only [Env.put, St.move]; have := h.top; omega, ?_, h.old⟩
 ·intro k v z hk hz
  rcases get k v hk with ⟨rfl, rfl⟩ | ⟨e1, e2, hk⟩
  ·rw [Env.put_same] at hz; cases hz
   exact ⟨g2, by rw [hw]; simpa [hlt] using ho⟩
  ·rw [Env.put_ne e1] at hz
   obtain ⟨y, h1, h2, h3⟩ := h.obj' hk hz
   rw [hz] at h1; cases h1
   have h1 := hz
   refine ⟨h2, ?_⟩
   have := h.inj k b _ _ z x hk hb h1 hx e2
   rw [hw, Array.getElem?_setIfInBounds_ne (fun k => this k.symm)]
   exact h3.mono hle
 ·intro k k' v v' y y' hk hk' hy hy' hne
  rcases get k v hk with ⟨rfl, rfl⟩ | ⟨e1, e2, g⟩ <;> rcases get k' v' hk' with ⟨rfl, rfl⟩ | ⟨e1', e2', g'⟩
  ·exact absurd rfl hne
  ·rw [Env.put_same] at hy; cases hy
   rw [Env.put_ne e1'] at hy'
   exact fun e => h.inj k' b _ _ y' x g' hb hy' hx e2' e.symm
  ·rw [Env.put_same] at hy'; cases hy'
   rw [Env.put_ne e1] at hy
   exact h.inj k b _ _ y x g hb hy hx e2
  ·rw [Env.put_ne e1] at hy
   rw [Env.put_ne e1'] at hy'
   exact h.inj k k' v v' y y' g g' hy hy' hne
 ·intro k y hy
  simp only [Env.put] at hy
  show k < s.next + 1
  split at hy
  ·omega
  ·have := h.dom k y hy; omega
 ·refine SRel.fz_of (own := own) (ρ := ρ) (s := s) (w := w) h fun B => ?_
  by_cases e : x.B = B
  ·exact .inr (.inl (e ▸ g2.2))
  ·exact .inr (.inr (by rw [hw, Array.getElem?_setIfInBounds_ne e]))

theorem wrap_small2 {n : Nat} (h : n ≤ 1099511627776) : IntKind.i64.wrap (n : Int) = n := wrap_small (by omega)

def SrcOK (P : Program) (ts : Array TypeId) (e : TypeId) (i : TypeInfo) (X : Value) (n : Nat) (w w' : World) (L : List Value) : Prop :=
 (zerosE P ts = false ∧ (Builtin.lenOf X).run P w = .ok n w ∧ (Builtin.firstCells i.size n X).run P w' = .ok L.toArray w') ∨
 ((∃ t1 k, ts[1]? = some t1 ∧ P.underlying t1 = some (.int k)) ∧ X = .int .i64 (n : Int) ∧ n * i.bytes ≤ 281474976710656 ∧ n ≤ 1099511627776 ∧
   ((n * i.size = 0 ∧ L = []) ∨ (n * i.size ≠ 0 ∧ ∃ Z, (zeroValue e).run P w' = .ok Z w' ∧ L.toArray = Builtin.zeroCells Z.cells n)))

theorem notInt {ts : Array TypeId} (hz : zerosE P ts = false) : ts[1]? = none ∨ ∃ t1 d, ts[1]? = some t1 ∧ P.underlying t1 = some d ∧ ∀ k, d ≠ .int k := by
 unfold zerosE at hz
 cases h1 : ts[1]? with
 | none => exact .inl rfl
 | some t1 =>
  simp only [h1] at hz
  cases hu : P.underlying t1 with
  | none => simp [hu] at hz
  | some d => exact .inr ⟨t1, d, rfl, hu, fun k e => by subst e; simp [hu] at hz⟩

theorem run_append_in {t e : TypeId} {ts : Array TypeId} {ty : TypeId} {X : Value} {base : Option Addr} {len cap n : Nat} {i : TypeInfo} {L : List Value} (ht : ts[0]? = some t) (hd : P.underlying t = some (.slice e)) (hi : P.info? e = some i)
  (hs : SrcOK P ts e i X n w w L) (hle : len + n ≤ cap) :
  (Builtin.append_ ts ty #[.slice base len cap, X]).run P w = ((match base with | some a => storeCells (a.add (len * i.size)) L | none => pure () : Sem Unit).run P w).andThen fun _ w' => .ok (.slice base (len + n) cap) w' := by
 rcases hs with ⟨hz, hn, hL⟩ | ⟨⟨t1, k, h1, hu⟩, rfl, hb, hm, hL⟩
 ·rcases notInt hz with h1 | ⟨t1, d, h1, hu, hd'⟩
  ·simp only [Builtin.append_, ht, h1, List.getElem?_toArray, List.getElem?_cons_zero, List.getElem?_cons_succ, Sem.run_bind, run_und hd, Result.andThen_ok, info_size hi, Sem.run_pure, Bool.false_eq_true, if_false, hn, hle, if_true, Bool.not_false, hL]
   cases base with
   | none => simp
   | some a => simp
  ·cases d <;> first
    | exact absurd rfl (hd' _)
    | (simp only [Builtin.append_, ht, h1, List.getElem?_toArray, List.getElem?_cons_zero, List.getElem?_cons_succ, Sem.run_bind, run_und hd, run_und hu, Result.andThen_ok, info_size hi, Sem.run_pure, Bool.false_eq_true, if_false, hn, hle, if_true, Bool.not_false, hL]
       cases base with
       | none => simp
       | some a => simp)
 ·have hw := wrap_small2 hm
  have hti : (typeInfo e).run P w = .ok i w := by simp [typeInfo, hi]
  have hneg : ¬ ((n : Int) < 0) := by omega
  have hbb : ¬ ((n : Int) * (i.bytes : Int) > 2 ^ 48) := by
   have : ((n * i.bytes : Nat) : Int) ≤ 281474976710656 := by omega
   rw [Int.natCast_mul] at this; omega
  have hbb' : ¬ (281474976710656 < (n : Int) * (i.bytes : Int)) := by simpa using hbb
  rcases hL with ⟨h0, rfl⟩ | ⟨h0, Z, hZ, hL⟩
  ·cases base with
   | none => simp [Builtin.append_, ht, h1, run_und hd, run_und hu, info_size hi, asInt, run_asIntOf, hw, hneg, hti, hbb', hle, h0]
   | some a => simp [Builtin.append_, ht, h1, run_und hd, run_und hu, info_size hi, asInt, run_asIntOf, hw, hneg, hti, hbb', hle, h0]
  ·have hL' : L = (Builtin.zeroCells Z.cells n).toList := by rw [← hL]
   have h0' : ¬ (n = 0 ∨ i.size = 0) := by rw [← Nat.mul_eq_zero]; exact h0
   subst hL'
   cases base with
   | none => simp [Builtin.append_, ht, h1, run_und hd, run_und hu, info_size hi, asInt, run_asIntOf, hw, hneg, hti, hbb', hle, h0', hZ]
   | some a =>
    simp [Builtin.append_, ht, h1, run_und hd, run_und hu, info_size hi, asInt, run_asIntOf, hw, hneg, hti, hbb', hle, h0', hZ]
    exact fun hh => absurd hh h0

theorem run_append_grow {t e : TypeId} {ts : Array TypeId} {ty : TypeId} {X : Value} {base : Option Addr} {len cap n : Nat} {i : TypeInfo} {K L : List Value} {Z : Value} (ht : ts[0]? = some t) (hd : P.underlying t = some (.slice e)) (hi : P.info? e = some i)
  (hs : SrcOK P ts e i X n w { w with drawn := w.drawn + 1 } L)
  (hK : (Builtin.firstCells i.size len (.slice base len cap)).run P { w with drawn := w.drawn + 1 } = .ok K.toArray { w with drawn := w.drawn + 1 })
  (hZ : (zeroValue e).run P { w with drawn := w.drawn + 1 } = .ok Z { w with drawn := w.drawn + 1 })
  (hgt : cap < len + n) (hb : (2 * (len + n) + 768) * i.bytes ≤ 281474976710656) (hm : len + n ≤ 1099511627776) :
  ∃ cap', len + n ≤ cap' ∧ (Builtin.append_ ts ty #[.slice base len cap, X]).run P w =
   .ok (.slice (some ⟨w.heap.size, 0, none⟩) (len + n) cap') { w with drawn := w.drawn + 1, heap := w.heap.push (.cells (K.toArray ++ L.toArray ++ Builtin.zeroCells Z.cells (cap' - (len + n))) e) } := by
 obtain ⟨cap', hcap, hrun⟩ : ∃ cap', len + n ≤ cap' ∧ (choose (.appendCap (len + n) cap e)).run P w = .ok cap' { w with drawn := w.drawn + 1 } := by
  refine ⟨_, ?_, by simp [Question.forced]; rfl⟩
  simp [Question.cut]
 have hni : ¬ len + n ≤ cap := by omega
 have h63 : ¬ (((len + n : Nat) : Int) > IntKind.i64.max) := by rw [i64max]; omega
 have hti : (typeInfo e).run P w = .ok i w := by simp [typeInfo, hi]
 have hti' : (typeInfo e).run P { w with drawn := w.drawn + 1 } = .ok i { w with drawn := w.drawn + 1 } := by simp [typeInfo, hi]
 have hcapb : ¬ (Builtin.nextslicecap (len + n) cap * i.bytes > 2 ^ 48) := by
  have h1 := nextcap_le hgt
  have h2 := Nat.mul_le_mul_right i.bytes h1
  omega
 refine ⟨cap', hcap, ?_⟩
 rcases hs with ⟨hz, hn, hL⟩ | ⟨⟨t1, k, h1, hu⟩, rfl, hbn, hmn, hL⟩
 ·rcases notInt hz with h1 | ⟨t1, d, h1, hu, hd'⟩
  ·simp only [Builtin.append_, ht, h1, List.getElem?_toArray, List.getElem?_cons_zero, List.getElem?_cons_succ, Sem.run_bind, run_und hd, Result.andThen_ok, info_size hi, Sem.run_pure, Bool.false_eq_true, if_false, hn, hni, h63, false_and, hti, hti', hcapb, hrun, run_askRoom, hK, Bool.not_false, if_true, hL, hZ, newRow, run_newObj]
  ·cases d <;> first
    | exact absurd rfl (hd' _)
    | simp only [Builtin.append_, ht, h1, List.getElem?_toArray, List.getElem?_cons_zero, List.getElem?_cons_succ, Sem.run_bind, run_und hd, run_und hu, Result.andThen_ok, info_size hi, Sem.run_pure, Bool.false_eq_true, if_false, hn, hni, h63, false_and, hti, hti', hcapb, hrun, run_askRoom, hK, Bool.not_false, if_true, hL, hZ, newRow, run_newObj]
 ·have hw := wrap_small2 hmn
  have hneg : ¬ ((n : Int) < 0) := by omega
  have hbb : ¬ ((n : Int) * (i.bytes : Int) > 2 ^ 48) := by
   have : ((n * i.bytes : Nat) : Int) ≤ 281474976710656 := by omega
   rw [Int.natCast_mul] at this; omega
  have ha : (asInt (.int .i64 (n : Int))).run P w = .ok (n : Int) w := by simp [asInt, run_asIntOf]
  have h63' : ¬ ((((len + n : Nat) : Int) > IntKind.i64.max) ∧ (True ∨ i.bytes = 0)) := fun h => h63 h.1
  rcases hL with ⟨h0, rfl⟩ | ⟨h0, Z2, hZ2, hL⟩
  ·simp only [Builtin.append_, ht, h1, List.getElem?_toArray, List.getElem?_cons_zero, List.getElem?_cons_succ, Sem.run_bind, run_und hd, run_und hu, Result.andThen_ok, info_size hi, Sem.run_pure, ha, hw, hneg, if_false, hti, hti', hbb, Int.toNat_natCast, hni, h63, false_and, hcapb, hrun, run_askRoom, hK, h0, if_true, hZ, newRow, run_newObj, Bool.not_true, Bool.false_eq_true]
  ·simp only [Builtin.append_, ht, h1, List.getElem?_toArray, List.getElem?_cons_zero, List.getElem?_cons_succ, Sem.run_bind, run_und hd, run_und hu, Result.andThen_ok, info_size hi, Sem.run_pure, ha, hw, hneg, if_false, hti, hti', hbb, Int.toNat_natCast, hni, h63, false_and, hcapb, hrun, run_askRoom, hK, h0, hZ2, hZ, newRow, run_newObj, Bool.not_true, Bool.false_eq_true, if_true]
   rw [hL, show Z2 = Z by rw [hZ] at hZ2; cases hZ2; rfl]

end
end Go.Sym
end
