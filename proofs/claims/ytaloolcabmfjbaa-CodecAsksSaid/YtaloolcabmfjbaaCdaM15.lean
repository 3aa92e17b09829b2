/-
  Texts of this claim, one behind the other: EngF EngG EngH EngI EngJ EngK EngL. Each says its own conditions.
-/
import Derived.Test.YtaloolcabmfjbaaCdaM14
import Derived.RangeFuncLeaves
import Derived.OrdersIn

set_option linter.unusedVariables false
set_option linter.unusedSimpArgs false
set_option linter.unusedSectionVars false
section
namespace Go.Eng
set_option linter.unusedSimpArgs false
set_option linter.unusedVariables false

section
variable {P : Program} {base : Nat} {ρ : Env} {s : St} {w : World}

def OptRel (ρ : Env) : Option V → Option Value → Prop
 | none, X => X = none
 | some v, X => ∃ W, X = some W ∧ VRel ρ v W

theorem optO_rel {ev : Operand → Option V} {A : Act} (hA : EvRel ρ ev A) {x : Option Operand} {v : Option V} (h : optO ev x = some v) : OptRel ρ v (x.map A.eval) := by
 unfold optO at h
 split at h
 ·cases h; rfl
 ·split at h
  ·rename_i hv; cases h; exact ⟨_, rfl, evalO_rel hA hv⟩
  ·cases h

theorem boundE_rel {v : Option V} {d n : Nat} (h : boundE v d = some n) {X : Option Value} (hx : OptRel ρ v X) : (X = none ∧ v = none ∧ n = d) ∨ ∃ k, X = some (.int k (n : Int)) := by
 unfold boundE at h
 split at h
 ·cases h; exact .inl ⟨hx, rfl, rfl⟩
 ·obtain ⟨W, rfl, hw⟩ := hx
  obtain ⟨k, rfl⟩ := natOf_rel h hw
  exact .inr ⟨k, rfl⟩

theorem run_sliceBound {k : IntKind} {n y : Nat} {c : BoundsCode} (h : n ≤ y) : (Instr.sliceBound (.int k (n : Int)) y c).run P w = .ok n w := by
 simp [Instr.sliceBound, run_asIntOf, h]

theorem run_bounds {b : Bool} {len cap l h : Nat} {LO HI : Option Value} (hlo : (LO = none ∧ l = 0) ∨ ∃ k, LO = some (.int k (l : Int))) (hhi : (HI = none ∧ h = len) ∨ ∃ k, HI = some (.int k (h : Int)))
  (h1 : l ≤ h) (h2 : h ≤ cap) : (Instr.sliceBounds b len cap LO HI none).run P w = .ok (l, h, cap) w := by
 rcases hlo with ⟨rfl, rfl⟩ | ⟨k, rfl⟩ <;> rcases hhi with ⟨rfl, rfl⟩ | ⟨k', rfl⟩ <;>
  simp [Instr.sliceBounds, run_sliceBound h2, run_sliceBound h1]

theorem run_bounds3 {b : Bool} {len cap l h m : Nat} {LO : Option Value} (hlo : (LO = none ∧ l = 0) ∨ ∃ k, LO = some (.int k (l : Int))) {k k' : IntKind}
  (h1 : l ≤ h) (h2 : h ≤ m) (h3 : m ≤ cap) : (Instr.sliceBounds b len cap LO (some (.int k (h : Int))) (some (.int k' (m : Int)))).run P w = .ok (l, h, m) w := by
 rcases hlo with ⟨rfl, rfl⟩ | ⟨k, rfl⟩ <;> simp [Instr.sliceBounds, run_sliceBound h3, run_sliceBound h2, run_sliceBound h1]

theorem qSliceZ_rel {t e : TypeId} {sz : Nat} (hd : P.underlying t = some (.slice e)) (hsz : szE P e = some sz) {a v : V} {b : Option Addr} {c : Nat} (ha : VRel ρ a (.slice b 0 c)) (hbc : b = none → c = 0) {l : Nat} {hi mx : Option V} (hq : qSliceZ a l hi mx = some v)
  (hk : a = .nils ∨ ∃ x, a = .slz x) {LO HI MX : Option Value} (hL : (LO = none ∧ l = 0) ∨ ∃ k, LO = some (.int k (l : Int))) (hhi : OptRel ρ hi HI) (hmx : OptRel ρ mx MX) :
  ∃ X, (Instr.sliceAt t (.slice b 0 c) LO HI MX).run P w = .ok X w ∧ VRel ρ v X := by
 unfold qSliceZ at hq
 cases hl : Nat.beq l 0 with
 | false => rw [hl] at hq; cases hq
 | true =>
  rw [hl, cond_true] at hq
  have hl0 : l = 0 := Nat.eq_of_beq_eq_true hl
  subst hl0
  split at hq
  ·rename_i h0
   have hH : (HI = none ∧ 0 = 0) ∨ ∃ k, HI = some (.int k ((0 : Nat) : Int)) := (boundE_rel h0 hhi).imp (fun x => ⟨x.1, x.2.2⟩) id
   split at hq
   ·have hmx : MX = none := hmx
    subst hmx
    cases hq
    have hrun := run_bounds (P := P) (w := w) (b := b.isSome) (cap := c) hL hH (Nat.le_refl 0) (Nat.zero_le _)
    cases b with
    | none =>
     have := hbc rfl; subst this
     exact ⟨.slice none 0 0, by simp [Instr.sliceAt, run_und hd, Instr.slice, run_size hsz, run_bounds (P := P) (w := w) (b := true) (cap := 0) hL hH (Nat.le_refl 0) (Nat.le_refl 0)], ha⟩
    | some ad =>
     refine ⟨.slice (if c = 0 then some ad else some (ad.add (0 * sz))) 0 c, by simp [Instr.sliceAt, run_und hd, Instr.slice, run_size hsz, run_bounds (P := P) (w := w) (b := true) (cap := c) hL hH (Nat.le_refl 0) (Nat.zero_le _)], ?_⟩
     rcases hk with rfl | ⟨x, rfl⟩
     ·simp only [VRel] at ha; cases ha
     ·simp only [VRel] at ha ⊢
      obtain ⟨a', c', e, hc⟩ := ha
      cases e
      split
      ·exact ⟨_, _, rfl, hc⟩
      ·exact ⟨_, _, rfl, hc⟩
   ·rename_i mv
    split at hq
    ·rename_i hv hm0
     obtain ⟨W, rfl, hw⟩ := hmx
     obtain ⟨km, rfl⟩ := natOf_rel hm0 hw
     obtain ⟨kh, rfl⟩ : ∃ k, HI = some (.int k ((0 : Nat) : Int)) := by
      rcases hH with ⟨e, _⟩ | h
      ·obtain ⟨_, e', _⟩ := hhi; rw [e] at e'; cases e'
      ·exact h
     cases hq
     cases b with
     | none =>
      have := hbc rfl; subst this
      have hb3 : (Instr.sliceBounds true 0 0 LO (some (.int kh 0)) (some (.int km 0))).run P w = .ok (0, 0, 0) w := run_bounds3 (P := P) (w := w) (b := true) (len := 0) (cap := 0) hL (k := kh) (k' := km) (Nat.le_refl 0) (Nat.le_refl 0) (Nat.le_refl 0)
      refine ⟨.slice none 0 0, by simp [Instr.sliceAt, run_und hd, Instr.slice, run_size hsz, hb3], ?_⟩
      rcases hk with rfl | ⟨x, rfl⟩
      ·exact ha
      ·simp only [VRel] at ha; obtain ⟨_, _, e, _⟩ := ha; cases e
     | some ad =>
      have hb3 : (Instr.sliceBounds true 0 c LO (some (.int kh 0)) (some (.int km 0))).run P w = .ok (0, 0, 0) w := run_bounds3 (P := P) (w := w) (b := true) (len := 0) (cap := c) hL (k := kh) (k' := km) (Nat.le_refl 0) (Nat.le_refl 0) (Nat.zero_le _)
      refine ⟨.slice (some ad) 0 0, by simp [Instr.sliceAt, run_und hd, Instr.slice, run_size hsz, hb3], ?_⟩
      rcases hk with rfl | ⟨x, rfl⟩
      ·simp only [VRel] at ha; cases ha
      ·simp only [VRel]; exact ⟨_, _, rfl, fun _ => rfl⟩
    ·cases hq
  ·cases hq

theorem qSlice_rel (h : SRel base ρ s w) {t : TypeId} {a v : V} {lo hi mx : Option V} (hq : qSlice P s t a lo hi mx = some v) {A : Value} {LO HI MX : Option Value}
  (ha : VRel ρ a A) (hlo : OptRel ρ lo LO) (hhi : OptRel ρ hi HI) (hmx : OptRel ρ mx MX) : ∃ X, (Instr.sliceAt t A LO HI MX).run P w = .ok X w ∧ VRel ρ v X := by
 unfold qSlice at hq
 split at hq
 ·cases hq
 rename_i l hl
 have hL : (LO = none ∧ l = 0) ∨ ∃ k, LO = some (.int k (l : Int)) := (boundE_rel hl hlo).imp (fun x => ⟨x.1, x.2.2⟩) id
 split at hq
 ·rename_i hd
  split at hq
  ·rename_i x
   have hmx : MX = none := hmx
   subst hmx
   split at hq
   ·rename_i hh hhe
    have hH : (HI = none ∧ hh = x.n) ∨ ∃ k, HI = some (.int k (hh : Int)) := (boundE_rel hhe hhi).imp (fun x => ⟨x.1, x.2.2⟩) id
    cases hb : (Nat.ble l hh && Nat.ble hh x.n) with
    | false => simp [hb] at hq
    | true =>
     simp only [hb, cond_true, Option.some.injEq] at hq
     subst hq
     simp only [Bool.and_eq_true, Nat.ble_eq] at hb
     simp only [VRel] at ha; subst ha
     refine ⟨_, ?_, vstr _⟩
     rw [BS.den_sub x l hh hb.1 hb.2]
     simp [Instr.sliceAt, run_und hd, Instr.slice, BS.den_size, run_bounds (b := false) hL hH hb.1 hb.2]
   ·cases hq
  ·cases hq
 ·rename_i e hd
  split at hq
  ·cases hq
  rename_i sz hsz
  split at hq
  ·-- nil
   simp only [VRel] at ha; subst ha
   obtain ⟨X, h1, h2⟩ := qSliceZ_rel (P := P) (w := w) (b := none) (c := 0) hd hsz (by simp only [VRel]) (by simp) hq (.inl rfl) hL hhi hmx
   exact ⟨X, h1, h2⟩
  ·rename_i x
   have ha0 := ha
   simp only [VRel] at ha
   obtain ⟨a, c, rfl, hc⟩ := ha
   obtain ⟨X, h1, h2⟩ := qSliceZ_rel (P := P) (w := w) (b := some a) (c := c) hd hsz ha0 (by simp) hq (.inr ⟨x, rfl⟩) hL hhi hmx
   exact ⟨X, h1, h2⟩
  ·rename_i b o len cap x es
   cases hse : Nat.beq sz es with
   | false => simp [hse] at hq
   | true =>
   have hse' : sz = es := by simpa using hse
   subst hse'
   simp only [hse, Bool.not_true, cond_false] at hq
   split at hq
   ·cases hq
   rename_i hh hhe
   have hH : (HI = none ∧ hh = len) ∨ ∃ k, HI = some (.int k (hh : Int)) := (boundE_rel hhe hhi).imp (fun x => ⟨x.1, x.2.2⟩) id
   cases hb : (Nat.ble l hh && Nat.ble hh cap) with
   | false => simp [hb] at hq
   | true =>
   simp only [hb, Bool.not_true, cond_false] at hq
   simp only [Bool.and_eq_true, Nat.ble_eq] at hb
   simp only [VRel] at ha
   obtain ⟨B, O, S, cap', hB, rfl, c1, c2, c3, c4⟩ := ha
   split at hq
   ·have hmx : MX = none := hmx
    subst hmx
    have hrun := run_bounds (P := P) (w := w) (b := true) (cap := cap') hL hH hb.1 (by omega)
    have hrun' : (Instr.sliceAt t (.slice (some ⟨B, O + o, none⟩) len cap') LO HI none).run P w =
      .ok (.slice (if cap' = l then some ⟨B, O + o, none⟩ else some ((⟨B, O + o, none⟩ : Addr).add (l * sz))) (hh - l) (cap' - l)) w := by
     simp [Instr.sliceAt, run_und hd, Instr.slice, run_size hsz, hrun]
    rw [hrun']
    refine ⟨_, rfl, ?_⟩
    cases hl0 : Nat.beq l 0 with
    | true =>
     have e : l = 0 := by simpa using hl0
     subst e
     simp only [hl0, cond_true, Option.some.injEq] at hq
     subst hq
     simp only [VRel]
     refine ⟨B, O, S, cap', hB, ?_, hb.2, c2, c3, c4⟩
     simp [addr_add]
    | false =>
     simp only [hl0, cond_false] at hq
     cases hlc : Nat.blt l cap with
     | true =>
      have hlt : l < cap := by simpa [Nat.blt_eq] using hlc
      simp only [hlc, cond_true, Option.some.injEq] at hq
      subst hq
      simp only [VRel]
      refine ⟨B, O, S, cap' - l, hB, ?_, by omega, by omega, fun hx => by rw [c3 hx], ?_⟩
      ·rw [if_neg (by omega), addr_add, Nat.add_assoc]
      ·have : l * sz + (cap' - l) * sz = cap' * sz := by rw [← Nat.add_mul]; congr 1; omega
       omega
     | false =>
      have hge : cap ≤ l := by
       refine Nat.not_lt.1 fun hh => ?_
       have : Nat.blt l cap = true := by simpa [Nat.blt_eq] using hh
       rw [hlc] at this; cases this
      simp only [hlc, cond_false] at hq
      cases hx : x with
      | false =>
       simp only [hx, cond_false, Option.some.injEq] at hq
       subst hq
       have e2 : hh - l = 0 := by omega
       simp only [VRel]
       rw [e2]
       split
       ·exact ⟨_, _, rfl, fun h => (by cases h)⟩
       ·exact ⟨_, _, rfl, fun h => (by cases h)⟩
      | true =>
       simp only [hx, cond_true, Option.some.injEq] at hq
       subst hq
       have hc := c3 hx
       have e1 : cap' = l := by omega
       have e2 : hh = l := by omega
       subst e2; subst e1
       simp only [VRel]
       refine ⟨B, O, S, 0, hB, by simp, by omega, by omega, fun _ => rfl, by omega⟩
   ·rename_i mv hv
    split at hq
    ·rename_i m hm
     obtain ⟨W, rfl, hW⟩ := hmx
     obtain ⟨k', rfl⟩ := natOf_rel hm hW
     cases hb2 : (Nat.ble hh m && Nat.ble m cap) with
     | false => simp [hb2] at hq
     | true =>
     simp only [hb2, cond_true] at hq
     simp only [Bool.and_eq_true, Nat.ble_eq] at hb2
     rcases hH with ⟨rfl, _⟩ | ⟨k, rfl⟩
     ·obtain ⟨_, hh', _⟩ := hhi; cases hh'
     have hrun := run_bounds3 (P := P) (w := w) (b := true) (cap := cap') (len := len) (k := k) (k' := k') hL hb.1 hb2.1 (by omega)
     have hrun' : (Instr.sliceAt t (.slice (some ⟨B, O + o, none⟩) len cap') LO (some (.int k (hh : Int))) (some (.int k' (m : Int)))).run P w =
       .ok (.slice (if m = l then some ⟨B, O + o, none⟩ else some ((⟨B, O + o, none⟩ : Addr).add (l * sz))) (hh - l) (m - l)) w := by
      simp [Instr.sliceAt, run_und hd, Instr.slice, run_size hsz, hrun]
     rw [hrun']
     refine ⟨_, rfl, ?_⟩
     cases hml : Nat.beq m l with
     | true =>
      have e : m = l := by simpa using hml
      simp only [hml, cond_true, Option.some.injEq] at hq
      subst hq
      subst e
      simp only [VRel]
      refine ⟨B, O, S, 0, hB, by simp, by omega, by omega, fun _ => rfl, by omega⟩
     | false =>
      have e : m ≠ l := by intro e; subst e; simp at hml
      simp only [hml, cond_false, Option.some.injEq] at hq
      subst hq
      simp only [VRel]
      refine ⟨B, O, S, m - l, hB, by rw [if_neg e, addr_add, Nat.add_assoc], by omega, by omega, fun _ => rfl, ?_⟩
      have : l * sz + (m - l) * sz = m * sz := by rw [← Nat.add_mul]; congr 1; omega
      have : m * sz ≤ cap' * sz := Nat.mul_le_mul_right _ (by omega)
      omega
    ·cases hq
   ·cases hq
  ·cases hq
 ·rename_i n e hd
  split at hq
  ·rename_i sz hsz
   have hmx : MX = none := hmx
   subst hmx
   split at hq
   ·rename_i b o
    split at hq
    ·rename_i cs hh hcs hhe
     have hH : (HI = none ∧ hh = n) ∨ ∃ k, HI = some (.int k (hh : Int)) := (boundE_rel hhe hhi).imp (fun x => ⟨x.1, x.2.2⟩) id
     simp only [llen_eq] at hq
     cases hb : (Nat.ble l hh && (Nat.ble hh n && Nat.ble (o + n * sz) cs.length)) with
     | false => simp [hb] at hq
     | true =>
     simp only [hb, cond_true] at hq
     simp only [Bool.and_eq_true, Nat.ble_eq] at hb
     simp only [VRel] at ha
     obtain ⟨B, O, S, hB, rfl⟩ := ha
     obtain ⟨x, hx, hc⟩ := h.cellsAt hcs hB
     rw [hB] at hx; cases hx
     obtain ⟨C, t', fr, _, _, hlen, _⟩ := hc.ex
     simp only at hlen
     have hrun := run_bounds (P := P) (w := w) (b := false) (cap := n) hL hH hb.1 hb.2.1
     have hrun' : (Instr.sliceAt t (.pointer (some ⟨B, O + o, none⟩)) LO HI none).run P w =
       .ok (.slice (some (if n = l then ⟨B, O + o, none⟩ else ((⟨B, O + o, none⟩ : Addr).add (l * sz)))) (hh - l) (n - l)) w := by
      simp [Instr.sliceAt, run_und hd, Instr.sureAddr, run_size hsz, hrun]
     rw [hrun']
     refine ⟨_, rfl, ?_⟩
     cases hnl : Nat.beq n l with
     | true =>
      have e : n = l := by simpa using hnl
      simp only [hnl, cond_true, Option.some.injEq] at hq
      subst hq
      simp only [VRel]
      refine ⟨B, O, S, 0, hB, by simp [e], by omega, by omega, fun _ => rfl, by omega⟩
     | false =>
      have e : n ≠ l := by intro e; subst e; simp at hnl
      simp only [hnl, cond_false, Option.some.injEq] at hq
      subst hq
      simp only [VRel]
      refine ⟨B, O, S, n - l, hB, by rw [if_neg e, addr_add, Nat.add_assoc], by omega, by omega, fun _ => rfl, ?_⟩
      have : l * sz + (n - l) * sz = n * sz := by rw [← Nat.add_mul]; congr 1; omega
      omega
    ·cases hq
   ·cases hq
  ·cases hq
 ·cases hq

theorem keyEq_rel {a b : V} {r : Bool} (h : keyEq a b = some r) {A B : Value} (ha : VRel ρ a A) (hb : VRel ρ b B) {kt : TypeId} {d : TypeDesc} (hd : P.underlying kt = some d) (hk : plainKeyE P kt a = true) :
  Instr.sameNow d A B = some r := by
 unfold keyEq at h
 unfold plainKeyE at hk
 rw [hd] at hk
 split at h
 ·rename_i k x k' y
  rw [kEq_iff, eqQ_eq] at h
  cases hkk : decide (k = k') with
  | false => simp [hkk] at h
  | true =>
   have e : k = k' := by simpa using hkk
   subst e
   simp only [decide_true, cond_true, Option.some.injEq] at h
   subst h
   simp only [VRel] at ha hb; subst ha; subst hb
   cases d <;> simp at hk
   simp [Instr.sameNow]
 ·rename_i x y
  cases h
  simp only [VRel] at ha hb; subst ha; subst hb
  cases d <;> simp at hk
  simp only [Instr.sameNow, BS.eq_iff, beq_toListBytes, ByteArray.toList_eq]
 ·cases h
  simp only [VRel] at ha hb; subst ha; subst hb
  cases d <;> simp at hk
  simp [Instr.sameNow]
 ·cases h

theorem findE_rel {k : V} {K : Value} (hk : VRel ρ k K) {kt : TypeId} {d : TypeDesc} (hd : P.underlying kt = some d) (hp : plainKeyE P kt k = true) :
  ∀ {l : List (V × V × Nat)} {E : List MapEntry} (_ : MRel ρ l E) (i : Nat) {r : Option (Nat × V)}, findE k l i = some r →
   (r = none ∧ Instr.findNow d K E i = some none) ∨ ∃ j v W, r = some (j, v) ∧ Instr.findNow d K E i = some (some (j, W)) ∧ VRel ρ v W
 | [], E, hm, i, r, h => by
  have hm : E = [] := hm
  subst hm
  simp only [findE] at h; cases h
  exact .inl ⟨rfl, rfl⟩
 | e :: l, E, hm, i, r, h => by
  obtain ⟨x, y, rfl, h1, h2, h3, h4⟩ := hm
  simp only [findE] at h
  split at h
  ·rename_i he
   cases h
   exact .inr ⟨_, _, _, rfl, by simp [Instr.findNow, keyEq_rel he hk h1 hd hp], h2⟩
  ·rename_i he
   have := findE_rel hk hd hp h4 (i + 1) h
   simpa [Instr.findNow, keyEq_rel he hk h1 hd hp] using this
  ·cases h

theorem run_checkKeyE {kt : TypeId} {k : V} {K : Value} (hk : VRel ρ k K) (hp : plainKeyE P kt k = true) (e : Bool) (n : Nat) : (Instr.checkKey e (n + 1) kt K).run P w = .ok () w := by
 unfold plainKeyE at hp
 split at hp
 ·rename_i hd; simp only [VRel] at hk; subst hk; simp [Instr.checkKey, run_und hd]
 ·rename_i hd; simp only [VRel] at hk; subst hk; simp [Instr.checkKey, run_und hd]
 ·rename_i hd; simp only [VRel] at hk; subst hk; simp [Instr.checkKey, run_und hd]
 ·cases hp

theorem plainKeyE_und {kt : TypeId} {k : V} (hp : plainKeyE P kt k = true) : ∃ d, P.underlying kt = some d := by
 unfold plainKeyE at hp
 split at hp <;> rename_i hd <;> first | exact ⟨_, hd⟩ | cases hp

theorem run_findKeyE {k : V} {K : Value} (hk : VRel ρ k K) {kt : TypeId} (hp : plainKeyE P kt k = true) {l : List (V × V × Nat)} {E : List MapEntry} (hm : MRel ρ l E) {r : Option (Nat × V)} (h : findE k l 0 = some r) :
  (r = none ∧ (Instr.findKey kt K E).run P w = .ok none w) ∨ ∃ j v W, r = some (j, v) ∧ (Instr.findKey kt K E).run P w = .ok (some (j, W)) w ∧ VRel ρ v W := by
 obtain ⟨d, hd⟩ := plainKeyE_und hp
 rcases findE_rel hk hd hp hm 0 h with ⟨h1, h2⟩ | ⟨j, v, W, h1, h2, h3⟩
 ·exact .inl ⟨h1, by simp [Instr.findKey, run_und hd, h2]⟩
 ·exact .inr ⟨j, v, W, h1, by simp [Instr.findKey, run_und hd, h2], h3⟩

theorem zeroE_rel {t : TypeId} {z : V} (h : zeroE P t = some z) : ∃ Z, (zeroValue t).run P w = .ok Z w ∧ VRel ρ z Z ∧ (∃ i, P.info? t = some i ∧ i.zero = some Z) := by
 unfold zeroE at h
 split at h
 ·rename_i i hi
  split at h
  ·rename_i v hv
   exact ⟨v, by simp [zeroValue, typeInfo, hi, hv], ofVal_rel h, i, hi, hv⟩
  ·cases h
 ·cases h

theorem qLookup_rel (h : SRel base ρ s w) {t : TypeId} {m k v : V} {ok : Bool} (hq : qLookup P s t m k ok = some v) {M K : Value} (hm : VRel ρ m M) (hk : VRel ρ k K) :
  ∃ X, (Instr.lookup t M K ok).run P w = .ok X w ∧ VRel ρ v X := by
 unfold qLookup at hq
 split at hq
 ·rename_i kt e hd
  cases hp : plainKeyE P kt k with
  | false => simp [hp] at hq
  | true =>
  simp only [hp, Bool.not_true, cond_false] at hq
  split at hq
  ·cases hq
  rename_i es hes
  have key : ∃ E : Array MapEntry, MRel ρ es E.toList ∧ (Instr.lookup t M K ok).run P w = (do
      Instr.checkKey E.isEmpty 10000 kt K
      let (v, ok') ← match ← Instr.findKey kt K E.toList with
        | some (_, v) => pure (v, true)
        | none => pure (← zeroValue e, false)
      pure (if ok then .tuple #[v, .bool ok'] else v) : Sem Value).run P w := by
   split at hes
   ·cases hes
    simp only [VRel] at hm; subst hm
    exact ⟨#[], rfl, by simp only [Instr.lookup, Sem.run_bind, run_und hd, Result.andThen_ok, Sem.run_pure]; rfl⟩
   ·rename_i b
    split at hes
    ·rename_i es' c hg
     cases hes
     simp only [VRel] at hm
     obtain ⟨B, O, S, hB, rfl⟩ := hm
     obtain ⟨x, hx, _, E, hE, hrel⟩ := h.obj' hg hB
     rw [hB] at hx; cases hx
     have hgo : (getObj B).run P w = .ok (.map E c) w := by simp only [getObj, Sem.run]; simp only at hE; rw [hE]
     exact ⟨E, hrel, by simp only [Instr.lookup, Sem.run_bind, run_und hd, Result.andThen_ok, hgo, Sem.run_pure]; rfl⟩
    ·cases hes
   ·cases hes
  obtain ⟨E, hrel, h0⟩ := key
  rw [h0]
  simp only [Sem.run_bind, run_checkKeyE hk hp, Result.andThen_ok]
  split at hq
  ·rename_i j v' hf
   rcases run_findKeyE (w := w) hk hp hrel hf with ⟨h1, _⟩ | ⟨j', v2, W, h1, h2, h3⟩
   ·cases h1
   ·cases h1
    cases hq
    simp only [h2, Result.andThen_ok, Sem.run_pure]
    cases ok
    ·exact ⟨_, rfl, h3⟩
    ·exact ⟨_, rfl, by simp only [cond_true, VRel]; exact ⟨_, rfl, LRel.cons h3 (LRel.cons (vbool _) LRel.nil)⟩⟩
  ·rename_i hf
   split at hq
   ·rename_i z hz
    cases hq
    obtain ⟨Z, hZ, hz', _⟩ := zeroE_rel (ρ := ρ) (w := w) hz
    rcases run_findKeyE (w := w) hk hp hrel hf with ⟨_, h2⟩ | ⟨j', v2, W, h1, h2, h3⟩
    ·simp only [h2, Result.andThen_ok, Sem.run_bind, Sem.run_pure, hZ]
     cases ok
     ·exact ⟨_, rfl, hz'⟩
     ·exact ⟨_, rfl, by simp only [cond_true, VRel]; exact ⟨_, rfl, LRel.cons hz' (LRel.cons (vbool _) LRel.nil)⟩⟩
    ·cases h1
   ·cases hq
  ·cases hq
 ·cases hq

theorem MRel.length : ∀ {l : List (V × V × Nat)} {E : List MapEntry}, MRel ρ l E → l.length = E.length
 | [], _, h => by have h : _ = [] := h; subst h; rfl
 | _ :: _, _, h => by obtain ⟨x, y, rfl, _, _, _, h4⟩ := h; simp [MRel.length h4]

theorem qLen_rel (h : SRel base ρ s w) {t ty : TypeId} {a v : V} (hq : qLen P s t a = some v) {A : Value} (ha : VRel ρ a A) {ts : Array TypeId} (ht : ts[0]? = some t) :
  ∃ X, (Builtin.len_ ts ty #[A]).run P w = .ok X w ∧ VRel ρ v X := by
 unfold qLen at hq
 split at hq
 ·rename_i hd
  split at hq <;> cases hq
  simp only [VRel] at ha; subst ha
  exact ⟨_, by simp [Builtin.len_, ht, run_und hd, BS.den_size, goInt], vint _ _⟩
 ·rename_i n e hd
  cases hq
  refine ⟨_, by simp [Builtin.len_, ht, run_und hd, goInt], vint _ _⟩
 ·rename_i e hd
  split at hq <;> cases hq <;> simp only [VRel] at ha
  ·subst ha
   exact ⟨_, by simp [Builtin.len_, ht, run_und hd, goInt], vint _ _⟩
  ·obtain ⟨_, _, rfl, _⟩ := ha
   exact ⟨_, by simp [Builtin.len_, ht, run_und hd, goInt], vint _ _⟩
  ·obtain ⟨B, O, S, cap', _, rfl, _⟩ := ha
   exact ⟨_, by simp [Builtin.len_, ht, run_und hd, goInt], vint _ _⟩
 ·rename_i k e hd
  split at hq
  ·cases hq
   simp only [VRel] at ha; subst ha
   exact ⟨_, by simp [Builtin.len_, ht, run_und hd, goInt], vint _ _⟩
  ·split at hq
   ·rename_i hg
    cases hq
    simp only [VRel] at ha
    obtain ⟨B, O, S, hB, rfl⟩ := ha
    obtain ⟨x, hx, _, E, hE, hrel⟩ := h.obj' hg hB
    rw [hB] at hx; cases hx
    refine ⟨_, ?_, vint _ _⟩
    have := hrel.length
    simp at this
    rw [llen_eq]
    simp [Builtin.len_, ht, run_und hd, goInt, getObj, Sem.run, hE, this]
   ·cases hq
  ·cases hq
 ·rename_i arr hd
  split at hq
  ·rename_i n e hd2
   cases hq
   refine ⟨_, by simp [Builtin.len_, ht, run_und hd, run_und hd2, goInt], vint _ _⟩
  ·cases hq
 ·cases hq

theorem qCap_rel {t ty : TypeId} {a v : V} (hq : qCap P t a = some v) {A : Value} (ha : VRel ρ a A) {ts : Array TypeId} (ht : ts[0]? = some t) :
  ∃ X, (Builtin.cap_ ts ty #[A]).run P w = .ok X w ∧ VRel ρ v X := by
 unfold qCap at hq
 split at hq
 ·rename_i n e hd
  cases hq
  exact ⟨_, by simp [Builtin.cap_, ht, run_und hd, goInt], vint _ _⟩
 ·rename_i e hd
  split at hq <;> cases hq <;> simp only [VRel] at ha
  ·subst ha
   exact ⟨_, by simp [Builtin.cap_, ht, run_und hd, goInt], vint _ _⟩
  ·obtain ⟨B, O, S, cap', _, rfl, _, _, hc, _⟩ := ha
   rw [hc trivial]
   exact ⟨_, by simp [Builtin.cap_, ht, run_und hd, goInt], vint _ _⟩
 ·cases hq

theorem minMax_rel : ∀ (l : List V) (k : IntKind) (x : Int) (v : V), minMax false (.int k x) l = some v → ∀ {L : List Value}, LRel ρ l L → ∃ X, (L.foldlM Builtin.min2 (.int k x)).run P w = .ok X w ∧ VRel ρ v X
 | [], k, x, v, h, L, hl => by
  have hl : L = [] := hl
  subst hl; simp only [minMax] at h; cases h
  exact ⟨_, by simp, vint _ _⟩
 | b :: l, k, x, v, h, L, hl => by
  obtain ⟨X, Y, rfl, h1, h2⟩ := hl
  cases b <;> simp only [minMax, reduceCtorEq] at h
  simp only [VRel] at h1; subst h1
  obtain ⟨Z, e1, e2⟩ := minMax_rel l _ _ v h h2
  rename_i k' y
  have e : (bif ltQ y x then y else x) = if y < x then y else x := by rw [ltQ_eq]; by_cases hh : y < x <;> simp [hh]
  simp only [cond_false, e] at e1
  exact ⟨Z, by simpa [Builtin.min2] using e1, e2⟩
theorem maxMin_rel : ∀ (l : List V) (k : IntKind) (x : Int) (v : V), minMax true (.int k x) l = some v → ∀ {L : List Value}, LRel ρ l L → ∃ X, (L.foldlM Builtin.max2 (.int k x)).run P w = .ok X w ∧ VRel ρ v X
 | [], k, x, v, h, L, hl => by
  have hl : L = [] := hl
  subst hl; simp only [minMax] at h; cases h
  exact ⟨_, by simp, vint _ _⟩
 | b :: l, k, x, v, h, L, hl => by
  obtain ⟨X, Y, rfl, h1, h2⟩ := hl
  cases b <;> simp only [minMax, reduceCtorEq] at h
  simp only [VRel] at h1; subst h1
  obtain ⟨Z, e1, e2⟩ := maxMin_rel l _ _ v h h2
  rename_i k' y
  have e : (bif ltQ x y then y else x) = if y > x then y else x := by rw [ltQ_eq]; by_cases hh : x < y <;> simp [hh]
  simp only [cond_true, e] at e1
  exact ⟨Z, by simpa [Builtin.max2] using e1, e2⟩

theorem cellsV_rel {v : V} {X : Value} (h : VRel ρ v X) : LRel ρ (cellsV v) X.cells.toList := by
 cases v <;> simp only [VRel] at h
 all_goals first
  | (subst h; exact LRel.cons (by simp only [VRel]) LRel.nil)
  | skip
 case ptr => obtain ⟨B, O, S, h1, rfl⟩ := h; exact LRel.cons (by simp only [VRel]; exact ⟨B, O, S, h1, rfl⟩) LRel.nil
 case slz => obtain ⟨a, c, rfl, hc⟩ := h; exact LRel.cons (by simp only [VRel]; exact ⟨a, c, rfl, hc⟩) LRel.nil
 case sl => obtain ⟨B, O, S, c, h1, rfl, h2⟩ := h; exact LRel.cons (by simp only [VRel]; exact ⟨B, O, S, c, h1, rfl, h2⟩) LRel.nil
 case map => obtain ⟨B, O, S, h1, rfl⟩ := h; exact LRel.cons (by simp only [VRel]; exact ⟨B, O, S, h1, rfl⟩) LRel.nil
 case fn => obtain ⟨A, C, rfl, h2⟩ := h; exact LRel.cons (by simp only [VRel]; exact ⟨A, C, rfl, h2⟩) LRel.nil
 case yld => obtain ⟨B, O, S, h1, rfl⟩ := h; exact LRel.cons (by simp only [VRel]; exact ⟨B, O, S, h1, rfl⟩) LRel.nil
 case iface => obtain ⟨A, rfl, h2⟩ := h; exact LRel.cons (by simp only [VRel]; exact ⟨A, rfl, h2⟩) LRel.nil
 case tup => obtain ⟨A, rfl, h2⟩ := h; exact LRel.cons (by simp only [VRel]; exact ⟨A, rfl, h2⟩) LRel.nil
 case it => obtain ⟨B, S, h1, rfl⟩ := h; exact LRel.cons (by simp only [VRel]; exact ⟨B, S, h1, rfl⟩) LRel.nil
 case agg => obtain ⟨A, rfl, h2⟩ := h; exact h2

theorem setAll_rel : ∀ {l : List V} {L : List Value}, LRel ρ l L → ∀ {cs : List V} {A : Array Value}, LRel ρ cs A.toList → ∀ (off k : Nat),
  LRel ρ (setAll cs (off + k) l) ((L.zipIdx k).foldl (fun (cs : Array Value) (x : Value × Nat) => cs.setIfInBounds (off + x.2) x.1) A).toList
 | [], L, h, cs, A, hA, off, k => by
  have h : L = [] := h
  subst h; simpa [setAll] using hA
 | v :: l, L, h, cs, A, hA, off, k => by
  obtain ⟨X, Y, rfl, h1, h2⟩ := h
  simp only [setAll, lset_eq, List.zipIdx_cons, List.foldl_cons]
  rw [Nat.add_assoc]
  exact setAll_rel h2 (by rw [Array.toList_setIfInBounds]; exact hA.set h1) off (k + 1)

theorem setAll_length : ∀ (l cs : List V) (off : Nat), (setAll cs off l).length = cs.length
 | [], _, _ => rfl
 | c :: l, cs, off => by simp [setAll, lset_eq, setAll_length l]

def PRel (ρ : Env) : List (Nat × V) → List (Nat × Value) → Prop
 | [], L => L = []
 | p :: l, L => ∃ X Y, L = (p.1, X) :: Y ∧ VRel ρ p.2 X ∧ PRel ρ l Y

theorem evalParts_rel {ev : Operand → Option V} {A : Act} (hA : EvRel ρ ev A) : ∀ {xs : List (Nat × Operand)} {ps : List (Nat × V)}, evalParts ev xs = some ps → PRel ρ ps (xs.map fun p => (p.1, A.eval p.2))
 | [], ps, h => by simp only [evalParts] at h; cases h; rfl
 | (i, x) :: xs, ps, h => by
  simp only [evalParts] at h
  split at h
  ·rename_i v hv
   split at h
   ·rename_i r hr; cases h; exact ⟨_, _, rfl, evalO_rel hA hv, evalParts_rel hA hr⟩
   ·cases h
  ·cases h

theorem fillE_rel {place : Nat → Option (Nat × Nat)} : ∀ {ps : List (Nat × V)} {Ps : List (Nat × Value)}, PRel ρ ps Ps → ∀ {cs r : List V} {A : Array Value}, LRel ρ cs A.toList → fillE place cs ps = some r →
  ∃ R, Instr.fill place A Ps = some R ∧ LRel ρ r R.toList
 | [], Ps, hp, cs, r, A, hA, h => by
  have hp : Ps = [] := hp
  subst hp; simp only [fillE] at h; cases h
  exact ⟨A, rfl, hA⟩
 | (i, v) :: ps, Ps, hp, cs, r, A, hA, h => by
  obtain ⟨X, Y, rfl, h1, h2⟩ := hp
  simp only [fillE] at h
  split at h
  ·rename_i off size hpl
   simp only [llen_eq] at h
   cases hb : (Nat.beq (cellsV v).length size && Nat.ble (off + size) cs.length) with
   | false => simp [hb] at h
   | true =>
    simp only [hb, cond_true] at h
    simp only [Bool.and_eq_true, Nat.ble_eq, Nat.beq_eq] at hb
    have hc := cellsV_rel h1
    have hl := hc.length
    have hl2 := hA.length
    simp only [Array.length_toList] at hl hl2
    have hset := setAll_rel hc hA off 0
    obtain ⟨R, e1, e2⟩ := fillE_rel h2 (A := X.cells.zipIdx.foldl (fun cs (x : Value × Nat) => cs.setIfInBounds (off + x.2) x.1) A)
     (by rw [← Array.foldl_toList, Array.toList_zipIdx]; exact hset) h
    refine ⟨R, ?_, e2⟩
    simp only [Instr.fill, hpl]
    rw [if_neg (by simp; omega)]
    exact e1
  ·cases h

theorem run_places : ∀ (fs : List Field) {pl : List (Nat × Nat)}, placesE P fs = some pl → (fs.mapM fun f => do pure (f.offset, ← sizeOf f.type) : Sem (List (Nat × Nat))).run P w = .ok pl w
 | [], pl, h => by simp only [placesE] at h; cases h; simp
 | f :: fs, pl, h => by
  simp only [placesE] at h
  split at h
  ·rename_i n hn
   split at h
   ·rename_i r hr
    cases h
    have ih := run_places fs hr
    simp only [List.mapM_cons, Sem.run_bind, run_size hn, Result.andThen_ok, Sem.run_pure, ih]
   ·cases h
  ·cases h

theorem qBuild_rel {t : TypeId} {ps : List (Nat × V)} {v : V} (hq : qBuild P t ps = some v) {Ps : Array (Nat × Value)} (hp : PRel ρ ps Ps.toList) :
  ∃ X, (Instr.build t Ps).run P w = .ok X w ∧ VRel ρ v X := by
 unfold qBuild at hq
 split at hq
 ·cases hq
 rename_i z hz
 obtain ⟨Z, hZ, hzr, _⟩ := zeroE_rel (ρ := ρ) (w := w) hz
 have hzc := cellsV_rel hzr
 split at hq
 ·rename_i fs hd
  split at hq
  ·rename_i pl hpl
   split at hq
   ·rename_i cs hcs
    cases hq
    obtain ⟨R, e1, e2⟩ := fillE_rel hp hzc hcs
    refine ⟨.agg R, ?_, by simp only [VRel]; exact ⟨R, rfl, e2⟩⟩
    have hpr := run_places (w := w) fs.toList hpl
    have e3 : (fun (i : Nat) => (pl.toArray[i]? : Option (Nat × Nat))) = fun (i : Nat) => lget pl i := by funext i; simp [lget_eq]
    simp only [Instr.build, Sem.run_bind, hZ, Result.andThen_ok, run_und hd, Array.mapM_eq_mapM_toList, Sem.run_map, hpr, Sem.run_pure]
    rw [e3, e1]
    rfl
   ·cases hq
  ·cases hq
 ·rename_i n e hd
  split at hq
  ·rename_i sz hsz
   split at hq
   ·rename_i cs hcs
    cases hq
    obtain ⟨R, e1, e2⟩ := fillE_rel hp hzc hcs
    refine ⟨.agg R, ?_, by simp only [VRel]; exact ⟨R, rfl, e2⟩⟩
    simp only [Instr.build, Sem.run_bind, hZ, Result.andThen_ok, run_und hd, run_size hsz]
    rw [e1]
    rfl
   ·cases hq
  ·cases hq
 ·cases hq

theorem qAssert_rel (xt : TypeId) {t : TypeId} {v u : V} {ok : Bool} (hq : qAssert P t v ok = some u) {X : Value} (hv : VRel ρ v X) : ∃ Y, (Instr.typeAssert X xt t ok).run P w = .ok Y w ∧ VRel ρ u Y := by
 unfold qAssert at hq
 have zer : ∀ {u : V}, assertZ P t ok = some u → ok = true ∧ ∃ Z, (zeroValue t).run P w = .ok Z w ∧ VRel ρ u (.tuple #[Z, .bool false]) := by
  intro u h
  unfold assertZ at h
  split at h
  ·rename_i z hz
   cases h
   obtain ⟨Z, hZ, hzr, _⟩ := zeroE_rel (ρ := ρ) (w := w) hz
   refine ⟨rfl, Z, hZ, ?_⟩
   simp only [VRel]
   exact ⟨_, rfl, LRel.cons hzr (LRel.cons (by simp only [VRel]) LRel.nil)⟩
  ·cases h
 split at hq
 ·cases hq
 ·rename_i d hni hd
  cases v with
  | iface t' x =>
   simp only [VRel] at hv
   simp only at hq
   obtain ⟨Y, rfl, hy⟩ := hv
   cases hb : Nat.beq t' t with
   | true =>
    rw [hb, cond_true] at hq
    cases hq
    have e := Nat.eq_of_beq_eq_true hb
    subst e
    cases ok with
    | true => exact ⟨.tuple #[Y, .bool true], by cases d <;> first | exact absurd rfl (hni _) | simp [Instr.typeAssert, run_und hd], by simp only [cond_true, VRel]; exact ⟨_, rfl, LRel.cons hy (LRel.cons (by simp only [VRel]) LRel.nil)⟩⟩
    | false => exact ⟨Y, by cases d <;> first | exact absurd rfl (hni _) | simp [Instr.typeAssert, run_und hd], hy⟩
   | false =>
    rw [hb, cond_false] at hq
    obtain ⟨rfl, Z, hZ, hr⟩ := zer hq
    have hne : ¬ t' = t := fun e => by subst e; simp at hb
    exact ⟨_, by cases d <;> first | exact absurd rfl (hni _) | simp [Instr.typeAssert, run_und hd, hne, hZ], hr⟩
  | nili =>
   simp only [VRel] at hv
   subst hv
   obtain ⟨rfl, Z, hZ, hr⟩ := zer hq
   exact ⟨_, by cases d <;> first | exact absurd rfl (hni _) | simp [Instr.typeAssert, run_und hd, hZ], hr⟩
  | _ => cases hq
 ·cases hq

end
end Go.Eng
end

section
namespace Go.Eng
set_option linter.unusedSimpArgs false
set_option linter.unusedVariables false

section
variable {P : Program} {base : Nat} {ρ : Env} {s : St} {w : World}

theorem arr1 {A : Array Value} {X : Value} (h : A.toList = [X]) : A = #[X] := by cases A; simp at h; simp [h]

theorem qBuiltin_rel (h : SRel base ρ s w) {b : Builtin} {ts : Array TypeId} {vs : List V} {v : V} (hq : qBuiltin P s b ts vs = some v) {A : Array Value} (ha : LRel ρ vs A.toList) (ty : TypeId) (cs : Array Bool) :
  ∃ X, (Go.builtin b ts ty cs A).run P w = .ok (.value X) w ∧ VRel ρ v X := by
 unfold qBuiltin at hq
 split at hq
 ·split at hq
  ·rename_i t a ht
   obtain ⟨X, Y, e, h1, h2⟩ := ha
   have h2 : Y = [] := h2
   subst h2
   obtain rfl := arr1 e
   obtain ⟨Z, e1, e2⟩ := qLen_rel h (ty := ty) hq h1 ht
   exact ⟨Z, by simp [Go.builtin, e1], e2⟩
  ·cases hq
 ·split at hq
  ·rename_i t a ht
   obtain ⟨X, Y, e, h1, h2⟩ := ha
   have h2 : Y = [] := h2
   subst h2
   obtain rfl := arr1 e
   obtain ⟨Z, e1, e2⟩ := qCap_rel (w := w) (ty := ty) hq h1 ht
   exact ⟨Z, by simp [Go.builtin, e1], e2⟩
  ·cases hq
 ·split at hq
  ·rename_i k x l
   obtain ⟨X, Y, e, h1, h2⟩ := ha
   simp only [VRel] at h1; subst h1
   obtain ⟨Z, e1, e2⟩ := minMax_rel (P := P) (w := w) l _ _ v hq h2
   exact ⟨Z, by simp [Go.builtin, Builtin.min_, e, e1], e2⟩
  ·cases hq
 ·split at hq
  ·rename_i k x l
   obtain ⟨X, Y, e, h1, h2⟩ := ha
   simp only [VRel] at h1; subst h1
   obtain ⟨Z, e1, e2⟩ := maxMin_rel (P := P) (w := w) l _ _ v hq h2
   exact ⟨Z, by simp [Go.builtin, Builtin.max_, e, e1], e2⟩
  ·cases hq
 ·cases hq

theorem map_toList {α β : Type} (a : Array α) (f : α → β) : (a.map f).toList = a.toList.map f := by simp

theorem qop_rel (h : SRel base ρ s w) {ev : Operand → Option V} {A : Act} (hA : EvRel ρ ev A) {o : Oper} {v : V} (hq : qop P s ev o.op = some v) :
  ∃ X, (execOp A.eval o).run P w = .ok (.value X) w ∧ VRel ρ v X := by
 unfold qop at hq
 unfold execOp
 split at hq <;> rename_i heq <;> simp only [heq]
 ·exact ⟨_, rfl, evalO_rel hA hq⟩
 ·exact ⟨_, rfl, evalO_rel hA hq⟩
 ·split at hq
  ·rename_i hc
   have := evalO_rel hA hc
   simp only [VRel] at this
   exact ⟨_, by simp [this, asBool], evalO_rel hA hq⟩
  ·rename_i hc
   have := evalO_rel hA hc
   simp only [VRel] at this
   exact ⟨_, by simp [this, asBool], evalO_rel hA hq⟩
  ·cases hq
 ·split at hq
  ·rename_i hv
   obtain ⟨X, h1, h2⟩ := qLoad_rel h hq (evalO_rel hA hv)
   exact ⟨X, by simp [h1], h2⟩
  ·cases hq
 ·split at hq
  ·rename_i hv
   cases hq
   have := evalO_rel hA hv
   refine ⟨_, ?_, this⟩
   simp only [VRel] at this
   obtain ⟨B, O, S, _, e⟩ := this
   simp [e]
  ·rename_i hv
   cases hq
   have := evalO_rel hA hv
   refine ⟨_, ?_, this⟩
   simp only [VRel] at this
   obtain ⟨B, O, e, _⟩ := this
   simp [e]
  ·rename_i hv
   cases hq
   have := evalO_rel hA hv
   refine ⟨_, ?_, this⟩
   simp only [VRel] at this
   obtain ⟨B, O, S, _, e⟩ := this
   simp [e]
  ·cases hq
 ·split at hq
  ·rename_i x y _ _ _ a b hx hy
   obtain ⟨X, h1, h2⟩ := qBin_rel h hq (evalO_rel hA hx) (evalO_rel hA hy) x y
   refine ⟨X, ?_, h2⟩
   rw [Sem.run_bind, h1]
   rfl
  ·cases hq
 ·split at hq
  ·rename_i hv
   obtain ⟨X, h1, h2⟩ := qUn_rel (P := P) (w := w) hq (evalO_rel hA hv)
   exact ⟨X, by simp [h1], h2⟩
  ·cases hq
 ·split at hq
  ·rename_i hv
   obtain ⟨X, h1, h2⟩ := qConv_rel h hq (evalO_rel hA hv)
   exact ⟨X, by simp [h1], h2⟩
  ·cases hq
 ·split at hq
  ·cases hq
  ·rename_i t x _ d hne hd
   split at hq
   ·rename_i hv
    cases hq
    refine ⟨.iface _ _, ?_, by simp only [VRel]; exact ⟨_, rfl, evalO_rel hA hv⟩⟩
    have : (Instr.makeInterface t (A.eval x)).run P w = .ok (.iface t (A.eval x)) w := by
     simp only [Instr.makeInterface, Sem.run_bind, run_und hd, Result.andThen_ok]
     cases d <;> first | rfl | exact absurd rfl (hne _)
    simp [this]
   ·cases hq
  ·cases hq
 ·split at hq
  ·split at hq
   ·rename_i h1 h2
    cases hq
    refine ⟨_, by simp [Instr.makeFunc]; rfl, ?_⟩
    simp only [VRel]
    exact ⟨_, _, rfl, by rw [map_toList]; exact evalOs_rel hA h1, by rw [map_toList]; exact evalOs_rel hA h2⟩
   ·cases hq
  ·cases hq
 ·split at hq
  ·rename_i h1 h2 h3 h4
   obtain ⟨X, e1, e2⟩ := qSlice_rel h hq (evalO_rel hA h1) (optO_rel hA h2) (optO_rel hA h3) (optO_rel hA h4)
   exact ⟨X, by simp [e1], e2⟩
  ·cases hq
 ·split at hq
  ·rename_i hv
   obtain ⟨X, h1, h2⟩ := qFieldAddr_rel (w := w) hq (evalO_rel hA hv)
   exact ⟨X, by simp [h1], h2⟩
  ·cases hq
 ·split at hq
  ·rename_i hv
   obtain ⟨X, h1, h2⟩ := qField_rel (w := w) hq (evalO_rel hA hv)
   exact ⟨X, by simp [h1], h2⟩
  ·cases hq
 ·split at hq
  ·rename_i hx hy
   obtain ⟨X, h1, h2⟩ := qIndexAddr_rel (w := w) hq (evalO_rel hA hx) (evalO_rel hA hy)
   exact ⟨X, by simp [h1], h2⟩
  ·cases hq
 ·split at hq
  ·rename_i hx hy
   obtain ⟨X, h1, h2⟩ := qIndex_rel (w := w) hq (evalO_rel hA hx) (evalO_rel hA hy)
   exact ⟨X, by simp [h1], h2⟩
  ·cases hq
 ·split at hq
  ·rename_i hx hy
   obtain ⟨X, h1, h2⟩ := qLookup_rel h hq (evalO_rel hA hx) (evalO_rel hA hy)
   exact ⟨X, by simp [h1], h2⟩
  ·cases hq
 ·split at hq
  ·rename_i hv
   have := evalParts_rel hA hv
   obtain ⟨X, h1, h2⟩ := qBuild_rel (w := w) hq (Ps := _) (by rw [map_toList]; exact this)
   refine ⟨X, ?_, h2⟩
   simp [h1]
  ·cases hq
 ·split at hq
  ·rename_i hv
   have := evalO_rel hA hv
   simp only [VRel] at this
   obtain ⟨cs, e, hl⟩ := this
   rw [lget_eq] at hq
   obtain ⟨X, h1, h2⟩ := hl.get hq
   simp only [Array.getElem?_toList] at h1
   exact ⟨X, by simp [Instr.extract, e, h1], h2⟩
  ·cases hq
 ·split at hq
  ·rename_i hv
   have hk := fun xt => qAssert_rel (w := w) xt hq (evalO_rel hA hv)
   rename_i xt _ _ _ _
   obtain ⟨X, h1, h2⟩ := hk xt
   exact ⟨X, by simp [h1], h2⟩
  ·cases hq
 ·split at hq
  ·rename_i hc
   split at hq
   ·rename_i vs hvs
    have := evalOs_rel hA hvs
    rw [← map_toList] at this
    obtain ⟨X, h1, h2⟩ := qBuiltin_rel h hq this o.type _
    exact ⟨X, by simp only [resolve, hc, Sem.run_bind, Sem.run_pure, Result.andThen_ok, invoke]; exact h1, h2⟩
   ·cases hq
  ·cases hq
 ·cases hq

end
end Go.Eng
end

section
namespace Go.Eng
open Go.RowKit (Below)
set_option linter.unusedSimpArgs false
set_option linter.unusedVariables false

noncomputable section
variable (P : Program)

def eStore (s : St) (t : TypeId) (a v : V) : Option St :=
 match a with
 | .ptr b o => match s.heap.get b with
  | some (.cells cs t' ish) => match szE P t with
   | some n => bif Nat.beq (llen (cellsV v)) n && (Nat.ble (o + n) (llen cs) && lall oneV (cellsV v)) then some (s.upd b (.cells (setAll cs o (cellsV v)) t' ish)) else none
   | none => none
  | _ => none
 | _ => none

inductive Mk where
 | mk (cs : List V) (t : TypeId) (sl : Option (Nat × Nat × Nat))
def Mk.val : Mk → Nat → V
 | .mk _ _ none, b => .ptr b 0
 | .mk _ _ (some (l, c, es)), b => .sl b 0 l c true es
def Mk.obj : Mk → EObj
 | .mk cs t _ => .cells cs t false
def mkNew (s : St) : Option Mk → Option (V × St)
 | some m => some (m.val s.next, s.new m.obj)
 | none => none
def mAlloc (t : TypeId) : Option Mk :=
 match zeroE P t with
 | some z => some (.mk (cellsV z) t none)
 | none => none
def mBox (t : TypeId) (v : V) : Option Mk := some (.mk (cellsV v) t none)
def eAlloc (s : St) (t : TypeId) : Option (V × St) := mkNew s (mAlloc P t)
def eBox (s : St) (t : TypeId) (v : V) : Option (V × St) := mkNew s (mBox t v)

def repE : Nat → List V → List V
 | 0, _ => []
 | n + 1, zs => lapp zs (repE n zs)

def mBuildSlice (t : TypeId) (len : Nat) (parts : List (Nat × V)) : Option Mk :=
 match P.underlying t with
 | some (.slice e) => match szE P e, zeroE P e with
  | some sz, some z =>
   bif Nat.beq (llen (cellsV z)) sz && (Nat.ble (len * sz) 16777216 && Nat.ble 1 sz) then
    (match fillE (fun i => some (i * sz, sz)) (repE len (cellsV z)) parts with
    | some cs => some (.mk cs e (some (len, len, sz)))
    | none => none) else none
  | _, _ => none
 | _ => none
def eBuildSlice (s : St) (t : TypeId) (len : Nat) (parts : List (Nat × V)) : Option (V × St) := mkNew s (mBuildSlice P t len parts)

def mMakeSlice (t : TypeId) (len cap : V) : Option Mk :=
 match P.underlying t, natOf len, natOf cap with
 | some (.slice e), some l, some c => match P.info? e, zeroE P e with
  | some i, some z =>
   bif Nat.beq (llen (cellsV z)) i.size && (Nat.ble 1 i.size && (Nat.ble l c && (Nat.ble c 281474976710656 && Nat.ble (i.bytes * c) 281474976710656))) then
    some (.mk (repE c (cellsV z)) e (some (l, c, i.size))) else none
  | _, _ => none
 | _, _, _ => none
def eMakeSlice (s : St) (t : TypeId) (len cap : V) : Option (V × St) := mkNew s (mMakeSlice P t len cap)

def byteV (b : UInt8) : V := .int .u8 (Int.ofNat b.toNat)
def eBytes (s : St) (src dst : TypeId) (a : V) : Option (V × St) :=
 match P.underlying src, P.underlying dst, a with
 | some _, some (.slice e), .str x => match P.underlying e with
  | some (.int .u8) => some (.sl s.next 0 x.n x.n false 1, s.new (.cells (x.list.map byteV) e true))
  | _ => none
 | _, _, _ => none

def eRange (s : St) (t : TypeId) (x : V) : Option (V × St) :=
 match P.underlying t, x with
 | some .string, .str b => some (.it s.next, s.new (.siter b 0))
 | _, _ => none
def eNext (s : St) (it : V) : Option (V × St) :=
 match it with
 | .it b => match s.heap.get b with
  | some (.siter x pos) => bif Nat.blt pos x.n then
    (bif Nat.blt (x.get pos) 128 then some (.tup [.bool true, .int .i64 (Int.ofNat pos), .int .i32 (Int.ofNat (x.get pos))], s.upd b (.siter x (pos + 1))) else none)
    else some (.tup [.bool false], s)
  | _ => none
 | _ => none

def sliceCells (s : St) (v : V) (n : Nat) : Option (List V) :=
 match v with
 | .nils => bif Nat.beq n 0 then some [] else none
 | .slz _ => bif Nat.beq n 0 then some [] else none
 | .sl b o _ _ _ es => match cellsAt s b with
  | some cs => bif Nat.ble (o + n * es) (llen cs) then some (ltake (ldrop cs o) (n * es)) else none
  | none => none
 | _ => none

def lenE : V → Option Nat
 | .nils => some 0
 | .slz _ => some 0
 | .sl _ _ len _ _ _ => some len
 | .str x => some x.n
 | _ => none
def esOk (v : V) (sz : Nat) : Bool :=
 match v with
 | .sl _ _ _ _ _ es => Nat.beq es sz
 | .nils => true
 | .slz _ => true
 | _ => false
def srcCells (s : St) (x : V) (sz : Nat) : Option (List V) :=
 match x with
 | .str b => bif Nat.beq sz 1 then some (b.list.map byteV) else none
 | _ => bif esOk x sz then (match lenE x with
   | some n => sliceCells s x n
   | none => none) else none

def St.move (s : St) (b : Nat) (o : EObj) : St := ⟨(s.heap.set b none).set s.next (some o), s.next + 1⟩

def zerosE (ts : Array TypeId) : Bool :=
 match ts[1]? with
 | some t1 => (match P.underlying t1 with
   | some (.int _) => true
   | some _ => false
   | none => true)
 | none => false

def srcE (s : St) (ts : Array TypeId) (i : TypeInfo) (z : V) (x : V) : Option (Nat × List V) :=
 bif zerosE P ts then
  (match ts[1]? with
  | some t1 => match P.underlying t1 with
    | some (.int _) => match x with
      | .int .i64 (.ofNat n) => bif Nat.ble (n * i.bytes) 281474976710656 && Nat.ble n 1099511627776 then some (n, repE n (cellsV z)) else none
      | _ => none
    | _ => none
  | none => none)
 else match lenE x with
  | some n => match srcCells s x i.size with
   | some new => some (n, new)
   | none => none
  | none => none
def eAppend (s : St) (ts : Array TypeId) (a x : V) : Option (V × St) :=
 match ts[0]? with
 | none => none
 | some t =>
 match P.underlying t with
 | some (.slice e) =>
  match P.info? e, zeroE P e with
  | some i, some z =>
   bif !(Nat.beq (llen (cellsV z)) i.size && Nat.ble 1 i.size) then none else
   match srcE P s ts i z x with
   | none => none
   | some (n, new) =>
   match a with
   | .slz x' =>
    bif Nat.beq n 0 then some (.slz x', s) else
    bif x' && (Nat.ble ((2 * n + 768) * i.bytes) 281474976710656 && Nat.ble n 1099511627776) then
     some (.sl s.next 0 n n false i.size, s.new (.cells new e false)) else none
   | .nils =>
    bif Nat.beq n 0 then some (.nils, s) else
    bif Nat.ble ((2 * n + 768) * i.bytes) 281474976710656 && Nat.ble n 1099511627776 then
     some (.sl s.next 0 n n false i.size, s.new (.cells new e false)) else none
   | .sl b o len cap x' es =>
    bif !Nat.beq es i.size then none else
    bif Nat.ble (len + n) cap then
     (match s.heap.get b with
     | some (.cells cs t' ish) => bif Nat.ble (o + (len + n) * es) (llen cs) && lall oneV new then some (.sl b o (len + n) cap x' es, s.upd b (.cells (setAll cs (o + len * es) new) t' ish)) else none
     | _ => none)
    else
    bif !(Nat.ble ((2 * (len + n) + 768) * i.bytes) 281474976710656 && Nat.ble (len + n) 1099511627776) then none else
    match s.heap.get b with
    | some (.cells cs t' ish) =>
     bif !(Nat.ble (o + len * es) (llen cs) && lall oneV new) then none else
     bif x' then some (.sl s.next 0 (len + n) (len + n) false es, s.new (.cells (lapp (ltake (ldrop cs o) (len * es)) new) e false))
     else some (.sl s.next 0 (len + n) (len + n) false es, s.move b (.cells (lapp (ltake (ldrop cs o) (len * es)) new) e ish))
    | _ => none
   | _ => none
  | _, _ => none
 | _ => none

def eCopy (s : St) (ts : Array TypeId) (d x : V) : Option (V × St) :=
 match ts[0]? with
 | none => none
 | some t =>
 match P.underlying t with
 | some (.slice e) => match szE P e, lenE d, lenE x with
  | some sz, some dl, some xl =>
   bif !(esOk d sz && Nat.ble 1 sz) then none else
   match srcCells s x sz with
   | none => none
   | some all =>
   let new := ltake all (Nat.min xl dl * sz)
   match d with
   | .nils => some (.int .i64 0, s)
   | .sl b o _ _ _ _ => match s.heap.get b with
    | some (.cells cs t' ish) => bif Nat.ble (o + llen new) (llen cs) && lall oneV new then some (.int .i64 (Int.ofNat (Nat.min xl dl)), s.upd b (.cells (setAll cs o new) t' ish)) else none
    | _ => none
   | _ => none
  | _, _, _ => none
 | _ => none
end

section
variable {P : Program} {base : Nat} {ρ : Env} {s : St} {w : World}

def CP (ρ : Env) (O : Nat) (cs : List V) (C : Array Value) : Prop := ∀ (i : Nat) (v : V), cs[i]? = some v → ∃ W, C[O + i]? = some W ∧ VRel ρ v W
def setA : Array Value → Nat → List Value → Array Value
 | C, _, [] => C
 | C, o, v :: l => setA (C.setIfInBounds o v) (o + 1) l
theorem setA_size : ∀ (l : List Value) (C : Array Value) (o : Nat), (setA C o l).size = C.size
 | [], _, _ => rfl
 | v :: l, C, o => by simp [setA, setA_size l]

theorem CP.set {O : Nat} {cs : List V} {C : Array Value} (h : CP ρ O cs C) {v : V} {X : Value} (hv : VRel ρ v X) {o : Nat} (ho : O + o < C.size) : CP ρ O (cs.set o v) (C.setIfInBounds (O + o) X) := by
 intro i u hi
 rw [List.getElem?_set] at hi
 rw [Array.getElem?_setIfInBounds]
 by_cases e : o = i
 ·subst e
  simp only [if_true] at hi ⊢
  split at hi
  ·cases hi; exact ⟨X, by simp [ho], hv⟩
  ·cases hi
 ·rw [if_neg e] at hi
  rw [if_neg (by omega)]
  exact h i u hi

theorem CP.setAll {O : Nat} : ∀ {l : List V} {L : List Value}, LRel ρ l L → ∀ {cs : List V} {C : Array Value}, CP ρ O cs C → ∀ {o : Nat}, O + o + l.length ≤ C.size → CP ρ O (setAll cs o l) (setA C (O + o) L)
 | [], L, hl, cs, C, h, o, ho => by
  have hl : L = [] := hl
  subst hl; exact h
 | v :: l, L, hl, cs, C, h, o, ho => by
  obtain ⟨X, Y, rfl, h1, h2⟩ := hl
  simp only [List.length_cons] at ho
  have := CP.setAll h2 (h.set h1 (o := o) (by omega)) (o := o + 1) (by simp; omega)
  rw [← lset_eq] at this
  exact this

theorem oneV_rel {v : V} {X : Value} (h : VRel ρ v X) (ho : oneV v = true) : X.oneCell' = true := by
 cases v <;> simp only [oneV, Bool.false_eq_true] at ho <;> simp only [VRel] at h
 all_goals first
  | (subst h; rfl)
  | (obtain ⟨_, _, _, _, rfl⟩ := h; rfl)
  | (obtain ⟨_, _, _, _, _, rfl, _⟩ := h; rfl)
  | (obtain ⟨_, _, rfl⟩ := h; rfl)
  | (obtain ⟨_, _, rfl, _⟩ := h; rfl)
  | (obtain ⟨_, rfl, _⟩ := h; rfl)
theorem allOne_rel : ∀ {l : List V} {L : List Value}, LRel ρ l L → l.all oneV = true → ∀ X ∈ L, X.oneCell' = true
 | [], L, h, _, X, hX => by have h : L = [] := h; subst h; cases hX
 | v :: l, L, h, ho, X, hX => by
  obtain ⟨Y, Z, rfl, h1, h2⟩ := h
  simp only [List.all_cons, Bool.and_eq_true] at ho
  rcases List.mem_cons.1 hX with rfl | hX
  ·exact oneV_rel h1 ho.1
  ·exact allOne_rel h2 ho.2 X hX

def NotFrozen (S : Nat) (fr : Nat × Nat) : Prop := ∀ k, k < S → (decide (fr.1 ≤ k) && decide (k < fr.2)) = false

theorem set_at {w : World} {B : Nat} {C : Array Value} {t : TypeId} {fr : Nat × Nat} (h : w.heap[B]? = some (.cells C t fr)) (o : Nat) (X : Value) :
  w.setCell ⟨B, o, none⟩ X = { w with heap := w.heap.setIfInBounds B (.cells (C.setIfInBounds o X) t fr) } := by
 simp only [World.setCell]
 congr 1
 apply Array.ext_getElem?
 intro i
 rw [Array.getElem?_modify, Array.getElem?_setIfInBounds]
 have hlt : B < w.heap.size := by
  rcases Nat.lt_or_ge B w.heap.size with hh | hh
  ·exact hh
  ·rw [Array.getElem?_eq_none hh] at h; cases h
 by_cases e : B = i
 ·subst e
  have hh : w.heap[B] = .cells C t fr := by
   rw [Array.getElem?_eq_getElem hlt] at h
   exact Option.some.inj h
  simp [hlt, hh]
 ·simp [e]

theorem run_storeAll {B : Nat} {t : TypeId} {fr : Nat × Nat} : ∀ (vs : List Value) (off i : Nat) (C : Array Value) (w : World), w.heap[B]? = some (.cells C t fr) → NotFrozen C.size fr → off + i + vs.length ≤ C.size →
  (∀ v ∈ vs, v.oneCell' = true) → (storeCells ⟨B, off, none⟩ vs i).run P w = .ok () { w with heap := w.heap.setIfInBounds B (.cells (setA C (off + i) vs) t fr) }
 | [], off, i, C, w, hw, _, _, _ => by
  simp only [storeCells, Sem.run_pure, setA]
  congr 1
  cases w with
  | mk heap tape drawn os output =>
   simp only at hw ⊢
   congr 1
   apply Array.ext_getElem?
   intro k
   rw [Array.getElem?_setIfInBounds]
   split
   ·rename_i e; subst e
    split
    ·exact hw
    ·rename_i hh; rw [Array.getElem?_eq_none (by omega)] at hw; cases hw
   ·rfl
 | v :: vs, off, i, C, w, hw, hf, hl, h1 => by
  simp only [List.length_cons] at hl
  have hlt : off + i < C.size := by omega
  have hc : w.cell? ⟨B, off + i, none⟩ = some C[off + i] := by simp [World.cell?, hw, hlt]
  have hfr : w.frozen? ⟨B, off + i, none⟩ = false := by simp only [World.frozen?, hw]; exact hf _ hlt
  simp only [storeCells, Sem.run_bind, addr_add, run_store P w _ v _ (h1 v (by simp)), hc, hfr, Bool.false_eq_true, if_false, Result.andThen_ok, set_at hw]
  have hB : B < w.heap.size := by
   rcases Nat.lt_or_ge B w.heap.size with hh | hh
   ·exact hh
   ·rw [Array.getElem?_eq_none hh] at hw; cases hw
  have := run_storeAll (B := B) (t := t) (fr := fr) vs off (i + 1) (C.setIfInBounds (off + i) v) { w with heap := w.heap.setIfInBounds B (.cells (C.setIfInBounds (off + i) v) t fr) }
   (by simp [hB]) (by simpa using hf) (by simp; omega) (fun u hu => h1 u (by simp [hu]))
  rw [this]
  simp [setA, Nat.add_assoc]

theorem SRel.cellsObj (h : SRel base ρ s w) {b : Nat} {cs : List V} {t : TypeId} {ish : Bool} (hg : s.heap.get b = some (.cells cs t ish)) {x : Blk} (hx : ρ b = some x) :
  ∃ C t' fr, w.heap[x.B]? = some (.cells C t' fr) ∧ C.size = x.S ∧ x.O + cs.length ≤ x.S ∧ CP ρ x.O cs C ∧ NotFrozen x.S fr ∧ (ish = false → fr = (0, 0)) ∧ base ≤ x.B := by
 obtain ⟨y, h1, h2, C, t', fr, h3, h4, h5, h6, h7, h8⟩ := h.obj' hg hx
 rw [hx] at h1; cases h1
 exact ⟨C, t', fr, h3, h4, h5, h6, h7, h8, h2⟩

theorem SRel.write (h : SRel base ρ s w) {b : Nat} {cs : List V} {t : TypeId} {ish : Bool} (hg : s.heap.get b = some (.cells cs t ish)) {x : Blk} (hx : ρ b = some x)
  {o : Nat} {l : List V} {L : List Value} (hl : LRel ρ l L) (ho : o + l.length ≤ cs.length) (h1 : l.all oneV = true) :
  ∃ w', (storeCells ⟨x.B, x.O + o, none⟩ L).run P w = .ok () w' ∧ SRel base ρ (s.upd b (.cells (Eng.setAll cs o l) t ish)) w' ∧ Below base w w' := by
 obtain ⟨C, t', fr, e1, e2, e3, e4, e5, e6, e7⟩ := h.cellsObj hg hx
 have hlen := hl.length
 have hrun := run_storeAll (P := P) L (x.O + o) 0 C w e1 (by rw [e2]; exact e5) (by omega) (allOne_rel hl h1)
 refine ⟨_, hrun, ?_, below_set e7 rfl⟩
 refine h.upd hg hx _ _ rfl ⟨_, t', fr, rfl, by rw [setA_size]; exact e2, by rw [setAll_length]; exact e3, ?_, e5, e6⟩
 rw [Nat.add_zero]
 exact CP.setAll hl e4 (by omega)

theorem eStore_rel (h : SRel base ρ s w) {t : TypeId} {a v : V} {s' : St} (hq : eStore P s t a v = some s') {A X : Value} (ha : VRel ρ a A) (hv : VRel ρ v X) :
  ∃ w', (Instr.storeAt t A X).run P w = .ok () w' ∧ SRel base ρ s' w' ∧ Below base w w' := by
 unfold eStore at hq
 simp only [llen_eq, lall_eq, ltake_eq, ldrop_eq, lapp_eq, lget_eq] at hq
 split at hq
 ·rename_i b o
  split at hq
  ·rename_i cs t' ish hg
   split at hq
   ·rename_i n hn
    cases hb : (Nat.beq (cellsV v).length n && (Nat.ble (o + n) cs.length && (cellsV v).all oneV)) with
    | false => simp [hb] at hq
    | true =>
     simp only [hb, cond_true, Option.some.injEq] at hq
     subst hq
     simp only [Bool.and_eq_true, Nat.ble_eq, Nat.beq_eq] at hb
     simp only [VRel] at ha
     obtain ⟨B, O, S, hB, rfl⟩ := ha
     have hc := cellsV_rel hv
     obtain ⟨w', h1, h2, h3⟩ := h.write (P := P) hg hB hc (o := o) (by omega) hb.2.2
     refine ⟨w', ?_, h2, h3⟩
     have hl := hc.length
     simp only [Array.length_toList] at hl
     have : ¬ X.cells.size ≠ n := by omega
     simp only at h1
     simp [Instr.storeAt, Instr.sureAddr, storeVar, run_size hn, this, h1]
   ·cases hq
  ·cases hq
 ·cases hq

theorem SRel.newCells (h : SRel base ρ s w) {cs : List V} {C : Array Value} (hc : LRel ρ cs C.toList) (t t' : TypeId) :
  ρ.le (ρ.put s.next ⟨w.heap.size, 0, C.size⟩) ∧ SRel base (ρ.put s.next ⟨w.heap.size, 0, C.size⟩) (s.new (.cells cs t false)) { w with heap := w.heap.push (.cells C t') } ∧
   Below base w { w with heap := w.heap.push (.cells C t') } := by
 have hle := Env.le_put ⟨w.heap.size, 0, C.size⟩ h.fresh
 refine ⟨hle, h.new _ (.cells C t') C.size rfl ⟨C, t', (0, 0), rfl, rfl, ?_, ?_, by simp, fun _ => rfl⟩, below_new h.le rfl⟩
 ·have := hc.length; simp at this; omega
 ·intro i v hi
  obtain ⟨X, e1, e2⟩ := hc.get hi
  exact ⟨X, by simpa using e1, VRel.mono hle _ _ e2⟩

def OKv (P : Program) (base : Nat) (ρ : Env) (m : Sem Value) (w : World) (v : V) (s' : St) : Prop :=
 ∃ ρ' X w', ρ.le ρ' ∧ m.run P w = .ok X w' ∧ VRel ρ' v X ∧ SRel base ρ' s' w' ∧ Below base w w'

def MkOK (P : Program) (ρ : Env) (m : Sem Value) (w : World) : Mk → Prop
 | .mk cs t sl => ∃ X C t', m.run P w = .ok X { w with heap := w.heap.push (.cells C t') } ∧ LRel ρ cs C.toList ∧
   ∀ (ρ' : Env) (b : Nat), ρ' b = some ⟨w.heap.size, 0, C.size⟩ → VRel ρ' ((Mk.mk cs t sl).val b) X
theorem mkNew_rel (h : SRel base ρ s w) {m : Option Mk} {v : V} {s' : St} (hq : mkNew s m = some (v, s')) {x : Sem Value} (hm : ∀ k, m = some k → MkOK P ρ x w k) : OKv P base ρ x w v s' := by
 unfold mkNew at hq
 split at hq
 ·rename_i m
  cases hq
  obtain ⟨cs, t, sl⟩ := m
  obtain ⟨X, C, t', e1, e2, e3⟩ := hm _ rfl
  obtain ⟨h1, h2, h3⟩ := h.newCells e2 t t'
  exact ⟨_, X, _, h1, e1, e3 _ _ Env.put_same, h2, h3⟩
 ·cases hq

theorem newVar_mk {v : V} {X : Value} (hv : VRel ρ v X) (t : TypeId) : MkOK P ρ (do pure (.pointer (some (← newVar t X)))) w (.mk (cellsV v) t none) := by
 refine ⟨_, X.cells, t, by simp [newVar, newRow]; rfl, cellsV_rel hv, fun ρ' b hb => ?_⟩
 simp only [Mk.val, VRel]
 exact ⟨_, _, _, hb, rfl⟩

theorem mAlloc_rel {t : TypeId} {m : Mk} (hq : mAlloc P t = some m) : MkOK P ρ (Instr.alloc t true (.tuple #[])) w m := by
 unfold mAlloc at hq
 split at hq
 ·rename_i z hz
  cases hq
  obtain ⟨Z, hZ, hzr, _⟩ := zeroE_rel (ρ := ρ) (w := w) hz
  obtain ⟨X, C, t', h1, h2⟩ := newVar_mk (P := P) (w := w) hzr t
  refine ⟨X, C, t', ?_, h2⟩
  simp only [Instr.alloc, Sem.run_bind, hZ, Result.andThen_ok]
  simpa using h1
 ·cases hq
theorem eAlloc_rel (h : SRel base ρ s w) {t : TypeId} {v : V} {s' : St} (hq : eAlloc P s t = some (v, s')) : OKv P base ρ (Instr.alloc t true (.tuple #[])) w v s' :=
 mkNew_rel h hq fun _ => mAlloc_rel

theorem mBox_rel {t : TypeId} {v : V} {m : Mk} (hq : mBox t v = some m) {X : Value} (hv : VRel ρ v X) : MkOK P ρ (Instr.box t X) w m := by
 cases hq
 exact newVar_mk hv t
theorem eBox_rel (h : SRel base ρ s w) {t : TypeId} {v u : V} {s' : St} (hq : eBox s t v = some (u, s')) {X : Value} (hv : VRel ρ v X) : OKv P base ρ (Instr.box t X) w u s' :=
 mkNew_rel h hq fun _ h => mBox_rel h hv

theorem repE_length : ∀ n (zs : List V), (repE n zs).length = n * zs.length
 | 0, _ => by simp [repE]
 | n + 1, zs => by simp [repE, lapp_eq, repE_length n, Nat.succ_mul, Nat.add_comm]
theorem repE_get : ∀ n (zs : List V) i, i < n * zs.length → (repE n zs)[i]? = zs[i % zs.length]?
 | 0, _, _, h => by simp at h
 | n + 1, zs, i, h => by
  simp only [repE, lapp_eq]
  rcases Nat.lt_or_ge i zs.length with hi | hi
  ·rw [List.getElem?_append_left hi, Nat.mod_eq_of_lt hi]
  ·rw [List.getElem?_append_right hi, repE_get n zs _ (by rw [Nat.succ_mul] at h; omega), ← Nat.mod_eq_sub_mod hi]

theorem range_rep {zs : List V} {Z : Array Value} (hz : LRel ρ zs Z.toList) (n : Nat) : LRel ρ (repE n zs) ((Array.range (n * zs.length)).map (fun i => Z[i % Z.size]!)).toList := by
 have hl := hz.length
 simp only [Array.length_toList] at hl
 refine LRel.of_get (by simp [repE_length]) fun i v hi => ?_
 have hlt : i < n * zs.length := by
  have := (List.getElem?_eq_some_iff.1 hi).1
  rwa [repE_length] at this
 rw [repE_get n zs i hlt] at hi
 obtain ⟨X, h1, h2⟩ := hz.get hi
 simp only [Array.getElem?_toList] at h1
 refine ⟨X, ?_, h2⟩
 simp only [Array.toList_map, Array.toList_range, List.getElem?_map, List.getElem?_range hlt, Option.map_some, Option.some.injEq]
 rw [← hl, Array.getElem!_eq_getD, Array.getD_eq_getD_getElem?, h1]
 rfl

theorem map_range0 {α : Type} (f : Nat → α) : (Array.range 0).map f = #[] := by apply Array.eq_empty_of_size_eq_zero; simp

theorem info_size {t : TypeId} {i : TypeInfo} (h : P.info? t = some i) : (sizeOf t).run P w = .ok i.size w := by simp [sizeOf, typeInfo, h]

theorem mBuildSlice_rel {t : TypeId} {len : Nat} {ps : List (Nat × V)} {m : Mk} (hq : mBuildSlice P t len ps = some m) {Ps : Array (Nat × Value)} (hp : PRel ρ ps Ps.toList) :
  MkOK P ρ (Instr.buildSlice t len Ps) w m := by
 unfold mBuildSlice at hq
 simp only [llen_eq, lall_eq, ltake_eq, ldrop_eq, lapp_eq, lget_eq] at hq
 split at hq
 ·rename_i e hd
  split at hq
  ·rename_i sz z hsz hz
   cases hb : (Nat.beq (cellsV z).length sz && (Nat.ble (len * sz) 16777216 && Nat.ble 1 sz)) with
   | false => simp [hb] at hq
   | true =>
   simp only [hb, cond_true] at hq
   simp only [Bool.and_eq_true, Nat.ble_eq, Nat.beq_eq] at hb
   split at hq
   ·rename_i cs hcs
    cases hq
    obtain ⟨Z, hZ, hzr, _⟩ := zeroE_rel (ρ := ρ) (w := w) hz
    have hzc := cellsV_rel hzr
    have hrep := range_rep hzc len
    rw [hb.1] at hrep
    obtain ⟨R, e1, e2⟩ := fillE_rel hp hrep hcs
    refine ⟨.slice (some ⟨w.heap.size, 0, none⟩) len len, R, e, ?_, e2, fun ρ' b hbb => ?_⟩
    ·by_cases h0 : len * sz = 0
     ·have hlen : len = 0 := by rcases Nat.mul_eq_zero.1 h0 with h | h; exact h; omega
      subst hlen
      simp only [Nat.zero_mul] at e1
      have e0 : (Array.range 0).map (fun i => Z.cells[i % Z.cells.size]!) = #[] := by apply Array.eq_empty_of_size_eq_zero; simp
      rw [e0] at e1
      have e1' : Instr.fill (fun i => some (i * sz, sz)) #[] Ps.toList = some R := e1
      simp [Instr.buildSlice, run_und hd, run_size hsz, newRow, map_range0, e1']
     ·have hbig : ¬ len * sz > 2 ^ 24 := by omega
      have hbig' : ¬ 16777216 < len * sz := by omega
      simp only [Instr.buildSlice, Sem.run_bind, run_und hd, Result.andThen_ok, run_size hsz, Sem.run_ite, hbig, h0, if_false, hZ, Sem.run_pure]
      rw [e1]
      simp [newRow]
    ·simp only [Mk.val, VRel]
     refine ⟨_, _, _, len, hbb, rfl, Nat.le_refl _, Nat.le_refl _, fun _ => rfl, ?_⟩
     have hl := e2.length
     have : cs.length = len * sz := by
      have : ∀ (ps : List (Nat × V)) (c r : List V), fillE (fun i => some (i * sz, sz)) c ps = some r → r.length = c.length := by
       intro ps
       induction ps with
       | nil => intro c r hh; simp only [fillE] at hh; cases hh; rfl
       | cons p ps ih =>
        intro c r hh
        simp only [fillE, llen_eq] at hh
        cases hc : (Nat.beq (cellsV p.2).length sz && Nat.ble (p.1 * sz + sz) c.length) with
        | false => simp [hc] at hh
        | true => simp only [hc, cond_true] at hh; rw [ih _ _ hh, setAll_length]
      rw [this _ _ _ hcs, repE_length, hb.1]
     simp only [Array.length_toList] at hl
     omega
   ·cases hq
  ·cases hq
 ·cases hq

theorem eBuildSlice_rel (h : SRel base ρ s w) {t : TypeId} {len : Nat} {ps : List (Nat × V)} {v : V} {s' : St} (hq : eBuildSlice P s t len ps = some (v, s')) {Ps : Array (Nat × Value)} (hp : PRel ρ ps Ps.toList) :
  OKv P base ρ (Instr.buildSlice t len Ps) w v s' := mkNew_rel h hq fun _ h => mBuildSlice_rel h hp

theorem wrap_small {n : Nat} (h : n ≤ 281474976710656) : IntKind.i64.wrap (n : Int) = n := by
 have h2 : (n : Int) % (2 ^ IntKind.i64.bits : Int) = n := Int.emod_eq_of_lt (by omega) (by simp only [IntKind.bits]; omega)
 unfold IntKind.wrap
 simp only [h2]
 exact if_neg (by simp [IntKind.signed, IntKind.bits]; omega)

theorem mMakeSlice_rel {t : TypeId} {len cap : V} {m : Mk} (hq : mMakeSlice P t len cap = some m) {L K : Value} (hl : VRel ρ len L) (hk : VRel ρ cap K) :
  MkOK P ρ (Instr.makeSlice t L K) w m := by
 unfold mMakeSlice at hq
 simp only [llen_eq, lall_eq, ltake_eq, ldrop_eq, lapp_eq, lget_eq] at hq
 split at hq
 ·rename_i e l c hd hln hcn
  split at hq
  ·rename_i i z hi hz
   cases hb : (Nat.beq (cellsV z).length i.size && (Nat.ble 1 i.size && (Nat.ble l c && (Nat.ble c 281474976710656 && Nat.ble (i.bytes * c) 281474976710656)))) with
   | false => simp [hb] at hq
   | true =>
   simp only [hb, cond_true, Option.some.injEq] at hq
   subst hq
   simp only [Bool.and_eq_true, Nat.ble_eq, Nat.beq_eq] at hb
   obtain ⟨b1, b2, b3, b4, b5⟩ := hb
   obtain ⟨k1, rfl⟩ := natOf_rel hln hl
   obtain ⟨k2, rfl⟩ := natOf_rel hcn hk
   obtain ⟨Z, hZ, hzr, _⟩ := zeroE_rel (ρ := ρ) (w := w) hz
   have hzc := cellsV_rel hzr
   have hrep := range_rep hzc c
   rw [b1] at hrep
   refine ⟨.slice (some ⟨w.heap.size, 0, none⟩) l c, _, e, ?_, hrep, fun ρ' b hbb => ?_⟩
   ·have w1 := wrap_small (n := l) (by omega)
    have w2 := wrap_small (n := c) b4
    have t1 : ¬ ((c : Int) < 0) := by omega
    have t2 : ¬ ((i.bytes : Int) * (c : Int) > 2 ^ 48) := by
     have : ((i.bytes * c : Nat) : Int) ≤ 281474976710656 := by omega
     simp only [Int.natCast_mul] at this; omega
    have t2' : ¬ ((281474976710656 : Int) < (i.bytes : Int) * (c : Int)) := by simpa using t2
    have t3 : ¬ ((l : Int) < 0) := by omega
    have t4 : ¬ ((l : Int) > (c : Int)) := by omega
    have hti : (typeInfo e).run P w = .ok i w := by simp [typeInfo, hi]
    by_cases h0 : c * i.size = 0
    ·have hc0 : c = 0 := by rcases Nat.mul_eq_zero.1 h0 with h | h; exact h; omega
     subst hc0
     have hl0 : l = 0 := by omega
     subst hl0
     have e0 : (Array.range (0 * i.size)).map (fun i => Z.cells[i % Z.cells.size]!) = #[] := by apply Array.eq_empty_of_size_eq_zero; simp
     rw [e0]
     have w0 : IntKind.i64.wrap 0 = 0 := by simpa using w2
     simp [Instr.makeSlice, run_und hd, asInt, run_asIntOf, hti, w0, info_size hi, newRow, map_range0]
    ·simp [Instr.makeSlice, run_und hd, asInt, run_asIntOf, hti, w1, w2, t1, t2', t3, info_size hi, newRow, h0, hZ, Nat.not_lt.2 b3]
   ·simp only [Mk.val, VRel]
    refine ⟨_, _, _, c, hbb, rfl, b3, Nat.le_refl _, fun _ => rfl, ?_⟩
    simp
  ·cases hq
 ·cases hq
theorem eMakeSlice_rel (h : SRel base ρ s w) {t : TypeId} {len cap v : V} {s' : St} (hq : eMakeSlice P s t len cap = some (v, s')) {L K : Value} (hl : VRel ρ len L) (hk : VRel ρ cap K) :
  OKv P base ρ (Instr.makeSlice t L K) w v s' := mkNew_rel h hq fun _ h => mMakeSlice_rel h hl hk

theorem eRange_rel (h : SRel base ρ s w) {t : TypeId} {x v : V} {s' : St} (hq : eRange P s t x = some (v, s')) {X : Value} (hx : VRel ρ x X) : OKv P base ρ (Instr.range t X) w v s' := by
 unfold eRange at hq
 split at hq
 ·rename_i b hd
  cases hq
  simp only [VRel] at hx
  subst hx
  have hle := Env.le_put ⟨w.heap.size, 0, 0⟩ h.fresh
  refine ⟨_, .pointer (some ⟨w.heap.size, 0, none⟩), { w with heap := w.heap.push (.stringIter b.den 0) }, hle, by simp [Instr.range, run_und hd], ?_, h.new _ (.stringIter b.den 0) 0 rfl rfl, below_new h.le rfl⟩
  simp only [VRel]; exact ⟨_, _, Env.put_same, rfl⟩
 ·cases hq

theorem ascii_decode {x : BS} {pos : Nat} (hp : pos < x.n) (hc : x.get pos < 128) : Utf8.decode x.den pos = (x.get pos, 1) := by
 obtain ⟨b, h1, h2⟩ := BS.den_get x pos hp
 have hz : pos < x.den.size := by rw [BS.den_size]; exact hp
 rw [getElem?_pos x.den pos hz] at h1
 have h3 : x.den.get! pos = b := by
  have := Option.some.inj h1
  rw [← this]
  show x.den.data[pos]! = x.den.data[pos]
  exact getElem!_pos x.den.data pos hz
 unfold Utf8.decode
 simp only [Nat.add_zero, h3, h2, if_pos hc]

theorem eNext_rel (h : SRel base ρ s w) {x v : V} {s' : St} (hq : eNext s x = some (v, s')) {X : Value} (hx : VRel ρ x X) (ty : TypeId) : OKv P base ρ (Instr.next X true ty) w v s' := by
 unfold eNext at hq
 split at hq
 ·rename_i b
  split at hq
  ·rename_i str pos hg
   simp only [VRel] at hx
   obtain ⟨B, S, hB, rfl⟩ := hx
   obtain ⟨y, hy, hb, hO⟩ := h.obj' hg hB
   rw [hB] at hy; cases hy
   have hO : w.heap[B]? = some (.stringIter str.den pos) := hO
   have hget : (getObj B).run P w = .ok (.stringIter str.den pos) w := by simp only [getObj, Sem.run, hO]
   rw [blt_iff] at hq
   by_cases hp : pos < str.n
   ·rw [decide_eq_true hp, cond_true, blt_iff] at hq
    by_cases hc : str.get pos < 128
    ·rw [decide_eq_true hc, cond_true] at hq
     cases hq
     have hset : (setObj B (.stringIter str.den (pos + 1))).run P w = .ok () { w with heap := w.heap.setIfInBounds B (.stringIter str.den (pos + 1)) } := by simp only [setObj, Sem.run, hO]
     refine ⟨ρ, .tuple #[.bool true, .int .i64 (Int.ofNat pos), .int .i32 (Int.ofNat (str.get pos))], _, ρ.le_refl, ?_, ?_, h.upd hg hB _ (.stringIter str.den (pos + 1)) rfl rfl, below_set hb rfl⟩
     ·have hp' : pos < str.den.size := by rw [BS.den_size]; exact hp
      simp [Instr.next, hget, hp', ascii_decode hp hc, hset, goInt]
     ·simp only [VRel]
      exact ⟨_, rfl, LRel.cons (by simp only [VRel]) (LRel.cons (by simp only [VRel]) (LRel.cons (by simp only [VRel]) LRel.nil))⟩
    ·rw [decide_eq_false hc] at hq; cases hq
   ·rw [decide_eq_false hp, cond_false] at hq
    cases hq
    have hp' : ¬ pos < str.den.size := by rw [BS.den_size]; exact hp
    refine ⟨ρ, .tuple #[.bool false], w, ρ.le_refl, by simp [Instr.next, hget, hp'], ?_, h, Below.refl _ _⟩
    simp only [VRel]
    exact ⟨_, rfl, LRel.cons (by simp only [VRel]) LRel.nil⟩
  ·cases hq
 ·cases hq

end
end Go.Eng
end

section
namespace Go.Eng
open Go.RowKit (Below)
set_option linter.unusedSimpArgs false
set_option linter.unusedVariables false

section
variable {P : Program} {base : Nat} {ρ : Env} {s : St} {w : World}

theorem bytes_rel : ∀ (l : List UInt8), LRel ρ (l.map byteV) (l.map fun b => Value.int .u8 b.toNat)
 | [] => LRel.nil
 | b :: l => LRel.cons (by simp only [byteV, VRel]; rfl) (bytes_rel l)

theorem eBytes_rel (h : SRel base ρ s w) {src dst : TypeId} {a v : V} {s' : St} (hq : eBytes P s src dst a = some (v, s')) {A : Value} (ha : VRel ρ a A) : OKv P base ρ (Go.convert src dst A) w v s' := by
 unfold eBytes at hq
 split at hq
 ·rename_i sd e x hs hd
  split at hq
  ·rename_i he
   cases hq
   simp only [VRel] at ha; subst ha
   obtain ⟨cap, hcap, hrun⟩ : ∃ cap, x.n ≤ cap ∧ (choose (.appendCap x.n 0 e)).run P w = .ok cap { w with drawn := w.drawn + 1 } := by
    refine ⟨_, ?_, by simp [Question.forced]; rfl⟩
    simp [Question.cut]
   let C : Array Value := (x.den.data.map fun b => Value.int .u8 b.toNat) ++ Array.replicate (cap - x.n) (.int .u8 0)
   have hC : C.size = cap := by
    have : x.den.data.size = x.n := BS.den_size x
    simp [C, this, BS.den_size]; omega
   have hle := Env.le_put ⟨w.heap.size, 0, C.size⟩ h.fresh
   let w' : World := { w with drawn := w.drawn + 1, heap := w.heap.push (.cells C e (C.size, C.size + 1)) }
   refine ⟨ρ.put s.next ⟨w.heap.size, 0, C.size⟩, .slice (some ⟨w.heap.size, 0, none⟩) x.n cap, w', hle, ?_, ?_, ?_, ?_⟩
   ·simp only [Go.convert, Sem.run_bind, run_und hs, run_und hd, Result.andThen_ok, run_und he, Conv.stringToBytes, BS.den_size, hrun, newRow, run_newObj, Sem.run_pure, markStringish, run_shape]
    have hsh : ({ w with drawn := w.drawn + 1, heap := w.heap.push (.cells C e) } : World).shape? w.heap.size = some (e, C.size) := by simp [World.shape?]
    have hfr : ({ w with drawn := w.drawn + 1, heap := w.heap.push (.cells C e) } : World).freeze ⟨w.heap.size, C.size, none⟩ 1 = w' := by
     simp only [World.freeze]
     rw [if_neg (by decide)]
     simp only [w']
     congr 1
     apply Array.ext_getElem?
     intro i
     rw [Array.getElem?_modify, Array.getElem?_push, Array.getElem?_push]
     by_cases hi : i = w.heap.size
     ·subst hi; simp
     ·simp [hi, Ne.symm hi]
    simp only [C] at hsh hfr
    simp only [hsh, Sem.run_bind, run_freeze, hfr, Result.andThen_ok, Sem.run_pure, BS.den_size]
   ·simp only [VRel]
    exact ⟨_, _, _, cap, Env.put_same, rfl, Nat.le_refl _, hcap, by simp, by show 0 + 0 + cap * 1 ≤ C.size; omega⟩
   ·refine h.new _ (.cells C e (C.size, C.size + 1)) C.size rfl ⟨C, e, (C.size, C.size + 1), rfl, rfl, ?_, ?_, ?_, by simp⟩
    ·simp [BS.list, dig_length]; omega
    ·intro i v hi
     obtain ⟨X, e1, e2⟩ := (bytes_rel (ρ := ρ) x.list).get hi
     refine ⟨X, ?_, VRel.mono hle _ _ e2⟩
     have hlt : i < x.n := by
      have := (List.getElem?_eq_some_iff.1 hi).1
      simpa [BS.list, dig_length] using this
     have hsz : x.den.data.size = x.n := BS.den_size x
     simp only [C, Nat.zero_add]
     rw [Array.getElem?_append_left (by simpa [hsz] using hlt)]
     have : x.den.data.toList = x.list := rfl
     rw [← Array.getElem?_toList, Array.toList_map, this]
     exact e1
    ·intro k hk
     have : decide (C.size ≤ k) = false := by simp; omega
     simp [this]
   ·exact ⟨rfl, rfl, rfl, by simp [w'], fun k hk => by simp only [w']; rw [Array.getElem?_push, if_neg (by have := h.le; omega)]⟩
  ·cases hq
 ·cases hq

theorem lenE_rel {v : V} {n : Nat} (h : lenE v = some n) {A : Value} (ha : VRel ρ v A) : (Builtin.lenOf A).run P w = .ok n w := by
 unfold lenE at h
 split at h <;> cases h <;> simp only [VRel] at ha
 ·subst ha; rfl
 ·obtain ⟨_, _, rfl, _⟩ := ha; rfl
 ·obtain ⟨_, _, _, _, _, rfl, _⟩ := ha; rfl
 ·subst ha; simp [Builtin.lenOf, BS.den_size]

theorem sliceCells_rel (h : SRel base ρ s w) {v : V} {n sz : Nat} (hes : esOk v sz = true) {l : List V} (hq : sliceCells s v n = some l) {A : Value} (ha : VRel ρ v A) :
  ∃ L : List Value, (Builtin.firstCells sz n A).run P w = .ok L.toArray w ∧ LRel ρ l L := by
 unfold sliceCells at hq
 simp only [llen_eq, ltake_eq, ldrop_eq] at hq
 split at hq
 ·cases hb : Nat.beq n 0 with
  | false => simp [hb] at hq
  | true =>
   simp only [hb, cond_true, Option.some.injEq] at hq
   subst hq
   simp only [VRel] at ha; subst ha
   exact ⟨[], rfl, LRel.nil⟩
 ·cases hb : Nat.beq n 0 with
  | false => simp [hb] at hq
  | true =>
   simp only [hb, cond_true, Option.some.injEq] at hq
   subst hq
   have : n = 0 := Nat.eq_of_beq_eq_true hb
   subst this
   simp only [VRel] at ha
   obtain ⟨a, c, rfl, _⟩ := ha
   exact ⟨[], by simp [Builtin.firstCells, loadCells, loadCellsFrom], LRel.nil⟩
 ·rename_i b o len cap x es
  simp only [esOk, Nat.beq_eq] at hes
  subst hes
  split at hq
  ·rename_i cs hcs
   cases hb : Nat.ble (o + n * es) cs.length with
   | false => simp [hb] at hq
   | true =>
    simp only [hb, cond_true, Option.some.injEq] at hq
    subst hq
    simp only [VRel] at ha
    obtain ⟨B, O, S, cap', hB, rfl, _⟩ := ha
    obtain ⟨x', hx, hc⟩ := h.cellsAt hcs hB
    rw [hB] at hx; cases hx
    obtain ⟨L, h1, h2⟩ := hc.load (P := P) o (n * es) (by simpa [Nat.ble_eq] using hb)
    exact ⟨L, by simpa [Builtin.firstCells] using h1, h2⟩
  ·cases hq
 ·cases hq

theorem srcCells_rel (h : SRel base ρ s w) {v : V} {n sz : Nat} {l : List V} (hn : lenE v = some n) (hq : srcCells s v sz = some l) {A : Value} (ha : VRel ρ v A) :
  ∃ L : List Value, (Builtin.firstCells sz n A).run P w = .ok L.toArray w ∧ LRel ρ l L := by
 unfold srcCells at hq
 split at hq
 ·rename_i x
  cases hb : Nat.beq sz 1 with
  | false => simp [hb] at hq
  | true =>
   simp only [hb, cond_true, Option.some.injEq] at hq
   subst hq
   simp only [VRel] at ha; subst ha
   simp only [lenE, Option.some.injEq] at hn
   subst hn
   refine ⟨x.list.map fun b => Value.int .u8 b.toNat, ?_, bytes_rel _⟩
   have e : x.den.extract 0 x.n = x.den := by rw [← BS.den_size x, ByteArray.extract_zero_size]
   have e2 : x.den.data.map (fun b => Value.int .u8 b.toNat) = (x.list.map fun b => Value.int .u8 b.toNat).toArray := by
    apply Array.ext'; simp [BS.den, BS.list]
   simp only [Builtin.firstCells, e, e2, Sem.run_pure]
 ·cases hb : esOk v sz with
  | false => simp [hb] at hq
  | true =>
   simp only [hb, cond_true, hn] at hq
   exact sliceCells_rel h hb hq ha

theorem growBy_le (n : Nat) : ∀ r c, c ≤ n + (n + 768) / 4 → Builtin.growBy n r c ≤ n + (n + 768) / 4
 | 0, c, h => h
 | r + 1, c, h => by
  simp only [Builtin.growBy]
  split
  ·exact h
  ·exact growBy_le n r _ (by omega)
theorem nextcap_le {n c : Nat} (h : c < n) : Builtin.nextslicecap n c ≤ 2 * n + 768 := by
 unfold Builtin.nextslicecap
 split
 ·omega
 ·split
  ·omega
  ·have := growBy_le n 4 c (by omega)
   omega

theorem SRel.newLong (h : SRel base ρ s w) {cs : List V} {L : List Value} (hc : LRel ρ cs L) (R : Array Value) (t t' : TypeId) (d : Nat) :
  ρ.le (ρ.put s.next ⟨w.heap.size, 0, (L.toArray ++ R).size⟩) ∧ SRel base (ρ.put s.next ⟨w.heap.size, 0, (L.toArray ++ R).size⟩) (s.new (.cells cs t false)) { w with drawn := d, heap := w.heap.push (.cells (L.toArray ++ R) t') } ∧
   Below base w { w with drawn := d, heap := w.heap.push (.cells (L.toArray ++ R) t') } := by
 have hle := Env.le_put ⟨w.heap.size, 0, (L.toArray ++ R).size⟩ h.fresh
 refine ⟨hle, h.new _ (.cells (L.toArray ++ R) t') _ rfl ⟨_, t', (0, 0), rfl, rfl, ?_, ?_, by simp, fun _ => rfl⟩, rfl, rfl, rfl, by simp, fun k hk => ?_⟩
 ·have := hc.length; simp; omega
 ·intro i v hi
  obtain ⟨X, e1, e2⟩ := hc.get hi
  have hlt := (List.getElem?_eq_some_iff.1 e1).1
  refine ⟨X, ?_, VRel.mono hle _ _ e2⟩
  rw [Nat.zero_add, Array.getElem?_append_left (by simpa using hlt)]
  simpa using e1
 ·simp only
  rw [Array.getElem?_push, if_neg (by have := h.le; omega)]

theorem SRel.move (h : SRel base ρ s w) {b : Nat} {o : EObj} {x : Blk} (hb : s.heap.get b = some o) (hx : ρ b = some x) (o1 : EObj) (X : Obj) (O1 : Nat) {w' : World} (hw : w'.heap = w.heap.setIfInBounds x.B X)
  (ho : ORel (ρ.put s.next ⟨x.B, O1, x.S⟩) O1 x.S (some X) o1) : SRel base (ρ.put s.next ⟨x.B, O1, x.S⟩) (s.move b o1) w' := by
 have hlt := h.lt hb hx
 have hle := Env.le_put ⟨x.B, O1, x.S⟩ h.fresh
 have hbn : b < s.next := h.dom _ _ hx
 have get : ∀ k v, (s.move b o1).heap.get k = some v → (k = s.next ∧ v = o1) ∨ (k ≠ s.next ∧ k ≠ b ∧ s.heap.get k = some v) := by
  intro k v hk
  simp only [St.move, T.get_set] at hk
  split at hk
  ·rename_i e; cases hk; exact .inl ⟨e, rfl⟩
  ·rename_i e
   split at hk
   ·cases hk
   ·rename_i e2; exact .inr ⟨e, e2, hk⟩
 obtain ⟨y, g1, g2, _⟩ := h.obj' hb hx
 rw [hx] at g1; cases g1
 refine ⟨by rw [hw]; simpa using h.le, ?_, ?_, ?_, by simp only [Env.put, St.move]; have := h.top; omega⟩
 ·intro k v z hk hz
  rcases get k v hk with ⟨rfl, rfl⟩ | ⟨e1, e2, hk⟩
  ·rw [Env.put_same] at hz; cases hz
   exact ⟨g2, by rw [hw]; simpa [hlt] using ho⟩
  ·rw [Env.put_ne e1] at hz
   obtain ⟨y, h1, h2, h3⟩ := h.obj' hk hz
   rw [hz] at h1; cases h1
   have h1 := hz
   refine ⟨h2, ?_⟩
   have := h.inj k b _ _ z x hk hb h1 hx e2
   rw [hw, Array.getElem?_setIfInBounds_ne (fun k => this k.symm)]
   exact h3.mono hle
 ·intro k k' v v' y y' hk hk' hy hy' hne
  rcases get k v hk with ⟨rfl, rfl⟩ | ⟨e1, e2, g⟩ <;> rcases get k' v' hk' with ⟨rfl, rfl⟩ | ⟨e1', e2', g'⟩
  ·exact absurd rfl hne
  ·rw [Env.put_same] at hy; cases hy
   rw [Env.put_ne e1'] at hy'
   exact fun e => h.inj k' b _ _ y' x g' hb hy' hx e2' e.symm
  ·rw [Env.put_same] at hy'; cases hy'
   rw [Env.put_ne e1] at hy
   exact h.inj k b _ _ y x g hb hy hx e2
  ·rw [Env.put_ne e1] at hy
   rw [Env.put_ne e1'] at hy'
   exact h.inj k k' v v' y y' g g' hy hy' hne
 ·intro k y hy
  simp only [Env.put] at hy
  show k < s.next + 1
  split at hy
  ·omega
  ·have := h.dom k y hy; omega

theorem wrap_small2 {n : Nat} (h : n ≤ 1099511627776) : IntKind.i64.wrap (n : Int) = n := wrap_small (by omega)

def SrcOK (P : Program) (ts : Array TypeId) (e : TypeId) (i : TypeInfo) (X : Value) (n : Nat) (w w' : World) (L : List Value) : Prop :=
 (zerosE P ts = false ∧ (Builtin.lenOf X).run P w = .ok n w ∧ (Builtin.firstCells i.size n X).run P w' = .ok L.toArray w') ∨
 ((∃ t1 k, ts[1]? = some t1 ∧ P.underlying t1 = some (.int k)) ∧ X = .int .i64 (n : Int) ∧ n * i.bytes ≤ 281474976710656 ∧ n ≤ 1099511627776 ∧
   ((n * i.size = 0 ∧ L = []) ∨ (n * i.size ≠ 0 ∧ ∃ Z, (zeroValue e).run P w' = .ok Z w' ∧ L.toArray = Builtin.zeroCells Z.cells n)))

theorem notInt {ts : Array TypeId} (hz : zerosE P ts = false) : ts[1]? = none ∨ ∃ t1 d, ts[1]? = some t1 ∧ P.underlying t1 = some d ∧ ∀ k, d ≠ .int k := by
 unfold zerosE at hz
 cases h1 : ts[1]? with
 | none => exact .inl rfl
 | some t1 =>
  simp only [h1] at hz
  cases hu : P.underlying t1 with
  | none => simp [hu] at hz
  | some d => exact .inr ⟨t1, d, rfl, hu, fun k e => by subst e; simp [hu] at hz⟩

theorem run_append_in {t e : TypeId} {ts : Array TypeId} {ty : TypeId} {X : Value} {base : Option Addr} {len cap n : Nat} {i : TypeInfo} {L : List Value} (ht : ts[0]? = some t) (hd : P.underlying t = some (.slice e)) (hi : P.info? e = some i)
  (hs : SrcOK P ts e i X n w w L) (hle : len + n ≤ cap) :
  (Builtin.append_ ts ty #[.slice base len cap, X]).run P w = ((match base with | some a => storeCells (a.add (len * i.size)) L | none => pure () : Sem Unit).run P w).andThen fun _ w' => .ok (.slice base (len + n) cap) w' := by
 rcases hs with ⟨hz, hn, hL⟩ | ⟨⟨t1, k, h1, hu⟩, rfl, hb, hm, hL⟩
 ·rcases notInt hz with h1 | ⟨t1, d, h1, hu, hd'⟩
  ·simp only [Builtin.append_, ht, h1, List.getElem?_toArray, List.getElem?_cons_zero, List.getElem?_cons_succ, Sem.run_bind, run_und hd, Result.andThen_ok, info_size hi, Sem.run_pure, Bool.false_eq_true, if_false, hn, hle, if_true, Bool.not_false, hL]
   cases base with
   | none => simp
   | some a => simp
  ·cases d <;> first
    | exact absurd rfl (hd' _)
    | (simp only [Builtin.append_, ht, h1, List.getElem?_toArray, List.getElem?_cons_zero, List.getElem?_cons_succ, Sem.run_bind, run_und hd, run_und hu, Result.andThen_ok, info_size hi, Sem.run_pure, Bool.false_eq_true, if_false, hn, hle, if_true, Bool.not_false, hL]
       cases base with
       | none => simp
       | some a => simp)
 ·have hw := wrap_small2 hm
  have hti : (typeInfo e).run P w = .ok i w := by simp [typeInfo, hi]
  have hneg : ¬ ((n : Int) < 0) := by omega
  have hbb : ¬ ((n : Int) * (i.bytes : Int) > 2 ^ 48) := by
   have : ((n * i.bytes : Nat) : Int) ≤ 281474976710656 := by omega
   rw [Int.natCast_mul] at this; omega
  have hbb' : ¬ (281474976710656 < (n : Int) * (i.bytes : Int)) := by simpa using hbb
  rcases hL with ⟨h0, rfl⟩ | ⟨h0, Z, hZ, hL⟩
  ·cases base with
   | none => simp [Builtin.append_, ht, h1, run_und hd, run_und hu, info_size hi, asInt, run_asIntOf, hw, hneg, hti, hbb', hle, h0]
   | some a => simp [Builtin.append_, ht, h1, run_und hd, run_und hu, info_size hi, asInt, run_asIntOf, hw, hneg, hti, hbb', hle, h0]
  ·have hL' : L = (Builtin.zeroCells Z.cells n).toList := by rw [← hL]
   have h0' : ¬ (n = 0 ∨ i.size = 0) := by rw [← Nat.mul_eq_zero]; exact h0
   subst hL'
   cases base with
   | none => simp [Builtin.append_, ht, h1, run_und hd, run_und hu, info_size hi, asInt, run_asIntOf, hw, hneg, hti, hbb', hle, h0', hZ]
   | some a =>
    simp [Builtin.append_, ht, h1, run_und hd, run_und hu, info_size hi, asInt, run_asIntOf, hw, hneg, hti, hbb', hle, h0', hZ]
    exact fun hh => absurd hh h0

theorem run_append_grow {t e : TypeId} {ts : Array TypeId} {ty : TypeId} {X : Value} {base : Option Addr} {len cap n : Nat} {i : TypeInfo} {K L : List Value} {Z : Value} (ht : ts[0]? = some t) (hd : P.underlying t = some (.slice e)) (hi : P.info? e = some i)
  (hs : SrcOK P ts e i X n w { w with drawn := w.drawn + 1 } L)
  (hK : (Builtin.firstCells i.size len (.slice base len cap)).run P { w with drawn := w.drawn + 1 } = .ok K.toArray { w with drawn := w.drawn + 1 })
  (hZ : (zeroValue e).run P { w with drawn := w.drawn + 1 } = .ok Z { w with drawn := w.drawn + 1 })
  (hgt : cap < len + n) (hb : (2 * (len + n) + 768) * i.bytes ≤ 281474976710656) (hm : len + n ≤ 1099511627776) :
  ∃ cap', len + n ≤ cap' ∧ (Builtin.append_ ts ty #[.slice base len cap, X]).run P w =
   .ok (.slice (some ⟨w.heap.size, 0, none⟩) (len + n) cap') { w with drawn := w.drawn + 1, heap := w.heap.push (.cells (K.toArray ++ L.toArray ++ Builtin.zeroCells Z.cells (cap' - (len + n))) e) } := by
 obtain ⟨cap', hcap, hrun⟩ : ∃ cap', len + n ≤ cap' ∧ (choose (.appendCap (len + n) cap e)).run P w = .ok cap' { w with drawn := w.drawn + 1 } := by
  refine ⟨_, ?_, by simp [Question.forced]; rfl⟩
  simp [Question.cut]
 have hni : ¬ len + n ≤ cap := by omega
 have h63 : ¬ (((len + n : Nat) : Int) > IntKind.i64.max) := by rw [i64max]; omega
 have hti : (typeInfo e).run P w = .ok i w := by simp [typeInfo, hi]
 have hti' : (typeInfo e).run P { w with drawn := w.drawn + 1 } = .ok i { w with drawn := w.drawn + 1 } := by simp [typeInfo, hi]
 have hcapb : ¬ (Builtin.nextslicecap (len + n) cap * i.bytes > 2 ^ 48) := by
  have h1 := nextcap_le hgt
  have h2 := Nat.mul_le_mul_right i.bytes h1
  omega
 refine ⟨cap', hcap, ?_⟩
 rcases hs with ⟨hz, hn, hL⟩ | ⟨⟨t1, k, h1, hu⟩, rfl, hbn, hmn, hL⟩
 ·rcases notInt hz with h1 | ⟨t1, d, h1, hu, hd'⟩
  ·simp only [Builtin.append_, ht, h1, List.getElem?_toArray, List.getElem?_cons_zero, List.getElem?_cons_succ, Sem.run_bind, run_und hd, Result.andThen_ok, info_size hi, Sem.run_pure, Bool.false_eq_true, if_false, hn, hni, h63, false_and, hti, hti', hcapb, hrun, run_askRoom, hK, Bool.not_false, if_true, hL, hZ, newRow, run_newObj]
  ·cases d <;> first
    | exact absurd rfl (hd' _)
    | simp only [Builtin.append_, ht, h1, List.getElem?_toArray, List.getElem?_cons_zero, List.getElem?_cons_succ, Sem.run_bind, run_und hd, run_und hu, Result.andThen_ok, info_size hi, Sem.run_pure, Bool.false_eq_true, if_false, hn, hni, h63, false_and, hti, hti', hcapb, hrun, run_askRoom, hK, Bool.not_false, if_true, hL, hZ, newRow, run_newObj]
 ·have hw := wrap_small2 hmn
  have hneg : ¬ ((n : Int) < 0) := by omega
  have hbb : ¬ ((n : Int) * (i.bytes : Int) > 2 ^ 48) := by
   have : ((n * i.bytes : Nat) : Int) ≤ 281474976710656 := by omega
   rw [Int.natCast_mul] at this; omega
  have ha : (asInt (.int .i64 (n : Int))).run P w = .ok (n : Int) w := by simp [asInt, run_asIntOf]
  have h63' : ¬ ((((len + n : Nat) : Int) > IntKind.i64.max) ∧ (True ∨ i.bytes = 0)) := fun h => h63 h.1
  rcases hL with ⟨h0, rfl⟩ | ⟨h0, Z2, hZ2, hL⟩
  ·simp only [Builtin.append_, ht, h1, List.getElem?_toArray, List.getElem?_cons_zero, List.getElem?_cons_succ, Sem.run_bind, run_und hd, run_und hu, Result.andThen_ok, info_size hi, Sem.run_pure, ha, hw, hneg, if_false, hti, hti', hbb, Int.toNat_natCast, hni, h63, false_and, hcapb, hrun, run_askRoom, hK, h0, if_true, hZ, newRow, run_newObj, Bool.not_true, Bool.false_eq_true]
  ·simp only [Builtin.append_, ht, h1, List.getElem?_toArray, List.getElem?_cons_zero, List.getElem?_cons_succ, Sem.run_bind, run_und hd, run_und hu, Result.andThen_ok, info_size hi, Sem.run_pure, ha, hw, hneg, if_false, hti, hti', hbb, Int.toNat_natCast, hni, h63, false_and, hcapb, hrun, run_askRoom, hK, h0, hZ2, hZ, newRow, run_newObj, Bool.not_true, Bool.false_eq_true, if_true]
   rw [hL, show Z2 = Z by rw [hZ] at hZ2; cases hZ2; rfl]

end
end Go.Eng
end

section
namespace Go.Eng
open Go.RowKit (Below)
set_option linter.unusedSimpArgs false
set_option linter.unusedVariables false

noncomputable section
variable (P : Program)
def modE (l : List (V × V × Nat)) (i : Nat) (k v : V) : List (V × V × Nat) :=
 match l, i with
 | [], _ => []
 | e :: l, 0 => (k, v, e.2.2) :: l
 | e :: l, i + 1 => e :: modE l i k v
def eMakeMap (s : St) (t : TypeId) (r : Option V) : Option (V × St) :=
 match r with
 | none => some (.map s.next, s.new (.map [] 0))
 | some h => match P.underlying t, natOf h with
  | some (.map _ _), some _ => some (.map s.next, s.new (.map [] 0))
  | _, _ => none
def eMapUpdate (s : St) (t : TypeId) (m k v : V) : Option St :=
 match P.underlying t with
 | some (.map kt _) =>
  bif !plainKeyE P kt k then none else
  match m with
  | .map b => match s.heap.get b with
   | some (.map es c) => match findE k es 0 with
    | some (some (i, _)) => some (s.upd b (.map (modE es i k v) c))
    | some none => some (s.upd b (.map (lapp es [(k, v, c)]) (c + 1)))
    | none => none
   | _ => none
  | _ => none
 | _ => none
def eMapEntry (s : St) (t : TypeId) (m k : V) : Option (V × St) :=
 match P.underlying t with
 | some (.map kt e) =>
  bif !plainKeyE P kt k then none else
  match m with
  | .map b => match s.heap.get b with
   | some (.map es c) => match findE k es 0 with
    | some (some (i, v)) => match lget es i with
     | some x => some (.tup [v, .int .i64 (Int.ofNat x.2.2)], s.upd b (.map (modE es i k v) c))
     | none => none
    | some none => match zeroE P e with
     | some z => some (.tup [z, .int .i64 (Int.ofNat c)], s.upd b (.map (lapp es [(k, z, c)]) (c + 1)))
     | none => none
    | none => none
   | _ => none
  | _ => none
 | _ => none
def stampE (n : Nat) : List (V × V × Nat) → Nat → Option Nat
 | [], _ => none
 | e :: l, i => bif Nat.beq e.2.2 n then some i else stampE n l (i + 1)
def setVal (l : List (V × V × Nat)) (i : Nat) (v : V) : List (V × V × Nat) :=
 match l, i with
 | [], _ => []
 | e :: l, 0 => (e.1, v, e.2.2) :: l
 | e :: l, i + 1 => e :: setVal l i v
def eEntryStore (s : St) (m st v : V) : Option St :=
 match m, natOf st with
 | .map b, some n => match s.heap.get b with
  | some (.map es c) => match stampE n es 0 with
   | some i => some (s.upd b (.map (setVal es i v) c))
   | none => none
  | _ => none
 | _, _ => none
def delE (l : List (V × V × Nat)) (i : Nat) : List (V × V × Nat) :=
 match l, i with
 | [], _ => []
 | _ :: l, 0 => l
 | e :: l, i + 1 => e :: delE l i
def eDelete (s : St) (ts : Array TypeId) (m k : V) : Option (V × St) :=
 match ts[0]? with
 | none => none
 | some t =>
 match P.underlying t with
 | some (.map kt _) =>
  bif !plainKeyE P kt k then none else
  match m with
  | .nilm => some (.undef, s)
  | .map b => match s.heap.get b with
   | some (.map es c) => match findE k es 0 with
    | some (some (i, _)) => some (.undef, s.upd b (.map (delE es i) c))
    | some none => some (.undef, s.upd b (.map es c))
    | none => none
   | _ => none
  | _ => none
 | _ => none
def eClear (s : St) (ts : Array TypeId) (m : V) : Option (V × St) :=
 match ts[0]? with
 | none => none
 | some t =>
 match P.underlying t, m with
 | some (.map _ _), .nilm => some (.undef, s)
 | some (.map _ _), .map b => match s.heap.get b with
  | some (.map es c) => some (.undef, s.upd b (.map [] c))
  | _ => none
 | some (.slice _), .nils => some (.undef, s)
 | some (.slice e), .sl b o len _ _ es =>
  bif Nat.beq len 0 then some (.undef, s) else
  match zeroE P e, s.heap.get b with
  | some z, some (.cells cs t' ish) =>
   bif Nat.beq (llen (cellsV z)) es && (Nat.ble (o + len * es) (llen cs) && lall oneV (cellsV z)) then some (.undef, s.upd b (.cells (setAll cs o (repE len (cellsV z))) t' ish)) else none
  | _, _ => none
 | _, _ => none
end

section
variable {P : Program} {base : Nat} {ρ : Env} {s : St} {w : World}

theorem zeroCells_rel {zs : List V} {Z : Array Value} (hz : LRel ρ zs Z.toList) (n : Nat) : LRel ρ (repE n zs) (Builtin.zeroCells Z n).toList := by
 have h := range_rep hz n
 have hl := hz.length
 simp only [Array.length_toList] at hl
 rw [hl] at h
 exact h
theorem zeroCells_size (Z : Array Value) (n : Nat) : (Builtin.zeroCells Z n).size = n * Z.size := by simp [Builtin.zeroCells]

theorem bool_not_cond {α : Type} {b : Bool} {x y : α} {z : α} (h : (bif !b then x else y) = z) (hx : x ≠ z) : b = true ∧ y = z := by
 cases b
 ·exact absurd h hx
 ·exact ⟨rfl, h⟩

theorem srcCells_length {x : V} {n sz : Nat} {l : List V} (hn : lenE x = some n) (hq : srcCells s x sz = some l) : l.length = n * sz := by
 cases x <;> simp only [lenE, reduceCtorEq, Option.some.injEq] at hn
 case str y =>
  subst hn
  simp only [srcCells] at hq
  cases hb : Nat.beq sz 1 with
  | false => simp [hb] at hq
  | true =>
   simp only [hb, cond_true, Option.some.injEq] at hq
   subst hq
   have : sz = 1 := by simpa using hb
   simp [BS.list, dig_length, this]
 case nils =>
  subst hn
  simp [srcCells, esOk, lenE, sliceCells] at hq
  subst hq; simp
 case slz x =>
  subst hn
  simp [srcCells, esOk, lenE, sliceCells] at hq
  subst hq; simp
 case sl b o len cap x es =>
  subst hn
  simp only [srcCells, esOk, lenE] at hq
  cases hb : Nat.beq es sz with
  | false => simp [hb] at hq
  | true =>
   have : es = sz := by simpa using hb
   subst this
   simp only [hb, cond_true, sliceCells, llen_eq, ltake_eq, ldrop_eq] at hq
   split at hq
   ·rename_i cs _
    cases hbb : Nat.ble (o + len * es) cs.length with
    | false => simp [hbb] at hq
    | true =>
     simp only [hbb, cond_true, Option.some.injEq] at hq
     subst hq
     rw [Nat.ble_eq] at hbb
     simp; omega
   ·cases hq

theorem srcE_length {ts : Array TypeId} {i : TypeInfo} {z x : V} {n : Nat} {l : List V} (hz : (cellsV z).length = i.size) (hq : srcE P s ts i z x = some (n, l)) : l.length = n * i.size := by
 unfold srcE at hq
 cases h0 : zerosE P ts with
 | true =>
  rw [h0, cond_true] at hq
  split at hq
  ·split at hq
   ·split at hq
    ·rename_i m
     cases hb : (Nat.ble (m * i.bytes) 281474976710656 && Nat.ble m 1099511627776) with
     | false => rw [hb] at hq; cases hq
     | true => rw [hb, cond_true] at hq; cases hq; rw [repE_length, hz]
    ·cases hq
   ·cases hq
  ·cases hq
 | false =>
  rw [h0, cond_false] at hq
  split at hq
  ·rename_i hn
   split at hq
   ·rename_i hnew
    cases hq
    exact srcCells_length hn hnew
   ·cases hq
  ·cases hq

theorem srcE_rel {w' : World} (h : SRel base ρ s w) (h' : SRel base ρ s w') {ts : Array TypeId} {e : TypeId} {i : TypeInfo} (hi : P.info? e = some i) {z x : V} (hzz : zeroE P e = some z) (hz : (cellsV z).length = i.size) {n : Nat} {l : List V} (hq : srcE P s ts i z x = some (n, l)) {X : Value} (hx : VRel ρ x X) :
  ∃ L : List Value, SrcOK P ts e i X n w w' L ∧ LRel ρ l L := by
 unfold srcE at hq
 cases h0 : zerosE P ts with
 | true =>
  rw [h0, cond_true] at hq
  split at hq
  ·rename_i t1 h1
   split at hq
   ·rename_i k hu
    split at hq
    ·rename_i m
     cases hb : (Nat.ble (m * i.bytes) 281474976710656 && Nat.ble m 1099511627776) with
     | false => rw [hb] at hq; cases hq
     | true =>
      rw [hb, cond_true] at hq
      cases hq
      simp only [Bool.and_eq_true, Nat.ble_eq] at hb
      simp only [VRel] at hx
      obtain ⟨Z, hZ, hzr, _⟩ := zeroE_rel (ρ := ρ) (w := w') hzz
      have hrep := range_rep (cellsV_rel hzr) n
      refine ⟨(Builtin.zeroCells Z.cells n).toList, .inr ⟨⟨t1, k, h1, hu⟩, hx, hb.1, hb.2, ?_⟩, ?_⟩
      ·by_cases hn : n * i.size = 0
       ·refine .inl ⟨hn, ?_⟩
        have hs : (Builtin.zeroCells Z.cells n).size = 0 := by
         have hl := (cellsV_rel hzr).length
         simp only [Array.length_toList] at hl
         rw [zeroCells_size, ← hl, hz, hn]
        have : Builtin.zeroCells Z.cells n = #[] := Array.eq_empty_of_size_eq_zero hs
        rw [this]
       ·exact .inr ⟨hn, Z, hZ, by simp⟩
      ·have hl := (cellsV_rel hzr).length
       simp only [Array.length_toList] at hl
       rw [hl] at hrep
       exact hrep
    ·cases hq
   ·cases hq
  ·cases hq
 | false =>
  rw [h0, cond_false] at hq
  split at hq
  ·rename_i m hn
   split at hq
   ·rename_i new hnew
    cases hq
    obtain ⟨L, hL, hLr⟩ := srcCells_rel (P := P) h' hn hnew hx
    exact ⟨L, .inl ⟨h0, lenE_rel (P := P) (w := w) hn hx, hL⟩, hLr⟩
   ·cases hq
  ·cases hq

theorem eAppend_rel (h : SRel base ρ s w) {ts : Array TypeId} {ty : TypeId} {a x v : V} {s' : St} (hq : eAppend P s ts a x = some (v, s')) {A X : Value} (ha : VRel ρ a A) (hx : VRel ρ x X) :
  OKv P base ρ (Builtin.append_ ts ty #[A, X]) w v s' := by
 unfold eAppend at hq
 simp only [llen_eq, lall_eq, ltake_eq, ldrop_eq, lapp_eq, lget_eq] at hq
 split at hq
 ·cases hq
 rename_i t ht
 split at hq
 ·rename_i e hd
  split at hq
  ·rename_i i z hi hzz
   obtain ⟨hb0, hq⟩ := bool_not_cond hq (by simp)
   simp only [Bool.and_eq_true, Nat.ble_eq, Nat.beq_eq] at hb0
   split at hq
   ·cases hq
   rename_i n new hnew
   have h' : SRel base ρ s { w with drawn := w.drawn + 1 } := h.same rfl
   obtain ⟨L, hL, hLr⟩ := srcE_rel (P := P) h h hi hzz hb0.1 hnew hx
   obtain ⟨L', hL', hLr'⟩ := srcE_rel (P := P) h h' hi hzz hb0.1 hnew hx
   obtain ⟨Z, hZ, hzr, _⟩ := zeroE_rel (ρ := ρ) (w := { w with drawn := w.drawn + 1 }) hzz
   have hzc := (cellsV_rel hzr).length
   simp only [Array.length_toList] at hzc
   -- how many cells are appended
   have hnc : new.length = n * i.size := srcE_length hb0.1 hnew
   split at hq
   ·rename_i x' _
    have ha0 := ha
    simp only [VRel] at ha
    obtain ⟨ad, cz, rfl, hcz⟩ := ha
    cases hn0 : Nat.beq n 0 with
    | true =>
     simp only [hn0, cond_true, Option.some.injEq, Prod.mk.injEq] at hq
     obtain ⟨rfl, rfl⟩ := hq
     have e : n = 0 := by simpa using hn0
     subst e
     refine ⟨ρ, .slice (some ad) 0 cz, w, ρ.le_refl, ?_, ha0, h, Below.refl _ _⟩
     rw [run_append_in ht hd hi hL (by omega)]
     have hl := hLr.length
     rw [hnc, Nat.zero_mul] at hl
     have : L = [] := List.length_eq_zero_iff.1 hl.symm
     subst this
     simp [storeCells]
    | false =>
     simp only [hn0, cond_false] at hq
     cases hb : (x' && (Nat.ble ((2 * n + 768) * i.bytes) 281474976710656 && Nat.ble n 1099511627776)) with
     | false => simp [hb] at hq
     | true =>
     simp only [hb, cond_true, Option.some.injEq, Prod.mk.injEq] at hq
     obtain ⟨rfl, rfl⟩ := hq
     simp only [Bool.and_eq_true, Nat.ble_eq] at hb
     have := hcz hb.1
     subst this
     have hn1 : 0 < n := by
      rcases Nat.eq_zero_or_pos n with e | e
      ·subst e; simp at hn0
      ·exact e
     obtain ⟨cap', hc, hrun⟩ := run_append_grow (P := P) (w := w) (ty := ty) (base := some ad) (len := 0) (cap := 0) (K := []) ht hd hi hL' (by simp [Builtin.firstCells, loadCells, loadCellsFrom]) hZ (by omega) (by simpa using hb.2.1) (by simpa using hb.2.2)
     simp only [Nat.zero_add, List.nil_append, Array.append_assoc] at hrun hc
     have hz2 : (#[] : Array Value) ++ (L'.toArray ++ Builtin.zeroCells Z.cells (cap' - n)) = L'.toArray ++ Builtin.zeroCells Z.cells (cap' - n) := by simp
     rw [hz2] at hrun
     obtain ⟨e1, e2, e3⟩ := h.newLong hLr' (Builtin.zeroCells Z.cells (cap' - n)) e e (w.drawn + 1)
     refine ⟨_, _, _, e1, hrun, ?_, e2, e3⟩
     simp only [VRel]
     refine ⟨_, _, _, cap', Env.put_same, rfl, Nat.le_refl _, hc, by simp, ?_⟩
     have hl := hLr'.length
     simp only [Array.size_append, zeroCells_size, List.size_toArray]
     rw [← hl, hnc, ← hzc, hb0.1, ← Nat.add_mul]
     simp only [Nat.zero_add]
     exact Nat.mul_le_mul_right _ (by omega)
   ·-- nil
    simp only [VRel] at ha; subst ha
    cases hn0 : Nat.beq n 0 with
    | true =>
     simp only [hn0, cond_true, Option.some.injEq, Prod.mk.injEq] at hq
     obtain ⟨rfl, rfl⟩ := hq
     have e : n = 0 := by simpa using hn0
     subst e
     refine ⟨ρ, .slice none 0 0, w, ρ.le_refl, ?_, by simp only [VRel], h, Below.refl _ _⟩
     rw [run_append_in ht hd hi hL (by omega)]
     rfl
    | false =>
     simp only [hn0, cond_false] at hq
     cases hb : (Nat.ble ((2 * n + 768) * i.bytes) 281474976710656 && Nat.ble n 1099511627776) with
     | false => simp [hb] at hq
     | true =>
     simp only [hb, cond_true, Option.some.injEq, Prod.mk.injEq] at hq
     obtain ⟨rfl, rfl⟩ := hq
     simp only [Bool.and_eq_true, Nat.ble_eq] at hb
     have hn1 : 0 < n := by
      rcases Nat.eq_zero_or_pos n with e | e
      ·subst e; simp at hn0
      ·exact e
     obtain ⟨cap', hc, hrun⟩ := run_append_grow (P := P) (w := w) (ty := ty) (base := none) (len := 0) (cap := 0) (K := []) ht hd hi hL' (by simp [Builtin.firstCells]) hZ (by omega) (by simpa using hb.1) (by simpa using hb.2)
     simp only [Nat.zero_add, List.nil_append, Array.append_assoc] at hrun hc
     have hz2 : (#[] : Array Value) ++ (L'.toArray ++ Builtin.zeroCells Z.cells (cap' - n)) = L'.toArray ++ Builtin.zeroCells Z.cells (cap' - n) := by simp
     rw [hz2] at hrun
     obtain ⟨e1, e2, e3⟩ := h.newLong hLr' (Builtin.zeroCells Z.cells (cap' - n)) e e (w.drawn + 1)
     refine ⟨_, _, _, e1, hrun, ?_, e2, e3⟩
     simp only [VRel]
     refine ⟨_, _, _, cap', Env.put_same, rfl, Nat.le_refl _, hc, by simp, ?_⟩
     have hl := hLr'.length
     simp only [Array.size_append, zeroCells_size, List.size_toArray]
     rw [← hl, hnc, ← hzc, hb0.1, ← Nat.add_mul]
     simp only [Nat.zero_add]
     exact Nat.mul_le_mul_right _ (by omega)
   ·rename_i b o len cap x' es _
    obtain ⟨hes, hq⟩ := bool_not_cond hq (by simp)
    have hes : es = i.size := by simpa using hes
    subst hes
    have ha0 := ha
    simp only [VRel] at ha
    obtain ⟨B, O, S, cap', hB, rfl, c1, c2, c3, c4⟩ := ha
    cases hcap : Nat.ble (len + n) cap with
    | true =>
     simp only [hcap, cond_true] at hq
     rw [Nat.ble_eq] at hcap
     split at hq
     ·rename_i cs t' ish hg
      cases hb : (Nat.ble (o + (len + n) * i.size) cs.length && new.all oneV) with
      | false => simp [hb] at hq
      | true =>
      simp only [hb, cond_true, Option.some.injEq, Prod.mk.injEq] at hq
      obtain ⟨rfl, rfl⟩ := hq
      simp only [Bool.and_eq_true, Nat.ble_eq] at hb
      have hmul : (len + n) * i.size = len * i.size + n * i.size := Nat.add_mul _ _ _
      obtain ⟨w', g1, g2, g3⟩ := h.write (P := P) hg hB hLr (o := o + len * i.size) (by omega) hb.2
      refine ⟨ρ, .slice (some ⟨B, O + o, none⟩) (len + n) cap', w', ρ.le_refl, ?_, ?_, g2, g3⟩
      ·rw [run_append_in ht hd hi hL (by omega)]
       simp only [addr_add]
       simp only at g1
       rw [Nat.add_assoc, g1]
       rfl
      ·simp only [VRel]
       exact ⟨B, O, S, cap', hB, rfl, hcap, c2, c3, c4⟩
     ·cases hq
    | false =>
     simp only [hcap, cond_false] at hq
     have hcap' : cap < len + n := by
      refine Nat.lt_of_not_le fun hh => ?_
      rw [← Nat.ble_eq, hcap] at hh; cases hh
     obtain ⟨hb1, hq⟩ := bool_not_cond hq (by simp)
     simp only [Bool.and_eq_true, Nat.ble_eq] at hb1
     split at hq
     ·rename_i cs t' ish hg
      obtain ⟨hb2, hq⟩ := bool_not_cond hq (by simp)
      simp only [Bool.and_eq_true, Nat.ble_eq] at hb2
      have hcsAt : cellsAt s b = some cs := by simp [cellsAt, hg]
      have hold : sliceCells s (.sl b o len cap x' i.size) len = some ((cs.drop o).take (len * i.size)) := by
       simp only [sliceCells, hcsAt, llen_eq, ltake_eq, ldrop_eq]
       have : Nat.ble (o + len * i.size) cs.length = true := by rw [Nat.ble_eq]; exact hb2.1
       rw [this]; rfl
      obtain ⟨K, hK, hKr⟩ := sliceCells_rel (P := P) h' (sz := i.size) (by simp [esOk]) hold ha0
      have hKlen : ((cs.drop o).take (len * i.size)).length = len * i.size := by simp; omega
      -- a new block
      have grow : cap' < len + n → ∃ ρ' Y w', ρ.le ρ' ∧ (Builtin.append_ ts ty #[.slice (some ⟨B, O + o, none⟩) len cap', X]).run P w = .ok Y w' ∧
        VRel ρ' (.sl s.next 0 (len + n) (len + n) false i.size) Y ∧ SRel base ρ' (s.new (.cells ((cs.drop o).take (len * i.size) ++ new) e false)) w' ∧ Below base w w' := by
       intro hgt
       obtain ⟨cap2, hc, hrun⟩ := run_append_grow (P := P) (w := w) (ty := ty) ht hd hi hL' hK hZ hgt hb1.1 hb1.2
       have hKL : LRel ρ ((cs.drop o).take (len * i.size) ++ new) (K ++ L') := hKr.append hLr'
       obtain ⟨e1, e2, e3⟩ := h.newLong hKL (Builtin.zeroCells Z.cells (cap2 - (len + n))) e e (w.drawn + 1)
       have e4 : (K ++ L').toArray = K.toArray ++ L'.toArray := by simp
       rw [← e4] at hrun
       refine ⟨_, _, _, e1, hrun, ?_, e2, e3⟩
       simp only [VRel]
       refine ⟨_, _, _, cap2, Env.put_same, rfl, Nat.le_refl _, hc, by simp, ?_⟩
       have hl := hKL.length
       simp only [Array.size_append, zeroCells_size, List.size_toArray]
       rw [← hl, List.length_append, hKlen, hnc, ← hzc, hb0.1, ← Nat.add_mul, ← Nat.add_mul]
       simp only [Nat.zero_add]
       exact Nat.mul_le_mul_right _ (by omega)
      cases hx' : x' with
      | true =>
       simp only [hx', cond_true, Option.some.injEq, Prod.mk.injEq] at hq
       obtain ⟨rfl, rfl⟩ := hq
       exact grow (by rw [c3 hx']; exact hcap')
      | false =>
       simp only [hx', cond_false, Option.some.injEq, Prod.mk.injEq] at hq
       obtain ⟨rfl, rfl⟩ := hq
       rcases Nat.lt_or_ge cap' (len + n) with hgt | hle
       ·obtain ⟨ρ', Y, w', g1, g2, g3, g4, g5⟩ := grow hgt
        refine ⟨ρ', Y, w', g1, g2, g3, ?_, g5⟩
        -- what is struck is asked for no more
        refine ⟨g4.le, ?_, ?_, g4.dom, g4.top⟩
        ·intro k u z hk hz
         simp only [St.move, T.get_set] at hk
         have hk2 : (k = s.next ∧ u = .cells ((cs.drop o).take (len * i.size) ++ new) e ish) ∨ (k ≠ s.next ∧ s.heap.get k = some u) := by
          split at hk
          ·rename_i ee; cases hk; exact .inl ⟨ee, rfl⟩
          ·rename_i ee
           split at hk
           ·cases hk
           ·exact .inr ⟨ee, hk⟩
         rcases hk2 with ⟨rfl, rfl⟩ | ⟨ee, hk⟩
         ·obtain ⟨y2, C, tt, fr, y3, y4, y5, y6, y7, y8⟩ := g4.obj s.next (.cells ((cs.drop o).take (len * i.size) ++ new) e false) z (by simp [St.new, T.get_set]) hz
          exact ⟨y2, C, tt, fr, y3, y4, y5, y6, y7, fun _ => y8 rfl⟩
         ·exact g4.obj k u z (by simp only [St.new, T.get_set, ee, if_false]; exact hk) hz
        ·intro k k' u u' y y' hk hk' hy hy' hne
         have sub : ∀ k u, (s.move b (.cells ((cs.drop o).take (len * i.size) ++ new) e ish)).heap.get k = some u → ∃ u', (s.new (.cells ((cs.drop o).take (len * i.size) ++ new) e false)).heap.get k = some u' := by
          intro k u hk
          simp only [St.move, St.new, T.get_set] at hk ⊢
          split at hk
          ·rename_i ee; exact ⟨_, by simp [ee]; rfl⟩
          ·rename_i ee
           split at hk
           ·cases hk
           ·exact ⟨u, by simp [ee, hk]⟩
         obtain ⟨u1, k1⟩ := sub k u hk
         obtain ⟨u2, k2⟩ := sub k' u' hk'
         exact g4.inj k k' u1 u2 y y' k1 k2 hy hy' hne
       ·-- in place
        obtain ⟨C, tt, fr, e1, e2, e3, e4, e5, e6, e7⟩ := h.cellsObj hg hB
        simp only at e1 e2 e3 e4 e5 e7
        have hl := hLr.length
        have hmul : (len + n) * i.size = len * i.size + n * i.size := Nat.add_mul _ _ _
        have hfit : O + o + (len + n) * i.size ≤ S := Nat.le_trans (Nat.add_le_add_left (Nat.mul_le_mul_right _ hle) _) c4
        have hst := run_storeAll (P := P) L (O + (o + len * i.size)) 0 C w e1 (by rw [e2]; exact e5) (by omega) (allOne_rel hLr hb2.2)
        refine ⟨ρ.put s.next ⟨B, O + o, S⟩, .slice (some ⟨B, O + o, none⟩) (len + n) cap', _, Env.le_put _ h.fresh, ?_, ?_, h.move hg hB _ (.cells (setA C (O + (o + len * i.size)) L) tt fr) (O + o) rfl ?_, below_set e7 rfl⟩
        ·rw [run_append_in ht hd hi hL hle]
         simp only [addr_add]
         rw [Nat.add_assoc, hst]
         rfl
        ·simp only [VRel]
         exact ⟨B, O + o, S, cap', Env.put_same, rfl, Nat.le_refl _, hle, by simp, by omega⟩
        ·refine ⟨_, tt, fr, rfl, by rw [setA_size]; exact e2, ?_, ?_, e5, e6⟩
         ·rw [List.length_append, hKlen, hnc]; show O + o + _ ≤ S; omega
         ·have hle' := Env.le_put ⟨B, O + o, S⟩ h.fresh
          have hcp : CP ρ O (setAll (cs ++ List.replicate (o + (len + n) * i.size) .undef) (o + len * i.size) new) (setA C (O + (o + len * i.size)) L) ∨ True := .inr trivial
          intro j u hj
          simp only
          have sa : ∀ (l : List Value) (C : Array Value) (p k : Nat), p + l.length ≤ C.size → (setA C p l)[k]? = if p ≤ k ∧ k < p + l.length then l[k - p]? else C[k]? := by
           intro l
           induction l with
           | nil => intro C p k _; simp [setA]; omega
           | cons c l ih =>
            intro C p k hp
            simp only [List.length_cons] at hp ⊢
            simp only [setA]
            rw [ih _ _ _ (by simp; omega)]
            by_cases hk : k = p
            ·subst hk
             rw [if_neg (by omega), if_pos (by omega), Array.getElem?_setIfInBounds_self_of_lt (by omega)]
             simp
            ·by_cases hk2 : p + 1 ≤ k ∧ k < p + 1 + l.length
             ·rw [if_pos hk2, if_pos (by omega)]
              obtain ⟨d, rfl⟩ : ∃ d, k = p + 1 + d := ⟨k - (p + 1), by omega⟩
              rw [show p + 1 + d - (p + 1) = d from by omega, show p + 1 + d - p = d + 1 from by omega]
              simp
             ·rw [if_neg hk2, if_neg (by omega), Array.getElem?_setIfInBounds_ne (by omega)]
          have hlen2 : L.length = n * i.size := by rw [← hl, hnc]
          rw [sa _ _ _ _ (by omega)]
          rcases Nat.lt_or_ge j (len * i.size) with hj1 | hj1
          ·rw [if_neg (by omega)]
           rw [List.getElem?_append_left (by omega), List.getElem?_take_of_lt hj1, List.getElem?_drop] at hj
           obtain ⟨W, q1, q2⟩ := e4 _ _ hj
           exact ⟨W, by rw [Nat.add_assoc]; exact q1, VRel.mono hle' _ _ q2⟩
          ·rw [List.getElem?_append_right (by omega), hKlen] at hj
           have hj2 := (List.getElem?_eq_some_iff.1 hj).1
           rw [if_pos (by omega)]
           obtain ⟨W, q1, q2⟩ := hLr.get hj
           refine ⟨W, ?_, VRel.mono hle' _ _ q2⟩
           rw [← q1]; congr 1; omega
     ·cases hq
   ·cases hq
  ·cases hq
 ·cases hq

theorem eCopy_rel (h : SRel base ρ s w) {ts : Array TypeId} {ty : TypeId} {d x v : V} {s' : St} (hq : eCopy P s ts d x = some (v, s')) {D X : Value} (hd : VRel ρ d D) (hx : VRel ρ x X) :
  OKv P base ρ (Builtin.copy_ ts ty #[D, X]) w v s' := by
 unfold eCopy at hq
 simp only [llen_eq, lall_eq, ltake_eq, ldrop_eq, lapp_eq, lget_eq] at hq
 split at hq
 ·cases hq
 rename_i t ht
 split at hq
 ·rename_i e hu
  split at hq
  ·rename_i sz dl xl hsz hdl hxl
   obtain ⟨hb0, hq⟩ := bool_not_cond hq (by simp)
   simp only [Bool.and_eq_true, Nat.ble_eq] at hb0
   split at hq
   ·cases hq
   rename_i all hall
   have hlx := lenE_rel (P := P) (w := w) hxl hx
   have hlen := srcCells_length hxl hall
   -- the first cells of the source
   have key : ∃ L : List Value, (Builtin.firstCells sz (Nat.min xl dl) X).run P w = .ok L.toArray w ∧ LRel ρ (all.take (Nat.min xl dl * sz)) L := by
    unfold srcCells at hall
    split at hall
    ·rename_i y
     cases hb : Nat.beq sz 1 with
     | false => simp [hb] at hall
     | true =>
      have hs1 : sz = 1 := by simpa using hb
      subst hs1
      simp only [hb, cond_true, Option.some.injEq] at hall
      subst hall
      simp only [VRel] at hx; subst hx
      simp only [lenE, Option.some.injEq] at hxl
      subst hxl
      refine ⟨(y.list.take (Nat.min y.n dl)).map fun b => Value.int .u8 b.toNat, ?_, ?_⟩
      ·have e2 : (y.den.extract 0 (Nat.min y.n dl)).data.map (fun b => Value.int .u8 b.toNat) = ((y.list.take (Nat.min y.n dl)).map fun b => Value.int .u8 b.toNat).toArray := by
        apply Array.ext'
        simp [BS.den, BS.list, List.extract_eq_take_drop]
       simp only [Builtin.firstCells, e2, Sem.run_pure]
      ·have := bytes_rel (ρ := ρ) (y.list.take (Nat.min y.n dl))
       rw [List.map_take] at this
       simpa using this
    ·cases hb : esOk x sz with
     | false => simp [hb] at hall
     | true =>
      simp only [hb, cond_true, hxl] at hall
      have hsub : sliceCells s x (Nat.min xl dl) = some (all.take (Nat.min xl dl * sz)) := by
       have hmin : Nat.min xl dl ≤ xl := Nat.min_le_left _ _
       unfold sliceCells at hall ⊢
       simp only [llen_eq, ltake_eq, ldrop_eq] at hall ⊢
       split at hall
       ·simp only [lenE, Option.some.injEq] at hxl
        subst hxl
        simp at hall
        subst hall
        have : Nat.min 0 dl = 0 := by simp
        simp [this]
       ·simp only [lenE, Option.some.injEq] at hxl
        subst hxl
        simp at hall
        subst hall
        have : Nat.min 0 dl = 0 := by simp
        simp [this]
       ·rename_i b o len cap x' es _
        have hes : es = sz := by simpa [esOk] using hb
        subst hes
        split at hall
        ·rename_i cs hcs
         cases hbb : Nat.ble (o + xl * es) cs.length with
         | false => simp [hbb] at hall
         | true =>
          simp only [hbb, cond_true, Option.some.injEq] at hall
          subst hall
          rw [Nat.ble_eq] at hbb
          have hm := Nat.mul_le_mul_right es hmin
          have : Nat.ble (o + Nat.min xl dl * es) cs.length = true := by rw [Nat.ble_eq]; omega
          rw [this]
          simp only [cond_true, List.take_take]
          rw [Nat.min_eq_left hm]
        ·cases hall
       ·cases hall
      exact sliceCells_rel h hb hsub hx
   obtain ⟨L, hL, hLr⟩ := key
   split at hq
   ·cases hq
    simp only [VRel] at hd; subst hd
    simp only [lenE, Option.some.injEq] at hdl
    subst hdl
    refine ⟨ρ, .int .i64 0, w, ρ.le_refl, ?_, by simp only [VRel], h, Below.refl _ _⟩
    have : Nat.min xl 0 = 0 := by simp
    rw [this] at hL
    simp [Builtin.copy_, ht, run_und hu, hlx, run_size hsz, this, hL, goInt]
   ·rename_i b o len cap x' es _
    split at hq
    ·rename_i cs t' ish hg
     cases hb : (Nat.ble (o + (all.take (Nat.min xl dl * sz)).length) cs.length && (all.take (Nat.min xl dl * sz)).all oneV) with
     | false => rw [hb] at hq; cases hq
     | true =>
     rw [hb] at hq
     simp only [cond_true, Option.some.injEq, Prod.mk.injEq] at hq
     obtain ⟨rfl, rfl⟩ := hq
     simp only [Bool.and_eq_true, Nat.ble_eq] at hb
     simp only [VRel] at hd
     obtain ⟨B, O, S, cap', hB, rfl, _⟩ := hd
     simp only [lenE, Option.some.injEq] at hdl
     subst hdl
     obtain ⟨w', g1, g2, g3⟩ := h.write (P := P) hg hB hLr (o := o) hb.1 hb.2
     refine ⟨ρ, .int .i64 (Nat.min xl len : Nat), w', ρ.le_refl, ?_, vint _ _, g2, g3⟩
     simp only at g1
     simp [Builtin.copy_, ht, run_und hu, hlx, run_size hsz, hL, g1, goInt]
    ·cases hq
   ·cases hq
  ·cases hq
 ·cases hq

theorem getObj_map {B : Nat} {E : Array MapEntry} {c : Nat} (h : w.heap[B]? = some (.map E c)) : (getObj B).run P w = .ok (.map E c) w := by simp only [getObj, Sem.run, h]
theorem setObj_map {B : Nat} {E : Array MapEntry} {c : Nat} (h : w.heap[B]? = some (.map E c)) (o : Obj) : (setObj B o).run P w = .ok () { w with heap := w.heap.setIfInBounds B o } := by simp only [setObj, Sem.run, h]

theorem eMakeMap_rel (h : SRel base ρ s w) {t : TypeId} {r : Option V} {v : V} {s' : St} (hq : eMakeMap P s t r = some (v, s')) {R : Option Value} (hr : OptRel ρ r R) : OKv P base ρ (Instr.makeMap t R) w v s' := by
 have core : OKv P base ρ (do pure (.map (some (← newObj (.map #[] 0)))) : Sem Value) w (.map s.next) (s.new (.map [] 0)) := by
  have hle := Env.le_put ⟨w.heap.size, 0, 0⟩ h.fresh
  refine ⟨_, .map (some w.heap.size), { w with heap := w.heap.push (.map #[] 0) }, hle, by simp, ?_, h.new _ (.map #[] 0) 0 rfl ⟨#[], rfl, rfl⟩, below_new h.le rfl⟩
  simp only [VRel]; exact ⟨_, _, _, Env.put_same, rfl⟩
 unfold eMakeMap at hq
 split at hq
 ·cases hq
  have hr : R = none := hr
  subst hr
  obtain ⟨ρ', X, w', h1, h2, h3⟩ := core
  exact ⟨ρ', X, w', h1, by simpa [Instr.makeMap] using h2, h3⟩
 ·split at hq
  ·rename_i hd hn
   cases hq
   obtain ⟨W, rfl, hW⟩ := hr
   obtain ⟨k, rfl⟩ := natOf_rel hn hW
   obtain ⟨ρ', X, w', h1, h2, h3⟩ := core
   exact ⟨ρ', X, w', h1, by simpa [Instr.makeMap, run_und hd, asInt, run_asIntOf] using h2, h3⟩
  ·cases hq

theorem findE_bound {k : V} : ∀ {l : List (V × V × Nat)} {i j : Nat} {v : V}, findE k l i = some (some (j, v)) → ∃ e, i ≤ j ∧ l[j - i]? = some e ∧ keyEq k e.1 = some true ∧ e.2.1 = v
 | [], i, j, v, h => by simp [findE] at h
 | e :: l, i, j, v, h => by
  simp only [findE] at h
  split at h
  ·rename_i he
   cases h
   exact ⟨e, Nat.le_refl _, by simp, he, rfl⟩
  ·obtain ⟨e', h1, h2, h3, h4⟩ := findE_bound h
   refine ⟨e', by omega, ?_, h3, h4⟩
   obtain ⟨d, rfl⟩ : ∃ d, j = i + 1 + d := ⟨j - (i + 1), by omega⟩
   rw [show i + 1 + d - (i + 1) = d from by omega] at h2
   rw [show i + 1 + d - i = d + 1 from by omega]
   simpa using h2
  ·cases h

theorem MRel.get : ∀ {l : List (V × V × Nat)} {E : List MapEntry}, MRel ρ l E → ∀ {i : Nat} {e : V × V × Nat}, l[i]? = some e → ∃ x, E[i]? = some x ∧ VRel ρ e.1 x.key ∧ VRel ρ e.2.1 x.val ∧ e.2.2 = x.born
 | [], _, _, i, e, h => by simp at h
 | a :: l, E, hr, i, e, h => by
  obtain ⟨x, y, rfl, h1, h2, h3, h4⟩ := hr
  cases i with
  | zero => simp at h; subst h; exact ⟨x, rfl, h1, h2, h3⟩
  | succ i => simp at h; simpa using MRel.get h4 h

theorem MRel.mod : ∀ {l : List (V × V × Nat)} {E : List MapEntry}, MRel ρ l E → ∀ (i : Nat) {k v : V} {K X : Value}, VRel ρ k K → VRel ρ v X → MRel ρ (modE l i k v) (E.modify i fun e => { e with key := K, val := X })
 | [], E, h, i, k, v, K, X, hk, hv => by have h : E = [] := h; subst h; simp [modE, MRel]
 | a :: l, E, hr, i, k, v, K, X, hk, hv => by
  obtain ⟨x, y, rfl, h1, h2, h3, h4⟩ := hr
  cases i with
  | zero => rw [List.modify_zero_cons]; exact ⟨_, _, rfl, hk, hv, h3, h4⟩
  | succ i => rw [List.modify_succ_cons]; exact ⟨x, _, rfl, h1, h2, h3, MRel.mod h4 i hk hv⟩
theorem MRel.snoc : ∀ {l : List (V × V × Nat)} {E : List MapEntry}, MRel ρ l E → ∀ {k v : V} {K X : Value} {c : Nat}, VRel ρ k K → VRel ρ v X → MRel ρ (l ++ [(k, v, c)]) (E ++ [⟨K, X, c⟩])
 | [], E, h, k, v, K, X, c, hk, hv => by have h : E = [] := h; subst h; exact ⟨_, _, rfl, hk, hv, rfl, rfl⟩
 | a :: l, E, hr, k, v, K, X, c, hk, hv => by
  obtain ⟨x, y, rfl, h1, h2, h3, h4⟩ := hr
  exact ⟨x, _, rfl, h1, h2, h3, MRel.snoc h4 hk hv⟩
theorem MRel.del : ∀ {l : List (V × V × Nat)} {E : List MapEntry}, MRel ρ l E → ∀ (i : Nat), MRel ρ (delE l i) (E.eraseIdx i)
 | [], E, h, i => by have h : E = [] := h; subst h; simp [delE, MRel]
 | a :: l, E, hr, i => by
  obtain ⟨x, y, rfl, h1, h2, h3, h4⟩ := hr
  cases i with
  | zero => exact h4
  | succ i => rw [List.eraseIdx_cons_succ]; exact ⟨x, _, rfl, h1, h2, h3, MRel.del h4 i⟩
theorem MRel.setv : ∀ {l : List (V × V × Nat)} {E : List MapEntry}, MRel ρ l E → ∀ (i : Nat) {v : V} {X : Value}, VRel ρ v X → MRel ρ (setVal l i v) (E.modify i fun e => { e with val := X })
 | [], E, h, i, v, X, hv => by have h : E = [] := h; subst h; simp [setVal, MRel]
 | a :: l, E, hr, i, v, X, hv => by
  obtain ⟨x, y, rfl, h1, h2, h3, h4⟩ := hr
  cases i with
  | zero => rw [List.modify_zero_cons]; exact ⟨_, _, rfl, h1, hv, h3, h4⟩
  | succ i => rw [List.modify_succ_cons]; exact ⟨x, _, rfl, h1, h2, h3, MRel.setv h4 i hv⟩

theorem keyStays {k e : V} (h : keyEq k e = some true) {K X : Value} (hk : VRel ρ k K) (he : VRel ρ e X) : (Instr.keyThatStays X K).run P w = .ok K w := by
 have : Instr.sameBits 10000 X K = true := by
  unfold keyEq at h
  split at h
  ·rename_i k1 x k2 y
   rw [kEq_iff, eqQ_eq] at h
   cases hkk : decide (k1 = k2) with
   | false => simp [hkk] at h
   | true =>
    have ee : k1 = k2 := by simpa using hkk
    subst ee
    simp only [decide_true, cond_true, Option.some.injEq, beq_iff_eq] at h
    subst h
    simp only [VRel] at hk he; subst hk; subst he
    simp [Instr.sameBits]
  ·simp only [Option.some.injEq] at h
   simp only [VRel] at hk he; subst hk; subst he
   rw [BS.eq_iff] at h
   simp only [beq_iff_eq] at h
   have := ba_ext h
   simp [Instr.sameBits, this, beq_toListBytes]
  ·simp only [Option.some.injEq, beq_iff_eq] at h
   subst h
   simp only [VRel] at hk he; subst hk; subst he
   simp [Instr.sameBits]
  ·cases h
 simp [Instr.keyThatStays, this]

theorem SRel.mapObj (h : SRel base ρ s w) {b : Nat} {es : List (V × V × Nat)} {c : Nat} (hg : s.heap.get b = some (.map es c)) {B O S : Nat} (hx : ρ b = some ⟨B, O, S⟩) :
  ∃ E, w.heap[B]? = some (.map E c) ∧ MRel ρ es E.toList ∧ base ≤ B := by
 obtain ⟨y, h1, h2, E, h3, h4⟩ := h.obj' hg hx
 rw [hx] at h1; cases h1
 exact ⟨E, h3, h4, h2⟩

theorem eMapUpdate_rel (h : SRel base ρ s w) {t : TypeId} {m k v : V} {s' : St} (hq : eMapUpdate P s t m k v = some s') {M K X : Value} (hm : VRel ρ m M) (hk : VRel ρ k K) (hv : VRel ρ v X) :
  ∃ w', (Instr.mapUpdate t M K X).run P w = .ok () w' ∧ SRel base ρ s' w' ∧ Below base w w' := by
 unfold eMapUpdate at hq
 simp only [llen_eq, lall_eq, ltake_eq, ldrop_eq, lapp_eq, lget_eq] at hq
 split at hq
 ·rename_i kt et hd
  obtain ⟨hp, hq⟩ := bool_not_cond hq (by simp)
  split at hq
  ·rename_i b
   split at hq
   ·rename_i es c hg
    simp only [VRel] at hm
    obtain ⟨B, O, S, hB, rfl⟩ := hm
    obtain ⟨E, hE, hrel, hbase⟩ := h.mapObj hg hB
    split at hq
    ·rename_i i v0 hf
     cases hq
     obtain ⟨e, _, he1, he2, _⟩ := findE_bound hf
     rw [Nat.sub_zero] at he1
     obtain ⟨x, hx1, hx2, _, _⟩ := hrel.get he1
     simp only [Array.getElem?_toList] at hx1
     rcases run_findKeyE (w := w) hk hp hrel hf with ⟨h1, _⟩ | ⟨j, v2, W, h1, h2, h3⟩
     ·cases h1
     ·cases h1
      refine ⟨{ w with heap := w.heap.setIfInBounds B (.map (E.modify i fun e => { e with key := K, val := X }) c) }, ?_, h.upd hg hB _ (.map (E.modify i fun e => { e with key := K, val := X }) c) rfl ⟨_, rfl, by rw [Array.toList_modify]; exact hrel.mod i hk hv⟩, below_set hbase rfl⟩
      simp [Instr.mapUpdate, run_und hd, getObj_map hE, run_checkKeyE hk hp, h2, hx1, keyStays he2 hk hx2, setObj_map hE]
    ·rename_i hf
     cases hq
     rcases run_findKeyE (w := w) hk hp hrel hf with ⟨_, h2⟩ | ⟨j, v2, W, h1, _, _⟩
     ·refine ⟨{ w with heap := w.heap.setIfInBounds B (.map (E.push ⟨K, X, c⟩) (c + 1)) }, ?_, h.upd hg hB _ (.map (E.push ⟨K, X, c⟩) (c + 1)) rfl ⟨_, rfl, by rw [Array.toList_push]; exact hrel.snoc hk hv⟩, below_set hbase rfl⟩
      simp [Instr.mapUpdate, run_und hd, getObj_map hE, run_checkKeyE hk hp, h2, setObj_map hE]
     ·cases h1
    ·cases hq
   ·cases hq
  ·cases hq
 ·cases hq

theorem eMapEntry_rel (h : SRel base ρ s w) {t : TypeId} {m k v : V} {s' : St} (hq : eMapEntry P s t m k = some (v, s')) {M K : Value} (hm : VRel ρ m M) (hk : VRel ρ k K) :
  OKv P base ρ (Instr.mapEntry t M K) w v s' := by
 unfold eMapEntry at hq
 simp only [llen_eq, lall_eq, ltake_eq, ldrop_eq, lapp_eq, lget_eq] at hq
 split at hq
 ·rename_i kt et hd
  obtain ⟨hp, hq⟩ := bool_not_cond hq (by simp)
  split at hq
  ·rename_i b
   split at hq
   ·rename_i es c hg
    simp only [VRel] at hm
    obtain ⟨B, O, S, hB, rfl⟩ := hm
    obtain ⟨E, hE, hrel, hbase⟩ := h.mapObj hg hB
    split at hq
    ·rename_i i v0 hf
     obtain ⟨e, _, he1, he2, he3⟩ := findE_bound hf
     rw [Nat.sub_zero] at he1
     rw [he1] at hq
     cases hq
     obtain ⟨x, hx1, hx2, hx3, hx4⟩ := hrel.get he1
     simp only [Array.getElem?_toList] at hx1
     rcases run_findKeyE (w := w) hk hp hrel hf with ⟨h1, _⟩ | ⟨j, v2, W, h1, h2, h3⟩
     ·cases h1
     ·cases h1
      have hrel' : MRel ρ (modE es i k v0) (E.modify i fun e => { e with key := K }).toList := by
       have hx3' : VRel ρ v0 x.val := by rw [← he3]; exact hx3
       have := hrel.mod i hk hx3'
       rw [Array.toList_modify]
       have e1 : (E.toList.modify i fun e => { e with key := K, val := x.val }) = E.toList.modify i fun e => { e with key := K } := by
        apply List.ext_getElem?
        intro n
        rw [List.getElem?_modify, List.getElem?_modify]
        by_cases hn : i = n
        ·subst hn
         have : E.toList[i]? = some x := by simpa using hx1
         simp [this]
        ·simp [hn]
       rw [← e1]; exact this
      refine ⟨ρ, .tuple #[W, .int .i64 x.born], { w with heap := w.heap.setIfInBounds B (.map (E.modify i fun e => { e with key := K }) c) }, ρ.le_refl, ?_, ?_, h.upd hg hB _ (.map (E.modify i fun e => { e with key := K }) c) rfl ⟨_, rfl, hrel'⟩, below_set hbase rfl⟩
      ·simp [Instr.mapEntry, run_und hd, getObj_map hE, run_checkKeyE hk hp, h2, hx1, keyStays he2 hk hx2, setObj_map hE, goInt]
      ·simp only [VRel]
       exact ⟨_, rfl, LRel.cons h3 (LRel.cons (by rw [← hx4]; exact vint _ _) LRel.nil)⟩
    ·rename_i hf
     split at hq
     ·rename_i z hz
      cases hq
      obtain ⟨Z, hZ, hzr, _⟩ := zeroE_rel (ρ := ρ) (w := w) hz
      rcases run_findKeyE (w := w) hk hp hrel hf with ⟨_, h2⟩ | ⟨j, v2, W, h1, _, _⟩
      ·refine ⟨ρ, .tuple #[Z, .int .i64 c], { w with heap := w.heap.setIfInBounds B (.map (E.push ⟨K, Z, c⟩) (c + 1)) }, ρ.le_refl, ?_, ?_, h.upd hg hB _ (.map (E.push ⟨K, Z, c⟩) (c + 1)) rfl ⟨_, rfl, by rw [Array.toList_push]; exact hrel.snoc hk hzr⟩, below_set hbase rfl⟩
       ·simp [Instr.mapEntry, run_und hd, getObj_map hE, run_checkKeyE hk hp, h2, hZ, setObj_map hE, goInt]
       ·simp only [VRel]
        exact ⟨_, rfl, LRel.cons hzr (LRel.cons (vint _ _) LRel.nil)⟩
      ·cases h1
     ·cases hq
    ·cases hq
   ·cases hq
  ·cases hq
 ·cases hq

theorem stampE_rel {n : Nat} : ∀ {l : List (V × V × Nat)} {E : List MapEntry}, MRel ρ l E → ∀ {i j : Nat}, stampE n l i = some j → ∃ d, j = i + d ∧ E.findIdx? (fun e => (e.born : Int) == (n : Int)) = some d
 | [], _, _, i, j, h => by simp [stampE] at h
 | a :: l, E, hr, i, j, h => by
  obtain ⟨x, y, rfl, h1, h2, h3, h4⟩ := hr
  simp only [stampE] at h
  cases hb : Nat.beq a.2.2 n with
  | true =>
   simp only [hb, cond_true, Option.some.injEq] at h
   have : a.2.2 = n := by simpa using hb
   refine ⟨0, by omega, ?_⟩
   rw [List.findIdx?_cons]
   have e : ((x.born : Int) == (n : Int)) = true := by simp; omega
   simp [e]
  | false =>
   simp only [hb, cond_false] at h
   obtain ⟨d, e1, e2⟩ := stampE_rel h4 h
   refine ⟨d + 1, by omega, ?_⟩
   rw [List.findIdx?_cons]
   have hne : a.2.2 ≠ n := by intro e; subst e; simp at hb
   have e : ((x.born : Int) == (n : Int)) = false := by simp; omega
   simp [e, e2]

theorem eEntryStore_rel (h : SRel base ρ s w) {t : TypeId} {m st v : V} {s' : St} (hq : eEntryStore s m st v = some s') {M T X : Value} (hm : VRel ρ m M) (ht : VRel ρ st T) (hv : VRel ρ v X) :
  ∃ w', (Instr.entryStore t M T X).run P w = .ok () w' ∧ SRel base ρ s' w' ∧ Below base w w' := by
 unfold eEntryStore at hq
 split at hq
 ·rename_i b n hn
  split at hq
  ·rename_i es c hg
   split at hq
   ·rename_i i hi
    cases hq
    simp only [VRel] at hm
    obtain ⟨B, O, S, hB, rfl⟩ := hm
    obtain ⟨k, rfl⟩ := natOf_rel hn ht
    obtain ⟨E, hE, hrel, hbase⟩ := h.mapObj hg hB
    obtain ⟨d, e1, e2⟩ := stampE_rel hrel hi
    have e1 : i = d := by omega
    subst e1
    have e3 : E.findIdx? (fun e => (e.born : Int) == (n : Int)) = some i := by
     rw [← e2]; cases E; simp
    refine ⟨{ w with heap := w.heap.setIfInBounds B (.map (E.modify i fun e => { e with val := X }) c) }, ?_, h.upd hg hB _ (.map (E.modify i fun e => { e with val := X }) c) rfl ⟨_, rfl, by rw [Array.toList_modify]; exact hrel.setv i hv⟩, below_set hbase rfl⟩
    simp [Instr.entryStore, getObj_map hE, asInt, run_asIntOf, e3, setObj_map hE]
   ·cases hq
  ·cases hq
 ·cases hq

theorem eDelete_rel (h : SRel base ρ s w) {ts : Array TypeId} {ty : TypeId} {m k v : V} {s' : St} (hq : eDelete P s ts m k = some (v, s')) {M K : Value} (hm : VRel ρ m M) (hk : VRel ρ k K) :
  OKv P base ρ (Builtin.delete_ ts ty #[M, K]) w v s' := by
 unfold eDelete at hq
 split at hq
 ·cases hq
 rename_i t ht
 split at hq
 ·rename_i kt et hd
  obtain ⟨hp, hq⟩ := bool_not_cond hq (by simp)
  split at hq
  ·cases hq
   simp only [VRel] at hm; subst hm
   exact ⟨ρ, _, w, ρ.le_refl, by simp [Builtin.delete_, ht, run_und hd, run_checkKeyE hk hp]; rfl, by simp only [VRel], h, Below.refl _ _⟩
  ·rename_i b
   split at hq
   ·rename_i es c hg
    simp only [VRel] at hm
    obtain ⟨B, O, S, hB, rfl⟩ := hm
    obtain ⟨E, hE, hrel, hbase⟩ := h.mapObj hg hB
    split at hq
    ·rename_i i v0 hf
     cases hq
     rcases run_findKeyE (w := w) hk hp hrel hf with ⟨h1, _⟩ | ⟨j, v2, W, h1, h2, h3⟩
     ·cases h1
     ·cases h1
      obtain ⟨e, _, he1, _, _⟩ := findE_bound hf
      rw [Nat.sub_zero] at he1
      obtain ⟨x, hx1, _⟩ := hrel.get he1
      have hlt : i < E.size := by
       have := (List.getElem?_eq_some_iff.1 hx1).1
       simpa using this
      refine ⟨ρ, _, { w with heap := w.heap.setIfInBounds B (.map (E.eraseIdxIfInBounds i) c) }, ρ.le_refl, by simp [Builtin.delete_, ht, run_und hd, getObj_map hE, run_checkKeyE hk hp, h2, setObj_map hE]; rfl, by simp only [VRel], h.upd hg hB _ (.map (E.eraseIdxIfInBounds i) c) rfl ⟨_, rfl, ?_⟩, below_set hbase rfl⟩
      have : (E.eraseIdxIfInBounds i).toList = E.toList.eraseIdx i := by
       simp [Array.eraseIdxIfInBounds, hlt]
      rw [this]
      exact hrel.del i
    ·rename_i hf
     cases hq
     rcases run_findKeyE (w := w) hk hp hrel hf with ⟨_, h2⟩ | ⟨j, v2, W, h1, _, _⟩
     ·refine ⟨ρ, _, { w with heap := w.heap.setIfInBounds B (.map E c) }, ρ.le_refl, by simp [Builtin.delete_, ht, run_und hd, getObj_map hE, run_checkKeyE hk hp, h2, setObj_map hE]; rfl, by simp only [VRel], h.upd hg hB _ (.map E c) rfl ⟨_, rfl, hrel⟩, below_set hbase rfl⟩
     ·cases h1
    ·cases hq
   ·cases hq
  ·cases hq
 ·cases hq

theorem eClear_rel (h : SRel base ρ s w) {ts : Array TypeId} {ty : TypeId} {m v : V} {s' : St} (hq : eClear P s ts m = some (v, s')) {M : Value} (hm : VRel ρ m M) :
  OKv P base ρ (Builtin.clear_ ts ty #[M]) w v s' := by
 unfold eClear at hq
 simp only [llen_eq, lall_eq, ltake_eq, ldrop_eq, lapp_eq, lget_eq] at hq
 split at hq
 ·cases hq
 rename_i t ht
 split at hq
 ·rename_i hd
  cases hq
  simp only [VRel] at hm; subst hm
  exact ⟨ρ, _, w, ρ.le_refl, by simp [Builtin.clear_, ht, run_und hd]; rfl, by simp only [VRel], h, Below.refl _ _⟩
 ·rename_i b hd
  split at hq
  ·rename_i es c hg
   cases hq
   simp only [VRel] at hm
   obtain ⟨B, O, S, hB, rfl⟩ := hm
   obtain ⟨E, hE, hrel, hbase⟩ := h.mapObj hg hB
   exact ⟨ρ, _, { w with heap := w.heap.setIfInBounds B (.map #[] c) }, ρ.le_refl, by simp [Builtin.clear_, ht, run_und hd, getObj_map hE, setObj_map hE]; rfl, by simp only [VRel], h.upd hg hB _ (.map #[] c) rfl ⟨_, rfl, rfl⟩, below_set hbase rfl⟩
  ·cases hq
 ·rename_i hd
  cases hq
  simp only [VRel] at hm; subst hm
  exact ⟨ρ, _, w, ρ.le_refl, by simp [Builtin.clear_, ht, run_und hd]; rfl, by simp only [VRel], h, Below.refl _ _⟩
 ·rename_i e b o len cap x es hd
  simp only [VRel] at hm
  obtain ⟨B, O, S, cap', hB, rfl, _⟩ := hm
  cases hl0 : Nat.beq len 0 with
  | true =>
   have e0 : len = 0 := by simpa using hl0
   subst e0
   simp only [hl0, cond_true, Option.some.injEq, Prod.mk.injEq] at hq
   obtain ⟨rfl, rfl⟩ := hq
   exact ⟨ρ, _, w, ρ.le_refl, by simp [Builtin.clear_, ht, run_und hd]; rfl, by simp only [VRel], h, Below.refl _ _⟩
  | false =>
   simp only [hl0, cond_false] at hq
   split at hq
   ·rename_i z cs t' ish hz hg
    cases hb : (Nat.beq (cellsV z).length es && (Nat.ble (o + len * es) cs.length && (cellsV z).all oneV)) with
    | false => simp [hb] at hq
    | true =>
    simp only [hb, cond_true, Option.some.injEq, Prod.mk.injEq] at hq
    obtain ⟨rfl, rfl⟩ := hq
    simp only [Bool.and_eq_true, Nat.ble_eq, Nat.beq_eq] at hb
    obtain ⟨Z, hZ, hzr, _⟩ := zeroE_rel (ρ := ρ) (w := w) hz
    have hrep := zeroCells_rel (cellsV_rel hzr) len
    have hone : (repE len (cellsV z)).all oneV = true := by
     rw [List.all_eq_true] at *
     intro u hu
     obtain ⟨n, hn⟩ := List.mem_iff_getElem?.1 hu
     have hlt : n < len * (cellsV z).length := by
      have := (List.getElem?_eq_some_iff.1 hn).1
      rwa [repE_length] at this
     rw [repE_get _ _ _ hlt] at hn
     exact hb.2.2 u (List.mem_of_getElem? hn)
    obtain ⟨w', g1, g2, g3⟩ := h.write (P := P) hg hB hrep (o := o) (by rw [repE_length, hb.1]; exact hb.2.1) hone
    simp only at g1
    obtain ⟨n, rfl⟩ : ∃ n, len = n + 1 := ⟨len - 1, by
      have : len ≠ 0 := by intro e; subst e; simp at hl0
      omega⟩
    exact ⟨ρ, _, w', ρ.le_refl, by simp [Builtin.clear_, ht, run_und hd, hZ, g1]; rfl, by simp only [VRel], g2, g3⟩
   ·cases hq
 ·cases hq

end
end Go.Eng
end

section
namespace Go.Eng

inductive EDef where
 | mark (r : Nat)
 | call (f : FuncId) (args cap : List V)

structure Cfg where
 tmps : Frm
 defers : List EDef
 st : St

noncomputable section
def Frm.get (f : Frm) (k : Nat) : V := @Frm.rec (fun _ => V) (fun n t => @Bool.rec (fun _ => V) .undef (t.get k) (Nat.ble (Nat.succ k) n)) f
theorem Frm.get_eq (f : Frm) (k : Nat) : f.get k = bif Nat.blt k f.n then f.t.get k else .undef := by
 cases f with
 | mk n t =>
  show @Bool.rec (fun _ => V) .undef (t.get k) (Nat.blt k n) = _
  cases Nat.blt k n <;> rfl
def evF (f : Frm) (x : Operand) : Option V :=
 @Operand.rec (fun _ => Option V) (fun t => some (f.get t)) (fun v => ofVal v) (fun _ => none) (fun g => some (.fn g [] [])) x
def putE (f : Frm) (d : Option Tmp) (v : V) : Frm :=
 @Option.rec Tmp (fun _ => Frm) f (fun k => @Frm.rec (fun _ => Frm) (fun n t => @Bool.rec (fun _ => Frm) ⟨n, t⟩ ⟨n, B.set v t k⟩ (Nat.ble (Nat.succ k) n)) f) d
theorem putE_some (f : Frm) (k : Tmp) (v : V) : putE f (some k) v = bif Nat.blt k f.n then ⟨f.n, B.set v f.t k⟩ else f := by
 cases f with
 | mk n t =>
  show @Bool.rec (fun _ => Frm) ⟨n, t⟩ ⟨n, B.set v t k⟩ (Nat.blt k n) = _
  cases Nat.blt k n <;> rfl
def hOf : Nat → Nat
 | n => bif Nat.ble n 1 then 0 else bif Nat.ble n 2 then 1 else bif Nat.ble n 4 then 2 else bif Nat.ble n 8 then 3 else bif Nat.ble n 16 then 4 else bif Nat.ble n 32 then 5 else bif Nat.ble n 64 then 6 else bif Nat.ble n 128 then 7 else bif Nat.ble n 256 then 8 else bif Nat.ble n 512 then 9 else bif Nat.ble n 1024 then 10 else 12
def mkFrm (n : Nat) (args : List V) : Frm := ⟨n, B.ofList .undef (hOf n) args⟩
end

inductive EExit where
 | normal
 | exit (id : Nat)
 | ret
 | pan (v : V)

inductive ETgt where
 | fn (f : FuncId) (args : List V)
 | round (l : Nat) (args : List V)

inductive EEnd where
 | ret (v : V)
 | pan (v : V)

inductive EOut where
 | val (v : V)
 | skip
 | enter (t : ETgt)
 | pan (v : V)

abbrev ESelf := ETgt → St → Option (EEnd × St)


mutual
def V.same : V → V → Bool
 | .undef, w => (match w with | .undef => true | _ => false)
 | .bool a, w => (match w with | .bool b => (bif a then b else !b) | _ => false)
 | .int k a, w => (match w with | .int k' b => bif kEq k k' then eqQ a b else false | _ => false)
 | .str s, w => (match w with | .str t => bif Nat.beq s.1 t.1 then Nat.beq s.2 t.2 else false | _ => false)
 | .nilp, w => (match w with | .nilp => true | _ => false)
 | .nils, w => (match w with | .nils => true | _ => false)
 | .slz a, w => (match w with | .slz b => (bif a then b else !b) | _ => false)
 | .nilm, w => (match w with | .nilm => true | _ => false)
 | .nilf, w => (match w with | .nilf => true | _ => false)
 | .nili, w => (match w with | .nili => true | _ => false)
 | .ptr b o, w => (match w with | .ptr b' o' => bif Nat.beq b b' then Nat.beq o o' else false | _ => false)
 | .sl b o l c x e, w => (match w with
   | .sl b' o' l' c' x' e' => bif Nat.beq b b' then bif Nat.beq o o' then bif Nat.beq l l' then bif Nat.beq c c' then bif (bif x then x' else !x') then Nat.beq e e' else false else false else false else false else false
   | _ => false)
 | .map b, w => (match w with | .map b' => Nat.beq b b' | _ => false)
 | .fn f a c, w => (match w with | .fn f' a' c' => bif Nat.beq f f' then bif sameL a a' then sameL c c' else false else false | _ => false)
 | .yld l, w => (match w with | .yld l' => Nat.beq l l' | _ => false)
 | .iface t v, w => (match w with | .iface t' v' => bif Nat.beq t t' then v.same v' else false | _ => false)
 | .agg l, w => (match w with | .agg l' => sameL l l' | _ => false)
 | .tup l, w => (match w with | .tup l' => sameL l l' | _ => false)
 | .it b, w => (match w with | .it b' => Nat.beq b b' | _ => false)
 | .any, _ => false
def sameL : List V → List V → Bool
 | [], w => (match w with | [] => true | _ :: _ => false)
 | v :: l, w => (match w with | [] => false | u :: m => bif v.same u then sameL l m else false)
end

noncomputable section
variable (P : Program)

def bodyOK (f : FuncId) : Bool :=
 match P.funcs[f]? with
 | some fn => !(fn.name == "runtime.NumGoroutine") && fn.body.isSome
 | none => false

def outV : Option (V × St) → Option (EOut × St)
 | some (v, s) => some (.val v, s)
 | none => none
def outS : Option St → Option (EOut × St)
 | some s => some (.skip, s)
 | none => none

def eBuiltin (s : St) (b : Builtin) (ts : Array TypeId) (args : List V) : Option (V × St) :=
 match b, args with
 | .append, [a, x] => eAppend P s ts a x
 | .copy, [a, x] => eCopy P s ts a x
 | .delete, [m, k] => eDelete P s ts m k
 | .clear, [m] => eClear P s ts m
 | _, _ => none

def eop (s : St) (ev : Operand → Option V) (op : Op) : Option (EOut × St) :=
 match op with
 | .alloc t => outV (eAlloc P s t)
 | .box t x => match ev x with
  | some v => outV (eBox s t v)
  | none => none
 | .buildSlice t len parts => match evalParts ev parts.toList with
  | some ps => outV (eBuildSlice P s t len ps)
  | none => none
 | .store t a x => match ev a, ev x with
  | some av, some v => outS (eStore P s t av v)
  | _, _ => none
 | .convert src dst x => match ev x with
  | some v => outV (eBytes P s src dst v)
  | none => none
 | .makeMap t r => match optO ev r with
  | some r => outV (eMakeMap P s t r)
  | none => none
 | .makeSlice t l c => match ev l, ev c with
  | some lv, some cv => outV (eMakeSlice P s t lv cv)
  | _, _ => none
 | .mapUpdate t m k x => match ev m, ev k, ev x with
  | some mv, some kv, some v => outS (eMapUpdate P s t mv kv v)
  | _, _, _ => none
 | .insert t m k x => match ev m, ev k, ev x with
  | some mv, some kv, some v => outS (eMapUpdate P s t mv kv v)
  | _, _, _ => none
 | .mapEntry t m k => match ev m, ev k with
  | some mv, some kv => outV (eMapEntry P s t mv kv)
  | _, _ => none
 | .entryStore _ m st x => match ev m, ev st, ev x with
  | some mv, some sv, some v => outS (eEntryStore s mv sv v)
  | _, _, _ => none
 | .panic x => match ev x with
  | some (.iface t v) => some (.pan (.iface t v), s)
  | _ => none
 | .range t x => match ev x with
  | some v => outV (eRange P s t v)
  | none => none
 | .next it isS => match ev it, isS with
  | some v, true => outV (eNext s v)
  | _, _ => none
 | .call c => match c.callee with
  | .builtin b => match evalOs ev c.args.toList with
   | some vs => outV (eBuiltin P s b c.argTypes vs)
   | none => none
  | .value f => match ev f, evalOs ev c.args.toList with
   | some (.fn g first cap), some vs => bif bodyOK P g then some (.enter (.fn g (lapp (lapp first vs) cap)), s) else none
   | some (.yld l), some vs => match s.heap.get l with
    | some (.loop r) => bif Nat.beq (llen vs) (llen r.params) then some (.enter (.round l vs), s) else none
    | _ => none
   | _, _ => none
  | _ => none
 | _ => none

def opE (s : St) (ev : Operand → Option V) (op : Op) : Option (EOut × St) :=
 match qop P s ev op with
 | some v => some (.val v, s)
 | none => eop P s ev op

inductive OpF where
 | mk (f : St → (Operand → Option V) → Option (EOut × St))
inductive BinF where
 | mk (f : IntKind → Int → Int → Option V)

def toOut (s : St) : Option V → Option (EOut × St)
 | some v => some (.val v, s)
 | none => none

def binF (op : BinOp) : BinF :=
 match op with
 | .add => .mk fun k a b => some (.int k (wrapQ k (a + b)))
 | .sub => .mk fun k a b => some (.int k (wrapQ k (a - b)))
 | .mul => .mk fun k a b => some (.int k (wrapQ k (a * b)))
 | .and => .mk fun k a b => some (.int k (wrapQ k (.ofNat (Nat.land (ofI k a) (ofI k b)))))
 | .or => .mk fun k a b => some (.int k (wrapQ k (.ofNat (Nat.lor (ofI k a) (ofI k b)))))
 | .xor => .mk fun k a b => some (.int k (wrapQ k (.ofNat (Nat.xor (ofI k a) (ofI k b)))))
 | .eql => .mk fun _ a b => some (.bool (eqQ a b))
 | .neq => .mk fun _ a b => some (.bool (!eqQ a b))
 | .lss => .mk fun _ a b => some (.bool (ltQ a b))
 | .leq => .mk fun _ a b => some (.bool (!ltQ b a))
 | .gtr => .mk fun _ a b => some (.bool (ltQ b a))
 | .geq => .mk fun _ a b => some (.bool (!ltQ a b))
 | .quo => .mk (intBin .quo)
 | .rem => .mk (intBin .rem)
 | .andNot => .mk (intBin .andNot)
 | .shl => .mk fun _ _ _ => none
 | .shr => .mk fun _ _ _ => none
def binG (op : BinOp) (k : IntKind) (a b : Int) : Option V := match binF op with | .mk f => f k a b
theorem binG_eq (op : BinOp) (k : IntKind) (a b : Int) : binG op k a b = intBin op k a b := by cases op <;> rfl

def cBinI (op : BinOp) (t : TypeId) (s : St) (v u : V) : Option V :=
 match v with
 | .int k x => match u with
  | .int k' y => bif kEq k k' then binG op k x y else none
  | _ => qBin P s op t (.int k x) u
 | _ => qBin P s op t v u
def cBin (op : BinOp) (t : TypeId) (x y : Operand) (s : St) (ev : Operand → Option V) : Option (EOut × St) :=
 match ev x with
 | some a => match ev y with
  | some b => toOut s (cBinI P op t s a b)
  | none => none
 | none => none
def cShift (op : BinOp) (t : TypeId) (x y : Operand) (s : St) (ev : Operand → Option V) : Option (EOut × St) :=
 match ev x with
 | some a => match ev y with
  | some b => toOut s (qBin P s op t a b)
  | none => none
 | none => none
def cLoad (t : TypeId) (x : Operand) (s : St) (ev : Operand → Option V) : Option (EOut × St) :=
 match ev x with
 | some a => toOut s (qLoad P s t a)
 | none => none
def cStore (t : TypeId) (x y : Operand) (s : St) (ev : Operand → Option V) : Option (EOut × St) :=
 match ev x with
 | some a => match ev y with
  | some b => outS (eStore P s t a b)
  | none => none
 | none => none
def cIndexAddr (t : TypeId) (x y : Operand) (s : St) (ev : Operand → Option V) : Option (EOut × St) :=
 match ev x with
 | some a => match ev y with
  | some b => toOut s (qIndexAddr P t a b)
  | none => none
 | none => none
def cIndex (t : TypeId) (x y : Operand) (s : St) (ev : Operand → Option V) : Option (EOut × St) :=
 match ev x with
 | some a => match ev y with
  | some b => toOut s (qIndex P t a b)
  | none => none
 | none => none
def cFieldAddr (t : TypeId) (x : Operand) (i : Nat) (s : St) (ev : Operand → Option V) : Option (EOut × St) :=
 match ev x with
 | some a => toOut s (qFieldAddr P t a i)
 | none => none
def cUn (op : UnOp) (x : Operand) (s : St) (ev : Operand → Option V) : Option (EOut × St) :=
 match ev x with
 | some a => toOut s (qUn op a)
 | none => none
def cConv (src dst : TypeId) (x : Operand) (s : St) (ev : Operand → Option V) : Option (EOut × St) :=
 match ev x with
 | some a => match qConv P s src dst a with
  | some v => some (.val v, s)
  | none => outV (eBytes P s src dst a)
 | none => none
def cPick (c a b : Operand) (s : St) (ev : Operand → Option V) : Option (EOut × St) :=
 match ev c with
 | some (.bool true) => toOut s (ev a)
 | some (.bool false) => toOut s (ev b)
 | _ => none
def cCall (c : Call) (s : St) (ev : Operand → Option V) : Option (EOut × St) := opE P s ev (.call c)
def cAny (op : Op) (s : St) (ev : Operand → Option V) : Option (EOut × St) := opE P s ev op

def isShift : BinOp → Bool
 | .shl | .shr => true
 | _ => false
def compOp (op : Op) : OpF :=
 match op with
 | .move x => .mk fun s ev => toOut s (ev x)
 | .assign x => .mk fun s ev => toOut s (ev x)
 | .pick c a b => .mk (cPick c a b)
 | .load t a => .mk (cLoad P t a)
 | .store t a x => .mk (cStore P t a x)
 | .binOp op t x y _ => bif isShift op then .mk (cShift P op t x y) else .mk (cBin P op t x y)
 | .unOp op _ x => .mk (cUn op x)
 | .convert src dst x => .mk (cConv P src dst x)
 | .fieldAddr t x f => .mk (cFieldAddr P t x f)
 | .indexAddr t x i => .mk (cIndexAddr P t x i)
 | .index t x i => .mk (cIndex P t x i)
 | .call c => .mk (cCall P c)
 | op => .mk (cAny P op)
def runOpF (f : OpF) (s : St) (ev : Operand → Option V) : Option (EOut × St) := match f with | .mk f => f s ev

inductive StepF where
 | mk (g : Option (Option Tmp × Bool)) (d : Option Tmp) (f : St → (Operand → Option V) → Option (EOut × St))
def guardOf (ops : Array Oper) (o : Oper) : Option (Option Tmp × Bool) :=
 match o.guard with
 | none => none
 | some (j, want) => match ops[j]? with
  | some o' => some (o'.dst, want)
  | none => some (none, want)
def compStep (ops : Array Oper) (o : Oper) : StepF :=
 match compOp P o.op with
 | .mk f => .mk (guardOf ops o) o.dst f
def compOps (ops : Array Oper) (l : List Oper) : List StepF := @List.rec Oper (fun _ => List StepF) [] (fun o _ ih => compStep P ops o :: ih) l

def wantedE (g : Option (Option Tmp × Bool)) (f : Frm) : Bool :=
 match g with
 | none => true
 | some (some d, want) => match f.get d with
  | .bool b => bif want then b else !b
  | _ => false
 | some (none, _) => false

def nextE (self : ESelf) (d : Option Tmp) (rest : Cfg → Option (EExit × Cfg)) (f : Frm) (ds : List EDef) : Option (EOut × St) → Option (EExit × Cfg)
 | some (.val v, s) => rest ⟨putE f d v, ds, s⟩
 | some (.skip, s) => rest ⟨putE f d .undef, ds, s⟩
 | some (.pan v, s) => some (.pan v, ⟨f, ds, s⟩)
 | some (.enter t, s) => match self t s with
  | some (.ret v, s') => rest ⟨putE f d v, ds, s'⟩
  | some (.pan v, s') => some (.pan v, ⟨f, ds, s'⟩)
  | none => none
 | none => none
def stepE (self : ESelf) (rest : Cfg → Option (EExit × Cfg)) (x : StepF) (c : Cfg) : Option (EExit × Cfg) :=
 match x with
 | .mk g d f => match c with
  | ⟨fr, ds, s⟩ => bif wantedE g fr then nextE self d rest fr ds (f s (evF fr)) else rest ⟨putE fr d .undef, ds, s⟩
def runOps (self : ESelf) (l : List StepF) : Cfg → Option (EExit × Cfg) :=
 @List.rec StepF (fun _ => Cfg → Option (EExit × Cfg)) (fun c => some (.normal, c)) (fun x _ ih => stepE self ih x) l

def iterE (body : Cfg → Option (EExit × Cfg)) (n : Nat) : Cfg → Option (EExit × Cfg) :=
 @Nat.rec (fun _ => Cfg → Option (EExit × Cfg)) (fun _ => none) (fun _ ih c => match body c with
   | some (.normal, c') => ih c'
   | r => r) n

def jumpE : Option Code → Option EExit
 | none => some .normal
 | some .ret => some .ret
 | some (.exit id) => some (.exit id)
 | _ => none

def rangeE (self : ESelf) (round : Option Nat) (f : Operand) (ps : Array Tmp) (assign body : Code) (c : Cfg) : Option (EExit × Cfg) :=
 match (match round with
   | none => some ((c.st.new (.dfr false)), c.st.next, [EDef.mark c.st.next])
   | some l0 => match c.st.heap.get l0 with
     | some (.loop r) => some (c.st, r.defers, [])
     | _ => none : Option (St × Nat × List EDef)) with
 | none => none
 | some (s1, d, marks) =>
  match evF c.tmps f with
  | some (.fn g first cap) =>
   bif bodyOK P g then
    match self (.fn g (lapp (lapp first [.yld s1.next]) cap)) (s1.new (.loop ⟨.ready, none, c.tmps, ps.toList, assign, body, d⟩)) with
    | some (.ret _, s2) => match s2.heap.get s1.next with
     | some (.loop r) => match r.state with
      | .busy => none
      | _ => match jumpE r.pending with
       | some e => some (e, ⟨c.tmps, marks ++ c.defers, s2.upd s1.next (.loop { r with state := .exhausted })⟩)
       | none => none
     | _ => none
    | some (.pan v, s2) => some (.pan v, ⟨c.tmps, marks ++ c.defers, s2⟩)
    | none => none
   else none
  | _ => none

def seqE (a b : Cfg → Option (EExit × Cfg)) (c : Cfg) : Option (EExit × Cfg) :=
 match a c with
 | some (.normal, c') => b c'
 | r => r
def condE (x : Operand) (a b : Cfg → Option (EExit × Cfg)) (c : Cfg) : Option (EExit × Cfg) :=
 match evF c.tmps x with
 | some (.bool true) => a c
 | some (.bool false) => b c
 | _ => none
def blockE (id : Nat) (b : Cfg → Option (EExit × Cfg)) (c : Cfg) : Option (EExit × Cfg) :=
 match b c with
 | some (.exit id', c') => bif Nat.beq id' id then some (.normal, c') else some (.exit id', c')
 | r => r
def tbQ (m i : Nat) : Bool := Nat.beq (Nat.mod (Nat.div m (Nat.pow 2 i)) 2) 1
def bindsQ (e : Edge) : Bool :=
 match e.ground with
 | .textOnly _ => false
 | .gcOnly _ => false
 | _ => true
def ogetN : Option Nat → Nat
 | some n => n
 | none => 0
def maskE (A : List Nat) : List Edge → Nat
 | [] => 0
 | e :: es => bif bindsQ e then Nat.lor (Nat.lor (Nat.pow 2 e.on) (ogetN (lget A e.on))) (maskE A es) else maskE A es
def ancsE : List Oper → List Nat → List Nat
 | [], A => A
 | o :: l, A => ancsE l (lapp A [maskE A o.after.toList])
def hasN (d : Nat) : List Nat → Bool
 | [] => false
 | x :: l => bif Nat.beq x d then true else hasN d l
def apartE (ops : Array Oper) (A : List Nat) (i : Nat) (d : Nat) : List Oper → Nat → Bool
 | [], _ => true
 | o :: l, j => (bif Nat.beq i j then true else
     (match o.dst with
       | some d' => !Nat.beq d' d
       | none => true) && (bif hasN d (o.looksAt ops) then tbQ (ogetN (lget A i)) j || tbQ (ogetN (lget A j)) i else true)) && apartE ops A i d l (Nat.succ j)
def backE (i : Nat) : List Edge → Bool
 | [] => true
 | e :: l => (bif bindsQ e then Nat.ble (Nat.succ e.on) i else true) && backE i l
def stE (ops : Array Oper) (A : List Nat) : List Oper → Nat → Bool
 | [], _ => true
 | o :: l, i => backE i o.after.toList && (match o.dst with
     | some d => apartE ops A i d ops.toList 0
     | none => true) && stE ops A l (Nat.succ i)
def stOK (ops : Array Oper) : Bool := stE ops (ancsE ops.toList []) ops.toList 0

def evL (L : List Tmp) (f : Frm) (x : Operand) : Option V :=
 match x with
 | .tmp t => bif hasN t L then some (f.get t) else none
 | .const v => ofVal v
 | .global _ => none
 | .func g => some (.fn g [] [])

structure DRec where
 i : Nat
 o : Oper
 f : Frm
 s : St
 v : V
 q : Bool
 eff : Option St
 mb : Option Nat

def mkQ (ev : Operand → Option V) (op : Op) : Option Mk :=
 match op with
 | .alloc t => mAlloc P t
 | .box t x => match ev x with
  | some v => mBox t v
  | none => none
 | .buildSlice t len parts => match evalParts ev parts.toList with
  | some ps => mBuildSlice P t len ps
  | none => none
 | .makeSlice t l c => match ev l, ev c with
  | some lv, some cv => mMakeSlice P t lv cv
  | _, _ => none
 | _ => none
def Mk.isAt (m : Mk) (o : Option EObj) : Bool :=
 match m with
 | .mk cs t _ => match o with
  | some (.cells cs' t' false) => bif Nat.beq t t' then sameL cs cs' else false
  | _ => false
def qopM (mb : Option Nat) (s : St) (ev : Operand → Option V) (op : Op) : Option V :=
 match mb with
 | none => qop P s ev op
 | some b => match mkQ P ev op with
  | some m => bif m.isAt (s.heap.get b) then some (m.val b) else none
  | none => none
def findM (i : Nat) : List (Nat × Nat) → Option Nat
 | [] => none
 | e :: l => bif Nat.beq e.1 i then some e.2 else findM i l
def doneAll (D : Nat) : List Edge → Bool
 | [] => true
 | e :: l => (bif bindsQ e then tbQ D e.on else true) && doneAll D l
def preRun (ops : Array Oper) : List Oper → Nat → Frm → St → Nat → List (Nat × Nat) → St × List (Nat × Nat)
 | [], _, _, s, _, M => (s, M)
 | o :: l, i, f, s, D, M =>
  bif doneAll D o.after.toList then
   bif wantedE (guardOf ops o) f then
    match qop P s (evL (o.looksAt ops) f) o.op with
    | some v => preRun ops l (Nat.succ i) (putE f o.dst v) s (Nat.lor D (Nat.pow 2 i)) M
    | none => match mkQ P (evL (o.looksAt ops) f) o.op with
     | some m => preRun ops l (Nat.succ i) (putE f o.dst (m.val s.next)) (s.new m.obj) (Nat.lor D (Nat.pow 2 i)) ((i, s.next) :: M)
     | none => preRun ops l (Nat.succ i) f s D M
   else preRun ops l (Nat.succ i) (putE f o.dst .undef) s (Nat.lor D (Nat.pow 2 i)) M
  else preRun ops l (Nat.succ i) f s D M
def loudOp (op : Op) : Bool :=
 match op with
 | .alloc _ | .box .. | .buildSlice .. | .insert .. | .store .. | .makeMap .. | .makeSlice .. | .mapUpdate .. | .mapEntry .. | .entryStore .. | .panic .. => true
 | .call c => match c.callee with
  | .builtin b => match b with
   | .append | .copy | .delete | .clear => true
   | _ => false
  | _ => true
 | _ => false
def effIdx : List Oper → Nat → List (Nat × St)
 | [], _ => []
 | o :: l, i => bif loudOp o.op then (i, ⟨.leaf, 0⟩) :: effIdx l (Nat.succ i) else effIdx l (Nat.succ i)

def opOut (self : ESelf) : Option (EOut × St) → Option (V × St)
 | some (.val v, s) => some (v, s)
 | some (.skip, s) => some (.undef, s)
 | some (.enter t, s) => match self t s with
  | some (.ret v, s') => some (v, s')
  | _ => none
 | _ => none
def drawStep (self : ESelf) (ops : Array Oper) (mb : Option Nat) (i : Nat) (o : Oper) (f : Frm) (s : St) : Option DRec :=
 bif wantedE (guardOf ops o) f then
  match qopM P mb s (evL (o.looksAt ops) f) o.op with
  | some v => some ⟨i, o, f, s, v, true, none, mb⟩
  | none => match mb with
   | some _ => none
   | none => match opOut self (eop P s (evL (o.looksAt ops) f) o.op) with
    | some (v, s') => some ⟨i, o, f, s, v, false, some s', none⟩
    | none => none
 else some ⟨i, o, f, s, .undef, false, none, mb⟩
def orS (s : St) : Option St → St
 | some s' => s'
 | none => s
def drawRun (self : ESelf) (ops : Array Oper) (M : List (Nat × Nat)) : List Oper → Nat → Frm → St → Option (List DRec)
 | [], _, _, _ => some []
 | o :: l, i, f, s => match drawStep P self ops (findM i M) i o f s with
  | some r => match drawRun self ops M l (Nat.succ i) (putE f o.dst r.v) (orS s r.eff) with
   | some R => some (r :: R)
   | none => none
  | none => none
def effs : List DRec → List (Nat × St)
 | [] => []
 | r :: l => match r.eff with
  | some s => (r.i, s) :: effs l
  | none => effs l
def lastS (s : St) : List (Nat × St) → St
 | [] => s
 | e :: l => lastS e.2 l
def anyB (m : Nat) : List (Nat × St) → Bool
 | [] => false
 | e :: l => bif tbQ m e.1 then true else anyB m l
def chkE (ops : Array Oper) (A : List Nat) (r : DRec) (s : St) : List (Nat × St) → Bool
 | [] => (match qopM P r.mb s (evL (r.o.looksAt ops) r.f) r.o.op with
     | some v => v.same r.v
     | none => false)
 | e :: l => (bif anyB (ogetN (lget A r.i)) (e :: l) then true else match qopM P r.mb s (evL (r.o.looksAt ops) r.f) r.o.op with
     | some v => v.same r.v
     | none => false) && (bif tbQ (ogetN (lget A e.1)) r.i then true else chkE ops A r e.2 l)
def chainE (A : List Nat) : List (Nat × St) → Bool
 | [] => true
 | e :: l => beforeE A e.1 l && chainE A l
where beforeE (A : List Nat) (i : Nat) : List (Nat × St) → Bool
 | [] => true
 | e :: l => tbQ (ogetN (lget A e.1)) i && beforeE A i l
def chkAll (ops : Array Oper) (A : List Nat) (s : St) (E : List (Nat × St)) : List DRec → Bool
 | [] => true
 | r :: l => (bif r.q then chkE P ops A r s E else true) && chkAll ops A s E l
def finF (f : Frm) : List DRec → Frm
 | [] => f
 | r :: l => finF (putE f r.o.dst r.v) l
def opPan (self : ESelf) : Option (EOut × St) → Option (V × St)
 | some (.pan v, s) => some (v, s)
 | some (.enter t, s) => match self t s with
  | some (.pan v, s') => some (v, s')
  | _ => none
 | _ => none
def panTail (ops : Array Oper) (M : List (Nat × Nat)) (A : List Nat) (ip : Nat) : List Oper → Nat → Frm → St → Option (List DRec)
 | [], _, _, _ => some []
 | o :: l, i, f, s => bif tbQ (ogetN (lget A i)) ip then (match panTail ops M A ip l (Nat.succ i) (putE f o.dst .undef) s with
     | some R => some (⟨i, o, f, s, .undef, false, none, none⟩ :: R)
     | none => none) else match drawStep P (fun _ _ => none) ops (findM i M) i o f s with
   | some r => match r.eff with
    | none => match panTail ops M A ip l (Nat.succ i) (putE f o.dst r.v) s with
     | some R => some (r :: R)
     | none => none
    | some _ => none
   | none => none
def panRun (self : ESelf) (ops : Array Oper) (M : List (Nat × Nat)) (A : List Nat) : List Oper → Nat → Frm → St → Option (List DRec × Nat × V × St)
 | [], _, _, _ => none
 | o :: l, i, f, s => match drawStep P self ops (findM i M) i o f s with
  | some r => match panRun self ops M A l (Nat.succ i) (putE f o.dst r.v) (orS s r.eff) with
   | some (R, x) => some (r :: R, x)
   | none => none
  | none => bif wantedE (guardOf ops o) f then (match findM i M with
    | some _ => none
    | none => match opPan self (eop P s (evL (o.looksAt ops) f) o.op) with
      | some (v, s') => match panTail P ops M A i l (Nat.succ i) (putE f o.dst .undef) s with
        | some R => some (⟨i, o, f, s, .undef, false, none, none⟩ :: R, i, v, s')
        | none => none
      | none => none) else none
def allAfter (m : Nat) : List (Nat × St) → Bool
 | [] => true
 | e :: l => tbQ m e.1 && allAfter m l
def anyF (f : Frm) : List Oper → Frm
 | [] => f
 | o :: l => anyF (putE f o.dst .any) l
def drawP (self : ESelf) (ops : Array Oper) (M : List (Nat × Nat)) (c : Cfg) (s0 : St) : Option (EExit × Cfg) :=
 match panRun P self ops M (ancsE ops.toList []) ops.toList 0 c.tmps s0 with
 | some (R, ip, v, s') => bif chainE (ancsE ops.toList []) (effs R) && (allAfter (ogetN (lget (ancsE ops.toList []) ip)) (effs R) && chkAll P ops (ancsE ops.toList []) s0 (effs R) R) then
   some (.pan v, ⟨anyF c.tmps ops.toList, c.defers, s'⟩) else none
 | none => none
def preM (ops : Array Oper) (f : Frm) (s : St) : St × List (Nat × Nat) :=
 bif chainE (ancsE ops.toList []) (effIdx ops.toList 0) then (s, []) else preRun P ops ops.toList 0 f s 0 []
def drawE (self : ESelf) (ops : Array Oper) (c : Cfg) : Option (EExit × Cfg) :=
 bif P.follows .mixedOrders && stOK ops then
  match preM P ops c.tmps c.st with
  | (s0, M) =>
   match drawRun P self ops M ops.toList 0 c.tmps s0 with
   | some R => bif chainE (ancsE ops.toList []) (effs R) && chkAll P ops (ancsE ops.toList []) s0 (effs R) R then
     some (.normal, ⟨finF c.tmps R, c.defers, lastS s0 (effs R)⟩) else none
   | none => drawP P self ops M c s0
 else none

def hasDefer : List Oper → Bool
 | [] => false
 | o :: l => match o.op with
  | .defer _ => true
  | _ => hasDefer l
def dferE : List Oper → Cfg → Option (EExit × Cfg)
 | [], c => some (.normal, c)
 | o :: l, c => match o.guard with
  | some _ => none
  | none => match o.op with
   | .defer cl => match cl.callee with
    | .value f => match evF c.tmps f, evalOs (evF c.tmps) cl.args.toList with
     | some (.fn g first cap), some vs => bif bodyOK P g then dferE l ⟨putE c.tmps o.dst .undef, .call g (lapp first vs) cap :: c.defers, c.st⟩ else none
     | _, _ => none
    | _ => none
   | op => match qop P c.st (evF c.tmps) op with
    | some v => dferE l ⟨putE c.tmps o.dst v, c.defers, c.st⟩
    | none => none
def regionE (self : ESelf) (round : Option Nat) (ops : Array Oper) (draw : Bool) (c : Cfg) : Option (EExit × Cfg) :=
 match draw with
 | false => bif hasDefer ops.toList then (match round with
     | none => dferE P ops.toList c
     | some _ => none) else runOps self (compOps P ops ops.toList) c
 | true => drawE P self ops c
inductive CodeF where
 | mk (f : Cfg → Option (EExit × Cfg))
def runF (f : CodeF) (c : Cfg) : Option (EExit × Cfg) := match f with | .mk f => f c
def compC (self : ESelf) (fuel : Nat) (round : Option Nat) (x : Code) : CodeF :=
 @Code.rec (fun _ => CodeF)
  (.mk fun c => some (.normal, c))
  (fun _ ops draw => .mk (regionE P self round ops draw))
  (fun _ _ ia ib => .mk (seqE (runF ia) (runF ib)))
  (fun x _ _ ia ib => .mk (condE x (runF ia) (runF ib)))
  (fun id _ ib => .mk (blockE id (runF ib)))
  (fun _ ib => .mk (iterE (runF ib) fuel))
  (fun f ps assign body _ _ => .mk (rangeE P self round f ps assign body))
  (fun id => .mk fun c => some (.exit id, c))
  (fun _ ib => .mk (runF ib))
  (fun _ => .mk fun c => some (.normal, c))
  (fun _ => .mk fun _ => none)
  (.mk fun c => some (.ret, c))
  (fun _ => .mk fun _ => none) x
def runCode (self : ESelf) (fuel : Nat) (round : Option Nat) (x : Code) (c : Cfg) : Option (EExit × Cfg) := runF (compC P self fuel round x) c

def setParams : Frm → List Tmp → List V → Frm
 | t, p :: ps, v :: vs => setParams (putE t (some p) v) ps vs
 | t, _, _ => t

def runRound (self : ESelf) (fuel : Nat) (l : Nat) (args : List V) (s : St) : Option (EEnd × St) :=
 match s.heap.get l with
 | some (.loop r) =>
  match runCode P self fuel (some l) r.assign ⟨setParams r.tmps r.params args, [], s⟩ with
  | some (.normal, c1) => match c1.st.heap.get l with
   | some (.loop r1) => match r1.state with
    | .ready =>
     match runCode P self fuel (some l) r.body ⟨c1.tmps, c1.defers, c1.st.upd l (.loop { r1 with state := .busy })⟩ with
     | some (e, c2) => match c2.st.heap.get l with
      | some (.loop r2) => match e with
       | .normal => some (.ret (.bool true), c2.st.upd l (.loop { r2 with state := .ready, pending := none }))
       | .ret => some (.ret (.bool false), c2.st.upd l (.loop { r2 with state := .done, pending := some .ret }))
       | .exit id => some (.ret (.bool false), c2.st.upd l (.loop { r2 with state := .done, pending := some (.exit id) }))
       | .pan _ => none
      | _ => none
     | none => none
    | _ => none
   | _ => none
  | _ => none
 | _ => none

def resultsE (s : St) (f : Frm) : List ResultVar → Option (List V)
 | [] => some []
 | .tmp t :: l => match resultsE s f l with
  | some r => match f.get t with
   | .any => none
   | v => some (v :: r)
  | none => none
 | .cell a t :: l => match qLoad P s t (f.get a) with
  | some v => match resultsE s f l with
   | some r => some (v :: r)
   | none => none
  | none => none
def resultE (s : St) (f : Frm) (rs : List ResultVar) : Option V :=
 match resultsE P s f rs with
 | some [v] => some v
 | some l => some (match l with | [] => .undef | _ => .tup l)
 | none => none

abbrev DM := Option (V × Bool)
inductive DCodeF where
 | mk (f : Cfg → DM → Option (EExit × Cfg × DM))
def runD (f : DCodeF) (c : Cfg) (m : DM) : Option (EExit × Cfg × DM) := match f with | .mk f => f c m
def withD (m : DM) : Option (EExit × Cfg) → Option (EExit × Cfg × DM)
 | some (.pan _, _) => none
 | some (e, c) => some (e, c, m)
 | none => none
def isRec : Op → Bool
 | .call cl => match cl.callee with
  | .builtin .recover => cl.args.isEmpty
  | _ => false
 | _ => false
def hasRec : List Oper → Bool
 | [] => false
 | o :: l => bif isRec o.op then true else hasRec l
def recE : List Oper → Cfg → DM → Option (EExit × Cfg × DM)
 | [], c, m => some (.normal, c, m)
 | o :: l, c, m => match o.guard with
  | some _ => none
  | none => bif isRec o.op then (match m with
      | some (v, false) => recE l ⟨putE c.tmps o.dst v, c.defers, c.st⟩ (some (v, true))
      | m => recE l ⟨putE c.tmps o.dst .nili, c.defers, c.st⟩ m) else
   match qop P c.st (evF c.tmps) o.op with
    | some v => recE l ⟨putE c.tmps o.dst v, c.defers, c.st⟩ m
    | none => none
def seqD (a b : Cfg → DM → Option (EExit × Cfg × DM)) (c : Cfg) (m : DM) : Option (EExit × Cfg × DM) :=
 match a c m with
 | some (.normal, c', m') => b c' m'
 | r => r
def condD (x : Operand) (a b : Cfg → DM → Option (EExit × Cfg × DM)) (c : Cfg) (m : DM) : Option (EExit × Cfg × DM) :=
 match evF c.tmps x with
 | some (.bool true) => a c m
 | some (.bool false) => b c m
 | _ => none
def compD (self : ESelf) (fuel : Nat) (x : Code) : DCodeF :=
 @Code.rec (fun _ => DCodeF)
  (.mk fun c m => withD m (runCode P self fuel none .skip c))
  (fun id ops draw => .mk fun c m => match draw with
    | false => bif hasRec ops.toList then recE P ops.toList c m else withD m (runCode P self fuel none (.region id ops false) c)
    | true => withD m (runCode P self fuel none (.region id ops true) c))
  (fun _ _ ia ib => .mk (seqD (runD ia) (runD ib)))
  (fun x _ _ ia ib => .mk (condD x (runD ia) (runD ib)))
  (fun id b _ => .mk fun c m => withD m (runCode P self fuel none (.block id b) c))
  (fun b _ => .mk fun c m => withD m (runCode P self fuel none (.loop b) c))
  (fun f ps assign body _ _ => .mk fun c m => withD m (runCode P self fuel none (.rangeFunc f ps assign body) c))
  (fun id => .mk fun c m => withD m (runCode P self fuel none (.exit id) c))
  (fun b _ => .mk fun c m => withD m (runCode P self fuel none (.scope b) c))
  (fun l => .mk fun c m => withD m (runCode P self fuel none (.label l) c))
  (fun l => .mk fun c m => withD m (runCode P self fuel none (.goto l) c))
  (.mk fun c m => withD m (runCode P self fuel none .ret c))
  (fun why => .mk fun c m => withD m (runCode P self fuel none (.refuse why) c)) x
def runDef (self : ESelf) (fuel : Nat) (g : FuncId) (args : List V) (m : DM) (s : St) : Option (DM × St) :=
 match P.funcs[g]? with
 | some fn => match fn.body with
  | some c => bif !(Nat.ble (llen args) fn.ntmps && Nat.ble fn.ntmps 4096) then none else match runD (compD P self fuel c) ⟨mkFrm fn.ntmps args, [], s⟩ m with
   | some (e, c', m') => match e with
    | .normal | .ret => match c'.defers with
     | [] => match resultE P c'.st c'.tmps fn.results.toList with
      | some _ => some (m', c'.st)
      | none => none
     | _ :: _ => none
    | _ => none
   | none => none
  | none => none
 | none => none
def settleE : DM → DM
 | some (_, true) => none
 | m => m

def leaveE (self : ESelf) (fuel : Nat) (fn : Func) (tmps : Frm) (pan : DM) : List EDef → St → Option (EEnd × St)
 | [], s => match pan with
  | some (v, false) => some (.pan v, s)
  | some (_, true) => none
  | none => match resultE P s tmps fn.results.toList with
   | some v => some (.ret v, s)
   | none => none
 | .mark r :: ds, s => match s.heap.get r with
  | some (.dfr false) => leaveE self fuel fn tmps pan ds (s.upd r (.dfr true))
  | _ => none
 | .call g args cap :: ds, s => bif bodyOK P g then (match runDef P self fuel g (lapp args cap) pan s with
   | some (m, s') => leaveE self fuel fn tmps (settleE m) ds s'
   | none => none) else none

def runFn (self : ESelf) (fuel : Nat) (f : FuncId) (args : List V) (s : St) : Option (EEnd × St) :=
 match P.funcs[f]? with
 | some fn => match fn.body with
  | some c => bif !(Nat.ble (llen args) fn.ntmps && Nat.ble fn.ntmps 4096) then none else match runCode P self fuel none c ⟨mkFrm fn.ntmps args, [], s⟩ with
   | some (.normal, c') => leaveE P self fuel fn c'.tmps none c'.defers c'.st
   | some (.ret, c') => leaveE P self fuel fn c'.tmps none c'.defers c'.st
   | some (.pan v, c') => leaveE P self fuel fn c'.tmps (some (v, false)) c'.defers c'.st
   | _ => none
  | none => none
 | none => none

def runT (self : ESelf) (fuel : Nat) : ESelf
 | .fn f args, s => runFn P self fuel f args s
 | .round l args, s => runRound P self fuel l args s

def callE (known : ESelf) (fuel : Nat) (d : Nat) : ESelf :=
 @Nat.rec (fun _ => ESelf) (fun _ _ => none) (fun _ ih t s => match known t s with
   | some r => some r
   | none => runT P ih fuel t s) d
end
end Go.Eng
end

section
namespace Go.Eng
open Go.RowKit (Below)
set_option linter.unusedSimpArgs false
set_option linter.unusedVariables false

def DRel (ρ : Env) : List EDef → List Deferred → Prop
 | [], D => D = []
 | .mark r :: l, D => ∃ x Y, ρ r = some x ∧ D = { target := .collected x.B, args := #[] } :: Y ∧ DRel ρ l Y
 | .call f a c :: l, D => ∃ (A C : Array Value) (Y : List Deferred), D = { target := .fn (.func f) C, args := A } :: Y ∧ LRel ρ a A.toList ∧ LRel ρ c C.toList ∧ DRel ρ l Y
theorem DRel.up {ρ ρ' : Env} (h : ρ.sub ρ') : ∀ {l : List EDef} {D : List Deferred}, DRel ρ l D → DRel ρ' l D
 | [], _, r => r
 | .mark _ :: _, _, r => by obtain ⟨x, Y, h1, h2, h3⟩ := r; exact ⟨x, Y, h _ _ h1, h2, h3.up h⟩
 | .call .. :: _, _, r => by obtain ⟨A, C, Y, h1, h2, h3, h4⟩ := r; exact ⟨A, C, Y, h1, LRel.up h _ _ h2, LRel.up h _ _ h3, h4.up h⟩
theorem DRel.mono {ρ ρ' : Env} (h : ρ.le ρ') {l : List EDef} {D : List Deferred} (r : DRel ρ l D) : DRel ρ' l D := DRel.up h.sub r

def XRel (ρ : Env) : EExit → Exit → Prop
 | .normal, E => E = .normal
 | .exit id, E => E = .exit id
 | .ret, E => E = .ret
 | .pan v, E => ∃ X, E = .panic [{ v := X, recovered := false }] ∧ VRel ρ v X
def NRel (ρ : Env) : EEnd → Ending → Prop
 | .ret v, E => ∃ X, E = .returned X ∧ VRel ρ v X
 | .pan v, E => ∃ X, E = .panicked [{ v := X, recovered := false }] ∧ VRel ρ v X

def RF (round : Option Nat) : Fence := { Fence.wide with round := round }
theorem RF_fn (r : Option Nat) (f : FuncId) : (RF r).fn f := trivial
theorem RF_depth (r : Option Nat) : (RF r).depth = none := rfl

def Post (base : Nat) (ρ : Env) (w : World) (e : EEnd) (s' : St) : Ending → World → Prop :=
 fun E w' => ∃ ρ', ρ.le ρ' ∧ NRel ρ' e E ∧ SRel base ρ' s' w' ∧ Below base w w'
def FX (ρ : Env) (e : EExit) (f : Frm) (A : Array Value) : Prop :=
 match e with
 | .pan _ => FRelA ρ f A
 | _ => FRel ρ f A
theorem FRel.toX {ρ : Env} {f : Frm} {A : Array Value} (r : FRel ρ f A) : ∀ e, FX ρ e f A
 | .pan _ => r.toA
 | .normal => r
 | .exit _ => r
 | .ret => r
def CPost (base : Nat) (ρ : Env) (w : World) (e : EExit) (c' : Cfg) : Exit → Act → World → Prop :=
 fun E A' w' => ∃ ρ', ρ.le ρ' ∧ XRel ρ' e E ∧ FX ρ' e c'.tmps A'.tmps ∧ DRel ρ' c'.defers A'.defers ∧ SRel base ρ' c'.st w' ∧ Below base w w'

def SelfOK (P : Program) (self : ESelf) : Prop := ∀ t s e s', self t s = some (e, s') → ∀ base ρ w, SRel base ρ s w → ∀ n : Nat,
 match t with
 | .fn f args => ∀ A : Array Value, LRel ρ args A.toList → CallsIn Fence.wide n P f A w (Post base ρ w e s')
 | .round l args => ∀ (x : Blk) (L : Loop) (A : Array Value), ρ l = some x → w.heap[x.B]? = some (.loop L) → LRel ρ args A.toList → A.size = L.params.size →
   RoundIn Fence.wide n P x.B L.fn ((L.params.zip A).foldl (fun tmps (t, a) => tmps.setIfInBounds t a) L.tmps) L.assign L.body w (Post base ρ w e s')

def NextRel (base : Nat) (ρ : Env) (s : St) (w : World) (s' : St) (r : Result Next) : EOut → Prop
 | .val v => ∃ ρ' X w', ρ.le ρ' ∧ r = .ok (.value X) w' ∧ VRel ρ' v X ∧ SRel base ρ' s' w' ∧ Below base w w'
 | .skip => ∃ w', r = .ok .skip w' ∧ SRel base ρ s' w' ∧ Below base w w'
 | .pan v => s' = s ∧ ∃ X, r = .halt (.panic X) w ∧ VRel ρ v X
 | .enter (.fn f args) => s' = s ∧ ∃ A, r = .ok (.enter f A) w ∧ LRel ρ args A.toList
 | .enter (.round l args) => s' = s ∧ ∃ (x : Blk) (L : Loop) (A : Array Value), ρ l = some x ∧ w.heap[x.B]? = some (.loop L) ∧ LRel ρ args A.toList ∧ A.size = L.params.size ∧
   r = .ok (.round x.B L.fn ((L.params.zip A).foldl (fun tmps (t, a) => tmps.setIfInBounds t a) L.tmps) L.assign L.body) w

section
variable {P : Program} {base : Nat} {ρ : Env} {s : St} {w : World}

theorem FRel.get {f : Frm} {A : Array Value} (h : FRel ρ f A) (k : Nat) : VRel ρ (f.get k) (A.getD k undef) := by
 obtain ⟨h1, d, h2, h3, h4⟩ := h
 rw [Frm.get_eq, blt_iff, Array.getD_eq_getD_getElem?]
 by_cases hk : k < f.n
 ·rw [decide_eq_true hk]
  have hk' : k < A.size := by omega
  have := h4 k A[k] (Array.getElem?_eq_getElem hk')
  rw [Array.getElem?_eq_getElem hk']
  exact this
 ·rw [decide_eq_false hk]
  have hk' : A.size ≤ k := by omega
  rw [Array.getElem?_eq_none hk']
  show VRel ρ .undef (.tuple #[])
  simp only [VRel]

theorem evF_rel {f : Frm} {A : Act} (h : FRel ρ f A.tmps) : EvRel ρ (evF f) A := by
 intro x v hv
 cases x with
 | tmp t =>
  have hv : some (f.get t) = some v := hv
  cases hv
  exact h.get t
 | const c => exact ofVal_rel hv
 | global g => cases hv
 | func g =>
  have hv : some (V.fn g [] []) = some v := hv
  cases hv
  simp only [VRel, Act.eval]
  exact ⟨#[], #[], rfl, rfl, rfl⟩

theorem FRel.set {f : Frm} {A : Array Value} (h : FRel ρ f A) {v : V} {X : Value} (hv : VRel ρ v X) (k : Nat) : FRel ρ (putE f (some k) v) (A.setIfInBounds k X) := by
 obtain ⟨h1, d, h2, h3, h4⟩ := h
 rw [putE_some, blt_iff]
 by_cases hk : k < f.n
 ·rw [decide_eq_true hk]
  refine ⟨by simpa using h1, d, B.set_full _ _ _ _ h2, h3, fun i Y hi => ?_⟩
  show VRel ρ ((B.set v f.t k).get i) Y
  have hi' : i < A.size := by
   have := (Array.getElem?_eq_some_iff.1 hi).1
   simpa using this
  rw [B.get_set v f.t d k i h2 (by omega) (by omega)]
  rw [Array.getElem?_setIfInBounds] at hi
  by_cases e : k = i
  ·subst e
   simp only [if_true, hi'] at hi
   cases hi
   simpa using hv
  ·rw [if_neg e] at hi
   rw [if_neg (fun e' => e e'.symm)]
   exact h4 i Y hi
 ·rw [decide_eq_false hk]
  have : A.setIfInBounds k X = A := by
   apply Array.ext_getElem?
   intro i
   rw [Array.getElem?_setIfInBounds]
   split
   ·rename_i e; subst e
    rw [if_neg (by omega), Array.getElem?_eq_none (by omega)]
   ·rfl
  rw [this]
  exact ⟨h1, d, h2, h3, h4⟩
theorem putE_rel {f : Frm} {A : Act} (h : FRel ρ f A.tmps) {v : V} {X : Value} (hv : VRel ρ v X) (d : Option Tmp) : FRel ρ (putE f d v) (A.put d X).tmps := by
 cases d with
 | none => exact h
 | some k => exact h.set hv k
theorem put_defers (A : Act) (d : Option Tmp) (X : Value) : (A.put d X).defers = A.defers := by cases d <;> rfl

theorem wanted_rel {f : Frm} {A : Act} (h : FRel ρ f A.tmps) (ops : Array Oper) (o : Oper) : wantedE (guardOf ops o) f = Region.wanted o (yielded ops A.tmps) := by
 unfold guardOf Region.wanted
 cases hg : o.guard with
 | none => rfl
 | some p =>
  obtain ⟨j, want⟩ := p
  simp only
  cases ho : ops[j]? with
  | none => simp [wantedE, yielded, ho]
  | some o' =>
   simp only
   cases hd : o'.dst with
   | none => simp [wantedE, yielded, ho, hd]
   | some d =>
    obtain ⟨h1, dd, h2, h3, h4⟩ := h
    simp only [wantedE, yielded, ho, hd, Option.bind_some, Frm.get_eq, blt_iff]
    by_cases hk : d < f.n
    ·rw [decide_eq_true hk]
     have hk' : d < A.tmps.size := h1 ▸ hk
     have hv := h4 d A.tmps[d] (Array.getElem?_eq_getElem hk')
     rw [Array.getElem?_eq_getElem hk']
     simp only [cond_true]
     generalize A.tmps[d] = X at hv
     generalize f.t.get d = v at hv
     cases v <;> simp only [VRel] at hv
     case bool b => subst hv; cases want <;> cases b <;> rfl
     all_goals first
      | (subst hv; rfl)
      | (obtain ⟨_, _, _, _, rfl⟩ := hv; rfl)
      | (obtain ⟨_, _, _, _, _, rfl, _⟩ := hv; rfl)
      | (obtain ⟨_, _, rfl⟩ := hv; rfl)
      | (obtain ⟨_, _, rfl, _⟩ := hv; rfl)
      | (obtain ⟨_, rfl, _⟩ := hv; rfl)
    ·rw [decide_eq_false hk]
     have hk' : A.tmps.size ≤ d := Nat.le_of_not_lt (h1 ▸ hk)
     rw [Array.getElem?_eq_none hk']
     rfl

theorem outV_some {x : Option (V × St)} {o : EOut} {s' : St} (h : outV x = some (o, s')) : ∃ v, x = some (v, s') ∧ o = .val v := by
 cases x with
 | none => cases h
 | some p => obtain ⟨v, t⟩ := p; cases h; exact ⟨v, rfl, rfl⟩
theorem outS_some {x : Option St} {o : EOut} {s' : St} (h : outS x = some (o, s')) : x = some s' ∧ o = .skip := by
 cases x with
 | none => cases h
 | some p => cases h; exact ⟨rfl, rfl⟩

theorem NextRel.ofV {m : Sem Value} {v : V} {s' : St} (h : OKv P base ρ m w v s') : NextRel base ρ s w s' ((do pure (.value (← m)) : Sem Next).run P w) (.val v) := by
 obtain ⟨ρ', X, w', h1, h2, h3⟩ := h
 exact ⟨ρ', X, w', h1, by simp [h2], h3⟩
theorem NextRel.ofU {m : Sem Unit} {s' : St} (h : ∃ w', m.run P w = .ok () w' ∧ SRel base ρ s' w' ∧ Below base w w') : NextRel base ρ s w s' ((do m; pure .skip : Sem Next).run P w) .skip := by
 obtain ⟨w', h1, h2, h3⟩ := h
 exact ⟨w', by simp [h1], h2, h3⟩

theorem bodyOK_spec {f : FuncId} (h : bodyOK P f = true) : ∃ fn, P.funcs[f]? = some fn ∧ (fn.name == "runtime.NumGoroutine") = false ∧ fn.body.isNone = false := by
 unfold bodyOK at h
 split at h
 ·rename_i fn hf
  simp only [Bool.and_eq_true, Bool.not_eq_true'] at h
  refine ⟨fn, hf, h.1, ?_⟩
  cases hb : fn.body with
  | none => rw [hb] at h; cases h.2
  | some c => rfl
 ·cases h

theorem run_callFunc {f : FuncId} (h : bodyOK P f = true) (A : Array Value) : (callFunc f A).run P w = .ok (.enter f A) w := by
 obtain ⟨fn, h1, h2, h3⟩ := bodyOK_spec h
 simp only [callFunc, Sem.run_bind, run_program, Result.andThen_ok, h1, h2, h3, Bool.false_eq_true, if_false, Sem.run_pure]

theorem arr2 {A : Array Value} {X Y : Value} (h : A.toList = [X, Y]) : A = #[X, Y] := by cases A; simp at h; simp [h]

theorem eBuiltin_rel (h : SRel base ρ s w) {b : Builtin} {ts : Array TypeId} {vs : List V} {v : V} {s' : St} (hq : eBuiltin P s b ts vs = some (v, s')) {A : Array Value} (ha : LRel ρ vs A.toList) (ty : TypeId) (cs : Array Bool) :
  NextRel base ρ s w s' ((Go.builtin b ts ty cs A).run P w) (.val v) := by
 unfold eBuiltin at hq
 split at hq
 ·obtain ⟨X, _, e, h1, Y, _, rfl, h2, h3⟩ := ha
  have h3 : _ = [] := h3
  subst h3
  obtain rfl := arr2 e
  exact NextRel.ofV (eAppend_rel h hq h1 h2)
 ·obtain ⟨X, _, e, h1, Y, _, rfl, h2, h3⟩ := ha
  have h3 : _ = [] := h3
  subst h3
  obtain rfl := arr2 e
  exact NextRel.ofV (eCopy_rel h hq h1 h2)
 ·obtain ⟨X, _, e, h1, Y, _, rfl, h2, h3⟩ := ha
  have h3 : _ = [] := h3
  subst h3
  obtain rfl := arr2 e
  exact NextRel.ofV (eDelete_rel h hq h1 h2)
 ·obtain ⟨X, _, e, h1, h3⟩ := ha
  have h3 : _ = [] := h3
  subst h3
  obtain rfl := arr1 e
  exact NextRel.ofV (eClear_rel h hq h1)
 ·cases hq

theorem MkOK.next {m : Sem Value} {k : Mk} (h : MkOK P ρ m w k) : MkOK P ρ m w k ∧ ∀ X w', m.run P w = .ok X w' → (do pure (.value (← m)) : Sem Next).run P w = .ok (.value X) w' :=
 ⟨h, fun X w' e => by simp [e]⟩
theorem mkQ_rel {ev : Operand → Option V} {A : Act} (hA : EvRel ρ ev A) {o : Oper} {k : Mk} (hq : mkQ P ev o.op = some k) :
  ∃ m : Sem Value, (∀ X w', m.run P w = .ok X w' → (execOp A.eval o).run P w = .ok (.value X) w') ∧ MkOK P ρ m w k := by
 unfold mkQ at hq
 unfold execOp
 split at hq <;> rename_i heq <;> simp only [heq]
 ·have := (mAlloc_rel (ρ := ρ) (w := w) hq).next; exact ⟨_, this.2, this.1⟩
 ·split at hq
  ·rename_i hx
   have := (mBox_rel (P := P) (w := w) hq (hA _ _ hx)).next; exact ⟨_, this.2, this.1⟩
  ·cases hq
 ·split at hq
  ·rename_i hx
   have := (mBuildSlice_rel (w := w) hq (by rw [map_toList]; exact evalParts_rel hA hx)).next; exact ⟨_, this.2, this.1⟩
  ·cases hq
 ·split at hq
  ·rename_i h1 h2
   have := (mMakeSlice_rel (w := w) hq (hA _ _ h1) (hA _ _ h2)).next; exact ⟨_, this.2, this.1⟩
  ·cases hq
 ·cases hq

theorem eop_rel (h : SRel base ρ s w) {ev : Operand → Option V} {A : Act} (hA : EvRel ρ ev A) {o : Oper} {out : EOut} {s' : St} (hq : eop P s ev o.op = some (out, s')) :
  NextRel base ρ s w s' ((execOp A.eval o).run P w) out := by
 unfold eop at hq
 unfold execOp
 split at hq <;> rename_i heq <;> simp only [heq]
 ·obtain ⟨v, h1, rfl⟩ := outV_some hq
  exact NextRel.ofV (eAlloc_rel h h1)
 ·split at hq
  ·rename_i hx
   obtain ⟨v, h1, rfl⟩ := outV_some hq
   exact NextRel.ofV (eBox_rel h h1 (hA _ _ hx))
  ·cases hq
 ·split at hq
  ·rename_i hx
   obtain ⟨v, h1, rfl⟩ := outV_some hq
   exact NextRel.ofV (eBuildSlice_rel h h1 (by rw [map_toList]; exact evalParts_rel hA hx))
  ·cases hq
 ·split at hq
  ·rename_i h1 h2
   obtain ⟨h3, rfl⟩ := outS_some hq
   exact NextRel.ofU (eStore_rel h h3 (hA _ _ h1) (hA _ _ h2))
  ·cases hq
 ·split at hq
  ·rename_i hx
   obtain ⟨v, h1, rfl⟩ := outV_some hq
   exact NextRel.ofV (eBytes_rel h h1 (hA _ _ hx))
  ·cases hq
 ·split at hq
  ·rename_i hx
   obtain ⟨v, h1, rfl⟩ := outV_some hq
   exact NextRel.ofV (eMakeMap_rel h h1 (optO_rel hA hx))
  ·cases hq
 ·split at hq
  ·rename_i h1 h2
   obtain ⟨v, h3, rfl⟩ := outV_some hq
   exact NextRel.ofV (eMakeSlice_rel h h3 (hA _ _ h1) (hA _ _ h2))
  ·cases hq
 ·split at hq
  ·rename_i h1 h2 h3
   obtain ⟨h4, rfl⟩ := outS_some hq
   exact NextRel.ofU (eMapUpdate_rel h h4 (hA _ _ h1) (hA _ _ h2) (hA _ _ h3))
  ·cases hq
 ·split at hq
  ·rename_i h1 h2 h3
   obtain ⟨h4, rfl⟩ := outS_some hq
   exact NextRel.ofU (eMapUpdate_rel h h4 (hA _ _ h1) (hA _ _ h2) (hA _ _ h3))
  ·cases hq
 ·split at hq
  ·rename_i h1 h2
   obtain ⟨v, h3, rfl⟩ := outV_some hq
   exact NextRel.ofV (eMapEntry_rel h h3 (hA _ _ h1) (hA _ _ h2))
  ·cases hq
 ·split at hq
  ·rename_i h1 h2 h3
   obtain ⟨h4, rfl⟩ := outS_some hq
   exact NextRel.ofU (eEntryStore_rel h h4 (hA _ _ h1) (hA _ _ h2) (hA _ _ h3))
  ·cases hq
 ·split at hq
  ·rename_i hx
   cases hq
   have := hA _ _ hx
   have hv := this
   simp only [VRel] at this
   obtain ⟨X, e, _⟩ := this
   refine ⟨rfl, .iface _ X, ?_, by rw [← e]; exact hv⟩
   simp [Instr.panic, e]
  ·cases hq
 ·split at hq
  ·rename_i hx
   obtain ⟨v, h1, rfl⟩ := outV_some hq
   exact NextRel.ofV (eRange_rel h h1 (hA _ _ hx))
  ·cases hq
 ·split at hq
  ·rename_i hx
   obtain ⟨v, h1, rfl⟩ := outV_some hq
   exact NextRel.ofV (eNext_rel h h1 (hA _ _ hx) _)
  ·cases hq
 ·rename_i c
  split at hq
  ·rename_i hc
   split at hq
   ·rename_i vs hvs
    obtain ⟨v, h3, rfl⟩ := outV_some hq
    have := evalOs_rel hA hvs
    rw [← map_toList] at this
    simp only [resolve, hc, Sem.run_bind, Sem.run_pure, Result.andThen_ok, invoke]
    exact eBuiltin_rel h h3 this o.type _
   ·cases hq
  ·rename_i f hc
   split at hq
   ·rename_i g first cap vs hf hvs
    cases hb : bodyOK P g with
    | false => simp [hb] at hq
    | true =>
    simp only [hb, cond_true, Option.some.injEq, Prod.mk.injEq] at hq
    obtain ⟨rfl, rfl⟩ := hq
    have e1 := hA _ _ hf
    simp only [VRel] at e1
    obtain ⟨A1, C1, e1, e2, e3⟩ := e1
    have e4 := evalOs_rel hA hvs
    rw [← map_toList] at e4
    refine ⟨rfl, A1 ++ (c.args.map A.eval) ++ C1, ?_, ?_⟩
    ·simp only [resolve, hc, Sem.run_bind, e1, Deferred.ofValue, Sem.run_pure, Result.andThen_ok, invoke]
     exact run_callFunc hb _
    ·rw [lapp_eq, lapp_eq]
     simp only [Array.toList_append]
     exact (e2.append e4).append e3
   ·rename_i l vs hf hvs
    split at hq
    ·rename_i r hg
     simp only [llen_eq] at hq
     cases hb : Nat.beq vs.length r.params.length with
     | false => simp [hb] at hq
     | true =>
     simp only [hb, cond_true, Option.some.injEq, Prod.mk.injEq] at hq
     obtain ⟨rfl, rfl⟩ := hq
     have e1 := hA _ _ hf
     simp only [VRel] at e1
     obtain ⟨B, O, S, hB, e1⟩ := e1
     have e4 := evalOs_rel hA hvs
     rw [← map_toList] at e4
     obtain ⟨x, hx, _, L, D, l1, l2, l3, l4, l5, l6⟩ := h.obj' hg hB
     rw [hB] at hx; cases hx
     have hsz : (c.args.map A.eval).size = L.params.size := by
      have a1 := e4.length
      have a2 : vs.length = r.params.length := by simpa using hb
      have a3 : L.params.toList.length = r.params.length := by rw [l5]
      simp only [Array.length_toList] at a1 a3
      omega
     refine ⟨rfl, ⟨B, O, S⟩, L, c.args.map A.eval, hB, l1, e4, hsz, ?_⟩
     simp only [resolve, hc, Sem.run_bind, e1, Deferred.ofValue, Sem.run_pure, Result.andThen_ok, invoke]
     have hy := run_yield (P := P) (w := w) l1 hsz
     simpa using hy
    ·cases hq
   ·cases hq
  ·cases hq
 ·cases hq

theorem opE_rel (h : SRel base ρ s w) {ev : Operand → Option V} {A : Act} (hA : EvRel ρ ev A) {o : Oper} {out : EOut} {s' : St} (hq : opE P s ev o.op = some (out, s')) :
  NextRel base ρ s w s' ((execOp A.eval o).run P w) out := by
 unfold opE at hq
 split at hq
 ·rename_i v hv
  cases hq
  obtain ⟨X, h1, h2⟩ := qop_rel h hA hv
  exact ⟨ρ, X, w, ρ.le_refl, h1, h2, h, Below.refl _ _⟩
 ·exact eop_rel h hA hq

theorem opE_defer {ev : Operand → Option V} {c : Call} : opE P s ev (.defer c) = none := rfl

theorem compOp_eq (op : Op) (s : St) (ev : Operand → Option V) : runOpF (compOp P op) s ev = opE P s ev op := by
 cases op
 case move x => simp only [compOp, runOpF, opE, qop, eop]; cases ev x <;> rfl
 case assign x => simp only [compOp, runOpF, opE, qop, eop]; cases ev x <;> rfl
 case pick c a b =>
  simp only [compOp, runOpF, opE, qop, eop, cPick]
  cases ev c with
  | none => rfl
  | some x =>
   cases x <;> first | rfl | skip
   rename_i bb
   cases bb
   ·simp only; cases ev b <;> rfl
   ·simp only; cases ev a <;> rfl
 case load t x =>
  simp only [compOp, runOpF, opE, qop, eop, cLoad]
  cases ev x with
  | none => rfl
  | some a => simp only; cases qLoad P s t a <;> rfl
 case store t x y =>
  simp only [compOp, runOpF, opE, qop, eop, cStore]
  cases ev x with
  | none => rfl
  | some a => cases ev y <;> rfl
 case binOp op t x y yt =>
  have key : (match ev x, ev y with | some a, some b => toOut s (qBin P s op t a b) | _, _ => none) = opE P s ev (.binOp op t x y yt) := by
   simp only [opE, qop, eop]
   cases ev x with
   | none => rfl
   | some a => cases ev y with
    | none => rfl
    | some b => simp only; cases qBin P s op t a b <;> rfl
  rw [← key]
  simp only [compOp]
  cases hs : isShift op with
  | true =>
   simp only [cond_true, runOpF, cShift]
   cases ev x with
   | none => rfl
   | some a => cases ev y <;> rfl
  | false =>
   simp only [cond_false, runOpF, cBin]
   cases ev x with
   | none => rfl
   | some a => cases ev y with
    | none => rfl
    | some b =>
     simp only
     congr 1
     unfold cBinI
     split
     ·split
      ·rename_i k x1 k' y1
       rw [binG_eq]
       cases op <;> first | rfl | cases hs
      ·rfl
     ·rfl
 case unOp op t x =>
  simp only [compOp, runOpF, opE, qop, eop, cUn]
  cases ev x with
  | none => rfl
  | some a => simp only; cases qUn op a <;> rfl
 case convert src dst x =>
  simp only [compOp, runOpF, opE, qop, eop, cConv]
  cases ev x with
  | none => rfl
  | some a => simp only
 case fieldAddr t x f =>
  simp only [compOp, runOpF, opE, qop, eop, cFieldAddr]
  cases ev x with
  | none => rfl
  | some a => simp only; cases qFieldAddr P t a f <;> rfl
 case indexAddr t x y =>
  simp only [compOp, runOpF, opE, qop, eop, cIndexAddr]
  cases ev x with
  | none => rfl
  | some a => cases ev y with
   | none => rfl
   | some b => simp only; cases qIndexAddr P t a b <;> rfl
 case index t x y =>
  simp only [compOp, runOpF, opE, qop, eop, cIndex]
  cases ev x with
  | none => rfl
  | some a => cases ev y with
   | none => rfl
   | some b => simp only; cases qIndex P t a b <;> rfl
 all_goals rfl
end
end Go.Eng
end
