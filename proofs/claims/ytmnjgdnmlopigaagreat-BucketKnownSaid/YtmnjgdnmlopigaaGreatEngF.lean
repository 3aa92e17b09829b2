/-
  The evaluator's quiet operations, all of them: the model's operation answers the like, and leaves the world as it was.
-/
import Derived.Test.YtmnjgdnmlopigaaGreatEngE
namespace Go.Eng
set_option linter.unusedSimpArgs false
set_option linter.unusedVariables false

section
variable {P : Program} {base : Nat} {ρ : Env} {s : St} {w : World}

def OptRel (ρ : Env) : Option V → Option Value → Prop
  | none, X => X = none
  | some v, X => ∃ W, X = some W ∧ VRel ρ v W

theorem optO_rel {ev : Operand → Option V} {A : Act} (hA : EvRel ρ ev A) {x : Option Operand} {v : Option V} (h : optO ev x = some v) : OptRel ρ v (x.map A.eval) := by
  unfold optO at h
  split at h
  · cases h; rfl
  · split at h
    · rename_i hv; cases h; exact ⟨_, rfl, evalO_rel hA hv⟩
    · cases h

theorem boundE_rel {v : Option V} {d n : Nat} (h : boundE v d = some n) {X : Option Value} (hx : OptRel ρ v X) : (X = none ∧ v = none ∧ n = d) ∨ ∃ k, X = some (.int k (n : Int)) := by
  unfold boundE at h
  split at h
  · cases h; exact .inl ⟨hx, rfl, rfl⟩
  · obtain ⟨W, rfl, hw⟩ := hx
    obtain ⟨k, rfl⟩ := natOf_rel h hw
    exact .inr ⟨k, rfl⟩

theorem run_sliceBound {k : IntKind} {n y : Nat} {c : BoundsCode} (h : n ≤ y) : (Instr.sliceBound (.int k (n : Int)) y c).run P w = .ok n w := by
  simp [Instr.sliceBound, run_asIntOf, h]

theorem run_bounds {b : Bool} {len cap l h : Nat} {LO HI : Option Value} (hlo : (LO = none ∧ l = 0) ∨ ∃ k, LO = some (.int k (l : Int))) (hhi : (HI = none ∧ h = len) ∨ ∃ k, HI = some (.int k (h : Int)))
    (h1 : l ≤ h) (h2 : h ≤ cap) : (Instr.sliceBounds b len cap LO HI none).run P w = .ok (l, h, cap) w := by
  rcases hlo with ⟨rfl, rfl⟩ | ⟨k, rfl⟩ <;> rcases hhi with ⟨rfl, rfl⟩ | ⟨k', rfl⟩ <;>
    simp [Instr.sliceBounds, run_sliceBound h2, run_sliceBound h1]

theorem run_bounds3 {b : Bool} {len cap l h m : Nat} {LO : Option Value} (hlo : (LO = none ∧ l = 0) ∨ ∃ k, LO = some (.int k (l : Int))) {k k' : IntKind}
    (h1 : l ≤ h) (h2 : h ≤ m) (h3 : m ≤ cap) : (Instr.sliceBounds b len cap LO (some (.int k (h : Int))) (some (.int k' (m : Int)))).run P w = .ok (l, h, m) w := by
  rcases hlo with ⟨rfl, rfl⟩ | ⟨k, rfl⟩ <;> simp [Instr.sliceBounds, run_sliceBound h3, run_sliceBound h2, run_sliceBound h1]

theorem qSliceZ_rel {t e : TypeId} {sz : Nat} (hd : P.underlying t = some (.slice e)) (hsz : szE P e = some sz) {a v : V} {b : Option Addr} {c : Nat} (ha : VRel ρ a (.slice b 0 c)) (hbc : b = none → c = 0) {l : Nat} {hi mx : Option V} (hq : qSliceZ a l hi mx = some v)
    (hk : a = .nils ∨ ∃ x, a = .slz x) {LO HI MX : Option Value} (hL : (LO = none ∧ l = 0) ∨ ∃ k, LO = some (.int k (l : Int))) (hhi : OptRel ρ hi HI) (hmx : OptRel ρ mx MX) :
    ∃ X, (Instr.sliceAt t (.slice b 0 c) LO HI MX).run P w = .ok X w ∧ VRel ρ v X := by
  unfold qSliceZ at hq
  cases hl : Nat.beq l 0 with
  | false => rw [hl] at hq; cases hq
  | true =>
    rw [hl, cond_true] at hq
    have hl0 : l = 0 := Nat.eq_of_beq_eq_true hl
    subst hl0
    split at hq
    · rename_i h0
      have hH : (HI = none ∧ 0 = 0) ∨ ∃ k, HI = some (.int k ((0 : Nat) : Int)) := (boundE_rel h0 hhi).imp (fun x => ⟨x.1, x.2.2⟩) id
      split at hq
      · have hmx : MX = none := hmx
        subst hmx
        cases hq
        have hrun := run_bounds (P := P) (w := w) (b := b.isSome) (cap := c) hL hH (Nat.le_refl 0) (Nat.zero_le _)
        cases b with
        | none =>
          have := hbc rfl; subst this
          exact ⟨.slice none 0 0, by simp [Instr.sliceAt, run_und hd, Instr.slice, run_size hsz, run_bounds (P := P) (w := w) (b := true) (cap := 0) hL hH (Nat.le_refl 0) (Nat.le_refl 0)], ha⟩
        | some ad =>
          refine ⟨.slice (if c = 0 then some ad else some (ad.add (0 * sz))) 0 c, by simp [Instr.sliceAt, run_und hd, Instr.slice, run_size hsz, run_bounds (P := P) (w := w) (b := true) (cap := c) hL hH (Nat.le_refl 0) (Nat.zero_le _)], ?_⟩
          rcases hk with rfl | ⟨x, rfl⟩
          · simp only [VRel] at ha; cases ha
          · simp only [VRel] at ha ⊢
            obtain ⟨a', c', e, hc⟩ := ha
            cases e
            split
            · exact ⟨_, _, rfl, hc⟩
            · exact ⟨_, _, rfl, hc⟩
      · rename_i mv
        split at hq
        · rename_i hv hm0
          obtain ⟨W, rfl, hw⟩ := hmx
          obtain ⟨km, rfl⟩ := natOf_rel hm0 hw
          obtain ⟨kh, rfl⟩ : ∃ k, HI = some (.int k ((0 : Nat) : Int)) := by
            rcases hH with ⟨e, _⟩ | h
            · obtain ⟨_, e', _⟩ := hhi; rw [e] at e'; cases e'
            · exact h
          cases hq
          cases b with
          | none =>
            have := hbc rfl; subst this
            have hb3 : (Instr.sliceBounds true 0 0 LO (some (.int kh 0)) (some (.int km 0))).run P w = .ok (0, 0, 0) w := run_bounds3 (P := P) (w := w) (b := true) (len := 0) (cap := 0) hL (k := kh) (k' := km) (Nat.le_refl 0) (Nat.le_refl 0) (Nat.le_refl 0)
            refine ⟨.slice none 0 0, by simp [Instr.sliceAt, run_und hd, Instr.slice, run_size hsz, hb3], ?_⟩
            rcases hk with rfl | ⟨x, rfl⟩
            · exact ha
            · simp only [VRel] at ha; obtain ⟨_, _, e, _⟩ := ha; cases e
          | some ad =>
            have hb3 : (Instr.sliceBounds true 0 c LO (some (.int kh 0)) (some (.int km 0))).run P w = .ok (0, 0, 0) w := run_bounds3 (P := P) (w := w) (b := true) (len := 0) (cap := c) hL (k := kh) (k' := km) (Nat.le_refl 0) (Nat.le_refl 0) (Nat.zero_le _)
            refine ⟨.slice (some ad) 0 0, by simp [Instr.sliceAt, run_und hd, Instr.slice, run_size hsz, hb3], ?_⟩
            rcases hk with rfl | ⟨x, rfl⟩
            · simp only [VRel] at ha; cases ha
            · simp only [VRel]; exact ⟨_, _, rfl, fun _ => rfl⟩
        · cases hq
    · cases hq

theorem qSlice_rel (h : SRel base ρ s w) {t : TypeId} {a v : V} {lo hi mx : Option V} (hq : qSlice P s t a lo hi mx = some v) {A : Value} {LO HI MX : Option Value}
    (ha : VRel ρ a A) (hlo : OptRel ρ lo LO) (hhi : OptRel ρ hi HI) (hmx : OptRel ρ mx MX) : ∃ X, (Instr.sliceAt t A LO HI MX).run P w = .ok X w ∧ VRel ρ v X := by
  unfold qSlice at hq
  split at hq
  · cases hq
  rename_i l hl
  have hL : (LO = none ∧ l = 0) ∨ ∃ k, LO = some (.int k (l : Int)) := (boundE_rel hl hlo).imp (fun x => ⟨x.1, x.2.2⟩) id
  split at hq
  · rename_i hd
    split at hq
    · rename_i x
      have hmx : MX = none := hmx
      subst hmx
      split at hq
      · rename_i hh hhe
        have hH : (HI = none ∧ hh = x.n) ∨ ∃ k, HI = some (.int k (hh : Int)) := (boundE_rel hhe hhi).imp (fun x => ⟨x.1, x.2.2⟩) id
        cases hb : (Nat.ble l hh && Nat.ble hh x.n) with
        | false => simp [hb] at hq
        | true =>
          simp only [hb, cond_true, Option.some.injEq] at hq
          subst hq
          simp only [Bool.and_eq_true, Nat.ble_eq] at hb
          simp only [VRel] at ha; subst ha
          refine ⟨_, ?_, vstr _⟩
          rw [BS.den_sub x l hh hb.1 hb.2]
          simp [Instr.sliceAt, run_und hd, Instr.slice, BS.den_size, run_bounds (b := false) hL hH hb.1 hb.2]
      · cases hq
    · cases hq
  · rename_i e hd
    split at hq
    · cases hq
    rename_i sz hsz
    split at hq
    · -- nil
      simp only [VRel] at ha; subst ha
      obtain ⟨X, h1, h2⟩ := qSliceZ_rel (P := P) (w := w) (b := none) (c := 0) hd hsz (by simp only [VRel]) (by simp) hq (.inl rfl) hL hhi hmx
      exact ⟨X, h1, h2⟩
    · rename_i x
      have ha0 := ha
      simp only [VRel] at ha
      obtain ⟨a, c, rfl, hc⟩ := ha
      obtain ⟨X, h1, h2⟩ := qSliceZ_rel (P := P) (w := w) (b := some a) (c := c) hd hsz ha0 (by simp) hq (.inr ⟨x, rfl⟩) hL hhi hmx
      exact ⟨X, h1, h2⟩
    · rename_i b o len cap x es
      cases hse : Nat.beq sz es with
      | false => simp [hse] at hq
      | true =>
      have hse' : sz = es := by simpa using hse
      subst hse'
      simp only [hse, Bool.not_true, cond_false] at hq
      split at hq
      · cases hq
      rename_i hh hhe
      have hH : (HI = none ∧ hh = len) ∨ ∃ k, HI = some (.int k (hh : Int)) := (boundE_rel hhe hhi).imp (fun x => ⟨x.1, x.2.2⟩) id
      cases hb : (Nat.ble l hh && Nat.ble hh cap) with
      | false => simp [hb] at hq
      | true =>
      simp only [hb, Bool.not_true, cond_false] at hq
      simp only [Bool.and_eq_true, Nat.ble_eq] at hb
      simp only [VRel] at ha
      obtain ⟨B, O, S, cap', hB, rfl, c1, c2, c3, c4⟩ := ha
      split at hq
      · have hmx : MX = none := hmx
        subst hmx
        have hrun := run_bounds (P := P) (w := w) (b := true) (cap := cap') hL hH hb.1 (by omega)
        have hrun' : (Instr.sliceAt t (.slice (some ⟨B, O + o, none⟩) len cap') LO HI none).run P w =
            .ok (.slice (if cap' = l then some ⟨B, O + o, none⟩ else some ((⟨B, O + o, none⟩ : Addr).add (l * sz))) (hh - l) (cap' - l)) w := by
          simp [Instr.sliceAt, run_und hd, Instr.slice, run_size hsz, hrun]
        rw [hrun']
        refine ⟨_, rfl, ?_⟩
        cases hl0 : Nat.beq l 0 with
        | true =>
          have e : l = 0 := by simpa using hl0
          subst e
          simp only [hl0, cond_true, Option.some.injEq] at hq
          subst hq
          simp only [VRel]
          refine ⟨B, O, S, cap', hB, ?_, hb.2, c2, c3, c4⟩
          simp [addr_add]
        | false =>
          simp only [hl0, cond_false] at hq
          cases hlc : Nat.blt l cap with
          | true =>
            have hlt : l < cap := by simpa [Nat.blt_eq] using hlc
            simp only [hlc, cond_true, Option.some.injEq] at hq
            subst hq
            simp only [VRel]
            refine ⟨B, O, S, cap' - l, hB, ?_, by omega, by omega, fun hx => by rw [c3 hx], ?_⟩
            · rw [if_neg (by omega), addr_add, Nat.add_assoc]
            · have : l * sz + (cap' - l) * sz = cap' * sz := by rw [← Nat.add_mul]; congr 1; omega
              omega
          | false =>
            have hge : cap ≤ l := by
              refine Nat.not_lt.1 fun hh => ?_
              have : Nat.blt l cap = true := by simpa [Nat.blt_eq] using hh
              rw [hlc] at this; cases this
            simp only [hlc, cond_false] at hq
            cases hx : x with
            | false =>
              simp only [hx, cond_false, Option.some.injEq] at hq
              subst hq
              have e2 : hh - l = 0 := by omega
              simp only [VRel]
              rw [e2]
              split
              · exact ⟨_, _, rfl, fun h => (by cases h)⟩
              · exact ⟨_, _, rfl, fun h => (by cases h)⟩
            | true =>
              simp only [hx, cond_true, Option.some.injEq] at hq
              subst hq
              have hc := c3 hx
              have e1 : cap' = l := by omega
              have e2 : hh = l := by omega
              subst e2; subst e1
              simp only [VRel]
              refine ⟨B, O, S, 0, hB, by simp, by omega, by omega, fun _ => rfl, by omega⟩
      · rename_i mv hv
        split at hq
        · rename_i m hm
          obtain ⟨W, rfl, hW⟩ := hmx
          obtain ⟨k', rfl⟩ := natOf_rel hm hW
          cases hb2 : (Nat.ble hh m && Nat.ble m cap) with
          | false => simp [hb2] at hq
          | true =>
          simp only [hb2, cond_true] at hq
          simp only [Bool.and_eq_true, Nat.ble_eq] at hb2
          rcases hH with ⟨rfl, _⟩ | ⟨k, rfl⟩
          · obtain ⟨_, hh', _⟩ := hhi; cases hh'
          have hrun := run_bounds3 (P := P) (w := w) (b := true) (cap := cap') (len := len) (k := k) (k' := k') hL hb.1 hb2.1 (by omega)
          have hrun' : (Instr.sliceAt t (.slice (some ⟨B, O + o, none⟩) len cap') LO (some (.int k (hh : Int))) (some (.int k' (m : Int)))).run P w =
              .ok (.slice (if m = l then some ⟨B, O + o, none⟩ else some ((⟨B, O + o, none⟩ : Addr).add (l * sz))) (hh - l) (m - l)) w := by
            simp [Instr.sliceAt, run_und hd, Instr.slice, run_size hsz, hrun]
          rw [hrun']
          refine ⟨_, rfl, ?_⟩
          cases hml : Nat.beq m l with
          | true =>
            have e : m = l := by simpa using hml
            simp only [hml, cond_true, Option.some.injEq] at hq
            subst hq
            subst e
            simp only [VRel]
            refine ⟨B, O, S, 0, hB, by simp, by omega, by omega, fun _ => rfl, by omega⟩
          | false =>
            have e : m ≠ l := by intro e; subst e; simp at hml
            simp only [hml, cond_false, Option.some.injEq] at hq
            subst hq
            simp only [VRel]
            refine ⟨B, O, S, m - l, hB, by rw [if_neg e, addr_add, Nat.add_assoc], by omega, by omega, fun _ => rfl, ?_⟩
            have : l * sz + (m - l) * sz = m * sz := by rw [← Nat.add_mul]; congr 1; omega
            have : m * sz ≤ cap' * sz := Nat.mul_le_mul_right _ (by omega)
            omega
        · cases hq
      · cases hq
    · cases hq
  · rename_i n e hd
    split at hq
    · rename_i sz hsz
      have hmx : MX = none := hmx
      subst hmx
      split at hq
      · rename_i b o
        split at hq
        · rename_i cs hh hcs hhe
          have hH : (HI = none ∧ hh = n) ∨ ∃ k, HI = some (.int k (hh : Int)) := (boundE_rel hhe hhi).imp (fun x => ⟨x.1, x.2.2⟩) id
          simp only [llen_eq] at hq
          cases hb : (Nat.ble l hh && (Nat.ble hh n && (Nat.ble n 1099511627776 && Nat.ble (o + n * sz) cs.length))) with
          | false => simp [hb] at hq
          | true =>
          simp only [hb, cond_true] at hq
          simp only [Bool.and_eq_true, Nat.ble_eq] at hb
          simp only [VRel] at ha
          obtain ⟨B, O, S, hB, rfl⟩ := ha
          obtain ⟨x, hx, hc⟩ := h.cellsAt hcs hB
          rw [hB] at hx; cases hx
          obtain ⟨C, t', fr, _, _, hlen, _⟩ := hc.ex
          simp only at hlen
          have hrun := run_bounds (P := P) (w := w) (b := false) (cap := n) hL hH hb.1 hb.2.1
          have hrun' : (Instr.sliceAt t (.pointer (some ⟨B, O + o, none⟩)) LO HI none).run P w =
              .ok (.slice (some (if n = l then ⟨B, O + o, none⟩ else ((⟨B, O + o, none⟩ : Addr).add (l * sz)))) (hh - l) (n - l)) w := by
            simp [Instr.sliceAt, run_und hd, Instr.sureAddr, run_size hsz, hrun]
          rw [hrun']
          refine ⟨_, rfl, ?_⟩
          cases hnl : Nat.beq n l with
          | true =>
            have e : n = l := by simpa using hnl
            simp only [hnl, cond_true, Option.some.injEq] at hq
            subst hq
            simp only [VRel]
            refine ⟨B, O, S, 0, hB, by simp [e], by omega, by omega, fun _ => rfl, by omega⟩
          | false =>
            have e : n ≠ l := by intro e; subst e; simp at hnl
            simp only [hnl, cond_false, Option.some.injEq] at hq
            subst hq
            simp only [VRel]
            refine ⟨B, O, S, n - l, hB, by rw [if_neg e, addr_add, Nat.add_assoc], by omega, by omega, fun _ => rfl, ?_⟩
            have : l * sz + (n - l) * sz = n * sz := by rw [← Nat.add_mul]; congr 1; omega
            omega
        · cases hq
      · cases hq
    · cases hq
  · cases hq

theorem keyEq_rel {a b : V} {r : Bool} (h : keyEq a b = some r) {A B : Value} (ha : VRel ρ a A) (hb : VRel ρ b B) {kt : TypeId} {d : TypeDesc} (hd : P.underlying kt = some d) (hk : plainKeyE P kt a = true) :
    Instr.sameNow d A B = some r := by
  unfold keyEq at h
  unfold plainKeyE at hk
  rw [hd] at hk
  split at h
  · rename_i k x k' y
    rw [kEq_iff, eqQ_eq] at h
    cases hkk : decide (k = k') with
    | false => simp [hkk] at h
    | true =>
      have e : k = k' := by simpa using hkk
      subst e
      simp only [decide_true, cond_true, Option.some.injEq] at h
      subst h
      simp only [VRel] at ha hb; subst ha; subst hb
      cases d <;> simp at hk
      simp [Instr.sameNow]
  · rename_i x y
    cases h
    simp only [VRel] at ha hb; subst ha; subst hb
    cases d <;> simp at hk
    simp only [Instr.sameNow, BS.eq_iff, beq_toListBytes, ByteArray.toList_eq]
  · cases h
    simp only [VRel] at ha hb; subst ha; subst hb
    cases d <;> simp at hk
    simp [Instr.sameNow]
  · cases h

theorem findE_rel {k : V} {K : Value} (hk : VRel ρ k K) {kt : TypeId} {d : TypeDesc} (hd : P.underlying kt = some d) (hp : plainKeyE P kt k = true) :
    ∀ {l : List (V × V × Nat)} {E : List MapEntry} (_ : MRel ρ l E) (i : Nat) {r : Option (Nat × V)}, findE k l i = some r →
      (r = none ∧ Instr.findNow d K E i = some none) ∨ ∃ j v W, r = some (j, v) ∧ Instr.findNow d K E i = some (some (j, W)) ∧ VRel ρ v W
  | [], E, hm, i, r, h => by
    have hm : E = [] := hm
    subst hm
    simp only [findE] at h; cases h
    exact .inl ⟨rfl, rfl⟩
  | e :: l, E, hm, i, r, h => by
    obtain ⟨x, y, rfl, h1, h2, h3, h4⟩ := hm
    simp only [findE] at h
    split at h
    · rename_i he
      cases h
      exact .inr ⟨_, _, _, rfl, by simp [Instr.findNow, keyEq_rel he hk h1 hd hp], h2⟩
    · rename_i he
      have := findE_rel hk hd hp h4 (i + 1) h
      simpa [Instr.findNow, keyEq_rel he hk h1 hd hp] using this
    · cases h

theorem run_checkKeyE {kt : TypeId} {k : V} {K : Value} (hk : VRel ρ k K) (hp : plainKeyE P kt k = true) (e : Bool) (n : Nat) : (Instr.checkKey e (n + 1) kt K).run P w = .ok () w := by
  unfold plainKeyE at hp
  split at hp
  · rename_i hd; simp only [VRel] at hk; subst hk; simp [Instr.checkKey, run_und hd]
  · rename_i hd; simp only [VRel] at hk; subst hk; simp [Instr.checkKey, run_und hd]
  · rename_i hd; simp only [VRel] at hk; subst hk; simp [Instr.checkKey, run_und hd]
  · cases hp

theorem plainKeyE_und {kt : TypeId} {k : V} (hp : plainKeyE P kt k = true) : ∃ d, P.underlying kt = some d := by
  unfold plainKeyE at hp
  split at hp <;> rename_i hd <;> first | exact ⟨_, hd⟩ | cases hp

theorem run_findKeyE {k : V} {K : Value} (hk : VRel ρ k K) {kt : TypeId} (hp : plainKeyE P kt k = true) {l : List (V × V × Nat)} {E : List MapEntry} (hm : MRel ρ l E) {r : Option (Nat × V)} (h : findE k l 0 = some r) :
    (r = none ∧ (Instr.findKey kt K E).run P w = .ok none w) ∨ ∃ j v W, r = some (j, v) ∧ (Instr.findKey kt K E).run P w = .ok (some (j, W)) w ∧ VRel ρ v W := by
  obtain ⟨d, hd⟩ := plainKeyE_und hp
  rcases findE_rel hk hd hp hm 0 h with ⟨h1, h2⟩ | ⟨j, v, W, h1, h2, h3⟩
  · exact .inl ⟨h1, by simp [Instr.findKey, run_und hd, h2]⟩
  · exact .inr ⟨j, v, W, h1, by simp [Instr.findKey, run_und hd, h2], h3⟩

theorem zeroE_rel {t : TypeId} {z : V} (h : zeroE P t = some z) : ∃ Z, (zeroValue t).run P w = .ok Z w ∧ VRel ρ z Z ∧ (∃ i, P.info? t = some i ∧ i.zero = some Z) := by
  unfold zeroE at h
  split at h
  · rename_i i hi
    split at h
    · rename_i v hv
      exact ⟨v, by simp [zeroValue, typeInfo, hi, hv], ofVal_rel h, i, hi, hv⟩
    · cases h
  · cases h

theorem qLookup_rel (h : SRel base ρ s w) {t : TypeId} {m k v : V} {ok : Bool} (hq : qLookup P s t m k ok = some v) {M K : Value} (hm : VRel ρ m M) (hk : VRel ρ k K) :
    ∃ X, (Instr.lookup t M K ok).run P w = .ok X w ∧ VRel ρ v X := by
  unfold qLookup at hq
  split at hq
  · rename_i kt e hd
    cases hp : plainKeyE P kt k with
    | false => simp [hp] at hq
    | true =>
    simp only [hp, Bool.not_true, cond_false] at hq
    split at hq
    · cases hq
    rename_i es hes
    have key : ∃ E : Array MapEntry, MRel ρ es E.toList ∧ (Instr.lookup t M K ok).run P w = (do
        Instr.checkKey E.isEmpty 10000 kt K
        let (v, ok') ← match ← Instr.findKey kt K E.toList with
          | some (_, v) => pure (v, true)
          | none => pure (← zeroValue e, false)
        pure (if ok then .tuple #[v, .bool ok'] else v) : Sem Value).run P w := by
      split at hes
      · cases hes
        simp only [VRel] at hm; subst hm
        exact ⟨#[], rfl, by simp only [Instr.lookup, Sem.run_bind, run_und hd, Result.andThen_ok, Sem.run_pure]; rfl⟩
      · rename_i b
        split at hes
        · rename_i es' c hg
          cases hes
          simp only [VRel] at hm
          obtain ⟨B, O, S, hB, rfl⟩ := hm
          obtain ⟨x, hx, _, E, hE, hrel⟩ := h.obj' hg hB
          rw [hB] at hx; cases hx
          have hgo : (getObj B).run P w = .ok (.map E c) w := by simp only [getObj, Sem.run]; simp only at hE; rw [hE]
          exact ⟨E, hrel, by simp only [Instr.lookup, Sem.run_bind, run_und hd, Result.andThen_ok, hgo, Sem.run_pure]; rfl⟩
        · cases hes
      · cases hes
    obtain ⟨E, hrel, h0⟩ := key
    rw [h0]
    simp only [Sem.run_bind, run_checkKeyE hk hp, Result.andThen_ok]
    split at hq
    · rename_i j v' hf
      rcases run_findKeyE (w := w) hk hp hrel hf with ⟨h1, _⟩ | ⟨j', v2, W, h1, h2, h3⟩
      · cases h1
      · cases h1
        cases hq
        simp only [h2, Result.andThen_ok, Sem.run_pure]
        cases ok
        · exact ⟨_, rfl, h3⟩
        · exact ⟨_, rfl, by simp only [cond_true, VRel]; exact ⟨_, rfl, LRel.cons h3 (LRel.cons (vbool _) LRel.nil)⟩⟩
    · rename_i hf
      split at hq
      · rename_i z hz
        cases hq
        obtain ⟨Z, hZ, hz', _⟩ := zeroE_rel (ρ := ρ) (w := w) hz
        rcases run_findKeyE (w := w) hk hp hrel hf with ⟨_, h2⟩ | ⟨j', v2, W, h1, h2, h3⟩
        · simp only [h2, Result.andThen_ok, Sem.run_bind, Sem.run_pure, hZ]
          cases ok
          · exact ⟨_, rfl, hz'⟩
          · exact ⟨_, rfl, by simp only [cond_true, VRel]; exact ⟨_, rfl, LRel.cons hz' (LRel.cons (vbool _) LRel.nil)⟩⟩
        · cases h1
      · cases hq
    · cases hq
  · cases hq

theorem MRel.length : ∀ {l : List (V × V × Nat)} {E : List MapEntry}, MRel ρ l E → l.length = E.length
  | [], _, h => by have h : _ = [] := h; subst h; rfl
  | _ :: _, _, h => by obtain ⟨x, y, rfl, _, _, _, h4⟩ := h; simp [MRel.length h4]

theorem qLen_rel (h : SRel base ρ s w) {t ty : TypeId} {a v : V} (hq : qLen P s t a = some v) {A : Value} (ha : VRel ρ a A) {ts : Array TypeId} (ht : ts[0]? = some t) :
    ∃ X, (Builtin.len_ ts ty #[A]).run P w = .ok X w ∧ VRel ρ v X := by
  unfold qLen at hq
  split at hq
  · rename_i hd
    split at hq <;> cases hq
    simp only [VRel] at ha; subst ha
    exact ⟨_, by simp [Builtin.len_, ht, run_und hd, BS.den_size, goInt], vint _ _⟩
  · rename_i n e hd
    cases hq
    refine ⟨_, by simp [Builtin.len_, ht, run_und hd, goInt], vint _ _⟩
  · rename_i e hd
    split at hq <;> cases hq <;> simp only [VRel] at ha
    · subst ha
      exact ⟨_, by simp [Builtin.len_, ht, run_und hd, goInt], vint _ _⟩
    · obtain ⟨_, _, rfl, _⟩ := ha
      exact ⟨_, by simp [Builtin.len_, ht, run_und hd, goInt], vint _ _⟩
    · obtain ⟨B, O, S, cap', _, rfl, _⟩ := ha
      exact ⟨_, by simp [Builtin.len_, ht, run_und hd, goInt], vint _ _⟩
  · rename_i k e hd
    split at hq
    · cases hq
      simp only [VRel] at ha; subst ha
      exact ⟨_, by simp [Builtin.len_, ht, run_und hd, goInt], vint _ _⟩
    · split at hq
      · rename_i hg
        cases hq
        simp only [VRel] at ha
        obtain ⟨B, O, S, hB, rfl⟩ := ha
        obtain ⟨x, hx, _, E, hE, hrel⟩ := h.obj' hg hB
        rw [hB] at hx; cases hx
        refine ⟨_, ?_, vint _ _⟩
        have := hrel.length
        simp at this
        rw [llen_eq]
        simp [Builtin.len_, ht, run_und hd, goInt, getObj, Sem.run, hE, this]
      · cases hq
    · cases hq
  · rename_i arr hd
    split at hq
    · rename_i n e hd2
      cases hq
      refine ⟨_, by simp [Builtin.len_, ht, run_und hd, run_und hd2, goInt], vint _ _⟩
    · cases hq
  · cases hq

theorem qCap_rel {t ty : TypeId} {a v : V} (hq : qCap P t a = some v) {A : Value} (ha : VRel ρ a A) {ts : Array TypeId} (ht : ts[0]? = some t) :
    ∃ X, (Builtin.cap_ ts ty #[A]).run P w = .ok X w ∧ VRel ρ v X := by
  unfold qCap at hq
  split at hq
  · rename_i n e hd
    cases hq
    exact ⟨_, by simp [Builtin.cap_, ht, run_und hd, goInt], vint _ _⟩
  · rename_i e hd
    split at hq <;> cases hq <;> simp only [VRel] at ha
    · subst ha
      exact ⟨_, by simp [Builtin.cap_, ht, run_und hd, goInt], vint _ _⟩
    · obtain ⟨B, O, S, cap', _, rfl, _, _, hc, _⟩ := ha
      rw [hc trivial]
      exact ⟨_, by simp [Builtin.cap_, ht, run_und hd, goInt], vint _ _⟩
  · cases hq

theorem minMax_rel : ∀ (l : List V) (k : IntKind) (x : Int) (v : V), minMax false (.int k x) l = some v → ∀ {L : List Value}, LRel ρ l L → ∃ X, (L.foldlM Builtin.min2 (.int k x)).run P w = .ok X w ∧ VRel ρ v X
  | [], k, x, v, h, L, hl => by
    have hl : L = [] := hl
    subst hl; simp only [minMax] at h; cases h
    exact ⟨_, by simp, vint _ _⟩
  | b :: l, k, x, v, h, L, hl => by
    obtain ⟨X, Y, rfl, h1, h2⟩ := hl
    cases b <;> simp only [minMax, reduceCtorEq] at h
    simp only [VRel] at h1; subst h1
    obtain ⟨Z, e1, e2⟩ := minMax_rel l _ _ v h h2
    rename_i k' y
    have e : (bif ltQ y x then y else x) = if y < x then y else x := by rw [ltQ_eq]; by_cases hh : y < x <;> simp [hh]
    simp only [cond_false, e] at e1
    exact ⟨Z, by simpa [Builtin.min2] using e1, e2⟩
theorem maxMin_rel : ∀ (l : List V) (k : IntKind) (x : Int) (v : V), minMax true (.int k x) l = some v → ∀ {L : List Value}, LRel ρ l L → ∃ X, (L.foldlM Builtin.max2 (.int k x)).run P w = .ok X w ∧ VRel ρ v X
  | [], k, x, v, h, L, hl => by
    have hl : L = [] := hl
    subst hl; simp only [minMax] at h; cases h
    exact ⟨_, by simp, vint _ _⟩
  | b :: l, k, x, v, h, L, hl => by
    obtain ⟨X, Y, rfl, h1, h2⟩ := hl
    cases b <;> simp only [minMax, reduceCtorEq] at h
    simp only [VRel] at h1; subst h1
    obtain ⟨Z, e1, e2⟩ := maxMin_rel l _ _ v h h2
    rename_i k' y
    have e : (bif ltQ x y then y else x) = if y > x then y else x := by rw [ltQ_eq]; by_cases hh : x < y <;> simp [hh]
    simp only [cond_true, e] at e1
    exact ⟨Z, by simpa [Builtin.max2] using e1, e2⟩

theorem cellsV_rel {v : V} {X : Value} (h : VRel ρ v X) : LRel ρ (cellsV v) X.cells.toList := by
  cases v <;> simp only [VRel] at h
  all_goals first
    | (subst h; exact LRel.cons (by simp only [VRel]) LRel.nil)
    | skip
  case ptr => obtain ⟨B, O, S, h1, rfl⟩ := h; exact LRel.cons (by simp only [VRel]; exact ⟨B, O, S, h1, rfl⟩) LRel.nil
  case slz => obtain ⟨a, c, rfl, hc⟩ := h; exact LRel.cons (by simp only [VRel]; exact ⟨a, c, rfl, hc⟩) LRel.nil
  case sl => obtain ⟨B, O, S, c, h1, rfl, h2⟩ := h; exact LRel.cons (by simp only [VRel]; exact ⟨B, O, S, c, h1, rfl, h2⟩) LRel.nil
  case map => obtain ⟨B, O, S, h1, rfl⟩ := h; exact LRel.cons (by simp only [VRel]; exact ⟨B, O, S, h1, rfl⟩) LRel.nil
  case fn => obtain ⟨A, C, rfl, h2⟩ := h; exact LRel.cons (by simp only [VRel]; exact ⟨A, C, rfl, h2⟩) LRel.nil
  case yld => obtain ⟨B, O, S, h1, rfl⟩ := h; exact LRel.cons (by simp only [VRel]; exact ⟨B, O, S, h1, rfl⟩) LRel.nil
  case iface => obtain ⟨A, rfl, h2⟩ := h; exact LRel.cons (by simp only [VRel]; exact ⟨A, rfl, h2⟩) LRel.nil
  case tup => obtain ⟨A, rfl, h2⟩ := h; exact LRel.cons (by simp only [VRel]; exact ⟨A, rfl, h2⟩) LRel.nil
  case it => obtain ⟨B, S, h1, rfl⟩ := h; exact LRel.cons (by simp only [VRel]; exact ⟨B, S, h1, rfl⟩) LRel.nil
  case agg => obtain ⟨A, rfl, h2⟩ := h; exact h2

theorem setAll0_rel : ∀ {l : List V} {L : List Value}, LRel ρ l L → ∀ {cs : List V} {A : Array Value}, LRel ρ cs A.toList → ∀ (off k : Nat),
    LRel ρ (setAll0 cs (off + k) l) ((L.zipIdx k).foldl (fun (cs : Array Value) (x : Value × Nat) => cs.setIfInBounds (off + x.2) x.1) A).toList
  | [], L, h, cs, A, hA, off, k => by
    have h : L = [] := h
    subst h; simpa [setAll0] using hA
  | v :: l, L, h, cs, A, hA, off, k => by
    obtain ⟨X, Y, rfl, h1, h2⟩ := h
    simp only [setAll0, lset_eq, List.zipIdx_cons, List.foldl_cons]
    rw [Nat.add_assoc]
    exact setAll0_rel h2 (by rw [Array.toList_setIfInBounds]; exact hA.set h1) off (k + 1)

theorem setAll0_length : ∀ (l cs : List V) (off : Nat), (setAll0 cs off l).length = cs.length
  | [], _, _ => rfl
  | c :: l, cs, off => by simp [setAll0, lset_eq, setAll0_length l]

theorem setAll0_is : ∀ (l cs : List V) (off : Nat), off + l.length ≤ cs.length → setAll0 cs off l = cs.take off ++ (l ++ cs.drop (off + l.length))
  | [], cs, off, _ => by simp [setAll0]
  | c :: l, cs, off, h => by
    simp only [List.length_cons] at h
    have hlt : off < cs.length := by omega
    rw [setAll0, lset_eq, setAll0_is l (cs.set off c) (off + 1) (by rw [List.length_set]; omega), List.take_set, List.drop_set_of_lt (by omega)]
    have e : (List.take (off + 1) cs).set off c = cs.take off ++ [c] := by
      rw [List.take_succ_eq_append_getElem hlt, List.set_append_right _ _ (by simp; omega)]
      have : off - (List.take off cs).length = 0 := by simp; omega
      rw [this]; rfl
    rw [e, List.append_assoc, List.length_cons]
    simp only [List.singleton_append, List.cons_append, List.nil_append]
    rw [show off + 1 + l.length = off + (l.length + 1) by omega]
theorem setAll_is (cs : List V) (off : Nat) (l : List V) : setAll cs off l = setAll0 cs off l := by
  unfold setAll
  cases h : Nat.ble (off + llen l) (llen cs) with
  | false => rfl
  | true =>
    rw [Nat.ble_eq, llen_eq, llen_eq] at h
    rw [cond_true, setAll0_is l cs off h, lapp_eq, lapp_eq, ltake_eq, ldrop_eq, llen_eq]
theorem setAll_rel {l : List V} {L : List Value} (h : LRel ρ l L) {cs : List V} {A : Array Value} (hA : LRel ρ cs A.toList) (off k : Nat) :
    LRel ρ (setAll cs (off + k) l) ((L.zipIdx k).foldl (fun (cs : Array Value) (x : Value × Nat) => cs.setIfInBounds (off + x.2) x.1) A).toList := by
  rw [setAll_is]; exact setAll0_rel h hA off k
theorem setAll_length (l cs : List V) (off : Nat) : (setAll cs off l).length = cs.length := by rw [setAll_is]; exact setAll0_length l cs off

def PRel (ρ : Env) : List (Nat × V) → List (Nat × Value) → Prop
  | [], L => L = []
  | p :: l, L => ∃ X Y, L = (p.1, X) :: Y ∧ VRel ρ p.2 X ∧ PRel ρ l Y

theorem evalParts_rel {ev : Operand → Option V} {A : Act} (hA : EvRel ρ ev A) : ∀ {xs : List (Nat × Operand)} {ps : List (Nat × V)}, evalParts ev xs = some ps → PRel ρ ps (xs.map fun p => (p.1, A.eval p.2))
  | [], ps, h => by simp only [evalParts] at h; cases h; rfl
  | (i, x) :: xs, ps, h => by
    simp only [evalParts] at h
    split at h
    · rename_i v hv
      split at h
      · rename_i r hr; cases h; exact ⟨_, _, rfl, evalO_rel hA hv, evalParts_rel hA hr⟩
      · cases h
    · cases h

theorem fillE_rel {place : Nat → Option (Nat × Nat)} : ∀ {ps : List (Nat × V)} {Ps : List (Nat × Value)}, PRel ρ ps Ps → ∀ {cs r : List V} {A : Array Value}, LRel ρ cs A.toList → fillE place cs ps = some r →
    ∃ R, Instr.fill place A Ps = some R ∧ LRel ρ r R.toList
  | [], Ps, hp, cs, r, A, hA, h => by
    have hp : Ps = [] := hp
    subst hp; simp only [fillE] at h; cases h
    exact ⟨A, rfl, hA⟩
  | (i, v) :: ps, Ps, hp, cs, r, A, hA, h => by
    obtain ⟨X, Y, rfl, h1, h2⟩ := hp
    simp only [fillE] at h
    split at h
    · rename_i off size hpl
      simp only [llen_eq] at h
      cases hb : (Nat.beq (cellsV v).length size && Nat.ble (off + size) cs.length) with
      | false => simp [hb] at h
      | true =>
        simp only [hb, cond_true] at h
        simp only [Bool.and_eq_true, Nat.ble_eq, Nat.beq_eq] at hb
        have hc := cellsV_rel h1
        have hl := hc.length
        have hl2 := hA.length
        simp only [Array.length_toList] at hl hl2
        have hset := setAll_rel hc hA off 0
        obtain ⟨R, e1, e2⟩ := fillE_rel h2 (A := X.cells.zipIdx.foldl (fun cs (x : Value × Nat) => cs.setIfInBounds (off + x.2) x.1) A)
          (by rw [← Array.foldl_toList, Array.toList_zipIdx]; exact hset) h
        refine ⟨R, ?_, e2⟩
        simp only [Instr.fill, hpl]
        rw [if_neg (by simp; omega)]
        exact e1
    · cases h

theorem run_places : ∀ (fs : List Field) {pl : List (Nat × Nat)}, placesE P fs = some pl → (fs.mapM fun f => do pure (f.offset, ← sizeOf f.type) : Sem (List (Nat × Nat))).run P w = .ok pl w
  | [], pl, h => by simp only [placesE] at h; cases h; simp
  | f :: fs, pl, h => by
    simp only [placesE] at h
    split at h
    · rename_i n hn
      split at h
      · rename_i r hr
        cases h
        have ih := run_places fs hr
        simp only [List.mapM_cons, Sem.run_bind, run_size hn, Result.andThen_ok, Sem.run_pure, ih]
      · cases h
    · cases h

theorem qBuild_rel {t : TypeId} {ps : List (Nat × V)} {v : V} (hq : qBuild P t ps = some v) {Ps : Array (Nat × Value)} (hp : PRel ρ ps Ps.toList) :
    ∃ X, (Instr.build t Ps).run P w = .ok X w ∧ VRel ρ v X := by
  unfold qBuild at hq
  split at hq
  · cases hq
  rename_i z hz
  obtain ⟨Z, hZ, hzr, _⟩ := zeroE_rel (ρ := ρ) (w := w) hz
  have hzc := cellsV_rel hzr
  split at hq
  · rename_i fs hd
    split at hq
    · rename_i pl hpl
      split at hq
      · rename_i cs hcs
        cases hq
        obtain ⟨R, e1, e2⟩ := fillE_rel hp hzc hcs
        refine ⟨.agg R, ?_, by simp only [VRel]; exact ⟨R, rfl, e2⟩⟩
        have hpr := run_places (w := w) fs.toList hpl
        have e3 : (fun (i : Nat) => (pl.toArray[i]? : Option (Nat × Nat))) = fun (i : Nat) => lget pl i := by funext i; simp [lget_eq]
        simp only [Instr.build, Sem.run_bind, hZ, Result.andThen_ok, run_und hd, Array.mapM_eq_mapM_toList, Sem.run_map, hpr, Sem.run_pure]
        rw [e3, e1]
        rfl
      · cases hq
    · cases hq
  · rename_i n e hd
    split at hq
    · rename_i sz hsz
      split at hq
      · rename_i cs hcs
        cases hq
        obtain ⟨R, e1, e2⟩ := fillE_rel hp hzc hcs
        refine ⟨.agg R, ?_, by simp only [VRel]; exact ⟨R, rfl, e2⟩⟩
        simp only [Instr.build, Sem.run_bind, hZ, Result.andThen_ok, run_und hd, run_size hsz]
        rw [e1]
        rfl
      · cases hq
    · cases hq
  · cases hq

theorem qAssert_rel (xt : TypeId) {t : TypeId} {v u : V} {ok : Bool} (hq : qAssert P t v ok = some u) {X : Value} (hv : VRel ρ v X) : ∃ Y, (Instr.typeAssert X xt t ok).run P w = .ok Y w ∧ VRel ρ u Y := by
  unfold qAssert at hq
  have zer : ∀ {u : V}, assertZ P t ok = some u → ok = true ∧ ∃ Z, (zeroValue t).run P w = .ok Z w ∧ VRel ρ u (.tuple #[Z, .bool false]) := by
    intro u h
    unfold assertZ at h
    split at h
    · rename_i z hz
      cases h
      obtain ⟨Z, hZ, hzr, _⟩ := zeroE_rel (ρ := ρ) (w := w) hz
      refine ⟨rfl, Z, hZ, ?_⟩
      simp only [VRel]
      exact ⟨_, rfl, LRel.cons hzr (LRel.cons (by simp only [VRel]) LRel.nil)⟩
    · cases h
  split at hq
  · cases hq
  · rename_i d hni hd
    cases v with
    | iface t' x =>
      simp only [VRel] at hv
      simp only at hq
      obtain ⟨Y, rfl, hy⟩ := hv
      cases hb : Nat.beq t' t with
      | true =>
        rw [hb, cond_true] at hq
        cases hq
        have e := Nat.eq_of_beq_eq_true hb
        subst e
        cases ok with
        | true => exact ⟨.tuple #[Y, .bool true], by cases d <;> first | exact absurd rfl (hni _) | simp [Instr.typeAssert, run_und hd], by simp only [cond_true, VRel]; exact ⟨_, rfl, LRel.cons hy (LRel.cons (by simp only [VRel]) LRel.nil)⟩⟩
        | false => exact ⟨Y, by cases d <;> first | exact absurd rfl (hni _) | simp [Instr.typeAssert, run_und hd], hy⟩
      | false =>
        rw [hb, cond_false] at hq
        obtain ⟨rfl, Z, hZ, hr⟩ := zer hq
        have hne : ¬ t' = t := fun e => by subst e; simp at hb
        exact ⟨_, by cases d <;> first | exact absurd rfl (hni _) | simp [Instr.typeAssert, run_und hd, hne, hZ], hr⟩
    | nili =>
      simp only [VRel] at hv
      subst hv
      obtain ⟨rfl, Z, hZ, hr⟩ := zer hq
      exact ⟨_, by cases d <;> first | exact absurd rfl (hni _) | simp [Instr.typeAssert, run_und hd, hZ], hr⟩
    | _ => cases hq
  · cases hq

end
end Go.Eng
