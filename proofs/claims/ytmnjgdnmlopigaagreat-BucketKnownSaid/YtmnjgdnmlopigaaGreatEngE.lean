/-
  The evaluator's quiet operations are the model's (the second half), and all of them together.
-/
import Derived.Test.YtmnjgdnmlopigaaGreatEngD
import Derived.MapKept
namespace Go.Eng
set_option linter.unusedSimpArgs false
set_option linter.unusedVariables false

section
variable {P : Program} {base : Nat} {ρ : Env} {s : St} {w : World}

theorem vint (k : IntKind) (n : Int) : VRel ρ (.int k n) (.int k n) := by simp only [VRel]
theorem vbool (b : Bool) : VRel ρ (.bool b) (.bool b) := by simp only [VRel]
theorem vstr (s : BS) : VRel ρ (.str s) (.string s.den) := by simp only [VRel]
theorem part_cell {t : TypeId} {A : Array Value} {off : Nat} {X : Value} (ht : isAggE P t = some false) (h : A[off]? = some X) : (part t A off).run P w = .ok X w := by
  simp [part, run_isAgg ht, h]

theorem eqFields_rel (d : Nat) {nest : TypeId → V → V → Option Bool} (hnest : ∀ t a b r, nest t a b = some r → ∀ A B, VRel ρ a A → VRel ρ b B → (Op.equalIn (d + 1) t A B).run P w = .ok r w) :
    ∀ (fs : List Field) {l m : List V} {r : Bool}, eqFields P nest fs l m = some r → ∀ {A B : Array Value}, LRel ρ l A.toList → LRel ρ m B.toList →
    (Op.eqFields (d + 1) A B fs).run P w = .ok r w
  | [], l, m, r, h, A, B, ha, hb => by simp only [eqFields] at h; cases h; simp [Op.eqFields]
  | f :: rest, l, m, r, h, A, B, ha, hb => by
    have ih := fun {r} h => eqFields_rel d hnest rest (l := l) (m := m) (r := r) h ha hb
    simp only [eqFields, lget_eq, eqQ_eq, kEq_iff] at h
    cases hn : (f.name == "_") with
    | true => simp [hn] at h
    | false =>
      simp only [hn, cond_false] at h
      have hne : f.name ≠ "_" := by simpa using hn
      simp only [Op.eqFields, hne, ne_eq, not_false_eq_true, if_true]
      split at h
      · rename_i k0 hd
        have hag : isAggE P f.type = some false := by simp [isAggE, hd]
        split at h
        · rename_i k x k' y h1 h2
          cases hkk : decide (k = k') with
          | false => simp [hkk] at h
          | true =>
            have hk : k = k' := by simpa using hkk
            subst hk
            simp only [decide_true, cond_true] at h
            obtain ⟨X, e1, e2⟩ := ha.get h1
            obtain ⟨Y, e3, e4⟩ := hb.get h2
            simp only [VRel] at e2 e4; subst e2; subst e4
            simp only [Array.getElem?_toList] at e1 e3
            simp only [Sem.run_bind, part_cell hag e1, part_cell hag e3, Result.andThen_ok, run_equalIn_int w d _ _ _ _ _ hd]
            cases hxy : (x == y) with
            | true =>
              simp only [hxy, cond_true] at h
              simpa using ih h
            | false =>
              simp only [hxy, cond_false, Option.some.injEq] at h
              subst h; simp
        · cases h
      · rename_i hd
        have hag : isAggE P f.type = some false := by simp [isAggE, hd]
        split at h
        · rename_i x y h1 h2
          obtain ⟨X, e1, e2⟩ := ha.get h1
          obtain ⟨Y, e3, e4⟩ := hb.get h2
          simp only [VRel] at e2 e4; subst e2; subst e4
          simp only [Array.getElem?_toList] at e1 e3
          simp only [Sem.run_bind, part_cell hag e1, part_cell hag e3, Result.andThen_ok, run_equalIn_bool w d _ _ _ hd]
          cases hxy : (x == y) with
          | true =>
            simp only [hxy, cond_true] at h
            simpa using ih h
          | false =>
            simp only [hxy, cond_false, Option.some.injEq] at h
            subst h; simp
        · cases h
      · rename_i hd
        have hag : isAggE P f.type = some false := by simp [isAggE, hd]
        split at h
        · rename_i x y h1 h2
          obtain ⟨X, e1, e2⟩ := ha.get h1
          obtain ⟨Y, e3, e4⟩ := hb.get h2
          simp only [VRel] at e2 e4; subst e2; subst e4
          simp only [Array.getElem?_toList] at e1 e3
          have he := BS.eq_iff x y
          simp only [Sem.run_bind, part_cell hag e1, part_cell hag e3, Result.andThen_ok, run_equalIn_string w d _ _ _ hd, ByteArray.toList_eq, ← he]
          cases hxy : x.eq y with
          | true =>
            simp only [hxy, cond_true] at h
            simpa using ih h
          | false =>
            simp only [hxy, cond_false, Option.some.injEq] at h
            subst h; simp
        · cases h
      · rename_i hd
        split at h
        · rename_i x y h1 h2
          obtain ⟨X, e1, e2⟩ := partE_rel (w := w) h1 ha
          obtain ⟨Y, e3, e4⟩ := partE_rel (w := w) h2 hb
          split at h
          · rename_i hx
            simp only [Sem.run_bind, e1, e3, Result.andThen_ok, hnest _ _ _ _ hx _ _ e2 e4]
            simpa using ih h
          · rename_i hx
            cases h
            simp only [Sem.run_bind, e1, e3, Result.andThen_ok, hnest _ _ _ _ hx _ _ e2 e4]
            simp
          · cases h
        · cases h
      · cases h

theorem eqNest_rel : ∀ (n d : Nat), n < d → ∀ t a b r, eqNest P n t a b = some r → ∀ A B, VRel ρ a A → VRel ρ b B → (Op.equalIn (d + 1) t A B).run P w = .ok r w
  | 0, _, _, _, _, _, _, h, _, _, _, _ => by simp only [eqNest] at h; cases h
  | n + 1, d, hd, t, a, b, r, h, A, B, ha, hb => by
    simp only [eqNest] at h
    split at h
    · rename_i fs hu
      split at h
      · rename_i l m
        cases hg : P.stoodInHeld t with
        | true => simp [hg] at h
        | false =>
          simp only [hg, cond_false] at h
          simp only [VRel] at ha hb
          obtain ⟨xs, rfl, ha⟩ := ha
          obtain ⟨ys, rfl, hb⟩ := hb
          have hf : P.fieldsOf t = fs := by simp [Program.fieldsOf, hu]
          have := run_equalIn_struct w d t xs ys (by rw [hf]; exact hu) hg
          obtain ⟨e, rfl⟩ : ∃ e, d = e + 1 := ⟨d - 1, by omega⟩
          rw [hf, eqFields_rel e (eqNest_rel n e (by omega)) _ h ha hb] at this
          exact this
      · cases h
    · cases h

theorem eqE_shape {t : TypeId} {a b : V} {r : Bool} (hq : eqE P s t a b = some r) {A B : Value} (ha : VRel ρ a A) (hb : VRel ρ b B) (op : BinOp) (x y : Operand) :
    (eqGuard op t x y A B).run P w = .ok () w ∧ Go.binOp .eql t A B = (do pure (.bool (← Op.equal t A B))) ∧ Go.binOp .neq t A B = (do pure (.bool (!(← Op.equal t A B)))) := by
  unfold eqE at hq
  split at hq <;> (try (cases hq; done)) <;> split at hq <;> (try (cases hq; done)) <;>
    simp only [VRel] at ha hb <;> (try obtain ⟨_, _, _, _, _, rfl, _⟩ := ha) <;> (try obtain ⟨_, _, _, _, rfl⟩ := ha) <;> (try obtain ⟨_, _, rfl, _⟩ := ha) <;> (try obtain ⟨_, rfl, _⟩ := ha) <;>
    (try obtain ⟨_, _, _, _, _, rfl, _⟩ := hb) <;> (try obtain ⟨_, _, _, _, rfl⟩ := hb) <;> (try obtain ⟨_, _, rfl, _⟩ := hb) <;> (try obtain ⟨_, rfl, _⟩ := hb) <;>
    (try subst ha) <;> (try subst hb) <;> refine ⟨?_, rfl, rfl⟩ <;> cases op <;> simp [eqGuard]

theorem eqAny_rel (h : SRel base ρ s w) {t : TypeId} {a b : V} {r : Bool} (hq : eqAny P s t a b = some r) {A B : Value} (ha : VRel ρ a A) (hb : VRel ρ b B) (op : BinOp) (x y : Operand) :
    (eqGuard op t x y A B).run P w = .ok () w ∧ (Go.binOp .eql t A B).run P w = .ok (.bool r) w ∧ (Go.binOp .neq t A B).run P w = .ok (.bool (!r)) w := by
  unfold eqAny at hq
  split at hq
  · rename_i r' hr
    cases hq
    obtain ⟨h1, h2, h3⟩ := eqE_shape (w := w) hr ha hb op x y
    have := eqE_rel h hr ha hb 9999
    rw [h2, h3]
    refine ⟨h1, ?_, ?_⟩ <;> simp [Op.equal, Op.maxDepth, this]
  split at hq
  · rename_i r' hr
    cases hq
    unfold eqNil2 at hr
    split at hr
    · rename_i ms hd
      split at hr
      · cases hm : ms.isEmpty with
        | false => rw [hm] at hr; cases hr
        | true =>
          rw [hm, cond_true] at hr
          cases hr
          simp only [VRel] at ha hb; subst ha; subst hb
          have k1 : ∀ d, (Op.eqGuardIn (d + 1) t .nilIface .nilIface).run P w = .ok false w := fun d => by simp [Op.eqGuardIn, run_und hd, hm]
          have k2 : ∀ d, (Op.equalIn (d + 1) t .nilIface .nilIface).run P w = .ok true w := fun d => by simp [Op.equalIn, run_und hd]
          have g1 : (Op.eqGuardIn Op.maxDepth t .nilIface .nilIface).run P w = .ok false w := k1 9999
          have g2 : (Op.equal t .nilIface .nilIface).run P w = .ok true w := k2 9999
          refine ⟨?_, ?_, ?_⟩
          · cases op <;> simp [eqGuard, g1]
          · have e : Go.binOp .eql t .nilIface .nilIface = (do pure (.bool (← Op.equal t .nilIface .nilIface))) := rfl
            rw [e]; simp [g2]
          · have e : Go.binOp .neq t .nilIface .nilIface = (do pure (.bool (!(← Op.equal t .nilIface .nilIface)))) := rfl
            rw [e]; simp [g2]
      · cases hr
    · cases hr
  · unfold eqStruct at hq
    split at hq
    · rename_i fs hd
      split at hq
      · rename_i l m
        cases hg : (P.stoodInHeld t || P.eqGuardType P.depth t) with
        | true => simp [hg] at hq
        | false =>
          simp only [hg, cond_false] at hq
          simp only [Bool.or_eq_false_iff] at hg
          simp only [VRel] at ha hb
          obtain ⟨xs, rfl, ha⟩ := ha
          obtain ⟨ys, rfl, hb⟩ := hb
          have hf : P.fieldsOf t = fs := by simp [Program.fieldsOf, hd]
          have := run_equalIn_struct w 9999 t xs ys (by rw [hf]; exact hd) hg.1
          rw [hf, eqFields_rel 9998 (eqNest_rel 6 9998 (by omega)) _ hq ha hb] at this
          exact ⟨run_eqGuard_agg w op t x y xs ys hg.2, by rw [run_eql_struct, this]; rfl, by rw [run_neq_struct, this]; rfl⟩
      · cases hq
    · cases hq

theorem qBin_rel (h : SRel base ρ s w) {op : BinOp} {t : TypeId} {a b v : V} (hq : qBin P s op t a b = some v) {A B : Value} (ha : VRel ρ a A) (hb : VRel ρ b B) (x y : Operand) :
    ∃ X, (do eqGuard op t x y A B; Go.binOp op t A B : Sem Value).run P w = .ok X w ∧ VRel ρ v X := by
  unfold qBin at hq
  split at hq
  · rename_i k x1 k' y1
    simp only [VRel] at ha hb; subst ha; subst hb
    have hg : (eqGuard op t x y (.int k x1) (.int k' y1)).run P w = .ok () w := by cases op <;> simp [eqGuard]
    simp only [Sem.run_bind, hg, Result.andThen_ok]
    split at hq
    · exact shiftE_rel (k' := k') hq
    · exact shiftE_rel (k' := k') hq
    · rename_i h1 h2
      rw [kEq_iff] at hq
      cases hkk : decide (k = k') with
      | false => simp [hkk] at hq
      | true =>
        have hk : k = k' := by simpa using hkk
        subst hk
        simp only [decide_true, cond_true] at hq
        exact intBin_rel hq h1 h2 t
  · rename_i x1 y1
    simp only [VRel] at ha hb; subst ha; subst hb
    have hg : (eqGuard op t x y (.string x1.den) (.string y1.den)).run P w = .ok () w := by cases op <;> simp [eqGuard]
    simp only [Sem.run_bind, hg, Result.andThen_ok]
    have : Go.binOp op t (.string x1.den) (.string y1.den) = Op.stringOp op x1.den y1.den := by cases op <;> rfl
    rw [this]
    exact strBin_rel hq
  · split at hq
    · split at hq
      · rename_i r hr
        cases hq
        obtain ⟨h1, h2, _⟩ := eqAny_rel h hr ha hb .eql x y
        exact ⟨.bool r, by simp [h1, h2], by simp [VRel]⟩
      · cases hq
    · split at hq
      · rename_i r hr
        cases hq
        obtain ⟨h1, _, h2⟩ := eqAny_rel h hr ha hb .neq x y
        exact ⟨.bool (!r), by simp [h1, h2], by simp [VRel]⟩
      · cases hq
    · cases hq

theorem qUn_rel {op : UnOp} {a v : V} (hq : qUn op a = some v) {A : Value} (ha : VRel ρ a A) : ∃ X, (Op.unary op A).run P w = .ok X w ∧ VRel ρ v X := by
  unfold qUn at hq
  split at hq <;> cases hq <;> simp only [VRel] at ha <;> subst ha
  · rename_i k n
    exact ⟨.int k (k.wrap (0 - n)), by simp [Op.unary, Op.intArith], by simp only [VRel, wrapQ_eq]⟩
  · rename_i k n
    have e : ofI k (if k.signed = true then -1 else k.max) = kM k - 1 := by cases k <;> rfl
    refine ⟨.int k (k.wrap ((Nat.xor (kM k - 1) (ofI k n) : Nat) : Int)), ?_, by simp only [VRel, wrapQ_eq]; rfl⟩
    simp only [Op.unary, Op.intBits, Sem.run_pure, BitVec.toNat_xor, bits_toNat, e]
    rfl
  · exact ⟨_, by simp [Op.unary], vbool _⟩

theorem bytesOf_rel : ∀ {l : List V} {r : List UInt8}, bytesOf l = some r → ∀ {L : List Value}, LRel ρ l L → ∃ ns : List Int, L = ns.map (Value.int .u8) ∧ r = ns.map fun n => UInt8.ofNat n.toNat
  | [], r, h, L, hl => by
    simp only [bytesOf, Option.some.injEq] at h; subst h
    have hl : L = [] := hl
    exact ⟨[], by simp [hl], rfl⟩
  | v :: l, r, h, L, hl => by
    obtain ⟨X, Y, rfl, h1, h2⟩ := hl
    unfold bytesOf at h
    split at h
    · rename_i e; cases e
    · rename_i n l' e
      cases e
      split at h
      · rename_i r' hr
        cases h
        obtain ⟨ns, e1, e2⟩ := bytesOf_rel hr h2
        simp only [VRel] at h1
        exact ⟨n :: ns, by simp [h1, e1], by simp [e2]⟩
      · cases h
    · cases h

theorem foldl_push : ∀ (ns : List Int) (r : ByteArray), (ns.foldl (fun r n => r.push (UInt8.ofNat n.toNat)) r).data.toList = r.data.toList ++ ns.map fun n => UInt8.ofNat n.toNat
  | [], r => by simp
  | n :: ns, r => by
    simp only [List.foldl_cons, List.map_cons]
    rw [foldl_push ns]
    simp [ByteArray.push]

theorem qConv_rel (h : SRel base ρ s w) {src dst : TypeId} {a v : V} (hq : qConv P s src dst a = some v) {A : Value} (ha : VRel ρ a A) :
    ∃ X, (Go.convert src dst A).run P w = .ok X w ∧ VRel ρ v X := by
  unfold qConv at hq
  split at hq
  · rename_i sd dd hs hd
    split at hq
    · split at hq <;> cases hq
      simp only [VRel] at ha; subst ha
      rename_i k
      exact ⟨.int k (k.wrap _), by simp [Go.convert, run_und hs, run_und hd, Conv.intToInt]; rfl, by simp only [VRel, wrapQ_eq]⟩
    · split at hq <;> cases hq
      simp only [VRel] at ha; subst ha
      exact ⟨_, by simp [Go.convert, run_und hs, run_und hd], vstr _⟩
    · split at hq
      · rename_i e
        split at hq
        · rename_i he
          cases hq
          simp only [VRel] at ha; subst ha
          refine ⟨.string .empty, by simp [Go.convert, run_und hs, run_und hd, run_und he, Conv.bytesToString], ?_⟩
          simp only [VRel]; congr 1
        · cases hq
      · cases hq
    · rename_i b o len cap x es
      split at hq
      · rename_i e
        split at hq
        · rename_i he
          split at hq
          · rename_i cs hcs
            simp only [llen_eq, ltake_eq, ldrop_eq] at hq
            cases hb : Nat.ble (o + len) cs.length with
            | false => simp [hb] at hq
            | true =>
              rw [hb] at hq; simp only [cond_true] at hq
              split at hq
              · rename_i r hr
                cases hq
                simp only [VRel] at ha
                obtain ⟨B, O, S, cap', hB, rfl, _⟩ := ha
                obtain ⟨x', hx, hc⟩ := h.cellsAt hcs hB
                rw [hB] at hx; cases hx
                have key := hc.load (P := P) o len (by rw [← Nat.ble_eq]; exact hb)
                obtain ⟨L, hL, hl⟩ := key
                obtain ⟨ns, e1, e2⟩ := bytesOf_rel hr hl
                subst e1
                refine ⟨.string _, by rw [run_convert_bytes_string w src dst e _ _ _ hs he hd, run_bytesToString w _ _ _ ns hL], ?_⟩
                simp only [VRel]
                congr 1
                apply ba_ext
                rw [foldl_push, BS.den_ofList, e2]; simp
              · cases hq
          · cases hq
        · cases hq
      · cases hq
    · cases hq
  · cases hq

theorem qFieldAddr_rel {t : TypeId} {a v : V} {i : Nat} (hq : qFieldAddr P t a i = some v) {A : Value} (ha : VRel ρ a A) : ∃ X, (Instr.fieldAt t A i).run P w = .ok X w ∧ VRel ρ v X := by
  unfold qFieldAddr at hq
  split at hq
  · rename_i fs hd
    split at hq
    · rename_i f hf
      split at hq
      · rename_i n hn
        split at hq
        · rename_i b o
          cases hq
          simp only [VRel] at ha ⊢
          obtain ⟨B, O, S, hB, rfl⟩ := ha
          refine ⟨_, ?_, B, O, S, hB, rfl⟩
          simp [Instr.fieldAt, run_und hd, hf, Instr.sureAddr, fieldPlace, run_size hn, addr_add, Nat.add_assoc]
        · cases hq
      · cases hq
    · cases hq
  · cases hq

theorem qField_rel {t : TypeId} {a v : V} {i : Nat} (hq : qField P t a i = some v) {A : Value} (ha : VRel ρ a A) : ∃ X, (Instr.field t A i).run P w = .ok X w ∧ VRel ρ v X := by
  unfold qField at hq
  split at hq
  · rename_i fs hd
    split at hq
    · rename_i f hf
      split at hq
      · rename_i l
        simp only [VRel] at ha
        obtain ⟨cs, rfl, hl⟩ := ha
        obtain ⟨X, h1, h2⟩ := partE_rel (w := w) hq hl
        exact ⟨X, by simp [Instr.field, run_und hd, hf, asAgg, h1], h2⟩
      · cases hq
    · cases hq
  · cases hq

theorem natOf_rel {v : V} {n : Nat} (h : natOf v = some n) {A : Value} (ha : VRel ρ v A) : ∃ k, A = .int k (n : Int) := by
  unfold natOf at h
  split at h
  · cases h; simp only [VRel] at ha; exact ⟨_, ha⟩
  · cases h

theorem run_asIntOf (k : IntKind) (n : Int) : (asIntOf (.int k n)).run P w = .ok (k, n) w := rfl

theorem qIndexAddr_rel {t : TypeId} {a i v : V} (hq : qIndexAddr P t a i = some v) {A I : Value} (ha : VRel ρ a A) (hi : VRel ρ i I) : ∃ X, (Instr.indexAt t A I).run P w = .ok X w ∧ VRel ρ v X := by
  unfold qIndexAddr at hq
  split at hq
  · rename_i n hn
    obtain ⟨k, rfl⟩ := natOf_rel hn hi
    split at hq
    · rename_i len e hd
      split at hq
      · rename_i b o sz hsz
        cases hb : Nat.blt n len with
        | false => simp [hb] at hq
        | true =>
          simp only [hb, cond_true, Option.some.injEq] at hq
          subst hq
          have hlt : n < len := by simpa [Nat.blt_eq] using hb
          simp only [VRel] at ha ⊢
          obtain ⟨B, O, S, hB, rfl⟩ := ha
          refine ⟨_, ?_, B, O, S, hB, rfl⟩
          simp [Instr.indexAt, run_asIntOf, run_und hd, Instr.sureAddr, run_size hsz, addr_add, hlt, Nat.add_assoc]
      · cases hq
    · rename_i e hd
      split at hq
      · rename_i b o len cap x es sz hsz
        cases hb : Nat.blt n len with
        | false => simp [hb] at hq
        | true =>
          simp only [hb, cond_true, Option.some.injEq] at hq
          subst hq
          have hlt : n < len := by simpa [Nat.blt_eq] using hb
          simp only [VRel] at ha ⊢
          obtain ⟨B, O, S, cap', hB, rfl, _⟩ := ha
          refine ⟨_, ?_, B, O, S, hB, rfl⟩
          simp [Instr.indexAt, run_asIntOf, run_und hd, run_size hsz, addr_add, hlt, Nat.add_assoc]
      · cases hq
    · cases hq
  · cases hq

theorem qIndex_rel {t : TypeId} {a i v : V} (hq : qIndex P t a i = some v) {A I : Value} (ha : VRel ρ a A) (hi : VRel ρ i I) : ∃ X, (Instr.index t A I).run P w = .ok X w ∧ VRel ρ v X := by
  unfold qIndex at hq
  split at hq
  · rename_i n hn
    obtain ⟨k, rfl⟩ := natOf_rel hn hi
    split at hq
    · rename_i len e hd
      split at hq
      · rename_i l sz hsz
        cases hb : Nat.blt n len with
        | false => simp [hb] at hq
        | true =>
          simp only [hb, cond_true] at hq
          have hlt : n < len := by simpa [Nat.blt_eq] using hb
          simp only [VRel] at ha
          obtain ⟨cs, rfl, hl⟩ := ha
          obtain ⟨X, h1, h2⟩ := partE_rel (w := w) hq hl
          exact ⟨X, by simp [Instr.index, run_asIntOf, run_und hd, run_size hsz, hlt, h1], h2⟩
      · cases hq
    · rename_i hd
      split at hq
      · rename_i x
        cases hb : Nat.blt n x.n with
        | false => simp [hb] at hq
        | true =>
          simp only [hb, cond_true, Option.some.injEq] at hq
          subst hq
          have hlt : n < x.n := by simpa [Nat.blt_eq] using hb
          simp only [VRel] at ha ⊢
          subst ha
          obtain ⟨c, h1, h2⟩ := BS.den_get x n hlt
          refine ⟨_, ?_, rfl⟩
          simp [Instr.index, run_asIntOf, run_und hd, h1, h2]
      · cases hq
    · cases hq
  · cases hq

end
end Go.Eng
