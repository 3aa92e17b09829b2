/-
  Texts of this claim, one behind the other: EngE EngF EngG EngH. Each says its own conditions.
-/
import Derived.Test.YtechbadkbiognaaFlaM1
import Derived.MapKept

set_option linter.unusedVariables false
set_option linter.unusedSimpArgs false
set_option linter.unusedSectionVars false
section
namespace Go.Eng
set_option linter.unusedSimpArgs false
set_option linter.unusedVariables false

section
variable {P : Program} {base : Nat} {ρ : Env} {s : St} {w : World}

theorem vint (k : IntKind) (n : Int) : VRel ρ (.int k n) (.int k n) := by simp only [VRel]
theorem vbool (b : Bool) : VRel ρ (.bool b) (.bool b) := by simp only [VRel]
theorem vstr (s : BS) : VRel ρ (.str s) (.string s.den) := by simp only [VRel]
theorem part_cell {t : TypeId} {A : Array Value} {off : Nat} {X : Value} (ht : isAggE P t = some false) (h : A[off]? = some X) : (part t A off).run P w = .ok X w := by
  simp [part, run_isAgg ht, h]

theorem eqFields_rel (d : Nat) {nest : TypeId → V → V → Option Bool} (hnest : ∀ t a b r, nest t a b = some r → ∀ A B, VRel ρ a A → VRel ρ b B → (Op.equalIn (d + 1) t A B).run P w = .ok r w) :
    ∀ (fs : List Field) {l m : List V} {r : Bool}, eqFields P nest fs l m = some r → ∀ {A B : Array Value}, LRel ρ l A.toList → LRel ρ m B.toList →
    (Op.eqFields (d + 1) A B fs).run P w = .ok r w
  | [], l, m, r, h, A, B, ha, hb => by simp only [eqFields] at h; cases h; simp [Op.eqFields]
  | f :: rest, l, m, r, h, A, B, ha, hb => by
    have ih := fun {r} h => eqFields_rel d hnest rest (l := l) (m := m) (r := r) h ha hb
    simp only [eqFields, lget_eq, eqQ_eq, kEq_iff] at h
    cases hn : (f.name == "_") with
    | true => simp [hn] at h
    | false =>
      simp only [hn, cond_false] at h
      have hne : f.name ≠ "_" := by simpa using hn
      simp only [Op.eqFields, hne, ne_eq, not_false_eq_true, if_true]
      split at h
      · rename_i k0 hd
        have hag : isAggE P f.type = some false := by simp [isAggE, hd]
        split at h
        · rename_i k x k' y h1 h2
          cases hkk : decide (k = k') with
          | false => simp [hkk] at h
          | true =>
            have hk : k = k' := by simpa using hkk
            subst hk
            simp only [decide_true, cond_true] at h
            obtain ⟨X, e1, e2⟩ := ha.get h1
            obtain ⟨Y, e3, e4⟩ := hb.get h2
            simp only [VRel] at e2 e4; subst e2; subst e4
            simp only [Array.getElem?_toList] at e1 e3
            simp only [Sem.run_bind, part_cell hag e1, part_cell hag e3, Result.andThen_ok, run_equalIn_int w d _ _ _ _ _ hd]
            cases hxy : (x == y) with
            | true =>
              simp only [hxy, cond_true] at h
              simpa using ih h
            | false =>
              simp only [hxy, cond_false, Option.some.injEq] at h
              subst h; simp
        · cases h
      · rename_i hd
        have hag : isAggE P f.type = some false := by simp [isAggE, hd]
        split at h
        · rename_i x y h1 h2
          obtain ⟨X, e1, e2⟩ := ha.get h1
          obtain ⟨Y, e3, e4⟩ := hb.get h2
          simp only [VRel] at e2 e4; subst e2; subst e4
          simp only [Array.getElem?_toList] at e1 e3
          simp only [Sem.run_bind, part_cell hag e1, part_cell hag e3, Result.andThen_ok, run_equalIn_bool w d _ _ _ hd]
          cases hxy : (x == y) with
          | true =>
            simp only [hxy, cond_true] at h
            simpa using ih h
          | false =>
            simp only [hxy, cond_false, Option.some.injEq] at h
            subst h; simp
        · cases h
      · rename_i hd
        have hag : isAggE P f.type = some false := by simp [isAggE, hd]
        split at h
        · rename_i x y h1 h2
          obtain ⟨X, e1, e2⟩ := ha.get h1
          obtain ⟨Y, e3, e4⟩ := hb.get h2
          simp only [VRel] at e2 e4; subst e2; subst e4
          simp only [Array.getElem?_toList] at e1 e3
          have he := BS.eq_iff x y
          simp only [Sem.run_bind, part_cell hag e1, part_cell hag e3, Result.andThen_ok, run_equalIn_string w d _ _ _ hd, ByteArray.toList_eq, ← he]
          cases hxy : x.eq y with
          | true =>
            simp only [hxy, cond_true] at h
            simpa using ih h
          | false =>
            simp only [hxy, cond_false, Option.some.injEq] at h
            subst h; simp
        · cases h
      · rename_i hd
        split at h
        · rename_i x y h1 h2
          obtain ⟨X, e1, e2⟩ := partE_rel (w := w) h1 ha
          obtain ⟨Y, e3, e4⟩ := partE_rel (w := w) h2 hb
          split at h
          · rename_i hx
            simp only [Sem.run_bind, e1, e3, Result.andThen_ok, hnest _ _ _ _ hx _ _ e2 e4]
            simpa using ih h
          · rename_i hx
            cases h
            simp only [Sem.run_bind, e1, e3, Result.andThen_ok, hnest _ _ _ _ hx _ _ e2 e4]
            simp
          · cases h
        · cases h
      · cases h

theorem eqNest_rel : ∀ (n d : Nat), n < d → ∀ t a b r, eqNest P n t a b = some r → ∀ A B, VRel ρ a A → VRel ρ b B → (Op.equalIn (d + 1) t A B).run P w = .ok r w
  | 0, _, _, _, _, _, _, h, _, _, _, _ => by simp only [eqNest] at h; cases h
  | n + 1, d, hd, t, a, b, r, h, A, B, ha, hb => by
    simp only [eqNest] at h
    split at h
    · rename_i fs hu
      split at h
      · rename_i l m
        cases hg : P.stoodInHeld t with
        | true => simp [hg] at h
        | false =>
          simp only [hg, cond_false] at h
          simp only [VRel] at ha hb
          obtain ⟨xs, rfl, ha⟩ := ha
          obtain ⟨ys, rfl, hb⟩ := hb
          have hf : P.fieldsOf t = fs := by simp [Program.fieldsOf, hu]
          have := run_equalIn_struct w d t xs ys (by rw [hf]; exact hu) hg
          obtain ⟨e, rfl⟩ : ∃ e, d = e + 1 := ⟨d - 1, by omega⟩
          rw [hf, eqFields_rel e (eqNest_rel n e (by omega)) _ h ha hb] at this
          exact this
      · cases h
    · cases h

theorem eqE_shape {t : TypeId} {a b : V} {r : Bool} (hq : eqE P s t a b = some r) {A B : Value} (ha : VRel ρ a A) (hb : VRel ρ b B) (op : BinOp) (x y : Operand) :
    (eqGuard op t x y A B).run P w = .ok () w ∧ Go.binOp .eql t A B = (do pure (.bool (← Op.equal t A B))) ∧ Go.binOp .neq t A B = (do pure (.bool (!(← Op.equal t A B)))) := by
  unfold eqE at hq
  split at hq <;> (try (cases hq; done)) <;> split at hq <;> (try (cases hq; done)) <;>
    simp only [VRel] at ha hb <;> (try obtain ⟨_, _, _, _, _, rfl, _⟩ := ha) <;> (try obtain ⟨_, _, _, _, rfl⟩ := ha) <;> (try obtain ⟨_, _, rfl, _⟩ := ha) <;> (try obtain ⟨_, rfl, _⟩ := ha) <;>
    (try obtain ⟨_, _, _, _, _, rfl, _⟩ := hb) <;> (try obtain ⟨_, _, _, _, rfl⟩ := hb) <;> (try obtain ⟨_, _, rfl, _⟩ := hb) <;> (try obtain ⟨_, rfl, _⟩ := hb) <;>
    (try subst ha) <;> (try subst hb) <;> refine ⟨?_, rfl, rfl⟩ <;> cases op <;> simp [eqGuard]

theorem eqAny_rel (h : SRel base ρ s w) {t : TypeId} {a b : V} {r : Bool} (hq : eqAny P s t a b = some r) {A B : Value} (ha : VRel ρ a A) (hb : VRel ρ b B) (op : BinOp) (x y : Operand) :
    (eqGuard op t x y A B).run P w = .ok () w ∧ (Go.binOp .eql t A B).run P w = .ok (.bool r) w ∧ (Go.binOp .neq t A B).run P w = .ok (.bool (!r)) w := by
  unfold eqAny at hq
  split at hq
  · rename_i r' hr
    cases hq
    obtain ⟨h1, h2, h3⟩ := eqE_shape (w := w) hr ha hb op x y
    have := eqE_rel h hr ha hb 9999
    rw [h2, h3]
    refine ⟨h1, ?_, ?_⟩ <;> simp [Op.equal, Op.maxDepth, this]
  split at hq
  · rename_i r' hr
    cases hq
    unfold eqNil2 at hr
    split at hr
    · rename_i ms hd
      split at hr
      · cases hm : ms.isEmpty with
        | false => rw [hm] at hr; cases hr
        | true =>
          rw [hm, cond_true] at hr
          cases hr
          simp only [VRel] at ha hb; subst ha; subst hb
          have k1 : ∀ d, (Op.eqGuardIn (d + 1) t .nilIface .nilIface).run P w = .ok false w := fun d => by simp [Op.eqGuardIn, run_und hd, hm]
          have k2 : ∀ d, (Op.equalIn (d + 1) t .nilIface .nilIface).run P w = .ok true w := fun d => by simp [Op.equalIn, run_und hd]
          have g1 : (Op.eqGuardIn Op.maxDepth t .nilIface .nilIface).run P w = .ok false w := k1 9999
          have g2 : (Op.equal t .nilIface .nilIface).run P w = .ok true w := k2 9999
          refine ⟨?_, ?_, ?_⟩
          · cases op <;> simp [eqGuard, g1]
          · have e : Go.binOp .eql t .nilIface .nilIface = (do pure (.bool (← Op.equal t .nilIface .nilIface))) := rfl
            rw [e]; simp [g2]
          · have e : Go.binOp .neq t .nilIface .nilIface = (do pure (.bool (!(← Op.equal t .nilIface .nilIface)))) := rfl
            rw [e]; simp [g2]
      · cases hr
    · cases hr
  · unfold eqStruct at hq
    split at hq
    · rename_i fs hd
      split at hq
      · rename_i l m
        cases hg : (P.stoodInHeld t || P.eqGuardType P.depth t) with
        | true => simp [hg] at hq
        | false =>
          simp only [hg, cond_false] at hq
          simp only [Bool.or_eq_false_iff] at hg
          simp only [VRel] at ha hb
          obtain ⟨xs, rfl, ha⟩ := ha
          obtain ⟨ys, rfl, hb⟩ := hb
          have hf : P.fieldsOf t = fs := by simp [Program.fieldsOf, hd]
          have := run_equalIn_struct w 9999 t xs ys (by rw [hf]; exact hd) hg.1
          rw [hf, eqFields_rel 9998 (eqNest_rel 6 9998 (by omega)) _ hq ha hb] at this
          exact ⟨run_eqGuard_agg w op t x y xs ys hg.2, by rw [run_eql_struct, this]; rfl, by rw [run_neq_struct, this]; rfl⟩
      · cases hq
    · cases hq

theorem qBin_rel (h : SRel base ρ s w) {op : BinOp} {t : TypeId} {a b v : V} (hq : qBin P s op t a b = some v) {A B : Value} (ha : VRel ρ a A) (hb : VRel ρ b B) (x y : Operand) :
    ∃ X, (do eqGuard op t x y A B; Go.binOp op t A B : Sem Value).run P w = .ok X w ∧ VRel ρ v X := by
  unfold qBin at hq
  split at hq
  · rename_i k x1 k' y1
    simp only [VRel] at ha hb; subst ha; subst hb
    have hg : (eqGuard op t x y (.int k x1) (.int k' y1)).run P w = .ok () w := by cases op <;> simp [eqGuard]
    simp only [Sem.run_bind, hg, Result.andThen_ok]
    split at hq
    · exact shiftE_rel (k' := k') hq
    · exact shiftE_rel (k' := k') hq
    · rename_i h1 h2
      rw [kEq_iff] at hq
      cases hkk : decide (k = k') with
      | false => simp [hkk] at hq
      | true =>
        have hk : k = k' := by simpa using hkk
        subst hk
        simp only [decide_true, cond_true] at hq
        exact intBin_rel hq h1 h2 t
  · rename_i x1 y1
    simp only [VRel] at ha hb; subst ha; subst hb
    have hg : (eqGuard op t x y (.string x1.den) (.string y1.den)).run P w = .ok () w := by cases op <;> simp [eqGuard]
    simp only [Sem.run_bind, hg, Result.andThen_ok]
    have : Go.binOp op t (.string x1.den) (.string y1.den) = Op.stringOp op x1.den y1.den := by cases op <;> rfl
    rw [this]
    exact strBin_rel hq
  · split at hq
    · split at hq
      · rename_i r hr
        cases hq
        obtain ⟨h1, h2, _⟩ := eqAny_rel h hr ha hb .eql x y
        exact ⟨.bool r, by simp [h1, h2], by simp [VRel]⟩
      · cases hq
    · split at hq
      · rename_i r hr
        cases hq
        obtain ⟨h1, _, h2⟩ := eqAny_rel h hr ha hb .neq x y
        exact ⟨.bool (!r), by simp [h1, h2], by simp [VRel]⟩
      · cases hq
    · cases hq

theorem qUn_rel {op : UnOp} {a v : V} (hq : qUn op a = some v) {A : Value} (ha : VRel ρ a A) : ∃ X, (Op.unary op A).run P w = .ok X w ∧ VRel ρ v X := by
  unfold qUn at hq
  split at hq <;> cases hq <;> simp only [VRel] at ha <;> subst ha
  · rename_i k n
    exact ⟨.int k (k.wrap (0 - n)), by simp [Op.unary, Op.intArith], by simp only [VRel, wrapQ_eq]⟩
  · rename_i k n
    have e : ofI k (if k.signed = true then -1 else k.max) = kM k - 1 := by cases k <;> rfl
    refine ⟨.int k (k.wrap ((Nat.xor (kM k - 1) (ofI k n) : Nat) : Int)), ?_, by simp only [VRel, wrapQ_eq]; rfl⟩
    simp only [Op.unary, Op.intBits, Sem.run_pure, BitVec.toNat_xor, bits_toNat, e]
    rfl
  · exact ⟨_, by simp [Op.unary], vbool _⟩

theorem bytesOf_rel : ∀ {l : List V} {r : List UInt8}, bytesOf l = some r → ∀ {L : List Value}, LRel ρ l L → ∃ ns : List Int, L = ns.map (Value.int .u8) ∧ r = ns.map fun n => UInt8.ofNat n.toNat
  | [], r, h, L, hl => by
    simp only [bytesOf, Option.some.injEq] at h; subst h
    have hl : L = [] := hl
    exact ⟨[], by simp [hl], rfl⟩
  | v :: l, r, h, L, hl => by
    obtain ⟨X, Y, rfl, h1, h2⟩ := hl
    unfold bytesOf at h
    split at h
    · rename_i e; cases e
    · rename_i n l' e
      cases e
      split at h
      · rename_i r' hr
        cases h
        obtain ⟨ns, e1, e2⟩ := bytesOf_rel hr h2
        simp only [VRel] at h1
        exact ⟨n :: ns, by simp [h1, e1], by simp [e2]⟩
      · cases h
    · cases h

theorem foldl_push : ∀ (ns : List Int) (r : ByteArray), (ns.foldl (fun r n => r.push (UInt8.ofNat n.toNat)) r).data.toList = r.data.toList ++ ns.map fun n => UInt8.ofNat n.toNat
  | [], r => by simp
  | n :: ns, r => by
    simp only [List.foldl_cons, List.map_cons]
    rw [foldl_push ns]
    simp [ByteArray.push]

theorem qConv_rel (h : SRel base ρ s w) {src dst : TypeId} {a v : V} (hq : qConv P s src dst a = some v) {A : Value} (ha : VRel ρ a A) :
    ∃ X, (Go.convert src dst A).run P w = .ok X w ∧ VRel ρ v X := by
  unfold qConv at hq
  split at hq
  · rename_i sd dd hs hd
    split at hq
    · split at hq <;> cases hq
      simp only [VRel] at ha; subst ha
      rename_i k
      exact ⟨.int k (k.wrap _), by simp [Go.convert, run_und hs, run_und hd, Conv.intToInt]; rfl, by simp only [VRel, wrapQ_eq]⟩
    · split at hq <;> cases hq
      simp only [VRel] at ha; subst ha
      exact ⟨_, by simp [Go.convert, run_und hs, run_und hd], vstr _⟩
    · split at hq
      · rename_i e
        split at hq
        · rename_i he
          cases hq
          simp only [VRel] at ha; subst ha
          refine ⟨.string .empty, by simp [Go.convert, run_und hs, run_und hd, run_und he, Conv.bytesToString], ?_⟩
          simp only [VRel]; congr 1
        · cases hq
      · cases hq
    · rename_i b o len cap x es
      split at hq
      · rename_i e
        split at hq
        · rename_i he
          split at hq
          · rename_i cs hcs
            simp only [llen_eq, ltake_eq, ldrop_eq] at hq
            cases hb : Nat.ble (o + len) cs.length with
            | false => simp [hb] at hq
            | true =>
              rw [hb] at hq; simp only [cond_true] at hq
              split at hq
              · rename_i r hr
                cases hq
                simp only [VRel] at ha
                obtain ⟨B, O, S, cap', hB, rfl, _⟩ := ha
                obtain ⟨x', hx, hc⟩ := h.cellsAt hcs hB
                rw [hB] at hx; cases hx
                have key := hc.load (P := P) o len (by rw [← Nat.ble_eq]; exact hb)
                obtain ⟨L, hL, hl⟩ := key
                obtain ⟨ns, e1, e2⟩ := bytesOf_rel hr hl
                subst e1
                refine ⟨.string _, by rw [run_convert_bytes_string w src dst e _ _ _ hs he hd, run_bytesToString w _ _ _ ns hL], ?_⟩
                simp only [VRel]
                congr 1
                apply ba_ext
                rw [foldl_push, BS.den_ofList, e2]; simp
              · cases hq
          · cases hq
        · cases hq
      · cases hq
    · cases hq
  · cases hq

theorem qFieldAddr_rel {t : TypeId} {a v : V} {i : Nat} (hq : qFieldAddr P t a i = some v) {A : Value} (ha : VRel ρ a A) : ∃ X, (Instr.fieldAt t A i).run P w = .ok X w ∧ VRel ρ v X := by
  unfold qFieldAddr at hq
  split at hq
  · rename_i fs hd
    split at hq
    · rename_i f hf
      split at hq
      · rename_i n hn
        split at hq
        · rename_i b o
          cases hq
          simp only [VRel] at ha ⊢
          obtain ⟨B, O, S, hB, rfl⟩ := ha
          refine ⟨_, ?_, B, O, S, hB, rfl⟩
          simp [Instr.fieldAt, run_und hd, hf, Instr.sureAddr, fieldPlace, run_size hn, addr_add, Nat.add_assoc]
        · cases hq
      · cases hq
    · cases hq
  · cases hq

theorem qField_rel {t : TypeId} {a v : V} {i : Nat} (hq : qField P t a i = some v) {A : Value} (ha : VRel ρ a A) : ∃ X, (Instr.field t A i).run P w = .ok X w ∧ VRel ρ v X := by
  unfold qField at hq
  split at hq
  · rename_i fs hd
    split at hq
    · rename_i f hf
      split at hq
      · rename_i l
        simp only [VRel] at ha
        obtain ⟨cs, rfl, hl⟩ := ha
        obtain ⟨X, h1, h2⟩ := partE_rel (w := w) hq hl
        exact ⟨X, by simp [Instr.field, run_und hd, hf, asAgg, h1], h2⟩
      · cases hq
    · cases hq
  · cases hq

theorem natOf_rel {v : V} {n : Nat} (h : natOf v = some n) {A : Value} (ha : VRel ρ v A) : ∃ k, A = .int k (n : Int) := by
  unfold natOf at h
  split at h
  · cases h; simp only [VRel] at ha; exact ⟨_, ha⟩
  · cases h

theorem run_asIntOf (k : IntKind) (n : Int) : (asIntOf (.int k n)).run P w = .ok (k, n) w := rfl

theorem qIndexAddr_rel {t : TypeId} {a i v : V} (hq : qIndexAddr P t a i = some v) {A I : Value} (ha : VRel ρ a A) (hi : VRel ρ i I) : ∃ X, (Instr.indexAt t A I).run P w = .ok X w ∧ VRel ρ v X := by
  unfold qIndexAddr at hq
  split at hq
  · rename_i n hn
    obtain ⟨k, rfl⟩ := natOf_rel hn hi
    split at hq
    · rename_i len e hd
      split at hq
      · rename_i b o sz hsz
        cases hb : Nat.blt n len with
        | false => simp [hb] at hq
        | true =>
          simp only [hb, cond_true, Option.some.injEq] at hq
          subst hq
          have hlt : n < len := by simpa [Nat.blt_eq] using hb
          simp only [VRel] at ha ⊢
          obtain ⟨B, O, S, hB, rfl⟩ := ha
          refine ⟨_, ?_, B, O, S, hB, rfl⟩
          simp [Instr.indexAt, run_asIntOf, run_und hd, Instr.sureAddr, run_size hsz, addr_add, hlt, Nat.add_assoc]
      · cases hq
    · rename_i e hd
      split at hq
      · rename_i b o len cap x es sz hsz
        cases hb : Nat.blt n len with
        | false => simp [hb] at hq
        | true =>
          simp only [hb, cond_true, Option.some.injEq] at hq
          subst hq
          have hlt : n < len := by simpa [Nat.blt_eq] using hb
          simp only [VRel] at ha ⊢
          obtain ⟨B, O, S, cap', hB, rfl, _⟩ := ha
          refine ⟨_, ?_, B, O, S, hB, rfl⟩
          simp [Instr.indexAt, run_asIntOf, run_und hd, run_size hsz, addr_add, hlt, Nat.add_assoc]
      · cases hq
    · cases hq
  · cases hq

theorem qIndex_rel {t : TypeId} {a i v : V} (hq : qIndex P t a i = some v) {A I : Value} (ha : VRel ρ a A) (hi : VRel ρ i I) : ∃ X, (Instr.index t A I).run P w = .ok X w ∧ VRel ρ v X := by
  unfold qIndex at hq
  split at hq
  · rename_i n hn
    obtain ⟨k, rfl⟩ := natOf_rel hn hi
    split at hq
    · rename_i len e hd
      split at hq
      · rename_i l sz hsz
        cases hb : Nat.blt n len with
        | false => simp [hb] at hq
        | true =>
          simp only [hb, cond_true] at hq
          have hlt : n < len := by simpa [Nat.blt_eq] using hb
          simp only [VRel] at ha
          obtain ⟨cs, rfl, hl⟩ := ha
          obtain ⟨X, h1, h2⟩ := partE_rel (w := w) hq hl
          exact ⟨X, by simp [Instr.index, run_asIntOf, run_und hd, run_size hsz, hlt, h1], h2⟩
      · cases hq
    · rename_i hd
      split at hq
      · rename_i x
        cases hb : Nat.blt n x.n with
        | false => simp [hb] at hq
        | true =>
          simp only [hb, cond_true, Option.some.injEq] at hq
          subst hq
          have hlt : n < x.n := by simpa [Nat.blt_eq] using hb
          simp only [VRel] at ha ⊢
          subst ha
          obtain ⟨c, h1, h2⟩ := BS.den_get x n hlt
          refine ⟨_, ?_, rfl⟩
          simp [Instr.index, run_asIntOf, run_und hd, h1, h2]
      · cases hq
    · cases hq
  · cases hq

end
end Go.Eng
end

section
namespace Go.Eng
set_option linter.unusedSimpArgs false
set_option linter.unusedVariables false

section
variable {P : Program} {base : Nat} {ρ : Env} {s : St} {w : World}

def OptRel (ρ : Env) : Option V → Option Value → Prop
  | none, X => X = none
  | some v, X => ∃ W, X = some W ∧ VRel ρ v W

theorem optO_rel {ev : Operand → Option V} {A : Act} (hA : EvRel ρ ev A) {x : Option Operand} {v : Option V} (h : optO ev x = some v) : OptRel ρ v (x.map A.eval) := by
  unfold optO at h
  split at h
  · cases h; rfl
  · split at h
    · rename_i hv; cases h; exact ⟨_, rfl, evalO_rel hA hv⟩
    · cases h

theorem boundE_rel {v : Option V} {d n : Nat} (h : boundE v d = some n) {X : Option Value} (hx : OptRel ρ v X) : (X = none ∧ v = none ∧ n = d) ∨ ∃ k, X = some (.int k (n : Int)) := by
  unfold boundE at h
  split at h
  · cases h; exact .inl ⟨hx, rfl, rfl⟩
  · obtain ⟨W, rfl, hw⟩ := hx
    obtain ⟨k, rfl⟩ := natOf_rel h hw
    exact .inr ⟨k, rfl⟩

theorem run_sliceBound {k : IntKind} {n y : Nat} {c : BoundsCode} (h : n ≤ y) : (Instr.sliceBound (.int k (n : Int)) y c).run P w = .ok n w := by
  simp [Instr.sliceBound, run_asIntOf, h]

theorem run_bounds {b : Bool} {len cap l h : Nat} {LO HI : Option Value} (hlo : (LO = none ∧ l = 0) ∨ ∃ k, LO = some (.int k (l : Int))) (hhi : (HI = none ∧ h = len) ∨ ∃ k, HI = some (.int k (h : Int)))
    (h1 : l ≤ h) (h2 : h ≤ cap) : (Instr.sliceBounds b len cap LO HI none).run P w = .ok (l, h, cap) w := by
  rcases hlo with ⟨rfl, rfl⟩ | ⟨k, rfl⟩ <;> rcases hhi with ⟨rfl, rfl⟩ | ⟨k', rfl⟩ <;>
    simp [Instr.sliceBounds, run_sliceBound h2, run_sliceBound h1]

theorem run_bounds3 {b : Bool} {len cap l h m : Nat} {LO : Option Value} (hlo : (LO = none ∧ l = 0) ∨ ∃ k, LO = some (.int k (l : Int))) {k k' : IntKind}
    (h1 : l ≤ h) (h2 : h ≤ m) (h3 : m ≤ cap) : (Instr.sliceBounds b len cap LO (some (.int k (h : Int))) (some (.int k' (m : Int)))).run P w = .ok (l, h, m) w := by
  rcases hlo with ⟨rfl, rfl⟩ | ⟨k, rfl⟩ <;> simp [Instr.sliceBounds, run_sliceBound h3, run_sliceBound h2, run_sliceBound h1]

theorem qSliceZ_rel {t e : TypeId} {sz : Nat} (hd : P.underlying t = some (.slice e)) (hsz : szE P e = some sz) {a v : V} {b : Option Addr} {c : Nat} (ha : VRel ρ a (.slice b 0 c)) (hbc : b = none → c = 0) {l : Nat} {hi mx : Option V} (hq : qSliceZ a l hi mx = some v)
    (hk : a = .nils ∨ ∃ x, a = .slz x) {LO HI MX : Option Value} (hL : (LO = none ∧ l = 0) ∨ ∃ k, LO = some (.int k (l : Int))) (hhi : OptRel ρ hi HI) (hmx : OptRel ρ mx MX) :
    ∃ X, (Instr.sliceAt t (.slice b 0 c) LO HI MX).run P w = .ok X w ∧ VRel ρ v X := by
  unfold qSliceZ at hq
  cases hl : Nat.beq l 0 with
  | false => rw [hl] at hq; cases hq
  | true =>
    rw [hl, cond_true] at hq
    have hl0 : l = 0 := Nat.eq_of_beq_eq_true hl
    subst hl0
    split at hq
    · rename_i h0
      have hH : (HI = none ∧ 0 = 0) ∨ ∃ k, HI = some (.int k ((0 : Nat) : Int)) := (boundE_rel h0 hhi).imp (fun x => ⟨x.1, x.2.2⟩) id
      split at hq
      · have hmx : MX = none := hmx
        subst hmx
        cases hq
        have hrun := run_bounds (P := P) (w := w) (b := b.isSome) (cap := c) hL hH (Nat.le_refl 0) (Nat.zero_le _)
        cases b with
        | none =>
          have := hbc rfl; subst this
          exact ⟨.slice none 0 0, by simp [Instr.sliceAt, run_und hd, Instr.slice, run_size hsz, run_bounds (P := P) (w := w) (b := true) (cap := 0) hL hH (Nat.le_refl 0) (Nat.le_refl 0)], ha⟩
        | some ad =>
          refine ⟨.slice (if c = 0 then some ad else some (ad.add (0 * sz))) 0 c, by simp [Instr.sliceAt, run_und hd, Instr.slice, run_size hsz, run_bounds (P := P) (w := w) (b := true) (cap := c) hL hH (Nat.le_refl 0) (Nat.zero_le _)], ?_⟩
          rcases hk with rfl | ⟨x, rfl⟩
          · simp only [VRel] at ha; cases ha
          · simp only [VRel] at ha ⊢
            obtain ⟨a', c', e, hc⟩ := ha
            cases e
            split
            · exact ⟨_, _, rfl, hc⟩
            · exact ⟨_, _, rfl, hc⟩
      · rename_i mv
        split at hq
        · rename_i hv hm0
          obtain ⟨W, rfl, hw⟩ := hmx
          obtain ⟨km, rfl⟩ := natOf_rel hm0 hw
          obtain ⟨kh, rfl⟩ : ∃ k, HI = some (.int k ((0 : Nat) : Int)) := by
            rcases hH with ⟨e, _⟩ | h
            · obtain ⟨_, e', _⟩ := hhi; rw [e] at e'; cases e'
            · exact h
          cases hq
          cases b with
          | none =>
            have := hbc rfl; subst this
            have hb3 : (Instr.sliceBounds true 0 0 LO (some (.int kh 0)) (some (.int km 0))).run P w = .ok (0, 0, 0) w := run_bounds3 (P := P) (w := w) (b := true) (len := 0) (cap := 0) hL (k := kh) (k' := km) (Nat.le_refl 0) (Nat.le_refl 0) (Nat.le_refl 0)
            refine ⟨.slice none 0 0, by simp [Instr.sliceAt, run_und hd, Instr.slice, run_size hsz, hb3], ?_⟩
            rcases hk with rfl | ⟨x, rfl⟩
            · exact ha
            · simp only [VRel] at ha; obtain ⟨_, _, e, _⟩ := ha; cases e
          | some ad =>
            have hb3 : (Instr.sliceBounds true 0 c LO (some (.int kh 0)) (some (.int km 0))).run P w = .ok (0, 0, 0) w := run_bounds3 (P := P) (w := w) (b := true) (len := 0) (cap := c) hL (k := kh) (k' := km) (Nat.le_refl 0) (Nat.le_refl 0) (Nat.zero_le _)
            refine ⟨.slice (some ad) 0 0, by simp [Instr.sliceAt, run_und hd, Instr.slice, run_size hsz, hb3], ?_⟩
            rcases hk with rfl | ⟨x, rfl⟩
            · simp only [VRel] at ha; cases ha
            · simp only [VRel]; exact ⟨_, _, rfl, fun _ => rfl⟩
        · cases hq
    · cases hq

theorem qSlice_rel (h : SRel base ρ s w) {t : TypeId} {a v : V} {lo hi mx : Option V} (hq : qSlice P s t a lo hi mx = some v) {A : Value} {LO HI MX : Option Value}
    (ha : VRel ρ a A) (hlo : OptRel ρ lo LO) (hhi : OptRel ρ hi HI) (hmx : OptRel ρ mx MX) : ∃ X, (Instr.sliceAt t A LO HI MX).run P w = .ok X w ∧ VRel ρ v X := by
  unfold qSlice at hq
  split at hq
  · cases hq
  rename_i l hl
  have hL : (LO = none ∧ l = 0) ∨ ∃ k, LO = some (.int k (l : Int)) := (boundE_rel hl hlo).imp (fun x => ⟨x.1, x.2.2⟩) id
  split at hq
  · rename_i hd
    split at hq
    · rename_i x
      have hmx : MX = none := hmx
      subst hmx
      split at hq
      · rename_i hh hhe
        have hH : (HI = none ∧ hh = x.n) ∨ ∃ k, HI = some (.int k (hh : Int)) := (boundE_rel hhe hhi).imp (fun x => ⟨x.1, x.2.2⟩) id
        cases hb : (Nat.ble l hh && Nat.ble hh x.n) with
        | false => simp [hb] at hq
        | true =>
          simp only [hb, cond_true, Option.some.injEq] at hq
          subst hq
          simp only [Bool.and_eq_true, Nat.ble_eq] at hb
          simp only [VRel] at ha; subst ha
          refine ⟨_, ?_, vstr _⟩
          rw [BS.den_sub x l hh hb.1 hb.2]
          simp [Instr.sliceAt, run_und hd, Instr.slice, BS.den_size, run_bounds (b := false) hL hH hb.1 hb.2]
      · cases hq
    · cases hq
  · rename_i e hd
    split at hq
    · cases hq
    rename_i sz hsz
    split at hq
    · -- nil
      simp only [VRel] at ha; subst ha
      obtain ⟨X, h1, h2⟩ := qSliceZ_rel (P := P) (w := w) (b := none) (c := 0) hd hsz (by simp only [VRel]) (by simp) hq (.inl rfl) hL hhi hmx
      exact ⟨X, h1, h2⟩
    · rename_i x
      have ha0 := ha
      simp only [VRel] at ha
      obtain ⟨a, c, rfl, hc⟩ := ha
      obtain ⟨X, h1, h2⟩ := qSliceZ_rel (P := P) (w := w) (b := some a) (c := c) hd hsz ha0 (by simp) hq (.inr ⟨x, rfl⟩) hL hhi hmx
      exact ⟨X, h1, h2⟩
    · rename_i b o len cap x es
      cases hse : Nat.beq sz es with
      | false => simp [hse] at hq
      | true =>
      have hse' : sz = es := by simpa using hse
      subst hse'
      simp only [hse, Bool.not_true, cond_false] at hq
      split at hq
      · cases hq
      rename_i hh hhe
      have hH : (HI = none ∧ hh = len) ∨ ∃ k, HI = some (.int k (hh : Int)) := (boundE_rel hhe hhi).imp (fun x => ⟨x.1, x.2.2⟩) id
      cases hb : (Nat.ble l hh && Nat.ble hh cap) with
      | false => simp [hb] at hq
      | true =>
      simp only [hb, Bool.not_true, cond_false] at hq
      simp only [Bool.and_eq_true, Nat.ble_eq] at hb
      simp only [VRel] at ha
      obtain ⟨B, O, S, cap', hB, rfl, c1, c2, c3, c4⟩ := ha
      split at hq
      · have hmx : MX = none := hmx
        subst hmx
        have hrun := run_bounds (P := P) (w := w) (b := true) (cap := cap') hL hH hb.1 (by omega)
        have hrun' : (Instr.sliceAt t (.slice (some ⟨B, O + o, none⟩) len cap') LO HI none).run P w =
            .ok (.slice (if cap' = l then some ⟨B, O + o, none⟩ else some ((⟨B, O + o, none⟩ : Addr).add (l * sz))) (hh - l) (cap' - l)) w := by
          simp [Instr.sliceAt, run_und hd, Instr.slice, run_size hsz, hrun]
        rw [hrun']
        refine ⟨_, rfl, ?_⟩
        cases hl0 : Nat.beq l 0 with
        | true =>
          have e : l = 0 := by simpa using hl0
          subst e
          simp only [hl0, cond_true, Option.some.injEq] at hq
          subst hq
          simp only [VRel]
          refine ⟨B, O, S, cap', hB, ?_, hb.2, c2, c3, c4⟩
          simp [addr_add]
        | false =>
          simp only [hl0, cond_false] at hq
          cases hlc : Nat.blt l cap with
          | true =>
            have hlt : l < cap := by simpa [Nat.blt_eq] using hlc
            simp only [hlc, cond_true, Option.some.injEq] at hq
            subst hq
            simp only [VRel]
            refine ⟨B, O, S, cap' - l, hB, ?_, by omega, by omega, fun hx => by rw [c3 hx], ?_⟩
            · rw [if_neg (by omega), addr_add, Nat.add_assoc]
            · have : l * sz + (cap' - l) * sz = cap' * sz := by rw [← Nat.add_mul]; congr 1; omega
              omega
          | false =>
            have hge : cap ≤ l := by
              refine Nat.not_lt.1 fun hh => ?_
              have : Nat.blt l cap = true := by simpa [Nat.blt_eq] using hh
              rw [hlc] at this; cases this
            simp only [hlc, cond_false] at hq
            cases hx : x with
            | false =>
              simp only [hx, cond_false, Option.some.injEq] at hq
              subst hq
              have e2 : hh - l = 0 := by omega
              simp only [VRel]
              rw [e2]
              split
              · exact ⟨_, _, rfl, fun h => (by cases h)⟩
              · exact ⟨_, _, rfl, fun h => (by cases h)⟩
            | true =>
              simp only [hx, cond_true, Option.some.injEq] at hq
              subst hq
              have hc := c3 hx
              have e1 : cap' = l := by omega
              have e2 : hh = l := by omega
              subst e2; subst e1
              simp only [VRel]
              refine ⟨B, O, S, 0, hB, by simp, by omega, by omega, fun _ => rfl, by omega⟩
      · rename_i mv hv
        split at hq
        · rename_i m hm
          obtain ⟨W, rfl, hW⟩ := hmx
          obtain ⟨k', rfl⟩ := natOf_rel hm hW
          cases hb2 : (Nat.ble hh m && Nat.ble m cap) with
          | false => simp [hb2] at hq
          | true =>
          simp only [hb2, cond_true] at hq
          simp only [Bool.and_eq_true, Nat.ble_eq] at hb2
          rcases hH with ⟨rfl, _⟩ | ⟨k, rfl⟩
          · obtain ⟨_, hh', _⟩ := hhi; cases hh'
          have hrun := run_bounds3 (P := P) (w := w) (b := true) (cap := cap') (len := len) (k := k) (k' := k') hL hb.1 hb2.1 (by omega)
          have hrun' : (Instr.sliceAt t (.slice (some ⟨B, O + o, none⟩) len cap') LO (some (.int k (hh : Int))) (some (.int k' (m : Int)))).run P w =
              .ok (.slice (if m = l then some ⟨B, O + o, none⟩ else some ((⟨B, O + o, none⟩ : Addr).add (l * sz))) (hh - l) (m - l)) w := by
            simp [Instr.sliceAt, run_und hd, Instr.slice, run_size hsz, hrun]
          rw [hrun']
          refine ⟨_, rfl, ?_⟩
          cases hml : Nat.beq m l with
          | true =>
            have e : m = l := by simpa using hml
            simp only [hml, cond_true, Option.some.injEq] at hq
            subst hq
            subst e
            simp only [VRel]
            refine ⟨B, O, S, 0, hB, by simp, by omega, by omega, fun _ => rfl, by omega⟩
          | false =>
            have e : m ≠ l := by intro e; subst e; simp at hml
            simp only [hml, cond_false, Option.some.injEq] at hq
            subst hq
            simp only [VRel]
            refine ⟨B, O, S, m - l, hB, by rw [if_neg e, addr_add, Nat.add_assoc], by omega, by omega, fun _ => rfl, ?_⟩
            have : l * sz + (m - l) * sz = m * sz := by rw [← Nat.add_mul]; congr 1; omega
            have : m * sz ≤ cap' * sz := Nat.mul_le_mul_right _ (by omega)
            omega
        · cases hq
      · cases hq
    · cases hq
  · rename_i n e hd
    split at hq
    · rename_i sz hsz
      have hmx : MX = none := hmx
      subst hmx
      split at hq
      · rename_i b o
        split at hq
        · rename_i cs hh hcs hhe
          have hH : (HI = none ∧ hh = n) ∨ ∃ k, HI = some (.int k (hh : Int)) := (boundE_rel hhe hhi).imp (fun x => ⟨x.1, x.2.2⟩) id
          simp only [llen_eq] at hq
          cases hb : (Nat.ble l hh && (Nat.ble hh n && (Nat.ble n 1099511627776 && Nat.ble (o + n * sz) cs.length))) with
          | false => simp [hb] at hq
          | true =>
          simp only [hb, cond_true] at hq
          simp only [Bool.and_eq_true, Nat.ble_eq] at hb
          simp only [VRel] at ha
          obtain ⟨B, O, S, hB, rfl⟩ := ha
          obtain ⟨x, hx, hc⟩ := h.cellsAt hcs hB
          rw [hB] at hx; cases hx
          obtain ⟨C, t', fr, _, _, hlen, _⟩ := hc.ex
          simp only at hlen
          have hrun := run_bounds (P := P) (w := w) (b := false) (cap := n) hL hH hb.1 hb.2.1
          have hrun' : (Instr.sliceAt t (.pointer (some ⟨B, O + o, none⟩)) LO HI none).run P w =
              .ok (.slice (some (if n = l then ⟨B, O + o, none⟩ else ((⟨B, O + o, none⟩ : Addr).add (l * sz)))) (hh - l) (n - l)) w := by
            simp [Instr.sliceAt, run_und hd, Instr.sureAddr, run_size hsz, hrun]
          rw [hrun']
          refine ⟨_, rfl, ?_⟩
          cases hnl : Nat.beq n l with
          | true =>
            have e : n = l := by simpa using hnl
            simp only [hnl, cond_true, Option.some.injEq] at hq
            subst hq
            simp only [VRel]
            refine ⟨B, O, S, 0, hB, by simp [e], by omega, by omega, fun _ => rfl, by omega⟩
          | false =>
            have e : n ≠ l := by intro e; subst e; simp at hnl
            simp only [hnl, cond_false, Option.some.injEq] at hq
            subst hq
            simp only [VRel]
            refine ⟨B, O, S, n - l, hB, by rw [if_neg e, addr_add, Nat.add_assoc], by omega, by omega, fun _ => rfl, ?_⟩
            have : l * sz + (n - l) * sz = n * sz := by rw [← Nat.add_mul]; congr 1; omega
            omega
        · cases hq
      · cases hq
    · cases hq
  · cases hq

theorem keyEq_rel {a b : V} {r : Bool} (h : keyEq a b = some r) {A B : Value} (ha : VRel ρ a A) (hb : VRel ρ b B) {kt : TypeId} {d : TypeDesc} (hd : P.underlying kt = some d) (hk : plainKeyE P kt a = true) :
    Instr.sameNow d A B = some r := by
  unfold keyEq at h
  unfold plainKeyE at hk
  rw [hd] at hk
  split at h
  · rename_i k x k' y
    rw [kEq_iff, eqQ_eq] at h
    cases hkk : decide (k = k') with
    | false => simp [hkk] at h
    | true =>
      have e : k = k' := by simpa using hkk
      subst e
      simp only [decide_true, cond_true, Option.some.injEq] at h
      subst h
      simp only [VRel] at ha hb; subst ha; subst hb
      cases d <;> simp at hk
      simp [Instr.sameNow]
  · rename_i x y
    cases h
    simp only [VRel] at ha hb; subst ha; subst hb
    cases d <;> simp at hk
    simp only [Instr.sameNow, BS.eq_iff, beq_toListBytes, ByteArray.toList_eq]
  · cases h
    simp only [VRel] at ha hb; subst ha; subst hb
    cases d <;> simp at hk
    simp [Instr.sameNow]
  · cases h

theorem findE_rel {k : V} {K : Value} (hk : VRel ρ k K) {kt : TypeId} {d : TypeDesc} (hd : P.underlying kt = some d) (hp : plainKeyE P kt k = true) :
    ∀ {l : List (V × V × Nat)} {E : List MapEntry} (_ : MRel ρ l E) (i : Nat) {r : Option (Nat × V)}, findE k l i = some r →
      (r = none ∧ Instr.findNow d K E i = some none) ∨ ∃ j v W, r = some (j, v) ∧ Instr.findNow d K E i = some (some (j, W)) ∧ VRel ρ v W
  | [], E, hm, i, r, h => by
    have hm : E = [] := hm
    subst hm
    simp only [findE] at h; cases h
    exact .inl ⟨rfl, rfl⟩
  | e :: l, E, hm, i, r, h => by
    obtain ⟨x, y, rfl, h1, h2, h3, h4⟩ := hm
    simp only [findE] at h
    split at h
    · rename_i he
      cases h
      exact .inr ⟨_, _, _, rfl, by simp [Instr.findNow, keyEq_rel he hk h1 hd hp], h2⟩
    · rename_i he
      have := findE_rel hk hd hp h4 (i + 1) h
      simpa [Instr.findNow, keyEq_rel he hk h1 hd hp] using this
    · cases h

theorem run_checkKeyE {kt : TypeId} {k : V} {K : Value} (hk : VRel ρ k K) (hp : plainKeyE P kt k = true) (e : Bool) (n : Nat) : (Instr.checkKey e (n + 1) kt K).run P w = .ok () w := by
  unfold plainKeyE at hp
  split at hp
  · rename_i hd; simp only [VRel] at hk; subst hk; simp [Instr.checkKey, run_und hd]
  · rename_i hd; simp only [VRel] at hk; subst hk; simp [Instr.checkKey, run_und hd]
  · rename_i hd; simp only [VRel] at hk; subst hk; simp [Instr.checkKey, run_und hd]
  · cases hp

theorem plainKeyE_und {kt : TypeId} {k : V} (hp : plainKeyE P kt k = true) : ∃ d, P.underlying kt = some d := by
  unfold plainKeyE at hp
  split at hp <;> rename_i hd <;> first | exact ⟨_, hd⟩ | cases hp

theorem run_findKeyE {k : V} {K : Value} (hk : VRel ρ k K) {kt : TypeId} (hp : plainKeyE P kt k = true) {l : List (V × V × Nat)} {E : List MapEntry} (hm : MRel ρ l E) {r : Option (Nat × V)} (h : findE k l 0 = some r) :
    (r = none ∧ (Instr.findKey kt K E).run P w = .ok none w) ∨ ∃ j v W, r = some (j, v) ∧ (Instr.findKey kt K E).run P w = .ok (some (j, W)) w ∧ VRel ρ v W := by
  obtain ⟨d, hd⟩ := plainKeyE_und hp
  rcases findE_rel hk hd hp hm 0 h with ⟨h1, h2⟩ | ⟨j, v, W, h1, h2, h3⟩
  · exact .inl ⟨h1, by simp [Instr.findKey, run_und hd, h2]⟩
  · exact .inr ⟨j, v, W, h1, by simp [Instr.findKey, run_und hd, h2], h3⟩

theorem zeroE_rel {t : TypeId} {z : V} (h : zeroE P t = some z) : ∃ Z, (zeroValue t).run P w = .ok Z w ∧ VRel ρ z Z ∧ (∃ i, P.info? t = some i ∧ i.zero = some Z) := by
  unfold zeroE at h
  split at h
  · rename_i i hi
    split at h
    · rename_i v hv
      exact ⟨v, by simp [zeroValue, typeInfo, hi, hv], ofVal_rel h, i, hi, hv⟩
    · cases h
  · cases h

theorem qLookup_rel (h : SRel base ρ s w) {t : TypeId} {m k v : V} {ok : Bool} (hq : qLookup P s t m k ok = some v) {M K : Value} (hm : VRel ρ m M) (hk : VRel ρ k K) :
    ∃ X, (Instr.lookup t M K ok).run P w = .ok X w ∧ VRel ρ v X := by
  unfold qLookup at hq
  split at hq
  · rename_i kt e hd
    cases hp : plainKeyE P kt k with
    | false => simp [hp] at hq
    | true =>
    simp only [hp, Bool.not_true, cond_false] at hq
    split at hq
    · cases hq
    rename_i es hes
    have key : ∃ E : Array MapEntry, MRel ρ es E.toList ∧ (Instr.lookup t M K ok).run P w = (do
        Instr.checkKey E.isEmpty 10000 kt K
        let (v, ok') ← match ← Instr.findKey kt K E.toList with
          | some (_, v) => pure (v, true)
          | none => pure (← zeroValue e, false)
        pure (if ok then .tuple #[v, .bool ok'] else v) : Sem Value).run P w := by
      split at hes
      · cases hes
        simp only [VRel] at hm; subst hm
        exact ⟨#[], rfl, by simp only [Instr.lookup, Sem.run_bind, run_und hd, Result.andThen_ok, Sem.run_pure]; rfl⟩
      · rename_i b
        split at hes
        · rename_i es' c hg
          cases hes
          simp only [VRel] at hm
          obtain ⟨B, O, S, hB, rfl⟩ := hm
          obtain ⟨x, hx, _, E, hE, hrel⟩ := h.obj' hg hB
          rw [hB] at hx; cases hx
          have hgo : (getObj B).run P w = .ok (.map E c) w := by simp only [getObj, Sem.run]; simp only at hE; rw [hE]
          exact ⟨E, hrel, by simp only [Instr.lookup, Sem.run_bind, run_und hd, Result.andThen_ok, hgo, Sem.run_pure]; rfl⟩
        · cases hes
      · cases hes
    obtain ⟨E, hrel, h0⟩ := key
    rw [h0]
    simp only [Sem.run_bind, run_checkKeyE hk hp, Result.andThen_ok]
    split at hq
    · rename_i j v' hf
      rcases run_findKeyE (w := w) hk hp hrel hf with ⟨h1, _⟩ | ⟨j', v2, W, h1, h2, h3⟩
      · cases h1
      · cases h1
        cases hq
        simp only [h2, Result.andThen_ok, Sem.run_pure]
        cases ok
        · exact ⟨_, rfl, h3⟩
        · exact ⟨_, rfl, by simp only [cond_true, VRel]; exact ⟨_, rfl, LRel.cons h3 (LRel.cons (vbool _) LRel.nil)⟩⟩
    · rename_i hf
      split at hq
      · rename_i z hz
        cases hq
        obtain ⟨Z, hZ, hz', _⟩ := zeroE_rel (ρ := ρ) (w := w) hz
        rcases run_findKeyE (w := w) hk hp hrel hf with ⟨_, h2⟩ | ⟨j', v2, W, h1, h2, h3⟩
        · simp only [h2, Result.andThen_ok, Sem.run_bind, Sem.run_pure, hZ]
          cases ok
          · exact ⟨_, rfl, hz'⟩
          · exact ⟨_, rfl, by simp only [cond_true, VRel]; exact ⟨_, rfl, LRel.cons hz' (LRel.cons (vbool _) LRel.nil)⟩⟩
        · cases h1
      · cases hq
    · cases hq
  · cases hq

theorem MRel.length : ∀ {l : List (V × V × Nat)} {E : List MapEntry}, MRel ρ l E → l.length = E.length
  | [], _, h => by have h : _ = [] := h; subst h; rfl
  | _ :: _, _, h => by obtain ⟨x, y, rfl, _, _, _, h4⟩ := h; simp [MRel.length h4]

theorem qLen_rel (h : SRel base ρ s w) {t ty : TypeId} {a v : V} (hq : qLen P s t a = some v) {A : Value} (ha : VRel ρ a A) {ts : Array TypeId} (ht : ts[0]? = some t) :
    ∃ X, (Builtin.len_ ts ty #[A]).run P w = .ok X w ∧ VRel ρ v X := by
  unfold qLen at hq
  split at hq
  · rename_i hd
    split at hq <;> cases hq
    simp only [VRel] at ha; subst ha
    exact ⟨_, by simp [Builtin.len_, ht, run_und hd, BS.den_size, goInt], vint _ _⟩
  · rename_i n e hd
    cases hq
    refine ⟨_, by simp [Builtin.len_, ht, run_und hd, goInt], vint _ _⟩
  · rename_i e hd
    split at hq <;> cases hq <;> simp only [VRel] at ha
    · subst ha
      exact ⟨_, by simp [Builtin.len_, ht, run_und hd, goInt], vint _ _⟩
    · obtain ⟨_, _, rfl, _⟩ := ha
      exact ⟨_, by simp [Builtin.len_, ht, run_und hd, goInt], vint _ _⟩
    · obtain ⟨B, O, S, cap', _, rfl, _⟩ := ha
      exact ⟨_, by simp [Builtin.len_, ht, run_und hd, goInt], vint _ _⟩
  · rename_i k e hd
    split at hq
    · cases hq
      simp only [VRel] at ha; subst ha
      exact ⟨_, by simp [Builtin.len_, ht, run_und hd, goInt], vint _ _⟩
    · split at hq
      · rename_i hg
        cases hq
        simp only [VRel] at ha
        obtain ⟨B, O, S, hB, rfl⟩ := ha
        obtain ⟨x, hx, _, E, hE, hrel⟩ := h.obj' hg hB
        rw [hB] at hx; cases hx
        refine ⟨_, ?_, vint _ _⟩
        have := hrel.length
        simp at this
        rw [llen_eq]
        simp [Builtin.len_, ht, run_und hd, goInt, getObj, Sem.run, hE, this]
      · cases hq
    · cases hq
  · rename_i arr hd
    split at hq
    · rename_i n e hd2
      cases hq
      refine ⟨_, by simp [Builtin.len_, ht, run_und hd, run_und hd2, goInt], vint _ _⟩
    · cases hq
  · cases hq

theorem qCap_rel {t ty : TypeId} {a v : V} (hq : qCap P t a = some v) {A : Value} (ha : VRel ρ a A) {ts : Array TypeId} (ht : ts[0]? = some t) :
    ∃ X, (Builtin.cap_ ts ty #[A]).run P w = .ok X w ∧ VRel ρ v X := by
  unfold qCap at hq
  split at hq
  · rename_i n e hd
    cases hq
    exact ⟨_, by simp [Builtin.cap_, ht, run_und hd, goInt], vint _ _⟩
  · rename_i e hd
    split at hq <;> cases hq <;> simp only [VRel] at ha
    · subst ha
      exact ⟨_, by simp [Builtin.cap_, ht, run_und hd, goInt], vint _ _⟩
    · obtain ⟨B, O, S, cap', _, rfl, _, _, hc, _⟩ := ha
      rw [hc trivial]
      exact ⟨_, by simp [Builtin.cap_, ht, run_und hd, goInt], vint _ _⟩
  · cases hq

theorem minMax_rel : ∀ (l : List V) (k : IntKind) (x : Int) (v : V), minMax false (.int k x) l = some v → ∀ {L : List Value}, LRel ρ l L → ∃ X, (L.foldlM Builtin.min2 (.int k x)).run P w = .ok X w ∧ VRel ρ v X
  | [], k, x, v, h, L, hl => by
    have hl : L = [] := hl
    subst hl; simp only [minMax] at h; cases h
    exact ⟨_, by simp, vint _ _⟩
  | b :: l, k, x, v, h, L, hl => by
    obtain ⟨X, Y, rfl, h1, h2⟩ := hl
    cases b <;> simp only [minMax, reduceCtorEq] at h
    simp only [VRel] at h1; subst h1
    obtain ⟨Z, e1, e2⟩ := minMax_rel l _ _ v h h2
    rename_i k' y
    have e : (bif ltQ y x then y else x) = if y < x then y else x := by rw [ltQ_eq]; by_cases hh : y < x <;> simp [hh]
    simp only [cond_false, e] at e1
    exact ⟨Z, by simpa [Builtin.min2] using e1, e2⟩
theorem maxMin_rel : ∀ (l : List V) (k : IntKind) (x : Int) (v : V), minMax true (.int k x) l = some v → ∀ {L : List Value}, LRel ρ l L → ∃ X, (L.foldlM Builtin.max2 (.int k x)).run P w = .ok X w ∧ VRel ρ v X
  | [], k, x, v, h, L, hl => by
    have hl : L = [] := hl
    subst hl; simp only [minMax] at h; cases h
    exact ⟨_, by simp, vint _ _⟩
  | b :: l, k, x, v, h, L, hl => by
    obtain ⟨X, Y, rfl, h1, h2⟩ := hl
    cases b <;> simp only [minMax, reduceCtorEq] at h
    simp only [VRel] at h1; subst h1
    obtain ⟨Z, e1, e2⟩ := maxMin_rel l _ _ v h h2
    rename_i k' y
    have e : (bif ltQ x y then y else x) = if y > x then y else x := by rw [ltQ_eq]; by_cases hh : x < y <;> simp [hh]
    simp only [cond_true, e] at e1
    exact ⟨Z, by simpa [Builtin.max2] using e1, e2⟩

theorem cellsV_rel {v : V} {X : Value} (h : VRel ρ v X) : LRel ρ (cellsV v) X.cells.toList := by
  cases v <;> simp only [VRel] at h
  all_goals first
    | (subst h; exact LRel.cons (by simp only [VRel]) LRel.nil)
    | skip
  case ptr => obtain ⟨B, O, S, h1, rfl⟩ := h; exact LRel.cons (by simp only [VRel]; exact ⟨B, O, S, h1, rfl⟩) LRel.nil
  case slz => obtain ⟨a, c, rfl, hc⟩ := h; exact LRel.cons (by simp only [VRel]; exact ⟨a, c, rfl, hc⟩) LRel.nil
  case sl => obtain ⟨B, O, S, c, h1, rfl, h2⟩ := h; exact LRel.cons (by simp only [VRel]; exact ⟨B, O, S, c, h1, rfl, h2⟩) LRel.nil
  case map => obtain ⟨B, O, S, h1, rfl⟩ := h; exact LRel.cons (by simp only [VRel]; exact ⟨B, O, S, h1, rfl⟩) LRel.nil
  case fn => obtain ⟨A, C, rfl, h2⟩ := h; exact LRel.cons (by simp only [VRel]; exact ⟨A, C, rfl, h2⟩) LRel.nil
  case yld => obtain ⟨B, O, S, h1, rfl⟩ := h; exact LRel.cons (by simp only [VRel]; exact ⟨B, O, S, h1, rfl⟩) LRel.nil
  case iface => obtain ⟨A, rfl, h2⟩ := h; exact LRel.cons (by simp only [VRel]; exact ⟨A, rfl, h2⟩) LRel.nil
  case tup => obtain ⟨A, rfl, h2⟩ := h; exact LRel.cons (by simp only [VRel]; exact ⟨A, rfl, h2⟩) LRel.nil
  case it => obtain ⟨B, S, h1, rfl⟩ := h; exact LRel.cons (by simp only [VRel]; exact ⟨B, S, h1, rfl⟩) LRel.nil
  case agg => obtain ⟨A, rfl, h2⟩ := h; exact h2

theorem setAll0_rel : ∀ {l : List V} {L : List Value}, LRel ρ l L → ∀ {cs : List V} {A : Array Value}, LRel ρ cs A.toList → ∀ (off k : Nat),
    LRel ρ (setAll0 cs (off + k) l) ((L.zipIdx k).foldl (fun (cs : Array Value) (x : Value × Nat) => cs.setIfInBounds (off + x.2) x.1) A).toList
  | [], L, h, cs, A, hA, off, k => by
    have h : L = [] := h
    subst h; simpa [setAll0] using hA
  | v :: l, L, h, cs, A, hA, off, k => by
    obtain ⟨X, Y, rfl, h1, h2⟩ := h
    simp only [setAll0, lset_eq, List.zipIdx_cons, List.foldl_cons]
    rw [Nat.add_assoc]
    exact setAll0_rel h2 (by rw [Array.toList_setIfInBounds]; exact hA.set h1) off (k + 1)

theorem setAll0_length : ∀ (l cs : List V) (off : Nat), (setAll0 cs off l).length = cs.length
  | [], _, _ => rfl
  | c :: l, cs, off => by simp [setAll0, lset_eq, setAll0_length l]

theorem setAll0_is : ∀ (l cs : List V) (off : Nat), off + l.length ≤ cs.length → setAll0 cs off l = cs.take off ++ (l ++ cs.drop (off + l.length))
  | [], cs, off, _ => by simp [setAll0]
  | c :: l, cs, off, h => by
    simp only [List.length_cons] at h
    have hlt : off < cs.length := by omega
    rw [setAll0, lset_eq, setAll0_is l (cs.set off c) (off + 1) (by rw [List.length_set]; omega), List.take_set, List.drop_set_of_lt (by omega)]
    have e : (List.take (off + 1) cs).set off c = cs.take off ++ [c] := by
      rw [List.take_succ_eq_append_getElem hlt, List.set_append_right _ _ (by simp; omega)]
      have : off - (List.take off cs).length = 0 := by simp; omega
      rw [this]; rfl
    rw [e, List.append_assoc, List.length_cons]
    simp only [List.singleton_append, List.cons_append, List.nil_append]
    rw [show off + 1 + l.length = off + (l.length + 1) by omega]
theorem setAll_is (cs : List V) (off : Nat) (l : List V) : setAll cs off l = setAll0 cs off l := by
  unfold setAll
  cases h : Nat.ble (off + llen l) (llen cs) with
  | false => rfl
  | true =>
    rw [Nat.ble_eq, llen_eq, llen_eq] at h
    rw [cond_true, setAll0_is l cs off h, lapp_eq, lapp_eq, ltake_eq, ldrop_eq, llen_eq]
theorem setAll_rel {l : List V} {L : List Value} (h : LRel ρ l L) {cs : List V} {A : Array Value} (hA : LRel ρ cs A.toList) (off k : Nat) :
    LRel ρ (setAll cs (off + k) l) ((L.zipIdx k).foldl (fun (cs : Array Value) (x : Value × Nat) => cs.setIfInBounds (off + x.2) x.1) A).toList := by
  rw [setAll_is]; exact setAll0_rel h hA off k
theorem setAll_length (l cs : List V) (off : Nat) : (setAll cs off l).length = cs.length := by rw [setAll_is]; exact setAll0_length l cs off

def PRel (ρ : Env) : List (Nat × V) → List (Nat × Value) → Prop
  | [], L => L = []
  | p :: l, L => ∃ X Y, L = (p.1, X) :: Y ∧ VRel ρ p.2 X ∧ PRel ρ l Y

theorem evalParts_rel {ev : Operand → Option V} {A : Act} (hA : EvRel ρ ev A) : ∀ {xs : List (Nat × Operand)} {ps : List (Nat × V)}, evalParts ev xs = some ps → PRel ρ ps (xs.map fun p => (p.1, A.eval p.2))
  | [], ps, h => by simp only [evalParts] at h; cases h; rfl
  | (i, x) :: xs, ps, h => by
    simp only [evalParts] at h
    split at h
    · rename_i v hv
      split at h
      · rename_i r hr; cases h; exact ⟨_, _, rfl, evalO_rel hA hv, evalParts_rel hA hr⟩
      · cases h
    · cases h

theorem fillE_rel {place : Nat → Option (Nat × Nat)} : ∀ {ps : List (Nat × V)} {Ps : List (Nat × Value)}, PRel ρ ps Ps → ∀ {cs r : List V} {A : Array Value}, LRel ρ cs A.toList → fillE place cs ps = some r →
    ∃ R, Instr.fill place A Ps = some R ∧ LRel ρ r R.toList
  | [], Ps, hp, cs, r, A, hA, h => by
    have hp : Ps = [] := hp
    subst hp; simp only [fillE] at h; cases h
    exact ⟨A, rfl, hA⟩
  | (i, v) :: ps, Ps, hp, cs, r, A, hA, h => by
    obtain ⟨X, Y, rfl, h1, h2⟩ := hp
    simp only [fillE] at h
    split at h
    · rename_i off size hpl
      simp only [llen_eq] at h
      cases hb : (Nat.beq (cellsV v).length size && Nat.ble (off + size) cs.length) with
      | false => simp [hb] at h
      | true =>
        simp only [hb, cond_true] at h
        simp only [Bool.and_eq_true, Nat.ble_eq, Nat.beq_eq] at hb
        have hc := cellsV_rel h1
        have hl := hc.length
        have hl2 := hA.length
        simp only [Array.length_toList] at hl hl2
        have hset := setAll_rel hc hA off 0
        obtain ⟨R, e1, e2⟩ := fillE_rel h2 (A := X.cells.zipIdx.foldl (fun cs (x : Value × Nat) => cs.setIfInBounds (off + x.2) x.1) A)
          (by rw [← Array.foldl_toList, Array.toList_zipIdx]; exact hset) h
        refine ⟨R, ?_, e2⟩
        simp only [Instr.fill, hpl]
        rw [if_neg (by simp; omega)]
        exact e1
    · cases h

theorem run_places : ∀ (fs : List Field) {pl : List (Nat × Nat)}, placesE P fs = some pl → (fs.mapM fun f => do pure (f.offset, ← sizeOf f.type) : Sem (List (Nat × Nat))).run P w = .ok pl w
  | [], pl, h => by simp only [placesE] at h; cases h; simp
  | f :: fs, pl, h => by
    simp only [placesE] at h
    split at h
    · rename_i n hn
      split at h
      · rename_i r hr
        cases h
        have ih := run_places fs hr
        simp only [List.mapM_cons, Sem.run_bind, run_size hn, Result.andThen_ok, Sem.run_pure, ih]
      · cases h
    · cases h

theorem qBuild_rel {t : TypeId} {ps : List (Nat × V)} {v : V} (hq : qBuild P t ps = some v) {Ps : Array (Nat × Value)} (hp : PRel ρ ps Ps.toList) :
    ∃ X, (Instr.build t Ps).run P w = .ok X w ∧ VRel ρ v X := by
  unfold qBuild at hq
  split at hq
  · cases hq
  rename_i z hz
  obtain ⟨Z, hZ, hzr, _⟩ := zeroE_rel (ρ := ρ) (w := w) hz
  have hzc := cellsV_rel hzr
  split at hq
  · rename_i fs hd
    split at hq
    · rename_i pl hpl
      split at hq
      · rename_i cs hcs
        cases hq
        obtain ⟨R, e1, e2⟩ := fillE_rel hp hzc hcs
        refine ⟨.agg R, ?_, by simp only [VRel]; exact ⟨R, rfl, e2⟩⟩
        have hpr := run_places (w := w) fs.toList hpl
        have e3 : (fun (i : Nat) => (pl.toArray[i]? : Option (Nat × Nat))) = fun (i : Nat) => lget pl i := by funext i; simp [lget_eq]
        simp only [Instr.build, Sem.run_bind, hZ, Result.andThen_ok, run_und hd, Array.mapM_eq_mapM_toList, Sem.run_map, hpr, Sem.run_pure]
        rw [e3, e1]
        rfl
      · cases hq
    · cases hq
  · rename_i n e hd
    split at hq
    · rename_i sz hsz
      split at hq
      · rename_i cs hcs
        cases hq
        obtain ⟨R, e1, e2⟩ := fillE_rel hp hzc hcs
        refine ⟨.agg R, ?_, by simp only [VRel]; exact ⟨R, rfl, e2⟩⟩
        simp only [Instr.build, Sem.run_bind, hZ, Result.andThen_ok, run_und hd, run_size hsz]
        rw [e1]
        rfl
      · cases hq
    · cases hq
  · cases hq

theorem qAssert_rel (xt : TypeId) {t : TypeId} {v u : V} {ok : Bool} (hq : qAssert P t v ok = some u) {X : Value} (hv : VRel ρ v X) : ∃ Y, (Instr.typeAssert X xt t ok).run P w = .ok Y w ∧ VRel ρ u Y := by
  unfold qAssert at hq
  have zer : ∀ {u : V}, assertZ P t ok = some u → ok = true ∧ ∃ Z, (zeroValue t).run P w = .ok Z w ∧ VRel ρ u (.tuple #[Z, .bool false]) := by
    intro u h
    unfold assertZ at h
    split at h
    · rename_i z hz
      cases h
      obtain ⟨Z, hZ, hzr, _⟩ := zeroE_rel (ρ := ρ) (w := w) hz
      refine ⟨rfl, Z, hZ, ?_⟩
      simp only [VRel]
      exact ⟨_, rfl, LRel.cons hzr (LRel.cons (by simp only [VRel]) LRel.nil)⟩
    · cases h
  split at hq
  · cases hq
  · rename_i d hni hd
    cases v with
    | iface t' x =>
      simp only [VRel] at hv
      simp only at hq
      obtain ⟨Y, rfl, hy⟩ := hv
      cases hb : Nat.beq t' t with
      | true =>
        rw [hb, cond_true] at hq
        cases hq
        have e := Nat.eq_of_beq_eq_true hb
        subst e
        cases ok with
        | true => exact ⟨.tuple #[Y, .bool true], by cases d <;> first | exact absurd rfl (hni _) | simp [Instr.typeAssert, run_und hd], by simp only [cond_true, VRel]; exact ⟨_, rfl, LRel.cons hy (LRel.cons (by simp only [VRel]) LRel.nil)⟩⟩
        | false => exact ⟨Y, by cases d <;> first | exact absurd rfl (hni _) | simp [Instr.typeAssert, run_und hd], hy⟩
      | false =>
        rw [hb, cond_false] at hq
        obtain ⟨rfl, Z, hZ, hr⟩ := zer hq
        have hne : ¬ t' = t := fun e => by subst e; simp at hb
        exact ⟨_, by cases d <;> first | exact absurd rfl (hni _) | simp [Instr.typeAssert, run_und hd, hne, hZ], hr⟩
    | nili =>
      simp only [VRel] at hv
      subst hv
      obtain ⟨rfl, Z, hZ, hr⟩ := zer hq
      exact ⟨_, by cases d <;> first | exact absurd rfl (hni _) | simp [Instr.typeAssert, run_und hd, hZ], hr⟩
    | _ => cases hq
  · cases hq

end
end Go.Eng
end

section
namespace Go.Eng
set_option linter.unusedSimpArgs false
set_option linter.unusedVariables false

section
variable {P : Program} {base : Nat} {ρ : Env} {s : St} {w : World}

theorem arr1 {A : Array Value} {X : Value} (h : A.toList = [X]) : A = #[X] := by cases A; simp at h; simp [h]

theorem qBuiltin_rel (h : SRel base ρ s w) {b : Builtin} {ts : Array TypeId} {vs : List V} {v : V} (hq : qBuiltin P s b ts vs = some v) {A : Array Value} (ha : LRel ρ vs A.toList) (ty : TypeId) (cs : Array Bool) :
    ∃ X, (Go.builtin b ts ty cs A).run P w = .ok (.value X) w ∧ VRel ρ v X := by
  unfold qBuiltin at hq
  split at hq
  · split at hq
    · rename_i t a ht
      obtain ⟨X, Y, e, h1, h2⟩ := ha
      have h2 : Y = [] := h2
      subst h2
      obtain rfl := arr1 e
      obtain ⟨Z, e1, e2⟩ := qLen_rel h (ty := ty) hq h1 ht
      exact ⟨Z, by simp [Go.builtin, e1], e2⟩
    · cases hq
  · split at hq
    · rename_i t a ht
      obtain ⟨X, Y, e, h1, h2⟩ := ha
      have h2 : Y = [] := h2
      subst h2
      obtain rfl := arr1 e
      obtain ⟨Z, e1, e2⟩ := qCap_rel (w := w) (ty := ty) hq h1 ht
      exact ⟨Z, by simp [Go.builtin, e1], e2⟩
    · cases hq
  · split at hq
    · rename_i k x l
      obtain ⟨X, Y, e, h1, h2⟩ := ha
      simp only [VRel] at h1; subst h1
      obtain ⟨Z, e1, e2⟩ := minMax_rel (P := P) (w := w) l _ _ v hq h2
      exact ⟨Z, by simp [Go.builtin, Builtin.min_, e, e1], e2⟩
    · cases hq
  · split at hq
    · rename_i k x l
      obtain ⟨X, Y, e, h1, h2⟩ := ha
      simp only [VRel] at h1; subst h1
      obtain ⟨Z, e1, e2⟩ := maxMin_rel (P := P) (w := w) l _ _ v hq h2
      exact ⟨Z, by simp [Go.builtin, Builtin.max_, e, e1], e2⟩
    · cases hq
  · cases hq

theorem map_toList {α β : Type} (a : Array α) (f : α → β) : (a.map f).toList = a.toList.map f := by simp

theorem qop_rel (h : SRel base ρ s w) {ev : Operand → Option V} {A : Act} (hA : EvRel ρ ev A) {o : Oper} {v : V} (hq : qop P s ev o.op = some v) :
    ∃ X, (execOp A.eval o).run P w = .ok (.value X) w ∧ VRel ρ v X := by
  unfold qop at hq
  unfold execOp
  split at hq <;> rename_i heq <;> simp only [heq]
  · exact ⟨_, rfl, evalO_rel hA hq⟩
  · exact ⟨_, rfl, evalO_rel hA hq⟩
  · split at hq
    · rename_i hc
      have := evalO_rel hA hc
      simp only [VRel] at this
      exact ⟨_, by simp [this, asBool], evalO_rel hA hq⟩
    · rename_i hc
      have := evalO_rel hA hc
      simp only [VRel] at this
      exact ⟨_, by simp [this, asBool], evalO_rel hA hq⟩
    · cases hq
  · split at hq
    · rename_i hv
      obtain ⟨X, h1, h2⟩ := qLoad_rel h hq (evalO_rel hA hv)
      exact ⟨X, by simp [h1], h2⟩
    · cases hq
  · split at hq
    · rename_i hv
      cases hq
      have := evalO_rel hA hv
      refine ⟨_, ?_, this⟩
      simp only [VRel] at this
      obtain ⟨B, O, S, _, e⟩ := this
      simp [e]
    · rename_i hv
      cases hq
      have := evalO_rel hA hv
      refine ⟨_, ?_, this⟩
      simp only [VRel] at this
      obtain ⟨B, O, e, _⟩ := this
      simp [e]
    · rename_i hv
      cases hq
      have := evalO_rel hA hv
      refine ⟨_, ?_, this⟩
      simp only [VRel] at this
      obtain ⟨B, O, S, _, e⟩ := this
      simp [e]
    · cases hq
  · split at hq
    · rename_i x y _ _ _ a b hx hy
      obtain ⟨X, h1, h2⟩ := qBin_rel h hq (evalO_rel hA hx) (evalO_rel hA hy) x y
      refine ⟨X, ?_, h2⟩
      rw [Sem.run_bind, h1]
      rfl
    · cases hq
  · split at hq
    · rename_i hv
      obtain ⟨X, h1, h2⟩ := qUn_rel (P := P) (w := w) hq (evalO_rel hA hv)
      exact ⟨X, by simp [h1], h2⟩
    · cases hq
  · split at hq
    · rename_i hv
      obtain ⟨X, h1, h2⟩ := qConv_rel h hq (evalO_rel hA hv)
      exact ⟨X, by simp [h1], h2⟩
    · cases hq
  · split at hq
    · cases hq
    · rename_i t x _ d hne hd
      split at hq
      · rename_i hv
        cases hq
        refine ⟨.iface _ _, ?_, by simp only [VRel]; exact ⟨_, rfl, evalO_rel hA hv⟩⟩
        have : (Instr.makeInterface t (A.eval x)).run P w = .ok (.iface t (A.eval x)) w := by
          simp only [Instr.makeInterface, Sem.run_bind, run_und hd, Result.andThen_ok]
          cases d <;> first | rfl | exact absurd rfl (hne _)
        simp [this]
      · cases hq
    · cases hq
  · split at hq
    · split at hq
      · rename_i h1 h2
        cases hq
        refine ⟨_, by simp [Instr.makeFunc]; rfl, ?_⟩
        simp only [VRel]
        exact ⟨_, _, rfl, by rw [map_toList]; exact evalOs_rel hA h1, by rw [map_toList]; exact evalOs_rel hA h2⟩
      · cases hq
    · cases hq
  · split at hq
    · rename_i h1 h2 h3 h4
      obtain ⟨X, e1, e2⟩ := qSlice_rel h hq (evalO_rel hA h1) (optO_rel hA h2) (optO_rel hA h3) (optO_rel hA h4)
      exact ⟨X, by simp [e1], e2⟩
    · cases hq
  · split at hq
    · rename_i hv
      obtain ⟨X, h1, h2⟩ := qFieldAddr_rel (w := w) hq (evalO_rel hA hv)
      exact ⟨X, by simp [h1], h2⟩
    · cases hq
  · split at hq
    · rename_i hv
      obtain ⟨X, h1, h2⟩ := qField_rel (w := w) hq (evalO_rel hA hv)
      exact ⟨X, by simp [h1], h2⟩
    · cases hq
  · split at hq
    · rename_i hx hy
      obtain ⟨X, h1, h2⟩ := qIndexAddr_rel (w := w) hq (evalO_rel hA hx) (evalO_rel hA hy)
      exact ⟨X, by simp [h1], h2⟩
    · cases hq
  · split at hq
    · rename_i hx hy
      obtain ⟨X, h1, h2⟩ := qIndex_rel (w := w) hq (evalO_rel hA hx) (evalO_rel hA hy)
      exact ⟨X, by simp [h1], h2⟩
    · cases hq
  · split at hq
    · rename_i hx hy
      obtain ⟨X, h1, h2⟩ := qLookup_rel h hq (evalO_rel hA hx) (evalO_rel hA hy)
      exact ⟨X, by simp [h1], h2⟩
    · cases hq
  · split at hq
    · rename_i hv
      have := evalParts_rel hA hv
      obtain ⟨X, h1, h2⟩ := qBuild_rel (w := w) hq (Ps := _) (by rw [map_toList]; exact this)
      refine ⟨X, ?_, h2⟩
      simp [h1]
    · cases hq
  · split at hq
    · rename_i hv
      have := evalO_rel hA hv
      simp only [VRel] at this
      obtain ⟨cs, e, hl⟩ := this
      rw [lget_eq] at hq
      obtain ⟨X, h1, h2⟩ := hl.get hq
      simp only [Array.getElem?_toList] at h1
      exact ⟨X, by simp [Instr.extract, e, h1], h2⟩
    · cases hq
  · split at hq
    · rename_i hv
      have hk := fun xt => qAssert_rel (w := w) xt hq (evalO_rel hA hv)
      rename_i xt _ _ _ _
      obtain ⟨X, h1, h2⟩ := hk xt
      exact ⟨X, by simp [h1], h2⟩
    · cases hq
  · split at hq
    · rename_i hc
      split at hq
      · rename_i vs hvs
        have := evalOs_rel hA hvs
        rw [← map_toList] at this
        obtain ⟨X, h1, h2⟩ := qBuiltin_rel h hq this o.type _
        exact ⟨X, by simp only [resolve, hc, Sem.run_bind, Sem.run_pure, Result.andThen_ok, invoke]; exact h1, h2⟩
      · cases hq
    · cases hq
  · cases hq

end
end Go.Eng
end

section
namespace Go.Eng
open Go.RowKit (Below)
set_option linter.unusedSimpArgs false
set_option linter.unusedVariables false

noncomputable section
variable (P : Program)

def eStore (s : St) (t : TypeId) (a v : V) : Option St :=
  match a with
  | .ptr b o => match s.heap.get b with
    | some (.cells cs t' ish) => match szE P t with
      | some n => bif Nat.beq (llen (cellsV v)) n && (Nat.ble (o + n) (llen cs) && lall oneV (cellsV v)) then some (s.upd b (.cells (setAll cs o (cellsV v)) t' ish)) else none
      | none => none
    | _ => none
  | _ => none

inductive Mk where
  | mk (cs : List V) (t : TypeId) (sl : Option (Nat × Nat × Nat))
def Mk.val : Mk → Nat → V
  | .mk _ _ none, b => .ptr b 0
  | .mk _ _ (some (l, c, es)), b => .sl b 0 l c true es
def Mk.obj : Mk → EObj
  | .mk cs t _ => .cells cs t false
def mkNew (s : St) : Option Mk → Option (V × St)
  | some m => some (m.val s.next, s.new m.obj)
  | none => none
def mAlloc (t : TypeId) : Option Mk :=
  match zeroE P t with
  | some z => some (.mk (cellsV z) t none)
  | none => none
def mBox (t : TypeId) (v : V) : Option Mk := some (.mk (cellsV v) t none)
def eAlloc (s : St) (t : TypeId) : Option (V × St) := mkNew s (mAlloc P t)
def eBox (s : St) (t : TypeId) (v : V) : Option (V × St) := mkNew s (mBox t v)

def repE : Nat → List V → List V
  | 0, _ => []
  | n + 1, zs => lapp zs (repE n zs)

def mBuildSlice (t : TypeId) (len : Nat) (parts : List (Nat × V)) : Option Mk :=
  match P.underlying t with
  | some (.slice e) => match szE P e, zeroE P e with
    | some sz, some z =>
      bif Nat.beq (llen (cellsV z)) sz && (Nat.ble (len * sz) 16777216 && Nat.ble 1 sz) then
        (match fillE (fun i => some (i * sz, sz)) (repE len (cellsV z)) parts with
        | some cs => some (.mk cs e (some (len, len, sz)))
        | none => none) else none
    | _, _ => none
  | _ => none
def eBuildSlice (s : St) (t : TypeId) (len : Nat) (parts : List (Nat × V)) : Option (V × St) := mkNew s (mBuildSlice P t len parts)

def mMakeSlice (t : TypeId) (len cap : V) : Option Mk :=
  match P.underlying t, natOf len, natOf cap with
  | some (.slice e), some l, some c => match P.info? e, zeroE P e with
    | some i, some z =>
      bif Nat.beq (llen (cellsV z)) i.size && (Nat.ble 1 i.size && (Nat.ble l c && (Nat.ble c 281474976710656 && Nat.ble (i.bytes * c) 281474976710656))) then
        some (.mk (repE c (cellsV z)) e (some (l, c, i.size))) else none
    | _, _ => none
  | _, _, _ => none
def eMakeSlice (s : St) (t : TypeId) (len cap : V) : Option (V × St) := mkNew s (mMakeSlice P t len cap)

def byteV (b : UInt8) : V := .int .u8 (Int.ofNat b.toNat)
noncomputable def bytesV (x : BS) : List V := (digA x.n x.N []).map byteV
theorem bytesV_eq (x : BS) : bytesV x = x.list.map byteV := by unfold bytesV; rw [digA_eq, List.append_nil]; rfl
def eBytes (s : St) (src dst : TypeId) (a : V) : Option (V × St) :=
  match P.underlying src, P.underlying dst, a with
  | some _, some (.slice e), .str x => match P.underlying e with
    | some (.int .u8) => bif Nat.ble x.n 1099511627776 then some (.sl s.next 0 x.n x.n false 1, s.new (.cells (bytesV x) e true)) else none
    | _ => none
  | _, _, _ => none

def eRange (s : St) (t : TypeId) (x : V) : Option (V × St) :=
  match P.underlying t, x with
  | some .string, .str b => some (.it s.next, s.new (.siter b 0))
  | _, _ => none
def eNext (s : St) (it : V) : Option (V × St) :=
  match it with
  | .it b => match s.heap.get b with
    | some (.siter x pos) => bif Nat.blt pos x.n then
        (bif Nat.blt (x.get pos) 128 then some (.tup [.bool true, .int .i64 (Int.ofNat pos), .int .i32 (Int.ofNat (x.get pos))], s.upd b (.siter x (pos + 1))) else none)
        else some (.tup [.bool false], s)
    | _ => none
  | _ => none

def sliceCells (s : St) (v : V) (n : Nat) : Option (List V) :=
  match v with
  | .nils => bif Nat.beq n 0 then some [] else none
  | .slz _ => bif Nat.beq n 0 then some [] else none
  | .sl b o _ _ _ es => match cellsAt s b with
    | some cs => bif Nat.ble (o + n * es) (llen cs) then some (ltake (ldrop cs o) (n * es)) else none
    | none => none
  | _ => none

def lenE : V → Option Nat
  | .nils => some 0
  | .slz _ => some 0
  | .sl _ _ len _ _ _ => some len
  | .str x => some x.n
  | _ => none
def esOk (v : V) (sz : Nat) : Bool :=
  match v with
  | .sl _ _ _ _ _ es => Nat.beq es sz
  | .nils => true
  | .slz _ => true
  | _ => false
def srcCells (s : St) (x : V) (sz : Nat) : Option (List V) :=
  match x with
  | .str b => bif Nat.beq sz 1 then some (bytesV b) else none
  | _ => bif esOk x sz then (match lenE x with
    | some n => sliceCells s x n
    | none => none) else none

def St.move (s : St) (b : Nat) (o : EObj) : St := ⟨(s.heap.set b none).set s.next (some o), s.next + 1⟩

def zerosE (ts : Array TypeId) : Bool :=
  match ts[1]? with
  | some t1 => (match P.underlying t1 with
    | some (.int _) => true
    | some _ => false
    | none => true)
  | none => false

def srcE (s : St) (ts : Array TypeId) (i : TypeInfo) (z : V) (x : V) : Option (Nat × List V) :=
  bif zerosE P ts then
    (match ts[1]? with
    | some t1 => match P.underlying t1 with
      | some (.int _) => match x with
        | .int .i64 (.ofNat n) => bif Nat.ble (n * i.bytes) 281474976710656 && Nat.ble n 1099511627776 then some (n, repE n (cellsV z)) else none
        | _ => none
      | _ => none
    | none => none)
  else match lenE x with
    | some n => match srcCells s x i.size with
      | some new => some (n, new)
      | none => none
    | none => none
def eAppend (s : St) (ts : Array TypeId) (a x : V) : Option (V × St) :=
  match ts[0]? with
  | none => none
  | some t =>
  match P.underlying t with
  | some (.slice e) =>
    match P.info? e, zeroE P e with
    | some i, some z =>
      bif !(Nat.beq (llen (cellsV z)) i.size && Nat.ble 1 i.size) then none else
      match srcE P s ts i z x with
      | none => none
      | some (n, new) =>
      match a with
      | .slz x' =>
        bif Nat.beq n 0 then some (.slz x', s) else
        bif x' && (Nat.ble ((2 * n + 768) * i.bytes) 281474976710656 && Nat.ble n 1099511627776) then
          some (.sl s.next 0 n n false i.size, s.new (.cells new e false)) else none
      | .nils =>
        bif Nat.beq n 0 then some (.nils, s) else
        bif Nat.ble ((2 * n + 768) * i.bytes) 281474976710656 && Nat.ble n 1099511627776 then
          some (.sl s.next 0 n n false i.size, s.new (.cells new e false)) else none
      | .sl b o len cap x' es =>
        bif !Nat.beq es i.size then none else
        bif Nat.ble (len + n) cap then
          (match s.heap.get b with
          | some (.cells cs t' ish) => bif Nat.ble (o + (len + n) * es) (llen cs) && lall oneV new then some (.sl b o (len + n) cap x' es, s.upd b (.cells (setAll cs (o + len * es) new) t' ish)) else none
          | _ => none)
        else
        bif !(Nat.ble ((2 * (len + n) + 768) * i.bytes) 281474976710656 && Nat.ble (len + n) 1099511627776) then none else
        match s.heap.get b with
        | some (.cells cs t' ish) =>
          bif !(Nat.ble (o + len * es) (llen cs) && lall oneV new) then none else
          bif x' then some (.sl s.next 0 (len + n) (len + n) false es, s.new (.cells (lapp (ltake (ldrop cs o) (len * es)) new) e false))
          else some (.sl s.next 0 (len + n) (len + n) false es, s.move b (.cells (lapp (ltake (ldrop cs o) (len * es)) new) e ish))
        | _ => none
      | _ => none
    | _, _ => none
  | _ => none

def eCopy (s : St) (ts : Array TypeId) (d x : V) : Option (V × St) :=
  match ts[0]? with
  | none => none
  | some t =>
  match P.underlying t with
  | some (.slice e) => match szE P e, lenE d, lenE x with
    | some sz, some dl, some xl =>
      bif !(esOk d sz && Nat.ble 1 sz) then none else
      match srcCells s x sz with
      | none => none
      | some all =>
      let new := ltake all (Nat.min xl dl * sz)
      match d with
      | .nils => some (.int .i64 0, s)
      | .sl b o _ _ _ _ => match s.heap.get b with
        | some (.cells cs t' ish) => bif Nat.ble (o + llen new) (llen cs) && lall oneV new then some (.int .i64 (Int.ofNat (Nat.min xl dl)), s.upd b (.cells (setAll cs o new) t' ish)) else none
        | _ => none
      | _ => none
    | _, _, _ => none
  | _ => none
end

section
variable {P : Program} {base : Nat} {ρ : Env} {s : St} {w : World}

def CP (ρ : Env) (O : Nat) (cs : List V) (C : Array Value) : Prop := ∀ (i : Nat) (v : V), cs[i]? = some v → ∃ W, C[O + i]? = some W ∧ VRel ρ v W
def setA : Array Value → Nat → List Value → Array Value
  | C, _, [] => C
  | C, o, v :: l => setA (C.setIfInBounds o v) (o + 1) l
theorem setA_size : ∀ (l : List Value) (C : Array Value) (o : Nat), (setA C o l).size = C.size
  | [], _, _ => rfl
  | v :: l, C, o => by simp [setA, setA_size l]

theorem CP.set {O : Nat} {cs : List V} {C : Array Value} (h : CP ρ O cs C) {v : V} {X : Value} (hv : VRel ρ v X) {o : Nat} (ho : O + o < C.size) : CP ρ O (cs.set o v) (C.setIfInBounds (O + o) X) := by
  intro i u hi
  rw [List.getElem?_set] at hi
  rw [Array.getElem?_setIfInBounds]
  by_cases e : o = i
  · subst e
    simp only [if_true] at hi ⊢
    split at hi
    · cases hi; exact ⟨X, by simp [ho], hv⟩
    · cases hi
  · rw [if_neg e] at hi
    rw [if_neg (by omega)]
    exact h i u hi

theorem CP.setAll0 {O : Nat} : ∀ {l : List V} {L : List Value}, LRel ρ l L → ∀ {cs : List V} {C : Array Value}, CP ρ O cs C → ∀ {o : Nat}, O + o + l.length ≤ C.size → CP ρ O (setAll0 cs o l) (setA C (O + o) L)
  | [], L, hl, cs, C, h, o, ho => by
    have hl : L = [] := hl
    subst hl; exact h
  | v :: l, L, hl, cs, C, h, o, ho => by
    obtain ⟨X, Y, rfl, h1, h2⟩ := hl
    simp only [List.length_cons] at ho
    have := CP.setAll0 h2 (h.set h1 (o := o) (by omega)) (o := o + 1) (by simp; omega)
    rw [← lset_eq] at this
    exact this

theorem CP.setAll {O : Nat} {l : List V} {L : List Value} (hl : LRel ρ l L) {cs : List V} {C : Array Value} (h : CP ρ O cs C) {o : Nat} (ho : O + o + l.length ≤ C.size) : CP ρ O (Eng.setAll cs o l) (setA C (O + o) L) := by
  rw [setAll_is]; exact CP.setAll0 hl h ho

theorem oneV_rel {v : V} {X : Value} (h : VRel ρ v X) (ho : oneV v = true) : X.oneCell' = true := by
  cases v <;> simp only [oneV, Bool.false_eq_true] at ho <;> simp only [VRel] at h
  all_goals first
    | (subst h; rfl)
    | (obtain ⟨_, _, _, _, rfl⟩ := h; rfl)
    | (obtain ⟨_, _, _, _, _, rfl, _⟩ := h; rfl)
    | (obtain ⟨_, _, rfl⟩ := h; rfl)
    | (obtain ⟨_, _, rfl, _⟩ := h; rfl)
    | (obtain ⟨_, rfl, _⟩ := h; rfl)
theorem allOne_rel : ∀ {l : List V} {L : List Value}, LRel ρ l L → l.all oneV = true → ∀ X ∈ L, X.oneCell' = true
  | [], L, h, _, X, hX => by have h : L = [] := h; subst h; cases hX
  | v :: l, L, h, ho, X, hX => by
    obtain ⟨Y, Z, rfl, h1, h2⟩ := h
    simp only [List.all_cons, Bool.and_eq_true] at ho
    rcases List.mem_cons.1 hX with rfl | hX
    · exact oneV_rel h1 ho.1
    · exact allOne_rel h2 ho.2 X hX

def NotFrozen (S : Nat) (fr : Nat × Nat) : Prop := ∀ k, k < S → (decide (fr.1 ≤ k) && decide (k < fr.2)) = false

theorem set_at {w : World} {B : Nat} {C : Array Value} {t : TypeId} {fr : Nat × Nat} (h : w.heap[B]? = some (.cells C t fr)) (o : Nat) (X : Value) :
    w.setCell ⟨B, o, none⟩ X = { w with heap := w.heap.setIfInBounds B (.cells (C.setIfInBounds o X) t fr) } := by
  simp only [World.setCell]
  congr 1
  apply Array.ext_getElem?
  intro i
  rw [Array.getElem?_modify, Array.getElem?_setIfInBounds]
  have hlt : B < w.heap.size := by
    rcases Nat.lt_or_ge B w.heap.size with hh | hh
    · exact hh
    · rw [Array.getElem?_eq_none hh] at h; cases h
  by_cases e : B = i
  · subst e
    have hh : w.heap[B] = .cells C t fr := by
      rw [Array.getElem?_eq_getElem hlt] at h
      exact Option.some.inj h
    simp [hlt, hh]
  · simp [e]

theorem run_storeAll {B : Nat} {t : TypeId} {fr : Nat × Nat} : ∀ (vs : List Value) (off i : Nat) (C : Array Value) (w : World), w.heap[B]? = some (.cells C t fr) → NotFrozen C.size fr → off + i + vs.length ≤ C.size →
    (∀ v ∈ vs, v.oneCell' = true) → (storeCells ⟨B, off, none⟩ vs i).run P w = .ok () { w with heap := w.heap.setIfInBounds B (.cells (setA C (off + i) vs) t fr) }
  | [], off, i, C, w, hw, _, _, _ => by
    simp only [storeCells, Sem.run_pure, setA]
    congr 1
    cases w with
    | mk heap tape drawn os output =>
      simp only at hw ⊢
      congr 1
      apply Array.ext_getElem?
      intro k
      rw [Array.getElem?_setIfInBounds]
      split
      · rename_i e; subst e
        split
        · exact hw
        · rename_i hh; rw [Array.getElem?_eq_none (by omega)] at hw; cases hw
      · rfl
  | v :: vs, off, i, C, w, hw, hf, hl, h1 => by
    simp only [List.length_cons] at hl
    have hlt : off + i < C.size := by omega
    have hc : w.cell? ⟨B, off + i, none⟩ = some C[off + i] := by simp [World.cell?, hw, hlt]
    have hfr : w.frozen? ⟨B, off + i, none⟩ = false := by simp only [World.frozen?, hw]; exact hf _ hlt
    simp only [storeCells, Sem.run_bind, addr_add, run_store P w _ v _ (h1 v (by simp)), hc, hfr, Bool.false_eq_true, if_false, Result.andThen_ok, set_at hw]
    have hB : B < w.heap.size := by
      rcases Nat.lt_or_ge B w.heap.size with hh | hh
      · exact hh
      · rw [Array.getElem?_eq_none hh] at hw; cases hw
    have := run_storeAll (B := B) (t := t) (fr := fr) vs off (i + 1) (C.setIfInBounds (off + i) v) { w with heap := w.heap.setIfInBounds B (.cells (C.setIfInBounds (off + i) v) t fr) }
      (by simp [hB]) (by simpa using hf) (by simp; omega) (fun u hu => h1 u (by simp [hu]))
    rw [this]
    simp [setA, Nat.add_assoc]

theorem SRel.cellsObj (h : SRel base ρ s w) {b : Nat} {cs : List V} {t : TypeId} {ish : Bool} (hg : s.heap.get b = some (.cells cs t ish)) {x : Blk} (hx : ρ b = some x) :
    ∃ C t' fr, w.heap[x.B]? = some (.cells C t' fr) ∧ C.size = x.S ∧ x.O + cs.length ≤ x.S ∧ CP ρ x.O cs C ∧ NotFrozen x.S fr ∧ (ish = false → fr = (0, 0)) ∧ base ≤ x.B := by
  obtain ⟨y, h1, h2, C, t', fr, h3, h4, h5, h6, h7, h8⟩ := h.obj' hg hx
  rw [hx] at h1; cases h1
  exact ⟨C, t', fr, h3, h4, h5, h6, h7, h8, h2⟩

theorem SRel.write (h : SRel base ρ s w) {b : Nat} {cs : List V} {t : TypeId} {ish : Bool} (hg : s.heap.get b = some (.cells cs t ish)) {x : Blk} (hx : ρ b = some x)
    {o : Nat} {l : List V} {L : List Value} (hl : LRel ρ l L) (ho : o + l.length ≤ cs.length) (h1 : l.all oneV = true) :
    ∃ w', (storeCells ⟨x.B, x.O + o, none⟩ L).run P w = .ok () w' ∧ SRel base ρ (s.upd b (.cells (Eng.setAll cs o l) t ish)) w' ∧ Below base w w' := by
  obtain ⟨C, t', fr, e1, e2, e3, e4, e5, e6, e7⟩ := h.cellsObj hg hx
  have hlen := hl.length
  have hrun := run_storeAll (P := P) L (x.O + o) 0 C w e1 (by rw [e2]; exact e5) (by omega) (allOne_rel hl h1)
  refine ⟨_, hrun, ?_, below_set e7 rfl⟩
  refine h.upd hg hx _ _ rfl ⟨_, t', fr, rfl, by rw [setA_size]; exact e2, by rw [setAll_length]; exact e3, ?_, e5, e6⟩
  rw [Nat.add_zero]
  exact CP.setAll hl e4 (by omega)

theorem eStore_rel (h : SRel base ρ s w) {t : TypeId} {a v : V} {s' : St} (hq : eStore P s t a v = some s') {A X : Value} (ha : VRel ρ a A) (hv : VRel ρ v X) :
    ∃ w', (Instr.storeAt t A X).run P w = .ok () w' ∧ SRel base ρ s' w' ∧ Below base w w' := by
  unfold eStore at hq
  simp only [llen_eq, lall_eq, ltake_eq, ldrop_eq, lapp_eq, lget_eq] at hq
  split at hq
  · rename_i b o
    split at hq
    · rename_i cs t' ish hg
      split at hq
      · rename_i n hn
        cases hb : (Nat.beq (cellsV v).length n && (Nat.ble (o + n) cs.length && (cellsV v).all oneV)) with
        | false => simp [hb] at hq
        | true =>
          simp only [hb, cond_true, Option.some.injEq] at hq
          subst hq
          simp only [Bool.and_eq_true, Nat.ble_eq, Nat.beq_eq] at hb
          simp only [VRel] at ha
          obtain ⟨B, O, S, hB, rfl⟩ := ha
          have hc := cellsV_rel hv
          obtain ⟨w', h1, h2, h3⟩ := h.write (P := P) hg hB hc (o := o) (by omega) hb.2.2
          refine ⟨w', ?_, h2, h3⟩
          have hl := hc.length
          simp only [Array.length_toList] at hl
          have : ¬ X.cells.size ≠ n := by omega
          simp only at h1
          simp [Instr.storeAt, Instr.sureAddr, storeVar, run_size hn, this, h1]
      · cases hq
    · cases hq
  · cases hq

theorem SRel.newCells (h : SRel base ρ s w) {cs : List V} {C : Array Value} (hc : LRel ρ cs C.toList) (t t' : TypeId) :
    ρ.le (ρ.put s.next ⟨w.heap.size, 0, C.size⟩) ∧ SRel base (ρ.put s.next ⟨w.heap.size, 0, C.size⟩) (s.new (.cells cs t false)) { w with heap := w.heap.push (.cells C t') } ∧
      Below base w { w with heap := w.heap.push (.cells C t') } := by
  have hle := Env.le_put ⟨w.heap.size, 0, C.size⟩ h.fresh
  refine ⟨hle, h.new _ (.cells C t') C.size rfl ⟨C, t', (0, 0), rfl, rfl, ?_, ?_, by simp, fun _ => rfl⟩, below_new h.le rfl⟩
  · have := hc.length; simp at this; omega
  · intro i v hi
    obtain ⟨X, e1, e2⟩ := hc.get hi
    exact ⟨X, by simpa using e1, VRel.mono hle _ _ e2⟩

def OKv (P : Program) (base : Nat) (ρ : Env) (m : Sem Value) (w : World) (v : V) (s' : St) : Prop :=
  ∃ ρ' X w', ρ.le ρ' ∧ m.run P w = .ok X w' ∧ VRel ρ' v X ∧ SRel base ρ' s' w' ∧ Below base w w'

def MkOK (P : Program) (ρ : Env) (m : Sem Value) (w : World) : Mk → Prop
  | .mk cs t sl => ∃ X C t', m.run P w = .ok X { w with heap := w.heap.push (.cells C t') } ∧ LRel ρ cs C.toList ∧
      ∀ (ρ' : Env) (b : Nat), ρ' b = some ⟨w.heap.size, 0, C.size⟩ → VRel ρ' ((Mk.mk cs t sl).val b) X
theorem mkNew_rel (h : SRel base ρ s w) {m : Option Mk} {v : V} {s' : St} (hq : mkNew s m = some (v, s')) {x : Sem Value} (hm : ∀ k, m = some k → MkOK P ρ x w k) : OKv P base ρ x w v s' := by
  unfold mkNew at hq
  split at hq
  · rename_i m
    cases hq
    obtain ⟨cs, t, sl⟩ := m
    obtain ⟨X, C, t', e1, e2, e3⟩ := hm _ rfl
    obtain ⟨h1, h2, h3⟩ := h.newCells e2 t t'
    exact ⟨_, X, _, h1, e1, e3 _ _ Env.put_same, h2, h3⟩
  · cases hq

theorem newVar_mk {v : V} {X : Value} (hv : VRel ρ v X) (t : TypeId) : MkOK P ρ (do pure (.pointer (some (← newVar t X)))) w (.mk (cellsV v) t none) := by
  refine ⟨_, X.cells, t, by simp [newVar, newRow]; rfl, cellsV_rel hv, fun ρ' b hb => ?_⟩
  simp only [Mk.val, VRel]
  exact ⟨_, _, _, hb, rfl⟩

theorem mAlloc_rel {t : TypeId} {m : Mk} (hq : mAlloc P t = some m) : MkOK P ρ (Instr.alloc t true (.tuple #[])) w m := by
  unfold mAlloc at hq
  split at hq
  · rename_i z hz
    cases hq
    obtain ⟨Z, hZ, hzr, _⟩ := zeroE_rel (ρ := ρ) (w := w) hz
    obtain ⟨X, C, t', h1, h2⟩ := newVar_mk (P := P) (w := w) hzr t
    refine ⟨X, C, t', ?_, h2⟩
    simp only [Instr.alloc, Sem.run_bind, hZ, Result.andThen_ok]
    simpa using h1
  · cases hq
theorem eAlloc_rel (h : SRel base ρ s w) {t : TypeId} {v : V} {s' : St} (hq : eAlloc P s t = some (v, s')) : OKv P base ρ (Instr.alloc t true (.tuple #[])) w v s' :=
  mkNew_rel h hq fun _ => mAlloc_rel

theorem mBox_rel {t : TypeId} {v : V} {m : Mk} (hq : mBox t v = some m) {X : Value} (hv : VRel ρ v X) : MkOK P ρ (Instr.box t X) w m := by
  cases hq
  exact newVar_mk hv t
theorem eBox_rel (h : SRel base ρ s w) {t : TypeId} {v u : V} {s' : St} (hq : eBox s t v = some (u, s')) {X : Value} (hv : VRel ρ v X) : OKv P base ρ (Instr.box t X) w u s' :=
  mkNew_rel h hq fun _ h => mBox_rel h hv

theorem repE_length : ∀ n (zs : List V), (repE n zs).length = n * zs.length
  | 0, _ => by simp [repE]
  | n + 1, zs => by simp [repE, lapp_eq, repE_length n, Nat.succ_mul, Nat.add_comm]
theorem repE_get : ∀ n (zs : List V) i, i < n * zs.length → (repE n zs)[i]? = zs[i % zs.length]?
  | 0, _, _, h => by simp at h
  | n + 1, zs, i, h => by
    simp only [repE, lapp_eq]
    rcases Nat.lt_or_ge i zs.length with hi | hi
    · rw [List.getElem?_append_left hi, Nat.mod_eq_of_lt hi]
    · rw [List.getElem?_append_right hi, repE_get n zs _ (by rw [Nat.succ_mul] at h; omega), ← Nat.mod_eq_sub_mod hi]

theorem range_rep {zs : List V} {Z : Array Value} (hz : LRel ρ zs Z.toList) (n : Nat) : LRel ρ (repE n zs) ((Array.range (n * zs.length)).map (fun i => Z[i % Z.size]!)).toList := by
  have hl := hz.length
  simp only [Array.length_toList] at hl
  refine LRel.of_get (by simp [repE_length]) fun i v hi => ?_
  have hlt : i < n * zs.length := by
    have := (List.getElem?_eq_some_iff.1 hi).1
    rwa [repE_length] at this
  rw [repE_get n zs i hlt] at hi
  obtain ⟨X, h1, h2⟩ := hz.get hi
  simp only [Array.getElem?_toList] at h1
  refine ⟨X, ?_, h2⟩
  simp only [Array.toList_map, Array.toList_range, List.getElem?_map, List.getElem?_range hlt, Option.map_some, Option.some.injEq]
  rw [← hl, Array.getElem!_eq_getD, Array.getD_eq_getD_getElem?, h1]
  rfl

theorem map_range0 {α : Type} (f : Nat → α) : (Array.range 0).map f = #[] := by apply Array.eq_empty_of_size_eq_zero; simp

theorem info_size {t : TypeId} {i : TypeInfo} (h : P.info? t = some i) : (sizeOf t).run P w = .ok i.size w := by simp [sizeOf, typeInfo, h]

theorem mBuildSlice_rel {t : TypeId} {len : Nat} {ps : List (Nat × V)} {m : Mk} (hq : mBuildSlice P t len ps = some m) {Ps : Array (Nat × Value)} (hp : PRel ρ ps Ps.toList) :
    MkOK P ρ (Instr.buildSlice t len Ps) w m := by
  unfold mBuildSlice at hq
  simp only [llen_eq, lall_eq, ltake_eq, ldrop_eq, lapp_eq, lget_eq] at hq
  split at hq
  · rename_i e hd
    split at hq
    · rename_i sz z hsz hz
      cases hb : (Nat.beq (cellsV z).length sz && (Nat.ble (len * sz) 16777216 && Nat.ble 1 sz)) with
      | false => simp [hb] at hq
      | true =>
      simp only [hb, cond_true] at hq
      simp only [Bool.and_eq_true, Nat.ble_eq, Nat.beq_eq] at hb
      split at hq
      · rename_i cs hcs
        cases hq
        obtain ⟨Z, hZ, hzr, _⟩ := zeroE_rel (ρ := ρ) (w := w) hz
        have hzc := cellsV_rel hzr
        have hrep := range_rep hzc len
        rw [hb.1] at hrep
        obtain ⟨R, e1, e2⟩ := fillE_rel hp hrep hcs
        refine ⟨.slice (some ⟨w.heap.size, 0, none⟩) len len, R, e, ?_, e2, fun ρ' b hbb => ?_⟩
        · by_cases h0 : len * sz = 0
          · have hlen : len = 0 := by rcases Nat.mul_eq_zero.1 h0 with h | h; exact h; omega
            subst hlen
            simp only [Nat.zero_mul] at e1
            have e0 : (Array.range 0).map (fun i => Z.cells[i % Z.cells.size]!) = #[] := by apply Array.eq_empty_of_size_eq_zero; simp
            rw [e0] at e1
            have e1' : Instr.fill (fun i => some (i * sz, sz)) #[] Ps.toList = some R := e1
            simp [Instr.buildSlice, run_und hd, run_size hsz, newRow, map_range0, e1']
          · have hbig : ¬ len * sz > 2 ^ 24 := by omega
            have hbig' : ¬ 16777216 < len * sz := by omega
            simp only [Instr.buildSlice, Sem.run_bind, run_und hd, Result.andThen_ok, run_size hsz, Sem.run_ite, hbig, h0, if_false, hZ, Sem.run_pure]
            rw [e1]
            simp [newRow]
        · simp only [Mk.val, VRel]
          refine ⟨_, _, _, len, hbb, rfl, Nat.le_refl _, Nat.le_refl _, fun _ => rfl, ?_⟩
          have hl := e2.length
          have : cs.length = len * sz := by
            have : ∀ (ps : List (Nat × V)) (c r : List V), fillE (fun i => some (i * sz, sz)) c ps = some r → r.length = c.length := by
              intro ps
              induction ps with
              | nil => intro c r hh; simp only [fillE] at hh; cases hh; rfl
              | cons p ps ih =>
                intro c r hh
                simp only [fillE, llen_eq] at hh
                cases hc : (Nat.beq (cellsV p.2).length sz && Nat.ble (p.1 * sz + sz) c.length) with
                | false => simp [hc] at hh
                | true => simp only [hc, cond_true] at hh; rw [ih _ _ hh, setAll_length]
            rw [this _ _ _ hcs, repE_length, hb.1]
          simp only [Array.length_toList] at hl
          have hpos : len ≤ len * sz := Nat.le_mul_of_pos_right _ (by omega)
          omega
      · cases hq
    · cases hq
  · cases hq

theorem eBuildSlice_rel (h : SRel base ρ s w) {t : TypeId} {len : Nat} {ps : List (Nat × V)} {v : V} {s' : St} (hq : eBuildSlice P s t len ps = some (v, s')) {Ps : Array (Nat × Value)} (hp : PRel ρ ps Ps.toList) :
    OKv P base ρ (Instr.buildSlice t len Ps) w v s' := mkNew_rel h hq fun _ h => mBuildSlice_rel h hp

theorem wrap_small {n : Nat} (h : n ≤ 281474976710656) : IntKind.i64.wrap (n : Int) = n := by
  have h2 : (n : Int) % (2 ^ IntKind.i64.bits : Int) = n := Int.emod_eq_of_lt (by omega) (by simp only [IntKind.bits]; omega)
  unfold IntKind.wrap
  simp only [h2]
  exact if_neg (by simp [IntKind.signed, IntKind.bits]; omega)

theorem mMakeSlice_rel {t : TypeId} {len cap : V} {m : Mk} (hq : mMakeSlice P t len cap = some m) {L K : Value} (hl : VRel ρ len L) (hk : VRel ρ cap K) :
    MkOK P ρ (Instr.makeSlice t L K) w m := by
  unfold mMakeSlice at hq
  simp only [llen_eq, lall_eq, ltake_eq, ldrop_eq, lapp_eq, lget_eq] at hq
  split at hq
  · rename_i e l c hd hln hcn
    split at hq
    · rename_i i z hi hz
      cases hb : (Nat.beq (cellsV z).length i.size && (Nat.ble 1 i.size && (Nat.ble l c && (Nat.ble c 281474976710656 && Nat.ble (i.bytes * c) 281474976710656)))) with
      | false => simp [hb] at hq
      | true =>
      simp only [hb, cond_true, Option.some.injEq] at hq
      subst hq
      simp only [Bool.and_eq_true, Nat.ble_eq, Nat.beq_eq] at hb
      obtain ⟨b1, b2, b3, b4, b5⟩ := hb
      obtain ⟨k1, rfl⟩ := natOf_rel hln hl
      obtain ⟨k2, rfl⟩ := natOf_rel hcn hk
      obtain ⟨Z, hZ, hzr, _⟩ := zeroE_rel (ρ := ρ) (w := w) hz
      have hzc := cellsV_rel hzr
      have hrep := range_rep hzc c
      rw [b1] at hrep
      refine ⟨.slice (some ⟨w.heap.size, 0, none⟩) l c, _, e, ?_, hrep, fun ρ' b hbb => ?_⟩
      · have w1 := wrap_small (n := l) (by omega)
        have w2 := wrap_small (n := c) b4
        have t1 : ¬ ((c : Int) < 0) := by omega
        have t2 : ¬ ((i.bytes : Int) * (c : Int) > 2 ^ 48) := by
          have : ((i.bytes * c : Nat) : Int) ≤ 281474976710656 := by omega
          simp only [Int.natCast_mul] at this; omega
        have t2' : ¬ ((281474976710656 : Int) < (i.bytes : Int) * (c : Int)) := by simpa using t2
        have t3 : ¬ ((l : Int) < 0) := by omega
        have t4 : ¬ ((l : Int) > (c : Int)) := by omega
        have hti : (typeInfo e).run P w = .ok i w := by simp [typeInfo, hi]
        by_cases h0 : c * i.size = 0
        · have hc0 : c = 0 := by rcases Nat.mul_eq_zero.1 h0 with h | h; exact h; omega
          subst hc0
          have hl0 : l = 0 := by omega
          subst hl0
          have e0 : (Array.range (0 * i.size)).map (fun i => Z.cells[i % Z.cells.size]!) = #[] := by apply Array.eq_empty_of_size_eq_zero; simp
          rw [e0]
          have w0 : IntKind.i64.wrap 0 = 0 := by simpa using w2
          simp [Instr.makeSlice, run_und hd, asInt, run_asIntOf, hti, w0, info_size hi, newRow, map_range0]
        · simp [Instr.makeSlice, run_und hd, asInt, run_asIntOf, hti, w1, w2, t1, t2', t3, info_size hi, newRow, h0, hZ, Nat.not_lt.2 b3]
      · simp only [Mk.val, VRel]
        refine ⟨_, _, _, c, hbb, rfl, b3, Nat.le_refl _, fun _ => rfl, by simp, by omega⟩
    · cases hq
  · cases hq
theorem eMakeSlice_rel (h : SRel base ρ s w) {t : TypeId} {len cap v : V} {s' : St} (hq : eMakeSlice P s t len cap = some (v, s')) {L K : Value} (hl : VRel ρ len L) (hk : VRel ρ cap K) :
    OKv P base ρ (Instr.makeSlice t L K) w v s' := mkNew_rel h hq fun _ h => mMakeSlice_rel h hl hk

theorem eRange_rel (h : SRel base ρ s w) {t : TypeId} {x v : V} {s' : St} (hq : eRange P s t x = some (v, s')) {X : Value} (hx : VRel ρ x X) : OKv P base ρ (Instr.range t X) w v s' := by
  unfold eRange at hq
  split at hq
  · rename_i b hd
    cases hq
    simp only [VRel] at hx
    subst hx
    have hle := Env.le_put ⟨w.heap.size, 0, 0⟩ h.fresh
    refine ⟨_, .pointer (some ⟨w.heap.size, 0, none⟩), { w with heap := w.heap.push (.stringIter b.den 0) }, hle, by simp [Instr.range, run_und hd], ?_, h.new _ (.stringIter b.den 0) 0 rfl rfl, below_new h.le rfl⟩
    simp only [VRel]; exact ⟨_, _, Env.put_same, rfl⟩
  · cases hq

theorem ascii_decode {x : BS} {pos : Nat} (hp : pos < x.n) (hc : x.get pos < 128) : Utf8.decode x.den pos = (x.get pos, 1) := by
  obtain ⟨b, h1, h2⟩ := BS.den_get x pos hp
  have hz : pos < x.den.size := by rw [BS.den_size]; exact hp
  rw [getElem?_pos x.den pos hz] at h1
  have h3 : x.den.get! pos = b := by
    have := Option.some.inj h1
    rw [← this]
    show x.den.data[pos]! = x.den.data[pos]
    exact getElem!_pos x.den.data pos hz
  unfold Utf8.decode
  simp only [Nat.add_zero, h3, h2, if_pos hc]

theorem eNext_rel (h : SRel base ρ s w) {x v : V} {s' : St} (hq : eNext s x = some (v, s')) {X : Value} (hx : VRel ρ x X) (ty : TypeId) : OKv P base ρ (Instr.next X true ty) w v s' := by
  unfold eNext at hq
  split at hq
  · rename_i b
    split at hq
    · rename_i str pos hg
      simp only [VRel] at hx
      obtain ⟨B, S, hB, rfl⟩ := hx
      obtain ⟨y, hy, hb, hO⟩ := h.obj' hg hB
      rw [hB] at hy; cases hy
      have hO : w.heap[B]? = some (.stringIter str.den pos) := hO
      have hget : (getObj B).run P w = .ok (.stringIter str.den pos) w := by simp only [getObj, Sem.run, hO]
      rw [blt_iff] at hq
      by_cases hp : pos < str.n
      · rw [decide_eq_true hp, cond_true, blt_iff] at hq
        by_cases hc : str.get pos < 128
        · rw [decide_eq_true hc, cond_true] at hq
          cases hq
          have hset : (setObj B (.stringIter str.den (pos + 1))).run P w = .ok () { w with heap := w.heap.setIfInBounds B (.stringIter str.den (pos + 1)) } := by simp only [setObj, Sem.run, hO]
          refine ⟨ρ, .tuple #[.bool true, .int .i64 (Int.ofNat pos), .int .i32 (Int.ofNat (str.get pos))], _, ρ.le_refl, ?_, ?_, h.upd hg hB _ (.stringIter str.den (pos + 1)) rfl rfl, below_set hb rfl⟩
          · have hp' : pos < str.den.size := by rw [BS.den_size]; exact hp
            simp [Instr.next, hget, hp', ascii_decode hp hc, hset, goInt]
          · simp only [VRel]
            exact ⟨_, rfl, LRel.cons (by simp only [VRel]) (LRel.cons (by simp only [VRel]) (LRel.cons (by simp only [VRel]) LRel.nil))⟩
        · rw [decide_eq_false hc] at hq; cases hq
      · rw [decide_eq_false hp, cond_false] at hq
        cases hq
        have hp' : ¬ pos < str.den.size := by rw [BS.den_size]; exact hp
        refine ⟨ρ, .tuple #[.bool false], w, ρ.le_refl, by simp [Instr.next, hget, hp'], ?_, h, Below.refl _ _⟩
        simp only [VRel]
        exact ⟨_, rfl, LRel.cons (by simp only [VRel]) LRel.nil⟩
    · cases hq
  · cases hq

end
end Go.Eng
end
