/-
  Texts of this claim, one behind the other: SymE. Each says its own conditions.
-/
import Derived.Test.YtlfhiophojahbaaCloM9
import Derived.MapKept

set_option linter.unusedVariables false
set_option linter.unusedSimpArgs false
set_option linter.unusedSectionVars false
section
namespace Go.Sym
set_option linter.unusedSimpArgs false
set_option linter.unusedVariables false

section
variable {P : Program} {own : Own} {ρ : Env} {s : St} {w : World}

theorem vint (k : IntKind) (n : Int) : VRel ρ (.int k n) (.int k n) := by simp only [VRel]
theorem vbool (b : Bool) : VRel ρ (.bool b) (.bool b) := by simp only [VRel]
theorem vstr (s : ByteArray) : VRel ρ (.str s) (.string s) := by simp only [VRel]
theorem part_cell {t : TypeId} {A : Array Value} {off : Nat} {X : Value} (ht : isAggE P t = some false) (h : A[off]? = some X) : (part t A off).run P w = .ok X w := by
  simp [part, run_isAgg ht, h]

theorem eqFields_rel (d : Nat) {nest : TypeId → V → V → Option Bool} (hnest : ∀ t a b r, nest t a b = some r → ∀ A B, VRel ρ a A → VRel ρ b B → (Op.equalIn (d + 1) t A B).run P w = .ok r w) :
    ∀ (fs : List Field) {l m : List V} {r : Bool}, eqFields P nest fs l m = some r → ∀ {A B : Array Value}, LRel ρ l A.toList → LRel ρ m B.toList →
    (Op.eqFields (d + 1) A B fs).run P w = .ok r w
  | [], l, m, r, h, A, B, ha, hb => by simp only [eqFields] at h; cases h; simp [Op.eqFields]
  | f :: rest, l, m, r, h, A, B, ha, hb => by
    have ih := fun {r} h => eqFields_rel d hnest rest (l := l) (m := m) (r := r) h ha hb
    simp only [eqFields, lget_eq, kEq_iff] at h
    cases hn : (f.name == "_") with
    | true => simp [hn] at h
    | false =>
      simp only [hn, cond_false] at h
      have hne : f.name ≠ "_" := by simpa using hn
      simp only [Op.eqFields, hne, ne_eq, not_false_eq_true, if_true]
      split at h
      · rename_i k0 hd
        have hag : isAggE P f.type = some false := by simp [isAggE, hd]
        split at h
        · rename_i k x k' y h1 h2
          cases hkk : decide (k = k') with
          | false => simp [hkk] at h
          | true =>
            have hk : k = k' := by simpa using hkk
            subst hk
            simp only [decide_true, cond_true] at h
            split at h
            · rename_i r' hr'
              cases h
              obtain ⟨X, e1, e2⟩ := ha.get h1
              obtain ⟨Y, e3, e4⟩ := hb.get h2
              simp only [VRel] at e2 e4; subst e2; subst e4
              simp only [Array.getElem?_toList] at e1 e3
              simp only [Sem.run_bind, part_cell hag e1, part_cell hag e3, Result.andThen_ok, run_equalIn_int w d _ _ _ _ _ hd]
              by_cases hxy : x = y
              · subst hxy; simpa using ih hr'
              · simp [hxy]
            · cases h
        · cases h
      · rename_i hd
        have hag : isAggE P f.type = some false := by simp [isAggE, hd]
        split at h
        · rename_i x y h1 h2
          split at h
          · rename_i r' hr'
            cases h
            obtain ⟨X, e1, e2⟩ := ha.get h1
            obtain ⟨Y, e3, e4⟩ := hb.get h2
            simp only [VRel] at e2 e4; subst e2; subst e4
            simp only [Array.getElem?_toList] at e1 e3
            simp only [Sem.run_bind, part_cell hag e1, part_cell hag e3, Result.andThen_ok, run_equalIn_bool w d _ _ _ hd]
            cases hxy : (x == y) with
            | true => simpa using ih hr'
            | false => simp
          · cases h
        · cases h
      · rename_i hd
        have hag : isAggE P f.type = some false := by simp [isAggE, hd]
        split at h
        · rename_i x y h1 h2
          split at h
          · rename_i r' hr'
            cases h
            obtain ⟨X, e1, e2⟩ := ha.get h1
            obtain ⟨Y, e3, e4⟩ := hb.get h2
            simp only [VRel] at e2 e4; subst e2; subst e4
            simp only [Array.getElem?_toList] at e1 e3
            have he := sEq_eq x y
            simp only [Sem.run_bind, part_cell hag e1, part_cell hag e3, Result.andThen_ok, run_equalIn_string w d _ _ _ hd, ByteArray.toList_eq, ← he]
            cases hxy : sEq x y with
            | true => simpa using ih hr'
            | false => simp
          · cases h
        · cases h
      · rename_i hd
        split at h
        · rename_i x y h1 h2
          obtain ⟨X, e1, e2⟩ := partE_rel (w := w) h1 ha
          obtain ⟨Y, e3, e4⟩ := partE_rel (w := w) h2 hb
          split at h
          · rename_i q r' hx hr'
            cases h
            simp only [Sem.run_bind, e1, e3, Result.andThen_ok, hnest _ _ _ _ hx _ _ e2 e4]
            cases q with
            | true => simpa using ih hr'
            | false => simp
          · cases h
        · cases h
      · cases h

theorem eqNest_rel : ∀ (n d : Nat), n < d → ∀ t a b r, eqNest P n t a b = some r → ∀ A B, VRel ρ a A → VRel ρ b B → (Op.equalIn (d + 1) t A B).run P w = .ok r w
  | 0, _, _, _, _, _, _, h, _, _, _, _ => by simp only [eqNest] at h; cases h
  | n + 1, d, hd, t, a, b, r, h, A, B, ha, hb => by
    simp only [eqNest] at h
    split at h
    · rename_i fs hu
      split at h
      · rename_i l m
        cases hg : P.stoodInHeld t with
        | true => simp [hg] at h
        | false =>
          simp only [hg, cond_false] at h
          simp only [VRel] at ha hb
          obtain ⟨xs, rfl, ha⟩ := ha
          obtain ⟨ys, rfl, hb⟩ := hb
          have hf : P.fieldsOf t = fs := by simp [Program.fieldsOf, hu]
          have := run_equalIn_struct w d t xs ys (by rw [hf]; exact hu) hg
          obtain ⟨e, rfl⟩ : ∃ e, d = e + 1 := ⟨d - 1, by omega⟩
          rw [hf, eqFields_rel e (eqNest_rel n e (by omega)) _ h ha hb] at this
          exact this
      · cases h
    · cases h

theorem eqE_shape {t : TypeId} {a b : V} {r : Bool} (hq : eqE P s t a b = some r) {A B : Value} (ha : VRel ρ a A) (hb : VRel ρ b B) (op : BinOp) (x y : Operand) :
    (eqGuard op t x y A B).run P w = .ok () w ∧ Go.binOp .eql t A B = (do pure (.bool (← Op.equal t A B))) ∧ Go.binOp .neq t A B = (do pure (.bool (!(← Op.equal t A B)))) := by
  unfold eqE at hq
  split at hq <;> (try (cases hq; done)) <;> split at hq <;> (try (cases hq; done)) <;>
    simp only [VRel] at ha hb <;> (try obtain ⟨_, _, _, _, _, rfl, _⟩ := ha) <;> (try obtain ⟨_, _, _, _, rfl⟩ := ha) <;> (try obtain ⟨_, _, rfl, _⟩ := ha) <;> (try obtain ⟨_, rfl, _⟩ := ha) <;>
    (try obtain ⟨_, _, _, _, _, rfl, _⟩ := hb) <;> (try obtain ⟨_, _, _, _, rfl⟩ := hb) <;> (try obtain ⟨_, _, rfl, _⟩ := hb) <;> (try obtain ⟨_, rfl, _⟩ := hb) <;>
    (try subst ha) <;> (try subst hb) <;> refine ⟨?_, rfl, rfl⟩ <;> cases op <;> simp [eqGuard]

theorem eqAny_rel (h : SRel own ρ s w) {t : TypeId} {a b : V} {r : Bool} (hq : eqAny P s t a b = some r) {A B : Value} (ha : VRel ρ a A) (hb : VRel ρ b B) (op : BinOp) (x y : Operand) :
    (eqGuard op t x y A B).run P w = .ok () w ∧ (Go.binOp .eql t A B).run P w = .ok (.bool r) w ∧ (Go.binOp .neq t A B).run P w = .ok (.bool (!r)) w := by
  unfold eqAny at hq
  split at hq
  · rename_i r' hr
    cases hq
    obtain ⟨h1, h2, h3⟩ := eqE_shape (w := w) hr ha hb op x y
    have := eqE_rel h hr ha hb 9999
    rw [h2, h3]
    refine ⟨h1, ?_, ?_⟩ <;> simp [Op.equal, Op.maxDepth, this]
  split at hq
  · rename_i r' hr
    cases hq
    unfold eqNil2 at hr
    split at hr
    · rename_i ms hd
      split at hr
      · cases hm : ms.isEmpty with
        | false => rw [hm] at hr; cases hr
        | true =>
          rw [hm, cond_true] at hr
          cases hr
          simp only [VRel] at ha hb; subst ha; subst hb
          have k1 : ∀ d, (Op.eqGuardIn (d + 1) t .nilIface .nilIface).run P w = .ok false w := fun d => by simp [Op.eqGuardIn, run_und hd, hm]
          have k2 : ∀ d, (Op.equalIn (d + 1) t .nilIface .nilIface).run P w = .ok true w := fun d => by simp [Op.equalIn, run_und hd]
          have g1 : (Op.eqGuardIn Op.maxDepth t .nilIface .nilIface).run P w = .ok false w := k1 9999
          have g2 : (Op.equal t .nilIface .nilIface).run P w = .ok true w := k2 9999
          refine ⟨?_, ?_, ?_⟩
          · cases op <;> simp [eqGuard, g1]
          · have e : Go.binOp .eql t .nilIface .nilIface = (do pure (.bool (← Op.equal t .nilIface .nilIface))) := rfl
            rw [e]; simp [g2]
          · have e : Go.binOp .neq t .nilIface .nilIface = (do pure (.bool (!(← Op.equal t .nilIface .nilIface)))) := rfl
            rw [e]; simp [g2]
      · cases hr
    · cases hr
  · unfold eqStruct at hq
    split at hq
    · rename_i fs hd
      split at hq
      · rename_i l m
        cases hg : (P.stoodInHeld t || P.eqGuardType P.depth t) with
        | true => simp [hg] at hq
        | false =>
          simp only [hg, cond_false] at hq
          simp only [Bool.or_eq_false_iff] at hg
          simp only [VRel] at ha hb
          obtain ⟨xs, rfl, ha⟩ := ha
          obtain ⟨ys, rfl, hb⟩ := hb
          have hf : P.fieldsOf t = fs := by simp [Program.fieldsOf, hd]
          have := run_equalIn_struct w 9999 t xs ys (by rw [hf]; exact hd) hg.1
          rw [hf, eqFields_rel 9998 (eqNest_rel 6 9998 (by omega)) _ hq ha hb] at this
          exact ⟨run_eqGuard_agg w op t x y xs ys hg.2, by rw [run_eql_struct, this]; rfl, by rw [run_neq_struct, this]; rfl⟩
      · cases hq
    · cases hq

theorem nilCmp_rel {t : TypeId} {a b : V} {c : List Bool} (hq : nilCmp P t a b = some c) (hp : allB c) {A B : Value} (ha : VRel ρ a A) (hb : VRel ρ b B) (op : BinOp) (x y : Operand) :
    (eqGuard op t x y A B).run P w = .ok () w ∧ (Go.binOp .eql t A B).run P w = .ok (.bool false) w ∧ (Go.binOp .neq t A B).run P w = .ok (.bool true) w := by
  have key : ∀ (A B : Value), (∃ a n c e, P.underlying t = some (.slice e) ∧ ((A = .slice (some a) n c ∧ B = .slice none 0 0) ∨ (A = .slice none 0 0 ∧ B = .slice (some a) n c))) →
      (eqGuard op t x y A B).run P w = .ok () w ∧ (Go.binOp .eql t A B).run P w = .ok (.bool false) w ∧ (Go.binOp .neq t A B).run P w = .ok (.bool true) w := by
    rintro A B ⟨a, n, c, e, hd, ⟨rfl, rfl⟩ | ⟨rfl, rfl⟩⟩
    · have h1 : ∀ d, (Op.equalIn (d + 1) t (.slice (some a) n c) (.slice none 0 0)).run P w = .ok false w := fun d => by simp [Op.equalIn, run_und hd]
      have h2 : (Op.equal t (.slice (some a) n c) (.slice none 0 0)).run P w = .ok false w := h1 9999
      refine ⟨by cases op <;> simp [eqGuard], ?_, ?_⟩
      · have e : Go.binOp .eql t (.slice (some a) n c) (.slice none 0 0) = (do pure (.bool (← Op.equal t (.slice (some a) n c) (.slice none 0 0)))) := rfl
        rw [e]; simp [h2]
      · have e : Go.binOp .neq t (.slice (some a) n c) (.slice none 0 0) = (do pure (.bool (!(← Op.equal t (.slice (some a) n c) (.slice none 0 0))))) := rfl
        rw [e]; simp [h2]
    · have h1 : ∀ d, (Op.equalIn (d + 1) t (.slice none 0 0) (.slice (some a) n c)).run P w = .ok false w := fun d => by simp [Op.equalIn, run_und hd]
      have h2 : (Op.equal t (.slice none 0 0) (.slice (some a) n c)).run P w = .ok false w := h1 9999
      refine ⟨by cases op <;> simp [eqGuard], ?_, ?_⟩
      · have e : Go.binOp .eql t (.slice none 0 0) (.slice (some a) n c) = (do pure (.bool (← Op.equal t (.slice none 0 0) (.slice (some a) n c)))) := rfl
        rw [e]; simp [h2]
      · have e : Go.binOp .neq t (.slice none 0 0) (.slice (some a) n c) = (do pure (.bool (!(← Op.equal t (.slice none 0 0) (.slice (some a) n c))))) := rfl
        rw [e]; simp [h2]
  have hlst : ∀ {e : List Ty} {L : List (rowDen e)} {cl : Bool} {X : Value}, VRel ρ (.lst e L cl) X → 0 < List.length (α := rowDen e) L → ∃ a n c, X = .slice (some a) n c := fun r hp => by
    simp only [VRel] at r
    obtain ⟨a, c, rfl, _, _, _, h4⟩ := r
    obtain ⟨B, o, rfl, _⟩ := h4 hp
    exact ⟨_, _, _, rfl⟩
  have hrs : ∀ {b lo len cap : Nat} {x' : Bool} {es : Nat} {X : Value}, VRel ρ (.rs b lo len cap x' es) X → 0 < len → ∃ a n c, X = .slice (some a) n c := fun r hp => by
    simp only [VRel] at r
    obtain ⟨a, c, rfl, h2, h3, _, _, h5⟩ := r
    obtain ⟨B, O, S, _, rfl, _⟩ := h5 (by omega)
    exact ⟨_, _, _, rfl⟩
  unfold nilCmp at hq
  split at hq
  · rename_i e0 hd
    split at hq <;> cases hq
    · obtain ⟨a, n, c, rfl⟩ := hlst ha (of_decide_eq_true hp.1)
      simp only [VRel] at hb
      exact key _ _ ⟨a, n, c, e0, hd, .inl ⟨rfl, hb⟩⟩
    · obtain ⟨a, n, c, rfl⟩ := hlst hb (of_decide_eq_true hp.1)
      simp only [VRel] at ha
      exact key _ _ ⟨a, n, c, e0, hd, .inr ⟨ha, rfl⟩⟩
    · obtain ⟨a, n, c, rfl⟩ := hrs ha (of_decide_eq_true hp.1)
      simp only [VRel] at hb
      exact key _ _ ⟨a, n, c, e0, hd, .inl ⟨rfl, hb⟩⟩
    · obtain ⟨a, n, c, rfl⟩ := hrs hb (of_decide_eq_true hp.1)
      simp only [VRel] at ha
      exact key _ _ ⟨a, n, c, e0, hd, .inr ⟨ha, rfl⟩⟩
  · cases hq
theorem qBin_rel (h : SRel own ρ s w) {op : BinOp} {t : TypeId} {a b v : V} {ps : List Bool} (hq : qBin P s op t a b = some (ps, v)) (hp : allB ps) {A B : Value} (ha : VRel ρ a A) (hb : VRel ρ b B) (x y : Operand) :
    ∃ X, (do eqGuard op t x y A B; Go.binOp op t A B : Sem Value).run P w = .ok X w ∧ VRel ρ v X := by
  unfold qBin at hq
  split at hq
  · rename_i k x1 k' y1
    simp only [VRel] at ha hb; subst ha; subst hb
    have hg : (eqGuard op t x y (.int k x1) (.int k' y1)).run P w = .ok () w := by cases op <;> simp [eqGuard]
    simp only [Sem.run_bind, hg, Result.andThen_ok]
    split at hq
    · exact shiftE_rel (k' := k') hq hp
    · exact shiftE_rel (k' := k') hq hp
    · rename_i h1 h2
      rw [kEq_iff] at hq
      cases hkk : decide (k = k') with
      | false => simp [hkk] at hq
      | true =>
        have hk : k = k' := by simpa using hkk
        subst hk
        simp only [decide_true, cond_true] at hq
        exact intBin_rel hq hp h1 h2 t
  · rename_i x1 y1
    simp only [VRel] at ha hb; subst ha; subst hb
    have hg : (eqGuard op t x y (.string x1) (.string y1)).run P w = .ok () w := by cases op <;> simp [eqGuard]
    simp only [Sem.run_bind, hg, Result.andThen_ok]
    have : Go.binOp op t (.string x1) (.string y1) = Op.stringOp op x1 y1 := by cases op <;> rfl
    rw [this]
    exact strBin_rel hq hp
  · split at hq
    · split at hq
      · rename_i r hr
        cases hq
        obtain ⟨h1, h2, _⟩ := eqAny_rel h hr ha hb .eql x y
        exact ⟨.bool r, by simp [h1, h2], by simp [VRel]⟩
      · split at hq
        · rename_i c hc
          cases hq
          obtain ⟨h1, h2, _⟩ := nilCmp_rel (w := w) hc hp ha hb .eql x y
          exact ⟨.bool false, by simp [h1, h2], by simp [VRel]⟩
        · cases hq
    · split at hq
      · rename_i r hr
        cases hq
        obtain ⟨h1, _, h2⟩ := eqAny_rel h hr ha hb .neq x y
        exact ⟨.bool (!r), by simp [h1, h2], by simp [VRel]⟩
      · split at hq
        · rename_i c hc
          cases hq
          obtain ⟨h1, _, h2⟩ := nilCmp_rel (w := w) hc hp ha hb .neq x y
          exact ⟨.bool true, by simp [h1, h2], by simp [VRel]⟩
        · cases hq
    · cases hq

theorem qUn_rel {op : UnOp} {a v : V} (hq : qUn op a = some v) {A : Value} (ha : VRel ρ a A) : ∃ X, (Op.unary op A).run P w = .ok X w ∧ VRel ρ v X := by
  unfold qUn at hq
  split at hq <;> cases hq <;> simp only [VRel] at ha <;> subst ha
  · rename_i k n
    exact ⟨.int k (k.wrap (0 - n)), by simp [Op.unary, Op.intArith], by simp only [VRel]⟩
  · rename_i k n
    have e : ofI k (if k.signed = true then -1 else k.max) = kM k - 1 := by cases k <;> rfl
    refine ⟨.int k (k.wrap ((Nat.xor (kM k - 1) (ofI k n) : Nat) : Int)), ?_, by simp only [VRel]; rfl⟩
    simp only [Op.unary, Op.intBits, Sem.run_pure, BitVec.toNat_xor, bits_toNat, e]
    rfl
  · exact ⟨_, by simp [Op.unary], vbool _⟩

theorem bytesOf_rel : ∀ {l : List V} {r : List Int}, bytesOf l = some r → ∀ {L : List Value}, LRel ρ l L → L = r.map (Value.int .u8)
  | [], r, h, L, hl => by
    simp only [bytesOf, Option.some.injEq] at h; subst h
    have hl : L = [] := hl
    simp [hl]
  | v :: l, r, h, L, hl => by
    obtain ⟨X, Y, rfl, h1, h2⟩ := hl
    unfold bytesOf at h
    split at h
    · rename_i e; cases e
    · rename_i n l' e
      cases e
      split at h
      · rename_i r' hr
        cases h
        simp only [VRel] at h1
        simp [h1, bytesOf_rel hr h2]
      · cases h
    · cases h

theorem foldl_push : ∀ (ns : List Int) (r : ByteArray), (ns.foldl (fun r n => r.push (UInt8.ofNat n.toNat)) r).data.toList = r.data.toList ++ ns.map fun n => UInt8.ofNat n.toNat
  | [], r => by simp
  | n :: ns, r => by
    simp only [List.foldl_cons, List.map_cons]
    rw [foldl_push ns]
    simp [ByteArray.push]

theorem asL_some {e e' : List Ty} {L : List (rowDen e')} {M : List (rowDen e)} (h : asL e e' L = some M) : ∃ q : e' = e, M = castL q L := by
  unfold asL at h
  split at h
  · rename_i hb; cases h; exact ⟨beqL_eq _ _ hb, rfl⟩
  · cases h
theorem rows_bytes {φ : Nat → Nat → Option Value} {e : List Ty} {L : List (rowDen e)} {r : List Int} (h : asBytes e L = some r) {C : Nat → Option Value} (hr : RowsAt φ e L C) :
    e.length = 1 ∧ r.length = L.length ∧ ∀ i n, r[i]? = some n → C i = some (.int .u8 n) := by
  obtain ⟨q, rfl⟩ := asL_some h
  subst q
  refine ⟨rfl, rfl, fun i n hi => ?_⟩
  have hi : (L : List Int)[i]? = some n := hi
  obtain ⟨hlt, e1⟩ := List.getElem?_eq_some_iff.1 hi
  have := hr i hlt
  rw [CRel] at this
  obtain ⟨X, h1, h2⟩ := this
  have h2 : X = Value.int .u8 (rowAt [.int .u8] L i) := h2
  have e2 : rowAt [.int .u8] L i = n := by
    show List.getD L i _ = n
    rw [List.getD_eq_getElem?_getD]
    exact congrArg (fun x : Option Int => x.getD 0) hi
  rw [e2] at h2
  subst h2
  simpa using h1

theorem strOf_rel (r : List Int) : (r.foldl (fun (r : ByteArray) n => r.push (UInt8.ofNat n.toNat)) .empty) = strOf r := by
  apply ba_ext
  rw [foldl_push, strOf]
  simp

theorem qConv_rel (h : SRel own ρ s w) {src dst : TypeId} {a v : V} {ps : List Bool} (hq : qConv P s src dst a = some (ps, v)) (hp : allB ps) {A : Value} (ha : VRel ρ a A) :
    ∃ X, (Go.convert src dst A).run P w = .ok X w ∧ VRel ρ v X := by
  unfold qConv at hq
  split at hq
  · rename_i sd dd hs hd
    split at hq
    · split at hq
      · simp only [VRel] at ha; subst ha
        rename_i k
        exact ⟨.int k (k.wrap _), by simp [Go.convert, run_und hs, run_und hd, Conv.intToInt], arithE_rel hq hp⟩
      · cases hq
    · split at hq <;> cases hq
      simp only [VRel] at ha; subst ha
      exact ⟨_, by simp [Go.convert, run_und hs, run_und hd], vstr _⟩
    · split at hq
      · rename_i e
        split at hq
        · rename_i he
          cases hq
          simp only [VRel] at ha; subst ha
          refine ⟨.string .empty, by simp [Go.convert, run_und hs, run_und hd, run_und he, Conv.bytesToString], ?_⟩
          simp only [VRel]; rfl
        · cases hq
      · cases hq
    · rename_i e' L cl
      split at hq
      · rename_i e
        split at hq
        · rename_i he
          split at hq
          · rename_i r hr
            cases hq
            simp only [VRel] at ha
            obtain ⟨a, c, rfl, _, _, hn, hrow⟩ := ha
            have hlen : r.length = L.length := by obtain ⟨q, rfl⟩ := asL_some hr; subst q; rfl
            rcases Nat.eq_zero_or_pos L.length with h0 | h0
            · have hr0 : r = [] := List.length_eq_zero_iff.1 (by omega)
              rw [h0, hr0]
              cases a with
              | none =>
                have := hn rfl; subst this
                exact ⟨.string .empty, by simp [Go.convert, run_und hs, run_und hd, run_und he, Conv.bytesToString], by simp only [VRel]; rfl⟩
              | some ad =>
                have hL : (loadCells ad 0).run P w = .ok #[] w := run_loadCells_list (P := P) w ad [] (fun j v hj => by simp at hj)
                refine ⟨.string .empty, ?_, by simp only [VRel]; rfl⟩
                rw [run_convert_bytes_string w src dst e _ _ _ hs he hd, run_bytesToString w _ _ _ [] (by simpa using hL)]
                rfl
            · obtain ⟨B, o, rfl, hro⟩ := hrow h0
              obtain ⟨_, _, hcell⟩ := rows_bytes hr (h.rowsφ hro)
              have hL := run_loadCells_list (P := P) w ⟨B, o, none⟩ (r.map (Value.int .u8)) (fun j v hj => by
                rw [addr_add]
                rw [List.getElem?_map] at hj
                cases hj' : r[j]? with
                | none => simp [hj'] at hj
                | some n => simp [hj'] at hj; subst hj; exact hcell _ _ hj')
              simp only [List.length_map, hlen] at hL
              refine ⟨.string (strOf r), ?_, by simp only [VRel]⟩
              rw [run_convert_bytes_string w src dst e _ _ _ hs he hd, run_bytesToString w _ _ _ r hL, strOf_rel]
          · cases hq
        · cases hq
      · cases hq
    · rename_i b lo len cap x es
      split at hq
      · rename_i e
        split at hq
        · rename_i he
          split at hq
          · rename_i e' L hL
            split at hq
            · rename_i r hr
              cases hes : Nat.beq es 1 with
              | false => rw [hes] at hq; cases hq
              | true =>
              rw [hes, cond_true] at hq
              have hes := Nat.eq_of_beq_eq_true hes
              subst hes
              cases hq
              have hle : lo + len ≤ r.length := by simpa using hp.1
              simp only [VRel] at ha
              obtain ⟨a, c, rfl, hc1, hc2, _, hn, hrow⟩ := ha
              rcases Nat.eq_zero_or_pos len with h0 | h0
              · subst h0
                have e0 : strOf ((r.drop lo).take 0) = .empty := by simp [strOf]; rfl
                rw [e0]
                cases a with
                | none =>
                  have := hn rfl; subst this
                  exact ⟨.string .empty, by simp [Go.convert, run_und hs, run_und hd, run_und he, Conv.bytesToString], by simp only [VRel]⟩
                | some ad =>
                  have hL : (loadCells ad 0).run P w = .ok #[] w := run_loadCells_list (P := P) w ad [] (fun j v hj => by simp at hj)
                  refine ⟨.string .empty, ?_, by simp only [VRel]⟩
                  rw [run_convert_bytes_string w src dst e _ _ _ hs he hd, run_bytesToString w _ _ _ [] (by simpa using hL)]
                  rfl
              · obtain ⟨B, O, S, hb, rfl, _⟩ := hrow (by omega)
                obtain ⟨hro, _⟩ := h.rowsAt hL hb
                obtain ⟨_, hlen, hcell⟩ := rows_bytes hr hro
                have hL := run_loadCells_list (P := P) w ⟨B, O + lo * 1, none⟩ (((r.drop lo).take len).map (Value.int .u8)) (fun j v hj => by
                  rw [addr_add]
                  rw [List.getElem?_map] at hj
                  cases hj' : ((r.drop lo).take len)[j]? with
                  | none => simp [hj'] at hj
                  | some n =>
                    simp [hj'] at hj; subst hj
                    have hjl : j < len := by
                      have := (List.getElem?_eq_some_iff.1 hj').1
                      simp at this; omega
                    rw [List.getElem?_take_of_lt hjl, List.getElem?_drop] at hj'
                    have := hcell _ _ hj'
                    simpa [Nat.add_assoc] using this)
                have e3 : (((r.drop lo).take len).map (Value.int .u8)).length = len := by simp; omega
                rw [e3] at hL
                refine ⟨.string (strOf ((r.drop lo).take len)), ?_, by simp only [VRel]⟩
                rw [run_convert_bytes_string w src dst e _ _ _ hs he hd, run_bytesToString w _ _ _ _ hL, strOf_rel]
            · cases hq
          · cases hq
        · cases hq
      · cases hq
    · rename_i b o len cap x es
      split at hq
      · rename_i e
        split at hq
        · rename_i he
          split at hq
          · rename_i cs hcs
            simp only [llen_eq, ltake_eq, ldrop_eq] at hq
            cases hb : Nat.ble (o + len) cs.length with
            | false => simp [hb] at hq
            | true =>
              rw [hb] at hq; simp only [cond_true] at hq
              split at hq
              · rename_i r hr
                cases hq
                simp only [VRel] at ha
                obtain ⟨B, O, S, cap', hB, rfl, _⟩ := ha
                obtain ⟨L, hL, hl⟩ := load_of_cells (P := P) (h.cellsAt hcs hB).1 o len (by rw [← Nat.ble_eq]; exact hb)
                have e1 := bytesOf_rel hr hl
                subst e1
                refine ⟨.string _, by rw [run_convert_bytes_string w src dst e _ _ _ hs he hd, run_bytesToString w _ _ _ r hL, strOf_rel], ?_⟩
                simp only [VRel]
              · cases hq
          · cases hq
        · cases hq
      · cases hq
    · cases hq
  · cases hq

theorem qFieldAddr_rel {t : TypeId} {a v : V} {i : Nat} (hq : qFieldAddr P t a i = some v) {A : Value} (ha : VRel ρ a A) : ∃ X, (Instr.fieldAt t A i).run P w = .ok X w ∧ VRel ρ v X := by
  unfold qFieldAddr at hq
  split at hq
  · rename_i fs hd
    split at hq
    · rename_i f hf
      split at hq
      · rename_i n hn
        split at hq
        · rename_i b o
          cases hq
          simp only [VRel] at ha ⊢
          obtain ⟨B, O, S, hB, rfl⟩ := ha
          refine ⟨_, ?_, B, O, S, hB, rfl⟩
          simp [Instr.fieldAt, run_und hd, hf, Instr.sureAddr, fieldPlace, run_size hn, addr_add, Nat.add_assoc]
        · cases hq
          simp only [VRel] at ha ⊢
          obtain ⟨B, O, S, hB, rfl⟩ := ha
          refine ⟨_, ?_, B, O, S, hB, rfl⟩
          simp [Instr.fieldAt, run_und hd, hf, Instr.sureAddr, fieldPlace, run_size hn, addr_add, Nat.add_assoc]
        · cases hq
          simp only [VRel] at ha ⊢
          obtain ⟨B, o, rfl, hr⟩ := ha
          refine ⟨_, ?_, B, o, rfl, hr⟩
          simp [Instr.fieldAt, run_und hd, hf, Instr.sureAddr, fieldPlace, run_size hn, addr_add, Nat.add_assoc]
        · cases hq
      · cases hq
    · cases hq
  · cases hq

theorem qField_rel {t : TypeId} {a v : V} {i : Nat} (hq : qField P t a i = some v) {A : Value} (ha : VRel ρ a A) : ∃ X, (Instr.field t A i).run P w = .ok X w ∧ VRel ρ v X := by
  unfold qField at hq
  split at hq
  · rename_i fs hd
    split at hq
    · rename_i f hf
      split at hq
      · rename_i l
        simp only [VRel] at ha
        obtain ⟨cs, rfl, hl⟩ := ha
        obtain ⟨X, h1, h2⟩ := partE_rel (w := w) hq hl
        exact ⟨X, by simp [Instr.field, run_und hd, hf, asAgg, h1], h2⟩
      · cases hq
    · cases hq
  · cases hq

theorem natOf_rel {v : V} {n : Nat} {c : List Bool} (h : natOf v = some (c, n)) (hc : allB c) {A : Value} (ha : VRel ρ v A) : ∃ k, A = .int k (n : Int) := by
  unfold natOf at h
  split at h
  · rename_i k m
    cases h
    simp only [VRel] at ha
    have : 0 ≤ m := by simpa using hc.1
    exact ⟨k, by rw [ha, Int.toNat_of_nonneg this]⟩
  · cases h

theorem run_asIntOf (k : IntKind) (n : Int) : (asIntOf (.int k n)).run P w = .ok (k, n) w := rfl

theorem qIndexAddr_rel {t : TypeId} {a i v : V} {ps : List Bool} (hq : qIndexAddr P t a i = some (ps, v)) (hp : allB ps) {A I : Value} (ha : VRel ρ a A) (hi : VRel ρ i I) : ∃ X, (Instr.indexAt t A I).run P w = .ok X w ∧ VRel ρ v X := by
  unfold qIndexAddr at hq
  split at hq
  · rename_i c n hn
    split at hq
    · rename_i len e hd
      split at hq
      · rename_i b o sz hsz
        cases hq
        rw [allB_append] at hp
        obtain ⟨k, rfl⟩ := natOf_rel hn hp.1 hi
        have hlt : n < len := by simpa using hp.2.1
        simp only [VRel] at ha ⊢
        obtain ⟨B, O, S, hB, rfl⟩ := ha
        refine ⟨_, ?_, B, O, S, hB, rfl⟩
        simp [Instr.indexAt, run_asIntOf, run_und hd, Instr.sureAddr, run_size hsz, addr_add, hlt, Nat.add_assoc]
      · rename_i b es sz hsz
        cases hse : Nat.beq sz es with
        | false => rw [hse] at hq; cases hq
        | true =>
        rw [hse, cond_true] at hq
        have hse := Nat.eq_of_beq_eq_true hse
        subst hse
        cases hq
        rw [allB_append] at hp
        obtain ⟨k, rfl⟩ := natOf_rel hn hp.1 hi
        have hlt : n < len := by simpa using hp.2.1
        simp only [VRel] at ha ⊢
        obtain ⟨B, O, S, hB, rfl⟩ := ha
        refine ⟨_, ?_, B, O, S, hB, rfl⟩
        simp [Instr.indexAt, run_asIntOf, run_und hd, Instr.sureAddr, run_size hsz, addr_add, hlt, Nat.add_assoc]
      · rename_i e' L i' j' sz hsz
        cases hq
        rw [allB_append] at hp
        obtain ⟨k, rfl⟩ := natOf_rel hn hp.1 hi
        have hlt : n < len := by simpa using hp.2.1
        simp only [VRel] at ha ⊢
        obtain ⟨B, o, rfl, hr⟩ := ha
        refine ⟨_, ?_, B, o, rfl, hr⟩
        simp [Instr.indexAt, run_asIntOf, run_und hd, Instr.sureAddr, run_size hsz, addr_add, hlt, Nat.add_assoc]
      · cases hq
    · rename_i e hd
      split at hq
      · rename_i b o len cap x es sz hsz
        cases hq
        rw [allB_append] at hp
        obtain ⟨k, rfl⟩ := natOf_rel hn hp.1 hi
        have hlt : n < len := by simpa using hp.2.1
        simp only [VRel] at ha ⊢
        obtain ⟨B, O, S, cap', hB, rfl, _⟩ := ha
        refine ⟨_, ?_, B, O, S, hB, rfl⟩
        simp [Instr.indexAt, run_asIntOf, run_und hd, run_size hsz, addr_add, hlt, Nat.add_assoc]
      · rename_i b lo len cap x es sz hsz
        cases hse : Nat.beq sz es with
        | false => rw [hse] at hq; cases hq
        | true =>
        rw [hse, cond_true] at hq
        have hse := Nat.eq_of_beq_eq_true hse
        subst hse
        cases hq
        rw [allB_append] at hp
        obtain ⟨k, rfl⟩ := natOf_rel hn hp.1 hi
        have hlt : n < len := by simpa using hp.2.1
        simp only [VRel] at ha ⊢
        obtain ⟨a, cap', rfl, h1, h2, _, _, h3⟩ := ha
        obtain ⟨B, O, S, hB, rfl, _⟩ := h3 (by omega)
        refine ⟨_, ?_, B, O, S, hB, rfl⟩
        simp [Instr.indexAt, run_asIntOf, run_und hd, run_size hsz, addr_add, hlt, Nat.add_assoc, Nat.add_mul]
      · rename_i e' L cl sz hsz
        cases hse : Nat.beq sz e'.length with
        | false => rw [hse] at hq; cases hq
        | true =>
        rw [hse, cond_true] at hq
        have hse := Nat.eq_of_beq_eq_true hse
        subst hse
        cases hq
        rw [allB_append] at hp
        obtain ⟨k, rfl⟩ := natOf_rel hn hp.1 hi
        have hlt : n < L.length := by simpa using hp.2.1
        simp only [VRel] at ha ⊢
        obtain ⟨a, cap', rfl, h1, _, _, h3⟩ := ha
        obtain ⟨B, o, rfl, hr⟩ := h3 (by omega)
        refine ⟨_, ?_, B, o, rfl, hr⟩
        simp [Instr.indexAt, run_asIntOf, run_und hd, run_size hsz, addr_add, hlt, Nat.add_assoc]
      · cases hq
    · cases hq
  · cases hq

theorem ba_get {s : ByteArray} {n : Nat} (h : n < s.size) : ∃ b : UInt8, s[n]? = some b ∧ (b.toNat : Int) = bAt s n := by
  refine ⟨s[n], getElem?_pos s n h, ?_⟩
  unfold bAt
  rw [List.getD_eq_getElem?_getD, List.getElem?_eq_getElem (by simpa using h)]
  rfl

theorem partArr_rel {t : TypeId} {e : List Ty} {L : List (rowDen e)} {A : Array Value} {n : Nat} {v : V} (hq : partE P t (rowV e (rowAt e L n)) 0 = some v) (hA : A.size = L.length * e.length) (hr : RowsAt ρ.φ e L (fun k => A[k]?)) (hn : n < L.length) :
    ∃ X, (part t A (n * e.length)).run P w = .ok X w ∧ VRel ρ v X := by
  have hc := rowV_get (ρ := ρ) e _ (hr n hn)
  have hlen := rowV_length e (rowAt e L n)
  have hle : n * e.length + e.length ≤ A.size := by
    rw [hA, ← Nat.succ_mul]; exact Nat.mul_le_mul_right _ hn
  unfold partE at hq
  split at hq
  · rename_i ha
    split at hq
    · rename_i z hz
      simp only [llen_eq, ltake_eq, ldrop_eq, List.drop_zero, Nat.zero_add] at hq
      cases hb : Nat.ble z (rowV e (rowAt e L n)).length with
      | false => simp [hb] at hq
      | true =>
        simp only [hb, cond_true, Option.some.injEq] at hq
        subst hq
        have hb' : z ≤ e.length := by rw [← hlen]; simpa [Nat.ble_eq] using hb
        refine ⟨.agg (A.extract (n * e.length) (n * e.length + z)), by simp [part, run_isAgg ha, run_size hz], ?_⟩
        simp only [VRel]
        refine ⟨_, rfl, LRel.of_get (by simp; omega) fun i u hi => ?_⟩
        have hi' : i < z := by
          have := (List.getElem?_eq_some_iff.1 hi).1
          simp at this; omega
        rw [List.getElem?_take_of_lt hi'] at hi
        obtain ⟨W, h1, h2⟩ := hc i u hi
        refine ⟨W, ?_, h2⟩
        simp only [Array.toList_extract, List.extract_eq_take_drop, Nat.add_sub_cancel_left]
        rw [List.getElem?_take_of_lt hi', List.getElem?_drop]
        simpa using h1
    · cases hq
  · rename_i ha
    rw [lget_eq] at hq
    obtain ⟨W, h1, h2⟩ := hc 0 v hq
    exact ⟨W, by simp only [Nat.add_zero] at h1; simp [part, run_isAgg ha, h1], h2⟩
  · cases hq

theorem qIndex_rel {t : TypeId} {a i v : V} {ps : List Bool} (hq : qIndex P t a i = some (ps, v)) (hp : allB ps) {A I : Value} (ha : VRel ρ a A) (hi : VRel ρ i I) : ∃ X, (Instr.index t A I).run P w = .ok X w ∧ VRel ρ v X := by
  unfold qIndex at hq
  split at hq
  · rename_i c n hn
    split at hq
    · rename_i len e hd
      split at hq
      · rename_i l sz hsz
        split at hq
        · rename_i v' hv'
          cases hq
          rw [allB_append] at hp
          obtain ⟨k, rfl⟩ := natOf_rel hn hp.1 hi
          have hlt : n < len := by simpa using hp.2.1
          simp only [VRel] at ha
          obtain ⟨cs, rfl, hl⟩ := ha
          obtain ⟨X, h1, h2⟩ := partE_rel (w := w) hv' hl
          exact ⟨X, by simp [Instr.index, run_asIntOf, run_und hd, run_size hsz, hlt, h1], h2⟩
        · cases hq
      · rename_i e' L sz hsz
        cases hse : Nat.beq sz e'.length with
        | false => rw [hse] at hq; cases hq
        | true =>
        rw [hse, cond_true] at hq
        have hse := Nat.eq_of_beq_eq_true hse
        subst hse
        split at hq
        · rename_i v' hv'
          cases hq
          rw [allB_append] at hp
          obtain ⟨k, rfl⟩ := natOf_rel hn hp.1 hi
          have hlt : n < len := by simpa using hp.2.1
          have hlt2 : n < L.length := by simpa using hp.2.2.1
          simp only [VRel] at ha
          obtain ⟨cs, rfl, hA, hr⟩ := ha
          obtain ⟨X, h1, h2⟩ := partArr_rel (w := w) hv' hA hr hlt2
          exact ⟨X, by simp [Instr.index, run_asIntOf, run_und hd, run_size hsz, hlt, h1], h2⟩
        · cases hq
      · cases hq
    · rename_i hd
      split at hq
      · rename_i x
        cases hq
        rw [allB_append] at hp
        obtain ⟨k, rfl⟩ := natOf_rel hn hp.1 hi
        have hlt : n < x.size := by simpa using hp.2.1
        simp only [VRel] at ha ⊢
        subst ha
        obtain ⟨c, h1, h2⟩ := ba_get hlt
        refine ⟨_, ?_, rfl⟩
        simp [Instr.index, run_asIntOf, run_und hd, h1, h2]
      · cases hq
    · cases hq
  · cases hq

end
end Go.Sym
end
