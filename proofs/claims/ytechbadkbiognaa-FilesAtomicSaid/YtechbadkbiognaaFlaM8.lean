/-
  Texts of this claim, one behind the other: SymE SymF SymG. Each says its own conditions.
-/
import Derived.Test.YtechbadkbiognaaFlaM7
import Derived.MapKept

set_option linter.unusedVariables false
set_option linter.unusedSimpArgs false
set_option linter.unusedSectionVars false
section
namespace Go.Sym
set_option linter.unusedSimpArgs false
set_option linter.unusedVariables false

section
variable {P : Program} {own : Own} {ρ : Env} {s : St} {w : World}

theorem vint (k : IntKind) (n : Int) : VRel ρ (.int k n) (.int k n) := by simp only [VRel]
theorem vbool (b : Bool) : VRel ρ (.bool b) (.bool b) := by simp only [VRel]
theorem vstr (s : ByteArray) : VRel ρ (.str s) (.string s) := by simp only [VRel]
theorem part_cell {t : TypeId} {A : Array Value} {off : Nat} {X : Value} (ht : isAggE P t = some false) (h : A[off]? = some X) : (part t A off).run P w = .ok X w := by
  simp [part, run_isAgg ht, h]

theorem eqFields_rel (d : Nat) {nest : TypeId → V → V → Option Bool} (hnest : ∀ t a b r, nest t a b = some r → ∀ A B, VRel ρ a A → VRel ρ b B → (Op.equalIn (d + 1) t A B).run P w = .ok r w) :
    ∀ (fs : List Field) {l m : List V} {r : Bool}, eqFields P nest fs l m = some r → ∀ {A B : Array Value}, LRel ρ l A.toList → LRel ρ m B.toList →
    (Op.eqFields (d + 1) A B fs).run P w = .ok r w
  | [], l, m, r, h, A, B, ha, hb => by simp only [eqFields] at h; cases h; simp [Op.eqFields]
  | f :: rest, l, m, r, h, A, B, ha, hb => by
    have ih := fun {r} h => eqFields_rel d hnest rest (l := l) (m := m) (r := r) h ha hb
    simp only [eqFields, lget_eq, kEq_iff] at h
    cases hn : (f.name == "_") with
    | true => simp [hn] at h
    | false =>
      simp only [hn, cond_false] at h
      have hne : f.name ≠ "_" := by simpa using hn
      simp only [Op.eqFields, hne, ne_eq, not_false_eq_true, if_true]
      split at h
      · rename_i k0 hd
        have hag : isAggE P f.type = some false := by simp [isAggE, hd]
        split at h
        · rename_i k x k' y h1 h2
          cases hkk : decide (k = k') with
          | false => simp [hkk] at h
          | true =>
            have hk : k = k' := by simpa using hkk
            subst hk
            simp only [decide_true, cond_true] at h
            split at h
            · rename_i r' hr'
              cases h
              obtain ⟨X, e1, e2⟩ := ha.get h1
              obtain ⟨Y, e3, e4⟩ := hb.get h2
              simp only [VRel] at e2 e4; subst e2; subst e4
              simp only [Array.getElem?_toList] at e1 e3
              simp only [Sem.run_bind, part_cell hag e1, part_cell hag e3, Result.andThen_ok, run_equalIn_int w d _ _ _ _ _ hd]
              by_cases hxy : x = y
              · subst hxy; simpa using ih hr'
              · simp [hxy]
            · cases h
        · cases h
      · rename_i hd
        have hag : isAggE P f.type = some false := by simp [isAggE, hd]
        split at h
        · rename_i x y h1 h2
          split at h
          · rename_i r' hr'
            cases h
            obtain ⟨X, e1, e2⟩ := ha.get h1
            obtain ⟨Y, e3, e4⟩ := hb.get h2
            simp only [VRel] at e2 e4; subst e2; subst e4
            simp only [Array.getElem?_toList] at e1 e3
            simp only [Sem.run_bind, part_cell hag e1, part_cell hag e3, Result.andThen_ok, run_equalIn_bool w d _ _ _ hd]
            cases hxy : (x == y) with
            | true => simpa using ih hr'
            | false => simp
          · cases h
        · cases h
      · rename_i hd
        have hag : isAggE P f.type = some false := by simp [isAggE, hd]
        split at h
        · rename_i x y h1 h2
          split at h
          · rename_i r' hr'
            cases h
            obtain ⟨X, e1, e2⟩ := ha.get h1
            obtain ⟨Y, e3, e4⟩ := hb.get h2
            simp only [VRel] at e2 e4; subst e2; subst e4
            simp only [Array.getElem?_toList] at e1 e3
            have he := sEq_eq x y
            simp only [Sem.run_bind, part_cell hag e1, part_cell hag e3, Result.andThen_ok, run_equalIn_string w d _ _ _ hd, ByteArray.toList_eq, ← he]
            cases hxy : sEq x y with
            | true => simpa using ih hr'
            | false => simp
          · cases h
        · cases h
      · rename_i hd
        split at h
        · rename_i x y h1 h2
          obtain ⟨X, e1, e2⟩ := partE_rel (w := w) h1 ha
          obtain ⟨Y, e3, e4⟩ := partE_rel (w := w) h2 hb
          split at h
          · rename_i q r' hx hr'
            cases h
            simp only [Sem.run_bind, e1, e3, Result.andThen_ok, hnest _ _ _ _ hx _ _ e2 e4]
            cases q with
            | true => simpa using ih hr'
            | false => simp
          · cases h
        · cases h
      · cases h

theorem eqNest_rel : ∀ (n d : Nat), n < d → ∀ t a b r, eqNest P n t a b = some r → ∀ A B, VRel ρ a A → VRel ρ b B → (Op.equalIn (d + 1) t A B).run P w = .ok r w
  | 0, _, _, _, _, _, _, h, _, _, _, _ => by simp only [eqNest] at h; cases h
  | n + 1, d, hd, t, a, b, r, h, A, B, ha, hb => by
    simp only [eqNest] at h
    split at h
    · rename_i fs hu
      split at h
      · rename_i l m
        cases hg : P.stoodInHeld t with
        | true => simp [hg] at h
        | false =>
          simp only [hg, cond_false] at h
          simp only [VRel] at ha hb
          obtain ⟨xs, rfl, ha⟩ := ha
          obtain ⟨ys, rfl, hb⟩ := hb
          have hf : P.fieldsOf t = fs := by simp [Program.fieldsOf, hu]
          have := run_equalIn_struct w d t xs ys (by rw [hf]; exact hu) hg
          obtain ⟨e, rfl⟩ : ∃ e, d = e + 1 := ⟨d - 1, by omega⟩
          rw [hf, eqFields_rel e (eqNest_rel n e (by omega)) _ h ha hb] at this
          exact this
      · cases h
    · cases h

theorem eqE_shape {t : TypeId} {a b : V} {r : Bool} (hq : eqE P s t a b = some r) {A B : Value} (ha : VRel ρ a A) (hb : VRel ρ b B) (op : BinOp) (x y : Operand) :
    (eqGuard op t x y A B).run P w = .ok () w ∧ Go.binOp .eql t A B = (do pure (.bool (← Op.equal t A B))) ∧ Go.binOp .neq t A B = (do pure (.bool (!(← Op.equal t A B)))) := by
  unfold eqE at hq
  split at hq <;> (try (cases hq; done)) <;> split at hq <;> (try (cases hq; done)) <;>
    simp only [VRel] at ha hb <;> (try obtain ⟨_, _, _, _, _, rfl, _⟩ := ha) <;> (try obtain ⟨_, _, _, _, rfl⟩ := ha) <;> (try obtain ⟨_, _, rfl, _⟩ := ha) <;> (try obtain ⟨_, rfl, _⟩ := ha) <;>
    (try obtain ⟨_, _, _, _, _, rfl, _⟩ := hb) <;> (try obtain ⟨_, _, _, _, rfl⟩ := hb) <;> (try obtain ⟨_, _, rfl, _⟩ := hb) <;> (try obtain ⟨_, rfl, _⟩ := hb) <;>
    (try subst ha) <;> (try subst hb) <;> refine ⟨?_, rfl, rfl⟩ <;> cases op <;> simp [eqGuard]

theorem eqAny_rel (h : SRel own ρ s w) {t : TypeId} {a b : V} {r : Bool} (hq : eqAny P s t a b = some r) {A B : Value} (ha : VRel ρ a A) (hb : VRel ρ b B) (op : BinOp) (x y : Operand) :
    (eqGuard op t x y A B).run P w = .ok () w ∧ (Go.binOp .eql t A B).run P w = .ok (.bool r) w ∧ (Go.binOp .neq t A B).run P w = .ok (.bool (!r)) w := by
  unfold eqAny at hq
  split at hq
  · rename_i r' hr
    cases hq
    obtain ⟨h1, h2, h3⟩ := eqE_shape (w := w) hr ha hb op x y
    have := eqE_rel h hr ha hb 9999
    rw [h2, h3]
    refine ⟨h1, ?_, ?_⟩ <;> simp [Op.equal, Op.maxDepth, this]
  split at hq
  · rename_i r' hr
    cases hq
    unfold eqNil2 at hr
    split at hr
    · rename_i ms hd
      split at hr
      · cases hm : ms.isEmpty with
        | false => rw [hm] at hr; cases hr
        | true =>
          rw [hm, cond_true] at hr
          cases hr
          simp only [VRel] at ha hb; subst ha; subst hb
          have k1 : ∀ d, (Op.eqGuardIn (d + 1) t .nilIface .nilIface).run P w = .ok false w := fun d => by simp [Op.eqGuardIn, run_und hd, hm]
          have k2 : ∀ d, (Op.equalIn (d + 1) t .nilIface .nilIface).run P w = .ok true w := fun d => by simp [Op.equalIn, run_und hd]
          have g1 : (Op.eqGuardIn Op.maxDepth t .nilIface .nilIface).run P w = .ok false w := k1 9999
          have g2 : (Op.equal t .nilIface .nilIface).run P w = .ok true w := k2 9999
          refine ⟨?_, ?_, ?_⟩
          · cases op <;> simp [eqGuard, g1]
          · have e : Go.binOp .eql t .nilIface .nilIface = (do pure (.bool (← Op.equal t .nilIface .nilIface))) := rfl
            rw [e]; simp [g2]
          · have e : Go.binOp .neq t .nilIface .nilIface = (do pure (.bool (!(← Op.equal t .nilIface .nilIface)))) := rfl
            rw [e]; simp [g2]
      · cases hr
    · cases hr
  · unfold eqStruct at hq
    split at hq
    · rename_i fs hd
      split at hq
      · rename_i l m
        cases hg : (P.stoodInHeld t || P.eqGuardType P.depth t) with
        | true => simp [hg] at hq
        | false =>
          simp only [hg, cond_false] at hq
          simp only [Bool.or_eq_false_iff] at hg
          simp only [VRel] at ha hb
          obtain ⟨xs, rfl, ha⟩ := ha
          obtain ⟨ys, rfl, hb⟩ := hb
          have hf : P.fieldsOf t = fs := by simp [Program.fieldsOf, hd]
          have := run_equalIn_struct w 9999 t xs ys (by rw [hf]; exact hd) hg.1
          rw [hf, eqFields_rel 9998 (eqNest_rel 6 9998 (by omega)) _ hq ha hb] at this
          exact ⟨run_eqGuard_agg w op t x y xs ys hg.2, by rw [run_eql_struct, this]; rfl, by rw [run_neq_struct, this]; rfl⟩
      · cases hq
    · cases hq

theorem nilCmp_rel {t : TypeId} {a b : V} {c : List Bool} (hq : nilCmp P t a b = some c) (hp : allB c) {A B : Value} (ha : VRel ρ a A) (hb : VRel ρ b B) (op : BinOp) (x y : Operand) :
    (eqGuard op t x y A B).run P w = .ok () w ∧ (Go.binOp .eql t A B).run P w = .ok (.bool false) w ∧ (Go.binOp .neq t A B).run P w = .ok (.bool true) w := by
  have key : ∀ (A B : Value), (∃ a n c e, P.underlying t = some (.slice e) ∧ ((A = .slice (some a) n c ∧ B = .slice none 0 0) ∨ (A = .slice none 0 0 ∧ B = .slice (some a) n c))) →
      (eqGuard op t x y A B).run P w = .ok () w ∧ (Go.binOp .eql t A B).run P w = .ok (.bool false) w ∧ (Go.binOp .neq t A B).run P w = .ok (.bool true) w := by
    rintro A B ⟨a, n, c, e, hd, ⟨rfl, rfl⟩ | ⟨rfl, rfl⟩⟩
    · have h1 : ∀ d, (Op.equalIn (d + 1) t (.slice (some a) n c) (.slice none 0 0)).run P w = .ok false w := fun d => by simp [Op.equalIn, run_und hd]
      have h2 : (Op.equal t (.slice (some a) n c) (.slice none 0 0)).run P w = .ok false w := h1 9999
      refine ⟨by cases op <;> simp [eqGuard], ?_, ?_⟩
      · have e : Go.binOp .eql t (.slice (some a) n c) (.slice none 0 0) = (do pure (.bool (← Op.equal t (.slice (some a) n c) (.slice none 0 0)))) := rfl
        rw [e]; simp [h2]
      · have e : Go.binOp .neq t (.slice (some a) n c) (.slice none 0 0) = (do pure (.bool (!(← Op.equal t (.slice (some a) n c) (.slice none 0 0))))) := rfl
        rw [e]; simp [h2]
    · have h1 : ∀ d, (Op.equalIn (d + 1) t (.slice none 0 0) (.slice (some a) n c)).run P w = .ok false w := fun d => by simp [Op.equalIn, run_und hd]
      have h2 : (Op.equal t (.slice none 0 0) (.slice (some a) n c)).run P w = .ok false w := h1 9999
      refine ⟨by cases op <;> simp [eqGuard], ?_, ?_⟩
      · have e : Go.binOp .eql t (.slice none 0 0) (.slice (some a) n c) = (do pure (.bool (← Op.equal t (.slice none 0 0) (.slice (some a) n c)))) := rfl
        rw [e]; simp [h2]
      · have e : Go.binOp .neq t (.slice none 0 0) (.slice (some a) n c) = (do pure (.bool (!(← Op.equal t (.slice none 0 0) (.slice (some a) n c))))) := rfl
        rw [e]; simp [h2]
  have hlst : ∀ {e : List Ty} {L : List (rowDen e)} {cl : Bool} {X : Value}, VRel ρ (.lst e L cl) X → 0 < List.length (α := rowDen e) L → ∃ a n c, X = .slice (some a) n c := fun r hp => by
    simp only [VRel] at r
    obtain ⟨a, c, rfl, _, _, _, h4⟩ := r
    obtain ⟨B, o, rfl, _⟩ := h4 hp
    exact ⟨_, _, _, rfl⟩
  have hrs : ∀ {b lo len cap : Nat} {x' : Bool} {es : Nat} {X : Value}, VRel ρ (.rs b lo len cap x' es) X → 0 < len → ∃ a n c, X = .slice (some a) n c := fun r hp => by
    simp only [VRel] at r
    obtain ⟨a, c, rfl, h2, h3, _, _, h5⟩ := r
    obtain ⟨B, O, S, _, rfl, _⟩ := h5 (by omega)
    exact ⟨_, _, _, rfl⟩
  unfold nilCmp at hq
  split at hq
  · rename_i e0 hd
    split at hq <;> cases hq
    · obtain ⟨a, n, c, rfl⟩ := hlst ha (of_decide_eq_true hp.1)
      simp only [VRel] at hb
      exact key _ _ ⟨a, n, c, e0, hd, .inl ⟨rfl, hb⟩⟩
    · obtain ⟨a, n, c, rfl⟩ := hlst hb (of_decide_eq_true hp.1)
      simp only [VRel] at ha
      exact key _ _ ⟨a, n, c, e0, hd, .inr ⟨ha, rfl⟩⟩
    · obtain ⟨a, n, c, rfl⟩ := hrs ha (of_decide_eq_true hp.1)
      simp only [VRel] at hb
      exact key _ _ ⟨a, n, c, e0, hd, .inl ⟨rfl, hb⟩⟩
    · obtain ⟨a, n, c, rfl⟩ := hrs hb (of_decide_eq_true hp.1)
      simp only [VRel] at ha
      exact key _ _ ⟨a, n, c, e0, hd, .inr ⟨ha, rfl⟩⟩
  · cases hq
theorem qBin_rel (h : SRel own ρ s w) {op : BinOp} {t : TypeId} {a b v : V} {ps : List Bool} (hq : qBin P s op t a b = some (ps, v)) (hp : allB ps) {A B : Value} (ha : VRel ρ a A) (hb : VRel ρ b B) (x y : Operand) :
    ∃ X, (do eqGuard op t x y A B; Go.binOp op t A B : Sem Value).run P w = .ok X w ∧ VRel ρ v X := by
  unfold qBin at hq
  split at hq
  · rename_i k x1 k' y1
    simp only [VRel] at ha hb; subst ha; subst hb
    have hg : (eqGuard op t x y (.int k x1) (.int k' y1)).run P w = .ok () w := by cases op <;> simp [eqGuard]
    simp only [Sem.run_bind, hg, Result.andThen_ok]
    split at hq
    · exact shiftE_rel (k' := k') hq hp
    · exact shiftE_rel (k' := k') hq hp
    · rename_i h1 h2
      rw [kEq_iff] at hq
      cases hkk : decide (k = k') with
      | false => simp [hkk] at hq
      | true =>
        have hk : k = k' := by simpa using hkk
        subst hk
        simp only [decide_true, cond_true] at hq
        exact intBin_rel hq hp h1 h2 t
  · rename_i x1 y1
    simp only [VRel] at ha hb; subst ha; subst hb
    have hg : (eqGuard op t x y (.string x1) (.string y1)).run P w = .ok () w := by cases op <;> simp [eqGuard]
    simp only [Sem.run_bind, hg, Result.andThen_ok]
    have : Go.binOp op t (.string x1) (.string y1) = Op.stringOp op x1 y1 := by cases op <;> rfl
    rw [this]
    exact strBin_rel hq hp
  · split at hq
    · split at hq
      · rename_i r hr
        cases hq
        obtain ⟨h1, h2, _⟩ := eqAny_rel h hr ha hb .eql x y
        exact ⟨.bool r, by simp [h1, h2], by simp [VRel]⟩
      · split at hq
        · rename_i c hc
          cases hq
          obtain ⟨h1, h2, _⟩ := nilCmp_rel (w := w) hc hp ha hb .eql x y
          exact ⟨.bool false, by simp [h1, h2], by simp [VRel]⟩
        · cases hq
    · split at hq
      · rename_i r hr
        cases hq
        obtain ⟨h1, _, h2⟩ := eqAny_rel h hr ha hb .neq x y
        exact ⟨.bool (!r), by simp [h1, h2], by simp [VRel]⟩
      · split at hq
        · rename_i c hc
          cases hq
          obtain ⟨h1, _, h2⟩ := nilCmp_rel (w := w) hc hp ha hb .neq x y
          exact ⟨.bool true, by simp [h1, h2], by simp [VRel]⟩
        · cases hq
    · cases hq

theorem qUn_rel {op : UnOp} {a v : V} (hq : qUn op a = some v) {A : Value} (ha : VRel ρ a A) : ∃ X, (Op.unary op A).run P w = .ok X w ∧ VRel ρ v X := by
  unfold qUn at hq
  split at hq <;> cases hq <;> simp only [VRel] at ha <;> subst ha
  · rename_i k n
    exact ⟨.int k (k.wrap (0 - n)), by simp [Op.unary, Op.intArith], by simp only [VRel]⟩
  · rename_i k n
    have e : ofI k (if k.signed = true then -1 else k.max) = kM k - 1 := by cases k <;> rfl
    refine ⟨.int k (k.wrap ((Nat.xor (kM k - 1) (ofI k n) : Nat) : Int)), ?_, by simp only [VRel]; rfl⟩
    simp only [Op.unary, Op.intBits, Sem.run_pure, BitVec.toNat_xor, bits_toNat, e]
    rfl
  · exact ⟨_, by simp [Op.unary], vbool _⟩

theorem bytesOf_rel : ∀ {l : List V} {r : List Int}, bytesOf l = some r → ∀ {L : List Value}, LRel ρ l L → L = r.map (Value.int .u8)
  | [], r, h, L, hl => by
    simp only [bytesOf, Option.some.injEq] at h; subst h
    have hl : L = [] := hl
    simp [hl]
  | v :: l, r, h, L, hl => by
    obtain ⟨X, Y, rfl, h1, h2⟩ := hl
    unfold bytesOf at h
    split at h
    · rename_i e; cases e
    · rename_i n l' e
      cases e
      split at h
      · rename_i r' hr
        cases h
        simp only [VRel] at h1
        simp [h1, bytesOf_rel hr h2]
      · cases h
    · cases h

theorem foldl_push : ∀ (ns : List Int) (r : ByteArray), (ns.foldl (fun r n => r.push (UInt8.ofNat n.toNat)) r).data.toList = r.data.toList ++ ns.map fun n => UInt8.ofNat n.toNat
  | [], r => by simp
  | n :: ns, r => by
    simp only [List.foldl_cons, List.map_cons]
    rw [foldl_push ns]
    simp [ByteArray.push]

theorem asL_some {e e' : List Ty} {L : List (rowDen e')} {M : List (rowDen e)} (h : asL e e' L = some M) : ∃ q : e' = e, M = castL q L := by
  unfold asL at h
  split at h
  · rename_i hb; cases h; exact ⟨beqL_eq _ _ hb, rfl⟩
  · cases h
theorem rows_bytes {φ : Nat → Nat → Option Value} {e : List Ty} {L : List (rowDen e)} {r : List Int} (h : asBytes e L = some r) {C : Nat → Option Value} (hr : RowsAt φ e L C) :
    e.length = 1 ∧ r.length = L.length ∧ ∀ i n, r[i]? = some n → C i = some (.int .u8 n) := by
  obtain ⟨q, rfl⟩ := asL_some h
  subst q
  refine ⟨rfl, rfl, fun i n hi => ?_⟩
  have hi : (L : List Int)[i]? = some n := hi
  obtain ⟨hlt, e1⟩ := List.getElem?_eq_some_iff.1 hi
  have := hr i hlt
  rw [CRel] at this
  obtain ⟨X, h1, h2⟩ := this
  have h2 : X = Value.int .u8 (rowAt [.int .u8] L i) := h2
  have e2 : rowAt [.int .u8] L i = n := by
    show List.getD L i _ = n
    rw [List.getD_eq_getElem?_getD]
    exact congrArg (fun x : Option Int => x.getD 0) hi
  rw [e2] at h2
  subst h2
  simpa using h1

theorem strOf_rel (r : List Int) : (r.foldl (fun (r : ByteArray) n => r.push (UInt8.ofNat n.toNat)) .empty) = strOf r := by
  apply ba_ext
  rw [foldl_push, strOf]
  simp

theorem qConv_rel (h : SRel own ρ s w) {src dst : TypeId} {a v : V} {ps : List Bool} (hq : qConv P s src dst a = some (ps, v)) (hp : allB ps) {A : Value} (ha : VRel ρ a A) :
    ∃ X, (Go.convert src dst A).run P w = .ok X w ∧ VRel ρ v X := by
  unfold qConv at hq
  split at hq
  · rename_i sd dd hs hd
    split at hq
    · split at hq
      · simp only [VRel] at ha; subst ha
        rename_i k
        exact ⟨.int k (k.wrap _), by simp [Go.convert, run_und hs, run_und hd, Conv.intToInt], arithE_rel hq hp⟩
      · cases hq
    · split at hq <;> cases hq
      simp only [VRel] at ha; subst ha
      exact ⟨_, by simp [Go.convert, run_und hs, run_und hd], vstr _⟩
    · split at hq
      · rename_i e
        split at hq
        · rename_i he
          cases hq
          simp only [VRel] at ha; subst ha
          refine ⟨.string .empty, by simp [Go.convert, run_und hs, run_und hd, run_und he, Conv.bytesToString], ?_⟩
          simp only [VRel]; rfl
        · cases hq
      · cases hq
    · rename_i e' L cl
      split at hq
      · rename_i e
        split at hq
        · rename_i he
          split at hq
          · rename_i r hr
            cases hq
            simp only [VRel] at ha
            obtain ⟨a, c, rfl, _, _, hn, hrow⟩ := ha
            have hlen : r.length = L.length := by obtain ⟨q, rfl⟩ := asL_some hr; subst q; rfl
            rcases Nat.eq_zero_or_pos L.length with h0 | h0
            · have hr0 : r = [] := List.length_eq_zero_iff.1 (by omega)
              rw [h0, hr0]
              cases a with
              | none =>
                have := hn rfl; subst this
                exact ⟨.string .empty, by simp [Go.convert, run_und hs, run_und hd, run_und he, Conv.bytesToString], by simp only [VRel]; rfl⟩
              | some ad =>
                have hL : (loadCells ad 0).run P w = .ok #[] w := run_loadCells_list (P := P) w ad [] (fun j v hj => by simp at hj)
                refine ⟨.string .empty, ?_, by simp only [VRel]; rfl⟩
                rw [run_convert_bytes_string w src dst e _ _ _ hs he hd, run_bytesToString w _ _ _ [] (by simpa using hL)]
                rfl
            · obtain ⟨B, o, rfl, hro⟩ := hrow h0
              obtain ⟨_, _, hcell⟩ := rows_bytes hr (h.rowsφ hro)
              have hL := run_loadCells_list (P := P) w ⟨B, o, none⟩ (r.map (Value.int .u8)) (fun j v hj => by
                rw [addr_add]
                rw [List.getElem?_map] at hj
                cases hj' : r[j]? with
                | none => simp [hj'] at hj
                | some n => simp [hj'] at hj; subst hj; exact hcell _ _ hj')
              simp only [List.length_map, hlen] at hL
              refine ⟨.string (strOf r), ?_, by simp only [VRel]⟩
              rw [run_convert_bytes_string w src dst e _ _ _ hs he hd, run_bytesToString w _ _ _ r hL, strOf_rel]
          · cases hq
        · cases hq
      · cases hq
    · rename_i b lo len cap x es
      split at hq
      · rename_i e
        split at hq
        · rename_i he
          split at hq
          · rename_i e' L hL
            split at hq
            · rename_i r hr
              cases hes : Nat.beq es 1 with
              | false => rw [hes] at hq; cases hq
              | true =>
              rw [hes, cond_true] at hq
              have hes := Nat.eq_of_beq_eq_true hes
              subst hes
              cases hq
              have hle : lo + len ≤ r.length := by simpa using hp.1
              simp only [VRel] at ha
              obtain ⟨a, c, rfl, hc1, hc2, _, hn, hrow⟩ := ha
              rcases Nat.eq_zero_or_pos len with h0 | h0
              · subst h0
                have e0 : strOf ((r.drop lo).take 0) = .empty := by simp [strOf]; rfl
                rw [e0]
                cases a with
                | none =>
                  have := hn rfl; subst this
                  exact ⟨.string .empty, by simp [Go.convert, run_und hs, run_und hd, run_und he, Conv.bytesToString], by simp only [VRel]⟩
                | some ad =>
                  have hL : (loadCells ad 0).run P w = .ok #[] w := run_loadCells_list (P := P) w ad [] (fun j v hj => by simp at hj)
                  refine ⟨.string .empty, ?_, by simp only [VRel]⟩
                  rw [run_convert_bytes_string w src dst e _ _ _ hs he hd, run_bytesToString w _ _ _ [] (by simpa using hL)]
                  rfl
              · obtain ⟨B, O, S, hb, rfl, _⟩ := hrow (by omega)
                obtain ⟨hro, _⟩ := h.rowsAt hL hb
                obtain ⟨_, hlen, hcell⟩ := rows_bytes hr hro
                have hL := run_loadCells_list (P := P) w ⟨B, O + lo * 1, none⟩ (((r.drop lo).take len).map (Value.int .u8)) (fun j v hj => by
                  rw [addr_add]
                  rw [List.getElem?_map] at hj
                  cases hj' : ((r.drop lo).take len)[j]? with
                  | none => simp [hj'] at hj
                  | some n =>
                    simp [hj'] at hj; subst hj
                    have hjl : j < len := by
                      have := (List.getElem?_eq_some_iff.1 hj').1
                      simp at this; omega
                    rw [List.getElem?_take_of_lt hjl, List.getElem?_drop] at hj'
                    have := hcell _ _ hj'
                    simpa [Nat.add_assoc] using this)
                have e3 : (((r.drop lo).take len).map (Value.int .u8)).length = len := by simp; omega
                rw [e3] at hL
                refine ⟨.string (strOf ((r.drop lo).take len)), ?_, by simp only [VRel]⟩
                rw [run_convert_bytes_string w src dst e _ _ _ hs he hd, run_bytesToString w _ _ _ _ hL, strOf_rel]
            · cases hq
          · cases hq
        · cases hq
      · cases hq
    · rename_i b o len cap x es
      split at hq
      · rename_i e
        split at hq
        · rename_i he
          split at hq
          · rename_i cs hcs
            simp only [llen_eq, ltake_eq, ldrop_eq] at hq
            cases hb : Nat.ble (o + len) cs.length with
            | false => simp [hb] at hq
            | true =>
              rw [hb] at hq; simp only [cond_true] at hq
              split at hq
              · rename_i r hr
                cases hq
                simp only [VRel] at ha
                obtain ⟨B, O, S, cap', hB, rfl, _⟩ := ha
                obtain ⟨L, hL, hl⟩ := load_of_cells (P := P) (h.cellsAt hcs hB).1 o len (by rw [← Nat.ble_eq]; exact hb)
                have e1 := bytesOf_rel hr hl
                subst e1
                refine ⟨.string _, by rw [run_convert_bytes_string w src dst e _ _ _ hs he hd, run_bytesToString w _ _ _ r hL, strOf_rel], ?_⟩
                simp only [VRel]
              · cases hq
          · cases hq
        · cases hq
      · cases hq
    · cases hq
  · cases hq

theorem qFieldAddr_rel {t : TypeId} {a v : V} {i : Nat} (hq : qFieldAddr P t a i = some v) {A : Value} (ha : VRel ρ a A) : ∃ X, (Instr.fieldAt t A i).run P w = .ok X w ∧ VRel ρ v X := by
  unfold qFieldAddr at hq
  split at hq
  · rename_i fs hd
    split at hq
    · rename_i f hf
      split at hq
      · rename_i n hn
        split at hq
        · rename_i b o
          cases hq
          simp only [VRel] at ha ⊢
          obtain ⟨B, O, S, hB, rfl⟩ := ha
          refine ⟨_, ?_, B, O, S, hB, rfl⟩
          simp [Instr.fieldAt, run_und hd, hf, Instr.sureAddr, fieldPlace, run_size hn, addr_add, Nat.add_assoc]
        · cases hq
          simp only [VRel] at ha ⊢
          obtain ⟨B, O, S, hB, rfl⟩ := ha
          refine ⟨_, ?_, B, O, S, hB, rfl⟩
          simp [Instr.fieldAt, run_und hd, hf, Instr.sureAddr, fieldPlace, run_size hn, addr_add, Nat.add_assoc]
        · cases hq
          simp only [VRel] at ha ⊢
          obtain ⟨B, o, rfl, hr⟩ := ha
          refine ⟨_, ?_, B, o, rfl, hr⟩
          simp [Instr.fieldAt, run_und hd, hf, Instr.sureAddr, fieldPlace, run_size hn, addr_add, Nat.add_assoc]
        · cases hq
      · cases hq
    · cases hq
  · cases hq

theorem qField_rel {t : TypeId} {a v : V} {i : Nat} (hq : qField P t a i = some v) {A : Value} (ha : VRel ρ a A) : ∃ X, (Instr.field t A i).run P w = .ok X w ∧ VRel ρ v X := by
  unfold qField at hq
  split at hq
  · rename_i fs hd
    split at hq
    · rename_i f hf
      split at hq
      · rename_i l
        simp only [VRel] at ha
        obtain ⟨cs, rfl, hl⟩ := ha
        obtain ⟨X, h1, h2⟩ := partE_rel (w := w) hq hl
        exact ⟨X, by simp [Instr.field, run_und hd, hf, asAgg, h1], h2⟩
      · cases hq
    · cases hq
  · cases hq

theorem natOf_rel {v : V} {n : Nat} {c : List Bool} (h : natOf v = some (c, n)) (hc : allB c) {A : Value} (ha : VRel ρ v A) : ∃ k, A = .int k (n : Int) := by
  unfold natOf at h
  split at h
  · rename_i k m
    cases h
    simp only [VRel] at ha
    have : 0 ≤ m := by simpa using hc.1
    exact ⟨k, by rw [ha, Int.toNat_of_nonneg this]⟩
  · cases h

theorem run_asIntOf (k : IntKind) (n : Int) : (asIntOf (.int k n)).run P w = .ok (k, n) w := rfl

theorem qIndexAddr_rel {t : TypeId} {a i v : V} {ps : List Bool} (hq : qIndexAddr P t a i = some (ps, v)) (hp : allB ps) {A I : Value} (ha : VRel ρ a A) (hi : VRel ρ i I) : ∃ X, (Instr.indexAt t A I).run P w = .ok X w ∧ VRel ρ v X := by
  unfold qIndexAddr at hq
  split at hq
  · rename_i c n hn
    split at hq
    · rename_i len e hd
      split at hq
      · rename_i b o sz hsz
        cases hq
        rw [allB_append] at hp
        obtain ⟨k, rfl⟩ := natOf_rel hn hp.1 hi
        have hlt : n < len := by simpa using hp.2.1
        simp only [VRel] at ha ⊢
        obtain ⟨B, O, S, hB, rfl⟩ := ha
        refine ⟨_, ?_, B, O, S, hB, rfl⟩
        simp [Instr.indexAt, run_asIntOf, run_und hd, Instr.sureAddr, run_size hsz, addr_add, hlt, Nat.add_assoc]
      · rename_i b es sz hsz
        cases hse : Nat.beq sz es with
        | false => rw [hse] at hq; cases hq
        | true =>
        rw [hse, cond_true] at hq
        have hse := Nat.eq_of_beq_eq_true hse
        subst hse
        cases hq
        rw [allB_append] at hp
        obtain ⟨k, rfl⟩ := natOf_rel hn hp.1 hi
        have hlt : n < len := by simpa using hp.2.1
        simp only [VRel] at ha ⊢
        obtain ⟨B, O, S, hB, rfl⟩ := ha
        refine ⟨_, ?_, B, O, S, hB, rfl⟩
        simp [Instr.indexAt, run_asIntOf, run_und hd, Instr.sureAddr, run_size hsz, addr_add, hlt, Nat.add_assoc]
      · rename_i e' L i' j' sz hsz
        cases hq
        rw [allB_append] at hp
        obtain ⟨k, rfl⟩ := natOf_rel hn hp.1 hi
        have hlt : n < len := by simpa using hp.2.1
        simp only [VRel] at ha ⊢
        obtain ⟨B, o, rfl, hr⟩ := ha
        refine ⟨_, ?_, B, o, rfl, hr⟩
        simp [Instr.indexAt, run_asIntOf, run_und hd, Instr.sureAddr, run_size hsz, addr_add, hlt, Nat.add_assoc]
      · cases hq
    · rename_i e hd
      split at hq
      · rename_i b o len cap x es sz hsz
        cases hq
        rw [allB_append] at hp
        obtain ⟨k, rfl⟩ := natOf_rel hn hp.1 hi
        have hlt : n < len := by simpa using hp.2.1
        simp only [VRel] at ha ⊢
        obtain ⟨B, O, S, cap', hB, rfl, _⟩ := ha
        refine ⟨_, ?_, B, O, S, hB, rfl⟩
        simp [Instr.indexAt, run_asIntOf, run_und hd, run_size hsz, addr_add, hlt, Nat.add_assoc]
      · rename_i b lo len cap x es sz hsz
        cases hse : Nat.beq sz es with
        | false => rw [hse] at hq; cases hq
        | true =>
        rw [hse, cond_true] at hq
        have hse := Nat.eq_of_beq_eq_true hse
        subst hse
        cases hq
        rw [allB_append] at hp
        obtain ⟨k, rfl⟩ := natOf_rel hn hp.1 hi
        have hlt : n < len := by simpa using hp.2.1
        simp only [VRel] at ha ⊢
        obtain ⟨a, cap', rfl, h1, h2, _, _, h3⟩ := ha
        obtain ⟨B, O, S, hB, rfl, _⟩ := h3 (by omega)
        refine ⟨_, ?_, B, O, S, hB, rfl⟩
        simp [Instr.indexAt, run_asIntOf, run_und hd, run_size hsz, addr_add, hlt, Nat.add_assoc, Nat.add_mul]
      · rename_i e' L cl sz hsz
        cases hse : Nat.beq sz e'.length with
        | false => rw [hse] at hq; cases hq
        | true =>
        rw [hse, cond_true] at hq
        have hse := Nat.eq_of_beq_eq_true hse
        subst hse
        cases hq
        rw [allB_append] at hp
        obtain ⟨k, rfl⟩ := natOf_rel hn hp.1 hi
        have hlt : n < L.length := by simpa using hp.2.1
        simp only [VRel] at ha ⊢
        obtain ⟨a, cap', rfl, h1, _, _, h3⟩ := ha
        obtain ⟨B, o, rfl, hr⟩ := h3 (by omega)
        refine ⟨_, ?_, B, o, rfl, hr⟩
        simp [Instr.indexAt, run_asIntOf, run_und hd, run_size hsz, addr_add, hlt, Nat.add_assoc]
      · cases hq
    · cases hq
  · cases hq

theorem ba_get {s : ByteArray} {n : Nat} (h : n < s.size) : ∃ b : UInt8, s[n]? = some b ∧ (b.toNat : Int) = bAt s n := by
  refine ⟨s[n], getElem?_pos s n h, ?_⟩
  unfold bAt
  rw [List.getD_eq_getElem?_getD, List.getElem?_eq_getElem (by simpa using h)]
  rfl

theorem partArr_rel {t : TypeId} {e : List Ty} {L : List (rowDen e)} {A : Array Value} {n : Nat} {v : V} (hq : partE P t (rowV e (rowAt e L n)) 0 = some v) (hA : A.size = L.length * e.length) (hr : RowsAt ρ.φ e L (fun k => A[k]?)) (hn : n < L.length) :
    ∃ X, (part t A (n * e.length)).run P w = .ok X w ∧ VRel ρ v X := by
  have hc := rowV_get (ρ := ρ) e _ (hr n hn)
  have hlen := rowV_length e (rowAt e L n)
  have hle : n * e.length + e.length ≤ A.size := by
    rw [hA, ← Nat.succ_mul]; exact Nat.mul_le_mul_right _ hn
  unfold partE at hq
  split at hq
  · rename_i ha
    split at hq
    · rename_i z hz
      simp only [llen_eq, ltake_eq, ldrop_eq, List.drop_zero, Nat.zero_add] at hq
      cases hb : Nat.ble z (rowV e (rowAt e L n)).length with
      | false => simp [hb] at hq
      | true =>
        simp only [hb, cond_true, Option.some.injEq] at hq
        subst hq
        have hb' : z ≤ e.length := by rw [← hlen]; simpa [Nat.ble_eq] using hb
        refine ⟨.agg (A.extract (n * e.length) (n * e.length + z)), by simp [part, run_isAgg ha, run_size hz], ?_⟩
        simp only [VRel]
        refine ⟨_, rfl, LRel.of_get (by simp; omega) fun i u hi => ?_⟩
        have hi' : i < z := by
          have := (List.getElem?_eq_some_iff.1 hi).1
          simp at this; omega
        rw [List.getElem?_take_of_lt hi'] at hi
        obtain ⟨W, h1, h2⟩ := hc i u hi
        refine ⟨W, ?_, h2⟩
        simp only [Array.toList_extract, List.extract_eq_take_drop, Nat.add_sub_cancel_left]
        rw [List.getElem?_take_of_lt hi', List.getElem?_drop]
        simpa using h1
    · cases hq
  · rename_i ha
    rw [lget_eq] at hq
    obtain ⟨W, h1, h2⟩ := hc 0 v hq
    exact ⟨W, by simp only [Nat.add_zero] at h1; simp [part, run_isAgg ha, h1], h2⟩
  · cases hq

theorem qIndex_rel {t : TypeId} {a i v : V} {ps : List Bool} (hq : qIndex P t a i = some (ps, v)) (hp : allB ps) {A I : Value} (ha : VRel ρ a A) (hi : VRel ρ i I) : ∃ X, (Instr.index t A I).run P w = .ok X w ∧ VRel ρ v X := by
  unfold qIndex at hq
  split at hq
  · rename_i c n hn
    split at hq
    · rename_i len e hd
      split at hq
      · rename_i l sz hsz
        split at hq
        · rename_i v' hv'
          cases hq
          rw [allB_append] at hp
          obtain ⟨k, rfl⟩ := natOf_rel hn hp.1 hi
          have hlt : n < len := by simpa using hp.2.1
          simp only [VRel] at ha
          obtain ⟨cs, rfl, hl⟩ := ha
          obtain ⟨X, h1, h2⟩ := partE_rel (w := w) hv' hl
          exact ⟨X, by simp [Instr.index, run_asIntOf, run_und hd, run_size hsz, hlt, h1], h2⟩
        · cases hq
      · rename_i e' L sz hsz
        cases hse : Nat.beq sz e'.length with
        | false => rw [hse] at hq; cases hq
        | true =>
        rw [hse, cond_true] at hq
        have hse := Nat.eq_of_beq_eq_true hse
        subst hse
        split at hq
        · rename_i v' hv'
          cases hq
          rw [allB_append] at hp
          obtain ⟨k, rfl⟩ := natOf_rel hn hp.1 hi
          have hlt : n < len := by simpa using hp.2.1
          have hlt2 : n < L.length := by simpa using hp.2.2.1
          simp only [VRel] at ha
          obtain ⟨cs, rfl, hA, hr⟩ := ha
          obtain ⟨X, h1, h2⟩ := partArr_rel (w := w) hv' hA hr hlt2
          exact ⟨X, by simp [Instr.index, run_asIntOf, run_und hd, run_size hsz, hlt, h1], h2⟩
        · cases hq
      · cases hq
    · rename_i hd
      split at hq
      · rename_i x
        cases hq
        rw [allB_append] at hp
        obtain ⟨k, rfl⟩ := natOf_rel hn hp.1 hi
        have hlt : n < x.size := by simpa using hp.2.1
        simp only [VRel] at ha ⊢
        subst ha
        obtain ⟨c, h1, h2⟩ := ba_get hlt
        refine ⟨_, ?_, rfl⟩
        simp [Instr.index, run_asIntOf, run_und hd, h1, h2]
      · cases hq
    · cases hq
  · cases hq

end
end Go.Sym
end

section
namespace Go.Sym
set_option linter.unusedSimpArgs false
set_option linter.unusedVariables false

section
variable {P : Program} {own : Own} {ρ : Env} {s : St} {w : World}

def OptRel (ρ : Env) : Option V → Option Value → Prop
  | none, X => X = none
  | some v, X => ∃ W, X = some W ∧ VRel ρ v W

theorem optO_rel {ev : Operand → Option V} {A : Act} (hA : EvRel ρ ev A) {x : Option Operand} {v : Option V} (h : optO ev x = some v) : OptRel ρ v (x.map A.eval) := by
  unfold optO at h
  split at h
  · cases h; rfl
  · split at h
    · rename_i hv; cases h; exact ⟨_, rfl, evalO_rel hA hv⟩
    · cases h

theorem boundE_rel {v : Option V} {d n : Nat} {c : List Bool} (h : boundE v d = some (c, n)) (hc : allB c) {X : Option Value} (hx : OptRel ρ v X) : (X = none ∧ v = none ∧ n = d) ∨ ∃ k, X = some (.int k (n : Int)) := by
  unfold boundE at h
  split at h
  · cases h; exact .inl ⟨hx, rfl, rfl⟩
  · obtain ⟨W, rfl, hw⟩ := hx
    obtain ⟨k, rfl⟩ := natOf_rel h hc hw
    exact .inr ⟨k, rfl⟩

theorem run_sliceBound {k : IntKind} {n y : Nat} {c : BoundsCode} (h : n ≤ y) : (Instr.sliceBound (.int k (n : Int)) y c).run P w = .ok n w := by
  simp [Instr.sliceBound, run_asIntOf, h]

theorem run_bounds {b : Bool} {len cap l h : Nat} {LO HI : Option Value} (hlo : (LO = none ∧ l = 0) ∨ ∃ k, LO = some (.int k (l : Int))) (hhi : (HI = none ∧ h = len) ∨ ∃ k, HI = some (.int k (h : Int)))
    (h1 : l ≤ h) (h2 : h ≤ cap) : (Instr.sliceBounds b len cap LO HI none).run P w = .ok (l, h, cap) w := by
  rcases hlo with ⟨rfl, rfl⟩ | ⟨k, rfl⟩ <;> rcases hhi with ⟨rfl, rfl⟩ | ⟨k', rfl⟩ <;>
    simp [Instr.sliceBounds, run_sliceBound h2, run_sliceBound h1]

theorem run_bounds3 {b : Bool} {len cap l h m : Nat} {LO : Option Value} (hlo : (LO = none ∧ l = 0) ∨ ∃ k, LO = some (.int k (l : Int))) {k k' : IntKind}
    (h1 : l ≤ h) (h2 : h ≤ m) (h3 : m ≤ cap) : (Instr.sliceBounds b len cap LO (some (.int k (h : Int))) (some (.int k' (m : Int)))).run P w = .ok (l, h, m) w := by
  rcases hlo with ⟨rfl, rfl⟩ | ⟨k, rfl⟩ <;> simp [Instr.sliceBounds, run_sliceBound h3, run_sliceBound h2, run_sliceBound h1]

theorem rows_drop {φ : Nat → Nat → Option Value} {e : List Ty} {L : List (rowDen e)} {C : Nat → Option Value} (l h : Nat) (hh : h ≤ L.length) (hr : RowsAt φ e L C) : RowsAt φ e ((L.take h).drop l) (fun k => C (l * e.length + k)) := by
  intro i hi
  simp at hi
  have h1 := hr (l + i) (by omega)
  have h2 : rowAt e ((L.take h).drop l) i = rowAt e L (l + i) := by
    simp only [rowAt, List.getD_eq_getElem?_getD, List.getElem?_drop]
    rw [List.getElem?_take_of_lt (by omega)]
  rw [h2]
  simpa [Nat.add_mul, Nat.add_assoc] using h1

theorem qSlice_rel (h : SRel own ρ s w) {t : TypeId} {a v : V} {lo hi mx : Option V} {ps : List Bool} (hq : qSlice P s t a lo hi mx = some (ps, v)) (hp : allB ps) {A : Value} {LO HI MX : Option Value}
    (ha : VRel ρ a A) (hlo : OptRel ρ lo LO) (hhi : OptRel ρ hi HI) (hmx : OptRel ρ mx MX) : ∃ X, (Instr.sliceAt t A LO HI MX).run P w = .ok X w ∧ VRel ρ v X := by
  unfold qSlice at hq
  split at hq
  · cases hq
  rename_i cl l hl
  split at hq
  · rename_i hd
    split at hq
    · rename_i x
      have hmx : MX = none := hmx
      subst hmx
      split at hq
      · rename_i ch hh hhe
        cases hq
        simp only [allB_append] at hp
        obtain ⟨p1, p2, p3, p4, _⟩ := hp
        have hL : (LO = none ∧ l = 0) ∨ ∃ k, LO = some (.int k (l : Int)) := (boundE_rel hl p1 hlo).imp (fun x => ⟨x.1, x.2.2⟩) id
        have hH : (HI = none ∧ hh = x.size) ∨ ∃ k, HI = some (.int k (hh : Int)) := (boundE_rel hhe p2 hhi).imp (fun x => ⟨x.1, x.2.2⟩) id
        simp only [decide_eq_true_eq] at p3 p4
        simp only [VRel] at ha; subst ha
        rw [cutS_eq]
        refine ⟨_, ?_, vstr _⟩
        simp [Instr.sliceAt, run_und hd, Instr.slice, run_bounds (b := false) hL hH p3 p4]
      · cases hq
    · cases hq
  · rename_i e hd
    split at hq
    · cases hq
    rename_i sz hsz
    split at hq
    · -- nil
      split at hq
      · rename_i ch hh hhe
        cases hq
        have hmx : MX = none := hmx
        subst hmx
        simp only [allB_append] at hp
        obtain ⟨p1, p2, p3, p4, _⟩ := hp
        simp only [decide_eq_true_eq] at p3 p4
        have hL : (LO = none ∧ l = 0) ∨ ∃ k, LO = some (.int k (l : Int)) := (boundE_rel hl p1 hlo).imp (fun x => ⟨x.1, x.2.2⟩) id
        have hH : (HI = none ∧ hh = 0) ∨ ∃ k, HI = some (.int k (hh : Int)) := (boundE_rel hhe p2 hhi).imp (fun x => ⟨x.1, x.2.2⟩) id
        simp only [VRel] at ha; subst ha
        have e1 : hh = 0 := by omega
        have e2 : l = 0 := by omega
        subst e1; subst e2
        refine ⟨.slice none 0 0, ?_, by simp only [VRel]⟩
        simp [Instr.sliceAt, run_und hd, Instr.slice, run_size hsz, run_bounds (P := P) (w := w) (b := true) (cap := 0) hL hH (Nat.le_refl 0) (Nat.le_refl 0)]
      · cases hq
    · rename_i b lo' len cap x es
      cases hse : Nat.beq sz es with
      | false => simp [hse] at hq
      | true =>
      have hse' : sz = es := by simpa using hse
      subst hse'
      simp only [hse, Bool.not_true, cond_false] at hq
      split at hq
      · cases hq
      rename_i ch hh hhe
      simp only [VRel] at ha
      obtain ⟨a, cap', rfl, c1, c2, c3, c4, c5⟩ := ha
      split at hq
      · have hmx : MX = none := hmx
        subst hmx
        cases hq
        simp only [allB_append] at hp
        obtain ⟨p1, p2, p3, p4, _⟩ := hp
        simp only [decide_eq_true_eq] at p3 p4
        have hL : (LO = none ∧ l = 0) ∨ ∃ k, LO = some (.int k (l : Int)) := (boundE_rel hl p1 hlo).imp (fun x => ⟨x.1, x.2.2⟩) id
        have hH : (HI = none ∧ hh = len) ∨ ∃ k, HI = some (.int k (hh : Int)) := (boundE_rel hhe p2 hhi).imp (fun x => ⟨x.1, x.2.2⟩) id
        have hrun := run_bounds (P := P) (w := w) (b := true) (cap := cap') hL hH p3 (by omega)
        cases a with
        | none =>
          have := c4 rfl; subst this
          refine ⟨.slice none 0 0, ?_, ?_⟩
          · have e1 : hh = 0 := by omega
            have e2 : l = 0 := by omega
            subst e1; subst e2
            simp [Instr.sliceAt, run_und hd, Instr.slice, run_size hsz, hrun]
          · simp only [VRel]
            refine ⟨none, 0, by congr 1; omega, by omega, by omega, fun _ => (by omega), fun _ => rfl, fun h => absurd h (Nat.lt_irrefl _)⟩
        | some ad =>
          refine ⟨.slice (if cap' = l then some ad else some (ad.add (l * sz))) (hh - l) (cap' - l), by simp [Instr.sliceAt, run_und hd, Instr.slice, run_size hsz, hrun], ?_⟩
          simp only [VRel]
          refine ⟨_, _, rfl, by omega, by omega, fun hx => (by rw [c3 hx]), fun hn => ?_, fun hp => ?_⟩
          · split at hn <;> cases hn
          · have h0 : 0 < cap' := by omega
            have hne : ¬ cap' = l := by omega
            have hlc : l + (cap' - l) = cap' := by omega
            have hmul : l * sz + (cap' - l) * sz = cap' * sz := by rw [← Nat.add_mul, hlc]
            obtain ⟨B, O, S, g1, g2, g3⟩ := c5 h0
            cases g2
            refine ⟨B, O, S, g1, by rw [if_neg hne, addr_add, Nat.add_mul, Nat.add_assoc], ?_⟩
            rw [Nat.add_mul]; omega
      · rename_i mv hv
        split at hq
        · rename_i cm m hm
          obtain ⟨W, rfl, hW⟩ := hmx
          cases hq
          simp only [allB_append] at hp
          obtain ⟨p1, p2, p3, p4, p5, p6, _⟩ := hp
          simp only [decide_eq_true_eq] at p4 p5 p6
          have hL : (LO = none ∧ l = 0) ∨ ∃ k, LO = some (.int k (l : Int)) := (boundE_rel hl p1 hlo).imp (fun x => ⟨x.1, x.2.2⟩) id
          have hH : (HI = none ∧ hh = len) ∨ ∃ k, HI = some (.int k (hh : Int)) := (boundE_rel hhe p2 hhi).imp (fun x => ⟨x.1, x.2.2⟩) id
          obtain ⟨k', rfl⟩ := natOf_rel hm p3 hW
          rcases hH with ⟨rfl, _⟩ | ⟨k, rfl⟩
          · obtain ⟨_, hh', _⟩ := hhi; cases hh'
          cases a with
          | none =>
            have := c4 rfl; subst this
            have hrun := run_bounds3 (P := P) (w := w) (b := true) (cap := 0) (len := len) (k := k) (k' := k') hL p4 p5 (by omega)
            have e0 : m = 0 := by omega
            have e1 : hh = 0 := by omega
            have e2 : l = 0 := by omega
            have e3 : len = 0 := by omega
            subst e0; subst e1; subst e2; subst e3
            have hrun : (Instr.sliceBounds true 0 0 LO (some (.int k 0)) (some (.int k' 0))).run P w = .ok (0, 0, 0) w := hrun
            refine ⟨.slice none 0 0, by simp [Instr.sliceAt, run_und hd, Instr.slice, run_size hsz, hrun], ?_⟩
            simp only [VRel]
            exact ⟨none, 0, rfl, by omega, by omega, fun _ => rfl, fun _ => rfl, fun h => absurd h (Nat.lt_irrefl _)⟩
          | some ad =>
            have hrun := run_bounds3 (P := P) (w := w) (b := true) (cap := cap') (len := len) (k := k) (k' := k') hL p4 p5 (by omega)
            refine ⟨.slice (if m = l then some ad else some (ad.add (l * sz))) (hh - l) (m - l), by simp [Instr.sliceAt, run_und hd, Instr.slice, run_size hsz, hrun], ?_⟩
            simp only [VRel]
            refine ⟨_, _, rfl, by omega, by omega, fun hx => rfl, fun hn => ?_, fun hp => ?_⟩
            · split at hn <;> cases hn
            · have h0 : 0 < cap' := by omega
              have hne : ¬ m = l := by omega
              have hlm : l + (m - l) = m := by omega
              have hmc : m ≤ cap' := by omega
              have hmul : l * sz + (m - l) * sz = m * sz := by rw [← Nat.add_mul, hlm]
              have hmul2 : m * sz ≤ cap' * sz := Nat.mul_le_mul_right _ hmc
              obtain ⟨B, O, S, g1, g2, g3⟩ := c5 h0
              cases g2
              refine ⟨B, O, S, g1, by rw [if_neg hne, addr_add, Nat.add_mul, Nat.add_assoc], ?_⟩
              rw [Nat.add_mul]; omega
        · cases hq
      · cases hq
    · rename_i e' L cx
      cases hse : Nat.beq sz e'.length with
      | false => simp [hse] at hq
      | true =>
      have hse' : sz = e'.length := by simpa using hse
      subst hse'
      simp only [hse, Bool.not_true, cond_false] at hq
      split at hq
      · cases hq
      rename_i ch hh hhe
      simp only [VRel] at ha
      obtain ⟨a, cap', rfl, c1, c2, c4, c5⟩ := ha
      split at hq
      · have hmx : MX = none := hmx
        subst hmx
        cases hq
        simp only [allB_append] at hp
        obtain ⟨p1, p3, _⟩ := hp
        simp only [decide_eq_true_eq] at p3
        have hL : (LO = none ∧ l = 0) ∨ ∃ k, LO = some (.int k (l : Int)) := (boundE_rel hl p1 hlo).imp (fun x => ⟨x.1, x.2.2⟩) id
        have hhi : HI = none := hhi
        subst hhi
        have hrun := run_bounds (P := P) (w := w) (b := true) (cap := cap') (h := L.length) (HI := none) hL (.inl ⟨rfl, rfl⟩) p3 c1
        cases a with
        | none =>
          have := c4 rfl; subst this
          have e1 : L.length = 0 := by omega
          have e2 : l = 0 := by omega
          have e3 : L = [] := List.length_eq_zero_iff.1 e1
          subst e2; subst e3
          refine ⟨.slice none 0 0, by simp only [List.length_nil] at hrun; simp [Instr.sliceAt, run_und hd, Instr.slice, run_size hsz, hrun], ?_⟩
          simp only [VRel]
          exact ⟨none, 0, by simp, by simp, fun _ => (by simp), fun _ => rfl, fun h => by simp at h⟩
        | some ad =>
          refine ⟨.slice (if cap' = l then some ad else some (ad.add (l * e'.length))) (L.length - l) (cap' - l), by simp [Instr.sliceAt, run_und hd, Instr.slice, run_size hsz, hrun], ?_⟩
          simp only [VRel]
          refine ⟨_, cap' - l, by rw [List.length_drop], by rw [List.length_drop]; omega, fun hx => (by rw [c2 hx, List.length_drop]), fun hn => ?_, fun hp => ?_⟩
          · split at hn <;> cases hn
          · rw [List.length_drop] at hp
            obtain ⟨B, o, g1, g2⟩ := c5 (by omega)
            cases g1
            refine ⟨B, o + l * e'.length, by rw [if_neg (by omega), addr_add], ?_⟩
            have := rows_drop l L.length (Nat.le_refl _) g2
            rw [List.take_length] at this
            simpa [Nat.add_assoc] using this
      · have hmx : MX = none := hmx
        subst hmx
        cases hq
        simp only [allB_append] at hp
        obtain ⟨p1, p2, p3, p4, _⟩ := hp
        simp only [decide_eq_true_eq] at p3 p4
        have hL : (LO = none ∧ l = 0) ∨ ∃ k, LO = some (.int k (l : Int)) := (boundE_rel hl p1 hlo).imp (fun x => ⟨x.1, x.2.2⟩) id
        have hH : (HI = none ∧ hh = L.length) ∨ ∃ k, HI = some (.int k (hh : Int)) := (boundE_rel hhe p2 hhi).imp (fun x => ⟨x.1, x.2.2⟩) id
        have hrun := run_bounds (P := P) (w := w) (b := true) (cap := cap') hL hH p3 (by omega)
        have hlen : ((L.take hh).drop l).length = hh - l := by simp; omega
        cases a with
        | none =>
          have := c4 rfl; subst this
          have e1 : hh = 0 := by omega
          have e2 : l = 0 := by omega
          subst e1; subst e2
          refine ⟨.slice none 0 0, by simp [Instr.sliceAt, run_und hd, Instr.slice, run_size hsz, hrun], ?_⟩
          simp only [VRel]
          exact ⟨none, 0, by simp, by simp, fun h => (by cases h), fun _ => rfl, fun h => by simp at h⟩
        | some ad =>
          refine ⟨.slice (if cap' = l then some ad else some (ad.add (l * e'.length))) (hh - l) (cap' - l), by simp [Instr.sliceAt, run_und hd, Instr.slice, run_size hsz, hrun], ?_⟩
          simp only [VRel]
          refine ⟨_, cap' - l, by rw [hlen], by rw [hlen]; omega, fun hx => (by cases hx), fun hn => ?_, fun hp => ?_⟩
          · split at hn <;> cases hn
          · rw [hlen] at hp
            obtain ⟨B, o, g1, g2⟩ := c5 (by omega)
            cases g1
            refine ⟨B, o + l * e'.length, by rw [if_neg (by omega), addr_add], ?_⟩
            simpa [Nat.add_assoc] using rows_drop l hh p4 g2
      · rename_i mv hv
        split at hq
        · rename_i cm m hm
          obtain ⟨W, rfl, hW⟩ := hmx
          cases hq
          simp only [allB_append] at hp
          obtain ⟨p1, p2, p3, p4, p5, p6, _⟩ := hp
          simp only [decide_eq_true_eq] at p4 p5 p6
          subst p5
          have hL : (LO = none ∧ l = 0) ∨ ∃ k, LO = some (.int k (l : Int)) := (boundE_rel hl p1 hlo).imp (fun x => ⟨x.1, x.2.2⟩) id
          have hH : (HI = none ∧ hh = L.length) ∨ ∃ k, HI = some (.int k (hh : Int)) := (boundE_rel hhe p2 hhi).imp (fun x => ⟨x.1, x.2.2⟩) id
          obtain ⟨k', rfl⟩ := natOf_rel hm p3 hW
          rcases hH with ⟨rfl, _⟩ | ⟨k, rfl⟩
          · obtain ⟨_, hh', _⟩ := hhi; cases hh'
          have hlen : ((L.take hh).drop l).length = hh - l := by simp; omega
          have hrun := run_bounds3 (P := P) (w := w) (b := true) (cap := cap') (len := L.length) (k := k) (k' := k') hL p4 (Nat.le_refl hh) (by omega)
          cases a with
          | none =>
            have := c4 rfl; subst this
            have e1 : hh = 0 := by omega
            have e2 : l = 0 := by omega
            subst e1; subst e2
            have hrun : (Instr.sliceBounds true L.length 0 LO (some (.int k 0)) (some (.int k' 0))).run P w = .ok (0, 0, 0) w := hrun
            refine ⟨.slice none 0 0, by simp [Instr.sliceAt, run_und hd, Instr.slice, run_size hsz, hrun], ?_⟩
            simp only [VRel]
            exact ⟨none, 0, by simp, by simp, fun h => (by simp), fun _ => rfl, fun h => by simp at h⟩
          | some ad =>
            refine ⟨.slice (if hh = l then some ad else some (ad.add (l * e'.length))) (hh - l) (hh - l), by simp [Instr.sliceAt, run_und hd, Instr.slice, run_size hsz, hrun], ?_⟩
            simp only [VRel]
            refine ⟨_, hh - l, by rw [hlen], by rw [hlen]; omega, fun hx => (by rw [hlen]), fun hn => ?_, fun hp => ?_⟩
            · split at hn <;> cases hn
            · rw [hlen] at hp
              obtain ⟨B, o, g1, g2⟩ := c5 (by omega)
              cases g1
              refine ⟨B, o + l * e'.length, by rw [if_neg (by omega), addr_add], ?_⟩
              simpa [Nat.add_assoc] using rows_drop l hh p6 g2
        · cases hq
      · cases hq
    · rename_i b o len cap x es
      cases hse : Nat.beq sz es with
      | false => simp [hse] at hq
      | true =>
      have hse' : sz = es := by simpa using hse
      subst hse'
      simp only [hse, Bool.not_true, cond_false] at hq
      split at hq
      · cases hq
      rename_i ch hh hhe
      simp only [VRel] at ha
      obtain ⟨B, O, S, cap', hB, rfl, c1, c2, c3, c4⟩ := ha
      split at hq
      · have hmx : MX = none := hmx
        subst hmx
        have main : ∀ {p3 : l ≤ hh} {p4 : hh ≤ cap}, allB cl → allB ch → (Instr.sliceAt t (.slice (some ⟨B, O + o, none⟩) len cap') LO HI none).run P w =
            .ok (.slice (if cap' = l then some ⟨B, O + o, none⟩ else some ((⟨B, O + o, none⟩ : Addr).add (l * sz))) (hh - l) (cap' - l)) w := by
          intro p3 p4 p1 p2
          have hL : (LO = none ∧ l = 0) ∨ ∃ k, LO = some (.int k (l : Int)) := (boundE_rel hl p1 hlo).imp (fun x => ⟨x.1, x.2.2⟩) id
          have hH : (HI = none ∧ hh = len) ∨ ∃ k, HI = some (.int k (hh : Int)) := (boundE_rel hhe p2 hhi).imp (fun x => ⟨x.1, x.2.2⟩) id
          have hrun := run_bounds (P := P) (w := w) (b := true) (cap := cap') hL hH p3 (by omega)
          simp [Instr.sliceAt, run_und hd, Instr.slice, run_size hsz, hrun]
        cases hl0 : Nat.beq l 0 with
        | true =>
          have e : l = 0 := by simpa using hl0
          subst e
          simp only [hl0, cond_true] at hq
          cases hq
          simp only [allB_append] at hp
          obtain ⟨p1, p2, p3, p4, _⟩ := hp
          simp only [decide_eq_true_eq] at p3 p4
          rw [main (p3 := p3) (p4 := p4) p1 p2]
          refine ⟨_, rfl, ?_⟩
          simp only [VRel]
          refine ⟨B, O, S, cap', hB, ?_, p4, c2, c3, c4⟩
          simp [addr_add]
        | false =>
          simp only [hl0, cond_false] at hq
          cases hlc : Nat.blt l cap with
          | true =>
            have hlt : l < cap := by simpa [Nat.blt_eq] using hlc
            simp only [hlc, cond_true] at hq
            cases hq
            simp only [allB_append] at hp
            obtain ⟨p1, p2, p3, p4, _⟩ := hp
            simp only [decide_eq_true_eq] at p3 p4
            rw [main (p3 := p3) (p4 := p4) p1 p2]
            refine ⟨_, rfl, ?_⟩
            simp only [VRel]
            refine ⟨B, O, S, cap' - l, hB, ?_, by omega, by omega, fun hx => by rw [c3 hx], ?_⟩
            · rw [if_neg (by omega), addr_add, Nat.add_assoc]
            · have : l * sz + (cap' - l) * sz = cap' * sz := by rw [← Nat.add_mul]; congr 1; omega
              omega
          | false => rw [hlc] at hq; cases hq
      · rename_i mv hv
        split at hq
        · rename_i cm m hm
          obtain ⟨W, rfl, hW⟩ := hmx
          cases hml : Nat.beq m l with
          | true => rw [hml] at hq; cases hq
          | false =>
          rw [hml, cond_false] at hq
          have e : m ≠ l := by intro e; subst e; simp at hml
          cases hq
          simp only [allB_append] at hp
          obtain ⟨p1, p2, p3, p4, p5, p6, _⟩ := hp
          simp only [decide_eq_true_eq] at p4 p5 p6
          have hL : (LO = none ∧ l = 0) ∨ ∃ k, LO = some (.int k (l : Int)) := (boundE_rel hl p1 hlo).imp (fun x => ⟨x.1, x.2.2⟩) id
          have hH : (HI = none ∧ hh = len) ∨ ∃ k, HI = some (.int k (hh : Int)) := (boundE_rel hhe p2 hhi).imp (fun x => ⟨x.1, x.2.2⟩) id
          obtain ⟨k', rfl⟩ := natOf_rel hm p3 hW
          rcases hH with ⟨rfl, _⟩ | ⟨k, rfl⟩
          · obtain ⟨_, hh', _⟩ := hhi; cases hh'
          have hrun := run_bounds3 (P := P) (w := w) (b := true) (cap := cap') (len := len) (k := k) (k' := k') hL p4 p5 (by omega)
          have hrun' : (Instr.sliceAt t (.slice (some ⟨B, O + o, none⟩) len cap') LO (some (.int k (hh : Int))) (some (.int k' (m : Int)))).run P w =
              .ok (.slice (if m = l then some ⟨B, O + o, none⟩ else some ((⟨B, O + o, none⟩ : Addr).add (l * sz))) (hh - l) (m - l)) w := by
            simp [Instr.sliceAt, run_und hd, Instr.slice, run_size hsz, hrun]
          rw [hrun']
          refine ⟨_, rfl, ?_⟩
          simp only [VRel]
          refine ⟨B, O, S, m - l, hB, by rw [if_neg e, addr_add, Nat.add_assoc], by omega, by omega, fun _ => rfl, ?_⟩
          have : l * sz + (m - l) * sz = m * sz := by rw [← Nat.add_mul]; congr 1; omega
          have : m * sz ≤ cap' * sz := Nat.mul_le_mul_right _ (by omega)
          omega
        · cases hq
      · cases hq
    · cases hq
  · rename_i n e hd
    split at hq
    · rename_i sz hsz
      have hmx : MX = none := hmx
      subst hmx
      split at hq
      · rename_i b o ch hh hhe
        split at hq
        · rename_i cs hcs
          simp only [llen_eq] at hq
          cases hb : Nat.ble (o + n * sz) cs.length with
          | false => simp [hb] at hq
          | true =>
          simp only [hb, cond_true] at hq
          simp only [Nat.ble_eq] at hb
          cases hnl : Nat.beq n l with
          | true => rw [hnl] at hq; cases hq
          | false =>
          rw [hnl, cond_false] at hq
          have e : n ≠ l := by intro e; subst e; simp at hnl
          cases hq
          simp only [allB_append] at hp
          obtain ⟨p1, p2, p3, p4, _⟩ := hp
          simp only [decide_eq_true_eq] at p3 p4
          have hL : (LO = none ∧ l = 0) ∨ ∃ k, LO = some (.int k (l : Int)) := (boundE_rel hl p1 hlo).imp (fun x => ⟨x.1, x.2.2⟩) id
          have hH : (HI = none ∧ hh = n) ∨ ∃ k, HI = some (.int k (hh : Int)) := (boundE_rel hhe p2 hhi).imp (fun x => ⟨x.1, x.2.2⟩) id
          simp only [VRel] at ha
          obtain ⟨B, O, S, hB, rfl⟩ := ha
          have hlen := (h.cellsAt hcs hB).2
          simp only at hlen
          have hrun := run_bounds (P := P) (w := w) (b := false) (cap := n) hL hH p3 p4
          have hrun' : (Instr.sliceAt t (.pointer (some ⟨B, O + o, none⟩)) LO HI none).run P w =
              .ok (.slice (some (if n = l then ⟨B, O + o, none⟩ else ((⟨B, O + o, none⟩ : Addr).add (l * sz)))) (hh - l) (n - l)) w := by
            simp [Instr.sliceAt, run_und hd, Instr.sureAddr, run_size hsz, hrun]
          rw [hrun']
          refine ⟨_, rfl, ?_⟩
          simp only [VRel]
          refine ⟨B, O, S, n - l, hB, by rw [if_neg e, addr_add, Nat.add_assoc], by omega, by omega, fun _ => rfl, ?_⟩
          have : l * sz + (n - l) * sz = n * sz := by rw [← Nat.add_mul]; congr 1; omega
          omega
        · cases hq
      · rename_i b es ch hh hhe
        split at hq
        · rename_i e' L hL'
          cases hse : (Nat.beq sz es && Nat.beq es e'.length) with
          | false => rw [hse] at hq; cases hq
          | true =>
          rw [hse, cond_true] at hq
          simp only [Bool.and_eq_true, Nat.beq_eq] at hse
          obtain ⟨e1, e2⟩ := hse
          subst e1; subst e2
          cases hq
          simp only [allB_append] at hp
          obtain ⟨p1, p2, p3, p4, p5, _⟩ := hp
          simp only [decide_eq_true_eq] at p3 p4 p5
          have hL : (LO = none ∧ l = 0) ∨ ∃ k, LO = some (.int k (l : Int)) := (boundE_rel hl p1 hlo).imp (fun x => ⟨x.1, x.2.2⟩) id
          have hH : (HI = none ∧ hh = n) ∨ ∃ k, HI = some (.int k (hh : Int)) := (boundE_rel hhe p2 hhi).imp (fun x => ⟨x.1, x.2.2⟩) id
          simp only [VRel] at ha
          obtain ⟨B, O, S, hB, rfl⟩ := ha
          have hlen := (h.rowsAt hL' hB).2
          simp only at hlen
          simp only [Nat.zero_mul, Nat.add_zero]
          have hrun := run_bounds (P := P) (w := w) (b := false) (cap := n) hL hH p3 p4
          have hrun' : (Instr.sliceAt t (.pointer (some ⟨B, O, none⟩)) LO HI none).run P w =
              .ok (.slice (some (if n = l then ⟨B, O, none⟩ else ((⟨B, O, none⟩ : Addr).add (l * e'.length)))) (hh - l) (n - l)) w := by
            simp [Instr.sliceAt, run_und hd, Instr.sureAddr, run_size hsz, hrun]
          rw [hrun']
          refine ⟨_, rfl, ?_⟩
          simp only [VRel]
          refine ⟨_, _, rfl, by omega, by omega, fun _ => rfl, fun hn => (by cases hn), fun hp => ⟨B, O, S, hB, by rw [if_neg (by omega), addr_add], ?_⟩⟩
          have h1 : l * e'.length + (n - l) * e'.length = n * e'.length := by rw [← Nat.add_mul]; congr 1; omega
          have h2 : n * e'.length ≤ L.length * e'.length := Nat.mul_le_mul_right _ p5
          omega
        · cases hq
      · cases hq
    · cases hq
  · cases hq

theorem keyEq_rel {a b : V} {r : Bool} (h : keyEq a b = some r) {A B : Value} (ha : VRel ρ a A) (hb : VRel ρ b B) {kt : TypeId} {d : TypeDesc} (hd : P.underlying kt = some d) (hk : plainKeyE P kt a = true) :
    Instr.sameNow d A B = some r := by
  unfold keyEq at h
  unfold plainKeyE at hk
  rw [hd] at hk
  split at h
  · rename_i k x k' y
    rw [kEq_iff] at h
    cases hkk : decide (k = k') with
    | false => simp [hkk] at h
    | true =>
      have e : k = k' := by simpa using hkk
      subst e
      simp only [decide_true, cond_true, Option.some.injEq] at h
      subst h
      simp only [VRel] at ha hb; subst ha; subst hb
      cases d <;> simp at hk
      simp [Instr.sameNow]; rfl
  · rename_i x y
    cases h
    simp only [VRel] at ha hb; subst ha; subst hb
    cases d <;> simp at hk
    simp only [Instr.sameNow, sEq_eq, beq_toListBytes, ByteArray.toList_eq]
  · cases h
    simp only [VRel] at ha hb; subst ha; subst hb
    cases d <;> simp at hk
    simp [Instr.sameNow]
  · cases h

theorem findE_rel {k : V} {K : Value} (hk : VRel ρ k K) {kt : TypeId} {d : TypeDesc} (hd : P.underlying kt = some d) (hp : plainKeyE P kt k = true) :
    ∀ {l : List (V × V × Nat)} {E : List MapEntry} (_ : MRel ρ l E) (i : Nat) {r : Option (Nat × V)}, findE k l i = some r →
      (r = none ∧ Instr.findNow d K E i = some none) ∨ ∃ j v W, r = some (j, v) ∧ Instr.findNow d K E i = some (some (j, W)) ∧ VRel ρ v W
  | [], E, hm, i, r, h => by
    have hm : E = [] := hm
    subst hm
    simp only [findE] at h; cases h
    exact .inl ⟨rfl, rfl⟩
  | e :: l, E, hm, i, r, h => by
    obtain ⟨x, y, rfl, h1, h2, h3, h4⟩ := hm
    simp only [findE] at h
    split at h
    · rename_i he
      cases h
      exact .inr ⟨_, _, _, rfl, by simp [Instr.findNow, keyEq_rel he hk h1 hd hp], h2⟩
    · rename_i he
      have := findE_rel hk hd hp h4 (i + 1) h
      simpa [Instr.findNow, keyEq_rel he hk h1 hd hp] using this
    · cases h

theorem run_checkKeyE {kt : TypeId} {k : V} {K : Value} (hk : VRel ρ k K) (hp : plainKeyE P kt k = true) (e : Bool) (n : Nat) : (Instr.checkKey e (n + 1) kt K).run P w = .ok () w := by
  unfold plainKeyE at hp
  split at hp
  · rename_i hd; simp only [VRel] at hk; subst hk; simp [Instr.checkKey, run_und hd]
  · rename_i hd; simp only [VRel] at hk; subst hk; simp [Instr.checkKey, run_und hd]
  · rename_i hd; simp only [VRel] at hk; subst hk; simp [Instr.checkKey, run_und hd]
  · cases hp

theorem plainKeyE_und {kt : TypeId} {k : V} (hp : plainKeyE P kt k = true) : ∃ d, P.underlying kt = some d := by
  unfold plainKeyE at hp
  split at hp <;> rename_i hd <;> first | exact ⟨_, hd⟩ | cases hp

theorem run_findKeyE {k : V} {K : Value} (hk : VRel ρ k K) {kt : TypeId} (hp : plainKeyE P kt k = true) {l : List (V × V × Nat)} {E : List MapEntry} (hm : MRel ρ l E) {r : Option (Nat × V)} (h : findE k l 0 = some r) :
    (r = none ∧ (Instr.findKey kt K E).run P w = .ok none w) ∨ ∃ j v W, r = some (j, v) ∧ (Instr.findKey kt K E).run P w = .ok (some (j, W)) w ∧ VRel ρ v W := by
  obtain ⟨d, hd⟩ := plainKeyE_und hp
  rcases findE_rel hk hd hp hm 0 h with ⟨h1, h2⟩ | ⟨j, v, W, h1, h2, h3⟩
  · exact .inl ⟨h1, by simp [Instr.findKey, run_und hd, h2]⟩
  · exact .inr ⟨j, v, W, h1, by simp [Instr.findKey, run_und hd, h2], h3⟩

theorem zeroE_rel {t : TypeId} {z : V} (h : zeroE P t = some z) : ∃ Z, (zeroValue t).run P w = .ok Z w ∧ VRel ρ z Z ∧ (∃ i, P.info? t = some i ∧ i.zero = some Z) := by
  unfold zeroE at h
  split at h
  · rename_i i hi
    split at h
    · rename_i v hv
      exact ⟨v, by simp [zeroValue, typeInfo, hi, hv], ofVal_rel h, i, hi, hv⟩
    · cases h
  · cases h

theorem qLookup_rel (h : SRel own ρ s w) {t : TypeId} {m k v : V} {ok : Bool} (hq : qLookup P s t m k ok = some v) {M K : Value} (hm : VRel ρ m M) (hk : VRel ρ k K) :
    ∃ X, (Instr.lookup t M K ok).run P w = .ok X w ∧ VRel ρ v X := by
  unfold qLookup at hq
  split at hq
  · rename_i kt e hd
    cases hp : plainKeyE P kt k with
    | false => simp [hp] at hq
    | true =>
    simp only [hp, Bool.not_true, cond_false] at hq
    split at hq
    · cases hq
    rename_i es hes
    have key : ∃ E : Array MapEntry, MRel ρ es E.toList ∧ (Instr.lookup t M K ok).run P w = (do
        Instr.checkKey E.isEmpty 10000 kt K
        let (v, ok') ← match ← Instr.findKey kt K E.toList with
          | some (_, v) => pure (v, true)
          | none => pure (← zeroValue e, false)
        pure (if ok then .tuple #[v, .bool ok'] else v) : Sem Value).run P w := by
      split at hes
      · cases hes
        simp only [VRel] at hm; subst hm
        exact ⟨#[], rfl, by simp only [Instr.lookup, Sem.run_bind, run_und hd, Result.andThen_ok, Sem.run_pure]; rfl⟩
      · rename_i b
        split at hes
        · rename_i es' c hg
          cases hes
          simp only [VRel] at hm
          obtain ⟨B, O, S, hB, rfl⟩ := hm
          obtain ⟨x, hx, _, E, hE, hrel⟩ := h.obj' hg hB
          rw [hB] at hx; cases hx
          have hgo : (getObj B).run P w = .ok (.map E c) w := by simp only [getObj, Sem.run]; simp only at hE; rw [hE]
          exact ⟨E, hrel, by simp only [Instr.lookup, Sem.run_bind, run_und hd, Result.andThen_ok, hgo, Sem.run_pure]; rfl⟩
        · cases hes
      · cases hes
    obtain ⟨E, hrel, h0⟩ := key
    rw [h0]
    simp only [Sem.run_bind, run_checkKeyE hk hp, Result.andThen_ok]
    split at hq
    · rename_i j v' hf
      rcases run_findKeyE (w := w) hk hp hrel hf with ⟨h1, _⟩ | ⟨j', v2, W, h1, h2, h3⟩
      · cases h1
      · cases h1
        cases hq
        simp only [h2, Result.andThen_ok, Sem.run_pure]
        cases ok
        · exact ⟨_, rfl, h3⟩
        · exact ⟨_, rfl, by simp only [cond_true, VRel]; exact ⟨_, rfl, LRel.cons h3 (LRel.cons (vbool _) LRel.nil)⟩⟩
    · rename_i hf
      split at hq
      · rename_i z hz
        cases hq
        obtain ⟨Z, hZ, hz', _⟩ := zeroE_rel (ρ := ρ) (w := w) hz
        rcases run_findKeyE (w := w) hk hp hrel hf with ⟨_, h2⟩ | ⟨j', v2, W, h1, h2, h3⟩
        · simp only [h2, Result.andThen_ok, Sem.run_bind, Sem.run_pure, hZ]
          cases ok
          · exact ⟨_, rfl, hz'⟩
          · exact ⟨_, rfl, by simp only [cond_true, VRel]; exact ⟨_, rfl, LRel.cons hz' (LRel.cons (vbool _) LRel.nil)⟩⟩
        · cases h1
      · cases hq
    · cases hq
  · cases hq

theorem keyV {kt : TypeId} {k : Ty} {key : V} {d : k.den} (hp : plainKeyE P kt key = true) (h : ofV k key = some d) : key = toV k d ∧ ∀ d' : k.den, keyEq (toV k d) (toV k d') = some (kB k d d') := by
  cases k with
  | int kk =>
    simp only [ofV, ofInt] at h
    split at h
    · rename_i k' n
      cases hk : kEq kk k' with
      | false => rw [hk] at h; cases h
      | true =>
        rw [hk, cond_true] at h
        cases h
        rw [kEq_iff] at hk
        have hk := of_decide_eq_true hk
        subst hk
        exact ⟨rfl, fun d' => by
          have : kEq kk kk = true := by rw [kEq_iff]; exact decide_eq_true rfl
          simp only [toV, keyEq, this, cond_true, kB, eqI]⟩
    · cases h
  | bool =>
    simp only [ofV, ofBool] at h
    split at h
    · cases h; exact ⟨rfl, fun d' => rfl⟩
    · cases h
  | str =>
    simp only [ofV, ofStr] at h
    split at h
    · cases h; exact ⟨rfl, fun d' => rfl⟩
    · cases h
  | lst e =>
    simp only [ofV] at h
    unfold ofLst at h
    split at h
    · unfold plainKeyE at hp; split at hp <;> simp_all
    · unfold plainKeyE at hp; split at hp <;> simp_all
    · cases h
theorem ofV_toV {t : Ty} {v : V} {x : t.den} (h : ofV t v = some x) {X : Value} (hv : VRel ρ v X) : VRel ρ (toV t x) X := by
  cases t with
  | int kk =>
    simp only [ofV, ofInt] at h
    split at h
    · rename_i k' n
      cases hk : kEq kk k' with
      | false => rw [hk] at h; cases h
      | true =>
        rw [hk, cond_true] at h
        cases h
        rw [kEq_iff] at hk
        have hk := of_decide_eq_true hk
        subst hk
        exact hv
    · cases h
  | bool =>
    simp only [ofV, ofBool] at h
    split at h
    · cases h; exact hv
    · cases h
  | str =>
    simp only [ofV, ofStr] at h
    split at h
    · cases h; exact hv
    · cases h
  | lst e =>
    simp only [ofV] at h
    unfold ofLst at h
    split at h
    · obtain ⟨q, rfl⟩ := asL_some h
      subst q
      simp only [toV, VRel] at hv ⊢
      obtain ⟨a, c, h1, h2, h3, h4, h5⟩ := hv
      exact ⟨a, c, h1, h2, fun h => (by cases h), h4, h5⟩
    · cases h
      simp only [toV, VRel] at hv ⊢
      exact ⟨none, 0, hv, Nat.le_refl _, fun h => (by cases h), fun _ => rfl, fun h => absurd h (Nat.lt_irrefl _)⟩
    · cases h
theorem pmF_find {k t : Ty} {d : k.den} (hk : ∀ d' : k.den, keyEq (toV k d) (toV k d') = some (kB k d d')) : ∀ (M : List (k.den × t.den × Nat)) (i : Nat), findE (toV k d) (pmV k t M) i = some (match pmF k t d M i with
    | some r => some (r.1, toV t r.2.1)
    | none => none)
  | [], i => rfl
  | m :: M, i => by
    show (match keyEq (toV k d) (toV k m.1) with
      | some true => some (some (i, toV t m.2.1))
      | some false => findE (toV k d) (pmV k t M) (i + 1)
      | none => none) = _
    rw [hk, pmF]
    cases kB k d m.1
    · exact pmF_find hk M (i + 1)
    · rfl
theorem pmAt_some {b : Nat} {k t : Ty} {M : List (k.den × t.den × Nat)} {c : Nat} (h : pmAt s b = some ⟨k, t, M, c⟩) : s.heap.get b = some (.pm k t M c) := by
  unfold pmAt at h
  split at h
  · rename_i h1; cases h; exact h1
  · cases h
theorem qLookup1_rel (h : SRel own ρ s w) {t : TypeId} {m key v : V} {ok : Bool} (hq : qLookup1 P s t m key ok = some v) {M K : Value} (hm : VRel ρ m M) (hk : VRel ρ key K) :
    ∃ X, (Instr.lookup t M K ok).run P w = .ok X w ∧ VRel ρ v X := by
  unfold qLookup1 at hq
  split at hq
  · rename_i kt e b hd
    split at hq
    · rename_i k t' ML c hp
      have hg := pmAt_some hp
      cases hpk : plainKeyE P kt key with
      | false => rw [hpk] at hq; cases hq
      | true =>
      rw [hpk, cond_true] at hq
      split at hq
      · rename_i d z hd1 hz1
        unfold qLookP at hq
        split at hq
        · rename_i dz hdz
          cases hq
          obtain ⟨rfl, hkeq⟩ := keyV hpk hd1
          simp only [VRel] at hm
          obtain ⟨B, O, S, hB, rfl⟩ := hm
          obtain ⟨x, hx, _, E, hE, hrel⟩ := h.obj' hg hB
          rw [hB] at hx; cases hx
          have hgo : (getObj B).run P w = .ok (.map E c) w := by simp only [getObj, Sem.run]; simp only at hE; rw [hE]
          have hf := pmF_find hkeq ML 0
          have hrun : (Instr.lookup t (.map (some B)) K ok).run P w = (do
              let (v, ok') ← match ← Instr.findKey kt K E.toList with
                | some (_, v) => pure (v, true)
                | none => pure (← zeroValue e, false)
              pure (if ok then .tuple #[v, .bool ok'] else v) : Sem Value).run P w := by
            simp only [Instr.lookup, Sem.run_bind, run_und hd, Result.andThen_ok, hgo, Sem.run_pure, run_checkKeyE hk hpk]
            rfl
          rw [hrun]
          obtain ⟨Z, hZ, hz', _⟩ := zeroE_rel (ρ := ρ) (w := w) hz1
          have hzz := ofV_toV hdz hz'
          cases hF : pmF k t' d ML 0 with
          | some r =>
            rw [hF] at hf
            rcases run_findKeyE (w := w) hk hpk hrel hf with ⟨h1, _⟩ | ⟨j', v2, W, h1, h2, h3⟩
            · cases h1
            · cases h1
              have e1 : pmGet k t' ML d dz = r.2.1 := by rw [pmGet_eq]; simp only [pmGet0, hF]
              have e2 : pmHas k t' ML d = true := by rw [pmHas_eq]; simp only [pmHas0, hF]
              rw [e1, e2]
              simp only [Sem.run_bind, h2, Result.andThen_ok, Sem.run_pure]
              cases ok
              · exact ⟨_, rfl, h3⟩
              · exact ⟨_, rfl, by simp only [cond_true, VRel]; exact ⟨_, rfl, LRel.cons h3 (LRel.cons (vbool _) LRel.nil)⟩⟩
          | none =>
            rw [hF] at hf
            rcases run_findKeyE (w := w) hk hpk hrel hf with ⟨_, h2⟩ | ⟨j', v2, W, h1, h2, h3⟩
            · have e1 : pmGet k t' ML d dz = dz := by rw [pmGet_eq]; simp only [pmGet0, hF]
              have e2 : pmHas k t' ML d = false := by rw [pmHas_eq]; simp only [pmHas0, hF]
              rw [e1, e2]
              simp only [Sem.run_bind, h2, Result.andThen_ok, Sem.run_bind, Sem.run_pure, hZ]
              cases ok
              · exact ⟨_, rfl, hzz⟩
              · exact ⟨_, rfl, by simp only [cond_true, VRel]; exact ⟨_, rfl, LRel.cons hzz (LRel.cons (vbool _) LRel.nil)⟩⟩
            · cases h1
        · cases hq
      · cases hq
    · cases hq
  · cases hq
theorem qLookup2_rel (h : SRel own ρ s w) {t : TypeId} {m key v : V} {ok : Bool} (hq : qLookup2 P s t m key ok = some v) {M K : Value} (hm : VRel ρ m M) (hk : VRel ρ key K) :
    ∃ X, (Instr.lookup t M K ok).run P w = .ok X w ∧ VRel ρ v X := by
  unfold qLookup2 at hq
  split at hq
  · rename_i v1 h1; cases hq; exact qLookup1_rel h h1 hm hk
  · exact qLookup_rel h hq hm hk

theorem MRel.length : ∀ {l : List (V × V × Nat)} {E : List MapEntry}, MRel ρ l E → l.length = E.length
  | [], _, h => by have h : _ = [] := h; subst h; rfl
  | _ :: _, _, h => by obtain ⟨x, y, rfl, _, _, _, h4⟩ := h; simp [MRel.length h4]

theorem qLen_rel (h : SRel own ρ s w) {t ty : TypeId} {a v : V} (hq : qLen P s t a = some v) {A : Value} (ha : VRel ρ a A) {ts : Array TypeId} (ht : ts[0]? = some t) :
    ∃ X, (Builtin.len_ ts ty #[A]).run P w = .ok X w ∧ VRel ρ v X := by
  unfold qLen at hq
  split at hq
  · rename_i hd
    split at hq <;> cases hq
    simp only [VRel] at ha; subst ha
    exact ⟨_, by simp [Builtin.len_, ht, run_und hd, goInt], vint _ _⟩
  · rename_i n e hd
    cases hq
    refine ⟨_, by simp [Builtin.len_, ht, run_und hd, goInt], vint _ _⟩
  · rename_i e hd
    split at hq <;> cases hq <;> simp only [VRel] at ha
    · subst ha
      exact ⟨_, by simp [Builtin.len_, ht, run_und hd, goInt], vint _ _⟩
    · obtain ⟨B, O, S, cap', _, rfl, _⟩ := ha
      exact ⟨_, by simp [Builtin.len_, ht, run_und hd, goInt], vint _ _⟩
    · obtain ⟨_, _, rfl, _⟩ := ha
      exact ⟨_, by simp [Builtin.len_, ht, run_und hd, goInt], vint _ _⟩
    · obtain ⟨_, _, rfl, _⟩ := ha
      exact ⟨_, by simp [Builtin.len_, ht, run_und hd, goInt], vint _ _⟩
  · rename_i k e hd
    split at hq
    · cases hq
      simp only [VRel] at ha; subst ha
      exact ⟨_, by simp [Builtin.len_, ht, run_und hd, goInt], vint _ _⟩
    · split at hq
      · rename_i hg
        cases hq
        simp only [VRel] at ha
        obtain ⟨B, O, S, hB, rfl⟩ := ha
        obtain ⟨x, hx, _, E, hE, hrel⟩ := h.obj' hg hB
        rw [hB] at hx; cases hx
        refine ⟨_, ?_, vint _ _⟩
        have := hrel.length
        simp at this
        rw [llen_eq]
        simp [Builtin.len_, ht, run_und hd, goInt, getObj, Sem.run, hE, this]
      · rename_i hg
        cases hq
        simp only [VRel] at ha
        obtain ⟨B, O, S, hB, rfl⟩ := ha
        obtain ⟨x, hx, _, E, hE, hrel⟩ := h.obj' hg hB
        rw [hB] at hx; cases hx
        refine ⟨_, ?_, vint _ _⟩
        have := hrel.length
        simp [pmV] at this
        simp [Builtin.len_, ht, run_und hd, goInt, getObj, Sem.run, hE, this]
      · cases hq
    · cases hq
  · rename_i arr hd
    split at hq
    · rename_i n e hd2
      cases hq
      refine ⟨_, by simp [Builtin.len_, ht, run_und hd, run_und hd2, goInt], vint _ _⟩
    · cases hq
  · cases hq

theorem qCap_rel {t ty : TypeId} {a v : V} (hq : qCap P t a = some v) {A : Value} (ha : VRel ρ a A) {ts : Array TypeId} (ht : ts[0]? = some t) :
    ∃ X, (Builtin.cap_ ts ty #[A]).run P w = .ok X w ∧ VRel ρ v X := by
  unfold qCap at hq
  split at hq
  · rename_i n e hd
    cases hq
    exact ⟨_, by simp [Builtin.cap_, ht, run_und hd, goInt], vint _ _⟩
  · rename_i e hd
    split at hq <;> cases hq <;> simp only [VRel] at ha
    · subst ha
      exact ⟨_, by simp [Builtin.cap_, ht, run_und hd, goInt], vint _ _⟩
    · obtain ⟨B, O, S, cap', _, rfl, _, _, hc, _⟩ := ha
      rw [hc trivial]
      exact ⟨_, by simp [Builtin.cap_, ht, run_und hd, goInt], vint _ _⟩
    · obtain ⟨_, cap', rfl, _, _, hc, _⟩ := ha
      rw [hc trivial]
      exact ⟨_, by simp [Builtin.cap_, ht, run_und hd, goInt], vint _ _⟩
    · obtain ⟨_, cap', rfl, _, hc, _⟩ := ha
      rw [hc trivial]
      exact ⟨_, by simp [Builtin.cap_, ht, run_und hd, goInt], vint _ _⟩
  · cases hq

theorem minMax_rel : ∀ (l : List V) (k : IntKind) (x : Int) (v : V), minMax false (.int k x) l = some v → ∀ {L : List Value}, LRel ρ l L → ∃ X, (L.foldlM Builtin.min2 (.int k x)).run P w = .ok X w ∧ VRel ρ v X
  | [], k, x, v, h, L, hl => by
    have hl : L = [] := hl
    subst hl; simp only [minMax] at h; cases h
    exact ⟨_, by simp, vint _ _⟩
  | b :: l, k, x, v, h, L, hl => by
    obtain ⟨X, Y, rfl, h1, h2⟩ := hl
    cases b <;> simp only [minMax, reduceCtorEq] at h
    simp only [VRel] at h1; subst h1
    obtain ⟨Z, e1, e2⟩ := minMax_rel l _ _ v h h2
    rename_i k' y
    have e : min x y = if y < x then y else x := by split <;> omega
    simp only [e] at e1
    exact ⟨Z, by simpa [Builtin.min2] using e1, e2⟩
theorem maxMin_rel : ∀ (l : List V) (k : IntKind) (x : Int) (v : V), minMax true (.int k x) l = some v → ∀ {L : List Value}, LRel ρ l L → ∃ X, (L.foldlM Builtin.max2 (.int k x)).run P w = .ok X w ∧ VRel ρ v X
  | [], k, x, v, h, L, hl => by
    have hl : L = [] := hl
    subst hl; simp only [minMax] at h; cases h
    exact ⟨_, by simp, vint _ _⟩
  | b :: l, k, x, v, h, L, hl => by
    obtain ⟨X, Y, rfl, h1, h2⟩ := hl
    cases b <;> simp only [minMax, reduceCtorEq] at h
    simp only [VRel] at h1; subst h1
    obtain ⟨Z, e1, e2⟩ := maxMin_rel l _ _ v h h2
    rename_i k' y
    have e : maxI x y = if y > x then y else x := by rw [maxI_eq]; split <;> omega
    simp only [e] at e1
    exact ⟨Z, by simpa [Builtin.max2] using e1, e2⟩

theorem cells_one {X : Value} (h : ∀ A, X ≠ .agg A) : X.cells.toList = [X] := by
  cases X <;> first | exact absurd rfl (h _) | rfl
theorem cellsO_rel {v : V} {c : List V} (hc : cellsO v = some c) {X : Value} (h : VRel ρ v X) : LRel ρ c X.cells.toList := by
  have one : (∀ A, X ≠ .agg A) → c = [v] → LRel ρ c X.cells.toList := fun h1 h2 => by
    rw [cells_one h1, h2]; exact LRel.cons h LRel.nil
  cases v <;> simp only [cellsO, Option.some.injEq, reduceCtorEq] at hc
  case agg => subst hc; simp only [VRel] at h; obtain ⟨A, rfl, h2⟩ := h; exact h2
  all_goals
    refine one ?_ hc.symm
    intro A e
    subst e
    simp only [VRel] at h
    first
      | (cases h; done)
      | (obtain ⟨_, _, _, _, e⟩ := h; cases e; done)
      | (obtain ⟨_, _, _, _, _, e, _⟩ := h; cases e; done)
      | (obtain ⟨_, _, e⟩ := h; cases e; done)
      | (obtain ⟨_, _, e, _⟩ := h; cases e; done)
      | (obtain ⟨_, e, _⟩ := h; cases e; done)

theorem setAll_rel : ∀ {l : List V} {L : List Value}, LRel ρ l L → ∀ {cs : List V} {A : Array Value}, LRel ρ cs A.toList → ∀ (off k : Nat),
    LRel ρ (setAll cs (off + k) l) ((L.zipIdx k).foldl (fun (cs : Array Value) (x : Value × Nat) => cs.setIfInBounds (off + x.2) x.1) A).toList
  | [], L, h, cs, A, hA, off, k => by
    have h : L = [] := h
    subst h; simpa [setAll] using hA
  | v :: l, L, h, cs, A, hA, off, k => by
    obtain ⟨X, Y, rfl, h1, h2⟩ := h
    simp only [setAll, lset_eq, List.zipIdx_cons, List.foldl_cons]
    rw [Nat.add_assoc]
    exact setAll_rel h2 (by rw [Array.toList_setIfInBounds]; exact hA.set h1) off (k + 1)

theorem setAll_length : ∀ (l cs : List V) (off : Nat), (setAll cs off l).length = cs.length
  | [], _, _ => rfl
  | c :: l, cs, off => by simp [setAll, lset_eq, setAll_length l]

def PRel (ρ : Env) : List (Nat × V) → List (Nat × Value) → Prop
  | [], L => L = []
  | p :: l, L => ∃ X Y, L = (p.1, X) :: Y ∧ VRel ρ p.2 X ∧ PRel ρ l Y

theorem evalParts_rel {ev : Operand → Option V} {A : Act} (hA : EvRel ρ ev A) : ∀ {xs : List (Nat × Operand)} {ps : List (Nat × V)}, evalParts ev xs = some ps → PRel ρ ps (xs.map fun p => (p.1, A.eval p.2))
  | [], ps, h => by simp only [evalParts] at h; cases h; rfl
  | (i, x) :: xs, ps, h => by
    simp only [evalParts] at h
    split at h
    · rename_i v hv
      split at h
      · rename_i r hr; cases h; exact ⟨_, _, rfl, evalO_rel hA hv, evalParts_rel hA hr⟩
      · cases h
    · cases h

theorem fillE_rel {place : Nat → Option (Nat × Nat)} : ∀ {ps : List (Nat × V)} {Ps : List (Nat × Value)}, PRel ρ ps Ps → ∀ {cs r : List V} {A : Array Value}, LRel ρ cs A.toList → fillE place cs ps = some r →
    ∃ R, Instr.fill place A Ps = some R ∧ LRel ρ r R.toList
  | [], Ps, hp, cs, r, A, hA, h => by
    have hp : Ps = [] := hp
    subst hp; simp only [fillE] at h; cases h
    exact ⟨A, rfl, hA⟩
  | (i, v) :: ps, Ps, hp, cs, r, A, hA, h => by
    obtain ⟨X, Y, rfl, h1, h2⟩ := hp
    simp only [fillE] at h
    split at h
    · rename_i off size c hpl hcv
      simp only [llen_eq] at h
      cases hb : (Nat.beq c.length size && Nat.ble (off + size) cs.length) with
      | false => simp [hb] at h
      | true =>
        simp only [hb, cond_true] at h
        simp only [Bool.and_eq_true, Nat.ble_eq, Nat.beq_eq] at hb
        have hc := cellsO_rel hcv h1
        have hl := hc.length
        have hl2 := hA.length
        simp only [Array.length_toList] at hl hl2
        have hset := setAll_rel hc hA off 0
        obtain ⟨R, e1, e2⟩ := fillE_rel h2 (A := X.cells.zipIdx.foldl (fun cs (x : Value × Nat) => cs.setIfInBounds (off + x.2) x.1) A)
          (by rw [← Array.foldl_toList, Array.toList_zipIdx]; exact hset) h
        refine ⟨R, ?_, e2⟩
        simp only [Instr.fill, hpl]
        rw [if_neg (by simp; omega)]
        exact e1
    · cases h

theorem run_places : ∀ (fs : List Field) {pl : List (Nat × Nat)}, placesE P fs = some pl → (fs.mapM fun f => do pure (f.offset, ← sizeOf f.type) : Sem (List (Nat × Nat))).run P w = .ok pl w
  | [], pl, h => by simp only [placesE] at h; cases h; simp
  | f :: fs, pl, h => by
    simp only [placesE] at h
    split at h
    · rename_i n hn
      split at h
      · rename_i r hr
        cases h
        have ih := run_places fs hr
        simp only [List.mapM_cons, Sem.run_bind, run_size hn, Result.andThen_ok, Sem.run_pure, ih]
      · cases h
    · cases h

theorem qBuild_rel {t : TypeId} {ps : List (Nat × V)} {v : V} (hq : qBuild P t ps = some v) {Ps : Array (Nat × Value)} (hp : PRel ρ ps Ps.toList) :
    ∃ X, (Instr.build t Ps).run P w = .ok X w ∧ VRel ρ v X := by
  unfold qBuild at hq
  split at hq
  · cases hq
  rename_i z hz
  split at hq
  · cases hq
  rename_i zc hzc0
  obtain ⟨Z, hZ, hzr, _⟩ := zeroE_rel (ρ := ρ) (w := w) hz
  have hzc := cellsO_rel hzc0 hzr
  split at hq
  · rename_i fs hd
    split at hq
    · rename_i pl hpl
      split at hq
      · rename_i cs hcs
        cases hq
        obtain ⟨R, e1, e2⟩ := fillE_rel hp hzc hcs
        refine ⟨.agg R, ?_, by simp only [VRel]; exact ⟨R, rfl, e2⟩⟩
        have hpr := run_places (w := w) fs.toList hpl
        have e3 : (fun (i : Nat) => (pl.toArray[i]? : Option (Nat × Nat))) = fun (i : Nat) => lget pl i := by funext i; simp [lget_eq]
        simp only [Instr.build, Sem.run_bind, hZ, Result.andThen_ok, run_und hd, Array.mapM_eq_mapM_toList, Sem.run_map, hpr, Sem.run_pure]
        rw [e3, e1]
        rfl
      · cases hq
    · cases hq
  · rename_i n e hd
    split at hq
    · rename_i sz hsz
      split at hq
      · rename_i cs hcs
        cases hq
        obtain ⟨R, e1, e2⟩ := fillE_rel hp hzc hcs
        refine ⟨.agg R, ?_, by simp only [VRel]; exact ⟨R, rfl, e2⟩⟩
        simp only [Instr.build, Sem.run_bind, hZ, Result.andThen_ok, run_und hd, run_size hsz]
        rw [e1]
        rfl
      · cases hq
    · cases hq
  · cases hq

theorem qAssert_rel (xt : TypeId) {t : TypeId} {v u : V} {ok : Bool} (hq : qAssert P t v ok = some u) {X : Value} (hv : VRel ρ v X) : ∃ Y, (Instr.typeAssert X xt t ok).run P w = .ok Y w ∧ VRel ρ u Y := by
  unfold qAssert at hq
  have zer : ∀ {u : V}, assertZ P t ok = some u → ok = true ∧ ∃ Z, (zeroValue t).run P w = .ok Z w ∧ VRel ρ u (.tuple #[Z, .bool false]) := by
    intro u h
    unfold assertZ at h
    split at h
    · rename_i z hz
      cases h
      obtain ⟨Z, hZ, hzr, _⟩ := zeroE_rel (ρ := ρ) (w := w) hz
      refine ⟨rfl, Z, hZ, ?_⟩
      simp only [VRel]
      exact ⟨_, rfl, LRel.cons hzr (LRel.cons (by simp only [VRel]) LRel.nil)⟩
    · cases h
  split at hq
  · cases hq
  · rename_i d hni hd
    cases v with
    | iface t' x =>
      simp only [VRel] at hv
      simp only at hq
      obtain ⟨Y, rfl, hy⟩ := hv
      cases hb : Nat.beq t' t with
      | true =>
        rw [hb, cond_true] at hq
        cases hq
        have e := Nat.eq_of_beq_eq_true hb
        subst e
        cases ok with
        | true => exact ⟨.tuple #[Y, .bool true], by cases d <;> first | exact absurd rfl (hni _) | simp [Instr.typeAssert, run_und hd], by simp only [cond_true, VRel]; exact ⟨_, rfl, LRel.cons hy (LRel.cons (by simp only [VRel]) LRel.nil)⟩⟩
        | false => exact ⟨Y, by cases d <;> first | exact absurd rfl (hni _) | simp [Instr.typeAssert, run_und hd], hy⟩
      | false =>
        rw [hb, cond_false] at hq
        obtain ⟨rfl, Z, hZ, hr⟩ := zer hq
        have hne : ¬ t' = t := fun e => by subst e; simp at hb
        exact ⟨_, by cases d <;> first | exact absurd rfl (hni _) | simp [Instr.typeAssert, run_und hd, hne, hZ], hr⟩
    | nili =>
      simp only [VRel] at hv
      subst hv
      obtain ⟨rfl, Z, hZ, hr⟩ := zer hq
      exact ⟨_, by cases d <;> first | exact absurd rfl (hni _) | simp [Instr.typeAssert, run_und hd, hZ], hr⟩
    | _ => cases hq
  · cases hq

end
end Go.Sym
end

section
namespace Go.Sym
set_option linter.unusedSimpArgs false
set_option linter.unusedVariables false

section
variable {P : Program} {own : Own} {ρ : Env} {s : St} {w : World}

theorem arr1 {A : Array Value} {X : Value} (h : A.toList = [X]) : A = #[X] := by cases A; simp at h; simp [h]

theorem qBuiltin_rel (h : SRel own ρ s w) {b : Builtin} {ts : Array TypeId} {vs : List V} {v : V} (hq : qBuiltin P s b ts vs = some v) {A : Array Value} (ha : LRel ρ vs A.toList) (ty : TypeId) (cs : Array Bool) :
    ∃ X, (Go.builtin b ts ty cs A).run P w = .ok (.value X) w ∧ VRel ρ v X := by
  unfold qBuiltin at hq
  split at hq
  · split at hq
    · rename_i t a ht
      obtain ⟨X, Y, e, h1, h2⟩ := ha
      have h2 : Y = [] := h2
      subst h2
      obtain rfl := arr1 e
      obtain ⟨Z, e1, e2⟩ := qLen_rel h (ty := ty) hq h1 ht
      exact ⟨Z, by simp [Go.builtin, e1], e2⟩
    · cases hq
  · split at hq
    · rename_i t a ht
      obtain ⟨X, Y, e, h1, h2⟩ := ha
      have h2 : Y = [] := h2
      subst h2
      obtain rfl := arr1 e
      obtain ⟨Z, e1, e2⟩ := qCap_rel (w := w) (ty := ty) hq h1 ht
      exact ⟨Z, by simp [Go.builtin, e1], e2⟩
    · cases hq
  · split at hq
    · rename_i k x l
      obtain ⟨X, Y, e, h1, h2⟩ := ha
      simp only [VRel] at h1; subst h1
      obtain ⟨Z, e1, e2⟩ := minMax_rel (P := P) (w := w) l _ _ v hq h2
      exact ⟨Z, by simp [Go.builtin, Builtin.min_, e, e1], e2⟩
    · cases hq
  · split at hq
    · rename_i k x l
      obtain ⟨X, Y, e, h1, h2⟩ := ha
      simp only [VRel] at h1; subst h1
      obtain ⟨Z, e1, e2⟩ := maxMin_rel (P := P) (w := w) l _ _ v hq h2
      exact ⟨Z, by simp [Go.builtin, Builtin.max_, e, e1], e2⟩
    · cases hq
  · cases hq

theorem map_toList {α β : Type} (a : Array α) (f : α → β) : (a.map f).toList = a.toList.map f := by simp

theorem pickV_rel {b : Bool} {x y v : V} (hq : pickV b x y = some v) {X Y : Value} (hx : VRel ρ x X) (hy : VRel ρ y Y) : VRel ρ v (if b then X else Y) := by
  unfold pickV at hq
  split at hq
  · rename_i k m k' n
    rw [kEq_iff] at hq
    by_cases hk : k = k'
    · subst hk
      simp only [decide_true, cond_true, Option.some.injEq] at hq
      subst hq
      simp only [VRel] at hx hy ⊢; subst hx; subst hy
      cases b <;> rfl
    · simp [hk] at hq
  · cases hq
    simp only [VRel] at hx hy ⊢; subst hx; subst hy
    cases b <;> rfl
  · cases hq
    simp only [VRel] at hx hy ⊢; subst hx; subst hy
    cases b <;> rfl
  · split at hq <;> cases hq
    · exact hx
    · exact hy

theorem qop_rel (h : SRel own ρ s w) {ev : Operand → Option V} {A : Act} (hA : EvRel ρ ev A) {o : Oper} {v : V} {ps : List Bool} (hq : qop P s ev o.op = some (ps, v)) (hp : allB ps) :
    ∃ X, (execOp A.eval o).run P w = .ok (.value X) w ∧ VRel ρ v X := by
  unfold qop at hq
  unfold execOp
  split at hq <;> rename_i heq <;> simp only [heq]
  · exact ⟨_, rfl, evalO_rel hA (okO_some hq).1⟩
  · exact ⟨_, rfl, evalO_rel hA (okO_some hq).1⟩
  · split at hq
    · rename_i hc hx hy
      have h1 := evalO_rel hA hc
      simp only [VRel] at h1
      exact ⟨_, by simp [h1, asBool], pickV_rel (okO_some hq).1 (evalO_rel hA hx) (evalO_rel hA hy)⟩
    · cases hq
  · split at hq
    · rename_i hv
      obtain ⟨X, h1, h2⟩ := qLoad_rel h hq hp (evalO_rel hA hv)
      exact ⟨X, by simp [h1], h2⟩
    · cases hq
  · split at hq
    · rename_i hv
      cases hq
      have := evalO_rel hA hv
      refine ⟨_, ?_, this⟩
      simp only [VRel] at this
      obtain ⟨B, O, S, _, e⟩ := this
      simp [e]
    · rename_i hv
      cases hq
      have := evalO_rel hA hv
      refine ⟨_, ?_, this⟩
      simp only [VRel] at this
      obtain ⟨B, O, e, _⟩ := this
      simp [e]
    · rename_i hv
      cases hq
      have := evalO_rel hA hv
      refine ⟨_, ?_, this⟩
      simp only [VRel] at this
      obtain ⟨B, O, S, _, e⟩ := this
      simp [e]
    · rename_i hv
      cases hq
      have := evalO_rel hA hv
      refine ⟨_, ?_, this⟩
      simp only [VRel] at this
      obtain ⟨B, O, e, _⟩ := this
      simp [e]
    · rename_i hv
      cases hq
      have := evalO_rel hA hv
      refine ⟨_, ?_, this⟩
      simp only [VRel] at this
      obtain ⟨B, O, S, _, e⟩ := this
      simp [e]
    · cases hq
  · split at hq
    · rename_i x y _ _ _ a b hx hy
      obtain ⟨X, h1, h2⟩ := qBin_rel h hq hp (evalO_rel hA hx) (evalO_rel hA hy) x y
      refine ⟨X, ?_, h2⟩
      rw [Sem.run_bind, h1]
      rfl
    · cases hq
  · split at hq
    · rename_i hv
      obtain ⟨X, h1, h2⟩ := qUn_rel (P := P) (w := w) (okO_some hq).1 (evalO_rel hA hv)
      exact ⟨X, by simp [h1], h2⟩
    · cases hq
  · split at hq
    · rename_i hv
      obtain ⟨X, h1, h2⟩ := qConv_rel h hq hp (evalO_rel hA hv)
      exact ⟨X, by simp [h1], h2⟩
    · cases hq
  · split at hq
    · cases hq
    · rename_i t x _ d hne hd
      split at hq
      · rename_i hv
        cases hq
        refine ⟨.iface _ _, ?_, by simp only [VRel]; exact ⟨_, rfl, evalO_rel hA hv⟩⟩
        have : (Instr.makeInterface t (A.eval x)).run P w = .ok (.iface t (A.eval x)) w := by
          simp only [Instr.makeInterface, Sem.run_bind, run_und hd, Result.andThen_ok]
          cases d <;> first | rfl | exact absurd rfl (hne _)
        simp [this]
      · cases hq
    · cases hq
  · split at hq
    · split at hq
      · rename_i h1 h2
        cases hq
        refine ⟨_, by simp [Instr.makeFunc]; rfl, ?_⟩
        simp only [VRel]
        exact ⟨_, _, rfl, by rw [map_toList]; exact evalOs_rel hA h1, by rw [map_toList]; exact evalOs_rel hA h2⟩
      · cases hq
    · cases hq
  · split at hq
    · rename_i h1 h2 h3 h4
      obtain ⟨X, e1, e2⟩ := qSlice_rel h hq hp (evalO_rel hA h1) (optO_rel hA h2) (optO_rel hA h3) (optO_rel hA h4)
      exact ⟨X, by simp [e1], e2⟩
    · cases hq
  · split at hq
    · rename_i hv
      obtain ⟨X, h1, h2⟩ := qFieldAddr_rel (w := w) (okO_some hq).1 (evalO_rel hA hv)
      exact ⟨X, by simp [h1], h2⟩
    · cases hq
  · split at hq
    · rename_i hv
      obtain ⟨X, h1, h2⟩ := qField_rel (w := w) (okO_some hq).1 (evalO_rel hA hv)
      exact ⟨X, by simp [h1], h2⟩
    · cases hq
  · split at hq
    · rename_i hx hy
      obtain ⟨X, h1, h2⟩ := qIndexAddr_rel (w := w) hq hp (evalO_rel hA hx) (evalO_rel hA hy)
      exact ⟨X, by simp [h1], h2⟩
    · cases hq
  · split at hq
    · rename_i hx hy
      obtain ⟨X, h1, h2⟩ := qIndex_rel (w := w) hq hp (evalO_rel hA hx) (evalO_rel hA hy)
      exact ⟨X, by simp [h1], h2⟩
    · cases hq
  · split at hq
    · rename_i hx hy
      obtain ⟨X, h1, h2⟩ := qLookup2_rel h (okO_some hq).1 (evalO_rel hA hx) (evalO_rel hA hy)
      exact ⟨X, by simp [h1], h2⟩
    · cases hq
  · split at hq
    · rename_i hv
      have := evalParts_rel hA hv
      obtain ⟨X, h1, h2⟩ := qBuild_rel (w := w) (okO_some hq).1 (Ps := _) (by rw [map_toList]; exact this)
      refine ⟨X, ?_, h2⟩
      simp [h1]
    · cases hq
  · split at hq
    · rename_i hv
      have := evalO_rel hA hv
      simp only [VRel] at this
      obtain ⟨cs, e, hl⟩ := this
      have hq := (okO_some hq).1
      rw [lget_eq] at hq
      obtain ⟨X, h1, h2⟩ := hl.get hq
      simp only [Array.getElem?_toList] at h1
      exact ⟨X, by simp [Instr.extract, e, h1], h2⟩
    · cases hq
  · split at hq
    · rename_i hv
      have hk := fun xt => qAssert_rel (w := w) xt (okO_some hq).1 (evalO_rel hA hv)
      rename_i xt _ _ _ _
      obtain ⟨X, h1, h2⟩ := hk xt
      exact ⟨X, by simp [h1], h2⟩
    · cases hq
  · split at hq
    · rename_i hc
      split at hq
      · rename_i vs hvs
        have := evalOs_rel hA hvs
        rw [← map_toList] at this
        obtain ⟨X, h1, h2⟩ := qBuiltin_rel h (okO_some hq).1 this o.type _
        exact ⟨X, by simp only [resolve, hc, Sem.run_bind, Sem.run_pure, Result.andThen_ok, invoke]; exact h1, h2⟩
      · cases hq
    · cases hq
  · cases hq

end
end Go.Sym
end
