/-
  Texts of this claim, one behind the other: EngD EngE EngF. Each says its own conditions.
-/
import Derived.Test.YtlfhiophojahbaaCloM1
import Derived.Laws.Cells
import Derived.Laws.BytesString
import Derived.Laws.StructEq
import Derived.Laws.Strings
import Derived.MapKept

set_option linter.unusedVariables false
set_option linter.unusedSimpArgs false
set_option linter.unusedSectionVars false
section
namespace Go.Eng
set_option linter.unusedSimpArgs false
set_option linter.unusedVariables false

section
variable {P : Program} {base : Nat} {ρ : Env} {s : St} {w : World}

theorem run_und {t : TypeId} {d : TypeDesc} (h : P.underlying t = some d) : (underlying t).run P w = .ok d w := run_underlying h w
theorem run_size {t : TypeId} {n : Nat} (h : szE P t = some n) : (sizeOf t).run P w = .ok n w := by
  unfold szE at h
  split at h
  · rename_i i hi
    cases h
    simp [sizeOf, typeInfo, hi]
  · cases h
theorem run_isAgg {t : TypeId} {b : Bool} (h : isAggE P t = some b) : (isAgg t).run P w = .ok b w := by
  unfold isAggE at h
  split at h
  · rename_i hd; cases h; simp [isAgg, run_und hd]
  · rename_i hd; cases h; simp [isAgg, run_und hd]
  · rename_i d h1 h2 hd
    cases h
    simp only [isAgg, Sem.run_bind, run_und hd, Result.andThen_ok]
    cases d <;> first | rfl | exact absurd rfl (h1 _) | exact absurd rfl (h2 _ _)
  · cases h

theorem ofCell_rel {v : Value} {x : V} (h : ofCell v = some x) : VRel ρ x v := by
  unfold ofCell at h
  split at h <;> first | cases h | skip
  all_goals (try simp only [VRel])
  rw [BS.den_ofList']
theorem ofCells_rel : ∀ {l : List Value} {x : List V}, ofCells l = some x → LRel ρ x l
  | [], x, h => by simp only [ofCells] at h; cases h; exact LRel.nil
  | v :: l, x, h => by
    simp only [ofCells] at h
    split at h
    · rename_i a ha
      split at h
      · rename_i b hb; cases h; exact LRel.cons (ofCell_rel ha) (ofCells_rel hb)
      · cases h
    · cases h
theorem ofVal_rel {v : Value} {x : V} (h : ofVal v = some x) : VRel ρ x v := by
  unfold ofVal at h
  split at h
  · rename_i cs
    split at h
    · rename_i l hl; cases h; simp only [VRel]; exact ⟨cs, rfl, ofCells_rel hl⟩
    · cases h
  · rename_i cs
    split at h
    · rename_i e
      cases h
      have : cs = #[] := by cases cs; simp at e; simp [e]
      simp only [VRel]; rw [this]
    · cases h
  · exact ofCell_rel h

def EvRel (ρ : Env) (ev : Operand → Option V) (A : Act) : Prop := ∀ x v, ev x = some v → VRel ρ v (A.eval x)
theorem evalO_rel {ev : Operand → Option V} {A : Act} (hA : EvRel ρ ev A) {x : Operand} {v : V} (h : ev x = some v) : VRel ρ v (A.eval x) := hA x v h
theorem evalOs_rel {ev : Operand → Option V} {A : Act} (hA : EvRel ρ ev A) : ∀ {xs : List Operand} {vs : List V}, evalOs ev xs = some vs → LRel ρ vs (xs.map A.eval)
  | [], vs, h => by simp only [evalOs] at h; cases h; exact LRel.nil
  | x :: xs, vs, h => by
    simp only [evalOs] at h
    split at h
    · rename_i v hv
      split at h
      · rename_i r hr; cases h; exact LRel.cons (evalO_rel hA hv) (evalOs_rel hA hr)
      · cases h
    · cases h

theorem partE_rel {t : TypeId} {l : List V} {off : Nat} {v : V} (h : partE P t l off = some v) {A : Array Value} (hl : LRel ρ l A.toList) :
    ∃ X, (part t A off).run P w = .ok X w ∧ VRel ρ v X := by
  unfold partE at h
  split at h
  · rename_i ha
    split at h
    · rename_i n hn
      simp only [llen_eq, ltake_eq, ldrop_eq] at h
      cases hb : Nat.ble (off + n) l.length with
      | false => simp [hb] at h
      | true =>
        simp only [hb, cond_true, Option.some.injEq] at h
        subst h
        refine ⟨.agg (A.extract off (off + n)), by simp [part, run_isAgg ha, run_size hn], ?_⟩
        simp only [VRel]
        refine ⟨_, rfl, ?_⟩
        simp only [Array.toList_extract, List.extract_eq_take_drop, Nat.add_sub_cancel_left]
        exact (hl.drop off).take n
    · cases h
  · rename_i ha
    rw [lget_eq] at h
    obtain ⟨X, h1, h2⟩ := hl.get h
    simp only [Array.getElem?_toList] at h1
    exact ⟨X, by simp [part, run_isAgg ha, h1], h2⟩
  · cases h

structure CellsAt (ρ : Env) (w : World) (cs : List V) (x : Blk) : Prop where
  ex : ∃ C t fr, w.heap[x.B]? = some (.cells C t fr) ∧ C.size = x.S ∧ x.O + cs.length ≤ x.S ∧
      (∀ (i : Nat) (v : V), cs[i]? = some v → ∃ W, C[x.O + i]? = some W ∧ VRel ρ v W) ∧ (∀ k, k < x.S → (decide (fr.1 ≤ k) && decide (k < fr.2)) = false)

theorem SRel.cellsAt (h : SRel base ρ s w) {b : Nat} {cs : List V} (hc : cellsAt s b = some cs) {x0 : Blk} (hx0 : ρ b = some x0) : ∃ x, ρ b = some x ∧ CellsAt ρ w cs x := by
  unfold Eng.cellsAt at hc
  split at hc
  · rename_i cs' t ish hb
    cases hc
    obtain ⟨x, h1, _, C, t, fr, h3, h4, h5, h6, h7, _⟩ := h.obj' hb hx0
    exact ⟨x, h1, ⟨C, t, fr, h3, h4, h5, h6, h7⟩⟩
  · cases hc

theorem CellsAt.cell {cs : List V} {x : Blk} (h : CellsAt ρ w cs x) {i : Nat} {v : V} (hi : cs[i]? = some v) : ∃ W, w.cell? ⟨x.B, x.O + i, none⟩ = some W ∧ VRel ρ v W := by
  obtain ⟨C, t, fr, h1, h2, h3, h4, h5⟩ := h.ex
  obtain ⟨W, h6, h7⟩ := h4 i v hi
  exact ⟨W, by simp [World.cell?, h1, h6], h7⟩

theorem addr_add (B o i : Nat) : (⟨B, o, none⟩ : Addr).add i = ⟨B, o + i, none⟩ := by
  unfold Addr.add; split
  · rename_i e; subst e; rfl
  · rfl

theorem CellsAt.load {cs : List V} {x : Blk} (h : CellsAt ρ w cs x) (o n : Nat) (hn : o + n ≤ cs.length) :
    ∃ L : List Value, (loadCells ⟨x.B, x.O + o, none⟩ n).run P w = .ok L.toArray w ∧ LRel ρ ((cs.drop o).take n) L := by
  obtain ⟨C, t, fr, h1, h2, h3, h4, h5⟩ := h.ex
  have hlen : ((C.toList.drop (x.O + o)).take n).length = n := by simp; omega
  refine ⟨(C.toList.drop (x.O + o)).take n, ?_, ?_⟩
  · have := run_loadCells_list (P := P) w ⟨x.B, x.O + o, none⟩ ((C.toList.drop (x.O + o)).take n) (fun j v hj => by
      rw [addr_add]
      have hj' : j < n := by
        have := (List.getElem?_eq_some_iff.1 hj).1
        omega
      rw [List.getElem?_take_of_lt hj', List.getElem?_drop] at hj
      simp only [Array.getElem?_toList] at hj
      simp [World.cell?, h1, hj])
    rwa [hlen] at this
  · refine LRel.of_get (by simp; omega) fun i v hi => ?_
    have hi' : i < n := by
      have := (List.getElem?_eq_some_iff.1 hi).1
      simp at this; omega
    rw [List.getElem?_take_of_lt hi', List.getElem?_drop] at hi ⊢
    obtain ⟨W, h6, h7⟩ := h4 _ _ hi
    exact ⟨W, by simpa [Nat.add_assoc] using h6, h7⟩

theorem qLoad_rel (h : SRel base ρ s w) {t : TypeId} {a v : V} {A : Value} (hq : qLoad P s t a = some v) (ha : VRel ρ a A) :
    ∃ X, (Instr.loadAt t A).run P w = .ok X w ∧ VRel ρ v X := by
  unfold qLoad at hq
  split at hq
  · rename_i b o
    split at hq
    · rename_i cs hcs
      simp only [VRel] at ha
      obtain ⟨B, O, S, hb, rfl⟩ := ha
      obtain ⟨x, hx, hc⟩ := h.cellsAt hcs hb
      rw [hb] at hx; cases hx
      unfold partE at hq
      split at hq
      · rename_i ht
        split at hq
        · rename_i n hn
          simp only [llen_eq, ltake_eq, ldrop_eq] at hq
          cases hb' : Nat.ble (o + n) cs.length with
          | false => simp [hb'] at hq
          | true =>
            simp only [hb', cond_true, Option.some.injEq] at hq
            subst hq
            obtain ⟨L, h1, h2⟩ := hc.load (P := P) o n (by simpa [Nat.ble_eq] using hb')
            refine ⟨.agg L.toArray, ?_, ?_⟩
            · simp only at h1
              simp [Instr.loadAt, Instr.sureAddr, loadVar, run_isAgg ht, run_size hn, h1]
            · simp only [VRel]; exact ⟨_, rfl, by simpa using h2⟩
        · cases hq
      · rename_i ht
        rw [lget_eq] at hq
        obtain ⟨W, h1, h2⟩ := hc.cell hq
        exact ⟨W, by simp only at h1; simp [Instr.loadAt, Instr.sureAddr, loadVar, run_isAgg ht, h1], h2⟩
      · cases hq
    · cases hq
  · cases hq

theorem bits_toNat (k : IntKind) (x : Int) : (BitVec.ofInt k.bits x).toNat = ofI k x := by
  have h := modN_eq (kM k) (by cases k <;> decide) x
  rw [BitVec.toNat_ofInt, kM_eqN, ofI]
  omega

theorem intBin_rel {op : BinOp} {k : IntKind} {a b : Int} {v : V} (h : intBin op k a b = some v) (h1 : op ≠ .shl) (h2 : op ≠ .shr) (t : TypeId) :
    ∃ X, (Go.binOp op t (.int k a) (.int k b)).run P w = .ok X w ∧ VRel ρ v X := by
  have e1 := bits_toNat k a
  have e2 := bits_toNat k b
  have e3 : (~~~ BitVec.ofInt k.bits b).toNat = kM k - 1 - ofI k b := by rw [BitVec.toNat_not, e2, kM_eqN]
  have le1 : (!ltQ b a) = decide (a ≤ b) := by rw [ltQ_eq, Bool.eq_iff_iff]; simp
  have le2 : (!ltQ a b) = decide (a ≥ b) := by rw [ltQ_eq, Bool.eq_iff_iff]; simp
  cases op
  case shl => exact absurd rfl h1
  case shr => exact absurd rfl h2
  case add => simp only [intBin, Option.some.injEq] at h; subst h; exact ⟨.int k (k.wrap (a + b)), by simp [Go.binOp, Op.intArith], by simp only [VRel, wrapQ_eq]⟩
  case sub => simp only [intBin, Option.some.injEq] at h; subst h; exact ⟨.int k (k.wrap (a - b)), by simp [Go.binOp, Op.intArith], by simp only [VRel, wrapQ_eq]⟩
  case mul => simp only [intBin, Option.some.injEq] at h; subst h; exact ⟨.int k (k.wrap (a * b)), by simp [Go.binOp, Op.intArith], by simp only [VRel, wrapQ_eq]⟩
  case quo =>
    simp only [intBin, eqQ_eq] at h
    cases hb : (b == 0) with
    | true => simp [hb] at h
    | false =>
      simp only [hb, cond_false, Option.some.injEq] at h; subst h
      have hb' : b ≠ 0 := by simpa using hb
      exact ⟨.int k (k.wrap (a.tdiv b)), by simp [Go.binOp, Op.intDiv, hb'], by simp only [VRel, wrapQ_eq]⟩
  case rem =>
    simp only [intBin, eqQ_eq] at h
    cases hb : (b == 0) with
    | true => simp [hb] at h
    | false =>
      simp only [hb, cond_false, Option.some.injEq] at h; subst h
      have hb' : b ≠ 0 := by simpa using hb
      exact ⟨.int k (a.tmod b), by simp [Go.binOp, Op.intDiv, hb'], by simp only [VRel]⟩
  case and => simp only [intBin, Option.some.injEq] at h; subst h; exact ⟨_, by simp only [Go.binOp, Op.intBits, ne_eq, not_true_eq_false, if_false, Sem.run_pure, BitVec.toNat_and, e1, e2]; rfl, by simp only [VRel, wrapQ_eq]; rfl⟩
  case or => simp only [intBin, Option.some.injEq] at h; subst h; exact ⟨_, by simp only [Go.binOp, Op.intBits, ne_eq, not_true_eq_false, if_false, Sem.run_pure, BitVec.toNat_or, e1, e2]; rfl, by simp only [VRel, wrapQ_eq]; rfl⟩
  case xor => simp only [intBin, Option.some.injEq] at h; subst h; exact ⟨_, by simp only [Go.binOp, Op.intBits, ne_eq, not_true_eq_false, if_false, Sem.run_pure, BitVec.toNat_xor, e1, e2]; rfl, by simp only [VRel, wrapQ_eq]; rfl⟩
  case andNot => simp only [intBin, Option.some.injEq] at h; subst h; exact ⟨_, by simp only [Go.binOp, Op.intBits, ne_eq, not_true_eq_false, if_false, Sem.run_pure, BitVec.toNat_and, e1, e3]; rfl, by simp only [VRel, wrapQ_eq]; rfl⟩
  case eql => simp only [intBin, Option.some.injEq] at h; subst h; exact ⟨.bool (a == b), by simp [Go.binOp, Op.intCmp], by simp only [VRel, eqQ_eq]⟩
  case neq => simp only [intBin, Option.some.injEq] at h; subst h; exact ⟨.bool (a != b), by simp [Go.binOp, Op.intCmp], by simp only [VRel, eqQ_eq]; rfl⟩
  case lss => simp only [intBin, Option.some.injEq] at h; subst h; exact ⟨.bool (decide (a < b)), by simp [Go.binOp, Op.intCmp], by simp only [VRel, ltQ_eq]⟩
  case leq => simp only [intBin, Option.some.injEq] at h; subst h; exact ⟨.bool (decide (a ≤ b)), by simp [Go.binOp, Op.intCmp], by simp only [VRel, le1]⟩
  case gtr => simp only [intBin, Option.some.injEq] at h; subst h; exact ⟨.bool (decide (a > b)), by simp [Go.binOp, Op.intCmp], by simp only [VRel, ltQ_eq]⟩
  case geq => simp only [intBin, Option.some.injEq] at h; subst h; exact ⟨.bool (decide (a ≥ b)), by simp [Go.binOp, Op.intCmp], by simp only [VRel, le2]⟩

theorem shiftE_rel {op : BinOp} {k k' : IntKind} {a b : Int} {v : V} (h : shiftE op k a b = some v) :
    ∃ X, (Op.shift op k a k' b).run P w = .ok X w ∧ VRel ρ v X := by
  cases b with
  | negSucc n => simp [shiftE] at h
  | ofNat n =>
    have hn : ¬ ((n : Int) < 0) := by omega
    have hmin : (bif Nat.ble n k.bits then n else k.bits) = min n k.bits := by
      cases hb : Nat.ble n k.bits
      · have : ¬ n ≤ k.bits := by rw [← Nat.ble_eq, hb]; decide
        simp only [cond_false]; omega
      · rw [Nat.ble_eq] at hb
        simp only [cond_true]; omega
    simp only [shiftE, hmin] at h
    split at h <;> cases h
    · exact ⟨.int k (k.wrap (a * 2 ^ min n k.bits)), by simp [Op.shift, hn], by simp only [VRel, wrapQ_eq, shlQ_eq]⟩
    · exact ⟨.int k (a.fdiv (2 ^ min n k.bits)), by simp [Op.shift, hn], by simp only [VRel, shrQ_eq]⟩

theorem i64max : IntKind.i64.max = 9223372036854775807 := by decide

theorem strBin_rel {op : BinOp} {a b : BS} {v : V} (h : strBin op a b = some v) :
    ∃ X, (Op.stringOp op a.den b.den).run P w = .ok X w ∧ VRel ρ v X := by
  have he := BS.eq_iff a b
  have hl : BS.ltG a.list b.list = Op.bytesLess a.den.data.toList b.den.data.toList := BS.ltG_eq _ _
  cases op <;> simp only [strBin, Option.some.injEq, reduceCtorEq] at h
  case add =>
    cases hb : Nat.ble (a.n + b.n) 4611686018427387904 with
    | false => simp [hb] at h
    | true =>
      simp only [hb, cond_true, Option.some.injEq] at h
      subst h
      have hb' : a.n + b.n ≤ 4611686018427387904 := by simpa [Nat.ble_eq] using hb
      refine ⟨.string (a.den ++ b.den), ?_, by simp [VRel, BS.den_cat]⟩
      simp only [Op.stringOp, BS.den_size, i64max]
      rw [if_neg (by omega)]
      rfl
  all_goals
    subst h
    simp only [Op.stringOp, ByteArray.toList_eq, VRel, ← he, ← hl]
    exact ⟨_, rfl, rfl⟩

theorem plain_rel (h : SRel base ρ s w) {b : Nat} (hb : plainBlock s b = true) {x0 : Blk} (hx0 : ρ b = some x0) : ∃ x C t, ρ b = some x ∧ w.heap[x.B]? = some (.cells C t (0, 0)) := by
  unfold plainBlock at hb
  split at hb
  · rename_i cs t0 hg
    obtain ⟨x, h1, _, C, t, fr, h3, _, _, _, _, h8⟩ := h.obj' hg hx0
    rw [h8 rfl] at h3
    exact ⟨x, C, t, h1, h3⟩
  · cases hb

theorem run_mayBeOne {a b : Addr} {C D : Array Value} {t u : TypeId} (ha : w.heap[a.block]? = some (.cells C t (0, 0))) (hb : w.heap[b.block]? = some (.cells D u (0, 0))) :
    (mayBeOne a b).run P w = .ok false w := by
  have s1 : (stringish a).run P w = .ok false w := by simp [stringish, World.frozen?, World.shape?, ha]
  have s2 : (stringish b).run P w = .ok false w := by simp [stringish, World.frozen?, World.shape?, hb]
  have sh1 : w.shape? a.block = some (t, C.size) := by simp [World.shape?, ha]
  have sh2 : w.shape? b.block = some (u, D.size) := by simp [World.shape?, hb]
  simp [mayBeOne, s1, s2, sh1, sh2]

theorem run_sameAddr {a b : Addr} {C D : Array Value} {t u : TypeId} (ha : w.heap[a.block]? = some (.cells C t (0, 0))) (hb : w.heap[b.block]? = some (.cells D u (0, 0))) (hne : a.block ≠ b.block) :
    (sameAddr a b).run P w = .ok false w := by
  have n1 : (noView a).run P w = .ok () w := by simp [noView, viewAt, World.shape?, ha]
  have n2 : (noView b).run P w = .ok () w := by simp [noView, viewAt, World.shape?, hb]
  have e : (a.block == b.block) = false := by simpa using hne
  have f1 : w.frozen? a = false := by simp [World.frozen?, ha]
  simp [sameAddr, e, f1, n1, n2, run_mayBeOne ha hb]

set_option maxHeartbeats 800000 in
theorem eqE_rel (h : SRel base ρ s w) {t : TypeId} {a b : V} {r : Bool} (hq : eqE P s t a b = some r) {A B : Value} (ha : VRel ρ a A) (hb : VRel ρ b B) (d : Nat) :
    (Op.equalIn (d + 1) t A B).run P w = .ok r w := by
  unfold eqE at hq
  split at hq <;> rename_i hd
  · split at hq <;> cases hq
    simp only [VRel] at ha hb; subst ha; subst hb
    simp [Op.equalIn, run_und hd]
  · rename_i e
    split at hq
    · cases hq; simp only [VRel] at ha hb; subst ha; subst hb; simp [Op.equalIn, run_und hd]
    · cases hq; simp only [VRel] at ha hb; obtain ⟨_, _, _, _, rfl⟩ := hb; subst ha; simp [Op.equalIn, run_und hd]
    · cases hq; simp only [VRel] at ha hb; obtain ⟨_, _, _, _, rfl⟩ := ha; subst hb; simp [Op.equalIn, run_und hd]
    · rename_i x o y q
      split at hq
      · rename_i n hn
        cases hp : (plainBlock s x && plainBlock s y) with
        | false => simp [hp] at hq
        | true =>
          simp only [hp, cond_true] at hq
          simp only [Bool.and_eq_true] at hp
          simp only [VRel] at ha hb
          obtain ⟨B1, O1, S1, hB1, rfl⟩ := ha
          obtain ⟨B2, O2, S2, hB2, rfl⟩ := hb
          obtain ⟨x1, C1, t1, hx1, hw1⟩ := plain_rel h hp.1 hB1
          obtain ⟨x2, C2, t2, hx2, hw2⟩ := plain_rel h hp.2 hB2
          rw [hB1] at hx1; cases hx1
          rw [hB2] at hx2; cases hx2
          simp only [Op.equalIn, Sem.run_bind, run_und hd, Result.andThen_ok, run_size hn]
          cases hxy : Nat.beq x y with
          | true =>
            have e' : x = y := by simpa using hxy
            subst e'
            rw [hB1] at hB2; cases hB2
            simp only [hxy, cond_true, Option.some.injEq] at hq
            subst hq
            simp only [sameAddr]
            simp
            rw [Bool.eq_iff_iff]; simp
          | false =>
            simp only [hxy, cond_false, Option.some.injEq] at hq
            subst hq
            have hne : x ≠ y := by intro e; subst e; simp at hxy
            have hBne : B1 ≠ B2 := by
              unfold plainBlock at hp
              obtain ⟨p1, p2⟩ := hp
              split at p1
              · rename_i g1
                split at p2
                · rename_i g2
                  exact h.inj x y _ _ _ _ g1 g2 hB1 hB2 hne
                · cases p2
              · cases p1
            simp only [ne_eq, Nat.add_eq_zero_iff, Nat.succ_ne_self, and_false, not_false_eq_true, if_true, Nat.add_one_ne_zero]
            exact run_sameAddr hw1 hw2 hBne
      · cases hq
    · cases hq
  · split at hq <;> cases hq <;> simp only [VRel] at ha hb
    · subst ha; subst hb; simp [Op.equalIn, run_und hd]
    · obtain ⟨_, _, _, _, _, rfl, _⟩ := hb; subst ha; simp [Op.equalIn, run_und hd]
    · obtain ⟨_, _, rfl, _⟩ := hb; subst ha; simp [Op.equalIn, run_und hd]
    · obtain ⟨_, _, rfl, _⟩ := ha; subst hb; simp [Op.equalIn, run_und hd]
    · obtain ⟨_, _, _, _, _, rfl, _⟩ := ha; subst hb; simp [Op.equalIn, run_und hd]
  · split at hq <;> cases hq <;> simp only [VRel] at ha hb
    · subst ha; subst hb; simp [Op.equalIn, run_und hd]
    · obtain ⟨_, _, _, _, rfl⟩ := hb; subst ha; simp [Op.equalIn, run_und hd]
    · obtain ⟨_, _, _, _, rfl⟩ := ha; subst hb; simp [Op.equalIn, run_und hd]
  · split at hq <;> cases hq <;> simp only [VRel] at ha hb
    · subst ha; subst hb; simp [Op.equalIn, run_und hd]
    · obtain ⟨_, _, rfl, _⟩ := hb; subst ha; simp [Op.equalIn, run_und hd]
    · obtain ⟨_, _, rfl, _⟩ := ha; subst hb; simp [Op.equalIn, run_und hd]
    · obtain ⟨_, _, _, _, rfl⟩ := hb; subst ha; simp [Op.equalIn, run_und hd]
    · obtain ⟨_, _, _, _, rfl⟩ := ha; subst hb; simp [Op.equalIn, run_und hd]
  · split at hq <;> cases hq <;> simp only [VRel] at ha hb
    · obtain ⟨_, rfl, _⟩ := hb; subst ha; simp [Op.equalIn, run_und hd]
    · obtain ⟨_, rfl, _⟩ := ha; subst hb; simp [Op.equalIn, run_und hd]
  · cases hq

end
end Go.Eng
end

section
namespace Go.Eng
set_option linter.unusedSimpArgs false
set_option linter.unusedVariables false

section
variable {P : Program} {base : Nat} {ρ : Env} {s : St} {w : World}

theorem vint (k : IntKind) (n : Int) : VRel ρ (.int k n) (.int k n) := by simp only [VRel]
theorem vbool (b : Bool) : VRel ρ (.bool b) (.bool b) := by simp only [VRel]
theorem vstr (s : BS) : VRel ρ (.str s) (.string s.den) := by simp only [VRel]
theorem part_cell {t : TypeId} {A : Array Value} {off : Nat} {X : Value} (ht : isAggE P t = some false) (h : A[off]? = some X) : (part t A off).run P w = .ok X w := by
  simp [part, run_isAgg ht, h]

theorem eqFields_rel (d : Nat) {nest : TypeId → V → V → Option Bool} (hnest : ∀ t a b r, nest t a b = some r → ∀ A B, VRel ρ a A → VRel ρ b B → (Op.equalIn (d + 1) t A B).run P w = .ok r w) :
    ∀ (fs : List Field) {l m : List V} {r : Bool}, eqFields P nest fs l m = some r → ∀ {A B : Array Value}, LRel ρ l A.toList → LRel ρ m B.toList →
    (Op.eqFields (d + 1) A B fs).run P w = .ok r w
  | [], l, m, r, h, A, B, ha, hb => by simp only [eqFields] at h; cases h; simp [Op.eqFields]
  | f :: rest, l, m, r, h, A, B, ha, hb => by
    have ih := fun {r} h => eqFields_rel d hnest rest (l := l) (m := m) (r := r) h ha hb
    simp only [eqFields, lget_eq, eqQ_eq, kEq_iff] at h
    cases hn : (f.name == "_") with
    | true => simp [hn] at h
    | false =>
      simp only [hn, cond_false] at h
      have hne : f.name ≠ "_" := by simpa using hn
      simp only [Op.eqFields, hne, ne_eq, not_false_eq_true, if_true]
      split at h
      · rename_i k0 hd
        have hag : isAggE P f.type = some false := by simp [isAggE, hd]
        split at h
        · rename_i k x k' y h1 h2
          cases hkk : decide (k = k') with
          | false => simp [hkk] at h
          | true =>
            have hk : k = k' := by simpa using hkk
            subst hk
            simp only [decide_true, cond_true] at h
            obtain ⟨X, e1, e2⟩ := ha.get h1
            obtain ⟨Y, e3, e4⟩ := hb.get h2
            simp only [VRel] at e2 e4; subst e2; subst e4
            simp only [Array.getElem?_toList] at e1 e3
            simp only [Sem.run_bind, part_cell hag e1, part_cell hag e3, Result.andThen_ok, run_equalIn_int w d _ _ _ _ _ hd]
            cases hxy : (x == y) with
            | true =>
              simp only [hxy, cond_true] at h
              simpa using ih h
            | false =>
              simp only [hxy, cond_false, Option.some.injEq] at h
              subst h; simp
        · cases h
      · rename_i hd
        have hag : isAggE P f.type = some false := by simp [isAggE, hd]
        split at h
        · rename_i x y h1 h2
          obtain ⟨X, e1, e2⟩ := ha.get h1
          obtain ⟨Y, e3, e4⟩ := hb.get h2
          simp only [VRel] at e2 e4; subst e2; subst e4
          simp only [Array.getElem?_toList] at e1 e3
          simp only [Sem.run_bind, part_cell hag e1, part_cell hag e3, Result.andThen_ok, run_equalIn_bool w d _ _ _ hd]
          cases hxy : (x == y) with
          | true =>
            simp only [hxy, cond_true] at h
            simpa using ih h
          | false =>
            simp only [hxy, cond_false, Option.some.injEq] at h
            subst h; simp
        · cases h
      · rename_i hd
        have hag : isAggE P f.type = some false := by simp [isAggE, hd]
        split at h
        · rename_i x y h1 h2
          obtain ⟨X, e1, e2⟩ := ha.get h1
          obtain ⟨Y, e3, e4⟩ := hb.get h2
          simp only [VRel] at e2 e4; subst e2; subst e4
          simp only [Array.getElem?_toList] at e1 e3
          have he := BS.eq_iff x y
          simp only [Sem.run_bind, part_cell hag e1, part_cell hag e3, Result.andThen_ok, run_equalIn_string w d _ _ _ hd, ByteArray.toList_eq, ← he]
          cases hxy : x.eq y with
          | true =>
            simp only [hxy, cond_true] at h
            simpa using ih h
          | false =>
            simp only [hxy, cond_false, Option.some.injEq] at h
            subst h; simp
        · cases h
      · rename_i hd
        split at h
        · rename_i x y h1 h2
          obtain ⟨X, e1, e2⟩ := partE_rel (w := w) h1 ha
          obtain ⟨Y, e3, e4⟩ := partE_rel (w := w) h2 hb
          split at h
          · rename_i hx
            simp only [Sem.run_bind, e1, e3, Result.andThen_ok, hnest _ _ _ _ hx _ _ e2 e4]
            simpa using ih h
          · rename_i hx
            cases h
            simp only [Sem.run_bind, e1, e3, Result.andThen_ok, hnest _ _ _ _ hx _ _ e2 e4]
            simp
          · cases h
        · cases h
      · cases h

theorem eqNest_rel : ∀ (n d : Nat), n < d → ∀ t a b r, eqNest P n t a b = some r → ∀ A B, VRel ρ a A → VRel ρ b B → (Op.equalIn (d + 1) t A B).run P w = .ok r w
  | 0, _, _, _, _, _, _, h, _, _, _, _ => by simp only [eqNest] at h; cases h
  | n + 1, d, hd, t, a, b, r, h, A, B, ha, hb => by
    simp only [eqNest] at h
    split at h
    · rename_i fs hu
      split at h
      · rename_i l m
        cases hg : P.stoodInHeld t with
        | true => simp [hg] at h
        | false =>
          simp only [hg, cond_false] at h
          simp only [VRel] at ha hb
          obtain ⟨xs, rfl, ha⟩ := ha
          obtain ⟨ys, rfl, hb⟩ := hb
          have hf : P.fieldsOf t = fs := by simp [Program.fieldsOf, hu]
          have := run_equalIn_struct w d t xs ys (by rw [hf]; exact hu) hg
          obtain ⟨e, rfl⟩ : ∃ e, d = e + 1 := ⟨d - 1, by omega⟩
          rw [hf, eqFields_rel e (eqNest_rel n e (by omega)) _ h ha hb] at this
          exact this
      · cases h
    · cases h

theorem eqE_shape {t : TypeId} {a b : V} {r : Bool} (hq : eqE P s t a b = some r) {A B : Value} (ha : VRel ρ a A) (hb : VRel ρ b B) (op : BinOp) (x y : Operand) :
    (eqGuard op t x y A B).run P w = .ok () w ∧ Go.binOp .eql t A B = (do pure (.bool (← Op.equal t A B))) ∧ Go.binOp .neq t A B = (do pure (.bool (!(← Op.equal t A B)))) := by
  unfold eqE at hq
  split at hq <;> (try (cases hq; done)) <;> split at hq <;> (try (cases hq; done)) <;>
    simp only [VRel] at ha hb <;> (try obtain ⟨_, _, _, _, _, rfl, _⟩ := ha) <;> (try obtain ⟨_, _, _, _, rfl⟩ := ha) <;> (try obtain ⟨_, _, rfl, _⟩ := ha) <;> (try obtain ⟨_, rfl, _⟩ := ha) <;>
    (try obtain ⟨_, _, _, _, _, rfl, _⟩ := hb) <;> (try obtain ⟨_, _, _, _, rfl⟩ := hb) <;> (try obtain ⟨_, _, rfl, _⟩ := hb) <;> (try obtain ⟨_, rfl, _⟩ := hb) <;>
    (try subst ha) <;> (try subst hb) <;> refine ⟨?_, rfl, rfl⟩ <;> cases op <;> simp [eqGuard]

theorem eqAny_rel (h : SRel base ρ s w) {t : TypeId} {a b : V} {r : Bool} (hq : eqAny P s t a b = some r) {A B : Value} (ha : VRel ρ a A) (hb : VRel ρ b B) (op : BinOp) (x y : Operand) :
    (eqGuard op t x y A B).run P w = .ok () w ∧ (Go.binOp .eql t A B).run P w = .ok (.bool r) w ∧ (Go.binOp .neq t A B).run P w = .ok (.bool (!r)) w := by
  unfold eqAny at hq
  split at hq
  · rename_i r' hr
    cases hq
    obtain ⟨h1, h2, h3⟩ := eqE_shape (w := w) hr ha hb op x y
    have := eqE_rel h hr ha hb 9999
    rw [h2, h3]
    refine ⟨h1, ?_, ?_⟩ <;> simp [Op.equal, Op.maxDepth, this]
  split at hq
  · rename_i r' hr
    cases hq
    unfold eqNil2 at hr
    split at hr
    · rename_i ms hd
      split at hr
      · cases hm : ms.isEmpty with
        | false => rw [hm] at hr; cases hr
        | true =>
          rw [hm, cond_true] at hr
          cases hr
          simp only [VRel] at ha hb; subst ha; subst hb
          have k1 : ∀ d, (Op.eqGuardIn (d + 1) t .nilIface .nilIface).run P w = .ok false w := fun d => by simp [Op.eqGuardIn, run_und hd, hm]
          have k2 : ∀ d, (Op.equalIn (d + 1) t .nilIface .nilIface).run P w = .ok true w := fun d => by simp [Op.equalIn, run_und hd]
          have g1 : (Op.eqGuardIn Op.maxDepth t .nilIface .nilIface).run P w = .ok false w := k1 9999
          have g2 : (Op.equal t .nilIface .nilIface).run P w = .ok true w := k2 9999
          refine ⟨?_, ?_, ?_⟩
          · cases op <;> simp [eqGuard, g1]
          · have e : Go.binOp .eql t .nilIface .nilIface = (do pure (.bool (← Op.equal t .nilIface .nilIface))) := rfl
            rw [e]; simp [g2]
          · have e : Go.binOp .neq t .nilIface .nilIface = (do pure (.bool (!(← Op.equal t .nilIface .nilIface)))) := rfl
            rw [e]; simp [g2]
      · cases hr
    · cases hr
  · unfold eqStruct at hq
    split at hq
    · rename_i fs hd
      split at hq
      · rename_i l m
        cases hg : (P.stoodInHeld t || P.eqGuardType P.depth t) with
        | true => simp [hg] at hq
        | false =>
          simp only [hg, cond_false] at hq
          simp only [Bool.or_eq_false_iff] at hg
          simp only [VRel] at ha hb
          obtain ⟨xs, rfl, ha⟩ := ha
          obtain ⟨ys, rfl, hb⟩ := hb
          have hf : P.fieldsOf t = fs := by simp [Program.fieldsOf, hd]
          have := run_equalIn_struct w 9999 t xs ys (by rw [hf]; exact hd) hg.1
          rw [hf, eqFields_rel 9998 (eqNest_rel 6 9998 (by omega)) _ hq ha hb] at this
          exact ⟨run_eqGuard_agg w op t x y xs ys hg.2, by rw [run_eql_struct, this]; rfl, by rw [run_neq_struct, this]; rfl⟩
      · cases hq
    · cases hq

theorem qBin_rel (h : SRel base ρ s w) {op : BinOp} {t : TypeId} {a b v : V} (hq : qBin P s op t a b = some v) {A B : Value} (ha : VRel ρ a A) (hb : VRel ρ b B) (x y : Operand) :
    ∃ X, (do eqGuard op t x y A B; Go.binOp op t A B : Sem Value).run P w = .ok X w ∧ VRel ρ v X := by
  unfold qBin at hq
  split at hq
  · rename_i k x1 k' y1
    simp only [VRel] at ha hb; subst ha; subst hb
    have hg : (eqGuard op t x y (.int k x1) (.int k' y1)).run P w = .ok () w := by cases op <;> simp [eqGuard]
    simp only [Sem.run_bind, hg, Result.andThen_ok]
    split at hq
    · exact shiftE_rel (k' := k') hq
    · exact shiftE_rel (k' := k') hq
    · rename_i h1 h2
      rw [kEq_iff] at hq
      cases hkk : decide (k = k') with
      | false => simp [hkk] at hq
      | true =>
        have hk : k = k' := by simpa using hkk
        subst hk
        simp only [decide_true, cond_true] at hq
        exact intBin_rel hq h1 h2 t
  · rename_i x1 y1
    simp only [VRel] at ha hb; subst ha; subst hb
    have hg : (eqGuard op t x y (.string x1.den) (.string y1.den)).run P w = .ok () w := by cases op <;> simp [eqGuard]
    simp only [Sem.run_bind, hg, Result.andThen_ok]
    have : Go.binOp op t (.string x1.den) (.string y1.den) = Op.stringOp op x1.den y1.den := by cases op <;> rfl
    rw [this]
    exact strBin_rel hq
  · split at hq
    · split at hq
      · rename_i r hr
        cases hq
        obtain ⟨h1, h2, _⟩ := eqAny_rel h hr ha hb .eql x y
        exact ⟨.bool r, by simp [h1, h2], by simp [VRel]⟩
      · cases hq
    · split at hq
      · rename_i r hr
        cases hq
        obtain ⟨h1, _, h2⟩ := eqAny_rel h hr ha hb .neq x y
        exact ⟨.bool (!r), by simp [h1, h2], by simp [VRel]⟩
      · cases hq
    · cases hq

theorem qUn_rel {op : UnOp} {a v : V} (hq : qUn op a = some v) {A : Value} (ha : VRel ρ a A) : ∃ X, (Op.unary op A).run P w = .ok X w ∧ VRel ρ v X := by
  unfold qUn at hq
  split at hq <;> cases hq <;> simp only [VRel] at ha <;> subst ha
  · rename_i k n
    exact ⟨.int k (k.wrap (0 - n)), by simp [Op.unary, Op.intArith], by simp only [VRel, wrapQ_eq]⟩
  · rename_i k n
    have e : ofI k (if k.signed = true then -1 else k.max) = kM k - 1 := by cases k <;> rfl
    refine ⟨.int k (k.wrap ((Nat.xor (kM k - 1) (ofI k n) : Nat) : Int)), ?_, by simp only [VRel, wrapQ_eq]; rfl⟩
    simp only [Op.unary, Op.intBits, Sem.run_pure, BitVec.toNat_xor, bits_toNat, e]
    rfl
  · exact ⟨_, by simp [Op.unary], vbool _⟩

theorem bytesOf_rel : ∀ {l : List V} {r : List UInt8}, bytesOf l = some r → ∀ {L : List Value}, LRel ρ l L → ∃ ns : List Int, L = ns.map (Value.int .u8) ∧ r = ns.map fun n => UInt8.ofNat n.toNat
  | [], r, h, L, hl => by
    simp only [bytesOf, Option.some.injEq] at h; subst h
    have hl : L = [] := hl
    exact ⟨[], by simp [hl], rfl⟩
  | v :: l, r, h, L, hl => by
    obtain ⟨X, Y, rfl, h1, h2⟩ := hl
    unfold bytesOf at h
    split at h
    · rename_i e; cases e
    · rename_i n l' e
      cases e
      split at h
      · rename_i r' hr
        cases h
        obtain ⟨ns, e1, e2⟩ := bytesOf_rel hr h2
        simp only [VRel] at h1
        exact ⟨n :: ns, by simp [h1, e1], by simp [e2]⟩
      · cases h
    · cases h

theorem foldl_push : ∀ (ns : List Int) (r : ByteArray), (ns.foldl (fun r n => r.push (UInt8.ofNat n.toNat)) r).data.toList = r.data.toList ++ ns.map fun n => UInt8.ofNat n.toNat
  | [], r => by simp
  | n :: ns, r => by
    simp only [List.foldl_cons, List.map_cons]
    rw [foldl_push ns]
    simp [ByteArray.push]

theorem qConv_rel (h : SRel base ρ s w) {src dst : TypeId} {a v : V} (hq : qConv P s src dst a = some v) {A : Value} (ha : VRel ρ a A) :
    ∃ X, (Go.convert src dst A).run P w = .ok X w ∧ VRel ρ v X := by
  unfold qConv at hq
  split at hq
  · rename_i sd dd hs hd
    split at hq
    · split at hq <;> cases hq
      simp only [VRel] at ha; subst ha
      rename_i k
      exact ⟨.int k (k.wrap _), by simp [Go.convert, run_und hs, run_und hd, Conv.intToInt]; rfl, by simp only [VRel, wrapQ_eq]⟩
    · split at hq <;> cases hq
      simp only [VRel] at ha; subst ha
      exact ⟨_, by simp [Go.convert, run_und hs, run_und hd], vstr _⟩
    · split at hq
      · rename_i e
        split at hq
        · rename_i he
          cases hq
          simp only [VRel] at ha; subst ha
          refine ⟨.string .empty, by simp [Go.convert, run_und hs, run_und hd, run_und he, Conv.bytesToString], ?_⟩
          simp only [VRel]; congr 1
        · cases hq
      · cases hq
    · rename_i b o len cap x es
      split at hq
      · rename_i e
        split at hq
        · rename_i he
          split at hq
          · rename_i cs hcs
            simp only [llen_eq, ltake_eq, ldrop_eq] at hq
            cases hb : Nat.ble (o + len) cs.length with
            | false => simp [hb] at hq
            | true =>
              rw [hb] at hq; simp only [cond_true] at hq
              split at hq
              · rename_i r hr
                cases hq
                simp only [VRel] at ha
                obtain ⟨B, O, S, cap', hB, rfl, _⟩ := ha
                obtain ⟨x', hx, hc⟩ := h.cellsAt hcs hB
                rw [hB] at hx; cases hx
                have key := hc.load (P := P) o len (by rw [← Nat.ble_eq]; exact hb)
                obtain ⟨L, hL, hl⟩ := key
                obtain ⟨ns, e1, e2⟩ := bytesOf_rel hr hl
                subst e1
                refine ⟨.string _, by rw [run_convert_bytes_string w src dst e _ _ _ hs he hd, run_bytesToString w _ _ _ ns hL], ?_⟩
                simp only [VRel]
                congr 1
                apply ba_ext
                rw [foldl_push, BS.den_ofList, e2]; simp
              · cases hq
          · cases hq
        · cases hq
      · cases hq
    · cases hq
  · cases hq

theorem qFieldAddr_rel {t : TypeId} {a v : V} {i : Nat} (hq : qFieldAddr P t a i = some v) {A : Value} (ha : VRel ρ a A) : ∃ X, (Instr.fieldAt t A i).run P w = .ok X w ∧ VRel ρ v X := by
  unfold qFieldAddr at hq
  split at hq
  · rename_i fs hd
    split at hq
    · rename_i f hf
      split at hq
      · rename_i n hn
        split at hq
        · rename_i b o
          cases hq
          simp only [VRel] at ha ⊢
          obtain ⟨B, O, S, hB, rfl⟩ := ha
          refine ⟨_, ?_, B, O, S, hB, rfl⟩
          simp [Instr.fieldAt, run_und hd, hf, Instr.sureAddr, fieldPlace, run_size hn, addr_add, Nat.add_assoc]
        · cases hq
      · cases hq
    · cases hq
  · cases hq

theorem qField_rel {t : TypeId} {a v : V} {i : Nat} (hq : qField P t a i = some v) {A : Value} (ha : VRel ρ a A) : ∃ X, (Instr.field t A i).run P w = .ok X w ∧ VRel ρ v X := by
  unfold qField at hq
  split at hq
  · rename_i fs hd
    split at hq
    · rename_i f hf
      split at hq
      · rename_i l
        simp only [VRel] at ha
        obtain ⟨cs, rfl, hl⟩ := ha
        obtain ⟨X, h1, h2⟩ := partE_rel (w := w) hq hl
        exact ⟨X, by simp [Instr.field, run_und hd, hf, asAgg, h1], h2⟩
      · cases hq
    · cases hq
  · cases hq

theorem natOf_rel {v : V} {n : Nat} (h : natOf v = some n) {A : Value} (ha : VRel ρ v A) : ∃ k, A = .int k (n : Int) := by
  unfold natOf at h
  split at h
  · cases h; simp only [VRel] at ha; exact ⟨_, ha⟩
  · cases h

theorem run_asIntOf (k : IntKind) (n : Int) : (asIntOf (.int k n)).run P w = .ok (k, n) w := rfl

theorem qIndexAddr_rel {t : TypeId} {a i v : V} (hq : qIndexAddr P t a i = some v) {A I : Value} (ha : VRel ρ a A) (hi : VRel ρ i I) : ∃ X, (Instr.indexAt t A I).run P w = .ok X w ∧ VRel ρ v X := by
  unfold qIndexAddr at hq
  split at hq
  · rename_i n hn
    obtain ⟨k, rfl⟩ := natOf_rel hn hi
    split at hq
    · rename_i len e hd
      split at hq
      · rename_i b o sz hsz
        cases hb : Nat.blt n len with
        | false => simp [hb] at hq
        | true =>
          simp only [hb, cond_true, Option.some.injEq] at hq
          subst hq
          have hlt : n < len := by simpa [Nat.blt_eq] using hb
          simp only [VRel] at ha ⊢
          obtain ⟨B, O, S, hB, rfl⟩ := ha
          refine ⟨_, ?_, B, O, S, hB, rfl⟩
          simp [Instr.indexAt, run_asIntOf, run_und hd, Instr.sureAddr, run_size hsz, addr_add, hlt, Nat.add_assoc]
      · cases hq
    · rename_i e hd
      split at hq
      · rename_i b o len cap x es sz hsz
        cases hb : Nat.blt n len with
        | false => simp [hb] at hq
        | true =>
          simp only [hb, cond_true, Option.some.injEq] at hq
          subst hq
          have hlt : n < len := by simpa [Nat.blt_eq] using hb
          simp only [VRel] at ha ⊢
          obtain ⟨B, O, S, cap', hB, rfl, _⟩ := ha
          refine ⟨_, ?_, B, O, S, hB, rfl⟩
          simp [Instr.indexAt, run_asIntOf, run_und hd, run_size hsz, addr_add, hlt, Nat.add_assoc]
      · cases hq
    · cases hq
  · cases hq

theorem qIndex_rel {t : TypeId} {a i v : V} (hq : qIndex P t a i = some v) {A I : Value} (ha : VRel ρ a A) (hi : VRel ρ i I) : ∃ X, (Instr.index t A I).run P w = .ok X w ∧ VRel ρ v X := by
  unfold qIndex at hq
  split at hq
  · rename_i n hn
    obtain ⟨k, rfl⟩ := natOf_rel hn hi
    split at hq
    · rename_i len e hd
      split at hq
      · rename_i l sz hsz
        cases hb : Nat.blt n len with
        | false => simp [hb] at hq
        | true =>
          simp only [hb, cond_true] at hq
          have hlt : n < len := by simpa [Nat.blt_eq] using hb
          simp only [VRel] at ha
          obtain ⟨cs, rfl, hl⟩ := ha
          obtain ⟨X, h1, h2⟩ := partE_rel (w := w) hq hl
          exact ⟨X, by simp [Instr.index, run_asIntOf, run_und hd, run_size hsz, hlt, h1], h2⟩
      · cases hq
    · rename_i hd
      split at hq
      · rename_i x
        cases hb : Nat.blt n x.n with
        | false => simp [hb] at hq
        | true =>
          simp only [hb, cond_true, Option.some.injEq] at hq
          subst hq
          have hlt : n < x.n := by simpa [Nat.blt_eq] using hb
          simp only [VRel] at ha ⊢
          subst ha
          obtain ⟨c, h1, h2⟩ := BS.den_get x n hlt
          refine ⟨_, ?_, rfl⟩
          simp [Instr.index, run_asIntOf, run_und hd, h1, h2]
      · cases hq
    · cases hq
  · cases hq

end
end Go.Eng
end

section
namespace Go.Eng
set_option linter.unusedSimpArgs false
set_option linter.unusedVariables false

section
variable {P : Program} {base : Nat} {ρ : Env} {s : St} {w : World}

def OptRel (ρ : Env) : Option V → Option Value → Prop
  | none, X => X = none
  | some v, X => ∃ W, X = some W ∧ VRel ρ v W

theorem optO_rel {ev : Operand → Option V} {A : Act} (hA : EvRel ρ ev A) {x : Option Operand} {v : Option V} (h : optO ev x = some v) : OptRel ρ v (x.map A.eval) := by
  unfold optO at h
  split at h
  · cases h; rfl
  · split at h
    · rename_i hv; cases h; exact ⟨_, rfl, evalO_rel hA hv⟩
    · cases h

theorem boundE_rel {v : Option V} {d n : Nat} (h : boundE v d = some n) {X : Option Value} (hx : OptRel ρ v X) : (X = none ∧ v = none ∧ n = d) ∨ ∃ k, X = some (.int k (n : Int)) := by
  unfold boundE at h
  split at h
  · cases h; exact .inl ⟨hx, rfl, rfl⟩
  · obtain ⟨W, rfl, hw⟩ := hx
    obtain ⟨k, rfl⟩ := natOf_rel h hw
    exact .inr ⟨k, rfl⟩

theorem run_sliceBound {k : IntKind} {n y : Nat} {c : BoundsCode} (h : n ≤ y) : (Instr.sliceBound (.int k (n : Int)) y c).run P w = .ok n w := by
  simp [Instr.sliceBound, run_asIntOf, h]

theorem run_bounds {b : Bool} {len cap l h : Nat} {LO HI : Option Value} (hlo : (LO = none ∧ l = 0) ∨ ∃ k, LO = some (.int k (l : Int))) (hhi : (HI = none ∧ h = len) ∨ ∃ k, HI = some (.int k (h : Int)))
    (h1 : l ≤ h) (h2 : h ≤ cap) : (Instr.sliceBounds b len cap LO HI none).run P w = .ok (l, h, cap) w := by
  rcases hlo with ⟨rfl, rfl⟩ | ⟨k, rfl⟩ <;> rcases hhi with ⟨rfl, rfl⟩ | ⟨k', rfl⟩ <;>
    simp [Instr.sliceBounds, run_sliceBound h2, run_sliceBound h1]

theorem run_bounds3 {b : Bool} {len cap l h m : Nat} {LO : Option Value} (hlo : (LO = none ∧ l = 0) ∨ ∃ k, LO = some (.int k (l : Int))) {k k' : IntKind}
    (h1 : l ≤ h) (h2 : h ≤ m) (h3 : m ≤ cap) : (Instr.sliceBounds b len cap LO (some (.int k (h : Int))) (some (.int k' (m : Int)))).run P w = .ok (l, h, m) w := by
  rcases hlo with ⟨rfl, rfl⟩ | ⟨k, rfl⟩ <;> simp [Instr.sliceBounds, run_sliceBound h3, run_sliceBound h2, run_sliceBound h1]

theorem qSliceZ_rel {t e : TypeId} {sz : Nat} (hd : P.underlying t = some (.slice e)) (hsz : szE P e = some sz) {a v : V} {b : Option Addr} {c : Nat} (ha : VRel ρ a (.slice b 0 c)) (hbc : b = none → c = 0) {l : Nat} {hi mx : Option V} (hq : qSliceZ a l hi mx = some v)
    (hk : a = .nils ∨ ∃ x, a = .slz x) {LO HI MX : Option Value} (hL : (LO = none ∧ l = 0) ∨ ∃ k, LO = some (.int k (l : Int))) (hhi : OptRel ρ hi HI) (hmx : OptRel ρ mx MX) :
    ∃ X, (Instr.sliceAt t (.slice b 0 c) LO HI MX).run P w = .ok X w ∧ VRel ρ v X := by
  unfold qSliceZ at hq
  cases hl : Nat.beq l 0 with
  | false => rw [hl] at hq; cases hq
  | true =>
    rw [hl, cond_true] at hq
    have hl0 : l = 0 := Nat.eq_of_beq_eq_true hl
    subst hl0
    split at hq
    · rename_i h0
      have hH : (HI = none ∧ 0 = 0) ∨ ∃ k, HI = some (.int k ((0 : Nat) : Int)) := (boundE_rel h0 hhi).imp (fun x => ⟨x.1, x.2.2⟩) id
      split at hq
      · have hmx : MX = none := hmx
        subst hmx
        cases hq
        have hrun := run_bounds (P := P) (w := w) (b := b.isSome) (cap := c) hL hH (Nat.le_refl 0) (Nat.zero_le _)
        cases b with
        | none =>
          have := hbc rfl; subst this
          exact ⟨.slice none 0 0, by simp [Instr.sliceAt, run_und hd, Instr.slice, run_size hsz, run_bounds (P := P) (w := w) (b := true) (cap := 0) hL hH (Nat.le_refl 0) (Nat.le_refl 0)], ha⟩
        | some ad =>
          refine ⟨.slice (if c = 0 then some ad else some (ad.add (0 * sz))) 0 c, by simp [Instr.sliceAt, run_und hd, Instr.slice, run_size hsz, run_bounds (P := P) (w := w) (b := true) (cap := c) hL hH (Nat.le_refl 0) (Nat.zero_le _)], ?_⟩
          rcases hk with rfl | ⟨x, rfl⟩
          · simp only [VRel] at ha; cases ha
          · simp only [VRel] at ha ⊢
            obtain ⟨a', c', e, hc⟩ := ha
            cases e
            split
            · exact ⟨_, _, rfl, hc⟩
            · exact ⟨_, _, rfl, hc⟩
      · rename_i mv
        split at hq
        · rename_i hv hm0
          obtain ⟨W, rfl, hw⟩ := hmx
          obtain ⟨km, rfl⟩ := natOf_rel hm0 hw
          obtain ⟨kh, rfl⟩ : ∃ k, HI = some (.int k ((0 : Nat) : Int)) := by
            rcases hH with ⟨e, _⟩ | h
            · obtain ⟨_, e', _⟩ := hhi; rw [e] at e'; cases e'
            · exact h
          cases hq
          cases b with
          | none =>
            have := hbc rfl; subst this
            have hb3 : (Instr.sliceBounds true 0 0 LO (some (.int kh 0)) (some (.int km 0))).run P w = .ok (0, 0, 0) w := run_bounds3 (P := P) (w := w) (b := true) (len := 0) (cap := 0) hL (k := kh) (k' := km) (Nat.le_refl 0) (Nat.le_refl 0) (Nat.le_refl 0)
            refine ⟨.slice none 0 0, by simp [Instr.sliceAt, run_und hd, Instr.slice, run_size hsz, hb3], ?_⟩
            rcases hk with rfl | ⟨x, rfl⟩
            · exact ha
            · simp only [VRel] at ha; obtain ⟨_, _, e, _⟩ := ha; cases e
          | some ad =>
            have hb3 : (Instr.sliceBounds true 0 c LO (some (.int kh 0)) (some (.int km 0))).run P w = .ok (0, 0, 0) w := run_bounds3 (P := P) (w := w) (b := true) (len := 0) (cap := c) hL (k := kh) (k' := km) (Nat.le_refl 0) (Nat.le_refl 0) (Nat.zero_le _)
            refine ⟨.slice (some ad) 0 0, by simp [Instr.sliceAt, run_und hd, Instr.slice, run_size hsz, hb3], ?_⟩
            rcases hk with rfl | ⟨x, rfl⟩
            · simp only [VRel] at ha; cases ha
            · simp only [VRel]; exact ⟨_, _, rfl, fun _ => rfl⟩
        · cases hq
    · cases hq

theorem qSlice_rel (h : SRel base ρ s w) {t : TypeId} {a v : V} {lo hi mx : Option V} (hq : qSlice P s t a lo hi mx = some v) {A : Value} {LO HI MX : Option Value}
    (ha : VRel ρ a A) (hlo : OptRel ρ lo LO) (hhi : OptRel ρ hi HI) (hmx : OptRel ρ mx MX) : ∃ X, (Instr.sliceAt t A LO HI MX).run P w = .ok X w ∧ VRel ρ v X := by
  unfold qSlice at hq
  split at hq
  · cases hq
  rename_i l hl
  have hL : (LO = none ∧ l = 0) ∨ ∃ k, LO = some (.int k (l : Int)) := (boundE_rel hl hlo).imp (fun x => ⟨x.1, x.2.2⟩) id
  split at hq
  · rename_i hd
    split at hq
    · rename_i x
      have hmx : MX = none := hmx
      subst hmx
      split at hq
      · rename_i hh hhe
        have hH : (HI = none ∧ hh = x.n) ∨ ∃ k, HI = some (.int k (hh : Int)) := (boundE_rel hhe hhi).imp (fun x => ⟨x.1, x.2.2⟩) id
        cases hb : (Nat.ble l hh && Nat.ble hh x.n) with
        | false => simp [hb] at hq
        | true =>
          simp only [hb, cond_true, Option.some.injEq] at hq
          subst hq
          simp only [Bool.and_eq_true, Nat.ble_eq] at hb
          simp only [VRel] at ha; subst ha
          refine ⟨_, ?_, vstr _⟩
          rw [BS.den_sub x l hh hb.1 hb.2]
          simp [Instr.sliceAt, run_und hd, Instr.slice, BS.den_size, run_bounds (b := false) hL hH hb.1 hb.2]
      · cases hq
    · cases hq
  · rename_i e hd
    split at hq
    · cases hq
    rename_i sz hsz
    split at hq
    · -- nil
      simp only [VRel] at ha; subst ha
      obtain ⟨X, h1, h2⟩ := qSliceZ_rel (P := P) (w := w) (b := none) (c := 0) hd hsz (by simp only [VRel]) (by simp) hq (.inl rfl) hL hhi hmx
      exact ⟨X, h1, h2⟩
    · rename_i x
      have ha0 := ha
      simp only [VRel] at ha
      obtain ⟨a, c, rfl, hc⟩ := ha
      obtain ⟨X, h1, h2⟩ := qSliceZ_rel (P := P) (w := w) (b := some a) (c := c) hd hsz ha0 (by simp) hq (.inr ⟨x, rfl⟩) hL hhi hmx
      exact ⟨X, h1, h2⟩
    · rename_i b o len cap x es
      cases hse : Nat.beq sz es with
      | false => simp [hse] at hq
      | true =>
      have hse' : sz = es := by simpa using hse
      subst hse'
      simp only [hse, Bool.not_true, cond_false] at hq
      split at hq
      · cases hq
      rename_i hh hhe
      have hH : (HI = none ∧ hh = len) ∨ ∃ k, HI = some (.int k (hh : Int)) := (boundE_rel hhe hhi).imp (fun x => ⟨x.1, x.2.2⟩) id
      cases hb : (Nat.ble l hh && Nat.ble hh cap) with
      | false => simp [hb] at hq
      | true =>
      simp only [hb, Bool.not_true, cond_false] at hq
      simp only [Bool.and_eq_true, Nat.ble_eq] at hb
      simp only [VRel] at ha
      obtain ⟨B, O, S, cap', hB, rfl, c1, c2, c3, c4⟩ := ha
      split at hq
      · have hmx : MX = none := hmx
        subst hmx
        have hrun := run_bounds (P := P) (w := w) (b := true) (cap := cap') hL hH hb.1 (by omega)
        have hrun' : (Instr.sliceAt t (.slice (some ⟨B, O + o, none⟩) len cap') LO HI none).run P w =
            .ok (.slice (if cap' = l then some ⟨B, O + o, none⟩ else some ((⟨B, O + o, none⟩ : Addr).add (l * sz))) (hh - l) (cap' - l)) w := by
          simp [Instr.sliceAt, run_und hd, Instr.slice, run_size hsz, hrun]
        rw [hrun']
        refine ⟨_, rfl, ?_⟩
        cases hl0 : Nat.beq l 0 with
        | true =>
          have e : l = 0 := by simpa using hl0
          subst e
          simp only [hl0, cond_true, Option.some.injEq] at hq
          subst hq
          simp only [VRel]
          refine ⟨B, O, S, cap', hB, ?_, hb.2, c2, c3, c4⟩
          simp [addr_add]
        | false =>
          simp only [hl0, cond_false] at hq
          cases hlc : Nat.blt l cap with
          | true =>
            have hlt : l < cap := by simpa [Nat.blt_eq] using hlc
            simp only [hlc, cond_true, Option.some.injEq] at hq
            subst hq
            simp only [VRel]
            refine ⟨B, O, S, cap' - l, hB, ?_, by omega, by omega, fun hx => by rw [c3 hx], ?_⟩
            · rw [if_neg (by omega), addr_add, Nat.add_assoc]
            · have : l * sz + (cap' - l) * sz = cap' * sz := by rw [← Nat.add_mul]; congr 1; omega
              omega
          | false =>
            have hge : cap ≤ l := by
              refine Nat.not_lt.1 fun hh => ?_
              have : Nat.blt l cap = true := by simpa [Nat.blt_eq] using hh
              rw [hlc] at this; cases this
            simp only [hlc, cond_false] at hq
            cases hx : x with
            | false =>
              simp only [hx, cond_false, Option.some.injEq] at hq
              subst hq
              have e2 : hh - l = 0 := by omega
              simp only [VRel]
              rw [e2]
              split
              · exact ⟨_, _, rfl, fun h => (by cases h)⟩
              · exact ⟨_, _, rfl, fun h => (by cases h)⟩
            | true =>
              simp only [hx, cond_true, Option.some.injEq] at hq
              subst hq
              have hc := c3 hx
              have e1 : cap' = l := by omega
              have e2 : hh = l := by omega
              subst e2; subst e1
              simp only [VRel]
              refine ⟨B, O, S, 0, hB, by simp, by omega, by omega, fun _ => rfl, by omega⟩
      · rename_i mv hv
        split at hq
        · rename_i m hm
          obtain ⟨W, rfl, hW⟩ := hmx
          obtain ⟨k', rfl⟩ := natOf_rel hm hW
          cases hb2 : (Nat.ble hh m && Nat.ble m cap) with
          | false => simp [hb2] at hq
          | true =>
          simp only [hb2, cond_true] at hq
          simp only [Bool.and_eq_true, Nat.ble_eq] at hb2
          rcases hH with ⟨rfl, _⟩ | ⟨k, rfl⟩
          · obtain ⟨_, hh', _⟩ := hhi; cases hh'
          have hrun := run_bounds3 (P := P) (w := w) (b := true) (cap := cap') (len := len) (k := k) (k' := k') hL hb.1 hb2.1 (by omega)
          have hrun' : (Instr.sliceAt t (.slice (some ⟨B, O + o, none⟩) len cap') LO (some (.int k (hh : Int))) (some (.int k' (m : Int)))).run P w =
              .ok (.slice (if m = l then some ⟨B, O + o, none⟩ else some ((⟨B, O + o, none⟩ : Addr).add (l * sz))) (hh - l) (m - l)) w := by
            simp [Instr.sliceAt, run_und hd, Instr.slice, run_size hsz, hrun]
          rw [hrun']
          refine ⟨_, rfl, ?_⟩
          cases hml : Nat.beq m l with
          | true =>
            have e : m = l := by simpa using hml
            simp only [hml, cond_true, Option.some.injEq] at hq
            subst hq
            subst e
            simp only [VRel]
            refine ⟨B, O, S, 0, hB, by simp, by omega, by omega, fun _ => rfl, by omega⟩
          | false =>
            have e : m ≠ l := by intro e; subst e; simp at hml
            simp only [hml, cond_false, Option.some.injEq] at hq
            subst hq
            simp only [VRel]
            refine ⟨B, O, S, m - l, hB, by rw [if_neg e, addr_add, Nat.add_assoc], by omega, by omega, fun _ => rfl, ?_⟩
            have : l * sz + (m - l) * sz = m * sz := by rw [← Nat.add_mul]; congr 1; omega
            have : m * sz ≤ cap' * sz := Nat.mul_le_mul_right _ (by omega)
            omega
        · cases hq
      · cases hq
    · cases hq
  · rename_i n e hd
    split at hq
    · rename_i sz hsz
      have hmx : MX = none := hmx
      subst hmx
      split at hq
      · rename_i b o
        split at hq
        · rename_i cs hh hcs hhe
          have hH : (HI = none ∧ hh = n) ∨ ∃ k, HI = some (.int k (hh : Int)) := (boundE_rel hhe hhi).imp (fun x => ⟨x.1, x.2.2⟩) id
          simp only [llen_eq] at hq
          cases hb : (Nat.ble l hh && (Nat.ble hh n && Nat.ble (o + n * sz) cs.length)) with
          | false => simp [hb] at hq
          | true =>
          simp only [hb, cond_true] at hq
          simp only [Bool.and_eq_true, Nat.ble_eq] at hb
          simp only [VRel] at ha
          obtain ⟨B, O, S, hB, rfl⟩ := ha
          obtain ⟨x, hx, hc⟩ := h.cellsAt hcs hB
          rw [hB] at hx; cases hx
          obtain ⟨C, t', fr, _, _, hlen, _⟩ := hc.ex
          simp only at hlen
          have hrun := run_bounds (P := P) (w := w) (b := false) (cap := n) hL hH hb.1 hb.2.1
          have hrun' : (Instr.sliceAt t (.pointer (some ⟨B, O + o, none⟩)) LO HI none).run P w =
              .ok (.slice (some (if n = l then ⟨B, O + o, none⟩ else ((⟨B, O + o, none⟩ : Addr).add (l * sz)))) (hh - l) (n - l)) w := by
            simp [Instr.sliceAt, run_und hd, Instr.sureAddr, run_size hsz, hrun]
          rw [hrun']
          refine ⟨_, rfl, ?_⟩
          cases hnl : Nat.beq n l with
          | true =>
            have e : n = l := by simpa using hnl
            simp only [hnl, cond_true, Option.some.injEq] at hq
            subst hq
            simp only [VRel]
            refine ⟨B, O, S, 0, hB, by simp [e], by omega, by omega, fun _ => rfl, by omega⟩
          | false =>
            have e : n ≠ l := by intro e; subst e; simp at hnl
            simp only [hnl, cond_false, Option.some.injEq] at hq
            subst hq
            simp only [VRel]
            refine ⟨B, O, S, n - l, hB, by rw [if_neg e, addr_add, Nat.add_assoc], by omega, by omega, fun _ => rfl, ?_⟩
            have : l * sz + (n - l) * sz = n * sz := by rw [← Nat.add_mul]; congr 1; omega
            omega
        · cases hq
      · cases hq
    · cases hq
  · cases hq

theorem keyEq_rel {a b : V} {r : Bool} (h : keyEq a b = some r) {A B : Value} (ha : VRel ρ a A) (hb : VRel ρ b B) {kt : TypeId} {d : TypeDesc} (hd : P.underlying kt = some d) (hk : plainKeyE P kt a = true) :
    Instr.sameNow d A B = some r := by
  unfold keyEq at h
  unfold plainKeyE at hk
  rw [hd] at hk
  split at h
  · rename_i k x k' y
    rw [kEq_iff, eqQ_eq] at h
    cases hkk : decide (k = k') with
    | false => simp [hkk] at h
    | true =>
      have e : k = k' := by simpa using hkk
      subst e
      simp only [decide_true, cond_true, Option.some.injEq] at h
      subst h
      simp only [VRel] at ha hb; subst ha; subst hb
      cases d <;> simp at hk
      simp [Instr.sameNow]
  · rename_i x y
    cases h
    simp only [VRel] at ha hb; subst ha; subst hb
    cases d <;> simp at hk
    simp only [Instr.sameNow, BS.eq_iff, beq_toListBytes, ByteArray.toList_eq]
  · cases h
    simp only [VRel] at ha hb; subst ha; subst hb
    cases d <;> simp at hk
    simp [Instr.sameNow]
  · cases h

theorem findE_rel {k : V} {K : Value} (hk : VRel ρ k K) {kt : TypeId} {d : TypeDesc} (hd : P.underlying kt = some d) (hp : plainKeyE P kt k = true) :
    ∀ {l : List (V × V × Nat)} {E : List MapEntry} (_ : MRel ρ l E) (i : Nat) {r : Option (Nat × V)}, findE k l i = some r →
      (r = none ∧ Instr.findNow d K E i = some none) ∨ ∃ j v W, r = some (j, v) ∧ Instr.findNow d K E i = some (some (j, W)) ∧ VRel ρ v W
  | [], E, hm, i, r, h => by
    have hm : E = [] := hm
    subst hm
    simp only [findE] at h; cases h
    exact .inl ⟨rfl, rfl⟩
  | e :: l, E, hm, i, r, h => by
    obtain ⟨x, y, rfl, h1, h2, h3, h4⟩ := hm
    simp only [findE] at h
    split at h
    · rename_i he
      cases h
      exact .inr ⟨_, _, _, rfl, by simp [Instr.findNow, keyEq_rel he hk h1 hd hp], h2⟩
    · rename_i he
      have := findE_rel hk hd hp h4 (i + 1) h
      simpa [Instr.findNow, keyEq_rel he hk h1 hd hp] using this
    · cases h

theorem run_checkKeyE {kt : TypeId} {k : V} {K : Value} (hk : VRel ρ k K) (hp : plainKeyE P kt k = true) (e : Bool) (n : Nat) : (Instr.checkKey e (n + 1) kt K).run P w = .ok () w := by
  unfold plainKeyE at hp
  split at hp
  · rename_i hd; simp only [VRel] at hk; subst hk; simp [Instr.checkKey, run_und hd]
  · rename_i hd; simp only [VRel] at hk; subst hk; simp [Instr.checkKey, run_und hd]
  · rename_i hd; simp only [VRel] at hk; subst hk; simp [Instr.checkKey, run_und hd]
  · cases hp

theorem plainKeyE_und {kt : TypeId} {k : V} (hp : plainKeyE P kt k = true) : ∃ d, P.underlying kt = some d := by
  unfold plainKeyE at hp
  split at hp <;> rename_i hd <;> first | exact ⟨_, hd⟩ | cases hp

theorem run_findKeyE {k : V} {K : Value} (hk : VRel ρ k K) {kt : TypeId} (hp : plainKeyE P kt k = true) {l : List (V × V × Nat)} {E : List MapEntry} (hm : MRel ρ l E) {r : Option (Nat × V)} (h : findE k l 0 = some r) :
    (r = none ∧ (Instr.findKey kt K E).run P w = .ok none w) ∨ ∃ j v W, r = some (j, v) ∧ (Instr.findKey kt K E).run P w = .ok (some (j, W)) w ∧ VRel ρ v W := by
  obtain ⟨d, hd⟩ := plainKeyE_und hp
  rcases findE_rel hk hd hp hm 0 h with ⟨h1, h2⟩ | ⟨j, v, W, h1, h2, h3⟩
  · exact .inl ⟨h1, by simp [Instr.findKey, run_und hd, h2]⟩
  · exact .inr ⟨j, v, W, h1, by simp [Instr.findKey, run_und hd, h2], h3⟩

theorem zeroE_rel {t : TypeId} {z : V} (h : zeroE P t = some z) : ∃ Z, (zeroValue t).run P w = .ok Z w ∧ VRel ρ z Z ∧ (∃ i, P.info? t = some i ∧ i.zero = some Z) := by
  unfold zeroE at h
  split at h
  · rename_i i hi
    split at h
    · rename_i v hv
      exact ⟨v, by simp [zeroValue, typeInfo, hi, hv], ofVal_rel h, i, hi, hv⟩
    · cases h
  · cases h

theorem qLookup_rel (h : SRel base ρ s w) {t : TypeId} {m k v : V} {ok : Bool} (hq : qLookup P s t m k ok = some v) {M K : Value} (hm : VRel ρ m M) (hk : VRel ρ k K) :
    ∃ X, (Instr.lookup t M K ok).run P w = .ok X w ∧ VRel ρ v X := by
  unfold qLookup at hq
  split at hq
  · rename_i kt e hd
    cases hp : plainKeyE P kt k with
    | false => simp [hp] at hq
    | true =>
    simp only [hp, Bool.not_true, cond_false] at hq
    split at hq
    · cases hq
    rename_i es hes
    have key : ∃ E : Array MapEntry, MRel ρ es E.toList ∧ (Instr.lookup t M K ok).run P w = (do
        Instr.checkKey E.isEmpty 10000 kt K
        let (v, ok') ← match ← Instr.findKey kt K E.toList with
          | some (_, v) => pure (v, true)
          | none => pure (← zeroValue e, false)
        pure (if ok then .tuple #[v, .bool ok'] else v) : Sem Value).run P w := by
      split at hes
      · cases hes
        simp only [VRel] at hm; subst hm
        exact ⟨#[], rfl, by simp only [Instr.lookup, Sem.run_bind, run_und hd, Result.andThen_ok, Sem.run_pure]; rfl⟩
      · rename_i b
        split at hes
        · rename_i es' c hg
          cases hes
          simp only [VRel] at hm
          obtain ⟨B, O, S, hB, rfl⟩ := hm
          obtain ⟨x, hx, _, E, hE, hrel⟩ := h.obj' hg hB
          rw [hB] at hx; cases hx
          have hgo : (getObj B).run P w = .ok (.map E c) w := by simp only [getObj, Sem.run]; simp only at hE; rw [hE]
          exact ⟨E, hrel, by simp only [Instr.lookup, Sem.run_bind, run_und hd, Result.andThen_ok, hgo, Sem.run_pure]; rfl⟩
        · cases hes
      · cases hes
    obtain ⟨E, hrel, h0⟩ := key
    rw [h0]
    simp only [Sem.run_bind, run_checkKeyE hk hp, Result.andThen_ok]
    split at hq
    · rename_i j v' hf
      rcases run_findKeyE (w := w) hk hp hrel hf with ⟨h1, _⟩ | ⟨j', v2, W, h1, h2, h3⟩
      · cases h1
      · cases h1
        cases hq
        simp only [h2, Result.andThen_ok, Sem.run_pure]
        cases ok
        · exact ⟨_, rfl, h3⟩
        · exact ⟨_, rfl, by simp only [cond_true, VRel]; exact ⟨_, rfl, LRel.cons h3 (LRel.cons (vbool _) LRel.nil)⟩⟩
    · rename_i hf
      split at hq
      · rename_i z hz
        cases hq
        obtain ⟨Z, hZ, hz', _⟩ := zeroE_rel (ρ := ρ) (w := w) hz
        rcases run_findKeyE (w := w) hk hp hrel hf with ⟨_, h2⟩ | ⟨j', v2, W, h1, h2, h3⟩
        · simp only [h2, Result.andThen_ok, Sem.run_bind, Sem.run_pure, hZ]
          cases ok
          · exact ⟨_, rfl, hz'⟩
          · exact ⟨_, rfl, by simp only [cond_true, VRel]; exact ⟨_, rfl, LRel.cons hz' (LRel.cons (vbool _) LRel.nil)⟩⟩
        · cases h1
      · cases hq
    · cases hq
  · cases hq

theorem MRel.length : ∀ {l : List (V × V × Nat)} {E : List MapEntry}, MRel ρ l E → l.length = E.length
  | [], _, h => by have h : _ = [] := h; subst h; rfl
  | _ :: _, _, h => by obtain ⟨x, y, rfl, _, _, _, h4⟩ := h; simp [MRel.length h4]

theorem qLen_rel (h : SRel base ρ s w) {t ty : TypeId} {a v : V} (hq : qLen P s t a = some v) {A : Value} (ha : VRel ρ a A) {ts : Array TypeId} (ht : ts[0]? = some t) :
    ∃ X, (Builtin.len_ ts ty #[A]).run P w = .ok X w ∧ VRel ρ v X := by
  unfold qLen at hq
  split at hq
  · rename_i hd
    split at hq <;> cases hq
    simp only [VRel] at ha; subst ha
    exact ⟨_, by simp [Builtin.len_, ht, run_und hd, BS.den_size, goInt], vint _ _⟩
  · rename_i n e hd
    cases hq
    refine ⟨_, by simp [Builtin.len_, ht, run_und hd, goInt], vint _ _⟩
  · rename_i e hd
    split at hq <;> cases hq <;> simp only [VRel] at ha
    · subst ha
      exact ⟨_, by simp [Builtin.len_, ht, run_und hd, goInt], vint _ _⟩
    · obtain ⟨_, _, rfl, _⟩ := ha
      exact ⟨_, by simp [Builtin.len_, ht, run_und hd, goInt], vint _ _⟩
    · obtain ⟨B, O, S, cap', _, rfl, _⟩ := ha
      exact ⟨_, by simp [Builtin.len_, ht, run_und hd, goInt], vint _ _⟩
  · rename_i k e hd
    split at hq
    · cases hq
      simp only [VRel] at ha; subst ha
      exact ⟨_, by simp [Builtin.len_, ht, run_und hd, goInt], vint _ _⟩
    · split at hq
      · rename_i hg
        cases hq
        simp only [VRel] at ha
        obtain ⟨B, O, S, hB, rfl⟩ := ha
        obtain ⟨x, hx, _, E, hE, hrel⟩ := h.obj' hg hB
        rw [hB] at hx; cases hx
        refine ⟨_, ?_, vint _ _⟩
        have := hrel.length
        simp at this
        rw [llen_eq]
        simp [Builtin.len_, ht, run_und hd, goInt, getObj, Sem.run, hE, this]
      · cases hq
    · cases hq
  · rename_i arr hd
    split at hq
    · rename_i n e hd2
      cases hq
      refine ⟨_, by simp [Builtin.len_, ht, run_und hd, run_und hd2, goInt], vint _ _⟩
    · cases hq
  · cases hq

theorem qCap_rel {t ty : TypeId} {a v : V} (hq : qCap P t a = some v) {A : Value} (ha : VRel ρ a A) {ts : Array TypeId} (ht : ts[0]? = some t) :
    ∃ X, (Builtin.cap_ ts ty #[A]).run P w = .ok X w ∧ VRel ρ v X := by
  unfold qCap at hq
  split at hq
  · rename_i n e hd
    cases hq
    exact ⟨_, by simp [Builtin.cap_, ht, run_und hd, goInt], vint _ _⟩
  · rename_i e hd
    split at hq <;> cases hq <;> simp only [VRel] at ha
    · subst ha
      exact ⟨_, by simp [Builtin.cap_, ht, run_und hd, goInt], vint _ _⟩
    · obtain ⟨B, O, S, cap', _, rfl, _, _, hc, _⟩ := ha
      rw [hc trivial]
      exact ⟨_, by simp [Builtin.cap_, ht, run_und hd, goInt], vint _ _⟩
  · cases hq

theorem minMax_rel : ∀ (l : List V) (k : IntKind) (x : Int) (v : V), minMax false (.int k x) l = some v → ∀ {L : List Value}, LRel ρ l L → ∃ X, (L.foldlM Builtin.min2 (.int k x)).run P w = .ok X w ∧ VRel ρ v X
  | [], k, x, v, h, L, hl => by
    have hl : L = [] := hl
    subst hl; simp only [minMax] at h; cases h
    exact ⟨_, by simp, vint _ _⟩
  | b :: l, k, x, v, h, L, hl => by
    obtain ⟨X, Y, rfl, h1, h2⟩ := hl
    cases b <;> simp only [minMax, reduceCtorEq] at h
    simp only [VRel] at h1; subst h1
    obtain ⟨Z, e1, e2⟩ := minMax_rel l _ _ v h h2
    rename_i k' y
    have e : (bif ltQ y x then y else x) = if y < x then y else x := by rw [ltQ_eq]; by_cases hh : y < x <;> simp [hh]
    simp only [cond_false, e] at e1
    exact ⟨Z, by simpa [Builtin.min2] using e1, e2⟩
theorem maxMin_rel : ∀ (l : List V) (k : IntKind) (x : Int) (v : V), minMax true (.int k x) l = some v → ∀ {L : List Value}, LRel ρ l L → ∃ X, (L.foldlM Builtin.max2 (.int k x)).run P w = .ok X w ∧ VRel ρ v X
  | [], k, x, v, h, L, hl => by
    have hl : L = [] := hl
    subst hl; simp only [minMax] at h; cases h
    exact ⟨_, by simp, vint _ _⟩
  | b :: l, k, x, v, h, L, hl => by
    obtain ⟨X, Y, rfl, h1, h2⟩ := hl
    cases b <;> simp only [minMax, reduceCtorEq] at h
    simp only [VRel] at h1; subst h1
    obtain ⟨Z, e1, e2⟩ := maxMin_rel l _ _ v h h2
    rename_i k' y
    have e : (bif ltQ x y then y else x) = if y > x then y else x := by rw [ltQ_eq]; by_cases hh : x < y <;> simp [hh]
    simp only [cond_true, e] at e1
    exact ⟨Z, by simpa [Builtin.max2] using e1, e2⟩

theorem cellsV_rel {v : V} {X : Value} (h : VRel ρ v X) : LRel ρ (cellsV v) X.cells.toList := by
  cases v <;> simp only [VRel] at h
  all_goals first
    | (subst h; exact LRel.cons (by simp only [VRel]) LRel.nil)
    | skip
  case ptr => obtain ⟨B, O, S, h1, rfl⟩ := h; exact LRel.cons (by simp only [VRel]; exact ⟨B, O, S, h1, rfl⟩) LRel.nil
  case slz => obtain ⟨a, c, rfl, hc⟩ := h; exact LRel.cons (by simp only [VRel]; exact ⟨a, c, rfl, hc⟩) LRel.nil
  case sl => obtain ⟨B, O, S, c, h1, rfl, h2⟩ := h; exact LRel.cons (by simp only [VRel]; exact ⟨B, O, S, c, h1, rfl, h2⟩) LRel.nil
  case map => obtain ⟨B, O, S, h1, rfl⟩ := h; exact LRel.cons (by simp only [VRel]; exact ⟨B, O, S, h1, rfl⟩) LRel.nil
  case fn => obtain ⟨A, C, rfl, h2⟩ := h; exact LRel.cons (by simp only [VRel]; exact ⟨A, C, rfl, h2⟩) LRel.nil
  case yld => obtain ⟨B, O, S, h1, rfl⟩ := h; exact LRel.cons (by simp only [VRel]; exact ⟨B, O, S, h1, rfl⟩) LRel.nil
  case iface => obtain ⟨A, rfl, h2⟩ := h; exact LRel.cons (by simp only [VRel]; exact ⟨A, rfl, h2⟩) LRel.nil
  case tup => obtain ⟨A, rfl, h2⟩ := h; exact LRel.cons (by simp only [VRel]; exact ⟨A, rfl, h2⟩) LRel.nil
  case it => obtain ⟨B, S, h1, rfl⟩ := h; exact LRel.cons (by simp only [VRel]; exact ⟨B, S, h1, rfl⟩) LRel.nil
  case agg => obtain ⟨A, rfl, h2⟩ := h; exact h2

theorem setAll_rel : ∀ {l : List V} {L : List Value}, LRel ρ l L → ∀ {cs : List V} {A : Array Value}, LRel ρ cs A.toList → ∀ (off k : Nat),
    LRel ρ (setAll cs (off + k) l) ((L.zipIdx k).foldl (fun (cs : Array Value) (x : Value × Nat) => cs.setIfInBounds (off + x.2) x.1) A).toList
  | [], L, h, cs, A, hA, off, k => by
    have h : L = [] := h
    subst h; simpa [setAll] using hA
  | v :: l, L, h, cs, A, hA, off, k => by
    obtain ⟨X, Y, rfl, h1, h2⟩ := h
    simp only [setAll, lset_eq, List.zipIdx_cons, List.foldl_cons]
    rw [Nat.add_assoc]
    exact setAll_rel h2 (by rw [Array.toList_setIfInBounds]; exact hA.set h1) off (k + 1)

theorem setAll_length : ∀ (l cs : List V) (off : Nat), (setAll cs off l).length = cs.length
  | [], _, _ => rfl
  | c :: l, cs, off => by simp [setAll, lset_eq, setAll_length l]

def PRel (ρ : Env) : List (Nat × V) → List (Nat × Value) → Prop
  | [], L => L = []
  | p :: l, L => ∃ X Y, L = (p.1, X) :: Y ∧ VRel ρ p.2 X ∧ PRel ρ l Y

theorem evalParts_rel {ev : Operand → Option V} {A : Act} (hA : EvRel ρ ev A) : ∀ {xs : List (Nat × Operand)} {ps : List (Nat × V)}, evalParts ev xs = some ps → PRel ρ ps (xs.map fun p => (p.1, A.eval p.2))
  | [], ps, h => by simp only [evalParts] at h; cases h; rfl
  | (i, x) :: xs, ps, h => by
    simp only [evalParts] at h
    split at h
    · rename_i v hv
      split at h
      · rename_i r hr; cases h; exact ⟨_, _, rfl, evalO_rel hA hv, evalParts_rel hA hr⟩
      · cases h
    · cases h

theorem fillE_rel {place : Nat → Option (Nat × Nat)} : ∀ {ps : List (Nat × V)} {Ps : List (Nat × Value)}, PRel ρ ps Ps → ∀ {cs r : List V} {A : Array Value}, LRel ρ cs A.toList → fillE place cs ps = some r →
    ∃ R, Instr.fill place A Ps = some R ∧ LRel ρ r R.toList
  | [], Ps, hp, cs, r, A, hA, h => by
    have hp : Ps = [] := hp
    subst hp; simp only [fillE] at h; cases h
    exact ⟨A, rfl, hA⟩
  | (i, v) :: ps, Ps, hp, cs, r, A, hA, h => by
    obtain ⟨X, Y, rfl, h1, h2⟩ := hp
    simp only [fillE] at h
    split at h
    · rename_i off size hpl
      simp only [llen_eq] at h
      cases hb : (Nat.beq (cellsV v).length size && Nat.ble (off + size) cs.length) with
      | false => simp [hb] at h
      | true =>
        simp only [hb, cond_true] at h
        simp only [Bool.and_eq_true, Nat.ble_eq, Nat.beq_eq] at hb
        have hc := cellsV_rel h1
        have hl := hc.length
        have hl2 := hA.length
        simp only [Array.length_toList] at hl hl2
        have hset := setAll_rel hc hA off 0
        obtain ⟨R, e1, e2⟩ := fillE_rel h2 (A := X.cells.zipIdx.foldl (fun cs (x : Value × Nat) => cs.setIfInBounds (off + x.2) x.1) A)
          (by rw [← Array.foldl_toList, Array.toList_zipIdx]; exact hset) h
        refine ⟨R, ?_, e2⟩
        simp only [Instr.fill, hpl]
        rw [if_neg (by simp; omega)]
        exact e1
    · cases h

theorem run_places : ∀ (fs : List Field) {pl : List (Nat × Nat)}, placesE P fs = some pl → (fs.mapM fun f => do pure (f.offset, ← sizeOf f.type) : Sem (List (Nat × Nat))).run P w = .ok pl w
  | [], pl, h => by simp only [placesE] at h; cases h; simp
  | f :: fs, pl, h => by
    simp only [placesE] at h
    split at h
    · rename_i n hn
      split at h
      · rename_i r hr
        cases h
        have ih := run_places fs hr
        simp only [List.mapM_cons, Sem.run_bind, run_size hn, Result.andThen_ok, Sem.run_pure, ih]
      · cases h
    · cases h

theorem qBuild_rel {t : TypeId} {ps : List (Nat × V)} {v : V} (hq : qBuild P t ps = some v) {Ps : Array (Nat × Value)} (hp : PRel ρ ps Ps.toList) :
    ∃ X, (Instr.build t Ps).run P w = .ok X w ∧ VRel ρ v X := by
  unfold qBuild at hq
  split at hq
  · cases hq
  rename_i z hz
  obtain ⟨Z, hZ, hzr, _⟩ := zeroE_rel (ρ := ρ) (w := w) hz
  have hzc := cellsV_rel hzr
  split at hq
  · rename_i fs hd
    split at hq
    · rename_i pl hpl
      split at hq
      · rename_i cs hcs
        cases hq
        obtain ⟨R, e1, e2⟩ := fillE_rel hp hzc hcs
        refine ⟨.agg R, ?_, by simp only [VRel]; exact ⟨R, rfl, e2⟩⟩
        have hpr := run_places (w := w) fs.toList hpl
        have e3 : (fun (i : Nat) => (pl.toArray[i]? : Option (Nat × Nat))) = fun (i : Nat) => lget pl i := by funext i; simp [lget_eq]
        simp only [Instr.build, Sem.run_bind, hZ, Result.andThen_ok, run_und hd, Array.mapM_eq_mapM_toList, Sem.run_map, hpr, Sem.run_pure]
        rw [e3, e1]
        rfl
      · cases hq
    · cases hq
  · rename_i n e hd
    split at hq
    · rename_i sz hsz
      split at hq
      · rename_i cs hcs
        cases hq
        obtain ⟨R, e1, e2⟩ := fillE_rel hp hzc hcs
        refine ⟨.agg R, ?_, by simp only [VRel]; exact ⟨R, rfl, e2⟩⟩
        simp only [Instr.build, Sem.run_bind, hZ, Result.andThen_ok, run_und hd, run_size hsz]
        rw [e1]
        rfl
      · cases hq
    · cases hq
  · cases hq

theorem qAssert_rel (xt : TypeId) {t : TypeId} {v u : V} {ok : Bool} (hq : qAssert P t v ok = some u) {X : Value} (hv : VRel ρ v X) : ∃ Y, (Instr.typeAssert X xt t ok).run P w = .ok Y w ∧ VRel ρ u Y := by
  unfold qAssert at hq
  have zer : ∀ {u : V}, assertZ P t ok = some u → ok = true ∧ ∃ Z, (zeroValue t).run P w = .ok Z w ∧ VRel ρ u (.tuple #[Z, .bool false]) := by
    intro u h
    unfold assertZ at h
    split at h
    · rename_i z hz
      cases h
      obtain ⟨Z, hZ, hzr, _⟩ := zeroE_rel (ρ := ρ) (w := w) hz
      refine ⟨rfl, Z, hZ, ?_⟩
      simp only [VRel]
      exact ⟨_, rfl, LRel.cons hzr (LRel.cons (by simp only [VRel]) LRel.nil)⟩
    · cases h
  split at hq
  · cases hq
  · rename_i d hni hd
    cases v with
    | iface t' x =>
      simp only [VRel] at hv
      simp only at hq
      obtain ⟨Y, rfl, hy⟩ := hv
      cases hb : Nat.beq t' t with
      | true =>
        rw [hb, cond_true] at hq
        cases hq
        have e := Nat.eq_of_beq_eq_true hb
        subst e
        cases ok with
        | true => exact ⟨.tuple #[Y, .bool true], by cases d <;> first | exact absurd rfl (hni _) | simp [Instr.typeAssert, run_und hd], by simp only [cond_true, VRel]; exact ⟨_, rfl, LRel.cons hy (LRel.cons (by simp only [VRel]) LRel.nil)⟩⟩
        | false => exact ⟨Y, by cases d <;> first | exact absurd rfl (hni _) | simp [Instr.typeAssert, run_und hd], hy⟩
      | false =>
        rw [hb, cond_false] at hq
        obtain ⟨rfl, Z, hZ, hr⟩ := zer hq
        have hne : ¬ t' = t := fun e => by subst e; simp at hb
        exact ⟨_, by cases d <;> first | exact absurd rfl (hni _) | simp [Instr.typeAssert, run_und hd, hne, hZ], hr⟩
    | nili =>
      simp only [VRel] at hv
      subst hv
      obtain ⟨rfl, Z, hZ, hr⟩ := zer hq
      exact ⟨_, by cases d <;> first | exact absurd rfl (hni _) | simp [Instr.typeAssert, run_und hd, hZ], hr⟩
    | _ => cases hq
  · cases hq

end
end Go.Eng
end
