/-
  The evaluator's quiet operations are the model's: whatever the evaluator answers, the model's operation answers the like, and leaves the world as it was.
-/
import Derived.Test.YtmnjgdnmlopigaaGreatEngC
import Derived.Laws.Cells
import Derived.Laws.BytesString
import Derived.Laws.StructEq
import Derived.Laws.Strings
namespace Go.Eng
set_option linter.unusedSimpArgs false
set_option linter.unusedVariables false

section
variable {P : Program} {base : Nat} {ρ : Env} {s : St} {w : World}

theorem run_und {t : TypeId} {d : TypeDesc} (h : P.underlying t = some d) : (underlying t).run P w = .ok d w := run_underlying h w
theorem run_size {t : TypeId} {n : Nat} (h : szE P t = some n) : (sizeOf t).run P w = .ok n w := by
  unfold szE at h
  split at h
  · rename_i i hi
    cases h
    simp [sizeOf, typeInfo, hi]
  · cases h
theorem run_isAgg {t : TypeId} {b : Bool} (h : isAggE P t = some b) : (isAgg t).run P w = .ok b w := by
  unfold isAggE at h
  split at h
  · rename_i hd; cases h; simp [isAgg, run_und hd]
  · rename_i hd; cases h; simp [isAgg, run_und hd]
  · rename_i d h1 h2 hd
    cases h
    simp only [isAgg, Sem.run_bind, run_und hd, Result.andThen_ok]
    cases d <;> first | rfl | exact absurd rfl (h1 _) | exact absurd rfl (h2 _ _)
  · cases h

theorem ofCell_rel {v : Value} {x : V} (h : ofCell v = some x) : VRel ρ x v := by
  unfold ofCell at h
  split at h <;> first | cases h | skip
  all_goals (try simp only [VRel])
  rw [BS.den_ofList']
theorem ofCells_rel : ∀ {l : List Value} {x : List V}, ofCells l = some x → LRel ρ x l
  | [], x, h => by simp only [ofCells] at h; cases h; exact LRel.nil
  | v :: l, x, h => by
    simp only [ofCells] at h
    split at h
    · rename_i a ha
      split at h
      · rename_i b hb; cases h; exact LRel.cons (ofCell_rel ha) (ofCells_rel hb)
      · cases h
    · cases h
theorem ofVal_rel {v : Value} {x : V} (h : ofVal v = some x) : VRel ρ x v := by
  unfold ofVal at h
  split at h
  · rename_i cs
    split at h
    · rename_i l hl; cases h; simp only [VRel]; exact ⟨cs, rfl, ofCells_rel hl⟩
    · cases h
  · rename_i cs
    split at h
    · rename_i e
      cases h
      have : cs = #[] := by cases cs; simp at e; simp [e]
      simp only [VRel]; rw [this]
    · cases h
  · exact ofCell_rel h

/-- what the evaluator reads of a frame is what stands there -/
def EvRel (ρ : Env) (ev : Operand → Option V) (A : Act) : Prop := ∀ x v, ev x = some v → VRel ρ v (A.eval x)
theorem evalO_rel {ev : Operand → Option V} {A : Act} (hA : EvRel ρ ev A) {x : Operand} {v : V} (h : ev x = some v) : VRel ρ v (A.eval x) := hA x v h
theorem evalOs_rel {ev : Operand → Option V} {A : Act} (hA : EvRel ρ ev A) : ∀ {xs : List Operand} {vs : List V}, evalOs ev xs = some vs → LRel ρ vs (xs.map A.eval)
  | [], vs, h => by simp only [evalOs] at h; cases h; exact LRel.nil
  | x :: xs, vs, h => by
    simp only [evalOs] at h
    split at h
    · rename_i v hv
      split at h
      · rename_i r hr; cases h; exact LRel.cons (evalO_rel hA hv) (evalOs_rel hA hr)
      · cases h
    · cases h

theorem partE_rel {t : TypeId} {l : List V} {off : Nat} {v : V} (h : partE P t l off = some v) {A : Array Value} (hl : LRel ρ l A.toList) :
    ∃ X, (part t A off).run P w = .ok X w ∧ VRel ρ v X := by
  unfold partE at h
  split at h
  · rename_i ha
    split at h
    · rename_i n hn
      simp only [llen_eq, ltake_eq, ldrop_eq] at h
      cases hb : Nat.ble (off + n) l.length with
      | false => simp [hb] at h
      | true =>
        simp only [hb, cond_true, Option.some.injEq] at h
        subst h
        refine ⟨.agg (A.extract off (off + n)), by simp [part, run_isAgg ha, run_size hn], ?_⟩
        simp only [VRel]
        refine ⟨_, rfl, ?_⟩
        simp only [Array.toList_extract, List.extract_eq_take_drop, Nat.add_sub_cancel_left]
        exact (hl.drop off).take n
    · cases h
  · rename_i ha
    rw [lget_eq] at h
    obtain ⟨X, h1, h2⟩ := hl.get h
    simp only [Array.getElem?_toList] at h1
    exact ⟨X, by simp [part, run_isAgg ha, h1], h2⟩
  · cases h

structure CellsAt (ρ : Env) (w : World) (cs : List V) (x : Blk) : Prop where
  ex : ∃ C t fr, w.heap[x.B]? = some (.cells C t fr) ∧ C.size = x.S ∧ x.O + cs.length ≤ x.S ∧
      (∀ (i : Nat) (v : V), cs[i]? = some v → ∃ W, C[x.O + i]? = some W ∧ VRel ρ v W) ∧ (∀ k, k < x.S → (decide (fr.1 ≤ k) && decide (k < fr.2)) = false)

theorem SRel.cellsAt (h : SRel base ρ s w) {b : Nat} {cs : List V} (hc : cellsAt s b = some cs) {x0 : Blk} (hx0 : ρ b = some x0) : ∃ x, ρ b = some x ∧ CellsAt ρ w cs x := by
  unfold Eng.cellsAt at hc
  split at hc
  · rename_i cs' t ish hb
    cases hc
    obtain ⟨x, h1, _, C, t, fr, h3, h4, h5, h6, h7, _⟩ := h.obj' hb hx0
    exact ⟨x, h1, ⟨C, t, fr, h3, h4, h5, h6, h7⟩⟩
  · cases hc

theorem CellsAt.cell {cs : List V} {x : Blk} (h : CellsAt ρ w cs x) {i : Nat} {v : V} (hi : cs[i]? = some v) : ∃ W, w.cell? ⟨x.B, x.O + i, none⟩ = some W ∧ VRel ρ v W := by
  obtain ⟨C, t, fr, h1, h2, h3, h4, h5⟩ := h.ex
  obtain ⟨W, h6, h7⟩ := h4 i v hi
  exact ⟨W, by simp [World.cell?, h1, h6], h7⟩

theorem addr_add (B o i : Nat) : (⟨B, o, none⟩ : Addr).add i = ⟨B, o + i, none⟩ := by
  unfold Addr.add; split
  · rename_i e; subst e; rfl
  · rfl

theorem CellsAt.load {cs : List V} {x : Blk} (h : CellsAt ρ w cs x) (o n : Nat) (hn : o + n ≤ cs.length) :
    ∃ L : List Value, (loadCells ⟨x.B, x.O + o, none⟩ n).run P w = .ok L.toArray w ∧ LRel ρ ((cs.drop o).take n) L := by
  obtain ⟨C, t, fr, h1, h2, h3, h4, h5⟩ := h.ex
  have hlen : ((C.toList.drop (x.O + o)).take n).length = n := by simp; omega
  refine ⟨(C.toList.drop (x.O + o)).take n, ?_, ?_⟩
  · have := run_loadCells_list (P := P) w ⟨x.B, x.O + o, none⟩ ((C.toList.drop (x.O + o)).take n) (fun j v hj => by
      rw [addr_add]
      have hj' : j < n := by
        have := (List.getElem?_eq_some_iff.1 hj).1
        omega
      rw [List.getElem?_take_of_lt hj', List.getElem?_drop] at hj
      simp only [Array.getElem?_toList] at hj
      simp [World.cell?, h1, hj])
    rwa [hlen] at this
  · refine LRel.of_get (by simp; omega) fun i v hi => ?_
    have hi' : i < n := by
      have := (List.getElem?_eq_some_iff.1 hi).1
      simp at this; omega
    rw [List.getElem?_take_of_lt hi', List.getElem?_drop] at hi ⊢
    obtain ⟨W, h6, h7⟩ := h4 _ _ hi
    exact ⟨W, by simpa [Nat.add_assoc] using h6, h7⟩

theorem qLoad_rel (h : SRel base ρ s w) {t : TypeId} {a v : V} {A : Value} (hq : qLoad P s t a = some v) (ha : VRel ρ a A) :
    ∃ X, (Instr.loadAt t A).run P w = .ok X w ∧ VRel ρ v X := by
  unfold qLoad at hq
  split at hq
  · rename_i b o
    split at hq
    · rename_i cs hcs
      simp only [VRel] at ha
      obtain ⟨B, O, S, hb, rfl⟩ := ha
      obtain ⟨x, hx, hc⟩ := h.cellsAt hcs hb
      rw [hb] at hx; cases hx
      unfold partE at hq
      split at hq
      · rename_i ht
        split at hq
        · rename_i n hn
          simp only [llen_eq, ltake_eq, ldrop_eq] at hq
          cases hb' : Nat.ble (o + n) cs.length with
          | false => simp [hb'] at hq
          | true =>
            simp only [hb', cond_true, Option.some.injEq] at hq
            subst hq
            obtain ⟨L, h1, h2⟩ := hc.load (P := P) o n (by simpa [Nat.ble_eq] using hb')
            refine ⟨.agg L.toArray, ?_, ?_⟩
            · simp only at h1
              simp [Instr.loadAt, Instr.sureAddr, loadVar, run_isAgg ht, run_size hn, h1]
            · simp only [VRel]; exact ⟨_, rfl, by simpa using h2⟩
        · cases hq
      · rename_i ht
        rw [lget_eq] at hq
        obtain ⟨W, h1, h2⟩ := hc.cell hq
        exact ⟨W, by simp only at h1; simp [Instr.loadAt, Instr.sureAddr, loadVar, run_isAgg ht, h1], h2⟩
      · cases hq
    · cases hq
  · cases hq

theorem bits_toNat (k : IntKind) (x : Int) : (BitVec.ofInt k.bits x).toNat = ofI k x := by
  have h := modN_eq (kM k) (by cases k <;> decide) x
  rw [BitVec.toNat_ofInt, kM_eqN, ofI]
  omega

theorem intBin_rel {op : BinOp} {k : IntKind} {a b : Int} {v : V} (h : intBin op k a b = some v) (h1 : op ≠ .shl) (h2 : op ≠ .shr) (t : TypeId) :
    ∃ X, (Go.binOp op t (.int k a) (.int k b)).run P w = .ok X w ∧ VRel ρ v X := by
  have e1 := bits_toNat k a
  have e2 := bits_toNat k b
  have e3 : (~~~ BitVec.ofInt k.bits b).toNat = kM k - 1 - ofI k b := by rw [BitVec.toNat_not, e2, kM_eqN]
  have le1 : (!ltQ b a) = decide (a ≤ b) := by rw [ltQ_eq, Bool.eq_iff_iff]; simp
  have le2 : (!ltQ a b) = decide (a ≥ b) := by rw [ltQ_eq, Bool.eq_iff_iff]; simp
  cases op
  case shl => exact absurd rfl h1
  case shr => exact absurd rfl h2
  case add => simp only [intBin, Option.some.injEq] at h; subst h; exact ⟨.int k (k.wrap (a + b)), by simp [Go.binOp, Op.intArith], by simp only [VRel, wrapQ_eq]⟩
  case sub => simp only [intBin, Option.some.injEq] at h; subst h; exact ⟨.int k (k.wrap (a - b)), by simp [Go.binOp, Op.intArith], by simp only [VRel, wrapQ_eq]⟩
  case mul => simp only [intBin, Option.some.injEq] at h; subst h; exact ⟨.int k (k.wrap (a * b)), by simp [Go.binOp, Op.intArith], by simp only [VRel, wrapQ_eq]⟩
  case quo =>
    simp only [intBin, eqQ_eq] at h
    cases hb : (b == 0) with
    | true => simp [hb] at h
    | false =>
      simp only [hb, cond_false, Option.some.injEq] at h; subst h
      have hb' : b ≠ 0 := by simpa using hb
      exact ⟨.int k (k.wrap (a.tdiv b)), by simp [Go.binOp, Op.intDiv, hb'], by simp only [VRel, wrapQ_eq]⟩
  case rem =>
    simp only [intBin, eqQ_eq] at h
    cases hb : (b == 0) with
    | true => simp [hb] at h
    | false =>
      simp only [hb, cond_false, Option.some.injEq] at h; subst h
      have hb' : b ≠ 0 := by simpa using hb
      exact ⟨.int k (a.tmod b), by simp [Go.binOp, Op.intDiv, hb'], by simp only [VRel]⟩
  case and => simp only [intBin, Option.some.injEq] at h; subst h; exact ⟨_, by simp only [Go.binOp, Op.intBits, ne_eq, not_true_eq_false, if_false, Sem.run_pure, BitVec.toNat_and, e1, e2]; rfl, by simp only [VRel, wrapQ_eq]; rfl⟩
  case or => simp only [intBin, Option.some.injEq] at h; subst h; exact ⟨_, by simp only [Go.binOp, Op.intBits, ne_eq, not_true_eq_false, if_false, Sem.run_pure, BitVec.toNat_or, e1, e2]; rfl, by simp only [VRel, wrapQ_eq]; rfl⟩
  case xor => simp only [intBin, Option.some.injEq] at h; subst h; exact ⟨_, by simp only [Go.binOp, Op.intBits, ne_eq, not_true_eq_false, if_false, Sem.run_pure, BitVec.toNat_xor, e1, e2]; rfl, by simp only [VRel, wrapQ_eq]; rfl⟩
  case andNot => simp only [intBin, Option.some.injEq] at h; subst h; exact ⟨_, by simp only [Go.binOp, Op.intBits, ne_eq, not_true_eq_false, if_false, Sem.run_pure, BitVec.toNat_and, e1, e3]; rfl, by simp only [VRel, wrapQ_eq]; rfl⟩
  case eql => simp only [intBin, Option.some.injEq] at h; subst h; exact ⟨.bool (a == b), by simp [Go.binOp, Op.intCmp], by simp only [VRel, eqQ_eq]⟩
  case neq => simp only [intBin, Option.some.injEq] at h; subst h; exact ⟨.bool (a != b), by simp [Go.binOp, Op.intCmp], by simp only [VRel, eqQ_eq]; rfl⟩
  case lss => simp only [intBin, Option.some.injEq] at h; subst h; exact ⟨.bool (decide (a < b)), by simp [Go.binOp, Op.intCmp], by simp only [VRel, ltQ_eq]⟩
  case leq => simp only [intBin, Option.some.injEq] at h; subst h; exact ⟨.bool (decide (a ≤ b)), by simp [Go.binOp, Op.intCmp], by simp only [VRel, le1]⟩
  case gtr => simp only [intBin, Option.some.injEq] at h; subst h; exact ⟨.bool (decide (a > b)), by simp [Go.binOp, Op.intCmp], by simp only [VRel, ltQ_eq]⟩
  case geq => simp only [intBin, Option.some.injEq] at h; subst h; exact ⟨.bool (decide (a ≥ b)), by simp [Go.binOp, Op.intCmp], by simp only [VRel, le2]⟩

theorem shiftE_rel {op : BinOp} {k k' : IntKind} {a b : Int} {v : V} (h : shiftE op k a b = some v) :
    ∃ X, (Op.shift op k a k' b).run P w = .ok X w ∧ VRel ρ v X := by
  cases b with
  | negSucc n => simp [shiftE] at h
  | ofNat n =>
    have hn : ¬ ((n : Int) < 0) := by omega
    have hmin : (bif Nat.ble n k.bits then n else k.bits) = min n k.bits := by
      cases hb : Nat.ble n k.bits
      · have : ¬ n ≤ k.bits := by rw [← Nat.ble_eq, hb]; decide
        simp only [cond_false]; omega
      · rw [Nat.ble_eq] at hb
        simp only [cond_true]; omega
    simp only [shiftE, hmin] at h
    split at h <;> cases h
    · exact ⟨.int k (k.wrap (a * 2 ^ min n k.bits)), by simp [Op.shift, hn], by simp only [VRel, wrapQ_eq, shlQ_eq]⟩
    · exact ⟨.int k (a.fdiv (2 ^ min n k.bits)), by simp [Op.shift, hn], by simp only [VRel, shrQ_eq]⟩

theorem i64max : IntKind.i64.max = 9223372036854775807 := by decide

theorem strBin_rel {op : BinOp} {a b : BS} {v : V} (h : strBin op a b = some v) :
    ∃ X, (Op.stringOp op a.den b.den).run P w = .ok X w ∧ VRel ρ v X := by
  have he := BS.eq_iff a b
  have hl : BS.ltG a.list b.list = Op.bytesLess a.den.data.toList b.den.data.toList := BS.ltG_eq _ _
  cases op <;> simp only [strBin, Option.some.injEq, reduceCtorEq] at h
  case add =>
    cases hb : Nat.ble (a.n + b.n) 4611686018427387904 with
    | false => simp [hb] at h
    | true =>
      simp only [hb, cond_true, Option.some.injEq] at h
      subst h
      have hb' : a.n + b.n ≤ 4611686018427387904 := by simpa [Nat.ble_eq] using hb
      refine ⟨.string (a.den ++ b.den), ?_, by simp [VRel, BS.den_cat]⟩
      simp only [Op.stringOp, BS.den_size, i64max]
      rw [if_neg (by omega)]
      rfl
  all_goals
    subst h
    simp only [Op.stringOp, ByteArray.toList_eq, VRel, ← he, ← hl]
    exact ⟨_, rfl, rfl⟩

theorem frozen_false {C : Array Value} {t : TypeId} {fr : Nat × Nat} {B S : Nat} (hw : w.heap[B]? = some (.cells C t fr)) (hf : fr = (0, 0)) (o : Nat) (sp : Option Nat) :
    w.frozen? ⟨B, o, sp⟩ = false := by
  subst hf; simp [World.frozen?, hw]

theorem plain_rel (h : SRel base ρ s w) {b : Nat} (hb : plainBlock s b = true) {x0 : Blk} (hx0 : ρ b = some x0) : ∃ x C t, ρ b = some x ∧ w.heap[x.B]? = some (.cells C t (0, 0)) := by
  unfold plainBlock at hb
  split at hb
  · rename_i cs t0 hg
    obtain ⟨x, h1, _, C, t, fr, h3, _, _, _, _, h8⟩ := h.obj' hg hx0
    rw [h8 rfl] at h3
    exact ⟨x, C, t, h1, h3⟩
  · cases hb

theorem run_mayBeOne {a b : Addr} {C D : Array Value} {t u : TypeId} (ha : w.heap[a.block]? = some (.cells C t (0, 0))) (hb : w.heap[b.block]? = some (.cells D u (0, 0))) :
    (mayBeOne a b).run P w = .ok false w := by
  have s1 : (stringish a).run P w = .ok false w := by simp [stringish, World.frozen?, World.shape?, ha]
  have s2 : (stringish b).run P w = .ok false w := by simp [stringish, World.frozen?, World.shape?, hb]
  have sh1 : w.shape? a.block = some (t, C.size) := by simp [World.shape?, ha]
  have sh2 : w.shape? b.block = some (u, D.size) := by simp [World.shape?, hb]
  simp [mayBeOne, s1, s2, sh1, sh2]

theorem run_sameAddr {a b : Addr} {C D : Array Value} {t u : TypeId} (ha : w.heap[a.block]? = some (.cells C t (0, 0))) (hb : w.heap[b.block]? = some (.cells D u (0, 0))) (hne : a.block ≠ b.block) :
    (sameAddr a b).run P w = .ok false w := by
  have n1 : (noView a).run P w = .ok () w := by simp [noView, viewAt, World.shape?, ha]
  have n2 : (noView b).run P w = .ok () w := by simp [noView, viewAt, World.shape?, hb]
  have e : (a.block == b.block) = false := by simpa using hne
  have f1 : w.frozen? a = false := by simp [World.frozen?, ha]
  simp [sameAddr, e, f1, n1, n2, run_mayBeOne ha hb]

set_option maxHeartbeats 800000 in
theorem eqE_rel (h : SRel base ρ s w) {t : TypeId} {a b : V} {r : Bool} (hq : eqE P s t a b = some r) {A B : Value} (ha : VRel ρ a A) (hb : VRel ρ b B) (d : Nat) :
    (Op.equalIn (d + 1) t A B).run P w = .ok r w := by
  unfold eqE at hq
  split at hq <;> rename_i hd
  · split at hq <;> cases hq
    simp only [VRel] at ha hb; subst ha; subst hb
    simp [Op.equalIn, run_und hd]
  · rename_i e
    split at hq
    · cases hq; simp only [VRel] at ha hb; subst ha; subst hb; simp [Op.equalIn, run_und hd]
    · cases hq; simp only [VRel] at ha hb; obtain ⟨_, _, _, _, rfl⟩ := hb; subst ha; simp [Op.equalIn, run_und hd]
    · cases hq; simp only [VRel] at ha hb; obtain ⟨_, _, _, _, rfl⟩ := ha; subst hb; simp [Op.equalIn, run_und hd]
    · rename_i x o y q
      split at hq
      · rename_i n hn
        cases hp : (plainBlock s x && plainBlock s y) with
        | false => simp [hp] at hq
        | true =>
          simp only [hp, cond_true] at hq
          simp only [Bool.and_eq_true] at hp
          simp only [VRel] at ha hb
          obtain ⟨B1, O1, S1, hB1, rfl⟩ := ha
          obtain ⟨B2, O2, S2, hB2, rfl⟩ := hb
          obtain ⟨x1, C1, t1, hx1, hw1⟩ := plain_rel h hp.1 hB1
          obtain ⟨x2, C2, t2, hx2, hw2⟩ := plain_rel h hp.2 hB2
          rw [hB1] at hx1; cases hx1
          rw [hB2] at hx2; cases hx2
          simp only [Op.equalIn, Sem.run_bind, run_und hd, Result.andThen_ok, run_size hn]
          cases hxy : Nat.beq x y with
          | true =>
            have e' : x = y := by simpa using hxy
            subst e'
            rw [hB1] at hB2; cases hB2
            simp only [hxy, cond_true, Option.some.injEq] at hq
            subst hq
            simp only [sameAddr]
            simp
            rw [Bool.eq_iff_iff]; simp
          | false =>
            simp only [hxy, cond_false, Option.some.injEq] at hq
            subst hq
            have hne : x ≠ y := by intro e; subst e; simp at hxy
            have hBne : B1 ≠ B2 := by
              unfold plainBlock at hp
              obtain ⟨p1, p2⟩ := hp
              split at p1
              · rename_i g1
                split at p2
                · rename_i g2
                  exact h.inj x y _ _ _ _ g1 g2 hB1 hB2 hne
                · cases p2
              · cases p1
            simp only [ne_eq, Nat.add_eq_zero_iff, Nat.succ_ne_self, and_false, not_false_eq_true, if_true, Nat.add_one_ne_zero]
            exact run_sameAddr hw1 hw2 hBne
      · cases hq
    · cases hq
  · split at hq <;> cases hq <;> simp only [VRel] at ha hb
    · subst ha; subst hb; simp [Op.equalIn, run_und hd]
    · obtain ⟨_, _, _, _, _, rfl, _⟩ := hb; subst ha; simp [Op.equalIn, run_und hd]
    · obtain ⟨_, _, rfl, _⟩ := hb; subst ha; simp [Op.equalIn, run_und hd]
    · obtain ⟨_, _, rfl, _⟩ := ha; subst hb; simp [Op.equalIn, run_und hd]
    · obtain ⟨_, _, _, _, _, rfl, _⟩ := ha; subst hb; simp [Op.equalIn, run_und hd]
  · split at hq <;> cases hq <;> simp only [VRel] at ha hb
    · subst ha; subst hb; simp [Op.equalIn, run_und hd]
    · obtain ⟨_, _, _, _, rfl⟩ := hb; subst ha; simp [Op.equalIn, run_und hd]
    · obtain ⟨_, _, _, _, rfl⟩ := ha; subst hb; simp [Op.equalIn, run_und hd]
  · split at hq <;> cases hq <;> simp only [VRel] at ha hb
    · subst ha; subst hb; simp [Op.equalIn, run_und hd]
    · obtain ⟨_, _, rfl, _⟩ := hb; subst ha; simp [Op.equalIn, run_und hd]
    · obtain ⟨_, _, rfl, _⟩ := ha; subst hb; simp [Op.equalIn, run_und hd]
    · obtain ⟨_, _, _, _, rfl⟩ := hb; subst ha; simp [Op.equalIn, run_und hd]
    · obtain ⟨_, _, _, _, rfl⟩ := ha; subst hb; simp [Op.equalIn, run_und hd]
  · split at hq <;> cases hq <;> simp only [VRel] at ha hb
    · obtain ⟨_, rfl, _⟩ := hb; subst ha; simp [Op.equalIn, run_und hd]
    · obtain ⟨_, rfl, _⟩ := ha; subst hb; simp [Op.equalIn, run_und hd]
  · cases hq

end
end Go.Eng
