/-
  Texts of this claim, one behind the other: SymJ. Each says its own conditions.
-/
import Derived.Test.YtlfhiophojahbaaCloM12

set_option linter.unusedVariables false
set_option linter.unusedSimpArgs false
set_option linter.unusedSectionVars false
section
namespace Go.Sym
set_option linter.unusedSimpArgs false
set_option linter.unusedVariables false

def seg {α : Type} (L : List α) (lo len : Nat) : List α := (L.take (lo + len)).drop lo
theorem seg_length {α : Type} {L : List α} {lo len : Nat} (h : lo + len ≤ L.length) : (seg L lo len).length = len := by simp [seg]; omega

noncomputable section
variable (P : Program)
def zerosE (ts : Array TypeId) : Bool :=
  match ts[1]? with
  | some t1 => (match P.underlying t1 with
    | some (.int _) => true
    | some _ => false
    | none => true)
  | none => false
def St.move (s : St) (b : Nat) (o : EObj) : St := ⟨(s.heap.set b none).set s.next (some o), s.next + 1⟩
def St.drop (s : St) (b : Nat) : St := ⟨s.heap.set b none, s.next⟩

def srcRows (s : St) (e : List Ty) (x : V) : Option (List Bool × List (rowDen e)) :=
  match x with
  | .nils => some ([], [])
  | .lst e' L _ => match asL e e' L with
    | some M => some ([], M)
    | none => none
  | .rs b lo len _ _ es => match rowsAt s b with
    | some ⟨e', L⟩ => match asL e e' L with
      | some M => bif Nat.beq es e.length then some ([decide (lo + len ≤ M.length)], seg M lo len) else none
      | none => none
    | none => none
  | .str t => match asL e [.int .u8] (bytesL t) with
    | some M => some ([], M)
    | none => none
  | .sl b o len _ _ es => match cellsAt s b with
    | some cs => bif Nat.beq es e.length && Nat.ble (o + len * es) (llen cs) then (match ofRows e len (ltake (ldrop cs o) (len * es)) with
      | some M => some ([], M)
      | none => none) else none
    | none => none
  | _ => none
noncomputable def roomB : Nat → Nat → Bool := hide fun n b => decide ((2 * n + 768) * b ≤ 281474976710656)
theorem roomB_iff (n b : Nat) : roomB n b = true ↔ (2 * n + 768) * b ≤ 281474976710656 := by unfold roomB; rw [hide_eq, decide_eq_true_iff]
noncomputable def roomy (i : TypeInfo) (n : Nat) : List Bool := [roomB n i.bytes, decide (n ≤ 1099511627776)]
def eAppendR (s : St) (e : List Ty) (el : TypeId) (i : TypeInfo) (a x : V) : Er :=
  match srcRows s e x with
  | none => none
  | some (cs, M) => match a with
    | .nils => some (cs ++ roomy i M.length, .rs s.next 0 M.length M.length false e.length, s.new (.rows e M el false))
    | .lst e' L true => match asL e e' L with
      | some L' => some (cs ++ (decide (0 < M.length ∨ L'.length = 0) :: roomy i (L'.length + M.length)), .rs s.next 0 (L'.length + M.length) (L'.length + M.length) false e.length, s.new (.rows e (L' ++ M) el false))
      | none => none
    | .rs b lo len _ _ es => match s.heap.get b with
      | some (.rows e' L _ ish) => match asL e e' L with
        | some L' => bif Nat.beq es e.length then
            some (cs ++ (decide (lo + len ≤ L'.length) :: roomy i (len + M.length)), .rs s.next 0 (len + M.length) (len + M.length) false es, s.move b (.rows e (seg L' lo len ++ M) el ish)) else none
        | none => none
      | _ => none
    | _ => none

def eOver (s : St) (e : List Ty) (a x : V) : Er :=
  match a, x with
  | .rs b lo len cap false es, .rs b2 lo2 len2 _ _ es2 => bif Nat.beq b b2 && (Nat.beq es e.length && Nat.beq es2 e.length) then
      (match s.heap.get b with
      | some (.rows e' L t' ish) => match asL e e' L with
        | some L' => some ([decide (lo2 + len2 ≤ L'.length), decide (len + len2 ≤ cap), decide (lo + len + len2 ≤ L'.length)], .rs b lo (len + len2) cap false es,
            s.upd b (.rows e (L'.take (lo + len) ++ (seg L' lo2 len2 ++ L'.drop (lo + len + len2))) t' ish))
        | none => none
      | _ => none) else none
  | _, _ => none

def eGrow (s : St) (e : List Ty) (el : TypeId) (i : TypeInfo) (a x : V) : Er :=
  match a with
  | .rs b lo len cap true es => (match srcRows s e x with
    | some (cs, M) => (match s.heap.get b with
      | some (.rows e' L _ _) => (match asL e e' L with
        | some L' => bif Nat.beq es e.length then
            some (cs ++ (decide (lo + len ≤ L'.length) :: decide (cap < len + M.length ∨ cap = 0) :: roomy i (len + M.length)), .rs s.next 0 (len + M.length) (len + M.length) false es, s.new (.rows e (seg L' lo len ++ M) el false)) else none
        | none => none)
      | _ => none)
    | none => none)
  | _ => none

def sliceCells (s : St) (v : V) (n : Nat) : Option (List V) :=
  match v with
  | .nils => bif Nat.beq n 0 then some [] else none
  | .sl b o _ _ _ es => match cellsAt s b with
    | some cs => bif Nat.ble (o + n * es) (llen cs) then some (ltake (ldrop cs o) (n * es)) else none
    | none => none
  | _ => none
def lenE : V → Option Nat
  | .nils => some 0
  | .sl _ _ len _ _ _ => some len
  | _ => none
def esOk (v : V) (sz : Nat) : Bool :=
  match v with
  | .sl _ _ _ _ _ es => Nat.beq es sz
  | .nils => true
  | _ => false
def srcCells (s : St) (x : V) (sz : Nat) : Option (List V) :=
  bif esOk x sz then (match lenE x with
    | some n => sliceCells s x n
    | none => none) else none
def srcE (s : St) (i : TypeInfo) (x : V) : Option (Nat × List V) :=
  match lenE x with
    | some n => match srcCells s x i.size with
      | some new => some (n, new)
      | none => none
    | none => none
def eAppendC (s : St) (e : TypeId) (i : TypeInfo) (a x : V) : Er :=
  match srcE s i x with
  | none => none
  | some (n, new) =>
  match a with
  | .nils =>
    bif Nat.beq n 0 then some ([], .nils, s) else
    bif Nat.ble ((2 * n + 768) * i.bytes) 281474976710656 && Nat.ble n 1099511627776 then
      some ([], .sl s.next 0 n n false i.size, s.new (.cells new e false)) else none
  | .sl b o len cap x' es =>
    bif !Nat.beq es i.size then none else
    bif Nat.ble (len + n) cap then
      (match s.heap.get b with
      | some (.cells cs t' ish) => bif Nat.ble (o + (len + n) * es) (llen cs) && lall oneV new then some ([], .sl b o (len + n) cap x' es, s.upd b (.cells (setAll cs (o + len * es) new) t' ish)) else none
      | _ => none)
    else
    bif !(Nat.ble ((2 * (len + n) + 768) * i.bytes) 281474976710656 && Nat.ble (len + n) 1099511627776) then none else
    match s.heap.get b with
    | some (.cells cs t' ish) =>
      bif !(Nat.ble (o + len * es) (llen cs) && lall oneV new) then none else
      bif x' then some ([], .sl s.next 0 (len + n) (len + n) false es, s.new (.cells (lapp (ltake (ldrop cs o) (len * es)) new) e false))
      else some ([], .sl s.next 0 (len + n) (len + n) false es, s.move b (.cells (lapp (ltake (ldrop cs o) (len * es)) new) e ish))
    | _ => none
  | _ => none

def eAppend (s : St) (ts : Array TypeId) (a x : V) : Er :=
  match ts[0]? with
  | none => none
  | some t =>
  match P.underlying t with
  | some (.slice el) =>
    match P.info? el, zeroE P el with
    | some i, some zv => match cellsO zv with
      | some z =>
        bif zerosE P ts || !(Nat.beq (llen z) i.size && Nat.ble 1 i.size) then none else
        (match rowTy P el with
        | some e => (match eOver s e a x with
          | some r => some r
          | none => (match eGrow s e el i a x with
            | some r => some r
            | none => (match eAppendR s e el i a x with
              | some r => some r
              | none => eAppendC s el i a x)))
        | none => eAppendC s el i a x)
      | none => none
    | _, _ => none
  | _ => none

def eCopy (s : St) (ts : Array TypeId) (d x : V) : Er :=
  match ts[0]? with
  | none => none
  | some t =>
  match P.underlying t with
  | some (.slice el) => match rowTy P el with
    | none => none
    | some e => match srcRows s e x with
      | none => none
      | some (cs, M) => match d with
        | .nils => some (cs, .int .i64 0, s)
        | .rs b lo len _ _ es => match s.heap.get b with
          | some (.rows e' L t' ish) => match asL e e' L with
            | some L' => bif Nat.beq es e.length then
                some (cs ++ [decide (lo + len ≤ L'.length)], .int .i64 (Int.ofNat (Nat.min M.length len)), s.upd b (.rows e (L'.take lo ++ (M.take (Nat.min M.length len) ++ L'.drop (lo + Nat.min M.length len))) t' ish)) else none
            | none => none
          | _ => none
        | _ => none
  | _ => none
def eClear (s : St) (ts : Array TypeId) (d : V) : Er :=
  match ts[0]? with
  | none => none
  | some t =>
  match P.underlying t with
  | some (.slice el) => match rowTy P el, zeroE P el with
    | some e, some zv => (match cellsO zv with
      | some z => (match ofRow e z with
        | some r => (match d with
          | .nils => some ([], .undef, s)
          | .rs b lo len _ _ es => (match s.heap.get b with
            | some (.rows e' L t' ish) => (match asL e e' L with
              | some L' => bif Nat.beq es e.length then
                  some ([decide (lo + len ≤ L'.length)], .undef, s.upd b (.rows e (L'.take lo) t' ish)) else none
              | none => none)
            | _ => none)
          | _ => none)
        | none => none)
      | none => none)
    | _, _ => none
  | _ => none
end

section
variable {P : Program} {own : Own} {ρ : Env} {s : St} {w : World}

theorem growBy_le (n : Nat) : ∀ r c, c ≤ n + (n + 768) / 4 → Builtin.growBy n r c ≤ n + (n + 768) / 4
  | 0, c, h => h
  | r + 1, c, h => by
    simp only [Builtin.growBy]
    split
    · exact h
    · exact growBy_le n r _ (by omega)
theorem nextcap_le {n c : Nat} (h : c < n) : Builtin.nextslicecap n c ≤ 2 * n + 768 := by
  unfold Builtin.nextslicecap
  split
  · omega
  · split
    · omega
    · have := growBy_le n 4 c (by omega)
      omega

theorem SRel.newLong (h : SRel own ρ s w) {cs : List V} {L : List Value} (hc : LRel ρ cs L) (R : Array Value) (t t' : TypeId) (d : Nat) (ish : Bool) :
    ρ.le (ρ.put s.next ⟨w.heap.size, 0, (L.toArray ++ R).size⟩) ∧ SRel own (ρ.put s.next ⟨w.heap.size, 0, (L.toArray ++ R).size⟩) (s.new (.cells cs t ish)) { w with drawn := d, heap := w.heap.push (.cells (L.toArray ++ R) t') } ∧
      Fr own w { w with drawn := d, heap := w.heap.push (.cells (L.toArray ++ R) t') } := by
  have hle := Env.le_put ⟨w.heap.size, 0, (L.toArray ++ R).size⟩ h.fresh
  refine ⟨hle, h.new _ (.cells (L.toArray ++ R) t') _ rfl ⟨_, t', (0, 0), rfl, rfl, ?_, ?_, by simp, fun _ => rfl⟩, rfl, rfl, rfl, by simp, fun k hk => ?_⟩
  · have := hc.length; simp; omega
  · intro i v hi
    obtain ⟨X, e1, e2⟩ := hc.get hi
    have hlt := (List.getElem?_eq_some_iff.1 e1).1
    refine ⟨X, ?_, VRel.mono hle _ _ e2⟩
    rw [Nat.zero_add, Array.getElem?_append_left (by simpa using hlt)]
    simpa using e1
  · simp only
    rw [Array.getElem?_push, if_neg (fun e => hk (h.le k (by omega)))]
theorem rows_long {φ : Nat → Nat → Option Value} {e : List Ty} {L : List (rowDen e)} {V : List Value} (h : RowsAt φ e L (fun k => V[k]?)) (R : Array Value) : RowsAt φ e L (fun k => (V.toArray ++ R)[k]?) :=
  h.mono (fun _ _ _ hv => hv) fun j v hj => by
    have hlt := (List.getElem?_eq_some_iff.1 hj).1
    rw [Array.getElem?_append_left (by simpa using hlt)]
    simpa using hj
theorem rows_app {φ : Nat → Nat → Option Value} {e : List Ty} {L M : List (rowDen e)} {C D : Nat → Option Value} (h : RowsAt φ e L C) (k : RowsAt φ e M (fun j => D (L.length * e.length + j))) (hC : ∀ j, j < L.length * e.length → D j = C j) : RowsAt φ e (L ++ M) D := by
  intro i hi
  rcases Nat.lt_or_ge i L.length with h1 | h1
  · have e1 : rowAt e (L ++ M) i = rowAt e L i := by simp [rowAt, List.getD_eq_getElem?_getD, List.getElem?_append_left h1]
    rw [e1]
    refine CRel.mono (fun _ _ _ hv => hv) e _ (fun j v hv => ?_) (CRel.ltφ e _ (h i h1))
    split at hv
    · rename_i hj
      rw [hC _ ?_]; exact hv
      have := Nat.mul_le_mul_right e.length (show i + 1 ≤ L.length from h1)
      rw [Nat.succ_mul] at this; omega
    · cases hv
  · have e1 : rowAt e (L ++ M) i = rowAt e M (i - L.length) := by simp [rowAt, List.getD_eq_getElem?_getD, List.getElem?_append_right h1]
    rw [e1]
    have := k (i - L.length) (by simp at hi; omega)
    refine CRel.mono (fun _ _ _ hv => hv) e _ (fun j v hv => ?_) this
    rw [← hv]; congr 1
    rw [← Nat.add_assoc, ← Nat.add_mul]; congr 2; omega
theorem SRel.newLongRows (h : SRel own ρ s w) {e : List Ty} {L : List (rowDen e)} {V : List Value} (hl : L.length * e.length ≤ V.length) (hc : RowsAt ρ.φ e L (fun k => V[k]?)) (R : Array Value) (t t' : TypeId) (d : Nat) (ish : Bool) :
    ρ.le (ρ.put s.next ⟨w.heap.size, 0, (V.toArray ++ R).size⟩) ∧ SRel own (ρ.put s.next ⟨w.heap.size, 0, (V.toArray ++ R).size⟩) (s.new (.rows e L t ish)) { w with drawn := d, heap := w.heap.push (.cells (V.toArray ++ R) t') } ∧
      Fr own w { w with drawn := d, heap := w.heap.push (.cells (V.toArray ++ R) t') } := by
  have hle := Env.le_put ⟨w.heap.size, 0, (V.toArray ++ R).size⟩ h.fresh
  refine ⟨hle, h.new _ (.cells (V.toArray ++ R) t') _ rfl ⟨_, t', (0, 0), rfl, rfl, ?_, ?_, by simp, fun _ => rfl⟩, rfl, rfl, rfl, by simp, fun k hk => ?_⟩
  · simp; omega
  · show RowsAt ρ.φ e L (fun k => (V.toArray ++ R)[0 + k]?)
    simpa using rows_long hc R
  · simp only
    rw [Array.getElem?_push, if_neg (fun e => hk (h.le k (by omega)))]
theorem SRel.ghost (h : SRel own ρ s w) (o : EObj) : SRel own ρ (s.new o) w := by
  have key : ∀ b o' x, (s.new o).heap.get b = some o' → ρ b = some x → s.heap.get b = some o' := by
    intro b o' x hb hx
    simp only [St.new, T.get_set] at hb
    split at hb
    · rename_i e; subst e; rw [h.fresh.1] at hx; cases hx
    · exact hb
  refine ⟨h.le, fun b o' x hb hx => h.obj b o' x (key b o' x hb hx) hx, fun b b' o1 o2 x x' hb hb' hx hx' => h.inj b b' o1 o2 x x' (key _ _ _ hb hx) (key _ _ _ hb' hx') hx hx', fun b x hx => ?_, ?_, h.fz, h.old⟩
  · have := h.dom b x hx; show b < s.next + 1; omega
  · have := h.top; show ρ.n ≤ s.next + 1; omega
theorem SRel.strike (h : SRel own ρ s w) (b : Nat) : SRel own ρ (s.drop b) w := by
  have key : ∀ k o', (s.drop b).heap.get k = some o' → s.heap.get k = some o' := by
    intro k o' hk
    simp only [St.drop, T.get_set] at hk
    split at hk
    · cases hk
    · exact hk
  exact ⟨h.le, fun k o' x hk hx => h.obj k o' x (key _ _ hk) hx, fun k k' o1 o2 x x' hk hk' hx hx' => h.inj k k' o1 o2 x x' (key _ _ hk) (key _ _ hk') hx hx', h.dom, h.top, h.fz, h.old⟩
theorem SRel.move (h : SRel own ρ s w) {b : Nat} {o : EObj} {x : Blk} (hb : s.heap.get b = some o) (hx : ρ b = some x) (o1 : EObj) (X : Obj) (O1 : Nat) {w' : World} (hw : w'.heap = w.heap.setIfInBounds x.B X)
    (ho : ORel (ρ.put s.next ⟨x.B, O1, x.S⟩) O1 x.S (some X) o1) : SRel own (ρ.put s.next ⟨x.B, O1, x.S⟩) (s.move b o1) w' := by
  have hlt := h.lt hb hx
  have hle := Env.le_put ⟨x.B, O1, x.S⟩ h.fresh
  have hbn : b < s.next := h.dom _ _ hx
  have get : ∀ k v, (s.move b o1).heap.get k = some v → (k = s.next ∧ v = o1) ∨ (k ≠ s.next ∧ k ≠ b ∧ s.heap.get k = some v) := by
    intro k v hk
    simp only [St.move, T.get_set] at hk
    split at hk
    · rename_i e; cases hk; exact .inl ⟨e, rfl⟩
    · rename_i e
      split at hk
      · cases hk
      · rename_i e2; exact .inr ⟨e, e2, hk⟩
  obtain ⟨y, g1, g2, _⟩ := h.obj' hb hx
  rw [hx] at g1; cases g1
  refine ⟨by rw [hw]; simpa using h.le, ?_, ?_, ?_, by simp only [Env.put, St.move]; have := h.top; omega, ?_, h.old⟩
  · intro k v z hk hz
    rcases get k v hk with ⟨rfl, rfl⟩ | ⟨e1, e2, hk⟩
    · rw [Env.put_same] at hz; cases hz
      exact ⟨g2, by rw [hw]; simpa [hlt] using ho⟩
    · rw [Env.put_ne e1] at hz
      obtain ⟨y, h1, h2, h3⟩ := h.obj' hk hz
      rw [hz] at h1; cases h1
      have h1 := hz
      refine ⟨h2, ?_⟩
      have := h.inj k b _ _ z x hk hb h1 hx e2
      rw [hw, Array.getElem?_setIfInBounds_ne (fun k => this k.symm)]
      exact h3.mono hle
  · intro k k' v v' y y' hk hk' hy hy' hne
    rcases get k v hk with ⟨rfl, rfl⟩ | ⟨e1, e2, g⟩ <;> rcases get k' v' hk' with ⟨rfl, rfl⟩ | ⟨e1', e2', g'⟩
    · exact absurd rfl hne
    · rw [Env.put_same] at hy; cases hy
      rw [Env.put_ne e1'] at hy'
      exact fun e => h.inj k' b _ _ y' x g' hb hy' hx e2' e.symm
    · rw [Env.put_same] at hy'; cases hy'
      rw [Env.put_ne e1] at hy
      exact h.inj k b _ _ y x g hb hy hx e2
    · rw [Env.put_ne e1] at hy
      rw [Env.put_ne e1'] at hy'
      exact h.inj k k' v v' y y' g g' hy hy' hne
  · intro k y hy
    simp only [Env.put] at hy
    show k < s.next + 1
    split at hy
    · omega
    · have := h.dom k y hy; omega
  · refine SRel.fz_of (own := own) (ρ := ρ) (s := s) (w := w) h fun B => ?_
    by_cases e : x.B = B
    · exact .inr (.inl (e ▸ g2.2))
    · exact .inr (.inr (by rw [hw, Array.getElem?_setIfInBounds_ne e]))

theorem wrap_small2 {n : Nat} (h : n ≤ 1099511627776) : IntKind.i64.wrap (n : Int) = n := wrap_small (by omega)

def SrcOK (P : Program) (ts : Array TypeId) (e : TypeId) (i : TypeInfo) (X : Value) (n : Nat) (w w' : World) (L : List Value) : Prop :=
  (zerosE P ts = false ∧ (Builtin.lenOf X).run P w = .ok n w ∧ (Builtin.firstCells i.size n X).run P w' = .ok L.toArray w') ∨
  ((∃ t1 k, ts[1]? = some t1 ∧ P.underlying t1 = some (.int k)) ∧ X = .int .i64 (n : Int) ∧ n * i.bytes ≤ 281474976710656 ∧ n ≤ 1099511627776 ∧
    ((n * i.size = 0 ∧ L = []) ∨ (n * i.size ≠ 0 ∧ ∃ Z, (zeroValue e).run P w' = .ok Z w' ∧ L.toArray = Builtin.zeroCells Z.cells n)))

theorem notInt {ts : Array TypeId} (hz : zerosE P ts = false) : ts[1]? = none ∨ ∃ t1 d, ts[1]? = some t1 ∧ P.underlying t1 = some d ∧ ∀ k, d ≠ .int k := by
  unfold zerosE at hz
  cases h1 : ts[1]? with
  | none => exact .inl rfl
  | some t1 =>
    simp only [h1] at hz
    cases hu : P.underlying t1 with
    | none => simp [hu] at hz
    | some d => exact .inr ⟨t1, d, rfl, hu, fun k e => by subst e; simp [hu] at hz⟩

theorem run_append_in {t e : TypeId} {ts : Array TypeId} {ty : TypeId} {X : Value} {base : Option Addr} {len cap n : Nat} {i : TypeInfo} {L : List Value} (ht : ts[0]? = some t) (hd : P.underlying t = some (.slice e)) (hi : P.info? e = some i)
    (hs : SrcOK P ts e i X n w w L) (hle : len + n ≤ cap) :
    (Builtin.append_ ts ty #[.slice base len cap, X]).run P w = ((match base with | some a => storeCells (a.add (len * i.size)) L | none => pure () : Sem Unit).run P w).andThen fun _ w' => .ok (.slice base (len + n) cap) w' := by
  rcases hs with ⟨hz, hn, hL⟩ | ⟨⟨t1, k, h1, hu⟩, rfl, hb, hm, hL⟩
  · rcases notInt hz with h1 | ⟨t1, d, h1, hu, hd'⟩
    · simp only [Builtin.append_, ht, h1, List.getElem?_toArray, List.getElem?_cons_zero, List.getElem?_cons_succ, Sem.run_bind, run_und hd, Result.andThen_ok, info_size hi, Sem.run_pure, Bool.false_eq_true, if_false, hn, hle, if_true, Bool.not_false, hL]
      cases base with
      | none => simp
      | some a => simp
    · cases d <;> first
        | exact absurd rfl (hd' _)
        | (simp only [Builtin.append_, ht, h1, List.getElem?_toArray, List.getElem?_cons_zero, List.getElem?_cons_succ, Sem.run_bind, run_und hd, run_und hu, Result.andThen_ok, info_size hi, Sem.run_pure, Bool.false_eq_true, if_false, hn, hle, if_true, Bool.not_false, hL]
           cases base with
           | none => simp
           | some a => simp)
  · have hw := wrap_small2 hm
    have hti : (typeInfo e).run P w = .ok i w := by simp [typeInfo, hi]
    have hneg : ¬ ((n : Int) < 0) := by omega
    have hbb : ¬ ((n : Int) * (i.bytes : Int) > 2 ^ 48) := by
      have : ((n * i.bytes : Nat) : Int) ≤ 281474976710656 := by omega
      rw [Int.natCast_mul] at this; omega
    have hbb' : ¬ (281474976710656 < (n : Int) * (i.bytes : Int)) := by simpa using hbb
    rcases hL with ⟨h0, rfl⟩ | ⟨h0, Z, hZ, hL⟩
    · cases base with
      | none => simp [Builtin.append_, ht, h1, run_und hd, run_und hu, info_size hi, asInt, run_asIntOf, hw, hneg, hti, hbb', hle, h0]
      | some a => simp [Builtin.append_, ht, h1, run_und hd, run_und hu, info_size hi, asInt, run_asIntOf, hw, hneg, hti, hbb', hle, h0]
    · have hL' : L = (Builtin.zeroCells Z.cells n).toList := by rw [← hL]
      have h0' : ¬ (n = 0 ∨ i.size = 0) := by rw [← Nat.mul_eq_zero]; exact h0
      subst hL'
      cases base with
      | none => simp [Builtin.append_, ht, h1, run_und hd, run_und hu, info_size hi, asInt, run_asIntOf, hw, hneg, hti, hbb', hle, h0', hZ]
      | some a =>
        simp [Builtin.append_, ht, h1, run_und hd, run_und hu, info_size hi, asInt, run_asIntOf, hw, hneg, hti, hbb', hle, h0', hZ]
        exact fun hh => absurd hh h0

theorem run_append_grow {t e : TypeId} {ts : Array TypeId} {ty : TypeId} {X : Value} {base : Option Addr} {len cap n : Nat} {i : TypeInfo} {K L : List Value} {Z : Value} (ht : ts[0]? = some t) (hd : P.underlying t = some (.slice e)) (hi : P.info? e = some i)
    (hs : SrcOK P ts e i X n w { w with drawn := w.drawn + 1 } L)
    (hK : (Builtin.firstCells i.size len (.slice base len cap)).run P { w with drawn := w.drawn + 1 } = .ok K.toArray { w with drawn := w.drawn + 1 })
    (hZ : (zeroValue e).run P { w with drawn := w.drawn + 1 } = .ok Z { w with drawn := w.drawn + 1 })
    (hgt : cap < len + n) (hb : (2 * (len + n) + 768) * i.bytes ≤ 281474976710656) (hm : len + n ≤ 1099511627776) :
    ∃ cap', len + n ≤ cap' ∧ (Builtin.append_ ts ty #[.slice base len cap, X]).run P w =
      .ok (.slice (some ⟨w.heap.size, 0, none⟩) (len + n) cap') { w with drawn := w.drawn + 1, heap := w.heap.push (.cells (K.toArray ++ L.toArray ++ Builtin.zeroCells Z.cells (cap' - (len + n))) e) } := by
  obtain ⟨cap', hcap, hrun⟩ : ∃ cap', len + n ≤ cap' ∧ (choose (.appendCap (len + n) cap e)).run P w = .ok cap' { w with drawn := w.drawn + 1 } := by
    refine ⟨_, ?_, by simp [Question.forced]; rfl⟩
    simp [Question.cut]
  have hni : ¬ len + n ≤ cap := by omega
  have h63 : ¬ (((len + n : Nat) : Int) > IntKind.i64.max) := by rw [i64max]; omega
  have hti : (typeInfo e).run P w = .ok i w := by simp [typeInfo, hi]
  have hti' : (typeInfo e).run P { w with drawn := w.drawn + 1 } = .ok i { w with drawn := w.drawn + 1 } := by simp [typeInfo, hi]
  have hcapb : ¬ (Builtin.nextslicecap (len + n) cap * i.bytes > 2 ^ 48) := by
    have h1 := nextcap_le hgt
    have h2 := Nat.mul_le_mul_right i.bytes h1
    omega
  refine ⟨cap', hcap, ?_⟩
  rcases hs with ⟨hz, hn, hL⟩ | ⟨⟨t1, k, h1, hu⟩, rfl, hbn, hmn, hL⟩
  · rcases notInt hz with h1 | ⟨t1, d, h1, hu, hd'⟩
    · simp only [Builtin.append_, ht, h1, List.getElem?_toArray, List.getElem?_cons_zero, List.getElem?_cons_succ, Sem.run_bind, run_und hd, Result.andThen_ok, info_size hi, Sem.run_pure, Bool.false_eq_true, if_false, hn, hni, h63, false_and, hti, hti', hcapb, hrun, run_askRoom, hK, Bool.not_false, if_true, hL, hZ, newRow, run_newObj]
    · cases d <;> first
        | exact absurd rfl (hd' _)
        | simp only [Builtin.append_, ht, h1, List.getElem?_toArray, List.getElem?_cons_zero, List.getElem?_cons_succ, Sem.run_bind, run_und hd, run_und hu, Result.andThen_ok, info_size hi, Sem.run_pure, Bool.false_eq_true, if_false, hn, hni, h63, false_and, hti, hti', hcapb, hrun, run_askRoom, hK, Bool.not_false, if_true, hL, hZ, newRow, run_newObj]
  · have hw := wrap_small2 hmn
    have hneg : ¬ ((n : Int) < 0) := by omega
    have hbb : ¬ ((n : Int) * (i.bytes : Int) > 2 ^ 48) := by
      have : ((n * i.bytes : Nat) : Int) ≤ 281474976710656 := by omega
      rw [Int.natCast_mul] at this; omega
    have ha : (asInt (.int .i64 (n : Int))).run P w = .ok (n : Int) w := by simp [asInt, run_asIntOf]
    have h63' : ¬ ((((len + n : Nat) : Int) > IntKind.i64.max) ∧ (True ∨ i.bytes = 0)) := fun h => h63 h.1
    rcases hL with ⟨h0, rfl⟩ | ⟨h0, Z2, hZ2, hL⟩
    · simp only [Builtin.append_, ht, h1, List.getElem?_toArray, List.getElem?_cons_zero, List.getElem?_cons_succ, Sem.run_bind, run_und hd, run_und hu, Result.andThen_ok, info_size hi, Sem.run_pure, ha, hw, hneg, if_false, hti, hti', hbb, Int.toNat_natCast, hni, h63, false_and, hcapb, hrun, run_askRoom, hK, h0, if_true, hZ, newRow, run_newObj, Bool.not_true, Bool.false_eq_true]
    · simp only [Builtin.append_, ht, h1, List.getElem?_toArray, List.getElem?_cons_zero, List.getElem?_cons_succ, Sem.run_bind, run_und hd, run_und hu, Result.andThen_ok, info_size hi, Sem.run_pure, ha, hw, hneg, if_false, hti, hti', hbb, Int.toNat_natCast, hni, h63, false_and, hcapb, hrun, run_askRoom, hK, h0, hZ2, hZ, newRow, run_newObj, Bool.not_true, Bool.false_eq_true, if_true]
      rw [hL, show Z2 = Z by rw [hZ] at hZ2; cases hZ2; rfl]

end
end Go.Sym
end
