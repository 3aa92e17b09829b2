/-
  Texts of this claim, one behind the other: SymW. Each says its own conditions.
-/
import Derived.Test.YtlfhiophojahbaaCloM18

set_option linter.unusedVariables false
set_option linter.unusedSimpArgs false
set_option linter.unusedSectionVars false
section
namespace Go.Sym
set_option linter.unusedSimpArgs false
set_option linter.unusedVariables false

abbrev KC := EExit → Cfg → Prop
abbrev KS := EEnd → St → Prop
abbrev CW := Cfg → KC → Prop
abbrev SW := ETgt → St → KS → Prop

def needsR (l : List Bool) (q : Prop) : Prop := @List.rec Bool (fun _ => Prop) q (fun b _ ih => andB b ih) l
theorem needsR_iff : ∀ (l : List Bool) (q : Prop), needsR l q ↔ allB l ∧ q
  | [], q => by show q ↔ _; simp [allB]
  | b :: l, q => by
    show andB b (needsR l q) ↔ _
    rw [andB_iff, needsR_iff l q, allB, and_assoc]
def forceN : Nat → (Nat → Prop) → Prop
  | 0, k => k 0
  | n + 1, k => forceN n fun m => k (m + 1)
theorem forceN_iff : ∀ (n : Nat) (k : Nat → Prop), forceN n k ↔ k n
  | 0, k => Iff.rfl
  | n + 1, k => forceN_iff n fun m => k (m + 1)
def forceM : List (Nat × Nat) → (List (Nat × Nat) → Prop) → Prop
  | [], k => k []
  | e :: l, k => forceN e.2 fun b => forceM l fun l' => k ((e.1, b) :: l')
theorem forceM_iff : ∀ (l : List (Nat × Nat)) (k : List (Nat × Nat) → Prop), forceM l k ↔ k l
  | [], k => Iff.rfl
  | e :: l, k => by rw [forceM, forceN_iff]; exact forceM_iff l fun l' => k ((e.1, e.2) :: l')
def forceVL (f : V → (V → Prop) → Prop) : List V → (List V → Prop) → Prop
  | [], k => k []
  | v :: l, k => f v fun v => forceVL f l fun l => k (v :: l)
theorem forceVL_iff {f : V → (V → Prop) → Prop} (hf : ∀ v k, f v k ↔ k v) : ∀ (l : List V) (k : List V → Prop), forceVL f l k ↔ k l
  | [], k => Iff.rfl
  | v :: l, k => by rw [forceVL, hf]; exact forceVL_iff hf l fun l => k (v :: l)
def forceV : Nat → V → (V → Prop) → Prop
  | 0, v, k => k v
  | d + 1, v, k => match v with
    | .agg l => forceVL (forceV d) l fun l => k (.agg l)
    | .tup l => forceVL (forceV d) l fun l => k (.tup l)
    | .iface t v => forceV d v fun v => k (.iface t v)
    | .fn f a c => forceVL (forceV d) a fun a => forceVL (forceV d) c fun c => k (.fn f a c)
    | .ptr b o => forceN b fun b => forceN o fun o => k (.ptr b o)
    | .rptr b i j es => forceN b fun b => forceN j fun j => k (.rptr b i j es)
    | .sl b o len cap x es => forceN b fun b => forceN o fun o => forceN len fun len => forceN cap fun cap => k (.sl b o len cap x es)
    | .rs b lo len cap x es => forceN b fun b => k (.rs b lo len cap x es)
    | .map b => forceN b fun b => k (.map b)
    | .yld l => forceN l fun l => k (.yld l)
    | .undef => k .undef
    | .any => k .any
    | .bool b => k (.bool b)
    | .int kd n => k (.int kd n)
    | .str s => k (.str s)
    | .nilp => k .nilp
    | .nils => k .nils
    | .nilm => k .nilm
    | .nilf => k .nilf
    | .nili => k .nili
    | .lptr e L i j => k (.lptr e L i j)
    | .lst e L cl => k (.lst e L cl)
    | .arr e L => k (.arr e L)
theorem forceV_iff : ∀ (d : Nat) (v : V) (k : V → Prop), forceV d v k ↔ k v
  | 0, v, k => Iff.rfl
  | d + 1, v, k => by
    unfold forceV
    split <;> simp only [forceVL_iff (forceV_iff d), forceV_iff d, forceN_iff]
def forceB : B V → (B V → Prop) → Prop
  | .leaf v, k => forceV 4 v fun v => k (.leaf v)
  | .node l r, k => forceB l fun l => forceB r fun r => k (.node l r)
theorem forceB_iff : ∀ (t : B V) (k : B V → Prop), forceB t k ↔ k t
  | .leaf v, k => forceV_iff _ _ _
  | .node l r, k => by rw [forceB, forceB_iff l, forceB_iff r]
def forceF (f : Frm) (k : Frm → Prop) : Prop := match f with
  | ⟨n, t⟩ => forceB t fun t => k ⟨n, t⟩
theorem forceF_iff (f : Frm) (k : Frm → Prop) : forceF f k ↔ k f := by cases f; exact forceB_iff _ _
def setK (x : V) : B V → Nat → (B V → Prop) → Prop
  | .leaf _, _, k => k (.leaf x)
  | .node l r, n, k => match Nat.beq (n % 2) 1 with
    | true => setK x r (n / 2) fun r => k (.node l r)
    | false => setK x l (n / 2) fun l => k (.node l r)
theorem setK_iff (x : V) : ∀ (t : B V) (n : Nat) (k : B V → Prop), setK x t n k ↔ k (B.set x t n)
  | .leaf _, _, k => Iff.rfl
  | .node l r, n, k => by
    rw [setK, B.set_node]
    cases Nat.beq (n % 2) 1
    · exact setK_iff x l _ _
    · exact setK_iff x r _ _
def putK (f : Frm) (d : Option Tmp) (v : V) (k : Frm → Prop) : Prop := match d with
  | none => k f
  | some d => match f with
    | ⟨n, t⟩ => match Nat.blt d n with
      | true => setK v t d fun t => k ⟨n, t⟩
      | false => k ⟨n, t⟩
theorem putK_iff (f : Frm) (d : Option Tmp) (v : V) (k : Frm → Prop) : putK f d v k ↔ k (putE f d v) := by
  cases d with
  | none => exact Iff.rfl
  | some d =>
    rw [putE_some]
    cases f with
    | mk n t =>
      simp only [putK]
      cases Nat.blt d n
      · exact Iff.rfl
      · exact setK_iff _ _ _ _
theorem B.ext {α : Type} : ∀ (t t' : B α) (d : Nat), t.full d → t'.full d → (∀ i, i < 2 ^ d → t.get i = t'.get i) → t = t'
  | .leaf v, .leaf v', d, _, _, hg => by
    have : v = v' := hg 0 (Nat.two_pow_pos d)
    rw [this]
  | .leaf _, .node _ _, d, h, h', _ => by
    have h : d = 0 := h
    obtain ⟨e, he, _, _⟩ := h'
    omega
  | .node _ _, .leaf _, d, h, h', _ => by
    have h' : d = 0 := h'
    obtain ⟨e, he, _, _⟩ := h
    omega
  | .node l r, .node l' r', d, h, h', hg => by
    obtain ⟨e, rfl, h1, h2⟩ := h
    obtain ⟨e', he, h3, h4⟩ := h'
    have he : e = e' := by omega
    subst he
    rw [Nat.pow_succ] at hg
    have hl : l = l' := B.ext l l' e h1 h3 fun i hi => by
      have := hg (2 * i) (by omega)
      rw [B.get_node, B.get_node, show (2 * i) % 2 = 0 by omega, show (2 * i) / 2 = i by omega] at this
      exact this
    have hr : r = r' := B.ext r r' e h2 h4 fun i hi => by
      have := hg (2 * i + 1) (by omega)
      rw [B.get_node, B.get_node, show (2 * i + 1) % 2 = 1 by omega, show (2 * i + 1) / 2 = i by omega] at this
      exact this
    rw [hl, hr]
def repB (z : V) : Nat → B V
  | 0 => .leaf z
  | d + 1 => .node (repB z d) (repB z d)
theorem repB_full (z : V) : ∀ d, (repB z d).full d
  | 0 => rfl
  | d + 1 => ⟨d, rfl, repB_full z d, repB_full z d⟩
theorem repB_get (z : V) : ∀ (d i : Nat), (repB z d).get i = z
  | 0, _ => rfl
  | d + 1, i => by
    rw [repB, B.get_node]
    cases Nat.beq (i % 2) 1
    · exact repB_get z d _
    · exact repB_get z d _
def slotD (z : V) (i : Nat) : List (Nat × V) → V
  | [] => z
  | e :: l => bif Nat.beq e.1 i then e.2 else slotD z i l
noncomputable def setsB (n : Nat) (t : B V) : List (Nat × V) → B V
  | [] => t
  | e :: l => bif Nat.blt e.1 n then B.set e.2 (setsB n t l) e.1 else setsB n t l
theorem setsB_full {n d : Nat} {t : B V} (h : t.full d) : ∀ l, (setsB n t l).full d
  | [] => h
  | e :: l => by
    rw [setsB]
    cases Nat.blt e.1 n
    · exact setsB_full h l
    · exact B.set_full _ _ _ _ (setsB_full h l)
theorem setsB_get {n d : Nat} {z : V} (hn : n ≤ 2 ^ d) : ∀ (l : List (Nat × V)) (i : Nat), i < n → (setsB n (repB z d) l).get i = slotD z i l
  | [], i, _ => repB_get z d i
  | e :: l, i, hi => by
    have ih := setsB_get (z := z) hn l i hi
    rw [setsB, slotD]
    cases hb : Nat.blt e.1 n with
    | true =>
      rw [blt_iff] at hb
      have hb := of_decide_eq_true hb
      rw [cond_true, B.get_set _ _ d _ _ (setsB_full (repB_full z d) l) (by omega) (by omega), ih]
      by_cases h : i = e.1
      · subst h; rw [if_pos rfl, Nat.beq_refl, cond_true]
      · rw [if_neg h]
        cases hq : Nat.beq e.1 i with
        | true => exact absurd (Nat.eq_of_beq_eq_true hq).symm h
        | false => rfl
    | false =>
      rw [cond_false, ih]
      cases hq : Nat.beq e.1 i with
      | true =>
        have := Nat.eq_of_beq_eq_true hq
        rw [blt_iff] at hb
        have := of_decide_eq_false hb
        omega
      | false => rfl
theorem setsB_get' {n d : Nat} {z : V} (hn : n ≤ 2 ^ d) : ∀ (l : List (Nat × V)) (i : Nat), n ≤ i → i < 2 ^ d → (setsB n (repB z d) l).get i = z
  | [], i, _, _ => repB_get z d i
  | e :: l, i, hi, hd => by
    have ih := setsB_get' (z := z) hn l i hi hd
    rw [setsB]
    cases hb : Nat.blt e.1 n with
    | true =>
      rw [blt_iff] at hb
      have hb := of_decide_eq_true hb
      rw [cond_true, B.get_set _ _ d _ _ (setsB_full (repB_full z d) l) (by omega) hd, ih, if_neg (by omega)]
    | false => exact ih
def argsL : Nat → List V → List (Nat × V)
  | _, [] => []
  | i, v :: l => (i, v) :: argsL (i + 1) l
theorem argsL_slot (z : V) : ∀ (l : List V) (j i : Nat), j ≤ i → slotD z i (argsL j l) = l.getD (i - j) z
  | [], _, _, _ => rfl
  | v :: l, j, i, h => by
    rw [argsL, slotD]
    cases hq : Nat.beq j i with
    | true =>
      have := Nat.eq_of_beq_eq_true hq
      subst this
      rw [cond_true, Nat.sub_self]; rfl
    | false =>
      have hne : j ≠ i := fun e => by rw [e, Nat.beq_refl] at hq; cases hq
      rw [cond_false, argsL_slot z l (j + 1) i (by omega), show i - j = (i - (j + 1)) + 1 by omega]
      rfl
theorem mkFrm_sets {n : Nat} {args : List V} (h1 : args.length ≤ n) (h2 : n ≤ 4096) : mkFrm n args = ⟨n, setsB n (repB .undef (hOf n)) (argsL 0 args)⟩ := by
  have hd := hOf_le h2
  unfold mkFrm
  rw [B.ext (B.ofList .undef (hOf n) args) (setsB n (repB .undef (hOf n)) (argsL 0 args)) (hOf n) (B.ofList_full _ _ _) (setsB_full (repB_full _ _) _) fun i hi => ?_]
  rw [B.ofList_get _ _ _ _ hi]
  rcases Nat.lt_or_ge i n with h | h
  · rw [setsB_get hd _ _ h, argsL_slot _ _ _ _ (Nat.zero_le _), Nat.sub_zero]
  · rw [setsB_get' hd _ _ h hi, List.getD_eq_getElem?_getD, List.getElem?_eq_none (by omega)]
    rfl
def repK (z : V) : Nat → (B V → Prop) → Prop
  | 0, k => k (.leaf z)
  | d + 1, k => repK z d fun t => k (.node t t)
theorem repK_iff (z : V) : ∀ (d : Nat) (k : B V → Prop), repK z d k ↔ k (repB z d)
  | 0, k => Iff.rfl
  | d + 1, k => by rw [repK, repK_iff z d]; exact Iff.rfl
def setsK (n : Nat) (t : B V) : List (Nat × V) → (B V → Prop) → Prop
  | [], k => k t
  | (i, v) :: l, k => setsK n t l fun t => match Nat.blt i n with
    | true => forceV 4 v fun v => setK v t i k
    | false => k t
theorem setsK_iff (n : Nat) (t : B V) : ∀ (l : List (Nat × V)) (k : B V → Prop), setsK n t l k ↔ k (setsB n t l)
  | [], k => Iff.rfl
  | (i, v) :: l, k => by
    rw [setsK, setsK_iff n t l, setsB]
    cases Nat.blt i n
    · exact Iff.rfl
    · simp only [forceV_iff, setK_iff, cond_true]
def frmK (n : Nat) (z : V) (l : List (Nat × V)) (k : Frm → Prop) : Prop := repK z (hOf n) fun t => setsK n t l fun t => k ⟨n, t⟩
theorem frmK_iff (n : Nat) (z : V) (l : List (Nat × V)) (k : Frm → Prop) : frmK n z l k ↔ k ⟨n, setsB n (repB z (hOf n)) l⟩ := by rw [frmK, repK_iff, setsK_iff]
theorem frmK_args {n : Nat} {args : List V} {k : Frm → Prop} (hg : (Nat.ble (llen args) n && Nat.ble n 4096) = true) (h : frmK n .undef (argsL 0 args) k) : k (mkFrm n args) := by
  rw [Bool.and_eq_true, Nat.ble_eq, Nat.ble_eq, llen_eq] at hg
  rw [mkFrm_sets hg.1 hg.2]
  exact (frmK_iff _ _ _ _).1 h
def forceE (r : ELoop) (k : ELoop → Prop) : Prop := match r with
  | ⟨st, p, f, ps, a, b, d⟩ => forceN d fun d => k ⟨st, p, f, ps, a, b, d⟩
theorem forceE_iff (r : ELoop) (k : ELoop → Prop) : forceE r k ↔ k r := by cases r; exact forceN_iff _ _
def forceO : Option EObj → (Option EObj → Prop) → Prop
  | some (.cells cs t h), k => forceVL (forceV 4) cs fun cs => k (some (.cells cs t h))
  | some (.loop r), k => forceE r fun r => k (some (.loop r))
  | some (.rows e L t h), k => k (some (.rows e L t h))
  | some (.dfr b), k => k (some (.dfr b))
  | some (.map es c), k => k (some (.map es c))
  | some (.pm kk tt M c), k => k (some (.pm kk tt M c))
  | some (.mit m a s c), k => forceN m fun m => k (some (.mit m a s c))
  | none, k => k none
theorem forceO_iff (o : Option EObj) (k : Option EObj → Prop) : forceO o k ↔ k o := by
  unfold forceO
  split <;> first | exact Iff.rfl | exact forceVL_iff (forceV_iff 4) _ _ | exact forceE_iff _ _ | exact forceN_iff _ _
def forceT : T EObj → (T EObj → Prop) → Prop
  | .leaf, k => k .leaf
  | .node v l r, k => forceO v fun v => forceT l fun l => forceT r fun r => k (.node v l r)
theorem forceT_iff : ∀ (t : T EObj) (k : T EObj → Prop), forceT t k ↔ k t
  | .leaf, k => Iff.rfl
  | .node v l r, k => by rw [forceT, forceO_iff, forceT_iff l, forceT_iff r]
def forceS (s : St) (k : St → Prop) : Prop := match s with
  | ⟨h, n⟩ => forceT h fun h => forceN n fun n => k ⟨h, n⟩
theorem forceS_iff (s : St) (k : St → Prop) : forceS s k ↔ k s := by cases s; simp only [forceS, forceT_iff, forceN_iff]
def forceC (c : Cfg) (k : Cfg → Prop) : Prop := match c with
  | ⟨f, ds, s⟩ => forceF f fun f => forceS s fun s => k ⟨f, ds, s⟩
theorem forceC_iff (c : Cfg) (k : Cfg → Prop) : forceC c k ↔ k c := by cases c; simp only [forceC, forceF_iff, forceS_iff]
def forceG (t : ETgt) (k : ETgt → Prop) : Prop := match t with
  | .fn f args => forceVL (forceV 4) args fun args => k (.fn f args)
  | .round l args => forceVL (forceV 4) args fun args => k (.round l args)
theorem forceG_iff (t : ETgt) (k : ETgt → Prop) : forceG t k ↔ k t := by cases t <;> exact forceVL_iff (forceV_iff 4) _ _
def finK (f : Frm) : List DRec → (Frm → Prop) → Prop
  | [], k => k f
  | r :: l, k => putK f r.o.dst r.v fun f => finK f l k
theorem finK_iff (f : Frm) : ∀ (l : List DRec) (k : Frm → Prop), finK f l k ↔ k (finF f l) := by
  intro l
  induction l generalizing f with
  | nil => intro k; exact Iff.rfl
  | cons r l ih => intro k; rw [finK, putK_iff, ih]; exact Iff.rfl
noncomputable section
variable (P : Program)

def eqFields2 (nest : TypeId → V → V → Option Bool) (d : List Field) (l m : List V) : Option Bool :=
  match d with
  | [] => some true
  | f :: rest =>
    match P.underlying f.type with
    | some (.int _) => match lget l f.offset, lget m f.offset with
      | some (.int k x), some (.int k' y) => bif kEq k k' then (match eqFields2 nest rest l m with
        | some r => some (decide (x = y) && r)
        | none => none) else none
      | _, _ => none
    | some .bool => match lget l f.offset, lget m f.offset with
      | some (.bool x), some (.bool y) => match eqFields2 nest rest l m with
        | some r => some ((x == y) && r)
        | none => none
      | _, _ => none
    | some .string => match lget l f.offset, lget m f.offset with
      | some (.str x), some (.str y) => match eqFields2 nest rest l m with
        | some r => some (sEq x y && r)
        | none => none
      | _, _ => none
    | some (.struct _) => match partE P f.type l f.offset, partE P f.type m f.offset with
      | some x, some y => match nest f.type x y, eqFields2 nest rest l m with
        | some q, some r => some (q && r)
        | _, _ => none
      | _, _ => none
    | _ => none
def eqNest2 : Nat → TypeId → V → V → Option Bool
  | 0, _, _, _ => none
  | n + 1, t, a, b => match P.underlying t with
    | some (.struct fs) => match a, b with
      | .agg l, .agg m => eqFields2 P (eqNest2 n) fs.toList l m
      | _, _ => none
    | _ => none
def okFs (n : Nat) (f : Nat → TypeId → Bool) : List Field → Bool
  | [] => true
  | fd :: l => (!(fd.name == "_") && (match P.underlying fd.type with
    | some (.struct _) => f n fd.type
    | _ => true)) && okFs n f l
def okF : Nat → TypeId → Bool
  | 0, _ => false
  | n + 1, t => match P.underlying t with
    | some (.struct fs) => !(P.stoodInHeld t) && okFs P n (fun _ => okF n) fs.toList
    | _ => false
def eqOK0 (t : TypeId) : Bool := okF P 7 t && !(P.eqGuardType P.depth t)
def eqOK (t : TypeId) : Bool := Classical.choose (⟨eqOK0 P t, rfl⟩ : ∃ y, y = eqOK0 P t)
theorem eqOK_eq (t : TypeId) : eqOK P t = eqOK0 P t := Classical.choose_spec (⟨eqOK0 P t, rfl⟩ : ∃ y, y = eqOK0 P t)
def structEq (ev : Operand → Option V) (op : Op) : Option (List Bool × V) :=
  match op with
  | .binOp o t x y _ => (match P.underlying t with
    | some (.struct fs) => (match o with
      | .eql => (match ev x, ev y with
        | some (.agg l), some (.agg m) => (match eqFields2 P (eqNest2 P 6) fs.toList l m with
          | some r => some ([eqOK P t], .bool r)
          | none => none)
        | _, _ => none)
      | .neq => (match ev x, ev y with
        | some (.agg l), some (.agg m) => (match eqFields2 P (eqNest2 P 6) fs.toList l m with
          | some r => some ([eqOK P t], .bool (!r))
          | none => none)
        | _, _ => none)
      | _ => none)
    | _ => none)
  | _ => none
theorem okFs_eq {n : Nat} (hn : ∀ t a b, okF P n t = true → eqNest P n t a b = eqNest2 P n t a b) : ∀ (d : List Field) (l m : List V), okFs P n (fun _ => okF P n) d = true → eqFields P (eqNest P n) d l m = eqFields2 P (eqNest2 P n) d l m
  | [], _, _, _ => rfl
  | f :: d, l, m, h => by
    rw [okFs, Bool.and_eq_true, Bool.and_eq_true] at h
    obtain ⟨⟨h1, h2⟩, h3⟩ := h
    have ih := okFs_eq hn d l m h3
    have hf : (f.name == "_") = false := by simpa using h1
    rw [eqFields, eqFields2, hf, cond_false]
    cases hu : P.underlying f.type with
    | none => rfl
    | some u =>
      rw [hu] at h2
      cases u with
      | struct fs =>
        simp only at h2 ⊢
        cases partE P f.type l f.offset with
        | none => rfl
        | some x =>
          cases partE P f.type m f.offset with
          | none => rfl
          | some y =>
            simp only [hn _ x y h2, ih]
            rfl
      | _ => first | rfl | (simp only [ih]; done) | (simp only [ih]; rfl)
theorem okNest_eq : ∀ (n : Nat) (t : TypeId) (a b : V), okF P n t = true → eqNest P n t a b = eqNest2 P n t a b
  | 0, _, _, _, h => by cases h
  | n + 1, t, a, b, h => by
    rw [okF] at h
    rw [eqNest, eqNest2]
    cases hu : P.underlying t with
    | none => rfl
    | some u =>
      rw [hu] at h
      cases u with
      | struct fs =>
        simp only [Bool.and_eq_true, Bool.not_eq_true'] at h
        cases a <;> cases b <;> first
          | rfl
          | (simp only [h.1, cond_false]; exact okFs_eq P (okNest_eq n) _ _ _ h.2)
      | _ => first | rfl | cases h
theorem structEq_ok {s : St} {ev : Operand → Option V} {op : Op} {c : List Bool} {v : V} (h : structEq P ev op = some (c, v)) (hc : allB c) : qop P s ev op = some ([], v) := by
  unfold structEq at h
  split at h
  · rename_i o t x y z
    split at h
    · rename_i fs hu
      have key : ∀ l m r, eqFields2 P (eqNest2 P 6) fs.toList l m = some r → eqOK P t = true → eqAny P s t (.agg l) (.agg m) = some r := by
        intro l m r hr hk
        rw [eqOK_eq] at hk
        unfold eqOK0 at hk
        rw [Bool.and_eq_true, Bool.not_eq_true'] at hk
        obtain ⟨k1, k2⟩ := hk
        rw [okF, hu] at k1
        simp only [Bool.and_eq_true, Bool.not_eq_true'] at k1
        unfold eqAny
        have e1 : eqE P s t (.agg l) (.agg m) = none := by unfold eqE; rw [hu]
        have e2 : eqNil2 P t (.agg l) (.agg m) = none := by unfold eqNil2; rw [hu]
        have e3 : eqStruct P t (.agg l) (.agg m) = some r := by
          unfold eqStruct
          rw [hu]
          simp only [k1.1, k2, Bool.or_self, cond_false]
          rw [okFs_eq P (okNest_eq P 6) _ _ _ k1.2]
          exact hr
        rw [e1, e2, e3]
      split at h
      · split at h
        · rename_i l m hx hy
          split at h
          · rename_i r hr
            cases h
            simp only [qop, hx, hy, qBin, key l m r hr hc.1, ok0]
          · cases h
        · cases h
      · split at h
        · rename_i l m hx hy
          split at h
          · rename_i r hr
            cases h
            simp only [qop, hx, hy, qBin, key l m r hr hc.1, ok0]
          · cases h
        · cases h
      · cases h
    · cases h
  · cases h

def effW (s : St) (ev : Operand → Option V) (op : Op) (k : EOut → St → Prop) : Prop :=
  match eopR P s ev op with
  | some (.inl (some (c, v, s'))) => needsR c (forceS s' (k (.val v)))
  | some (.inl none) => False
  | some (.inr (some (c, s'))) => needsR c (forceS s' (k .skip))
  | some (.inr none) => False
  | none => match eopC P s ev op with
    | some (o, s') => forceS s' (k o)
    | none => False
def splitF (d : Option Tmp) (f : Frm) (k : Frm → Prop) : Prop :=
  match d with
  | none => k f
  | some d => match f.get d with
    | .bool b => iteB b (putK f (some d) (.bool true) k) (putK f (some d) (.bool false) k)
    | _ => k f
def slotG (g : Option (Option Tmp × Bool)) : Option Tmp :=
  match g with
  | some (some d, _) => some d
  | _ => none
def slotP (op : Op) : Option Tmp :=
  match op with
  | .pick (.tmp c) _ _ => some c
  | _ => none
def slotO (x : Operand) : Option Tmp :=
  match x with
  | .tmp c => some c
  | _ => none
def opW (s : St) (ev : Operand → Option V) (op : Op) (k : EOut → St → Prop) : Prop :=
  match structEq P ev op with
  | some (c, v) => needsR c (k (.val v) s)
  | none => match qop P s ev op with
    | some (c, v) => needsR c (k (.val v) s)
    | none => effW P s ev op k
def guardW (g : Option (Option Tmp × Bool)) (f : Frm) (yes no : Prop) : Prop :=
  match g with
  | none => yes
  | some (none, _) => no
  | some (some d, want) => match f.get d with
    | .any => False
    | .bool b => (match want with
      | true => iteB b yes no
      | false => iteB b no yes)
    | _ => no
def nextW (self : SW) (d : Option Tmp) (rest : CW) (f : Frm) (ds : List EDef) (k : KC) (o : EOut) (s : St) : Prop :=
  match o with
  | .val v => forceV 4 v fun v => putK f d v fun f => rest ⟨f, ds, s⟩ k
  | .skip => putK f d .undef fun f => rest ⟨f, ds, s⟩ k
  | .pan v => k (.pan v) ⟨f, ds, s⟩
  | .enter t => forceG t fun t => self t s fun e s' => match e with
    | .ret v => forceV 4 v fun v => putK f d v fun f => rest ⟨f, ds, s'⟩ k
    | .pan v => k (.pan v) ⟨f, ds, s'⟩
def stepW (self : SW) (ops : Array Oper) (rest : CW) (o : Oper) (c : Cfg) (k : KC) : Prop :=
  match c with
  | ⟨fr, ds, s⟩ => splitF (slotG (guardOf ops o)) fr fun fr => guardW (guardOf ops o) fr (splitF (slotP o.op) fr fun fr => opW P s (evF fr) o.op (nextW self o.dst rest fr ds k)) (putK fr o.dst .undef fun fr => rest ⟨fr, ds, s⟩ k)
def opsW (self : SW) (ops : Array Oper) (l : List Oper) : CW :=
  @List.rec Oper (fun _ => CW) (fun c k => k .normal c) (fun x _ ih => stepW P self ops ih x) l

def noMem (op : Op) : Bool :=
  match op with
  | .move _ | .assign _ | .pick .. | .unOp .. | .makeInterface .. | .makeFunc .. | .fieldAddr .. | .field .. | .indexAddr .. | .index .. | .build .. | .extract .. | .typeAssert .. | .nilCheck _ => true
  | .binOp _ t _ _ _ => (match P.underlying t with
    | some (.int _) => true
    | some .bool => true
    | some .string => true
    | _ => false)
  | .slice t _ _ _ _ => (match P.underlying t with
    | some .string => true
    | some (.slice _) => true
    | _ => false)
  | _ => false
def quietW (mb : Option Nat) (s : St) (ev : Operand → Option V) (op : Op) (k : V → Prop) : Prop :=
  match mb with
  | none => (match structEq P ev op with
    | some (c, v) => needsR c (k v)
    | none => (match qop P s ev op with
      | some (c, v) => needsR c (k v)
      | none => False))
  | some b => (match mkR P ev op with
    | some (c, m) => needsR c (s.heap.get b = some m.obj ∧ k (m.val b))
    | none => False)
def isQuiet (mb : Option Nat) (s : St) (ev : Operand → Option V) (op : Op) : Bool :=
  match mb with
  | none => (match structEq P ev op with
    | some _ => true
    | none => (qop P s ev op).isSome)
  | some _ => true
def panTailW (ops : Array Oper) (M : List (Nat × Nat)) (A : List Nat) (ip : Nat) (l : List Oper) : Nat → Frm → St → (List DRec → Prop) → Prop :=
  @List.rec Oper (fun _ => Nat → Frm → St → (List DRec → Prop) → Prop) (fun _ _ _ k => k [])
    (fun o _ ih i f s k => bif tbQ (ogetN (lget A i)) ip then putK f o.dst .undef fun f' => ih (Nat.succ i) f' s (fun R => k (⟨i, o, f, s, .undef, false, none, none⟩ :: R))
    else splitF (slotG (guardOf ops o)) f fun f => guardW (guardOf ops o) f
      (splitF (slotP o.op) f fun f => quietW P (findM i M) s (evL (o.looksAt ops) f) o.op fun v => forceV 4 v fun v => putK f o.dst v fun f' => ih (Nat.succ i) f' s (fun R => k (⟨i, o, f, s, v, true, none, findM i M⟩ :: R)))
      (putK f o.dst .undef fun f' => ih (Nat.succ i) f' s (fun R => k (⟨i, o, f, s, .undef, false, none, findM i M⟩ :: R)))) l
theorem panTailW_cons (ops : Array Oper) (M : List (Nat × Nat)) (A : List Nat) (ip : Nat) (o : Oper) (l : List Oper) (i : Nat) (f : Frm) (s : St) (k : List DRec → Prop) : panTailW P ops M A ip (o :: l) i f s k =
    (bif tbQ (ogetN (lget A i)) ip then putK f o.dst .undef fun f' => panTailW P ops M A ip l (Nat.succ i) f' s (fun R => k (⟨i, o, f, s, .undef, false, none, none⟩ :: R))
    else splitF (slotG (guardOf ops o)) f fun f => guardW (guardOf ops o) f
      (splitF (slotP o.op) f fun f => quietW P (findM i M) s (evL (o.looksAt ops) f) o.op fun v => forceV 4 v fun v => putK f o.dst v fun f' => panTailW P ops M A ip l (Nat.succ i) f' s (fun R => k (⟨i, o, f, s, v, true, none, findM i M⟩ :: R)))
      (putK f o.dst .undef fun f' => panTailW P ops M A ip l (Nat.succ i) f' s (fun R => k (⟨i, o, f, s, .undef, false, none, findM i M⟩ :: R)))) := rfl
def drawOneW (self : SW) (ops : Array Oper) (M : List (Nat × Nat)) (o : Oper) (ih : Nat → Frm → St → (List DRec → Prop) → (List DRec → Nat → V → St → Prop) → Prop) (pt : Nat → Nat → Frm → St → (List DRec → Prop) → Prop) (i : Nat) (f : Frm) (s : St) (kR : List DRec → Prop) (kP : List DRec → Nat → V → St → Prop) : Prop :=
    splitF (slotG (guardOf ops o)) f fun f => guardW (guardOf ops o) f
      (splitF (slotP o.op) f fun f => match isQuiet P (findM i M) s (evL (o.looksAt ops) f) o.op with
      | true => quietW P (findM i M) s (evL (o.looksAt ops) f) o.op fun v => forceV 4 v fun v => putK f o.dst v fun f' => ih (Nat.succ i) f' s (fun R => kR (⟨i, o, f, s, v, true, none, findM i M⟩ :: R)) (fun R => kP (⟨i, o, f, s, v, true, none, findM i M⟩ :: R))
      | false => effW P s (evL (o.looksAt ops) f) o.op fun out s1 => match out with
        | .val v => forceV 4 v fun v => putK f o.dst v fun f' => ih (Nat.succ i) f' s1 (fun R => kR (⟨i, o, f, s, v, false, some s1, none⟩ :: R)) (fun R => kP (⟨i, o, f, s, v, false, some s1, none⟩ :: R))
        | .skip => putK f o.dst .undef fun f' => ih (Nat.succ i) f' s1 (fun R => kR (⟨i, o, f, s, .undef, false, some s1, none⟩ :: R)) (fun R => kP (⟨i, o, f, s, .undef, false, some s1, none⟩ :: R))
        | .pan v => putK f o.dst .undef fun f' => pt i (Nat.succ i) f' s (fun R => kP (⟨i, o, f, s, .undef, false, none, none⟩ :: R) i v s1)
        | .enter t => forceG t fun t => self t s1 fun e s2 => match e with
          | .ret v => forceV 4 v fun v => putK f o.dst v fun f' => ih (Nat.succ i) f' s2 (fun R => kR (⟨i, o, f, s, v, false, some s2, none⟩ :: R)) (fun R => kP (⟨i, o, f, s, v, false, some s2, none⟩ :: R))
          | .pan v => putK f o.dst .undef fun f' => pt i (Nat.succ i) f' s (fun R => kP (⟨i, o, f, s, .undef, false, none, none⟩ :: R) i v s2))
      (putK f o.dst .undef fun f' => ih (Nat.succ i) f' s (fun R => kR (⟨i, o, f, s, .undef, false, none, findM i M⟩ :: R)) (fun R => kP (⟨i, o, f, s, .undef, false, none, findM i M⟩ :: R)))
def drawW (self : SW) (ops : Array Oper) (M : List (Nat × Nat)) (A : List Nat) (l : List Oper) : Nat → Frm → St → (List DRec → Prop) → (List DRec → Nat → V → St → Prop) → Prop :=
  @List.rec Oper (fun _ => Nat → Frm → St → (List DRec → Prop) → (List DRec → Nat → V → St → Prop) → Prop) (fun _ _ _ kR _ => kR [])
    (fun o l ih => drawOneW P self ops M o ih (fun ip => panTailW P ops M A ip l)) l
theorem drawW_cons (self : SW) (ops : Array Oper) (M : List (Nat × Nat)) (A : List Nat) (o : Oper) (l : List Oper) : drawW P self ops M A (o :: l) = drawOneW P self ops M o (drawW P self ops M A l) (fun ip => panTailW P ops M A ip l) := rfl
def askW (ops : Array Oper) (r : DRec) (s : St) (k : Prop) : Prop :=
  quietW P r.mb s (evL (r.o.looksAt ops) r.f) r.o.op fun v => v.same r.v = true ∧ k
def anyN (m : Nat) : List Nat → Bool
  | [] => false
  | n :: l => bif tbQ m n then true else anyN m l
def allN (m : Nat) : List Nat → Bool
  | [] => true
  | n :: l => tbQ m n && allN m l
def beforeN (A : List Nat) (i : Nat) : List Nat → Bool
  | [] => true
  | n :: l => tbQ (ogetN (lget A n)) i && beforeN A i l
def chainN (A : List Nat) : List Nat → Bool
  | [] => true
  | n :: l => beforeN A n l && chainN A l
def idxsE : List (Nat × St) → List Nat
  | [] => []
  | e :: l => e.1 :: idxsE l
def forceL : List Nat → (List Nat → Prop) → Prop
  | [], k => k []
  | n :: l, k => forceN n fun m => forceL l fun l' => k (m :: l')
theorem forceL_iff : ∀ (l : List Nat) (k : List Nat → Prop), forceL l k ↔ k l
  | [], k => Iff.rfl
  | n :: l, k => by rw [forceL, forceN_iff]; exact forceL_iff l fun l' => k (n :: l')
def chkEW (ops : Array Oper) (A : List Nat) (r : DRec) (i : Nat) (s : St) (I : List Nat) (E : List (Nat × St)) (k : Prop) : Prop :=
  @List.rec Nat (fun _ => St → List (Nat × St) → Prop → Prop) (fun s E k => match E with
    | [] => askW P ops r s k
    | _ :: _ => False)
    (fun n I ih s E k => match E with
    | [] => askW P ops r s k
    | e :: l => (match anyN (ogetN (lget A i)) (n :: I) with
      | true => (bif tbQ (ogetN (lget A n)) i then k else ih e.2 l k)
      | false => askW P ops r s (bif tbQ (ogetN (lget A n)) i then k else ih e.2 l k))) I s E k
theorem chkEW_cons (ops : Array Oper) (A : List Nat) (r : DRec) (i : Nat) (s : St) (n : Nat) (I : List Nat) (e : Nat × St) (l : List (Nat × St)) (k : Prop) : chkEW P ops A r i s (n :: I) (e :: l) k = (match anyN (ogetN (lget A i)) (n :: I) with
      | true => (bif tbQ (ogetN (lget A n)) i then k else chkEW P ops A r i e.2 I l k)
      | false => askW P ops r s (bif tbQ (ogetN (lget A n)) i then k else chkEW P ops A r i e.2 I l k)) := rfl
def isNo : Option Nat → Bool
  | none => true
  | some _ => false
def chkAllW (ops : Array Oper) (A : List Nat) (s : St) (I : List Nat) (E : List (Nat × St)) (R : List DRec) (k : Prop) : Prop :=
  @List.rec DRec (fun _ => Prop → Prop) (fun k => k) (fun r _ ih k => match r.q && !(isNo r.mb && noMem P r.o.op) with
    | true => forceN r.i fun i => chkEW P ops A r i s I E (ih k)
    | false => ih k) R k
theorem chkAllW_cons (ops : Array Oper) (A : List Nat) (s : St) (I : List Nat) (E : List (Nat × St)) (r : DRec) (l : List DRec) (k : Prop) : chkAllW P ops A s I E (r :: l) k = (match r.q && !(isNo r.mb && noMem P r.o.op) with
    | true => forceN r.i fun i => chkEW P ops A r i s I E (chkAllW P ops A s I E l k)
    | false => chkAllW P ops A s I E l k) := rfl
def guardB (b : Bool) (k : Prop) : Prop := match b with
  | true => k
  | false => False
def drawRW (self : SW) (ops : Array Oper) (c : Cfg) (k : KC) : Prop :=
  guardB (P.follows .mixedOrders && stOK ops) (match preM P ops c.tmps c.st with
    | (s0, M) => forceS s0 fun s0 => forceM M fun M => drawW P self ops M (ancsE ops.toList []) ops.toList 0 c.tmps s0
      (fun R => forceL (idxsE (effs R)) fun I => guardB (chainN (ancsE ops.toList []) I) (chkAllW P ops (ancsE ops.toList []) s0 I (effs R) R (finK c.tmps R fun f => forceS (lastS s0 (effs R)) fun s => k .normal ⟨f, c.defers, s⟩)))
      (fun R ip v s' => forceL (idxsE (effs R)) fun I => guardB (chainN (ancsE ops.toList []) I && allN (ogetN (lget (ancsE ops.toList []) ip)) I) (chkAllW P ops (ancsE ops.toList []) s0 I (effs R) R (k (.pan v) ⟨anyF c.tmps ops.toList, c.defers, s'⟩))))

def dferW : List Oper → CW
  | [], c, k => k .normal c
  | o :: l, c, k => match o.guard with
    | some _ => False
    | none => match o.op with
      | .defer cl => match cl.callee with
        | .value f => match evF c.tmps f, evalOs (evF c.tmps) cl.args.toList with
          | some (.fn g first cap), some vs => guardB (bodyOK P g) (dferW l ⟨putE c.tmps o.dst .undef, .call g (lapp first vs) cap :: c.defers, c.st⟩ k)
          | _, _ => False
        | _ => False
      | op => match qop P c.st (evF c.tmps) op with
        | some (cs, v) => needsR cs (dferW l ⟨putE c.tmps o.dst v, c.defers, c.st⟩ k)
        | none => False
def regionW (self : SW) (round : Option Nat) (ops : Array Oper) (draw : Bool) : CW :=
  match draw with
  | false => (match hasDefer ops.toList with
    | true => (match round with
      | none => dferW P ops.toList
      | some _ => fun _ _ => False)
    | false => opsW P self ops ops.toList)
  | true => drawRW P self ops
def seqW (a b : CW) (c : Cfg) (k : KC) : Prop := a c fun e c' => match e with
  | .normal => b c' k
  | e => k e c'
def condW (x : Operand) (a b : CW) (c : Cfg) (k : KC) : Prop :=
  splitF (slotO x) c.tmps fun f => match evF f x with
  | some (.bool q) => iteB q (a ⟨f, c.defers, c.st⟩ k) (b ⟨f, c.defers, c.st⟩ k)
  | _ => False
def blockW (id : Nat) (b : CW) (c : Cfg) (k : KC) : Prop := b c fun e c' => match e with
  | .exit id' => (bif Nat.beq id' id then k .normal c' else k (.exit id') c')
  | e => k e c'
def iterW (body : CW) (n : Nat) : CW :=
  @Nat.rec (fun _ => CW) (fun _ _ => False) (fun _ ih c k => body c fun e c' => match e with
    | .normal => ih c' k
    | e => k e c') n
def rangeW (self : SW) (round : Option Nat) (f : Operand) (ps : Array Tmp) (assign body : Code) (c : Cfg) (k : KC) : Prop :=
  match (match round with
    | none => some ((c.st.new (.dfr false)), c.st.next, [EDef.mark c.st.next])
    | some l0 => match c.st.heap.get l0 with
      | some (.loop r) => some (c.st, r.defers, [])
      | _ => none : Option (St × Nat × List EDef)) with
  | none => False
  | some (s0, d, marks) => forceS s0 fun s1 =>
    match evF c.tmps f with
    | some (.fn g first cap) =>
      guardB (bodyOK P g) (forceS (s1.new (.loop ⟨.ready, none, c.tmps, ps.toList, assign, body, d⟩)) fun s2 => self (.fn g (lapp (lapp first [.yld s1.next]) cap)) s2 fun e s2 => match e with
        | .ret _ => (match s2.heap.get s1.next with
          | some (.loop r) => (match r.state with
            | .busy => False
            | _ => match jumpE r.pending with
              | some e => k e ⟨c.tmps, marks ++ c.defers, s2.upd s1.next (.loop { r with state := .exhausted })⟩
              | none => False)
          | _ => False)
        | .pan v => k (.pan v) ⟨c.tmps, marks ++ c.defers, s2⟩)
    | _ => False
abbrev LpW := Nat → Option CW
def noLpW : LpW := fun _ => none
def loopW (lp : LpW) (b : Code) (f : CW) : CW :=
  match firstR b with
  | some id => (match lp id with
    | some F => F
    | none => f)
  | none => f
def compW (self : SW) (fuel : Nat) (round : Option Nat) (lp : LpW) (x : Code) : CW :=
  @Code.rec (fun _ => CW)
    (fun c k => k .normal c)
    (fun _ ops draw => regionW P self round ops draw)
    (fun _ _ ia ib => seqW ia ib)
    (fun x _ _ ia ib => condW x ia ib)
    (fun id _ ib => blockW id ib)
    (fun b ib => loopW lp b (iterW ib fuel))
    (fun f ps assign body _ _ => rangeW P self round f ps assign body)
    (fun id c k => k (.exit id) c)
    (fun _ ib => ib)
    (fun _ c k => k .normal c)
    (fun _ _ _ => False)
    (fun c k => k .ret c)
    (fun _ _ _ => False) x
def roundW (self : SW) (fuel : Nat) (l : Nat) (args : List V) (s : St) (k : KS) : Prop :=
  match s.heap.get l with
  | some (.loop r) =>
    forceF (setParams r.tmps r.params args) fun f => compW P self fuel (some l) noLpW r.assign ⟨f, [], s⟩ fun e c1 => match e with
    | .normal => (match c1.st.heap.get l with
      | some (.loop r1) => (match r1.state with
        | .ready =>
          forceS (c1.st.upd l (.loop { r1 with state := .busy })) fun s => compW P self fuel (some l) noLpW r.body ⟨c1.tmps, c1.defers, s⟩ fun e c2 => match c2.st.heap.get l with
            | some (.loop r2) => (match e with
              | .normal => forceS (c2.st.upd l (.loop { r2 with state := .ready, pending := none })) (k (.ret (.bool true)))
              | .ret => forceS (c2.st.upd l (.loop { r2 with state := .done, pending := some .ret })) (k (.ret (.bool false)))
              | .exit id => forceS (c2.st.upd l (.loop { r2 with state := .done, pending := some (.exit id) })) (k (.ret (.bool false)))
              | .pan _ => False)
            | _ => False
        | _ => False)
      | _ => False)
    | _ => False
  | _ => False
def resultsW (s : St) (f : Frm) (rs : List ResultVar) : (List V → Prop) → Prop :=
  @List.rec ResultVar (fun _ => (List V → Prop) → Prop) (fun k => k []) (fun x _ ih k => match x with
    | .tmp t => ih fun r => match f.get t with
      | .any => False
      | v => k (v :: r)
    | .cell a t => match qLoad P s t (f.get a) with
      | some (c, v) => needsR c (ih fun r => k (v :: r))
      | none => False) rs
def resultW (s : St) (f : Frm) (rs : List ResultVar) (k : V → Prop) : Prop :=
  resultsW P s f rs fun r => match r with
  | [v] => k v
  | l => k (match l with | [] => .undef | _ => .tup l)

abbrev DW := Cfg → DM → (EExit → Cfg → DM → Prop) → Prop
def withDW (f : CW) (c : Cfg) (m : DM) (k : EExit → Cfg → DM → Prop) : Prop := f c fun e c' => match e with
  | .pan _ => False
  | e => k e c' m
def recW : List Oper → DW
  | [], c, m, k => k .normal c m
  | o :: l, c, m, k => match o.guard with
    | some _ => False
    | none => match isRec o.op with
      | true => (match m with
        | some (v, false) => recW l ⟨putE c.tmps o.dst v, c.defers, c.st⟩ (some (v, true)) k
        | m => recW l ⟨putE c.tmps o.dst .nili, c.defers, c.st⟩ m k)
      | false => match qop P c.st (evF c.tmps) o.op with
        | some (cs, v) => needsR cs (recW l ⟨putE c.tmps o.dst v, c.defers, c.st⟩ m k)
        | none => False
def seqDW (a b : DW) (c : Cfg) (m : DM) (k : EExit → Cfg → DM → Prop) : Prop := a c m fun e c' m' => match e with
  | .normal => b c' m' k
  | e => k e c' m'
def condDW (x : Operand) (a b : DW) (c : Cfg) (m : DM) (k : EExit → Cfg → DM → Prop) : Prop :=
  match evF c.tmps x with
  | some (.bool q) => iteB q (a c m k) (b c m k)
  | _ => False
def compDW (self : SW) (fuel : Nat) (x : Code) : DW :=
  @Code.rec (fun _ => DW)
    (withDW (compW P self fuel none noLpW .skip))
    (fun id ops draw => match draw with
      | false => (match hasRec ops.toList with
        | true => recW P ops.toList
        | false => withDW (compW P self fuel none noLpW (.region id ops false)))
      | true => withDW (compW P self fuel none noLpW (.region id ops true)))
    (fun _ _ ia ib => seqDW ia ib)
    (fun x _ _ ia ib => condDW x ia ib)
    (fun id b _ => withDW (compW P self fuel none noLpW (.block id b)))
    (fun b _ => withDW (compW P self fuel none noLpW (.loop b)))
    (fun f ps assign body _ _ => withDW (compW P self fuel none noLpW (.rangeFunc f ps assign body)))
    (fun id => withDW (compW P self fuel none noLpW (.exit id)))
    (fun b _ => withDW (compW P self fuel none noLpW (.scope b)))
    (fun l => withDW (compW P self fuel none noLpW (.label l)))
    (fun l => withDW (compW P self fuel none noLpW (.goto l)))
    (withDW (compW P self fuel none noLpW .ret))
    (fun why => withDW (compW P self fuel none noLpW (.refuse why))) x
def runDefW (self : SW) (fuel : Nat) (g : FuncId) (args : List V) (m : DM) (s : St) (k : DM → St → Prop) : Prop :=
  match P.funcs[g]? with
  | some fn => (match fn.body with
    | some c => guardB (Nat.ble (llen args) fn.ntmps && Nat.ble fn.ntmps 4096) (frmK fn.ntmps .undef (argsL 0 args) fun f => compDW P self fuel c ⟨f, [], s⟩ m fun e c' m' =>
      (match (match e with
        | .normal => true
        | .ret => true
        | _ => false) with
      | true => (match c'.defers with
        | [] => resultW P c'.st c'.tmps fn.results.toList fun _ => k m' c'.st
        | _ :: _ => False)
      | false => False))
    | none => False)
  | none => False
def leaveW (self : SW) (fuel : Nat) (fn : Func) (tmps : Frm) : DM → List EDef → St → KS → Prop
  | pan, [], s, k => (match pan with
    | some (v, false) => k (.pan v) s
    | some (_, true) => False
    | none => resultW P s tmps fn.results.toList fun v => k (.ret v) s)
  | pan, .mark r :: ds, s, k => (match s.heap.get r with
    | some (.dfr false) => leaveW self fuel fn tmps pan ds (s.upd r (.dfr true)) k
    | _ => False)
  | pan, .call g args cap :: ds, s, k => guardB (bodyOK P g) (runDefW P self fuel g (lapp args cap) pan s fun m s' => leaveW self fuel fn tmps (settleE m) ds s' k)
def fnLW (self : SW) (fuel : Nat) (lp : LpW) (f : FuncId) (args : List V) (s : St) (k : KS) : Prop :=
  match P.funcs[f]? with
  | some fn => (match fn.body with
    | some c => guardB (Nat.ble (llen args) fn.ntmps && Nat.ble fn.ntmps 4096) (frmK fn.ntmps .undef (argsL 0 args) fun f => compW P self fuel none lp c ⟨f, [], s⟩ fun e c' => match e with
      | .normal => leaveW P self fuel fn c'.tmps none c'.defers c'.st k
      | .ret => leaveW P self fuel fn c'.tmps none c'.defers c'.st k
      | .pan v => leaveW P self fuel fn c'.tmps (some (v, false)) c'.defers c'.st k
      | _ => False)
    | none => False)
  | none => False
def fnW (self : SW) (fuel : Nat) (f : FuncId) (args : List V) (s : St) (k : KS) : Prop := fnLW P self fuel noLpW f args s k
def tgtW (self : SW) (fuel : Nat) (t : ETgt) (s : St) (k : KS) : Prop :=
  match t with
  | .fn f args => fnW P self fuel f args s k
  | .round l args => roundW P self fuel l args s k
abbrev KnW := ETgt → St → Option (KS → Prop)
def callW (known : KnW) (fuel : Nat) (d : Nat) : SW :=
  @Nat.rec (fun _ => SW) (fun _ _ _ => False) (fun _ ih t s k => match known t s with
    | some r => r k
    | none => tgtW P ih fuel t s k) d
end
end Go.Sym
end
