/-
  Texts of this claim, one behind the other: SymW SymX SymY SymZ SymO SymP SymV SymT SymAu. Each says its own conditions.
-/
import Derived.Test.YtlkbmjdgfbciaaaRlPM3

set_option linter.unusedVariables false
set_option linter.unusedSimpArgs false
set_option linter.unusedSectionVars false
section
namespace Go.Sym
set_option linter.unusedSimpArgs false
set_option linter.unusedVariables false

abbrev KC := EExit → Cfg → Prop
abbrev KS := EEnd → St → Prop
abbrev CW := Cfg → KC → Prop
abbrev SW := ETgt → St → KS → Prop

def needsR (l : List Bool) (q : Prop) : Prop := @List.rec Bool (fun _ => Prop) q (fun b _ ih => andB b ih) l
theorem needsR_iff : ∀ (l : List Bool) (q : Prop), needsR l q ↔ allB l ∧ q
  | [], q => by show q ↔ _; simp [allB]
  | b :: l, q => by
    show andB b (needsR l q) ↔ _
    rw [andB_iff, needsR_iff l q, allB, and_assoc]
def forceN : Nat → (Nat → Prop) → Prop
  | 0, k => k 0
  | n + 1, k => forceN n fun m => k (m + 1)
theorem forceN_iff : ∀ (n : Nat) (k : Nat → Prop), forceN n k ↔ k n
  | 0, k => Iff.rfl
  | n + 1, k => forceN_iff n fun m => k (m + 1)
def forceM : List (Nat × Nat) → (List (Nat × Nat) → Prop) → Prop
  | [], k => k []
  | e :: l, k => forceN e.2 fun b => forceM l fun l' => k ((e.1, b) :: l')
theorem forceM_iff : ∀ (l : List (Nat × Nat)) (k : List (Nat × Nat) → Prop), forceM l k ↔ k l
  | [], k => Iff.rfl
  | e :: l, k => by rw [forceM, forceN_iff]; exact forceM_iff l fun l' => k ((e.1, e.2) :: l')
def forceVL (f : V → (V → Prop) → Prop) : List V → (List V → Prop) → Prop
  | [], k => k []
  | v :: l, k => f v fun v => forceVL f l fun l => k (v :: l)
theorem forceVL_iff {f : V → (V → Prop) → Prop} (hf : ∀ v k, f v k ↔ k v) : ∀ (l : List V) (k : List V → Prop), forceVL f l k ↔ k l
  | [], k => Iff.rfl
  | v :: l, k => by rw [forceVL, hf]; exact forceVL_iff hf l fun l => k (v :: l)
def forceV : Nat → V → (V → Prop) → Prop
  | 0, v, k => k v
  | d + 1, v, k => match v with
    | .agg l => forceVL (forceV d) l fun l => k (.agg l)
    | .tup l => forceVL (forceV d) l fun l => k (.tup l)
    | .iface t v => forceV d v fun v => k (.iface t v)
    | .fn f a c => forceVL (forceV d) a fun a => forceVL (forceV d) c fun c => k (.fn f a c)
    | .ptr b o => forceN b fun b => forceN o fun o => k (.ptr b o)
    | .rptr b i j es => forceN b fun b => forceN j fun j => k (.rptr b i j es)
    | .sl b o len cap x es => forceN b fun b => forceN o fun o => forceN len fun len => forceN cap fun cap => k (.sl b o len cap x es)
    | .rs b lo len cap x es => forceN b fun b => k (.rs b lo len cap x es)
    | .map b => forceN b fun b => k (.map b)
    | .yld l => forceN l fun l => k (.yld l)
    | .undef => k .undef
    | .any => k .any
    | .bool b => k (.bool b)
    | .int kd n => k (.int kd n)
    | .str s => k (.str s)
    | .nilp => k .nilp
    | .nils => k .nils
    | .nilm => k .nilm
    | .nilf => k .nilf
    | .nili => k .nili
    | .lptr e L i j => k (.lptr e L i j)
    | .lst e L cl => k (.lst e L cl)
    | .arr e L => k (.arr e L)
theorem forceV_iff : ∀ (d : Nat) (v : V) (k : V → Prop), forceV d v k ↔ k v
  | 0, v, k => Iff.rfl
  | d + 1, v, k => by
    unfold forceV
    split <;> simp only [forceVL_iff (forceV_iff d), forceV_iff d, forceN_iff]
def forceB : B V → (B V → Prop) → Prop
  | .leaf v, k => forceV 4 v fun v => k (.leaf v)
  | .node l r, k => forceB l fun l => forceB r fun r => k (.node l r)
theorem forceB_iff : ∀ (t : B V) (k : B V → Prop), forceB t k ↔ k t
  | .leaf v, k => forceV_iff _ _ _
  | .node l r, k => by rw [forceB, forceB_iff l, forceB_iff r]
def forceF (f : Frm) (k : Frm → Prop) : Prop := match f with
  | ⟨n, t⟩ => forceB t fun t => k ⟨n, t⟩
theorem forceF_iff (f : Frm) (k : Frm → Prop) : forceF f k ↔ k f := by cases f; exact forceB_iff _ _
def setK (x : V) : B V → Nat → (B V → Prop) → Prop
  | .leaf _, _, k => k (.leaf x)
  | .node l r, n, k => match Nat.beq (n % 2) 1 with
    | true => setK x r (n / 2) fun r => k (.node l r)
    | false => setK x l (n / 2) fun l => k (.node l r)
theorem setK_iff (x : V) : ∀ (t : B V) (n : Nat) (k : B V → Prop), setK x t n k ↔ k (B.set x t n)
  | .leaf _, _, k => Iff.rfl
  | .node l r, n, k => by
    rw [setK, B.set_node]
    cases Nat.beq (n % 2) 1
    · exact setK_iff x l _ _
    · exact setK_iff x r _ _
def putK (f : Frm) (d : Option Tmp) (v : V) (k : Frm → Prop) : Prop := match d with
  | none => k f
  | some d => match f with
    | ⟨n, t⟩ => match Nat.blt d n with
      | true => setK v t d fun t => k ⟨n, t⟩
      | false => k ⟨n, t⟩
theorem putK_iff (f : Frm) (d : Option Tmp) (v : V) (k : Frm → Prop) : putK f d v k ↔ k (putE f d v) := by
  cases d with
  | none => exact Iff.rfl
  | some d =>
    rw [putE_some]
    cases f with
    | mk n t =>
      simp only [putK]
      cases Nat.blt d n
      · exact Iff.rfl
      · exact setK_iff _ _ _ _
theorem B.ext {α : Type} : ∀ (t t' : B α) (d : Nat), t.full d → t'.full d → (∀ i, i < 2 ^ d → t.get i = t'.get i) → t = t'
  | .leaf v, .leaf v', d, _, _, hg => by
    have : v = v' := hg 0 (Nat.two_pow_pos d)
    rw [this]
  | .leaf _, .node _ _, d, h, h', _ => by
    have h : d = 0 := h
    obtain ⟨e, he, _, _⟩ := h'
    omega
  | .node _ _, .leaf _, d, h, h', _ => by
    have h' : d = 0 := h'
    obtain ⟨e, he, _, _⟩ := h
    omega
  | .node l r, .node l' r', d, h, h', hg => by
    obtain ⟨e, rfl, h1, h2⟩ := h
    obtain ⟨e', he, h3, h4⟩ := h'
    have he : e = e' := by omega
    subst he
    rw [Nat.pow_succ] at hg
    have hl : l = l' := B.ext l l' e h1 h3 fun i hi => by
      have := hg (2 * i) (by omega)
      rw [B.get_node, B.get_node, show (2 * i) % 2 = 0 by omega, show (2 * i) / 2 = i by omega] at this
      exact this
    have hr : r = r' := B.ext r r' e h2 h4 fun i hi => by
      have := hg (2 * i + 1) (by omega)
      rw [B.get_node, B.get_node, show (2 * i + 1) % 2 = 1 by omega, show (2 * i + 1) / 2 = i by omega] at this
      exact this
    rw [hl, hr]
def repB (z : V) : Nat → B V
  | 0 => .leaf z
  | d + 1 => .node (repB z d) (repB z d)
theorem repB_full (z : V) : ∀ d, (repB z d).full d
  | 0 => rfl
  | d + 1 => ⟨d, rfl, repB_full z d, repB_full z d⟩
theorem repB_get (z : V) : ∀ (d i : Nat), (repB z d).get i = z
  | 0, _ => rfl
  | d + 1, i => by
    rw [repB, B.get_node]
    cases Nat.beq (i % 2) 1
    · exact repB_get z d _
    · exact repB_get z d _
def slotD (z : V) (i : Nat) : List (Nat × V) → V
  | [] => z
  | e :: l => bif Nat.beq e.1 i then e.2 else slotD z i l
noncomputable def setsB (n : Nat) (t : B V) : List (Nat × V) → B V
  | [] => t
  | e :: l => bif Nat.blt e.1 n then B.set e.2 (setsB n t l) e.1 else setsB n t l
theorem setsB_full {n d : Nat} {t : B V} (h : t.full d) : ∀ l, (setsB n t l).full d
  | [] => h
  | e :: l => by
    rw [setsB]
    cases Nat.blt e.1 n
    · exact setsB_full h l
    · exact B.set_full _ _ _ _ (setsB_full h l)
theorem setsB_get {n d : Nat} {z : V} (hn : n ≤ 2 ^ d) : ∀ (l : List (Nat × V)) (i : Nat), i < n → (setsB n (repB z d) l).get i = slotD z i l
  | [], i, _ => repB_get z d i
  | e :: l, i, hi => by
    have ih := setsB_get (z := z) hn l i hi
    rw [setsB, slotD]
    cases hb : Nat.blt e.1 n with
    | true =>
      rw [blt_iff] at hb
      have hb := of_decide_eq_true hb
      rw [cond_true, B.get_set _ _ d _ _ (setsB_full (repB_full z d) l) (by omega) (by omega), ih]
      by_cases h : i = e.1
      · subst h; rw [if_pos rfl, Nat.beq_refl, cond_true]
      · rw [if_neg h]
        cases hq : Nat.beq e.1 i with
        | true => exact absurd (Nat.eq_of_beq_eq_true hq).symm h
        | false => rfl
    | false =>
      rw [cond_false, ih]
      cases hq : Nat.beq e.1 i with
      | true =>
        have := Nat.eq_of_beq_eq_true hq
        rw [blt_iff] at hb
        have := of_decide_eq_false hb
        omega
      | false => rfl
theorem setsB_get' {n d : Nat} {z : V} (hn : n ≤ 2 ^ d) : ∀ (l : List (Nat × V)) (i : Nat), n ≤ i → i < 2 ^ d → (setsB n (repB z d) l).get i = z
  | [], i, _, _ => repB_get z d i
  | e :: l, i, hi, hd => by
    have ih := setsB_get' (z := z) hn l i hi hd
    rw [setsB]
    cases hb : Nat.blt e.1 n with
    | true =>
      rw [blt_iff] at hb
      have hb := of_decide_eq_true hb
      rw [cond_true, B.get_set _ _ d _ _ (setsB_full (repB_full z d) l) (by omega) hd, ih, if_neg (by omega)]
    | false => exact ih
def argsL : Nat → List V → List (Nat × V)
  | _, [] => []
  | i, v :: l => (i, v) :: argsL (i + 1) l
theorem argsL_slot (z : V) : ∀ (l : List V) (j i : Nat), j ≤ i → slotD z i (argsL j l) = l.getD (i - j) z
  | [], _, _, _ => rfl
  | v :: l, j, i, h => by
    rw [argsL, slotD]
    cases hq : Nat.beq j i with
    | true =>
      have := Nat.eq_of_beq_eq_true hq
      subst this
      rw [cond_true, Nat.sub_self]; rfl
    | false =>
      have hne : j ≠ i := fun e => by rw [e, Nat.beq_refl] at hq; cases hq
      rw [cond_false, argsL_slot z l (j + 1) i (by omega), show i - j = (i - (j + 1)) + 1 by omega]
      rfl
theorem mkFrm_sets {n : Nat} {args : List V} (h1 : args.length ≤ n) (h2 : n ≤ 4096) : mkFrm n args = ⟨n, setsB n (repB .undef (hOf n)) (argsL 0 args)⟩ := by
  have hd := hOf_le h2
  unfold mkFrm
  rw [B.ext (B.ofList .undef (hOf n) args) (setsB n (repB .undef (hOf n)) (argsL 0 args)) (hOf n) (B.ofList_full _ _ _) (setsB_full (repB_full _ _) _) fun i hi => ?_]
  rw [B.ofList_get _ _ _ _ hi]
  rcases Nat.lt_or_ge i n with h | h
  · rw [setsB_get hd _ _ h, argsL_slot _ _ _ _ (Nat.zero_le _), Nat.sub_zero]
  · rw [setsB_get' hd _ _ h hi, List.getD_eq_getElem?_getD, List.getElem?_eq_none (by omega)]
    rfl
def repK (z : V) : Nat → (B V → Prop) → Prop
  | 0, k => k (.leaf z)
  | d + 1, k => repK z d fun t => k (.node t t)
theorem repK_iff (z : V) : ∀ (d : Nat) (k : B V → Prop), repK z d k ↔ k (repB z d)
  | 0, k => Iff.rfl
  | d + 1, k => by rw [repK, repK_iff z d]; exact Iff.rfl
def setsK (n : Nat) (t : B V) : List (Nat × V) → (B V → Prop) → Prop
  | [], k => k t
  | (i, v) :: l, k => setsK n t l fun t => match Nat.blt i n with
    | true => forceV 4 v fun v => setK v t i k
    | false => k t
theorem setsK_iff (n : Nat) (t : B V) : ∀ (l : List (Nat × V)) (k : B V → Prop), setsK n t l k ↔ k (setsB n t l)
  | [], k => Iff.rfl
  | (i, v) :: l, k => by
    rw [setsK, setsK_iff n t l, setsB]
    cases Nat.blt i n
    · exact Iff.rfl
    · simp only [forceV_iff, setK_iff, cond_true]
def frmK (n : Nat) (z : V) (l : List (Nat × V)) (k : Frm → Prop) : Prop := repK z (hOf n) fun t => setsK n t l fun t => k ⟨n, t⟩
theorem frmK_iff (n : Nat) (z : V) (l : List (Nat × V)) (k : Frm → Prop) : frmK n z l k ↔ k ⟨n, setsB n (repB z (hOf n)) l⟩ := by rw [frmK, repK_iff, setsK_iff]
theorem frmK_args {n : Nat} {args : List V} {k : Frm → Prop} (hg : (Nat.ble (llen args) n && Nat.ble n 4096) = true) (h : frmK n .undef (argsL 0 args) k) : k (mkFrm n args) := by
  rw [Bool.and_eq_true, Nat.ble_eq, Nat.ble_eq, llen_eq] at hg
  rw [mkFrm_sets hg.1 hg.2]
  exact (frmK_iff _ _ _ _).1 h
def forceE (r : ELoop) (k : ELoop → Prop) : Prop := match r with
  | ⟨st, p, f, ps, a, b, d⟩ => forceN d fun d => k ⟨st, p, f, ps, a, b, d⟩
theorem forceE_iff (r : ELoop) (k : ELoop → Prop) : forceE r k ↔ k r := by cases r; exact forceN_iff _ _
def forceO : Option EObj → (Option EObj → Prop) → Prop
  | some (.cells cs t h), k => forceVL (forceV 4) cs fun cs => k (some (.cells cs t h))
  | some (.loop r), k => forceE r fun r => k (some (.loop r))
  | some (.rows e L t h), k => k (some (.rows e L t h))
  | some (.dfr b), k => k (some (.dfr b))
  | some (.map es c), k => k (some (.map es c))
  | some (.pm kk tt M c), k => k (some (.pm kk tt M c))
  | none, k => k none
theorem forceO_iff (o : Option EObj) (k : Option EObj → Prop) : forceO o k ↔ k o := by
  unfold forceO
  split <;> first | exact Iff.rfl | exact forceVL_iff (forceV_iff 4) _ _ | exact forceE_iff _ _
def forceT : T EObj → (T EObj → Prop) → Prop
  | .leaf, k => k .leaf
  | .node v l r, k => forceO v fun v => forceT l fun l => forceT r fun r => k (.node v l r)
theorem forceT_iff : ∀ (t : T EObj) (k : T EObj → Prop), forceT t k ↔ k t
  | .leaf, k => Iff.rfl
  | .node v l r, k => by rw [forceT, forceO_iff, forceT_iff l, forceT_iff r]
def forceS (s : St) (k : St → Prop) : Prop := match s with
  | ⟨h, n⟩ => forceT h fun h => forceN n fun n => k ⟨h, n⟩
theorem forceS_iff (s : St) (k : St → Prop) : forceS s k ↔ k s := by cases s; simp only [forceS, forceT_iff, forceN_iff]
def forceC (c : Cfg) (k : Cfg → Prop) : Prop := match c with
  | ⟨f, ds, s⟩ => forceF f fun f => forceS s fun s => k ⟨f, ds, s⟩
theorem forceC_iff (c : Cfg) (k : Cfg → Prop) : forceC c k ↔ k c := by cases c; simp only [forceC, forceF_iff, forceS_iff]
def forceG (t : ETgt) (k : ETgt → Prop) : Prop := match t with
  | .fn f args => forceVL (forceV 4) args fun args => k (.fn f args)
  | .round l args => forceVL (forceV 4) args fun args => k (.round l args)
theorem forceG_iff (t : ETgt) (k : ETgt → Prop) : forceG t k ↔ k t := by cases t <;> exact forceVL_iff (forceV_iff 4) _ _
def finK (f : Frm) : List DRec → (Frm → Prop) → Prop
  | [], k => k f
  | r :: l, k => putK f r.o.dst r.v fun f => finK f l k
theorem finK_iff (f : Frm) : ∀ (l : List DRec) (k : Frm → Prop), finK f l k ↔ k (finF f l) := by
  intro l
  induction l generalizing f with
  | nil => intro k; exact Iff.rfl
  | cons r l ih => intro k; rw [finK, putK_iff, ih]; exact Iff.rfl
noncomputable section
variable (P : Program)

def eqFields2 (nest : TypeId → V → V → Option Bool) (d : List Field) (l m : List V) : Option Bool :=
  match d with
  | [] => some true
  | f :: rest =>
    match P.underlying f.type with
    | some (.int _) => match lget l f.offset, lget m f.offset with
      | some (.int k x), some (.int k' y) => bif kEq k k' then (match eqFields2 nest rest l m with
        | some r => some (decide (x = y) && r)
        | none => none) else none
      | _, _ => none
    | some .bool => match lget l f.offset, lget m f.offset with
      | some (.bool x), some (.bool y) => match eqFields2 nest rest l m with
        | some r => some ((x == y) && r)
        | none => none
      | _, _ => none
    | some .string => match lget l f.offset, lget m f.offset with
      | some (.str x), some (.str y) => match eqFields2 nest rest l m with
        | some r => some (sEq x y && r)
        | none => none
      | _, _ => none
    | some (.struct _) => match partE P f.type l f.offset, partE P f.type m f.offset with
      | some x, some y => match nest f.type x y, eqFields2 nest rest l m with
        | some q, some r => some (q && r)
        | _, _ => none
      | _, _ => none
    | _ => none
def eqNest2 : Nat → TypeId → V → V → Option Bool
  | 0, _, _, _ => none
  | n + 1, t, a, b => match P.underlying t with
    | some (.struct fs) => match a, b with
      | .agg l, .agg m => eqFields2 P (eqNest2 n) fs.toList l m
      | _, _ => none
    | _ => none
def okFs (n : Nat) (f : Nat → TypeId → Bool) : List Field → Bool
  | [] => true
  | fd :: l => (!(fd.name == "_") && (match P.underlying fd.type with
    | some (.struct _) => f n fd.type
    | _ => true)) && okFs n f l
def okF : Nat → TypeId → Bool
  | 0, _ => false
  | n + 1, t => match P.underlying t with
    | some (.struct fs) => !(P.stoodInHeld t) && okFs P n (fun _ => okF n) fs.toList
    | _ => false
def eqOK0 (t : TypeId) : Bool := okF P 7 t && !(P.eqGuardType P.depth t)
def eqOK (t : TypeId) : Bool := Classical.choose (⟨eqOK0 P t, rfl⟩ : ∃ y, y = eqOK0 P t)
theorem eqOK_eq (t : TypeId) : eqOK P t = eqOK0 P t := Classical.choose_spec (⟨eqOK0 P t, rfl⟩ : ∃ y, y = eqOK0 P t)
def structEq (ev : Operand → Option V) (op : Op) : Option (List Bool × V) :=
  match op with
  | .binOp o t x y _ => (match P.underlying t with
    | some (.struct fs) => (match o with
      | .eql => (match ev x, ev y with
        | some (.agg l), some (.agg m) => (match eqFields2 P (eqNest2 P 6) fs.toList l m with
          | some r => some ([eqOK P t], .bool r)
          | none => none)
        | _, _ => none)
      | .neq => (match ev x, ev y with
        | some (.agg l), some (.agg m) => (match eqFields2 P (eqNest2 P 6) fs.toList l m with
          | some r => some ([eqOK P t], .bool (!r))
          | none => none)
        | _, _ => none)
      | _ => none)
    | _ => none)
  | _ => none
theorem okFs_eq {n : Nat} (hn : ∀ t a b, okF P n t = true → eqNest P n t a b = eqNest2 P n t a b) : ∀ (d : List Field) (l m : List V), okFs P n (fun _ => okF P n) d = true → eqFields P (eqNest P n) d l m = eqFields2 P (eqNest2 P n) d l m
  | [], _, _, _ => rfl
  | f :: d, l, m, h => by
    rw [okFs, Bool.and_eq_true, Bool.and_eq_true] at h
    obtain ⟨⟨h1, h2⟩, h3⟩ := h
    have ih := okFs_eq hn d l m h3
    have hf : (f.name == "_") = false := by simpa using h1
    rw [eqFields, eqFields2, hf, cond_false]
    cases hu : P.underlying f.type with
    | none => rfl
    | some u =>
      rw [hu] at h2
      cases u with
      | struct fs =>
        simp only at h2 ⊢
        cases partE P f.type l f.offset with
        | none => rfl
        | some x =>
          cases partE P f.type m f.offset with
          | none => rfl
          | some y =>
            simp only [hn _ x y h2, ih]
            rfl
      | _ => first | rfl | (simp only [ih]; done) | (simp only [ih]; rfl)
theorem okNest_eq : ∀ (n : Nat) (t : TypeId) (a b : V), okF P n t = true → eqNest P n t a b = eqNest2 P n t a b
  | 0, _, _, _, h => by cases h
  | n + 1, t, a, b, h => by
    rw [okF] at h
    rw [eqNest, eqNest2]
    cases hu : P.underlying t with
    | none => rfl
    | some u =>
      rw [hu] at h
      cases u with
      | struct fs =>
        simp only [Bool.and_eq_true, Bool.not_eq_true'] at h
        cases a <;> cases b <;> first
          | rfl
          | (simp only [h.1, cond_false]; exact okFs_eq P (okNest_eq n) _ _ _ h.2)
      | _ => first | rfl | cases h
theorem structEq_ok {s : St} {ev : Operand → Option V} {op : Op} {c : List Bool} {v : V} (h : structEq P ev op = some (c, v)) (hc : allB c) : qop P s ev op = some ([], v) := by
  unfold structEq at h
  split at h
  · rename_i o t x y z
    split at h
    · rename_i fs hu
      have key : ∀ l m r, eqFields2 P (eqNest2 P 6) fs.toList l m = some r → eqOK P t = true → eqAny P s t (.agg l) (.agg m) = some r := by
        intro l m r hr hk
        rw [eqOK_eq] at hk
        unfold eqOK0 at hk
        rw [Bool.and_eq_true, Bool.not_eq_true'] at hk
        obtain ⟨k1, k2⟩ := hk
        rw [okF, hu] at k1
        simp only [Bool.and_eq_true, Bool.not_eq_true'] at k1
        unfold eqAny
        have e1 : eqE P s t (.agg l) (.agg m) = none := by unfold eqE; rw [hu]
        have e2 : eqNil2 P t (.agg l) (.agg m) = none := by unfold eqNil2; rw [hu]
        have e3 : eqStruct P t (.agg l) (.agg m) = some r := by
          unfold eqStruct
          rw [hu]
          simp only [k1.1, k2, Bool.or_self, cond_false]
          rw [okFs_eq P (okNest_eq P 6) _ _ _ k1.2]
          exact hr
        rw [e1, e2, e3]
      split at h
      · split at h
        · rename_i l m hx hy
          split at h
          · rename_i r hr
            cases h
            simp only [qop, hx, hy, qBin, key l m r hr hc.1, ok0]
          · cases h
        · cases h
      · split at h
        · rename_i l m hx hy
          split at h
          · rename_i r hr
            cases h
            simp only [qop, hx, hy, qBin, key l m r hr hc.1, ok0]
          · cases h
        · cases h
      · cases h
    · cases h
  · cases h

def effW (s : St) (ev : Operand → Option V) (op : Op) (k : EOut → St → Prop) : Prop :=
  match eopR P s ev op with
  | some (.inl (some (c, v, s'))) => needsR c (forceS s' (k (.val v)))
  | some (.inl none) => False
  | some (.inr (some (c, s'))) => needsR c (forceS s' (k .skip))
  | some (.inr none) => False
  | none => match eopC P s ev op with
    | some (o, s') => forceS s' (k o)
    | none => False
def splitF (d : Option Tmp) (f : Frm) (k : Frm → Prop) : Prop :=
  match d with
  | none => k f
  | some d => match f.get d with
    | .bool b => iteB b (putK f (some d) (.bool true) k) (putK f (some d) (.bool false) k)
    | _ => k f
def slotG (g : Option (Option Tmp × Bool)) : Option Tmp :=
  match g with
  | some (some d, _) => some d
  | _ => none
def slotP (op : Op) : Option Tmp :=
  match op with
  | .pick (.tmp c) _ _ => some c
  | _ => none
def slotO (x : Operand) : Option Tmp :=
  match x with
  | .tmp c => some c
  | _ => none
def opW (s : St) (ev : Operand → Option V) (op : Op) (k : EOut → St → Prop) : Prop :=
  match structEq P ev op with
  | some (c, v) => needsR c (k (.val v) s)
  | none => match qop P s ev op with
    | some (c, v) => needsR c (k (.val v) s)
    | none => effW P s ev op k
def guardW (g : Option (Option Tmp × Bool)) (f : Frm) (yes no : Prop) : Prop :=
  match g with
  | none => yes
  | some (none, _) => no
  | some (some d, want) => match f.get d with
    | .any => False
    | .bool b => (match want with
      | true => iteB b yes no
      | false => iteB b no yes)
    | _ => no
def nextW (self : SW) (d : Option Tmp) (rest : CW) (f : Frm) (ds : List EDef) (k : KC) (o : EOut) (s : St) : Prop :=
  match o with
  | .val v => forceV 4 v fun v => putK f d v fun f => rest ⟨f, ds, s⟩ k
  | .skip => putK f d .undef fun f => rest ⟨f, ds, s⟩ k
  | .pan v => k (.pan v) ⟨f, ds, s⟩
  | .enter t => forceG t fun t => self t s fun e s' => match e with
    | .ret v => forceV 4 v fun v => putK f d v fun f => rest ⟨f, ds, s'⟩ k
    | .pan v => k (.pan v) ⟨f, ds, s'⟩
def stepW (self : SW) (ops : Array Oper) (rest : CW) (o : Oper) (c : Cfg) (k : KC) : Prop :=
  match c with
  | ⟨fr, ds, s⟩ => splitF (slotG (guardOf ops o)) fr fun fr => guardW (guardOf ops o) fr (splitF (slotP o.op) fr fun fr => opW P s (evF fr) o.op (nextW self o.dst rest fr ds k)) (putK fr o.dst .undef fun fr => rest ⟨fr, ds, s⟩ k)
def opsW (self : SW) (ops : Array Oper) (l : List Oper) : CW :=
  @List.rec Oper (fun _ => CW) (fun c k => k .normal c) (fun x _ ih => stepW P self ops ih x) l

def noMem (op : Op) : Bool :=
  match op with
  | .move _ | .assign _ | .pick .. | .unOp .. | .makeInterface .. | .makeFunc .. | .fieldAddr .. | .field .. | .indexAddr .. | .index .. | .build .. | .extract .. | .typeAssert .. | .nilCheck _ => true
  | .binOp _ t _ _ _ => (match P.underlying t with
    | some (.int _) => true
    | some .bool => true
    | some .string => true
    | _ => false)
  | .slice t _ _ _ _ => (match P.underlying t with
    | some .string => true
    | some (.slice _) => true
    | _ => false)
  | _ => false
def quietW (mb : Option Nat) (s : St) (ev : Operand → Option V) (op : Op) (k : V → Prop) : Prop :=
  match mb with
  | none => (match structEq P ev op with
    | some (c, v) => needsR c (k v)
    | none => (match qop P s ev op with
      | some (c, v) => needsR c (k v)
      | none => False))
  | some b => (match mkR P ev op with
    | some (c, m) => needsR c (s.heap.get b = some m.obj ∧ k (m.val b))
    | none => False)
def isQuiet (mb : Option Nat) (s : St) (ev : Operand → Option V) (op : Op) : Bool :=
  match mb with
  | none => (match structEq P ev op with
    | some _ => true
    | none => (qop P s ev op).isSome)
  | some _ => true
def panTailW (ops : Array Oper) (M : List (Nat × Nat)) (A : List Nat) (ip : Nat) (l : List Oper) : Nat → Frm → St → (List DRec → Prop) → Prop :=
  @List.rec Oper (fun _ => Nat → Frm → St → (List DRec → Prop) → Prop) (fun _ _ _ k => k [])
    (fun o _ ih i f s k => bif tbQ (ogetN (lget A i)) ip then putK f o.dst .undef fun f' => ih (Nat.succ i) f' s (fun R => k (⟨i, o, f, s, .undef, false, none, none⟩ :: R))
    else splitF (slotG (guardOf ops o)) f fun f => guardW (guardOf ops o) f
      (splitF (slotP o.op) f fun f => quietW P (findM i M) s (evL (o.looksAt ops) f) o.op fun v => forceV 4 v fun v => putK f o.dst v fun f' => ih (Nat.succ i) f' s (fun R => k (⟨i, o, f, s, v, true, none, findM i M⟩ :: R)))
      (putK f o.dst .undef fun f' => ih (Nat.succ i) f' s (fun R => k (⟨i, o, f, s, .undef, false, none, findM i M⟩ :: R)))) l
theorem panTailW_cons (ops : Array Oper) (M : List (Nat × Nat)) (A : List Nat) (ip : Nat) (o : Oper) (l : List Oper) (i : Nat) (f : Frm) (s : St) (k : List DRec → Prop) : panTailW P ops M A ip (o :: l) i f s k =
    (bif tbQ (ogetN (lget A i)) ip then putK f o.dst .undef fun f' => panTailW P ops M A ip l (Nat.succ i) f' s (fun R => k (⟨i, o, f, s, .undef, false, none, none⟩ :: R))
    else splitF (slotG (guardOf ops o)) f fun f => guardW (guardOf ops o) f
      (splitF (slotP o.op) f fun f => quietW P (findM i M) s (evL (o.looksAt ops) f) o.op fun v => forceV 4 v fun v => putK f o.dst v fun f' => panTailW P ops M A ip l (Nat.succ i) f' s (fun R => k (⟨i, o, f, s, v, true, none, findM i M⟩ :: R)))
      (putK f o.dst .undef fun f' => panTailW P ops M A ip l (Nat.succ i) f' s (fun R => k (⟨i, o, f, s, .undef, false, none, findM i M⟩ :: R)))) := rfl
def drawOneW (self : SW) (ops : Array Oper) (M : List (Nat × Nat)) (o : Oper) (ih : Nat → Frm → St → (List DRec → Prop) → (List DRec → Nat → V → St → Prop) → Prop) (pt : Nat → Nat → Frm → St → (List DRec → Prop) → Prop) (i : Nat) (f : Frm) (s : St) (kR : List DRec → Prop) (kP : List DRec → Nat → V → St → Prop) : Prop :=
    splitF (slotG (guardOf ops o)) f fun f => guardW (guardOf ops o) f
      (splitF (slotP o.op) f fun f => match isQuiet P (findM i M) s (evL (o.looksAt ops) f) o.op with
      | true => quietW P (findM i M) s (evL (o.looksAt ops) f) o.op fun v => forceV 4 v fun v => putK f o.dst v fun f' => ih (Nat.succ i) f' s (fun R => kR (⟨i, o, f, s, v, true, none, findM i M⟩ :: R)) (fun R => kP (⟨i, o, f, s, v, true, none, findM i M⟩ :: R))
      | false => effW P s (evL (o.looksAt ops) f) o.op fun out s1 => match out with
        | .val v => forceV 4 v fun v => putK f o.dst v fun f' => ih (Nat.succ i) f' s1 (fun R => kR (⟨i, o, f, s, v, false, some s1, none⟩ :: R)) (fun R => kP (⟨i, o, f, s, v, false, some s1, none⟩ :: R))
        | .skip => putK f o.dst .undef fun f' => ih (Nat.succ i) f' s1 (fun R => kR (⟨i, o, f, s, .undef, false, some s1, none⟩ :: R)) (fun R => kP (⟨i, o, f, s, .undef, false, some s1, none⟩ :: R))
        | .pan v => putK f o.dst .undef fun f' => pt i (Nat.succ i) f' s (fun R => kP (⟨i, o, f, s, .undef, false, none, none⟩ :: R) i v s1)
        | .enter t => forceG t fun t => self t s1 fun e s2 => match e with
          | .ret v => forceV 4 v fun v => putK f o.dst v fun f' => ih (Nat.succ i) f' s2 (fun R => kR (⟨i, o, f, s, v, false, some s2, none⟩ :: R)) (fun R => kP (⟨i, o, f, s, v, false, some s2, none⟩ :: R))
          | .pan v => putK f o.dst .undef fun f' => pt i (Nat.succ i) f' s (fun R => kP (⟨i, o, f, s, .undef, false, none, none⟩ :: R) i v s2))
      (putK f o.dst .undef fun f' => ih (Nat.succ i) f' s (fun R => kR (⟨i, o, f, s, .undef, false, none, findM i M⟩ :: R)) (fun R => kP (⟨i, o, f, s, .undef, false, none, findM i M⟩ :: R)))
def drawW (self : SW) (ops : Array Oper) (M : List (Nat × Nat)) (A : List Nat) (l : List Oper) : Nat → Frm → St → (List DRec → Prop) → (List DRec → Nat → V → St → Prop) → Prop :=
  @List.rec Oper (fun _ => Nat → Frm → St → (List DRec → Prop) → (List DRec → Nat → V → St → Prop) → Prop) (fun _ _ _ kR _ => kR [])
    (fun o l ih => drawOneW P self ops M o ih (fun ip => panTailW P ops M A ip l)) l
theorem drawW_cons (self : SW) (ops : Array Oper) (M : List (Nat × Nat)) (A : List Nat) (o : Oper) (l : List Oper) : drawW P self ops M A (o :: l) = drawOneW P self ops M o (drawW P self ops M A l) (fun ip => panTailW P ops M A ip l) := rfl
def askW (ops : Array Oper) (r : DRec) (s : St) (k : Prop) : Prop :=
  quietW P r.mb s (evL (r.o.looksAt ops) r.f) r.o.op fun v => v.same r.v = true ∧ k
def anyN (m : Nat) : List Nat → Bool
  | [] => false
  | n :: l => bif tbQ m n then true else anyN m l
def allN (m : Nat) : List Nat → Bool
  | [] => true
  | n :: l => tbQ m n && allN m l
def beforeN (A : List Nat) (i : Nat) : List Nat → Bool
  | [] => true
  | n :: l => tbQ (ogetN (lget A n)) i && beforeN A i l
def chainN (A : List Nat) : List Nat → Bool
  | [] => true
  | n :: l => beforeN A n l && chainN A l
def idxsE : List (Nat × St) → List Nat
  | [] => []
  | e :: l => e.1 :: idxsE l
def forceL : List Nat → (List Nat → Prop) → Prop
  | [], k => k []
  | n :: l, k => forceN n fun m => forceL l fun l' => k (m :: l')
theorem forceL_iff : ∀ (l : List Nat) (k : List Nat → Prop), forceL l k ↔ k l
  | [], k => Iff.rfl
  | n :: l, k => by rw [forceL, forceN_iff]; exact forceL_iff l fun l' => k (n :: l')
def chkEW (ops : Array Oper) (A : List Nat) (r : DRec) (i : Nat) (s : St) (I : List Nat) (E : List (Nat × St)) (k : Prop) : Prop :=
  @List.rec Nat (fun _ => St → List (Nat × St) → Prop → Prop) (fun s E k => match E with
    | [] => askW P ops r s k
    | _ :: _ => False)
    (fun n I ih s E k => match E with
    | [] => askW P ops r s k
    | e :: l => (match anyN (ogetN (lget A i)) (n :: I) with
      | true => (bif tbQ (ogetN (lget A n)) i then k else ih e.2 l k)
      | false => askW P ops r s (bif tbQ (ogetN (lget A n)) i then k else ih e.2 l k))) I s E k
theorem chkEW_cons (ops : Array Oper) (A : List Nat) (r : DRec) (i : Nat) (s : St) (n : Nat) (I : List Nat) (e : Nat × St) (l : List (Nat × St)) (k : Prop) : chkEW P ops A r i s (n :: I) (e :: l) k = (match anyN (ogetN (lget A i)) (n :: I) with
      | true => (bif tbQ (ogetN (lget A n)) i then k else chkEW P ops A r i e.2 I l k)
      | false => askW P ops r s (bif tbQ (ogetN (lget A n)) i then k else chkEW P ops A r i e.2 I l k)) := rfl
def isNo : Option Nat → Bool
  | none => true
  | some _ => false
def chkAllW (ops : Array Oper) (A : List Nat) (s : St) (I : List Nat) (E : List (Nat × St)) (R : List DRec) (k : Prop) : Prop :=
  @List.rec DRec (fun _ => Prop → Prop) (fun k => k) (fun r _ ih k => match r.q && !(isNo r.mb && noMem P r.o.op) with
    | true => forceN r.i fun i => chkEW P ops A r i s I E (ih k)
    | false => ih k) R k
theorem chkAllW_cons (ops : Array Oper) (A : List Nat) (s : St) (I : List Nat) (E : List (Nat × St)) (r : DRec) (l : List DRec) (k : Prop) : chkAllW P ops A s I E (r :: l) k = (match r.q && !(isNo r.mb && noMem P r.o.op) with
    | true => forceN r.i fun i => chkEW P ops A r i s I E (chkAllW P ops A s I E l k)
    | false => chkAllW P ops A s I E l k) := rfl
def guardB (b : Bool) (k : Prop) : Prop := match b with
  | true => k
  | false => False
def drawRW (self : SW) (ops : Array Oper) (c : Cfg) (k : KC) : Prop :=
  guardB (P.follows .mixedOrders && stOK ops) (match preM P ops c.tmps c.st with
    | (s0, M) => forceS s0 fun s0 => forceM M fun M => drawW P self ops M (ancsE ops.toList []) ops.toList 0 c.tmps s0
      (fun R => forceL (idxsE (effs R)) fun I => guardB (chainN (ancsE ops.toList []) I) (chkAllW P ops (ancsE ops.toList []) s0 I (effs R) R (finK c.tmps R fun f => forceS (lastS s0 (effs R)) fun s => k .normal ⟨f, c.defers, s⟩)))
      (fun R ip v s' => forceL (idxsE (effs R)) fun I => guardB (chainN (ancsE ops.toList []) I && allN (ogetN (lget (ancsE ops.toList []) ip)) I) (chkAllW P ops (ancsE ops.toList []) s0 I (effs R) R (k (.pan v) ⟨anyF c.tmps ops.toList, c.defers, s'⟩))))

def dferW : List Oper → CW
  | [], c, k => k .normal c
  | o :: l, c, k => match o.guard with
    | some _ => False
    | none => match o.op with
      | .defer cl => match cl.callee with
        | .value f => match evF c.tmps f, evalOs (evF c.tmps) cl.args.toList with
          | some (.fn g first cap), some vs => guardB (bodyOK P g) (dferW l ⟨putE c.tmps o.dst .undef, .call g (lapp first vs) cap :: c.defers, c.st⟩ k)
          | _, _ => False
        | _ => False
      | op => match qop P c.st (evF c.tmps) op with
        | some (cs, v) => needsR cs (dferW l ⟨putE c.tmps o.dst v, c.defers, c.st⟩ k)
        | none => False
def regionW (self : SW) (round : Option Nat) (ops : Array Oper) (draw : Bool) : CW :=
  match draw with
  | false => (match hasDefer ops.toList with
    | true => (match round with
      | none => dferW P ops.toList
      | some _ => fun _ _ => False)
    | false => opsW P self ops ops.toList)
  | true => drawRW P self ops
def seqW (a b : CW) (c : Cfg) (k : KC) : Prop := a c fun e c' => match e with
  | .normal => b c' k
  | e => k e c'
def condW (x : Operand) (a b : CW) (c : Cfg) (k : KC) : Prop :=
  splitF (slotO x) c.tmps fun f => match evF f x with
  | some (.bool q) => iteB q (a ⟨f, c.defers, c.st⟩ k) (b ⟨f, c.defers, c.st⟩ k)
  | _ => False
def blockW (id : Nat) (b : CW) (c : Cfg) (k : KC) : Prop := b c fun e c' => match e with
  | .exit id' => (bif Nat.beq id' id then k .normal c' else k (.exit id') c')
  | e => k e c'
def iterW (body : CW) (n : Nat) : CW :=
  @Nat.rec (fun _ => CW) (fun _ _ => False) (fun _ ih c k => body c fun e c' => match e with
    | .normal => ih c' k
    | e => k e c') n
def rangeW (self : SW) (round : Option Nat) (f : Operand) (ps : Array Tmp) (assign body : Code) (c : Cfg) (k : KC) : Prop :=
  match (match round with
    | none => some ((c.st.new (.dfr false)), c.st.next, [EDef.mark c.st.next])
    | some l0 => match c.st.heap.get l0 with
      | some (.loop r) => some (c.st, r.defers, [])
      | _ => none : Option (St × Nat × List EDef)) with
  | none => False
  | some (s0, d, marks) => forceS s0 fun s1 =>
    match evF c.tmps f with
    | some (.fn g first cap) =>
      guardB (bodyOK P g) (forceS (s1.new (.loop ⟨.ready, none, c.tmps, ps.toList, assign, body, d⟩)) fun s2 => self (.fn g (lapp (lapp first [.yld s1.next]) cap)) s2 fun e s2 => match e with
        | .ret _ => (match s2.heap.get s1.next with
          | some (.loop r) => (match r.state with
            | .busy => False
            | _ => match jumpE r.pending with
              | some e => k e ⟨c.tmps, marks ++ c.defers, s2.upd s1.next (.loop { r with state := .exhausted })⟩
              | none => False)
          | _ => False)
        | .pan v => k (.pan v) ⟨c.tmps, marks ++ c.defers, s2⟩)
    | _ => False
abbrev LpW := Nat → Option CW
def noLpW : LpW := fun _ => none
def loopW (lp : LpW) (b : Code) (f : CW) : CW :=
  match firstR b with
  | some id => (match lp id with
    | some F => F
    | none => f)
  | none => f
def compW (self : SW) (fuel : Nat) (round : Option Nat) (lp : LpW) (x : Code) : CW :=
  @Code.rec (fun _ => CW)
    (fun c k => k .normal c)
    (fun _ ops draw => regionW P self round ops draw)
    (fun _ _ ia ib => seqW ia ib)
    (fun x _ _ ia ib => condW x ia ib)
    (fun id _ ib => blockW id ib)
    (fun b ib => loopW lp b (iterW ib fuel))
    (fun f ps assign body _ _ => rangeW P self round f ps assign body)
    (fun id c k => k (.exit id) c)
    (fun _ ib => ib)
    (fun _ c k => k .normal c)
    (fun _ _ _ => False)
    (fun c k => k .ret c)
    (fun _ _ _ => False) x
def roundW (self : SW) (fuel : Nat) (l : Nat) (args : List V) (s : St) (k : KS) : Prop :=
  match s.heap.get l with
  | some (.loop r) =>
    forceF (setParams r.tmps r.params args) fun f => compW P self fuel (some l) noLpW r.assign ⟨f, [], s⟩ fun e c1 => match e with
    | .normal => (match c1.st.heap.get l with
      | some (.loop r1) => (match r1.state with
        | .ready =>
          forceS (c1.st.upd l (.loop { r1 with state := .busy })) fun s => compW P self fuel (some l) noLpW r.body ⟨c1.tmps, c1.defers, s⟩ fun e c2 => match c2.st.heap.get l with
            | some (.loop r2) => (match e with
              | .normal => forceS (c2.st.upd l (.loop { r2 with state := .ready, pending := none })) (k (.ret (.bool true)))
              | .ret => forceS (c2.st.upd l (.loop { r2 with state := .done, pending := some .ret })) (k (.ret (.bool false)))
              | .exit id => forceS (c2.st.upd l (.loop { r2 with state := .done, pending := some (.exit id) })) (k (.ret (.bool false)))
              | .pan _ => False)
            | _ => False
        | _ => False)
      | _ => False)
    | _ => False
  | _ => False
def resultsW (s : St) (f : Frm) (rs : List ResultVar) : (List V → Prop) → Prop :=
  @List.rec ResultVar (fun _ => (List V → Prop) → Prop) (fun k => k []) (fun x _ ih k => match x with
    | .tmp t => ih fun r => match f.get t with
      | .any => False
      | v => k (v :: r)
    | .cell a t => match qLoad P s t (f.get a) with
      | some (c, v) => needsR c (ih fun r => k (v :: r))
      | none => False) rs
def resultW (s : St) (f : Frm) (rs : List ResultVar) (k : V → Prop) : Prop :=
  resultsW P s f rs fun r => match r with
  | [v] => k v
  | l => k (match l with | [] => .undef | _ => .tup l)

abbrev DW := Cfg → DM → (EExit → Cfg → DM → Prop) → Prop
def withDW (f : CW) (c : Cfg) (m : DM) (k : EExit → Cfg → DM → Prop) : Prop := f c fun e c' => match e with
  | .pan _ => False
  | e => k e c' m
def recW : List Oper → DW
  | [], c, m, k => k .normal c m
  | o :: l, c, m, k => match o.guard with
    | some _ => False
    | none => match isRec o.op with
      | true => (match m with
        | some (v, false) => recW l ⟨putE c.tmps o.dst v, c.defers, c.st⟩ (some (v, true)) k
        | m => recW l ⟨putE c.tmps o.dst .nili, c.defers, c.st⟩ m k)
      | false => match qop P c.st (evF c.tmps) o.op with
        | some (cs, v) => needsR cs (recW l ⟨putE c.tmps o.dst v, c.defers, c.st⟩ m k)
        | none => False
def seqDW (a b : DW) (c : Cfg) (m : DM) (k : EExit → Cfg → DM → Prop) : Prop := a c m fun e c' m' => match e with
  | .normal => b c' m' k
  | e => k e c' m'
def condDW (x : Operand) (a b : DW) (c : Cfg) (m : DM) (k : EExit → Cfg → DM → Prop) : Prop :=
  match evF c.tmps x with
  | some (.bool q) => iteB q (a c m k) (b c m k)
  | _ => False
def compDW (self : SW) (fuel : Nat) (x : Code) : DW :=
  @Code.rec (fun _ => DW)
    (withDW (compW P self fuel none noLpW .skip))
    (fun id ops draw => match draw with
      | false => (match hasRec ops.toList with
        | true => recW P ops.toList
        | false => withDW (compW P self fuel none noLpW (.region id ops false)))
      | true => withDW (compW P self fuel none noLpW (.region id ops true)))
    (fun _ _ ia ib => seqDW ia ib)
    (fun x _ _ ia ib => condDW x ia ib)
    (fun id b _ => withDW (compW P self fuel none noLpW (.block id b)))
    (fun b _ => withDW (compW P self fuel none noLpW (.loop b)))
    (fun f ps assign body _ _ => withDW (compW P self fuel none noLpW (.rangeFunc f ps assign body)))
    (fun id => withDW (compW P self fuel none noLpW (.exit id)))
    (fun b _ => withDW (compW P self fuel none noLpW (.scope b)))
    (fun l => withDW (compW P self fuel none noLpW (.label l)))
    (fun l => withDW (compW P self fuel none noLpW (.goto l)))
    (withDW (compW P self fuel none noLpW .ret))
    (fun why => withDW (compW P self fuel none noLpW (.refuse why))) x
def runDefW (self : SW) (fuel : Nat) (g : FuncId) (args : List V) (m : DM) (s : St) (k : DM → St → Prop) : Prop :=
  match P.funcs[g]? with
  | some fn => (match fn.body with
    | some c => guardB (Nat.ble (llen args) fn.ntmps && Nat.ble fn.ntmps 4096) (frmK fn.ntmps .undef (argsL 0 args) fun f => compDW P self fuel c ⟨f, [], s⟩ m fun e c' m' =>
      (match (match e with
        | .normal => true
        | .ret => true
        | _ => false) with
      | true => (match c'.defers with
        | [] => resultW P c'.st c'.tmps fn.results.toList fun _ => k m' c'.st
        | _ :: _ => False)
      | false => False))
    | none => False)
  | none => False
def leaveW (self : SW) (fuel : Nat) (fn : Func) (tmps : Frm) : DM → List EDef → St → KS → Prop
  | pan, [], s, k => (match pan with
    | some (v, false) => k (.pan v) s
    | some (_, true) => False
    | none => resultW P s tmps fn.results.toList fun v => k (.ret v) s)
  | pan, .mark r :: ds, s, k => (match s.heap.get r with
    | some (.dfr false) => leaveW self fuel fn tmps pan ds (s.upd r (.dfr true)) k
    | _ => False)
  | pan, .call g args cap :: ds, s, k => guardB (bodyOK P g) (runDefW P self fuel g (lapp args cap) pan s fun m s' => leaveW self fuel fn tmps (settleE m) ds s' k)
def fnLW (self : SW) (fuel : Nat) (lp : LpW) (f : FuncId) (args : List V) (s : St) (k : KS) : Prop :=
  match P.funcs[f]? with
  | some fn => (match fn.body with
    | some c => guardB (Nat.ble (llen args) fn.ntmps && Nat.ble fn.ntmps 4096) (frmK fn.ntmps .undef (argsL 0 args) fun f => compW P self fuel none lp c ⟨f, [], s⟩ fun e c' => match e with
      | .normal => leaveW P self fuel fn c'.tmps none c'.defers c'.st k
      | .ret => leaveW P self fuel fn c'.tmps none c'.defers c'.st k
      | .pan v => leaveW P self fuel fn c'.tmps (some (v, false)) c'.defers c'.st k
      | _ => False)
    | none => False)
  | none => False
def fnW (self : SW) (fuel : Nat) (f : FuncId) (args : List V) (s : St) (k : KS) : Prop := fnLW P self fuel noLpW f args s k
def tgtW (self : SW) (fuel : Nat) (t : ETgt) (s : St) (k : KS) : Prop :=
  match t with
  | .fn f args => fnW P self fuel f args s k
  | .round l args => roundW P self fuel l args s k
abbrev KnW := ETgt → St → Option (KS → Prop)
def callW (known : KnW) (fuel : Nat) (d : Nat) : SW :=
  @Nat.rec (fun _ => SW) (fun _ _ _ => False) (fun _ ih t s k => match known t s with
    | some r => r k
    | none => tgtW P ih fuel t s k) d
end
end Go.Sym
end

section
namespace Go.Sym
set_option linter.unusedSimpArgs false
set_option linter.unusedVariables false

def AdC (wf : CW) (f : Cfg → Option (EExit × Cfg)) : Prop := ∀ c k, wf c k → ∃ e c', f c = some (e, c') ∧ k e c'
def AdS (ws : SW) (self : ESelf) : Prop := ∀ t s k, ws t s k → ∃ e s', self t s = some (e, s') ∧ k e s'

theorem needs_b {c : List Bool} {q : Prop} (h : needsR c q) : allb c = true ∧ q := by
  obtain ⟨h1, h2⟩ := (needsR_iff c q).1 h
  exact ⟨(allb_iff c).2 h1, h2⟩
theorem guardB_b {b : Bool} {q : Prop} (h : guardB b q) : b = true ∧ q := by cases b <;> simp [guardB] at h ⊢; exact h

section
variable {P : Program} {ws : SW} {self : ESelf}

theorem effW_ad {s : St} {ev : Operand → Option V} {op : Op} {k : EOut → St → Prop} (h : effW P s ev op k) : ∃ o s', eop P s ev op = some (o, s') ∧ k o s' := by
  unfold effW at h
  unfold eop
  split at h
  · rename_i c v s' hr
    obtain ⟨h1, h2⟩ := needs_b h
    exact ⟨_, _, by simp [hr, outR, outV, h1], (forceS_iff _ _).1 h2⟩
  · exact h.elim
  · rename_i c s' hr
    obtain ⟨h1, h2⟩ := needs_b h
    exact ⟨_, _, by simp [hr, outR, outS, h1], (forceS_iff _ _).1 h2⟩
  · exact h.elim
  · rename_i hr
    split at h
    · rename_i o s' hc
      exact ⟨_, _, by simp [hr, hc], (forceS_iff _ _).1 h⟩
    · exact h.elim
theorem B.set_get {α : Type} : ∀ (t : B α) (n : Nat), B.set (t.get n) t n = t
  | .leaf _, _ => rfl
  | .node l r, n => by
    rw [B.get_node, B.set_node]
    cases Nat.beq (n % 2) 1
    · simp only [cond_false]; rw [B.set_get l]
    · simp only [cond_true]; rw [B.set_get r]
theorem putE_get {f : Frm} {d : Tmp} {b : Bool} (h : f.get d = .bool b) : putE f (some d) (.bool b) = f := by
  rw [putE_some]
  rw [Frm.get_eq] at h
  cases hb : Nat.blt d f.n with
  | false => rfl
  | true =>
    rw [hb, cond_true] at h
    rw [cond_true, ← h, B.set_get]
theorem forceV_u {d : Nat} {v : V} {f : Frm} {o : Option Tmp} {k : V → Frm → Prop} (h : forceV d v fun v => putK f o v fun f' => k v f') : k v (putE f o v) := (putK_iff _ _ _ _).1 ((forceV_iff _ _ _).1 h)
theorem splitF_ad {d : Option Tmp} {f : Frm} {k : Frm → Prop} (h : splitF d f k) : k f := by
  unfold splitF at h
  split at h
  · exact h
  · split at h
    · rename_i b hb
      cases b
      · have h : putK f (some _) (.bool false) k := h
        rwa [putK_iff, putE_get hb] at h
      · have h : putK f (some _) (.bool true) k := h
        rwa [putK_iff, putE_get hb] at h
    · exact h
theorem opW_ad {s : St} {ev : Operand → Option V} {op : Op} {k : EOut → St → Prop} (h : opW P s ev op k) : ∃ o s', opE P s ev op = some (o, s') ∧ k o s' := by
  unfold opW at h
  unfold opE
  split at h
  · rename_i c v hq
    obtain ⟨h1, h2⟩ := needs_b h
    have := structEq_ok P (s := s) hq ((allb_iff c).1 h1)
    exact ⟨_, _, by simp [this, chkQ, allb], h2⟩
  split at h
  · rename_i c v hq
    obtain ⟨h1, h2⟩ := needs_b h
    exact ⟨_, _, by simp [hq, chkQ, h1], h2⟩
  · rename_i hq
    obtain ⟨o, s', h1, h2⟩ := effW_ad h
    exact ⟨o, s', by simp [hq, h1], h2⟩
theorem guardW_ad {g : Option (Option Tmp × Bool)} {f : Frm} {yes no : Prop} (h : guardW g f yes no) : wantOK g f = true ∧ ((wantedE g f = true ∧ yes) ∨ (wantedE g f = false ∧ no)) := by
  unfold guardW at h
  split at h
  · exact ⟨rfl, .inl ⟨rfl, h⟩⟩
  · exact ⟨rfl, .inr ⟨rfl, h⟩⟩
  · rename_i d want
    split at h
    · exact h.elim
    · rename_i b hb
      refine ⟨by simp [wantOK, hb, isAny], ?_⟩
      cases want <;> cases b <;> simp only [iteB] at h
      · exact .inl ⟨by simp [wantedE, hb], h⟩
      · exact .inr ⟨by simp [wantedE, hb], h⟩
      · exact .inr ⟨by simp [wantedE, hb], h⟩
      · exact .inl ⟨by simp [wantedE, hb], h⟩
    · rename_i h1 h2
      refine ⟨?_, .inr ⟨?_, h⟩⟩
      · simp only [wantOK, Bool.not_eq_true']
        cases hv : f.get d <;> first | rfl | exact absurd hv h1
      · unfold wantedE
        split <;> first | rfl | skip
        all_goals (rename_i hh; cases hh)
        all_goals (first | rfl | (split <;> first | rfl | (rename_i hv; exact absurd hv (h2 _))))

theorem opsW_ad (hs : AdS ws self) (ops : Array Oper) : ∀ l : List Oper, AdC (opsW P ws ops l) (runOps P self ops l)
  | [] => fun c k h => ⟨.normal, c, rfl, h⟩
  | o :: l => fun c k h => by
    have ih := opsW_ad hs ops l
    have h : stepW P ws ops (opsW P ws ops l) o c k := h
    have e : runOps P self ops (o :: l) c = stepE P self ops (runOps P self ops l) o c := rfl
    rw [e]
    obtain ⟨fr, ds, s⟩ := c
    simp only [stepW] at h
    obtain ⟨h1, h2⟩ := guardW_ad (splitF_ad h)
    simp only [stepE, h1, Bool.not_true, cond_false]
    rcases h2 with ⟨h2, h3⟩ | ⟨h2, h3⟩
    · rw [h2, cond_true]
      obtain ⟨out, s', h4, h5⟩ := opW_ad (splitF_ad h3)
      rw [h4]
      cases out with
      | val v => exact ih _ _ (forceV_u (k := fun _ f' => opsW P ws ops l ⟨f', ds, s'⟩ k) h5)
      | skip =>
        have h5 : putK fr o.dst .undef fun f' => opsW P ws ops l ⟨f', ds, s'⟩ k := h5
        exact ih _ _ ((putK_iff _ _ _ _).1 h5)
      | pan v => exact ⟨_, _, rfl, h5⟩
      | enter t =>
        simp only [nextW, forceG_iff] at h5
        obtain ⟨ee, s2, h6, h7⟩ := hs t s' _ h5
        cases ee with
        | ret v =>
          obtain ⟨e', c', h8, h9⟩ := ih _ _ (forceV_u (k := fun _ f' => opsW P ws ops l ⟨f', ds, s2⟩ k) h7)
          exact ⟨e', c', by simp only [nextE, h6]; exact h8, h9⟩
        | pan v => exact ⟨_, _, by simp only [nextE, h6], h7⟩
    · rw [h2, cond_false]
      exact ih _ _ ((putK_iff _ _ _ _).1 h3)

theorem quietW_ad {mb : Option Nat} {s : St} {ev : Operand → Option V} {op : Op} {k : V → Prop} (h : quietW P mb s ev op k) : ∃ v, qopM P mb s ev op = some v ∧ k v := by
  unfold quietW at h
  split at h
  · split at h
    · rename_i c v hq
      obtain ⟨h1, h2⟩ := needs_b h
      have := structEq_ok P (s := s) hq ((allb_iff c).1 h1)
      exact ⟨v, by simp [qopM, qopO, this, chkQ, allb], h2⟩
    split at h
    · rename_i c v hq
      obtain ⟨h1, h2⟩ := needs_b h
      exact ⟨v, by simp [qopM, qopO, hq, chkQ, h1], h2⟩
    · exact h.elim
  · split at h
    · rename_i b c m hm
      obtain ⟨h1, h2, h3⟩ := needs_b h
      exact ⟨_, by simp [qopM, mkQ, hm, h1, Mk.isAt, h2], h3⟩
    · exact h.elim

theorem drawStep_no {ops : Array Oper} {mb : Option Nat} {i : Nat} {o : Oper} {f : Frm} {s : St} (h1 : wantOK (guardOf ops o) f = true) (h2 : wantedE (guardOf ops o) f = false) : drawStep P self ops mb i o f s = some ⟨i, o, f, s, .undef, false, none, mb⟩ := by
  simp [drawStep, h1, h2]
theorem drawStep_quiet {ops : Array Oper} {mb : Option Nat} {i : Nat} {o : Oper} {f : Frm} {s : St} {v : V} (h1 : wantOK (guardOf ops o) f = true) (h2 : wantedE (guardOf ops o) f = true) (h3 : qopM P mb s (evL (o.looksAt ops) f) o.op = some v) :
    drawStep P self ops mb i o f s = some ⟨i, o, f, s, v, true, none, mb⟩ := by
  simp [drawStep, h1, h2, h3]
theorem drawStep_eff {ops : Array Oper} {mb : Option Nat} {i : Nat} {o : Oper} {f : Frm} {s s' : St} {v : V} (h1 : wantOK (guardOf ops o) f = true) (h2 : wantedE (guardOf ops o) f = true) (hm : mb = none) (h3 : qop P s (evL (o.looksAt ops) f) o.op = none) (h4 : opOut self (eop P s (evL (o.looksAt ops) f) o.op) = some (v, s')) :
    drawStep P self ops mb i o f s = some ⟨i, o, f, s, v, false, some s', none⟩ := by
  subst hm
  simp [drawStep, h1, h2, qopM, qopO, h3, chkQ, h4]
theorem drawStep_pan {ops : Array Oper} {mb : Option Nat} {i : Nat} {o : Oper} {f : Frm} {s : St} (h1 : wantOK (guardOf ops o) f = true) (h2 : wantedE (guardOf ops o) f = true) (hm : mb = none) (h3 : qop P s (evL (o.looksAt ops) f) o.op = none) (h4 : opOut self (eop P s (evL (o.looksAt ops) f) o.op) = none) :
    drawStep P self ops mb i o f s = none := by
  subst hm
  simp [drawStep, h1, h2, qopM, qopO, h3, chkQ, h4]

theorem panTailW_ad {ops : Array Oper} {M : List (Nat × Nat)} {A : List Nat} {ip : Nat} : ∀ (l : List Oper) (i : Nat) (f : Frm) (s : St) (k : List DRec → Prop), panTailW P ops M A ip l i f s k → ∃ R, panTail P ops M A ip l i f s = some R ∧ k R
  | [], i, f, s, k, h => ⟨[], rfl, h⟩
  | o :: l, i, f, s, k, h => by
    rw [panTailW_cons] at h
    simp only [putK_iff, forceV_iff] at h
    simp only [panTail]
    cases hd : tbQ (ogetN (lget A i)) ip with
    | true =>
      rw [hd, cond_true] at h
      rw [cond_true]
      obtain ⟨R, h1, h2⟩ := panTailW_ad l _ _ _ _ h
      exact ⟨_, by rw [h1], h2⟩
    | false =>
      rw [hd, cond_false] at h
      rw [cond_false]
      obtain ⟨h1, h2⟩ := guardW_ad (splitF_ad h)
      rcases h2 with ⟨h2, h3⟩ | ⟨h2, h3⟩
      · obtain ⟨v, h4, h5⟩ := quietW_ad (splitF_ad h3)
        obtain ⟨R, h6, h7⟩ := panTailW_ad l _ _ _ _ h5
        rw [drawStep_quiet h1 h2 h4]
        exact ⟨_, by simp only [h6], h7⟩
      · obtain ⟨R, h6, h7⟩ := panTailW_ad l _ _ _ _ h3
        rw [drawStep_no h1 h2]
        exact ⟨_, by simp only [h6], h7⟩

theorem drawW_ad (hs : AdS ws self) {ops : Array Oper} {M : List (Nat × Nat)} {A : List Nat} : ∀ (l : List Oper) (i : Nat) (f : Frm) (s : St) (kR : List DRec → Prop) (kP : List DRec → Nat → V → St → Prop), drawW P ws ops M A l i f s kR kP →
    (∃ R, drawRun P self ops M l i f s = some R ∧ kR R) ∨ (drawRun P self ops M l i f s = none ∧ ∃ R ip v s', panRun P self ops M A l i f s = some (R, ip, v, s') ∧ kP R ip v s')
  | [], i, f, s, kR, kP, h => .inl ⟨[], rfl, h⟩
  | o :: l, i, f, s, kR, kP, h => by
    have next : ∀ (r : DRec) (kR' : List DRec → Prop) (kP' : List DRec → Nat → V → St → Prop), drawStep P self ops (findM i M) i o f s = some r → (∀ R, kR' R → kR (r :: R)) → (∀ R ip v s', kP' R ip v s' → kP (r :: R) ip v s') →
        drawW P ws ops M A l (Nat.succ i) (putE f o.dst r.v) (orS s r.eff) kR' kP' →
        (∃ R, drawRun P self ops M (o :: l) i f s = some R ∧ kR R) ∨ (drawRun P self ops M (o :: l) i f s = none ∧ ∃ R ip v s', panRun P self ops M A (o :: l) i f s = some (R, ip, v, s') ∧ kP R ip v s') := by
      intro r kR' kP' hr h1 h2 hd
      simp only [drawRun, panRun, hr]
      rcases drawW_ad hs l _ _ _ _ _ hd with ⟨R, g1, g2⟩ | ⟨g0, R, ip, v, s', g1, g2⟩
      · exact .inl ⟨r :: R, by rw [g1], h1 R g2⟩
      · exact .inr ⟨by rw [g0], r :: R, ip, v, s', by rw [g1], h2 R ip v s' g2⟩
    have panic : ∀ (v : V) (s1 : St) (R : List DRec), wantOK (guardOf ops o) f = true → wantedE (guardOf ops o) f = true → findM i M = none → drawStep P self ops (findM i M) i o f s = none → opPan self (eop P s (evL (o.looksAt ops) f) o.op) = some (v, s1) →
        panTail P ops M A i l (Nat.succ i) (putE f o.dst .undef) s = some R → kP (⟨i, o, f, s, .undef, false, none, none⟩ :: R) i v s1 →
        (∃ R, drawRun P self ops M (o :: l) i f s = some R ∧ kR R) ∨ (drawRun P self ops M (o :: l) i f s = none ∧ ∃ R ip v s', panRun P self ops M A (o :: l) i f s = some (R, ip, v, s') ∧ kP R ip v s') := by
      intro v s1 R h1 h2 hm hd hp ht hk
      refine .inr ⟨by simp only [drawRun, hd], _, i, v, s1, ?_, hk⟩
      simp only [panRun, hd, h1, h2, Bool.and_self, cond_true, hp, ht]
      rw [hm]
    rw [drawW_cons] at h
    simp only [drawOneW, putK_iff, forceV_iff, forceG_iff] at h
    obtain ⟨h1, h2⟩ := guardW_ad (splitF_ad h)
    rcases h2 with ⟨h2, h3⟩ | ⟨h2, h3⟩
    · have h3 := splitF_ad h3
      split at h3
      · obtain ⟨v, h4, h5⟩ := quietW_ad h3
        exact next _ _ _ (drawStep_quiet h1 h2 h4) (fun _ h => h) (fun _ _ _ _ h => h) h5
      · rename_i hq
        have hmb : findM i M = none ∧ qop P s (evL (o.looksAt ops) f) o.op = none := by
          cases hm : findM i M with
          | none => rw [hm] at hq; exact ⟨rfl, by
              simp only [isQuiet] at hq
              split at hq
              · cases hq
              · simpa using hq⟩
          | some b => rw [hm] at hq; cases hq
        obtain ⟨hm, hqn⟩ := hmb
        obtain ⟨out, s1, h4, h5⟩ := effW_ad h3
        cases out with
        | val v => exact next _ _ _ (drawStep_eff (v := v) (s' := s1) h1 h2 hm hqn (by rw [h4]; rfl)) (fun _ h => h) (fun _ _ _ _ h => h) h5
        | skip => exact next _ _ _ (drawStep_eff (v := .undef) (s' := s1) h1 h2 hm hqn (by rw [h4]; rfl)) (fun _ h => h) (fun _ _ _ _ h => h) h5
        | pan v =>
          obtain ⟨R, h6, h7⟩ := panTailW_ad l _ _ _ _ h5
          exact panic v s1 R h1 h2 hm (drawStep_pan h1 h2 hm hqn (by rw [h4]; rfl)) (by rw [h4]; rfl) h6 h7
        | enter t =>
          obtain ⟨ee, s2, h6, h7⟩ := hs t s1 _ h5
          cases ee with
          | ret v => exact next _ _ _ (drawStep_eff (v := v) (s' := s2) h1 h2 hm hqn (by rw [h4]; simp only [opOut, h6])) (fun _ h => h) (fun _ _ _ _ h => h) h7
          | pan v =>
            obtain ⟨R, h8, h9⟩ := panTailW_ad l _ _ _ _ h7
            exact panic v s2 R h1 h2 hm (drawStep_pan h1 h2 hm hqn (by rw [h4]; simp only [opOut, h6])) (by rw [h4]; simp only [opPan, h6]) h8 h9
    · exact next _ _ _ (drawStep_no h1 h2) (fun _ h => h) (fun _ _ _ _ h => h) h3

theorem eqE_mem {s s' : St} {t : TypeId} {a b : V} (h : (match P.underlying t with
    | some (.int _) => true
    | some .bool => true
    | some .string => true
    | _ => false) = true) : eqAny P s t a b = eqAny P s' t a b := by
  have : eqE P s t a b = eqE P s' t a b := by
    unfold eqE
    split at h <;> rename_i hd
    · rw [hd]
    · rw [hd]
    · rw [hd]
    · cases h
  unfold eqAny
  rw [this]
theorem noMem_same {s s' : St} {ev : Operand → Option V} {op : Op} (h : noMem P op = true) : qop P s ev op = qop P s' ev op := by
  unfold noMem at h
  unfold qop
  split at h
  all_goals (try rfl)
  · rename_i op t _ _ _
    have : ∀ a b, qBin P s op t a b = qBin P s' op t a b := fun a b => by
      unfold qBin
      have he := eqE_mem (P := P) (s := s) (s' := s') (t := t) (a := a) (b := b) h
      split <;> (try rfl)
      simp only [he]
    simp only [this]
  · rename_i t _ _ _ _
    have : ∀ a l h' m, qSlice P s t a l h' m = qSlice P s' t a l h' m := fun a l h' m => by
      unfold qSlice
      split at h <;> rename_i hd
      · rw [hd]
      · rw [hd]
      · cases h
    simp only [this]
  · cases h

theorem askW_ad {ops : Array Oper} {r : DRec} {s : St} {k : Prop} (h : askW P ops r s k) : (match qopM P r.mb s (evL (r.o.looksAt ops) r.f) r.o.op with
      | some v => v.same r.v
      | none => false) = true ∧ k := by
  obtain ⟨v, h1, h2, h3⟩ := quietW_ad h
  exact ⟨by rw [h1]; exact h2, h3⟩
theorem anyN_eq (m : Nat) : ∀ E : List (Nat × St), anyN m (idxsE E) = anyB m E
  | [] => rfl
  | e :: l => by simp only [idxsE, anyN, anyB, anyN_eq m l]
theorem allN_eq (m : Nat) : ∀ E : List (Nat × St), allN m (idxsE E) = allAfter m E
  | [] => rfl
  | e :: l => by simp only [idxsE, allN, allAfter, allN_eq m l]
theorem beforeN_eq (A : List Nat) (i : Nat) : ∀ E : List (Nat × St), beforeN A i (idxsE E) = chainE.beforeE A i E
  | [] => rfl
  | e :: l => by simp only [idxsE, beforeN, chainE.beforeE, beforeN_eq A i l]
theorem chainN_eq (A : List Nat) : ∀ E : List (Nat × St), chainN A (idxsE E) = chainE A E
  | [] => rfl
  | e :: l => by simp only [idxsE, chainN, chainE, chainN_eq A l, beforeN_eq]
theorem chkEW_ad {ops : Array Oper} {A : List Nat} {r : DRec} : ∀ (E : List (Nat × St)) (s : St) (k : Prop), chkEW P ops A r r.i s (idxsE E) E k → chkE P ops A r s E = true ∧ k
  | [], s, k, h => askW_ad h
  | e :: l, s, k, h => by
    have tail : ∀ {k' : Prop}, k' → (k' → (bif tbQ (ogetN (lget A e.1)) r.i then k else chkEW P ops A r r.i e.2 (idxsE l) l k)) → (bif tbQ (ogetN (lget A e.1)) r.i then true else chkE P ops A r e.2 l) = true ∧ k := by
      intro k' hk' hh
      have hh := hh hk'
      cases ht : tbQ (ogetN (lget A e.1)) r.i with
      | true => rw [ht, cond_true] at hh; exact ⟨rfl, hh⟩
      | false => rw [ht, cond_false] at hh; exact chkEW_ad l _ _ hh
    have ea : anyN (ogetN (lget A r.i)) (e.1 :: idxsE l) = anyB (ogetN (lget A r.i)) (e :: l) := anyN_eq _ (e :: l)
    simp only [idxsE, chkEW_cons, ea] at h
    simp only [chkE, Bool.and_eq_true]
    split at h
    · rename_i ha
      obtain ⟨g1, g2⟩ := tail h id
      exact ⟨⟨by rw [ha]; rfl, g1⟩, g2⟩
    · rename_i ha
      obtain ⟨h1, h2⟩ := askW_ad h
      obtain ⟨g1, g2⟩ := tail h2 id
      exact ⟨⟨by rw [ha, cond_false]; exact h1, g1⟩, g2⟩
theorem chkE_noMem {ops : Array Oper} {A : List Nat} {r : DRec} (hm : r.mb = none) (hn : noMem P r.o.op = true) (hq : qopM P r.mb r.s (evL (r.o.looksAt ops) r.f) r.o.op = some r.v) : ∀ (E : List (Nat × St)) (s : St), chkE P ops A r s E = true := by
  have key : ∀ s, (match qopM P r.mb s (evL (r.o.looksAt ops) r.f) r.o.op with
      | some v => v.same r.v
      | none => false) = true := fun s => by
    have : qopM P r.mb s (evL (r.o.looksAt ops) r.f) r.o.op = some r.v := by
      rw [← hq, hm]
      simp only [qopM, qopO]
      rw [noMem_same (s := s) (s' := r.s) hn]
    rw [this]; exact V.same_self _
  intro E
  induction E with
  | nil => intro s; exact key s
  | cons e l ih =>
    intro s
    simp only [chkE, Bool.and_eq_true]
    refine ⟨?_, ?_⟩
    · cases anyB (ogetN (lget A r.i)) (e :: l)
      · exact key s
      · rfl
    · cases tbQ (ogetN (lget A e.1)) r.i
      · exact ih _
      · rfl
theorem chkAllW_ad {ops : Array Oper} {A : List Nat} {s : St} {E : List (Nat × St)} : ∀ (R : List DRec) (k : Prop), (∀ r ∈ R, r.q = true → r.mb = none → qopM P r.mb r.s (evL (r.o.looksAt ops) r.f) r.o.op = some r.v) → chkAllW P ops A s (idxsE E) E R k → chkAll P ops A s E R = true ∧ k
  | [], k, _, h => ⟨rfl, h⟩
  | r :: l, k, hr, h => by
    rw [chkAllW_cons] at h
    simp only [chkAll, Bool.and_eq_true]
    have hl := fun r' hr' => hr r' (List.mem_cons_of_mem _ hr')
    split at h
    · rename_i hq
      simp only [Bool.and_eq_true] at hq
      obtain ⟨h1, h2⟩ := chkEW_ad E s _ ((forceN_iff _ _).1 h)
      obtain ⟨h3, h4⟩ := chkAllW_ad l k hl h2
      exact ⟨⟨by rw [hq.1]; exact h1, h3⟩, h4⟩
    · rename_i hq
      obtain ⟨h3, h4⟩ := chkAllW_ad l k hl h
      refine ⟨⟨?_, h3⟩, h4⟩
      cases hrq : r.q with
      | false => rfl
      | true =>
        rw [cond_true]
        rw [hrq, Bool.true_and, Bool.not_eq_false', Bool.and_eq_true] at hq
        have hm : r.mb = none := by
          cases hmb : r.mb with
          | none => rfl
          | some b => rw [hmb] at hq; cases hq.1
        exact chkE_noMem hm hq.2 (hr r List.mem_cons_self hrq hm) E s

theorem drawStep_q {ops : Array Oper} {mb : Option Nat} {i : Nat} {o : Oper} {f : Frm} {s : St} {r : DRec} (h : drawStep P self ops mb i o f s = some r) (hq : r.q = true) : qopM P r.mb r.s (evL (r.o.looksAt ops) r.f) r.o.op = some r.v := by
  unfold drawStep at h
  cases hk : wantOK (guardOf ops o) f with
  | false => rw [hk] at h; cases h
  | true =>
  rw [hk, Bool.not_true, cond_false] at h
  cases hw : wantedE (guardOf ops o) f with
  | false => rw [hw, cond_false] at h; cases h; cases hq
  | true =>
    rw [hw, cond_true] at h
    split at h
    · rename_i hv; cases h; exact hv
    · split at h
      · cases h
      · split at h
        · cases h; cases hq
        · cases h
theorem drawRun_q {ops : Array Oper} {M : List (Nat × Nat)} {l : List Oper} {i : Nat} {f : Frm} {s : St} {R : List DRec} (h : drawRun P self ops M l i f s = some R) : ∀ r ∈ R, r.q = true → r.mb = none → qopM P r.mb r.s (evL (r.o.looksAt ops) r.f) r.o.op = some r.v := by
  intro r hr hq _
  obtain ⟨k, hk⟩ := List.getElem?_of_mem hr
  exact drawStep_q ((drawRun_spec h).2 k r hk).2.2.1 hq
theorem panRun_q {ops : Array Oper} {M : List (Nat × Nat)} {A : List Nat} {l : List Oper} {i : Nat} {f : Frm} {s : St} {R : List DRec} {ip : Nat} {v : V} {s' : St} (h : panRun P self ops M A l i f s = some (R, ip, v, s')) : ∀ r ∈ R, r.q = true → r.mb = none → qopM P r.mb r.s (evL (r.o.looksAt ops) r.f) r.o.op = some r.v := by
  intro r hr hq _
  obtain ⟨k, hk⟩ := List.getElem?_of_mem hr
  rcases ((panRun_spec h).2.2.2 k r hk).2.2.1 with ⟨_, h1⟩ | ⟨_, h1⟩ | h1
  · rw [h1] at hq; cases hq
  · rw [h1] at hq; cases hq
  · exact drawStep_q h1 hq

theorem drawRW_ad (hs : AdS ws self) (ops : Array Oper) : AdC (drawRW P ws ops) (drawE P self ops) := by
  intro c k h
  unfold drawRW at h
  obtain ⟨h1, h2⟩ := guardB_b h
  unfold drawE
  rw [h1, cond_true]
  rcases hpre : preM P ops c.tmps c.st with ⟨s0, M⟩
  rw [hpre] at h2
  simp only [forceS_iff, forceM_iff, forceL_iff, chainN_eq, allN_eq, finK_iff] at h2 ⊢
  rcases drawW_ad hs _ _ _ _ _ _ h2 with ⟨R, g1, g2⟩ | ⟨g0, R, ip, v, s', g1, g2⟩
  · obtain ⟨g3, g4⟩ := guardB_b g2
    obtain ⟨g5, g6⟩ := chkAllW_ad R _ (drawRun_q g1) g4
    exact ⟨_, _, by simp only [g1, g3, g5, Bool.and_self, cond_true], g6⟩
  · obtain ⟨g3, g4⟩ := guardB_b g2
    obtain ⟨g5, g6⟩ := chkAllW_ad R _ (panRun_q g1) g4
    rw [Bool.and_eq_true] at g3
    refine ⟨_, _, ?_, g6⟩
    simp only [g0, drawP, g1, g3.1, g3.2, g5, Bool.and_self, cond_true]

theorem dferW_ad : ∀ l : List Oper, AdC (dferW P l) (dferE P l)
  | [] => fun c k h => ⟨.normal, c, rfl, h⟩
  | o :: l => fun c k h => by
    have ih := dferW_ad l
    simp only [dferW] at h
    simp only [dferE]
    cases hg : o.guard with
    | some x => rw [hg] at h; exact h.elim
    | none =>
    rw [hg] at h
    simp only at h ⊢
    split at h
    · split at h
      · split at h
        · rename_i cl hop _ f hcal _ _ g first cap vs hf hvs
          obtain ⟨h1, h2⟩ := guardB_b h
          obtain ⟨e, c', h3, h4⟩ := ih _ _ h2
          exact ⟨e, c', by simp only [hop, hcal, hf, hvs, h1, cond_true, h3], h4⟩
        · exact h.elim
      · exact h.elim
    · split at h
      · rename_i cs v hq
        obtain ⟨h1, h2⟩ := needs_b h
        obtain ⟨e, c', h3, h4⟩ := ih _ _ h2
        refine ⟨e, c', ?_, h4⟩
        simp only [qopO, hq, chkQ, h1, cond_true]
        exact h3
      · exact h.elim

theorem regionW_ad (hs : AdS ws self) (round : Option Nat) (ops : Array Oper) (draw : Bool) : AdC (regionW P ws round ops draw) (regionE P self round ops draw) := by
  intro c k h
  cases draw with
  | true => exact drawRW_ad hs ops c k h
  | false =>
    simp only [regionW] at h
    simp only [regionE]
    cases hd : hasDefer ops.toList with
    | true =>
      rw [hd] at h
      cases round with
      | none => exact dferW_ad _ c k h
      | some l => exact h.elim
    | false =>
      rw [hd] at h
      exact opsW_ad hs ops ops.toList c k h

theorem seqW_ad {a b : CW} {fa fb : Cfg → Option (EExit × Cfg)} (ha : AdC a fa) (hb : AdC b fb) : AdC (seqW a b) (seqE fa fb) := by
  intro c k h
  obtain ⟨e, c1, h1, h2⟩ := ha c _ h
  unfold seqE
  cases e with
  | normal =>
    obtain ⟨e', c', h3, h4⟩ := hb c1 k h2
    exact ⟨e', c', by simp only [h1, h3], h4⟩
  | exit id => exact ⟨_, _, by simp only [h1], h2⟩
  | ret => exact ⟨_, _, by simp only [h1], h2⟩
  | pan v => exact ⟨_, _, by simp only [h1], h2⟩
theorem condW_ad {x : Operand} {a b : CW} {fa fb : Cfg → Option (EExit × Cfg)} (ha : AdC a fa) (hb : AdC b fb) : AdC (condW x a b) (condE x fa fb) := by
  intro c k h
  unfold condW at h
  unfold condE
  have h := splitF_ad h
  split at h
  · rename_i q hq
    cases q with
    | true => obtain ⟨e, c', h1, h2⟩ := ha c k h; exact ⟨e, c', by simp only [hq]; exact h1, h2⟩
    | false => obtain ⟨e, c', h1, h2⟩ := hb c k h; exact ⟨e, c', by simp only [hq]; exact h1, h2⟩
  · exact h.elim
theorem blockW_ad {id : Nat} {b : CW} {fb : Cfg → Option (EExit × Cfg)} (hb : AdC b fb) : AdC (blockW id b) (blockE id fb) := by
  intro c k h
  obtain ⟨e, c1, h1, h2⟩ := hb c _ h
  unfold blockE
  cases e with
  | exit id' =>
    simp only at h2
    cases hi : Nat.beq id' id with
    | true => rw [hi, cond_true] at h2; exact ⟨_, _, by simp only [h1, hi, cond_true], h2⟩
    | false => rw [hi, cond_false] at h2; exact ⟨_, _, by simp only [h1, hi, cond_false], h2⟩
  | normal => exact ⟨_, _, by simp only [h1], h2⟩
  | ret => exact ⟨_, _, by simp only [h1], h2⟩
  | pan v => exact ⟨_, _, by simp only [h1], h2⟩
theorem iterW_ad {b : CW} {fb : Cfg → Option (EExit × Cfg)} (hb : AdC b fb) : ∀ n, AdC (iterW b n) (iterE fb n)
  | 0 => fun c k h => h.elim
  | n + 1 => fun c k h => by
    obtain ⟨e, c1, h1, h2⟩ := hb c _ h
    have he : iterE fb (n + 1) c = (match fb c with
      | some (.normal, c') => iterE fb n c'
      | r => r) := rfl
    rw [he, h1]
    cases e with
    | normal => exact iterW_ad hb n c1 k h2
    | exit id => exact ⟨_, _, rfl, h2⟩
    | ret => exact ⟨_, _, rfl, h2⟩
    | pan v => exact ⟨_, _, rfl, h2⟩
noncomputable def openR (round : Option Nat) (c : Cfg) : Option (St × Nat × List EDef) :=
  match round with
    | none => some ((c.st.new (.dfr false)), c.st.next, [EDef.mark c.st.next])
    | some l0 => match c.st.heap.get l0 with
      | some (.loop r) => some (c.st, r.defers, [])
      | _ => none
theorem rangeE_open (round : Option Nat) (f : Operand) (ps : Array Tmp) (assign body : Code) (c : Cfg) : rangeE P self round f ps assign body c = (match openR round c with
    | none => none
    | some (s1, d, marks) =>
    match evF c.tmps f with
    | some (.fn g first cap) =>
      bif bodyOK P g then
        match self (.fn g (lapp (lapp first [.yld s1.next]) cap)) (s1.new (.loop ⟨.ready, none, c.tmps, ps.toList, assign, body, d⟩)) with
        | some (.ret _, s2) => match s2.heap.get s1.next with
          | some (.loop r) => match r.state with
            | .busy => none
            | _ => match jumpE r.pending with
              | some e => some (e, ⟨c.tmps, marks ++ c.defers, s2.upd s1.next (.loop { r with state := .exhausted })⟩)
              | none => none
          | _ => none
        | some (.pan v, s2) => some (.pan v, ⟨c.tmps, marks ++ c.defers, s2⟩)
        | none => none
      else none
    | _ => none) := rfl
theorem rangeW_open (round : Option Nat) (f : Operand) (ps : Array Tmp) (assign body : Code) (c : Cfg) (k : KC) : rangeW P ws round f ps assign body c k = (match openR round c with
  | none => False
  | some (s0, d, marks) => forceS s0 fun s1 =>
    match evF c.tmps f with
    | some (.fn g first cap) =>
      guardB (bodyOK P g) (forceS (s1.new (.loop ⟨.ready, none, c.tmps, ps.toList, assign, body, d⟩)) fun s2 => ws (.fn g (lapp (lapp first [.yld s1.next]) cap)) s2 fun e s2 => match e with
        | .ret _ => (match s2.heap.get s1.next with
          | some (.loop r) => (match r.state with
            | .busy => False
            | _ => match jumpE r.pending with
              | some e => k e ⟨c.tmps, marks ++ c.defers, s2.upd s1.next (.loop { r with state := .exhausted })⟩
              | none => False)
          | _ => False)
        | .pan v => k (.pan v) ⟨c.tmps, marks ++ c.defers, s2⟩)
    | _ => False) := rfl
theorem rangeW_ad (hs : AdS ws self) (round : Option Nat) (f : Operand) (ps : Array Tmp) (assign body : Code) : AdC (rangeW P ws round f ps assign body) (rangeE P self round f ps assign body) := by
  intro c k h
  rw [rangeW_open] at h
  rw [rangeE_open]
  cases hopen : openR round c with
  | none => rw [hopen] at h; exact h.elim
  | some p =>
  obtain ⟨s1, d, marks⟩ := p
  rw [hopen] at h
  simp only [forceS_iff] at h ⊢
  split at h
  · rename_i g first cap hf
    obtain ⟨h1, h2⟩ := guardB_b h
    obtain ⟨ee, s2, h3, h4⟩ := hs _ _ _ h2
    simp only [hf, h1, cond_true, h3]
    cases ee with
    | pan v => exact ⟨_, _, rfl, h4⟩
    | ret v =>
      simp only at h4 ⊢
      split at h4
      · rename_i r hr
        split at h4
        · exact h4.elim
        · rename_i hnb
          split at h4
          · rename_i e he
            refine ⟨e, _, ?_, h4⟩
            cases hst : r.state with
            | busy => exact absurd hst hnb
            | ready => simp only [he]
            | done => simp only [he]
            | exhausted => simp only [he]
          · exact h4.elim
      · exact h4.elim
  · exact h.elim

def AdL (lw : LpW) (lp : LpF) : Prop := ∀ id, match lw id with
  | some w => ∃ F, lp id = some F ∧ AdC w F
  | none => lp id = none
theorem noLp_ad : AdL noLpW noLp := fun _ => rfl
theorem loopW_ad {lw : LpW} {lp : LpF} (hl : AdL lw lp) {b : Code} {w : CW} {f : Cfg → Option (EExit × Cfg)} (h : AdC w f) : AdC (loopW lw b w) (loopF lp b f) := by
  unfold loopW loopF
  cases firstR b with
  | none => exact h
  | some id =>
    have := hl id
    simp only
    cases hw : lw id with
    | none => rw [hw] at this; simp only at this; rw [this]; exact h
    | some w' =>
      rw [hw] at this
      obtain ⟨F, h1, h2⟩ := this
      rw [h1]; exact h2
theorem compW_ad (hs : AdS ws self) (fuel : Nat) (round : Option Nat) {lw : LpW} {lp : LpF} (hl : AdL lw lp) : ∀ x : Code, AdC (compW P ws fuel round lw x) (runF (compC P self fuel round lp x))
  | .skip => fun c k h => ⟨_, _, rfl, h⟩
  | .label _ => fun c k h => ⟨_, _, rfl, h⟩
  | .ret => fun c k h => ⟨_, _, rfl, h⟩
  | .exit _ => fun c k h => ⟨_, _, rfl, h⟩
  | .goto _ => fun c k h => h.elim
  | .refuse _ => fun c k h => h.elim
  | .scope b => compW_ad hs fuel round hl b
  | .region id ops draw => regionW_ad hs round ops draw
  | .seq a b => seqW_ad (compW_ad hs fuel round hl a) (compW_ad hs fuel round hl b)
  | .cond x a b => condW_ad (compW_ad hs fuel round hl a) (compW_ad hs fuel round hl b)
  | .block id b => blockW_ad (compW_ad hs fuel round hl b)
  | .loop b => loopW_ad hl (iterW_ad (compW_ad hs fuel round hl b) fuel)
  | .rangeFunc f ps assign body => rangeW_ad hs round f ps assign body
theorem codeW_ad (hs : AdS ws self) (fuel : Nat) (round : Option Nat) (x : Code) : AdC (compW P ws fuel round noLpW x) (runCode P self fuel round x) := compW_ad hs fuel round noLp_ad x

theorem roundW_ad (hs : AdS ws self) (fuel l : Nat) (args : List V) (s : St) (k : KS) (h : roundW P ws fuel l args s k) : ∃ e s', runRound P self fuel l args s = some (e, s') ∧ k e s' := by
  unfold roundW at h
  simp only [forceF_iff, forceS_iff] at h
  unfold runRound
  split at h
  · rename_i r hr
    obtain ⟨e, c1, h1, h2⟩ := codeW_ad hs fuel (some l) _ _ _ h
    simp only [hr, h1]
    cases e with
    | normal =>
      simp only at h2 ⊢
      split at h2
      · rename_i r1 hr1
        split at h2
        · rename_i hst
          obtain ⟨e2, c2, h3, h4⟩ := codeW_ad hs fuel (some l) _ _ _ h2
          simp only [hr1, hst, h3]
          split at h4
          · rename_i r2 hr2
            simp only [hr2]
            cases e2 with
            | normal => exact ⟨_, _, rfl, h4⟩
            | ret => exact ⟨_, _, rfl, h4⟩
            | exit id => exact ⟨_, _, rfl, h4⟩
            | pan v => exact h4.elim
          · exact h4.elim
        · exact h2.elim
      · exact h2.elim
    | exit id => exact h2.elim
    | ret => exact h2.elim
    | pan v => exact h2.elim
  · exact h.elim

theorem resultsW_ad {s : St} {f : Frm} : ∀ (rs : List ResultVar) (k : List V → Prop), resultsW P s f rs k → ∃ l, resultsE P s f rs = some l ∧ k l
  | [], k, h => ⟨[], rfl, h⟩
  | .tmp t :: l, k, h => by
    have h : resultsW P s f l (fun r => match f.get t with
      | .any => False
      | v => k (v :: r)) := h
    obtain ⟨r, h1, h2⟩ := resultsW_ad l _ h
    simp only [resultsE, h1]
    split at h2
    · exact h2.elim
    · rename_i hne
      refine ⟨_, ?_, h2⟩
      split
      · rename_i he; exact absurd he hne
      · rfl
  | .cell a t :: l, k, h => by
    have h : (match qLoad P s t (f.get a) with
      | some (c, v) => needsR c (resultsW P s f l fun r => k (v :: r))
      | none => False) := h
    simp only [resultsE]
    split at h
    · rename_i c v hq
      obtain ⟨h1, h2⟩ := needs_b h
      obtain ⟨r, h3, h4⟩ := resultsW_ad l _ h2
      exact ⟨_, by simp only [hq, chkQ, h1, cond_true, h3], h4⟩
    · exact h.elim
theorem resultW_ad {s : St} {f : Frm} {rs : List ResultVar} {k : V → Prop} (h : resultW P s f rs k) : ∃ v, resultE P s f rs = some v ∧ k v := by
  obtain ⟨l, h1, h2⟩ := resultsW_ad rs _ h
  unfold resultE
  rw [h1]
  split at h2
  · exact ⟨_, rfl, h2⟩
  · rename_i hne
    refine ⟨_, ?_, h2⟩
    cases l with
    | nil => rfl
    | cons a l =>
      cases l with
      | nil => exact absurd rfl (hne a)
      | cons b l => rfl

def AdD (w : DW) (f : Cfg → DM → Option (EExit × Cfg × DM)) : Prop := ∀ c m k, w c m k → ∃ e c' m', f c m = some (e, c', m') ∧ k e c' m'
theorem withDW_ad {w : CW} {f : Cfg → Option (EExit × Cfg)} (h : AdC w f) : AdD (withDW w) (fun c m => withD m (f c)) := by
  intro c m k hk
  obtain ⟨e, c', h1, h2⟩ := h c _ hk
  cases e with
  | pan v => exact h2.elim
  | normal => exact ⟨_, _, _, by simp only [h1, withD], h2⟩
  | ret => exact ⟨_, _, _, by simp only [h1, withD], h2⟩
  | exit id => exact ⟨_, _, _, by simp only [h1, withD], h2⟩
theorem recW_ad : ∀ l : List Oper, AdD (recW P l) (recE P l)
  | [] => fun c m k h => ⟨_, _, _, rfl, h⟩
  | o :: l => fun c m k h => by
    have ih := recW_ad l
    simp only [recW] at h
    simp only [recE]
    split at h
    · exact h.elim
    · rename_i hg
      simp only [hg]
      split at h
      · rename_i hr
        rw [hr, cond_true]
        split at h
        · exact ih _ _ _ h
        · rename_i hne
          cases m with
          | none => exact ih _ _ _ h
          | some p =>
            obtain ⟨v, b⟩ := p
            cases b with
            | false => exact absurd rfl (hne v)
            | true => exact ih _ _ _ h
      · rename_i hr
        rw [hr, cond_false]
        split at h
        · rename_i cs v hq
          obtain ⟨h1, h2⟩ := needs_b h
          simp only [qopO, hq, chkQ, h1, cond_true]
          exact ih _ _ _ h2
        · exact h.elim
theorem seqDW_ad {a b : DW} {fa fb : Cfg → DM → Option (EExit × Cfg × DM)} (ha : AdD a fa) (hb : AdD b fb) : AdD (seqDW a b) (seqD fa fb) := by
  intro c m k h
  obtain ⟨e, c1, m1, h1, h2⟩ := ha c m _ h
  unfold seqD
  cases e with
  | normal =>
    obtain ⟨e', c', m', h3, h4⟩ := hb c1 m1 k h2
    exact ⟨e', c', m', by simp only [h1, h3], h4⟩
  | exit id => exact ⟨_, _, _, by simp only [h1], h2⟩
  | ret => exact ⟨_, _, _, by simp only [h1], h2⟩
  | pan v => exact ⟨_, _, _, by simp only [h1], h2⟩
theorem condDW_ad {x : Operand} {a b : DW} {fa fb : Cfg → DM → Option (EExit × Cfg × DM)} (ha : AdD a fa) (hb : AdD b fb) : AdD (condDW x a b) (condD x fa fb) := by
  intro c m k h
  unfold condDW at h
  unfold condD
  split at h
  · rename_i q hq
    cases q with
    | true => obtain ⟨e, c', m', h1, h2⟩ := ha c m k h; exact ⟨e, c', m', by simp only [hq]; exact h1, h2⟩
    | false => obtain ⟨e, c', m', h1, h2⟩ := hb c m k h; exact ⟨e, c', m', by simp only [hq]; exact h1, h2⟩
  · exact h.elim
theorem compDW_ad (hs : AdS ws self) (fuel : Nat) : ∀ x : Code, AdD (compDW P ws fuel x) (runD (compD P self fuel x))
  | .skip => withDW_ad (codeW_ad hs fuel none .skip)
  | .label l => withDW_ad (codeW_ad hs fuel none (.label l))
  | .ret => withDW_ad (codeW_ad hs fuel none .ret)
  | .exit id => withDW_ad (codeW_ad hs fuel none (.exit id))
  | .goto l => withDW_ad (codeW_ad hs fuel none (.goto l))
  | .scope b => withDW_ad (codeW_ad hs fuel none (.scope b))
  | .refuse why => withDW_ad (codeW_ad hs fuel none (.refuse why))
  | .region id ops true => withDW_ad (codeW_ad hs fuel none (.region id ops true))
  | .region id ops false => by
    intro c m k h
    have h : (match hasRec ops.toList with
        | true => recW P ops.toList
        | false => withDW (compW P ws fuel none noLpW (.region id ops false))) c m k := h
    have e : runD (compD P self fuel (.region id ops false)) c m = (bif hasRec ops.toList then recE P ops.toList c m else withD m (runCode P self fuel none (.region id ops false) c)) := rfl
    rw [e]
    cases hr : hasRec ops.toList with
    | true => rw [hr] at h; rw [cond_true]; exact recW_ad _ c m k h
    | false => rw [hr] at h; rw [cond_false]; exact withDW_ad (codeW_ad hs fuel none (.region id ops false)) c m k h
  | .seq a b => seqDW_ad (compDW_ad hs fuel a) (compDW_ad hs fuel b)
  | .cond x a b => condDW_ad (compDW_ad hs fuel a) (compDW_ad hs fuel b)
  | .block id b => withDW_ad (codeW_ad hs fuel none (.block id b))
  | .loop b => withDW_ad (codeW_ad hs fuel none (.loop b))
  | .rangeFunc f ps assign body => withDW_ad (codeW_ad hs fuel none (.rangeFunc f ps assign body))

theorem runDefW_ad (hs : AdS ws self) (fuel : Nat) (g : FuncId) (args : List V) (m : DM) (s : St) (k : DM → St → Prop) (h : runDefW P ws fuel g args m s k) : ∃ m' s', runDef P self fuel g args m s = some (m', s') ∧ k m' s' := by
  unfold runDefW at h
  unfold runDef
  split at h
  · rename_i fn hfn
    split at h
    · rename_i c hc
      obtain ⟨h1, h2⟩ := guardB_b h
      obtain ⟨e, c', m', h3, h4⟩ := compDW_ad hs fuel c _ _ _ (frmK_args (k := fun f => compDW P ws fuel c ⟨f, [], s⟩ m _) h1 h2)
      simp only [hfn, hc, h1, Bool.not_true, cond_false, h3]
      have key : (match c'.defers with
        | [] => resultW P c'.st c'.tmps fn.results.toList fun _ => k m' c'.st
        | _ :: _ => False) → ∃ m1 s1, (match c'.defers with
          | [] => match resultE P c'.st c'.tmps fn.results.toList with
            | some _ => some (m', c'.st)
            | none => none
          | _ :: _ => none : Option (DM × St)) = some (m1, s1) ∧ k m1 s1 := by
        intro hh
        split at hh
        · rename_i hd
          obtain ⟨v, h5, h6⟩ := resultW_ad hh
          exact ⟨_, _, by simp only [h5], h6⟩
        · exact hh.elim
      cases e with
      | normal => exact key h4
      | ret => exact key h4
      | exit id => exact h4.elim
      | pan v => exact h4.elim
    · exact h.elim
  · exact h.elim

theorem leaveW_ad (hs : AdS ws self) (fuel : Nat) (fn : Func) (tmps : Frm) (k : KS) : ∀ (ds : List EDef) (m : DM) (s : St), leaveW P ws fuel fn tmps m ds s k → ∃ e s', leaveE P self fuel fn tmps m ds s = some (e, s') ∧ k e s'
  | [], m, s, h => by
    simp only [leaveW] at h
    simp only [leaveE]
    split at h
    · exact ⟨_, _, rfl, h⟩
    · exact h.elim
    · obtain ⟨v, h1, h2⟩ := resultW_ad h
      exact ⟨_, _, by simp only [h1], h2⟩
  | .mark r :: ds, m, s, h => by
    simp only [leaveW] at h
    simp only [leaveE]
    split at h
    · rename_i hr
      obtain ⟨e, s', h1, h2⟩ := leaveW_ad hs fuel fn tmps k ds m _ h
      exact ⟨e, s', by simp only [hr]; exact h1, h2⟩
    · exact h.elim
  | .call g args cap :: ds, m, s, h => by
    simp only [leaveW] at h
    simp only [leaveE]
    obtain ⟨h1, h2⟩ := guardB_b h
    obtain ⟨m', s', h3, h4⟩ := runDefW_ad hs fuel g _ m s _ h2
    obtain ⟨e, s2, h5, h6⟩ := leaveW_ad hs fuel fn tmps k ds _ _ h4
    exact ⟨e, s2, by simp only [h1, cond_true, h3]; exact h5, h6⟩

theorem fnLW_ad (hs : AdS ws self) (fuel : Nat) {lw : LpW} {lp : LpF} (hl : AdL lw lp) (f : FuncId) (args : List V) (s : St) (k : KS) (h : fnLW P ws fuel lw f args s k) : ∃ e s', runFnL P self fuel lp f args s = some (e, s') ∧ k e s' := by
  unfold fnLW at h
  unfold runFnL
  split at h
  · rename_i fn hfn
    split at h
    · rename_i c hc
      obtain ⟨h1, h2⟩ := guardB_b h
      obtain ⟨e, c', h3, h4⟩ := compW_ad hs fuel none hl c _ _ (frmK_args (k := fun f => compW P ws fuel none lw c ⟨f, [], s⟩ _) h1 h2)
      simp only [hfn, hc, h1, Bool.not_true, cond_false, h3]
      cases e with
      | normal => exact leaveW_ad hs fuel fn _ k _ _ _ h4
      | ret => exact leaveW_ad hs fuel fn _ k _ _ _ h4
      | pan v => exact leaveW_ad hs fuel fn _ k _ _ _ h4
      | exit id => exact h4.elim
    · exact h.elim
  · exact h.elim
theorem tgtW_ad (hs : AdS ws self) (fuel : Nat) : AdS (tgtW P ws fuel) (runT P self fuel) := by
  intro t s k h
  cases t with
  | fn f args => exact fnLW_ad hs fuel noLp_ad f args s k h
  | round l args => exact roundW_ad hs fuel l args s k h

def AdK (kw : KnW) (known : ESelf) : Prop := ∀ t s r, kw t s = some r → ∀ k, r k → ∃ e s', known t s = some (e, s') ∧ k e s'
def NoK (kw : KnW) (known : ESelf) : Prop := ∀ t s, kw t s = none → known t s = none
theorem callW_ad {kw : KnW} {known : ESelf} (hk : AdK kw known) (hn : NoK kw known) (fuel : Nat) : ∀ d, AdS (callW P kw fuel d) (callE P known fuel d)
  | 0 => fun t s k h => h.elim
  | d + 1 => fun t s k h => by
    have h : (match kw t s with
      | some r => r k
      | none => tgtW P (callW P kw fuel d) fuel t s k) := h
    have e : callE P known fuel (d + 1) t s = (match known t s with
      | some r => some r
      | none => runT P (callE P known fuel d) fuel t s) := rfl
    rw [e]
    split at h
    · rename_i r hr
      obtain ⟨e, s', h1, h2⟩ := hk t s r hr k h
      exact ⟨e, s', by rw [h1], h2⟩
    · rename_i hr
      rw [hn t s hr]
      exact tgtW_ad (callW_ad hk hn fuel d) fuel t s k h
end
end Go.Sym
end

section
namespace Go.Sym
set_option linter.unusedSimpArgs false
set_option linter.unusedVariables false

def Wk (k : Nat) (c1 c0 : Cfg) : Prop := ∀ (own : Own) (ρ0 ρ : Env) (A : Act) (w : World), ρ0.below k → ρ0.le ρ → Rel own ρ c1 A w → ∃ ρ', ρ0.le ρ' ∧ Rel own ρ' c0 A w
theorem Wk.refl (k : Nat) (c : Cfg) : Wk k c c := fun _ _ ρ _ _ _ h r => ⟨ρ, h, r⟩

noncomputable def heapOf : List (Nat × EObj) → T EObj
  | [] => .leaf
  | e :: l => (heapOf l).set e.1 (some e.2)
theorem heapOf_mem : ∀ {l : List (Nat × EObj)} {b : Nat} {o : EObj}, (heapOf l).get b = some o → (b, o) ∈ l
  | [], b, o, h => by rw [heapOf, T.get_leaf] at h; cases h
  | e :: l, b, o, h => by
    rw [heapOf, T.get_set] at h
    split at h
    · rename_i hb; cases h; subst hb; exact List.mem_cons_self
    · exact List.mem_cons_of_mem _ (heapOf_mem h)
noncomputable def mkCfg (n : Nat) (sl : List V) (ds : List EDef) (h : List (Nat × EObj)) (next : Nat) : Cfg := ⟨mkFrm n sl, ds, ⟨heapOf h, next⟩⟩

section
variable (k : Nat) (m : List (Nat × Nat))
def look (b : Nat) : List (Nat × Nat) → Option Nat
  | [] => none
  | e :: l => bif Nat.beq e.1 b then some e.2 else look b l
def renN (b : Nat) : Option Nat := bif Nat.blt b k then some b else look b m
def isN (b b0 : Nat) : Bool := match renN k m b0 with
  | some b1 => Nat.beq b b1
  | none => false
def isGone (b0 : Nat) : Bool := match renN k m b0 with
  | some _ => false
  | none => true
def sameLst (e e0 : List Ty) (L : List (rowDen e)) (L0 : List (rowDen e0)) : Prop := match asL e0 e L with
  | some L' => L' = L0
  | none => False
def capW (x0 : Bool) (len0 cap0 cap : Nat) : Prop := match x0 with
  | true => cap = cap0
  | false => len0 ≤ cap0 ∧ cap0 ≤ cap
mutual
def weakV : V → V → Prop
  | v, .any => True
  | v, .undef => (match v with
    | .undef => True
    | _ => False)
  | v, .bool b => (match v with
    | .bool a => a = b
    | _ => False)
  | v, .int k0 b => (match v with
    | .int k a => guardB (kEq k k0) (a = b)
    | _ => False)
  | v, .str b => (match v with
    | .str a => a = b
    | _ => False)
  | v, .nilp => (match v with
    | .nilp => True
    | _ => False)
  | v, .nils => (match v with
    | .nils => True
    | _ => False)
  | v, .nilm => (match v with
    | .nilm => True
    | _ => False)
  | v, .nilf => (match v with
    | .nilf => True
    | _ => False)
  | v, .nili => (match v with
    | .nili => True
    | _ => False)
  | v, .ptr b0 o0 => (match v with
    | .ptr b o => guardB (isN k m b b0 && Nat.beq o o0) True
    | _ => False)
  | v, .rptr b0 i0 j0 es0 => (match v with
    | .rptr b i j es => guardB (isN k m b b0 && (Nat.beq j j0 && Nat.beq es es0)) (i = i0)
    | _ => False)
  | v, .lptr e0 L0 i0 j0 => (match v with
    | .lptr e L i j => sameLst e e0 L L0 ∧ (i = i0 ∧ j = j0)
    | _ => False)
  | v, .sl b0 o0 len0 cap0 x0 es0 => (match v with
    | .sl b o len cap x es => guardB (isN k m b b0 && (Nat.beq o o0 && (Nat.beq len len0 && (Nat.beq cap cap0 && ((x == x0) && Nat.beq es es0))))) True
    | _ => False)
  | v, .rs b0 lo0 len0 cap0 x0 es0 => (match v with
    | .rs b lo len cap x es => guardB (isN k m b b0 && (Nat.beq es es0 && (!x0 || x))) (lo = lo0 ∧ (len = len0 ∧ capW x0 len0 cap0 cap))
    | .nils => guardB (isGone k m b0) (len0 = 0 ∧ cap0 = 0)
    | _ => False)
  | v, .lst e0 L0 cl0 => (match v with
    | .lst e L cl => guardB (!cl0 || cl) (sameLst e e0 L L0)
    | .nils => L0 = []
    | _ => False)
  | v, .arr e0 L0 => (match v with
    | .arr e L => sameLst e e0 L L0
    | _ => False)
  | v, .map b0 => (match v with
    | .map b => guardB (isN k m b b0) True
    | _ => False)
  | v, .fn f0 a0 c0 => (match v with
    | .fn f a c => guardB (Nat.beq f f0) (weakL a a0 ∧ weakL c c0)
    | _ => False)
  | v, .yld l0 => (match v with
    | .yld l => guardB (isN k m l l0) True
    | _ => False)
  | v, .iface t0 v0 => (match v with
    | .iface t v => guardB (Nat.beq t t0) (weakV v v0)
    | _ => False)
  | v, .agg l0 => (match v with
    | .agg l => weakL l l0
    | _ => False)
  | v, .tup l0 => (match v with
    | .tup l => weakL l l0
    | _ => False)
def weakL : List V → List V → Prop
  | l, [] => (match l with
    | [] => True
    | _ :: _ => False)
  | l, v0 :: l0 => (match l with
    | [] => False
    | v :: l => weakV v v0 ∧ weakL l l0)
end
end

section
variable {k : Nat} {m : List (Nat × Nat)}
def Env.ren (ρ : Env) (k : Nat) (m : List (Nat × Nat)) : Env := ⟨fun b => match renN k m b with
  | some b1 => ρ b1
  | none => none, k, ρ.φ⟩
theorem isN_spec {b b0 : Nat} (h : isN k m b b0 = true) : renN k m b0 = some b := by
  unfold isN at h
  split at h
  · rename_i b1 hb; rw [hb, Nat.eq_of_beq_eq_true h]
  · cases h
theorem ren_get {ρ : Env} {b b0 : Nat} (h : isN k m b b0 = true) : ρ.ren k m b0 = ρ b := by
  simp only [Env.ren, isN_spec h]
theorem sameLst_spec {e e0 : List Ty} {L : List (rowDen e)} {L0 : List (rowDen e0)} (h : sameLst e e0 L L0) : ∃ q : e = e0, L0 = castL q L := by
  unfold sameLst at h
  split at h
  · rename_i L' hL
    obtain ⟨q, rfl⟩ := asL_some hL
    exact ⟨q, h.symm⟩
  · exact h.elim

mutual
theorem weakV_rel {ρ : Env} : ∀ (v0 v : V) (X : Value), weakV k m v v0 → VRel ρ v X → VRel (ρ.ren k m) v0 X
  | .any, v, X, h, hv => by simp only [VRel]
  | .undef, v, X, h, hv => by
    rw [weakV.eq_def] at h
    simp only at h
    split at h
    · simpa only [VRel] using hv
    · exact h.elim
  | .bool b, v, X, h, hv => by
    rw [weakV.eq_def] at h
    simp only at h
    split at h
    · subst h; simpa only [VRel] using hv
    · exact h.elim
  | .int k0 b, v, X, h, hv => by
    rw [weakV.eq_def] at h
    simp only at h
    split at h
    · obtain ⟨h1, rfl⟩ := guardB_b h
      rw [kEq_iff] at h1
      have h1 := of_decide_eq_true h1
      subst h1
      simpa only [VRel] using hv
    · exact h.elim
  | .str b, v, X, h, hv => by
    rw [weakV.eq_def] at h
    simp only at h
    split at h
    · subst h; simpa only [VRel] using hv
    · exact h.elim
  | .nilp, v, X, h, hv => by
    rw [weakV.eq_def] at h
    simp only at h
    split at h
    · simpa only [VRel] using hv
    · exact h.elim
  | .nils, v, X, h, hv => by
    rw [weakV.eq_def] at h
    simp only at h
    split at h
    · simpa only [VRel] using hv
    · exact h.elim
  | .nilm, v, X, h, hv => by
    rw [weakV.eq_def] at h
    simp only at h
    split at h
    · simpa only [VRel] using hv
    · exact h.elim
  | .nilf, v, X, h, hv => by
    rw [weakV.eq_def] at h
    simp only at h
    split at h
    · simpa only [VRel] using hv
    · exact h.elim
  | .nili, v, X, h, hv => by
    rw [weakV.eq_def] at h
    simp only at h
    split at h
    · simpa only [VRel] using hv
    · exact h.elim
  | .ptr b0 o0, v, X, h, hv => by
    rw [weakV.eq_def] at h
    simp only at h
    split at h
    · obtain ⟨h1, _⟩ := guardB_b h
      rw [Bool.and_eq_true] at h1
      have h2 := Nat.eq_of_beq_eq_true h1.2
      subst h2
      simp only [VRel] at hv ⊢
      rw [ren_get h1.1]; exact hv
    · exact h.elim
  | .rptr b0 i0 j0 es0, v, X, h, hv => by
    rw [weakV.eq_def] at h
    simp only at h
    split at h
    · obtain ⟨h1, rfl⟩ := guardB_b h
      simp only [Bool.and_eq_true] at h1
      have h2 := Nat.eq_of_beq_eq_true h1.2.1
      have h3 := Nat.eq_of_beq_eq_true h1.2.2
      subst h2; subst h3
      simp only [VRel] at hv ⊢
      rw [ren_get h1.1]; exact hv
    · exact h.elim
  | .lptr e0 L0 i0 j0, v, X, h, hv => by
    rw [weakV.eq_def] at h
    simp only at h
    split at h
    · obtain ⟨h1, rfl, rfl⟩ := h
      obtain ⟨q, rfl⟩ := sameLst_spec h1
      subst q
      simp only [VRel] at hv ⊢
      exact hv
    · exact h.elim
  | .sl b0 o0 len0 cap0 x0 es0, v, X, h, hv => by
    rw [weakV.eq_def] at h
    simp only at h
    split at h
    · obtain ⟨h1, _⟩ := guardB_b h
      simp only [Bool.and_eq_true] at h1
      obtain ⟨g1, g2, g3, g4, g5, g6⟩ := h1
      have g2 := Nat.eq_of_beq_eq_true g2
      have g3 := Nat.eq_of_beq_eq_true g3
      have g4 := Nat.eq_of_beq_eq_true g4
      have g5 := eq_of_beq g5
      have g6 := Nat.eq_of_beq_eq_true g6
      subst g2; subst g3; subst g4; subst g5; subst g6
      simp only [VRel] at hv ⊢
      rw [ren_get g1]; exact hv
    · exact h.elim
  | .rs b0 lo0 len0 cap0 x0 es0, v, X, h, hv => by
    rw [weakV.eq_def] at h
    simp only at h
    split at h
    · obtain ⟨h1, rfl, rfl, hcap⟩ := guardB_b h
      simp only [Bool.and_eq_true, Bool.or_eq_true, Bool.not_eq_true'] at h1
      obtain ⟨g1, g2, g3⟩ := h1
      have g2 := Nat.eq_of_beq_eq_true g2
      subst g2
      simp only [VRel] at hv ⊢
      rw [ren_get g1]
      obtain ⟨a, c, q1, q2, q3, q4, q5⟩ := hv
      cases x0 with
      | true =>
        have hcap : _ = _ := hcap
        subst hcap
        refine ⟨a, c, q1, q2, q3, fun hx => q4 ?_, q5⟩
        rcases g3 with g3 | g3
        · cases g3
        · exact g3
      | false =>
        obtain ⟨c1, c2⟩ : _ ≤ _ ∧ _ ≤ _ := hcap
        exact ⟨a, c, q1, c1, by omega, fun hx => (by cases hx), q5⟩
    · obtain ⟨h1, rfl, rfl⟩ := guardB_b h
      simp only [VRel] at hv ⊢
      exact ⟨none, 0, hv, Nat.le_refl _, Nat.le_refl _, fun _ => rfl, fun _ => rfl, fun hp => absurd hp (Nat.lt_irrefl _)⟩
    · exact h.elim
  | .lst e0 L0 cl0, v, X, h, hv => by
    rw [weakV.eq_def] at h
    simp only at h
    split at h
    · obtain ⟨h1, h2⟩ := guardB_b h
      obtain ⟨q, rfl⟩ := sameLst_spec h2
      subst q
      simp only [VRel] at hv ⊢
      obtain ⟨a, c, q1, q2, q3, q4⟩ := hv
      refine ⟨a, c, q1, q2, fun hx => q3 ?_, q4⟩
      rw [Bool.or_eq_true, Bool.not_eq_true'] at h1
      rcases h1 with h1 | h1
      · rw [h1] at hx; cases hx
      · exact h1
    · subst h
      simp only [VRel] at hv ⊢
      exact ⟨none, 0, hv, Nat.le_refl _, fun _ => rfl, fun _ => rfl, fun hp => absurd hp (Nat.lt_irrefl _)⟩
    · exact h.elim
  | .arr e0 L0, v, X, h, hv => by
    rw [weakV.eq_def] at h
    simp only at h
    split at h
    · obtain ⟨q, rfl⟩ := sameLst_spec h
      subst q
      simp only [VRel] at hv ⊢
      exact hv
    · exact h.elim
  | .map b0, v, X, h, hv => by
    rw [weakV.eq_def] at h
    simp only at h
    split at h
    · obtain ⟨h1, _⟩ := guardB_b h
      simp only [VRel] at hv ⊢
      rw [ren_get h1]; exact hv
    · exact h.elim
  | .fn f0 a0 c0, v, X, h, hv => by
    rw [weakV.eq_def] at h
    simp only at h
    split at h
    · obtain ⟨h1, h2, h3⟩ := guardB_b h
      have h1 := Nat.eq_of_beq_eq_true h1
      subst h1
      simp only [VRel] at hv ⊢
      obtain ⟨A, C, q1, q2, q3⟩ := hv
      exact ⟨A, C, q1, weakL_rel a0 _ _ h2 q2, weakL_rel c0 _ _ h3 q3⟩
    · exact h.elim
  | .yld l0, v, X, h, hv => by
    rw [weakV.eq_def] at h
    simp only at h
    split at h
    · obtain ⟨h1, _⟩ := guardB_b h
      simp only [VRel] at hv ⊢
      rw [ren_get h1]; exact hv
    · exact h.elim
  | .iface t0 v0, v, X, h, hv => by
    rw [weakV.eq_def] at h
    simp only at h
    split at h
    · obtain ⟨h1, h2⟩ := guardB_b h
      have h1 := Nat.eq_of_beq_eq_true h1
      subst h1
      simp only [VRel] at hv ⊢
      obtain ⟨Y, q1, q2⟩ := hv
      exact ⟨Y, q1, weakV_rel v0 _ _ h2 q2⟩
    · exact h.elim
  | .agg l0, v, X, h, hv => by
    rw [weakV.eq_def] at h
    simp only at h
    split at h
    · simp only [VRel] at hv ⊢
      obtain ⟨A, q1, q2⟩ := hv
      exact ⟨A, q1, weakL_rel l0 _ _ h q2⟩
    · exact h.elim
  | .tup l0, v, X, h, hv => by
    rw [weakV.eq_def] at h
    simp only at h
    split at h
    · simp only [VRel] at hv ⊢
      obtain ⟨A, q1, q2⟩ := hv
      exact ⟨A, q1, weakL_rel l0 _ _ h q2⟩
    · exact h.elim
theorem weakL_rel {ρ : Env} : ∀ (l0 l : List V) (X : List Value), weakL k m l l0 → LRel ρ l X → LRel (ρ.ren k m) l0 X
  | [], l, X, h, hv => by
    rw [weakL.eq_def] at h
    simp only at h
    split at h
    · exact hv
    · exact h.elim
  | v0 :: l0, l, X, h, hv => by
    rw [weakL.eq_def] at h
    simp only at h
    split at h
    · exact h.elim
    · obtain ⟨Y, Z, q1, q2, q3⟩ := hv
      exact ⟨Y, Z, q1, weakV_rel v0 _ _ h.1 q2, weakL_rel l0 _ _ h.2 q3⟩
end

def weakF (k : Nat) (m : List (Nat × Nat)) (f : Frm) : Nat → List V → Prop
  | _, [] => True
  | i, v0 :: l => weakV k m (f.get i) v0 ∧ weakF k m f (i + 1) l
theorem weakF_get {f : Frm} : ∀ {l : List V} {i : Nat}, weakF k m f i l → ∀ (j : Nat) v0, l[j]? = some v0 → weakV k m (f.get (i + j)) v0
  | [], _, _, j, v0, h => by simp at h
  | v :: l, i, h, j, v0, hj => by
    cases j with
    | zero => simp at hj; subst hj; exact h.1
    | succ j =>
      have := weakF_get (l := l) h.2 j v0 (by simpa using hj)
      rwa [Nat.add_assoc, Nat.add_comm 1 j] at this
def weakD (k : Nat) (m : List (Nat × Nat)) : List EDef → List EDef → Prop
  | l, [] => (match l with
    | [] => True
    | _ :: _ => False)
  | l, .mark r0 :: l0 => (match l with
    | .mark r :: l => guardB (isN k m r r0) (weakD k m l l0)
    | _ => False)
  | l, .call g0 a0 c0 :: l0 => (match l with
    | .call g a c :: l => guardB (Nat.beq g g0) (weakL k m a a0 ∧ (weakL k m c c0 ∧ weakD k m l l0))
    | _ => False)
theorem weakD_rel {ρ : Env} : ∀ (l0 l : List EDef) (D : List Deferred), weakD k m l l0 → DRel ρ l D → DRel (ρ.ren k m) l0 D
  | [], l, D, h, hd => by
    rw [weakD.eq_def] at h
    simp only at h
    split at h
    · exact hd
    · exact h.elim
  | .mark r0 :: l0, l, D, h, hd => by
    rw [weakD.eq_def] at h
    simp only at h
    split at h
    · obtain ⟨h1, h2⟩ := guardB_b h
      obtain ⟨x, Y, q1, q2, q3⟩ := hd
      exact ⟨x, Y, by rw [ren_get h1]; exact q1, q2, weakD_rel l0 _ _ h2 q3⟩
    · exact h.elim
  | .call g0 a0 c0 :: l0, l, D, h, hd => by
    rw [weakD.eq_def] at h
    simp only at h
    split at h
    · obtain ⟨h1, h2, h3, h4⟩ := guardB_b h
      have h1 := Nat.eq_of_beq_eq_true h1
      subst h1
      obtain ⟨A, C, Y, q1, q2, q3, q4⟩ := hd
      exact ⟨A, C, Y, q1, weakL_rel a0 _ _ h2 q2, weakL_rel c0 _ _ h3 q3, weakD_rel l0 _ _ h4 q4⟩
    · exact h.elim
theorem hOf_le' {n : Nat} (h : n ≤ 4096) : n ≤ 2 ^ hOf n := hOf_le h
theorem mkFrm_ok {n : Nat} {sl : List V} (hm : n ≤ 4096) : (mkFrm n sl).ok := ⟨hOf n, B.ofList_full _ _ _, hOf_le hm⟩
theorem mkFrm_get {n : Nat} {sl : List V} (hm : n ≤ 4096) (i : Nat) (hi : i < n) : (mkFrm n sl).get i = sl.getD i .undef := by
  rw [Frm.get_eq, blt_iff]
  have : i < (mkFrm n sl).n := hi
  rw [decide_eq_true this, cond_true]
  exact B.ofList_get _ _ _ _ (Nat.lt_of_lt_of_le hi (hOf_le hm))
theorem toV_plain {ρ ρ' : Env} (h : subφ ρ.φ ρ'.φ) : ∀ (t : Ty) (x : t.den) {X : Value}, VRel ρ (toV t x) X → VRel ρ' (toV t x) X
  | .int _, _, _, r => by simp only [toV, VRel] at r ⊢; exact r
  | .bool, _, _, r => by simp only [toV, VRel] at r ⊢; exact r
  | .str, _, _, r => by simp only [toV, VRel] at r ⊢; exact r
  | .lst e, _, _, r => by
    simp only [toV, VRel] at r ⊢
    obtain ⟨a, c, h1, h2, h3, h5, h4⟩ := r
    exact ⟨a, c, h1, h2, h3, h5, fun hp => let ⟨B, o, g1, g2⟩ := h4 hp; ⟨B, o, g1, g2.mono h fun _ _ hv => h _ _ _ hv⟩⟩
theorem MRel.plain {ρ ρ' : Env} (h : subφ ρ.φ ρ'.φ) {k t : Ty} : ∀ {M : List (k.den × t.den × Nat)} {E : List MapEntry}, MRel ρ (pmV k t M) E → MRel ρ' (pmV k t M) E
  | [], _, r => r
  | _ :: _, _, r => by
    obtain ⟨x, y, e, h1, h2, h3, h4⟩ := r
    exact ⟨x, y, e, toV_plain h _ _ h1, toV_plain h _ _ h2, h3, MRel.plain h h4⟩
def castM {k k0 t t0 : Ty} (hk : k = k0) (ht : t = t0) (M : List (k.den × t.den × Nat)) : List (k0.den × t0.den × Nat) := by subst hk; subst ht; exact M
theorem castM_self {k t : Ty} (hk : k = k) (ht : t = t) (M : List (k.den × t.den × Nat)) : castM hk ht M = M := rfl
def sameM (k k0 t t0 : Ty) (M : List (k.den × t.den × Nat)) (M0 : List (k0.den × t0.den × Nat)) : Prop :=
  if h : Ty.beq k k0 = true then (if h' : Ty.beq t t0 = true then castM (Ty.beq_eq k k0 h) (Ty.beq_eq t t0 h') M = M0 else False) else False
theorem sameM_spec {k k0 t t0 : Ty} {M : List (k.den × t.den × Nat)} {M0 : List (k0.den × t0.den × Nat)} (h : sameM k k0 t t0 M M0) : ∃ (q : k = k0) (q' : t = t0), castM q q' M = M0 := by
  unfold sameM at h
  split at h
  · split at h
    · exact ⟨_, _, h⟩
    · exact h.elim
  · exact h.elim
def weakO (k : Nat) (m : List (Nat × Nat)) (o o0 : EObj) : Prop :=
  match o0 with
  | .cells cs0 t0 ish0 => (match o with
    | .cells cs t ish => guardB (!ish || ish0) (weakL k m cs cs0)
    | _ => False)
  | .rows e0 L0 t0 ish0 => (match o with
    | .rows e L t ish => guardB (!ish || ish0) (sameLst e e0 L L0)
    | _ => False)
  | .dfr s0 => (match o with
    | .dfr s => guardB (s == s0) True
    | _ => False)
  | .loop r0 => (match o with
    | .loop r => r.state = r0.state ∧ (r.pending = r0.pending ∧ (r.params = r0.params ∧ (r.assign = r0.assign ∧ (r.body = r0.body ∧ guardB (isN k m r.defers r0.defers) (∃ n sl, r0.tmps = mkFrm n sl ∧ guardB (Nat.beq r.tmps.n n && (Nat.beq (llen sl) n && Nat.ble n 4096)) (weakF k m r.tmps 0 sl))))))
    | _ => False)
  | .map _ _ => False
  | .pm k0 t0 M0 c0 => (match o with
    | .pm k t M c => sameM k k0 t t0 M M0 ∧ c = c0
    | _ => False)
theorem weakL_length : ∀ (l0 l : List V), weakL k m l l0 → l.length = l0.length
  | [], l, h => by
    rw [weakL.eq_def] at h
    simp only at h
    split at h
    · rfl
    · exact h.elim
  | v0 :: l0, l, h => by
    rw [weakL.eq_def] at h
    simp only at h
    split at h
    · exact h.elim
    · simp [weakL_length l0 _ h.2]
theorem weakL_get : ∀ (l0 l : List V), weakL k m l l0 → ∀ (i : Nat) v0, l0[i]? = some v0 → ∃ v, l[i]? = some v ∧ weakV k m v v0
  | [], l, h, i, v0, hi => by simp at hi
  | u0 :: l0, l, h, i, v0, hi => by
    rw [weakL.eq_def] at h
    simp only at h
    split at h
    · exact h.elim
    · cases i with
      | zero => simp at hi; subst hi; exact ⟨_, rfl, h.1⟩
      | succ i =>
        obtain ⟨v, h1, h2⟩ := weakL_get l0 _ h.2 i v0 (by simpa using hi)
        exact ⟨v, by simpa using h1, h2⟩
theorem frel_weak {ρ : Env} {f f0 : Frm} {A : Array Value} (h : FRel ρ f A) (hn : f.n = f0.n) (hok : f0.ok) (hw : ∀ i, i < f0.n → weakV k m (f.get i) (f0.get i)) : FRel (ρ.ren k m) f0 A := by
  obtain ⟨h1, d, h2, h3, h4⟩ := h
  obtain ⟨d', g2, g3⟩ := hok
  refine ⟨by rw [← hn]; exact h1, d', g2, g3, fun i X hi => ?_⟩
  have hlt : i < f0.n := by rw [← hn, h1]; exact (Array.getElem?_eq_some_iff.1 hi).1
  have := hw i hlt
  rw [Frm.get_eq, Frm.get_eq, blt_iff, blt_iff, decide_eq_true (by omega), decide_eq_true hlt, cond_true, cond_true] at this
  exact weakV_rel _ _ _ this (h4 i X hi)
theorem weakO_rel {ρ : Env} {o o0 : EObj} {O S : Nat} {X : Option Obj} (h : weakO k m o o0) (ho : ORel ρ O S X o) : ORel (ρ.ren k m) O S X o0 := by
  unfold weakO at h
  split at h
  · split at h
    · obtain ⟨h1, h2⟩ := guardB_b h
      rw [Bool.or_eq_true, Bool.not_eq_true'] at h1
      obtain ⟨C, t, fr, q1, q2, q3, q4, q5, q6⟩ := ho
      refine ⟨C, t, fr, q1, q2, by rw [← weakL_length _ _ h2]; exact q3, fun i v0 hi => ?_, q5, fun hx => q6 ?_⟩
      · obtain ⟨v, g1, g2⟩ := weakL_get _ _ h2 i v0 hi
        obtain ⟨W, g3, g4⟩ := q4 i v g1
        exact ⟨W, g3, weakV_rel _ _ _ g2 g4⟩
      · rcases h1 with h1 | h1
        · exact h1
        · rw [h1] at hx; cases hx
    · exact h.elim
  · split at h
    · obtain ⟨h1, h2⟩ := guardB_b h
      rw [Bool.or_eq_true, Bool.not_eq_true'] at h1
      obtain ⟨q, rfl⟩ := sameLst_spec h2
      subst q
      obtain ⟨C, t, fr, q1, q2, q3, q4, q5, q6⟩ := ho
      refine ⟨C, t, fr, q1, q2, q3, q4, q5, fun hx => q6 ?_⟩
      rcases h1 with h1 | h1
      · exact h1
      · rw [h1] at hx; cases hx
    · exact h.elim
  · split at h
    · obtain ⟨h1, _⟩ := guardB_b h
      have h1 := eq_of_beq h1
      subst h1
      exact ho
    · exact h.elim
  · split at h
    · obtain ⟨h1, h2, h3, h4, h5, h6⟩ := h
      obtain ⟨h6, n, sl, h7, h8⟩ := guardB_b h6
      obtain ⟨h8, h9⟩ := guardB_b h8
      simp only [Bool.and_eq_true, Nat.ble_eq, Nat.beq_eq, llen_eq] at h8
      obtain ⟨hn, hlen, h4096⟩ := h8
      obtain ⟨L, D, q1, q2, q3, q4, q5, q6, q7, q8, q9⟩ := ho
      refine ⟨L, D, q1, by rw [← h1]; exact q2, by rw [← h2]; exact q3, ?_, by rw [← h3]; exact q5, by rw [← h4]; exact q6, by rw [← h5]; exact q7, by rw [ren_get h6]; exact q8, q9⟩
      rw [h7]
      refine frel_weak q4 hn (mkFrm_ok h4096) fun i hi => ?_
      have hi : i < n := hi
      have hsl : sl[i]? = some (sl.getD i .undef) := by
        rw [List.getD_eq_getElem?_getD, List.getElem?_eq_getElem (by omega)]; rfl
      have := weakF_get h9 i _ hsl
      rw [Nat.zero_add] at this
      rw [mkFrm_get h4096 i hi]
      exact this
    · exact h.elim
  · exact h.elim
  · split at h
    · obtain ⟨h1, rfl⟩ := h
      obtain ⟨q, q', rfl⟩ := sameM_spec h1
      subst q; subst q'
      obtain ⟨E, e1, e2⟩ := ho
      exact ⟨E, e1, by rw [castM_self]; exact MRel.plain (ρ := ρ) (ρ' := ρ.ren k m) (fun _ _ _ h => h) e2⟩
    · exact h.elim

def weakH (k : Nat) (m : List (Nat × Nat)) (h1 : T EObj) : List (Nat × EObj) → Prop
  | [] => True
  | e :: l => (match renN k m e.1 with
    | none => True
    | some b1 => (match h1.get b1 with
      | some o1 => weakO k m o1 e.2
      | none => False)) ∧ weakH k m h1 l
theorem weakH_mem {h1 : T EObj} : ∀ {l : List (Nat × EObj)}, weakH k m h1 l → ∀ b o b1, (b, o) ∈ l → renN k m b = some b1 → ∃ o1, h1.get b1 = some o1 ∧ weakO k m o1 o
  | [], _, b, o, b1, h, _ => by cases h
  | e :: l, hw, b, o, b1, h, hr => by
    rcases List.mem_cons.1 h with h | h
    · subst h
      have := hw.1
      simp only [hr] at this
      split at this
      · exact ⟨_, ‹_›, this⟩
      · exact this.elim
    · exact weakH_mem hw.2 b o b1 h hr
def mapOK (k next : Nat) : List (Nat × Nat) → Bool
  | [] => true
  | e :: l => (Nat.ble k e.1 && (Nat.blt e.1 next && Nat.ble k e.2)) && (l.all (fun e' => !Nat.beq e.2 e'.2) && mapOK k next l)
theorem mapOK_look {k next : Nat} : ∀ {m : List (Nat × Nat)}, mapOK k next m = true → ∀ b b1, look b m = some b1 → k ≤ b ∧ b < next ∧ k ≤ b1
  | [], _, b, b1, h => by cases h
  | e :: l, hm, b, b1, h => by
    simp only [mapOK, Bool.and_eq_true, Nat.ble_eq, Nat.blt_eq] at hm
    simp only [look] at h
    cases hb : Nat.beq e.1 b with
    | true =>
      rw [hb, cond_true] at h; cases h
      have := Nat.eq_of_beq_eq_true hb
      subst this
      exact ⟨hm.1.1, hm.1.2.1, hm.1.2.2⟩
    | false => rw [hb, cond_false] at h; exact mapOK_look hm.2.2 b b1 h
theorem look_mem : ∀ {m : List (Nat × Nat)} {b b1 : Nat}, look b m = some b1 → (b, b1) ∈ m
  | [], b, b1, h => by cases h
  | e :: l, b, b1, h => by
    simp only [look] at h
    cases hb : Nat.beq e.1 b with
    | true =>
      rw [hb, cond_true] at h; cases h
      have := Nat.eq_of_beq_eq_true hb
      subst this
      exact List.mem_cons_self
    | false => rw [hb, cond_false] at h; exact List.mem_cons_of_mem _ (look_mem h)
theorem mapOK_inj {k next : Nat} : ∀ {m : List (Nat × Nat)}, mapOK k next m = true → ∀ b b' b1, look b m = some b1 → look b' m = some b1 → b = b'
  | [], _, b, b', b1, h, _ => by cases h
  | e :: l, hm, b, b', b1, h, h' => by
    simp only [mapOK, Bool.and_eq_true, List.all_eq_true, Bool.not_eq_true'] at hm
    simp only [look] at h h'
    cases hb : Nat.beq e.1 b with
    | true =>
      rw [hb, cond_true] at h; cases h
      cases hb' : Nat.beq e.1 b' with
      | true => rw [← Nat.eq_of_beq_eq_true hb, ← Nat.eq_of_beq_eq_true hb']
      | false =>
        rw [hb', cond_false] at h'
        have := hm.2.1 _ (look_mem h')
        simp at this
    | false =>
      rw [hb, cond_false] at h
      cases hb' : Nat.beq e.1 b' with
      | true =>
        rw [hb', cond_true] at h'; cases h'
        have := hm.2.1 _ (look_mem h)
        simp at this
      | false =>
        rw [hb', cond_false] at h'
        exact mapOK_inj hm.2.2 b b' b1 h h'
theorem renN_cases {b b1 : Nat} (h : renN k m b = some b1) : (b < k ∧ b1 = b) ∨ (k ≤ b ∧ look b m = some b1) := by
  unfold renN at h
  rw [blt_iff] at h
  by_cases hb : b < k
  · rw [decide_eq_true hb, cond_true] at h; cases h; exact .inl ⟨hb, rfl⟩
  · rw [decide_eq_false hb, cond_false] at h; exact .inr ⟨by omega, h⟩

def wkP (k : Nat) (m : List (Nat × Nat)) (c1 : Cfg) (n : Nat) (sl : List V) (ds : List EDef) (h : List (Nat × EObj)) (next : Nat) : Prop :=
  guardB (mapOK k next m && (Nat.ble k next && (Nat.beq c1.tmps.n n && (Nat.beq (llen sl) n && Nat.ble n 4096))))
    (weakF k m c1.tmps 0 sl ∧ (weakD k m c1.defers ds ∧ weakH k m c1.st.heap h))


theorem wkP_ok {c1 : Cfg} {n : Nat} {sl : List V} {ds : List EDef} {h : List (Nat × EObj)} {next : Nat} (hw : wkP k m c1 n sl ds h next) : Wk k c1 (mkCfg n sl ds h next) := by
  obtain ⟨h1, h2, h3, h4⟩ := guardB_b hw
  simp only [Bool.and_eq_true, Nat.ble_eq, Nat.beq_eq, llen_eq] at h1
  obtain ⟨hmap, hkn, hn, hlen, h4096⟩ := h1
  intro own ρ0 ρ A w hk hle hr
  have hlt : ∀ b, b < k → (ρ.ren k m) b = ρ b := fun b hb => by simp only [Env.ren, renN, blt_iff, decide_eq_true hb, cond_true]
  have hle' : ρ0.le (ρ.ren k m) := by
    refine ⟨⟨fun b x hb => ?_, hle.sub.2⟩, hk.1, fun b hb hn => ?_⟩
    · rw [hlt b (hk.2 b x hb)]; exact hle.sub.1 b x hb
    · rw [hlt b (Nat.lt_of_lt_of_le hb hk.1)]; exact hle.keep b hb hn
  refine ⟨ρ.ren k m, hle', ?_, weakD_rel _ _ _ h3 hr.d, ?_⟩
  · refine frel_weak hr.f hn (mkFrm_ok h4096) fun i hi => ?_
    have hi : i < n := hi
    have hsl : sl[i]? = some (sl.getD i .undef) := by
      rw [List.getD_eq_getElem?_getD, List.getElem?_eq_getElem (by omega)]; rfl
    have := weakF_get h2 i _ hsl
    rw [Nat.zero_add] at this
    rw [show (mkCfg n sl ds h next).tmps.get i = sl.getD i .undef from mkFrm_get h4096 i hi]
    exact this
  · have key : ∀ b o x, (heapOf h).get b = some o → (ρ.ren k m) b = some x → ∃ b1 o1, renN k m b = some b1 ∧ c1.st.heap.get b1 = some o1 ∧ ρ b1 = some x ∧ weakO k m o1 o := by
      intro b o x hb hx
      have hmem := heapOf_mem hb
      simp only [Env.ren] at hx
      cases hr1 : renN k m b with
      | none => rw [hr1] at hx; cases hx
      | some b1 =>
        rw [hr1] at hx
        obtain ⟨o1, g1, g2⟩ := weakH_mem h4 b o b1 hmem hr1
        exact ⟨b1, o1, rfl, g1, hx, g2⟩
    refine ⟨hr.s.le, ?_, ?_, ?_, hkn, hr.s.fz, hr.s.old⟩
    · intro b o x hb hx
      obtain ⟨b1, o1, g1, g2, g3, g4⟩ := key b o x hb hx
      obtain ⟨q1, q2⟩ := hr.s.obj b1 o1 x g2 g3
      exact ⟨q1, weakO_rel g4 q2⟩
    · intro b b' o o' x x' hb hb' hx hx' hne
      obtain ⟨b1, o1, g1, g2, g3, g4⟩ := key b o x hb hx
      obtain ⟨b1', o1', g1', g2', g3', g4'⟩ := key b' o' x' hb' hx'
      refine hr.s.inj b1 b1' o1 o1' x x' g2 g2' g3 g3' fun e => hne ?_
      subst e
      rcases renN_cases g1 with ⟨a1, rfl⟩ | ⟨a1, a2⟩ <;> rcases renN_cases g1' with ⟨a1', e⟩ | ⟨a1', a2'⟩
      · exact e
      · have := (mapOK_look hmap _ _ a2').2.2; omega
      · have := (mapOK_look hmap _ _ a2).2.2; omega
      · exact mapOK_inj hmap _ _ _ a2 a2'
    · intro b x hx
      simp only [Env.ren] at hx
      show b < next
      cases hr1 : renN k m b with
      | none => rw [hr1] at hx; cases hx
      | some b1 =>
        rcases renN_cases hr1 with ⟨a1, _⟩ | ⟨a1, a2⟩
        · omega
        · exact (mapOK_look hmap _ _ a2).2.1

inductive OT where
  | leaf (e : EExit) (c : Cfg)
  | ite (b : Bool) (l r : OT)
def OT.den : OT → EExit × Cfg
  | .leaf e c => (e, c)
  | .ite b l r => bif b then l.den else r.den
def OT.w (K : KC) : OT → Prop
  | .leaf e c => forceC c fun c => K e c
  | .ite b l r => iteB b (l.w K) (r.w K)
theorem OT.w_den {K : KC} : ∀ {o : OT}, o.w K → K o.den.1 o.den.2
  | .leaf e c, h => (forceC_iff _ _).1 h
  | .ite b l r, h => by
    cases b
    · exact OT.w_den (o := r) h
    · exact OT.w_den (o := l) h
open Classical in
noncomputable def cutF (k : Nat) (c0 : Cfg) (o : OT) : Cfg → Option (EExit × Cfg) := fun c => if Wk k c c0 then some o.den else none
def cutW (k : Nat) (m : List (Nat × Nat)) (n : Nat) (sl : List V) (ds : List EDef) (h : List (Nat × EObj)) (next : Nat) (o : OT) : CW := fun c K => wkP k m c n sl ds h next ∧ o.w K
theorem cut_ad {n : Nat} {sl : List V} {ds : List EDef} {h : List (Nat × EObj)} {next : Nat} {o : OT} : AdC (cutW k m n sl ds h next o) (cutF k (mkCfg n sl ds h next) o) := by
  intro c K hk
  refine ⟨_, _, ?_, OT.w_den hk.2⟩
  unfold cutF
  rw [if_pos (wkP_ok hk.1)]
theorem cutF_ok {P : Program} {ro r : Option Nat} {n : Nat} {x : Code} {c0 : Cfg} {o : OT} (h : CodeAt P ro r n k x c0 o.den.1 o.den.2) : CodeOK P ro r n k x (cutF k c0 o) := by
  intro c e c' hq own ρ0 w0 ρ A w hk hro hle hfr hr
  unfold cutF at hq
  split at hq
  · rename_i hw
    have hq : o.den = (e, c') := Option.some.inj hq
    rw [hq] at h
    obtain ⟨ρ', g1, g2⟩ := hw own ρ0 ρ A w hk hle hr
    exact h own ρ0 w0 ρ' A w hk hro g1 hfr g2
  · cases hq

mutual
def V.flat : V → Bool
  | .undef | .bool _ | .int .. | .str _ | .nilp | .nils | .nilm | .nilf | .nili => true
  | .iface _ v => v.flat
  | .agg l => flatL l
  | .tup l => flatL l
  | .fn _ a c => flatL a && flatL c
  | _ => false
def flatL : List V → Bool
  | [] => true
  | v :: l => v.flat && flatL l
end
mutual
theorem VRel.flat {ρ ρ' : Env} : ∀ (v : V) (X : Value), v.flat = true → VRel ρ v X → VRel ρ' v X
  | .undef, X, _, h => by simpa only [VRel] using h
  | .bool _, X, _, h => by simpa only [VRel] using h
  | .int .., X, _, h => by simpa only [VRel] using h
  | .str _, X, _, h => by simpa only [VRel] using h
  | .nilp, X, _, h => by simpa only [VRel] using h
  | .nils, X, _, h => by simpa only [VRel] using h
  | .nilm, X, _, h => by simpa only [VRel] using h
  | .nilf, X, _, h => by simpa only [VRel] using h
  | .nili, X, _, h => by simpa only [VRel] using h
  | .iface t v, X, hf, h => by
    simp only [VRel] at h ⊢
    obtain ⟨Y, h1, h2⟩ := h
    exact ⟨Y, h1, VRel.flat v Y (by simpa only [V.flat] using hf) h2⟩
  | .agg l, X, hf, h => by
    simp only [VRel] at h ⊢
    obtain ⟨Y, h1, h2⟩ := h
    exact ⟨Y, h1, LRel.flat l _ (by simpa only [V.flat] using hf) h2⟩
  | .tup l, X, hf, h => by
    simp only [VRel] at h ⊢
    obtain ⟨Y, h1, h2⟩ := h
    exact ⟨Y, h1, LRel.flat l _ (by simpa only [V.flat] using hf) h2⟩
  | .fn f a c, X, hf, h => by
    simp only [VRel] at h ⊢
    simp only [V.flat, Bool.and_eq_true] at hf
    obtain ⟨A, C, h1, h2, h3⟩ := h
    exact ⟨A, C, h1, LRel.flat a _ hf.1 h2, LRel.flat c _ hf.2 h3⟩
  | .any, _, hf, _ => by simp [V.flat] at hf
  | .ptr .., _, hf, _ => by simp [V.flat] at hf
  | .rptr .., _, hf, _ => by simp [V.flat] at hf
  | .lptr .., _, hf, _ => by simp [V.flat] at hf
  | .sl .., _, hf, _ => by simp [V.flat] at hf
  | .rs .., _, hf, _ => by simp [V.flat] at hf
  | .lst .., _, hf, _ => by simp [V.flat] at hf
  | .arr .., _, hf, _ => by simp [V.flat] at hf
  | .map _, _, hf, _ => by simp [V.flat] at hf
  | .yld _, _, hf, _ => by simp [V.flat] at hf
theorem LRel.flat {ρ ρ' : Env} : ∀ (l : List V) (X : List Value), flatL l = true → LRel ρ l X → LRel ρ' l X
  | [], X, _, h => h
  | v :: l, X, hf, h => by
    simp only [flatL, Bool.and_eq_true] at hf
    obtain ⟨Y, Z, h1, h2, h3⟩ := h
    exact ⟨Y, Z, h1, VRel.flat v Y hf.1 h2, LRel.flat l Z hf.2 h3⟩
end

def Round {X : Type} (k : Nat) (cfg : X → Cfg) (μ : X → Nat) (out : X → EExit × Cfg) (x : X) : KC := fun e c1 => match e with
  | .normal => ∃ x', μ x' < μ x ∧ Wk k c1 (cfg x') ∧ out x' = out x
  | .exit id => (out x).1 = .exit id ∧ Wk k c1 (out x).2
  | .ret => (out x).1 = .ret ∧ Wk k c1 (out x).2
  | .pan v => (out x).1 = .pan v ∧ v.flat = true ∧ Wk k c1 (out x).2
theorem loop_at {P : Program} {ro r : Option Nat} {n : Nat} {b : Code} {X : Type} {fb : X → Cfg → Option (EExit × Cfg)} (cfg : X → Cfg) (μ : X → Nat) (out : X → EExit × Cfg) (hb : ∀ x, CodeOK P ro r n k b (fb x))
    (h : ∀ x, ∃ e c1, fb x (cfg x) = some (e, c1) ∧ Round k cfg μ out x e c1) : ∀ x, CodeAt P ro r n k (.loop b) (cfg x) (out x).1 (out x).2 := by
  intro x own ρ0 w0 ρ A w hk hro hle hfr hr
  refine wpIn_loop_rounds (μ x + 1) ?_
  have main : ∀ (N : Nat) (x : X) (ρ : Env) (A : Act) (w : World), μ x < N → ρ0.le ρ → Fr own w0 w → Rel own ρ (cfg x) A w → Code.roundsIn (RF r) n P b (CPost own ρ0 w0 (out x).1 (out x).2) N A w := by
    intro N
    induction N with
    | zero => intro x ρ A w hlt; omega
    | succ N ih =>
      intro x ρ A w hlt hle hfr hr
      rw [roundsIn_succ]
      obtain ⟨e, c1, h1, h2⟩ := h x
      refine wpIn_mono (hb x (cfg x) e c1 h1 own ρ0 w0 ρ A w hk hro hle hfr hr) ?_
      rintro E A1 w1 ⟨ρ1, g1, g2, g3, g4, g5, g6⟩
      cases e with
      | normal =>
        have g2 : E = .normal := g2
        subst g2
        obtain ⟨x', q1, q2, q3⟩ := h2
        obtain ⟨ρ2, t1, t2⟩ := q2 own ρ0 ρ1 A1 w1 hk g1 ⟨g3, g4, g5⟩
        have := ih x' ρ2 A1 w1 (by omega) t1 g6 t2
        rw [q3] at this
        exact this
      | exit id =>
        obtain ⟨q1, q2⟩ := h2
        obtain ⟨ρ2, t1, t2⟩ := q2 own ρ0 ρ1 A1 w1 hk g1 ⟨g3, g4, g5⟩
        have g2 : E = .exit id := g2
        subst g2
        exact ⟨ρ2, t1, by rw [q1]; rfl, t2.f, t2.d, t2.s, g6⟩
      | ret =>
        obtain ⟨q1, q2⟩ := h2
        obtain ⟨ρ2, t1, t2⟩ := q2 own ρ0 ρ1 A1 w1 hk g1 ⟨g3, g4, g5⟩
        have g2 : E = .ret := g2
        subst g2
        exact ⟨ρ2, t1, by rw [q1]; rfl, t2.f, t2.d, t2.s, g6⟩
      | pan v =>
        obtain ⟨q1, q3, q2⟩ := h2
        obtain ⟨ρ2, t1, t2⟩ := q2 own ρ0 ρ1 A1 w1 hk g1 ⟨g3, g4, g5⟩
        obtain ⟨X, rfl, g2⟩ := g2
        exact ⟨ρ2, t1, by rw [q1]; exact ⟨X, rfl, VRel.flat v X q3 g2⟩, t2.f, t2.d, t2.s, g6⟩
  exact main _ x ρ A w (Nat.lt_succ_self _) hle hfr hr
end
end Go.Sym
end

section
namespace Go.Sym
open Go.RowKit (Below)
set_option linter.unusedSimpArgs false
set_option linter.unusedVariables false

def envφ (φ : Nat → Nat → Option Value) : Env := ⟨fun _ => none, 0, φ⟩
def FzW (φ : Nat → Nat → Option Value) (w : World) : Prop := ∀ B k v, φ B k = some v → w.cell? ⟨B, k, none⟩ = some v
def PureAt (P : Program) (g : FuncId) (args : List V) (v : V) : Prop := ∀ (φ : Nat → Nat → Option Value) (w : World) (A : Array Value), FzW φ w → LRel (envφ φ) args A.toList →
  Calls P g A w fun E w' => ∃ φ' X, E = .returned X ∧ subφ φ φ' ∧ (∀ B k, B < w.heap.size → φ' B k = φ B k) ∧ FzW φ' w' ∧ VRel (envφ φ') v X ∧ Below w.heap.size w w'

mutual
def V.bare : V → Bool
  | .undef | .bool _ | .int .. | .str _ | .nilp | .nils | .nilm | .nilf | .nili | .lptr .. | .lst .. | .arr .. => true
  | .iface _ v => v.bare
  | .agg l => bareL l
  | .tup l => bareL l
  | .fn _ a c => bareL a && bareL c
  | _ => false
def bareL : List V → Bool
  | [] => true
  | v :: l => v.bare && bareL l
end
noncomputable section
def frzC (s : St) : V → Option (List Bool × (t : Ty) × t.den)
  | .int k n => some ([], ⟨.int k, (n : Int)⟩)
  | .bool b => some ([], ⟨.bool, (b : Bool)⟩)
  | .str x => some ([], ⟨.str, (x : ByteArray)⟩)
  | .lst e L _ => some ([], ⟨.lst e, (L : List (rowDen e))⟩)
  | .rs b lo len _ _ es => (match rowsAt s b with
    | some ⟨e, L⟩ => bif Nat.beq es e.length then some ([decide (lo + len ≤ L.length)], ⟨.lst e, (seg L lo len : List (rowDen e))⟩) else none
    | none => none)
  | _ => none
def consR : (t : Ty) → t.den → (e : List Ty) → rowDen e → (e' : List Ty) × rowDen e'
  | t, x, [], _ => ⟨[t], x⟩
  | t, x, u :: ts, y => ⟨t :: u :: ts, (x, y)⟩
def frzR (s : St) : List V → Option (List Bool × (e : List Ty) × rowDen e)
  | [] => some ([], ⟨[], ()⟩)
  | v :: l => (match frzC s v, frzR s l with
    | some (c, ⟨t, x⟩), some (c', ⟨e, y⟩) => some (c ++ c', consR t x e y)
    | _, _ => none)
mutual
def frzV (s : St) : V → Option (List Bool × V)
  | .rs b lo len _ _ es => (match rowsAt s b with
    | some ⟨e, L⟩ => bif Nat.beq es e.length then some ([decide (lo + len ≤ L.length)], .lst e (seg L lo len) false) else none
    | none => none)
  | .ptr b o => (match o with
    | 0 => (match cellsAt s b with
      | some cs => (match frzR s cs with
        | some (c, ⟨e, x⟩) => some (c, .lptr e [x] 0 0)
        | none => none)
      | none => none)
    | _ + 1 => none)
  | .iface t v => (match frzV s v with
    | some (c, v') => some (c, .iface t v')
    | none => none)
  | .agg l => (match frzL s l with
    | some (c, l') => some (c, .agg l')
    | none => none)
  | .tup l => (match frzL s l with
    | some (c, l') => some (c, .tup l')
    | none => none)
  | .undef => some ([], .undef)
  | .bool b => some ([], .bool b)
  | .int k n => some ([], .int k n)
  | .str x => some ([], .str x)
  | .nilp => some ([], .nilp)
  | .nils => some ([], .nils)
  | .nilm => some ([], .nilm)
  | .nilf => some ([], .nilf)
  | .nili => some ([], .nili)
  | .lptr e L i j => some ([], .lptr e L i j)
  | .lst e L cl => some ([], .lst e L cl)
  | .arr e L => some ([], .arr e L)
  | .fn f a c => (bif bareL a && bareL c then some ([], .fn f a c) else none)
  | _ => none
def frzL (s : St) : List V → Option (List Bool × List V)
  | [] => some ([], [])
  | v :: l => (match frzV s v, frzL s l with
    | some (c, v'), some (c', l') => some (c ++ c', v' :: l')
    | _, _ => none)
end
end

mutual
theorem VRel.bare {ρ ρ' : Env} (h : subφ ρ.φ ρ'.φ) : ∀ (v : V) (X : Value), v.bare = true → VRel ρ v X → VRel ρ' v X
  | .undef, X, _, r => by simpa only [VRel] using r
  | .bool _, X, _, r => by simpa only [VRel] using r
  | .int .., X, _, r => by simpa only [VRel] using r
  | .str _, X, _, r => by simpa only [VRel] using r
  | .nilp, X, _, r => by simpa only [VRel] using r
  | .nils, X, _, r => by simpa only [VRel] using r
  | .nilm, X, _, r => by simpa only [VRel] using r
  | .nilf, X, _, r => by simpa only [VRel] using r
  | .nili, X, _, r => by simpa only [VRel] using r
  | .lptr e L i j, X, _, r => by simp only [VRel] at r ⊢; obtain ⟨B, o, h1, h2⟩ := r; exact ⟨B, o, h1, h2.mono h fun _ _ hv => h _ _ _ hv⟩
  | .lst e L cl, X, _, r => by
    simp only [VRel] at r ⊢; obtain ⟨a, c, h1, h2, h3, h5, h4⟩ := r
    exact ⟨a, c, h1, h2, h3, h5, fun hp => let ⟨B, o, g1, g2⟩ := h4 hp; ⟨B, o, g1, g2.mono h fun _ _ hv => h _ _ _ hv⟩⟩
  | .arr e L, X, _, r => by simp only [VRel] at r ⊢; obtain ⟨A, h1, h2, h3⟩ := r; exact ⟨A, h1, h2, h3.mono h fun _ _ hv => hv⟩
  | .iface t v, X, hf, r => by
    simp only [VRel] at r ⊢
    obtain ⟨Y, h1, h2⟩ := r
    exact ⟨Y, h1, VRel.bare h v Y (by simpa only [V.bare] using hf) h2⟩
  | .agg l, X, hf, r => by
    simp only [VRel] at r ⊢
    obtain ⟨Y, h1, h2⟩ := r
    exact ⟨Y, h1, LRel.bare h l _ (by simpa only [V.bare] using hf) h2⟩
  | .tup l, X, hf, r => by
    simp only [VRel] at r ⊢
    obtain ⟨Y, h1, h2⟩ := r
    exact ⟨Y, h1, LRel.bare h l _ (by simpa only [V.bare] using hf) h2⟩
  | .fn f a c, X, hf, r => by
    simp only [VRel] at r ⊢
    simp only [V.bare, Bool.and_eq_true] at hf
    obtain ⟨A, C, h1, h2, h3⟩ := r
    exact ⟨A, C, h1, LRel.bare h a _ hf.1 h2, LRel.bare h c _ hf.2 h3⟩
  | .any, _, hf, _ => by simp [V.bare] at hf
  | .ptr .., _, hf, _ => by simp [V.bare] at hf
  | .rptr .., _, hf, _ => by simp [V.bare] at hf
  | .sl .., _, hf, _ => by simp [V.bare] at hf
  | .rs .., _, hf, _ => by simp [V.bare] at hf
  | .map _, _, hf, _ => by simp [V.bare] at hf
  | .yld _, _, hf, _ => by simp [V.bare] at hf
theorem LRel.bare {ρ ρ' : Env} (h : subφ ρ.φ ρ'.φ) : ∀ (l : List V) (X : List Value), bareL l = true → LRel ρ l X → LRel ρ' l X
  | [], X, _, r => r
  | v :: l, X, hf, r => by
    simp only [bareL, Bool.and_eq_true] at hf
    obtain ⟨Y, Z, h1, h2, h3⟩ := r
    exact ⟨Y, Z, h1, VRel.bare h v Y hf.1 h2, LRel.bare h l Z hf.2 h3⟩
end

section
variable {P : Program} {own : Own} {ρ ρ' : Env} {s : St} {w : World}

theorem frz_id {v : V} (hb : v.bare = true) (h : subφ ρ.φ ρ'.φ) {X : Value} (hv : VRel ρ v X) : VRel ρ' v X := VRel.bare h v X hb hv
theorem rowsAt_get {b : Nat} {e : List Ty} {L : List (rowDen e)} (h : rowsAt s b = some ⟨e, L⟩) : ∃ t ish, s.heap.get b = some (.rows e L t ish) := by
  unfold Sym.rowsAt at h
  split at h
  · rename_i h1; cases h; exact ⟨_, _, h1⟩
  · cases h
theorem cellsAt_get {b : Nat} {cs : List V} (h : cellsAt s b = some cs) : ∃ t ish, s.heap.get b = some (.cells cs t ish) := by
  unfold Sym.cellsAt at h
  split at h
  · rename_i h1; cases h; exact ⟨_, _, h1⟩
  · cases h
theorem CRel_nil {φ : Nat → Nat → Option Value} (x : rowDen []) (C : Nat → Option Value) : CRel φ [] x C := by rw [CRel]; trivial
theorem CRel_one {φ : Nat → Nat → Option Value} {t : Ty} (x : rowDen [t]) {C : Nat → Option Value} {X : Value} (h : C 0 = some X) (h2 : TRel φ t x X) : CRel φ [t] x C := by rw [CRel]; exact ⟨X, h, h2⟩
theorem CRel_cons {φ : Nat → Nat → Option Value} {t u : Ty} {ts : List Ty} (x : rowDen (t :: u :: ts)) {C : Nat → Option Value} (h1 : ∃ X, C 0 = some X ∧ TRel φ t x.1 X) (h2 : CRel φ (u :: ts) x.2 (fun j => C (j + 1))) : CRel φ (t :: u :: ts) x C := by rw [CRel]; exact ⟨h1, h2⟩
theorem TRel_int {φ : Nat → Nat → Option Value} (k : IntKind) (n : (Ty.int k).den) : TRel φ (.int k) n (.int k n) := by rw [TRel]
theorem TRel_bool {φ : Nat → Nat → Option Value} (b : Ty.bool.den) : TRel φ .bool b (.bool b) := by rw [TRel]
theorem TRel_str {φ : Nat → Nat → Option Value} (b : Ty.str.den) : TRel φ .str b (.string b) := by rw [TRel]
theorem TRel_lstU {φ : Nat → Nat → Option Value} {e : List Ty} (L : (Ty.lst e).den) {a : Option Addr} {c : Nat} (h1 : List.length (α := rowDen e) L ≤ c) (h2 : a = none → c = 0) (h3 : 0 < List.length (α := rowDen e) L → ∃ B o, a = some ⟨B, o, none⟩ ∧ ∀ i, i < List.length (α := rowDen e) L → CRel φ e (rowAt e L i) (fun j => φ B (o + i * e.length + j))) : TRel φ (.lst e) L (.slice a (List.length (α := rowDen e) L) c) := by
  rw [TRel]; exact ⟨a, c, rfl, h1, h2, h3⟩
theorem frzC_rel (hS : SRel own ρ s w) (hφ : subφ ρ.φ ρ'.φ) (hc : ∀ (b : Nat) (x : Blk) o, s.heap.get b = some o → ρ b = some x → ∀ k u, w.cell? ⟨x.B, k, none⟩ = some u → ρ'.φ x.B k = some u) {v : V} {c : List Bool} {t : Ty} {x : t.den} {X : Value} (h : frzC s v = some (c, ⟨t, x⟩)) (ha : allB c) (r : VRel ρ v X) : TRel ρ'.φ t x X := by
  unfold frzC at h
  split at h
  · cases h; simp only [VRel] at r; subst r; exact TRel_int _ _
  · cases h; simp only [VRel] at r; subst r; exact TRel_bool _
  · cases h; simp only [VRel] at r; subst r; exact TRel_str _
  · cases h
    simp only [VRel] at r
    obtain ⟨a, c', rfl, h2, h3, h5, h4⟩ := r
    refine TRel_lstU _ h2 h5 fun hp => ?_
    obtain ⟨B, o, g1, g2⟩ := h4 hp
    refine ⟨B, o, g1, fun i hi => ?_⟩
    refine CRel.mono (fun _ _ _ hv => hφ _ _ _ hv) _ _ (fun j u hu => ?_) (g2 i hi)
    rw [Nat.add_assoc]
    exact hφ _ _ _ hu
  · rename_i b lo len cap xx es
    split at h
    · rename_i e L hL
      cases hb : Nat.beq es e.length with
      | false => rw [hb] at h; cases h
      | true =>
      rw [hb, cond_true] at h
      have hb := Nat.eq_of_beq_eq_true hb
      subst hb
      cases h
      have hle : lo + len ≤ L.length := by simpa using ha.1
      have hl := seg_length hle
      simp only [VRel] at r
      obtain ⟨a, c', rfl, h2, h3, h4, h5, h6⟩ := r
      have hX : Value.slice a len c' = .slice a (List.length (α := rowDen e) (seg L lo len)) c' := by rw [hl]
      rw [hX]
      refine TRel_lstU (e := e) (seg L lo len) (by rw [hl]; omega) (fun hh => h5 hh) fun hp => ?_
      rw [hl] at hp
      obtain ⟨B, O, S, g1, g2, g3⟩ := h6 (by omega)
      obtain ⟨t0, ish0, hg⟩ := rowsAt_get hL
      have hr := rows_seg hle (hS.rowsAt hL g1).1
      refine ⟨B, _, g2, fun i hi => ?_⟩
      refine CRel.mono (fun _ _ _ hv => hφ _ _ _ hv) _ _ (fun j u hu => ?_) (hr i hi)
      have := hc b _ _ hg g1 _ _ hu
      simp only at this
      rw [← this]
      congr 1
      omega
    · cases h
  · cases h
theorem consR_rel {φ : Nat → Nat → Option Value} {t : Ty} {x : t.den} {X : Value} (hx : TRel φ t x X) : ∀ {e : List Ty} {y : rowDen e} {C : Nat → Option Value}, C 0 = some X → CRel φ e y (fun j => C (j + 1)) → CRel φ (consR t x e y).1 (consR t x e y).2 C
  | [], _, C, h0, _ => CRel_one x h0 hx
  | u :: ts, y, C, h0, hy => CRel_cons (t := t) (u := u) (ts := ts) (x, y) ⟨X, h0, hx⟩ hy
theorem consR_len {t : Ty} {x : t.den} : ∀ {e : List Ty} {y : rowDen e}, (consR t x e y).1.length = e.length + 1
  | [], _ => rfl
  | _ :: _, _ => rfl
theorem frzR_rel (hS : SRel own ρ s w) (hφ : subφ ρ.φ ρ'.φ) (hc : ∀ (b : Nat) (x : Blk) o, s.heap.get b = some o → ρ b = some x → ∀ k u, w.cell? ⟨x.B, k, none⟩ = some u → ρ'.φ x.B k = some u) : ∀ (l : List V) (c : List Bool) (e : (e : List Ty) × rowDen e), frzR s l = some (c, e) → allB c → ∀ {C : Nat → Option Value},
    (∀ (i : Nat) (v : V), l[i]? = some v → ∃ W, C i = some W ∧ VRel ρ v W) → CRel ρ'.φ e.1 e.2 C
  | [], c, e, h, _, C, _ => by
    rw [frzR.eq_def] at h
    cases h
    exact CRel_nil () _
  | v :: l, c, e, h, ha, C, hC => by
    rw [frzR.eq_def] at h
    simp only at h
    split at h
    · rename_i c1 t x c2 e2 y2 h1 h2
      cases h
      rw [allB_append] at ha
      obtain ⟨W, g1, g2⟩ := hC 0 v rfl
      exact consR_rel (frzC_rel hS hφ hc h1 ha.1 g2) g1 (frzR_rel hS hφ hc l _ _ h2 ha.2 fun i v' hi => hC (i + 1) v' (by simpa using hi))
    · cases h
mutual
theorem frzV_rel (hS : SRel own ρ s w) (hφ : subφ ρ.φ ρ'.φ) (hc : ∀ (b : Nat) (x : Blk) o, s.heap.get b = some o → ρ b = some x → ∀ k u, w.cell? ⟨x.B, k, none⟩ = some u → ρ'.φ x.B k = some u) : ∀ (v : V) (c : List Bool) (v' : V) (X : Value), frzV s v = some (c, v') → allB c → VRel ρ v X → VRel ρ' v' X
  | .rs b lo len cap x es, c, v', X, h, ha, r => by
    rw [frzV.eq_def] at h
    simp only at h
    split at h
    · rename_i e L hL
      cases hb : Nat.beq es e.length with
      | false => rw [hb] at h; cases h
      | true =>
      rw [hb, cond_true] at h
      have hb := Nat.eq_of_beq_eq_true hb
      subst hb
      cases h
      have hle : lo + len ≤ L.length := by simpa using ha.1
      simp only [VRel] at r ⊢
      obtain ⟨a, c', h1, h2, h3, h4, h5, h6⟩ := r
      have hl := seg_length hle
      refine ⟨a, c', by rw [hl]; exact h1, by rw [hl]; omega, fun hh => (by cases hh), h5, fun hp => ?_⟩
      rw [hl] at hp
      obtain ⟨B, O, S, g1, g2, g3⟩ := h6 (by omega)
      have hr := rows_seg hle (hS.rowsAt hL g1).1
      refine ⟨B, _, g2, hr.mono (fun _ _ _ hv => hφ _ _ _ hv) fun j u hu => ?_⟩
      rw [Nat.add_assoc]
      exact hc b _ _ (rowsAt_get hL).choose_spec.choose_spec g1 _ _ hu
    · cases h
  | .iface t v, c, v', X, h, ha, r => by
    rw [frzV.eq_def] at h
    simp only at h
    split at h
    · rename_i c1 v1 hv
      cases h
      simp only [VRel] at r ⊢
      obtain ⟨Y, h1, h2⟩ := r
      exact ⟨Y, h1, frzV_rel hS hφ hc v _ _ Y hv ha h2⟩
    · cases h
  | .agg l, c, v', X, h, ha, r => by
    rw [frzV.eq_def] at h
    simp only at h
    split at h
    · rename_i c1 v1 hv
      cases h
      simp only [VRel] at r ⊢
      obtain ⟨Y, h1, h2⟩ := r
      exact ⟨Y, h1, frzL_rel hS hφ hc l _ _ _ hv ha h2⟩
    · cases h
  | .tup l, c, v', X, h, ha, r => by
    rw [frzV.eq_def] at h
    simp only at h
    split at h
    · rename_i c1 v1 hv
      cases h
      simp only [VRel] at r ⊢
      obtain ⟨Y, h1, h2⟩ := r
      exact ⟨Y, h1, frzL_rel hS hφ hc l _ _ _ hv ha h2⟩
    · cases h
  | .undef, c, v', X, h, _, r => by rw [frzV.eq_def] at h; cases h; exact frz_id rfl hφ r
  | .bool _, c, v', X, h, _, r => by rw [frzV.eq_def] at h; cases h; exact frz_id rfl hφ r
  | .int .., c, v', X, h, _, r => by rw [frzV.eq_def] at h; cases h; exact frz_id rfl hφ r
  | .str _, c, v', X, h, _, r => by rw [frzV.eq_def] at h; cases h; exact frz_id rfl hφ r
  | .nilp, c, v', X, h, _, r => by rw [frzV.eq_def] at h; cases h; exact frz_id rfl hφ r
  | .nils, c, v', X, h, _, r => by rw [frzV.eq_def] at h; cases h; exact frz_id rfl hφ r
  | .nilm, c, v', X, h, _, r => by rw [frzV.eq_def] at h; cases h; exact frz_id rfl hφ r
  | .nilf, c, v', X, h, _, r => by rw [frzV.eq_def] at h; cases h; exact frz_id rfl hφ r
  | .nili, c, v', X, h, _, r => by rw [frzV.eq_def] at h; cases h; exact frz_id rfl hφ r
  | .lptr .., c, v', X, h, _, r => by rw [frzV.eq_def] at h; cases h; exact frz_id rfl hφ r
  | .lst .., c, v', X, h, _, r => by rw [frzV.eq_def] at h; cases h; exact frz_id rfl hφ r
  | .arr .., c, v', X, h, _, r => by rw [frzV.eq_def] at h; cases h; exact frz_id rfl hφ r
  | .fn f a d, c, v', X, h, _, r => by
    rw [frzV.eq_def] at h
    simp only at h
    cases hb : (bareL a && bareL d) with
    | false => rw [hb] at h; cases h
    | true => rw [hb] at h; cases h; exact frz_id (by simpa only [V.bare] using hb) hφ r
  | .any, c, v', X, h, _, _ => by rw [frzV.eq_def] at h; cases h
  | .ptr b o, c, v', X, h, ha, r => by
    rw [frzV.eq_def] at h
    simp only at h
    split at h
    · split at h
      · rename_i cs hcs
        split at h
        · rename_i c1 e x hf
          cases h
          simp only [VRel] at r ⊢
          obtain ⟨B, O, S, hB, rfl⟩ := r
          obtain ⟨t0, ish0, hg⟩ := cellsAt_get hcs
          obtain ⟨_, C, t1, fr, e1, e2, e3, e4, _⟩ := hS.obj b _ _ hg hB
          refine ⟨B, O, by simp, fun i hi => ?_⟩
          have hi0 : i = 0 := by simp only [List.length_singleton] at hi; omega
          subst hi0
          show CRel ρ'.φ e x (fun j => ρ'.φ B (O + (0 * e.length + j)))
          refine frzR_rel (ρ' := ρ') hS hφ hc cs _ ⟨e, x⟩ hf ha fun i v hi => ?_
          obtain ⟨W, g1, g2⟩ := e4 i v hi
          refine ⟨W, ?_, g2⟩
          have := hc b _ _ hg hB (O + i) W (by simp [World.cell?, e1, g1])
          rw [← this]
          simp
        · cases h
      · cases h
    · cases h
  | .rptr .., c, v', X, h, _, _ => by rw [frzV.eq_def] at h; cases h
  | .sl .., c, v', X, h, _, _ => by rw [frzV.eq_def] at h; cases h
  | .map _, c, v', X, h, _, _ => by rw [frzV.eq_def] at h; cases h
  | .yld _, c, v', X, h, _, _ => by rw [frzV.eq_def] at h; cases h
theorem frzL_rel (hS : SRel own ρ s w) (hφ : subφ ρ.φ ρ'.φ) (hc : ∀ (b : Nat) (x : Blk) o, s.heap.get b = some o → ρ b = some x → ∀ k u, w.cell? ⟨x.B, k, none⟩ = some u → ρ'.φ x.B k = some u) : ∀ (l : List V) (c : List Bool) (l' : List V) (X : List Value), frzL s l = some (c, l') → allB c → LRel ρ l X → LRel ρ' l' X
  | [], c, l', X, h, _, r => by rw [frzL.eq_def] at h; cases h; exact r
  | v :: l, c, l', X, h, ha, r => by
    rw [frzL.eq_def] at h
    simp only at h
    split at h
    · rename_i c1 v1 c2 l2 h1 h2
      cases h
      rw [allB_append] at ha
      obtain ⟨Y, Z, g1, g2, g3⟩ := r
      exact ⟨Y, Z, g1, frzV_rel hS hφ hc v _ _ Y h1 ha.1 g2, frzL_rel hS hφ hc l _ _ Z h2 ha.2 g3⟩
    · cases h
end

abbrev Tab := FuncId → List V → Option (List Bool × V)
def TabOK (P : Program) (tab : Tab) : Prop := ∀ g args c v, tab g args = some (c, v) → allB c → PureAt P g args v
noncomputable section
def tabAt (tab : Tab) (t : ETgt) (s : St) : Option (List Bool × V) :=
  match t with
  | .fn g args => (match bareL args with
    | true => tab g args
    | false => (match frzL s args with
      | some (c, args') => (match tab g args' with
        | some (c', v) => bif v.flat then some (c ++ c', v) else none
        | none => none)
      | none => none))
  | .round _ _ => none
def knW (tab : Tab) : KnW := fun t s => match tabAt tab t s with
  | some (c, v) => some fun k => needsR c (k (.ret v) s)
  | none => none
def knE (tab : Tab) : ESelf := fun t s => match tabAt tab t s with
  | some (c, v) => bif allb c then some (.ret v, s) else none
  | none => none
end
theorem kn_ad (tab : Tab) : AdK (knW tab) (knE tab) := by
  intro t s r hr k hk
  unfold knW at hr
  unfold knE
  split at hr
  · rename_i c v hc
    cases hr
    obtain ⟨h1, h2⟩ := needs_b hk
    exact ⟨_, _, by simp only [h1, cond_true], h2⟩
  · cases hr
theorem kn_no (tab : Tab) : NoK (knW tab) (knE tab) := by
  intro t s h
  unfold knW at h
  unfold knE
  split at h
  · cases h
  · rfl

theorem SRel.grow (h : SRel own ρ s w) {w' : World} (hb : Below w.heap.size w w') {φ' : Nat → Nat → Option Value} (h1 : subφ ρ.φ φ') (h2 : ∀ B k, B < w.heap.size → φ' B k = ρ.φ B k) (h3 : FzW φ' w') :
    ρ.le ⟨ρ.f, ρ.n, φ'⟩ ∧ SRel own ⟨ρ.f, ρ.n, φ'⟩ s w' ∧ Fr own w w' := by
  have hle : ρ.le ⟨ρ.f, ρ.n, φ'⟩ := ⟨⟨fun _ _ e => e, h1⟩, Nat.le_refl _, fun _ _ e => e⟩
  have hown : ∀ k, ¬ own k → k < w.heap.size := fun k hk => Nat.lt_of_not_le fun hh => hk (h.le k hh)
  refine ⟨hle, ⟨fun B hB => h.le B (Nat.le_trans hb.size hB), fun b o x hg hx => ?_, h.inj, h.dom, h.top, h3, fun B k hB => ?_⟩, ⟨hb.os, hb.tape, hb.output, hb.size, fun k hk => hb.block k (hown k hk)⟩⟩
  · obtain ⟨⟨q1, q2⟩, q3⟩ := h.obj b o x hg hx
    have hlt := h.lt hg hx
    refine ⟨⟨q1, fun k => by rw [show (⟨ρ.f, ρ.n, φ'⟩ : Env).φ x.B k = φ' x.B k from rfl, h2 _ _ hlt]; exact q2 k⟩, ?_⟩
    rw [hb.block _ hlt]
    exact q3.mono hle
  · rw [show (⟨ρ.f, ρ.n, φ'⟩ : Env).φ B k = φ' B k from rfl, h2 _ _ (hown B hB)]
    exact h.old B k hB

theorem kn_ok {tab : Tab} (ht : TabOK P tab) : SelfOK P (knE tab) := by
  intro t s e s' hk own ρ w hS n
  unfold knE at hk
  split at hk
  · rename_i c v hc
    cases hcc : allb c with
    | false => rw [hcc] at hk; cases hk
    | true =>
    rw [hcc, cond_true] at hk
    cases hk
    have hcc := (allb_iff c).1 hcc
    cases t with
    | round l args => cases hc
    | fn g args =>
      intro A hA
      simp only [tabAt] at hc
      split at hc
      · rename_i hb
        have hp := ht g args c v hc hcc ρ.φ w A hS.fz (LRel.bare (ρ := ρ) (ρ' := envφ ρ.φ) (fun _ _ _ h => h) args _ hb hA)
        refine callsIn_wide.2 (hp.mono ?_)
        rintro E w' ⟨φ', X, rfl, h1, h2, h3, h4, h5⟩
        obtain ⟨g1, g2, g3⟩ := hS.grow h5 h1 h2 h3
        exact ⟨_, g1, ⟨X, rfl, VRel.up (ρ := envφ φ') (ρ' := ⟨ρ.f, ρ.n, φ'⟩) ⟨fun _ _ h => (by cases h), fun _ _ _ h => h⟩ v X h4⟩, g2, g3⟩
      · split at hc
        · rename_i c1 args' hf
          split at hc
          · rename_i c2 v2 h2
            cases hfl : v2.flat with
            | false => rw [hfl] at hc; cases hc
            | true =>
            rw [hfl, cond_true] at hc
            cases hc
            rw [allB_append] at hcc
            let φ1 : Nat → Nat → Option Value := fun B k => w.cell? ⟨B, k, none⟩
            have hA' : LRel (envφ φ1) args' A.toList := frzL_rel (ρ' := envφ φ1) hS (fun B k u hu => hS.fz B k u hu) (fun b x o _ _ k u hu => hu) args c1 args' _ hf hcc.1 hA
            have hp := ht g args' c2 v h2 hcc.2 φ1 w A (fun _ _ _ h => h) hA'
            refine callsIn_wide.2 (hp.mono ?_)
            rintro E w' ⟨φ', X, rfl, h1, h2, h3, h4, h5⟩
            obtain ⟨g1, g2, g3⟩ := hS.grow h5 (φ' := ρ.φ) (fun _ _ _ h => h) (fun _ _ _ => rfl) (fun B k u hu => by
              have hc := hS.fz B k u hu
              have hlt : B < w.heap.size := Nat.lt_of_not_le fun hh => by simp [World.cell?, Array.getElem?_eq_none hh] at hc
              rw [cell_of_block (h := h5.block B hlt)]
              exact hc)
            exact ⟨_, g1, ⟨X, rfl, VRel.flat v X hfl h4⟩, g2, g3⟩
          · cases hc
        · cases hc
  · cases hk

noncomputable def s0 : St := ⟨.leaf, 0⟩
theorem s0_rel (φ : Nat → Nat → Option Value) (w : World) (h : FzW φ w) : SRel ⟨fun B => w.heap.size ≤ B, φ⟩ (envφ φ) s0 w where
  le := fun B hB => hB
  obj := fun b o x hb _ => by rw [show s0.heap.get b = none from T.get_leaf b] at hb; cases hb
  inj := fun b b' o o' x x' hb _ _ _ => by rw [show s0.heap.get b = none from T.get_leaf b] at hb; cases hb
  dom := fun b x hx => by cases hx
  top := Nat.le_refl _
  fz := h
  old := fun _ _ _ => rfl
def RetW (v : V) : KS := fun e s' => match e with
  | .ret v' => (match frzV s' v' with
    | some (c, u) => needsR c (u = v)
    | none => False)
  | .pan _ => False
theorem pure_of_run {tab : Tab} (ht : TabOK P tab) {self : ESelf} (hs : SelfOK P self) {fuel : Nat} {lp : LpF} {g : FuncId} {args : List V} (hlp : ∀ fn c n, P.funcs[g]? = some fn → fn.body = some c → LpOK P none none n 0 lp c) {e : EEnd} {s' : St} {v : V}
    (h : runFnL P self fuel lp g args s0 = some (e, s')) (hr : RetW v e s') : PureAt P g args v := by
  intro φ w A hφ hA
  have := fnL_sound hs fuel lp g args s0 hlp e s' h ⟨fun B => w.heap.size ≤ B, φ⟩ (envφ φ) w (s0_rel φ w hφ) 0 A hA
  refine (callsIn_wide.1 this).mono ?_
  rintro E w' ⟨ρ', h1, h2, h3, h4⟩
  cases e with
  | pan v' => exact hr.elim
  | ret v' =>
    obtain ⟨X, rfl, hX⟩ := h2
    simp only [RetW] at hr
    split at hr
    · rename_i c u hf
      obtain ⟨hc, rfl⟩ := (needsR_iff _ _).1 hr
      refine ⟨fun B k => if B < w.heap.size then φ B k else w'.cell? ⟨B, k, none⟩, X, rfl, fun B k u hu => ?_, fun B k hB => by simp only [hB, if_true], fun B k u hu => ?_, ?_, ?_⟩
      · have hc := hφ B k u hu
        have hlt : B < w.heap.size := Nat.lt_of_not_le fun hh => by simp [World.cell?, Array.getElem?_eq_none hh] at hc
        simp only [hlt, if_true]; exact hu
      · simp only at hu
        split at hu
        · exact h3.fz B k u (h1.sub.2 _ _ _ hu)
        · exact hu
      · refine frzV_rel (ρ' := envφ _) h3 (fun B k u hu => ?_) (fun b x o hL hx k u hu => ?_) v' c u X hf hc hX
        · show (if B < w.heap.size then φ B k else w'.cell? ⟨B, k, none⟩) = some u
          split
          · rename_i hB
            have := h3.old B k (Nat.not_le.2 hB)
            rw [← hu, this]
          · exact h3.fz B k u hu
        · show (if x.B < w.heap.size then φ x.B k else w'.cell? ⟨x.B, k, none⟩) = some u
          have hown : w.heap.size ≤ x.B := (h3.obj b o x hL hx).1.1
          rw [if_neg (Nat.not_lt.2 hown)]
          exact hu
      · exact ⟨h4.os, h4.tape, h4.output, h4.size, fun k hk => h4.block k (Nat.not_le.2 hk)⟩
    · exact hr.elim
theorem pure_of_W {tab : Tab} (ht : TabOK P tab) {fuel d : Nat} {lw : LpW} {lp : LpF} (hl : AdL lw lp) {g : FuncId} {args : List V} (hlp : ∀ fn c n, P.funcs[g]? = some fn → fn.body = some c → LpOK P none none n 0 lp c) {v : V}
    (h : fnLW P (callW P (knW tab) fuel d) fuel lw g args s0 (RetW v)) : PureAt P g args v := by
  obtain ⟨e, s', h1, h2⟩ := fnLW_ad (callW_ad (kn_ad tab) (kn_no tab) fuel d) fuel hl g args s0 _ h
  exact pure_of_run ht (call_sound (kn_ok ht) fuel d) hlp h1 h2
theorem pure_of_W0 {tab : Tab} (ht : TabOK P tab) {fuel d : Nat} {g : FuncId} {args : List V} {v : V} (h : fnLW P (callW P (knW tab) fuel d) fuel noLpW g args s0 (RetW v)) : PureAt P g args v :=
  pure_of_W ht noLp_ad (fun _ c _ _ _ => noLp_ok c) h

def noTab : Tab := fun _ _ => none
theorem noTab_ok : TabOK P noTab := fun _ _ _ _ h => by cases h
def orTab (a b : Tab) : Tab := fun g args => match a g args with
  | some r => some r
  | none => b g args
theorem orTab_ok {a b : Tab} (ha : TabOK P a) (hb : TabOK P b) : TabOK P (orTab a b) := by
  intro g args c v h
  unfold orTab at h
  split at h
  · rename_i r hr; cases h; exact ha g args c v hr
  · exact hb g args c v h
def oneTab (f : FuncId) (F : List V → Option (List Bool × V)) (b : Tab) : Tab := fun g args => bif Nat.beq g f then F args else b g args
theorem oneTab_ok {f : FuncId} {F : List V → Option (List Bool × V)} {b : Tab} (hF : ∀ args c v, F args = some (c, v) → allB c → PureAt P f args v) (hb : TabOK P b) : TabOK P (oneTab f F b) := by
  intro g args c v h
  unfold oneTab at h
  cases hg : Nat.beq g f with
  | true => rw [hg, cond_true] at h; rw [Nat.eq_of_beq_eq_true hg]; exact hF args c v h
  | false => rw [hg, cond_false] at h; exact hb g args c v h

theorem pure_true {g : FuncId} {args : List V} (h : PureAt P g args (.bool true)) (w : World) (A : Array Value) (hA : LRel (envφ fun B k => w.cell? ⟨B, k, none⟩) args A.toList) :
    Calls P g A w fun E w' => E = .returned (.bool true) ∧ Below w.heap.size w w' := by
  refine (h _ w A (fun _ _ _ h => h) hA).mono ?_
  rintro E w' ⟨φ', X, rfl, _, _, _, h4, h5⟩
  have h4 : X = .bool true := by simpa only [VRel] using h4
  exact ⟨by rw [h4], h5⟩
end

theorem sEq_self (a : ByteArray) : sEq a a = true := decide_eq_true rfl
theorem eqOK_i {P : Program} {t : TypeId} (h : eqOK0 P t = true) : eqOK P t = true := (eqOK_eq P t).trans h
theorem V.same_t {v w : V} (h : v = w) : v.same w = true := by rw [h]; exact V.same_self w
theorem andB_i {b : Bool} {q : Prop} (h : b = true) (k : q) : @Bool.rec (fun _ => Prop) False q b := (andB_iff _ _).2 ⟨h, k⟩
theorem iteB_t {b : Bool} {p q : Prop} (h : b = true) (k : p) : @Bool.rec (fun _ => Prop) q p b := (iteB_iff _ _ _).2 ⟨fun _ => k, fun e => by rw [h] at e; cases e⟩
theorem iteB_f {b : Bool} {p q : Prop} (h : b = false) (k : q) : @Bool.rec (fun _ => Prop) q p b := (iteB_iff _ _ _).2 ⟨fun e => (by rw [h] at e; cases e), fun _ => k⟩
theorem iteB_n {b : Bool} {p q : Prop} (k : @Bool.rec (fun _ => Prop) p q b) : @Bool.rec (fun _ => Prop) q p (!b) := by cases b <;> exact k
theorem iteB_s {b : Bool} {p q : Prop} (h : b = true → p) (k : b = false → q) : @Bool.rec (fun _ => Prop) q p b := (iteB_iff _ _ _).2 ⟨h, k⟩
theorem andB_lt {a b : Int} {q : Prop} (h : a < b) (k : q) : @Bool.rec (fun _ => Prop) False q (ltI a b) := andB_i (by rw [ltI_eq]; exact decide_eq_true h) k
theorem andB_le {a b : Int} {q : Prop} (h : a ≤ b) (k : q) : @Bool.rec (fun _ => Prop) False q (leI a b) := andB_i (by rw [leI_eq]; exact decide_eq_true h) k
theorem andB_in {n : Int} {q : Prop} (h : -9223372036854775808 ≤ n ∧ n ≤ 9223372036854775807) (k : q) : @Bool.rec (fun _ => Prop) False q (inI n) := andB_i (by rw [inI_eq]; exact decide_eq_true h) k
theorem iteB_ltt {a b : Int} {p q : Prop} (h : a < b) (k : p) : @Bool.rec (fun _ => Prop) q p (ltI a b) := iteB_t (by rw [ltI_eq]; exact decide_eq_true h) k
theorem iteB_ltf {a b : Int} {p q : Prop} (h : ¬ a < b) (k : q) : @Bool.rec (fun _ => Prop) q p (ltI a b) := iteB_f (by rw [ltI_eq]; exact decide_eq_false h) k
theorem iteB_lts {a b : Int} {p q : Prop} (h : a < b → p) (k : ¬ a < b → q) : @Bool.rec (fun _ => Prop) q p (ltI a b) := iteB_s (fun e => h (by rw [ltI_eq] at e; exact of_decide_eq_true e)) (fun e => k (by rw [ltI_eq] at e; exact of_decide_eq_false e))
theorem iteB_let {a b : Int} {p q : Prop} (h : a ≤ b) (k : p) : @Bool.rec (fun _ => Prop) q p (leI a b) := iteB_t (by rw [leI_eq]; exact decide_eq_true h) k
theorem iteB_lef {a b : Int} {p q : Prop} (h : ¬ a ≤ b) (k : q) : @Bool.rec (fun _ => Prop) q p (leI a b) := iteB_f (by rw [leI_eq]; exact decide_eq_false h) k
theorem iteB_les {a b : Int} {p q : Prop} (h : a ≤ b → p) (k : ¬ a ≤ b → q) : @Bool.rec (fun _ => Prop) q p (leI a b) := iteB_s (fun e => h (by rw [leI_eq] at e; exact of_decide_eq_true e)) (fun e => k (by rw [leI_eq] at e; exact of_decide_eq_false e))
theorem andB_d {p : Prop} [Decidable p] {q : Prop} (h : p) (k : q) : @Bool.rec (fun _ => Prop) False q (decide p) := andB_i (decide_eq_true h) k
theorem iteB_dt {c : Prop} [Decidable c] {p q : Prop} (h : c) (k : p) : @Bool.rec (fun _ => Prop) q p (decide c) := iteB_t (decide_eq_true h) k
theorem iteB_df {c : Prop} [Decidable c] {p q : Prop} (h : ¬ c) (k : q) : @Bool.rec (fun _ => Prop) q p (decide c) := iteB_f (decide_eq_false h) k
theorem iteB_ds {c : Prop} [Decidable c] {p q : Prop} (h : c → p) (k : ¬ c → q) : @Bool.rec (fun _ => Prop) q p (decide c) := iteB_s (fun e => h (of_decide_eq_true e)) (fun e => k (of_decide_eq_false e))
end Go.Sym
end

section
namespace Go.Sym
set_option linter.unusedSimpArgs false
set_option linter.unusedVariables false

structure CD where
  n : Nat
  l : List (Nat × V)
  ds : List EDef
  h : List (Nat × EObj)
  next : Nat
noncomputable def CD.cfg (c : CD) : Cfg := ⟨⟨c.n, setsB c.n (repB .any (hOf c.n)) c.l⟩, c.ds, ⟨heapOf c.h, c.next⟩⟩
def slotsF (l : List (Nat × V)) : Nat → Nat → List V
  | 0, _ => []
  | n + 1, i => slotD .any i l :: slotsF l n (i + 1)
def slots (n : Nat) (l : List (Nat × V)) : List V := slotsF l n 0
theorem slotsF_get (l : List (Nat × V)) : ∀ (n j i : Nat), i < n → (slotsF l n j).getD i .undef = slotD .any (j + i) l
  | 0, _, _, h => by omega
  | n + 1, j, 0, _ => rfl
  | n + 1, j, i + 1, h => by
    have := slotsF_get l n (j + 1) i (by omega)
    rw [show j + (i + 1) = j + 1 + i by omega, ← this]
    rfl
def CD.wk (k : Nat) (m : List (Nat × Nat)) (c : CD) (c1 : Cfg) : Prop := wkP k m c1 c.n (slots c.n c.l) c.ds c.h c.next
theorem CD.wk_ok {k : Nat} {m : List (Nat × Nat)} {c : CD} {c1 : Cfg} (h : c.wk k m c1) : Wk k c1 c.cfg := by
  have hw := wkP_ok h
  obtain ⟨h1, _⟩ := guardB_b h
  simp only [Bool.and_eq_true, Nat.ble_eq] at h1
  have h4096 : c.n ≤ 4096 := h1.2.2.2.2
  have hd := hOf_le h4096
  intro own ρ0 ρ A w hk hle hr
  obtain ⟨ρ', g1, g2⟩ := hw own ρ0 ρ A w hk hle hr
  refine ⟨ρ', g1, ⟨?_, g2.d, g2.s⟩⟩
  obtain ⟨f1, d, f2, f3, f4⟩ := g2.f
  refine ⟨f1, hOf c.n, setsB_full (repB_full _ _) _, hd, fun i X hi => ?_⟩
  have hlt : i < c.n := by
    have : c.n = A.tmps.size := f1
    have := (Array.getElem?_eq_some_iff.1 hi).1
    omega
  have := f4 i X hi
  have e : (mkFrm c.n (slots c.n c.l)).t.get i = slotD .any i c.l := by
    show (B.ofList .undef (hOf c.n) (slots c.n c.l)).get i = _
    rw [B.ofList_get _ _ _ _ (by omega), slots, slotsF_get _ _ _ _ hlt, Nat.zero_add]
  show VRel ρ' ((setsB c.n (repB .any (hOf c.n)) c.l).get i) X
  rw [setsB_get hd _ _ hlt, ← e]
  exact this
def cfgK (c : CD) (k : Cfg → Prop) : Prop := frmK c.n .any c.l fun f => forceS ⟨heapOf c.h, c.next⟩ fun s => k ⟨f, c.ds, s⟩
theorem cfgK_iff (c : CD) (k : Cfg → Prop) : cfgK c k ↔ k c.cfg := by rw [cfgK, frmK_iff, forceS_iff]; exact Iff.rfl
def idm : List (Nat × EObj) → List (Nat × Nat)
  | [] => []
  | e :: l => (e.1, e.1) :: idm l

inductive OD where
  | leaf (e : EExit) (c : CD)
  | ite (b : Bool) (l r : OD)
noncomputable def OD.ot : OD → OT
  | .leaf e c => .leaf e c.cfg
  | .ite b l r => .ite b l.ot r.ot
def OD.w (K : KC) : OD → Prop
  | .leaf e c => cfgK c fun c => K e c
  | .ite b l r => iteB b (l.w K) (r.w K)
theorem OD.w_den {K : KC} : ∀ {o : OD}, o.w K → K o.ot.den.1 o.ot.den.2
  | .leaf e c, h => (cfgK_iff _ _).1 h
  | .ite b l r, h => by
    cases b
    · exact OD.w_den (o := r) h
    · exact OD.w_den (o := l) h
theorem CD.wk_as {k : Nat} {c : CD} {c1 : Cfg} (h : c.wk k (idm c.h) c1) : ∃ m, c.wk k m c1 := ⟨_, h⟩
def exitIs (e e0 : EExit) : Prop :=
  match e0 with
  | .exit i0 => (match e with
    | .exit i => guardB (Nat.beq i i0) True
    | _ => False)
  | .ret => (match e with
    | .ret => True
    | _ => False)
  | .pan v0 => (match e with
    | .pan v => v = v0 ∧ guardB v0.flat True
    | _ => False)
  | .normal => False
def OD.hit (k : Nat) (e : EExit) (c1 : Cfg) : OD → Prop
  | .leaf e0 c0 => exitIs e e0 ∧ ∃ m, c0.wk k m c1
  | .ite b l r => iteB b (l.hit k e c1) (r.hit k e c1)
def notNormal : EExit → Bool
  | .normal => false
  | _ => true
def RoundW {X : Type} (k : Nat) (cd : X → CD) (μ : X → Nat) (out : X → OD) (x : X) : KC := fun e c1 => match notNormal e with
  | false => ∃ x', μ x' < μ x ∧ out x' = out x ∧ ∃ m, (cd x').wk k m c1
  | true => (out x).hit k e c1
theorem OD.hit_den {k : Nat} {e : EExit} {c1 : Cfg} : ∀ {o : OD}, notNormal e = true → o.hit k e c1 → match e with
    | .normal => False
    | .exit id => o.ot.den.1 = .exit id ∧ Wk k c1 o.ot.den.2
    | .ret => o.ot.den.1 = .ret ∧ Wk k c1 o.ot.den.2
    | .pan v => o.ot.den.1 = .pan v ∧ v.flat = true ∧ Wk k c1 o.ot.den.2
  | .leaf e0 c0, hn, h => by
    obtain ⟨h1, m, h2⟩ := h
    have hw := CD.wk_ok h2
    cases e0 <;> cases e <;> simp only [exitIs] at h1 <;> simp only [OD.ot, OT.den]
    · obtain ⟨a, _⟩ := guardB_b h1
      have := Nat.eq_of_beq_eq_true a
      subst this
      exact ⟨rfl, hw⟩
    · exact ⟨trivial, hw⟩
    · obtain ⟨a, b⟩ := h1
      subst a
      exact ⟨rfl, (guardB_b b).1, hw⟩
  | .ite b l r, hn, h => by
    simp only [OD.hit] at h
    have h := (iteB_iff _ _ _).1 h
    cases b
    · exact OD.hit_den (o := r) hn (h.2 rfl)
    · exact OD.hit_den (o := l) hn (h.1 rfl)

section
variable {P : Program} {tab : Tab}
theorem loop_W (ht : TabOK P tab) {fuel d n k : Nat} {b : Code} {X : Type} (cd : X → CD) (μ : X → Nat) (out : X → OD) (lw : X → LpW) (lp : X → LpF) (hl : ∀ x, AdL (lw x) (lp x)) (hlb : ∀ x, LpOK P none none n k (lp x) b)
    (h : ∀ x, cfgK (cd x) fun c => compW P (callW P (knW tab) fuel d) fuel none (lw x) b c (RoundW k cd μ out x)) (x : X) : CodeAt P none none n k (.loop b) (cd x).cfg (out x).ot.den.1 (out x).ot.den.2 :=
  loop_at (fun x => (cd x).cfg) μ (fun x => (out x).ot.den) (fun x => codeL_sound (call_sound (kn_ok ht) fuel d) fuel (lp x) b (hlb x)) (fun x => by
    obtain ⟨e, c1, h1, h2⟩ := compW_ad (callW_ad (kn_ad tab) (kn_no tab) fuel d) fuel none (hl x) b _ _ ((cfgK_iff _ _).1 (h x))
    refine ⟨e, c1, h1, ?_⟩
    unfold RoundW at h2
    cases hn : notNormal e with
    | false =>
      rw [hn] at h2
      cases e <;> simp [notNormal] at hn
      obtain ⟨x', g1, g2, m, g3⟩ := h2
      exact ⟨x', g1, CD.wk_ok g3, congrArg (fun o => o.ot.den) g2⟩
    | true =>
      rw [hn] at h2
      have := OD.hit_den hn h2
      cases e with
      | normal => exact this.elim
      | exit id => exact this
      | ret => exact this
      | pan v => exact this) x

def sameR (r : Nat) : Option Nat → Bool
  | some i => Nat.beq i r
  | none => false
noncomputable def loopsIn (r : Nat) : Code → List Code
  | .loop b => bif sameR r (firstR b) then b :: loopsIn r b else loopsIn r b
  | .seq a b => loopsIn r a ++ loopsIn r b
  | .cond _ a b => loopsIn r a ++ loopsIn r b
  | .block _ b => loopsIn r b
  | .scope b => loopsIn r b
  | _ => []
noncomputable def bodyOf (P : Program) (g : FuncId) : Code := match P.funcs[g]? with
  | some fn => (match fn.body with
    | some c => c
    | none => .skip)
  | none => .skip
def headC : List Code → Code
  | [] => .skip
  | b :: _ => b
noncomputable def bodyAt (P : Program) (g : FuncId) (r : Nat) : Code := headC (loopsIn r (bodyOf P g))

structure LpD where
  r : Nat
  m : List (Nat × Nat)
  c : CD
  o : OD
noncomputable def LpD.w (k : Nat) (l : LpD) : CW := fun c K => l.c.wk k l.m c ∧ l.o.w K
noncomputable def LpD.f (k : Nat) (l : LpD) : Cfg → Option (EExit × Cfg) := cutF k l.c.cfg l.o.ot
noncomputable def lpsW (k : Nat) : List LpD → LpW
  | [] => fun _ => none
  | l :: ls => fun id => bif Nat.beq l.r id then some (l.w k) else lpsW k ls id
noncomputable def lpsF (k : Nat) : List LpD → LpF
  | [] => fun _ => none
  | l :: ls => fun id => bif Nat.beq l.r id then some (l.f k) else lpsF k ls id
theorem lps_ad (k : Nat) : ∀ ls : List LpD, AdL (lpsW k ls) (lpsF k ls)
  | [] => fun _ => rfl
  | l :: ls => fun id => by
    simp only [lpsW, lpsF]
    cases Nat.beq l.r id with
    | true => exact ⟨_, rfl, fun c K hk => ⟨_, _, by unfold LpD.f cutF; rw [if_pos (CD.wk_ok hk.1)], OD.w_den hk.2⟩⟩
    | false => exact lps_ad k ls id
theorem lpsF_mem {k : Nat} : ∀ {ls : List LpD} {id : Nat} {F : Cfg → Option (EExit × Cfg)}, lpsF k ls id = some F → ∃ l ∈ ls, l.r = id ∧ F = l.f k
  | [], id, F, h => by cases h
  | l :: ls, id, F, h => by
    simp only [lpsF] at h
    cases hb : Nat.beq l.r id with
    | true => rw [hb, cond_true] at h; cases h; exact ⟨l, List.mem_cons_self, Nat.eq_of_beq_eq_true hb, rfl⟩
    | false =>
      rw [hb, cond_false] at h
      obtain ⟨l', h1, h2⟩ := lpsF_mem h
      exact ⟨l', List.mem_cons_of_mem _ h1, h2⟩
theorem loopsIn_sub : ∀ {c : Code} {ro rr : Option Nat} {n k : Nat} {lp : LpF}, (∀ id F, lp id = some F → ∀ b ∈ loopsIn id c, CodeOK P ro rr n k (.loop b) F) → LpOK P ro rr n k lp c
  | .loop b, ro, rr, n, k, lp, h => by
    refine ⟨fun id F h1 h2 => h id F h2 b ?_, loopsIn_sub fun id F h2 b' hb' => h id F h2 b' ?_⟩
    · simp [loopsIn, h1, sameR]
    · simp only [loopsIn]
      cases sameR id (firstR b)
      · exact hb'
      · exact List.mem_cons_of_mem _ hb'
  | .seq a b, ro, rr, n, k, lp, h => ⟨loopsIn_sub fun id F h2 b' hb' => h id F h2 b' (List.mem_append_left _ hb'), loopsIn_sub fun id F h2 b' hb' => h id F h2 b' (List.mem_append_right _ hb')⟩
  | .cond _ a b, ro, rr, n, k, lp, h => ⟨loopsIn_sub fun id F h2 b' hb' => h id F h2 b' (List.mem_append_left _ hb'), loopsIn_sub fun id F h2 b' hb' => h id F h2 b' (List.mem_append_right _ hb')⟩
  | .block _ b, ro, rr, n, k, lp, h => loopsIn_sub (c := b) fun id F h2 b' hb' => h id F h2 b' (by simpa only [loopsIn] using hb')
  | .scope b, ro, rr, n, k, lp, h => loopsIn_sub (c := b) fun id F h2 b' hb' => h id F h2 b' (by simpa only [loopsIn] using hb')
  | .skip, _, _, _, _, _, _ => trivial
  | .label _, _, _, _, _, _, _ => trivial
  | .ret, _, _, _, _, _, _ => trivial
  | .exit _, _, _, _, _, _, _ => trivial
  | .goto _, _, _, _, _, _, _ => trivial
  | .refuse _, _, _, _, _, _, _ => trivial
  | .region .., _, _, _, _, _, _ => trivial
  | .rangeFunc .., _, _, _, _, _, _ => trivial
def LpD.ok (P : Program) (n k : Nat) (c : Code) (l : LpD) : Prop := ∀ b ∈ loopsIn l.r c, CodeAt P none none n k (.loop b) l.c.cfg l.o.ot.den.1 l.o.ot.den.2
theorem lps_ok {n k : Nat} {c : Code} {ls : List LpD} (h : ∀ l ∈ ls, l.ok P n k c) : LpOK P none none n k (lpsF k ls) c :=
  loopsIn_sub fun id F hF b hb => by
    obtain ⟨l, h1, rfl, rfl⟩ := lpsF_mem hF
    exact cutF_ok (h l h1 b hb)
theorem LpD.ok_one {n k : Nat} {c b : Code} {l : LpD} (hb : loopsIn l.r c = [b]) (h : CodeAt P none none n k (.loop b) l.c.cfg l.o.ot.den.1 l.o.ot.den.2) : l.ok P n k c := by
  intro b' hb'
  rw [hb] at hb'
  rw [List.mem_singleton.1 hb']
  exact h
theorem pure_of_loops (ht : TabOK P tab) {fuel d : Nat} {g : FuncId} {args : List V} {v : V} (ls : List LpD) (hls : ∀ n, ∀ l ∈ ls, l.ok P n 0 (bodyOf P g))
    (h : fnLW P (callW P (knW tab) fuel d) fuel (lpsW 0 ls) g args s0 (RetW v)) : PureAt P g args v :=
  pure_of_W ht (lps_ad 0 ls) (fun fn c n hf hc => by
    have hb : bodyOf P g = c := by simp only [bodyOf, hf, hc]
    rw [← hb]
    exact lps_ok (hls n)) h
theorem pure_of_loop (ht : TabOK P tab) {fuel d : Nat} {g : FuncId} {args : List V} {v : V} (r : Nat) {X : Type} (cd : X → CD) (μ : X → Nat) (out : X → OD) (x0 : X) (m : List (Nat × Nat)) (hr : loopsIn r (bodyOf P g) = [bodyAt P g r])
    (hround : ∀ x, cfgK (cd x) fun c => compW P (callW P (knW tab) fuel d) fuel none noLpW (bodyAt P g r) c (RoundW 0 cd μ out x))
    (h : fnLW P (callW P (knW tab) fuel d) fuel (lpsW 0 [⟨r, m, cd x0, out x0⟩]) g args s0 (RetW v)) : PureAt P g args v :=
  pure_of_loops ht _ (fun n l hl => by
    rw [List.mem_singleton.1 hl]
    exact LpD.ok_one hr (loop_W ht cd μ out (fun _ => noLpW) (fun _ => noLp) (fun _ => noLp_ad) (fun _ => noLp_ok _) hround x0)) h
end
end Go.Sym
end

section
namespace Go.Sym

theorem rowAt_lt {e : List Ty} {L : List (rowDen e)} {i : Nat} (h : i < L.length) : rowAt e L i = L[i] := by
  unfold rowAt
  rw [List.getD_eq_getElem?_getD, List.getElem?_eq_getElem h]
  rfl
theorem all_row {e : List Ty} {L : List (rowDen e)} {f : rowDen e → Bool} (h : L.all f = true) {k : Nat} (hk : k < L.length) : f (rowAt e L k) = true := by
  rw [rowAt_lt hk]
  exact List.all_eq_true.1 h _ (List.getElem_mem hk)
theorem all_rows {e : List Ty} {L : List (rowDen e)} {f : rowDen e → Bool} (h : ∀ i, i < L.length → f (rowAt e L i) = true) : L.all f = true := by
  rw [List.all_eq_true]
  intro x hx
  obtain ⟨i, hi, rfl⟩ := List.mem_iff_getElem.1 hx
  have := h i hi
  rwa [rowAt_lt hi] at this
theorem findIdx_row {e : List Ty} {L : List (rowDen e)} {f : rowDen e → Bool} {k : Nat} (hk : k < L.length) (h : ∀ i, i < k → f (rowAt e L i) = false) (h' : f (rowAt e L k) = true) : L.findIdx f = k := by
  rw [List.findIdx_eq hk]
  refine ⟨by rwa [rowAt_lt hk] at h', fun j hj => ?_⟩
  have := h j hj
  rwa [rowAt_lt (by omega)] at this
theorem size0 : ByteArray.size ⟨#[]⟩ = 0 := rfl
theorem lt_succ_cases {P : Nat → Prop} {k : Nat} (h : ∀ i, i < k → P i) (hk : P k) : ∀ i, i < k + 1 → P i := fun i hi => by
  rcases Nat.lt_succ_iff_lt_or_eq.1 hi with h' | rfl
  · exact h i h'
  · exact hk
theorem wrap_i64 {n : Int} (h : -9223372036854775808 ≤ n) (h' : n < 9223372036854775808) : IntKind.i64.wrap n = n := by
  simp only [IntKind.wrap, IntKind.bits, IntKind.signed, Bool.true_and, decide_eq_true_eq, ge_iff_le]; split <;> omega
theorem wrap_i32 {n : Int} (h : -2147483648 ≤ n) (h' : n < 2147483648) : IntKind.i32.wrap n = n := by
  simp only [IntKind.wrap, IntKind.bits, IntKind.signed, Bool.true_and, decide_eq_true_eq, ge_iff_le]; split <;> omega
theorem wrap_u64 {n : Int} (h : 0 ≤ n) (h' : n < 18446744073709551616) : IntKind.u64.wrap n = n := by
  simp only [IntKind.wrap, IntKind.bits, IntKind.signed, Bool.false_and, Bool.false_eq_true, if_false]; omega
theorem wrap_u32 {n : Int} (h : 0 ≤ n) (h' : n < 4294967296) : IntKind.u32.wrap n = n := by
  simp only [IntKind.wrap, IntKind.bits, IntKind.signed, Bool.false_and, Bool.false_eq_true, if_false]; omega
theorem wrap_u16 {n : Int} (h : 0 ≤ n) (h' : n < 65536) : IntKind.u16.wrap n = n := by
  simp only [IntKind.wrap, IntKind.bits, IntKind.signed, Bool.false_and, Bool.false_eq_true, if_false]; omega
theorem wrap_u8 {n : Int} (h : 0 ≤ n) (h' : n < 256) : IntKind.u8.wrap n = n := by
  simp only [IntKind.wrap, IntKind.bits, IntKind.signed, Bool.false_and, Bool.false_eq_true, if_false]; omega
theorem PureAt.weak {P : Program} {g : FuncId} {args args' : List V} {v : V} (h : PureAt P g args v) (hw : ∀ (φ : Nat → Nat → Option Value) (X : List Value), LRel (envφ φ) args' X → LRel (envφ φ) args X) : PureAt P g args' v :=
  fun φ w A hφ hA => h φ w A hφ (hw φ _ hA)
theorem asL_eq {e e' : List Ty} {L : List (rowDen e')} {M : List (rowDen e)} (h : asL e e' L = some M) : ∃ q : e' = e, M = castL q L := by
  unfold asL at h
  split at h
  · exact ⟨_, (Option.some.inj h).symm⟩
  · cases h
theorem ofLst_rel {ρ : Env} {e : List Ty} {a : V} {L : List (rowDen e)} (h : ofLst e a = some L) {X : Value} (hX : VRel ρ a X) : VRel ρ (.lst e L false) X := by
  unfold ofLst at h
  split at h
  · obtain ⟨q, rfl⟩ := asL_eq h
    subst q
    simp only [VRel] at hX ⊢
    obtain ⟨a, c, h1, h2, h3, h4, h5⟩ := hX
    exact ⟨a, c, h1, h2, fun h => (by cases h), h4, h5⟩
  · cases h
    simp only [VRel] at hX ⊢
    exact ⟨none, 0, hX, Nat.le_refl _, fun h => (by cases h), fun _ => rfl, fun h => absurd h (Nat.lt_irrefl _)⟩
  · cases h
theorem PureAt.lst {P : Program} {g : FuncId} {e : List Ty} {a : V} {L : List (rowDen e)} {pre rest : List V} {v : V} (h : PureAt P g (pre ++ .lst e L false :: rest) v) (ha : ofLst e a = some L) : PureAt P g (pre ++ a :: rest) v := by
  refine h.weak fun φ => ?_
  clear h
  induction pre with
  | nil =>
    rintro X ⟨x, Y, rfl, h1, h2⟩
    exact ⟨x, Y, rfl, ofLst_rel ha h1, h2⟩
  | cons b pre ih =>
    rintro X ⟨x, Y, rfl, h1, h2⟩
    exact ⟨x, Y, rfl, h1, ih Y h2⟩
theorem PureAt.lst0 {P : Program} {g : FuncId} {e : List Ty} {a : V} {L : List (rowDen e)} {rest : List V} {v : V} (h : PureAt P g (.lst e L false :: rest) v) (ha : ofLst e a = some L) : PureAt P g (a :: rest) v := PureAt.lst (pre := []) h ha
theorem allB1 {b : Bool} (h : allB [b]) : b = true := h.1
theorem seg_one {α : Type} (x : α) : seg [x] 0 1 = [x] := rfl
theorem seg_all {α : Type} (L : List α) {n : Nat} (h : L.length = n) : seg L 0 n = L := by subst h; simp [seg]
theorem castL_self {e : List Ty} (h : e = e) (L : List (rowDen e)) : castL h L = L := rfl
end Go.Sym
end

section
namespace Go.Sym
set_option linter.unusedSimpArgs false
set_option linter.unusedVariables false

abbrev LpsF := FuncId → Nat → LpF
abbrev LpsW := FuncId → Nat → LpW
noncomputable section
variable (P : Program)
def runTL (self : ESelf) (fuel : Nat) (lpf : LpsF) : ESelf := fun t s => match t with
  | .fn f args => runFnL P self fuel (lpf f s.next) f args s
  | .round l args => runRound P self fuel l args s
def tgtLW (self : SW) (fuel : Nat) (lpw : LpsW) : SW := fun t s k => match t with
  | .fn f args => fnLW P self fuel (lpw f s.next) f args s k
  | .round l args => roundW P self fuel l args s k
def callLE (known : ESelf) (fuel : Nat) (lpf : LpsF) (d : Nat) : ESelf :=
  @Nat.rec (fun _ => ESelf) (fun _ _ => none) (fun _ ih t s => match known t s with
    | some r => some r
    | none => runTL P ih fuel lpf t s) d
def callLW (known : KnW) (fuel : Nat) (lpw : LpsW) (d : Nat) : SW :=
  @Nat.rec (fun _ => SW) (fun _ _ _ => False) (fun _ ih t s k => match known t s with
    | some r => r k
    | none => tgtLW P ih fuel lpw t s k) d
end
section
variable {P : Program}
theorem callL_sound {known : ESelf} (hk : SelfOK P known) (fuel : Nat) {lpf : LpsF} (hl : ∀ g k fn c n, P.funcs[g]? = some fn → fn.body = some c → LpOK P none none n k (lpf g k) c) : ∀ d, SelfOK P (callLE P known fuel lpf d)
  | 0 => fun t s e s' h => by
    have h : none = some (e, s') := h
    cases h
  | d + 1 => fun t s e s' h own ρ w hS n => by
    have h : (match known t s with
      | some r => some r
      | none => runTL P (callLE P known fuel lpf d) fuel lpf t s) = some (e, s') := h
    split at h
    · rename_i r hr
      cases h
      exact hk t s e s' hr own ρ w hS n
    · cases t with
      | fn g args => exact fun A hA => fnL_sound (callL_sound hk fuel hl d) fuel (lpf g s.next) g args s (fun fn c n hf hc => hl g s.next fn c n hf hc) e s' h own ρ w hS n A hA
      | round l args => exact fun x L A hx hL hA _ => round_sound (callL_sound hk fuel hl d) fuel l args s e s' h own ρ w hS n x L A hx hL hA
theorem callLW_ad {kw : KnW} {known : ESelf} (hk : AdK kw known) (hn : NoK kw known) (fuel : Nat) {lpw : LpsW} {lpf : LpsF} (hl : ∀ g k, AdL (lpw g k) (lpf g k)) : ∀ d, AdS (callLW P kw fuel lpw d) (callLE P known fuel lpf d)
  | 0 => fun t s k h => h.elim
  | d + 1 => fun t s k h => by
    have h : (match kw t s with
      | some r => r k
      | none => tgtLW P (callLW P kw fuel lpw d) fuel lpw t s k) := h
    have e : callLE P known fuel lpf (d + 1) t s = (match known t s with
      | some r => some r
      | none => runTL P (callLE P known fuel lpf d) fuel lpf t s) := rfl
    rw [e]
    split at h
    · rename_i r hr
      obtain ⟨e, s', h1, h2⟩ := hk t s r hr k h
      exact ⟨e, s', by rw [h1], h2⟩
    · rename_i hr
      rw [hn t s hr]
      cases t with
      | fn f args => exact fnLW_ad (callLW_ad hk hn fuel hl d) fuel (hl f s.next) f args s k h
      | round l args => exact roundW_ad (callLW_ad hk hn fuel hl d) fuel l args s k h

structure GL where
  f : FuncId
  k : Nat
  l : LpD
def selG (f k : Nat) : List GL → List LpD
  | [] => []
  | g :: gs => bif Nat.beq g.f f && Nat.beq g.k k then g.l :: selG f k gs else selG f k gs
theorem selG_mem {f k : Nat} {l : LpD} : ∀ {gs : List GL}, l ∈ selG f k gs → ∃ g ∈ gs, g.f = f ∧ g.k = k ∧ g.l = l
  | [], h => by cases h
  | g :: gs, h => by
    rw [selG] at h
    cases hb : (Nat.beq g.f f && Nat.beq g.k k) with
    | true =>
      rw [hb, cond_true] at h
      rw [Bool.and_eq_true, Nat.beq_eq, Nat.beq_eq] at hb
      rcases List.mem_cons.1 h with h | h
      · exact ⟨g, List.mem_cons_self, hb.1, hb.2, h.symm⟩
      · obtain ⟨g', h1, h2⟩ := selG_mem h
        exact ⟨g', List.mem_cons_of_mem _ h1, h2⟩
    | false =>
      rw [hb, cond_false] at h
      obtain ⟨g', h1, h2⟩ := selG_mem h
      exact ⟨g', List.mem_cons_of_mem _ h1, h2⟩
noncomputable def glW (gs : List GL) : LpsW := fun f k => lpsW k (selG f k gs)
noncomputable def glF (gs : List GL) : LpsF := fun f k => lpsF k (selG f k gs)
def GLok (P : Program) (gs : List GL) : Prop := ∀ g ∈ gs, ∀ n, g.l.ok P n g.k (bodyOf P g.f)
theorem gl_ok {gs : List GL} (h : GLok P gs) : ∀ g k fn c n, P.funcs[g]? = some fn → fn.body = some c → LpOK P none none n k (glF gs g k) c := by
  intro g k fn c n hf hc
  have hb : bodyOf P g = c := by simp only [bodyOf, hf, hc]
  rw [← hb]
  refine lps_ok fun l hl => ?_
  obtain ⟨g', h1, rfl, rfl, rfl⟩ := selG_mem hl
  exact h g' h1 n
theorem glW_ad (gs : List GL) : ∀ g k, AdL (glW gs g k) (glF gs g k) := fun g k => lps_ad k _

variable {tab : Tab}
theorem loop_G (ht : TabOK P tab) {fuel d n k : Nat} {b : Code} {X : Type} (cd : X → CD) (μ : X → Nat) (out : X → OD) (gs : X → List GL) (hg : ∀ x, GLok P (gs x)) (ls : X → List LpD) (hls : ∀ x, ∀ l ∈ ls x, l.ok P n k b)
    (h : ∀ x, cfgK (cd x) fun c => compW P (callLW P (knW tab) fuel (glW (gs x)) d) fuel none (lpsW k (ls x)) b c (RoundW k cd μ out x)) (x : X) : CodeAt P none none n k (.loop b) (cd x).cfg (out x).ot.den.1 (out x).ot.den.2 :=
  loop_at (fun x => (cd x).cfg) μ (fun x => (out x).ot.den) (fun x => codeL_sound (callL_sound (kn_ok ht) fuel (gl_ok (hg x)) d) fuel (lpsF k (ls x)) b (lps_ok (hls x))) (fun x => by
    obtain ⟨e, c1, h1, h2⟩ := compW_ad (callLW_ad (kn_ad tab) (kn_no tab) fuel (glW_ad (gs x)) d) fuel none (lps_ad k (ls x)) b _ _ ((cfgK_iff _ _).1 (h x))
    refine ⟨e, c1, h1, ?_⟩
    unfold RoundW at h2
    cases hn : notNormal e with
    | false =>
      rw [hn] at h2
      cases e <;> simp [notNormal] at hn
      obtain ⟨x', g1, g2, m, g3⟩ := h2
      exact ⟨x', g1, CD.wk_ok g3, congrArg (fun o => o.ot.den) g2⟩
    | true =>
      rw [hn] at h2
      have := OD.hit_den hn h2
      cases e with
      | normal => exact this.elim
      | exit id => exact this
      | ret => exact this
      | pan v => exact this) x
theorem pure_of_G (ht : TabOK P tab) {fuel d : Nat} {g : FuncId} {args : List V} {v : V} (gs : List GL) (hg : GLok P gs) (ls : List LpD) (hls : ∀ n, ∀ l ∈ ls, l.ok P n 0 (bodyOf P g))
    (h : fnLW P (callLW P (knW tab) fuel (glW gs) d) fuel (lpsW 0 ls) g args s0 (RetW v)) : PureAt P g args v := by
  obtain ⟨e, s', h1, h2⟩ := fnLW_ad (callLW_ad (kn_ad tab) (kn_no tab) fuel (glW_ad gs) d) fuel (lps_ad 0 ls) g args s0 _ h
  exact pure_of_run ht (callL_sound (kn_ok ht) fuel (gl_ok hg) d) (fun fn c n hf hc => by
    have hb : bodyOf P g = c := by simp only [bodyOf, hf, hc]
    rw [← hb]
    exact lps_ok (hls n)) h1 h2
theorem pure_of_calls {g : FuncId} {args : List V} {v : V} {A : Array Value} {X : Value} (ha : ∀ φ Y, LRel (envφ φ) args Y → Y = A.toList) (hv : ∀ φ, VRel (envφ φ) v X)
    (h : ∀ w, Calls P g A w fun e w' => e = .returned X ∧ Go.RowKit.Below w.heap.size w w') : PureAt P g args v := by
  intro φ w A' hφ hA
  have e : A' = A := Array.ext' (ha φ _ hA)
  subst e
  refine (h w).mono ?_
  rintro E w' ⟨rfl, hB⟩
  refine ⟨φ, X, rfl, fun _ _ _ h => h, fun _ _ _ => rfl, fun B k u hu => ?_, hv φ, hB⟩
  have hc := hφ B k u hu
  have hlt : B < w.heap.size := Nat.lt_of_not_le fun hh => by simp [World.cell?, Array.getElem?_eq_none hh] at hc
  rw [cell_of_block (h := hB.block B hlt)]
  exact hc
end
end Go.Sym
end

section
namespace Go.Sym
open Go.RowKit (Below)
set_option linter.unusedSimpArgs false
set_option linter.unusedVariables false

noncomputable def sOne (cs : List V) (t : TypeId) (ish : Bool) : St := ⟨T.set T.leaf 0 (some (.cells cs t ish)), 1⟩
def MethAt (P : Program) (g : FuncId) (cs args : List V) (v : V) (cs' : List V) : Prop := ∀ (t : TypeId) (ish : Bool) (own : Own) (ρ : Env) (w : World) (A : Array Value) (x : Blk), SRel own ρ (sOne cs t ish) w → ρ 0 = some x → LRel ρ (.ptr 0 0 :: args) A.toList →
  Calls P g A w fun E w' => ∃ X, E = .returned X ∧ VRel ρ v X ∧ Fr own w w' ∧ ORel ρ x.O x.S w'.heap[x.B]? (.cells cs' t ish)

theorem ORel.cells_flat {ρ ρ' : Env} {O S : Nat} {X : Option Obj} {cs : List V} {t : TypeId} {ish : Bool} (hf : flatL cs = true) (h : ORel ρ O S X (.cells cs t ish)) : ORel ρ' O S X (.cells cs t ish) := by
  obtain ⟨C, t', fr, h1, h2, h3, h4, h5⟩ := h
  refine ⟨C, t', fr, h1, h2, h3, fun i v hi => ?_, h5⟩
  obtain ⟨W, g1, g2⟩ := h4 i v hi
  refine ⟨W, g1, VRel.flat v W ?_ g2⟩
  have : ∀ (l : List V) (i : Nat), flatL l = true → l[i]? = some v → v.flat = true := by
    intro l
    induction l with
    | nil => intro i _ h; simp at h
    | cons a l ih =>
      intro i hl h
      simp only [flatL, Bool.and_eq_true] at hl
      cases i with
      | zero => simp at h; subst h; exact hl.1
      | succ i => simp at h; exact ih i hl.2 h
  exact this cs i hf hi
theorem ORel.cells_bare {ρ ρ' : Env} (hφ : subφ ρ.φ ρ'.φ) {O S : Nat} {X : Option Obj} {cs : List V} {t : TypeId} {ish : Bool} (hf : bareL cs = true) (h : ORel ρ O S X (.cells cs t ish)) : ORel ρ' O S X (.cells cs t ish) := by
  obtain ⟨C, t', fr, h1, h2, h3, h4, h5⟩ := h
  refine ⟨C, t', fr, h1, h2, h3, fun i v hi => ?_, h5⟩
  obtain ⟨W, g1, g2⟩ := h4 i v hi
  refine ⟨W, g1, VRel.bare hφ v W ?_ g2⟩
  have : ∀ (l : List V) (i : Nat), bareL l = true → l[i]? = some v → v.bare = true := by
    intro l
    induction l with
    | nil => intro i _ h; simp at h
    | cons a l ih =>
      intro i hl h
      simp only [bareL, Bool.and_eq_true] at hl
      cases i with
      | zero => simp at h; subst h; exact hl.1
      | succ i => simp at h; exact ih i hl.2 h
  exact this cs i hf hi

abbrev MTab := FuncId → List V → List V → Option (List Bool × V × List V)
def MTabOK (P : Program) (mt : MTab) : Prop := ∀ g cs args c v cs', mt g cs args = some (c, v, cs') → allB c → MethAt P g cs args v cs'
noncomputable section
def mtAt (mt : MTab) (t : ETgt) (s : St) : Option (List Bool × V × Nat × EObj) :=
  match t with
  | .fn g (.ptr b o :: args) => (match Nat.beq o 0 && bareL args with
    | true => (match s.heap.get b with
      | some (.cells cs ty ish) => (match bareL cs with
        | true => (match mt g cs args with
          | some (c, v, cs') => bif v.flat && flatL cs' then some (c, v, b, .cells cs' ty ish) else none
          | none => none)
        | false => none)
      | _ => none)
    | false => none)
  | _ => none
def knMW (mt : MTab) (tab : Tab) : KnW := fun t s => match mtAt mt t s with
  | some (c, v, b, o) => some fun k => needsR c (forceS (s.upd b o) fun s => k (.ret v) s)
  | none => knW tab t s
def knME (mt : MTab) (tab : Tab) : ESelf := fun t s => match mtAt mt t s with
  | some (c, v, b, o) => bif allb c then some (.ret v, s.upd b o) else none
  | none => knE tab t s
end
theorem knM_ad (mt : MTab) (tab : Tab) : AdK (knMW mt tab) (knME mt tab) := by
  intro t s r hr k hk
  unfold knMW at hr
  unfold knME
  split at hr
  · rename_i c v b o hc
    cases hr
    obtain ⟨h1, h2⟩ := needs_b hk
    rw [forceS_iff] at h2
    exact ⟨_, _, by simp only [h1, cond_true], h2⟩
  · exact kn_ad tab t s r hr k hk
theorem knM_no (mt : MTab) (tab : Tab) : NoK (knMW mt tab) (knME mt tab) := by
  intro t s h
  unfold knMW at h
  unfold knME
  split at h
  · cases h
  · exact kn_no tab t s h

section
variable {P : Program}
theorem sOne_get {cs : List V} {t : TypeId} {ish : Bool} {b : Nat} {o : EObj} (h : (sOne cs t ish).heap.get b = some o) : b = 0 ∧ o = .cells cs t ish := by
  have h : T.get (T.set T.leaf 0 (some (.cells cs t ish))) b = some o := h
  rw [T.get_set] at h
  split at h
  · rename_i e; cases h; exact ⟨e, rfl⟩
  · rw [T.get_leaf] at h; cases h
theorem knM_ok {mt : MTab} {tab : Tab} (hm : MTabOK P mt) (ht : TabOK P tab) : SelfOK P (knME mt tab) := by
  intro t s e s' hk own ρ w hS n
  unfold knME at hk
  split at hk
  · rename_i c v b o hc
    cases hcc : allb c with
    | false => rw [hcc] at hk; cases hk
    | true =>
    rw [hcc, cond_true] at hk
    cases hk
    have hcc := (allb_iff c).1 hcc
    cases t with
    | round l args => cases hc
    | fn g args =>
      intro A hA
      unfold mtAt at hc
      split at hc
      · rename_i g' b' o' args' heq
        cases heq
        split at hc
        · rename_i hb
          rw [Bool.and_eq_true] at hb
          obtain ⟨hb1, hb2⟩ := hb
          have hb1 := Nat.eq_of_beq_eq_true hb1
          subst hb1
          split at hc
          · rename_i cs ty ish hg
            split at hc
            · rename_i hbc
              split at hc
              · rename_i c1 v1 cs1 hmt
                cases hfl : (v1.flat && flatL cs1) with
                | false => rw [hfl] at hc; cases hc
                | true =>
                rw [hfl, cond_true] at hc
                cases hc
                rw [Bool.and_eq_true] at hfl
                obtain ⟨X0, Y0, hAe, hp, hrest⟩ := hA
                simp only [VRel] at hp
                obtain ⟨B, O, S, hρ, rfl⟩ := hp
                obtain ⟨⟨hown, hφ0⟩, hobj⟩ := hS.obj b _ _ hg hρ
                have hlt := hS.lt hg hρ
                let ρ1 : Env := ⟨fun k => if k = 0 then some ⟨B, O, S⟩ else none, 1, ρ.φ⟩
                let own1 : Own := ⟨fun k => k = B ∨ w.heap.size ≤ k, ρ.φ⟩
                have hS1 : SRel own1 ρ1 (sOne cs ty ish) w := by
                  refine ⟨fun k hk => .inr hk, fun b' o' x' hb' hx' => ?_, fun b1 b2 o1 o2 x1 x2 h1 h2 _ _ hne => ?_, fun b' x' hx' => ?_, Nat.le_refl _, hS.fz, fun _ _ _ => rfl⟩
                  · obtain ⟨rfl, rfl⟩ := sOne_get hb'
                    have : (some ⟨B, O, S⟩ : Option Blk) = some x' := hx'
                    cases this
                    exact ⟨⟨.inl rfl, hφ0⟩, ORel.cells_bare (ρ := ρ) (ρ' := ρ1) (fun _ _ _ h => h) hbc hobj⟩
                  · obtain ⟨rfl, _⟩ := sOne_get h1
                    obtain ⟨rfl, _⟩ := sOne_get h2
                    exact absurd rfl hne
                  · have hx' : (if b' = 0 then some (⟨B, O, S⟩ : Blk) else none) = some x' := hx'
                    split at hx'
                    · rename_i e; subst e; exact Nat.zero_lt_one
                    · cases hx'
                have hA1 : LRel ρ1 (.ptr 0 0 :: args') A.toList := ⟨_, _, hAe, ⟨B, O, S, rfl, rfl⟩, LRel.bare (ρ := ρ) (ρ' := ρ1) (fun _ _ _ h => h) args' _ hb2 hrest⟩
                have hp := hm g cs args' c v cs1 hmt hcc ty ish own1 ρ1 w A ⟨B, O, S⟩ hS1 rfl hA1
                refine callsIn_wide.2 (hp.mono ?_)
                rintro E w' ⟨X, rfl, h2, h3, h4⟩
                have hblk : ∀ k, k ≠ B → k < w.heap.size → w'.heap[k]? = w.heap[k]? := fun k h1 h2 => h3.block k fun h => by
                  have h : k = B ∨ w.heap.size ≤ k := h
                  omega
                refine ⟨ρ, Env.le_refl ρ, ⟨X, rfl, VRel.flat v X hfl.1 h2⟩, ⟨fun k hk => hS.le k (Nat.le_trans h3.size hk), fun b' o' x' hb' hx' => ?_, fun b1 b2 o1 o2 x1 x2 g1 g2 y1 y2 hne => ?_, hS.dom, hS.top, fun B' k u hu => ?_, hS.old⟩, ⟨h3.os, h3.tape, h3.output, h3.size, fun k hk => ?_⟩⟩
                · simp only [St.upd, T.get_set] at hb'
                  split at hb'
                  · rename_i e; subst e
                    cases hb'
                    have hx' : ρ b' = some x' := hx'
                    rw [hρ] at hx'
                    cases hx'
                    exact ⟨⟨hown, hφ0⟩, ORel.cells_flat hfl.2 h4⟩
                  · rename_i hne
                    obtain ⟨q1, q2⟩ := hS.obj b' o' x' hb' hx'
                    refine ⟨q1, ?_⟩
                    rw [hblk _ (hS.inj b' b _ _ _ _ hb' hg hx' hρ hne) (hS.lt hb' hx')]
                    exact q2
                · have hget : ∀ b' o', (s.upd b (.cells cs1 ty ish)).heap.get b' = some o' → ∃ o'', s.heap.get b' = some o'' := fun b' o' hb' => by
                    simp only [St.upd, T.get_set] at hb'
                    split at hb'
                    · rename_i e; subst e; exact ⟨_, hg⟩
                    · exact ⟨_, hb'⟩
                  obtain ⟨_, q1⟩ := hget _ _ g1
                  obtain ⟨_, q2⟩ := hget _ _ g2
                  exact hS.inj b1 b2 _ _ x1 x2 q1 q2 y1 y2 hne
                · have hc := hS.fz B' k u hu
                  have hlt : B' < w.heap.size := Nat.lt_of_not_le fun hh => by simp [World.cell?, Array.getElem?_eq_none hh] at hc
                  have hne : B' ≠ B := fun e => by subst e; rw [hφ0] at hu; cases hu
                  rw [cell_of_block (hblk _ hne hlt)]
                  exact hc
                · exact hblk k (fun e => hk (by subst e; exact hown)) (Nat.lt_of_not_le fun h => hk (hS.le k h))
              · cases hc
            · cases hc
          · cases hc
        · cases hc
      · cases hc
  · exact kn_ok ht t s e s' hk own ρ w hS n

theorem pure_of_K {kw : KnW} {known : ESelf} (hk : SelfOK P known) (ha : AdK kw known) (hn : NoK kw known) {fuel d : Nat} {g : FuncId} {args : List V} {v : V} (ls : List LpD) (hls : ∀ n, ∀ l ∈ ls, l.ok P n 0 (bodyOf P g))
    (h : fnLW P (callW P kw fuel d) fuel (lpsW 0 ls) g args s0 (RetW v)) : PureAt P g args v := by
  obtain ⟨e, s', h1, h2⟩ := fnLW_ad (callW_ad ha hn fuel d) fuel (lps_ad 0 ls) g args s0 _ h
  exact pure_of_run (tab := noTab) noTab_ok (call_sound hk fuel d) (fun fn c n hf hc => by
    have hb : bodyOf P g = c := by simp only [bodyOf, hf, hc]
    rw [← hb]
    exact lps_ok (hls n)) h1 h2
theorem pure_of_M {mt : MTab} {tab : Tab} (hm : MTabOK P mt) (ht : TabOK P tab) {fuel d : Nat} {g : FuncId} {args : List V} {v : V} (h : fnLW P (callW P (knMW mt tab) fuel d) fuel noLpW g args s0 (RetW v)) : PureAt P g args v := by
  obtain ⟨e, s', h1, h2⟩ := fnLW_ad (callW_ad (knM_ad mt tab) (knM_no mt tab) fuel d) fuel noLp_ad g args s0 _ h
  exact pure_of_run (tab := noTab) noTab_ok (call_sound (knM_ok hm ht) fuel d) (fun _ c _ _ _ => noLp_ok c) h1 h2
theorem loop_K {kw : KnW} {known : ESelf} (hk : SelfOK P known) (ha : AdK kw known) (hn : NoK kw known) {fuel d n k : Nat} {b : Code} {X : Type} (cd : X → CD) (μ : X → Nat) (out : X → OD) (ls : X → List LpD) (hls : ∀ x, ∀ l ∈ ls x, l.ok P n k b)
    (h : ∀ x, cfgK (cd x) fun c => compW P (callW P kw fuel d) fuel none (lpsW k (ls x)) b c (RoundW k cd μ out x)) (x : X) : CodeAt P none none n k (.loop b) (cd x).cfg (out x).ot.den.1 (out x).ot.den.2 :=
  loop_at (fun x => (cd x).cfg) μ (fun x => (out x).ot.den) (fun x => codeL_sound (call_sound hk fuel d) fuel (lpsF k (ls x)) b (lps_ok (hls x))) (fun x => by
    obtain ⟨e, c1, h1, h2⟩ := compW_ad (callW_ad ha hn fuel d) fuel none (lps_ad k (ls x)) b _ _ ((cfgK_iff _ _).1 (h x))
    refine ⟨e, c1, h1, ?_⟩
    unfold RoundW at h2
    cases hn : notNormal e with
    | false =>
      rw [hn] at h2
      cases e <;> simp [notNormal] at hn
      obtain ⟨x', g1, g2, m, g3⟩ := h2
      exact ⟨x', g1, CD.wk_ok g3, congrArg (fun o => o.ot.den) g2⟩
    | true =>
      rw [hn] at h2
      have := OD.hit_den hn h2
      cases e with
      | normal => exact this.elim
      | exit id => exact this
      | ret => exact this
      | pan v => exact this) x

def RetM (v : V) (cs' : List V) (t : TypeId) (ish : Bool) : KS := fun e s' => match e with
  | .ret v' => (match s'.heap.get 0 with
    | some (.cells cs t' ish') => guardB (v.flat && flatL cs') (forceV 4 v' fun v' => v' = v ∧ cs = cs' ∧ t' = t ∧ ish' = ish)
    | _ => False)
  | .pan _ => False
theorem meth_of_K {kw : KnW} {known : ESelf} (hk : SelfOK P known) (ha : AdK kw known) (hn : NoK kw known) {fuel d : Nat} {g : FuncId} {cs args : List V} {v : V} {cs' : List V} (ls : TypeId → Bool → List LpD) (hls : ∀ t ish n, ∀ l ∈ ls t ish, l.ok P n 1 (bodyOf P g))
    (h : ∀ t ish, fnLW P (callW P kw fuel d) fuel (lpsW 1 (ls t ish)) g (.ptr 0 0 :: args) (sOne cs t ish) (RetM v cs' t ish)) : MethAt P g cs args v cs' := by
  intro t ish own ρ w A x hS hx hA
  obtain ⟨e, s', h1, h2⟩ := fnLW_ad (callW_ad ha hn fuel d) fuel (lps_ad 1 (ls t ish)) g _ _ _ (h t ish)
  have := fnL_sound (call_sound hk fuel d) fuel (lpsF 1 (ls t ish)) g (.ptr 0 0 :: args) (sOne cs t ish) (fun fn c n hf hc => by
    have hb : bodyOf P g = c := by simp only [bodyOf, hf, hc]
    rw [← hb]
    exact lps_ok (hls t ish n)) e s' h1 own ρ w hS 0 A hA
  refine (callsIn_wide.1 this).mono ?_
  rintro E w' ⟨ρ', g1, g2, g3, g4⟩
  cases e with
  | pan v' => exact h2.elim
  | ret v' =>
    obtain ⟨X, rfl, hX⟩ := g2
    simp only [RetM] at h2
    split at h2
    · rename_i cs1 t1 ish1 hg
      obtain ⟨hf, h3⟩ := guardB_b h2
      rw [forceV_iff] at h3
      obtain ⟨rfl, rfl, rfl, rfl⟩ := h3
      rw [Bool.and_eq_true] at hf
      exact ⟨X, rfl, VRel.flat _ X hf.1 hX, g4, ORel.cells_flat hf.2 (g3.obj 0 _ x hg (g1.sub.1 _ _ hx)).2⟩
    · exact h2.elim
theorem meth_of_W0 {tab : Tab} (ht : TabOK P tab) {fuel d : Nat} {g : FuncId} {cs args : List V} {v : V} {cs' : List V}
    (h : ∀ t ish, fnLW P (callW P (knW tab) fuel d) fuel (lpsW 1 []) g (.ptr 0 0 :: args) (sOne cs t ish) (RetM v cs' t ish)) : MethAt P g cs args v cs' :=
  meth_of_K (kn_ok ht) (kn_ad tab) (kn_no tab) (fun _ _ => []) (fun _ _ _ _ h => by cases h) h
theorem meth_of_M {mt : MTab} {tab : Tab} (hm : MTabOK P mt) (ht : TabOK P tab) {fuel d : Nat} {g : FuncId} {cs args : List V} {v : V} {cs' : List V}
    (h : ∀ t ish, fnLW P (callW P (knMW mt tab) fuel d) fuel (lpsW 1 []) g (.ptr 0 0 :: args) (sOne cs t ish) (RetM v cs' t ish)) : MethAt P g cs args v cs' :=
  meth_of_K (knM_ok hm ht) (knM_ad mt tab) (knM_no mt tab) (fun _ _ => []) (fun _ _ _ _ h => by cases h) h
theorem meth_of_loop {tab : Tab} (ht : TabOK P tab) {fuel d : Nat} {g : FuncId} {cs args : List V} {v : V} {cs' : List V} (r : Nat) {X : Type} (cd : TypeId → Bool → X → CD) (μ : X → Nat) (out : TypeId → Bool → X → OD) (x0 : X) (m : List (Nat × Nat)) (hr : loopsIn r (bodyOf P g) = [bodyAt P g r])
    (hround : ∀ t ish x, cfgK (cd t ish x) fun c => compW P (callW P (knW tab) fuel d) fuel none noLpW (bodyAt P g r) c (RoundW 1 (cd t ish) μ (out t ish) x))
    (h : ∀ t ish, fnLW P (callW P (knW tab) fuel d) fuel (lpsW 1 [⟨r, m, cd t ish x0, out t ish x0⟩]) g (.ptr 0 0 :: args) (sOne cs t ish) (RetM v cs' t ish)) : MethAt P g cs args v cs' :=
  meth_of_K (kn_ok ht) (kn_ad tab) (kn_no tab) (fun t ish => [⟨r, m, cd t ish x0, out t ish x0⟩]) (fun t ish n l hl => by
    rw [List.mem_singleton.1 hl]
    exact LpD.ok_one hr (loop_W ht (cd t ish) μ (out t ish) (fun _ => noLpW) (fun _ => noLp) (fun _ => noLp_ad) (fun _ => noLp_ok _) (hround t ish) x0)) h
def idmk (k : Nat) : List (Nat × EObj) → List (Nat × Nat)
  | [] => []
  | e :: l => bif Nat.blt e.1 k then idmk k l else (e.1, e.1) :: idmk k l
theorem CD.wk_ask {k : Nat} {c : CD} {c1 : Cfg} (h : c.wk k (idmk k c.h) c1) : ∃ m, c.wk k m c1 := ⟨_, h⟩
def noMT : MTab := fun _ _ _ => none
theorem noMT_ok : MTabOK P noMT := fun _ _ _ _ _ _ h => by cases h
def oneMT (f : FuncId) (F : List V → List V → Option (List Bool × V × List V)) (b : MTab) : MTab := fun g cs args => bif Nat.beq g f then F cs args else b g cs args
theorem oneMT_ok {f : FuncId} {F : List V → List V → Option (List Bool × V × List V)} {b : MTab} (hF : ∀ cs args c v cs', F cs args = some (c, v, cs') → allB c → MethAt P f cs args v cs') (hb : MTabOK P b) : MTabOK P (oneMT f F b) := by
  intro g cs args c v cs' h
  unfold oneMT at h
  cases hg : Nat.beq g f with
  | true => rw [hg, cond_true] at h; rw [Nat.eq_of_beq_eq_true hg]; exact hF cs args c v cs' h
  | false => rw [hg, cond_false] at h; exact hb g cs args c v cs' h
end
end Go.Sym
end

section
namespace Go.Sym
set_option linter.unusedVariables false

noncomputable section
mutual
@[reducible] def pairV : V → V → List (Nat × Nat)
  | .ptr b _, w => (match w with
    | .ptr c _ => [(b, c)]
    | _ => [])
  | .rptr b _ _ _, w => (match w with
    | .rptr c _ _ _ => [(b, c)]
    | _ => [])
  | .sl b _ _ _ _ _, w => (match w with
    | .sl c _ _ _ _ _ => [(b, c)]
    | _ => [])
  | .rs b _ _ _ _ _, w => (match w with
    | .rs c _ _ _ _ _ => [(b, c)]
    | _ => [])
  | .map b, w => (match w with
    | .map c => [(b, c)]
    | _ => [])
  | .yld b, w => (match w with
    | .yld c => [(b, c)]
    | _ => [])
  | .iface _ v, w => (match w with
    | .iface _ u => pairV v u
    | _ => [])
  | .agg l, w => (match w with
    | .agg m => pairL l m
    | _ => [])
  | .tup l, w => (match w with
    | .tup m => pairL l m
    | _ => [])
  | .fn _ a c, w => (match w with
    | .fn _ a' c' => pairL a a' ++ pairL c c'
    | _ => [])
  | _, _ => []
@[reducible] def pairL : List V → List V → List (Nat × Nat)
  | [], _ => []
  | v :: l, m => (match m with
    | w :: m => pairV v w ++ pairL l m
    | [] => [])
end
@[reducible] def pairS (f : Frm) (l : List (Nat × V)) : List (Nat × Nat) := @List.rec (Nat × V) (fun _ => List (Nat × Nat)) [] (fun e _ ih => @Prod.rec Nat V (fun _ => List (Nat × Nat)) (fun k v => lapp (pairV v (f.get k)) ih) e) l
@[reducible] def objN (b : Nat) : List (Nat × EObj) → Option EObj
  | [] => none
  | (k, x) :: l => bif Nat.beq k b then some x else objN b l
@[reducible] def pairOb : Option EObj → Option EObj → List (Nat × Nat)
  | some (.cells cs _ _), o => (match o with
    | some (.cells ds _ _) => pairL cs ds
    | _ => [])
  | some (.loop r), o => (match o with
    | some (.loop q) => [(r.defers, q.defers)]
    | _ => [])
  | _, _ => []
@[reducible] def seenN (b : Nat) : List (Nat × Nat) → Bool
  | [] => false
  | e :: l => bif Nat.beq e.1 b then true else seenN b l
@[reducible] def growM (h : List (Nat × EObj)) (h1 : T EObj) (n : Nat) : List (Nat × Nat) → List (Nat × Nat) → List (Nat × Nat) :=
  @Nat.rec (fun _ => List (Nat × Nat) → List (Nat × Nat) → List (Nat × Nat)) (fun _ acc => acc)
    (fun _ ih pend acc => @List.rec (Nat × Nat) (fun _ => List (Nat × Nat)) acc (fun e l _ => @Bool.rec (fun _ => List (Nat × Nat))
      (@Option.rec EObj (fun _ => List (Nat × Nat)) (ih l acc) (fun o => ih (lapp (pairOb (objN e.1 h) (some o)) l) (lapp acc [e])) (h1.get e.2)) (ih l acc) (seenN e.1 acc)) pend) n
@[reducible] def idK (k : Nat) (l : List (Nat × EObj)) : List (Nat × Nat) := @List.rec (Nat × EObj) (fun _ => List (Nat × Nat)) [] (fun e _ ih => @Prod.rec Nat EObj (fun _ => List (Nat × Nat)) (fun b _ => @Bool.rec (fun _ => List (Nat × Nat)) ih ((b, b) :: ih) (Nat.blt b k)) e) l
@[reducible] def autoM (k : Nat) (c : CD) (c1 : Cfg) : List (Nat × Nat) := growM c.h c1.st.heap 60 (lapp (idK k c.h) (pairS c1.tmps c.l)) []
@[reducible] def keepM (k : Nat) (l : List (Nat × Nat)) : List (Nat × Nat) := @List.rec (Nat × Nat) (fun _ => List (Nat × Nat)) [] (fun e _ ih => @Bool.rec (fun _ => List (Nat × Nat)) (e :: ih) ih (Nat.blt e.1 k)) l
end
theorem seg_len {α : Type} (L : List α) (lo len : Nat) : (seg L lo len).length = min (lo + len) L.length - lo := by
  unfold seg
  rw [List.length_drop, List.length_take]
theorem rowAt_one (k : IntKind) (x : Int) : @Eq Int (rowAt [.int k] ([x] : List Int) 0) x := rfl
theorem rowAt_oneS (x : ByteArray) : @Eq ByteArray (rowAt [.str] ([x] : List ByteArray) 0) x := rfl
theorem rowAt_oneB (x : Bool) : @Eq Bool (rowAt [.bool] ([x] : List Bool) 0) x := rfl
theorem bs_app (a b : ByteArray) : (a ++ b).size = a.size + b.size := ByteArray.size_append
theorem strOf_size (l : List Int) : (strOf l).size = l.length := by
  unfold strOf
  show (l.map fun n => UInt8.ofNat n.toNat).toArray.size = _
  rw [List.size_toArray, List.length_map]
theorem bytesL_len (s : ByteArray) : (bytesL s).length = s.size := by
  unfold bytesL
  rw [List.length_map, Array.length_toList]; rfl
theorem lens : (∀ {e : List Ty} (h : e = e) (L : List (rowDen e)), castL h L = L) ∧ (∀ {α : Type} (L : List α) (lo len : Nat), (seg L lo len).length = min (lo + len) L.length - lo) ∧
    (∀ (k : IntKind) (x : Int), @Eq Int (rowAt [.int k] ([x] : List Int) 0) x) ∧ (∀ x : ByteArray, @Eq ByteArray (rowAt [.str] ([x] : List ByteArray) 0) x) ∧
    (∀ {α : Type} {a b : List α}, (a ++ b).length = a.length + b.length) ∧ (∀ {α : Type} {a : α} {l : List α}, (a :: l).length = l.length + 1) ∧ (∀ {α : Type}, ([] : List α).length = 0) ∧
    (∀ {α : Type} {i : Nat} {l : List α}, (l.drop i).length = l.length - i) ∧ (∀ {α : Type} {i : Nat} {l : List α}, (l.take i).length = min i l.length) ∧ (∀ {α : Type} {l : List α} {i : Nat}, (l.eraseIdx i).length = if i < l.length then l.length - 1 else l.length) ∧
    (∀ {α : Type} {n : Nat} {a : α}, (List.replicate n a).length = n) ∧ (∀ {s : ByteArray} {i j : Nat}, (s.extract i j).size = min j s.size - i) ∧ (∀ a b : ByteArray, (a ++ b).size = a.size + b.size) ∧
    (∀ l : List Int, (strOf l).size = l.length) ∧ (∀ s : ByteArray, (bytesL s).length = s.size) ∧ (∀ a b : Int, maxI a b = max a b) :=
  ⟨castL_self, seg_len, rowAt_one, rowAt_oneS, List.length_append, List.length_cons, List.length_nil, List.length_drop, List.length_take, List.length_eraseIdx, List.length_replicate, ByteArray.size_extract, bs_app, strOf_size, bytesL_len, maxI_eq⟩
theorem andB_room {n b : Nat} {q : Prop} (hb : Nat.ble b 65536 = true) (hn : n ≤ 1000000000) (k : q) : @Bool.rec (fun _ => Prop) False q (decide ((2 * n + 768) * b ≤ 281474976710656)) := by
  refine andB_d ?_ k
  have h1 : b ≤ 65536 := Nat.le_of_ble_eq_true hb
  have h2 := Nat.mul_le_mul (show 2 * n + 768 ≤ 2000000768 by omega) h1
  omega
theorem iteB_ct {b c : Bool} {p q : Prop} (k : @Bool.rec (fun _ => Prop) q p b) : @Bool.rec (fun _ => Prop) q p (bif true then b else c) := k
theorem iteB_cf {b c : Bool} {p q : Prop} (k : @Bool.rec (fun _ => Prop) q p c) : @Bool.rec (fun _ => Prop) q p (bif false then b else c) := k
theorem iteB_bt {b : Bool} {p q : Prop} (k : @Bool.rec (fun _ => Prop) q p b) : @Bool.rec (fun _ => Prop) q p (true == b) := by cases b <;> exact k
theorem iteB_bf {b : Bool} {p q : Prop} (k : @Bool.rec (fun _ => Prop) p q b) : @Bool.rec (fun _ => Prop) q p (false == b) := by cases b <;> exact k
theorem iteB_tb {b : Bool} {p q : Prop} (k : @Bool.rec (fun _ => Prop) q p b) : @Bool.rec (fun _ => Prop) q p (b == true) := by cases b <;> exact k
theorem iteB_fb {b : Bool} {p q : Prop} (k : @Bool.rec (fun _ => Prop) p q b) : @Bool.rec (fun _ => Prop) q p (b == false) := by cases b <;> exact k
theorem CD.wk_au {k : Nat} {c : CD} {c1 : Cfg} (h : forceM (keepM k (autoM k c c1)) fun m => c.wk k m c1) : ∃ m, c.wk k m c1 := ⟨_, (forceM_iff _ _).1 h⟩
end Go.Sym
end
