/-
  Texts of this claim, one behind the other: WireLaw SymA SymB SymC SymD SymE. Each says its own conditions.
-/
import Derived.WalkKit
import Derived.RowKit3
import Derived.Below
import Derived.RangeFuncRecord
import Derived.Laws.Cells
import Derived.Laws.BytesString
import Derived.Laws.StructEq
import Derived.Laws.Strings
import Derived.MapKept

set_option linter.unusedVariables false
set_option linter.unusedSimpArgs false
set_option linter.unusedSectionVars false
noncomputable section
namespace Go.Wire

def be : Nat → Nat → List UInt8
 | 0, _ => []
 | k + 1, n => be k (n / 256) ++ [UInt8.ofNat (n % 256)]
theorem be_length : ∀ k n, (be k n).length = k
 | 0, _ => rfl
 | k + 1, n => by simp [be, be_length k]
def sz (n : Nat) : Nat := if h : n = 0 then 0 else sz (n / 256) + 1
termination_by n
decreasing_by omega
theorem sz_zero : sz 0 = 0 := by unfold sz; simp
theorem sz_pos {n : Nat} (h : n ≠ 0) : sz n = sz (n / 256) + 1 := by rw [sz]; simp [h]
theorem sz_lt : ∀ n, n < 256 ^ sz n := by
 intro n
 induction n using Nat.strongRecOn with
 | _ n ih =>
  by_cases h : n = 0
  ·subst h; simp [sz_zero]
  ·rw [sz_pos h, Nat.pow_succ]
   have := ih (n / 256) (by omega)
   omega
theorem sz_ge : ∀ n, n ≠ 0 → 256 ^ (sz n - 1) ≤ n := by
 intro n
 induction n using Nat.strongRecOn with
 | _ n ih =>
  intro h
  rw [sz_pos h, Nat.add_sub_cancel]
  by_cases h0 : n / 256 = 0
  ·rw [h0, sz_zero]; simp; omega
  ·have h1 := ih (n / 256) (by omega) h0
   have h2 : sz (n / 256) = (sz (n / 256) - 1) + 1 := by rw [sz_pos h0]; rfl
   rw [h2, Nat.pow_succ]
   exact Nat.le_trans (Nat.mul_le_mul_right 256 h1) (Nat.div_mul_le_self n 256)
theorem pow_mono {a b : Nat} (h : a ≤ b) : 256 ^ a ≤ 256 ^ b := Nat.pow_le_pow_right (by omega) h
theorem sz_le {n k : Nat} (h : n < 256 ^ k) : sz n ≤ k := by
 by_cases h0 : n = 0
 ·subst h0; rw [sz_zero]; omega
 ·rcases Nat.lt_or_ge k (sz n) with hk | hk
  ·have h1 := sz_ge n h0
   have h2 := pow_mono (show k ≤ sz n - 1 by omega)
   exact absurd (Nat.lt_of_le_of_lt (Nat.le_trans h2 h1) h) (Nat.lt_irrefl _)
  ·exact hk
theorem sz_is {n k : Nat} (h1 : 256 ^ k ≤ n) (h2 : n < 256 ^ (k + 1)) : sz n = k + 1 := by
 have := sz_le h2
 rcases Nat.lt_or_ge (sz n) (k + 1) with h | h
 ·have := pow_mono (show sz n ≤ k by omega)
  have := sz_lt n
  omega
 ·omega

def enc (n : Nat) : List UInt8 := if n < 248 then [UInt8.ofNat n] else UInt8.ofNat (247 + sz n) :: be (sz n) n

theorem sz_8 {n : Nat} (h : n < 2 ^ 64) : sz n ≤ 8 := sz_le (by simpa using h)
theorem sz_one {n : Nat} (h : 248 ≤ n) : 1 ≤ sz n := by rw [sz_pos (by omega)]; omega
theorem enc_length {n : Nat} (h : n < 2 ^ 64) : 1 ≤ (enc n).length ∧ (enc n).length ≤ 9 := by
 have := sz_8 h
 unfold enc
 split
 ·simp
 ·simp [be_length]; omega
def val (l : List UInt8) : Nat := l.foldl (fun n b => n * 256 + b.toNat) 0
theorem val_snoc (l : List UInt8) (b : UInt8) : val (l ++ [b]) = val l * 256 + b.toNat := by simp [val]
theorem snocRec {P : List UInt8 → Prop} (h0 : P []) (h1 : ∀ l b, P l → P (l ++ [b])) (l : List UInt8) : P l := by
 have h : ∀ m : List UInt8, P m.reverse := fun m => by
  induction m with
  | nil => exact h0
  | cons b m ih => rw [List.reverse_cons]; exact h1 _ _ ih
 simpa using h l.reverse
theorem be_snoc_val (l : List UInt8) : ∀ k, l.length = k → be k (val l) = l ∧ val l < 256 ^ k := by
 refine snocRec (P := fun l => ∀ k, l.length = k → be k (val l) = l ∧ val l < 256 ^ k) ?_ ?_ l
 ·intro k h; subst h; exact ⟨rfl, by simp [val]⟩
 ·intro l b ih k h
  simp at h
  subst h
  obtain ⟨h1, h2⟩ := ih l.length rfl
  have hb : b.toNat < 256 := UInt8.toNat_lt b
  rw [val_snoc, Nat.pow_succ]
  refine ⟨?_, by omega⟩
  rw [be, show (val l * 256 + b.toNat) / 256 = val l by omega, show (val l * 256 + b.toNat) % 256 = b.toNat by omega, h1]
  simp
theorem val_cons_ge (c : UInt8) (hc : c ≠ 0) (l : List UInt8) : 256 ^ l.length ≤ val (c :: l) := by
 refine snocRec (P := fun l => 256 ^ l.length ≤ val (c :: l)) ?_ ?_ l
 ·have : c.toNat ≠ 0 := fun h => hc (by rw [← UInt8.toNat_inj, h]; rfl)
  simp [val]; omega
 ·intro l b ih
  rw [← List.cons_append, val_snoc, List.length_append, List.length_singleton, Nat.pow_succ]
  omega
theorem read_back (c : UInt8) (l : List UInt8) (hc : c ≠ 0) (h : 248 ≤ val (c :: l)) : enc (val (c :: l)) = UInt8.ofNat (247 + (l.length + 1)) :: c :: l := by
 have h1 := be_snoc_val (c :: l) (l.length + 1) rfl
 have h2 := sz_is (val_cons_ge c hc l) h1.2
 rw [enc, if_neg (by omega), h2, h1.1]
def readNum : List UInt8 → Option (Nat × List UInt8)
 | [] => none
 | c :: t => if c.toNat < 248 then some (c.toNat, t) else if t.length < c.toNat - 247 then none else
   if enc (val (t.take (c.toNat - 247))) = c :: t.take (c.toNat - 247) then some (val (t.take (c.toNat - 247)), t.drop (c.toNat - 247)) else none
def numP (l : List UInt8) : Nat × Bool × List UInt8 := match readNum l with
 | some (n, r) => (n, false, r)
 | none => (0, true, [])
theorem numP_nil : numP [] = (0, true, []) := rfl
theorem numP_small (c : UInt8) (t : List UInt8) (h : c.toNat < 248) : numP (c :: t) = (c.toNat, false, t) := by simp [numP, readNum, h]
theorem numP_short (c : UInt8) (t : List UInt8) (h : ¬ c.toNat < 248) (hk : t.length < c.toNat - 247) : numP (c :: t) = (0, true, []) := by
 rw [numP, readNum, if_neg h, if_pos hk]
theorem enc_ne_zero (c : UInt8) (l : List UInt8) (_h : ¬ c.toNat < 248) (hl : (0 : UInt8) :: l ≠ []) : enc (val (0 :: l)) ≠ c :: 0 :: l := by
 intro he
 have hv : val (0 :: l) = val l := by simp [val]
 have h1 := (be_snoc_val l l.length rfl).2
 have h2 := sz_le h1
 rw [hv] at he
 unfold enc at he
 split at he
 ·have := congrArg List.length he; simp at this
 ·have := congrArg List.length he; simp [be_length] at this; omega
theorem enc_ne_small (c : UInt8) (l : List UInt8) (hl : l ≠ []) (hv : val l < 248) : enc (val l) ≠ c :: l := by
 intro he
 rw [enc, if_pos hv] at he
 have : 1 = l.length + 1 := congrArg List.length he
 exact hl (List.length_eq_zero_iff.1 (by omega))
theorem numP_zero (c : UInt8) (t : List UInt8) (h : ¬ c.toNat < 248) (h0 : t.head? = some 0) : numP (c :: t) = (0, true, []) := by
 cases t with
 | nil => simp at h0
 | cons x t =>
  have hx : x = 0 := by simpa using h0
  subst hx
  rw [numP, readNum, if_neg h]
  by_cases hs : ((0 : UInt8) :: t).length < c.toNat - 247
  ·rw [if_pos hs]
  ·obtain ⟨k, hk⟩ : ∃ k, c.toNat - 247 = k + 1 := ⟨c.toNat - 248, by omega⟩
   rw [if_neg hs, hk, List.take_succ_cons, if_neg (enc_ne_zero c _ h (by simp))]
theorem numP_low (c : UInt8) (t : List UInt8) (h : ¬ c.toNat < 248) (hk : ¬ t.length < c.toNat - 247) (hv : val (t.take (c.toNat - 247)) < 248) : numP (c :: t) = (0, true, []) := by
 rw [numP, readNum, if_neg h, if_neg hk, if_neg]
 refine enc_ne_small c _ ?_ hv
 intro h1
 have : min (c.toNat - 247) t.length = 0 := by rw [← List.length_take, h1]; rfl
 omega
theorem numP_good (c : UInt8) (t : List UInt8) (h : ¬ c.toNat < 248) (hk : ¬ t.length < c.toNat - 247) (h0 : t.head? ≠ some 0) (hv : 248 ≤ val (t.take (c.toNat - 247))) :
  numP (c :: t) = (val (t.take (c.toNat - 247)), false, t.drop (c.toNat - 247)) := by
 have he : enc (val (t.take (c.toNat - 247))) = c :: t.take (c.toNat - 247) := by
  cases t with
  | nil => simp at hk; omega
  | cons x t =>
   have hx : x ≠ 0 := by simpa using h0
   obtain ⟨k, hk'⟩ : ∃ k, c.toNat - 247 = k + 1 := ⟨c.toNat - 248, by omega⟩
   rw [hk'] at hv ⊢
   rw [List.take_succ_cons] at hv ⊢
   rw [read_back x (t.take k) hx hv]
   have h3 : (t.take k).length = k := by rw [List.length_take]; simp at hk; omega
   have h4 : UInt8.ofNat (247 + (k + 1)) = c := by
    rw [← UInt8.toNat_inj]
    have := UInt8.toNat_lt c
    simp
    omega
   rw [h3, h4]
 rw [numP, readNum, if_neg h, if_neg hk, if_pos he]
theorem numP_cases (c : UInt8) (t : List UInt8) : (c.toNat < 248 ∧ numP (c :: t) = (c.toNat, false, t)) ∨ numP (c :: t) = (0, true, []) ∨
  (¬ c.toNat < 248 ∧ ¬ t.length < c.toNat - 247 ∧ enc (val (t.take (c.toNat - 247))) = c :: t.take (c.toNat - 247) ∧ numP (c :: t) = (val (t.take (c.toNat - 247)), false, t.drop (c.toNat - 247))) := by
 by_cases h : c.toNat < 248
 ·exact .inl ⟨h, numP_small c t h⟩
 ·by_cases hk : t.length < c.toNat - 247
  ·exact .inr (.inl (numP_short c t h hk))
  ·by_cases he : enc (val (t.take (c.toNat - 247))) = c :: t.take (c.toNat - 247)
   ·exact .inr (.inr ⟨h, hk, he, by rw [numP, readNum, if_neg h, if_neg hk, if_pos he]⟩)
   ·exact .inr (.inl (by rw [numP, readNum, if_neg h, if_neg hk, if_neg he]))
theorem numP_lt : ∀ l : List UInt8, (numP l).1 < 18446744073709551616
 | [] => by rw [numP_nil]; show 0 < _; omega
 | c :: t => by
  have hc := UInt8.toNat_lt c
  rcases numP_cases c t with ⟨h, e⟩ | e | ⟨h, hk, he, e⟩
  ·rw [e]; show c.toNat < _; omega
  ·rw [e]; show 0 < _; omega
  ·rw [e]
   have h1 := (be_snoc_val (t.take (c.toNat - 247)) (c.toNat - 247) (by rw [List.length_take]; omega)).2
   have h2 := pow_mono (show c.toNat - 247 ≤ 8 by omega)
   have h3 : 256 ^ 8 = 18446744073709551616 := by simp
   rw [h3] at h2
   dsimp only
   exact Nat.lt_of_lt_of_le h1 h2
theorem numP_left : ∀ l : List UInt8, (numP l).2.2.length ≤ l.length
 | [] => by rw [numP_nil]; exact Nat.le_refl _
 | c :: t => by
  rcases numP_cases c t with ⟨h, e⟩ | e | ⟨h, hk, he, e⟩
  ·rw [e]; show t.length ≤ t.length + 1; omega
  ·rw [e]; exact Nat.zero_le _
  ·rw [e]; dsimp only; rw [List.length_drop, List.length_cons]; omega
theorem numP_enc : ∀ l : List UInt8, (numP l).2.1 = false → l = enc (numP l).1 ++ (numP l).2.2
 | [], h => by cases h
 | c :: t, h => by
  rcases numP_cases c t with ⟨h8, e⟩ | e | ⟨h8, hk, he, e⟩
  ·rw [e]
   show c :: t = enc c.toNat ++ t
   rw [enc, if_pos h8]
   simp
  ·rw [e] at h; cases h
  ·rw [e]
   dsimp only
   rw [he, List.cons_append, List.take_append_drop]
end Go.Wire
end

noncomputable section
namespace Go.Sym

def hide {α : Type} (x : α) : α := Classical.choose (⟨x, rfl⟩ : ∃ y, y = x)
theorem hide_eq {α : Type} (x : α) : hide x = x := Classical.choose_spec (⟨x, rfl⟩ : ∃ y, y = x)

theorem ba_ext {a b : ByteArray} (h : a.data.toList = b.data.toList) : a = b := by
 cases a; cases b; simp at h; simp [h]

inductive T (α : Type) where
 | leaf
 | node (v : Option α) (l r : T α)

def T.get {α : Type} (t : T α) : Nat → Option α :=
 @T.rec α (fun _ => Nat → Option α) (fun _ => none)
  (fun v _ _ hl hr n => @Nat.rec (fun _ => Option α) v (fun m _ => @Bool.rec (fun _ => Option α) (hr (Nat.div m (nat_lit 2))) (hl (Nat.div m (nat_lit 2))) (Nat.beq (Nat.mod m (nat_lit 2)) (nat_lit 0))) n) t
theorem T.get_leaf {α : Type} (n : Nat) : (T.leaf : T α).get n = none := rfl
theorem T.get_zero {α : Type} (v : Option α) (l r : T α) : (T.node v l r).get 0 = v := rfl
theorem T.get_succ {α : Type} (v : Option α) (l r : T α) (m : Nat) : (T.node v l r).get (m + 1) = bif Nat.beq (m % 2) 0 then l.get (m / 2) else r.get (m / 2) := by
 show @Bool.rec (fun _ => Option α) (r.get (m / 2)) (l.get (m / 2)) (Nat.beq (m % 2) 0) = _
 cases Nat.beq (m % 2) 0 <;> rfl

def T.setF {α : Type} (f : Nat) : T α → Nat → Option α → T α :=
 @Nat.rec (fun _ => T α → Nat → Option α → T α) (fun t _ _ => t)
  (fun _ ih t n x => @T.rec α (fun _ => T α)
    (@Nat.rec (fun _ => T α) (.node x .leaf .leaf) (fun m _ => @Bool.rec (fun _ => T α) (.node none .leaf (ih .leaf (Nat.div m (nat_lit 2)) x)) (.node none (ih .leaf (Nat.div m (nat_lit 2)) x) .leaf) (Nat.beq (Nat.mod m (nat_lit 2)) (nat_lit 0))) n)
    (fun v l r _ _ => @Nat.rec (fun _ => T α) (.node x l r) (fun m _ => @Bool.rec (fun _ => T α) (.node v l (ih r (Nat.div m (nat_lit 2)) x)) (.node v (ih l (Nat.div m (nat_lit 2)) x) r) (Nat.beq (Nat.mod m (nat_lit 2)) (nat_lit 0))) n) t) f
theorem T.setF_leaf0 {α : Type} (f : Nat) (x : Option α) : T.setF (f + 1) .leaf 0 x = .node x .leaf .leaf := rfl
theorem T.setF_leaf1 {α : Type} (f m : Nat) (x : Option α) : T.setF (f + 1) .leaf (m + 1) x = bif Nat.beq (m % 2) 0 then .node none (T.setF f .leaf (m / 2) x) .leaf else .node none .leaf (T.setF f .leaf (m / 2) x) := by
 show @Bool.rec (fun _ => T α) (.node none .leaf (T.setF f .leaf (m / 2) x)) (.node none (T.setF f .leaf (m / 2) x) .leaf) (Nat.beq (m % 2) 0) = _
 cases Nat.beq (m % 2) 0 <;> rfl
theorem T.setF_node0 {α : Type} (f : Nat) (v : Option α) (l r : T α) (x : Option α) : T.setF (f + 1) (.node v l r) 0 x = .node x l r := rfl
theorem T.setF_node1 {α : Type} (f m : Nat) (v : Option α) (l r : T α) (x : Option α) : T.setF (f + 1) (.node v l r) (m + 1) x = bif Nat.beq (m % 2) 0 then .node v (T.setF f l (m / 2) x) r else .node v l (T.setF f r (m / 2) x) := by
 show @Bool.rec (fun _ => T α) (.node v l (T.setF f r (m / 2) x)) (.node v (T.setF f l (m / 2) x) r) (Nat.beq (m % 2) 0) = _
 cases Nat.beq (m % 2) 0 <;> rfl

def T.set {α : Type} (t : T α) (n : Nat) (x : Option α) : T α := T.setF (n + 1) t n x

theorem T.get_setF {α : Type} : ∀ (f : Nat) (t : T α) (n : Nat) (x : Option α) (k : Nat), n < f → (T.setF f t n x).get k = if k = n then x else t.get k
 | 0, _, _, _, _, h => absurd h (by omega)
 | f + 1, t, n, x, k, h => by
  cases t with
  | leaf =>
   cases n with
   | zero => cases k <;> simp [T.setF_leaf0, T.get_leaf, T.get_zero, T.get_succ]
   | succ m =>
    have ih := fun k => T.get_setF f (.leaf : T α) (m / 2) x k (by omega)
    simp only [T.setF_leaf1]
    cases hm : Nat.beq (m % 2) 0 <;> cases k with
    | zero => simp [T.get_zero, T.get_leaf]
    | succ j =>
     cases hj : Nat.beq (j % 2) 0 <;> simp only [T.get_leaf, T.get_succ, hj, cond_true, cond_false, ih] <;>
      simp only [Nat.beq_eq_true_eq, Nat.beq_eq, Bool.eq_false_iff, ne_eq] at hm hj <;>
      first
       | rfl
       | (have : (j / 2 = m / 2) ↔ (j + 1 = m + 1) := by omega
          simp only [this])
       | (rw [if_neg (by omega)])
  | node v l r =>
   cases n with
   | zero => cases k <;> simp [T.setF_node0, T.get_zero, T.get_succ]
   | succ m =>
    have ih := fun t k => T.get_setF f (t : T α) (m / 2) x k (by omega)
    simp only [T.setF_node1]
    cases hm : Nat.beq (m % 2) 0 <;> cases k with
    | zero => simp [T.get_zero, T.get_leaf]
    | succ j =>
     cases hj : Nat.beq (j % 2) 0 <;> simp only [T.get_leaf, T.get_succ, hj, cond_true, cond_false, ih] <;>
      simp only [Nat.beq_eq_true_eq, Nat.beq_eq, Bool.eq_false_iff, ne_eq] at hm hj <;>
      first
       | (have : (j / 2 = m / 2) ↔ (j + 1 = m + 1) := by omega
          simp only [this])
       | (rw [if_neg (by omega)])

theorem T.get_set {α : Type} (t : T α) (n : Nat) (x : Option α) (k : Nat) : (t.set n x).get k = if k = n then x else t.get k :=
 T.get_setF _ _ _ _ _ (Nat.lt_succ_self n)

inductive B (α : Type) where
 | leaf (v : α)
 | node (l r : B α)
def B.get {α : Type} (t : B α) : Nat → α :=
 @B.rec α (fun _ => Nat → α) (fun v _ => v) (fun _ _ hl hr n => @Bool.rec (fun _ => α) (hl (Nat.div n (nat_lit 2))) (hr (Nat.div n (nat_lit 2))) (Nat.beq (Nat.mod n (nat_lit 2)) (nat_lit 1))) t
def B.set {α : Type} (x : α) (t : B α) : Nat → B α :=
 @B.rec α (fun _ => Nat → B α) (fun _ _ => .leaf x) (fun l r hl hr n => @Bool.rec (fun _ => B α) (.node (hl (Nat.div n (nat_lit 2))) r) (.node l (hr (Nat.div n (nat_lit 2)))) (Nat.beq (Nat.mod n (nat_lit 2)) (nat_lit 1))) t
theorem B.get_node {α : Type} (l r : B α) (n : Nat) : (B.node l r).get n = bif Nat.beq (n % 2) 1 then r.get (n / 2) else l.get (n / 2) := by
 show @Bool.rec (fun _ => α) (l.get (n / 2)) (r.get (n / 2)) (Nat.beq (n % 2) 1) = _
 cases Nat.beq (n % 2) 1 <;> rfl
theorem B.set_node {α : Type} (x : α) (l r : B α) (n : Nat) : B.set x (.node l r) n = bif Nat.beq (n % 2) 1 then .node l (B.set x r (n / 2)) else .node (B.set x l (n / 2)) r := by
 show @Bool.rec (fun _ => B α) (.node (B.set x l (n / 2)) r) (.node l (B.set x r (n / 2))) (Nat.beq (n % 2) 1) = _
 cases Nat.beq (n % 2) 1 <;> rfl
def B.full {α : Type} : B α → Nat → Prop
 | .leaf _, d => d = 0
 | .node l r, d => ∃ e, d = e + 1 ∧ l.full e ∧ r.full e
theorem B.set_full {α : Type} (x : α) : ∀ (t : B α) (d n : Nat), t.full d → (B.set x t n).full d
 | .leaf _, d, n, h => h
 | .node l r, d, n, h => by
  obtain ⟨e, rfl, h1, h2⟩ := h
  rw [B.set_node]
  cases Nat.beq (n % 2) 1
  ·exact ⟨e, rfl, B.set_full x l e _ h1, h2⟩
  ·exact ⟨e, rfl, h1, B.set_full x r e _ h2⟩
theorem B.get_set {α : Type} (x : α) : ∀ (t : B α) (d n k : Nat), t.full d → n < 2 ^ d → k < 2 ^ d → (B.set x t n).get k = if k = n then x else t.get k
 | .leaf v, d, n, k, h, hn, hk => by
  have h : d = 0 := h
  subst h
  have : n = 0 := by simpa using hn
  have : k = 0 := by simpa using hk
  subst n; subst k; rfl
 | .node l r, d, n, k, h, hn, hk => by
  obtain ⟨e, rfl, h1, h2⟩ := h
  rw [Nat.pow_succ] at hn hk
  have il := B.get_set x l e (n / 2) (k / 2) h1 (by omega) (by omega)
  have ir := B.get_set x r e (n / 2) (k / 2) h2 (by omega) (by omega)
  rw [B.set_node]
  cases hb : Nat.beq (n % 2) 1 <;> simp only [cond_true, cond_false, B.get_node] <;> cases hc : Nat.beq (k % 2) 1 <;>
   simp only [cond_true, cond_false, il, ir] <;> simp only [Nat.beq_eq_true_eq, Nat.beq_eq, Bool.eq_false_iff, ne_eq] at hb hc
  ·have : (k / 2 = n / 2) ↔ (k = n) := by omega
   simp only [this]
  ·rw [if_neg (by omega)]
  ·rw [if_neg (by omega)]
  ·have : (k / 2 = n / 2) ↔ (k = n) := by omega
   simp only [this]
def B.ofList {α : Type} (z : α) : Nat → List α → B α
 | 0, l => .leaf (l.headD z)
 | d + 1, l => .node (B.ofList z d (evens l)) (B.ofList z d (odds l))
where
 evens : List α → List α
 | [] => []
 | [a] => [a]
 | a :: _ :: l => a :: evens l
 odds : List α → List α
 | [] => []
 | [_] => []
 | _ :: b :: l => b :: odds l
theorem B.evens_get {α : Type} : ∀ (l : List α) (i : Nat), (B.ofList.evens l)[i]? = l[2 * i]?
 | [], i => by simp [B.ofList.evens]
 | [a], i => by cases i <;> simp [B.ofList.evens]
 | a :: b :: l, i => by
  cases i with
  | zero => simp [B.ofList.evens]
  | succ i => simp [B.ofList.evens, B.evens_get l i, show 2 * (i + 1) = 2 * i + 1 + 1 from by omega]
theorem B.odds_get {α : Type} : ∀ (l : List α) (i : Nat), (B.ofList.odds l)[i]? = l[2 * i + 1]?
 | [], i => by simp [B.ofList.odds]
 | [a], i => by cases i <;> simp [B.ofList.odds]
 | a :: b :: l, i => by
  cases i with
  | zero => simp [B.ofList.odds]
  | succ i => simp [B.ofList.odds, B.odds_get l i, show 2 * (i + 1) + 1 = 2 * i + 1 + 1 + 1 from by omega]
theorem B.ofList_full {α : Type} (z : α) : ∀ (d : Nat) (l : List α), (B.ofList z d l).full d
 | 0, _ => rfl
 | d + 1, l => ⟨d, rfl, B.ofList_full z d _, B.ofList_full z d _⟩
theorem B.ofList_get {α : Type} (z : α) : ∀ (d : Nat) (l : List α) (i : Nat), i < 2 ^ d → (B.ofList z d l).get i = l.getD i z
 | 0, l, i, h => by
  have : i = 0 := by simpa using h
  subst this
  cases l <;> rfl
 | d + 1, l, i, h => by
  rw [Nat.pow_succ] at h
  have ih := B.ofList_get z d
  show (B.node (B.ofList z d (B.ofList.evens l)) (B.ofList z d (B.ofList.odds l))).get i = _
  rw [B.get_node]
  simp only [List.getD_eq_getElem?_getD]
  cases hb : Nat.beq (i % 2) 1
  ·simp only [cond_false]
   rw [ih _ _ (by omega), List.getD_eq_getElem?_getD, B.evens_get]
   have : ¬ i % 2 = 1 := by intro e; rw [e] at hb; cases hb
   rw [show 2 * (i / 2) = i from by omega]
  ·simp only [cond_true]
   rw [ih _ _ (by omega), List.getD_eq_getElem?_getD, B.odds_get]
   have : i % 2 = 1 := by simpa using hb
   rw [show 2 * (i / 2) + 1 = i from by omega]

def llen {α : Type} (l : List α) : Nat := @List.rec α (fun _ => Nat) 0 (fun _ _ ih => ih + 1) l
theorem llen_eq {α : Type} : ∀ l : List α, llen l = l.length
 | [] => rfl
 | _ :: l => congrArg (· + 1) (llen_eq l)
def lget {α : Type} (l : List α) : Nat → Option α := @List.rec α (fun _ => Nat → Option α) (fun _ => none) (fun a _ ih n => @Nat.rec (fun _ => Option α) (some a) (fun m _ => ih m) n) l
theorem lget_eq {α : Type} : ∀ (l : List α) (n : Nat), lget l n = l[n]?
 | [], _ => by simp [lget]
 | a :: l, 0 => rfl
 | a :: l, n + 1 => by rw [List.getElem?_cons_succ]; exact lget_eq l n
def ldrop {α : Type} (l : List α) : Nat → List α := @List.rec α (fun _ => Nat → List α) (fun _ => []) (fun a l ih n => @Nat.rec (fun _ => List α) (a :: l) (fun m _ => ih m) n) l
theorem ldrop_eq {α : Type} : ∀ (l : List α) (n : Nat), ldrop l n = l.drop n
 | [], _ => by simp [ldrop]
 | a :: l, 0 => rfl
 | a :: l, n + 1 => by rw [List.drop_succ_cons]; exact ldrop_eq l n
def ltake {α : Type} (l : List α) : Nat → List α := @List.rec α (fun _ => Nat → List α) (fun _ => []) (fun a _ ih n => @Nat.rec (fun _ => List α) [] (fun m _ => a :: ih m) n) l
theorem ltake_eq {α : Type} : ∀ (l : List α) (n : Nat), ltake l n = l.take n
 | [], _ => by simp [ltake]
 | a :: l, 0 => rfl
 | a :: l, n + 1 => by rw [List.take_succ_cons]; exact congrArg (a :: ·) (ltake_eq l n)
def lset {α : Type} (l : List α) (v : α) : Nat → List α := @List.rec α (fun _ => Nat → List α) (fun _ => []) (fun a l ih n => @Nat.rec (fun _ => List α) (v :: l) (fun m _ => a :: ih m) n) l
theorem lset_eq {α : Type} : ∀ (l : List α) (v : α) (n : Nat), lset l v n = l.set n v
 | [], _, _ => rfl
 | a :: l, v, 0 => rfl
 | a :: l, v, n + 1 => congrArg (a :: ·) (lset_eq l v n)
def lapp {α : Type} (l m : List α) : List α := @List.rec α (fun _ => List α) m (fun a _ ih => a :: ih) l
theorem lapp_eq {α : Type} : ∀ (l m : List α), lapp l m = l ++ m
 | [], _ => rfl
 | a :: l, m => congrArg (a :: ·) (lapp_eq l m)
def lall {α : Type} (f : α → Bool) (l : List α) : Bool := @List.rec α (fun _ => Bool) true (fun a _ ih => @Bool.rec (fun _ => Bool) false ih (f a)) l
theorem lall_eq {α : Type} (f : α → Bool) : ∀ (l : List α), lall f l = l.all f
 | [] => rfl
 | a :: l => by
  show @Bool.rec (fun _ => Bool) false (lall f l) (f a) = _
  rw [List.all_cons, ← lall_eq f l]
  cases f a <;> rfl

def kM : IntKind → Nat
 | .i8 | .u8 => nat_lit 256
 | .i16 | .u16 => nat_lit 65536
 | .i32 | .u32 => nat_lit 4294967296
 | .i64 | .u64 => nat_lit 18446744073709551616
def modN (M : Nat) : Int → Nat
 | .ofNat m => Nat.mod m M
 | .negSucc m => Nat.sub (Nat.sub M (nat_lit 1)) (Nat.mod m M)
theorem modN_eq (M : Nat) (hM : 0 < M) : ∀ n : Int, (modN M n : Int) = n % (M : Int)
 | .ofNat m => rfl
 | .negSucc m => by
  have h1 : m % M < M := Nat.mod_lt _ hM
  have h2 : (Int.negSucc m) = -((m : Int) + 1) := by omega
  have e : (modN M (Int.negSucc m) : Int) = (M : Int) - 1 - ((m % M : Nat) : Int) := by
   show ((M - 1 - m % M : Nat) : Int) = _
   omega
  rw [e, h2]
  have h3 : (m : Int) = (M : Int) * ((m / M : Nat) : Int) + ((m % M : Nat) : Int) := by
   have := Nat.div_add_mod m M
   omega
  have h4 : -((m : Int) + 1) = ((M : Int) - 1 - ((m % M : Nat) : Int)) + (M : Int) * (-((m / M : Nat) : Int) - 1) := by
   rw [Int.mul_sub, Int.mul_neg]; omega
  rw [h4, Int.add_mul_emod_self_left, Int.emod_eq_of_lt (by omega) (by omega)]
theorem kM_eqN (k : IntKind) : 2 ^ k.bits = kM k := by cases k <;> rfl
theorem blt_iff (a b : Nat) : Nat.blt a b = decide (a < b) := by
 rw [Bool.eq_iff_iff]; simp [Nat.blt_eq]
def kEq (a b : IntKind) : Bool := Nat.beq a.ctorIdx b.ctorIdx
theorem kEq_iff (a b : IntKind) : kEq a b = decide (a = b) := by cases a <;> cases b <;> rfl

end Go.Sym
end

noncomputable section
namespace Go.Sym
open Go.RowKit (Below)

structure Blk where
 B : Nat
 O : Nat
 S : Nat

structure Env where
 f : Nat → Option Blk
 n : Nat
 φ : Nat → Nat → Option Value
instance : CoeFun Env (fun _ => Nat → Option Blk) := ⟨Env.f⟩
def Env.sub (ρ ρ' : Env) : Prop := (∀ b x, ρ b = some x → ρ' b = some x) ∧ ∀ B k v, ρ.φ B k = some v → ρ'.φ B k = some v
structure Env.le (ρ ρ' : Env) : Prop where
 sub : ρ.sub ρ'
 top : ρ.n ≤ ρ'.n
 keep : ∀ b, b < ρ.n → ρ b = none → ρ' b = none
theorem Env.sub_refl (ρ : Env) : ρ.sub ρ := ⟨fun _ _ h => h, fun _ _ _ h => h⟩
theorem Env.sub_trans {a b c : Env} (h : a.sub b) (k : b.sub c) : a.sub c := ⟨fun x y e => k.1 x y (h.1 x y e), fun x y z e => k.2 x y z (h.2 x y z e)⟩
theorem Env.le_refl (ρ : Env) : ρ.le ρ := ⟨ρ.sub_refl, Nat.le_refl _, fun _ _ h => h⟩
theorem Env.le_trans {a b c : Env} (h : a.le b) (k : b.le c) : a.le c :=
 ⟨Env.sub_trans h.sub k.sub, Nat.le_trans h.top k.top, fun x hx e => k.keep x (Nat.lt_of_lt_of_le hx h.top) (h.keep x hx e)⟩

inductive Ty where
 | int (k : IntKind)
 | bool
 | str
 | lst (e : List Ty)

@[reducible] def consDen (ts : List Ty) (a b : Type) : Type := match ts with
 | [] => a
 | _ :: _ => a × b
mutual
@[reducible] def Ty.den : Ty → Type
 | .int _ => Int
 | .bool => Bool
 | .str => ByteArray
 | .lst e => List (rowDen e)
@[reducible] def rowDen : List Ty → Type
 | [] => Unit
 | t :: ts => consDen ts t.den (rowDen ts)
end
def Ty.dflt : (t : Ty) → t.den
 | .int _ => (0 : Int)
 | .bool => false
 | .str => (⟨#[]⟩ : ByteArray)
 | .lst e => ([] : List (rowDen e))
def rowDflt : (e : List Ty) → rowDen e
 | [] => ()
 | [t] => t.dflt
 | t :: u :: ts => (t.dflt, rowDflt (u :: ts))
def rowAt (e : List Ty) (L : List (rowDen e)) (i : Nat) : rowDen e := L.getD i (rowDflt e)

inductive V where
 | undef
 | any
 | bool (b : Bool)
 | int (k : IntKind) (n : Int)
 | str (s : ByteArray)
 | nilp
 | nils
 | nilm
 | nilf
 | nili
 | ptr (b o : Nat)
 | rptr (b i j es : Nat)
 | lptr (e : List Ty) (L : List (rowDen e)) (i j : Nat)
 | sl (b o len cap : Nat) (x : Bool) (es : Nat)
 | rs (b lo len cap : Nat) (x : Bool) (es : Nat)
 | lst (e : List Ty) (L : List (rowDen e)) (cl : Bool)
 | arr (e : List Ty) (L : List (rowDen e))
 | map (b : Nat)
 | fn (f : FuncId) (first cap : List V)
 | yld (l : Nat)
 | iface (t : TypeId) (v : V)
 | agg (l : List V)
 | tup (l : List V)
 deriving Inhabited

mutual
def TRel (φ : Nat → Nat → Option Value) : (t : Ty) → t.den → Value → Prop
 | .int k, n, X => X = .int k n
 | .bool, b, X => X = .bool b
 | .str, s, X => X = .string s
 | .lst e, L, X => ∃ a c, X = .slice a (List.length (α := rowDen e) L) c ∧ List.length (α := rowDen e) L ≤ c ∧ (a = none → c = 0) ∧
   (0 < List.length (α := rowDen e) L → ∃ B o, a = some ⟨B, o, none⟩ ∧ ∀ i, i < List.length (α := rowDen e) L → CRel φ e (rowAt e L i) (fun j => φ B (o + i * e.length + j)))
def CRel (φ : Nat → Nat → Option Value) : (e : List Ty) → rowDen e → (Nat → Option Value) → Prop
 | [], _, _ => True
 | [t], x, C => ∃ X, C 0 = some X ∧ TRel φ t x X
 | t :: u :: ts, x, C => (∃ X, C 0 = some X ∧ TRel φ t x.1 X) ∧ CRel φ (u :: ts) x.2 (fun j => C (j + 1))
end
def RowsAt (φ : Nat → Nat → Option Value) (e : List Ty) (L : List (rowDen e)) (C : Nat → Option Value) : Prop := ∀ i, i < L.length → CRel φ e (rowAt e L i) (fun j => C (i * e.length + j))

def subφ (φ φ' : Nat → Nat → Option Value) : Prop := ∀ B k v, φ B k = some v → φ' B k = some v
mutual
theorem TRel.mono {φ φ' : Nat → Nat → Option Value} (h : subφ φ φ') : ∀ (t : Ty) (x : t.den) (X : Value), TRel φ t x X → TRel φ' t x X
 | .int _, _, _, r => by rw [TRel] at r ⊢; exact r
 | .bool, _, _, r => by rw [TRel] at r ⊢; exact r
 | .str, _, _, r => by rw [TRel] at r ⊢; exact r
 | .lst e, L, X, r => by
  rw [TRel] at r ⊢
  obtain ⟨a, c, h1, h2, h3, h4⟩ := r
  refine ⟨a, c, h1, h2, h3, fun hp => ?_⟩
  obtain ⟨B, o, h5, h6⟩ := h4 hp
  exact ⟨B, o, h5, fun i hi => CRel.mono h e _ (fun j v hv => h _ _ _ hv) (h6 i hi)⟩
theorem CRel.mono {φ φ' : Nat → Nat → Option Value} (h : subφ φ φ') : ∀ (e : List Ty) (x : rowDen e) {C C' : Nat → Option Value}, (∀ j v, C j = some v → C' j = some v) → CRel φ e x C → CRel φ' e x C'
 | [], _, _, _, _, _ => by rw [CRel]; trivial
 | [t], x, C, C', hc, r => by
  rw [CRel] at r ⊢
  obtain ⟨X, h1, h2⟩ := r
  exact ⟨X, hc _ _ h1, TRel.mono h t _ _ h2⟩
 | t :: u :: ts, x, C, C', hc, r => by
  rw [CRel] at r ⊢
  obtain ⟨⟨X, h1, h2⟩, h3⟩ := r
  exact ⟨⟨X, hc _ _ h1, TRel.mono h t _ _ h2⟩, CRel.mono h (u :: ts) _ (fun j v hv => hc _ _ hv) h3⟩
end
theorem RowsAt.mono {φ φ' : Nat → Nat → Option Value} (h : subφ φ φ') {e : List Ty} {L : List (rowDen e)} {C C' : Nat → Option Value} (hc : ∀ j v, C j = some v → C' j = some v) (r : RowsAt φ e L C) : RowsAt φ' e L C' :=
 fun i hi => CRel.mono h e _ (fun _ _ hv => hc _ _ hv) (r i hi)

mutual
def VRel (ρ : Env) : V → Value → Prop
 | .undef, W => W = .tuple #[]
 | .any, _ => True
 | .bool b, W => W = .bool b
 | .int k n, W => W = .int k n
 | .str s, W => W = .string s
 | .nilp, W => W = .pointer none
 | .nils, W => W = .slice none 0 0
 | .nilm, W => W = .map none
 | .nilf, W => W = .nilFunc
 | .nili, W => W = .nilIface
 | .ptr b o, W => ∃ B O S, ρ b = some ⟨B, O, S⟩ ∧ W = .pointer (some ⟨B, O + o, none⟩)
 | .rptr b i j es, W => ∃ B O S, ρ b = some ⟨B, O, S⟩ ∧ W = .pointer (some ⟨B, O + i * es + j, none⟩)
 | .lptr e L i j, W => ∃ B o, W = .pointer (some ⟨B, o + i * e.length + j, none⟩) ∧ RowsAt ρ.φ e L (fun k => ρ.φ B (o + k))
 | .sl b o len cap x es, W => ∃ B O S cap', ρ b = some ⟨B, O, S⟩ ∧ W = .slice (some ⟨B, O + o, none⟩) len cap' ∧ len ≤ cap ∧ cap ≤ cap' ∧
   (x = true → cap' = cap) ∧ O + o + cap' * es ≤ S
 | .rs b lo len cap x es, W => ∃ a cap', W = .slice a len cap' ∧ len ≤ cap ∧ cap ≤ cap' ∧ (x = true → cap' = cap) ∧ (a = none → cap' = 0) ∧
   (0 < cap' → ∃ B O S, ρ b = some ⟨B, O, S⟩ ∧ a = some ⟨B, O + lo * es, none⟩ ∧ O + lo * es + cap' * es ≤ S)
 | .lst e L cl, W => ∃ a c, W = .slice a L.length c ∧ L.length ≤ c ∧ (cl = true → c = L.length) ∧ (a = none → c = 0) ∧ (0 < L.length → ∃ B o, a = some ⟨B, o, none⟩ ∧ RowsAt ρ.φ e L (fun k => ρ.φ B (o + k)))
 | .arr e L, W => ∃ A, W = .agg A ∧ A.size = L.length * e.length ∧ RowsAt ρ.φ e L (fun k => A[k]?)
 | .map b, W => ∃ B O S, ρ b = some ⟨B, O, S⟩ ∧ W = .map (some B)
 | .fn f first cap, W => ∃ A C, W = .func (.func f) A C ∧ LRel ρ first A.toList ∧ LRel ρ cap C.toList
 | .yld l, W => ∃ B O S, ρ l = some ⟨B, O, S⟩ ∧ W = .func (.yield B) #[] #[]
 | .iface t v, W => ∃ X, W = .iface t X ∧ VRel ρ v X
 | .agg l, W => ∃ A, W = .agg A ∧ LRel ρ l A.toList
 | .tup l, W => ∃ A, W = .tuple A ∧ LRel ρ l A.toList
def LRel (ρ : Env) : List V → List Value → Prop
 | [], W => W = []
 | v :: l, W => ∃ X Y, W = X :: Y ∧ VRel ρ v X ∧ LRel ρ l Y
end

mutual
theorem VRel.up {ρ ρ' : Env} (h : ρ.sub ρ') : ∀ (v : V) (W : Value), VRel ρ v W → VRel ρ' v W
 | .undef, _, r => by simpa only [VRel] using r
 | .any, _, _ => by simp only [VRel]
 | .bool _, _, r => by simpa only [VRel] using r
 | .int _ _, _, r => by simpa only [VRel] using r
 | .str _, _, r => by simpa only [VRel] using r
 | .nilp, _, r => by simpa only [VRel] using r
 | .nils, _, r => by simpa only [VRel] using r
 | .nilm, _, r => by simpa only [VRel] using r
 | .nilf, _, r => by simpa only [VRel] using r
 | .nili, _, r => by simpa only [VRel] using r
 | .ptr b o, _, r => by simp only [VRel] at r ⊢; obtain ⟨B, O, S, h1, h2⟩ := r; exact ⟨B, O, S, h.1 _ _ h1, h2⟩
 | .rptr .., _, r => by simp only [VRel] at r ⊢; obtain ⟨B, O, S, h1, h2⟩ := r; exact ⟨B, O, S, h.1 _ _ h1, h2⟩
 | .lptr e L i j, _, r => by simp only [VRel] at r ⊢; obtain ⟨B, o, h1, h2⟩ := r; exact ⟨B, o, h1, h2.mono h.2 fun _ _ hv => h.2 _ _ _ hv⟩
 | .sl .., _, r => by simp only [VRel] at r ⊢; obtain ⟨B, O, S, c, h1, h2⟩ := r; exact ⟨B, O, S, c, h.1 _ _ h1, h2⟩
 | .rs .., _, r => by
  simp only [VRel] at r ⊢; obtain ⟨a, c, h1, h2, h3, h4, h6, h5⟩ := r
  exact ⟨a, c, h1, h2, h3, h4, h6, fun hp => let ⟨B, O, S, g1, g2⟩ := h5 hp; ⟨B, O, S, h.1 _ _ g1, g2⟩⟩
 | .lst .., _, r => by
  simp only [VRel] at r ⊢; obtain ⟨a, c, h1, h2, h3, h5, h4⟩ := r
  exact ⟨a, c, h1, h2, h3, h5, fun hp => let ⟨B, o, g1, g2⟩ := h4 hp; ⟨B, o, g1, g2.mono h.2 fun _ _ hv => h.2 _ _ _ hv⟩⟩
 | .arr .., _, r => by simp only [VRel] at r ⊢; obtain ⟨A, h1, h2, h3⟩ := r; exact ⟨A, h1, h2, h3.mono h.2 fun _ _ hv => hv⟩
 | .map b, _, r => by simp only [VRel] at r ⊢; obtain ⟨B, O, S, h1, h2⟩ := r; exact ⟨B, O, S, h.1 _ _ h1, h2⟩
 | .yld b, _, r => by simp only [VRel] at r ⊢; obtain ⟨B, O, S, h1, h2⟩ := r; exact ⟨B, O, S, h.1 _ _ h1, h2⟩
 | .fn f a c, _, r => by
  simp only [VRel] at r ⊢; obtain ⟨A, C, h1, h2, h3⟩ := r; exact ⟨A, C, h1, LRel.up h a _ h2, LRel.up h c _ h3⟩
 | .iface t v, _, r => by simp only [VRel] at r ⊢; obtain ⟨X, h1, h2⟩ := r; exact ⟨X, h1, VRel.up h v _ h2⟩
 | .agg l, _, r => by simp only [VRel] at r ⊢; obtain ⟨X, h1, h2⟩ := r; exact ⟨X, h1, LRel.up h l _ h2⟩
 | .tup l, _, r => by simp only [VRel] at r ⊢; obtain ⟨X, h1, h2⟩ := r; exact ⟨X, h1, LRel.up h l _ h2⟩
theorem LRel.up {ρ ρ' : Env} (h : ρ.sub ρ') : ∀ (l : List V) (W : List Value), LRel ρ l W → LRel ρ' l W
 | [], _, r => by simpa only [LRel] using r
 | v :: l, _, r => by
  simp only [LRel] at r ⊢; obtain ⟨X, Y, h1, h2, h3⟩ := r; exact ⟨X, Y, h1, VRel.up h v _ h2, LRel.up h l _ h3⟩
end

theorem VRel.mono {ρ ρ' : Env} (h : ρ.le ρ') (v : V) (W : Value) (r : VRel ρ v W) : VRel ρ' v W := VRel.up h.sub v W r
theorem LRel.mono {ρ ρ' : Env} (h : ρ.le ρ') (l : List V) (W : List Value) (r : LRel ρ l W) : LRel ρ' l W := LRel.up h.sub l W r
theorem LRel.nil {ρ : Env} : LRel ρ [] [] := rfl
theorem LRel.cons {ρ : Env} {v : V} {l : List V} {X : Value} {Y : List Value} (h : VRel ρ v X) (k : LRel ρ l Y) : LRel ρ (v :: l) (X :: Y) := ⟨X, Y, rfl, h, k⟩
theorem LRel.length {ρ : Env} : ∀ {l : List V} {W : List Value}, LRel ρ l W → l.length = W.length
 | [], _, r => by simp only [LRel] at r; subst r; rfl
 | _ :: _, _, r => by simp only [LRel] at r; obtain ⟨X, Y, rfl, _, h3⟩ := r; simp [LRel.length h3]
theorem LRel.get {ρ : Env} : ∀ {l : List V} {W : List Value}, LRel ρ l W → ∀ {i : Nat} {v : V}, l[i]? = some v → ∃ X, W[i]? = some X ∧ VRel ρ v X
 | [], _, r, i, v, hi => by simp at hi
 | a :: l, _, r, i, v, hi => by
  simp only [LRel] at r; obtain ⟨X, Y, rfl, h2, h3⟩ := r
  cases i with
  | zero => simp at hi; subst hi; exact ⟨X, rfl, h2⟩
  | succ i => simp at hi; simpa using LRel.get h3 hi
theorem LRel.append {ρ : Env} : ∀ {l : List V} {W : List Value} {m : List V} {U : List Value}, LRel ρ l W → LRel ρ m U → LRel ρ (l ++ m) (W ++ U)
 | [], _, _, _, r, k => by simp only [LRel] at r; subst r; exact k
 | a :: l, _, _, _, r, k => by
  simp only [LRel] at r; obtain ⟨X, Y, rfl, h2, h3⟩ := r
  exact LRel.cons h2 (LRel.append h3 k)
theorem LRel.set {ρ : Env} : ∀ {l : List V} {W : List Value}, LRel ρ l W → ∀ {i : Nat} {v : V} {X : Value}, VRel ρ v X → LRel ρ (l.set i v) (W.set i X)
 | [], _, r, i, v, X, hv => by simp only [LRel] at r; subst r; exact LRel.nil
 | a :: l, _, r, i, v, X, hv => by
  simp only [LRel] at r; obtain ⟨Y, Z, rfl, h2, h3⟩ := r
  cases i with
  | zero => exact LRel.cons hv h3
  | succ i => exact LRel.cons h2 (LRel.set h3 hv)
theorem LRel.take {ρ : Env} : ∀ {l : List V} {W : List Value}, LRel ρ l W → ∀ n, LRel ρ (l.take n) (W.take n)
 | [], _, r, n => by simp only [LRel] at r; subst r; simp [LRel.nil]
 | a :: l, _, r, n => by
  simp only [LRel] at r; obtain ⟨X, Y, rfl, h2, h3⟩ := r
  cases n with
  | zero => exact LRel.nil
  | succ n => exact LRel.cons h2 (LRel.take h3 n)
theorem LRel.drop {ρ : Env} : ∀ {l : List V} {W : List Value}, LRel ρ l W → ∀ n, LRel ρ (l.drop n) (W.drop n)
 | [], _, r, n => by simp only [LRel] at r; subst r; simp [LRel.nil]
 | a :: l, _, r, n => by
  simp only [LRel] at r; obtain ⟨X, Y, rfl, h2, h3⟩ := r
  cases n with
  | zero => exact LRel.cons h2 h3
  | succ n => exact LRel.drop h3 n
theorem LRel.replicate {ρ : Env} {v : V} {X : Value} (h : VRel ρ v X) : ∀ n, LRel ρ (List.replicate n v) (List.replicate n X)
 | 0 => LRel.nil
 | n + 1 => LRel.cons h (LRel.replicate h n)
theorem LRel.of_get {ρ : Env} : ∀ {l : List V} {W : List Value}, l.length = W.length → (∀ (i : Nat) (v : V), l[i]? = some v → ∃ X, W[i]? = some X ∧ VRel ρ v X) → LRel ρ l W
 | [], [], _, _ => LRel.nil
 | [], _ :: _, h, _ => by simp at h
 | a :: l, [], h, _ => by simp at h
 | a :: l, X :: Y, h, hg => by
  obtain ⟨X', h1, h2⟩ := hg 0 a rfl
  simp at h1; subst h1
  exact LRel.cons h2 (LRel.of_get (by simpa using h) fun i v hi => by simpa using hg (i + 1) v (by simpa using hi))

structure Frm where
 n : Nat
 t : B V
def FRel (ρ : Env) (f : Frm) (A : Array Value) : Prop :=
 f.n = A.size ∧ ∃ d, f.t.full d ∧ f.n ≤ 2 ^ d ∧ ∀ (i : Nat) (X : Value), A[i]? = some X → VRel ρ (f.t.get i) X
theorem FRel.up {ρ ρ' : Env} (h : ρ.sub ρ') {f : Frm} {A : Array Value} (r : FRel ρ f A) : FRel ρ' f A := by
 obtain ⟨h1, d, h2, h3, h4⟩ := r
 exact ⟨h1, d, h2, h3, fun i X hi => VRel.up h _ _ (h4 i X hi)⟩
theorem FRel.mono {ρ ρ' : Env} (h : ρ.le ρ') {f : Frm} {A : Array Value} (r : FRel ρ f A) : FRel ρ' f A := r.up h.sub

def toV : (t : Ty) → t.den → V
 | .int k, n => .int k n
 | .bool, b => .bool b
 | .str, s => .str s
 | .lst e, L => .lst e L false
def pmV (k t : Ty) (M : List (k.den × t.den × Nat)) : List (V × V × Nat) := M.map fun m => (toV k m.1, toV t m.2.1, m.2.2)

structure ELoop where
 state : LoopState
 pending : Option Code
 tmps : Frm
 params : List Tmp
 assign : Code
 body : Code
 defers : Nat

inductive EObj where
 | cells (cs : List V) (t : TypeId) (ish : Bool)
 | map (es : List (V × V × Nat)) (clock : Nat)
 | loop (r : ELoop)
 | dfr (shut : Bool)
 | rows (e : List Ty) (L : List (rowDen e)) (t : TypeId) (ish : Bool)
 | pm (k t : Ty) (M : List (k.den × t.den × Nat)) (clock : Nat)
 | mit (m since : Nat) (seen : List Nat) (clock : Nat)

structure St where
 heap : T EObj
 next : Nat

def MRel (ρ : Env) : List (V × V × Nat) → List MapEntry → Prop
 | [], E => E = []
 | e :: l, E => ∃ x y, E = x :: y ∧ VRel ρ e.1 x.key ∧ VRel ρ e.2.1 x.val ∧ e.2.2 = x.born ∧ MRel ρ l y
theorem MRel.up {ρ ρ' : Env} (h : ρ.sub ρ') : ∀ {l : List (V × V × Nat)} {E : List MapEntry}, MRel ρ l E → MRel ρ' l E
 | [], _, r => r
 | _ :: _, _, r => by
  simp only [MRel] at r ⊢; obtain ⟨x, y, h1, h2, h3, h4, h5⟩ := r
  exact ⟨x, y, h1, VRel.up h _ _ h2, VRel.up h _ _ h3, h4, MRel.up h h5⟩
theorem MRel.mono {ρ ρ' : Env} (h : ρ.le ρ') {l : List (V × V × Nat)} {E : List MapEntry} (r : MRel ρ l E) : MRel ρ' l E := MRel.up h.sub r

def ORel (ρ : Env) (O S : Nat) (X : Option Obj) : EObj → Prop
 | .cells cs _ ish => ∃ C t fr, X = some (.cells C t fr) ∧ C.size = S ∧ O + cs.length ≤ S ∧
   (∀ (i : Nat) (v : V), cs[i]? = some v → ∃ W, C[O + i]? = some W ∧ VRel ρ v W) ∧ (∀ k, k < S → (decide (fr.1 ≤ k) && decide (k < fr.2)) = false) ∧ (ish = false → fr = (0, 0))
 | .map es clock => ∃ E, X = some (.map E clock) ∧ MRel ρ es E.toList
 | .pm k t M clock => ∃ E, X = some (.map E clock) ∧ MRel ρ (pmV k t M) E.toList
 | .mit m since seen clock => O = 0 ∧ ∃ y, ρ m = some y ∧ X = some (.mapIter (some y.B) since seen.reverse.toArray clock)
 | .loop r => ∃ L D, X = some (.loop L) ∧ L.state = r.state ∧ L.pending = r.pending ∧ FRel ρ r.tmps L.tmps ∧ L.params.toList = r.params ∧
   L.assign = r.assign ∧ L.body = r.body ∧ ρ r.defers = some D ∧ L.defers = D.B
 | .dfr shut => X = some (.deferred (if shut then none else some []))
 | .rows e L _ ish => ∃ C t fr, X = some (.cells C t fr) ∧ C.size = S ∧ O + L.length * e.length ≤ S ∧ RowsAt ρ.φ e L (fun k => C[O + k]?) ∧
   (∀ k, k < S → (decide (fr.1 ≤ k) && decide (k < fr.2)) = false) ∧ (ish = false → fr = (0, 0))
theorem ORel.up {ρ ρ' : Env} (h : ρ.sub ρ') {O S : Nat} {X : Option Obj} : ∀ {o : EObj}, ORel ρ O S X o → ORel ρ' O S X o
 | .cells .., r => by
  obtain ⟨C, t, fr, h1, h2, h3, h4, h5⟩ := r
  exact ⟨C, t, fr, h1, h2, h3, fun i v hi => let ⟨W, a, b⟩ := h4 i v hi; ⟨W, a, VRel.up h _ _ b⟩, h5⟩
 | .map .., r => by obtain ⟨E, h1, h2⟩ := r; exact ⟨E, h1, MRel.up h h2⟩
 | .pm .., r => by obtain ⟨E, h1, h2⟩ := r; exact ⟨E, h1, MRel.up h h2⟩
 | .mit .., r => by obtain ⟨h0, y, h1, h2⟩ := r; exact ⟨h0, y, h.1 _ _ h1, h2⟩
 | .loop _, r => by
  obtain ⟨L, D, h1, h2, h3, h4, h5, h6, h7, h8, h9⟩ := r
  exact ⟨L, D, h1, h2, h3, h4.up h, h5, h6, h7, h.1 _ _ h8, h9⟩
 | .dfr _, r => r
 | .rows .., r => by obtain ⟨C, t, fr, h1, h2, h3, h4, h5⟩ := r; exact ⟨C, t, fr, h1, h2, h3, h4.mono h.2 fun _ _ hv => hv, h5⟩
theorem ORel.mono {ρ ρ' : Env} (h : ρ.le ρ') {O S : Nat} {X : Option Obj} {o : EObj} (r : ORel ρ O S X o) : ORel ρ' O S X o := ORel.up h.sub r

structure Own where
 p : Nat → Prop
 φ : Nat → Nat → Option Value
instance : CoeFun Own (fun _ => Nat → Prop) := ⟨Own.p⟩
structure Fr (own : Own) (w w' : World) : Prop where
 os : w'.os = w.os
 tape : w'.tape = w.tape
 output : w'.output = w.output
 size : w.heap.size ≤ w'.heap.size
 block : ∀ k, ¬ own k → w'.heap[k]? = w.heap[k]?
theorem Fr.refl (own : Own) (w : World) : Fr own w w := ⟨rfl, rfl, rfl, Nat.le_refl _, fun _ _ => rfl⟩
theorem Fr.trans {own : Own} {a b c : World} (h : Fr own a b) (k : Fr own b c) : Fr own a c :=
 ⟨k.os.trans h.os, k.tape.trans h.tape, k.output.trans h.output, Nat.le_trans h.size k.size, fun i hi => (k.block i hi).trans (h.block i hi)⟩

structure SRel (own : Own) (ρ : Env) (s : St) (w : World) : Prop where
 le : ∀ B, w.heap.size ≤ B → own B
 obj : ∀ b o x, s.heap.get b = some o → ρ b = some x → (own x.B ∧ ∀ k, ρ.φ x.B k = none) ∧ ORel ρ x.O x.S w.heap[x.B]? o
 inj : ∀ b b' o o' x x', s.heap.get b = some o → s.heap.get b' = some o' → ρ b = some x → ρ b' = some x' → b ≠ b' → x.B ≠ x'.B
 dom : ∀ b x, ρ b = some x → b < s.next
 top : ρ.n ≤ s.next
 fz : ∀ B k v, ρ.φ B k = some v → w.cell? ⟨B, k, none⟩ = some v
 old : ∀ B k, ¬ own B → ρ.φ B k = own.φ B k
section
variable {own : Own}
theorem SRel.obj' {ρ : Env} {s : St} {w : World} (h : SRel own ρ s w) {b : Nat} {o : EObj} (hb : s.heap.get b = some o) {x : Blk} (hx : ρ b = some x) :
  ∃ y, ρ b = some y ∧ (own y.B ∧ ∀ k, ρ.φ y.B k = none) ∧ ORel ρ y.O y.S w.heap[y.B]? o := ⟨x, hx, h.obj b o x hb hx⟩
theorem SRel.φnew {ρ : Env} {s : St} {w : World} (h : SRel own ρ s w) (k : Nat) : ρ.φ w.heap.size k = none := by
 cases e : ρ.φ w.heap.size k with
 | none => rfl
 | some v => have := h.fz _ _ _ e; simp [World.cell?] at this

theorem ORel.ne_none {ρ : Env} {O S : Nat} {X : Option Obj} {o : EObj} (h : ORel ρ O S X o) : X ≠ none := by
 cases o with
 | cells => obtain ⟨_, _, _, h, _⟩ := h; simp [h]
 | map => obtain ⟨_, h, _⟩ := h; simp [h]
 | pm => obtain ⟨_, h, _⟩ := h; simp [h]
 | mit => obtain ⟨_, _, _, h⟩ := h; simp [h]
 | loop => obtain ⟨_, _, h, _⟩ := h; simp [h]
 | dfr => intro e; rw [ORel] at h; rw [h] at e; cases e
 | rows => obtain ⟨_, _, _, h, _⟩ := h; simp [h]

theorem SRel.lt {ρ : Env} {s : St} {w : World} (h : SRel own ρ s w) {b : Nat} {o : EObj} {x : Blk} (hb : s.heap.get b = some o) (hx : ρ b = some x) : x.B < w.heap.size := by
 obtain ⟨y, h1, _, h3⟩ := h.obj' hb hx
 rw [hx] at h1
 cases h1
 exact Nat.lt_of_not_le fun hle => h3.ne_none (Array.getElem?_eq_none hle)

def Env.put (ρ : Env) (b : Nat) (x : Blk) : Env := ⟨fun k => if k = b then some x else ρ k, max ρ.n (b + 1), ρ.φ⟩
theorem Env.sub_put {ρ : Env} {b : Nat} (x : Blk) (h : ρ b = none) : ρ.sub (ρ.put b x) := ⟨fun k y e => by
  simp only [Env.put]; split
  · subst k; rw [h] at e; cases e
  · exact e, fun _ _ _ e => e⟩
theorem Env.le_put {ρ : Env} {b : Nat} (x : Blk) (h : ρ b = none ∧ ρ.n ≤ b) : ρ.le (ρ.put b x) :=
 ⟨Env.sub_put x h.1, Nat.le_max_left _ _, fun k hk e => by
   simp only [Env.put]; rw [if_neg (by omega)]; exact e⟩
theorem Env.put_same {ρ : Env} {b : Nat} {x : Blk} : ρ.put b x b = some x := by simp [Env.put]
theorem Env.put_ne {ρ : Env} {b k : Nat} {x : Blk} (h : k ≠ b) : ρ.put b x k = ρ k := by simp [Env.put, h]

theorem SRel.fresh {ρ : Env} {s : St} {w : World} (h : SRel own ρ s w) : ρ s.next = none ∧ ρ.n ≤ s.next := by
 refine ⟨?_, h.top⟩
 cases e : ρ s.next with
 | none => rfl
 | some x => exact absurd (h.dom _ _ e) (Nat.lt_irrefl _)

def St.new (s : St) (o : EObj) : St := ⟨s.heap.set s.next (some o), s.next + 1⟩
def St.upd (s : St) (b : Nat) (o : EObj) : St := ⟨s.heap.set b (some o), s.next⟩

theorem cell_of_block {w w' : World} {B k : Nat} (h : w'.heap[B]? = w.heap[B]?) : w'.cell? ⟨B, k, none⟩ = w.cell? ⟨B, k, none⟩ := by
 simp only [World.cell?, h]
theorem SRel.fz_of {ρ : Env} {s : St} {w w' : World} (h : SRel own ρ s w) (hh : ∀ B, (∀ k, w.cell? ⟨B, k, none⟩ = none) ∨ (∀ k, ρ.φ B k = none) ∨ w'.heap[B]? = w.heap[B]?) :
  ∀ B k v, ρ.φ B k = some v → w'.cell? ⟨B, k, none⟩ = some v := by
 intro B k v e
 rcases hh B with h1 | h1 | h1
 ·have := h.fz B k v e; rw [h1] at this; cases this
 ·rw [h1] at e; cases e
 ·rw [cell_of_block h1]; exact h.fz B k v e

theorem SRel.new {ρ : Env} {s : St} {w w' : World} (h : SRel own ρ s w) (o : EObj) (X : Obj) (S : Nat) (hw : w'.heap = w.heap.push X)
  (ho : ORel (ρ.put s.next ⟨w.heap.size, 0, S⟩) 0 S (some X) o) :
  SRel own (ρ.put s.next ⟨w.heap.size, 0, S⟩) (s.new o) w' := by
 have hle := Env.le_put ⟨w.heap.size, 0, S⟩ h.fresh
 refine ⟨fun B hB => h.le B (by rw [hw] at hB; simp at hB; omega), ?_, ?_, ?_, by simp only [Env.put, St.new]; have := h.top; omega, ?_, h.old⟩
 ·intro b o' y hb hy
  simp only [St.new, T.get_set] at hb
  split at hb
  ·rename_i e; subst e; cases hb
   rw [Env.put_same] at hy; cases hy
   exact ⟨⟨h.le _ (Nat.le_refl _), h.φnew⟩, by rw [hw]; simpa using ho⟩
  ·rename_i e
   rw [Env.put_ne e] at hy
   obtain ⟨x, h1, h2, h3⟩ := h.obj' hb hy
   rw [hy] at h1; cases h1
   have hlt := h.lt hb hy
   refine ⟨h2, ?_⟩
   rw [hw, Array.getElem?_push, if_neg (by omega)]
   exact h3.mono hle
 ·intro b b' o1 o2 x x' hb hb' hx hx' hne
  simp only [St.new, T.get_set] at hb hb'
  simp only [Env.put] at hx hx'
  by_cases e : b = s.next
  ·subst e
   have e' : b' ≠ s.next := fun e => hne e.symm
   simp only [e', if_false] at hb' hx'
   simp only [if_true] at hx
   cases hx
   have := h.lt hb' hx'
   simp only; omega
  ·simp only [e, if_false] at hb hx
   by_cases e' : b' = s.next
   ·subst e'
    simp only [if_true] at hx'
    cases hx'
    have := h.lt hb hx
    simp only; omega
   ·simp only [e', if_false] at hb' hx'
    exact h.inj b b' o1 o2 x x' hb hb' hx hx' hne
 ·intro b x hx
  simp only [Env.put] at hx
  show b < s.next + 1
  split at hx
  ·omega
  ·have := h.dom b x hx; omega
 ·refine SRel.fz_of (own := own) (ρ := ρ) (s := s) (w := w) h fun B => ?_
  rcases Nat.lt_or_ge B w.heap.size with hB | hB
  ·exact .inr (.inr (by rw [hw, Array.getElem?_push, if_neg (by omega)]))
  ·exact .inl fun k => by simp [World.cell?, Array.getElem?_eq_none hB]

theorem SRel.upd {ρ : Env} {s : St} {w w' : World} (h : SRel own ρ s w) {b : Nat} {o : EObj} {x : Blk} (hb : s.heap.get b = some o) (hx : ρ b = some x)
  (o1 : EObj) (X : Obj) (hw : w'.heap = w.heap.setIfInBounds x.B X) (ho : ORel ρ x.O x.S (some X) o1) : SRel own ρ (s.upd b o1) w' := by
 have hlt := h.lt hb hx
 refine ⟨by rw [hw]; simpa using h.le, ?_, ?_, h.dom, h.top, ?_, h.old⟩
 ·intro b' o' y hb' hy
  simp only [St.upd, T.get_set] at hb'
  split at hb'
  ·rename_i e; subst e; cases hb'
   obtain ⟨h2, _⟩ := h.obj _ _ _ hb hx
   rw [hx] at hy; cases hy
   exact ⟨h2, by rw [hw]; simpa [hlt] using ho⟩
  ·rename_i e
   have h1 := hy
   obtain ⟨h2, h3⟩ := h.obj b' o' y hb' hy
   refine ⟨h2, ?_⟩
   have := h.inj b' b _ _ y x hb' hb h1 hx e
   rw [hw, Array.getElem?_setIfInBounds_ne (fun k => this k.symm)]
   exact h3
 ·intro b1 b2 o1' o2' x1 x2 h1 h2 hx1 hx2 hne
  simp only [St.upd, T.get_set] at h1 h2
  have g : ∀ k v, (if k = b then some o1 else s.heap.get k) = some v → ∃ v', s.heap.get k = some v' := by
   intro k v hk
   split at hk
   ·rename_i e; subst e; exact ⟨_, hb⟩
   ·exact ⟨_, hk⟩
  obtain ⟨v1, g1⟩ := g _ _ h1
  obtain ⟨v2, g2⟩ := g _ _ h2
  exact h.inj b1 b2 v1 v2 x1 x2 g1 g2 hx1 hx2 hne
 ·refine SRel.fz_of (own := own) (ρ := ρ) (s := s) (w := w) h fun B => ?_
  by_cases e : x.B = B
  ·exact .inr (.inl (e ▸ (h.obj _ _ _ hb hx).1.2))
  ·exact .inr (.inr (by rw [hw, Array.getElem?_setIfInBounds_ne e]))

theorem SRel.fill {ρ : Env} {s : St} {w w' : World} (h : SRel own ρ s w) {b : Nat} {o : EObj} (hb : s.heap.get b = some o) (hn : ρ b = none) (hlt : b < s.next) (X : Obj) (S : Nat) (hw : w'.heap = w.heap.push X)
  (ho : ORel (ρ.put b ⟨w.heap.size, 0, S⟩) 0 S (some X) o) : SRel own (ρ.put b ⟨w.heap.size, 0, S⟩) s w' := by
 have hle := Env.sub_put ⟨w.heap.size, 0, S⟩ hn
 refine ⟨fun B hB => h.le B (by rw [hw] at hB; simp at hB; omega), ?_, ?_, ?_, by simp only [Env.put]; have := h.top; omega, ?_, h.old⟩
 ·intro k o' y hk hy
  by_cases e : k = b
  ·subst e
   rw [hb] at hk; cases hk
   rw [Env.put_same] at hy; cases hy
   exact ⟨⟨h.le _ (Nat.le_refl _), h.φnew⟩, by rw [hw]; simpa using ho⟩
  ·rw [Env.put_ne e] at hy
   obtain ⟨h2, h3⟩ := h.obj k o' y hk hy
   have hl := h.lt hk hy
   refine ⟨h2, ?_⟩
   rw [hw, Array.getElem?_push, if_neg (by omega)]
   exact h3.up hle
 ·intro k k' o1 o2 x x' hk hk' hx hx' hne
  by_cases e : k = b
  ·subst e
   have e' : k' ≠ k := fun e => hne e.symm
   rw [Env.put_same] at hx; cases hx
   rw [Env.put_ne e'] at hx'
   have := h.lt hk' hx'
   simp only; omega
  ·rw [Env.put_ne e] at hx
   by_cases e' : k' = b
   ·subst e'
    rw [Env.put_same] at hx'; cases hx'
    have := h.lt hk hx
    simp only; omega
   ·rw [Env.put_ne e'] at hx'
    exact h.inj k k' o1 o2 x x' hk hk' hx hx' hne
 ·intro k x hx
  by_cases e : k = b
  ·subst e; exact hlt
  ·rw [Env.put_ne e] at hx; exact h.dom k x hx
 ·refine SRel.fz_of (own := own) (ρ := ρ) (s := s) (w := w) h fun B => ?_
  rcases Nat.lt_or_ge B w.heap.size with hB | hB
  ·exact .inr (.inr (by rw [hw, Array.getElem?_push, if_neg (by omega)]))
  ·exact .inl fun k => by simp [World.cell?, Array.getElem?_eq_none hB]

theorem SRel.ahead {ρ : Env} {s s1 : St} {w : World} (h : SRel own ρ s w) (h1 : ∀ b, b < s.next → s1.heap.get b = s.heap.get b) (h2 : s.next ≤ s1.next) : SRel own ⟨ρ.f, s1.next, ρ.φ⟩ s1 w := by
 have key : ∀ k o x, s1.heap.get k = some o → ρ k = some x → s.heap.get k = some o := fun k o x hk hx => by rw [← h1 k (h.dom k x hx)]; exact hk
 have hsub : ρ.sub ⟨ρ.f, s1.next, ρ.φ⟩ := ⟨fun _ _ e => e, fun _ _ _ e => e⟩
 refine ⟨h.le, fun k o x hk hx => ?_, fun k k' o1 o2 x x' hk hk' hx hx' hne => h.inj k k' o1 o2 x x' (key k o1 x hk hx) (key k' o2 x' hk' hx') hx hx' hne, fun k x hx => Nat.lt_of_lt_of_le (h.dom k x hx) h2, Nat.le_refl _, h.fz, h.old⟩
 obtain ⟨g1, g2⟩ := h.obj k o x (key k o x hk hx) hx
 exact ⟨g1, g2.up hsub⟩

theorem SRel.same {ρ : Env} {s : St} {w w' : World} (h : SRel own ρ s w) (hw : w'.heap = w.heap) : SRel own ρ s w' :=
 ⟨by rw [hw]; exact h.le, by rw [hw]; exact h.obj, h.inj, h.dom, h.top, fun B k v e => by rw [cell_of_block (w := w) (by rw [hw])]; exact h.fz B k v e, h.old⟩

theorem fr_new {w w' : World} {X : Obj} (h : ∀ B, w.heap.size ≤ B → own B) (hw : w' = { w with heap := w.heap.push X }) : Fr own w w' := by
 subst hw
 refine ⟨rfl, rfl, rfl, by simp, fun k hk => ?_⟩
 simp only [Array.getElem?_push]
 rw [if_neg (fun e => hk (h k (by omega)))]
theorem fr_set {w w' : World} {B : Nat} {X : Obj} (h : own B) (hw : w' = { w with heap := w.heap.setIfInBounds B X }) : Fr own w w' := by
 subst hw
 refine ⟨rfl, rfl, rfl, by simp, fun k hk => ?_⟩
 simp only
 rw [Array.getElem?_setIfInBounds_ne (fun e => hk (by rw [← e]; exact h))]
end
end Go.Sym
end

noncomputable section
namespace Go.Sym

def andB (b : Bool) (q : Prop) : Prop := @Bool.rec (fun _ => Prop) False q b
def iteB (b : Bool) (p q : Prop) : Prop := @Bool.rec (fun _ => Prop) q p b
def allB : List Bool → Prop
 | [] => True
 | b :: l => b = true ∧ allB l
theorem andB_iff (b : Bool) (q : Prop) : andB b q ↔ b = true ∧ q := by cases b <;> simp [andB]
theorem iteB_iff (b : Bool) (p q : Prop) : iteB b p q ↔ (b = true → p) ∧ (b = false → q) := by cases b <;> simp [iteB]
theorem allB_append : ∀ (l m : List Bool), allB (l ++ m) ↔ allB l ∧ allB m
 | [], m => by simp [allB]
 | b :: l, m => by simp only [List.cons_append, allB, allB_append l m, and_assoc]
abbrev Qr := Option (List Bool × V)
def ok0 (v : V) : Qr := some ([], v)
def okO : Option V → Qr
 | some v => some ([], v)
 | none => none

def cellsO : V → Option (List V)
 | .agg l => some l
 | .arr .. => none
 | .any => none
 | v => some [v]
def oneV : V → Bool
 | .agg _ | .tup _ | .undef | .arr .. | .any => false
 | _ => true

def rowV : (e : List Ty) → rowDen e → List V
 | [], _ => []
 | [t], x => [toV t x]
 | t :: u :: ts, x => toV t x.1 :: rowV (u :: ts) x.2
mutual
def Ty.beq : Ty → Ty → Bool
 | .int k, .int k' => kEq k k'
 | .bool, .bool => true
 | .str, .str => true
 | .lst e, .lst e' => beqL e e'
 | _, _ => false
def beqL : List Ty → List Ty → Bool
 | [], [] => true
 | t :: ts, u :: us => Ty.beq t u && beqL ts us
 | _, _ => false
end
mutual
theorem Ty.beq_eq : ∀ (a b : Ty), Ty.beq a b = true → a = b
 | .int k, b, h => by
  cases b <;> simp only [Ty.beq, Bool.false_eq_true] at h
  rw [kEq_iff] at h; simp at h; rw [h]
 | .bool, b, h => by cases b <;> simp only [Ty.beq, Bool.false_eq_true] at h; rfl
 | .str, b, h => by cases b <;> simp only [Ty.beq, Bool.false_eq_true] at h; rfl
 | .lst e, b, h => by
  cases b <;> simp only [Ty.beq, Bool.false_eq_true] at h
  rw [beqL_eq e _ h]
theorem beqL_eq : ∀ (a b : List Ty), beqL a b = true → a = b
 | [], b, h => by cases b <;> simp only [beqL, Bool.false_eq_true] at h; rfl
 | t :: ts, b, h => by
  cases b <;> simp only [beqL, Bool.false_eq_true, Bool.and_eq_true] at h
  rw [Ty.beq_eq t _ h.1, beqL_eq ts _ h.2]
end
def castL {e e' : List Ty} (h : e' = e) (L : List (rowDen e')) : List (rowDen e) := @Eq.rec (List Ty) e' (fun x _ => List (rowDen x)) L e h
def asL (e e' : List Ty) (L : List (rowDen e')) : Option (List (rowDen e)) :=
 if h : beqL e' e = true then some (castL (beqL_eq e' e h) L) else none
def ofInt (k : IntKind) (v : V) : Option Int := match v with
 | .int k' n => bif kEq k k' then some n else none
 | _ => none
def ofBool (v : V) : Option Bool := match v with
 | .bool b => some b
 | _ => none
def ofStr (v : V) : Option ByteArray := match v with
 | .str s => some s
 | _ => none
def ofLst (e : List Ty) (v : V) : Option (List (rowDen e)) := match v with
 | .lst e' L _ => asL e e' L
 | .nils => some []
 | _ => none
def ofV : (t : Ty) → V → Option t.den
 | .int k, v => ofInt k v
 | .bool, v => ofBool v
 | .str, v => ofStr v
 | .lst e, v => ofLst e v
def pairO {α β : Type} (x : Option α) (y : Option β) : Option (α × β) := match x, y with
 | some x, some y => some (x, y)
 | _, _ => none
def oneO {α : Type} (f : V → Option α) (l : List V) : Option α := match l with
 | [v] => f v
 | _ => none
def consO {α β : Type} (f : V → Option α) (g : List V → Option β) (l : List V) : Option (α × β) := match l with
 | v :: vs => pairO (f v) (g vs)
 | [] => none
def nilO (l : List V) : Option Unit := match l with
 | [] => some ()
 | _ => none
def ofRow : (e : List Ty) → List V → Option (rowDen e)
 | [], l => nilO l
 | [t], l => oneO (ofV t) l
 | t :: u :: ts, l => consO (ofV t) (ofRow (u :: ts)) l
def ofRows (e : List Ty) : Nat → List V → Option (List (rowDen e))
 | 0, l => (match l with
   | [] => some []
   | _ => none)
 | n + 1, l => match ofRow e (ltake l e.length), ofRows e n (ldrop l e.length) with
  | some x, some y => some (x :: y)
  | _, _ => none
def bAt (s : ByteArray) (i : Nat) : Int := ((s.data.toList.getD i 0).toNat : Int)
def strOf (l : List Int) : ByteArray := ⟨(l.map fun n => UInt8.ofNat n.toNat).toArray⟩
def bytesL (s : ByteArray) : List Int := s.data.toList.map fun b => (b.toNat : Int)
def sEq (a b : ByteArray) : Bool := decide (a = b)
def sLt (a b : ByteArray) : Bool := Op.bytesLess a.data.toList b.data.toList

def ofCell : Value → Option V
 | .bool b => some (.bool b)
 | .int k n => some (.int k n)
 | .string s => some (.str s)
 | .pointer none => some .nilp
 | .slice none 0 0 => some .nils
 | .map none => some .nilm
 | .nilFunc => some .nilf
 | .nilIface => some .nili
 | _ => none
def ofCells : List Value → Option (List V)
 | [] => some []
 | v :: l => match ofCell v with
  | some x => match ofCells l with
   | some y => some (x :: y)
   | none => none
  | none => none
def ofVal : Value → Option V
 | .agg cs => match ofCells cs.toList with
  | some l => some (.agg l)
  | none => none
 | .tuple cs => match cs.toList with
  | [] => some .undef
  | _ => none
 | v => ofCell v

def evalOs (ev : Operand → Option V) : List Operand → Option (List V)
 | [] => some []
 | x :: l => match ev x with
  | some v => match evalOs ev l with
   | some vs => some (v :: vs)
   | none => none
  | none => none

noncomputable section
variable (P : Program)

def isAggE (t : TypeId) : Option Bool :=
 match P.underlying t with
 | some (.struct _) => some true
 | some (.array _ _) => some true
 | some _ => some false
 | none => none
def szE (t : TypeId) : Option Nat :=
 match P.info? t with
 | some i => some i.size
 | none => none
def zeroE (t : TypeId) : Option V :=
 match P.info? t with
 | some i => match i.zero with
  | some v => ofVal v
  | none => none
 | none => none

def rowTyE : Nat → TypeId → Option (List Ty)
 | 0, _ => none
 | n + 1, t => match P.underlying t with
  | some (.int k) => some [.int k]
  | some .bool => some [.bool]
  | some .string => some [.str]
  | some (.slice e) => match rowTyE n e with
   | some r => some [.lst r]
   | none => none
  | some (.struct fs) => fs.toList.foldr (fun f r => match rowTyE n f.type, r with
    | some a, some b => some (a ++ b)
    | _, _ => none) (some [])
  | _ => none

def partE (t : TypeId) (l : List V) (off : Nat) : Option V :=
 match isAggE P t with
 | some true => match szE P t with
  | some n => bif Nat.ble (off + n) (llen l) then some (.agg (ltake (ldrop l off) n)) else none
  | none => none
 | some false => lget l off
 | none => none

def cellsAt (s : St) (b : Nat) : Option (List V) :=
 match s.heap.get b with
 | some (.cells cs _ _) => some cs
 | _ => none

def rowsAt (s : St) (b : Nat) : Option ((e : List Ty) × List (rowDen e)) :=
 match s.heap.get b with
 | some (.rows e L _ _) => some ⟨e, L⟩
 | _ => none
def okB (b : Bool) : Option V → Qr
 | some v => some ([b], v)
 | none => none
def qLoad (s : St) (t : TypeId) (a : V) : Qr :=
 match a with
 | .ptr b o => match cellsAt s b with
  | some cs => okO (partE P t cs o)
  | none => none
 | .rptr b i j es => match rowsAt s b with
  | some ⟨e, L⟩ => bif Nat.beq es e.length then
    (match P.underlying t with
    | some (.array n _) => match i, j with
      | 0, 0 => match szE P t with
        | some z => bif Nat.beq z (n * e.length) then some ([decide (L.length = n)], .arr e L) else none
        | none => none
      | _, _ => none
    | _ => okB (decide (i < L.length)) (partE P t (rowV e (rowAt e L i)) j)) else none
  | none => none
 | .lptr e L i j => okB (decide (i < L.length)) (partE P t (rowV e (rowAt e L i)) j)
 | _ => none

def ofI (k : IntKind) (x : Int) : Nat := modN (kM k) x

def cutS : ByteArray → Nat → Nat → ByteArray := hide fun s a b => s.extract a b
theorem cutS_eq (s : ByteArray) (a b : Nat) : cutS s a b = s.extract a b := by unfold cutS; rw [hide_eq]
theorem cutS_size (s : ByteArray) (a b : Nat) : (cutS s a b).size = min b s.size - a := by rw [cutS_eq, ByteArray.size_extract]
def ltI : Int → Int → Bool := hide fun a b => decide (a < b)
def leI : Int → Int → Bool := hide fun a b => decide (a ≤ b)
def inI : Int → Bool := hide fun n => decide (-9223372036854775808 ≤ n ∧ n ≤ 9223372036854775807)
theorem ltI_eq (a b : Int) : ltI a b = decide (a < b) := by unfold ltI; rw [hide_eq]
theorem leI_eq (a b : Int) : leI a b = decide (a ≤ b) := by unfold leI; rw [hide_eq]
theorem inI_eq (n : Int) : inI n = decide (-9223372036854775808 ≤ n ∧ n ≤ 9223372036854775807) := by unfold inI; rw [hide_eq]
def arithE (k : IntKind) (n : Int) : Qr :=
 match k with
 | .i64 => some ([inI n], .int .i64 n)
 | .u64 => some ([], .int .u64 (n % 18446744073709551616))
 | .u32 => some ([], .int .u32 (n % 4294967296))
 | .u16 => some ([], .int .u16 (n % 65536))
 | .u8 => some ([], .int .u8 (n % 256))
 | k => some ([], .int k (k.wrap n))
def quoE (k : IntKind) (a b : Int) : Qr :=
 match k with
 | .i64 => some ([leI 0 a, ltI 0 b, inI a], .int .i64 (a / b))
 | .u64 => some ([leI 0 a, ltI 0 b, ltI a 18446744073709551616], .int .u64 (a / b))
 | .u32 => some ([leI 0 a, ltI 0 b, ltI a 4294967296], .int .u32 (a / b))
 | .u8 => some ([leI 0 a, ltI 0 b, ltI a 256], .int .u8 (a / b))
 | k => some ([!decide (b = 0)], .int k (k.wrap (a.tdiv b)))
def remE (k : IntKind) (a b : Int) : Qr := some ([leI 0 a, ltI 0 b], .int k (a % b))
def intBin (op : BinOp) (k : IntKind) (a b : Int) : Qr :=
 match op with
 | .add => arithE k (a + b)
 | .sub => arithE k (a - b)
 | .mul => arithE k (a * b)
 | .quo => quoE k a b
 | .rem => remE k a b
 | .and => ok0 (.int k (k.wrap (.ofNat (Nat.land (ofI k a) (ofI k b)))))
 | .or => ok0 (.int k (k.wrap (.ofNat (Nat.lor (ofI k a) (ofI k b)))))
 | .xor => ok0 (.int k (k.wrap (.ofNat (Nat.xor (ofI k a) (ofI k b)))))
 | .andNot => ok0 (.int k (k.wrap (.ofNat (Nat.land (ofI k a) (kM k - 1 - ofI k b)))))
 | .eql => ok0 (.bool (decide (a = b)))
 | .neq => ok0 (.bool (!decide (a = b)))
 | .lss => ok0 (.bool (ltI a b))
 | .leq => ok0 (.bool (leI a b))
 | .gtr => ok0 (.bool (ltI b a))
 | .geq => ok0 (.bool (leI b a))
 | _ => none
def shiftE (op : BinOp) (k : IntKind) (a b : Int) : Qr :=
 match op with
 | .shl => match k with
  | .u64 => some ([leI 0 b], .int .u64 ((a * 2 ^ (min b.toNat 64)) % 18446744073709551616))
  | .u32 => some ([leI 0 b], .int .u32 ((a * 2 ^ (min b.toNat 32)) % 4294967296))
  | .u8 => some ([leI 0 b], .int .u8 ((a * 2 ^ (min b.toNat 8)) % 256))
  | k => some ([leI 0 b], .int k (k.wrap (a * 2 ^ (min b.toNat k.bits))))
 | .shr => some ([leI 0 b], .int k (a / (2 ^ (min b.toNat k.bits))))
 | _ => none
def strBin (op : BinOp) (a b : ByteArray) : Qr :=
 match op with
 | .add => some ([decide (a.size + b.size ≤ 4611686018427387904)], .str (a ++ b))
 | .eql => ok0 (.bool (sEq a b))
 | .neq => ok0 (.bool (!sEq a b))
 | .lss => ok0 (.bool (sLt a b))
 | .leq => ok0 (.bool (sLt a b || sEq a b))
 | .gtr => ok0 (.bool (!(sLt a b || sEq a b)))
 | .geq => ok0 (.bool (!sLt a b))
 | _ => none

def plainBlock (s : St) (b : Nat) : Bool :=
 match s.heap.get b with
 | some (.cells _ _ false) => true
 | _ => false

def eqE (s : St) (t : TypeId) (a b : V) : Option Bool :=
 match P.underlying t with
 | some .bool => match a, b with
  | .bool x, .bool y => some (x == y)
  | _, _ => none
 | some (.pointer e) => match a, b with
  | .nilp, .nilp => some true
  | .nilp, .ptr .. => some false
  | .ptr .., .nilp => some false
  | .nilp, .lptr .. => some false
  | .lptr .., .nilp => some false
  | .ptr x o, .ptr y q =>
   match szE P e with
   | some (_ + 1) => bif plainBlock s x && plainBlock s y then (bif Nat.beq x y then some (Nat.beq o q) else some false) else none
   | _ => none
  | _, _ => none
 | some (.slice _) => match a, b with
  | .nils, .nils => some true
  | .nils, .sl .. => some false
  | .sl .., .nils => some false
  | _, _ => none
 | some (.map _ _) => match a, b with
  | .nilm, .nilm => some true
  | .nilm, .map _ => some false
  | .map _, .nilm => some false
  | _, _ => none
 | some (.func ..) => match a, b with
  | .nilf, .nilf => some true
  | .nilf, .fn .. => some false
  | .fn .., .nilf => some false
  | .nilf, .yld _ => some false
  | .yld _, .nilf => some false
  | _, _ => none
 | some (.interface _) => match a, b with
  | .nili, .iface .. => some false
  | .iface .., .nili => some false
  | _, _ => none
 | _ => none

def eqFields (nest : TypeId → V → V → Option Bool) (d : List Field) (l m : List V) : Option Bool :=
 match d with
 | [] => some true
 | f :: rest =>
  bif f.name == "_" then none else
  match P.underlying f.type with
  | some (.int _) => match lget l f.offset, lget m f.offset with
   | some (.int k x), some (.int k' y) => bif kEq k k' then (match eqFields nest rest l m with
     | some r => some (decide (x = y) && r)
     | none => none) else none
   | _, _ => none
  | some .bool => match lget l f.offset, lget m f.offset with
   | some (.bool x), some (.bool y) => match eqFields nest rest l m with
    | some r => some ((x == y) && r)
    | none => none
   | _, _ => none
  | some .string => match lget l f.offset, lget m f.offset with
   | some (.str x), some (.str y) => match eqFields nest rest l m with
    | some r => some (sEq x y && r)
    | none => none
   | _, _ => none
  | some (.struct _) => match partE P f.type l f.offset, partE P f.type m f.offset with
   | some x, some y => match nest f.type x y, eqFields nest rest l m with
    | some q, some r => some (q && r)
    | _, _ => none
   | _, _ => none
  | _ => none
def eqNest : Nat → TypeId → V → V → Option Bool
 | 0, _, _, _ => none
 | n + 1, t, a, b => match P.underlying t with
  | some (.struct fs) => match a, b with
   | .agg l, .agg m => bif P.stoodInHeld t then none else eqFields P (eqNest n) fs.toList l m
   | _, _ => none
  | _ => none
def eqStruct (t : TypeId) (a b : V) : Option Bool :=
 match P.underlying t with
 | some (.struct fs) => match a, b with
  | .agg l, .agg m => bif P.stoodInHeld t || P.eqGuardType P.depth t then none else eqFields P (eqNest P 6) fs.toList l m
  | _, _ => none
 | _ => none

def eqNil2 (t : TypeId) (a b : V) : Option Bool :=
 match P.underlying t with
 | some (.interface ms) => match a, b with
  | .nili, .nili => bif ms.isEmpty then some true else none
  | _, _ => none
 | _ => none
def eqAny (s : St) (t : TypeId) (a b : V) : Option Bool :=
 match eqE P s t a b with
 | some r => some r
 | none => match eqNil2 P t a b with
  | some r => some r
  | none => eqStruct P t a b

def nilCmp (t : TypeId) (a b : V) : Option (List Bool) :=
 match P.underlying t with
 | some (.slice _) => match a, b with
  | .lst e L _, .nils => some [decide (0 < List.length (α := rowDen e) L)]
  | .nils, .lst e L _ => some [decide (0 < List.length (α := rowDen e) L)]
  | .rs _ _ len _ _ _, .nils => some [decide (0 < len)]
  | .nils, .rs _ _ len _ _ _ => some [decide (0 < len)]
  | _, _ => none
 | _ => none
def qBin (s : St) (op : BinOp) (t : TypeId) (a b : V) : Qr :=
 match a, b with
 | .int k x, .int k' y =>
  match op with
  | .shl => shiftE .shl k x y
  | .shr => shiftE .shr k x y
  | _ => bif kEq k k' then intBin op k x y else none
 | .str x, .str y => strBin op x y
 | _, _ =>
  match op with
  | .eql => match eqAny P s t a b with
   | some r => ok0 (.bool r)
   | none => (match nilCmp P t a b with
     | some c => some (c, .bool false)
     | none => none)
  | .neq => match eqAny P s t a b with
   | some r => ok0 (.bool (!r))
   | none => (match nilCmp P t a b with
     | some c => some (c, .bool true)
     | none => none)
  | _ => none

def qUn (op : UnOp) (a : V) : Option V :=
 match op, a with
 | .neg, .int k n => some (.int k (k.wrap (0 - n)))
 | .xor, .int k n => some (.int k (k.wrap (.ofNat (Nat.xor (kM k - 1) (ofI k n)))))
 | .not, .bool b => some (.bool (!b))
 | _, _ => none

def bytesOf : List V → Option (List Int)
 | [] => some []
 | .int .u8 n :: l => match bytesOf l with
  | some r => some (n :: r)
  | none => none
 | _ => none
def asBytes (e : List Ty) (L : List (rowDen e)) : Option (List Int) := asL [.int .u8] e L

def qConv (s : St) (src dst : TypeId) (a : V) : Qr :=
 match P.underlying src, P.underlying dst with
 | some sd, some dd =>
  match a with
  | .int _ n => match dd with
   | .int k => arithE k n
   | _ => none
  | .str x => match dd with
   | .string => ok0 (.str x)
   | _ => none
  | .nils => match sd, dd with
   | .slice e, .string => match P.underlying e with
    | some (.int .u8) => ok0 (.str ⟨#[]⟩)
    | _ => none
   | _, _ => none
  | .lst e' L _ => match sd, dd with
   | .slice e, .string => match P.underlying e with
    | some (.int .u8) => match asBytes e' L with
     | some r => ok0 (.str (strOf r))
     | none => none
    | _ => none
   | _, _ => none
  | .rs b lo len _ _ es => match sd, dd with
   | .slice e, .string => match P.underlying e with
    | some (.int .u8) => match rowsAt s b with
     | some ⟨e', L⟩ => match asBytes e' L with
      | some r => bif Nat.beq es 1 then some ([decide (lo + len ≤ r.length)], .str (strOf ((r.drop lo).take len))) else none
      | none => none
     | none => none
    | _ => none
   | _, _ => none
  | .sl b o len _ _ _ => match sd, dd with
   | .slice e, .string => match P.underlying e with
    | some (.int .u8) => match cellsAt s b with
     | some cs => bif Nat.ble (o + len) (llen cs) then (match bytesOf (ltake (ldrop cs o) len) with
         | some r => ok0 (.str (strOf r))
         | none => none) else none
     | none => none
    | _ => none
   | _, _ => none
  | _ => none
 | _, _ => none

def qFieldAddr (t : TypeId) (a : V) (i : Nat) : Option V :=
 match P.underlying t with
 | some (.struct fs) => match fs[i]? with
  | some f => match szE P f.type with
   | some (_ + 1) => match a with
    | .ptr b o => some (.ptr b (o + f.offset))
    | .rptr b i j es => some (.rptr b i (j + f.offset) es)
    | .lptr e L i j => some (.lptr e L i (j + f.offset))
    | _ => none
   | _ => none
  | none => none
 | _ => none

def qField (t : TypeId) (a : V) (i : Nat) : Option V :=
 match P.underlying t with
 | some (.struct fs) => match fs[i]? with
  | some f => match a with
   | .agg l => partE P f.type l f.offset
   | _ => none
  | none => none
 | _ => none

def natOf : V → Option (List Bool × Nat)
 | .int _ n => some ([decide (0 ≤ n)], n.toNat)
 | _ => none

def qIndexAddr (t : TypeId) (a i : V) : Qr :=
 match natOf i with
 | some (c, n) => match P.underlying t with
  | some (.array len e) => match a, szE P e with
   | .ptr b o, some sz => some (c ++ [decide (n < len)], .ptr b (o + n * sz))
   | .rptr b 0 0 es, some sz => bif Nat.beq sz es then some (c ++ [decide (n < len)], .rptr b n 0 es) else none
   | .lptr e' L i j, some sz => some (c ++ [decide (n < len)], .lptr e' L i (j + n * sz))
   | _, _ => none
  | some (.slice e) => match a, szE P e with
   | .sl b o len _ _ _, some sz => some (c ++ [decide (n < len)], .ptr b (o + n * sz))
   | .rs b lo len _ _ es, some sz => bif Nat.beq sz es then some (c ++ [decide (n < len)], .rptr b (lo + n) 0 es) else none
   | .lst e' L _, some sz => bif Nat.beq sz e'.length then some (c ++ [decide (n < L.length)], .lptr e' L n 0) else none
   | _, _ => none
  | _ => none
 | none => none

def qIndex (t : TypeId) (a i : V) : Qr :=
 match natOf i with
 | some (c, n) => match P.underlying t with
  | some (.array len e) => match a, szE P e with
   | .agg l, some sz => match partE P e l (n * sz) with
    | some v => some (c ++ [decide (n < len)], v)
    | none => none
   | .arr e' L, some sz => bif Nat.beq sz e'.length then (match partE P e (rowV e' (rowAt e' L n)) 0 with
     | some v => some (c ++ [decide (n < len), decide (n < L.length)], v)
     | none => none) else none
   | _, _ => none
  | some .string => match a with
   | .str x => some (c ++ [decide (n < x.size)], .int .u8 (bAt x n))
   | _ => none
  | _ => none
 | none => none

def boundE : Option V → Nat → Option (List Bool × Nat)
 | none, d => some ([], d)
 | some v, _ => natOf v

def qSlice (s : St) (t : TypeId) (a : V) (lo hi mx : Option V) : Qr :=
 match boundE lo 0 with
 | none => none
 | some (cl, l) =>
 match P.underlying t with
 | some .string => match a, mx with
  | .str x, none => match boundE hi x.size with
   | some (ch, h) => some (cl ++ (ch ++ [decide (l ≤ h), decide (h ≤ x.size)]), .str (cutS x l h))
   | none => none
  | _, _ => none
 | some (.slice e) => match szE P e with
  | none => none
  | some sz => match a with
   | .nils => match boundE hi 0, mx with
    | some (ch, h), none => some (cl ++ (ch ++ [decide (l ≤ h), decide (h ≤ 0)]), .nils)
    | _, _ => none
   | .rs b lo' len cap x es =>
    bif !Nat.beq sz es then none else
    match boundE hi len with
    | none => none
    | some (ch, h) => match mx, hi with
     | none, _ => some (cl ++ (ch ++ [decide (l ≤ h), decide (h ≤ cap)]), .rs b (lo' + l) (h - l) (cap - l) x es)
     | some mv, some _ => match natOf mv with
      | some (cm, m) => some (cl ++ (ch ++ (cm ++ [decide (l ≤ h), decide (h ≤ m), decide (m ≤ cap)])), .rs b (lo' + l) (h - l) (m - l) true es)
      | none => none
     | some _, none => none
   | .lst e' L x =>
    bif !Nat.beq sz e'.length then none else
    match boundE hi L.length with
    | none => none
    | some (ch, h) => match mx, hi with
     | none, none => some (cl ++ [decide (l ≤ L.length)], .lst e' (L.drop l) x)
     | none, some _ => some (cl ++ (ch ++ [decide (l ≤ h), decide (h ≤ L.length)]), .lst e' ((L.take h).drop l) false)
     | some mv, some _ => match natOf mv with
      | some (cm, m) => some (cl ++ (ch ++ (cm ++ [decide (l ≤ h), decide (h = m), decide (h ≤ L.length)])), .lst e' ((L.take h).drop l) true)
      | none => none
     | some _, none => none
   | .sl b o len cap x es =>
    bif !Nat.beq sz es then none else
    match boundE hi len with
    | none => none
    | some (ch, h) =>
     match mx, hi with
     | none, _ =>
      bif Nat.beq l 0 then some (cl ++ (ch ++ [decide (l ≤ h), decide (h ≤ cap)]), .sl b o h cap x es) else
      bif Nat.blt l cap then some (cl ++ (ch ++ [decide (l ≤ h), decide (h ≤ cap)]), .sl b (o + l * es) (h - l) (cap - l) x es) else none
     | some mv, some _ => match natOf mv with
      | some (cm, m) => bif Nat.beq m l then none else some (cl ++ (ch ++ (cm ++ [decide (l ≤ h), decide (h ≤ m), decide (m ≤ cap)])), .sl b (o + l * es) (h - l) (m - l) true es)
      | none => none
     | some _, none => none
   | _ => none
 | some (.array n e) => match szE P e, mx with
  | some sz, none => match a, boundE hi n with
   | .ptr b o, some (ch, h) => match cellsAt s b with
    | some cs =>
     bif Nat.ble (o + n * sz) (llen cs) then
      (bif Nat.beq n l then none else some (cl ++ (ch ++ [decide (l ≤ h), decide (h ≤ n)]), .sl b (o + l * sz) (h - l) (n - l) true sz)) else none
    | _ => none
   | .rptr b 0 0 es, some (ch, h) => match rowsAt s b with
    | some ⟨e', L⟩ => bif Nat.beq sz es && Nat.beq es e'.length then
      some (cl ++ (ch ++ [decide (l ≤ h), decide (h ≤ n), decide (n ≤ L.length)]), .rs b l (h - l) (n - l) true es) else none
    | none => none
   | _, _ => none
  | _, _ => none
 | _ => none

def keyEq : V → V → Option Bool
 | .int k a, .int k' b => bif kEq k k' then some (decide (a = b)) else none
 | .str a, .str b => some (sEq a b)
 | .bool a, .bool b => some (a == b)
 | _, _ => none
def findE (k : V) : List (V × V × Nat) → Nat → Option (Option (Nat × V))
 | [], _ => some none
 | e :: l, i => match keyEq k e.1 with
  | some true => some (some (i, e.2.1))
  | some false => findE k l (i + 1)
  | none => none
def plainKeyE (t : TypeId) (k : V) : Bool :=
 match P.underlying t, k with
 | some (.int _), .int .. => true
 | some .string, .str _ => true
 | some .bool, .bool _ => true
 | _, _ => false

def eqI (a b : Int) : Bool := decide (a = b)
def eqBo (a b : Bool) : Bool := a == b
def kB : (k : Ty) → k.den → k.den → Bool
 | .int _, a, b => eqI a b
 | .bool, a, b => eqBo a b
 | .str, a, b => sEq a b
 | .lst _, _, _ => false
def pmF (k t : Ty) (d : k.den) : List (k.den × t.den × Nat) → Nat → Option (Nat × t.den × Nat)
 | [], _ => none
 | m :: M, i => bif kB k d m.1 then some (i, m.2) else pmF k t d M (i + 1)
def pmGet0 (k t : Ty) (M : List (k.den × t.den × Nat)) (d : k.den) (z : t.den) : t.den := match pmF k t d M 0 with
 | some r => r.2.1
 | none => z
def pmHas0 (k t : Ty) (M : List (k.den × t.den × Nat)) (d : k.den) : Bool := match pmF k t d M 0 with
 | some _ => true
 | none => false
def pmGet : (k t : Ty) → List (k.den × t.den × Nat) → k.den → t.den → t.den := hide pmGet0
def pmHas : (k t : Ty) → List (k.den × t.den × Nat) → k.den → Bool := hide pmHas0
theorem pmGet_eq : pmGet = pmGet0 := hide_eq _
theorem pmHas_eq : pmHas = pmHas0 := hide_eq _
def qLookP (ok : Bool) (k t : Ty) (M : List (k.den × t.den × Nat)) (d : k.den) (z : V) : Option V :=
 match ofV t z with
 | some dz => some (bif ok then .tup [toV t (pmGet k t M d dz), .bool (pmHas k t M d)] else toV t (pmGet k t M d dz))
 | none => none
def pmAt (s : St) (b : Nat) : Option ((k : Ty) × (t : Ty) × List (k.den × t.den × Nat) × Nat) :=
 match s.heap.get b with
 | some (.pm k t M c) => some ⟨k, t, M, c⟩
 | _ => none
def qLookup1 (s : St) (t : TypeId) (m key : V) (ok : Bool) : Option V :=
 match P.underlying t, m with
 | some (.map kt e), .map b => (match pmAt s b with
   | some ⟨k, t', M, _⟩ => bif plainKeyE P kt key then (match ofV k key, zeroE P e with
     | some d, some z => qLookP ok k t' M d z
     | _, _ => none) else none
   | none => none)
 | _, _ => none
def qLookup (s : St) (t : TypeId) (m k : V) (ok : Bool) : Option V :=
 match P.underlying t with
 | some (.map kt e) =>
  bif !plainKeyE P kt k then none else
  match (match m with
    | .nilm => some []
    | .map b => (match s.heap.get b with
      | some (.map es _) => some es
      | _ => none)
    | _ => none) with
  | none => none
  | some es => match findE k es 0 with
   | some (some (_, v)) => some (bif ok then .tup [v, .bool true] else v)
   | some none => match zeroE P e with
    | some z => some (bif ok then .tup [z, .bool false] else z)
    | none => none
   | none => none
 | _ => none

def qLookup2 (s : St) (t : TypeId) (m k : V) (ok : Bool) : Option V := match qLookup1 P s t m k ok with
 | some v => some v
 | none => qLookup P s t m k ok

def qLen (s : St) (t : TypeId) (a : V) : Option V :=
 match P.underlying t with
 | some .string => match a with
  | .str x => some (.int .i64 ((x.size : Nat) : Int))
  | _ => none
 | some (.array n _) => some (.int .i64 ((n : Nat) : Int))
 | some (.slice _) => match a with
  | .nils => some (.int .i64 0)
  | .sl _ _ len _ _ _ => some (.int .i64 ((len : Nat) : Int))
  | .rs _ _ len _ _ _ => some (.int .i64 ((len : Nat) : Int))
  | .lst _ L _ => some (.int .i64 ((L.length : Nat) : Int))
  | _ => none
 | some (.map _ _) => match a with
  | .nilm => some (.int .i64 0)
  | .map b => match s.heap.get b with
   | some (.map es _) => some (.int .i64 ((llen es : Nat) : Int))
   | some (.pm _ _ M _) => some (.int .i64 ((M.length : Nat) : Int))
   | _ => none
  | _ => none
 | some (.pointer arr) => match P.underlying arr with
  | some (.array n _) => some (.int .i64 ((n : Nat) : Int))
  | _ => none
 | _ => none

def qCap (t : TypeId) (a : V) : Option V :=
 match P.underlying t with
 | some (.array n _) => some (.int .i64 ((n : Nat) : Int))
 | some (.slice _) => match a with
  | .nils => some (.int .i64 0)
  | .sl _ _ _ cap true _ => some (.int .i64 ((cap : Nat) : Int))
  | .rs _ _ _ cap true _ => some (.int .i64 ((cap : Nat) : Int))
  | .lst _ L true => some (.int .i64 ((L.length : Nat) : Int))
  | _ => none
 | _ => none

def maxI : Int → Int → Int := Classical.choose (⟨fun x y => max x y, rfl⟩ : ∃ f : Int → Int → Int, f = fun x y => max x y)
theorem maxI_eq (x y : Int) : maxI x y = max x y := congrFun (congrFun (Classical.choose_spec (⟨fun x y => max x y, rfl⟩ : ∃ f : Int → Int → Int, f = fun x y => max x y)) x) y
def minMax (isMax : Bool) : V → List V → Option V
 | a, [] => some a
 | .int k x, .int _ y :: l => match isMax with
  | true => minMax true (.int k (maxI x y)) l
  | false => minMax false (.int k (min x y)) l
 | _, _ => none

def qBuiltin (s : St) (b : Builtin) (ts : Array TypeId) (args : List V) : Option V :=
 match b with
 | .len => match ts[0]?, args with
  | some t, [a] => qLen P s t a
  | _, _ => none
 | .cap => match ts[0]?, args with
  | some t, [a] => qCap P t a
  | _, _ => none
 | .min => match args with
  | .int k x :: l => minMax false (.int k x) l
  | _ => none
 | .max => match args with
  | .int k x :: l => minMax true (.int k x) l
  | _ => none
 | _ => none

def setAll : List V → Nat → List V → List V
 | cs, _, [] => cs
 | cs, off, c :: l => setAll (lset cs c off) (off + 1) l
def fillE (place : Nat → Option (Nat × Nat)) : List V → List (Nat × V) → Option (List V)
 | cs, [] => some cs
 | cs, (i, v) :: rest => match place i, cellsO v with
  | some (off, size), some c => bif Nat.beq (llen c) size && Nat.ble (off + size) (llen cs) then fillE place (setAll cs off c) rest else none
  | _, _ => none
def placesE : List Field → Option (List (Nat × Nat))
 | [] => some []
 | f :: l => match szE P f.type with
  | some n => match placesE l with
   | some r => some ((f.offset, n) :: r)
   | none => none
  | none => none
def evalParts (ev : Operand → Option V) : List (Nat × Operand) → Option (List (Nat × V))
 | [] => some []
 | (i, x) :: l => match ev x with
  | some v => match evalParts ev l with
   | some r => some ((i, v) :: r)
   | none => none
  | none => none
def qBuild (t : TypeId) (parts : List (Nat × V)) : Option V :=
 match zeroE P t with
 | none => none
 | some zv =>
 match cellsO zv with
 | none => none
 | some z =>
 match P.underlying t with
 | some (.struct fs) => match placesE P fs.toList with
  | some pl => match fillE (fun i => lget pl i) z parts with
   | some cs => some (.agg cs)
   | none => none
  | none => none
 | some (.array _ e) => match szE P e with
  | some n => match fillE (fun i => some (i * n, n)) z parts with
   | some cs => some (.agg cs)
   | none => none
  | none => none
 | _ => none

def optO (ev : Operand → Option V) : Option Operand → Option (Option V)
 | none => some none
 | some x => match ev x with
  | some v => some (some v)
  | none => none

def assertZ (t : TypeId) (ok : Bool) : Option V :=
 match ok, zeroE P t with
 | true, some z => some (.tup [z, .bool false])
 | _, _ => none
def qAssert (t : TypeId) (v : V) (ok : Bool) : Option V :=
 match P.underlying t with
 | some (.interface _) => none
 | some _ => match v with
  | .iface t' x => bif Nat.beq t' t then some (bif ok then .tup [x, .bool true] else x) else
    assertZ P t ok
  | .nili => assertZ P t ok
  | _ => none
 | none => none

def pickV (b : Bool) (x y : V) : Option V :=
 match x, y with
 | .int k m, .int k' n => bif kEq k k' then some (.int k (bif b then m else n)) else none
 | .bool m, .bool n => some (.bool (bif b then m else n))
 | .str m, .str n => some (.str (bif b then m else n))
 | x, y => match b with
  | true => some x
  | false => some y

def qop (s : St) (ev : Operand → Option V) (op : Op) : Qr :=
 match op with
 | .move x => okO (ev x)
 | .assign x => okO (ev x)
 | .pick c a b => match ev c, ev a, ev b with
  | some (.bool q), some x, some y => okO (pickV q x y)
  | _, _, _ => none
 | .load t a => match ev a with
  | some v => qLoad P s t v
  | none => none
 | .nilCheck x => match ev x with
  | some (.ptr b o) => ok0 (.ptr b o)
  | some (.fn f a c) => ok0 (.fn f a c)
  | some (.yld l) => ok0 (.yld l)
  | some (.lptr e L i j) => ok0 (.lptr e L i j)
  | some (.rptr b i j es) => ok0 (.rptr b i j es)
  | _ => none
 | .binOp op t x y _ => match ev x, ev y with
  | some a, some b => qBin P s op t a b
  | _, _ => none
 | .unOp op _ x => match ev x with
  | some a => okO (qUn op a)
  | none => none
 | .convert src dst x => match ev x with
  | some a => qConv P s src dst a
  | none => none
 | .makeInterface t x => match P.underlying t with
  | some (.interface _) => none
  | some _ => match ev x with
   | some a => ok0 (.iface t a)
   | none => none
  | none => none
 | .makeFunc fn first captured => match fn with
  | .func f => match evalOs ev first.toList, evalOs ev captured.toList with
   | some a, some c => ok0 (.fn f a c)
   | _, _ => none
  | _ => none
 | .slice t x lo hi mx => match ev x, optO ev lo, optO ev hi, optO ev mx with
  | some a, some l, some h, some m => qSlice P s t a l h m
  | _, _, _, _ => none
 | .fieldAddr t x f => match ev x with
  | some a => okO (qFieldAddr P t a f)
  | none => none
 | .field t x f => match ev x with
  | some a => okO (qField P t a f)
  | none => none
 | .indexAddr t x i => match ev x, ev i with
  | some a, some n => qIndexAddr P t a n
  | _, _ => none
 | .index t x i => match ev x, ev i with
  | some a, some n => qIndex P t a n
  | _, _ => none
 | .lookup t x i ok => match ev x, ev i with
  | some a, some n => okO (qLookup2 P s t a n ok)
  | _, _ => none
 | .build t parts => match evalParts ev parts.toList with
  | some ps => okO (qBuild P t ps)
  | none => none
 | .extract x i => match ev x with
  | some (.tup l) => okO (lget l i)
  | _ => none
 | .typeAssert x _ t ok => match ev x with
  | some v => okO (qAssert P t v ok)
  | none => none
 | .call c => match c.callee with
  | .builtin b => match evalOs ev c.args.toList with
   | some vs => okO (qBuiltin P s b c.argTypes vs)
   | none => none
  | _ => none
 | _ => none
end
end Go.Sym
end

noncomputable section
namespace Go.Sym

section
variable {P : Program} {own : Own} {ρ : Env} {s : St} {w : World}

theorem run_und {t : TypeId} {d : TypeDesc} (h : P.underlying t = some d) : (underlying t).run P w = .ok d w := run_underlying h w
theorem run_size {t : TypeId} {n : Nat} (h : szE P t = some n) : (sizeOf t).run P w = .ok n w := by
 unfold szE at h
 split at h
 ·rename_i i hi
  cases h
  simp [sizeOf, typeInfo, hi]
 ·cases h
theorem run_isAgg {t : TypeId} {b : Bool} (h : isAggE P t = some b) : (isAgg t).run P w = .ok b w := by
 unfold isAggE at h
 split at h
 ·rename_i hd; cases h; simp [isAgg, run_und hd]
 ·rename_i hd; cases h; simp [isAgg, run_und hd]
 ·rename_i d h1 h2 hd
  cases h
  simp only [isAgg, Sem.run_bind, run_und hd, Result.andThen_ok]
  cases d <;> first | rfl | exact absurd rfl (h1 _) | exact absurd rfl (h2 _ _)
 ·cases h

theorem ofCell_rel {v : Value} {x : V} (h : ofCell v = some x) : VRel ρ x v := by
 unfold ofCell at h
 split at h <;> first | cases h | skip
 all_goals simp only [VRel]
theorem ofCells_rel : ∀ {l : List Value} {x : List V}, ofCells l = some x → LRel ρ x l
 | [], x, h => by simp only [ofCells] at h; cases h; exact LRel.nil
 | v :: l, x, h => by
  simp only [ofCells] at h
  split at h
  ·rename_i a ha
   split at h
   ·rename_i b hb; cases h; exact LRel.cons (ofCell_rel ha) (ofCells_rel hb)
   ·cases h
  ·cases h
theorem ofVal_rel {v : Value} {x : V} (h : ofVal v = some x) : VRel ρ x v := by
 unfold ofVal at h
 split at h
 ·rename_i cs
  split at h
  ·rename_i l hl; cases h; simp only [VRel]; exact ⟨cs, rfl, ofCells_rel hl⟩
  ·cases h
 ·rename_i cs
  split at h
  ·rename_i e
   cases h
   have : cs = #[] := by cases cs; simp at e; simp [e]
   simp only [VRel]; rw [this]
  ·cases h
 ·exact ofCell_rel h

def EvRel (ρ : Env) (ev : Operand → Option V) (A : Act) : Prop := ∀ x v, ev x = some v → VRel ρ v (A.eval x)
theorem evalO_rel {ev : Operand → Option V} {A : Act} (hA : EvRel ρ ev A) {x : Operand} {v : V} (h : ev x = some v) : VRel ρ v (A.eval x) := hA x v h
theorem evalOs_rel {ev : Operand → Option V} {A : Act} (hA : EvRel ρ ev A) : ∀ {xs : List Operand} {vs : List V}, evalOs ev xs = some vs → LRel ρ vs (xs.map A.eval)
 | [], vs, h => by simp only [evalOs] at h; cases h; exact LRel.nil
 | x :: xs, vs, h => by
  simp only [evalOs] at h
  split at h
  ·rename_i v hv
   split at h
   ·rename_i r hr; cases h; exact LRel.cons (evalO_rel hA hv) (evalOs_rel hA hr)
   ·cases h
  ·cases h

theorem partE_rel {t : TypeId} {l : List V} {off : Nat} {v : V} (h : partE P t l off = some v) {A : Array Value} (hl : LRel ρ l A.toList) :
  ∃ X, (part t A off).run P w = .ok X w ∧ VRel ρ v X := by
 unfold partE at h
 split at h
 ·rename_i ha
  split at h
  ·rename_i n hn
   simp only [llen_eq, ltake_eq, ldrop_eq] at h
   cases hb : Nat.ble (off + n) l.length with
   | false => simp [hb] at h
   | true =>
    simp only [hb, cond_true, Option.some.injEq] at h
    subst h
    refine ⟨.agg (A.extract off (off + n)), by simp [part, run_isAgg ha, run_size hn], ?_⟩
    simp only [VRel]
    refine ⟨_, rfl, ?_⟩
    simp only [Array.toList_extract, List.extract_eq_take_drop, Nat.add_sub_cancel_left]
    exact (hl.drop off).take n
  ·cases h
 ·rename_i ha
  rw [lget_eq] at h
  obtain ⟨X, h1, h2⟩ := hl.get h
  simp only [Array.getElem?_toList] at h1
  exact ⟨X, by simp [part, run_isAgg ha, h1], h2⟩
 ·cases h

def CellsIn (ρ : Env) (w : World) (cs : List V) (B o : Nat) : Prop := ∀ i v, cs[i]? = some v → ∃ W, w.cell? ⟨B, o + i, none⟩ = some W ∧ VRel ρ v W

theorem SRel.cellsAt (h : SRel own ρ s w) {b : Nat} {cs : List V} (hc : cellsAt s b = some cs) {x : Blk} (hx : ρ b = some x) : CellsIn ρ w cs x.B x.O ∧ x.O + cs.length ≤ x.S := by
 unfold Sym.cellsAt at hc
 split at hc
 ·rename_i cs' t ish hb
  cases hc
  obtain ⟨y, h1, _, C, t, fr, h3, h4, h5, h6, h7, _⟩ := h.obj' hb hx
  rw [hx] at h1; cases h1
  exact ⟨fun i v hi => by obtain ⟨W, a, b⟩ := h6 i v hi; exact ⟨W, by simp [World.cell?, h3, a], b⟩, h5⟩
 ·cases hc

theorem addr_add (B o i : Nat) : (⟨B, o, none⟩ : Addr).add i = ⟨B, o + i, none⟩ := by
 unfold Addr.add; split
 ·rename_i e; subst e; rfl
 ·rfl

theorem ex_list {f : Nat → Option Value} : ∀ {l : List V}, (∀ i v, l[i]? = some v → ∃ W, f i = some W ∧ VRel ρ v W) → ∃ L, LRel ρ l L ∧ ∀ j X, L[j]? = some X → f j = some X
 | [], _ => ⟨[], LRel.nil, fun j X h => by simp at h⟩
 | v :: l, h => by
  obtain ⟨W, h1, h2⟩ := h 0 v rfl
  obtain ⟨L, h3, h4⟩ := ex_list (f := fun i => f (i + 1)) (l := l) fun i u hi => h (i + 1) u (by simpa using hi)
  refine ⟨W :: L, LRel.cons h2 h3, fun j X hj => ?_⟩
  cases j with
  | zero => simp at hj; subst hj; exact h1
  | succ j => exact h4 j X (by simpa using hj)
theorem load_of_cells {cs : List V} {B o : Nat} (h : CellsIn ρ w cs B o) (k n : Nat) (hn : k + n ≤ cs.length) :
  ∃ L : List Value, (loadCells ⟨B, o + k, none⟩ n).run P w = .ok L.toArray w ∧ LRel ρ ((cs.drop k).take n) L := by
 obtain ⟨L, h1, h2⟩ := ex_list (ρ := ρ) (f := fun i => w.cell? ⟨B, o + k + i, none⟩) (l := (cs.drop k).take n) fun i v hi => by
  have hi' : i < n := by
   have := (List.getElem?_eq_some_iff.1 hi).1
   simp at this; omega
  rw [List.getElem?_take_of_lt hi', List.getElem?_drop] at hi
  obtain ⟨W, a, b⟩ := h _ _ hi
  exact ⟨W, by rw [Nat.add_assoc]; exact a, b⟩
 refine ⟨L, ?_, h1⟩
 have hl : L.length = n := by
  have := h1.length
  simp at this; omega
 have := run_loadCells_list (P := P) w ⟨B, o + k, none⟩ L (fun j v hj => by rw [addr_add]; exact h2 j v hj)
 rwa [hl] at this

theorem toV_rel : ∀ (t : Ty) (x : t.den) (X : Value), TRel ρ.φ t x X → VRel ρ (toV t x) X
 | .int k, n, X, h => by rw [TRel] at h; simp only [toV, VRel]; exact h
 | .bool, b, X, h => by rw [TRel] at h; simp only [toV, VRel]; exact h
 | .str, s, X, h => by rw [TRel] at h; simp only [toV, VRel]; exact h
 | .lst e, L, X, h => by
  rw [TRel] at h
  obtain ⟨a, c, h1, h2, h3, h4⟩ := h
  simp only [toV, VRel]
  exact ⟨a, c, h1, h2, fun hh => (by cases hh), h3, fun hp => let ⟨B, o, g1, g2⟩ := h4 hp; ⟨B, o, g1, fun i hi => by simpa [Nat.add_assoc] using g2 i hi⟩⟩
theorem rowV_length : ∀ (e : List Ty) (x : rowDen e), (rowV e x).length = e.length
 | [], _ => rfl
 | [_], _ => rfl
 | t :: u :: ts, x => by rw [rowV]; simp [rowV_length (u :: ts)]
theorem rowV_get : ∀ (e : List Ty) (x : rowDen e) {C : Nat → Option Value}, CRel ρ.φ e x C → ∀ i v, (rowV e x)[i]? = some v → ∃ W, C i = some W ∧ VRel ρ v W
 | [], _, _, _, i, v, h => by simp [rowV] at h
 | [t], x, C, hc, i, v, h => by
  rw [CRel] at hc
  obtain ⟨X, h1, h2⟩ := hc
  cases i with
  | zero => simp [rowV] at h; subst h; exact ⟨X, h1, toV_rel t _ _ h2⟩
  | succ i => simp [rowV] at h
 | t :: u :: ts, x, C, hc, i, v, h => by
  rw [CRel] at hc
  obtain ⟨⟨X, h1, h2⟩, h3⟩ := hc
  cases i with
  | zero => rw [rowV] at h; simp at h; subst h; exact ⟨X, h1, toV_rel t _ _ h2⟩
  | succ i => exact rowV_get (u :: ts) x.2 h3 i v (by rw [rowV] at h; simpa using h)

theorem SRel.rowsAt (h : SRel own ρ s w) {b : Nat} {e : List Ty} {L : List (rowDen e)} (hc : rowsAt s b = some ⟨e, L⟩) {x : Blk} (hx : ρ b = some x) :
  RowsAt ρ.φ e L (fun k => w.cell? ⟨x.B, x.O + k, none⟩) ∧ x.O + L.length * e.length ≤ x.S := by
 unfold Sym.rowsAt at hc
 split at hc
 ·rename_i e' L' t ish hb
  cases hc
  obtain ⟨y, h1, _, C, t, fr, h3, h4, h5, h6, h7, _⟩ := h.obj' hb hx
  rw [hx] at h1; cases h1
  exact ⟨fun i hi => CRel.mono (fun _ _ _ hv => hv) e _ (fun j v hv => by simpa [World.cell?, h3] using hv) (h6 i hi), h5⟩
 ·cases hc

theorem row_cells {e : List Ty} {L : List (rowDen e)} {B o : Nat} (h : RowsAt ρ.φ e L (fun k => w.cell? ⟨B, o + k, none⟩)) {i : Nat} (hi : i < L.length) : CellsIn ρ w (rowV e (rowAt e L i)) B (o + i * e.length) := by
 intro j v hj
 obtain ⟨W, h1, h2⟩ := rowV_get e _ (h i hi) j v hj
 exact ⟨W, by simpa [Nat.add_assoc] using h1, h2⟩
theorem SRel.rowsφ (h : SRel own ρ s w) {e : List Ty} {L : List (rowDen e)} {B o : Nat} (hr : RowsAt ρ.φ e L (fun k => ρ.φ B (o + k))) : RowsAt ρ.φ e L (fun k => w.cell? ⟨B, o + k, none⟩) :=
 hr.mono (fun _ _ _ hv => hv) fun j v hv => h.fz _ _ _ hv

theorem loadPart_rel {t : TypeId} {cs : List V} {o B O : Nat} {v : V} (hq : partE P t cs o = some v) (hc : CellsIn ρ w cs B O) :
  ∃ X, (Instr.loadAt t (.pointer (some ⟨B, O + o, none⟩))).run P w = .ok X w ∧ VRel ρ v X := by
 unfold partE at hq
 split at hq
 ·rename_i ht
  split at hq
  ·rename_i n hn
   simp only [llen_eq, ltake_eq, ldrop_eq] at hq
   cases hb' : Nat.ble (o + n) cs.length with
   | false => simp [hb'] at hq
   | true =>
    simp only [hb', cond_true, Option.some.injEq] at hq
    subst hq
    obtain ⟨L, h1, h2⟩ := load_of_cells (P := P) hc o n (by simpa [Nat.ble_eq] using hb')
    refine ⟨.agg L.toArray, ?_, ?_⟩
    ·simp [Instr.loadAt, Instr.sureAddr, loadVar, run_isAgg ht, run_size hn, h1]
    ·simp only [VRel]; exact ⟨_, rfl, by simpa using h2⟩
  ·cases hq
 ·rename_i ht
  rw [lget_eq] at hq
  obtain ⟨W, h1, h2⟩ := hc _ _ hq
  exact ⟨W, by simp [Instr.loadAt, Instr.sureAddr, loadVar, run_isAgg ht, h1], h2⟩
 ·cases hq

theorem okO_some {x : Option V} {ps : List Bool} {v : V} (h : okO x = some (ps, v)) : x = some v ∧ ps = [] := by
 cases x with
 | none => cases h
 | some u => cases h; exact ⟨rfl, rfl⟩
theorem okB_some {b : Bool} {x : Option V} {ps : List Bool} {v : V} (h : okB b x = some (ps, v)) : x = some v ∧ ps = [b] := by
 cases x with
 | none => cases h
 | some u => cases h; exact ⟨rfl, rfl⟩
theorem CRel.lt : ∀ (e : List Ty) (x : rowDen e) {C : Nat → Option Value}, CRel ρ.φ e x C → CRel ρ.φ e x (fun j => if j < e.length then C j else none)
 | [], _, _, _ => by rw [CRel]; trivial
 | [t], x, C, h => by
  rw [CRel] at h ⊢
  obtain ⟨X, h1, h2⟩ := h
  exact ⟨X, by simpa using h1, h2⟩
 | t :: u :: ts, x, C, h => by
  rw [CRel] at h ⊢
  obtain ⟨⟨X, h1, h2⟩, h3⟩ := h
  refine ⟨⟨X, by simpa using h1, h2⟩, ?_⟩
  refine CRel.mono (fun _ _ _ hv => hv) (u :: ts) x.2 ?_ (CRel.lt (u :: ts) x.2 h3)
  intro j v hv
  simp only [List.length_cons] at hv ⊢
  split at hv
  ·rename_i hj; rw [if_pos (by omega)]; exact hv
  ·cases hv
theorem rows_arr {e : List Ty} {L : List (rowDen e)} {A : Array Value} {C : Nat → Option Value} (h : RowsAt ρ.φ e L C) (hA : ∀ k, k < L.length * e.length → A[k]? = C k) : RowsAt ρ.φ e L (fun k => A[k]?) := by
 intro i hi
 refine CRel.mono (fun _ _ _ hv => hv) e _ ?_ (CRel.lt e _ (h i hi))
 intro j v hv
 split at hv
 ·rename_i hj
  show A[i * e.length + j]? = some v
  rw [hA _ (by
    have h1 : (i + 1) * e.length ≤ L.length * e.length := Nat.mul_le_mul_right _ hi
    rw [Nat.succ_mul] at h1; omega)]
  exact hv
 ·cases hv

theorem qLoad_rel (h : SRel own ρ s w) {t : TypeId} {a v : V} {A : Value} {ps : List Bool} (hq : qLoad P s t a = some (ps, v)) (hp : allB ps) (ha : VRel ρ a A) :
  ∃ X, (Instr.loadAt t A).run P w = .ok X w ∧ VRel ρ v X := by
 unfold qLoad at hq
 split at hq
 ·rename_i b o
  split at hq
  ·rename_i cs hcs
   simp only [VRel] at ha
   obtain ⟨B, O, S, hb, rfl⟩ := ha
   exact loadPart_rel (okO_some hq).1 (h.cellsAt hcs hb).1
  ·cases hq
 ·rename_i b i j es
  split at hq
  ·rename_i e L hL
   cases he : Nat.beq es e.length with
   | false => rw [he] at hq; cases hq
   | true =>
   rw [he, cond_true] at hq
   have he := Nat.eq_of_beq_eq_true he
   subst he
   simp only [VRel] at ha
   obtain ⟨B, O, S, hb, rfl⟩ := ha
   obtain ⟨hr, hS⟩ := h.rowsAt hL hb
   split at hq
   ·rename_i n el hd
    split at hq
    ·split at hq
     ·rename_i z hz
      cases hzz : Nat.beq z (n * e.length) with
      | false => rw [hzz] at hq; cases hq
      | true =>
      rw [hzz, cond_true] at hq
      have hzz := Nat.eq_of_beq_eq_true hzz
      cases hq
      have hn : L.length = n := by simpa using hp.1
      have hag : isAggE P t = some true := by simp [isAggE, hd]
      have hex : ∀ k, k < n * e.length → ∃ X, w.cell? ⟨B, O + k, none⟩ = some X := by
       intro k hk
       have he0 : 0 < e.length := by
        rcases Nat.eq_zero_or_pos e.length with h0 | h0
        ·rw [h0] at hk; simp at hk
        ·exact h0
       have hkk : k / e.length < L.length := by rw [hn]; exact (Nat.div_lt_iff_lt_mul he0).2 hk
       obtain ⟨X, h1, _⟩ := rowV_get e _ (hr _ hkk) (k % e.length) ((rowV e (rowAt e L (k / e.length)))[k % e.length]'(by rw [rowV_length]; exact Nat.mod_lt _ he0)) (List.getElem?_eq_getElem _)
       refine ⟨X, ?_⟩
       have e2 : k / e.length * e.length + k % e.length = k := by rw [Nat.mul_comm]; exact Nat.div_add_mod k e.length
       simpa [e2] using h1
      obtain ⟨g, hg⟩ : ∃ g : Nat → Value, ∀ k, k < n * e.length → w.cell? ⟨B, O + k, none⟩ = some (g k) :=
       ⟨fun k => if hk : k < n * e.length then (hex k hk).choose else undef, fun k hk => by simp only [hk, dif_pos]; exact (hex k hk).choose_spec⟩
      have hrun := run_loadCells_list (P := P) w ⟨B, O, none⟩ ((List.range (n * e.length)).map g) (fun j v hj => by
        rw [addr_add]
        have hj' : j < n * e.length := by have := (List.getElem?_eq_some_iff.1 hj).1; simpa using this
        rw [List.getElem?_map, List.getElem?_range hj'] at hj
        simp at hj; subst hj
        exact hg j hj')
      simp only [List.length_map, List.length_range] at hrun
      refine ⟨.agg ((List.range (n * e.length)).map g).toArray, by simp [Instr.loadAt, Instr.sureAddr, loadVar, run_isAgg hag, run_size hz, hzz, hrun], ?_⟩
      simp only [VRel]
      refine ⟨_, rfl, by simp [hn], rows_arr hr fun k hk => ?_⟩
      rw [hn] at hk
      rw [hg k hk]
      simp [List.getElem?_range hk]
     ·cases hq
    ·cases hq
   ·obtain ⟨h1, rfl⟩ := okB_some hq
    have := loadPart_rel h1 (row_cells hr (by simpa using hp.1))
    simpa [Nat.add_assoc] using this
  ·cases hq
 ·rename_i e L i j
  obtain ⟨h1, rfl⟩ := okB_some hq
  simp only [VRel] at ha
  obtain ⟨B, o, rfl, hr⟩ := ha
  exact loadPart_rel h1 (row_cells (h.rowsφ hr) (by simpa using hp.1))
 ·cases hq

theorem bits_toNat (k : IntKind) (x : Int) : (BitVec.ofInt k.bits x).toNat = ofI k x := by
 have h := modN_eq (kM k) (by cases k <;> decide) x
 rw [BitVec.toNat_ofInt, kM_eqN, ofI]
 omega

theorem wrap_in {n : Int} (h : -9223372036854775808 ≤ n) (h' : n ≤ 9223372036854775807) : IntKind.i64.wrap n = n := by
 simp only [IntKind.wrap, IntKind.bits, IntKind.signed, Bool.true_and, decide_eq_true_eq, ge_iff_le]; split <;> omega
theorem arithE_rel {k : IntKind} {n : Int} {v : V} {ps : List Bool} (h : arithE k n = some (ps, v)) (hp : allB ps) : VRel ρ v (.int k (k.wrap n)) := by
 unfold arithE at h
 split at h <;> cases h
 ·obtain ⟨p1, _⟩ := hp
  rw [inI_eq] at p1
  have p1 := of_decide_eq_true p1
  rw [wrap_in p1.1 p1.2]
  simp only [VRel]
 all_goals simp only [VRel, IntKind.wrap, IntKind.bits, IntKind.signed, Bool.false_and, Bool.false_eq_true, if_false]
 all_goals rfl
theorem quoE_rel {k : IntKind} {a b : Int} {v : V} {ps : List Bool} (h : quoE k a b = some (ps, v)) (hp : allB ps) : b ≠ 0 ∧ VRel ρ v (.int k (k.wrap (a.tdiv b))) := by
 have key : ∀ M : Int, 0 ≤ a → 0 < b → a < M → a.tdiv b = a / b ∧ 0 ≤ a / b ∧ a / b < M := fun M h1 h2 h3 =>
  ⟨Int.tdiv_eq_ediv_of_nonneg h1, Int.ediv_nonneg h1 (Int.le_of_lt h2), Int.lt_of_le_of_lt (Int.ediv_le_self b h1) h3⟩
 unfold quoE at h
 split at h <;> cases h
 ·obtain ⟨p1, p2, p3, _⟩ := hp
  rw [leI_eq] at p1
  rw [ltI_eq] at p2
  rw [inI_eq] at p3
  have h2 := of_decide_eq_true p2
  obtain ⟨k1, k2, k3⟩ := key 9223372036854775808 (of_decide_eq_true p1) h2 (by have := of_decide_eq_true p3; omega)
  rw [k1, wrap_in (by omega) (by omega)]
  exact ⟨by omega, by simp only [VRel]⟩
 ·obtain ⟨p1, p2, p3, _⟩ := hp
  rw [leI_eq] at p1
  rw [ltI_eq] at p2 p3
  have h2 := of_decide_eq_true p2
  obtain ⟨k1, k2, k3⟩ := key _ (of_decide_eq_true p1) h2 (of_decide_eq_true p3)
  rw [k1]
  refine ⟨by omega, ?_⟩
  simp only [VRel, IntKind.wrap, IntKind.bits, IntKind.signed, Bool.false_and, Bool.false_eq_true, if_false]
  congr 1
  omega
 ·obtain ⟨p1, p2, p3, _⟩ := hp
  rw [leI_eq] at p1
  rw [ltI_eq] at p2 p3
  have h2 := of_decide_eq_true p2
  obtain ⟨k1, k2, k3⟩ := key _ (of_decide_eq_true p1) h2 (of_decide_eq_true p3)
  rw [k1]
  refine ⟨by omega, ?_⟩
  simp only [VRel, IntKind.wrap, IntKind.bits, IntKind.signed, Bool.false_and, Bool.false_eq_true, if_false]
  congr 1
  omega
 ·obtain ⟨p1, p2, p3, _⟩ := hp
  rw [leI_eq] at p1
  rw [ltI_eq] at p2 p3
  have h2 := of_decide_eq_true p2
  obtain ⟨k1, k2, k3⟩ := key _ (of_decide_eq_true p1) h2 (of_decide_eq_true p3)
  rw [k1]
  refine ⟨by omega, ?_⟩
  simp only [VRel, IntKind.wrap, IntKind.bits, IntKind.signed, Bool.false_and, Bool.false_eq_true, if_false]
  congr 1
  omega
 ·exact ⟨by simpa using hp.1, by simp only [VRel]⟩
theorem intBin_rel {op : BinOp} {k : IntKind} {a b : Int} {v : V} {ps : List Bool} (h : intBin op k a b = some (ps, v)) (hp : allB ps) (h1 : op ≠ .shl) (h2 : op ≠ .shr) (t : TypeId) :
  ∃ X, (Go.binOp op t (.int k a) (.int k b)).run P w = .ok X w ∧ VRel ρ v X := by
 have e1 := bits_toNat k a
 have e2 := bits_toNat k b
 have e3 : (~~~ BitVec.ofInt k.bits b).toNat = kM k - 1 - ofI k b := by rw [BitVec.toNat_not, e2, kM_eqN]
 cases op
 case shl => exact absurd rfl h1
 case shr => exact absurd rfl h2
 case add => exact ⟨.int k (k.wrap (a + b)), by simp [Go.binOp, Op.intArith], arithE_rel h hp⟩
 case sub => exact ⟨.int k (k.wrap (a - b)), by simp [Go.binOp, Op.intArith], arithE_rel h hp⟩
 case mul => exact ⟨.int k (k.wrap (a * b)), by simp [Go.binOp, Op.intArith], arithE_rel h hp⟩
 case quo =>
  obtain ⟨hb', hv⟩ := quoE_rel (ρ := ρ) h hp
  exact ⟨.int k (k.wrap (a.tdiv b)), by simp [Go.binOp, Op.intDiv, hb'], hv⟩
 case rem =>
  cases h
  obtain ⟨p1, p2, _⟩ := hp
  rw [leI_eq] at p1
  rw [ltI_eq] at p2
  have ha' := of_decide_eq_true p1
  have hb' := of_decide_eq_true p2
  have hb : b ≠ 0 := by omega
  exact ⟨.int k (a.tmod b), by simp [Go.binOp, Op.intDiv, hb], by simp only [VRel]; rw [Int.tmod_eq_emod_of_nonneg ha']⟩
 case and => cases h; exact ⟨_, by simp only [Go.binOp, Op.intBits, ne_eq, not_true_eq_false, if_false, Sem.run_pure, BitVec.toNat_and, e1, e2]; rfl, by simp only [VRel]; rfl⟩
 case or => cases h; exact ⟨_, by simp only [Go.binOp, Op.intBits, ne_eq, not_true_eq_false, if_false, Sem.run_pure, BitVec.toNat_or, e1, e2]; rfl, by simp only [VRel]; rfl⟩
 case xor => cases h; exact ⟨_, by simp only [Go.binOp, Op.intBits, ne_eq, not_true_eq_false, if_false, Sem.run_pure, BitVec.toNat_xor, e1, e2]; rfl, by simp only [VRel]; rfl⟩
 case andNot => cases h; exact ⟨_, by simp only [Go.binOp, Op.intBits, ne_eq, not_true_eq_false, if_false, Sem.run_pure, BitVec.toNat_and, e1, e3]; rfl, by simp only [VRel]; rfl⟩
 case eql => cases h; exact ⟨.bool (a == b), by simp [Go.binOp, Op.intCmp], by simp only [VRel]; rfl⟩
 case neq => cases h; exact ⟨.bool (a != b), by simp [Go.binOp, Op.intCmp], by simp only [VRel]; rfl⟩
 case lss => cases h; exact ⟨.bool (decide (a < b)), by simp [Go.binOp, Op.intCmp], by simp only [VRel, ltI_eq]⟩
 case leq => cases h; exact ⟨.bool (decide (a ≤ b)), by simp [Go.binOp, Op.intCmp], by simp only [VRel, leI_eq]⟩
 case gtr => cases h; exact ⟨.bool (decide (a > b)), by simp [Go.binOp, Op.intCmp], by simp only [VRel, ltI_eq]⟩
 case geq => cases h; exact ⟨.bool (decide (a ≥ b)), by simp [Go.binOp, Op.intCmp], by simp only [VRel, leI_eq]⟩

theorem shiftE_rel {op : BinOp} {k k' : IntKind} {a b : Int} {v : V} {ps : List Bool} (h : shiftE op k a b = some (ps, v)) (hp : allB ps) :
  ∃ X, (Op.shift op k a k' b).run P w = .ok X w ∧ VRel ρ v X := by
 unfold shiftE at h
 split at h
 ·have hb : 0 ≤ b := by split at h <;> (cases h; simpa [leI_eq] using hp.1)
  have hn : ¬ (b < 0) := by omega
  refine ⟨.int k (k.wrap (a * 2 ^ min b.toNat k.bits)), by simp [Op.shift, hn], ?_⟩
  split at h <;> cases h <;> simp only [VRel, IntKind.wrap, IntKind.bits, IntKind.signed, Bool.false_and, Bool.false_eq_true, if_false] <;> rfl
 ·cases h
  have hb : 0 ≤ b := by simpa [leI_eq] using hp.1
  have hn : ¬ (b < 0) := by omega
  refine ⟨.int k (a.fdiv (2 ^ min b.toNat k.bits)), by simp [Op.shift, hn], ?_⟩
  simp only [VRel]
  rw [Int.fdiv_eq_ediv_of_nonneg _ (Int.le_of_lt (Int.pow_pos (by decide)))]
 ·cases h

theorem i64max : IntKind.i64.max = 9223372036854775807 := by decide
theorem sEq_eq (a b : ByteArray) : sEq a b = (a.data.toList == b.data.toList) := by
 unfold sEq
 rw [Bool.eq_iff_iff]
 simp only [decide_eq_true_eq, beq_iff_eq]
 exact ⟨fun h => by rw [h], ba_ext⟩

theorem strBin_rel {op : BinOp} {a b : ByteArray} {v : V} {ps : List Bool} (h : strBin op a b = some (ps, v)) (hp : allB ps) :
  ∃ X, (Op.stringOp op a b).run P w = .ok X w ∧ VRel ρ v X := by
 have he := sEq_eq a b
 have hl : sLt a b = Op.bytesLess a.data.toList b.data.toList := rfl
 cases op <;> simp only [strBin, ok0, reduceCtorEq, Option.some.injEq, Prod.mk.injEq] at h
 case add =>
  obtain ⟨rfl, rfl⟩ := h
  have hb' : a.size + b.size ≤ 4611686018427387904 := by simpa using hp.1
  refine ⟨.string (a ++ b), ?_, by simp [VRel]⟩
  simp only [Op.stringOp, i64max]
  rw [if_neg (by omega)]
  rfl
 all_goals
  obtain ⟨rfl, rfl⟩ := h
  simp only [Op.stringOp, ByteArray.toList_eq, VRel, ← he, ← hl]
  exact ⟨_, rfl, rfl⟩

theorem plain_rel (h : SRel own ρ s w) {b : Nat} (hb : plainBlock s b = true) {x0 : Blk} (hx0 : ρ b = some x0) : ∃ x C t, ρ b = some x ∧ w.heap[x.B]? = some (.cells C t (0, 0)) := by
 unfold plainBlock at hb
 split at hb
 ·rename_i cs t0 hg
  obtain ⟨x, h1, _, C, t, fr, h3, _, _, _, _, h8⟩ := h.obj' hg hx0
  rw [h8 rfl] at h3
  exact ⟨x, C, t, h1, h3⟩
 ·cases hb

theorem run_mayBeOne {a b : Addr} {C D : Array Value} {t u : TypeId} (ha : w.heap[a.block]? = some (.cells C t (0, 0))) (hb : w.heap[b.block]? = some (.cells D u (0, 0))) :
  (mayBeOne a b).run P w = .ok false w := by
 have s1 : (stringish a).run P w = .ok false w := by simp [stringish, World.frozen?, World.shape?, ha]
 have s2 : (stringish b).run P w = .ok false w := by simp [stringish, World.frozen?, World.shape?, hb]
 have sh1 : w.shape? a.block = some (t, C.size) := by simp [World.shape?, ha]
 have sh2 : w.shape? b.block = some (u, D.size) := by simp [World.shape?, hb]
 simp [mayBeOne, s1, s2, sh1, sh2]

theorem run_sameAddr {a b : Addr} {C D : Array Value} {t u : TypeId} (ha : w.heap[a.block]? = some (.cells C t (0, 0))) (hb : w.heap[b.block]? = some (.cells D u (0, 0))) (hne : a.block ≠ b.block) :
  (sameAddr a b).run P w = .ok false w := by
 have n1 : (noView a).run P w = .ok () w := by simp [noView, viewAt, World.shape?, ha]
 have n2 : (noView b).run P w = .ok () w := by simp [noView, viewAt, World.shape?, hb]
 have e : (a.block == b.block) = false := by simpa using hne
 have f1 : w.frozen? a = false := by simp [World.frozen?, ha]
 simp [sameAddr, e, f1, n1, n2, run_mayBeOne ha hb]

set_option maxHeartbeats 800000 in
theorem eqE_rel (h : SRel own ρ s w) {t : TypeId} {a b : V} {r : Bool} (hq : eqE P s t a b = some r) {A B : Value} (ha : VRel ρ a A) (hb : VRel ρ b B) (d : Nat) :
  (Op.equalIn (d + 1) t A B).run P w = .ok r w := by
 unfold eqE at hq
 split at hq <;> rename_i hd
 ·split at hq <;> cases hq
  simp only [VRel] at ha hb; subst ha; subst hb
  simp [Op.equalIn, run_und hd]
 ·rename_i e
  split at hq
  ·cases hq; simp only [VRel] at ha hb; subst ha; subst hb; simp [Op.equalIn, run_und hd]
  ·cases hq; simp only [VRel] at ha hb; obtain ⟨_, _, _, _, rfl⟩ := hb; subst ha; simp [Op.equalIn, run_und hd]
  ·cases hq; simp only [VRel] at ha hb; obtain ⟨_, _, _, _, rfl⟩ := ha; subst hb; simp [Op.equalIn, run_und hd]
  ·cases hq; simp only [VRel] at ha hb; obtain ⟨_, _, rfl, _⟩ := hb; subst ha; simp [Op.equalIn, run_und hd]
  ·cases hq; simp only [VRel] at ha hb; obtain ⟨_, _, rfl, _⟩ := ha; subst hb; simp [Op.equalIn, run_und hd]
  ·rename_i x o y q
   split at hq
   ·rename_i n hn
    cases hp : (plainBlock s x && plainBlock s y) with
    | false => simp [hp] at hq
    | true =>
     simp only [hp, cond_true] at hq
     simp only [Bool.and_eq_true] at hp
     simp only [VRel] at ha hb
     obtain ⟨B1, O1, S1, hB1, rfl⟩ := ha
     obtain ⟨B2, O2, S2, hB2, rfl⟩ := hb
     obtain ⟨x1, C1, t1, hx1, hw1⟩ := plain_rel h hp.1 hB1
     obtain ⟨x2, C2, t2, hx2, hw2⟩ := plain_rel h hp.2 hB2
     rw [hB1] at hx1; cases hx1
     rw [hB2] at hx2; cases hx2
     simp only [Op.equalIn, Sem.run_bind, run_und hd, Result.andThen_ok, run_size hn]
     cases hxy : Nat.beq x y with
     | true =>
      have e' : x = y := by simpa using hxy
      subst e'
      rw [hB1] at hB2; cases hB2
      simp only [hxy, cond_true, Option.some.injEq] at hq
      subst hq
      simp only [sameAddr]
      simp
      rw [Bool.eq_iff_iff]; simp
     | false =>
      simp only [hxy, cond_false, Option.some.injEq] at hq
      subst hq
      have hne : x ≠ y := by intro e; subst e; simp at hxy
      have hBne : B1 ≠ B2 := by
       unfold plainBlock at hp
       obtain ⟨p1, p2⟩ := hp
       split at p1
       ·rename_i g1
        split at p2
        ·rename_i g2
         exact h.inj x y _ _ _ _ g1 g2 hB1 hB2 hne
        ·cases p2
       ·cases p1
      simp only [ne_eq, Nat.add_eq_zero_iff, Nat.succ_ne_self, and_false, not_false_eq_true, if_true, Nat.add_one_ne_zero]
      exact run_sameAddr hw1 hw2 hBne
   ·cases hq
  ·cases hq
 ·split at hq <;> cases hq <;> simp only [VRel] at ha hb
  ·subst ha; subst hb; simp [Op.equalIn, run_und hd]
  ·obtain ⟨_, _, _, _, _, rfl, _⟩ := hb; subst ha; simp [Op.equalIn, run_und hd]
  ·obtain ⟨_, _, _, _, _, rfl, _⟩ := ha; subst hb; simp [Op.equalIn, run_und hd]
 ·split at hq <;> cases hq <;> simp only [VRel] at ha hb
  ·subst ha; subst hb; simp [Op.equalIn, run_und hd]
  ·obtain ⟨_, _, _, _, rfl⟩ := hb; subst ha; simp [Op.equalIn, run_und hd]
  ·obtain ⟨_, _, _, _, rfl⟩ := ha; subst hb; simp [Op.equalIn, run_und hd]
 ·split at hq <;> cases hq <;> simp only [VRel] at ha hb
  ·subst ha; subst hb; simp [Op.equalIn, run_und hd]
  ·obtain ⟨_, _, rfl, _⟩ := hb; subst ha; simp [Op.equalIn, run_und hd]
  ·obtain ⟨_, _, rfl, _⟩ := ha; subst hb; simp [Op.equalIn, run_und hd]
  ·obtain ⟨_, _, _, _, rfl⟩ := hb; subst ha; simp [Op.equalIn, run_und hd]
  ·obtain ⟨_, _, _, _, rfl⟩ := ha; subst hb; simp [Op.equalIn, run_und hd]
 ·split at hq <;> cases hq <;> simp only [VRel] at ha hb
  ·obtain ⟨_, rfl, _⟩ := hb; subst ha; simp [Op.equalIn, run_und hd]
  ·obtain ⟨_, rfl, _⟩ := ha; subst hb; simp [Op.equalIn, run_und hd]
 ·cases hq

end
end Go.Sym
end

noncomputable section
namespace Go.Sym

section
variable {P : Program} {own : Own} {ρ : Env} {s : St} {w : World}

theorem vint (k : IntKind) (n : Int) : VRel ρ (.int k n) (.int k n) := by simp only [VRel]
theorem vbool (b : Bool) : VRel ρ (.bool b) (.bool b) := by simp only [VRel]
theorem vstr (s : ByteArray) : VRel ρ (.str s) (.string s) := by simp only [VRel]
theorem part_cell {t : TypeId} {A : Array Value} {off : Nat} {X : Value} (ht : isAggE P t = some false) (h : A[off]? = some X) : (part t A off).run P w = .ok X w := by
 simp [part, run_isAgg ht, h]

theorem eqFields_rel (d : Nat) {nest : TypeId → V → V → Option Bool} (hnest : ∀ t a b r, nest t a b = some r → ∀ A B, VRel ρ a A → VRel ρ b B → (Op.equalIn (d + 1) t A B).run P w = .ok r w) :
  ∀ (fs : List Field) {l m : List V} {r : Bool}, eqFields P nest fs l m = some r → ∀ {A B : Array Value}, LRel ρ l A.toList → LRel ρ m B.toList →
  (Op.eqFields (d + 1) A B fs).run P w = .ok r w
 | [], l, m, r, h, A, B, ha, hb => by simp only [eqFields] at h; cases h; simp [Op.eqFields]
 | f :: rest, l, m, r, h, A, B, ha, hb => by
  have ih := fun {r} h => eqFields_rel d hnest rest (l := l) (m := m) (r := r) h ha hb
  simp only [eqFields, lget_eq, kEq_iff] at h
  cases hn : (f.name == "_") with
  | true => simp [hn] at h
  | false =>
   simp only [hn, cond_false] at h
   have hne : f.name ≠ "_" := by simpa using hn
   simp only [Op.eqFields, hne, ne_eq, not_false_eq_true, if_true]
   split at h
   ·rename_i k0 hd
    have hag : isAggE P f.type = some false := by simp [isAggE, hd]
    split at h
    ·rename_i k x k' y h1 h2
     cases hkk : decide (k = k') with
     | false => simp [hkk] at h
     | true =>
      have hk : k = k' := by simpa using hkk
      subst hk
      simp only [decide_true, cond_true] at h
      split at h
      ·rename_i r' hr'
       cases h
       obtain ⟨X, e1, e2⟩ := ha.get h1
       obtain ⟨Y, e3, e4⟩ := hb.get h2
       simp only [VRel] at e2 e4; subst e2; subst e4
       simp only [Array.getElem?_toList] at e1 e3
       simp only [Sem.run_bind, part_cell hag e1, part_cell hag e3, Result.andThen_ok, run_equalIn_int w d _ _ _ _ _ hd]
       by_cases hxy : x = y
       ·subst hxy; simpa using ih hr'
       ·simp [hxy]
      ·cases h
    ·cases h
   ·rename_i hd
    have hag : isAggE P f.type = some false := by simp [isAggE, hd]
    split at h
    ·rename_i x y h1 h2
     split at h
     ·rename_i r' hr'
      cases h
      obtain ⟨X, e1, e2⟩ := ha.get h1
      obtain ⟨Y, e3, e4⟩ := hb.get h2
      simp only [VRel] at e2 e4; subst e2; subst e4
      simp only [Array.getElem?_toList] at e1 e3
      simp only [Sem.run_bind, part_cell hag e1, part_cell hag e3, Result.andThen_ok, run_equalIn_bool w d _ _ _ hd]
      cases hxy : (x == y) with
      | true => simpa using ih hr'
      | false => simp
     ·cases h
    ·cases h
   ·rename_i hd
    have hag : isAggE P f.type = some false := by simp [isAggE, hd]
    split at h
    ·rename_i x y h1 h2
     split at h
     ·rename_i r' hr'
      cases h
      obtain ⟨X, e1, e2⟩ := ha.get h1
      obtain ⟨Y, e3, e4⟩ := hb.get h2
      simp only [VRel] at e2 e4; subst e2; subst e4
      simp only [Array.getElem?_toList] at e1 e3
      have he := sEq_eq x y
      simp only [Sem.run_bind, part_cell hag e1, part_cell hag e3, Result.andThen_ok, run_equalIn_string w d _ _ _ hd, ByteArray.toList_eq, ← he]
      cases hxy : sEq x y with
      | true => simpa using ih hr'
      | false => simp
     ·cases h
    ·cases h
   ·rename_i hd
    split at h
    ·rename_i x y h1 h2
     obtain ⟨X, e1, e2⟩ := partE_rel (w := w) h1 ha
     obtain ⟨Y, e3, e4⟩ := partE_rel (w := w) h2 hb
     split at h
     ·rename_i q r' hx hr'
      cases h
      simp only [Sem.run_bind, e1, e3, Result.andThen_ok, hnest _ _ _ _ hx _ _ e2 e4]
      cases q with
      | true => simpa using ih hr'
      | false => simp
     ·cases h
    ·cases h
   ·cases h

theorem eqNest_rel : ∀ (n d : Nat), n < d → ∀ t a b r, eqNest P n t a b = some r → ∀ A B, VRel ρ a A → VRel ρ b B → (Op.equalIn (d + 1) t A B).run P w = .ok r w
 | 0, _, _, _, _, _, _, h, _, _, _, _ => by simp only [eqNest] at h; cases h
 | n + 1, d, hd, t, a, b, r, h, A, B, ha, hb => by
  simp only [eqNest] at h
  split at h
  ·rename_i fs hu
   split at h
   ·rename_i l m
    cases hg : P.stoodInHeld t with
    | true => simp [hg] at h
    | false =>
     simp only [hg, cond_false] at h
     simp only [VRel] at ha hb
     obtain ⟨xs, rfl, ha⟩ := ha
     obtain ⟨ys, rfl, hb⟩ := hb
     have hf : P.fieldsOf t = fs := by simp [Program.fieldsOf, hu]
     have := run_equalIn_struct w d t xs ys (by rw [hf]; exact hu) hg
     obtain ⟨e, rfl⟩ : ∃ e, d = e + 1 := ⟨d - 1, by omega⟩
     rw [hf, eqFields_rel e (eqNest_rel n e (by omega)) _ h ha hb] at this
     exact this
   ·cases h
  ·cases h

theorem eqE_shape {t : TypeId} {a b : V} {r : Bool} (hq : eqE P s t a b = some r) {A B : Value} (ha : VRel ρ a A) (hb : VRel ρ b B) (op : BinOp) (x y : Operand) :
  (eqGuard op t x y A B).run P w = .ok () w ∧ Go.binOp .eql t A B = (do pure (.bool (← Op.equal t A B))) ∧ Go.binOp .neq t A B = (do pure (.bool (!(← Op.equal t A B)))) := by
 unfold eqE at hq
 split at hq <;> (try (cases hq; done)) <;> split at hq <;> (try (cases hq; done)) <;>
  simp only [VRel] at ha hb <;> (try obtain ⟨_, _, _, _, _, rfl, _⟩ := ha) <;> (try obtain ⟨_, _, _, _, rfl⟩ := ha) <;> (try obtain ⟨_, _, rfl, _⟩ := ha) <;> (try obtain ⟨_, rfl, _⟩ := ha) <;>
  (try obtain ⟨_, _, _, _, _, rfl, _⟩ := hb) <;> (try obtain ⟨_, _, _, _, rfl⟩ := hb) <;> (try obtain ⟨_, _, rfl, _⟩ := hb) <;> (try obtain ⟨_, rfl, _⟩ := hb) <;>
  (try subst ha) <;> (try subst hb) <;> refine ⟨?_, rfl, rfl⟩ <;> cases op <;> simp [eqGuard]

theorem eqAny_rel (h : SRel own ρ s w) {t : TypeId} {a b : V} {r : Bool} (hq : eqAny P s t a b = some r) {A B : Value} (ha : VRel ρ a A) (hb : VRel ρ b B) (op : BinOp) (x y : Operand) :
  (eqGuard op t x y A B).run P w = .ok () w ∧ (Go.binOp .eql t A B).run P w = .ok (.bool r) w ∧ (Go.binOp .neq t A B).run P w = .ok (.bool (!r)) w := by
 unfold eqAny at hq
 split at hq
 ·rename_i r' hr
  cases hq
  obtain ⟨h1, h2, h3⟩ := eqE_shape (w := w) hr ha hb op x y
  have := eqE_rel h hr ha hb 9999
  rw [h2, h3]
  refine ⟨h1, ?_, ?_⟩ <;> simp [Op.equal, Op.maxDepth, this]
 split at hq
 ·rename_i r' hr
  cases hq
  unfold eqNil2 at hr
  split at hr
  ·rename_i ms hd
   split at hr
   ·cases hm : ms.isEmpty with
    | false => rw [hm] at hr; cases hr
    | true =>
     rw [hm, cond_true] at hr
     cases hr
     simp only [VRel] at ha hb; subst ha; subst hb
     have k1 : ∀ d, (Op.eqGuardIn (d + 1) t .nilIface .nilIface).run P w = .ok false w := fun d => by simp [Op.eqGuardIn, run_und hd, hm]
     have k2 : ∀ d, (Op.equalIn (d + 1) t .nilIface .nilIface).run P w = .ok true w := fun d => by simp [Op.equalIn, run_und hd]
     have g1 : (Op.eqGuardIn Op.maxDepth t .nilIface .nilIface).run P w = .ok false w := k1 9999
     have g2 : (Op.equal t .nilIface .nilIface).run P w = .ok true w := k2 9999
     refine ⟨?_, ?_, ?_⟩
     ·cases op <;> simp [eqGuard, g1]
     ·have e : Go.binOp .eql t .nilIface .nilIface = (do pure (.bool (← Op.equal t .nilIface .nilIface))) := rfl
      rw [e]; simp [g2]
     ·have e : Go.binOp .neq t .nilIface .nilIface = (do pure (.bool (!(← Op.equal t .nilIface .nilIface)))) := rfl
      rw [e]; simp [g2]
   ·cases hr
  ·cases hr
 ·unfold eqStruct at hq
  split at hq
  ·rename_i fs hd
   split at hq
   ·rename_i l m
    cases hg : (P.stoodInHeld t || P.eqGuardType P.depth t) with
    | true => simp [hg] at hq
    | false =>
     simp only [hg, cond_false] at hq
     simp only [Bool.or_eq_false_iff] at hg
     simp only [VRel] at ha hb
     obtain ⟨xs, rfl, ha⟩ := ha
     obtain ⟨ys, rfl, hb⟩ := hb
     have hf : P.fieldsOf t = fs := by simp [Program.fieldsOf, hd]
     have := run_equalIn_struct w 9999 t xs ys (by rw [hf]; exact hd) hg.1
     rw [hf, eqFields_rel 9998 (eqNest_rel 6 9998 (by omega)) _ hq ha hb] at this
     exact ⟨run_eqGuard_agg w op t x y xs ys hg.2, by rw [run_eql_struct, this]; rfl, by rw [run_neq_struct, this]; rfl⟩
   ·cases hq
  ·cases hq

theorem nilCmp_rel {t : TypeId} {a b : V} {c : List Bool} (hq : nilCmp P t a b = some c) (hp : allB c) {A B : Value} (ha : VRel ρ a A) (hb : VRel ρ b B) (op : BinOp) (x y : Operand) :
  (eqGuard op t x y A B).run P w = .ok () w ∧ (Go.binOp .eql t A B).run P w = .ok (.bool false) w ∧ (Go.binOp .neq t A B).run P w = .ok (.bool true) w := by
 have key : ∀ (A B : Value), (∃ a n c e, P.underlying t = some (.slice e) ∧ ((A = .slice (some a) n c ∧ B = .slice none 0 0) ∨ (A = .slice none 0 0 ∧ B = .slice (some a) n c))) →
   (eqGuard op t x y A B).run P w = .ok () w ∧ (Go.binOp .eql t A B).run P w = .ok (.bool false) w ∧ (Go.binOp .neq t A B).run P w = .ok (.bool true) w := by
  rintro A B ⟨a, n, c, e, hd, ⟨rfl, rfl⟩ | ⟨rfl, rfl⟩⟩
  ·have h1 : ∀ d, (Op.equalIn (d + 1) t (.slice (some a) n c) (.slice none 0 0)).run P w = .ok false w := fun d => by simp [Op.equalIn, run_und hd]
   have h2 : (Op.equal t (.slice (some a) n c) (.slice none 0 0)).run P w = .ok false w := h1 9999
   refine ⟨by cases op <;> simp [eqGuard], ?_, ?_⟩
   ·have e : Go.binOp .eql t (.slice (some a) n c) (.slice none 0 0) = (do pure (.bool (← Op.equal t (.slice (some a) n c) (.slice none 0 0)))) := rfl
    rw [e]; simp [h2]
   ·have e : Go.binOp .neq t (.slice (some a) n c) (.slice none 0 0) = (do pure (.bool (!(← Op.equal t (.slice (some a) n c) (.slice none 0 0))))) := rfl
    rw [e]; simp [h2]
  ·have h1 : ∀ d, (Op.equalIn (d + 1) t (.slice none 0 0) (.slice (some a) n c)).run P w = .ok false w := fun d => by simp [Op.equalIn, run_und hd]
   have h2 : (Op.equal t (.slice none 0 0) (.slice (some a) n c)).run P w = .ok false w := h1 9999
   refine ⟨by cases op <;> simp [eqGuard], ?_, ?_⟩
   ·have e : Go.binOp .eql t (.slice none 0 0) (.slice (some a) n c) = (do pure (.bool (← Op.equal t (.slice none 0 0) (.slice (some a) n c)))) := rfl
    rw [e]; simp [h2]
   ·have e : Go.binOp .neq t (.slice none 0 0) (.slice (some a) n c) = (do pure (.bool (!(← Op.equal t (.slice none 0 0) (.slice (some a) n c))))) := rfl
    rw [e]; simp [h2]
 have hlst : ∀ {e : List Ty} {L : List (rowDen e)} {cl : Bool} {X : Value}, VRel ρ (.lst e L cl) X → 0 < List.length (α := rowDen e) L → ∃ a n c, X = .slice (some a) n c := fun r hp => by
  simp only [VRel] at r
  obtain ⟨a, c, rfl, _, _, _, h4⟩ := r
  obtain ⟨B, o, rfl, _⟩ := h4 hp
  exact ⟨_, _, _, rfl⟩
 have hrs : ∀ {b lo len cap : Nat} {x' : Bool} {es : Nat} {X : Value}, VRel ρ (.rs b lo len cap x' es) X → 0 < len → ∃ a n c, X = .slice (some a) n c := fun r hp => by
  simp only [VRel] at r
  obtain ⟨a, c, rfl, h2, h3, _, _, h5⟩ := r
  obtain ⟨B, O, S, _, rfl, _⟩ := h5 (by omega)
  exact ⟨_, _, _, rfl⟩
 unfold nilCmp at hq
 split at hq
 ·rename_i e0 hd
  split at hq <;> cases hq
  ·obtain ⟨a, n, c, rfl⟩ := hlst ha (of_decide_eq_true hp.1)
   simp only [VRel] at hb
   exact key _ _ ⟨a, n, c, e0, hd, .inl ⟨rfl, hb⟩⟩
  ·obtain ⟨a, n, c, rfl⟩ := hlst hb (of_decide_eq_true hp.1)
   simp only [VRel] at ha
   exact key _ _ ⟨a, n, c, e0, hd, .inr ⟨ha, rfl⟩⟩
  ·obtain ⟨a, n, c, rfl⟩ := hrs ha (of_decide_eq_true hp.1)
   simp only [VRel] at hb
   exact key _ _ ⟨a, n, c, e0, hd, .inl ⟨rfl, hb⟩⟩
  ·obtain ⟨a, n, c, rfl⟩ := hrs hb (of_decide_eq_true hp.1)
   simp only [VRel] at ha
   exact key _ _ ⟨a, n, c, e0, hd, .inr ⟨ha, rfl⟩⟩
 ·cases hq
theorem qBin_rel (h : SRel own ρ s w) {op : BinOp} {t : TypeId} {a b v : V} {ps : List Bool} (hq : qBin P s op t a b = some (ps, v)) (hp : allB ps) {A B : Value} (ha : VRel ρ a A) (hb : VRel ρ b B) (x y : Operand) :
  ∃ X, (do eqGuard op t x y A B; Go.binOp op t A B : Sem Value).run P w = .ok X w ∧ VRel ρ v X := by
 unfold qBin at hq
 split at hq
 ·rename_i k x1 k' y1
  simp only [VRel] at ha hb; subst ha; subst hb
  have hg : (eqGuard op t x y (.int k x1) (.int k' y1)).run P w = .ok () w := by cases op <;> simp [eqGuard]
  simp only [Sem.run_bind, hg, Result.andThen_ok]
  split at hq
  ·exact shiftE_rel (k' := k') hq hp
  ·exact shiftE_rel (k' := k') hq hp
  ·rename_i h1 h2
   rw [kEq_iff] at hq
   cases hkk : decide (k = k') with
   | false => simp [hkk] at hq
   | true =>
    have hk : k = k' := by simpa using hkk
    subst hk
    simp only [decide_true, cond_true] at hq
    exact intBin_rel hq hp h1 h2 t
 ·rename_i x1 y1
  simp only [VRel] at ha hb; subst ha; subst hb
  have hg : (eqGuard op t x y (.string x1) (.string y1)).run P w = .ok () w := by cases op <;> simp [eqGuard]
  simp only [Sem.run_bind, hg, Result.andThen_ok]
  have : Go.binOp op t (.string x1) (.string y1) = Op.stringOp op x1 y1 := by cases op <;> rfl
  rw [this]
  exact strBin_rel hq hp
 ·split at hq
  ·split at hq
   ·rename_i r hr
    cases hq
    obtain ⟨h1, h2, _⟩ := eqAny_rel h hr ha hb .eql x y
    exact ⟨.bool r, by simp [h1, h2], by simp [VRel]⟩
   ·split at hq
    ·rename_i c hc
     cases hq
     obtain ⟨h1, h2, _⟩ := nilCmp_rel (w := w) hc hp ha hb .eql x y
     exact ⟨.bool false, by simp [h1, h2], by simp [VRel]⟩
    ·cases hq
  ·split at hq
   ·rename_i r hr
    cases hq
    obtain ⟨h1, _, h2⟩ := eqAny_rel h hr ha hb .neq x y
    exact ⟨.bool (!r), by simp [h1, h2], by simp [VRel]⟩
   ·split at hq
    ·rename_i c hc
     cases hq
     obtain ⟨h1, _, h2⟩ := nilCmp_rel (w := w) hc hp ha hb .neq x y
     exact ⟨.bool true, by simp [h1, h2], by simp [VRel]⟩
    ·cases hq
  ·cases hq

theorem qUn_rel {op : UnOp} {a v : V} (hq : qUn op a = some v) {A : Value} (ha : VRel ρ a A) : ∃ X, (Op.unary op A).run P w = .ok X w ∧ VRel ρ v X := by
 unfold qUn at hq
 split at hq <;> cases hq <;> simp only [VRel] at ha <;> subst ha
 ·rename_i k n
  exact ⟨.int k (k.wrap (0 - n)), by simp [Op.unary, Op.intArith], by simp only [VRel]⟩
 ·rename_i k n
  have e : ofI k (if k.signed = true then -1 else k.max) = kM k - 1 := by cases k <;> rfl
  refine ⟨.int k (k.wrap ((Nat.xor (kM k - 1) (ofI k n) : Nat) : Int)), ?_, by simp only [VRel]; rfl⟩
  simp only [Op.unary, Op.intBits, Sem.run_pure, BitVec.toNat_xor, bits_toNat, e]
  rfl
 ·exact ⟨_, by simp [Op.unary], vbool _⟩

theorem bytesOf_rel : ∀ {l : List V} {r : List Int}, bytesOf l = some r → ∀ {L : List Value}, LRel ρ l L → L = r.map (Value.int .u8)
 | [], r, h, L, hl => by
  simp only [bytesOf, Option.some.injEq] at h; subst h
  have hl : L = [] := hl
  simp [hl]
 | v :: l, r, h, L, hl => by
  obtain ⟨X, Y, rfl, h1, h2⟩ := hl
  unfold bytesOf at h
  split at h
  ·rename_i e; cases e
  ·rename_i n l' e
   cases e
   split at h
   ·rename_i r' hr
    cases h
    simp only [VRel] at h1
    simp [h1, bytesOf_rel hr h2]
   ·cases h
  ·cases h

theorem foldl_push : ∀ (ns : List Int) (r : ByteArray), (ns.foldl (fun r n => r.push (UInt8.ofNat n.toNat)) r).data.toList = r.data.toList ++ ns.map fun n => UInt8.ofNat n.toNat
 | [], r => by simp
 | n :: ns, r => by
  simp only [List.foldl_cons, List.map_cons]
  rw [foldl_push ns]
  simp [ByteArray.push]

theorem asL_some {e e' : List Ty} {L : List (rowDen e')} {M : List (rowDen e)} (h : asL e e' L = some M) : ∃ q : e' = e, M = castL q L := by
 unfold asL at h
 split at h
 ·rename_i hb; cases h; exact ⟨beqL_eq _ _ hb, rfl⟩
 ·cases h
theorem rows_bytes {φ : Nat → Nat → Option Value} {e : List Ty} {L : List (rowDen e)} {r : List Int} (h : asBytes e L = some r) {C : Nat → Option Value} (hr : RowsAt φ e L C) :
  e.length = 1 ∧ r.length = L.length ∧ ∀ i n, r[i]? = some n → C i = some (.int .u8 n) := by
 obtain ⟨q, rfl⟩ := asL_some h
 subst q
 refine ⟨rfl, rfl, fun i n hi => ?_⟩
 have hi : (L : List Int)[i]? = some n := hi
 obtain ⟨hlt, e1⟩ := List.getElem?_eq_some_iff.1 hi
 have := hr i hlt
 rw [CRel] at this
 obtain ⟨X, h1, h2⟩ := this
 have h2 : X = Value.int .u8 (rowAt [.int .u8] L i) := h2
 have e2 : rowAt [.int .u8] L i = n := by
  show List.getD L i _ = n
  rw [List.getD_eq_getElem?_getD]
  exact congrArg (fun x : Option Int => x.getD 0) hi
 rw [e2] at h2
 subst h2
 simpa using h1

theorem strOf_rel (r : List Int) : (r.foldl (fun (r : ByteArray) n => r.push (UInt8.ofNat n.toNat)) .empty) = strOf r := by
 apply ba_ext
 rw [foldl_push, strOf]
 simp

theorem qConv_rel (h : SRel own ρ s w) {src dst : TypeId} {a v : V} {ps : List Bool} (hq : qConv P s src dst a = some (ps, v)) (hp : allB ps) {A : Value} (ha : VRel ρ a A) :
  ∃ X, (Go.convert src dst A).run P w = .ok X w ∧ VRel ρ v X := by
 unfold qConv at hq
 split at hq
 ·rename_i sd dd hs hd
  split at hq
  ·split at hq
   ·simp only [VRel] at ha; subst ha
    rename_i k
    exact ⟨.int k (k.wrap _), by simp [Go.convert, run_und hs, run_und hd, Conv.intToInt], arithE_rel hq hp⟩
   ·cases hq
  ·split at hq <;> cases hq
   simp only [VRel] at ha; subst ha
   exact ⟨_, by simp [Go.convert, run_und hs, run_und hd], vstr _⟩
  ·split at hq
   ·rename_i e
    split at hq
    ·rename_i he
     cases hq
     simp only [VRel] at ha; subst ha
     refine ⟨.string .empty, by simp [Go.convert, run_und hs, run_und hd, run_und he, Conv.bytesToString], ?_⟩
     simp only [VRel]; rfl
    ·cases hq
   ·cases hq
  ·rename_i e' L cl
   split at hq
   ·rename_i e
    split at hq
    ·rename_i he
     split at hq
     ·rename_i r hr
      cases hq
      simp only [VRel] at ha
      obtain ⟨a, c, rfl, _, _, hn, hrow⟩ := ha
      have hlen : r.length = L.length := by obtain ⟨q, rfl⟩ := asL_some hr; subst q; rfl
      rcases Nat.eq_zero_or_pos L.length with h0 | h0
      ·have hr0 : r = [] := List.length_eq_zero_iff.1 (by omega)
       rw [h0, hr0]
       cases a with
       | none =>
        have := hn rfl; subst this
        exact ⟨.string .empty, by simp [Go.convert, run_und hs, run_und hd, run_und he, Conv.bytesToString], by simp only [VRel]; rfl⟩
       | some ad =>
        have hL : (loadCells ad 0).run P w = .ok #[] w := run_loadCells_list (P := P) w ad [] (fun j v hj => by simp at hj)
        refine ⟨.string .empty, ?_, by simp only [VRel]; rfl⟩
        rw [run_convert_bytes_string w src dst e _ _ _ hs he hd, run_bytesToString w _ _ _ [] (by simpa using hL)]
        rfl
      ·obtain ⟨B, o, rfl, hro⟩ := hrow h0
       obtain ⟨_, _, hcell⟩ := rows_bytes hr (h.rowsφ hro)
       have hL := run_loadCells_list (P := P) w ⟨B, o, none⟩ (r.map (Value.int .u8)) (fun j v hj => by
         rw [addr_add]
         rw [List.getElem?_map] at hj
         cases hj' : r[j]? with
         | none => simp [hj'] at hj
         | some n => simp [hj'] at hj; subst hj; exact hcell _ _ hj')
       simp only [List.length_map, hlen] at hL
       refine ⟨.string (strOf r), ?_, by simp only [VRel]⟩
       rw [run_convert_bytes_string w src dst e _ _ _ hs he hd, run_bytesToString w _ _ _ r hL, strOf_rel]
     ·cases hq
    ·cases hq
   ·cases hq
  ·rename_i b lo len cap x es
   split at hq
   ·rename_i e
    split at hq
    ·rename_i he
     split at hq
     ·rename_i e' L hL
      split at hq
      ·rename_i r hr
       cases hes : Nat.beq es 1 with
       | false => rw [hes] at hq; cases hq
       | true =>
       rw [hes, cond_true] at hq
       have hes := Nat.eq_of_beq_eq_true hes
       subst hes
       cases hq
       have hle : lo + len ≤ r.length := by simpa using hp.1
       simp only [VRel] at ha
       obtain ⟨a, c, rfl, hc1, hc2, _, hn, hrow⟩ := ha
       rcases Nat.eq_zero_or_pos len with h0 | h0
       ·subst h0
        have e0 : strOf ((r.drop lo).take 0) = .empty := by simp [strOf]; rfl
        rw [e0]
        cases a with
        | none =>
         have := hn rfl; subst this
         exact ⟨.string .empty, by simp [Go.convert, run_und hs, run_und hd, run_und he, Conv.bytesToString], by simp only [VRel]⟩
        | some ad =>
         have hL : (loadCells ad 0).run P w = .ok #[] w := run_loadCells_list (P := P) w ad [] (fun j v hj => by simp at hj)
         refine ⟨.string .empty, ?_, by simp only [VRel]⟩
         rw [run_convert_bytes_string w src dst e _ _ _ hs he hd, run_bytesToString w _ _ _ [] (by simpa using hL)]
         rfl
       ·obtain ⟨B, O, S, hb, rfl, _⟩ := hrow (by omega)
        obtain ⟨hro, _⟩ := h.rowsAt hL hb
        obtain ⟨_, hlen, hcell⟩ := rows_bytes hr hro
        have hL := run_loadCells_list (P := P) w ⟨B, O + lo * 1, none⟩ (((r.drop lo).take len).map (Value.int .u8)) (fun j v hj => by
          rw [addr_add]
          rw [List.getElem?_map] at hj
          cases hj' : ((r.drop lo).take len)[j]? with
          | none => simp [hj'] at hj
          | some n =>
            simp [hj'] at hj; subst hj
            have hjl : j < len := by
              have := (List.getElem?_eq_some_iff.1 hj').1
              simp at this; omega
            rw [List.getElem?_take_of_lt hjl, List.getElem?_drop] at hj'
            have := hcell _ _ hj'
            simpa [Nat.add_assoc] using this)
        have e3 : (((r.drop lo).take len).map (Value.int .u8)).length = len := by simp; omega
        rw [e3] at hL
        refine ⟨.string (strOf ((r.drop lo).take len)), ?_, by simp only [VRel]⟩
        rw [run_convert_bytes_string w src dst e _ _ _ hs he hd, run_bytesToString w _ _ _ _ hL, strOf_rel]
      ·cases hq
     ·cases hq
    ·cases hq
   ·cases hq
  ·rename_i b o len cap x es
   split at hq
   ·rename_i e
    split at hq
    ·rename_i he
     split at hq
     ·rename_i cs hcs
      simp only [llen_eq, ltake_eq, ldrop_eq] at hq
      cases hb : Nat.ble (o + len) cs.length with
      | false => simp [hb] at hq
      | true =>
       rw [hb] at hq; simp only [cond_true] at hq
       split at hq
       ·rename_i r hr
        cases hq
        simp only [VRel] at ha
        obtain ⟨B, O, S, cap', hB, rfl, _⟩ := ha
        obtain ⟨L, hL, hl⟩ := load_of_cells (P := P) (h.cellsAt hcs hB).1 o len (by rw [← Nat.ble_eq]; exact hb)
        have e1 := bytesOf_rel hr hl
        subst e1
        refine ⟨.string _, by rw [run_convert_bytes_string w src dst e _ _ _ hs he hd, run_bytesToString w _ _ _ r hL, strOf_rel], ?_⟩
        simp only [VRel]
       ·cases hq
     ·cases hq
    ·cases hq
   ·cases hq
  ·cases hq
 ·cases hq

theorem qFieldAddr_rel {t : TypeId} {a v : V} {i : Nat} (hq : qFieldAddr P t a i = some v) {A : Value} (ha : VRel ρ a A) : ∃ X, (Instr.fieldAt t A i).run P w = .ok X w ∧ VRel ρ v X := by
 unfold qFieldAddr at hq
 split at hq
 ·rename_i fs hd
  split at hq
  ·rename_i f hf
   split at hq
   ·rename_i n hn
    split at hq
    ·rename_i b o
     cases hq
     simp only [VRel] at ha ⊢
     obtain ⟨B, O, S, hB, rfl⟩ := ha
     refine ⟨_, ?_, B, O, S, hB, rfl⟩
     simp [Instr.fieldAt, run_und hd, hf, Instr.sureAddr, fieldPlace, run_size hn, addr_add, Nat.add_assoc]
    ·cases hq
     simp only [VRel] at ha ⊢
     obtain ⟨B, O, S, hB, rfl⟩ := ha
     refine ⟨_, ?_, B, O, S, hB, rfl⟩
     simp [Instr.fieldAt, run_und hd, hf, Instr.sureAddr, fieldPlace, run_size hn, addr_add, Nat.add_assoc]
    ·cases hq
     simp only [VRel] at ha ⊢
     obtain ⟨B, o, rfl, hr⟩ := ha
     refine ⟨_, ?_, B, o, rfl, hr⟩
     simp [Instr.fieldAt, run_und hd, hf, Instr.sureAddr, fieldPlace, run_size hn, addr_add, Nat.add_assoc]
    ·cases hq
   ·cases hq
  ·cases hq
 ·cases hq

theorem qField_rel {t : TypeId} {a v : V} {i : Nat} (hq : qField P t a i = some v) {A : Value} (ha : VRel ρ a A) : ∃ X, (Instr.field t A i).run P w = .ok X w ∧ VRel ρ v X := by
 unfold qField at hq
 split at hq
 ·rename_i fs hd
  split at hq
  ·rename_i f hf
   split at hq
   ·rename_i l
    simp only [VRel] at ha
    obtain ⟨cs, rfl, hl⟩ := ha
    obtain ⟨X, h1, h2⟩ := partE_rel (w := w) hq hl
    exact ⟨X, by simp [Instr.field, run_und hd, hf, asAgg, h1], h2⟩
   ·cases hq
  ·cases hq
 ·cases hq

theorem natOf_rel {v : V} {n : Nat} {c : List Bool} (h : natOf v = some (c, n)) (hc : allB c) {A : Value} (ha : VRel ρ v A) : ∃ k, A = .int k (n : Int) := by
 unfold natOf at h
 split at h
 ·rename_i k m
  cases h
  simp only [VRel] at ha
  have : 0 ≤ m := by simpa using hc.1
  exact ⟨k, by rw [ha, Int.toNat_of_nonneg this]⟩
 ·cases h

theorem run_asIntOf (k : IntKind) (n : Int) : (asIntOf (.int k n)).run P w = .ok (k, n) w := rfl

theorem qIndexAddr_rel {t : TypeId} {a i v : V} {ps : List Bool} (hq : qIndexAddr P t a i = some (ps, v)) (hp : allB ps) {A I : Value} (ha : VRel ρ a A) (hi : VRel ρ i I) : ∃ X, (Instr.indexAt t A I).run P w = .ok X w ∧ VRel ρ v X := by
 unfold qIndexAddr at hq
 split at hq
 ·rename_i c n hn
  split at hq
  ·rename_i len e hd
   split at hq
   ·rename_i b o sz hsz
    cases hq
    rw [allB_append] at hp
    obtain ⟨k, rfl⟩ := natOf_rel hn hp.1 hi
    have hlt : n < len := by simpa using hp.2.1
    simp only [VRel] at ha ⊢
    obtain ⟨B, O, S, hB, rfl⟩ := ha
    refine ⟨_, ?_, B, O, S, hB, rfl⟩
    simp [Instr.indexAt, run_asIntOf, run_und hd, Instr.sureAddr, run_size hsz, addr_add, hlt, Nat.add_assoc]
   ·rename_i b es sz hsz
    cases hse : Nat.beq sz es with
    | false => rw [hse] at hq; cases hq
    | true =>
    rw [hse, cond_true] at hq
    have hse := Nat.eq_of_beq_eq_true hse
    subst hse
    cases hq
    rw [allB_append] at hp
    obtain ⟨k, rfl⟩ := natOf_rel hn hp.1 hi
    have hlt : n < len := by simpa using hp.2.1
    simp only [VRel] at ha ⊢
    obtain ⟨B, O, S, hB, rfl⟩ := ha
    refine ⟨_, ?_, B, O, S, hB, rfl⟩
    simp [Instr.indexAt, run_asIntOf, run_und hd, Instr.sureAddr, run_size hsz, addr_add, hlt, Nat.add_assoc]
   ·rename_i e' L i' j' sz hsz
    cases hq
    rw [allB_append] at hp
    obtain ⟨k, rfl⟩ := natOf_rel hn hp.1 hi
    have hlt : n < len := by simpa using hp.2.1
    simp only [VRel] at ha ⊢
    obtain ⟨B, o, rfl, hr⟩ := ha
    refine ⟨_, ?_, B, o, rfl, hr⟩
    simp [Instr.indexAt, run_asIntOf, run_und hd, Instr.sureAddr, run_size hsz, addr_add, hlt, Nat.add_assoc]
   ·cases hq
  ·rename_i e hd
   split at hq
   ·rename_i b o len cap x es sz hsz
    cases hq
    rw [allB_append] at hp
    obtain ⟨k, rfl⟩ := natOf_rel hn hp.1 hi
    have hlt : n < len := by simpa using hp.2.1
    simp only [VRel] at ha ⊢
    obtain ⟨B, O, S, cap', hB, rfl, _⟩ := ha
    refine ⟨_, ?_, B, O, S, hB, rfl⟩
    simp [Instr.indexAt, run_asIntOf, run_und hd, run_size hsz, addr_add, hlt, Nat.add_assoc]
   ·rename_i b lo len cap x es sz hsz
    cases hse : Nat.beq sz es with
    | false => rw [hse] at hq; cases hq
    | true =>
    rw [hse, cond_true] at hq
    have hse := Nat.eq_of_beq_eq_true hse
    subst hse
    cases hq
    rw [allB_append] at hp
    obtain ⟨k, rfl⟩ := natOf_rel hn hp.1 hi
    have hlt : n < len := by simpa using hp.2.1
    simp only [VRel] at ha ⊢
    obtain ⟨a, cap', rfl, h1, h2, _, _, h3⟩ := ha
    obtain ⟨B, O, S, hB, rfl, _⟩ := h3 (by omega)
    refine ⟨_, ?_, B, O, S, hB, rfl⟩
    simp [Instr.indexAt, run_asIntOf, run_und hd, run_size hsz, addr_add, hlt, Nat.add_assoc, Nat.add_mul]
   ·rename_i e' L cl sz hsz
    cases hse : Nat.beq sz e'.length with
    | false => rw [hse] at hq; cases hq
    | true =>
    rw [hse, cond_true] at hq
    have hse := Nat.eq_of_beq_eq_true hse
    subst hse
    cases hq
    rw [allB_append] at hp
    obtain ⟨k, rfl⟩ := natOf_rel hn hp.1 hi
    have hlt : n < L.length := by simpa using hp.2.1
    simp only [VRel] at ha ⊢
    obtain ⟨a, cap', rfl, h1, _, _, h3⟩ := ha
    obtain ⟨B, o, rfl, hr⟩ := h3 (by omega)
    refine ⟨_, ?_, B, o, rfl, hr⟩
    simp [Instr.indexAt, run_asIntOf, run_und hd, run_size hsz, addr_add, hlt, Nat.add_assoc]
   ·cases hq
  ·cases hq
 ·cases hq

theorem ba_get {s : ByteArray} {n : Nat} (h : n < s.size) : ∃ b : UInt8, s[n]? = some b ∧ (b.toNat : Int) = bAt s n := by
 refine ⟨s[n], getElem?_pos s n h, ?_⟩
 unfold bAt
 rw [List.getD_eq_getElem?_getD, List.getElem?_eq_getElem (by simpa using h)]
 rfl

theorem partArr_rel {t : TypeId} {e : List Ty} {L : List (rowDen e)} {A : Array Value} {n : Nat} {v : V} (hq : partE P t (rowV e (rowAt e L n)) 0 = some v) (hA : A.size = L.length * e.length) (hr : RowsAt ρ.φ e L (fun k => A[k]?)) (hn : n < L.length) :
  ∃ X, (part t A (n * e.length)).run P w = .ok X w ∧ VRel ρ v X := by
 have hc := rowV_get (ρ := ρ) e _ (hr n hn)
 have hlen := rowV_length e (rowAt e L n)
 have hle : n * e.length + e.length ≤ A.size := by
  rw [hA, ← Nat.succ_mul]; exact Nat.mul_le_mul_right _ hn
 unfold partE at hq
 split at hq
 ·rename_i ha
  split at hq
  ·rename_i z hz
   simp only [llen_eq, ltake_eq, ldrop_eq, List.drop_zero, Nat.zero_add] at hq
   cases hb : Nat.ble z (rowV e (rowAt e L n)).length with
   | false => simp [hb] at hq
   | true =>
    simp only [hb, cond_true, Option.some.injEq] at hq
    subst hq
    have hb' : z ≤ e.length := by rw [← hlen]; simpa [Nat.ble_eq] using hb
    refine ⟨.agg (A.extract (n * e.length) (n * e.length + z)), by simp [part, run_isAgg ha, run_size hz], ?_⟩
    simp only [VRel]
    refine ⟨_, rfl, LRel.of_get (by simp; omega) fun i u hi => ?_⟩
    have hi' : i < z := by
     have := (List.getElem?_eq_some_iff.1 hi).1
     simp at this; omega
    rw [List.getElem?_take_of_lt hi'] at hi
    obtain ⟨W, h1, h2⟩ := hc i u hi
    refine ⟨W, ?_, h2⟩
    simp only [Array.toList_extract, List.extract_eq_take_drop, Nat.add_sub_cancel_left]
    rw [List.getElem?_take_of_lt hi', List.getElem?_drop]
    simpa using h1
  ·cases hq
 ·rename_i ha
  rw [lget_eq] at hq
  obtain ⟨W, h1, h2⟩ := hc 0 v hq
  exact ⟨W, by simp only [Nat.add_zero] at h1; simp [part, run_isAgg ha, h1], h2⟩
 ·cases hq

theorem qIndex_rel {t : TypeId} {a i v : V} {ps : List Bool} (hq : qIndex P t a i = some (ps, v)) (hp : allB ps) {A I : Value} (ha : VRel ρ a A) (hi : VRel ρ i I) : ∃ X, (Instr.index t A I).run P w = .ok X w ∧ VRel ρ v X := by
 unfold qIndex at hq
 split at hq
 ·rename_i c n hn
  split at hq
  ·rename_i len e hd
   split at hq
   ·rename_i l sz hsz
    split at hq
    ·rename_i v' hv'
     cases hq
     rw [allB_append] at hp
     obtain ⟨k, rfl⟩ := natOf_rel hn hp.1 hi
     have hlt : n < len := by simpa using hp.2.1
     simp only [VRel] at ha
     obtain ⟨cs, rfl, hl⟩ := ha
     obtain ⟨X, h1, h2⟩ := partE_rel (w := w) hv' hl
     exact ⟨X, by simp [Instr.index, run_asIntOf, run_und hd, run_size hsz, hlt, h1], h2⟩
    ·cases hq
   ·rename_i e' L sz hsz
    cases hse : Nat.beq sz e'.length with
    | false => rw [hse] at hq; cases hq
    | true =>
    rw [hse, cond_true] at hq
    have hse := Nat.eq_of_beq_eq_true hse
    subst hse
    split at hq
    ·rename_i v' hv'
     cases hq
     rw [allB_append] at hp
     obtain ⟨k, rfl⟩ := natOf_rel hn hp.1 hi
     have hlt : n < len := by simpa using hp.2.1
     have hlt2 : n < L.length := by simpa using hp.2.2.1
     simp only [VRel] at ha
     obtain ⟨cs, rfl, hA, hr⟩ := ha
     obtain ⟨X, h1, h2⟩ := partArr_rel (w := w) hv' hA hr hlt2
     exact ⟨X, by simp [Instr.index, run_asIntOf, run_und hd, run_size hsz, hlt, h1], h2⟩
    ·cases hq
   ·cases hq
  ·rename_i hd
   split at hq
   ·rename_i x
    cases hq
    rw [allB_append] at hp
    obtain ⟨k, rfl⟩ := natOf_rel hn hp.1 hi
    have hlt : n < x.size := by simpa using hp.2.1
    simp only [VRel] at ha ⊢
    subst ha
    obtain ⟨c, h1, h2⟩ := ba_get hlt
    refine ⟨_, ?_, rfl⟩
    simp [Instr.index, run_asIntOf, run_und hd, h1, h2]
   ·cases hq
  ·cases hq
 ·cases hq

end
end Go.Sym
end
