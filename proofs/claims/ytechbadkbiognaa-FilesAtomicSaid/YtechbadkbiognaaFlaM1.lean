/-
  Texts of this claim, one behind the other: EngA EngB EngC EngD. Each says its own conditions.
-/
import Derived.RowKit3
import Derived.Below
import Derived.RangeFuncRecord
import Derived.Laws.Cells
import Derived.Laws.BytesString
import Derived.Laws.StructEq
import Derived.Laws.Strings

set_option linter.unusedVariables false
set_option linter.unusedSimpArgs false
set_option linter.unusedSectionVars false
section
namespace Go.Eng

structure BS where
  n : Nat
  N : Nat
  deriving Inhabited

def dig : Nat → Nat → List UInt8
  | 0, _ => []
  | n + 1, N => dig n (N / 256) ++ [UInt8.ofNat N]

noncomputable def forceD {α : Type} (n : Nat) (g : Nat → α) : α := @Nat.rec (fun _ => α) (g 0) (fun m _ => g (Nat.succ m)) n
theorem forceD_eq {α : Type} (n : Nat) (g : Nat → α) : forceD n g = g n := by cases n <;> rfl
noncomputable def digA (n : Nat) : Nat → List UInt8 → List UInt8 := @Nat.rec (fun _ => Nat → List UInt8 → List UInt8) (fun _ acc => acc) (fun _ ih N acc => forceD (Nat.div N 256) fun M => forceD (Nat.mod N 256) fun d => ih M (UInt8.ofNat d :: acc)) n
theorem dig_length : ∀ n N, (dig n N).length = n
  | 0, _ => rfl
  | n + 1, N => by simp [dig, dig_length n]

theorem u8_mod (N : Nat) : UInt8.ofNat (N % 256) = UInt8.ofNat N := by
  apply UInt8.toNat_inj.1; simp

theorem digA_eq : ∀ (n N : Nat) (acc : List UInt8), digA n N acc = dig n N ++ acc
  | 0, _, _ => rfl
  | n + 1, N, acc => by
    show forceD (Nat.div N 256) (fun M => forceD (Nat.mod N 256) fun d => digA n M (UInt8.ofNat d :: acc)) = _
    rw [forceD_eq, forceD_eq, digA_eq n]
    show dig n (N / 256) ++ (UInt8.ofNat (N % 256) :: acc) = (dig n (N / 256) ++ [UInt8.ofNat N]) ++ acc
    rw [u8_mod, List.append_assoc]; rfl
theorem dig_add : ∀ n m N, dig (m + n) N = dig m (N / 256 ^ n) ++ dig n N
  | 0, m, N => by simp [dig]
  | n + 1, m, N => by
    rw [← Nat.add_assoc]
    simp only [dig]
    rw [dig_add n m (N / 256), Nat.div_div_eq_div_mul, Nat.pow_succ, Nat.mul_comm 256, List.append_assoc]

theorem dig_mod : ∀ n N, dig n (N % 256 ^ n) = dig n N
  | 0, _ => rfl
  | n + 1, N => by
    simp only [dig]
    have h1 : N % 256 ^ (n + 1) / 256 = N / 256 % 256 ^ n := by
      rw [Nat.pow_succ, Nat.mul_comm, Nat.mod_mul_right_div_self]
    have h2 : UInt8.ofNat (N % 256 ^ (n + 1)) = UInt8.ofNat N := by
      rw [← u8_mod (N % 256 ^ (n + 1)), ← u8_mod N, Nat.pow_succ, Nat.mod_mul_left_mod]
    rw [h1, dig_mod n, h2]

theorem dig_inj : ∀ n A B, dig n A = dig n B → A % 256 ^ n = B % 256 ^ n
  | 0, A, B, _ => by simp [Nat.mod_one]
  | n + 1, A, B, h => by
    simp only [dig] at h
    have h' := List.append_inj h (by simp [dig_length])
    have h1 := dig_inj n _ _ h'.1
    have h2 : A % 256 = B % 256 := by
      have := congrArg (fun l => (l.headD 0).toNat) h'.2
      simpa using this
    rw [Nat.pow_succ, Nat.mul_comm, Nat.mod_mul, Nat.mod_mul, h1, h2]

def BS.den (s : BS) : ByteArray := ⟨(dig s.n s.N).toArray⟩
theorem BS.den_list (s : BS) : s.den.data.toList = dig s.n s.N := rfl
theorem BS.den_size (s : BS) : s.den.size = s.n := by
  show (dig s.n s.N).toArray.size = s.n
  simp [dig_length]

theorem ba_ext {a b : ByteArray} (h : a.data.toList = b.data.toList) : a = b := by
  cases a; cases b; simp at h; simp [h]

def numOf : Nat → List UInt8 → Nat
  | acc, [] => acc
  | acc, b :: l => numOf (acc * 256 + b.toNat) l

theorem dig_numOf : ∀ (l : List UInt8) (acc m : Nat), dig (m + l.length) (numOf acc l) = dig m acc ++ l
  | [], acc, m => by simp [numOf]
  | b :: l, acc, m => by
    have h := dig_numOf l (acc * 256 + b.toNat) (m + 1)
    simp only [numOf, List.length_cons]
    rw [show m + (l.length + 1) = m + 1 + l.length from by omega, h]
    have hb : b.toNat < 256 := b.toNat_lt
    have h1 : (acc * 256 + b.toNat) / 256 = acc := by omega
    have h2 : UInt8.ofNat (acc * 256 + b.toNat) = b := by
      rw [← u8_mod, show (acc * 256 + b.toNat) % 256 = b.toNat from by omega]
      exact UInt8.ofNat_toNat
    simp [dig, h1, h2]

def BS.ofList (l : List UInt8) : BS := ⟨l.length, numOf 0 l⟩
theorem BS.den_ofList (l : List UInt8) : (BS.ofList l).den = ⟨l.toArray⟩ := by
  apply ba_ext
  have := dig_numOf l 0 0
  simpa [BS.den, BS.ofList, dig] using this
theorem BS.den_ofList' (b : ByteArray) : (BS.ofList b.data.toList).den = b := by
  rw [BS.den_ofList]

def BS.cat (a b : BS) : BS := ⟨a.n + b.n, a.N * 256 ^ b.n + b.N % 256 ^ b.n⟩
theorem BS.den_cat (a b : BS) : (a.cat b).den = a.den ++ b.den := by
  apply ba_ext
  have hp : 0 < 256 ^ b.n := Nat.pow_pos (by decide)
  have hl : b.N % 256 ^ b.n < 256 ^ b.n := Nat.mod_lt _ hp
  simp only [BS.den, BS.cat, ByteArray.data_append, Array.toList_append]
  rw [dig_add]
  congr 1
  · rw [Nat.mul_comm, Nat.mul_add_div hp, Nat.div_eq_of_lt hl, Nat.add_zero]
  · rw [← dig_mod b.n (a.N * 256 ^ b.n + _), Nat.mul_comm, Nat.mul_add_mod, Nat.mod_mod, dig_mod]

def BS.sub (a : BS) (l h : Nat) : BS := ⟨h - l, a.N / 256 ^ (a.n - h) % 256 ^ (h - l)⟩
theorem BS.den_sub (a : BS) (l h : Nat) (h1 : l ≤ h) (h2 : h ≤ a.n) : (a.sub l h).den = a.den.extract l h := by
  apply ba_ext
  simp only [BS.den, BS.sub, ByteArray.data_extract, Array.toList_extract, dig_mod]
  obtain ⟨d, rfl⟩ : ∃ d, h = l + d := ⟨h - l, by omega⟩
  obtain ⟨r, hr⟩ : ∃ r, a.n = l + d + r := ⟨a.n - (l + d), by omega⟩
  have e1 : dig a.n a.N = dig l (a.N / 256 ^ r / 256 ^ d) ++ (dig d (a.N / 256 ^ r) ++ dig r a.N) := by
    rw [hr, dig_add, dig_add, List.append_assoc]
  rw [e1, show l + d - l = d from by omega, show a.n - (l + d) = r from by omega]
  simp [List.extract_eq_take_drop, dig_length]

def BS.get (a : BS) (i : Nat) : Nat := a.N / 256 ^ (a.n - 1 - i) % 256
theorem BS.den_get (a : BS) (i : Nat) (hi : i < a.n) : ∃ b : UInt8, a.den[i]? = some b ∧ b.toNat = a.get i := by
  obtain ⟨r, hr⟩ : ∃ r, a.n = (i + 1) + r := ⟨a.n - (i + 1), by omega⟩
  have e1 : dig a.n a.N = dig i (a.N / 256 ^ r / 256) ++ ([UInt8.ofNat (a.N / 256 ^ r)] ++ dig r a.N) := by
    rw [hr, dig_add]; simp [dig]
  refine ⟨UInt8.ofNat (a.N / 256 ^ r), ?_, ?_⟩
  · have hz : i < a.den.size := by rw [BS.den_size]; exact hi
    rw [getElem?_pos a.den i hz]
    have h2 : a.den.data.toList[i]? = some (UInt8.ofNat (a.N / 256 ^ r)) := by
      rw [BS.den_list, e1, List.getElem?_append_right (by simp [dig_length])]
      simp [dig_length]
    have h3 : i < a.den.data.toList.length := by simpa using hz
    rw [List.getElem?_eq_getElem h3] at h2
    exact congrArg some (Option.some.inj h2)
  · have : a.n - 1 - i = r := by omega
    simp [BS.get, this]

def BS.eq (a b : BS) : Bool := Nat.beq a.n b.n && Nat.beq (a.N % 256 ^ a.n) (b.N % 256 ^ b.n)
theorem BS.eq_iff (a b : BS) : a.eq b = (a.den.data.toList == b.den.data.toList) := by
  rw [Bool.eq_iff_iff]
  simp only [BS.eq, BS.den_list, Bool.and_eq_true, Nat.beq_eq, beq_iff_eq]
  constructor
  · rintro ⟨h1, h2⟩
    rw [← dig_mod a.n, ← dig_mod b.n, h2, h1]
  · intro h
    have hn : a.n = b.n := by simpa [dig_length] using congrArg List.length h
    rw [hn] at h ⊢
    exact ⟨rfl, dig_inj _ _ _ h⟩

def BS.list (a : BS) : List UInt8 := dig a.n a.N
def BS.ltG : List UInt8 → List UInt8 → Bool
  | _, [] => false
  | [], _ :: _ => true
  | a :: x, b :: y => bif Nat.blt a.toNat b.toNat then true else bif Nat.beq a.toNat b.toNat then BS.ltG x y else false
theorem BS.ltG_eq : ∀ x y : List UInt8, BS.ltG x y = Op.bytesLess x y
  | _, [] => by simp [BS.ltG, Op.bytesLess]
  | [], _ :: _ => rfl
  | a :: x, b :: y => by
    have h1 : Nat.blt a.toNat b.toNat = decide (a < b) := by
      rw [Bool.eq_iff_iff]; simp [Nat.blt_eq, UInt8.lt_iff_toNat_lt]
    have h2 : Nat.beq a.toNat b.toNat = (a == b) := by
      rw [Bool.eq_iff_iff]; simp [Nat.beq_eq, UInt8.toNat_inj]
    simp only [BS.ltG, Op.bytesLess, h1, h2, BS.ltG_eq x y]
    cases decide (a < b) <;> cases (a == b) <;> rfl

inductive T (α : Type) where
  | leaf
  | node (v : Option α) (l r : T α)

noncomputable def T.get {α : Type} (t : T α) : Nat → Option α :=
  @T.rec α (fun _ => Nat → Option α) (fun _ => none)
    (fun v _ _ hl hr n => @Nat.rec (fun _ => Option α) v (fun m _ => @Bool.rec (fun _ => Option α) (hr (Nat.div m (nat_lit 2))) (hl (Nat.div m (nat_lit 2))) (Nat.beq (Nat.mod m (nat_lit 2)) (nat_lit 0))) n) t
theorem T.get_leaf {α : Type} (n : Nat) : (T.leaf : T α).get n = none := rfl
theorem T.get_zero {α : Type} (v : Option α) (l r : T α) : (T.node v l r).get 0 = v := rfl
theorem T.get_succ {α : Type} (v : Option α) (l r : T α) (m : Nat) : (T.node v l r).get (m + 1) = bif Nat.beq (m % 2) 0 then l.get (m / 2) else r.get (m / 2) := by
  show @Bool.rec (fun _ => Option α) (r.get (m / 2)) (l.get (m / 2)) (Nat.beq (m % 2) 0) = _
  cases Nat.beq (m % 2) 0 <;> rfl

noncomputable def T.setF {α : Type} (f : Nat) : T α → Nat → Option α → T α :=
  @Nat.rec (fun _ => T α → Nat → Option α → T α) (fun t _ _ => t)
    (fun _ ih t n x => @T.rec α (fun _ => T α)
      (@Nat.rec (fun _ => T α) (.node x .leaf .leaf) (fun m _ => @Bool.rec (fun _ => T α) (.node none .leaf (ih .leaf (Nat.div m (nat_lit 2)) x)) (.node none (ih .leaf (Nat.div m (nat_lit 2)) x) .leaf) (Nat.beq (Nat.mod m (nat_lit 2)) (nat_lit 0))) n)
      (fun v l r _ _ => @Nat.rec (fun _ => T α) (.node x l r) (fun m _ => @Bool.rec (fun _ => T α) (.node v l (ih r (Nat.div m (nat_lit 2)) x)) (.node v (ih l (Nat.div m (nat_lit 2)) x) r) (Nat.beq (Nat.mod m (nat_lit 2)) (nat_lit 0))) n) t) f
theorem T.setF_leaf0 {α : Type} (f : Nat) (x : Option α) : T.setF (f + 1) .leaf 0 x = .node x .leaf .leaf := rfl
theorem T.setF_leaf1 {α : Type} (f m : Nat) (x : Option α) : T.setF (f + 1) .leaf (m + 1) x = bif Nat.beq (m % 2) 0 then .node none (T.setF f .leaf (m / 2) x) .leaf else .node none .leaf (T.setF f .leaf (m / 2) x) := by
  show @Bool.rec (fun _ => T α) (.node none .leaf (T.setF f .leaf (m / 2) x)) (.node none (T.setF f .leaf (m / 2) x) .leaf) (Nat.beq (m % 2) 0) = _
  cases Nat.beq (m % 2) 0 <;> rfl
theorem T.setF_node0 {α : Type} (f : Nat) (v : Option α) (l r : T α) (x : Option α) : T.setF (f + 1) (.node v l r) 0 x = .node x l r := rfl
theorem T.setF_node1 {α : Type} (f m : Nat) (v : Option α) (l r : T α) (x : Option α) : T.setF (f + 1) (.node v l r) (m + 1) x = bif Nat.beq (m % 2) 0 then .node v (T.setF f l (m / 2) x) r else .node v l (T.setF f r (m / 2) x) := by
  show @Bool.rec (fun _ => T α) (.node v l (T.setF f r (m / 2) x)) (.node v (T.setF f l (m / 2) x) r) (Nat.beq (m % 2) 0) = _
  cases Nat.beq (m % 2) 0 <;> rfl

noncomputable def T.set {α : Type} (t : T α) (n : Nat) (x : Option α) : T α := T.setF (n + 1) t n x

theorem T.get_setF {α : Type} : ∀ (f : Nat) (t : T α) (n : Nat) (x : Option α) (k : Nat), n < f → (T.setF f t n x).get k = if k = n then x else t.get k
  | 0, _, _, _, _, h => absurd h (by omega)
  | f + 1, t, n, x, k, h => by
    cases t with
    | leaf =>
      cases n with
      | zero => cases k <;> simp [T.setF_leaf0, T.get_leaf, T.get_zero, T.get_succ]
      | succ m =>
        have ih := fun k => T.get_setF f (.leaf : T α) (m / 2) x k (by omega)
        simp only [T.setF_leaf1]
        cases hm : Nat.beq (m % 2) 0 <;> cases k with
        | zero => simp [T.get_zero, T.get_leaf]
        | succ j =>
          cases hj : Nat.beq (j % 2) 0 <;> simp only [T.get_leaf, T.get_succ, hj, cond_true, cond_false, ih] <;>
            simp only [Nat.beq_eq_true_eq, Nat.beq_eq, Bool.eq_false_iff, ne_eq] at hm hj <;>
            first
              | rfl
              | (have : (j / 2 = m / 2) ↔ (j + 1 = m + 1) := by omega
                 simp only [this])
              | (rw [if_neg (by omega)])
    | node v l r =>
      cases n with
      | zero => cases k <;> simp [T.setF_node0, T.get_zero, T.get_succ]
      | succ m =>
        have ih := fun t k => T.get_setF f (t : T α) (m / 2) x k (by omega)
        simp only [T.setF_node1]
        cases hm : Nat.beq (m % 2) 0 <;> cases k with
        | zero => simp [T.get_zero, T.get_leaf]
        | succ j =>
          cases hj : Nat.beq (j % 2) 0 <;> simp only [T.get_leaf, T.get_succ, hj, cond_true, cond_false, ih] <;>
            simp only [Nat.beq_eq_true_eq, Nat.beq_eq, Bool.eq_false_iff, ne_eq] at hm hj <;>
            first
              | (have : (j / 2 = m / 2) ↔ (j + 1 = m + 1) := by omega
                 simp only [this])
              | (rw [if_neg (by omega)])

theorem T.get_set {α : Type} (t : T α) (n : Nat) (x : Option α) (k : Nat) : (t.set n x).get k = if k = n then x else t.get k :=
  T.get_setF _ _ _ _ _ (Nat.lt_succ_self n)

inductive B (α : Type) where
  | leaf (v : α)
  | node (l r : B α)
noncomputable def B.get {α : Type} (t : B α) : Nat → α :=
  @B.rec α (fun _ => Nat → α) (fun v _ => v) (fun _ _ hl hr n => @Bool.rec (fun _ => α) (hl (Nat.div n (nat_lit 2))) (hr (Nat.div n (nat_lit 2))) (Nat.beq (Nat.mod n (nat_lit 2)) (nat_lit 1))) t
noncomputable def B.set {α : Type} (x : α) (t : B α) : Nat → B α :=
  @B.rec α (fun _ => Nat → B α) (fun _ _ => .leaf x) (fun l r hl hr n => @Bool.rec (fun _ => B α) (.node (hl (Nat.div n (nat_lit 2))) r) (.node l (hr (Nat.div n (nat_lit 2)))) (Nat.beq (Nat.mod n (nat_lit 2)) (nat_lit 1))) t
theorem B.get_node {α : Type} (l r : B α) (n : Nat) : (B.node l r).get n = bif Nat.beq (n % 2) 1 then r.get (n / 2) else l.get (n / 2) := by
  show @Bool.rec (fun _ => α) (l.get (n / 2)) (r.get (n / 2)) (Nat.beq (n % 2) 1) = _
  cases Nat.beq (n % 2) 1 <;> rfl
theorem B.set_node {α : Type} (x : α) (l r : B α) (n : Nat) : B.set x (.node l r) n = bif Nat.beq (n % 2) 1 then .node l (B.set x r (n / 2)) else .node (B.set x l (n / 2)) r := by
  show @Bool.rec (fun _ => B α) (.node (B.set x l (n / 2)) r) (.node l (B.set x r (n / 2))) (Nat.beq (n % 2) 1) = _
  cases Nat.beq (n % 2) 1 <;> rfl
def B.full {α : Type} : B α → Nat → Prop
  | .leaf _, d => d = 0
  | .node l r, d => ∃ e, d = e + 1 ∧ l.full e ∧ r.full e
theorem B.set_full {α : Type} (x : α) : ∀ (t : B α) (d n : Nat), t.full d → (B.set x t n).full d
  | .leaf _, d, n, h => h
  | .node l r, d, n, h => by
    obtain ⟨e, rfl, h1, h2⟩ := h
    rw [B.set_node]
    cases Nat.beq (n % 2) 1
    · exact ⟨e, rfl, B.set_full x l e _ h1, h2⟩
    · exact ⟨e, rfl, h1, B.set_full x r e _ h2⟩
theorem B.get_set {α : Type} (x : α) : ∀ (t : B α) (d n k : Nat), t.full d → n < 2 ^ d → k < 2 ^ d → (B.set x t n).get k = if k = n then x else t.get k
  | .leaf v, d, n, k, h, hn, hk => by
    have h : d = 0 := h
    subst h
    have : n = 0 := by simpa using hn
    have : k = 0 := by simpa using hk
    subst n; subst k; rfl
  | .node l r, d, n, k, h, hn, hk => by
    obtain ⟨e, rfl, h1, h2⟩ := h
    rw [Nat.pow_succ] at hn hk
    have il := B.get_set x l e (n / 2) (k / 2) h1 (by omega) (by omega)
    have ir := B.get_set x r e (n / 2) (k / 2) h2 (by omega) (by omega)
    rw [B.set_node]
    cases hb : Nat.beq (n % 2) 1 <;> simp only [cond_true, cond_false, B.get_node] <;> cases hc : Nat.beq (k % 2) 1 <;>
      simp only [cond_true, cond_false, il, ir] <;> simp only [Nat.beq_eq_true_eq, Nat.beq_eq, Bool.eq_false_iff, ne_eq] at hb hc
    · have : (k / 2 = n / 2) ↔ (k = n) := by omega
      simp only [this]
    · rw [if_neg (by omega)]
    · rw [if_neg (by omega)]
    · have : (k / 2 = n / 2) ↔ (k = n) := by omega
      simp only [this]
noncomputable def B.ofList {α : Type} (z : α) : Nat → List α → B α
  | 0, l => .leaf (l.headD z)
  | d + 1, l => .node (B.ofList z d (evens l)) (B.ofList z d (odds l))
where
  evens : List α → List α
  | [] => []
  | [a] => [a]
  | a :: _ :: l => a :: evens l
  odds : List α → List α
  | [] => []
  | [_] => []
  | _ :: b :: l => b :: odds l
theorem B.evens_get {α : Type} : ∀ (l : List α) (i : Nat), (B.ofList.evens l)[i]? = l[2 * i]?
  | [], i => by simp [B.ofList.evens]
  | [a], i => by cases i <;> simp [B.ofList.evens]
  | a :: b :: l, i => by
    cases i with
    | zero => simp [B.ofList.evens]
    | succ i => simp [B.ofList.evens, B.evens_get l i, show 2 * (i + 1) = 2 * i + 1 + 1 from by omega]
theorem B.odds_get {α : Type} : ∀ (l : List α) (i : Nat), (B.ofList.odds l)[i]? = l[2 * i + 1]?
  | [], i => by simp [B.ofList.odds]
  | [a], i => by cases i <;> simp [B.ofList.odds]
  | a :: b :: l, i => by
    cases i with
    | zero => simp [B.ofList.odds]
    | succ i => simp [B.ofList.odds, B.odds_get l i, show 2 * (i + 1) + 1 = 2 * i + 1 + 1 + 1 from by omega]
theorem B.ofList_full {α : Type} (z : α) : ∀ (d : Nat) (l : List α), (B.ofList z d l).full d
  | 0, _ => rfl
  | d + 1, l => ⟨d, rfl, B.ofList_full z d _, B.ofList_full z d _⟩
theorem B.ofList_get {α : Type} (z : α) : ∀ (d : Nat) (l : List α) (i : Nat), i < 2 ^ d → (B.ofList z d l).get i = l.getD i z
  | 0, l, i, h => by
    have : i = 0 := by simpa using h
    subst this
    cases l <;> rfl
  | d + 1, l, i, h => by
    rw [Nat.pow_succ] at h
    have ih := B.ofList_get z d
    show (B.node (B.ofList z d (B.ofList.evens l)) (B.ofList z d (B.ofList.odds l))).get i = _
    rw [B.get_node]
    simp only [List.getD_eq_getElem?_getD]
    cases hb : Nat.beq (i % 2) 1
    · simp only [cond_false]
      rw [ih _ _ (by omega), List.getD_eq_getElem?_getD, B.evens_get]
      have : ¬ i % 2 = 1 := by intro e; rw [e] at hb; cases hb
      rw [show 2 * (i / 2) = i from by omega]
    · simp only [cond_true]
      rw [ih _ _ (by omega), List.getD_eq_getElem?_getD, B.odds_get]
      have : i % 2 = 1 := by simpa using hb
      rw [show 2 * (i / 2) + 1 = i from by omega]

noncomputable def llen {α : Type} (l : List α) : Nat := @List.rec α (fun _ => Nat) 0 (fun _ _ ih => ih + 1) l
theorem llen_eq {α : Type} : ∀ l : List α, llen l = l.length
  | [] => rfl
  | _ :: l => congrArg (· + 1) (llen_eq l)
noncomputable def lget {α : Type} (l : List α) : Nat → Option α := @List.rec α (fun _ => Nat → Option α) (fun _ => none) (fun a _ ih n => @Nat.rec (fun _ => Option α) (some a) (fun m _ => ih m) n) l
theorem lget_eq {α : Type} : ∀ (l : List α) (n : Nat), lget l n = l[n]?
  | [], _ => by simp [lget]
  | a :: l, 0 => rfl
  | a :: l, n + 1 => by rw [List.getElem?_cons_succ]; exact lget_eq l n
noncomputable def ldrop {α : Type} (l : List α) : Nat → List α := @List.rec α (fun _ => Nat → List α) (fun _ => []) (fun a l ih n => @Nat.rec (fun _ => List α) (a :: l) (fun m _ => ih m) n) l
theorem ldrop_eq {α : Type} : ∀ (l : List α) (n : Nat), ldrop l n = l.drop n
  | [], _ => by simp [ldrop]
  | a :: l, 0 => rfl
  | a :: l, n + 1 => by rw [List.drop_succ_cons]; exact ldrop_eq l n
noncomputable def ltake {α : Type} (l : List α) : Nat → List α := @List.rec α (fun _ => Nat → List α) (fun _ => []) (fun a _ ih n => @Nat.rec (fun _ => List α) [] (fun m _ => a :: ih m) n) l
theorem ltake_eq {α : Type} : ∀ (l : List α) (n : Nat), ltake l n = l.take n
  | [], _ => by simp [ltake]
  | a :: l, 0 => rfl
  | a :: l, n + 1 => by rw [List.take_succ_cons]; exact congrArg (a :: ·) (ltake_eq l n)
noncomputable def lset {α : Type} (l : List α) (v : α) : Nat → List α := @List.rec α (fun _ => Nat → List α) (fun _ => []) (fun a l ih n => @Nat.rec (fun _ => List α) (v :: l) (fun m _ => a :: ih m) n) l
theorem lset_eq {α : Type} : ∀ (l : List α) (v : α) (n : Nat), lset l v n = l.set n v
  | [], _, _ => rfl
  | a :: l, v, 0 => rfl
  | a :: l, v, n + 1 => congrArg (a :: ·) (lset_eq l v n)
noncomputable def lapp {α : Type} (l m : List α) : List α := @List.rec α (fun _ => List α) m (fun a _ ih => a :: ih) l
theorem lapp_eq {α : Type} : ∀ (l m : List α), lapp l m = l ++ m
  | [], _ => rfl
  | a :: l, m => congrArg (a :: ·) (lapp_eq l m)
noncomputable def lall {α : Type} (f : α → Bool) (l : List α) : Bool := @List.rec α (fun _ => Bool) true (fun a _ ih => @Bool.rec (fun _ => Bool) false ih (f a)) l
theorem lall_eq {α : Type} (f : α → Bool) : ∀ (l : List α), lall f l = l.all f
  | [] => rfl
  | a :: l => by
    show @Bool.rec (fun _ => Bool) false (lall f l) (f a) = _
    rw [List.all_cons, ← lall_eq f l]
    cases f a <;> rfl

def kM : IntKind → Nat
  | .i8 | .u8 => nat_lit 256
  | .i16 | .u16 => nat_lit 65536
  | .i32 | .u32 => nat_lit 4294967296
  | .i64 | .u64 => nat_lit 18446744073709551616
def kH : IntKind → Nat
  | .i8 => nat_lit 128
  | .i16 => nat_lit 32768
  | .i32 => nat_lit 2147483648
  | .i64 => nat_lit 9223372036854775808
  | .u8 => nat_lit 256
  | .u16 => nat_lit 65536
  | .u32 => nat_lit 4294967296
  | .u64 => nat_lit 18446744073709551616
def modN (M : Nat) : Int → Nat
  | .ofNat m => Nat.mod m M
  | .negSucc m => Nat.sub (Nat.sub M (nat_lit 1)) (Nat.mod m M)
def wrapN (M H r : Nat) : Int := bif Nat.blt r H then .ofNat r else .negSucc (Nat.sub (Nat.sub M (nat_lit 1)) r)
def wrapQ (k : IntKind) (n : Int) : Int := wrapN (kM k) (kH k) (modN (kM k) n)
theorem modN_eq (M : Nat) (hM : 0 < M) : ∀ n : Int, (modN M n : Int) = n % (M : Int)
  | .ofNat m => rfl
  | .negSucc m => by
    have h1 : m % M < M := Nat.mod_lt _ hM
    have h2 : (Int.negSucc m) = -((m : Int) + 1) := by omega
    have e : (modN M (Int.negSucc m) : Int) = (M : Int) - 1 - ((m % M : Nat) : Int) := by
      show ((M - 1 - m % M : Nat) : Int) = _
      omega
    rw [e, h2]
    have h3 : (m : Int) = (M : Int) * ((m / M : Nat) : Int) + ((m % M : Nat) : Int) := by
      have := Nat.div_add_mod m M
      omega
    have h4 : -((m : Int) + 1) = ((M : Int) - 1 - ((m % M : Nat) : Int)) + (M : Int) * (-((m / M : Nat) : Int) - 1) := by
      rw [Int.mul_sub, Int.mul_neg]; omega
    rw [h4, Int.add_mul_emod_self_left, Int.emod_eq_of_lt (by omega) (by omega)]
theorem kM_eq (k : IntKind) : (2 ^ k.bits : Int) = (kM k : Int) := by cases k <;> rfl
theorem kM_eqN (k : IntKind) : 2 ^ k.bits = kM k := by cases k <;> rfl
theorem blt_iff (a b : Nat) : Nat.blt a b = decide (a < b) := by
  rw [Bool.eq_iff_iff]; simp [Nat.blt_eq]
theorem wrapQ_eq (k : IntKind) (n : Int) : wrapQ k n = k.wrap n := by
  have h := modN_eq (kM k) (by cases k <;> decide) n
  have hlt : modN (kM k) n < kM k := by
    have := Int.emod_lt_of_pos n (show (0 : Int) < kM k by cases k <;> decide)
    omega
  simp only [wrapQ, wrapN, IntKind.wrap, kM_eq, ← h, blt_iff]
  generalize modN (kM k) n = r at *
  rcases Nat.lt_or_ge r (kH k) with hr | hr
  · rw [decide_eq_true hr]
    cases k <;> simp [kM, kH, IntKind.signed, IntKind.bits] at * <;> omega
  · rw [decide_eq_false (by omega)]
    cases k <;> simp [kM, kH, IntKind.signed, IntKind.bits] at * <;> omega
def ltQ : Int → Int → Bool
  | .ofNat a, .ofNat b => Nat.blt a b
  | .ofNat _, .negSucc _ => false
  | .negSucc _, .ofNat _ => true
  | .negSucc a, .negSucc b => Nat.blt b a
theorem ltQ_eq : ∀ a b : Int, ltQ a b = decide (a < b)
  | .ofNat a, .ofNat b => by rw [ltQ, blt_iff]; congr 1; simp
  | .ofNat a, .negSucc b => by simp only [ltQ]; symm; simp; omega
  | .negSucc a, .ofNat b => by simp only [ltQ]; symm; simp; omega
  | .negSucc a, .negSucc b => by rw [ltQ, blt_iff]; congr 1; simp; omega
def eqQ : Int → Int → Bool
  | .ofNat a, .ofNat b => Nat.beq a b
  | .negSucc a, .negSucc b => Nat.beq a b
  | _, _ => false
theorem eqQ_eq : ∀ a b : Int, eqQ a b = (a == b)
  | .ofNat a, .ofNat b => by rw [eqQ, Bool.eq_iff_iff]; simp; omega
  | .ofNat a, .negSucc b => by simp only [eqQ]; symm; simp
  | .negSucc a, .ofNat b => by simp only [eqQ]; symm; simp
  | .negSucc a, .negSucc b => by rw [eqQ, Bool.eq_iff_iff]; simp
def shrQ (n : Nat) : Int → Int
  | .ofNat m => .ofNat (m / 2 ^ n)
  | .negSucc m => .negSucc (m / 2 ^ n)
theorem shrQ_eq (n : Nat) : ∀ a : Int, shrQ n a = a.fdiv (2 ^ n)
  | .ofNat m => by
    have : (2 ^ n : Int) = ((2 ^ n : Nat) : Int) := by simp
    rw [this]
    simp only [shrQ]
    rw [Int.fdiv_eq_ediv_of_nonneg _ (Int.natCast_nonneg _)]
    rfl
  | .negSucc m => by
    have : (2 ^ n : Int) = ((2 ^ n : Nat) : Int) := by simp
    rw [this]
    have hp : 0 < 2 ^ n := Nat.pow_pos (by decide)
    rw [Int.fdiv_eq_ediv_of_nonneg _ (Int.natCast_nonneg _)]
    rw [Int.negSucc_ediv _ (by omega)]
    simp only [shrQ]
    rw [Int.negSucc_eq]
    congr 1
def shlQ (n : Nat) : Int → Int
  | .ofNat m => .ofNat (m * 2 ^ n)
  | .negSucc m => .negSucc ((m + 1) * 2 ^ n - 1)
theorem shlQ_eq (n : Nat) : ∀ a : Int, shlQ n a = a * 2 ^ n
  | .ofNat m => by simp [shlQ]
  | .negSucc m => by
    have hp : 0 < (m + 1) * 2 ^ n := Nat.mul_pos (by omega) (Nat.pow_pos (by decide))
    have : (2 ^ n : Int) = ((2 ^ n : Nat) : Int) := by simp
    have e : ((m : Int) + 1) * ((2 ^ n : Nat) : Int) = (((m + 1) * 2 ^ n : Nat) : Int) := by rw [Int.natCast_mul]; rfl
    have e2 : Int.negSucc m * ((2 ^ n : Nat) : Int) = -((((m + 1) * 2 ^ n : Nat)) : Int) := by rw [Int.negSucc_eq, Int.neg_mul, e]
    rw [this, e2]
    simp only [shlQ]
    omega
def kEq (a b : IntKind) : Bool := Nat.beq a.ctorIdx b.ctorIdx
theorem kEq_iff (a b : IntKind) : kEq a b = decide (a = b) := by cases a <;> cases b <;> rfl

end Go.Eng
end

section
namespace Go.Eng
open Go.RowKit (Below)

structure Blk where
  B : Nat
  O : Nat
  S : Nat

structure Env where
  f : Nat → Option Blk
  n : Nat
instance : CoeFun Env (fun _ => Nat → Option Blk) := ⟨Env.f⟩
def Env.sub (ρ ρ' : Env) : Prop := ∀ b x, ρ b = some x → ρ' b = some x
structure Env.le (ρ ρ' : Env) : Prop where
  sub : ρ.sub ρ'
  top : ρ.n ≤ ρ'.n
  keep : ∀ b, b < ρ.n → ρ b = none → ρ' b = none
theorem Env.le_refl (ρ : Env) : ρ.le ρ := ⟨fun _ _ h => h, Nat.le_refl _, fun _ _ h => h⟩
theorem Env.le_trans {a b c : Env} (h : a.le b) (k : b.le c) : a.le c :=
  ⟨fun x y e => k.sub x y (h.sub x y e), Nat.le_trans h.top k.top, fun x hx e => k.keep x (Nat.lt_of_lt_of_le hx h.top) (h.keep x hx e)⟩

inductive V where
  | undef
  | bool (b : Bool)
  | int (k : IntKind) (n : Int)
  | str (s : BS)
  | nilp
  | nils
  | slz (x : Bool)
  | nilm
  | nilf
  | nili
  | ptr (b o : Nat)
  | sl (b o len cap : Nat) (x : Bool) (es : Nat)
  | map (b : Nat)
  | fn (f : FuncId) (first cap : List V)
  | yld (l : Nat)
  | iface (t : TypeId) (v : V)
  | agg (l : List V)
  | tup (l : List V)
  | it (b : Nat)
  | any
  deriving Inhabited

mutual
def VRel (ρ : Env) : V → Value → Prop
  | .undef, W => W = .tuple #[]
  | .bool b, W => W = .bool b
  | .int k n, W => W = .int k n
  | .str s, W => W = .string s.den
  | .nilp, W => W = .pointer none
  | .nils, W => W = .slice none 0 0
  | .slz x, W => ∃ a cap', W = .slice (some a) 0 cap' ∧ (x = true → cap' = 0)
  | .nilm, W => W = .map none
  | .nilf, W => W = .nilFunc
  | .nili, W => W = .nilIface
  | .ptr b o, W => ∃ B O S, ρ b = some ⟨B, O, S⟩ ∧ W = .pointer (some ⟨B, O + o, none⟩)
  | .sl b o len cap x es, W => ∃ B O S cap', ρ b = some ⟨B, O, S⟩ ∧ W = .slice (some ⟨B, O + o, none⟩) len cap' ∧ len ≤ cap ∧ cap ≤ cap' ∧
      (x = true → cap' = cap) ∧ O + o + cap' * es ≤ S ∧ cap' ≤ 9223372036854775807
  | .map b, W => ∃ B O S, ρ b = some ⟨B, O, S⟩ ∧ W = .map (some B)
  | .fn f first cap, W => ∃ A C, W = .func (.func f) A C ∧ LRel ρ first A.toList ∧ LRel ρ cap C.toList
  | .yld l, W => ∃ B O S, ρ l = some ⟨B, O, S⟩ ∧ W = .func (.yield B) #[] #[]
  | .iface t v, W => ∃ X, W = .iface t X ∧ VRel ρ v X
  | .agg l, W => ∃ A, W = .agg A ∧ LRel ρ l A.toList
  | .tup l, W => ∃ A, W = .tuple A ∧ LRel ρ l A.toList
  | .it b, W => ∃ B S, ρ b = some ⟨B, 0, S⟩ ∧ W = .pointer (some ⟨B, 0, none⟩)
  | .any, _ => False
def LRel (ρ : Env) : List V → List Value → Prop
  | [], W => W = []
  | v :: l, W => ∃ X Y, W = X :: Y ∧ VRel ρ v X ∧ LRel ρ l Y
end

mutual
theorem VRel.up {ρ ρ' : Env} (h : ρ.sub ρ') : ∀ (v : V) (W : Value), VRel ρ v W → VRel ρ' v W
  | .undef, _, r => by simpa only [VRel] using r
  | .bool _, _, r => by simpa only [VRel] using r
  | .int _ _, _, r => by simpa only [VRel] using r
  | .str _, _, r => by simpa only [VRel] using r
  | .nilp, _, r => by simpa only [VRel] using r
  | .nils, _, r => by simpa only [VRel] using r
  | .slz _, _, r => by simpa only [VRel] using r
  | .nilm, _, r => by simpa only [VRel] using r
  | .nilf, _, r => by simpa only [VRel] using r
  | .nili, _, r => by simpa only [VRel] using r
  | .ptr b o, _, r => by simp only [VRel] at r ⊢; obtain ⟨B, O, S, h1, h2⟩ := r; exact ⟨B, O, S, h _ _ h1, h2⟩
  | .sl .., _, r => by simp only [VRel] at r ⊢; obtain ⟨B, O, S, c, h1, h2⟩ := r; exact ⟨B, O, S, c, h _ _ h1, h2⟩
  | .map b, _, r => by simp only [VRel] at r ⊢; obtain ⟨B, O, S, h1, h2⟩ := r; exact ⟨B, O, S, h _ _ h1, h2⟩
  | .yld b, _, r => by simp only [VRel] at r ⊢; obtain ⟨B, O, S, h1, h2⟩ := r; exact ⟨B, O, S, h _ _ h1, h2⟩
  | .it b, _, r => by simp only [VRel] at r ⊢; obtain ⟨B, S, h1, h2⟩ := r; exact ⟨B, S, h _ _ h1, h2⟩
  | .any, _, r => by simp only [VRel] at r
  | .fn f a c, _, r => by
    simp only [VRel] at r ⊢; obtain ⟨A, C, h1, h2, h3⟩ := r; exact ⟨A, C, h1, LRel.up h a _ h2, LRel.up h c _ h3⟩
  | .iface t v, _, r => by simp only [VRel] at r ⊢; obtain ⟨X, h1, h2⟩ := r; exact ⟨X, h1, VRel.up h v _ h2⟩
  | .agg l, _, r => by simp only [VRel] at r ⊢; obtain ⟨X, h1, h2⟩ := r; exact ⟨X, h1, LRel.up h l _ h2⟩
  | .tup l, _, r => by simp only [VRel] at r ⊢; obtain ⟨X, h1, h2⟩ := r; exact ⟨X, h1, LRel.up h l _ h2⟩
theorem LRel.up {ρ ρ' : Env} (h : ρ.sub ρ') : ∀ (l : List V) (W : List Value), LRel ρ l W → LRel ρ' l W
  | [], _, r => by simpa only [LRel] using r
  | v :: l, _, r => by
    simp only [LRel] at r ⊢; obtain ⟨X, Y, h1, h2, h3⟩ := r; exact ⟨X, Y, h1, VRel.up h v _ h2, LRel.up h l _ h3⟩
end

theorem VRel.mono {ρ ρ' : Env} (h : ρ.le ρ') (v : V) (W : Value) (r : VRel ρ v W) : VRel ρ' v W := VRel.up h.sub v W r
theorem LRel.mono {ρ ρ' : Env} (h : ρ.le ρ') (l : List V) (W : List Value) (r : LRel ρ l W) : LRel ρ' l W := LRel.up h.sub l W r
theorem LRel.nil {ρ : Env} : LRel ρ [] [] := rfl
theorem LRel.cons {ρ : Env} {v : V} {l : List V} {X : Value} {Y : List Value} (h : VRel ρ v X) (k : LRel ρ l Y) : LRel ρ (v :: l) (X :: Y) := ⟨X, Y, rfl, h, k⟩
theorem LRel.length {ρ : Env} : ∀ {l : List V} {W : List Value}, LRel ρ l W → l.length = W.length
  | [], _, r => by simp only [LRel] at r; subst r; rfl
  | _ :: _, _, r => by simp only [LRel] at r; obtain ⟨X, Y, rfl, _, h3⟩ := r; simp [LRel.length h3]
theorem LRel.get {ρ : Env} : ∀ {l : List V} {W : List Value}, LRel ρ l W → ∀ {i : Nat} {v : V}, l[i]? = some v → ∃ X, W[i]? = some X ∧ VRel ρ v X
  | [], _, r, i, v, hi => by simp at hi
  | a :: l, _, r, i, v, hi => by
    simp only [LRel] at r; obtain ⟨X, Y, rfl, h2, h3⟩ := r
    cases i with
    | zero => simp at hi; subst hi; exact ⟨X, rfl, h2⟩
    | succ i => simp at hi; simpa using LRel.get h3 hi
theorem LRel.append {ρ : Env} : ∀ {l : List V} {W : List Value} {m : List V} {U : List Value}, LRel ρ l W → LRel ρ m U → LRel ρ (l ++ m) (W ++ U)
  | [], _, _, _, r, k => by simp only [LRel] at r; subst r; exact k
  | a :: l, _, _, _, r, k => by
    simp only [LRel] at r; obtain ⟨X, Y, rfl, h2, h3⟩ := r
    exact LRel.cons h2 (LRel.append h3 k)
theorem LRel.set {ρ : Env} : ∀ {l : List V} {W : List Value}, LRel ρ l W → ∀ {i : Nat} {v : V} {X : Value}, VRel ρ v X → LRel ρ (l.set i v) (W.set i X)
  | [], _, r, i, v, X, hv => by simp only [LRel] at r; subst r; exact LRel.nil
  | a :: l, _, r, i, v, X, hv => by
    simp only [LRel] at r; obtain ⟨Y, Z, rfl, h2, h3⟩ := r
    cases i with
    | zero => exact LRel.cons hv h3
    | succ i => exact LRel.cons h2 (LRel.set h3 hv)
theorem LRel.take {ρ : Env} : ∀ {l : List V} {W : List Value}, LRel ρ l W → ∀ n, LRel ρ (l.take n) (W.take n)
  | [], _, r, n => by simp only [LRel] at r; subst r; simp [LRel.nil]
  | a :: l, _, r, n => by
    simp only [LRel] at r; obtain ⟨X, Y, rfl, h2, h3⟩ := r
    cases n with
    | zero => exact LRel.nil
    | succ n => exact LRel.cons h2 (LRel.take h3 n)
theorem LRel.drop {ρ : Env} : ∀ {l : List V} {W : List Value}, LRel ρ l W → ∀ n, LRel ρ (l.drop n) (W.drop n)
  | [], _, r, n => by simp only [LRel] at r; subst r; simp [LRel.nil]
  | a :: l, _, r, n => by
    simp only [LRel] at r; obtain ⟨X, Y, rfl, h2, h3⟩ := r
    cases n with
    | zero => exact LRel.cons h2 h3
    | succ n => exact LRel.drop h3 n
theorem LRel.replicate {ρ : Env} {v : V} {X : Value} (h : VRel ρ v X) : ∀ n, LRel ρ (List.replicate n v) (List.replicate n X)
  | 0 => LRel.nil
  | n + 1 => LRel.cons h (LRel.replicate h n)
theorem LRel.of_get {ρ : Env} : ∀ {l : List V} {W : List Value}, l.length = W.length → (∀ (i : Nat) (v : V), l[i]? = some v → ∃ X, W[i]? = some X ∧ VRel ρ v X) → LRel ρ l W
  | [], [], _, _ => LRel.nil
  | [], _ :: _, h, _ => by simp at h
  | a :: l, [], h, _ => by simp at h
  | a :: l, X :: Y, h, hg => by
    obtain ⟨X', h1, h2⟩ := hg 0 a rfl
    simp at h1; subst h1
    exact LRel.cons h2 (LRel.of_get (by simpa using h) fun i v hi => by simpa using hg (i + 1) v (by simpa using hi))

structure Frm where
  n : Nat
  t : B V
def FRel (ρ : Env) (f : Frm) (A : Array Value) : Prop :=
  f.n = A.size ∧ ∃ d, f.t.full d ∧ f.n ≤ 2 ^ d ∧ ∀ (i : Nat) (X : Value), A[i]? = some X → VRel ρ (f.t.get i) X
theorem FRel.up {ρ ρ' : Env} (h : ρ.sub ρ') {f : Frm} {A : Array Value} (r : FRel ρ f A) : FRel ρ' f A := by
  obtain ⟨h1, d, h2, h3, h4⟩ := r
  exact ⟨h1, d, h2, h3, fun i X hi => VRel.up h _ _ (h4 i X hi)⟩
theorem FRel.mono {ρ ρ' : Env} (h : ρ.le ρ') {f : Frm} {A : Array Value} (r : FRel ρ f A) : FRel ρ' f A := r.up h.sub

def FRelA (ρ : Env) (f : Frm) (A : Array Value) : Prop :=
  f.n = A.size ∧ ∃ d, f.t.full d ∧ f.n ≤ 2 ^ d ∧ ∀ (i : Nat) (X : Value), A[i]? = some X → f.t.get i = .any ∨ VRel ρ (f.t.get i) X
theorem FRel.toA {ρ : Env} {f : Frm} {A : Array Value} (r : FRel ρ f A) : FRelA ρ f A := by
  obtain ⟨h1, d, h2, h3, h4⟩ := r
  exact ⟨h1, d, h2, h3, fun i X hi => .inr (h4 i X hi)⟩
theorem FRelA.mono {ρ ρ' : Env} (h : ρ.le ρ') {f : Frm} {A : Array Value} (r : FRelA ρ f A) : FRelA ρ' f A := by
  obtain ⟨h1, d, h2, h3, h4⟩ := r
  exact ⟨h1, d, h2, h3, fun i X hi => (h4 i X hi).imp id fun g => VRel.mono h _ _ g⟩

structure ELoop where
  state : LoopState
  pending : Option Code
  tmps : Frm
  params : List Tmp
  assign : Code
  body : Code
  defers : Nat

inductive EObj where
  | cells (cs : List V) (t : TypeId) (ish : Bool)
  | map (es : List (V × V × Nat)) (clock : Nat)
  | loop (r : ELoop)
  | dfr (shut : Bool)
  | siter (s : BS) (pos : Nat)

structure St where
  heap : T EObj
  next : Nat

def MRel (ρ : Env) : List (V × V × Nat) → List MapEntry → Prop
  | [], E => E = []
  | e :: l, E => ∃ x y, E = x :: y ∧ VRel ρ e.1 x.key ∧ VRel ρ e.2.1 x.val ∧ e.2.2 = x.born ∧ MRel ρ l y
theorem MRel.up {ρ ρ' : Env} (h : ρ.sub ρ') : ∀ {l : List (V × V × Nat)} {E : List MapEntry}, MRel ρ l E → MRel ρ' l E
  | [], _, r => r
  | _ :: _, _, r => by
    simp only [MRel] at r ⊢; obtain ⟨x, y, h1, h2, h3, h4, h5⟩ := r
    exact ⟨x, y, h1, VRel.up h _ _ h2, VRel.up h _ _ h3, h4, MRel.up h h5⟩
theorem MRel.mono {ρ ρ' : Env} (h : ρ.le ρ') {l : List (V × V × Nat)} {E : List MapEntry} (r : MRel ρ l E) : MRel ρ' l E := MRel.up h.sub r

def ORel (ρ : Env) (O S : Nat) (X : Option Obj) : EObj → Prop
  | .cells cs _ ish => ∃ C t fr, X = some (.cells C t fr) ∧ C.size = S ∧ O + cs.length ≤ S ∧
      (∀ (i : Nat) (v : V), cs[i]? = some v → ∃ W, C[O + i]? = some W ∧ VRel ρ v W) ∧ (∀ k, k < S → (decide (fr.1 ≤ k) && decide (k < fr.2)) = false) ∧ (ish = false → fr = (0, 0))
  | .map es clock => ∃ E, X = some (.map E clock) ∧ MRel ρ es E.toList
  | .loop r => ∃ L D, X = some (.loop L) ∧ L.state = r.state ∧ L.pending = r.pending ∧ FRel ρ r.tmps L.tmps ∧ L.params.toList = r.params ∧
      L.assign = r.assign ∧ L.body = r.body ∧ ρ r.defers = some D ∧ L.defers = D.B
  | .dfr shut => X = some (.deferred (if shut then none else some []))
  | .siter s pos => X = some (.stringIter s.den pos)
theorem ORel.up {ρ ρ' : Env} (h : ρ.sub ρ') {O S : Nat} {X : Option Obj} : ∀ {o : EObj}, ORel ρ O S X o → ORel ρ' O S X o
  | .cells .., r => by
    obtain ⟨C, t, fr, h1, h2, h3, h4, h5⟩ := r
    exact ⟨C, t, fr, h1, h2, h3, fun i v hi => let ⟨W, a, b⟩ := h4 i v hi; ⟨W, a, VRel.up h _ _ b⟩, h5⟩
  | .map .., r => by obtain ⟨E, h1, h2⟩ := r; exact ⟨E, h1, MRel.up h h2⟩
  | .loop _, r => by
    obtain ⟨L, D, h1, h2, h3, h4, h5, h6, h7, h8, h9⟩ := r
    exact ⟨L, D, h1, h2, h3, h4.up h, h5, h6, h7, h _ _ h8, h9⟩
  | .dfr _, r => r
  | .siter .., r => r
theorem ORel.mono {ρ ρ' : Env} (h : ρ.le ρ') {O S : Nat} {X : Option Obj} {o : EObj} (r : ORel ρ O S X o) : ORel ρ' O S X o := ORel.up h.sub r

structure SRel (base : Nat) (ρ : Env) (s : St) (w : World) : Prop where
  le : base ≤ w.heap.size
  obj : ∀ b o x, s.heap.get b = some o → ρ b = some x → base ≤ x.B ∧ ORel ρ x.O x.S w.heap[x.B]? o
  inj : ∀ b b' o o' x x', s.heap.get b = some o → s.heap.get b' = some o' → ρ b = some x → ρ b' = some x' → b ≠ b' → x.B ≠ x'.B
  dom : ∀ b x, ρ b = some x → b < s.next
  top : ρ.n ≤ s.next
theorem SRel.obj' {base : Nat} {ρ : Env} {s : St} {w : World} (h : SRel base ρ s w) {b : Nat} {o : EObj} (hb : s.heap.get b = some o) {x : Blk} (hx : ρ b = some x) :
    ∃ y, ρ b = some y ∧ base ≤ y.B ∧ ORel ρ y.O y.S w.heap[y.B]? o := ⟨x, hx, h.obj b o x hb hx⟩

theorem ORel.ne_none {ρ : Env} {O S : Nat} {X : Option Obj} {o : EObj} (h : ORel ρ O S X o) : X ≠ none := by
  cases o with
  | cells => obtain ⟨_, _, _, h, _⟩ := h; simp [h]
  | map => obtain ⟨_, h, _⟩ := h; simp [h]
  | loop => obtain ⟨_, _, h, _⟩ := h; simp [h]
  | dfr => intro e; rw [ORel] at h; rw [h] at e; cases e
  | siter => intro e; rw [ORel] at h; rw [h] at e; cases e

theorem SRel.lt {base : Nat} {ρ : Env} {s : St} {w : World} (h : SRel base ρ s w) {b : Nat} {o : EObj} {x : Blk} (hb : s.heap.get b = some o) (hx : ρ b = some x) : x.B < w.heap.size := by
  obtain ⟨y, h1, _, h3⟩ := h.obj' hb hx
  rw [hx] at h1
  cases h1
  exact Nat.lt_of_not_le fun hle => h3.ne_none (Array.getElem?_eq_none hle)

def Env.put (ρ : Env) (b : Nat) (x : Blk) : Env := ⟨fun k => if k = b then some x else ρ k, max ρ.n (b + 1)⟩
theorem Env.sub_put {ρ : Env} {b : Nat} (x : Blk) (h : ρ b = none) : ρ.sub (ρ.put b x) := fun k y e => by
  simp only [Env.put]; split
  · subst k; rw [h] at e; cases e
  · exact e
theorem Env.le_put {ρ : Env} {b : Nat} (x : Blk) (h : ρ b = none ∧ ρ.n ≤ b) : ρ.le (ρ.put b x) :=
  ⟨Env.sub_put x h.1, Nat.le_max_left _ _, fun k hk e => by
    simp only [Env.put]; rw [if_neg (by omega)]; exact e⟩
theorem Env.put_same {ρ : Env} {b : Nat} {x : Blk} : ρ.put b x b = some x := by simp [Env.put]
theorem Env.put_ne {ρ : Env} {b k : Nat} {x : Blk} (h : k ≠ b) : ρ.put b x k = ρ k := by simp [Env.put, h]

theorem SRel.fresh {base : Nat} {ρ : Env} {s : St} {w : World} (h : SRel base ρ s w) : ρ s.next = none ∧ ρ.n ≤ s.next := by
  refine ⟨?_, h.top⟩
  cases e : ρ s.next with
  | none => rfl
  | some x => exact absurd (h.dom _ _ e) (Nat.lt_irrefl _)

noncomputable def St.new (s : St) (o : EObj) : St := ⟨s.heap.set s.next (some o), s.next + 1⟩
noncomputable def St.upd (s : St) (b : Nat) (o : EObj) : St := ⟨s.heap.set b (some o), s.next⟩

theorem SRel.new {base : Nat} {ρ : Env} {s : St} {w w' : World} (h : SRel base ρ s w) (o : EObj) (X : Obj) (S : Nat) (hw : w'.heap = w.heap.push X)
    (ho : ORel (ρ.put s.next ⟨w.heap.size, 0, S⟩) 0 S (some X) o) :
    SRel base (ρ.put s.next ⟨w.heap.size, 0, S⟩) (s.new o) w' := by
  have hle := Env.le_put ⟨w.heap.size, 0, S⟩ h.fresh
  refine ⟨by rw [hw]; simp; have := h.le; omega, ?_, ?_, ?_, by simp only [Env.put, St.new]; have := h.top; omega⟩
  · intro b o' y hb hy
    simp only [St.new, T.get_set] at hb
    split at hb
    · rename_i e; subst e; cases hb
      rw [Env.put_same] at hy; cases hy
      exact ⟨h.le, by rw [hw]; simpa using ho⟩
    · rename_i e
      rw [Env.put_ne e] at hy
      obtain ⟨x, h1, h2, h3⟩ := h.obj' hb hy
      rw [hy] at h1; cases h1
      have hlt := h.lt hb hy
      refine ⟨h2, ?_⟩
      rw [hw, Array.getElem?_push, if_neg (by omega)]
      exact h3.mono hle
  · intro b b' o1 o2 x x' hb hb' hx hx' hne
    simp only [St.new, T.get_set] at hb hb'
    simp only [Env.put] at hx hx'
    by_cases e : b = s.next
    · subst e
      have e' : b' ≠ s.next := fun e => hne e.symm
      simp only [e', if_false] at hb' hx'
      simp only [if_true] at hx
      cases hx
      have := h.lt hb' hx'
      simp only; omega
    · simp only [e, if_false] at hb hx
      by_cases e' : b' = s.next
      · subst e'
        simp only [if_true] at hx'
        cases hx'
        have := h.lt hb hx
        simp only; omega
      · simp only [e', if_false] at hb' hx'
        exact h.inj b b' o1 o2 x x' hb hb' hx hx' hne
  · intro b x hx
    simp only [Env.put] at hx
    show b < s.next + 1
    split at hx
    · omega
    · have := h.dom b x hx; omega

theorem SRel.upd {base : Nat} {ρ : Env} {s : St} {w w' : World} (h : SRel base ρ s w) {b : Nat} {o : EObj} {x : Blk} (hb : s.heap.get b = some o) (hx : ρ b = some x)
    (o1 : EObj) (X : Obj) (hw : w'.heap = w.heap.setIfInBounds x.B X) (ho : ORel ρ x.O x.S (some X) o1) : SRel base ρ (s.upd b o1) w' := by
  have hlt := h.lt hb hx
  refine ⟨by rw [hw]; simpa using h.le, ?_, ?_, h.dom, h.top⟩
  · intro b' o' y hb' hy
    simp only [St.upd, T.get_set] at hb'
    split at hb'
    · rename_i e; subst e; cases hb'
      obtain ⟨h2, _⟩ := h.obj _ _ _ hb hx
      rw [hx] at hy; cases hy
      exact ⟨h2, by rw [hw]; simpa [hlt] using ho⟩
    · rename_i e
      have h1 := hy
      obtain ⟨h2, h3⟩ := h.obj b' o' y hb' hy
      refine ⟨h2, ?_⟩
      have := h.inj b' b _ _ y x hb' hb h1 hx e
      rw [hw, Array.getElem?_setIfInBounds_ne (fun k => this k.symm)]
      exact h3
  · intro b1 b2 o1' o2' x1 x2 h1 h2 hx1 hx2 hne
    simp only [St.upd, T.get_set] at h1 h2
    have g : ∀ k v, (if k = b then some o1 else s.heap.get k) = some v → ∃ v', s.heap.get k = some v' := by
      intro k v hk
      split at hk
      · rename_i e; subst e; exact ⟨_, hb⟩
      · exact ⟨_, hk⟩
    obtain ⟨v1, g1⟩ := g _ _ h1
    obtain ⟨v2, g2⟩ := g _ _ h2
    exact h.inj b1 b2 v1 v2 x1 x2 g1 g2 hx1 hx2 hne

theorem SRel.fill {base : Nat} {ρ : Env} {s : St} {w w' : World} (h : SRel base ρ s w) {b : Nat} {o : EObj} (hb : s.heap.get b = some o) (hn : ρ b = none) (hlt : b < s.next) (X : Obj) (S : Nat) (hw : w'.heap = w.heap.push X)
    (ho : ORel (ρ.put b ⟨w.heap.size, 0, S⟩) 0 S (some X) o) : SRel base (ρ.put b ⟨w.heap.size, 0, S⟩) s w' := by
  have hle := Env.sub_put ⟨w.heap.size, 0, S⟩ hn
  refine ⟨by rw [hw]; simp; have := h.le; omega, ?_, ?_, ?_, by simp only [Env.put]; have := h.top; omega⟩
  · intro k o' y hk hy
    by_cases e : k = b
    · subst e
      rw [hb] at hk; cases hk
      rw [Env.put_same] at hy; cases hy
      exact ⟨h.le, by rw [hw]; simpa using ho⟩
    · rw [Env.put_ne e] at hy
      obtain ⟨h2, h3⟩ := h.obj k o' y hk hy
      have hl := h.lt hk hy
      refine ⟨h2, ?_⟩
      rw [hw, Array.getElem?_push, if_neg (by omega)]
      exact h3.up hle
  · intro k k' o1 o2 x x' hk hk' hx hx' hne
    by_cases e : k = b
    · subst e
      have e' : k' ≠ k := fun e => hne e.symm
      rw [Env.put_same] at hx; cases hx
      rw [Env.put_ne e'] at hx'
      have := h.lt hk' hx'
      simp only; omega
    · rw [Env.put_ne e] at hx
      by_cases e' : k' = b
      · subst e'
        rw [Env.put_same] at hx'; cases hx'
        have := h.lt hk hx
        simp only; omega
      · rw [Env.put_ne e'] at hx'
        exact h.inj k k' o1 o2 x x' hk hk' hx hx' hne
  · intro k x hx
    by_cases e : k = b
    · subst e; exact hlt
    · rw [Env.put_ne e] at hx; exact h.dom k x hx

theorem SRel.attach {base : Nat} {ρ : Env} {s : St} {w : World} (h : SRel base ρ s w) (o : EObj) {B S : Nat} (hb : base ≤ B) (hB : B < w.heap.size) (hne : ∀ b o x, s.heap.get b = some o → ρ b = some x → x.B ≠ B)
    (ho : ORel (ρ.put s.next ⟨B, 0, S⟩) 0 S w.heap[B]? o) : ρ.le (ρ.put s.next ⟨B, 0, S⟩) ∧ SRel base (ρ.put s.next ⟨B, 0, S⟩) (s.new o) w := by
  have hle := Env.le_put ⟨B, 0, S⟩ h.fresh
  refine ⟨hle, h.le, ?_, ?_, ?_, by simp only [Env.put, St.new]; have := h.top; omega⟩
  · intro k o' y hk hy
    simp only [St.new, T.get_set] at hk
    split at hk
    · rename_i e; subst e; cases hk
      rw [Env.put_same] at hy; cases hy
      exact ⟨hb, ho⟩
    · rename_i e
      rw [Env.put_ne e] at hy
      obtain ⟨h2, h3⟩ := h.obj k o' y hk hy
      exact ⟨h2, h3.mono hle⟩
  · intro k k' o1 o2 x x' hk hk' hx hx' hn
    simp only [St.new, T.get_set] at hk hk'
    by_cases e : k = s.next
    · subst e
      have e' : k' ≠ s.next := fun e => hn e.symm
      rw [Env.put_same] at hx; cases hx
      simp only [e', if_false] at hk'
      rw [Env.put_ne e'] at hx'
      exact fun hh => hne k' o2 x' hk' hx' hh.symm
    · simp only [e, if_false] at hk
      rw [Env.put_ne e] at hx
      by_cases e' : k' = s.next
      · subst e'
        rw [Env.put_same] at hx'; cases hx'
        exact hne k o1 x hk hx
      · simp only [e', if_false] at hk'
        rw [Env.put_ne e'] at hx'
        exact h.inj k k' o1 o2 x x' hk hk' hx hx' hn
  · intro k x hx
    show k < s.next + 1
    by_cases e : k = s.next
    · omega
    · rw [Env.put_ne e] at hx
      have := h.dom k x hx; omega

theorem SRel.ahead {base : Nat} {ρ : Env} {s s1 : St} {w : World} (h : SRel base ρ s w) (h1 : ∀ b, b < s.next → s1.heap.get b = s.heap.get b) (h2 : s.next ≤ s1.next) : SRel base ⟨ρ.f, s1.next⟩ s1 w := by
  have key : ∀ k o x, s1.heap.get k = some o → ρ k = some x → s.heap.get k = some o := fun k o x hk hx => by rw [← h1 k (h.dom k x hx)]; exact hk
  have hsub : ρ.sub ⟨ρ.f, s1.next⟩ := fun _ _ e => e
  refine ⟨h.le, fun k o x hk hx => ?_, fun k k' o1 o2 x x' hk hk' hx hx' hne => h.inj k k' o1 o2 x x' (key k o1 x hk hx) (key k' o2 x' hk' hx') hx hx' hne, fun k x hx => Nat.lt_of_lt_of_le (h.dom k x hx) h2, Nat.le_refl _⟩
  obtain ⟨g1, g2⟩ := h.obj k o x (key k o x hk hx) hx
  exact ⟨g1, g2.up hsub⟩

theorem SRel.same {base : Nat} {ρ : Env} {s : St} {w w' : World} (h : SRel base ρ s w) (hw : w'.heap = w.heap) : SRel base ρ s w' :=
  ⟨by rw [hw]; exact h.le, by rw [hw]; exact h.obj, h.inj, h.dom, h.top⟩

theorem below_new {base : Nat} {w w' : World} {X : Obj} (h : base ≤ w.heap.size) (hw : w' = { w with heap := w.heap.push X }) : Below base w w' := by
  subst hw
  refine ⟨rfl, rfl, rfl, by simp, fun k hk => ?_⟩
  simp only [Array.getElem?_push]
  rw [if_neg (by omega)]
theorem below_set {base : Nat} {w w' : World} {B : Nat} {X : Obj} (h : base ≤ B) (hw : w' = { w with heap := w.heap.setIfInBounds B X }) : Below base w w' := by
  subst hw
  refine ⟨rfl, rfl, rfl, by simp, fun k hk => ?_⟩
  simp only
  rw [Array.getElem?_setIfInBounds_ne (by omega)]
end Go.Eng
end

section
namespace Go.Eng

def cellsV : V → List V
  | .agg l => l
  | v => [v]
def oneV : V → Bool
  | .agg _ | .tup _ | .undef => false
  | _ => true

def ofCell : Value → Option V
  | .bool b => some (.bool b)
  | .int k n => some (.int k n)
  | .string s => some (.str (BS.ofList s.data.toList))
  | .pointer none => some .nilp
  | .slice none 0 0 => some .nils
  | .map none => some .nilm
  | .nilFunc => some .nilf
  | .nilIface => some .nili
  | _ => none
def ofCells : List Value → Option (List V)
  | [] => some []
  | v :: l => match ofCell v with
    | some x => match ofCells l with
      | some y => some (x :: y)
      | none => none
    | none => none
def ofVal : Value → Option V
  | .agg cs => match ofCells cs.toList with
    | some l => some (.agg l)
    | none => none
  | .tuple cs => match cs.toList with
    | [] => some .undef
    | _ => none
  | v => ofCell v

def evalOs (ev : Operand → Option V) : List Operand → Option (List V)
  | [] => some []
  | x :: l => match ev x with
    | some v => match evalOs ev l with
      | some vs => some (v :: vs)
      | none => none
    | none => none

noncomputable section
variable (P : Program)

def isAggE (t : TypeId) : Option Bool :=
  match P.underlying t with
  | some (.struct _) => some true
  | some (.array _ _) => some true
  | some _ => some false
  | none => none
def szE (t : TypeId) : Option Nat :=
  match P.info? t with
  | some i => some i.size
  | none => none
def zeroE (t : TypeId) : Option V :=
  match P.info? t with
  | some i => match i.zero with
    | some v => ofVal v
    | none => none
  | none => none

def partE (t : TypeId) (l : List V) (off : Nat) : Option V :=
  match isAggE P t with
  | some true => match szE P t with
    | some n => bif Nat.ble (off + n) (llen l) then some (.agg (ltake (ldrop l off) n)) else none
    | none => none
  | some false => lget l off
  | none => none

def cellsAt (s : St) (b : Nat) : Option (List V) :=
  match s.heap.get b with
  | some (.cells cs _ _) => some cs
  | _ => none

def qLoad (s : St) (t : TypeId) (a : V) : Option V :=
  match a with
  | .ptr b o => match cellsAt s b with
    | some cs => partE P t cs o
    | none => none
  | _ => none

def ofI (k : IntKind) (x : Int) : Nat := modN (kM k) x

def intBin (op : BinOp) (k : IntKind) (a b : Int) : Option V :=
  match op with
  | .add => some (.int k (wrapQ k (a + b)))
  | .sub => some (.int k (wrapQ k (a - b)))
  | .mul => some (.int k (wrapQ k (a * b)))
  | .quo => bif eqQ b 0 then none else some (.int k (wrapQ k (a.tdiv b)))
  | .rem => bif eqQ b 0 then none else some (.int k (a.tmod b))
  | .and => some (.int k (wrapQ k (.ofNat (Nat.land (ofI k a) (ofI k b)))))
  | .or => some (.int k (wrapQ k (.ofNat (Nat.lor (ofI k a) (ofI k b)))))
  | .xor => some (.int k (wrapQ k (.ofNat (Nat.xor (ofI k a) (ofI k b)))))
  | .andNot => some (.int k (wrapQ k (.ofNat (Nat.land (ofI k a) (kM k - 1 - ofI k b)))))
  | .eql => some (.bool (eqQ a b))
  | .neq => some (.bool (!eqQ a b))
  | .lss => some (.bool (ltQ a b))
  | .leq => some (.bool (!ltQ b a))
  | .gtr => some (.bool (ltQ b a))
  | .geq => some (.bool (!ltQ a b))
  | _ => none
def shiftE (op : BinOp) (k : IntKind) (a : Int) : Int → Option V
  | .ofNat n => match op with
    | .shl => some (.int k (wrapQ k (shlQ (bif Nat.ble n k.bits then n else k.bits) a)))
    | .shr => some (.int k (shrQ (bif Nat.ble n k.bits then n else k.bits) a))
    | _ => none
  | .negSucc _ => none
def strBin (op : BinOp) (a b : BS) : Option V :=
  match op with
  | .add => bif Nat.ble (a.n + b.n) 4611686018427387904 then some (.str (a.cat b)) else none
  | .eql => some (.bool (a.eq b))
  | .neq => some (.bool (!a.eq b))
  | .lss => some (.bool (BS.ltG a.list b.list))
  | .leq => some (.bool (BS.ltG a.list b.list || a.eq b))
  | .gtr => some (.bool (!(BS.ltG a.list b.list || a.eq b)))
  | .geq => some (.bool (!BS.ltG a.list b.list))
  | _ => none

def plainBlock (s : St) (b : Nat) : Bool :=
  match s.heap.get b with
  | some (.cells _ _ false) => true
  | _ => false

def eqE (s : St) (t : TypeId) (a b : V) : Option Bool :=
  match P.underlying t with
  | some .bool => match a, b with
    | .bool x, .bool y => some (x == y)
    | _, _ => none
  | some (.pointer e) => match a, b with
    | .nilp, .nilp => some true
    | .nilp, .ptr .. => some false
    | .ptr .., .nilp => some false
    | .ptr x o, .ptr y q =>
      match szE P e with
      | some (_ + 1) => bif plainBlock s x && plainBlock s y then (bif Nat.beq x y then some (Nat.beq o q) else some false) else none
      | _ => none
    | _, _ => none
  | some (.slice _) => match a, b with
    | .nils, .nils => some true
    | .nils, .sl .. => some false
    | .nils, .slz _ => some false
    | .slz _, .nils => some false
    | .sl .., .nils => some false
    | _, _ => none
  | some (.map _ _) => match a, b with
    | .nilm, .nilm => some true
    | .nilm, .map _ => some false
    | .map _, .nilm => some false
    | _, _ => none
  | some (.func ..) => match a, b with
    | .nilf, .nilf => some true
    | .nilf, .fn .. => some false
    | .fn .., .nilf => some false
    | .nilf, .yld _ => some false
    | .yld _, .nilf => some false
    | _, _ => none
  | some (.interface _) => match a, b with
    | .nili, .iface .. => some false
    | .iface .., .nili => some false
    | _, _ => none
  | _ => none

def eqFields (nest : TypeId → V → V → Option Bool) (d : List Field) (l m : List V) : Option Bool :=
  match d with
  | [] => some true
  | f :: rest =>
    bif f.name == "_" then none else
    match P.underlying f.type with
    | some (.int _) => match lget l f.offset, lget m f.offset with
      | some (.int k x), some (.int k' y) => bif kEq k k' then (bif eqQ x y then eqFields nest rest l m else some false) else none
      | _, _ => none
    | some .bool => match lget l f.offset, lget m f.offset with
      | some (.bool x), some (.bool y) => bif x == y then eqFields nest rest l m else some false
      | _, _ => none
    | some .string => match lget l f.offset, lget m f.offset with
      | some (.str x), some (.str y) => bif x.eq y then eqFields nest rest l m else some false
      | _, _ => none
    | some (.struct _) => match partE P f.type l f.offset, partE P f.type m f.offset with
      | some x, some y => match nest f.type x y with
        | some true => eqFields nest rest l m
        | some false => some false
        | none => none
      | _, _ => none
    | _ => none
def eqNest : Nat → TypeId → V → V → Option Bool
  | 0, _, _, _ => none
  | n + 1, t, a, b => match P.underlying t with
    | some (.struct fs) => match a, b with
      | .agg l, .agg m => bif P.stoodInHeld t then none else eqFields P (eqNest n) fs.toList l m
      | _, _ => none
    | _ => none
def eqStruct (t : TypeId) (a b : V) : Option Bool :=
  match P.underlying t with
  | some (.struct fs) => match a, b with
    | .agg l, .agg m => bif P.stoodInHeld t || P.eqGuardType P.depth t then none else eqFields P (eqNest P 6) fs.toList l m
    | _, _ => none
  | _ => none

def eqNil2 (t : TypeId) (a b : V) : Option Bool :=
  match P.underlying t with
  | some (.interface ms) => match a, b with
    | .nili, .nili => bif ms.isEmpty then some true else none
    | _, _ => none
  | _ => none
def eqAny (s : St) (t : TypeId) (a b : V) : Option Bool :=
  match eqE P s t a b with
  | some r => some r
  | none => match eqNil2 P t a b with
    | some r => some r
    | none => eqStruct P t a b

def qBin (s : St) (op : BinOp) (t : TypeId) (a b : V) : Option V :=
  match a, b with
  | .int k x, .int k' y =>
    match op with
    | .shl => shiftE .shl k x y
    | .shr => shiftE .shr k x y
    | _ => bif kEq k k' then intBin op k x y else none
  | .str x, .str y => strBin op x y
  | _, _ =>
    match op with
    | .eql => match eqAny P s t a b with
      | some r => some (.bool r)
      | none => none
    | .neq => match eqAny P s t a b with
      | some r => some (.bool (!r))
      | none => none
    | _ => none

def qUn (op : UnOp) (a : V) : Option V :=
  match op, a with
  | .neg, .int k n => some (.int k (wrapQ k (0 - n)))
  | .xor, .int k n => some (.int k (wrapQ k (.ofNat (Nat.xor (kM k - 1) (ofI k n)))))
  | .not, .bool b => some (.bool (!b))
  | _, _ => none

def bytesOf : List V → Option (List UInt8)
  | [] => some []
  | .int .u8 n :: l => match bytesOf l with
    | some r => some (UInt8.ofNat n.toNat :: r)
    | none => none
  | _ => none

def qConv (s : St) (src dst : TypeId) (a : V) : Option V :=
  match P.underlying src, P.underlying dst with
  | some sd, some dd =>
    match a with
    | .int _ n => match dd with
      | .int k => some (.int k (wrapQ k n))
      | _ => none
    | .str x => match dd with
      | .string => some (.str x)
      | _ => none
    | .nils => match sd, dd with
      | .slice e, .string => match P.underlying e with
        | some (.int .u8) => some (.str ⟨0, 0⟩)
        | _ => none
      | _, _ => none
    | .sl b o len _ _ _ => match sd, dd with
      | .slice e, .string => match P.underlying e with
        | some (.int .u8) => match cellsAt s b with
          | some cs => bif Nat.ble (o + len) (llen cs) then (match bytesOf (ltake (ldrop cs o) len) with
              | some r => some (.str (BS.ofList r))
              | none => none) else none
          | none => none
        | _ => none
      | _, _ => none
    | _ => none
  | _, _ => none

def qFieldAddr (t : TypeId) (a : V) (i : Nat) : Option V :=
  match P.underlying t with
  | some (.struct fs) => match fs[i]? with
    | some f => match szE P f.type with
      | some (_ + 1) => match a with
        | .ptr b o => some (.ptr b (o + f.offset))
        | _ => none
      | _ => none
    | none => none
  | _ => none

def qField (t : TypeId) (a : V) (i : Nat) : Option V :=
  match P.underlying t with
  | some (.struct fs) => match fs[i]? with
    | some f => match a with
      | .agg l => partE P f.type l f.offset
      | _ => none
    | none => none
  | _ => none

def natOf : V → Option Nat
  | .int _ (.ofNat n) => some n
  | _ => none

def qIndexAddr (t : TypeId) (a i : V) : Option V :=
  match natOf i with
  | some n => match P.underlying t with
    | some (.array len e) => match a, szE P e with
      | .ptr b o, some sz => bif Nat.blt n len then some (.ptr b (o + n * sz)) else none
      | _, _ => none
    | some (.slice e) => match a, szE P e with
      | .sl b o len _ _ _, some sz => bif Nat.blt n len then some (.ptr b (o + n * sz)) else none
      | _, _ => none
    | _ => none
  | none => none

def qIndex (t : TypeId) (a i : V) : Option V :=
  match natOf i with
  | some n => match P.underlying t with
    | some (.array len e) => match a, szE P e with
      | .agg l, some sz => bif Nat.blt n len then partE P e l (n * sz) else none
      | _, _ => none
    | some .string => match a with
      | .str x => bif Nat.blt n x.n then some (.int .u8 (Int.ofNat (x.get n))) else none
      | _ => none
    | _ => none
  | none => none

def boundE : Option V → Nat → Option Nat
  | none, d => some d
  | some v, _ => natOf v

def qSliceZ (a : V) (l : Nat) (hi mx : Option V) : Option V :=
  bif Nat.beq l 0 then (match boundE hi 0 with
    | some 0 => match mx with
      | none => some a
      | some mv => match hi, natOf mv with
        | some _, some 0 => some (match a with
          | .slz _ => .slz true
          | a => a)
        | _, _ => none
    | _ => none) else none
def qSlice (s : St) (t : TypeId) (a : V) (lo hi mx : Option V) : Option V :=
  match boundE lo 0 with
  | none => none
  | some l =>
  match P.underlying t with
  | some .string => match a, mx with
    | .str x, none => match boundE hi x.n with
      | some h => bif Nat.ble l h && Nat.ble h x.n then some (.str (x.sub l h)) else none
      | none => none
    | _, _ => none
  | some (.slice e) => match szE P e with
    | none => none
    | some sz => match a with
      | .nils => qSliceZ .nils l hi mx
      | .slz x => qSliceZ (.slz x) l hi mx
      | .sl b o len cap x es =>
        bif !Nat.beq sz es then none else
        match boundE hi len with
        | none => none
        | some h =>
          bif !(Nat.ble l h && Nat.ble h cap) then none else
          match mx, hi with
          | none, _ =>
            bif Nat.beq l 0 then some (.sl b o h cap x es) else
            bif Nat.blt l cap then some (.sl b (o + l * es) (h - l) (cap - l) x es) else
            bif x then some (.sl b o 0 0 true es) else some (.slz false)
          | some mv, some _ => match natOf mv with
            | some m => bif Nat.ble h m && Nat.ble m cap then
                (bif Nat.beq m l then some (.sl b o (h - l) 0 true es) else some (.sl b (o + l * es) (h - l) (m - l) true es)) else none
            | none => none
          | some _, none => none
      | _ => none
  | some (.array n e) => match szE P e, mx with
    | some sz, none => match a with
      | .ptr b o => match cellsAt s b, boundE hi n with
        | some cs, some h =>
          bif Nat.ble l h && (Nat.ble h n && (Nat.ble n 1099511627776 && Nat.ble (o + n * sz) (llen cs))) then
            (bif Nat.beq n l then some (.sl b o (h - l) 0 true sz) else some (.sl b (o + l * sz) (h - l) (n - l) true sz)) else none
        | _, _ => none
      | _ => none
    | _, _ => none
  | _ => none

def keyEq : V → V → Option Bool
  | .int k a, .int k' b => bif kEq k k' then some (eqQ a b) else none
  | .str a, .str b => some (a.eq b)
  | .bool a, .bool b => some (a == b)
  | _, _ => none
def findE (k : V) : List (V × V × Nat) → Nat → Option (Option (Nat × V))
  | [], _ => some none
  | e :: l, i => match keyEq k e.1 with
    | some true => some (some (i, e.2.1))
    | some false => findE k l (i + 1)
    | none => none
def plainKeyE (t : TypeId) (k : V) : Bool :=
  match P.underlying t, k with
  | some (.int _), .int .. => true
  | some .string, .str _ => true
  | some .bool, .bool _ => true
  | _, _ => false

def qLookup (s : St) (t : TypeId) (m k : V) (ok : Bool) : Option V :=
  match P.underlying t with
  | some (.map kt e) =>
    bif !plainKeyE P kt k then none else
    match (match m with
      | .nilm => some []
      | .map b => (match s.heap.get b with
        | some (.map es _) => some es
        | _ => none)
      | _ => none) with
    | none => none
    | some es => match findE k es 0 with
      | some (some (_, v)) => some (bif ok then .tup [v, .bool true] else v)
      | some none => match zeroE P e with
        | some z => some (bif ok then .tup [z, .bool false] else z)
        | none => none
      | none => none
  | _ => none

def qLen (s : St) (t : TypeId) (a : V) : Option V :=
  match P.underlying t with
  | some .string => match a with
    | .str x => some (.int .i64 (Int.ofNat x.n))
    | _ => none
  | some (.array n _) => some (.int .i64 (Int.ofNat n))
  | some (.slice _) => match a with
    | .nils => some (.int .i64 0)
    | .slz _ => some (.int .i64 0)
    | .sl _ _ len _ _ _ => some (.int .i64 (Int.ofNat len))
    | _ => none
  | some (.map _ _) => match a with
    | .nilm => some (.int .i64 0)
    | .map b => match s.heap.get b with
      | some (.map es _) => some (.int .i64 (Int.ofNat (llen es)))
      | _ => none
    | _ => none
  | some (.pointer arr) => match P.underlying arr with
    | some (.array n _) => some (.int .i64 (Int.ofNat n))
    | _ => none
  | _ => none

def qCap (t : TypeId) (a : V) : Option V :=
  match P.underlying t with
  | some (.array n _) => some (.int .i64 (Int.ofNat n))
  | some (.slice _) => match a with
    | .nils => some (.int .i64 0)
    | .sl _ _ _ cap true _ => some (.int .i64 (Int.ofNat cap))
    | _ => none
  | _ => none

def minMax (isMax : Bool) : V → List V → Option V
  | a, [] => some a
  | .int k x, .int _ y :: l => minMax isMax (.int k (bif isMax then (bif ltQ x y then y else x) else (bif ltQ y x then y else x))) l
  | _, _ => none

def qBuiltin (s : St) (b : Builtin) (ts : Array TypeId) (args : List V) : Option V :=
  match b with
  | .len => match ts[0]?, args with
    | some t, [a] => qLen P s t a
    | _, _ => none
  | .cap => match ts[0]?, args with
    | some t, [a] => qCap P t a
    | _, _ => none
  | .min => match args with
    | .int k x :: l => minMax false (.int k x) l
    | _ => none
  | .max => match args with
    | .int k x :: l => minMax true (.int k x) l
    | _ => none
  | _ => none

def setAll0 : List V → Nat → List V → List V
  | cs, _, [] => cs
  | cs, off, c :: l => setAll0 (lset cs c off) (off + 1) l
def setAll (cs : List V) (off : Nat) (l : List V) : List V := bif Nat.ble (off + llen l) (llen cs) then lapp (ltake cs off) (lapp l (ldrop cs (off + llen l))) else setAll0 cs off l
def fillE (place : Nat → Option (Nat × Nat)) : List V → List (Nat × V) → Option (List V)
  | cs, [] => some cs
  | cs, (i, v) :: rest => match place i with
    | some (off, size) => bif Nat.beq (llen (cellsV v)) size && Nat.ble (off + size) (llen cs) then fillE place (setAll cs off (cellsV v)) rest else none
    | none => none
def placesE : List Field → Option (List (Nat × Nat))
  | [] => some []
  | f :: l => match szE P f.type with
    | some n => match placesE l with
      | some r => some ((f.offset, n) :: r)
      | none => none
    | none => none
def evalParts (ev : Operand → Option V) : List (Nat × Operand) → Option (List (Nat × V))
  | [] => some []
  | (i, x) :: l => match ev x with
    | some v => match evalParts ev l with
      | some r => some ((i, v) :: r)
      | none => none
    | none => none
def qBuild (t : TypeId) (parts : List (Nat × V)) : Option V :=
  match zeroE P t with
  | none => none
  | some z =>
  match P.underlying t with
  | some (.struct fs) => match placesE P fs.toList with
    | some pl => match fillE (fun i => lget pl i) (cellsV z) parts with
      | some cs => some (.agg cs)
      | none => none
    | none => none
  | some (.array _ e) => match szE P e with
    | some n => match fillE (fun i => some (i * n, n)) (cellsV z) parts with
      | some cs => some (.agg cs)
      | none => none
    | none => none
  | _ => none

def optO (ev : Operand → Option V) : Option Operand → Option (Option V)
  | none => some none
  | some x => match ev x with
    | some v => some (some v)
    | none => none

def assertZ (t : TypeId) (ok : Bool) : Option V :=
  match ok, zeroE P t with
  | true, some z => some (.tup [z, .bool false])
  | _, _ => none
def qAssert (t : TypeId) (v : V) (ok : Bool) : Option V :=
  match P.underlying t with
  | some (.interface _) => none
  | some _ => match v with
    | .iface t' x => bif Nat.beq t' t then some (bif ok then .tup [x, .bool true] else x) else
        assertZ P t ok
    | .nili => assertZ P t ok
    | _ => none
  | none => none

def qop (s : St) (ev : Operand → Option V) (op : Op) : Option V :=
  match op with
  | .move x => ev x
  | .assign x => ev x
  | .pick c a b => match ev c with
    | some (.bool true) => ev a
    | some (.bool false) => ev b
    | _ => none
  | .load t a => match ev a with
    | some v => qLoad P s t v
    | none => none
  | .nilCheck x => match ev x with
    | some (.ptr b o) => some (.ptr b o)
    | some (.fn f a c) => some (.fn f a c)
    | some (.yld l) => some (.yld l)
    | _ => none
  | .binOp op t x y _ => match ev x, ev y with
    | some a, some b => qBin P s op t a b
    | _, _ => none
  | .unOp op _ x => match ev x with
    | some a => qUn op a
    | none => none
  | .convert src dst x => match ev x with
    | some a => qConv P s src dst a
    | none => none
  | .makeInterface t x => match P.underlying t with
    | some (.interface _) => none
    | some _ => match ev x with
      | some a => some (.iface t a)
      | none => none
    | none => none
  | .makeFunc fn first captured => match fn with
    | .func f => match evalOs ev first.toList, evalOs ev captured.toList with
      | some a, some c => some (.fn f a c)
      | _, _ => none
    | _ => none
  | .slice t x lo hi mx => match ev x, optO ev lo, optO ev hi, optO ev mx with
    | some a, some l, some h, some m => qSlice P s t a l h m
    | _, _, _, _ => none
  | .fieldAddr t x f => match ev x with
    | some a => qFieldAddr P t a f
    | none => none
  | .field t x f => match ev x with
    | some a => qField P t a f
    | none => none
  | .indexAddr t x i => match ev x, ev i with
    | some a, some n => qIndexAddr P t a n
    | _, _ => none
  | .index t x i => match ev x, ev i with
    | some a, some n => qIndex P t a n
    | _, _ => none
  | .lookup t x i ok => match ev x, ev i with
    | some a, some n => qLookup P s t a n ok
    | _, _ => none
  | .build t parts => match evalParts ev parts.toList with
    | some ps => qBuild P t ps
    | none => none
  | .extract x i => match ev x with
    | some (.tup l) => lget l i
    | _ => none
  | .typeAssert x _ t ok => match ev x with
    | some v => qAssert P t v ok
    | none => none
  | .call c => match c.callee with
    | .builtin b => match evalOs ev c.args.toList with
      | some vs => qBuiltin P s b c.argTypes vs
      | none => none
    | _ => none
  | _ => none
end
end Go.Eng
end

section
namespace Go.Eng
set_option linter.unusedSimpArgs false
set_option linter.unusedVariables false

section
variable {P : Program} {base : Nat} {ρ : Env} {s : St} {w : World}

theorem run_und {t : TypeId} {d : TypeDesc} (h : P.underlying t = some d) : (underlying t).run P w = .ok d w := run_underlying h w
theorem run_size {t : TypeId} {n : Nat} (h : szE P t = some n) : (sizeOf t).run P w = .ok n w := by
  unfold szE at h
  split at h
  · rename_i i hi
    cases h
    simp [sizeOf, typeInfo, hi]
  · cases h
theorem run_isAgg {t : TypeId} {b : Bool} (h : isAggE P t = some b) : (isAgg t).run P w = .ok b w := by
  unfold isAggE at h
  split at h
  · rename_i hd; cases h; simp [isAgg, run_und hd]
  · rename_i hd; cases h; simp [isAgg, run_und hd]
  · rename_i d h1 h2 hd
    cases h
    simp only [isAgg, Sem.run_bind, run_und hd, Result.andThen_ok]
    cases d <;> first | rfl | exact absurd rfl (h1 _) | exact absurd rfl (h2 _ _)
  · cases h

theorem ofCell_rel {v : Value} {x : V} (h : ofCell v = some x) : VRel ρ x v := by
  unfold ofCell at h
  split at h <;> first | cases h | skip
  all_goals (try simp only [VRel])
  rw [BS.den_ofList']
theorem ofCells_rel : ∀ {l : List Value} {x : List V}, ofCells l = some x → LRel ρ x l
  | [], x, h => by simp only [ofCells] at h; cases h; exact LRel.nil
  | v :: l, x, h => by
    simp only [ofCells] at h
    split at h
    · rename_i a ha
      split at h
      · rename_i b hb; cases h; exact LRel.cons (ofCell_rel ha) (ofCells_rel hb)
      · cases h
    · cases h
theorem ofVal_rel {v : Value} {x : V} (h : ofVal v = some x) : VRel ρ x v := by
  unfold ofVal at h
  split at h
  · rename_i cs
    split at h
    · rename_i l hl; cases h; simp only [VRel]; exact ⟨cs, rfl, ofCells_rel hl⟩
    · cases h
  · rename_i cs
    split at h
    · rename_i e
      cases h
      have : cs = #[] := by cases cs; simp at e; simp [e]
      simp only [VRel]; rw [this]
    · cases h
  · exact ofCell_rel h

def EvRel (ρ : Env) (ev : Operand → Option V) (A : Act) : Prop := ∀ x v, ev x = some v → VRel ρ v (A.eval x)
theorem evalO_rel {ev : Operand → Option V} {A : Act} (hA : EvRel ρ ev A) {x : Operand} {v : V} (h : ev x = some v) : VRel ρ v (A.eval x) := hA x v h
theorem evalOs_rel {ev : Operand → Option V} {A : Act} (hA : EvRel ρ ev A) : ∀ {xs : List Operand} {vs : List V}, evalOs ev xs = some vs → LRel ρ vs (xs.map A.eval)
  | [], vs, h => by simp only [evalOs] at h; cases h; exact LRel.nil
  | x :: xs, vs, h => by
    simp only [evalOs] at h
    split at h
    · rename_i v hv
      split at h
      · rename_i r hr; cases h; exact LRel.cons (evalO_rel hA hv) (evalOs_rel hA hr)
      · cases h
    · cases h

theorem partE_rel {t : TypeId} {l : List V} {off : Nat} {v : V} (h : partE P t l off = some v) {A : Array Value} (hl : LRel ρ l A.toList) :
    ∃ X, (part t A off).run P w = .ok X w ∧ VRel ρ v X := by
  unfold partE at h
  split at h
  · rename_i ha
    split at h
    · rename_i n hn
      simp only [llen_eq, ltake_eq, ldrop_eq] at h
      cases hb : Nat.ble (off + n) l.length with
      | false => simp [hb] at h
      | true =>
        simp only [hb, cond_true, Option.some.injEq] at h
        subst h
        refine ⟨.agg (A.extract off (off + n)), by simp [part, run_isAgg ha, run_size hn], ?_⟩
        simp only [VRel]
        refine ⟨_, rfl, ?_⟩
        simp only [Array.toList_extract, List.extract_eq_take_drop, Nat.add_sub_cancel_left]
        exact (hl.drop off).take n
    · cases h
  · rename_i ha
    rw [lget_eq] at h
    obtain ⟨X, h1, h2⟩ := hl.get h
    simp only [Array.getElem?_toList] at h1
    exact ⟨X, by simp [part, run_isAgg ha, h1], h2⟩
  · cases h

structure CellsAt (ρ : Env) (w : World) (cs : List V) (x : Blk) : Prop where
  ex : ∃ C t fr, w.heap[x.B]? = some (.cells C t fr) ∧ C.size = x.S ∧ x.O + cs.length ≤ x.S ∧
      (∀ (i : Nat) (v : V), cs[i]? = some v → ∃ W, C[x.O + i]? = some W ∧ VRel ρ v W) ∧ (∀ k, k < x.S → (decide (fr.1 ≤ k) && decide (k < fr.2)) = false)

theorem SRel.cellsAt (h : SRel base ρ s w) {b : Nat} {cs : List V} (hc : cellsAt s b = some cs) {x0 : Blk} (hx0 : ρ b = some x0) : ∃ x, ρ b = some x ∧ CellsAt ρ w cs x := by
  unfold Eng.cellsAt at hc
  split at hc
  · rename_i cs' t ish hb
    cases hc
    obtain ⟨x, h1, _, C, t, fr, h3, h4, h5, h6, h7, _⟩ := h.obj' hb hx0
    exact ⟨x, h1, ⟨C, t, fr, h3, h4, h5, h6, h7⟩⟩
  · cases hc

theorem CellsAt.cell {cs : List V} {x : Blk} (h : CellsAt ρ w cs x) {i : Nat} {v : V} (hi : cs[i]? = some v) : ∃ W, w.cell? ⟨x.B, x.O + i, none⟩ = some W ∧ VRel ρ v W := by
  obtain ⟨C, t, fr, h1, h2, h3, h4, h5⟩ := h.ex
  obtain ⟨W, h6, h7⟩ := h4 i v hi
  exact ⟨W, by simp [World.cell?, h1, h6], h7⟩

theorem addr_add (B o i : Nat) : (⟨B, o, none⟩ : Addr).add i = ⟨B, o + i, none⟩ := by
  unfold Addr.add; split
  · rename_i e; subst e; rfl
  · rfl

theorem CellsAt.load {cs : List V} {x : Blk} (h : CellsAt ρ w cs x) (o n : Nat) (hn : o + n ≤ cs.length) :
    ∃ L : List Value, (loadCells ⟨x.B, x.O + o, none⟩ n).run P w = .ok L.toArray w ∧ LRel ρ ((cs.drop o).take n) L := by
  obtain ⟨C, t, fr, h1, h2, h3, h4, h5⟩ := h.ex
  have hlen : ((C.toList.drop (x.O + o)).take n).length = n := by simp; omega
  refine ⟨(C.toList.drop (x.O + o)).take n, ?_, ?_⟩
  · have := run_loadCells_list (P := P) w ⟨x.B, x.O + o, none⟩ ((C.toList.drop (x.O + o)).take n) (fun j v hj => by
      rw [addr_add]
      have hj' : j < n := by
        have := (List.getElem?_eq_some_iff.1 hj).1
        omega
      rw [List.getElem?_take_of_lt hj', List.getElem?_drop] at hj
      simp only [Array.getElem?_toList] at hj
      simp [World.cell?, h1, hj])
    rwa [hlen] at this
  · refine LRel.of_get (by simp; omega) fun i v hi => ?_
    have hi' : i < n := by
      have := (List.getElem?_eq_some_iff.1 hi).1
      simp at this; omega
    rw [List.getElem?_take_of_lt hi', List.getElem?_drop] at hi ⊢
    obtain ⟨W, h6, h7⟩ := h4 _ _ hi
    exact ⟨W, by simpa [Nat.add_assoc] using h6, h7⟩

theorem qLoad_rel (h : SRel base ρ s w) {t : TypeId} {a v : V} {A : Value} (hq : qLoad P s t a = some v) (ha : VRel ρ a A) :
    ∃ X, (Instr.loadAt t A).run P w = .ok X w ∧ VRel ρ v X := by
  unfold qLoad at hq
  split at hq
  · rename_i b o
    split at hq
    · rename_i cs hcs
      simp only [VRel] at ha
      obtain ⟨B, O, S, hb, rfl⟩ := ha
      obtain ⟨x, hx, hc⟩ := h.cellsAt hcs hb
      rw [hb] at hx; cases hx
      unfold partE at hq
      split at hq
      · rename_i ht
        split at hq
        · rename_i n hn
          simp only [llen_eq, ltake_eq, ldrop_eq] at hq
          cases hb' : Nat.ble (o + n) cs.length with
          | false => simp [hb'] at hq
          | true =>
            simp only [hb', cond_true, Option.some.injEq] at hq
            subst hq
            obtain ⟨L, h1, h2⟩ := hc.load (P := P) o n (by simpa [Nat.ble_eq] using hb')
            refine ⟨.agg L.toArray, ?_, ?_⟩
            · simp only at h1
              simp [Instr.loadAt, Instr.sureAddr, loadVar, run_isAgg ht, run_size hn, h1]
            · simp only [VRel]; exact ⟨_, rfl, by simpa using h2⟩
        · cases hq
      · rename_i ht
        rw [lget_eq] at hq
        obtain ⟨W, h1, h2⟩ := hc.cell hq
        exact ⟨W, by simp only at h1; simp [Instr.loadAt, Instr.sureAddr, loadVar, run_isAgg ht, h1], h2⟩
      · cases hq
    · cases hq
  · cases hq

theorem bits_toNat (k : IntKind) (x : Int) : (BitVec.ofInt k.bits x).toNat = ofI k x := by
  have h := modN_eq (kM k) (by cases k <;> decide) x
  rw [BitVec.toNat_ofInt, kM_eqN, ofI]
  omega

theorem intBin_rel {op : BinOp} {k : IntKind} {a b : Int} {v : V} (h : intBin op k a b = some v) (h1 : op ≠ .shl) (h2 : op ≠ .shr) (t : TypeId) :
    ∃ X, (Go.binOp op t (.int k a) (.int k b)).run P w = .ok X w ∧ VRel ρ v X := by
  have e1 := bits_toNat k a
  have e2 := bits_toNat k b
  have e3 : (~~~ BitVec.ofInt k.bits b).toNat = kM k - 1 - ofI k b := by rw [BitVec.toNat_not, e2, kM_eqN]
  have le1 : (!ltQ b a) = decide (a ≤ b) := by rw [ltQ_eq, Bool.eq_iff_iff]; simp
  have le2 : (!ltQ a b) = decide (a ≥ b) := by rw [ltQ_eq, Bool.eq_iff_iff]; simp
  cases op
  case shl => exact absurd rfl h1
  case shr => exact absurd rfl h2
  case add => simp only [intBin, Option.some.injEq] at h; subst h; exact ⟨.int k (k.wrap (a + b)), by simp [Go.binOp, Op.intArith], by simp only [VRel, wrapQ_eq]⟩
  case sub => simp only [intBin, Option.some.injEq] at h; subst h; exact ⟨.int k (k.wrap (a - b)), by simp [Go.binOp, Op.intArith], by simp only [VRel, wrapQ_eq]⟩
  case mul => simp only [intBin, Option.some.injEq] at h; subst h; exact ⟨.int k (k.wrap (a * b)), by simp [Go.binOp, Op.intArith], by simp only [VRel, wrapQ_eq]⟩
  case quo =>
    simp only [intBin, eqQ_eq] at h
    cases hb : (b == 0) with
    | true => simp [hb] at h
    | false =>
      simp only [hb, cond_false, Option.some.injEq] at h; subst h
      have hb' : b ≠ 0 := by simpa using hb
      exact ⟨.int k (k.wrap (a.tdiv b)), by simp [Go.binOp, Op.intDiv, hb'], by simp only [VRel, wrapQ_eq]⟩
  case rem =>
    simp only [intBin, eqQ_eq] at h
    cases hb : (b == 0) with
    | true => simp [hb] at h
    | false =>
      simp only [hb, cond_false, Option.some.injEq] at h; subst h
      have hb' : b ≠ 0 := by simpa using hb
      exact ⟨.int k (a.tmod b), by simp [Go.binOp, Op.intDiv, hb'], by simp only [VRel]⟩
  case and => simp only [intBin, Option.some.injEq] at h; subst h; exact ⟨_, by simp only [Go.binOp, Op.intBits, ne_eq, not_true_eq_false, if_false, Sem.run_pure, BitVec.toNat_and, e1, e2]; rfl, by simp only [VRel, wrapQ_eq]; rfl⟩
  case or => simp only [intBin, Option.some.injEq] at h; subst h; exact ⟨_, by simp only [Go.binOp, Op.intBits, ne_eq, not_true_eq_false, if_false, Sem.run_pure, BitVec.toNat_or, e1, e2]; rfl, by simp only [VRel, wrapQ_eq]; rfl⟩
  case xor => simp only [intBin, Option.some.injEq] at h; subst h; exact ⟨_, by simp only [Go.binOp, Op.intBits, ne_eq, not_true_eq_false, if_false, Sem.run_pure, BitVec.toNat_xor, e1, e2]; rfl, by simp only [VRel, wrapQ_eq]; rfl⟩
  case andNot => simp only [intBin, Option.some.injEq] at h; subst h; exact ⟨_, by simp only [Go.binOp, Op.intBits, ne_eq, not_true_eq_false, if_false, Sem.run_pure, BitVec.toNat_and, e1, e3]; rfl, by simp only [VRel, wrapQ_eq]; rfl⟩
  case eql => simp only [intBin, Option.some.injEq] at h; subst h; exact ⟨.bool (a == b), by simp [Go.binOp, Op.intCmp], by simp only [VRel, eqQ_eq]⟩
  case neq => simp only [intBin, Option.some.injEq] at h; subst h; exact ⟨.bool (a != b), by simp [Go.binOp, Op.intCmp], by simp only [VRel, eqQ_eq]; rfl⟩
  case lss => simp only [intBin, Option.some.injEq] at h; subst h; exact ⟨.bool (decide (a < b)), by simp [Go.binOp, Op.intCmp], by simp only [VRel, ltQ_eq]⟩
  case leq => simp only [intBin, Option.some.injEq] at h; subst h; exact ⟨.bool (decide (a ≤ b)), by simp [Go.binOp, Op.intCmp], by simp only [VRel, le1]⟩
  case gtr => simp only [intBin, Option.some.injEq] at h; subst h; exact ⟨.bool (decide (a > b)), by simp [Go.binOp, Op.intCmp], by simp only [VRel, ltQ_eq]⟩
  case geq => simp only [intBin, Option.some.injEq] at h; subst h; exact ⟨.bool (decide (a ≥ b)), by simp [Go.binOp, Op.intCmp], by simp only [VRel, le2]⟩

theorem shiftE_rel {op : BinOp} {k k' : IntKind} {a b : Int} {v : V} (h : shiftE op k a b = some v) :
    ∃ X, (Op.shift op k a k' b).run P w = .ok X w ∧ VRel ρ v X := by
  cases b with
  | negSucc n => simp [shiftE] at h
  | ofNat n =>
    have hn : ¬ ((n : Int) < 0) := by omega
    have hmin : (bif Nat.ble n k.bits then n else k.bits) = min n k.bits := by
      cases hb : Nat.ble n k.bits
      · have : ¬ n ≤ k.bits := by rw [← Nat.ble_eq, hb]; decide
        simp only [cond_false]; omega
      · rw [Nat.ble_eq] at hb
        simp only [cond_true]; omega
    simp only [shiftE, hmin] at h
    split at h <;> cases h
    · exact ⟨.int k (k.wrap (a * 2 ^ min n k.bits)), by simp [Op.shift, hn], by simp only [VRel, wrapQ_eq, shlQ_eq]⟩
    · exact ⟨.int k (a.fdiv (2 ^ min n k.bits)), by simp [Op.shift, hn], by simp only [VRel, shrQ_eq]⟩

theorem i64max : IntKind.i64.max = 9223372036854775807 := by decide

theorem strBin_rel {op : BinOp} {a b : BS} {v : V} (h : strBin op a b = some v) :
    ∃ X, (Op.stringOp op a.den b.den).run P w = .ok X w ∧ VRel ρ v X := by
  have he := BS.eq_iff a b
  have hl : BS.ltG a.list b.list = Op.bytesLess a.den.data.toList b.den.data.toList := BS.ltG_eq _ _
  cases op <;> simp only [strBin, Option.some.injEq, reduceCtorEq] at h
  case add =>
    cases hb : Nat.ble (a.n + b.n) 4611686018427387904 with
    | false => simp [hb] at h
    | true =>
      simp only [hb, cond_true, Option.some.injEq] at h
      subst h
      have hb' : a.n + b.n ≤ 4611686018427387904 := by simpa [Nat.ble_eq] using hb
      refine ⟨.string (a.den ++ b.den), ?_, by simp [VRel, BS.den_cat]⟩
      simp only [Op.stringOp, BS.den_size, i64max]
      rw [if_neg (by omega)]
      rfl
  all_goals
    subst h
    simp only [Op.stringOp, ByteArray.toList_eq, VRel, ← he, ← hl]
    exact ⟨_, rfl, rfl⟩

theorem plain_rel (h : SRel base ρ s w) {b : Nat} (hb : plainBlock s b = true) {x0 : Blk} (hx0 : ρ b = some x0) : ∃ x C t, ρ b = some x ∧ w.heap[x.B]? = some (.cells C t (0, 0)) := by
  unfold plainBlock at hb
  split at hb
  · rename_i cs t0 hg
    obtain ⟨x, h1, _, C, t, fr, h3, _, _, _, _, h8⟩ := h.obj' hg hx0
    rw [h8 rfl] at h3
    exact ⟨x, C, t, h1, h3⟩
  · cases hb

theorem run_mayBeOne {a b : Addr} {C D : Array Value} {t u : TypeId} (ha : w.heap[a.block]? = some (.cells C t (0, 0))) (hb : w.heap[b.block]? = some (.cells D u (0, 0))) :
    (mayBeOne a b).run P w = .ok false w := by
  have s1 : (stringish a).run P w = .ok false w := by simp [stringish, World.frozen?, World.shape?, ha]
  have s2 : (stringish b).run P w = .ok false w := by simp [stringish, World.frozen?, World.shape?, hb]
  have sh1 : w.shape? a.block = some (t, C.size) := by simp [World.shape?, ha]
  have sh2 : w.shape? b.block = some (u, D.size) := by simp [World.shape?, hb]
  simp [mayBeOne, s1, s2, sh1, sh2]

theorem run_sameAddr {a b : Addr} {C D : Array Value} {t u : TypeId} (ha : w.heap[a.block]? = some (.cells C t (0, 0))) (hb : w.heap[b.block]? = some (.cells D u (0, 0))) (hne : a.block ≠ b.block) :
    (sameAddr a b).run P w = .ok false w := by
  have n1 : (noView a).run P w = .ok () w := by simp [noView, viewAt, World.shape?, ha]
  have n2 : (noView b).run P w = .ok () w := by simp [noView, viewAt, World.shape?, hb]
  have e : (a.block == b.block) = false := by simpa using hne
  have f1 : w.frozen? a = false := by simp [World.frozen?, ha]
  simp [sameAddr, e, f1, n1, n2, run_mayBeOne ha hb]

set_option maxHeartbeats 800000 in
theorem eqE_rel (h : SRel base ρ s w) {t : TypeId} {a b : V} {r : Bool} (hq : eqE P s t a b = some r) {A B : Value} (ha : VRel ρ a A) (hb : VRel ρ b B) (d : Nat) :
    (Op.equalIn (d + 1) t A B).run P w = .ok r w := by
  unfold eqE at hq
  split at hq <;> rename_i hd
  · split at hq <;> cases hq
    simp only [VRel] at ha hb; subst ha; subst hb
    simp [Op.equalIn, run_und hd]
  · rename_i e
    split at hq
    · cases hq; simp only [VRel] at ha hb; subst ha; subst hb; simp [Op.equalIn, run_und hd]
    · cases hq; simp only [VRel] at ha hb; obtain ⟨_, _, _, _, rfl⟩ := hb; subst ha; simp [Op.equalIn, run_und hd]
    · cases hq; simp only [VRel] at ha hb; obtain ⟨_, _, _, _, rfl⟩ := ha; subst hb; simp [Op.equalIn, run_und hd]
    · rename_i x o y q
      split at hq
      · rename_i n hn
        cases hp : (plainBlock s x && plainBlock s y) with
        | false => simp [hp] at hq
        | true =>
          simp only [hp, cond_true] at hq
          simp only [Bool.and_eq_true] at hp
          simp only [VRel] at ha hb
          obtain ⟨B1, O1, S1, hB1, rfl⟩ := ha
          obtain ⟨B2, O2, S2, hB2, rfl⟩ := hb
          obtain ⟨x1, C1, t1, hx1, hw1⟩ := plain_rel h hp.1 hB1
          obtain ⟨x2, C2, t2, hx2, hw2⟩ := plain_rel h hp.2 hB2
          rw [hB1] at hx1; cases hx1
          rw [hB2] at hx2; cases hx2
          simp only [Op.equalIn, Sem.run_bind, run_und hd, Result.andThen_ok, run_size hn]
          cases hxy : Nat.beq x y with
          | true =>
            have e' : x = y := by simpa using hxy
            subst e'
            rw [hB1] at hB2; cases hB2
            simp only [hxy, cond_true, Option.some.injEq] at hq
            subst hq
            simp only [sameAddr]
            simp
            rw [Bool.eq_iff_iff]; simp
          | false =>
            simp only [hxy, cond_false, Option.some.injEq] at hq
            subst hq
            have hne : x ≠ y := by intro e; subst e; simp at hxy
            have hBne : B1 ≠ B2 := by
              unfold plainBlock at hp
              obtain ⟨p1, p2⟩ := hp
              split at p1
              · rename_i g1
                split at p2
                · rename_i g2
                  exact h.inj x y _ _ _ _ g1 g2 hB1 hB2 hne
                · cases p2
              · cases p1
            simp only [ne_eq, Nat.add_eq_zero_iff, Nat.succ_ne_self, and_false, not_false_eq_true, if_true, Nat.add_one_ne_zero]
            exact run_sameAddr hw1 hw2 hBne
      · cases hq
    · cases hq
  · split at hq <;> cases hq <;> simp only [VRel] at ha hb
    · subst ha; subst hb; simp [Op.equalIn, run_und hd]
    · obtain ⟨_, _, _, _, _, rfl, _⟩ := hb; subst ha; simp [Op.equalIn, run_und hd]
    · obtain ⟨_, _, rfl, _⟩ := hb; subst ha; simp [Op.equalIn, run_und hd]
    · obtain ⟨_, _, rfl, _⟩ := ha; subst hb; simp [Op.equalIn, run_und hd]
    · obtain ⟨_, _, _, _, _, rfl, _⟩ := ha; subst hb; simp [Op.equalIn, run_und hd]
  · split at hq <;> cases hq <;> simp only [VRel] at ha hb
    · subst ha; subst hb; simp [Op.equalIn, run_und hd]
    · obtain ⟨_, _, _, _, rfl⟩ := hb; subst ha; simp [Op.equalIn, run_und hd]
    · obtain ⟨_, _, _, _, rfl⟩ := ha; subst hb; simp [Op.equalIn, run_und hd]
  · split at hq <;> cases hq <;> simp only [VRel] at ha hb
    · subst ha; subst hb; simp [Op.equalIn, run_und hd]
    · obtain ⟨_, _, rfl, _⟩ := hb; subst ha; simp [Op.equalIn, run_und hd]
    · obtain ⟨_, _, rfl, _⟩ := ha; subst hb; simp [Op.equalIn, run_und hd]
    · obtain ⟨_, _, _, _, rfl⟩ := hb; subst ha; simp [Op.equalIn, run_und hd]
    · obtain ⟨_, _, _, _, rfl⟩ := ha; subst hb; simp [Op.equalIn, run_und hd]
  · split at hq <;> cases hq <;> simp only [VRel] at ha hb
    · obtain ⟨_, rfl, _⟩ := hb; subst ha; simp [Op.equalIn, run_und hd]
    · obtain ⟨_, rfl, _⟩ := ha; subst hb; simp [Op.equalIn, run_und hd]
  · cases hq

end
end Go.Eng
end
