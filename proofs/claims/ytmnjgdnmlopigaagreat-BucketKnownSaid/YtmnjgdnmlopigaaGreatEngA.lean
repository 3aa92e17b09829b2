/-
  Plain data of the evaluator: strings as numbers, and a map from numbers as a tree. No condition; nothing here speaks of a program.
-/
import Derived.RowKit3
import Derived.Below
namespace Go.Eng

/-! ### Strings as numbers: n bytes, the number N holds them, the first one highest -/
structure BS where
  n : Nat
  N : Nat
  deriving Inhabited

def dig : Nat → Nat → List UInt8
  | 0, _ => []
  | n + 1, N => dig n (N / 256) ++ [UInt8.ofNat N]

/-- the same, the last digit first -/
noncomputable def forceD {α : Type} (n : Nat) (g : Nat → α) : α := @Nat.rec (fun _ => α) (g 0) (fun m _ => g (Nat.succ m)) n
theorem forceD_eq {α : Type} (n : Nat) (g : Nat → α) : forceD n g = g n := by cases n <;> rfl
noncomputable def digA (n : Nat) : Nat → List UInt8 → List UInt8 := @Nat.rec (fun _ => Nat → List UInt8 → List UInt8) (fun _ acc => acc) (fun _ ih N acc => forceD (Nat.div N 256) fun M => forceD (Nat.mod N 256) fun d => ih M (UInt8.ofNat d :: acc)) n
theorem dig_length : ∀ n N, (dig n N).length = n
  | 0, _ => rfl
  | n + 1, N => by simp [dig, dig_length n]

theorem u8_mod (N : Nat) : UInt8.ofNat (N % 256) = UInt8.ofNat N := by
  apply UInt8.toNat_inj.1; simp

theorem digA_eq : ∀ (n N : Nat) (acc : List UInt8), digA n N acc = dig n N ++ acc
  | 0, _, _ => rfl
  | n + 1, N, acc => by
    show forceD (Nat.div N 256) (fun M => forceD (Nat.mod N 256) fun d => digA n M (UInt8.ofNat d :: acc)) = _
    rw [forceD_eq, forceD_eq, digA_eq n]
    show dig n (N / 256) ++ (UInt8.ofNat (N % 256) :: acc) = (dig n (N / 256) ++ [UInt8.ofNat N]) ++ acc
    rw [u8_mod, List.append_assoc]; rfl
theorem dig_add : ∀ n m N, dig (m + n) N = dig m (N / 256 ^ n) ++ dig n N
  | 0, m, N => by simp [dig]
  | n + 1, m, N => by
    rw [← Nat.add_assoc]
    simp only [dig]
    rw [dig_add n m (N / 256), Nat.div_div_eq_div_mul, Nat.pow_succ, Nat.mul_comm 256, List.append_assoc]

theorem dig_mod : ∀ n N, dig n (N % 256 ^ n) = dig n N
  | 0, _ => rfl
  | n + 1, N => by
    simp only [dig]
    have h1 : N % 256 ^ (n + 1) / 256 = N / 256 % 256 ^ n := by
      rw [Nat.pow_succ, Nat.mul_comm, Nat.mod_mul_right_div_self]
    have h2 : UInt8.ofNat (N % 256 ^ (n + 1)) = UInt8.ofNat N := by
      rw [← u8_mod (N % 256 ^ (n + 1)), ← u8_mod N, Nat.pow_succ, Nat.mod_mul_left_mod]
    rw [h1, dig_mod n, h2]

theorem dig_inj : ∀ n A B, dig n A = dig n B → A % 256 ^ n = B % 256 ^ n
  | 0, A, B, _ => by simp [Nat.mod_one]
  | n + 1, A, B, h => by
    simp only [dig] at h
    have h' := List.append_inj h (by simp [dig_length])
    have h1 := dig_inj n _ _ h'.1
    have h2 : A % 256 = B % 256 := by
      have := congrArg (fun l => (l.headD 0).toNat) h'.2
      simpa using this
    rw [Nat.pow_succ, Nat.mul_comm, Nat.mod_mul, Nat.mod_mul, h1, h2]

def BS.den (s : BS) : ByteArray := ⟨(dig s.n s.N).toArray⟩
theorem BS.den_list (s : BS) : s.den.data.toList = dig s.n s.N := rfl
theorem BS.den_size (s : BS) : s.den.size = s.n := by
  show (dig s.n s.N).toArray.size = s.n
  simp [dig_length]

theorem ba_ext {a b : ByteArray} (h : a.data.toList = b.data.toList) : a = b := by
  cases a; cases b; simp at h; simp [h]

def numOf : Nat → List UInt8 → Nat
  | acc, [] => acc
  | acc, b :: l => numOf (acc * 256 + b.toNat) l

theorem dig_numOf : ∀ (l : List UInt8) (acc m : Nat), dig (m + l.length) (numOf acc l) = dig m acc ++ l
  | [], acc, m => by simp [numOf]
  | b :: l, acc, m => by
    have h := dig_numOf l (acc * 256 + b.toNat) (m + 1)
    simp only [numOf, List.length_cons]
    rw [show m + (l.length + 1) = m + 1 + l.length from by omega, h]
    have hb : b.toNat < 256 := b.toNat_lt
    have h1 : (acc * 256 + b.toNat) / 256 = acc := by omega
    have h2 : UInt8.ofNat (acc * 256 + b.toNat) = b := by
      rw [← u8_mod, show (acc * 256 + b.toNat) % 256 = b.toNat from by omega]
      exact UInt8.ofNat_toNat
    simp [dig, h1, h2]

def BS.ofList (l : List UInt8) : BS := ⟨l.length, numOf 0 l⟩
theorem BS.den_ofList (l : List UInt8) : (BS.ofList l).den = ⟨l.toArray⟩ := by
  apply ba_ext
  have := dig_numOf l 0 0
  simpa [BS.den, BS.ofList, dig] using this
theorem BS.den_ofList' (b : ByteArray) : (BS.ofList b.data.toList).den = b := by
  rw [BS.den_ofList]

def BS.cat (a b : BS) : BS := ⟨a.n + b.n, a.N * 256 ^ b.n + b.N % 256 ^ b.n⟩
theorem BS.den_cat (a b : BS) : (a.cat b).den = a.den ++ b.den := by
  apply ba_ext
  have hp : 0 < 256 ^ b.n := Nat.pow_pos (by decide)
  have hl : b.N % 256 ^ b.n < 256 ^ b.n := Nat.mod_lt _ hp
  simp only [BS.den, BS.cat, ByteArray.data_append, Array.toList_append]
  rw [dig_add]
  congr 1
  · rw [Nat.mul_comm, Nat.mul_add_div hp, Nat.div_eq_of_lt hl, Nat.add_zero]
  · rw [← dig_mod b.n (a.N * 256 ^ b.n + _), Nat.mul_comm, Nat.mul_add_mod, Nat.mod_mod, dig_mod]

def BS.sub (a : BS) (l h : Nat) : BS := ⟨h - l, a.N / 256 ^ (a.n - h) % 256 ^ (h - l)⟩
theorem BS.den_sub (a : BS) (l h : Nat) (h1 : l ≤ h) (h2 : h ≤ a.n) : (a.sub l h).den = a.den.extract l h := by
  apply ba_ext
  simp only [BS.den, BS.sub, ByteArray.data_extract, Array.toList_extract, dig_mod]
  obtain ⟨d, rfl⟩ : ∃ d, h = l + d := ⟨h - l, by omega⟩
  obtain ⟨r, hr⟩ : ∃ r, a.n = l + d + r := ⟨a.n - (l + d), by omega⟩
  have e1 : dig a.n a.N = dig l (a.N / 256 ^ r / 256 ^ d) ++ (dig d (a.N / 256 ^ r) ++ dig r a.N) := by
    rw [hr, dig_add, dig_add, List.append_assoc]
  rw [e1, show l + d - l = d from by omega, show a.n - (l + d) = r from by omega]
  simp [List.extract_eq_take_drop, dig_length]

def BS.get (a : BS) (i : Nat) : Nat := a.N / 256 ^ (a.n - 1 - i) % 256
theorem BS.den_get (a : BS) (i : Nat) (hi : i < a.n) : ∃ b : UInt8, a.den[i]? = some b ∧ b.toNat = a.get i := by
  obtain ⟨r, hr⟩ : ∃ r, a.n = (i + 1) + r := ⟨a.n - (i + 1), by omega⟩
  have e1 : dig a.n a.N = dig i (a.N / 256 ^ r / 256) ++ ([UInt8.ofNat (a.N / 256 ^ r)] ++ dig r a.N) := by
    rw [hr, dig_add]; simp [dig]
  refine ⟨UInt8.ofNat (a.N / 256 ^ r), ?_, ?_⟩
  · have hz : i < a.den.size := by rw [BS.den_size]; exact hi
    rw [getElem?_pos a.den i hz]
    have h2 : a.den.data.toList[i]? = some (UInt8.ofNat (a.N / 256 ^ r)) := by
      rw [BS.den_list, e1, List.getElem?_append_right (by simp [dig_length])]
      simp [dig_length]
    have h3 : i < a.den.data.toList.length := by simpa using hz
    rw [List.getElem?_eq_getElem h3] at h2
    exact congrArg some (Option.some.inj h2)
  · have : a.n - 1 - i = r := by omega
    simp [BS.get, this]

def BS.eq (a b : BS) : Bool := Nat.beq a.n b.n && Nat.beq (a.N % 256 ^ a.n) (b.N % 256 ^ b.n)
theorem BS.eq_iff (a b : BS) : a.eq b = (a.den.data.toList == b.den.data.toList) := by
  rw [Bool.eq_iff_iff]
  simp only [BS.eq, BS.den_list, Bool.and_eq_true, Nat.beq_eq, beq_iff_eq]
  constructor
  · rintro ⟨h1, h2⟩
    rw [← dig_mod a.n, ← dig_mod b.n, h2, h1]
  · intro h
    have hn : a.n = b.n := by simpa [dig_length] using congrArg List.length h
    rw [hn] at h ⊢
    exact ⟨rfl, dig_inj _ _ _ h⟩

/-- the digits, first one first -/
def BS.list (a : BS) : List UInt8 := dig a.n a.N
def BS.ltG : List UInt8 → List UInt8 → Bool
  | _, [] => false
  | [], _ :: _ => true
  | a :: x, b :: y => bif Nat.blt a.toNat b.toNat then true else bif Nat.beq a.toNat b.toNat then BS.ltG x y else false
theorem BS.ltG_eq : ∀ x y : List UInt8, BS.ltG x y = Op.bytesLess x y
  | _, [] => by simp [BS.ltG, Op.bytesLess]
  | [], _ :: _ => rfl
  | a :: x, b :: y => by
    have h1 : Nat.blt a.toNat b.toNat = decide (a < b) := by
      rw [Bool.eq_iff_iff]; simp [Nat.blt_eq, UInt8.lt_iff_toNat_lt]
    have h2 : Nat.beq a.toNat b.toNat = (a == b) := by
      rw [Bool.eq_iff_iff]; simp [Nat.beq_eq, UInt8.toNat_inj]
    simp only [BS.ltG, Op.bytesLess, h1, h2, BS.ltG_eq x y]
    cases decide (a < b) <;> cases (a == b) <;> rfl

/-! ### A map from numbers, as a tree -/
inductive T (α : Type) where
  | leaf
  | node (v : Option α) (l r : T α)

noncomputable def T.get {α : Type} (t : T α) : Nat → Option α :=
  @T.rec α (fun _ => Nat → Option α) (fun _ => none)
    (fun v _ _ hl hr n => @Nat.rec (fun _ => Option α) v (fun m _ => @Bool.rec (fun _ => Option α) (hr (Nat.div m (nat_lit 2))) (hl (Nat.div m (nat_lit 2))) (Nat.beq (Nat.mod m (nat_lit 2)) (nat_lit 0))) n) t
theorem T.get_leaf {α : Type} (n : Nat) : (T.leaf : T α).get n = none := rfl
theorem T.get_zero {α : Type} (v : Option α) (l r : T α) : (T.node v l r).get 0 = v := rfl
theorem T.get_succ {α : Type} (v : Option α) (l r : T α) (m : Nat) : (T.node v l r).get (m + 1) = bif Nat.beq (m % 2) 0 then l.get (m / 2) else r.get (m / 2) := by
  show @Bool.rec (fun _ => Option α) (r.get (m / 2)) (l.get (m / 2)) (Nat.beq (m % 2) 0) = _
  cases Nat.beq (m % 2) 0 <;> rfl

noncomputable def T.setF {α : Type} (f : Nat) : T α → Nat → Option α → T α :=
  @Nat.rec (fun _ => T α → Nat → Option α → T α) (fun t _ _ => t)
    (fun _ ih t n x => @T.rec α (fun _ => T α)
      (@Nat.rec (fun _ => T α) (.node x .leaf .leaf) (fun m _ => @Bool.rec (fun _ => T α) (.node none .leaf (ih .leaf (Nat.div m (nat_lit 2)) x)) (.node none (ih .leaf (Nat.div m (nat_lit 2)) x) .leaf) (Nat.beq (Nat.mod m (nat_lit 2)) (nat_lit 0))) n)
      (fun v l r _ _ => @Nat.rec (fun _ => T α) (.node x l r) (fun m _ => @Bool.rec (fun _ => T α) (.node v l (ih r (Nat.div m (nat_lit 2)) x)) (.node v (ih l (Nat.div m (nat_lit 2)) x) r) (Nat.beq (Nat.mod m (nat_lit 2)) (nat_lit 0))) n) t) f
theorem T.setF_leaf0 {α : Type} (f : Nat) (x : Option α) : T.setF (f + 1) .leaf 0 x = .node x .leaf .leaf := rfl
theorem T.setF_leaf1 {α : Type} (f m : Nat) (x : Option α) : T.setF (f + 1) .leaf (m + 1) x = bif Nat.beq (m % 2) 0 then .node none (T.setF f .leaf (m / 2) x) .leaf else .node none .leaf (T.setF f .leaf (m / 2) x) := by
  show @Bool.rec (fun _ => T α) (.node none .leaf (T.setF f .leaf (m / 2) x)) (.node none (T.setF f .leaf (m / 2) x) .leaf) (Nat.beq (m % 2) 0) = _
  cases Nat.beq (m % 2) 0 <;> rfl
theorem T.setF_node0 {α : Type} (f : Nat) (v : Option α) (l r : T α) (x : Option α) : T.setF (f + 1) (.node v l r) 0 x = .node x l r := rfl
theorem T.setF_node1 {α : Type} (f m : Nat) (v : Option α) (l r : T α) (x : Option α) : T.setF (f + 1) (.node v l r) (m + 1) x = bif Nat.beq (m % 2) 0 then .node v (T.setF f l (m / 2) x) r else .node v l (T.setF f r (m / 2) x) := by
  show @Bool.rec (fun _ => T α) (.node v l (T.setF f r (m / 2) x)) (.node v (T.setF f l (m / 2) x) r) (Nat.beq (m % 2) 0) = _
  cases Nat.beq (m % 2) 0 <;> rfl

noncomputable def T.set {α : Type} (t : T α) (n : Nat) (x : Option α) : T α := T.setF (n + 1) t n x

theorem T.get_setF {α : Type} : ∀ (f : Nat) (t : T α) (n : Nat) (x : Option α) (k : Nat), n < f → (T.setF f t n x).get k = if k = n then x else t.get k
  | 0, _, _, _, _, h => absurd h (by omega)
  | f + 1, t, n, x, k, h => by
    cases t with
    | leaf =>
      cases n with
      | zero => cases k <;> simp [T.setF_leaf0, T.get_leaf, T.get_zero, T.get_succ]
      | succ m =>
        have ih := fun k => T.get_setF f (.leaf : T α) (m / 2) x k (by omega)
        simp only [T.setF_leaf1]
        cases hm : Nat.beq (m % 2) 0 <;> cases k with
        | zero => simp [T.get_zero, T.get_leaf]
        | succ j =>
          cases hj : Nat.beq (j % 2) 0 <;> simp only [T.get_leaf, T.get_succ, hj, cond_true, cond_false, ih] <;>
            simp only [Nat.beq_eq_true_eq, Nat.beq_eq, Bool.eq_false_iff, ne_eq] at hm hj <;>
            first
              | rfl
              | (have : (j / 2 = m / 2) ↔ (j + 1 = m + 1) := by omega
                 simp only [this])
              | (rw [if_neg (by omega)])
    | node v l r =>
      cases n with
      | zero => cases k <;> simp [T.setF_node0, T.get_zero, T.get_succ]
      | succ m =>
        have ih := fun t k => T.get_setF f (t : T α) (m / 2) x k (by omega)
        simp only [T.setF_node1]
        cases hm : Nat.beq (m % 2) 0 <;> cases k with
        | zero => simp [T.get_zero, T.get_leaf]
        | succ j =>
          cases hj : Nat.beq (j % 2) 0 <;> simp only [T.get_leaf, T.get_succ, hj, cond_true, cond_false, ih] <;>
            simp only [Nat.beq_eq_true_eq, Nat.beq_eq, Bool.eq_false_iff, ne_eq] at hm hj <;>
            first
              | (have : (j / 2 = m / 2) ↔ (j + 1 = m + 1) := by omega
                 simp only [this])
              | (rw [if_neg (by omega)])

theorem T.get_set {α : Type} (t : T α) (n : Nat) (x : Option α) (k : Nat) : (t.set n x).get k = if k = n then x else t.get k :=
  T.get_setF _ _ _ _ _ (Nat.lt_succ_self n)

/-! ### A frame's slots, as a tree of a fixed height -/
inductive B (α : Type) where
  | leaf (v : α)
  | node (l r : B α)
noncomputable def B.get {α : Type} (t : B α) : Nat → α :=
  @B.rec α (fun _ => Nat → α) (fun v _ => v) (fun _ _ hl hr n => @Bool.rec (fun _ => α) (hl (Nat.div n (nat_lit 2))) (hr (Nat.div n (nat_lit 2))) (Nat.beq (Nat.mod n (nat_lit 2)) (nat_lit 1))) t
noncomputable def B.set {α : Type} (x : α) (t : B α) : Nat → B α :=
  @B.rec α (fun _ => Nat → B α) (fun _ _ => .leaf x) (fun l r hl hr n => @Bool.rec (fun _ => B α) (.node (hl (Nat.div n (nat_lit 2))) r) (.node l (hr (Nat.div n (nat_lit 2)))) (Nat.beq (Nat.mod n (nat_lit 2)) (nat_lit 1))) t
theorem B.get_node {α : Type} (l r : B α) (n : Nat) : (B.node l r).get n = bif Nat.beq (n % 2) 1 then r.get (n / 2) else l.get (n / 2) := by
  show @Bool.rec (fun _ => α) (l.get (n / 2)) (r.get (n / 2)) (Nat.beq (n % 2) 1) = _
  cases Nat.beq (n % 2) 1 <;> rfl
theorem B.set_node {α : Type} (x : α) (l r : B α) (n : Nat) : B.set x (.node l r) n = bif Nat.beq (n % 2) 1 then .node l (B.set x r (n / 2)) else .node (B.set x l (n / 2)) r := by
  show @Bool.rec (fun _ => B α) (.node (B.set x l (n / 2)) r) (.node l (B.set x r (n / 2))) (Nat.beq (n % 2) 1) = _
  cases Nat.beq (n % 2) 1 <;> rfl
/-- all paths are so long -/
def B.full {α : Type} : B α → Nat → Prop
  | .leaf _, d => d = 0
  | .node l r, d => ∃ e, d = e + 1 ∧ l.full e ∧ r.full e
theorem B.set_full {α : Type} (x : α) : ∀ (t : B α) (d n : Nat), t.full d → (B.set x t n).full d
  | .leaf _, d, n, h => h
  | .node l r, d, n, h => by
    obtain ⟨e, rfl, h1, h2⟩ := h
    rw [B.set_node]
    cases Nat.beq (n % 2) 1
    · exact ⟨e, rfl, B.set_full x l e _ h1, h2⟩
    · exact ⟨e, rfl, h1, B.set_full x r e _ h2⟩
theorem B.get_set {α : Type} (x : α) : ∀ (t : B α) (d n k : Nat), t.full d → n < 2 ^ d → k < 2 ^ d → (B.set x t n).get k = if k = n then x else t.get k
  | .leaf v, d, n, k, h, hn, hk => by
    have h : d = 0 := h
    subst h
    have : n = 0 := by simpa using hn
    have : k = 0 := by simpa using hk
    subst n; subst k; rfl
  | .node l r, d, n, k, h, hn, hk => by
    obtain ⟨e, rfl, h1, h2⟩ := h
    rw [Nat.pow_succ] at hn hk
    have il := B.get_set x l e (n / 2) (k / 2) h1 (by omega) (by omega)
    have ir := B.get_set x r e (n / 2) (k / 2) h2 (by omega) (by omega)
    rw [B.set_node]
    cases hb : Nat.beq (n % 2) 1 <;> simp only [cond_true, cond_false, B.get_node] <;> cases hc : Nat.beq (k % 2) 1 <;>
      simp only [cond_true, cond_false, il, ir] <;> simp only [Nat.beq_eq_true_eq, Nat.beq_eq, Bool.eq_false_iff, ne_eq] at hb hc
    · have : (k / 2 = n / 2) ↔ (k = n) := by omega
      simp only [this]
    · rw [if_neg (by omega)]
    · rw [if_neg (by omega)]
    · have : (k / 2 = n / 2) ↔ (k = n) := by omega
      simp only [this]
/-- the tree of a list: so high, the rest filled up with z -/
noncomputable def B.ofList {α : Type} (z : α) : Nat → List α → B α
  | 0, l => .leaf (l.headD z)
  | d + 1, l => .node (B.ofList z d (evens l)) (B.ofList z d (odds l))
where
  evens : List α → List α
  | [] => []
  | [a] => [a]
  | a :: _ :: l => a :: evens l
  odds : List α → List α
  | [] => []
  | [_] => []
  | _ :: b :: l => b :: odds l
theorem B.evens_get {α : Type} : ∀ (l : List α) (i : Nat), (B.ofList.evens l)[i]? = l[2 * i]?
  | [], i => by simp [B.ofList.evens]
  | [a], i => by cases i <;> simp [B.ofList.evens]
  | a :: b :: l, i => by
    cases i with
    | zero => simp [B.ofList.evens]
    | succ i => simp [B.ofList.evens, B.evens_get l i, show 2 * (i + 1) = 2 * i + 1 + 1 from by omega]
theorem B.odds_get {α : Type} : ∀ (l : List α) (i : Nat), (B.ofList.odds l)[i]? = l[2 * i + 1]?
  | [], i => by simp [B.ofList.odds]
  | [a], i => by cases i <;> simp [B.ofList.odds]
  | a :: b :: l, i => by
    cases i with
    | zero => simp [B.ofList.odds]
    | succ i => simp [B.ofList.odds, B.odds_get l i, show 2 * (i + 1) + 1 = 2 * i + 1 + 1 + 1 from by omega]
theorem B.ofList_full {α : Type} (z : α) : ∀ (d : Nat) (l : List α), (B.ofList z d l).full d
  | 0, _ => rfl
  | d + 1, l => ⟨d, rfl, B.ofList_full z d _, B.ofList_full z d _⟩
theorem B.ofList_get {α : Type} (z : α) : ∀ (d : Nat) (l : List α) (i : Nat), i < 2 ^ d → (B.ofList z d l).get i = l.getD i z
  | 0, l, i, h => by
    have : i = 0 := by simpa using h
    subst this
    cases l <;> rfl
  | d + 1, l, i, h => by
    rw [Nat.pow_succ] at h
    have ih := B.ofList_get z d
    show (B.node (B.ofList z d (B.ofList.evens l)) (B.ofList z d (B.ofList.odds l))).get i = _
    rw [B.get_node]
    simp only [List.getD_eq_getElem?_getD]
    cases hb : Nat.beq (i % 2) 1
    · simp only [cond_false]
      rw [ih _ _ (by omega), List.getD_eq_getElem?_getD, B.evens_get]
      have : ¬ i % 2 = 1 := by intro e; rw [e] at hb; cases hb
      rw [show 2 * (i / 2) = i from by omega]
    · simp only [cond_true]
      rw [ih _ _ (by omega), List.getD_eq_getElem?_getD, B.odds_get]
      have : i % 2 = 1 := by simpa using hb
      rw [show 2 * (i / 2) + 1 = i from by omega]

/-! ### Lists, by their recursors: for speed -/
noncomputable def llen {α : Type} (l : List α) : Nat := @List.rec α (fun _ => Nat) 0 (fun _ _ ih => ih + 1) l
theorem llen_eq {α : Type} : ∀ l : List α, llen l = l.length
  | [] => rfl
  | _ :: l => congrArg (· + 1) (llen_eq l)
noncomputable def lget {α : Type} (l : List α) : Nat → Option α := @List.rec α (fun _ => Nat → Option α) (fun _ => none) (fun a _ ih n => @Nat.rec (fun _ => Option α) (some a) (fun m _ => ih m) n) l
theorem lget_eq {α : Type} : ∀ (l : List α) (n : Nat), lget l n = l[n]?
  | [], _ => by simp [lget]
  | a :: l, 0 => rfl
  | a :: l, n + 1 => by rw [List.getElem?_cons_succ]; exact lget_eq l n
noncomputable def ldrop {α : Type} (l : List α) : Nat → List α := @List.rec α (fun _ => Nat → List α) (fun _ => []) (fun a l ih n => @Nat.rec (fun _ => List α) (a :: l) (fun m _ => ih m) n) l
theorem ldrop_eq {α : Type} : ∀ (l : List α) (n : Nat), ldrop l n = l.drop n
  | [], _ => by simp [ldrop]
  | a :: l, 0 => rfl
  | a :: l, n + 1 => by rw [List.drop_succ_cons]; exact ldrop_eq l n
noncomputable def ltake {α : Type} (l : List α) : Nat → List α := @List.rec α (fun _ => Nat → List α) (fun _ => []) (fun a _ ih n => @Nat.rec (fun _ => List α) [] (fun m _ => a :: ih m) n) l
theorem ltake_eq {α : Type} : ∀ (l : List α) (n : Nat), ltake l n = l.take n
  | [], _ => by simp [ltake]
  | a :: l, 0 => rfl
  | a :: l, n + 1 => by rw [List.take_succ_cons]; exact congrArg (a :: ·) (ltake_eq l n)
noncomputable def lset {α : Type} (l : List α) (v : α) : Nat → List α := @List.rec α (fun _ => Nat → List α) (fun _ => []) (fun a l ih n => @Nat.rec (fun _ => List α) (v :: l) (fun m _ => a :: ih m) n) l
theorem lset_eq {α : Type} : ∀ (l : List α) (v : α) (n : Nat), lset l v n = l.set n v
  | [], _, _ => rfl
  | a :: l, v, 0 => rfl
  | a :: l, v, n + 1 => congrArg (a :: ·) (lset_eq l v n)
noncomputable def lapp {α : Type} (l m : List α) : List α := @List.rec α (fun _ => List α) m (fun a _ ih => a :: ih) l
theorem lapp_eq {α : Type} : ∀ (l m : List α), lapp l m = l ++ m
  | [], _ => rfl
  | a :: l, m => congrArg (a :: ·) (lapp_eq l m)
noncomputable def lall {α : Type} (f : α → Bool) (l : List α) : Bool := @List.rec α (fun _ => Bool) true (fun a _ ih => @Bool.rec (fun _ => Bool) false ih (f a)) l
theorem lall_eq {α : Type} (f : α → Bool) : ∀ (l : List α), lall f l = l.all f
  | [] => rfl
  | a :: l => by
    show @Bool.rec (fun _ => Bool) false (lall f l) (f a) = _
    rw [List.all_cons, ← lall_eq f l]
    cases f a <;> rfl

/-! ### Integers -/
def kM : IntKind → Nat
  | .i8 | .u8 => nat_lit 256
  | .i16 | .u16 => nat_lit 65536
  | .i32 | .u32 => nat_lit 4294967296
  | .i64 | .u64 => nat_lit 18446744073709551616
def kH : IntKind → Nat
  | .i8 => nat_lit 128
  | .i16 => nat_lit 32768
  | .i32 => nat_lit 2147483648
  | .i64 => nat_lit 9223372036854775808
  | .u8 => nat_lit 256
  | .u16 => nat_lit 65536
  | .u32 => nat_lit 4294967296
  | .u64 => nat_lit 18446744073709551616
def modN (M : Nat) : Int → Nat
  | .ofNat m => Nat.mod m M
  | .negSucc m => Nat.sub (Nat.sub M (nat_lit 1)) (Nat.mod m M)
def wrapN (M H r : Nat) : Int := bif Nat.blt r H then .ofNat r else .negSucc (Nat.sub (Nat.sub M (nat_lit 1)) r)
def wrapQ (k : IntKind) (n : Int) : Int := wrapN (kM k) (kH k) (modN (kM k) n)
theorem modN_eq (M : Nat) (hM : 0 < M) : ∀ n : Int, (modN M n : Int) = n % (M : Int)
  | .ofNat m => rfl
  | .negSucc m => by
    have h1 : m % M < M := Nat.mod_lt _ hM
    have h2 : (Int.negSucc m) = -((m : Int) + 1) := by omega
    have e : (modN M (Int.negSucc m) : Int) = (M : Int) - 1 - ((m % M : Nat) : Int) := by
      show ((M - 1 - m % M : Nat) : Int) = _
      omega
    rw [e, h2]
    have h3 : (m : Int) = (M : Int) * ((m / M : Nat) : Int) + ((m % M : Nat) : Int) := by
      have := Nat.div_add_mod m M
      omega
    have h4 : -((m : Int) + 1) = ((M : Int) - 1 - ((m % M : Nat) : Int)) + (M : Int) * (-((m / M : Nat) : Int) - 1) := by
      rw [Int.mul_sub, Int.mul_neg]; omega
    rw [h4, Int.add_mul_emod_self_left, Int.emod_eq_of_lt (by omega) (by omega)]
theorem kM_eq (k : IntKind) : (2 ^ k.bits : Int) = (kM k : Int) := by cases k <;> rfl
theorem kM_eqN (k : IntKind) : 2 ^ k.bits = kM k := by cases k <;> rfl
theorem blt_iff (a b : Nat) : Nat.blt a b = decide (a < b) := by
  rw [Bool.eq_iff_iff]; simp [Nat.blt_eq]
theorem wrapQ_eq (k : IntKind) (n : Int) : wrapQ k n = k.wrap n := by
  have h := modN_eq (kM k) (by cases k <;> decide) n
  have hlt : modN (kM k) n < kM k := by
    have := Int.emod_lt_of_pos n (show (0 : Int) < kM k by cases k <;> decide)
    omega
  simp only [wrapQ, wrapN, IntKind.wrap, kM_eq, ← h, blt_iff]
  generalize modN (kM k) n = r at *
  rcases Nat.lt_or_ge r (kH k) with hr | hr
  · rw [decide_eq_true hr]
    cases k <;> simp [kM, kH, IntKind.signed, IntKind.bits] at * <;> omega
  · rw [decide_eq_false (by omega)]
    cases k <;> simp [kM, kH, IntKind.signed, IntKind.bits] at * <;> omega
def ltQ : Int → Int → Bool
  | .ofNat a, .ofNat b => Nat.blt a b
  | .ofNat _, .negSucc _ => false
  | .negSucc _, .ofNat _ => true
  | .negSucc a, .negSucc b => Nat.blt b a
theorem ltQ_eq : ∀ a b : Int, ltQ a b = decide (a < b)
  | .ofNat a, .ofNat b => by rw [ltQ, blt_iff]; congr 1; simp
  | .ofNat a, .negSucc b => by simp only [ltQ]; symm; simp; omega
  | .negSucc a, .ofNat b => by simp only [ltQ]; symm; simp; omega
  | .negSucc a, .negSucc b => by rw [ltQ, blt_iff]; congr 1; simp; omega
def eqQ : Int → Int → Bool
  | .ofNat a, .ofNat b => Nat.beq a b
  | .negSucc a, .negSucc b => Nat.beq a b
  | _, _ => false
theorem eqQ_eq : ∀ a b : Int, eqQ a b = (a == b)
  | .ofNat a, .ofNat b => by rw [eqQ, Bool.eq_iff_iff]; simp; omega
  | .ofNat a, .negSucc b => by simp only [eqQ]; symm; simp
  | .negSucc a, .ofNat b => by simp only [eqQ]; symm; simp
  | .negSucc a, .negSucc b => by rw [eqQ, Bool.eq_iff_iff]; simp
def shrQ (n : Nat) : Int → Int
  | .ofNat m => .ofNat (m / 2 ^ n)
  | .negSucc m => .negSucc (m / 2 ^ n)
theorem shrQ_eq (n : Nat) : ∀ a : Int, shrQ n a = a.fdiv (2 ^ n)
  | .ofNat m => by
    have : (2 ^ n : Int) = ((2 ^ n : Nat) : Int) := by simp
    rw [this]
    simp only [shrQ]
    rw [Int.fdiv_eq_ediv_of_nonneg _ (Int.natCast_nonneg _)]
    rfl
  | .negSucc m => by
    have : (2 ^ n : Int) = ((2 ^ n : Nat) : Int) := by simp
    rw [this]
    have hp : 0 < 2 ^ n := Nat.pow_pos (by decide)
    rw [Int.fdiv_eq_ediv_of_nonneg _ (Int.natCast_nonneg _)]
    rw [Int.negSucc_ediv _ (by omega)]
    simp only [shrQ]
    rw [Int.negSucc_eq]
    congr 1
def shlQ (n : Nat) : Int → Int
  | .ofNat m => .ofNat (m * 2 ^ n)
  | .negSucc m => .negSucc ((m + 1) * 2 ^ n - 1)
theorem shlQ_eq (n : Nat) : ∀ a : Int, shlQ n a = a * 2 ^ n
  | .ofNat m => by simp [shlQ]
  | .negSucc m => by
    have hp : 0 < (m + 1) * 2 ^ n := Nat.mul_pos (by omega) (Nat.pow_pos (by decide))
    have : (2 ^ n : Int) = ((2 ^ n : Nat) : Int) := by simp
    have e : ((m : Int) + 1) * ((2 ^ n : Nat) : Int) = (((m + 1) * 2 ^ n : Nat) : Int) := by rw [Int.natCast_mul]; rfl
    have e2 : Int.negSucc m * ((2 ^ n : Nat) : Int) = -((((m + 1) * 2 ^ n : Nat)) : Int) := by rw [Int.negSucc_eq, Int.neg_mul, e]
    rw [this, e2]
    simp only [shlQ]
    omega
def kEq (a b : IntKind) : Bool := Nat.beq a.ctorIdx b.ctorIdx
theorem kEq_iff (a b : IntKind) : kEq a b = decide (a = b) := by cases a <;> cases b <;> rfl

end Go.Eng
