/-
  A record comes back from its bytes, and from those alone. Plain; no program in sight.
-/
import Derived.Test.YtpdckafighfadaaWireLaw
namespace Go.Wire

/-- a number's bytes, read, whatever stands behind them -/
theorem numP_of_enc (n : Nat) (hn : n < 18446744073709551616) (r : List UInt8) : numP (enc n ++ r) = (n, false, r) := by
  have h8 := sz_8 (n := n) (by simpa using hn)
  by_cases h : n < 248
  · rw [enc, if_pos h, List.cons_append, List.nil_append, numP_small _ _ (by rw [show (UInt8.ofNat n).toNat = n by simp; omega]; exact h)]
    simp; omega
  · have h1 := sz_one (n := n) (by omega)
    have hc : (UInt8.ofNat (247 + sz n)).toNat = 247 + sz n := by simp; omega
    have he : enc n = UInt8.ofNat (247 + sz n) :: be (sz n) n := by rw [enc, if_neg h]
    have hl : (be (sz n) n ++ r).length = sz n + r.length := by rw [List.length_append, be_length]
    have ht : (be (sz n) n ++ r).take (sz n) = be (sz n) n := List.take_left' (be_length _ _)
    have hd : (be (sz n) n ++ r).drop (sz n) = r := List.drop_left' (be_length _ _)
    have hv : val (be (sz n) n) = n := by
      have h2 := be_snoc_val (be (sz n) n) (sz n) (be_length _ _)
      exact be_inj (sz n) _ _ h2.2 (sz_lt n) h2.1
    rw [he, List.cons_append, numP, readNum, if_neg (by rw [hc]; omega), if_neg (by rw [hc, hl]; omega), hc, show 247 + sz n - 247 = sz n by omega, ht, hd, hv, if_pos he]
/-- what was read well stays so, whatever is put behind -/
theorem numP_more (l z : List UInt8) (h : (numP l).2.1 = false) : numP (l ++ z) = ((numP l).1, false, (numP l).2.2 ++ z) := by
  have h1 := numP_enc l h
  have h2 := numP_of_enc (numP l).1 (numP_lt l) ((numP l).2.2 ++ z)
  rw [← List.append_assoc, ← h1] at h2
  exact h2

/-- a text that is read: the text, is it not well, what is left -/
def textP (l : List UInt8) : List UInt8 × Bool × List UInt8 :=
  if (numP l).2.2.length < (numP l).1 then ([], true, []) else ((numP l).2.2.take (numP l).1, (numP l).2.1, (numP l).2.2.drop (numP l).1)
theorem textP_of (t r : List UInt8) (ht : t.length < 18446744073709551616) : textP (enc t.length ++ t ++ r) = (t, false, r) := by
  rw [textP, List.append_assoc, numP_of_enc _ ht]
  dsimp only
  rw [if_neg (by rw [List.length_append]; omega), List.take_left' rfl, List.drop_left' rfl]
theorem textP_more (l z : List UInt8) (h : (textP l).2.1 = false) : textP (l ++ z) = ((textP l).1, false, (textP l).2.2 ++ z) := by
  unfold textP at h ⊢
  by_cases hl : (numP l).2.2.length < (numP l).1
  · rw [if_pos hl] at h; cases h
  · rw [if_neg hl] at h ⊢
    dsimp only at h ⊢
    rw [numP_more l z h]
    dsimp only
    rw [if_neg (by rw [List.length_append]; omega), List.take_append_of_le_length (by omega), List.drop_append_of_le_length (by omega)]
theorem textP_len (l : List UInt8) : (textP l).1.length ≤ l.length := by
  have := numP_left l
  unfold textP
  split
  · exact Nat.zero_le _
  · dsimp only; rw [List.length_take]; omega
theorem textP_left (l : List UInt8) : (textP l).2.2.length ≤ l.length := by
  have := numP_left l
  unfold textP
  split
  · exact Nat.zero_le _
  · dsimp only; rw [List.length_drop]; omega

/-- a record's parts, read: key, value, create, version, is it not well, what is left -/
def recP (tomb : Bool) (l : List UInt8) : (List UInt8 × List UInt8 × Nat × Nat) × Bool × List UInt8 :=
  if tomb then (((textP l).1, [], 0, 0), (textP l).2.1, (textP l).2.2)
  else
    let a := textP l
    let b := textP a.2.2
    let c := numP b.2.2
    let d := numP c.2.2
    ((a.1, b.1, c.1, d.1), (a.2.1 || b.2.1 || c.2.1 || d.2.1), d.2.2)
theorem recP_more (tomb : Bool) (l z : List UInt8) (h : (recP tomb l).2.1 = false) : recP tomb (l ++ z) = ((recP tomb l).1, false, (recP tomb l).2.2 ++ z) := by
  cases tomb
  · simp only [recP, Bool.false_eq_true, if_false, Bool.or_eq_false_iff] at h ⊢
    obtain ⟨⟨⟨h1, h2⟩, h3⟩, h4⟩ := h
    rw [textP_more l z h1]
    dsimp only
    rw [textP_more _ z h2]
    dsimp only
    rw [numP_more _ z h3]
    dsimp only
    rw [numP_more _ z h4]
    simp
  · simp only [recP, if_true] at h ⊢
    rw [textP_more l z h]
theorem recP_put (k v : List UInt8) (c w : Nat) (hk : k.length < 18446744073709551616) (hv : v.length < 18446744073709551616) (hc : c < 18446744073709551616) (hw : w < 18446744073709551616) (r : List UInt8) :
    recP false (enc k.length ++ k ++ (enc v.length ++ v ++ (enc c ++ (enc w ++ r)))) = ((k, v, c, w), false, r) := by
  simp only [recP, Bool.false_eq_true, if_false]
  rw [textP_of k _ hk]
  dsimp only
  rw [textP_of v _ hv]
  dsimp only
  rw [numP_of_enc c hc]
  dsimp only
  rw [numP_of_enc w hw]
  rfl
theorem recP_tomb (k : List UInt8) (hk : k.length < 18446744073709551616) (r : List UInt8) : recP true (enc k.length ++ k ++ r) = ((k, [], 0, 0), false, r) := by
  simp only [recP, if_true]
  rw [textP_of k _ hk]
end Go.Wire
