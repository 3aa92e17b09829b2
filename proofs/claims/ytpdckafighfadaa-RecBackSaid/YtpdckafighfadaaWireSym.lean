/-
  What puts numbers and texts behind bytes, as contracts. Conditions: numbers of 64 bits, texts of some hundred thousand bytes.
-/
import Derived.Test.YtpdckafighfadaaWireRef
import Derived.Test.YtpdckafighfadaaSymT
namespace Go.Proofs.Ytpdckafighfadaa
open Go.Sym
set_option maxRecDepth 100000

/-- a number's bytes; a text's -/
noncomputable def numT : Int → ByteArray := hide fun n => encB n.toNat
noncomputable def txtT : ByteArray → ByteArray := hide fun t => txtB t
theorem numT_eq (n : Int) : numT n = encB n.toNat := by rw [numT, hide_eq]
theorem txtT_eq (t : ByteArray) : txtT t = encB t.size ++ t := by rw [txtT, hide_eq]; rfl
theorem numT_nat (n : Nat) : numT n = encB n := by rw [numT_eq, Int.toNat_natCast]
theorem numT_size (n : Int) (h : n < 18446744073709551616) : (numT n).size ≤ 9 := by
  rw [numT_eq]
  exact (encB_le _ (by omega)).2
theorem txtT_size (t : ByteArray) (h : t.size < 18446744073709551616) : (txtT t).size ≤ t.size + 9 := by
  rw [txtT, hide_eq]
  exact txtB_size t h
theorem putNum_at (s : ByteArray) (n : Int) (h0 : 0 ≤ n) (hn : n < 18446744073709551616) (hs : s.size ≤ 100000) : PureAt Try.prog 22 [.str s, .int .u64 n] (.str (s ++ numT n)) := by
  obtain ⟨q, rfl⟩ := Int.eq_ofNat_of_zero_le h0
  refine pure_of_calls (A := #[.string s, .int .u64 q]) (X := .string (s ++ encB q)) (fun φ Y h => ?_) (fun φ => by rw [numT_nat]; rfl) fun w => putnum_walk s q w (by omega) hs
  obtain ⟨_, _, rfl, rfl, _, _, rfl, rfl, rfl⟩ := h
  rfl
theorem refPutNum_at (s : ByteArray) (n : Int) (h0 : 0 ≤ n) (hn : n < 18446744073709551616) (hs : s.size ≤ 100000) : PureAt Try.prog 25 [.str s, .int .u64 n] (.str (s ++ numT n)) := by
  obtain ⟨q, rfl⟩ := Int.eq_ofNat_of_zero_le h0
  refine pure_of_calls (A := #[.string s, .int .u64 q]) (X := .string (s ++ encB q)) (fun φ Y h => ?_) (fun φ => by rw [numT_nat]; rfl) fun w => refput_walk s q w (by omega) hs
  obtain ⟨_, _, rfl, rfl, _, _, rfl, rfl, rfl⟩ := h
  rfl
theorem putText_at (s t : ByteArray) (hs : s.size ≤ 100000) (ht : t.size ≤ 100000) : PureAt Try.prog 21 [.str s, .str t] (.str (s ++ txtT t)) := by
  refine pure_of_calls (A := #[.string s, .string t]) (X := .string (s ++ txtB t)) (fun φ Y h => ?_) (fun φ => by rw [txtT, hide_eq]; rfl) fun w => puttext_walk s t w hs ht
  obtain ⟨_, _, rfl, rfl, _, _, rfl, rfl, rfl⟩ := h
  rfl
theorem refPutText_at (s t : ByteArray) (hs : s.size ≤ 100000) (ht : t.size ≤ 100000) : PureAt Try.prog 24 [.str s, .str t] (.str (s ++ txtT t)) := by
  refine pure_of_calls (A := #[.string s, .string t]) (X := .string (s ++ txtB t)) (fun φ Y h => ?_) (fun φ => by rw [txtT, hide_eq]; rfl) fun w => reftext_walk s t w hs ht
  obtain ⟨_, _, rfl, rfl, _, _, rfl, rfl, rfl⟩ := h
  rfl
noncomputable def putNumF (args : List V) : Option (List Bool × V) := match args with
  | [.str s, .int .u64 n] => some ([decide (0 ≤ n), decide (n < 18446744073709551616), decide (s.size ≤ 100000)], .str (s ++ numT n))
  | _ => none
theorem putNumF_ok (args : List V) (c : List Bool) (v : V) (h : putNumF args = some (c, v)) (hc : allB c) : PureAt Try.prog 22 args v := by
  unfold putNumF at h
  split at h
  · cases h; exact putNum_at _ _ (of_decide_eq_true hc.1) (of_decide_eq_true hc.2.1) (of_decide_eq_true hc.2.2.1)
  · cases h
theorem refPutNumF_ok (args : List V) (c : List Bool) (v : V) (h : putNumF args = some (c, v)) (hc : allB c) : PureAt Try.prog 25 args v := by
  unfold putNumF at h
  split at h
  · cases h; exact refPutNum_at _ _ (of_decide_eq_true hc.1) (of_decide_eq_true hc.2.1) (of_decide_eq_true hc.2.2.1)
  · cases h
noncomputable def putTextF (args : List V) : Option (List Bool × V) := match args with
  | [.str s, .str t] => some ([decide (s.size ≤ 100000), decide (t.size ≤ 100000)], .str (s ++ txtT t))
  | _ => none
theorem putTextF_ok (args : List V) (c : List Bool) (v : V) (h : putTextF args = some (c, v)) (hc : allB c) : PureAt Try.prog 21 args v := by
  unfold putTextF at h
  split at h
  · cases h; exact putText_at _ _ (of_decide_eq_true hc.1) (of_decide_eq_true hc.2.1)
  · cases h
theorem refPutTextF_ok (args : List V) (c : List Bool) (v : V) (h : putTextF args = some (c, v)) (hc : allB c) : PureAt Try.prog 24 args v := by
  unfold putTextF at h
  split at h
  · cases h; exact refPutText_at _ _ (of_decide_eq_true hc.1) (of_decide_eq_true hc.2.1)
  · cases h
noncomputable def tabPut : Tab := oneTab 22 putNumF (oneTab 21 putTextF (oneTab 25 putNumF (oneTab 24 putTextF noTab)))
theorem tabPut_ok : TabOK Try.prog tabPut := oneTab_ok putNumF_ok (oneTab_ok putTextF_ok (oneTab_ok refPutNumF_ok (oneTab_ok refPutTextF_ok noTab_ok)))
end Go.Proofs.Ytpdckafighfadaa
