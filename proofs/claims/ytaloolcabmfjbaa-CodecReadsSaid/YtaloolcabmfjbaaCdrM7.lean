/-
  Texts of this claim, one behind the other: CdRd CdRr CdSm. Each says its own conditions.
-/
import Derived.Test.YtaloolcabmfjbaaProg
import Derived.Test.YtaloolcabmfjbaaCdrM5
import Derived.Test.YtaloolcabmfjbaaCdrM6
import Derived.KernelRfl

set_option linter.unusedVariables false
set_option linter.unusedSimpArgs false
set_option linter.unusedSectionVars false
noncomputable section
namespace Go.Proofs.Ytaloolcabmfjbaa
open Go.Sym
set_option maxRecDepth 100000
set_option maxHeartbeats 4000000
abbrev rdO (s : ByteArray) (bad : Bool) (t : TypeId) : List EObj := [.cells [.str s, .bool bad] t false]
abbrev rdR (s : ByteArray) (bad : Bool) : List (Nat × EObj) := [(0, .cells [.str s, .bool bad] 0 false)]
section
variable (s : ByteArray) (bad : Bool) (t : TypeId)
theorem num_nil (h : s = ⟨#[]⟩) : HeapAt Try.prog 1 56 [.ptr 0 0] (rdO s bad t) (.int .u64 (numV s)) (rdR (numR s) (bad || numB s)) 1 := by
 subst h
 obtain ⟨e1, e2, e3⟩ := rd_nil
 refine heap_of_W noTab_ok (fuel := 4) (d := 6) (N := 1) rfl rfl [] (fun _ _ h => by cases h) ?_
 repeat' ((conv => whnf); first | (with_reducible first | (refine W1.o ?_; constructor) | rfl | exact castL_self _ _) | ((with_reducible refine V.same_t ?_); exact rfl) | ((with_reducible refine andB_room ?_ ?_ ?_); (· kernel_rfl); (· (first | omega | (simp only [lens] <;> omega)))) | ((with_reducible refine W2.o ?_; constructor); · (first | with_reducible assumption | omega | (simp only [lens] <;> omega))) | ((with_reducible refine W3.o ?_; constructor); · (first | with_reducible assumption | omega | (simp only [lens] <;> omega))) | ((with_reducible refine W4.o ?_; constructor); · (first | (with_reducible first | assumption | exact decide_eq_true rfl | exact sEq_self _) | ((with_reducible refine eqOK_i ?_); kernel_rfl))) | ((with_reducible refine iteB_f ?_ ?_); · (first | (with_reducible first | assumption | exact decide_eq_true rfl | exact sEq_self _) | ((with_reducible refine eqOK_i ?_); kernel_rfl))) | (with_reducible refine CD.wk_au ?_) | (with_reducible refine W5.o ?_; constructor) | ((with_reducible refine W6.o ?_; constructor) <;> intro hB))
 all_goals ((conv => whnf); (try dsimp only); (try simp only [Nat.succ_eq_add_one, Nat.le_eq, castL_self]); (try omega))
 all_goals (try (first | omega | (simp only [lens] <;> omega)))
 all_goals first
  | exact rfl
  | exact e1.symm
  | exact e3.symm
  | (rw [e1]; exact Int.emod_eq_of_lt hb.1 (by omega))
  | (rw [e2]; exact rfl)
  | (rw [e2, Bool.or_true]; done)
  | (rw [e2, Bool.or_false]; done)
theorem num_one (hp : 0 < s.size) (h0 : sEq s ⟨#[]⟩ = false) (hc : bAt s 0 < 248) : HeapAt Try.prog 1 56 [.ptr 0 0] (rdO s bad t) (.int .u64 (numV s)) (rdR (numR s) (bad || numB s)) 1 := by
 obtain ⟨e1, e2, e3⟩ := rd_small s hp hc
 have hb := bAt_in s 0
 have hc' : bAt s (Int.toNat 0) < 248 := hc
 refine heap_of_W noTab_ok (fuel := 4) (d := 6) (N := 1) rfl rfl [] (fun _ _ h => by cases h) ?_
 repeat' ((conv => whnf); first | (with_reducible first | (refine W1.o ?_; constructor) | rfl | exact castL_self _ _) | ((with_reducible refine V.same_t ?_); exact rfl) | ((with_reducible refine andB_room ?_ ?_ ?_); (· kernel_rfl); (· (first | omega | (simp only [lens] <;> omega)))) | ((with_reducible refine W2.o ?_; constructor); · (first | with_reducible assumption | omega | (simp only [lens] <;> omega))) | ((with_reducible refine W3.o ?_; constructor); · (first | with_reducible assumption | omega | (simp only [lens] <;> omega))) | ((with_reducible refine W4.o ?_; constructor); · (first | (with_reducible first | assumption | exact decide_eq_true rfl | exact sEq_self _) | ((with_reducible refine eqOK_i ?_); kernel_rfl) | (first | (exact h0)))) | ((with_reducible refine iteB_f ?_ ?_); · (first | (with_reducible first | assumption | exact decide_eq_true rfl | exact sEq_self _) | ((with_reducible refine eqOK_i ?_); kernel_rfl) | (first | (exact h0)))) | (with_reducible refine CD.wk_au ?_) | (with_reducible refine W5.o ?_; constructor) | ((with_reducible refine W6.o ?_; constructor) <;> intro hB))
 all_goals ((conv => whnf); (try dsimp only); (try simp only [Nat.succ_eq_add_one, Nat.le_eq, castL_self]); (try omega))
 all_goals (try (first | omega | (simp only [lens] <;> omega)))
 all_goals first
  | exact rfl
  | exact e1.symm
  | exact e3.symm
  | (rw [e1]; exact Int.emod_eq_of_lt hb.1 (by omega))
  | (rw [e2]; exact rfl)
  | (rw [e2, Bool.or_true]; done)
  | (rw [e2, Bool.or_false]; done)
theorem num_bad_at (k : Nat) (hp : 0 < s.size) (h0 : sEq s ⟨#[]⟩ = false) (hc : bAt s 0 = 247 + k) (hk0 : 0 < k) (he : numV s = 0 ∧ numB s = true ∧ numR s = ⟨#[]⟩) (hl : (cutS s (Int.toNat 1) (ByteArray.size s)).size < k ∨ k ≤ (cutS s (Int.toNat 1) (ByteArray.size s)).size ∧ bAt (cutS s (Int.toNat 1) (ByteArray.size s)) (Int.toNat 0) = 0) (hs : s.size ≤ 9223372036854775807) : HeapAt Try.prog 1 56 [.ptr 0 0] (rdO s bad t) (.int .u64 (numV s)) (rdR (numR s) (bad || numB s)) 1 := by
 obtain ⟨e1, e2, e3⟩ := he
 have hb := bAt_in s 0
 have hc' : bAt s (Int.toNat 0) = 247 + k := hc
 have hz : (cutS s (Int.toNat 1) (ByteArray.size s)).size = s.size - 1 := rst_size s
 refine heap_of_W noTab_ok (fuel := 4) (d := 6) (N := 1) rfl rfl [] (fun _ _ h => by cases h) ?_
 rcases hl with hl | ⟨hl, hz0⟩
 all_goals
  repeat' ((conv => whnf); first | (with_reducible first | (refine W1.o ?_; constructor) | rfl | exact castL_self _ _) | ((with_reducible refine V.same_t ?_); exact rfl) | ((with_reducible refine andB_room ?_ ?_ ?_); (· kernel_rfl); (· (first | omega | (simp only [lens] <;> omega)))) | ((with_reducible refine W2.o ?_; constructor); · (first | with_reducible assumption | omega | (simp only [lens] <;> omega))) | ((with_reducible refine W3.o ?_; constructor); · (first | with_reducible assumption | omega | (simp only [lens] <;> omega))) | ((with_reducible refine W4.o ?_; constructor); · (first | (with_reducible first | assumption | exact decide_eq_true rfl | exact sEq_self _) | ((with_reducible refine eqOK_i ?_); kernel_rfl) | (first | (exact h0)))) | ((with_reducible refine iteB_f ?_ ?_); · (first | (with_reducible first | assumption | exact decide_eq_true rfl | exact sEq_self _) | ((with_reducible refine eqOK_i ?_); kernel_rfl) | (first | (exact h0)))) | (with_reducible refine CD.wk_au ?_) | (with_reducible refine W5.o ?_; constructor) | ((with_reducible refine W6.o ?_; constructor) <;> intro hB))
  all_goals ((conv => whnf); (try dsimp only); (try simp only [Nat.succ_eq_add_one, Nat.le_eq, castL_self]); (try omega))
  all_goals (try (first | omega | (simp only [lens] <;> omega)))
  all_goals first
   | exact rfl
   | exact e1.symm
   | exact e3.symm
   | (rw [e1]; exact Int.emod_eq_of_lt hb.1 (by omega))
   | (rw [e2]; exact rfl)
   | (rw [e2, Bool.or_true]; done)
   | (rw [e2, Bool.or_false]; done)
def nmC (k i : Nat) : CD := ⟨73, [(1, .ptr 1 0), (2, .int .u64 (numS (cutS s (Int.toNat 1) (ByteArray.size s)) i)), (3, .fn 90 [] [.ptr 1 0]), (5, .str (cutS s (Int.toNat 1) (ByteArray.size s))), (6, .int .i64 (k : Int)), (50, .int .i64 (k : Int)), (51, .int .i64 (i : Int))], [], [(0, .cells [.str s, .bool bad] 0 false), (1, .cells [.ptr 0 0] 0 false)], 2⟩
theorem num_long (k : Nat) (hp : 0 < s.size) (h0 : sEq s ⟨#[]⟩ = false) (hc : bAt s 0 = 247 + k) (hk0 : 0 < k) (hk8 : k ≤ 8) (hl : k ≤ (cutS s (Int.toNat 1) (ByteArray.size s)).size) (hz0 : ¬ bAt (cutS s (Int.toNat 1) (ByteArray.size s)) (Int.toNat 0) = 0) (hs : s.size ≤ 9223372036854775807) : HeapAt Try.prog 1 56 [.ptr 0 0] (rdO s bad t) (.int .u64 (numV s)) (rdR (numR s) (bad || numB s)) 1 := by
 have hb := bAt_in s 0
 have hc' : bAt s (Int.toNat 0) = 247 + k := hc
 have hz : (cutS s (Int.toNat 1) (ByteArray.size s)).size = s.size - 1 := rst_size s
 refine heap_of_W noTab_ok (fuel := 4) (d := 6) (N := 1) rfl rfl [⟨14, [(1, 1)], nmC s bad k 0, .leaf (.exit 0) (nmC s bad k k)⟩] ?_ ?_
 ·intro N y hy
  rw [List.mem_singleton.1 hy]
  refine LpD.ok_one (b := bodyAt Try.prog 56 14) rfl (loop_W noTab_ok (fuel := 3) (d := 4) (X := { i : Nat // i ≤ k }) (fun x => nmC s bad k x.1) (fun x => k - x.1)
    (fun _ => .leaf (.exit 0) (nmC s bad k k)) (fun _ => noLpW) (fun _ => noLp) (fun _ => noLp_ad) (fun _ => noLp_ok _) ?_ ⟨0, Nat.zero_le _⟩)
  rintro ⟨i, hi⟩
  dsimp only
  rcases Nat.lt_or_ge i k with hlt | hge
  case' inl =>
   have q := numS_succ (cutS s (Int.toNat 1) (ByteArray.size s)) i (by omega) (by omega)
   have ei : Int.toNat (i : Int) = i := Int.toNat_natCast i
  case' inr =>
   have he : i = k := Nat.le_antisymm hi hge
   subst he
  all_goals
   repeat' ((conv => whnf); first | (with_reducible first | (refine W1.o ?_; constructor) | rfl | exact castL_self _ _) | ((with_reducible refine V.same_t ?_); exact rfl) | ((with_reducible refine andB_room ?_ ?_ ?_); (· kernel_rfl); (· (first | omega | (simp only [lens] <;> omega)))) | ((with_reducible refine W2.o ?_; constructor); · (first | with_reducible assumption | omega | (simp only [lens] <;> omega))) | ((with_reducible refine W3.o ?_; constructor); · (first | with_reducible assumption | omega | (simp only [lens] <;> omega))) | ((with_reducible refine W4.o ?_; constructor); · (first | (with_reducible first | assumption | exact decide_eq_true rfl | exact sEq_self _) | ((with_reducible refine eqOK_i ?_); kernel_rfl))) | ((with_reducible refine iteB_f ?_ ?_); · (first | (with_reducible first | assumption | exact decide_eq_true rfl | exact sEq_self _) | ((with_reducible refine eqOK_i ?_); kernel_rfl))) | (refine ⟨⟨i + 1, hlt⟩, ?_, rfl, ?_⟩) | (with_reducible refine CD.wk_au ?_) | (with_reducible refine W5.o ?_; constructor) | ((with_reducible refine W6.o ?_; constructor) <;> intro hB))
   all_goals ((conv => whnf); (try dsimp only); (try simp only [Nat.succ_eq_add_one, Nat.le_eq, castL_self]); (try omega))
   all_goals (try (first | omega | (simp only [lens] <;> omega)))
   all_goals first
    | exact rfl
    | (rw [ei]; exact q)
 ·have q0 := numS_0 (cutS s (Int.toNat 1) (ByteArray.size s))
  by_cases hv : numS (cutS s (Int.toNat 1) (ByteArray.size s)) k < 248
  ·obtain ⟨e1, e2, e3⟩ := rd_low s k hp hc hk0 hl hv
   repeat' ((conv => whnf); first | (with_reducible first | (refine W1.o ?_; constructor) | rfl | exact castL_self _ _) | ((with_reducible refine V.same_t ?_); exact rfl) | ((with_reducible refine andB_room ?_ ?_ ?_); (· kernel_rfl); (· (first | omega | (simp only [lens] <;> omega)))) | ((with_reducible refine W2.o ?_; constructor); · (first | with_reducible assumption | omega | (simp only [lens] <;> omega))) | ((with_reducible refine W3.o ?_; constructor); · (first | with_reducible assumption | omega | (simp only [lens] <;> omega))) | ((with_reducible refine W4.o ?_; constructor); · (first | (with_reducible first | assumption | exact decide_eq_true rfl | exact sEq_self _) | ((with_reducible refine eqOK_i ?_); kernel_rfl) | (first | (exact h0)))) | ((with_reducible refine iteB_f ?_ ?_); · (first | (with_reducible first | assumption | exact decide_eq_true rfl | exact sEq_self _) | ((with_reducible refine eqOK_i ?_); kernel_rfl) | (first | (exact h0)))) | (with_reducible refine CD.wk_au ?_) | (with_reducible refine W5.o ?_; constructor) | ((with_reducible refine W6.o ?_; constructor) <;> intro hB))
   all_goals ((conv => whnf); (try dsimp only); (try simp only [Nat.succ_eq_add_one, Nat.le_eq, castL_self]); (try omega))
   all_goals (try (first | omega | (simp only [lens] <;> omega)))
   all_goals first
    | exact rfl
    | omega
    | exact q0.symm
    | exact e1.symm
    | exact e3.symm
    | (rw [e2]; exact rfl)
    | (rw [e2, Bool.or_true]; done)
  ·obtain ⟨e1, e2, e3⟩ := rd_good s k hp hc hk0 hl hz0 (by have hv : ¬ numS (rst s) k < 248 := hv; omega)
   repeat' ((conv => whnf); first | (with_reducible first | (refine W1.o ?_; constructor) | rfl | exact castL_self _ _) | ((with_reducible refine V.same_t ?_); exact rfl) | ((with_reducible refine andB_room ?_ ?_ ?_); (· kernel_rfl); (· (first | omega | (simp only [lens] <;> omega)))) | ((with_reducible refine W2.o ?_; constructor); · (first | with_reducible assumption | omega | (simp only [lens] <;> omega))) | ((with_reducible refine W3.o ?_; constructor); · (first | with_reducible assumption | omega | (simp only [lens] <;> omega))) | ((with_reducible refine W4.o ?_; constructor); · (first | (with_reducible first | assumption | exact decide_eq_true rfl | exact sEq_self _) | ((with_reducible refine eqOK_i ?_); kernel_rfl) | (first | (exact h0)))) | ((with_reducible refine iteB_f ?_ ?_); · (first | (with_reducible first | assumption | exact decide_eq_true rfl | exact sEq_self _) | ((with_reducible refine eqOK_i ?_); kernel_rfl) | (first | (exact h0)))) | (with_reducible refine CD.wk_au ?_) | (with_reducible refine W5.o ?_; constructor) | ((with_reducible refine W6.o ?_; constructor) <;> intro hB))
   all_goals ((conv => whnf); (try dsimp only); (try simp only [Nat.succ_eq_add_one, Nat.le_eq, castL_self]); (try omega))
   all_goals (try (first | omega | (simp only [lens] <;> omega)))
   all_goals first
    | exact rfl
    | omega
    | exact q0.symm
    | exact e1.symm
    | (rw [e3]; exact rfl)
    | (rw [e2]; exact rfl)
    | (rw [e2, Bool.or_false]; done)
theorem num_at (hs : s.size ≤ 9223372036854775807) : HeapAt Try.prog 1 56 [.ptr 0 0] (rdO s bad t) (.int .u64 (numV s)) (rdR (numR s) (bad || numB s)) 1 := by
 cases h0 : sEq s ⟨#[]⟩ with
 | true => exact num_nil s bad t (of_decide_eq_true h0)
 | false =>
  have hp : 0 < s.size := by
   rcases Nat.eq_zero_or_pos s.size with h | h
   ·exact absurd (ba_ext (b := ⟨#[]⟩) (show s.data.toList = [] from List.length_eq_zero_iff.1 (by rw [Array.length_toList]; exact h))) (of_decide_eq_false h0)
   ·exact h
  have hb := bAt_in s 0
  by_cases h1 : bAt s 0 < 248
  ·exact num_one s bad t hp h0 h1
  ·obtain ⟨k, hk⟩ : ∃ k : Nat, bAt s 0 = 247 + k := ⟨(bAt s 0 - 247).toNat, by omega⟩
   rcases Nat.lt_or_ge (rst s).size k with h2 | h2
   ·exact num_bad_at s bad t k hp h0 hk (by omega) (rd_short s k hp hk (by omega) h2) (.inl h2) hs
   ·by_cases h3 : bAt (rst s) 0 = 0
    ·exact num_bad_at s bad t k hp h0 hk (by omega) (rd_zero s k hp hk (by omega) (by omega) h3) (.inr ⟨h2, h3⟩) hs
    ·exact num_long s bad t k hp h0 hk (by omega) (by omega) h2 h3 hs
end
end Go.Proofs.Ytaloolcabmfjbaa
end

noncomputable section
namespace Go.Proofs.Ytaloolcabmfjbaa
open Go.Sym
set_option maxRecDepth 100000
set_option maxHeartbeats 4000000
section
variable (s : ByteArray) (bad : Bool) (t : TypeId)
theorem rnum_nil (h : s = ⟨#[]⟩) : HeapAt Try.prog 1 65 [.ptr 0 0] (rdO s bad t) (.int .u64 (numV s)) (rdR (numR s) (bad || numB s)) 1 := by
 subst h
 obtain ⟨e1, e2, e3⟩ := rd_nil
 refine heap_of_W tabPr_ok (fuel := 4) (d := 6) (N := 1) rfl rfl [] (fun _ _ h => by cases h) ?_
 repeat' ((conv => whnf); first | (with_reducible first | (refine W1.o ?_; constructor) | rfl | exact castL_self _ _) | ((with_reducible refine V.same_t ?_); exact rfl) | ((with_reducible refine andB_room ?_ ?_ ?_); (· kernel_rfl); (· (first | omega | (simp only [lens] <;> omega)))) | ((with_reducible refine W2.o ?_; constructor); · (first | with_reducible assumption | omega | (simp only [lens] <;> omega))) | ((with_reducible refine W3.o ?_; constructor); · (first | with_reducible assumption | omega | (simp only [lens] <;> omega))) | ((with_reducible refine W4.o ?_; constructor); · (first | (with_reducible first | assumption | exact decide_eq_true rfl | exact sEq_self _) | ((with_reducible refine eqOK_i ?_); kernel_rfl))) | ((with_reducible refine iteB_f ?_ ?_); · (first | (with_reducible first | assumption | exact decide_eq_true rfl | exact sEq_self _) | ((with_reducible refine eqOK_i ?_); kernel_rfl))) | (with_reducible refine CD.wk_au ?_) | (with_reducible refine W5.o ?_; constructor) | ((with_reducible refine W6.o ?_; constructor) <;> intro hB))
 all_goals ((conv => whnf); (try dsimp only); (try simp only [Nat.succ_eq_add_one, Nat.le_eq, castL_self]); (try omega))
 all_goals (try (first | omega | (simp only [lens] <;> omega)))
 all_goals first
  | exact rfl
  | exact e1.symm
  | exact e3.symm
  | (rw [e3]; exact rfl)
  | (rw [e1]; exact Int.emod_eq_of_lt hb.1 (by omega))
  | (rw [e2]; exact rfl)
  | (rw [e2, Bool.or_true]; done)
  | (rw [e2, Bool.or_false]; done)
theorem rnum_one (hp : 0 < s.size) (h0 : sEq s ⟨#[]⟩ = false) (hc : bAt s 0 < 248) (hs : s.size ≤ 9223372036854775807) : HeapAt Try.prog 1 65 [.ptr 0 0] (rdO s bad t) (.int .u64 (numV s)) (rdR (numR s) (bad || numB s)) 1 := by
 obtain ⟨e1, e2, e3⟩ := rd_small s hp hc
 have hb := bAt_in s 0
 have hc' : bAt s (Int.toNat 0) < 248 := hc
 have hb' : 0 ≤ bAt s (Int.toNat 0) := hb.1
 have hm : maxI (bAt s (Int.toNat 0) - 247) 0 = 0 := by rw [maxI_eq]; omega
 have ee : bAt s (Int.toNat 0) % 18446744073709551616 = bAt s 0 := Int.emod_eq_of_lt hb.1 (by omega)
 have he : sEq (⟨#[]⟩ ++ numT (bAt s (Int.toNat 0) % 18446744073709551616)) (cutS s 0 (Int.toNat (1 + maxI (bAt s (Int.toNat 0) - 247) 0))) = true := by
  rw [hm, nil_cat, ee, rr_small s hp hc]; exact sEq_self _
 refine heap_of_W tabPr_ok (fuel := 4) (d := 6) (N := 1) rfl rfl [] (fun _ _ h => by cases h) ?_
 repeat' ((conv => whnf); first | (with_reducible first | (refine W1.o ?_; constructor) | rfl | exact castL_self _ _) | ((with_reducible refine V.same_t ?_); exact rfl) | ((with_reducible refine andB_room ?_ ?_ ?_); (· kernel_rfl); (· (first | omega | (simp only [lens] <;> omega)))) | ((with_reducible refine W2.o ?_; constructor); · (first | with_reducible assumption | omega | (simp only [lens] <;> omega))) | ((with_reducible refine W3.o ?_; constructor); · (first | with_reducible assumption | omega | (simp only [lens] <;> omega))) | ((with_reducible refine W4.o ?_; constructor); · (first | (with_reducible first | assumption | exact decide_eq_true rfl | exact sEq_self _) | ((with_reducible refine eqOK_i ?_); kernel_rfl) | exact h0 | exact he)) | ((with_reducible refine iteB_f ?_ ?_); · (first | (with_reducible first | assumption | exact decide_eq_true rfl | exact sEq_self _) | ((with_reducible refine eqOK_i ?_); kernel_rfl) | exact h0 | exact he)) | (with_reducible refine CD.wk_au ?_) | (with_reducible refine W5.o ?_; constructor) | ((with_reducible refine W6.o ?_; constructor) <;> intro hB))
 all_goals ((conv => whnf); (try dsimp only); (try simp only [Nat.succ_eq_add_one, Nat.le_eq, castL_self]); (try omega))
 all_goals (try (first | omega | (simp only [lens] <;> omega)))
 all_goals first
  | (rw [hm]; exact e3.symm)
  | (rw [e1]; exact ee)
  | (rw [e2, Bool.or_false]; done)
theorem rnum_short (k : Nat) (hp : 0 < s.size) (h0 : sEq s ⟨#[]⟩ = false) (hc : bAt s 0 = 247 + k) (hk0 : 0 < k) (hl : s.size - 1 < k) (hs : s.size ≤ 9223372036854775807) : HeapAt Try.prog 1 65 [.ptr 0 0] (rdO s bad t) (.int .u64 (numV s)) (rdR (numR s) (bad || numB s)) 1 := by
 obtain ⟨e1, e2, e3⟩ := rd_short s k hp hc hk0 (by rw [rst_size]; exact hl)
 have hb := bAt_in s 0
 have hc' : bAt s (Int.toNat 0) = 247 + k := hc
 refine heap_of_W tabPr_ok (fuel := 4) (d := 6) (N := 1) rfl rfl [] (fun _ _ h => by cases h) ?_
 repeat' ((conv => whnf); first | (with_reducible first | (refine W1.o ?_; constructor) | rfl | exact castL_self _ _) | ((with_reducible refine V.same_t ?_); exact rfl) | ((with_reducible refine andB_room ?_ ?_ ?_); (· kernel_rfl); (· (first | omega | (simp only [lens] <;> omega)))) | ((with_reducible refine W2.o ?_; constructor); · (first | with_reducible assumption | omega | (simp only [lens] <;> omega))) | ((with_reducible refine W3.o ?_; constructor); · (first | with_reducible assumption | omega | (simp only [lens] <;> omega))) | ((with_reducible refine W4.o ?_; constructor); · (first | (with_reducible first | assumption | exact decide_eq_true rfl | exact sEq_self _) | ((with_reducible refine eqOK_i ?_); kernel_rfl) | (first | (exact h0)))) | ((with_reducible refine iteB_f ?_ ?_); · (first | (with_reducible first | assumption | exact decide_eq_true rfl | exact sEq_self _) | ((with_reducible refine eqOK_i ?_); kernel_rfl) | (first | (exact h0)))) | (with_reducible refine CD.wk_au ?_) | (with_reducible refine W5.o ?_; constructor) | ((with_reducible refine W6.o ?_; constructor) <;> intro hB))
 all_goals ((conv => whnf); (try dsimp only); (try simp only [Nat.succ_eq_add_one, Nat.le_eq, castL_self]); (try omega))
 all_goals (try (first | omega | (simp only [lens] <;> omega)))
 all_goals first
  | exact rfl
  | exact e1.symm
  | exact e3.symm
  | (rw [e3]; exact rfl)
  | (rw [e1]; exact Int.emod_eq_of_lt hb.1 (by omega))
  | (rw [e2]; exact rfl)
  | (rw [e2, Bool.or_true]; done)
  | (rw [e2, Bool.or_false]; done)
def rnC (k j : Nat) : CD := ⟨77, [(0, .ptr 0 0), (3, .int .i64 (k : Int)), (4, .int .u64 (numS (rst s) j)), (5, .int .i64 ((j : Int) + 1))], [], [(0, .cells [.str s, .bool bad] 0 false)], 1⟩
theorem rnum_long (k : Nat) (hp : 0 < s.size) (h0 : sEq s ⟨#[]⟩ = false) (hc : bAt s 0 = 247 + k) (hk0 : 0 < k) (hk8 : k ≤ 8) (hl : k ≤ s.size - 1) (hs : s.size ≤ 9223372036854775807) : HeapAt Try.prog 1 65 [.ptr 0 0] (rdO s bad t) (.int .u64 (numV s)) (rdR (numR s) (bad || numB s)) 1 := by
 have hb := bAt_in s 0
 have hc' : bAt s (Int.toNat 0) = 247 + k := hc
 have hz : (rst s).size = s.size - 1 := rst_size s
 have hn := numS_lt (rst s) k hk8
 have hm : maxI (bAt s (Int.toNat 0) - 247) 0 = k := by rw [maxI_eq]; omega
 have ek : Int.toNat (1 + (k : Int)) = 1 + k := by omega
 refine heap_of_W tabPr_ok (fuel := 4) (d := 6) (N := 1) rfl rfl [⟨12, [], rnC s bad k 0, .leaf (.exit 0) (rnC s bad k k)⟩] ?_ ?_
 ·intro N y hy
  rw [List.mem_singleton.1 hy]
  refine LpD.ok_one (b := bodyAt Try.prog 65 12) rfl (loop_W noTab_ok (fuel := 3) (d := 4) (X := { i : Nat // i ≤ k }) (fun x => rnC s bad k x.1) (fun x => k - x.1)
    (fun _ => .leaf (.exit 0) (rnC s bad k k)) (fun _ => noLpW) (fun _ => noLp) (fun _ => noLp_ad) (fun _ => noLp_ok _) ?_ ⟨0, Nat.zero_le _⟩)
  rintro ⟨i, hi⟩
  dsimp only
  rcases Nat.lt_or_ge i k with hlt | hge
  case' inl =>
   have q := rS_succ s i (by omega) (by omega)
   have ei : Int.toNat ((i : Int) + 1) = i + 1 := by omega
  case' inr =>
   have he : i = k := Nat.le_antisymm hi hge
   subst he
  all_goals
   repeat' ((conv => whnf); first | (with_reducible first | (refine W1.o ?_; constructor) | rfl | exact castL_self _ _) | ((with_reducible refine V.same_t ?_); exact rfl) | ((with_reducible refine andB_room ?_ ?_ ?_); (· kernel_rfl); (· (first | omega | (simp only [lens] <;> omega)))) | ((with_reducible refine W2.o ?_; constructor); · (first | with_reducible assumption | omega | (simp only [lens] <;> omega))) | ((with_reducible refine W3.o ?_; constructor); · (first | with_reducible assumption | omega | (simp only [lens] <;> omega))) | ((with_reducible refine W4.o ?_; constructor); · (first | (with_reducible first | assumption | exact decide_eq_true rfl | exact sEq_self _) | ((with_reducible refine eqOK_i ?_); kernel_rfl))) | ((with_reducible refine iteB_f ?_ ?_); · (first | (with_reducible first | assumption | exact decide_eq_true rfl | exact sEq_self _) | ((with_reducible refine eqOK_i ?_); kernel_rfl))) | (refine ⟨⟨i + 1, hlt⟩, ?_, rfl, ?_⟩) | (with_reducible refine CD.wk_au ?_) | (with_reducible refine W5.o ?_; constructor) | ((with_reducible refine W6.o ?_; constructor) <;> intro hB))
   all_goals ((conv => whnf); (try dsimp only); (try simp only [Nat.succ_eq_add_one, Nat.le_eq, castL_self]); (try omega))
   all_goals (try (first | omega | (simp only [lens] <;> omega)))
   all_goals first
    | exact rfl
    | (rw [ei]; exact q)
 ·have q0 := numS_0 (rst s)
  by_cases hv : numT (numS (rst s) k) = cutS s 0 (1 + k)
  ·obtain ⟨e1, e2, e3⟩ := rr_yes s k hp hc hk0 hk8 (by omega) hv
   have he : sEq (⟨#[]⟩ ++ numT (numS (rst s) k)) (cutS s 0 (Int.toNat (1 + (k : Int)))) = true := by rw [nil_cat, ek, hv]; exact sEq_self _
   repeat' ((conv => whnf); first | (with_reducible first | (refine W1.o ?_; constructor) | rfl | exact castL_self _ _) | ((with_reducible refine V.same_t ?_); exact rfl) | ((with_reducible refine andB_room ?_ ?_ ?_); (· kernel_rfl); (· (first | omega | (simp only [lens] <;> omega)))) | ((with_reducible refine W2.o ?_; constructor); · (first | with_reducible assumption | omega | (simp only [lens] <;> omega))) | ((with_reducible refine W3.o ?_; constructor); · (first | with_reducible assumption | omega | (simp only [lens] <;> omega))) | ((with_reducible refine W4.o ?_; constructor); · (first | (with_reducible first | assumption | exact decide_eq_true rfl | exact sEq_self _) | ((with_reducible refine eqOK_i ?_); kernel_rfl) | exact h0 | exact he)) | ((with_reducible refine iteB_f ?_ ?_); · (first | (with_reducible first | assumption | exact decide_eq_true rfl | exact sEq_self _) | ((with_reducible refine eqOK_i ?_); kernel_rfl) | exact h0 | exact he)) | (with_reducible refine CD.wk_au ?_) | (with_reducible refine W5.o ?_; constructor) | ((with_reducible refine W6.o ?_; constructor) <;> intro hB))
   all_goals ((conv => whnf); (try dsimp only); (try simp only [Nat.succ_eq_add_one, Nat.le_eq, castL_self]); (try omega))
   all_goals (try (first | omega | (simp only [lens] <;> omega)))
   all_goals first
    | exact rfl
    | exact hm
    | exact q0.symm
    | exact e1.symm
    | (rw [ek]; exact e3.symm)
    | (rw [e2, Bool.or_false]; done)
  ·obtain ⟨e1, e2, e3⟩ := rr_no s k hp hc hk0 hk8 (by omega) hv
   have he : sEq (⟨#[]⟩ ++ numT (numS (rst s) k)) (cutS s 0 (Int.toNat (1 + (k : Int)))) = false := by rw [nil_cat, ek]; exact decide_eq_false hv
   repeat' ((conv => whnf); first | (with_reducible first | (refine W1.o ?_; constructor) | rfl | exact castL_self _ _) | ((with_reducible refine V.same_t ?_); exact rfl) | ((with_reducible refine andB_room ?_ ?_ ?_); (· kernel_rfl); (· (first | omega | (simp only [lens] <;> omega)))) | ((with_reducible refine W2.o ?_; constructor); · (first | with_reducible assumption | omega | (simp only [lens] <;> omega))) | ((with_reducible refine W3.o ?_; constructor); · (first | with_reducible assumption | omega | (simp only [lens] <;> omega))) | ((with_reducible refine W4.o ?_; constructor); · (first | (with_reducible first | assumption | exact decide_eq_true rfl | exact sEq_self _) | ((with_reducible refine eqOK_i ?_); kernel_rfl) | exact h0 | exact he)) | ((with_reducible refine iteB_f ?_ ?_); · (first | (with_reducible first | assumption | exact decide_eq_true rfl | exact sEq_self _) | ((with_reducible refine eqOK_i ?_); kernel_rfl) | exact h0 | exact he)) | (with_reducible refine CD.wk_au ?_) | (with_reducible refine W5.o ?_; constructor) | ((with_reducible refine W6.o ?_; constructor) <;> intro hB))
   all_goals ((conv => whnf); (try dsimp only); (try simp only [Nat.succ_eq_add_one, Nat.le_eq, castL_self]); (try omega))
   all_goals (try (first | omega | (simp only [lens] <;> omega)))
   all_goals first
    | exact rfl
    | exact hm
    | exact q0.symm
    | exact e1.symm
    | exact e3.symm
    | (rw [e2, Bool.or_true]; done)
theorem rnum_at (hs : s.size ≤ 9223372036854775807) : HeapAt Try.prog 1 65 [.ptr 0 0] (rdO s bad t) (.int .u64 (numV s)) (rdR (numR s) (bad || numB s)) 1 := by
 cases h0 : sEq s ⟨#[]⟩ with
 | true => exact rnum_nil s bad t (of_decide_eq_true h0)
 | false =>
  have hp : 0 < s.size := by
   rcases Nat.eq_zero_or_pos s.size with h | h
   ·exact absurd (ba_ext (b := ⟨#[]⟩) (show s.data.toList = [] from List.length_eq_zero_iff.1 (by rw [Array.length_toList]; exact h))) (of_decide_eq_false h0)
   ·exact h
  have hb := bAt_in s 0
  by_cases h1 : bAt s 0 < 248
  ·exact rnum_one s bad t hp h0 h1 hs
  ·obtain ⟨k, hk⟩ : ∃ k : Nat, bAt s 0 = 247 + k := ⟨(bAt s 0 - 247).toNat, by omega⟩
   rcases Nat.lt_or_ge (s.size - 1) k with h2 | h2
   ·exact rnum_short s bad t k hp h0 hk (by omega) h2 hs
   ·exact rnum_long s bad t k hp h0 hk (by omega) (by omega) h2 hs
def numHF (args : List V) (os : List EObj) : Option HRes := match args, os with
 | [.ptr b o], [.cells [.str s, .bool bad] t i] => some ([Nat.beq b 0, Nat.beq o 0, !i, decide (s.size ≤ 9223372036854775807)], .int .u64 (numV s), rdR (numR s) (bad || numB s), 1)
 | _, _ => none
theorem numHF_is {P : Program} {g : FuncId} (hg : ∀ s bad t, s.size ≤ 9223372036854775807 → HeapAt P 1 g [.ptr 0 0] (rdO s bad t) (.int .u64 (numV s)) (rdR (numR s) (bad || numB s)) 1) (args : List V) (os : List EObj) (c : List Bool) (v : V) (h' : List (Nat × EObj)) (n' : Nat) (h : numHF args os = some (c, v, h', n')) (hc : allB c) : HeapAt P 1 g args os v h' n' := by
 unfold numHF at h
 split at h
 ·cases h
  obtain ⟨c1, c2, c3, c4, _⟩ := hc
  rw [Bool.not_eq_true'] at c3
  subst c3
  rw [Nat.eq_of_beq_eq_true c1, Nat.eq_of_beq_eq_true c2]
  exact hg _ _ _ (of_decide_eq_true c4)
 ·cases h
def htN : HTab := oneHT 56 1 false numHF noHT
theorem htN_ok : HTabOK Try.prog htN := oneHT_ok (numHF_is fun s bad t h => num_at s bad t h) noHT_ok
def htNr : HTab := oneHT 65 1 false numHF noHT
theorem htNr_ok : HTabOK Try.prog htNr := oneHT_ok (numHF_is fun s bad t h => rnum_at s bad t h) noHT_ok
theorem txt_at (hs : s.size ≤ 9223372036854775807) : HeapAt Try.prog 1 92 [.ptr 0 0] (rdO s bad t) (.str (txV s)) (rdR (txR s) (bad || txB s)) 1 := by
 refine heap_of_H htN_ok noTab_ok (fuel := 4) (d := 6) (N := 1) rfl rfl [] (fun _ _ h => by cases h) ?_
 have h1 := numV_in s
 have h2 := numR_size s
 have ez : (((numR s).size : Nat) : Int) % 18446744073709551616 = ((numR s).size : Int) := by omega
 have e0 := txW_eq s
 by_cases hw : ((numR s).size : Int) < numV s
 ·have e1 : txV s = ⟨#[]⟩ := by rw [txV_eq, e0, decide_eq_true hw]; rfl
  have e2 : txB s = true := by rw [txB_eq, e0, decide_eq_true hw]; rfl
  have e3 : txR s = ⟨#[]⟩ := by rw [txR_eq, e0, decide_eq_true hw]; rfl
  repeat' ((conv => whnf); first | (with_reducible first | (refine W1.o ?_; constructor) | rfl | exact castL_self _ _) | ((with_reducible refine V.same_t ?_); exact rfl) | ((with_reducible refine andB_room ?_ ?_ ?_); (· kernel_rfl); (· (first | omega | (simp only [lens] <;> omega)))) | ((with_reducible refine W2.o ?_; constructor); · (first | with_reducible assumption | omega | (simp only [lens] <;> omega))) | ((with_reducible refine W3.o ?_; constructor); · (first | with_reducible assumption | omega | (simp only [lens] <;> omega))) | ((with_reducible refine W4.o ?_; constructor); · (first | (with_reducible first | assumption | exact decide_eq_true rfl | exact sEq_self _) | ((with_reducible refine eqOK_i ?_); kernel_rfl))) | ((with_reducible refine iteB_f ?_ ?_); · (first | (with_reducible first | assumption | exact decide_eq_true rfl | exact sEq_self _) | ((with_reducible refine eqOK_i ?_); kernel_rfl))) | (with_reducible refine CD.wk_au ?_) | (with_reducible refine W5.o ?_; constructor) | ((with_reducible refine W6.o ?_; constructor) <;> intro hB))
  all_goals ((conv => whnf); (try dsimp only); (try simp only [Nat.succ_eq_add_one, Nat.le_eq, castL_self]); (try omega))
  all_goals (try (first | omega | (simp only [lens] <;> omega)))
  all_goals first
   | exact e1.symm
   | exact e3.symm
   | (rw [e2, Bool.or_true]; done)
 ·have e1 : txV s = cutS (numR s) 0 (Int.toNat (numV s)) := by rw [txV_eq, e0, decide_eq_false hw, cutS_eq]; rfl
  have e2 : txB s = numB s := by rw [txB_eq, e0, decide_eq_false hw]; rfl
  have e3 : txR s = cutS (numR s) (Int.toNat (numV s)) (numR s).size := by rw [txR_eq, e0, decide_eq_false hw, cutS_eq]; rfl
  repeat' ((conv => whnf); first | (with_reducible first | (refine W1.o ?_; constructor) | rfl | exact castL_self _ _) | ((with_reducible refine V.same_t ?_); exact rfl) | ((with_reducible refine andB_room ?_ ?_ ?_); (· kernel_rfl); (· (first | omega | (simp only [lens] <;> omega)))) | ((with_reducible refine W2.o ?_; constructor); · (first | with_reducible assumption | omega | (simp only [lens] <;> omega))) | ((with_reducible refine W3.o ?_; constructor); · (first | with_reducible assumption | omega | (simp only [lens] <;> omega))) | ((with_reducible refine W4.o ?_; constructor); · (first | (with_reducible first | assumption | exact decide_eq_true rfl | exact sEq_self _) | ((with_reducible refine eqOK_i ?_); kernel_rfl))) | ((with_reducible refine iteB_f ?_ ?_); · (first | (with_reducible first | assumption | exact decide_eq_true rfl | exact sEq_self _) | ((with_reducible refine eqOK_i ?_); kernel_rfl))) | (with_reducible refine CD.wk_au ?_) | (with_reducible refine W5.o ?_; constructor) | ((with_reducible refine W6.o ?_; constructor) <;> intro hB))
  all_goals ((conv => whnf); (try dsimp only); (try simp only [Nat.succ_eq_add_one, Nat.le_eq, castL_self]); (try omega))
  all_goals (try (first | omega | (simp only [lens] <;> omega)))
  all_goals first
   | exact e1.symm
   | exact e3.symm
   | (rw [e2]; done)
theorem rtxt_at (hs : s.size ≤ 9223372036854775807) : HeapAt Try.prog 1 67 [.ptr 0 0] (rdO s bad t) (.str (txV s)) (rdR (txR s) (bad || txB s)) 1 := by
 refine heap_of_H htNr_ok noTab_ok (fuel := 4) (d := 6) (N := 1) rfl rfl [] (fun _ _ h => by cases h) ?_
 have h1 := numV_in s
 have h2 := numR_size s
 have ez : (((numR s).size : Nat) : Int) % 18446744073709551616 = ((numR s).size : Int) := by omega
 have e0 := txW_eq s
 by_cases hw : ((numR s).size : Int) < numV s
 ·have e1 : txV s = ⟨#[]⟩ := by rw [txV_eq, e0, decide_eq_true hw]; rfl
  have e2 : txB s = true := by rw [txB_eq, e0, decide_eq_true hw]; rfl
  have e3 : txR s = ⟨#[]⟩ := by rw [txR_eq, e0, decide_eq_true hw]; rfl
  repeat' ((conv => whnf); first | (with_reducible first | (refine W1.o ?_; constructor) | rfl | exact castL_self _ _) | ((with_reducible refine V.same_t ?_); exact rfl) | ((with_reducible refine andB_room ?_ ?_ ?_); (· kernel_rfl); (· (first | omega | (simp only [lens] <;> omega)))) | ((with_reducible refine W2.o ?_; constructor); · (first | with_reducible assumption | omega | (simp only [lens] <;> omega))) | ((with_reducible refine W3.o ?_; constructor); · (first | with_reducible assumption | omega | (simp only [lens] <;> omega))) | ((with_reducible refine W4.o ?_; constructor); · (first | (with_reducible first | assumption | exact decide_eq_true rfl | exact sEq_self _) | ((with_reducible refine eqOK_i ?_); kernel_rfl))) | ((with_reducible refine iteB_f ?_ ?_); · (first | (with_reducible first | assumption | exact decide_eq_true rfl | exact sEq_self _) | ((with_reducible refine eqOK_i ?_); kernel_rfl))) | (with_reducible refine CD.wk_au ?_) | (with_reducible refine W5.o ?_; constructor) | ((with_reducible refine W6.o ?_; constructor) <;> intro hB))
  all_goals ((conv => whnf); (try dsimp only); (try simp only [Nat.succ_eq_add_one, Nat.le_eq, castL_self]); (try omega))
  all_goals (try (first | omega | (simp only [lens] <;> omega)))
  all_goals first
   | exact e1.symm
   | exact e3.symm
   | (rw [e2, Bool.or_true]; done)
 ·have e1 : txV s = cutS (numR s) 0 (Int.toNat (numV s)) := by rw [txV_eq, e0, decide_eq_false hw, cutS_eq]; rfl
  have e2 : txB s = numB s := by rw [txB_eq, e0, decide_eq_false hw]; rfl
  have e3 : txR s = cutS (numR s) (Int.toNat (numV s)) (numR s).size := by rw [txR_eq, e0, decide_eq_false hw, cutS_eq]; rfl
  repeat' ((conv => whnf); first | (with_reducible first | (refine W1.o ?_; constructor) | rfl | exact castL_self _ _) | ((with_reducible refine V.same_t ?_); exact rfl) | ((with_reducible refine andB_room ?_ ?_ ?_); (· kernel_rfl); (· (first | omega | (simp only [lens] <;> omega)))) | ((with_reducible refine W2.o ?_; constructor); · (first | with_reducible assumption | omega | (simp only [lens] <;> omega))) | ((with_reducible refine W3.o ?_; constructor); · (first | with_reducible assumption | omega | (simp only [lens] <;> omega))) | ((with_reducible refine W4.o ?_; constructor); · (first | (with_reducible first | assumption | exact decide_eq_true rfl | exact sEq_self _) | ((with_reducible refine eqOK_i ?_); kernel_rfl))) | ((with_reducible refine iteB_f ?_ ?_); · (first | (with_reducible first | assumption | exact decide_eq_true rfl | exact sEq_self _) | ((with_reducible refine eqOK_i ?_); kernel_rfl))) | (with_reducible refine CD.wk_au ?_) | (with_reducible refine W5.o ?_; constructor) | ((with_reducible refine W6.o ?_; constructor) <;> intro hB))
  all_goals ((conv => whnf); (try dsimp only); (try simp only [Nat.succ_eq_add_one, Nat.le_eq, castL_self]); (try omega))
  all_goals (try (first | omega | (simp only [lens] <;> omega)))
  all_goals first
   | exact e1.symm
   | exact e3.symm
   | (rw [e2]; done)
end
end Go.Proofs.Ytaloolcabmfjbaa
end

noncomputable section
namespace Go.Proofs.Ytaloolcabmfjbaa
open Go.Sym
set_option maxRecDepth 100000
set_option maxHeartbeats 4000000
def txHF (args : List V) (os : List EObj) : Option HRes := match args, os with
 | [.ptr b o], [.cells [.str s, .bool bad] t i] => some ([Nat.beq b 0, Nat.beq o 0, !i, decide (s.size ≤ 9223372036854775807)], .str (txV s), rdR (txR s) (bad || txB s), 1)
 | _, _ => none
theorem txHF_is {P : Program} {g : FuncId} (hg : ∀ s bad t, s.size ≤ 9223372036854775807 → HeapAt P 1 g [.ptr 0 0] (rdO s bad t) (.str (txV s)) (rdR (txR s) (bad || txB s)) 1) (args : List V) (os : List EObj) (c : List Bool) (v : V) (h' : List (Nat × EObj)) (n' : Nat) (h : txHF args os = some (c, v, h', n')) (hc : allB c) : HeapAt P 1 g args os v h' n' := by
 unfold txHF at h
 split at h
 ·cases h
  obtain ⟨c1, c2, c3, c4, _⟩ := hc
  rw [Bool.not_eq_true'] at c3
  subst c3
  rw [Nat.eq_of_beq_eq_true c1, Nat.eq_of_beq_eq_true c2]
  exact hg _ _ _ (of_decide_eq_true c4)
 ·cases h
def htT : HTab := oneHT 92 1 false txHF htN
theorem htT_ok : HTabOK Try.prog htT := oneHT_ok (txHF_is fun s bad t h => txt_at s bad t h) htN_ok
def htTr : HTab := oneHT 67 1 false txHF htNr
theorem htTr_ok : HTabOK Try.prog htTr := oneHT_ok (txHF_is fun s bad t h => rtxt_at s bad t h) htNr_ok
abbrev wrongV : V := .iface 112 (.agg [])
abbrev anyR : List (Nat × EObj) := [(0, .cells [.any, .any] 0 false)]
section
variable (s : ByteArray) (bad : Bool) (t : TypeId)
theorem small_ret (hs : s.size ≤ 9223372036854775807) (h : numV s ≤ 1073741824) : HeapAt Try.prog 1 55 [.agg [.ptr 0 0]] (rdO s bad t) (.int .i64 (numV s)) (rdR (numR s) (bad || numB s)) 1 := by
 have h1 := numV_in s
 refine heap_of_H htT_ok noTab_ok (fuel := 4) (d := 6) (N := 1) rfl rfl [] (fun _ _ h => by cases h) ?_
 repeat' ((conv => whnf); first | (with_reducible first | (refine W1.o ?_; constructor) | rfl | exact castL_self _ _) | ((with_reducible refine V.same_t ?_); exact rfl) | ((with_reducible refine andB_room ?_ ?_ ?_); (· kernel_rfl); (· (first | omega | (simp only [lens] <;> omega)))) | ((with_reducible refine W2.o ?_; constructor); · (first | with_reducible assumption | omega | (simp only [lens] <;> omega))) | ((with_reducible refine W3.o ?_; constructor); · (first | with_reducible assumption | omega | (simp only [lens] <;> omega))) | ((with_reducible refine W4.o ?_; constructor); · (first | (with_reducible first | assumption | exact decide_eq_true rfl | exact sEq_self _) | ((with_reducible refine eqOK_i ?_); kernel_rfl))) | ((with_reducible refine iteB_f ?_ ?_); · (first | (with_reducible first | assumption | exact decide_eq_true rfl | exact sEq_self _) | ((with_reducible refine eqOK_i ?_); kernel_rfl))) | (with_reducible refine CD.wk_au ?_) | (with_reducible refine W5.o ?_; constructor) | ((with_reducible refine W6.o ?_; constructor) <;> intro hB))
 all_goals ((conv => whnf); (try dsimp only); (try simp only [Nat.succ_eq_add_one, Nat.le_eq, castL_self]); (try omega))
 all_goals (try (first | omega | (simp only [lens] <;> omega)))
 all_goals first
  | exact rfl
theorem small_pan (hs : s.size ≤ 9223372036854775807) (h : ¬ numV s ≤ 1073741824) : HeapX Try.prog 1 55 [.agg [.ptr 0 0]] (rdO s bad t) (.pan wrongV) anyR 1 := by
 have h1 := numV_in s
 refine heapP_of_H htT_ok noTab_ok (fuel := 4) (d := 6) (N := 1) rfl rfl [] (fun _ _ h => by cases h) ?_
 repeat' ((conv => whnf); first | (with_reducible first | (refine W1.o ?_; constructor) | rfl | exact castL_self _ _) | ((with_reducible refine V.same_t ?_); exact rfl) | ((with_reducible refine andB_room ?_ ?_ ?_); (· kernel_rfl); (· (first | omega | (simp only [lens] <;> omega)))) | ((with_reducible refine W2.o ?_; constructor); · (first | with_reducible assumption | omega | (simp only [lens] <;> omega))) | ((with_reducible refine W3.o ?_; constructor); · (first | with_reducible assumption | omega | (simp only [lens] <;> omega))) | ((with_reducible refine W4.o ?_; constructor); · (first | (with_reducible first | assumption | exact decide_eq_true rfl | exact sEq_self _) | ((with_reducible refine eqOK_i ?_); kernel_rfl))) | ((with_reducible refine iteB_f ?_ ?_); · (first | (with_reducible first | assumption | exact decide_eq_true rfl | exact sEq_self _) | ((with_reducible refine eqOK_i ?_); kernel_rfl))) | (with_reducible refine CD.wk_au ?_) | (with_reducible refine W5.o ?_; constructor) | ((with_reducible refine W6.o ?_; constructor) <;> intro hB))
 all_goals ((conv => whnf); (try dsimp only); (try simp only [Nat.succ_eq_add_one, Nat.le_eq, castL_self]); (try omega))
 all_goals (try (first | omega | (simp only [lens] <;> omega)))
 all_goals first
  | exact rfl
theorem truth_ret (hs : s.size ≤ 9223372036854775807) (h : numV s ≤ 1) : HeapAt Try.prog 1 57 [.agg [.ptr 0 0]] (rdO s bad t) (.bool (decide (numV s = 1))) (rdR (numR s) (bad || numB s)) 1 := by
 have h1 := numV_in s
 refine heap_of_H htT_ok noTab_ok (fuel := 4) (d := 6) (N := 1) rfl rfl [] (fun _ _ h => by cases h) ?_
 repeat' ((conv => whnf); first | (with_reducible first | (refine W1.o ?_; constructor) | rfl | exact castL_self _ _) | ((with_reducible refine V.same_t ?_); exact rfl) | ((with_reducible refine andB_room ?_ ?_ ?_); (· kernel_rfl); (· (first | omega | (simp only [lens] <;> omega)))) | ((with_reducible refine W2.o ?_; constructor); · (first | with_reducible assumption | omega | (simp only [lens] <;> omega))) | ((with_reducible refine W3.o ?_; constructor); · (first | with_reducible assumption | omega | (simp only [lens] <;> omega))) | ((with_reducible refine W4.o ?_; constructor); · (first | (with_reducible first | assumption | exact decide_eq_true rfl | exact sEq_self _) | ((with_reducible refine eqOK_i ?_); kernel_rfl))) | ((with_reducible refine iteB_f ?_ ?_); · (first | (with_reducible first | assumption | exact decide_eq_true rfl | exact sEq_self _) | ((with_reducible refine eqOK_i ?_); kernel_rfl))) | (with_reducible refine CD.wk_au ?_) | (with_reducible refine W5.o ?_; constructor) | ((with_reducible refine W6.o ?_; constructor) <;> intro hB))
 all_goals ((conv => whnf); (try dsimp only); (try simp only [Nat.succ_eq_add_one, Nat.le_eq, castL_self]); (try omega))
 all_goals (try (first | omega | (simp only [lens] <;> omega)))
 all_goals first
  | exact rfl
theorem truth_pan (hs : s.size ≤ 9223372036854775807) (h : ¬ numV s ≤ 1) : HeapX Try.prog 1 57 [.agg [.ptr 0 0]] (rdO s bad t) (.pan wrongV) anyR 1 := by
 have h1 := numV_in s
 refine heapP_of_H htT_ok noTab_ok (fuel := 4) (d := 6) (N := 1) rfl rfl [] (fun _ _ h => by cases h) ?_
 repeat' ((conv => whnf); first | (with_reducible first | (refine W1.o ?_; constructor) | rfl | exact castL_self _ _) | ((with_reducible refine V.same_t ?_); exact rfl) | ((with_reducible refine andB_room ?_ ?_ ?_); (· kernel_rfl); (· (first | omega | (simp only [lens] <;> omega)))) | ((with_reducible refine W2.o ?_; constructor); · (first | with_reducible assumption | omega | (simp only [lens] <;> omega))) | ((with_reducible refine W3.o ?_; constructor); · (first | with_reducible assumption | omega | (simp only [lens] <;> omega))) | ((with_reducible refine W4.o ?_; constructor); · (first | (with_reducible first | assumption | exact decide_eq_true rfl | exact sEq_self _) | ((with_reducible refine eqOK_i ?_); kernel_rfl))) | ((with_reducible refine iteB_f ?_ ?_); · (first | (with_reducible first | assumption | exact decide_eq_true rfl | exact sEq_self _) | ((with_reducible refine eqOK_i ?_); kernel_rfl))) | (with_reducible refine CD.wk_au ?_) | (with_reducible refine W5.o ?_; constructor) | ((with_reducible refine W6.o ?_; constructor) <;> intro hB))
 all_goals ((conv => whnf); (try dsimp only); (try simp only [Nat.succ_eq_add_one, Nat.le_eq, castL_self]); (try omega))
 all_goals (try (first | omega | (simp only [lens] <;> omega)))
 all_goals first
  | exact rfl
end
def rdXF (q : ByteArray → Bool → Bool) (v : ByteArray → Bool → V) (r : ByteArray → ByteArray) (b : ByteArray → Bool → Bool) (args : List V) (os : List EObj) : Option HR := match args, os with
 | [.agg [.ptr p o]], [.cells [.str s, .bool bad] t i] => some (.ite (q s bad) (.res [Nat.beq p 0, Nat.beq o 0, !i, decide (s.size ≤ 1000000)] (.ret (v s bad)) (rdR (r s) (b s bad)) 1) (.res [Nat.beq p 0, Nat.beq o 0, !i, decide (s.size ≤ 1000000)] (.pan wrongV) anyR 1))
 | _, _ => none
theorem rdXF_ok {P : Program} {g : FuncId} {q : ByteArray → Bool → Bool} {v : ByteArray → Bool → V} {r : ByteArray → ByteArray} {b : ByteArray → Bool → Bool}
  (h1 : ∀ s bad t, s.size ≤ 1000000 → q s bad = true → HeapAt P 1 g [.agg [.ptr 0 0]] (rdO s bad t) (v s bad) (rdR (r s) (b s bad)) 1) (h2 : ∀ s bad t, s.size ≤ 1000000 → q s bad = false → HeapX P 1 g [.agg [.ptr 0 0]] (rdO s bad t) (.pan wrongV) anyR 1)
  (args : List V) (os : List EObj) (x : HR) (h : rdXF q v r b args os = some x) : HRAt P 1 g args os x := by
 unfold rdXF at h
 split at h
 ·cases h
  refine ⟨fun hq hc => ?_, fun hq hc => ?_⟩
  all_goals
   obtain ⟨c1, c2, c3, c4, _⟩ := hc
   rw [Bool.not_eq_true'] at c3
   subst c3
   rw [Nat.eq_of_beq_eq_true c1, Nat.eq_of_beq_eq_true c2]
  ·exact (h1 _ _ _ (of_decide_eq_true c4) hq).x
  ·exact h2 _ _ _ (of_decide_eq_true c4) hq
 ·cases h
theorem of_leI {a b : Int} (h : leI a b = true) : a ≤ b := by rw [leI_eq] at h; exact of_decide_eq_true h
theorem of_leI' {a b : Int} (h : leI a b = false) : ¬ a ≤ b := by rw [leI_eq] at h; exact of_decide_eq_false h
def htS : HTab := oneXT 55 1 false (rdXF (fun s _ => leI (numV s) 1073741824) (fun s _ => .int .i64 (numV s)) numR (fun s bad => bad || numB s)) (oneXT 57 1 false (rdXF (fun s _ => leI (numV s) 1) (fun s _ => .bool (decide (numV s = 1))) numR (fun s bad => bad || numB s)) htT)
theorem htS_ok : HTabOK Try.prog htS := oneXT_ok (rdXF_ok (fun s bad t hs h => small_ret s bad t (by omega) (of_leI h)) fun s bad t hs h => small_pan s bad t (by omega) (of_leI' h)) (oneXT_ok (rdXF_ok (fun s bad t hs h => truth_ret s bad t (by omega) (of_leI h)) fun s bad t hs h => truth_pan s bad t (by omega) (of_leI' h)) htT_ok)
end Go.Proofs.Ytaloolcabmfjbaa
end
