/-
  Texts of this claim, one behind the other: CdRck. Each says its own conditions.
-/
import Derived.Test.YtaloolcabmfjbaaCdrM13

set_option linter.unusedVariables false
set_option linter.unusedSimpArgs false
set_option linter.unusedSectionVars false
noncomputable section
namespace Go.Proofs.Ytaloolcabmfjbaa
open Go.Sym
set_option maxRecDepth 100000
set_option maxHeartbeats 4000000
def rchC (L : List OpQ) (i : Nat) : CD := ⟨24, [(0, .lst opT L false), (3, .int .i64 (i : Int))], [], [], 0⟩
def rchR : CD := ⟨24, [(2, .bool true)], [], [], 0⟩
theorem rch_n (N : Nat) (L : List OpQ) (hw : opW L = true) (hb : anyB chgO L = false) : LpD.ok Try.prog N 0 (bodyOf Try.prog 44) ⟨2, [], rchC L 0, (.leaf (.exit 0) (rchC L L.length))⟩ := by
 have hi := ((opW_iff L).1 hw)
 obtain ⟨hx, hfl⟩ : True ∧ fst0 chgO L = L.length := ⟨trivial, by rcases ix_in chgO L with ⟨_, h2, h3⟩ | ⟨_, h2, h3⟩ <;> first | exact h3 | (rw [hb] at h2; cases h2)⟩
 refine LpD.ok_one (b := bodyAt Try.prog 44 2) rfl (loop_W noTab_ok (fuel := 4) (d := 5) (X := { i : Nat // i ≤ fst0 chgO L }) (fun x => rchC L x.1) (fun x => fst0 chgO L - x.1)
   (fun _ => (.leaf (.exit 0) (rchC L L.length))) (fun _ => noLpW) (fun _ => noLp) (fun _ => noLp_ad) (fun _ => noLp_ok _) ?_ ⟨0, Nat.zero_le _⟩)
 have hm := fst0_le chgO L
 have hl := hi.1
 rintro ⟨i, hi2⟩
 dsimp only
 rcases Nat.lt_or_ge i (fst0 chgO L) with hlf | hgf
 case' inl =>
  have hlt : i < L.length := by omega
  obtain ⟨w0, w1, w2, w3a, w3b⟩ : ((Sym.rowAt opT L (Int.toNat (i : Int))).2.1).size ≤ 1000000 ∧ ((Sym.rowAt opT L (Int.toNat (i : Int))).2.2.1).size ≤ 1000000 ∧ ((Sym.rowAt opT L (Int.toNat (i : Int))).2.2.2.1).size ≤ 1000000 ∧ @LE.le Int _ 0 (Sym.rowAt opT L (Int.toNat (i : Int))).2.2.2.2.1 ∧ @LT.lt Int _ (Sym.rowAt opT L (Int.toNat (i : Int))).2.2.2.2.1 18446744073709551616 := by rw [show Int.toNat (i : Int) = i from Int.toNat_natCast i]; exact (hi).2 i hlt
  have hp := fst0_not chgO L hlf
  have hp : ¬ (@Eq Int (Sym.rowAt opT L (Int.toNat (i : Int))).1 1 ∨ @Eq Int (Sym.rowAt opT L (Int.toNat (i : Int))).1 2) := by rw [show Int.toNat (i : Int) = i from Int.toNat_natCast i]; rw [chgO_eq] at hp; exact of_decide_eq_false hp
 case' inr =>
  have he : i = fst0 chgO L := Nat.le_antisymm hi2 hgf
  have hq : i = L.length := by omega
  subst hq
 all_goals
  repeat' ((conv => whnf); first | (with_reducible first | (refine W1.o ?_; constructor) | rfl | exact castL_self _ _) | ((with_reducible refine V.same_t ?_); exact rfl) | ((with_reducible refine andB_room ?_ ?_ ?_); (· kernel_rfl); (· (first | omega | (simp only [lens] <;> omega)))) | ((with_reducible refine W2.o ?_; constructor); · (first | with_reducible assumption | omega | (simp only [lens] <;> omega))) | ((with_reducible refine W3.o ?_; constructor); · (first | with_reducible assumption | omega | (simp only [lens] <;> omega))) | ((with_reducible refine W4.o ?_; constructor); · (first | (with_reducible first | assumption | exact decide_eq_true rfl | exact sEq_self _) | ((with_reducible refine eqOK_i ?_); kernel_rfl) | exact hp)) | ((with_reducible refine iteB_f ?_ ?_); · (first | (with_reducible first | assumption | exact decide_eq_true rfl | exact sEq_self _) | ((with_reducible refine eqOK_i ?_); kernel_rfl) | exact hp)) | (refine ⟨⟨i + 1, hlf⟩, ?_, rfl, ?_⟩) | (with_reducible refine CD.wk_au ?_) | (with_reducible refine W5.o ?_; constructor) | ((with_reducible refine W6.o ?_; constructor) <;> intro hB))
  all_goals ((conv => whnf); (try dsimp only); (try simp only [Nat.succ_eq_add_one, Nat.le_eq, castL_self]); (try omega))
  all_goals (try (first | omega | (simp only [lens] <;> omega)))
  all_goals first
   | exact rfl
   | omega
theorem rch_y (N : Nat) (L : List OpQ) (hw : opW L = true) (hb : anyB chgO L = true) : LpD.ok Try.prog N 0 (bodyOf Try.prog 44) ⟨2, [], rchC L 0, (.leaf .ret rchR)⟩ := by
 have hi := ((opW_iff L).1 hw)
 obtain ⟨hx, hfl⟩ : True ∧ fst0 chgO L < L.length := ⟨trivial, by rcases ix_in chgO L with ⟨_, h2, h3⟩ | ⟨_, h2, h3⟩ <;> first | exact h3 | (rw [hb] at h2; cases h2)⟩
 refine LpD.ok_one (b := bodyAt Try.prog 44 2) rfl (loop_W noTab_ok (fuel := 4) (d := 5) (X := { i : Nat // i ≤ fst0 chgO L }) (fun x => rchC L x.1) (fun x => fst0 chgO L - x.1)
   (fun _ => (.leaf .ret rchR)) (fun _ => noLpW) (fun _ => noLp) (fun _ => noLp_ad) (fun _ => noLp_ok _) ?_ ⟨0, Nat.zero_le _⟩)
 have hm := fst0_le chgO L
 have hl := hi.1
 rintro ⟨i, hi2⟩
 dsimp only
 rcases Nat.lt_or_ge i (fst0 chgO L) with hlf | hgf
 ·have hlt : i < L.length := by omega
  obtain ⟨w0, w1, w2, w3a, w3b⟩ : ((Sym.rowAt opT L (Int.toNat (i : Int))).2.1).size ≤ 1000000 ∧ ((Sym.rowAt opT L (Int.toNat (i : Int))).2.2.1).size ≤ 1000000 ∧ ((Sym.rowAt opT L (Int.toNat (i : Int))).2.2.2.1).size ≤ 1000000 ∧ @LE.le Int _ 0 (Sym.rowAt opT L (Int.toNat (i : Int))).2.2.2.2.1 ∧ @LT.lt Int _ (Sym.rowAt opT L (Int.toNat (i : Int))).2.2.2.2.1 18446744073709551616 := by rw [show Int.toNat (i : Int) = i from Int.toNat_natCast i]; exact (hi).2 i hlt
  have hp := fst0_not chgO L hlf
  have hp : ¬ (@Eq Int (Sym.rowAt opT L (Int.toNat (i : Int))).1 1 ∨ @Eq Int (Sym.rowAt opT L (Int.toNat (i : Int))).1 2) := by rw [show Int.toNat (i : Int) = i from Int.toNat_natCast i]; rw [chgO_eq] at hp; exact of_decide_eq_false hp
  repeat' ((conv => whnf); first | (with_reducible first | (refine W1.o ?_; constructor) | rfl | exact castL_self _ _) | ((with_reducible refine V.same_t ?_); exact rfl) | ((with_reducible refine andB_room ?_ ?_ ?_); (· kernel_rfl); (· (first | omega | (simp only [lens] <;> omega)))) | ((with_reducible refine W2.o ?_; constructor); · (first | with_reducible assumption | omega | (simp only [lens] <;> omega))) | ((with_reducible refine W3.o ?_; constructor); · (first | with_reducible assumption | omega | (simp only [lens] <;> omega))) | ((with_reducible refine W4.o ?_; constructor); · (first | (with_reducible first | assumption | exact decide_eq_true rfl | exact sEq_self _) | ((with_reducible refine eqOK_i ?_); kernel_rfl) | (first | (exact hp)))) | ((with_reducible refine iteB_f ?_ ?_); · (first | (with_reducible first | assumption | exact decide_eq_true rfl | exact sEq_self _) | ((with_reducible refine eqOK_i ?_); kernel_rfl) | (first | (exact hp)))) | (refine ⟨⟨i + 1, hlf⟩, ?_, rfl, ?_⟩) | (with_reducible refine CD.wk_au ?_) | (with_reducible refine W5.o ?_; constructor) | ((with_reducible refine W6.o ?_; constructor) <;> intro hB))
  all_goals ((conv => whnf); (try dsimp only); (try simp only [Nat.succ_eq_add_one, Nat.le_eq, castL_self]); (try omega))
  all_goals (try (first | omega | (simp only [lens] <;> omega)))
  all_goals first
   | exact rfl
   | omega
 ·have he : i = fst0 chgO L := Nat.le_antisymm hi2 hgf
  have hlt : i < L.length := by omega
  obtain ⟨w0, w1, w2, w3a, w3b⟩ : ((Sym.rowAt opT L (Int.toNat (i : Int))).2.1).size ≤ 1000000 ∧ ((Sym.rowAt opT L (Int.toNat (i : Int))).2.2.1).size ≤ 1000000 ∧ ((Sym.rowAt opT L (Int.toNat (i : Int))).2.2.2.1).size ≤ 1000000 ∧ @LE.le Int _ 0 (Sym.rowAt opT L (Int.toNat (i : Int))).2.2.2.2.1 ∧ @LT.lt Int _ (Sym.rowAt opT L (Int.toNat (i : Int))).2.2.2.2.1 18446744073709551616 := by rw [show Int.toNat (i : Int) = i from Int.toNat_natCast i]; exact (hi).2 i hlt
  have hp := fst0_is chgO L hfl
  rw [← he] at hp
  have hp : @Eq Int (Sym.rowAt opT L (Int.toNat (i : Int))).1 1 ∨ @Eq Int (Sym.rowAt opT L (Int.toNat (i : Int))).1 2 := by rw [show Int.toNat (i : Int) = i from Int.toNat_natCast i]; rw [chgO_eq] at hp; exact of_decide_eq_true hp
  rcases hp with hp | hp
  all_goals
   repeat' ((conv => whnf); first | (with_reducible first | (refine W1.o ?_; constructor) | rfl | exact castL_self _ _) | ((with_reducible refine V.same_t ?_); exact rfl) | ((with_reducible refine andB_room ?_ ?_ ?_); (· kernel_rfl); (· (first | omega | (simp only [lens] <;> omega)))) | ((with_reducible refine W2.o ?_; constructor); · (first | with_reducible assumption | omega | (simp only [lens] <;> omega))) | ((with_reducible refine W3.o ?_; constructor); · (first | with_reducible assumption | omega | (simp only [lens] <;> omega))) | ((with_reducible refine W4.o ?_; constructor); · (first | (with_reducible first | assumption | exact decide_eq_true rfl | exact sEq_self _) | ((with_reducible refine eqOK_i ?_); kernel_rfl))) | ((with_reducible refine iteB_f ?_ ?_); · (first | (with_reducible first | assumption | exact decide_eq_true rfl | exact sEq_self _) | ((with_reducible refine eqOK_i ?_); kernel_rfl))) | (with_reducible refine CD.wk_au ?_) | (with_reducible refine W5.o ?_; constructor) | ((with_reducible refine W6.o ?_; constructor) <;> intro hB))
   all_goals ((conv => whnf); (try dsimp only); (try simp only [Nat.succ_eq_add_one, Nat.le_eq, castL_self]); (try omega))
   all_goals (try (first | omega | (simp only [lens] <;> omega)))
   all_goals first
    | exact rfl
theorem rch_at (L : List OpQ) (hw : opW L = true) : PureAt Try.prog 44 [.lst opT L false] (.bool (anyB chgO L)) := by
 cases hb : anyB chgO L with
 | false =>
  refine pure_of_loops noTab_ok (fuel := 4) (d := 4) [⟨2, [], rchC L 0, .leaf (.exit 0) (rchC L L.length)⟩] (fun N y hy => by rw [List.mem_singleton.1 hy]; exact rch_n N L hw hb) ?_
  repeat' ((conv => whnf); first | (with_reducible first | (refine W1.o ?_; constructor) | rfl | exact castL_self _ _) | ((with_reducible refine V.same_t ?_); exact rfl) | ((with_reducible refine andB_room ?_ ?_ ?_); (· kernel_rfl); (· (first | omega | (simp only [lens] <;> omega)))) | ((with_reducible refine W2.o ?_; constructor); · (first | with_reducible assumption | omega | (simp only [lens] <;> omega))) | ((with_reducible refine W3.o ?_; constructor); · (first | with_reducible assumption | omega | (simp only [lens] <;> omega))) | ((with_reducible refine W4.o ?_; constructor); · (first | (with_reducible first | assumption | exact decide_eq_true rfl | exact sEq_self _) | ((with_reducible refine eqOK_i ?_); kernel_rfl))) | ((with_reducible refine iteB_f ?_ ?_); · (first | (with_reducible first | assumption | exact decide_eq_true rfl | exact sEq_self _) | ((with_reducible refine eqOK_i ?_); kernel_rfl))) | (with_reducible refine CD.wk_au ?_) | (with_reducible refine W5.o ?_; constructor) | ((with_reducible refine W6.o ?_; constructor) <;> intro hB))
  all_goals ((conv => whnf); (try dsimp only); (try simp only [Nat.succ_eq_add_one, Nat.le_eq, castL_self]); (try omega))
  all_goals (try (first | omega | (simp only [lens] <;> omega)))
  all_goals first
   | exact rfl
 | true =>
  refine pure_of_loops noTab_ok (fuel := 4) (d := 4) [⟨2, [], rchC L 0, .leaf .ret rchR⟩] (fun N y hy => by rw [List.mem_singleton.1 hy]; exact rch_y N L hw hb) ?_
  repeat' ((conv => whnf); first | (with_reducible first | (refine W1.o ?_; constructor) | rfl | exact castL_self _ _) | ((with_reducible refine V.same_t ?_); exact rfl) | ((with_reducible refine andB_room ?_ ?_ ?_); (· kernel_rfl); (· (first | omega | (simp only [lens] <;> omega)))) | ((with_reducible refine W2.o ?_; constructor); · (first | with_reducible assumption | omega | (simp only [lens] <;> omega))) | ((with_reducible refine W3.o ?_; constructor); · (first | with_reducible assumption | omega | (simp only [lens] <;> omega))) | ((with_reducible refine W4.o ?_; constructor); · (first | (with_reducible first | assumption | exact decide_eq_true rfl | exact sEq_self _) | ((with_reducible refine eqOK_i ?_); kernel_rfl))) | ((with_reducible refine iteB_f ?_ ?_); · (first | (with_reducible first | assumption | exact decide_eq_true rfl | exact sEq_self _) | ((with_reducible refine eqOK_i ?_); kernel_rfl))) | (with_reducible refine CD.wk_au ?_) | (with_reducible refine W5.o ?_; constructor) | ((with_reducible refine W6.o ?_; constructor) <;> intro hB))
  all_goals ((conv => whnf); (try dsimp only); (try simp only [Nat.succ_eq_add_one, Nat.le_eq, castL_self]); (try omega))
  all_goals (try (first | omega | (simp only [lens] <;> omega)))
  all_goals first
   | exact rfl
def rhcC (C : List CmQ) (i : Nat) : CD := ⟨19, [(0, .lst cmT C false), (3, .int .i64 (i : Int))], [], [], 0⟩
def rhcR : CD := ⟨19, [(2, .int .i64 11)], [], [], 0⟩
theorem rhc_n (N : Nat) (C : List CmQ) (hw : cmW C = true) (hb : anyB badC C = false) : LpD.ok Try.prog N 0 (bodyOf Try.prog 82) ⟨4, [], rhcC C 0, (.leaf (.exit 0) (rhcC C C.length))⟩ := by
 have hi := ((cmW_iff C).1 hw)
 obtain ⟨hx, hfl⟩ : True ∧ fst0 badC C = C.length := ⟨trivial, by rcases ix_in badC C with ⟨_, h2, h3⟩ | ⟨_, h2, h3⟩ <;> first | exact h3 | (rw [hb] at h2; cases h2)⟩
 refine LpD.ok_one (b := bodyAt Try.prog 82 4) rfl (loop_W tabM1_ok (fuel := 4) (d := 5) (X := { i : Nat // i ≤ fst0 badC C }) (fun x => rhcC C x.1) (fun x => fst0 badC C - x.1)
   (fun _ => (.leaf (.exit 0) (rhcC C C.length))) (fun _ => noLpW) (fun _ => noLp) (fun _ => noLp_ad) (fun _ => noLp_ok _) ?_ ⟨0, Nat.zero_le _⟩)
 have hm := fst0_le badC C
 have hl := hi.1
 rintro ⟨i, hi2⟩
 dsimp only
 rcases Nat.lt_or_ge i (fst0 badC C) with hlf | hgf
 case' inl =>
  have hlt : i < C.length := by omega
  obtain ⟨w0, ⟨w1a, w1b⟩, w2⟩ : ((Sym.rowAt cmT C (Int.toNat (i : Int))).1).size ≤ 1000000 ∧ (@LE.le Int _ 0 (Sym.rowAt cmT C (Int.toNat (i : Int))).2.2.2.1 ∧ @LT.lt Int _ (Sym.rowAt cmT C (Int.toNat (i : Int))).2.2.2.1 18446744073709551616) ∧ ((Sym.rowAt cmT C (Int.toNat (i : Int))).2.2.2.2).size ≤ 1000000 := by rw [show Int.toNat (i : Int) = i from Int.toNat_natCast i]; exact (hi).2 i hlt
  have hp := fst0_not badC C hlf
  have hp : mayC (Sym.rowAt cmT C (Int.toNat (i : Int))) = true := by rw [show Int.toNat (i : Int) = i from Int.toNat_natCast i]; rw [badC_eq, Bool.not_eq_false'] at hp; exact hp
 case' inr =>
  have he : i = fst0 badC C := Nat.le_antisymm hi2 hgf
  have hq : i = C.length := by omega
  subst hq
 all_goals
  repeat' ((conv => whnf); first | (with_reducible first | (refine W1.o ?_; constructor) | rfl | exact castL_self _ _) | ((with_reducible refine V.same_t ?_); exact rfl) | ((with_reducible refine andB_room ?_ ?_ ?_); (· kernel_rfl); (· (first | omega | (simp only [lens] <;> omega)))) | ((with_reducible refine W2.o ?_; constructor); · (first | with_reducible assumption | omega | (simp only [lens] <;> omega))) | ((with_reducible refine W3.o ?_; constructor); · (first | with_reducible assumption | omega | (simp only [lens] <;> omega))) | ((with_reducible refine W4.o ?_; constructor); · (first | (with_reducible first | assumption | exact decide_eq_true rfl | exact sEq_self _) | ((with_reducible refine eqOK_i ?_); kernel_rfl) | exact hp)) | ((with_reducible refine iteB_f ?_ ?_); · (first | (with_reducible first | assumption | exact decide_eq_true rfl | exact sEq_self _) | ((with_reducible refine eqOK_i ?_); kernel_rfl) | exact hp)) | (refine ⟨⟨i + 1, hlf⟩, ?_, rfl, ?_⟩) | (with_reducible refine CD.wk_au ?_) | (with_reducible refine W5.o ?_; constructor) | ((with_reducible refine W6.o ?_; constructor) <;> intro hB))
  all_goals ((conv => whnf); (try dsimp only); (try simp only [Nat.succ_eq_add_one, Nat.le_eq, castL_self]); (try omega))
  all_goals (try (first | omega | (simp only [lens] <;> omega)))
  all_goals first
   | exact rfl
   | omega
theorem rhc_y (N : Nat) (C : List CmQ) (hw : cmW C = true) (hb : anyB badC C = true) : LpD.ok Try.prog N 0 (bodyOf Try.prog 82) ⟨4, [], rhcC C 0, (.leaf .ret rhcR)⟩ := by
 have hi := ((cmW_iff C).1 hw)
 obtain ⟨hx, hfl⟩ : True ∧ fst0 badC C < C.length := ⟨trivial, by rcases ix_in badC C with ⟨_, h2, h3⟩ | ⟨_, h2, h3⟩ <;> first | exact h3 | (rw [hb] at h2; cases h2)⟩
 refine LpD.ok_one (b := bodyAt Try.prog 82 4) rfl (loop_W tabM1_ok (fuel := 4) (d := 5) (X := { i : Nat // i ≤ fst0 badC C }) (fun x => rhcC C x.1) (fun x => fst0 badC C - x.1)
   (fun _ => (.leaf .ret rhcR)) (fun _ => noLpW) (fun _ => noLp) (fun _ => noLp_ad) (fun _ => noLp_ok _) ?_ ⟨0, Nat.zero_le _⟩)
 have hm := fst0_le badC C
 have hl := hi.1
 rintro ⟨i, hi2⟩
 dsimp only
 rcases Nat.lt_or_ge i (fst0 badC C) with hlf | hgf
 case' inl =>
  have hlt : i < C.length := by omega
  obtain ⟨w0, ⟨w1a, w1b⟩, w2⟩ : ((Sym.rowAt cmT C (Int.toNat (i : Int))).1).size ≤ 1000000 ∧ (@LE.le Int _ 0 (Sym.rowAt cmT C (Int.toNat (i : Int))).2.2.2.1 ∧ @LT.lt Int _ (Sym.rowAt cmT C (Int.toNat (i : Int))).2.2.2.1 18446744073709551616) ∧ ((Sym.rowAt cmT C (Int.toNat (i : Int))).2.2.2.2).size ≤ 1000000 := by rw [show Int.toNat (i : Int) = i from Int.toNat_natCast i]; exact (hi).2 i hlt
  have hp := fst0_not badC C hlf
  have hp : mayC (Sym.rowAt cmT C (Int.toNat (i : Int))) = true := by rw [show Int.toNat (i : Int) = i from Int.toNat_natCast i]; rw [badC_eq, Bool.not_eq_false'] at hp; exact hp
 case' inr =>
  have he : i = fst0 badC C := Nat.le_antisymm hi2 hgf
  have hlt : i < C.length := by omega
  obtain ⟨w0, ⟨w1a, w1b⟩, w2⟩ : ((Sym.rowAt cmT C (Int.toNat (i : Int))).1).size ≤ 1000000 ∧ (@LE.le Int _ 0 (Sym.rowAt cmT C (Int.toNat (i : Int))).2.2.2.1 ∧ @LT.lt Int _ (Sym.rowAt cmT C (Int.toNat (i : Int))).2.2.2.1 18446744073709551616) ∧ ((Sym.rowAt cmT C (Int.toNat (i : Int))).2.2.2.2).size ≤ 1000000 := by rw [show Int.toNat (i : Int) = i from Int.toNat_natCast i]; exact (hi).2 i hlt
  have hp := fst0_is badC C hfl
  rw [← he] at hp
  have hp : mayC (Sym.rowAt cmT C (Int.toNat (i : Int))) = false := by rw [show Int.toNat (i : Int) = i from Int.toNat_natCast i]; rw [badC_eq, Bool.not_eq_true'] at hp; exact hp
 all_goals
  repeat' ((conv => whnf); first | (with_reducible first | (refine W1.o ?_; constructor) | rfl | exact castL_self _ _) | ((with_reducible refine V.same_t ?_); exact rfl) | ((with_reducible refine andB_room ?_ ?_ ?_); (· kernel_rfl); (· (first | omega | (simp only [lens] <;> omega)))) | ((with_reducible refine W2.o ?_; constructor); · (first | with_reducible assumption | omega | (simp only [lens] <;> omega))) | ((with_reducible refine W3.o ?_; constructor); · (first | with_reducible assumption | omega | (simp only [lens] <;> omega))) | ((with_reducible refine W4.o ?_; constructor); · (first | (with_reducible first | assumption | exact decide_eq_true rfl | exact sEq_self _) | ((with_reducible refine eqOK_i ?_); kernel_rfl) | exact hp)) | ((with_reducible refine iteB_f ?_ ?_); · (first | (with_reducible first | assumption | exact decide_eq_true rfl | exact sEq_self _) | ((with_reducible refine eqOK_i ?_); kernel_rfl) | exact hp)) | (refine ⟨⟨i + 1, hlf⟩, ?_, rfl, ?_⟩) | (with_reducible refine CD.wk_au ?_) | (with_reducible refine W5.o ?_; constructor) | ((with_reducible refine W6.o ?_; constructor) <;> intro hB))
  all_goals ((conv => whnf); (try dsimp only); (try simp only [Nat.succ_eq_add_one, Nat.le_eq, castL_self]); (try omega))
  all_goals (try (first | omega | (simp only [lens] <;> omega)))
  all_goals first
   | exact rfl
   | omega
theorem rhcheck_at (C : List CmQ) (hw : cmW C = true) : PureAt Try.prog 82 [.lst cmT C false] (.int .i64 (hcE C)) := by
 have e := hcE_eq C
 have wl := ((cmW_iff C).1 hw).1
 cases hb : anyB badC C with
 | false =>
  refine pure_of_loops tabM1_ok (fuel := 4) (d := 4) [⟨4, [], rhcC C 0, .leaf (.exit 0) (rhcC C C.length)⟩] (fun N y hy => by rw [List.mem_singleton.1 hy]; exact rhc_n N C hw hb) ?_
  by_cases hl : 4 < C.length
  all_goals
   repeat' ((conv => whnf); first | (with_reducible first | (refine W1.o ?_; constructor) | rfl | exact castL_self _ _) | ((with_reducible refine V.same_t ?_); exact rfl) | ((with_reducible refine andB_room ?_ ?_ ?_); (· kernel_rfl); (· (first | omega | (simp only [lens] <;> omega)))) | ((with_reducible refine W2.o ?_; constructor); · (first | with_reducible assumption | omega | (simp only [lens] <;> omega))) | ((with_reducible refine W3.o ?_; constructor); · (first | with_reducible assumption | omega | (simp only [lens] <;> omega))) | ((with_reducible refine W4.o ?_; constructor); · (first | (with_reducible first | assumption | exact decide_eq_true rfl | exact sEq_self _) | ((with_reducible refine eqOK_i ?_); kernel_rfl))) | ((with_reducible refine iteB_f ?_ ?_); · (first | (with_reducible first | assumption | exact decide_eq_true rfl | exact sEq_self _) | ((with_reducible refine eqOK_i ?_); kernel_rfl))) | (with_reducible refine CD.wk_au ?_) | (with_reducible refine W5.o ?_; constructor) | ((with_reducible refine W6.o ?_; constructor) <;> intro hB))
   all_goals ((conv => whnf); (try dsimp only); (try simp only [Nat.succ_eq_add_one, Nat.le_eq, castL_self]); (try omega))
   all_goals (try (first | omega | (simp only [lens] <;> omega)))
   all_goals first
    | exact rfl
    | (rw [e]; simp [hl, hb]; done)
 | true =>
  refine pure_of_loops tabM1_ok (fuel := 4) (d := 4) [⟨4, [], rhcC C 0, .leaf .ret rhcR⟩] (fun N y hy => by rw [List.mem_singleton.1 hy]; exact rhc_y N C hw hb) ?_
  by_cases hl : 4 < C.length
  all_goals
   repeat' ((conv => whnf); first | (with_reducible first | (refine W1.o ?_; constructor) | rfl | exact castL_self _ _) | ((with_reducible refine V.same_t ?_); exact rfl) | ((with_reducible refine andB_room ?_ ?_ ?_); (· kernel_rfl); (· (first | omega | (simp only [lens] <;> omega)))) | ((with_reducible refine W2.o ?_; constructor); · (first | with_reducible assumption | omega | (simp only [lens] <;> omega))) | ((with_reducible refine W3.o ?_; constructor); · (first | with_reducible assumption | omega | (simp only [lens] <;> omega))) | ((with_reducible refine W4.o ?_; constructor); · (first | (with_reducible first | assumption | exact decide_eq_true rfl | exact sEq_self _) | ((with_reducible refine eqOK_i ?_); kernel_rfl))) | ((with_reducible refine iteB_f ?_ ?_); · (first | (with_reducible first | assumption | exact decide_eq_true rfl | exact sEq_self _) | ((with_reducible refine eqOK_i ?_); kernel_rfl))) | (with_reducible refine CD.wk_au ?_) | (with_reducible refine W5.o ?_; constructor) | ((with_reducible refine W6.o ?_; constructor) <;> intro hB))
   all_goals ((conv => whnf); (try dsimp only); (try simp only [Nat.succ_eq_add_one, Nat.le_eq, castL_self]); (try omega))
   all_goals (try (first | omega | (simp only [lens] <;> omega)))
   all_goals first
    | exact rfl
    | (rw [e]; simp [hl, hb]; done)
def rchF (args : List V) : Option (List Bool × V) := match args with
 | [l] => (match ofLst opT l with
   | some L => some ([opW L], .bool (anyB chgO L))
   | none => none)
 | _ => none
theorem rchF_ok (args : List V) (c : List Bool) (v : V) (h : rchF args = some (c, v)) (hc : allB c) : PureAt Try.prog 44 args v := by
 unfold rchF at h
 split at h
 ·split at h
  ·rename_i l q L hl
   cases h
   exact PureAt.lst0 (rch_at L hc.1) hl
  ·cases h
 ·cases h
def tabR1 : Tab := oneTab 44 rchF (oneTab 82 hcF tabM1)
theorem tabR1_ok : TabOK Try.prog tabR1 := oneTab_ok rchF_ok (oneTab_ok (hcF_is rhcheck_at) tabM1_ok)
section
variable (k cl nm rv : Int) (sr : Bool) (C : List CmQ) (A B : List OpQ)
abbrev rqH : List (Nat × EObj) := [(0, .cells [.int .i64 k, .int .u64 cl, .int .u64 nm, .bool sr, .lst cmT C false, .lst opT A false, .lst opT B false, .int .u64 rv] 0 false)]
def rsaC (i : Nat) : CD := ⟨54, [(1, .ptr 0 0), (3, .int .i64 (i : Int))], [], rqH k cl nm rv sr C A B, 1⟩
def rsbC (i : Nat) : CD := ⟨54, [(1, .ptr 0 0), (4, .int .i64 (i : Int))], [], rqH k cl nm rv sr C A B, 1⟩
def rsR : CD := ⟨54, [(2, .int .i64 11)], [], [], 0⟩
theorem rsa_n (N : Nat) (hw : opW A = true) (hb : anyB badO A = false) : LpD.ok Try.prog N 0 (bodyOf Try.prog 41) ⟨4, [(0, 0)], rsaC k cl nm rv sr C A B 0, (.leaf (.exit 0) (rsaC k cl nm rv sr C A B A.length))⟩ := by
 have hi := ((opW_iff A).1 hw)
 obtain ⟨hx, hfl⟩ : True ∧ fst0 badO A = A.length := ⟨trivial, by rcases ix_in badO A with ⟨_, h2, h3⟩ | ⟨_, h2, h3⟩ <;> first | exact h3 | (rw [hb] at h2; cases h2)⟩
 refine LpD.ok_one (b := bodyAt Try.prog 41 4) rfl (loop_W tabR1_ok (fuel := 4) (d := 5) (X := { i : Nat // i ≤ fst0 badO A }) (fun x => rsaC k cl nm rv sr C A B x.1) (fun x => fst0 badO A - x.1)
   (fun _ => (.leaf (.exit 0) (rsaC k cl nm rv sr C A B A.length))) (fun _ => noLpW) (fun _ => noLp) (fun _ => noLp_ad) (fun _ => noLp_ok _) ?_ ⟨0, Nat.zero_le _⟩)
 have hm := fst0_le badO A
 have hl := hi.1
 rintro ⟨i, hi2⟩
 dsimp only
 rcases Nat.lt_or_ge i (fst0 badO A) with hlf | hgf
 case' inl =>
  have hlt : i < A.length := by omega
  obtain ⟨w0, w1, w2, w3a, w3b⟩ : ((Sym.rowAt opT A (Int.toNat (i : Int))).2.1).size ≤ 1000000 ∧ ((Sym.rowAt opT A (Int.toNat (i : Int))).2.2.1).size ≤ 1000000 ∧ ((Sym.rowAt opT A (Int.toNat (i : Int))).2.2.2.1).size ≤ 1000000 ∧ @LE.le Int _ 0 (Sym.rowAt opT A (Int.toNat (i : Int))).2.2.2.2.1 ∧ @LT.lt Int _ (Sym.rowAt opT A (Int.toNat (i : Int))).2.2.2.2.1 18446744073709551616 := by rw [show Int.toNat (i : Int) = i from Int.toNat_natCast i]; exact (hi).2 i hlt
  have hp := fst0_not badO A hlf
  have hp : mayO (Sym.rowAt opT A (Int.toNat (i : Int))) = true := by rw [show Int.toNat (i : Int) = i from Int.toNat_natCast i]; rw [badO_eq, Bool.not_eq_false'] at hp; exact hp
 case' inr =>
  have he : i = fst0 badO A := Nat.le_antisymm hi2 hgf
  have hq : i = A.length := by omega
  subst hq
 all_goals
  repeat' ((conv => whnf); first | (with_reducible first | (refine W1.o ?_; constructor) | rfl | exact castL_self _ _) | ((with_reducible refine V.same_t ?_); exact rfl) | ((with_reducible refine andB_room ?_ ?_ ?_); (· kernel_rfl); (· (first | omega | (simp only [lens] <;> omega)))) | ((with_reducible refine W2.o ?_; constructor); · (first | with_reducible assumption | omega | (simp only [lens] <;> omega))) | ((with_reducible refine W3.o ?_; constructor); · (first | with_reducible assumption | omega | (simp only [lens] <;> omega))) | ((with_reducible refine W4.o ?_; constructor); · (first | (with_reducible first | assumption | exact decide_eq_true rfl | exact sEq_self _) | ((with_reducible refine eqOK_i ?_); kernel_rfl) | exact hp)) | ((with_reducible refine iteB_f ?_ ?_); · (first | (with_reducible first | assumption | exact decide_eq_true rfl | exact sEq_self _) | ((with_reducible refine eqOK_i ?_); kernel_rfl) | exact hp)) | (refine ⟨⟨i + 1, hlf⟩, ?_, rfl, ?_⟩) | (with_reducible refine CD.wk_au ?_) | (with_reducible refine W5.o ?_; constructor) | ((with_reducible refine W6.o ?_; constructor) <;> intro hB))
  all_goals ((conv => whnf); (try dsimp only); (try simp only [Nat.succ_eq_add_one, Nat.le_eq, castL_self]); (try omega))
  all_goals (try (first | omega | (simp only [lens] <;> omega)))
  all_goals first
   | exact rfl
   | omega
theorem rsa_y (N : Nat) (hw : opW A = true) (hb : anyB badO A = true) : LpD.ok Try.prog N 0 (bodyOf Try.prog 41) ⟨4, [(0, 0)], rsaC k cl nm rv sr C A B 0, (.leaf .ret rsR)⟩ := by
 have hi := ((opW_iff A).1 hw)
 obtain ⟨hx, hfl⟩ : True ∧ fst0 badO A < A.length := ⟨trivial, by rcases ix_in badO A with ⟨_, h2, h3⟩ | ⟨_, h2, h3⟩ <;> first | exact h3 | (rw [hb] at h2; cases h2)⟩
 refine LpD.ok_one (b := bodyAt Try.prog 41 4) rfl (loop_W tabR1_ok (fuel := 4) (d := 5) (X := { i : Nat // i ≤ fst0 badO A }) (fun x => rsaC k cl nm rv sr C A B x.1) (fun x => fst0 badO A - x.1)
   (fun _ => (.leaf .ret rsR)) (fun _ => noLpW) (fun _ => noLp) (fun _ => noLp_ad) (fun _ => noLp_ok _) ?_ ⟨0, Nat.zero_le _⟩)
 have hm := fst0_le badO A
 have hl := hi.1
 rintro ⟨i, hi2⟩
 dsimp only
 rcases Nat.lt_or_ge i (fst0 badO A) with hlf | hgf
 case' inl =>
  have hlt : i < A.length := by omega
  obtain ⟨w0, w1, w2, w3a, w3b⟩ : ((Sym.rowAt opT A (Int.toNat (i : Int))).2.1).size ≤ 1000000 ∧ ((Sym.rowAt opT A (Int.toNat (i : Int))).2.2.1).size ≤ 1000000 ∧ ((Sym.rowAt opT A (Int.toNat (i : Int))).2.2.2.1).size ≤ 1000000 ∧ @LE.le Int _ 0 (Sym.rowAt opT A (Int.toNat (i : Int))).2.2.2.2.1 ∧ @LT.lt Int _ (Sym.rowAt opT A (Int.toNat (i : Int))).2.2.2.2.1 18446744073709551616 := by rw [show Int.toNat (i : Int) = i from Int.toNat_natCast i]; exact (hi).2 i hlt
  have hp := fst0_not badO A hlf
  have hp : mayO (Sym.rowAt opT A (Int.toNat (i : Int))) = true := by rw [show Int.toNat (i : Int) = i from Int.toNat_natCast i]; rw [badO_eq, Bool.not_eq_false'] at hp; exact hp
 case' inr =>
  have he : i = fst0 badO A := Nat.le_antisymm hi2 hgf
  have hlt : i < A.length := by omega
  obtain ⟨w0, w1, w2, w3a, w3b⟩ : ((Sym.rowAt opT A (Int.toNat (i : Int))).2.1).size ≤ 1000000 ∧ ((Sym.rowAt opT A (Int.toNat (i : Int))).2.2.1).size ≤ 1000000 ∧ ((Sym.rowAt opT A (Int.toNat (i : Int))).2.2.2.1).size ≤ 1000000 ∧ @LE.le Int _ 0 (Sym.rowAt opT A (Int.toNat (i : Int))).2.2.2.2.1 ∧ @LT.lt Int _ (Sym.rowAt opT A (Int.toNat (i : Int))).2.2.2.2.1 18446744073709551616 := by rw [show Int.toNat (i : Int) = i from Int.toNat_natCast i]; exact (hi).2 i hlt
  have hp := fst0_is badO A hfl
  rw [← he] at hp
  have hp : mayO (Sym.rowAt opT A (Int.toNat (i : Int))) = false := by rw [show Int.toNat (i : Int) = i from Int.toNat_natCast i]; rw [badO_eq, Bool.not_eq_true'] at hp; exact hp
 all_goals
  repeat' ((conv => whnf); first | (with_reducible first | (refine W1.o ?_; constructor) | rfl | exact castL_self _ _) | ((with_reducible refine V.same_t ?_); exact rfl) | ((with_reducible refine andB_room ?_ ?_ ?_); (· kernel_rfl); (· (first | omega | (simp only [lens] <;> omega)))) | ((with_reducible refine W2.o ?_; constructor); · (first | with_reducible assumption | omega | (simp only [lens] <;> omega))) | ((with_reducible refine W3.o ?_; constructor); · (first | with_reducible assumption | omega | (simp only [lens] <;> omega))) | ((with_reducible refine W4.o ?_; constructor); · (first | (with_reducible first | assumption | exact decide_eq_true rfl | exact sEq_self _) | ((with_reducible refine eqOK_i ?_); kernel_rfl) | exact hp)) | ((with_reducible refine iteB_f ?_ ?_); · (first | (with_reducible first | assumption | exact decide_eq_true rfl | exact sEq_self _) | ((with_reducible refine eqOK_i ?_); kernel_rfl) | exact hp)) | (refine ⟨⟨i + 1, hlf⟩, ?_, rfl, ?_⟩) | (with_reducible refine CD.wk_au ?_) | (with_reducible refine W5.o ?_; constructor) | ((with_reducible refine W6.o ?_; constructor) <;> intro hB))
  all_goals ((conv => whnf); (try dsimp only); (try simp only [Nat.succ_eq_add_one, Nat.le_eq, castL_self]); (try omega))
  all_goals (try (first | omega | (simp only [lens] <;> omega)))
  all_goals first
   | exact rfl
   | omega
theorem rsb_n (N : Nat) (hw : opW B = true) (hb : anyB badO B = false) : LpD.ok Try.prog N 0 (bodyOf Try.prog 41) ⟨9, [(0, 0)], rsbC k cl nm rv sr C A B 0, (.leaf (.exit 2) (rsbC k cl nm rv sr C A B B.length))⟩ := by
 have hi := ((opW_iff B).1 hw)
 obtain ⟨hx, hfl⟩ : True ∧ fst0 badO B = B.length := ⟨trivial, by rcases ix_in badO B with ⟨_, h2, h3⟩ | ⟨_, h2, h3⟩ <;> first | exact h3 | (rw [hb] at h2; cases h2)⟩
 refine LpD.ok_one (b := bodyAt Try.prog 41 9) rfl (loop_W tabR1_ok (fuel := 4) (d := 5) (X := { i : Nat // i ≤ fst0 badO B }) (fun x => rsbC k cl nm rv sr C A B x.1) (fun x => fst0 badO B - x.1)
   (fun _ => (.leaf (.exit 2) (rsbC k cl nm rv sr C A B B.length))) (fun _ => noLpW) (fun _ => noLp) (fun _ => noLp_ad) (fun _ => noLp_ok _) ?_ ⟨0, Nat.zero_le _⟩)
 have hm := fst0_le badO B
 have hl := hi.1
 rintro ⟨i, hi2⟩
 dsimp only
 rcases Nat.lt_or_ge i (fst0 badO B) with hlf | hgf
 case' inl =>
  have hlt : i < B.length := by omega
  obtain ⟨w0, w1, w2, w3a, w3b⟩ : ((Sym.rowAt opT B (Int.toNat (i : Int))).2.1).size ≤ 1000000 ∧ ((Sym.rowAt opT B (Int.toNat (i : Int))).2.2.1).size ≤ 1000000 ∧ ((Sym.rowAt opT B (Int.toNat (i : Int))).2.2.2.1).size ≤ 1000000 ∧ @LE.le Int _ 0 (Sym.rowAt opT B (Int.toNat (i : Int))).2.2.2.2.1 ∧ @LT.lt Int _ (Sym.rowAt opT B (Int.toNat (i : Int))).2.2.2.2.1 18446744073709551616 := by rw [show Int.toNat (i : Int) = i from Int.toNat_natCast i]; exact (hi).2 i hlt
  have hp := fst0_not badO B hlf
  have hp : mayO (Sym.rowAt opT B (Int.toNat (i : Int))) = true := by rw [show Int.toNat (i : Int) = i from Int.toNat_natCast i]; rw [badO_eq, Bool.not_eq_false'] at hp; exact hp
 case' inr =>
  have he : i = fst0 badO B := Nat.le_antisymm hi2 hgf
  have hq : i = B.length := by omega
  subst hq
 all_goals
  repeat' ((conv => whnf); first | (with_reducible first | (refine W1.o ?_; constructor) | rfl | exact castL_self _ _) | ((with_reducible refine V.same_t ?_); exact rfl) | ((with_reducible refine andB_room ?_ ?_ ?_); (· kernel_rfl); (· (first | omega | (simp only [lens] <;> omega)))) | ((with_reducible refine W2.o ?_; constructor); · (first | with_reducible assumption | omega | (simp only [lens] <;> omega))) | ((with_reducible refine W3.o ?_; constructor); · (first | with_reducible assumption | omega | (simp only [lens] <;> omega))) | ((with_reducible refine W4.o ?_; constructor); · (first | (with_reducible first | assumption | exact decide_eq_true rfl | exact sEq_self _) | ((with_reducible refine eqOK_i ?_); kernel_rfl) | exact hp)) | ((with_reducible refine iteB_f ?_ ?_); · (first | (with_reducible first | assumption | exact decide_eq_true rfl | exact sEq_self _) | ((with_reducible refine eqOK_i ?_); kernel_rfl) | exact hp)) | (refine ⟨⟨i + 1, hlf⟩, ?_, rfl, ?_⟩) | (with_reducible refine CD.wk_au ?_) | (with_reducible refine W5.o ?_; constructor) | ((with_reducible refine W6.o ?_; constructor) <;> intro hB))
  all_goals ((conv => whnf); (try dsimp only); (try simp only [Nat.succ_eq_add_one, Nat.le_eq, castL_self]); (try omega))
  all_goals (try (first | omega | (simp only [lens] <;> omega)))
  all_goals first
   | exact rfl
   | omega
theorem rsb_y (N : Nat) (hw : opW B = true) (hb : anyB badO B = true) : LpD.ok Try.prog N 0 (bodyOf Try.prog 41) ⟨9, [(0, 0)], rsbC k cl nm rv sr C A B 0, (.leaf .ret rsR)⟩ := by
 have hi := ((opW_iff B).1 hw)
 obtain ⟨hx, hfl⟩ : True ∧ fst0 badO B < B.length := ⟨trivial, by rcases ix_in badO B with ⟨_, h2, h3⟩ | ⟨_, h2, h3⟩ <;> first | exact h3 | (rw [hb] at h2; cases h2)⟩
 refine LpD.ok_one (b := bodyAt Try.prog 41 9) rfl (loop_W tabR1_ok (fuel := 4) (d := 5) (X := { i : Nat // i ≤ fst0 badO B }) (fun x => rsbC k cl nm rv sr C A B x.1) (fun x => fst0 badO B - x.1)
   (fun _ => (.leaf .ret rsR)) (fun _ => noLpW) (fun _ => noLp) (fun _ => noLp_ad) (fun _ => noLp_ok _) ?_ ⟨0, Nat.zero_le _⟩)
 have hm := fst0_le badO B
 have hl := hi.1
 rintro ⟨i, hi2⟩
 dsimp only
 rcases Nat.lt_or_ge i (fst0 badO B) with hlf | hgf
 case' inl =>
  have hlt : i < B.length := by omega
  obtain ⟨w0, w1, w2, w3a, w3b⟩ : ((Sym.rowAt opT B (Int.toNat (i : Int))).2.1).size ≤ 1000000 ∧ ((Sym.rowAt opT B (Int.toNat (i : Int))).2.2.1).size ≤ 1000000 ∧ ((Sym.rowAt opT B (Int.toNat (i : Int))).2.2.2.1).size ≤ 1000000 ∧ @LE.le Int _ 0 (Sym.rowAt opT B (Int.toNat (i : Int))).2.2.2.2.1 ∧ @LT.lt Int _ (Sym.rowAt opT B (Int.toNat (i : Int))).2.2.2.2.1 18446744073709551616 := by rw [show Int.toNat (i : Int) = i from Int.toNat_natCast i]; exact (hi).2 i hlt
  have hp := fst0_not badO B hlf
  have hp : mayO (Sym.rowAt opT B (Int.toNat (i : Int))) = true := by rw [show Int.toNat (i : Int) = i from Int.toNat_natCast i]; rw [badO_eq, Bool.not_eq_false'] at hp; exact hp
 case' inr =>
  have he : i = fst0 badO B := Nat.le_antisymm hi2 hgf
  have hlt : i < B.length := by omega
  obtain ⟨w0, w1, w2, w3a, w3b⟩ : ((Sym.rowAt opT B (Int.toNat (i : Int))).2.1).size ≤ 1000000 ∧ ((Sym.rowAt opT B (Int.toNat (i : Int))).2.2.1).size ≤ 1000000 ∧ ((Sym.rowAt opT B (Int.toNat (i : Int))).2.2.2.1).size ≤ 1000000 ∧ @LE.le Int _ 0 (Sym.rowAt opT B (Int.toNat (i : Int))).2.2.2.2.1 ∧ @LT.lt Int _ (Sym.rowAt opT B (Int.toNat (i : Int))).2.2.2.2.1 18446744073709551616 := by rw [show Int.toNat (i : Int) = i from Int.toNat_natCast i]; exact (hi).2 i hlt
  have hp := fst0_is badO B hfl
  rw [← he] at hp
  have hp : mayO (Sym.rowAt opT B (Int.toNat (i : Int))) = false := by rw [show Int.toNat (i : Int) = i from Int.toNat_natCast i]; rw [badO_eq, Bool.not_eq_true'] at hp; exact hp
 all_goals
  repeat' ((conv => whnf); first | (with_reducible first | (refine W1.o ?_; constructor) | rfl | exact castL_self _ _) | ((with_reducible refine V.same_t ?_); exact rfl) | ((with_reducible refine andB_room ?_ ?_ ?_); (· kernel_rfl); (· (first | omega | (simp only [lens] <;> omega)))) | ((with_reducible refine W2.o ?_; constructor); · (first | with_reducible assumption | omega | (simp only [lens] <;> omega))) | ((with_reducible refine W3.o ?_; constructor); · (first | with_reducible assumption | omega | (simp only [lens] <;> omega))) | ((with_reducible refine W4.o ?_; constructor); · (first | (with_reducible first | assumption | exact decide_eq_true rfl | exact sEq_self _) | ((with_reducible refine eqOK_i ?_); kernel_rfl) | exact hp)) | ((with_reducible refine iteB_f ?_ ?_); · (first | (with_reducible first | assumption | exact decide_eq_true rfl | exact sEq_self _) | ((with_reducible refine eqOK_i ?_); kernel_rfl) | exact hp)) | (refine ⟨⟨i + 1, hlf⟩, ?_, rfl, ?_⟩) | (with_reducible refine CD.wk_au ?_) | (with_reducible refine W5.o ?_; constructor) | ((with_reducible refine W6.o ?_; constructor) <;> intro hB))
  all_goals ((conv => whnf); (try dsimp only); (try simp only [Nat.succ_eq_add_one, Nat.le_eq, castL_self]); (try omega))
  all_goals (try (first | omega | (simp only [lens] <;> omega)))
  all_goals first
   | exact rfl
   | omega
theorem rstcheck_at (wC : cmW C = true) (wA : opW A = true) (wB : opW B = true) : PureAt Try.prog 41 [(.agg [.int .i64 k, .int .u64 cl, .int .u64 nm, .bool sr, .lst cmT C false, .lst opT A false, .lst opT B false, .int .u64 rv])] (.int .i64 (stE k C A B)) := by
 have e : stE k C A B = bif decide (k = 0 ∧ hcE C = 0 ∧ A.length ≤ 6 ∧ B.length ≤ 6 ∧ anyB badO A = false ∧ anyB badO B = false) then 0 else 11 := by rw [stE_eq, stB_eq]
 cases ha : anyB badO A <;> cases hb : anyB badO B
 ·refine pure_of_loops tabR1_ok (fuel := 4) (d := 5) [⟨4, [(0, 0)], rsaC k cl nm rv sr C A B 0, .leaf (.exit 0) (rsaC k cl nm rv sr C A B A.length)⟩, ⟨9, [(0, 0)], rsbC k cl nm rv sr C A B 0, .leaf (.exit 2) (rsbC k cl nm rv sr C A B B.length)⟩] (fun N y hy => ?_) ?_
  ·rcases List.mem_cons.1 hy with hy | hy
   ·rw [hy]; exact rsa_n k cl nm rv sr C A B N wA ha
   ·rw [List.mem_singleton.1 hy]; exact rsb_n k cl nm rv sr C A B N wB hb
  ·repeat' ((conv => whnf); first | (with_reducible first | (refine W1.o ?_; constructor) | rfl | exact castL_self _ _) | ((with_reducible refine V.same_t ?_); exact rfl) | ((with_reducible refine andB_room ?_ ?_ ?_); (· kernel_rfl); (· (first | omega | (simp only [lens] <;> omega)))) | ((with_reducible refine W2.o ?_; constructor); · (first | with_reducible assumption | omega | (simp only [lens] <;> omega))) | ((with_reducible refine W3.o ?_; constructor); · (first | with_reducible assumption | omega | (simp only [lens] <;> omega))) | ((with_reducible refine W4.o ?_; constructor); · (first | (with_reducible first | assumption | exact decide_eq_true rfl | exact sEq_self _) | ((with_reducible refine eqOK_i ?_); kernel_rfl) | (first | (exact wC)))) | ((with_reducible refine iteB_f ?_ ?_); · (first | (with_reducible first | assumption | exact decide_eq_true rfl | exact sEq_self _) | ((with_reducible refine eqOK_i ?_); kernel_rfl) | (first | (exact wC)))) | (with_reducible refine CD.wk_au ?_) | (with_reducible refine W5.o ?_; constructor) | ((with_reducible refine W6.o ?_; constructor) <;> intro hB))
   all_goals ((conv => whnf); (try dsimp only); (try simp only [Nat.succ_eq_add_one, Nat.le_eq, castL_self]); (try omega))
   all_goals (try (first | omega | (simp only [lens] <;> omega)))
   all_goals (rw [e]; clear e)
   all_goals first
    | (refine dec11 ?_; (try rw [ha]); (try rw [hb]); (try simp only [castL_self, eq_self, reduceCtorEq, and_true, and_false, true_and, false_and, or_false, false_or, not_false_eq_true, not_true_eq_false] at *) <;> omega)
    | (refine dec0 ?_; (try rw [ha]); (try rw [hb]); (try simp only [castL_self, eq_self, reduceCtorEq, and_true, and_false, true_and, false_and, or_false, false_or, not_false_eq_true, not_true_eq_false] at *) <;> omega)
 ·refine pure_of_loops tabR1_ok (fuel := 4) (d := 5) [⟨4, [(0, 0)], rsaC k cl nm rv sr C A B 0, .leaf (.exit 0) (rsaC k cl nm rv sr C A B A.length)⟩, ⟨9, [(0, 0)], rsbC k cl nm rv sr C A B 0, .leaf .ret rsR⟩] (fun N y hy => ?_) ?_
  ·rcases List.mem_cons.1 hy with hy | hy
   ·rw [hy]; exact rsa_n k cl nm rv sr C A B N wA ha
   ·rw [List.mem_singleton.1 hy]; exact rsb_y k cl nm rv sr C A B N wB hb
  ·repeat' ((conv => whnf); first | (with_reducible first | (refine W1.o ?_; constructor) | rfl | exact castL_self _ _) | ((with_reducible refine V.same_t ?_); exact rfl) | ((with_reducible refine andB_room ?_ ?_ ?_); (· kernel_rfl); (· (first | omega | (simp only [lens] <;> omega)))) | ((with_reducible refine W2.o ?_; constructor); · (first | with_reducible assumption | omega | (simp only [lens] <;> omega))) | ((with_reducible refine W3.o ?_; constructor); · (first | with_reducible assumption | omega | (simp only [lens] <;> omega))) | ((with_reducible refine W4.o ?_; constructor); · (first | (with_reducible first | assumption | exact decide_eq_true rfl | exact sEq_self _) | ((with_reducible refine eqOK_i ?_); kernel_rfl) | (first | (exact wC)))) | ((with_reducible refine iteB_f ?_ ?_); · (first | (with_reducible first | assumption | exact decide_eq_true rfl | exact sEq_self _) | ((with_reducible refine eqOK_i ?_); kernel_rfl) | (first | (exact wC)))) | (with_reducible refine CD.wk_au ?_) | (with_reducible refine W5.o ?_; constructor) | ((with_reducible refine W6.o ?_; constructor) <;> intro hB))
   all_goals ((conv => whnf); (try dsimp only); (try simp only [Nat.succ_eq_add_one, Nat.le_eq, castL_self]); (try omega))
   all_goals (try (first | omega | (simp only [lens] <;> omega)))
   all_goals (rw [e]; clear e)
   all_goals first
    | (refine dec11 ?_; (try rw [ha]); (try rw [hb]); (try simp only [castL_self, eq_self, reduceCtorEq, and_true, and_false, true_and, false_and, or_false, false_or, not_false_eq_true, not_true_eq_false] at *) <;> omega)
    | (refine dec0 ?_; (try rw [ha]); (try rw [hb]); (try simp only [castL_self, eq_self, reduceCtorEq, and_true, and_false, true_and, false_and, or_false, false_or, not_false_eq_true, not_true_eq_false] at *) <;> omega)
 ·refine pure_of_loops tabR1_ok (fuel := 4) (d := 5) [⟨4, [(0, 0)], rsaC k cl nm rv sr C A B 0, .leaf .ret rsR⟩, ⟨9, [(0, 0)], rsbC k cl nm rv sr C A B 0, .leaf (.exit 2) (rsbC k cl nm rv sr C A B B.length)⟩] (fun N y hy => ?_) ?_
  ·rcases List.mem_cons.1 hy with hy | hy
   ·rw [hy]; exact rsa_y k cl nm rv sr C A B N wA ha
   ·rw [List.mem_singleton.1 hy]; exact rsb_n k cl nm rv sr C A B N wB hb
  ·repeat' ((conv => whnf); first | (with_reducible first | (refine W1.o ?_; constructor) | rfl | exact castL_self _ _) | ((with_reducible refine V.same_t ?_); exact rfl) | ((with_reducible refine andB_room ?_ ?_ ?_); (· kernel_rfl); (· (first | omega | (simp only [lens] <;> omega)))) | ((with_reducible refine W2.o ?_; constructor); · (first | with_reducible assumption | omega | (simp only [lens] <;> omega))) | ((with_reducible refine W3.o ?_; constructor); · (first | with_reducible assumption | omega | (simp only [lens] <;> omega))) | ((with_reducible refine W4.o ?_; constructor); · (first | (with_reducible first | assumption | exact decide_eq_true rfl | exact sEq_self _) | ((with_reducible refine eqOK_i ?_); kernel_rfl) | (first | (exact wC)))) | ((with_reducible refine iteB_f ?_ ?_); · (first | (with_reducible first | assumption | exact decide_eq_true rfl | exact sEq_self _) | ((with_reducible refine eqOK_i ?_); kernel_rfl) | (first | (exact wC)))) | (with_reducible refine CD.wk_au ?_) | (with_reducible refine W5.o ?_; constructor) | ((with_reducible refine W6.o ?_; constructor) <;> intro hB))
   all_goals ((conv => whnf); (try dsimp only); (try simp only [Nat.succ_eq_add_one, Nat.le_eq, castL_self]); (try omega))
   all_goals (try (first | omega | (simp only [lens] <;> omega)))
   all_goals (rw [e]; clear e)
   all_goals first
    | (refine dec11 ?_; (try rw [ha]); (try rw [hb]); (try simp only [castL_self, eq_self, reduceCtorEq, and_true, and_false, true_and, false_and, or_false, false_or, not_false_eq_true, not_true_eq_false] at *) <;> omega)
    | (refine dec0 ?_; (try rw [ha]); (try rw [hb]); (try simp only [castL_self, eq_self, reduceCtorEq, and_true, and_false, true_and, false_and, or_false, false_or, not_false_eq_true, not_true_eq_false] at *) <;> omega)
 ·refine pure_of_loops tabR1_ok (fuel := 4) (d := 5) [⟨4, [(0, 0)], rsaC k cl nm rv sr C A B 0, .leaf .ret rsR⟩, ⟨9, [(0, 0)], rsbC k cl nm rv sr C A B 0, .leaf .ret rsR⟩] (fun N y hy => ?_) ?_
  ·rcases List.mem_cons.1 hy with hy | hy
   ·rw [hy]; exact rsa_y k cl nm rv sr C A B N wA ha
   ·rw [List.mem_singleton.1 hy]; exact rsb_y k cl nm rv sr C A B N wB hb
  ·repeat' ((conv => whnf); first | (with_reducible first | (refine W1.o ?_; constructor) | rfl | exact castL_self _ _) | ((with_reducible refine V.same_t ?_); exact rfl) | ((with_reducible refine andB_room ?_ ?_ ?_); (· kernel_rfl); (· (first | omega | (simp only [lens] <;> omega)))) | ((with_reducible refine W2.o ?_; constructor); · (first | with_reducible assumption | omega | (simp only [lens] <;> omega))) | ((with_reducible refine W3.o ?_; constructor); · (first | with_reducible assumption | omega | (simp only [lens] <;> omega))) | ((with_reducible refine W4.o ?_; constructor); · (first | (with_reducible first | assumption | exact decide_eq_true rfl | exact sEq_self _) | ((with_reducible refine eqOK_i ?_); kernel_rfl) | (first | (exact wC)))) | ((with_reducible refine iteB_f ?_ ?_); · (first | (with_reducible first | assumption | exact decide_eq_true rfl | exact sEq_self _) | ((with_reducible refine eqOK_i ?_); kernel_rfl) | (first | (exact wC)))) | (with_reducible refine CD.wk_au ?_) | (with_reducible refine W5.o ?_; constructor) | ((with_reducible refine W6.o ?_; constructor) <;> intro hB))
   all_goals ((conv => whnf); (try dsimp only); (try simp only [Nat.succ_eq_add_one, Nat.le_eq, castL_self]); (try omega))
   all_goals (try (first | omega | (simp only [lens] <;> omega)))
   all_goals (rw [e]; clear e)
   all_goals first
    | (refine dec11 ?_; (try rw [ha]); (try rw [hb]); (try simp only [castL_self, eq_self, reduceCtorEq, and_true, and_false, true_and, false_and, or_false, false_or, not_false_eq_true, not_true_eq_false] at *) <;> omega)
    | (refine dec0 ?_; (try rw [ha]); (try rw [hb]); (try simp only [castL_self, eq_self, reduceCtorEq, and_true, and_false, true_and, false_and, or_false, false_or, not_false_eq_true, not_true_eq_false] at *) <;> omega)
theorem rwrites_at (wA : opW A = true) (wB : opW B = true) : PureAt Try.prog 14 [(.agg [.int .i64 k, .int .u64 cl, .int .u64 nm, .bool sr, .lst cmT C false, .lst opT A false, .lst opT B false, .int .u64 rv])] (.bool (wrB k A B)) := by
 have e := wrB_eq k A B
 refine pure_of_W0 (tab := tabR1) (fuel := 4) (d := 6) tabR1_ok ?_
 cases a2 : anyB chgO A <;> cases b2 : anyB chgO B
 all_goals
  repeat' ((conv => whnf); first | (with_reducible first | (refine W1.o ?_; constructor) | rfl | exact castL_self _ _) | ((with_reducible refine V.same_t ?_); exact rfl) | ((with_reducible refine andB_room ?_ ?_ ?_); (· kernel_rfl); (· (first | omega | (simp only [lens] <;> omega)))) | ((with_reducible refine W2.o ?_; constructor); · (first | with_reducible assumption | omega | (simp only [lens] <;> omega))) | ((with_reducible refine W3.o ?_; constructor); · (first | with_reducible assumption | omega | (simp only [lens] <;> omega))) | ((with_reducible refine W4.o ?_; constructor); · (first | (with_reducible first | assumption | exact decide_eq_true rfl | exact sEq_self _) | ((with_reducible refine eqOK_i ?_); kernel_rfl) | exact wA | exact wB | exact a2 | exact b2)) | ((with_reducible refine iteB_f ?_ ?_); · (first | (with_reducible first | assumption | exact decide_eq_true rfl | exact sEq_self _) | ((with_reducible refine eqOK_i ?_); kernel_rfl) | exact wA | exact wB | exact a2 | exact b2)) | (with_reducible refine W5.o ?_; constructor) | ((with_reducible refine W6.o ?_; constructor) <;> intro hB))
  all_goals ((conv => whnf); (try dsimp only); (try simp only [Nat.succ_eq_add_one, Nat.le_eq, castL_self]); (try omega))
  all_goals (try (first | omega | (simp only [lens] <;> omega)))
  all_goals (rw [e, a2, b2]; refine congrArg V.bool ?_; clear e wA wB)
  all_goals first
   | (simp [*]; done)
end
end Go.Proofs.Ytaloolcabmfjbaa
end
