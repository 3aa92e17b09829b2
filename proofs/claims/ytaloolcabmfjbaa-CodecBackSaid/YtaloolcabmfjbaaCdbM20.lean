/-
  Texts of this claim, one behind the other: CdCut CdCuR CdBak SymU CdBakFin EngP CdbEnd. Each says its own conditions.
-/
import Derived.Test.YtaloolcabmfjbaaCdbM15
import Derived.Test.YtaloolcabmfjbaaCdbM19
import Derived.Test.YtaloolcabmfjbaaCdbM17
import Derived.Test.YtaloolcabmfjbaaCdbM18
import Derived.Test.YtaloolcabmfjbaaCdbM5
import Derived.Deep.Slices
import Derived.ChangeArms
import Derived.WideShapes
import Derived.OpenShut
import Derived.Below
import Derived.ChangeSame
import Derived.WalkKit
import Derived.ProofKit

set_option linter.unusedVariables false
set_option linter.unusedSimpArgs false
set_option linter.unusedSectionVars false
section
namespace Go.Proofs.Ytaloolcabmfjbaa
open Go.Sym
set_option linter.unusedVariables false
set_option linter.unusedSimpArgs false
set_option maxRecDepth 100000
set_option maxHeartbeats 4000000
noncomputable def opxC (L : List OpQ) (i : Nat) : CD := ⟨49, [(0, .lst opT L false), (3, .rs 0 0 (cuA opU L i).length (cuA opU L i).length false 9), (4, .int .i64 (i : Int))], [], [(0, .rows opT (cuA opU L i) 0 false)], 1⟩
theorem opx_lp (L : List OpQ) (N : Nat) (hl : L.length ≤ 9223372036854775807) : LpD.ok Try.prog N 0 (bodyOf Try.prog 25) ⟨3, [], opxC L 0, .leaf (.exit 0) (opxC L (min L.length 8))⟩ := by
 refine LpD.ok_one (b := bodyAt Try.prog 25 3) rfl (loop_W noTab_ok (fuel := 4) (d := 5) (X := { i : Nat // i ≤ min L.length 8 }) (fun x => opxC L x.1) (fun x => min L.length 8 - x.1)
   (fun _ => .leaf (.exit 0) (opxC L (min L.length 8))) (fun _ => noLpW) (fun _ => noLp) (fun _ => noLp_ad) (fun _ => noLp_ok _) ?_ ⟨0, Nat.zero_le _⟩)
 rintro ⟨i, hi⟩
 dsimp only
 have ha := cuA_len opU L i
 rcases Nat.lt_or_ge i (min L.length 8) with hlt | hge
 ·have es : cuA opU L (i + 1) = cuA opU L i ++ [opU (Sym.rowAt opT L (Int.toNat (i : Int)))] := cuA_succ opU L i
  have eu : opU (Sym.rowAt opT L (Int.toNat (i : Int))) = ((Sym.rowAt opT L (Int.toNat (i : Int))).1, cutN 40 (Sym.rowAt opT L (Int.toNat (i : Int))).2.1, cutN 40 (Sym.rowAt opT L (Int.toNat (i : Int))).2.2.1, cutN 40 (Sym.rowAt opT L (Int.toNat (i : Int))).2.2.2.1, (Sym.rowAt opT L (Int.toNat (i : Int))).2.2.2.2.1, (Sym.rowAt opT L (Int.toNat (i : Int))).2.2.2.2.2.1, (Sym.rowAt opT L (Int.toNat (i : Int))).2.2.2.2.2.2.1, (Sym.rowAt opT L (Int.toNat (i : Int))).2.2.2.2.2.2.2.1, (Sym.rowAt opT L (Int.toNat (i : Int))).2.2.2.2.2.2.2.2) := opU_eq _ _ _ _ _ _ _ _ _
  rw [eu] at es
  have k0 : cutN 40 (Sym.rowAt opT L (Int.toNat (i : Int))).2.1 = cutS (Sym.rowAt opT L (Int.toNat (i : Int))).2.1 0 (Int.toNat (min (((Sym.rowAt opT L (Int.toNat (i : Int))).2.1).size : Int) 40)) := cutN_eq _ _
  have k1 : cutN 40 (Sym.rowAt opT L (Int.toNat (i : Int))).2.2.1 = cutS (Sym.rowAt opT L (Int.toNat (i : Int))).2.2.1 0 (Int.toNat (min (((Sym.rowAt opT L (Int.toNat (i : Int))).2.2.1).size : Int) 40)) := cutN_eq _ _
  have k2 : cutN 40 (Sym.rowAt opT L (Int.toNat (i : Int))).2.2.2.1 = cutS (Sym.rowAt opT L (Int.toNat (i : Int))).2.2.2.1 0 (Int.toNat (min (((Sym.rowAt opT L (Int.toNat (i : Int))).2.2.2.1).size : Int) 40)) := cutN_eq _ _
  repeat' ((conv => whnf); first | (with_reducible first | (refine W1.o ?_; constructor) | rfl | exact castL_self _ _) | ((with_reducible refine V.same_t ?_); exact rfl) | ((with_reducible refine andB_room ?_ ?_ ?_); (· kernel_rfl); (· (first | omega | (simp only [lens] <;> omega)))) | ((with_reducible refine W2.o ?_; constructor); · (first | (with_reducible assumption) | (first | omega | (simp only [lens] <;> omega)))) | ((with_reducible refine W3.o ?_; constructor); · (first | (with_reducible assumption) | (first | omega | (simp only [lens] <;> omega)))) | ((with_reducible refine W4.o ?_; constructor); · (first | (with_reducible first | assumption | exact decide_eq_true rfl | exact sEq_self _) | ((with_reducible refine eqOK_i ?_); kernel_rfl))) | ((with_reducible refine iteB_f ?_ ?_); · (first | (with_reducible first | assumption | exact decide_eq_true rfl | exact sEq_self _) | ((with_reducible refine eqOK_i ?_); kernel_rfl))) | (refine ⟨⟨i + 1, hlt⟩, ?_, rfl, ?_⟩) | (with_reducible refine CD.wk_au ?_) | (with_reducible refine W5.o ?_; constructor) | ((with_reducible refine W6.o ?_; constructor) <;> intro hB))
  all_goals ((conv => whnf); (try dsimp only); (try simp only [Nat.succ_eq_add_one, Nat.le_eq, castL_self]); (try omega))
  all_goals (try (first | omega | (simp only [lens] <;> omega)))
  all_goals first
   | exact rfl
   | omega
   | (rw [es]; simp only [k0, k1, k2]; done)
   | (simp only [es, ha, lens] <;> omega)
   | (simp (disch := (simp only [ha, lens] <;> omega)) only [seg_all, castL_self]; rw [es]; simp only [k0, k1, k2]; done)
   | (simp (disch := (simp only [ha, lens] <;> omega)) only [seg_all, castL_self]; rw [es]; simp only [k0, k1, k2]; exact rfl)
   | trace_state
 ·have he : i = min L.length 8 := Nat.le_antisymm hi hge
  subst he
  repeat' ((conv => whnf); first | (with_reducible first | (refine W1.o ?_; constructor) | rfl | exact castL_self _ _) | ((with_reducible refine V.same_t ?_); exact rfl) | ((with_reducible refine andB_room ?_ ?_ ?_); (· kernel_rfl); (· (first | omega | (simp only [lens] <;> omega)))) | ((with_reducible refine W2.o ?_; constructor); · (first | (with_reducible assumption) | (first | omega | (simp only [lens] <;> omega)))) | ((with_reducible refine W3.o ?_; constructor); · (first | (with_reducible assumption) | (first | omega | (simp only [lens] <;> omega)))) | ((with_reducible refine W4.o ?_; constructor); · (first | (with_reducible first | assumption | exact decide_eq_true rfl | exact sEq_self _) | ((with_reducible refine eqOK_i ?_); kernel_rfl))) | ((with_reducible refine iteB_f ?_ ?_); · (first | (with_reducible first | assumption | exact decide_eq_true rfl | exact sEq_self _) | ((with_reducible refine eqOK_i ?_); kernel_rfl))) | (with_reducible refine CD.wk_au ?_) | (with_reducible refine W5.o ?_; constructor) | ((with_reducible refine W6.o ?_; constructor) <;> intro hB))
  all_goals ((conv => whnf); (try dsimp only); (try simp only [Nat.succ_eq_add_one, Nat.le_eq, castL_self]); (try omega))
  all_goals (try (first | omega | (simp only [lens] <;> omega)))
  all_goals first
   | exact rfl
   | trace_state
theorem opx_at (L : List OpQ) (hl : L.length ≤ 9223372036854775807) : PureAt Try.prog 25 [.lst opT L false] (.lst opT (cuZ opU 8 L) false) := by
 have q0 := cuA_0 opU L
 have eZ := cuZ_eq opU 8 L
 refine pure_of_loops noTab_ok (fuel := 4) (d := 5) [⟨3, [], opxC L 0, .leaf (.exit 0) (opxC L (min L.length 8))⟩] (fun N y hy => by rw [List.mem_singleton.1 hy]; exact opx_lp L N hl) ?_
 repeat' ((conv => whnf); first | (with_reducible first | (refine W1.o ?_; constructor) | rfl | exact castL_self _ _) | ((with_reducible refine V.same_t ?_); exact rfl) | ((with_reducible refine andB_room ?_ ?_ ?_); (· kernel_rfl); (· (first | omega | (simp only [lens] <;> omega)))) | ((with_reducible refine W2.o ?_; constructor); · (first | (with_reducible assumption) | (first | omega | (simp only [lens] <;> omega)))) | ((with_reducible refine W3.o ?_; constructor); · (first | (with_reducible assumption) | (first | omega | (simp only [lens] <;> omega)))) | ((with_reducible refine W4.o ?_; constructor); · (first | (with_reducible first | assumption | exact decide_eq_true rfl | exact sEq_self _) | ((with_reducible refine eqOK_i ?_); kernel_rfl))) | ((with_reducible refine iteB_f ?_ ?_); · (first | (with_reducible first | assumption | exact decide_eq_true rfl | exact sEq_self _) | ((with_reducible refine eqOK_i ?_); kernel_rfl))) | (with_reducible refine CD.wk_au ?_) | (with_reducible refine W5.o ?_; constructor) | ((with_reducible refine W6.o ?_; constructor) <;> intro hB))
 all_goals ((conv => whnf); (try dsimp only); (try simp only [Nat.succ_eq_add_one, Nat.le_eq, castL_self]); (try omega))
 all_goals (try (first | omega | (simp only [lens] <;> omega)))
 all_goals first
  | exact rfl
  | exact q0.symm
  | (rw [q0]; exact rfl)
  | (rw [seg_all _ rfl]; exact eZ.symm)
  | (rw [seg_all _ rfl, ← eZ]; done)
  | exact congrArg (fun l => V.lst opT l false) ((seg_all _ rfl).trans eZ.symm)
  | trace_state
noncomputable def kvxC (L : List KvQ) (i : Nat) : CD := ⟨41, [(0, .lst kvT L false), (3, .rs 0 0 (cuA kvU L i).length (cuA kvU L i).length false 5), (4, .int .i64 (i : Int))], [], [(0, .rows kvT (cuA kvU L i) 0 false)], 1⟩
theorem kvx_lp (L : List KvQ) (N : Nat) (hl : L.length ≤ 9223372036854775807) : LpD.ok Try.prog N 0 (bodyOf Try.prog 46) ⟨3, [], kvxC L 0, .leaf (.exit 0) (kvxC L (min L.length 10))⟩ := by
 refine LpD.ok_one (b := bodyAt Try.prog 46 3) rfl (loop_W noTab_ok (fuel := 4) (d := 5) (X := { i : Nat // i ≤ min L.length 10 }) (fun x => kvxC L x.1) (fun x => min L.length 10 - x.1)
   (fun _ => .leaf (.exit 0) (kvxC L (min L.length 10))) (fun _ => noLpW) (fun _ => noLp) (fun _ => noLp_ad) (fun _ => noLp_ok _) ?_ ⟨0, Nat.zero_le _⟩)
 rintro ⟨i, hi⟩
 dsimp only
 have ha := cuA_len kvU L i
 rcases Nat.lt_or_ge i (min L.length 10) with hlt | hge
 ·have es : cuA kvU L (i + 1) = cuA kvU L i ++ [kvU (Sym.rowAt kvT L (Int.toNat (i : Int)))] := cuA_succ kvU L i
  have eu : kvU (Sym.rowAt kvT L (Int.toNat (i : Int))) = (cutN 60 (Sym.rowAt kvT L (Int.toNat (i : Int))).1, cutN 60 (Sym.rowAt kvT L (Int.toNat (i : Int))).2.1, (Sym.rowAt kvT L (Int.toNat (i : Int))).2.2.1, (Sym.rowAt kvT L (Int.toNat (i : Int))).2.2.2.1, (Sym.rowAt kvT L (Int.toNat (i : Int))).2.2.2.2) := kvU_eq _ _ _ _ _
  rw [eu] at es
  have k0 : cutN 60 (Sym.rowAt kvT L (Int.toNat (i : Int))).1 = cutS (Sym.rowAt kvT L (Int.toNat (i : Int))).1 0 (Int.toNat (min (((Sym.rowAt kvT L (Int.toNat (i : Int))).1).size : Int) 60)) := cutN_eq _ _
  have k1 : cutN 60 (Sym.rowAt kvT L (Int.toNat (i : Int))).2.1 = cutS (Sym.rowAt kvT L (Int.toNat (i : Int))).2.1 0 (Int.toNat (min (((Sym.rowAt kvT L (Int.toNat (i : Int))).2.1).size : Int) 60)) := cutN_eq _ _
  repeat' ((conv => whnf); first | (with_reducible first | (refine W1.o ?_; constructor) | rfl | exact castL_self _ _) | ((with_reducible refine V.same_t ?_); exact rfl) | ((with_reducible refine andB_room ?_ ?_ ?_); (· kernel_rfl); (· (first | omega | (simp only [lens] <;> omega)))) | ((with_reducible refine W2.o ?_; constructor); · (first | (with_reducible assumption) | (first | omega | (simp only [lens] <;> omega)))) | ((with_reducible refine W3.o ?_; constructor); · (first | (with_reducible assumption) | (first | omega | (simp only [lens] <;> omega)))) | ((with_reducible refine W4.o ?_; constructor); · (first | (with_reducible first | assumption | exact decide_eq_true rfl | exact sEq_self _) | ((with_reducible refine eqOK_i ?_); kernel_rfl))) | ((with_reducible refine iteB_f ?_ ?_); · (first | (with_reducible first | assumption | exact decide_eq_true rfl | exact sEq_self _) | ((with_reducible refine eqOK_i ?_); kernel_rfl))) | (refine ⟨⟨i + 1, hlt⟩, ?_, rfl, ?_⟩) | (with_reducible refine CD.wk_au ?_) | (with_reducible refine W5.o ?_; constructor) | ((with_reducible refine W6.o ?_; constructor) <;> intro hB))
  all_goals ((conv => whnf); (try dsimp only); (try simp only [Nat.succ_eq_add_one, Nat.le_eq, castL_self]); (try omega))
  all_goals (try (first | omega | (simp only [lens] <;> omega)))
  all_goals first
   | exact rfl
   | omega
   | (rw [es]; simp only [k0, k1]; done)
   | (simp only [es, ha, lens] <;> omega)
   | (simp (disch := (simp only [ha, lens] <;> omega)) only [seg_all, castL_self]; rw [es]; simp only [k0, k1]; done)
   | (simp (disch := (simp only [ha, lens] <;> omega)) only [seg_all, castL_self]; rw [es]; simp only [k0, k1]; exact rfl)
   | trace_state
 ·have he : i = min L.length 10 := Nat.le_antisymm hi hge
  subst he
  repeat' ((conv => whnf); first | (with_reducible first | (refine W1.o ?_; constructor) | rfl | exact castL_self _ _) | ((with_reducible refine V.same_t ?_); exact rfl) | ((with_reducible refine andB_room ?_ ?_ ?_); (· kernel_rfl); (· (first | omega | (simp only [lens] <;> omega)))) | ((with_reducible refine W2.o ?_; constructor); · (first | (with_reducible assumption) | (first | omega | (simp only [lens] <;> omega)))) | ((with_reducible refine W3.o ?_; constructor); · (first | (with_reducible assumption) | (first | omega | (simp only [lens] <;> omega)))) | ((with_reducible refine W4.o ?_; constructor); · (first | (with_reducible first | assumption | exact decide_eq_true rfl | exact sEq_self _) | ((with_reducible refine eqOK_i ?_); kernel_rfl))) | ((with_reducible refine iteB_f ?_ ?_); · (first | (with_reducible first | assumption | exact decide_eq_true rfl | exact sEq_self _) | ((with_reducible refine eqOK_i ?_); kernel_rfl))) | (with_reducible refine CD.wk_au ?_) | (with_reducible refine W5.o ?_; constructor) | ((with_reducible refine W6.o ?_; constructor) <;> intro hB))
  all_goals ((conv => whnf); (try dsimp only); (try simp only [Nat.succ_eq_add_one, Nat.le_eq, castL_self]); (try omega))
  all_goals (try (first | omega | (simp only [lens] <;> omega)))
  all_goals first
   | exact rfl
   | trace_state
theorem kvx_at (L : List KvQ) (hl : L.length ≤ 9223372036854775807) : PureAt Try.prog 46 [.lst kvT L false] (.lst kvT (cuZ kvU 10 L) false) := by
 have q0 := cuA_0 kvU L
 have eZ := cuZ_eq kvU 10 L
 refine pure_of_loops noTab_ok (fuel := 4) (d := 5) [⟨3, [], kvxC L 0, .leaf (.exit 0) (kvxC L (min L.length 10))⟩] (fun N y hy => by rw [List.mem_singleton.1 hy]; exact kvx_lp L N hl) ?_
 repeat' ((conv => whnf); first | (with_reducible first | (refine W1.o ?_; constructor) | rfl | exact castL_self _ _) | ((with_reducible refine V.same_t ?_); exact rfl) | ((with_reducible refine andB_room ?_ ?_ ?_); (· kernel_rfl); (· (first | omega | (simp only [lens] <;> omega)))) | ((with_reducible refine W2.o ?_; constructor); · (first | (with_reducible assumption) | (first | omega | (simp only [lens] <;> omega)))) | ((with_reducible refine W3.o ?_; constructor); · (first | (with_reducible assumption) | (first | omega | (simp only [lens] <;> omega)))) | ((with_reducible refine W4.o ?_; constructor); · (first | (with_reducible first | assumption | exact decide_eq_true rfl | exact sEq_self _) | ((with_reducible refine eqOK_i ?_); kernel_rfl))) | ((with_reducible refine iteB_f ?_ ?_); · (first | (with_reducible first | assumption | exact decide_eq_true rfl | exact sEq_self _) | ((with_reducible refine eqOK_i ?_); kernel_rfl))) | (with_reducible refine CD.wk_au ?_) | (with_reducible refine W5.o ?_; constructor) | ((with_reducible refine W6.o ?_; constructor) <;> intro hB))
 all_goals ((conv => whnf); (try dsimp only); (try simp only [Nat.succ_eq_add_one, Nat.le_eq, castL_self]); (try omega))
 all_goals (try (first | omega | (simp only [lens] <;> omega)))
 all_goals first
  | exact rfl
  | exact q0.symm
  | (rw [q0]; exact rfl)
  | (rw [seg_all _ rfl]; exact eZ.symm)
  | (rw [seg_all _ rfl, ← eZ]; done)
  | exact congrArg (fun l => V.lst kvT l false) ((seg_all _ rfl).trans eZ.symm)
  | trace_state
noncomputable def opxF (args : List V) : Option (List Bool × V) := match args with
 | [l] => (match ofLst opT l with
   | some L => some ([decide (L.length ≤ 9223372036854775807)], .lst opT (cuZ opU 8 L) false)
   | none => none)
 | _ => none
theorem opxF_ok (args : List V) (c : List Bool) (v : V) (h : opxF args = some (c, v)) (hc : allB c) : PureAt Try.prog 25 args v := by
 unfold opxF at h
 split at h
 ·split at h
  ·rename_i l q L hl
   cases h
   exact PureAt.lst0 (opx_at L (of_decide_eq_true hc.1)) hl
  ·cases h
 ·cases h
noncomputable def tabU : Tab := oneTab 25 opxF noTab
theorem tabU_ok : TabOK Try.prog tabU := oneTab_ok opxF_ok noTab_ok
section
variable (k cl nm rv : Int) (sr : Bool) (C : List CmQ) (A B : List OpQ)
noncomputable def ctC (i : Nat) : CD := ⟨53, [(1, .ptr 0 0), (2, .ptr 1 0), (3, .rs 2 0 (cuA cmU C i).length (cuA cmU C i).length false 5), (4, .int .i64 (i : Int))], [], [(0, .cells [.int .i64 k, .int .u64 cl, .int .u64 nm, .bool sr, .lst cmT C false, .lst opT (cuZ opU 8 A) false, .lst opT (cuZ opU 8 B) false, .int .u64 rv] 0 false), (1, .cells [.any, .any, .any, .any, .any, .any, .any, .any] 0 false), (2, .rows cmT (cuA cmU C i) 0 false)], 3⟩
theorem ct_lp  (N : Nat) (hl : C.length ≤ 9223372036854775807) : LpD.ok Try.prog N 0 (bodyOf Try.prog 8) ⟨4, [(0, 0), (1, 1)], ctC k cl nm rv sr C A B 0, .leaf (.exit 0) (ctC k cl nm rv sr C A B (min C.length 6))⟩ := by
 refine LpD.ok_one (b := bodyAt Try.prog 8 4) rfl (loop_W noTab_ok (fuel := 4) (d := 5) (X := { i : Nat // i ≤ min C.length 6 }) (fun x => ctC k cl nm rv sr C A B x.1) (fun x => min C.length 6 - x.1)
   (fun _ => .leaf (.exit 0) (ctC k cl nm rv sr C A B (min C.length 6))) (fun _ => noLpW) (fun _ => noLp) (fun _ => noLp_ad) (fun _ => noLp_ok _) ?_ ⟨0, Nat.zero_le _⟩)
 rintro ⟨i, hi⟩
 dsimp only
 have ha := cuA_len cmU C i
 rcases Nat.lt_or_ge i (min C.length 6) with hlt | hge
 ·have es : cuA cmU C (i + 1) = cuA cmU C i ++ [cmU (Sym.rowAt cmT C (Int.toNat (i : Int)))] := cuA_succ cmU C i
  have eu : cmU (Sym.rowAt cmT C (Int.toNat (i : Int))) = (cutN 40 (Sym.rowAt cmT C (Int.toNat (i : Int))).1, (Sym.rowAt cmT C (Int.toNat (i : Int))).2.1, (Sym.rowAt cmT C (Int.toNat (i : Int))).2.2.1, (Sym.rowAt cmT C (Int.toNat (i : Int))).2.2.2.1, cutN 40 (Sym.rowAt cmT C (Int.toNat (i : Int))).2.2.2.2) := cmU_eq _ _ _ _ _
  rw [eu] at es
  have k0 : cutN 40 (Sym.rowAt cmT C (Int.toNat (i : Int))).1 = cutS (Sym.rowAt cmT C (Int.toNat (i : Int))).1 0 (Int.toNat (min (((Sym.rowAt cmT C (Int.toNat (i : Int))).1).size : Int) 40)) := cutN_eq _ _
  have k1 : cutN 40 (Sym.rowAt cmT C (Int.toNat (i : Int))).2.2.2.2 = cutS (Sym.rowAt cmT C (Int.toNat (i : Int))).2.2.2.2 0 (Int.toNat (min (((Sym.rowAt cmT C (Int.toNat (i : Int))).2.2.2.2).size : Int) 40)) := cutN_eq _ _
  repeat' ((conv => whnf); first | (with_reducible first | (refine W1.o ?_; constructor) | rfl | exact castL_self _ _) | ((with_reducible refine V.same_t ?_); exact rfl) | ((with_reducible refine andB_room ?_ ?_ ?_); (· kernel_rfl); (· (first | omega | (simp only [lens] <;> omega)))) | ((with_reducible refine W2.o ?_; constructor); · (first | (with_reducible assumption) | (first | omega | (simp only [lens] <;> omega)))) | ((with_reducible refine W3.o ?_; constructor); · (first | (with_reducible assumption) | (first | omega | (simp only [lens] <;> omega)))) | ((with_reducible refine W4.o ?_; constructor); · (first | (with_reducible first | assumption | exact decide_eq_true rfl | exact sEq_self _) | ((with_reducible refine eqOK_i ?_); kernel_rfl))) | ((with_reducible refine iteB_f ?_ ?_); · (first | (with_reducible first | assumption | exact decide_eq_true rfl | exact sEq_self _) | ((with_reducible refine eqOK_i ?_); kernel_rfl))) | (refine ⟨⟨i + 1, hlt⟩, ?_, rfl, ?_⟩) | (with_reducible refine CD.wk_au ?_) | (with_reducible refine W5.o ?_; constructor) | ((with_reducible refine W6.o ?_; constructor) <;> intro hB))
  all_goals ((conv => whnf); (try dsimp only); (try simp only [Nat.succ_eq_add_one, Nat.le_eq, castL_self]); (try omega))
  all_goals (try (first | omega | (simp only [lens] <;> omega)))
  all_goals first
   | exact rfl
   | omega
   | (rw [es]; simp only [k0, k1]; done)
   | (simp only [es, ha, lens] <;> omega)
   | (simp (disch := (simp only [ha, lens] <;> omega)) only [seg_all, castL_self]; rw [es]; simp only [k0, k1]; done)
   | (simp (disch := (simp only [ha, lens] <;> omega)) only [seg_all, castL_self]; rw [es]; simp only [k0, k1]; exact rfl)
   | trace_state
 ·have he : i = min C.length 6 := Nat.le_antisymm hi hge
  subst he
  repeat' ((conv => whnf); first | (with_reducible first | (refine W1.o ?_; constructor) | rfl | exact castL_self _ _) | ((with_reducible refine V.same_t ?_); exact rfl) | ((with_reducible refine andB_room ?_ ?_ ?_); (· kernel_rfl); (· (first | omega | (simp only [lens] <;> omega)))) | ((with_reducible refine W2.o ?_; constructor); · (first | (with_reducible assumption) | (first | omega | (simp only [lens] <;> omega)))) | ((with_reducible refine W3.o ?_; constructor); · (first | (with_reducible assumption) | (first | omega | (simp only [lens] <;> omega)))) | ((with_reducible refine W4.o ?_; constructor); · (first | (with_reducible first | assumption | exact decide_eq_true rfl | exact sEq_self _) | ((with_reducible refine eqOK_i ?_); kernel_rfl))) | ((with_reducible refine iteB_f ?_ ?_); · (first | (with_reducible first | assumption | exact decide_eq_true rfl | exact sEq_self _) | ((with_reducible refine eqOK_i ?_); kernel_rfl))) | (with_reducible refine CD.wk_au ?_) | (with_reducible refine W5.o ?_; constructor) | ((with_reducible refine W6.o ?_; constructor) <;> intro hB))
  all_goals ((conv => whnf); (try dsimp only); (try simp only [Nat.succ_eq_add_one, Nat.le_eq, castL_self]); (try omega))
  all_goals (try (first | omega | (simp only [lens] <;> omega)))
  all_goals first
   | exact rfl
   | trace_state
theorem cut_at (lC : C.length ≤ 9223372036854775807) (lA : A.length ≤ 9223372036854775807) (lB : B.length ≤ 9223372036854775807) : PureAt Try.prog 8 [(.agg [.int .i64 k, .int .u64 cl, .int .u64 nm, .bool sr, .lst cmT C false, .lst opT A false, .lst opT B false, .int .u64 rv])] (.agg [.int .i64 k, .int .u64 cl, .int .u64 nm, .bool sr, .lst cmT (cuZ cmU 6 C) false, .lst opT (cuZ opU 8 A) false, .lst opT (cuZ opU 8 B) false, .int .u64 rv]) := by
 have q0 := cuA_0 cmU C
 have eZ := cuZ_eq cmU 6 C
 refine pure_of_loops tabU_ok (fuel := 4) (d := 5) [⟨4, [(0, 0), (1, 1)], ctC k cl nm rv sr C A B 0, .leaf (.exit 0) (ctC k cl nm rv sr C A B (min C.length 6))⟩] (fun N y hy => by rw [List.mem_singleton.1 hy]; exact ct_lp k cl nm rv sr C A B N lC) ?_
 repeat' ((conv => whnf); first | (with_reducible first | (refine W1.o ?_; constructor) | rfl | exact castL_self _ _) | ((with_reducible refine V.same_t ?_); exact rfl) | ((with_reducible refine andB_room ?_ ?_ ?_); (· kernel_rfl); (· (first | omega | (simp only [lens] <;> omega)))) | ((with_reducible refine W2.o ?_; constructor); · (first | (with_reducible assumption) | (first | omega | (simp only [lens] <;> omega)))) | ((with_reducible refine W3.o ?_; constructor); · (first | (with_reducible assumption) | (first | omega | (simp only [lens] <;> omega)))) | ((with_reducible refine W4.o ?_; constructor); · (first | (with_reducible first | assumption | exact decide_eq_true rfl | exact sEq_self _) | ((with_reducible refine eqOK_i ?_); kernel_rfl))) | ((with_reducible refine iteB_f ?_ ?_); · (first | (with_reducible first | assumption | exact decide_eq_true rfl | exact sEq_self _) | ((with_reducible refine eqOK_i ?_); kernel_rfl))) | (with_reducible refine CD.wk_au ?_) | (with_reducible refine W5.o ?_; constructor) | ((with_reducible refine W6.o ?_; constructor) <;> intro hB))
 all_goals ((conv => whnf); (try dsimp only); (try simp only [Nat.succ_eq_add_one, Nat.le_eq, castL_self]); (try omega))
 all_goals (try (first | omega | (simp only [lens] <;> omega)))
 all_goals first
  | exact rfl
  | exact q0.symm
  | (rw [q0]; exact rfl)
  | (rw [seg_all _ rfl]; exact eZ.symm)
  | (rw [seg_all _ rfl, ← eZ]; done)
  | (rw [seg_all _ rfl, ← eZ]; exact rfl)
  | trace_state
end
end Go.Proofs.Ytaloolcabmfjbaa
end

section
namespace Go.Proofs.Ytaloolcabmfjbaa
open Go.Sym
set_option linter.unusedVariables false
set_option linter.unusedSimpArgs false
set_option maxRecDepth 100000
set_option maxHeartbeats 4000000
noncomputable def reU : ReQ → ReQ := hide fun r => (cuZ kvU 10 r.1, r.2.1, r.2.2.1, r.2.2.2.1, cuZ kvU 10 r.2.2.2.2)
theorem reU_eq (r : ReQ) : reU r = (cuZ kvU 10 r.1, r.2.1, r.2.2.1, r.2.2.2.1, cuZ kvU 10 r.2.2.2.2) := by unfold reU; rw [hide_eq]
def u6L (L : List KvQ) : Prop := L.length ≤ 9223372036854775807 ∧ ∀ i, i < L.length → u6K (Sym.rowAt kvT L i)
theorem reU_W (L : List ReQ) (h : ∀ i, i < L.length → u6L (Sym.rowAt reT L i).1 ∧ u6L (Sym.rowAt reT L i).2.2.2.2) : reW (cuZ reU 8 L) = true := by
 rw [reW_iff]
 have hl := cuZ_len reU 8 L
 refine ⟨by omega, fun i hi => ?_⟩
 rw [cuZ_row reU 8 L i hi, reU_eq]
 have := h i (by omega)
 exact ⟨kvU_W _ this.1.2, kvU_W _ this.2.2⟩
noncomputable def kvxF (args : List V) : Option (List Bool × V) := match args with
 | [l] => (match ofLst kvT l with
   | some L => some ([decide (L.length ≤ 9223372036854775807)], .lst kvT (cuZ kvU 10 L) false)
   | none => none)
 | _ => none
theorem kvxF_ok (args : List V) (c : List Bool) (v : V) (h : kvxF args = some (c, v)) (hc : allB c) : PureAt Try.prog 46 args v := by
 unfold kvxF at h
 split at h
 ·split at h
  ·rename_i l q L hl
   cases h
   exact PureAt.lst0 (kvx_at L (of_decide_eq_true hc.1)) hl
  ·cases h
 ·cases h
noncomputable def tabK : Tab := oneTab 46 kvxF noTab
theorem tabK_ok : TabOK Try.prog tabK := oneTab_ok kvxF_ok noTab_ok
section
variable (er rv cm ha ap te ld : Int) (tk : Bool) (R : List ReQ)
noncomputable def crC (i : Nat) : CD := ⟨37, [(1, .ptr 0 0), (2, .ptr 1 0), (3, .rs 2 0 (cuA reU R i).length (cuA reU R i).length false 5), (4, .int .i64 (i : Int))], [], [(0, .cells [.int .i64 er, .int .u64 rv, .int .u64 cm, .bool tk, .lst reT R false, .int .u32 ha, .int .u64 ap, .int .u64 te, .int .i64 ld] 0 false), (1, .cells [.any, .any, .any, .any, .any, .any, .any, .any, .any] 0 false), (2, .rows reT (cuA reU R i) 0 false)], 3⟩
theorem cr_lp (N : Nat) (hl : R.length ≤ 9223372036854775807) (hu : ∀ i, i < R.length → u6L (Sym.rowAt reT R i).1 ∧ u6L (Sym.rowAt reT R i).2.2.2.2) : LpD.ok Try.prog N 0 (bodyOf Try.prog 16) ⟨3, [(0, 0), (1, 1)], crC er rv cm ha ap te ld tk R 0, .leaf (.exit 0) (crC er rv cm ha ap te ld tk R (min R.length 8))⟩ := by
 refine LpD.ok_one (b := bodyAt Try.prog 16 3) rfl (loop_W tabK_ok (fuel := 4) (d := 5) (X := { i : Nat // i ≤ min R.length 8 }) (fun x => crC er rv cm ha ap te ld tk R x.1) (fun x => min R.length 8 - x.1)
   (fun _ => .leaf (.exit 0) (crC er rv cm ha ap te ld tk R (min R.length 8))) (fun _ => noLpW) (fun _ => noLp) (fun _ => noLp_ad) (fun _ => noLp_ok _) ?_ ⟨0, Nat.zero_le _⟩)
 rintro ⟨i, hi⟩
 dsimp only
 have hz := cuA_len reU R i
 rcases Nat.lt_or_ge i (min R.length 8) with hlt | hge
 ·have es : cuA reU R (i + 1) = cuA reU R i ++ [reU (Sym.rowAt reT R (Int.toNat (i : Int)))] := cuA_succ reU R i
  rw [reU_eq] at es
  have hui := hu i (by omega)
  have l1 : List.length (α := KvQ) (Sym.rowAt reT R (Int.toNat (i : Int))).1 ≤ 9223372036854775807 := hui.1.1
  have l2 : List.length (α := KvQ) (Sym.rowAt reT R (Int.toNat (i : Int))).2.2.2.2 ≤ 9223372036854775807 := hui.2.1
  repeat' ((conv => whnf); first | (with_reducible first | (refine W1.o ?_; constructor) | rfl | exact castL_self _ _) | ((with_reducible refine V.same_t ?_); exact rfl) | ((with_reducible refine andB_room ?_ ?_ ?_); (· kernel_rfl); (· (first | omega | (simp only [lens] <;> omega)))) | ((with_reducible refine W2.o ?_; constructor); · (first | (with_reducible assumption) | (first | omega | (simp only [lens] <;> omega)))) | ((with_reducible refine W3.o ?_; constructor); · (first | (with_reducible assumption) | (first | omega | (simp only [lens] <;> omega)))) | ((with_reducible refine W4.o ?_; constructor); · (first | (with_reducible first | assumption | exact decide_eq_true rfl | exact sEq_self _) | ((with_reducible refine eqOK_i ?_); kernel_rfl))) | ((with_reducible refine iteB_f ?_ ?_); · (first | (with_reducible first | assumption | exact decide_eq_true rfl | exact sEq_self _) | ((with_reducible refine eqOK_i ?_); kernel_rfl))) | (refine ⟨⟨i + 1, hlt⟩, ?_, rfl, ?_⟩) | (with_reducible refine CD.wk_au ?_) | (with_reducible refine W5.o ?_; constructor) | ((with_reducible refine W6.o ?_; constructor) <;> intro hB))
  all_goals ((conv => whnf); (try dsimp only); (try simp only [Nat.succ_eq_add_one, Nat.le_eq, castL_self]); (try omega))
  all_goals (try (first | omega | (simp only [lens] <;> omega)))
  all_goals first
   | exact rfl
   | omega
   | exact l1
   | exact l2
   | (rw [es]; done)
   | (simp only [es, hz, lens] <;> omega)
   | (simp (disch := (simp only [hz, lens] <;> omega)) only [seg_all, castL_self]; rw [es]; done)
   | (simp (disch := (simp only [hz, lens] <;> omega)) only [seg_all, castL_self]; rw [es]; exact rfl)
   | trace_state
 ·have he : i = min R.length 8 := Nat.le_antisymm hi hge
  subst he
  repeat' ((conv => whnf); first | (with_reducible first | (refine W1.o ?_; constructor) | rfl | exact castL_self _ _) | ((with_reducible refine V.same_t ?_); exact rfl) | ((with_reducible refine andB_room ?_ ?_ ?_); (· kernel_rfl); (· (first | omega | (simp only [lens] <;> omega)))) | ((with_reducible refine W2.o ?_; constructor); · (first | (with_reducible assumption) | (first | omega | (simp only [lens] <;> omega)))) | ((with_reducible refine W3.o ?_; constructor); · (first | (with_reducible assumption) | (first | omega | (simp only [lens] <;> omega)))) | ((with_reducible refine W4.o ?_; constructor); · (first | (with_reducible first | assumption | exact decide_eq_true rfl | exact sEq_self _) | ((with_reducible refine eqOK_i ?_); kernel_rfl))) | ((with_reducible refine iteB_f ?_ ?_); · (first | (with_reducible first | assumption | exact decide_eq_true rfl | exact sEq_self _) | ((with_reducible refine eqOK_i ?_); kernel_rfl))) | (with_reducible refine CD.wk_au ?_) | (with_reducible refine W5.o ?_; constructor) | ((with_reducible refine W6.o ?_; constructor) <;> intro hB))
  all_goals ((conv => whnf); (try dsimp only); (try simp only [Nat.succ_eq_add_one, Nat.le_eq, castL_self]); (try omega))
  all_goals (try (first | omega | (simp only [lens] <;> omega)))
  all_goals first
   | exact rfl
   | trace_state
theorem cutResp_at (lR : R.length ≤ 9223372036854775807) (hu : ∀ i, i < R.length → u6L (Sym.rowAt reT R i).1 ∧ u6L (Sym.rowAt reT R i).2.2.2.2) : PureAt Try.prog 16 [(.agg [.int .i64 er, .int .u64 rv, .int .u64 cm, .bool tk, .lst reT R false, .int .u32 ha, .int .u64 ap, .int .u64 te, .int .i64 ld])] (.agg [.int .i64 er, .int .u64 rv, .int .u64 cm, .bool tk, .lst reT (cuZ reU 8 R) false, .int .u32 ha, .int .u64 ap, .int .u64 te, .int .i64 ld]) := by
 have q0 := cuA_0 reU R
 have eZ := cuZ_eq reU 8 R
 refine pure_of_loops tabK_ok (fuel := 4) (d := 5) [⟨3, [(0, 0), (1, 1)], crC er rv cm ha ap te ld tk R 0, .leaf (.exit 0) (crC er rv cm ha ap te ld tk R (min R.length 8))⟩] (fun N y hy => by rw [List.mem_singleton.1 hy]; exact cr_lp er rv cm ha ap te ld tk R N lR hu) ?_
 repeat' ((conv => whnf); first | (with_reducible first | (refine W1.o ?_; constructor) | rfl | exact castL_self _ _) | ((with_reducible refine V.same_t ?_); exact rfl) | ((with_reducible refine andB_room ?_ ?_ ?_); (· kernel_rfl); (· (first | omega | (simp only [lens] <;> omega)))) | ((with_reducible refine W2.o ?_; constructor); · (first | (with_reducible assumption) | (first | omega | (simp only [lens] <;> omega)))) | ((with_reducible refine W3.o ?_; constructor); · (first | (with_reducible assumption) | (first | omega | (simp only [lens] <;> omega)))) | ((with_reducible refine W4.o ?_; constructor); · (first | (with_reducible first | assumption | exact decide_eq_true rfl | exact sEq_self _) | ((with_reducible refine eqOK_i ?_); kernel_rfl))) | ((with_reducible refine iteB_f ?_ ?_); · (first | (with_reducible first | assumption | exact decide_eq_true rfl | exact sEq_self _) | ((with_reducible refine eqOK_i ?_); kernel_rfl))) | (with_reducible refine CD.wk_au ?_) | (with_reducible refine W5.o ?_; constructor) | ((with_reducible refine W6.o ?_; constructor) <;> intro hB))
 all_goals ((conv => whnf); (try dsimp only); (try simp only [Nat.succ_eq_add_one, Nat.le_eq, castL_self]); (try omega))
 all_goals (try (first | omega | (simp only [lens] <;> omega)))
 all_goals first
  | exact rfl
  | exact q0.symm
  | (rw [q0]; exact rfl)
  | (rw [seg_all _ rfl]; exact eZ.symm)
  | (rw [seg_all _ rfl, ← eZ]; done)
  | (rw [seg_all _ rfl, ← eZ]; exact rfl)
  | trace_state
end
open Classical in
noncomputable def reUB : List ReQ → Bool := hide fun R => decide (R.length ≤ 9223372036854775807 ∧ ∀ i, i < R.length → u6L (Sym.rowAt reT R i).1 ∧ u6L (Sym.rowAt reT R i).2.2.2.2)
open Classical in
theorem reUB_iff (R : List ReQ) : reUB R = true ↔ (R.length ≤ 9223372036854775807 ∧ ∀ i, i < R.length → u6L (Sym.rowAt reT R i).1 ∧ u6L (Sym.rowAt reT R i).2.2.2.2) := by unfold reUB; rw [hide_eq]; exact ⟨fun h => of_decide_eq_true h, fun h => decide_eq_true h⟩
noncomputable def crF : RpF := fun er rv cm tk R ha ap te ld => ([reUB R], .agg [.int .i64 er, .int .u64 rv, .int .u64 cm, .bool tk, .lst reT (cuZ reU 8 R) false, .int .u32 ha, .int .u64 ap, .int .u64 te, .int .i64 ld])
end Go.Proofs.Ytaloolcabmfjbaa
end

section
namespace Go.Proofs.Ytaloolcabmfjbaa
open Go.Sym
set_option linter.unusedVariables false
set_option linter.unusedSimpArgs false
set_option maxRecDepth 100000
set_option maxHeartbeats 4000000
theorem cat_le {e : List Ty} (y : rowDen e → ByteArray) (L : List (rowDen e)) (b n : Nat) (hn : L.length ≤ n) (h : ∀ i, i < L.length → (y (Sym.rowAt e L i)).size ≤ b) : (catZ y L).size ≤ 9 + n * b := by
 have := catA_le y L b h L.length (Nat.le_refl _)
 have h2 := Nat.mul_le_mul_right b hn
 rw [catZ_eq]; omega
theorem opY_small {r : OpQ} (h : badO r = false) : (opY r).size ≤ 200 := by
 obtain ⟨k, key, en, val, rev, lim, cnt, ks, pv⟩ := r
 rw [badO_eq, mayO_eq, Bool.not_eq_false'] at h
 have h1 := of_decide_eq_true h
 have z0 := numT_le (k % 18446744073709551616)
 have z1 := txtT_le key
 have z2 := txtT_le en
 have z3 := txtT_le val
 have z4 := numT_le rev
 have z5 := numT_le (lim % 18446744073709551616)
 have z6 := numT_le (tI cnt)
 have z7 := numT_le (tI ks)
 have z8 := numT_le (tI pv)
 rw [opY_eq]
 simp only [ByteArray.size_append]
 omega
theorem cmY_small {r : CmQ} (h : badC r = false) : (cmY r).size ≤ 200 := by
 obtain ⟨key, w, h', n, val⟩ := r
 rw [badC_eq, mayC_eq, Bool.not_eq_false'] at h
 have h1 := of_decide_eq_true h
 have z0 := txtT_le key
 have z1 := numT_le (w % 18446744073709551616)
 have z2 := numT_le (h' % 18446744073709551616)
 have z3 := numT_le n
 have z4 := txtT_le val
 rw [cmY_eq]
 simp only [ByteArray.size_append]
 omega
theorem catZ_nil {e : List Ty} (y : rowDen e → ByteArray) {L : List (rowDen e)} (h : L.length = 0) : (catZ y L).size ≤ 9 := by
 rw [List.eq_nil_of_length_eq_zero h, catZ0]; exact numT_le _
theorem rq_small {q : RqT} (h : chBq q = true) : 1 ≤ (rqYq q).size ∧ (rqYq q).size ≤ 9000 := by
 obtain ⟨k, cl, nm, sr, C, A, B, rv⟩ := q
 unfold chBq at h
 rw [chB_eq] at h
 have h := (of_decide_eq_true h).1
 dsimp only at h
 have hz : (catZ cmY C).size ≤ 2000 ∧ (catZ opY A).size ≤ 2000 ∧ (catZ opY B).size ≤ 2000 := by
  rcases h with h | h | h | h
  ·have hs := h.2.1
   rw [stB_eq, hcE_eq] at hs
   obtain ⟨_, hc, lA, lB, nA, nB⟩ := of_decide_eq_true hs
   have hc : ¬ 4 < C.length ∧ anyB badC C = false := by
    by_cases x : 4 < C.length
    ·rw [if_pos x] at hc; cases hc
    ·rw [if_neg x] at hc
     refine ⟨x, ?_⟩
     cases z : anyB badC C with
     | true => rw [z, if_pos rfl] at hc; cases hc
     | false => rfl
   have c1 := cat_le cmY C 200 4 (by omega) fun i hi => cmY_small (any_not hc.2 hi)
   have c2 := cat_le opY A 200 6 (by omega) fun i hi => opY_small (any_not nA hi)
   have c3 := cat_le opY B 200 6 (by omega) fun i hi => opY_small (any_not nB hi)
   omega
  all_goals
   have c1 := catZ_nil cmY (L := C) (by omega)
   have c2 := catZ_nil opY (L := A) (by omega)
   have c3 := catZ_nil opY (L := B) (by omega)
   omega
 have z0 := numT_size (k % 18446744073709551616)
 have z1 := numT_le cl
 have z2 := numT_le nm
 have z3 := numT_le (tI sr)
 have z4 := numT_le rv
 unfold rqYq
 rw [rqY_eq, rqh_eq]
 simp only [ByteArray.size_append]
 omega
theorem kvY_small {r : KvQ} (h1 : r.1.size ≤ 60) (h2 : r.2.1.size ≤ 60) : (kvY r).size ≤ 200 := by
 obtain ⟨key, val, cr, md, ver⟩ := r
 have z0 := txtT_le key
 have z1 := txtT_le val
 have z2 := numT_le cr
 have z3 := numT_le md
 have z4 := numT_le ver
 dsimp only at h1 h2
 rw [kvY_eq]
 simp only [ByteArray.size_append]
 omega
theorem kvU_small (L : List KvQ) : (catZ kvY (cuZ kvU 10 L)).size ≤ 2009 := by
 have hl := cuZ_len kvU 10 L
 refine cat_le kvY _ 200 10 (by omega) fun i hi => ?_
 rw [cuZ_row kvU 10 L i hi]
 generalize Sym.rowAt kvT L i = r
 obtain ⟨key, val, cr, md, ver⟩ := r
 rw [kvU_eq]
 exact kvY_small (cutN_size _ _) (cutN_size _ _)
theorem reU_small (L : List ReQ) : (catZ reY (cuZ reU 8 L)).size ≤ 40009 := by
 have hl := cuZ_len reU 8 L
 refine Nat.le_trans (cat_le reY _ 5000 8 (by omega) fun i hi => ?_) (by omega)
 rw [cuZ_row reU 8 L i hi, reU_eq, reY_eq]
 have z1 := kvU_small (Sym.rowAt reT L i).1
 have z2 := kvU_small (Sym.rowAt reT L i).2.2.2.2
 have z3 := numT_le (tI (Sym.rowAt reT L i).2.1)
 have z4 := numT_le ((Sym.rowAt reT L i).2.2.1 % 18446744073709551616)
 have z5 := numT_le ((Sym.rowAt reT L i).2.2.2.1 % 18446744073709551616)
 simp only [ByteArray.size_append]
 omega
theorem rp_small (er rv cm ha ap te ld : Int) (tk : Bool) (R : List ReQ) : 1 ≤ (rpYq (er, rv, cm, tk, cuZ reU 8 R, ha, ap, te, ld)).size ∧ (rpYq (er, rv, cm, tk, cuZ reU 8 R, ha, ap, te, ld)).size ≤ 50000 := by
 have z0 := reU_small R
 have z1 := numT_size (er % 18446744073709551616)
 have z2 := numT_le rv
 have z3 := numT_le cm
 have z4 := numT_le (tI tk)
 have z5 := numT_le (ha % 18446744073709551616)
 have z6 := numT_le ap
 have z7 := numT_le te
 have z8 := numT_le ((ld + 1) % 18446744073709551616)
 unfold rpYq
 rw [rph_eq]
 simp only [ByteArray.size_append]
 omega
theorem cut_app (s : ByteArray) (n : Nat) (h : n < s.size) : ∃ x, cutS s 0 n ++ x = s ∧ ¬ x = ⟨#[]⟩ := by
 refine ⟨cutS s n s.size, ?_, fun e => ?_⟩
 ·refine ba_ext ?_
  rw [ByteArray.data_append, Array.toList_append, cut_list, cut_list2, List.take_append_drop]
 ·have := congrArg ByteArray.size e
  rw [cutS_size] at this
  have z : (⟨#[]⟩ : ByteArray).size = 0 := rfl
  omega
abbrev nul : ByteArray := ⟨#[0]⟩
theorem dqE_no {s : ByteArray} (h : dqK s = false) : dqE s = 11 := by rw [dqE_eq, h]; rfl
theorem dpE_no {s : ByteArray} (h : dpK s = false) : dpE s = 4 := by rw [dpE_eq, h]; rfl
theorem nul_ne : ¬ nul = ⟨#[]⟩ := fun e => by have := congrArg ByteArray.size e; cases this
theorem ne_of {s : ByteArray} (h : 1 ≤ s.size) : sEq s ⟨#[]⟩ = false := sEq_not fun e => by have := congrArg ByteArray.size e; have z : (⟨#[]⟩ : ByteArray).size = 0 := rfl; omega
noncomputable def ctF2 : RqF := fun k cl nm sr C A B rv => ([decide (C.length ≤ 9223372036854775807), decide (A.length ≤ 9223372036854775807), decide (B.length ≤ 9223372036854775807)], .agg [.int .i64 k, .int .u64 cl, .int .u64 nm, .bool sr, .lst cmT (cuZ cmU 6 C) false, .lst opT (cuZ opU 8 A) false, .lst opT (cuZ opU 8 B) false, .int .u64 rv])
noncomputable def tabBak : Tab := oneTab 8 (rqF ctF2) (oneTab 16 (rpF crF) (oneTab 23 sqF (oneTab 24 spF tabOne)))
theorem tabBak_ok : TabOK Try.prog tabBak :=
 oneTab_ok (rqF_ok fun k cl nm sr C A B rv h => cut_at k cl nm rv sr C A B (of_decide_eq_true h.1) (of_decide_eq_true h.2.1) (of_decide_eq_true h.2.2.1))
 (oneTab_ok (rpF_ok fun er rv cm tk R ha ap te ld h => cutResp_at er rv cm ha ap te ld tk R ((reUB_iff R).1 h.1).1 ((reUB_iff R).1 h.1).2)
 (oneTab_ok sqF_ok (oneTab_ok spF_ok tabOne_ok)))
theorem codecBack_at (k cl nm rv : Int) (sr : Bool) (C : List CmQ) (A B : List OpQ) (er rw cm ha ap te ld : Int) (tk : Bool) (R : List ReQ) (at_ : Int)
  (g1 : 0 ≤ cl ∧ cl < 18446744073709551616) (g2 : 0 ≤ nm ∧ nm < 18446744073709551616) (g3 : 0 ≤ rv ∧ rv < 18446744073709551616)
  (lC : C.length ≤ 9223372036854775807) (lA : A.length ≤ 9223372036854775807) (lB : B.length ≤ 9223372036854775807)
  (uC : ∀ i, i < C.length → u6C (Sym.rowAt cmT C i)) (uA : ∀ i, i < A.length → u6O (Sym.rowAt opT A i)) (uB : ∀ i, i < B.length → u6O (Sym.rowAt opT B i))
  (h1 : 0 ≤ rw ∧ rw < 18446744073709551616) (h2 : 0 ≤ cm ∧ cm < 18446744073709551616) (h3 : 0 ≤ ha ∧ ha < 4294967296) (h4 : 0 ≤ ap ∧ ap < 18446744073709551616) (h5 : 0 ≤ te ∧ te < 18446744073709551616) (hR : reUB R = true)
  (ha0 : 0 ≤ at_ ∧ at_ < 65536) :
  PureAt Try.prog 6 [.agg [.int .i64 k, .int .u64 cl, .int .u64 nm, .bool sr, .lst cmT C false, .lst opT A false, .lst opT B false, .int .u64 rv], .agg [.int .i64 er, .int .u64 rw, .int .u64 cm, .bool tk, .lst reT R false, .int .u32 ha, .int .u64 ap, .int .u64 te, .int .i64 ld], .int .u16 at_] (.bool true) := by
 have wC := cmU_W C uC
 have wA := opU_W A uA
 have wB := opU_W B uB
 have wR := reU_W R ((reUB_iff R).1 hR).2
 have c1 := chE_of k cl nm rv sr (cuZ cmU 6 C) (cuZ opU 8 A) (cuZ opU 8 B)
 have c2 := rqE_eq k cl nm rv sr (cuZ cmU 6 C) (cuZ opU 8 A) (cuZ opU 8 B)
 have m1 := maE_of er ld (cuZ reU 8 R)
 have m2 := rpE_eq er rw cm ha ap te ld tk (cuZ reU 8 R)
 have y1 : ∀ s : ByteArray, 1 ≤ s.size → 0 ≤ at_ % (s.size : Int) ∧ at_ % (s.size : Int) < (s.size : Int) := fun s h => ⟨Int.emod_nonneg _ (by omega), Int.emod_lt_of_pos _ (by omega)⟩
 have hq : (chE k cl nm sr (cuZ cmU 6 C) (cuZ opU 8 A) (cuZ opU 8 B) rv = 11 ∧ sEq (rqE k cl nm sr (cuZ cmU 6 C) (cuZ opU 8 A) (cuZ opU 8 B) rv) ⟨#[]⟩ = true) ∨ (chE k cl nm sr (cuZ cmU 6 C) (cuZ opU 8 A) (cuZ opU 8 B) rv = 0 ∧ sEq (rqE k cl nm sr (cuZ cmU 6 C) (cuZ opU 8 A) (cuZ opU 8 B) rv) ⟨#[]⟩ = false ∧ 1 ≤ (rqE k cl nm sr (cuZ cmU 6 C) (cuZ opU 8 A) (cuZ opU 8 B) rv).size ∧ (rqE k cl nm sr (cuZ cmU 6 C) (cuZ opU 8 A) (cuZ opU 8 B) rv).size ≤ 9000 ∧ dqE (rqE k cl nm sr (cuZ cmU 6 C) (cuZ opU 8 A) (cuZ opU 8 B) rv) = 0 ∧ sameQ (dqV (rqE k cl nm sr (cuZ cmU 6 C) (cuZ opU 8 A) (cuZ opU 8 B) rv)) (k, cl, nm, sr, (cuZ cmU 6 C), (cuZ opU 8 A), (cuZ opU 8 B), rv) = true ∧ (∀ n, n < (rqE k cl nm sr (cuZ cmU 6 C) (cuZ opU 8 A) (cuZ opU 8 B) rv).size → dqE (cutS (rqE k cl nm sr (cuZ cmU 6 C) (cuZ opU 8 A) (cuZ opU 8 B) rv) 0 n) = 11) ∧ dqE ((rqE k cl nm sr (cuZ cmU 6 C) (cuZ opU 8 A) (cuZ opU 8 B) rv) ++ nul) = 11) := by
  cases hc : chBq (k, cl, nm, sr, (cuZ cmU 6 C), (cuZ opU 8 A), (cuZ opU 8 B), rv) with
  | false =>
   unfold chBq at hc
   rw [hc, cond_false] at c1 c2
   exact .inl ⟨c1, sEq_is c2⟩
  | true =>
   have hc2 := hc
   unfold chBq at hc2
   rw [hc2, cond_true] at c1 c2
   have e : (rqE k cl nm sr (cuZ cmU 6 C) (cuZ opU 8 A) (cuZ opU 8 B) rv) = rqYq (k, cl, nm, sr, (cuZ cmU 6 C), (cuZ opU 8 A), (cuZ opU 8 B), rv) := c2
   have hg : goodQ (k, cl, nm, sr, (cuZ cmU 6 C), (cuZ opU 8 A), (cuZ opU 8 B), rv) := good_of hc g1 g2 g3 wC wA wB
   have hz := rq_small hc
   obtain ⟨d1, d2, d3⟩ := dq_back hg hc
   rw [e]
   refine .inr ⟨c1, ne_of hz.1, hz.1, hz.2, d3, ?_, fun n hn => ?_, dqE_no (dq_more hg nul_ne)⟩
   ·rw [d2]; exact sameQ_W wC wA wB
   ·obtain ⟨x, e1, e2⟩ := cut_app _ n hn
    refine dqE_no (dq_less hg ?_ e1 e2)
    rw [cutS_size]; omega
 have hp : (maE er ld (cuZ reU 8 R) = 2 ∧ sEq (rpE er rw cm tk (cuZ reU 8 R) ha ap te ld) ⟨#[]⟩ = true) ∨ (maE er ld (cuZ reU 8 R) = 0 ∧ sEq (rpE er rw cm tk (cuZ reU 8 R) ha ap te ld) ⟨#[]⟩ = false ∧ 1 ≤ (rpE er rw cm tk (cuZ reU 8 R) ha ap te ld).size ∧ (rpE er rw cm tk (cuZ reU 8 R) ha ap te ld).size ≤ 50000 ∧ dpE (rpE er rw cm tk (cuZ reU 8 R) ha ap te ld) = 0 ∧ sameP (er, rw, cm, tk, (cuZ reU 8 R), ha, ap, te, ld) (dpV (rpE er rw cm tk (cuZ reU 8 R) ha ap te ld)) = true ∧ (∀ n, n < (rpE er rw cm tk (cuZ reU 8 R) ha ap te ld).size → dpE (cutS (rpE er rw cm tk (cuZ reU 8 R) ha ap te ld) 0 n) = 4) ∧ dpE ((rpE er rw cm tk (cuZ reU 8 R) ha ap te ld) ++ nul) = 4) := by
  cases hc : maBq (er, rw, cm, tk, (cuZ reU 8 R), ha, ap, te, ld) with
  | false =>
   unfold maBq at hc
   rw [hc, cond_false] at m1 m2
   exact .inl ⟨m1, sEq_is m2⟩
  | true =>
   have hc2 := hc
   unfold maBq at hc2
   rw [hc2, cond_true] at m1 m2
   have e : (rpE er rw cm tk (cuZ reU 8 R) ha ap te ld) = rpYq (er, rw, cm, tk, (cuZ reU 8 R), ha, ap, te, ld) := m2
   have hg : goodP (er, rw, cm, tk, (cuZ reU 8 R), ha, ap, te, ld) := goodP_of hc h1 h2 h3 h4 h5 wR
   have hz := rp_small er rw cm ha ap te ld tk R
   obtain ⟨d1, d2, d3⟩ := dp_back hg hc
   rw [e]
   refine .inr ⟨m1, ne_of hz.1, hz.1, hz.2, d3, ?_, fun n hn => ?_, dpE_no (dp_more hg nul_ne)⟩
   ·rw [d2]; exact sameP_W wR
   ·obtain ⟨x, e1, e2⟩ := cut_app _ n hn
    refine dpE_no (dp_less hg ?_ e1 e2)
    rw [cutS_size]; omega
 rcases hq with ⟨q1, q2⟩ | ⟨q1, q2, q3, q4, q5, q6, q7, q8⟩
 all_goals rcases hp with ⟨p1, p2⟩ | ⟨p1, p2, p3, p4, p5, p6, p7, p8⟩
 all_goals
  try have y2 := y1 (rqE k cl nm sr (cuZ cmU 6 C) (cuZ opU 8 A) (cuZ opU 8 B) rv) q3
  try have q9 := q7 (Int.toNat (at_ % ((rqE k cl nm sr (cuZ cmU 6 C) (cuZ opU 8 A) (cuZ opU 8 B) rv).size : Int))) (by omega)
  try have y3 := y1 (rpE er rw cm tk (cuZ reU 8 R) ha ap te ld) p3
  try have p9 := p7 (Int.toNat (at_ % ((rpE er rw cm tk (cuZ reU 8 R) ha ap te ld).size : Int))) (by omega)
  refine pure_of_W0 (tab := tabBak) (fuel := 4) (d := 6) tabBak_ok ?_
  repeat' ((conv => whnf); first | (with_reducible first | (refine W1.o ?_; constructor) | rfl | exact castL_self _ _) | ((with_reducible refine V.same_t ?_); exact rfl) | ((with_reducible refine andB_room ?_ ?_ ?_); (· kernel_rfl); (· (first | omega | (simp only [lens] <;> omega)))) | ((with_reducible refine W2.o ?_; constructor); · (first | (with_reducible assumption) | (first | omega | (simp only [lens] <;> omega)))) | ((with_reducible refine W3.o ?_; constructor); · (first | (with_reducible assumption) | (first | omega | (simp only [lens] <;> omega)))) | ((with_reducible refine W4.o ?_; constructor); · (first | (with_reducible first | assumption | exact decide_eq_true rfl | exact sEq_self _) | ((with_reducible refine eqOK_i ?_); kernel_rfl) | (first | (first | exact hR | exact wC | exact wA | exact wB | exact wR | exact q2 | exact p2 | exact q6 | exact p6)))) | ((with_reducible refine iteB_f ?_ ?_); · (first | (with_reducible first | assumption | exact decide_eq_true rfl | exact sEq_self _) | ((with_reducible refine eqOK_i ?_); kernel_rfl) | (first | (first | exact hR | exact wC | exact wA | exact wB | exact wR | exact q2 | exact p2 | exact q6 | exact p6)))) | (with_reducible refine W5.o ?_; constructor) | ((with_reducible refine W6.o ?_; constructor) <;> intro hB))
  all_goals ((conv => whnf); (try dsimp only); (try simp only [Nat.succ_eq_add_one, Nat.le_eq, castL_self]); (try omega))
  all_goals (try (first | omega | (simp only [lens] <;> omega)))
  all_goals first
   | exact rfl
   | (show _ + 1 ≤ _; omega)
   | (rw [ByteArray.size_append]; show _ + 1 ≤ _; omega)
   | trace_state
end Go.Proofs.Ytaloolcabmfjbaa
end

section
namespace Go.Sym
open Go.ChangeShapes Go.WideShapes

def kLo : IntKind → Int
 | .i8 => -128
 | .i16 => -32768
 | .i32 => -2147483648
 | .i64 => -9223372036854775808
 | _ => 0
def kHi : IntKind → Int
 | .i8 => 128
 | .i16 => 32768
 | .i32 => 2147483648
 | .i64 => 9223372036854775808
 | .u8 => 256
 | .u16 => 65536
 | .u32 => 4294967296
 | .u64 => 18446744073709551616
mutual
def wfT : (t : Ty) → t.den → Prop
 | .int k, n => (fun n : Int => kLo k ≤ n ∧ n < kHi k) n
 | .bool, _ => True
 | .str, s => ByteArray.size s ≤ 9223372036854775807
 | .lst e, L => List.length (α := rowDen e) L ≤ 9223372036854775807 ∧ ∀ i, i < List.length (α := rowDen e) L → wfR e (rowAt e L i)
def wfR : (e : List Ty) → rowDen e → Prop
 | [], _ => True
 | [t], x => wfT t x
 | t :: u :: ts, x => wfT t x.1 ∧ wfR (u :: ts) x.2
end
def repT (r : List Ty) : Nat → List Ty
 | 0 => []
 | n + 1 => r ++ repT r n
noncomputable section
variable (P : Program)
def layF (f : TypeId → Option (List Ty)) : Nat → List Field → Option (List Ty)
 | _, [] => some []
 | off, fd :: l => match f fd.type with
  | some a => bif Nat.beq fd.offset off && Nat.beq (P.cellsOf fd.type) a.length then (match layF f (off + a.length) l with
    | some b => some (a ++ b)
    | none => none) else none
  | none => none
def layE : Nat → TypeId → Option (List Ty)
 | 0, _ => none
 | n + 1, t => match P.underlying t with
  | some (.int k) => some [.int k]
  | some .bool => some [.bool]
  | some .string => some [.str]
  | some (.slice e) => match layE n e with
   | some r => bif Nat.beq (P.cellsOf e) r.length && Nat.blt 0 r.length then some [.lst r] else none
   | none => none
  | some (.struct fs) => match layF P (layE n) 0 fs.toList with
   | some e => bif Nat.beq (P.cellsOf t) e.length then some e else none
   | none => none
  | some (.array m el) => match layE n el with
   | some r => bif Nat.beq (P.cellsOf el) r.length && Nat.beq (P.cellsOf t) (repT r m).length then some (repT r m) else none
   | none => none
  | _ => none
end

theorem addr_addN (b o j : Nat) : (⟨b, o, none⟩ : Addr).add j = ⟨b, o + j, none⟩ := by
 unfold Addr.add
 split
 ·rename_i h; subst h; rfl
 ·rfl
theorem wfR_nil (x : rowDen []) : wfR [] x := by rw [wfR]; trivial
theorem wfR_one {t : Ty} (x : rowDen [t]) (h : wfT t x) : wfR [t] x := by rw [wfR]; exact h
theorem wfR_cons {t u : Ty} {ts : List Ty} (x : rowDen (t :: u :: ts)) (h1 : wfT t x.1) (h2 : wfR (u :: ts) x.2) : wfR (t :: u :: ts) x := by rw [wfR]; exact ⟨h1, h2⟩
theorem of_wfR_one {t : Ty} (x : rowDen [t]) (h : wfR [t] x) : wfT t x := by rw [wfR] at h; exact h
theorem of_CRel_one {φ : Nat → Nat → Option Value} {t : Ty} (x : rowDen [t]) {C : Nat → Option Value} (h : CRel φ [t] x C) : ∃ X, C 0 = some X ∧ TRel φ t x X := by rw [CRel] at h; exact h
theorem wfT_int {k : IntKind} {n : (Ty.int k).den} (h : (fun n : Int => kLo k ≤ n ∧ n < kHi k) n) : wfT (.int k) n := by rw [wfT]; exact h
theorem wfT_bool (b : Ty.bool.den) : wfT .bool b := by rw [wfT]; trivial
theorem wfT_str {s : Ty.str.den} (h : ByteArray.size s ≤ 9223372036854775807) : wfT .str s := by rw [wfT]; exact h
theorem wfT_lst {e : List Ty} (L : (Ty.lst e).den) (h : List.length (α := rowDen e) L ≤ 9223372036854775807) (h2 : ∀ i, i < List.length (α := rowDen e) L → wfR e (rowAt e L i)) : wfT (.lst e) L := by rw [wfT]; exact ⟨h, h2⟩
theorem crel_app {φ : Nat → Nat → Option Value} : ∀ (e1 e2 : List Ty) (C : Nat → Option Value), (∃ x, wfR e1 x ∧ CRel φ e1 x C) → (∃ x, wfR e2 x ∧ CRel φ e2 x (fun j => C (e1.length + j))) → ∃ x, wfR (e1 ++ e2) x ∧ CRel φ (e1 ++ e2) x C
 | [], e2, C, _, h2 => by
  obtain ⟨x, h3, h4⟩ := h2
  refine ⟨x, h3, ?_⟩
  have : (fun j => C (([] : List Ty).length + j)) = C := by funext j; rw [List.length_nil, Nat.zero_add]
  rw [this] at h4
  exact h4
 | [t], [], C, h1, _ => h1
 | [t], u :: us, C, ⟨x, h3, h4⟩, ⟨y, h5, h6⟩ => by
  have : (fun j => C ([t].length + j)) = fun j => C (j + 1) := by funext j; rw [List.length_singleton, Nat.add_comm]
  rw [this] at h6
  exact ⟨(x, y), wfR_cons (t := t) (u := u) (ts := us) (x, y) (of_wfR_one x h3) h5, CRel_cons (t := t) (u := u) (ts := us) (x, y) (of_CRel_one x h4) h6⟩
 | t :: u :: us, e2, C, ⟨x, h3, h4⟩, h2 => by
  rw [wfR] at h3
  rw [CRel] at h4
  obtain ⟨y, h5, h6⟩ := crel_app (u :: us) e2 (fun j => C (j + 1)) ⟨x.2, h3.2, h4.2⟩ (by
    obtain ⟨z, h7, h8⟩ := h2
    refine ⟨z, h7, ?_⟩
    have : (fun j => C ((t :: u :: us).length + j)) = fun j => C ((u :: us).length + j + 1) := by funext j; congr 1; simp only [List.length_cons]; omega
    rw [this] at h8
    exact h8)
  exact ⟨(x.1, y), wfR_cons (t := t) (u := u) (ts := us ++ e2) (x.1, y) h3.1 h5, CRel_cons (t := t) (u := u) (ts := us ++ e2) (x.1, y) h4.1 h6⟩

section
variable {H : Type} {enc : TypeId × Value → H} {P : Program} {w : World} {base : Nat} {spare : Nat → Bool} {held : Bool}
abbrev φW (w : World) : Nat → Nat → Option Value := fun B k => w.cell? ⟨B, k, none⟩
def LayOK (enc : TypeId × Value → H) (P : Program) (w : World) (base : Nat) (spare : Nat → Bool) (held : Bool) (f : TypeId → Option (List Ty)) : Prop :=
 ∀ t e, f t = some e → ∀ fuel cs x, DataW.trod enc P w base spare held fuel t cs = some x → cs.length = e.length ∧ ∃ r, wfR e r ∧ CRel (φW w) e r (fun j => cs[j]?)
theorem layF_ok {f : TypeId → Option (List Ty)} (hf : LayOK enc P w base spare held f) {n : Nat} {cs : List Value} : ∀ (l : List Field) (off : Nat) (e : List Ty), layF P f off l = some e → off + e.length ≤ cs.length →
  (∀ (i : Nat) (fd : Field), l[i]? = some fd → ∃ y, DataW.trod enc P w base spare held n fd.type ((cs.drop fd.offset).take (P.cellsOf fd.type)) = some y) →
  ∃ r, wfR e r ∧ CRel (φW w) e r (fun j => cs[off + j]?)
 | [], off, e, h, _, _ => by
  cases h
  exact ⟨(), wfR_nil (), CRel_nil () _⟩
 | fd :: l, off, e, h, hle, ht => by
  rw [layF] at h
  split at h
  ·rename_i a ha
   cases hb : (Nat.beq fd.offset off && Nat.beq (P.cellsOf fd.type) a.length) with
   | false => rw [hb] at h; cases h
   | true =>
    rw [hb, cond_true] at h
    rw [Bool.and_eq_true, Nat.beq_eq, Nat.beq_eq] at hb
    split at h
    ·rename_i b hbb
     cases h
     rw [List.length_append] at hle
     obtain ⟨y, hy⟩ := ht 0 fd rfl
     obtain ⟨h1, r, h2, h3⟩ := hf _ _ ha _ _ _ hy
     refine crel_app a b _ ⟨r, h2, ?_⟩ ?_
     ·refine CRel.mono (fun _ _ _ h => h) a r (fun j v hj => ?_) h3
      rw [List.getElem?_take] at hj
      split at hj
      ·rw [List.getElem?_drop, hb.1] at hj; exact hj
      ·cases hj
     ·obtain ⟨r', h4, h5⟩ := layF_ok hf l (off + a.length) b hbb (by omega) fun i fd' hi => ht (i + 1) fd' (by simpa using hi)
      exact ⟨r', h4, CRel.mono (fun _ _ _ h => h) b r' (fun j v hj => by rw [← Nat.add_assoc]; exact hj) h5⟩
    ·cases h
  ·cases h
theorem layA_ok {f : TypeId → Option (List Ty)} (hf : LayOK enc P w base spare held f) {m : Nat} {cs : List Value} {el : TypeId} {r : List Ty} (hr : f el = some r) (hb : P.cellsOf el = r.length) : ∀ (n off : Nat), off + (repT r n).length ≤ cs.length →
  (∀ i, i < n → ∃ y, DataW.trod enc P w base spare held m el ((cs.drop (off + i * r.length)).take r.length) = some y) →
  ∃ x, wfR (repT r n) x ∧ CRel (φW w) (repT r n) x (fun j => cs[off + j]?)
 | 0, off, _, _ => ⟨(), wfR_nil (), CRel_nil () _⟩
 | n + 1, off, hle, ht => by
  have hle' : off + (r.length + (repT r n).length) ≤ cs.length := by rw [repT, List.length_append] at hle; exact hle
  obtain ⟨y, hy⟩ := ht 0 (Nat.zero_lt_succ _)
  rw [Nat.zero_mul, Nat.add_zero] at hy
  obtain ⟨h1, x, h2, h3⟩ := hf _ _ hr _ _ _ hy
  refine crel_app r (repT r n) _ ⟨x, h2, ?_⟩ ?_
  ·refine CRel.mono (fun _ _ _ h => h) r x (fun j v hj => ?_) h3
   rw [List.getElem?_take] at hj
   split at hj
   ·rw [List.getElem?_drop] at hj; exact hj
   ·cases hj
  ·obtain ⟨x', h4, h5⟩ := layA_ok (cs := cs) (m := m) hf hr hb n (off + r.length) (by rw [Nat.add_assoc]; exact hle') fun i hi => by
    obtain ⟨y, hy⟩ := ht (i + 1) (by omega)
    rw [Nat.succ_mul, Nat.add_comm (i * r.length), ← Nat.add_assoc] at hy
    exact ⟨y, hy⟩
   exact ⟨x', h4, CRel.mono (fun _ _ _ h => h) _ x' (fun j v hj => by rw [← Nat.add_assoc]; exact hj) h5⟩
theorem lay_ok : ∀ n : Nat, LayOK enc P w base spare held (layE P n)
 | 0 => fun t e h => by cases h
 | n + 1 => fun t e h fuel cs x hx => by
  have ih := lay_ok n
  rw [layE] at h
  split at h
  ·rename_i k hu
   cases h
   obtain ⟨q, rfl, _, hw⟩ := DataW.trod_int hu hx
   refine ⟨rfl, q, wfR_one (t := .int k) q (wfT_int ?_), CRel_one (t := .int k) q rfl (TRel_int k q)⟩
   cases k <;> simp [Lit.wf, IntKind.min, IntKind.max, IntKind.signed, IntKind.bits, kLo, kHi] at hw ⊢ <;> omega
  ·rename_i hu
   cases h
   obtain ⟨q, rfl, _⟩ := DataW.trod_bool hu hx
   exact ⟨rfl, q, wfR_one (t := .bool) q (wfT_bool q), CRel_one (t := .bool) q rfl (TRel_bool q)⟩
  ·rename_i hu
   cases h
   obtain ⟨q, rfl, _, hw⟩ := DataW.trod_string hu hx
   unfold maxLen at hw
   exact ⟨rfl, q, wfR_one (t := .str) q (wfT_str (by omega)), CRel_one (t := .str) q rfl (TRel_str q)⟩
  ·rename_i el hu
   split at h
   ·rename_i r hr
    cases hb : (Nat.beq (P.cellsOf el) r.length && Nat.blt 0 r.length) with
    | false => rw [hb] at h; cases h
    | true =>
     rw [hb, cond_true] at h
     rw [Bool.and_eq_true, Nat.beq_eq, blt_iff, decide_eq_true_eq] at hb
     obtain ⟨hb, hz⟩ := hb
     cases h
     rcases Go.Deep.open_slice hu hx with ⟨rfl, _⟩ | ⟨a, len, cap, m, n', D, Pl, rfl, _, hl, hm, hmm, rfl, hc⟩
     ·exact ⟨rfl, ([] : List (rowDen r)), wfR_one (t := .lst r) ([] : List (rowDen r)) (wfT_lst (e := r) ([] : List (rowDen r)) (Nat.zero_le _) fun i hi => absurd hi (Nat.not_lt_zero _)),
        CRel_one (t := .lst r) ([] : List (rowDen r)) rfl (TRel_lstU (e := r) ([] : List (rowDen r)) (Nat.le_refl _) (fun _ => rfl) fun h => absurd h (Nat.lt_irrefl _))⟩
     ·have hlm : len ≤ m := by subst hmm; split <;> omega
      have hr1 : ∀ i, i < len → ∃ y, wfR r y ∧ CRel (φW w) r y (fun j => w.cell? (a.add (i * r.length + j))) ∧ (i = 0 → a.spot = none) := by
       intro i hi
       obtain ⟨cs', h1, h2⟩ := hc i (by omega)
       obtain ⟨h3, y, h4, h5⟩ := ih _ _ hr _ _ _ h2
       obtain ⟨_, h6, h7⟩ := World.cells?_some h1
       refine ⟨y, h4, CRel.mono (fun _ _ _ h => h) r y (fun j v hj => ?_) h5, fun h0 => ?_⟩
       ·have hlt : j < cs'.length := (List.getElem?_eq_some_iff.1 hj).1
        have := h7 j (by omega)
        rw [hb, Go.Deep.add_add] at this
        rw [this]; exact hj
       ·subst h0
        have := h7 0 (by omega)
        rw [List.getElem?_eq_getElem (by omega), Nat.zero_mul] at this
        exact World.cell?_spot this
      have : Inhabited (rowDen r) := ⟨rowDflt r⟩
      obtain ⟨g, hg⟩ := Go.Deep.choose_lt hr1
      have hat : ∀ i, i < len → rowAt r ((List.range len).map g) i = g i := fun i hi => by
       unfold rowAt
       simp [List.getD_eq_getElem?_getD, hi]
      have hlen : ((List.range len).map g).length = len := by simp
      refine ⟨rfl, (List.range len).map g, wfR_one (t := .lst r) _ (wfT_lst _ ?_ fun i hi => ?_), CRel_one (t := .lst r) _ (X := .slice (some a) len cap) rfl ?_⟩
      ·rw [hlen]; unfold maxLen at hm; omega
      ·rw [hlen] at hi
       rw [hat i hi]
       exact (hg i hi).1
      ·have ht := TRel_lstU (e := r) (φ := φW w) ((List.range len).map g) (a := some a) (c := cap) (by rw [hlen]; exact hl) (fun h => (by cases h)) (fun h0 => ?_)
       ·rw [hlen] at ht; exact ht
       rw [hlen] at h0 ⊢
       have hsp := (hg 0 h0).2.2 rfl
       refine ⟨a.block, a.off, by cases a; simp only at hsp; rw [hsp], fun i hi => ?_⟩
       rw [hat i hi]
       refine CRel.mono (fun _ _ _ h => h) r _ (fun j v hj => ?_) (hg i hi).2.1
       have e : a = ⟨a.block, a.off, none⟩ := by cases a; simp only at hsp; rw [hsp]
       rw [e, addr_addN] at hj
       rw [Nat.add_assoc]
       exact hj
   ·cases h
  ·rename_i fs hu
   split at h
   ·rename_i e' he
    cases hb : Nat.beq (P.cellsOf t) e'.length with
    | false => rw [hb] at h; cases h
    | true =>
     rw [hb, cond_true] at h
     cases h
     have hb := Nat.eq_of_beq_eq_true hb
     obtain ⟨xs, m, _, _, hl, hlen, hf⟩ := DataW.trod_struct hu hx
     refine ⟨by omega, ?_⟩
     obtain ⟨r, h1, h2⟩ := layF_ok ih (n := m) (cs := cs) fs.toList 0 e he (by omega) fun i fd hi => by
      have hi : fs[i]? = some fd := by simpa using hi
      exact ⟨_, (hf i fd hi).trans (List.getElem?_eq_getElem (by have := (Array.getElem?_eq_some_iff.1 hi).1; omega))⟩
     exact ⟨r, h1, CRel.mono (fun _ _ _ h => h) e r (fun j v hj => by rwa [Nat.zero_add] at hj) h2⟩
   ·cases h
  ·rename_i m el hu
   split at h
   ·rename_i r hr
    cases hb : (Nat.beq (P.cellsOf el) r.length && Nat.beq (P.cellsOf t) (repT r m).length) with
    | false => rw [hb] at h; cases h
    | true =>
     rw [hb, cond_true] at h
     rw [Bool.and_eq_true, Nat.beq_eq, Nat.beq_eq] at hb
     cases h
     obtain ⟨xs, m', _, _, hl, hlen, hf⟩ := DataW.trod_array hu hx
     refine ⟨by omega, ?_⟩
     obtain ⟨y, h1, h2⟩ := layA_ok ih (m := m') (cs := cs) hr hb.1 m 0 (by omega) fun i hi => by
      have := hf i hi
      rw [hb.1] at this
      rw [Nat.zero_add]
      exact ⟨_, this.trans (List.getElem?_eq_getElem (by omega))⟩
     exact ⟨y, h1, CRel.mono (fun _ _ _ h => h) _ y (fun j v hj => by rwa [Nat.zero_add] at hj) h2⟩
   ·cases h
  ·cases h

theorem crel_rowV {φ : Nat → Nat → Option Value} : ∀ (e : List Ty) (x : rowDen e) (A : List Value), A.length = e.length → CRel φ e x (fun j => A[j]?) → LRel (envφ φ) (rowV e x) A
 | [], _, A, h, _ => by cases A <;> simp at h; exact rfl
 | [t], x, A, h, hc => by
  match A, h with
  | [a], _ =>
   rw [CRel] at hc
   obtain ⟨X, h1, h2⟩ := hc
   cases h1
   exact ⟨a, [], rfl, toV_rel t x a h2, rfl⟩
 | t :: u :: ts, x, A, h, hc => by
  match A, h with
  | a :: A, h =>
   rw [CRel] at hc
   obtain ⟨⟨X, h1, h2⟩, h3⟩ := hc
   cases h1
   exact ⟨a, A, rfl, toV_rel t x.1 a h2, crel_rowV (u :: ts) x.2 A (by simpa using h) h3⟩
where
 toV_rel (t : Ty) (x : t.den) (a : Value) (h : TRel φ t x a) : VRel (envφ φ) (toV t x) a := by
  cases t with
  | int k => rw [TRel] at h; simp only [toV, VRel]; exact h
  | bool => rw [TRel] at h; simp only [toV, VRel]; exact h
  | str => rw [TRel] at h; simp only [toV, VRel]; exact h
  | lst e =>
   rw [TRel] at h
   simp only [toV, VRel]
   obtain ⟨a', c, h1, h2, h3, h4⟩ := h
   refine ⟨a', c, h1, h2, fun h => (by cases h), h3, fun hp => ?_⟩
   obtain ⟨B, o, h5, h6⟩ := h4 hp
   refine ⟨B, o, h5, fun i hi => ?_⟩
   refine CRel.mono (fun _ _ _ h => h) e _ (fun j v hj => ?_) (h6 i hi)
   show φ B (o + (i * e.length + j)) = some v
   rw [← Nat.add_assoc]
   exact hj
theorem arg_struct {n : Nat} {t : TypeId} {e : List Ty} {fs : Array Field} {v : Value} {d : DataW H} {p : List MemPlace} {r : Go.Reach} {b0 : Nat} {W : World} (hu : P.underlying t = some (.struct fs)) (hl : layE P n t = some e)
  (k : Value.okWide P W r b0 t v) (h : DataW.Trod enc P w base spare held t v d p) : ∃ x : rowDen e, wfR e x ∧ VRel (envφ (φW w)) (.agg (rowV e x)) v := by
 obtain ⟨A, rfl, hA⟩ := okWide_struct hu k
 obtain ⟨fuel, hf⟩ := h
 have hf' : DataW.trod enc P w base spare held fuel t A.toList = some (d, p) := by simpa [Value.cells] using hf
 obtain ⟨h1, x, h2, h3⟩ := lay_ok n t e hl _ _ _ hf'
 exact ⟨x, h2, by simp only [VRel]; exact ⟨A, rfl, crel_rowV e x _ h1 h3⟩⟩
theorem arg_one {n : Nat} {t : TypeId} {t0 : Ty} {v : Value} {d : DataW H} {p : List MemPlace} (hl : layE P n t = some [t0]) (hc : v.cells = #[v])
  (h : DataW.Trod enc P w base spare held t v d p) : ∃ x : t0.den, wfT t0 x ∧ VRel (envφ (φW w)) (toV t0 x) v := by
 obtain ⟨fuel, hf⟩ := h
 rw [hc] at hf
 obtain ⟨h1, x, h2, h3⟩ := lay_ok n t [t0] hl _ _ _ hf
 rw [wfR] at h2
 rw [CRel] at h3
 obtain ⟨X, h4, h5⟩ := h3
 cases h4
 exact ⟨x, h2, crel_rowV.toV_rel t0 x v h5⟩
theorem arg_int {n : Nat} {t : TypeId} {kd : IntKind} {v : Value} {d : DataW H} {p : List MemPlace} {r : Go.Reach} {b0 : Nat} {W : World} (hu : P.underlying t = some (.int kd)) (hl : layE P n t = some [.int kd]) (k : Value.okWide P W r b0 t v)
  (h : DataW.Trod enc P w base spare held t v d p) : ∃ q : Int, (kLo kd ≤ q ∧ q < kHi kd) ∧ VRel (envφ (φW w)) (.int kd q) v := by
 obtain ⟨q, rfl⟩ := okWide_int hu k
 obtain ⟨x, h1, h2⟩ := arg_one (t0 := .int kd) hl rfl h
 rw [wfT] at h1
 exact ⟨x, h1, h2⟩
end
end Go.Sym
end

section
namespace Go.Proofs.Ytaloolcabmfjbaa
open Go.Sym Go.WideShapes
open Go.RowKit (Below)
set_option maxRecDepth 100000
abbrev rqEl : List Ty := [.int .i64, .int .u64, .int .u64, .bool, .lst cmT, .lst opT, .lst opT, .int .u64]
abbrev rpEl : List Ty := [.int .i64, .int .u64, .int .u64, .bool, .lst reT, .int .u32, .int .u64, .int .u64, .int .i64]
theorem op_u6 {L : List OpQ} (h : wfT (.lst opT) L) : L.length ≤ 9223372036854775807 ∧ ∀ i, i < L.length → u6O (Sym.rowAt opT L i) := by
 rw [wfT] at h
 refine ⟨h.1, fun i hi => ?_⟩
 have := h.2 i hi
 simp only [wfR, wfT] at this
 exact this.2.2.2.2.1
theorem cm_u6 {L : List CmQ} (h : wfT (.lst cmT) L) : L.length ≤ 9223372036854775807 ∧ ∀ i, i < L.length → u6C (Sym.rowAt cmT L i) := by
 rw [wfT] at h
 refine ⟨h.1, fun i hi => ?_⟩
 have := h.2 i hi
 simp only [wfR, wfT] at this
 exact this.2.2.2.1
theorem kv_u6 {L : List KvQ} (h : wfT (.lst kvT) L) : u6L L := by
 rw [wfT] at h
 refine ⟨h.1, fun i hi => ?_⟩
 have := h.2 i hi
 simp only [wfR, wfT] at this
 exact ⟨this.2.2.1, this.2.2.2.1, this.2.2.2.2⟩
theorem re_u6 {L : List ReQ} (h : wfT (.lst reT) L) : reUB L = true := by
 rw [wfT] at h
 rw [reUB_iff]
 refine ⟨h.1, fun i hi => ?_⟩
 have := h.2 i hi
 simp only [wfR] at this
 exact ⟨kv_u6 this.1, kv_u6 this.2.2.2.2⟩
theorem codecBack_fin {H : Type} {enc : TypeId × Value → H} {base : Nat} (W : World) (v0 : Value) (v1 : Value) (v2 : Value) {d0 : DataW H} {d1 : DataW H} {d2 : DataW H} {p0 : List MemPlace} {p1 : List MemPlace} {p2 : List MemPlace} (k0 : Value.okWide Try.prog W .any base 26 v0) (k1 : Value.okWide Try.prog W .any base 37 v1) (k2 : Value.okWide Try.prog W .any base 48 v2) (h0 : DataW.Trod enc Try.prog W 0 (fun _ => true) true 26 v0 d0 p0) (h1 : DataW.Trod enc Try.prog W 0 (fun _ => true) true 37 v1 d1 p1) (h2 : DataW.Trod enc Try.prog W 0 (fun _ => true) true 48 v2 d2 p2) (lt0 : ∀ x ∈ p0, x.block < W.heap.size) (lt1 : ∀ x ∈ p1, x.block < W.heap.size) (lt2 : ∀ x ∈ p2, x.block < W.heap.size) :
  Calls Try.prog 6 #[v0, v1, v2] W fun e w' => e = .returned (.bool true) ∧ Below W.heap.size W w' := by
 obtain ⟨⟨k, cl, nm, sr, C, A, B, rv⟩, w0, g0⟩ := arg_struct (n := 8) (e := rqEl) Try.underlying26 (by kernel_rfl) k0 h0
 obtain ⟨⟨er, rw, cm, tk, R, ha, ap, te, ld⟩, w1, g1⟩ := arg_struct (n := 8) (e := rpEl) Try.underlying37 (by kernel_rfl) k1 h1
 obtain ⟨at_, w2, g2⟩ := arg_int (n := 6) Try.underlying48 (by kernel_rfl) k2 h2
 simp only [wfR] at w0 w1
 obtain ⟨a0, a1, a2, a3, a4, a5, a6, a7⟩ := w0
 obtain ⟨b0, b1, b2, b3, b4, b5, b6, b7, b8⟩ := w1
 rw [wfT] at a1 a2 a7 b1 b2 b5 b6 b7
 obtain ⟨lC, uC⟩ := cm_u6 a4
 obtain ⟨lA, uA⟩ := op_u6 a5
 obtain ⟨lB, uB⟩ := op_u6 a6
 exact pure_true (codecBack_at k cl nm rv sr C A B er rw cm ha ap te ld tk R at_ a1 a2 a7 lC lA lB uC uA uB b1 b2 b5 b6 b7 (re_u6 b4) w2) W _ ⟨_, _, rfl, g0, _, _, rfl, g1, _, _, rfl, g2, rfl⟩
end Go.Proofs.Ytaloolcabmfjbaa
end

section
namespace Go.Eng
open Go.RowKit Go.ChangeShapes Go.WideShapes

section
variable {H : Type} {enc : TypeId × Value → H} {P : Program} {f : Func} {s : ChangeSpec} {apart fresh handsOn again : Bool} {W W' : World} {args : Array Value} {v : Value} {ds gs : List (DataW H)} {before : List MemPlace}

theorem post_low (hW : DataW.Whole enc P f.params.toList s.vars apart W args.toList ds gs before) (hb : Below W.heap.size W W')
  (pa pv : List MemPlace) (hp : before = pa ++ pv)
  (hr : ∀ (b : Nat) (sp : Nat → Bool) (hd : Bool), DataW.TrodAll enc P W' b sp hd f.resultTypes.toList (v.resultList f.resultTypes.size) (s.fn H (ds ++ gs)).results [])
  (ha : ∀ sp : Nat → Bool, (∀ p ∈ before, sp p.block = true) → DataW.TrodAll enc P W' 0 sp true f.params.toList args.toList (s.fn H (ds ++ gs)).args pa)
  (hv : ∀ sp : Nat → Bool, (∀ p ∈ before, sp p.block = true) → DataW.TrodVars enc P W' sp s.vars (s.fn H (ds ++ gs)).vars pv)
  (hok : ∀ (j : Nat) (t : TypeId) (r : Value), f.resultTypes[j]? = some t → (v.resultList f.resultTypes.size)[j]? = some r → Value.okWide P W' .any 0 t r) :
  s.post enc P f apart fresh handsOn again W args v W' := by
 have low : ∀ p ∈ before, p.block < W.heap.size := fun p h => hW.lt p h
 have seen : ∀ p ∈ before, decide (p.block < W.heap.size) = true := fun p h => decide_eq_true (low p h)
 have kept : W.keptBut W' fun p => p ∈ before ∧ (p ∈ pa ∨ p ∈ pv) :=
  World.keptBut_mono (fun p h => ⟨h, by rw [hp] at h; exact List.mem_append.1 h⟩) (hb.frame (· ∈ before))
 subst hp
 refine ⟨ds, gs, pa ++ pv, [], pa, pv, hW, hr _ _ _, ha (fun b => decide (b < W.heap.size)) seen, hv (fun b => decide (b < W.heap.size)) seen, ?_, fun _ => ⟨hok, ?_⟩⟩
 ·exact World.keptBut_mono (fun p h => ⟨h.1, h.2.elim (fun h => .inr (.inl h)) fun h => .inr (.inr h)⟩) kept
 ·obtain ⟨_, _, _, _, _, hz, hn⟩ := hW
  have hA := trodAll_append (ha (fun _ => true) fun _ _ => rfl) (hr 0 (fun _ => true) true)
  refine ⟨_, _, pa ++ pv, ⟨pa, pv, by simpa using hA, hv (fun _ => true) fun _ _ => rfl, rfl, fun b off h => ?_, hn⟩, fun p h _ => by simpa using h⟩
  rw [hb.frozen (low _ h)]
  exact hz b off h
end
end Go.Eng
end

section

end
