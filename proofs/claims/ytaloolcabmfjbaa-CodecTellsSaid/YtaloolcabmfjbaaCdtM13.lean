/-
  Texts of this claim, one behind the other: CdEq. Each says its own conditions.
-/
import Derived.Test.YtaloolcabmfjbaaCdtM12

set_option linter.unusedVariables false
set_option linter.unusedSimpArgs false
set_option linter.unusedSectionVars false
section
namespace Go.Proofs.Ytaloolcabmfjbaa
open Go.Sym
set_option linter.unusedVariables false
set_option linter.unusedSimpArgs false
set_option maxRecDepth 100000
set_option maxHeartbeats 4000000
noncomputable def rkvC (s : ByteArray) (L : List KvQ) (i : Nat) : CD := ⟨50, [(0, .str (s ++ catA kvY L i)), (1, .lst kvT L false), (5, .int .i64 (i : Int))], [], [], 0⟩
theorem rkv_lp (s : ByteArray) (L : List KvQ) (hs : s.size ≤ 10000000000000000) (N : Nat) (hw : kvW L = true) : LpD.ok Try.prog N 0 (bodyOf Try.prog 51) ⟨3, [], rkvC s L 0, .leaf (.exit 0) (rkvC s L L.length)⟩ := by
 have hi := (kvW_iff L).1 hw
 have hl := hi.1
 have hz := kvZ_le L hw
 refine LpD.ok_one (b := bodyAt Try.prog 51 3) rfl (loop_W tabE0_ok (fuel := 6) (d := 5) (X := { i : Nat // i ≤ L.length }) (fun x => rkvC s L x.1) (fun x => L.length - x.1)
   (fun _ => .leaf (.exit 0) (rkvC s L L.length)) (fun _ => noLpW) (fun _ => noLp) (fun _ => noLp_ad) (fun _ => noLp_ok _) ?_ ⟨0, Nat.zero_le _⟩)
 rintro ⟨i, hi2⟩
 dsimp only
 have hzi := hz i hi2
 rcases Nat.lt_or_ge i L.length with hlt | hge
 ·have ei : Int.toNat (i : Int) = i := Int.toNat_natCast i
  have es : catA kvY L (i + 1) = catA kvY L i ++ kvY (Sym.rowAt kvT L (Int.toNat (i : Int))) := catA_succ kvY L i
  obtain ⟨w0, w1, ⟨w2a, w2b⟩, ⟨w3a, w3b⟩, ⟨w4a, w4b⟩⟩ : ((Sym.rowAt kvT L (Int.toNat (i : Int))).1).size ≤ 1000000 ∧ ((Sym.rowAt kvT L (Int.toNat (i : Int))).2.1).size ≤ 1000000 ∧ (@LE.le Int _ 0 (Sym.rowAt kvT L (Int.toNat (i : Int))).2.2.1 ∧ @LT.lt Int _ (Sym.rowAt kvT L (Int.toNat (i : Int))).2.2.1 18446744073709551616) ∧ (@LE.le Int _ 0 (Sym.rowAt kvT L (Int.toNat (i : Int))).2.2.2.1 ∧ @LT.lt Int _ (Sym.rowAt kvT L (Int.toNat (i : Int))).2.2.2.1 18446744073709551616) ∧ (@LE.le Int _ 0 (Sym.rowAt kvT L (Int.toNat (i : Int))).2.2.2.2 ∧ @LT.lt Int _ (Sym.rowAt kvT L (Int.toNat (i : Int))).2.2.2.2 18446744073709551616) := by rw [ei]; exact hi.2 i hlt
  have z0 := txtT_le (Sym.rowAt kvT L (Int.toNat (i : Int))).1
  have z1 := txtT_le (Sym.rowAt kvT L (Int.toNat (i : Int))).2.1
  have z2 := numT_le (Sym.rowAt kvT L (Int.toNat (i : Int))).2.2.1
  have z3 := numT_le (Sym.rowAt kvT L (Int.toNat (i : Int))).2.2.2.1
  have z4 := numT_le (Sym.rowAt kvT L (Int.toNat (i : Int))).2.2.2.2
  have ey : kvY (Sym.rowAt kvT L (Int.toNat (i : Int))) = txtT (Sym.rowAt kvT L (Int.toNat (i : Int))).1 ++ (txtT (Sym.rowAt kvT L (Int.toNat (i : Int))).2.1 ++ (numT (Sym.rowAt kvT L (Int.toNat (i : Int))).2.2.1 ++ (numT (Sym.rowAt kvT L (Int.toNat (i : Int))).2.2.2.1 ++ (numT (Sym.rowAt kvT L (Int.toNat (i : Int))).2.2.2.2)))) := kvY_eq _ _ _ _ _
  repeat' ((conv => whnf); first | (with_reducible first | (refine W1.o ?_; constructor) | rfl | exact castL_self _ _) | ((with_reducible refine V.same_t ?_); exact rfl) | ((with_reducible refine andB_room ?_ ?_ ?_); (· kernel_rfl); (· (first | omega | (simp only [lens] <;> omega)))) | ((with_reducible refine W2.o ?_; constructor); · (first | (with_reducible assumption) | (first | omega | (simp only [lens] <;> omega)))) | ((with_reducible refine W3.o ?_; constructor); · (first | (with_reducible assumption) | (first | omega | (simp only [lens] <;> omega)))) | ((with_reducible refine W4.o ?_; constructor); · (first | (with_reducible first | assumption | exact decide_eq_true rfl | exact sEq_self _) | ((with_reducible refine eqOK_i ?_); kernel_rfl))) | ((with_reducible refine iteB_f ?_ ?_); · (first | (with_reducible first | assumption | exact decide_eq_true rfl | exact sEq_self _) | ((with_reducible refine eqOK_i ?_); kernel_rfl))) | (refine ⟨⟨i + 1, hlt⟩, ?_, rfl, ?_⟩) | (with_reducible refine CD.wk_au ?_) | (with_reducible refine W5.o ?_; constructor) | ((with_reducible refine W6.o ?_; constructor) <;> intro hB))
  all_goals ((conv => whnf); (try dsimp only); (try simp only [Nat.succ_eq_add_one, Nat.le_eq, castL_self]); (try omega))
  all_goals (try (first | omega | (simp only [lens] <;> omega)))
  all_goals first
   | exact rfl
   | omega
   | (simp only [lens] <;> omega)
   | (rw [es, ey]; simp only [ByteArray.append_assoc]; done)
   | (rw [es, ey]; simp only [ByteArray.append_assoc]; exact rfl)
   | trace_state
 ·have he : i = L.length := Nat.le_antisymm hi2 hge
  subst he
  repeat' ((conv => whnf); first | (with_reducible first | (refine W1.o ?_; constructor) | rfl | exact castL_self _ _) | ((with_reducible refine V.same_t ?_); exact rfl) | ((with_reducible refine andB_room ?_ ?_ ?_); (· kernel_rfl); (· (first | omega | (simp only [lens] <;> omega)))) | ((with_reducible refine W2.o ?_; constructor); · (first | (with_reducible assumption) | (first | omega | (simp only [lens] <;> omega)))) | ((with_reducible refine W3.o ?_; constructor); · (first | (with_reducible assumption) | (first | omega | (simp only [lens] <;> omega)))) | ((with_reducible refine W4.o ?_; constructor); · (first | (with_reducible first | assumption | exact decide_eq_true rfl | exact sEq_self _) | ((with_reducible refine eqOK_i ?_); kernel_rfl))) | ((with_reducible refine iteB_f ?_ ?_); · (first | (with_reducible first | assumption | exact decide_eq_true rfl | exact sEq_self _) | ((with_reducible refine eqOK_i ?_); kernel_rfl))) | (with_reducible refine CD.wk_au ?_) | (with_reducible refine W5.o ?_; constructor) | ((with_reducible refine W6.o ?_; constructor) <;> intro hB))
  all_goals ((conv => whnf); (try dsimp only); (try simp only [Nat.succ_eq_add_one, Nat.le_eq, castL_self]); (try omega))
  all_goals (try (first | omega | (simp only [lens] <;> omega)))
  all_goals first
   | exact rfl
   | trace_state
theorem rkvs_at (s : ByteArray) (L : List KvQ) (hs : s.size ≤ 10000000000000000) (hw : kvW L = true) : PureAt Try.prog 51 [.str s, .lst kvT L false] (.str (s ++ catZ kvY L)) := by
 have hi := (kvW_iff L).1 hw
 have hl := hi.1
 have hzL := kvZ_le L hw L.length (Nat.le_refl _)
 have e0 := catA_0 kvY L
 have eZ := catZ_eq kvY L
 have z0 := numT_le (L.length : Int)
 have en : (L.length : Int) % 18446744073709551616 = (L.length : Int) := by omega
 refine pure_of_loops tabE0_ok (fuel := 4) (d := 5) [⟨3, [], rkvC s L 0, .leaf (.exit 0) (rkvC s L L.length)⟩] (fun N y hy => by rw [List.mem_singleton.1 hy]; exact rkv_lp s L hs N hw) ?_
 repeat' ((conv => whnf); first | (with_reducible first | (refine W1.o ?_; constructor) | rfl | exact castL_self _ _) | ((with_reducible refine V.same_t ?_); exact rfl) | ((with_reducible refine andB_room ?_ ?_ ?_); (· kernel_rfl); (· (first | omega | (simp only [lens] <;> omega)))) | ((with_reducible refine W2.o ?_; constructor); · (first | (with_reducible assumption) | (first | omega | (simp only [lens] <;> omega)))) | ((with_reducible refine W3.o ?_; constructor); · (first | (with_reducible assumption) | (first | omega | (simp only [lens] <;> omega)))) | ((with_reducible refine W4.o ?_; constructor); · (first | (with_reducible first | assumption | exact decide_eq_true rfl | exact sEq_self _) | ((with_reducible refine eqOK_i ?_); kernel_rfl))) | ((with_reducible refine iteB_f ?_ ?_); · (first | (with_reducible first | assumption | exact decide_eq_true rfl | exact sEq_self _) | ((with_reducible refine eqOK_i ?_); kernel_rfl))) | (with_reducible refine CD.wk_au ?_) | (with_reducible refine W5.o ?_; constructor) | ((with_reducible refine W6.o ?_; constructor) <;> intro hB))
 all_goals ((conv => whnf); (try dsimp only); (try simp only [Nat.succ_eq_add_one, Nat.le_eq, castL_self]); (try omega))
 all_goals (try (first | omega | (simp only [lens] <;> omega)))
 all_goals first
  | exact rfl
  | (rw [eZ]; done)
  | (simp only [en, e0]; done)
  | trace_state
noncomputable def rkvF (args : List V) : Option (List Bool × V) := match args with
 | [.str s, l] => (match ofLst kvT l with
   | some L => some ([decide (s.size ≤ 10000000000000000), kvW L], .str (s ++ catZ kvY L))
   | none => none)
 | _ => none
theorem rkvF_ok (args : List V) (c : List Bool) (v : V) (h : rkvF args = some (c, v)) (hc : allB c) : PureAt Try.prog 51 args v := by
 unfold rkvF at h
 split at h
 ·split at h
  ·rename_i s l q L hl
   cases h
   exact PureAt.lst (pre := [.str s]) (rest := []) (rkvs_at s L (of_decide_eq_true hc.1) hc.2.1) hl
  ·cases h
 ·cases h
noncomputable def kvlF (args : List V) : Option (List Bool × V) := match args with
 | [.str s, l, .fn g [] []] => (match ofLst kvT l with
   | some L => some ([Nat.beq g 88, decide (s.size ≤ 10000000000000000), kvW L], .str (s ++ catZ kvY L))
   | none => none)
 | _ => none
theorem kvlF_ok (args : List V) (c : List Bool) (v : V) (h : kvlF args = some (c, v)) (hc : allB c) : PureAt Try.prog 87 args v := by
 unfold kvlF at h
 split at h
 ·split at h
  ·rename_i s l g q L hl
   cases h
   rw [Nat.eq_of_beq_eq_true hc.1]
   exact PureAt.lst (pre := [.str s]) (rest := [.fn 88 [] []]) (kvl_at s L (of_decide_eq_true hc.2.1) hc.2.2.1) hl
  ·cases h
 ·cases h
section
variable (k cl nm rv : Int) (sr : Bool) (C : List CmQ) (A B : List OpQ)
end
end Go.Proofs.Ytaloolcabmfjbaa
end
