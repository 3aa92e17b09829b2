/-
  Texts of this claim, one behind the other: CdEq. Each says its own conditions.
-/
import Derived.Test.YtaloolcabmfjbaaCdoM14

set_option linter.unusedVariables false
set_option linter.unusedSimpArgs false
set_option linter.unusedSectionVars false
section
namespace Go.Proofs.Ytaloolcabmfjbaa
open Go.Sym
set_option linter.unusedVariables false
set_option linter.unusedSimpArgs false
set_option maxRecDepth 100000
set_option maxHeartbeats 4000000
noncomputable def ropC (s : ByteArray) (L : List OpQ) (i : Nat) : CD := ⟨58, [(0, .str (s ++ catA opY L i)), (1, .lst opT L false), (5, .int .i64 (i : Int))], [], [], 0⟩
theorem rop_lp (s : ByteArray) (L : List OpQ) (hs : s.size ≤ 10000000000000000) (N : Nat) (hw : opW L = true) : LpD.ok Try.prog N 0 (bodyOf Try.prog 35) ⟨3, [], ropC s L 0, .leaf (.exit 0) (ropC s L L.length)⟩ := by
 have hi := (opW_iff L).1 hw
 have hl := hi.1
 have hz := opZ_le L hw
 refine LpD.ok_one (b := bodyAt Try.prog 35 3) rfl (loop_W tabE0_ok (fuel := 6) (d := 5) (X := { i : Nat // i ≤ L.length }) (fun x => ropC s L x.1) (fun x => L.length - x.1)
   (fun _ => .leaf (.exit 0) (ropC s L L.length)) (fun _ => noLpW) (fun _ => noLp) (fun _ => noLp_ad) (fun _ => noLp_ok _) ?_ ⟨0, Nat.zero_le _⟩)
 rintro ⟨i, hi2⟩
 dsimp only
 have hzi := hz i hi2
 rcases Nat.lt_or_ge i L.length with hlt | hge
 ·have ei : Int.toNat (i : Int) = i := Int.toNat_natCast i
  have es : catA opY L (i + 1) = catA opY L i ++ opY (Sym.rowAt opT L (Int.toNat (i : Int))) := catA_succ opY L i
  obtain ⟨w1, w2, w3, ⟨w4a, w4b⟩⟩ : ((Sym.rowAt opT L (Int.toNat (i : Int))).2.1).size ≤ 1000000 ∧ ((Sym.rowAt opT L (Int.toNat (i : Int))).2.2.1).size ≤ 1000000 ∧ ((Sym.rowAt opT L (Int.toNat (i : Int))).2.2.2.1).size ≤ 1000000 ∧ (@LE.le Int _ 0 (Sym.rowAt opT L (Int.toNat (i : Int))).2.2.2.2.1 ∧ @LT.lt Int _ (Sym.rowAt opT L (Int.toNat (i : Int))).2.2.2.2.1 18446744073709551616) := by rw [ei]; exact hi.2 i hlt
  have z0 := numT_le (@HMod.hMod Int Int Int _ (Sym.rowAt opT L (Int.toNat (i : Int))).1 18446744073709551616)
  have z1 := txtT_le (Sym.rowAt opT L (Int.toNat (i : Int))).2.1
  have z2 := txtT_le (Sym.rowAt opT L (Int.toNat (i : Int))).2.2.1
  have z3 := txtT_le (Sym.rowAt opT L (Int.toNat (i : Int))).2.2.2.1
  have z4 := numT_le (Sym.rowAt opT L (Int.toNat (i : Int))).2.2.2.2.1
  have z5 := numT_le (@HMod.hMod Int Int Int _ (Sym.rowAt opT L (Int.toNat (i : Int))).2.2.2.2.2.1 18446744073709551616)
  have z6 := numT_le (tI (Sym.rowAt opT L (Int.toNat (i : Int))).2.2.2.2.2.2.1)
  have t6 := tI_in (Sym.rowAt opT L (Int.toNat (i : Int))).2.2.2.2.2.2.1
  have z7 := numT_le (tI (Sym.rowAt opT L (Int.toNat (i : Int))).2.2.2.2.2.2.2.1)
  have t7 := tI_in (Sym.rowAt opT L (Int.toNat (i : Int))).2.2.2.2.2.2.2.1
  have z8 := numT_le (tI (Sym.rowAt opT L (Int.toNat (i : Int))).2.2.2.2.2.2.2.2)
  have t8 := tI_in (Sym.rowAt opT L (Int.toNat (i : Int))).2.2.2.2.2.2.2.2
  have ey : opY (Sym.rowAt opT L (Int.toNat (i : Int))) = numT (@HMod.hMod Int Int Int _ (Sym.rowAt opT L (Int.toNat (i : Int))).1 18446744073709551616) ++ (txtT (Sym.rowAt opT L (Int.toNat (i : Int))).2.1 ++ (txtT (Sym.rowAt opT L (Int.toNat (i : Int))).2.2.1 ++ (txtT (Sym.rowAt opT L (Int.toNat (i : Int))).2.2.2.1 ++ (numT (Sym.rowAt opT L (Int.toNat (i : Int))).2.2.2.2.1 ++ (numT (@HMod.hMod Int Int Int _ (Sym.rowAt opT L (Int.toNat (i : Int))).2.2.2.2.2.1 18446744073709551616) ++ (numT (tI (Sym.rowAt opT L (Int.toNat (i : Int))).2.2.2.2.2.2.1) ++ (numT (tI (Sym.rowAt opT L (Int.toNat (i : Int))).2.2.2.2.2.2.2.1) ++ (numT (tI (Sym.rowAt opT L (Int.toNat (i : Int))).2.2.2.2.2.2.2.2))))))))) := opY_eq _ _ _ _ _ _ _ _ _
  repeat' ((conv => whnf); first | (with_reducible first | (refine W1.o ?_; constructor) | rfl | exact castL_self _ _) | ((with_reducible refine V.same_t ?_); exact rfl) | ((with_reducible refine andB_room ?_ ?_ ?_); (· kernel_rfl); (· (first | omega | (simp only [lens] <;> omega)))) | ((with_reducible refine W2.o ?_; constructor); · (first | (with_reducible assumption) | (first | omega | (simp only [lens] <;> omega)))) | ((with_reducible refine W3.o ?_; constructor); · (first | (with_reducible assumption) | (first | omega | (simp only [lens] <;> omega)))) | ((with_reducible refine W4.o ?_; constructor); · (first | (with_reducible first | assumption | exact decide_eq_true rfl | exact sEq_self _) | ((with_reducible refine eqOK_i ?_); kernel_rfl))) | ((with_reducible refine iteB_f ?_ ?_); · (first | (with_reducible first | assumption | exact decide_eq_true rfl | exact sEq_self _) | ((with_reducible refine eqOK_i ?_); kernel_rfl))) | (refine ⟨⟨i + 1, hlt⟩, ?_, rfl, ?_⟩) | (with_reducible refine CD.wk_au ?_) | (with_reducible refine W5.o ?_; constructor) | ((with_reducible refine W6.o ?_; constructor) <;> intro hB))
  all_goals ((conv => whnf); (try dsimp only); (try simp only [Nat.succ_eq_add_one, Nat.le_eq, castL_self]); (try omega))
  all_goals (try (first | omega | (simp only [lens] <;> omega)))
  all_goals first
   | exact rfl
   | omega
   | (simp only [lens] <;> omega)
   | (rw [es, ey]; simp only [ByteArray.append_assoc]; done)
   | (rw [es, ey]; simp only [ByteArray.append_assoc]; exact rfl)
   | trace_state
 ·have he : i = L.length := Nat.le_antisymm hi2 hge
  subst he
  repeat' ((conv => whnf); first | (with_reducible first | (refine W1.o ?_; constructor) | rfl | exact castL_self _ _) | ((with_reducible refine V.same_t ?_); exact rfl) | ((with_reducible refine andB_room ?_ ?_ ?_); (· kernel_rfl); (· (first | omega | (simp only [lens] <;> omega)))) | ((with_reducible refine W2.o ?_; constructor); · (first | (with_reducible assumption) | (first | omega | (simp only [lens] <;> omega)))) | ((with_reducible refine W3.o ?_; constructor); · (first | (with_reducible assumption) | (first | omega | (simp only [lens] <;> omega)))) | ((with_reducible refine W4.o ?_; constructor); · (first | (with_reducible first | assumption | exact decide_eq_true rfl | exact sEq_self _) | ((with_reducible refine eqOK_i ?_); kernel_rfl))) | ((with_reducible refine iteB_f ?_ ?_); · (first | (with_reducible first | assumption | exact decide_eq_true rfl | exact sEq_self _) | ((with_reducible refine eqOK_i ?_); kernel_rfl))) | (with_reducible refine CD.wk_au ?_) | (with_reducible refine W5.o ?_; constructor) | ((with_reducible refine W6.o ?_; constructor) <;> intro hB))
  all_goals ((conv => whnf); (try dsimp only); (try simp only [Nat.succ_eq_add_one, Nat.le_eq, castL_self]); (try omega))
  all_goals (try (first | omega | (simp only [lens] <;> omega)))
  all_goals first
   | exact rfl
   | trace_state
theorem rops_at (s : ByteArray) (L : List OpQ) (hs : s.size ≤ 10000000000000000) (hw : opW L = true) : PureAt Try.prog 35 [.str s, .lst opT L false] (.str (s ++ catZ opY L)) := by
 have hi := (opW_iff L).1 hw
 have hl := hi.1
 have hzL := opZ_le L hw L.length (Nat.le_refl _)
 have e0 := catA_0 opY L
 have eZ := catZ_eq opY L
 have z0 := numT_le (L.length : Int)
 have en : (L.length : Int) % 18446744073709551616 = (L.length : Int) := by omega
 refine pure_of_loops tabE0_ok (fuel := 4) (d := 5) [⟨3, [], ropC s L 0, .leaf (.exit 0) (ropC s L L.length)⟩] (fun N y hy => by rw [List.mem_singleton.1 hy]; exact rop_lp s L hs N hw) ?_
 repeat' ((conv => whnf); first | (with_reducible first | (refine W1.o ?_; constructor) | rfl | exact castL_self _ _) | ((with_reducible refine V.same_t ?_); exact rfl) | ((with_reducible refine andB_room ?_ ?_ ?_); (· kernel_rfl); (· (first | omega | (simp only [lens] <;> omega)))) | ((with_reducible refine W2.o ?_; constructor); · (first | (with_reducible assumption) | (first | omega | (simp only [lens] <;> omega)))) | ((with_reducible refine W3.o ?_; constructor); · (first | (with_reducible assumption) | (first | omega | (simp only [lens] <;> omega)))) | ((with_reducible refine W4.o ?_; constructor); · (first | (with_reducible first | assumption | exact decide_eq_true rfl | exact sEq_self _) | ((with_reducible refine eqOK_i ?_); kernel_rfl))) | ((with_reducible refine iteB_f ?_ ?_); · (first | (with_reducible first | assumption | exact decide_eq_true rfl | exact sEq_self _) | ((with_reducible refine eqOK_i ?_); kernel_rfl))) | (with_reducible refine CD.wk_au ?_) | (with_reducible refine W5.o ?_; constructor) | ((with_reducible refine W6.o ?_; constructor) <;> intro hB))
 all_goals ((conv => whnf); (try dsimp only); (try simp only [Nat.succ_eq_add_one, Nat.le_eq, castL_self]); (try omega))
 all_goals (try (first | omega | (simp only [lens] <;> omega)))
 all_goals first
  | exact rfl
  | (rw [eZ]; done)
  | (simp only [en, e0]; done)
  | trace_state
noncomputable def ropF (args : List V) : Option (List Bool × V) := match args with
 | [.str s, l] => (match ofLst opT l with
   | some L => some ([decide (s.size ≤ 10000000000000000), opW L], .str (s ++ catZ opY L))
   | none => none)
 | _ => none
theorem ropF_ok (args : List V) (c : List Bool) (v : V) (h : ropF args = some (c, v)) (hc : allB c) : PureAt Try.prog 35 args v := by
 unfold ropF at h
 split at h
 ·split at h
  ·rename_i s l q L hl
   cases h
   exact PureAt.lst (pre := [.str s]) (rest := []) (rops_at s L (of_decide_eq_true hc.1) hc.2.1) hl
  ·cases h
 ·cases h
noncomputable def oplF (args : List V) : Option (List Bool × V) := match args with
 | [.str s, l, .fn g [] []] => (match ofLst opT l with
   | some L => some ([Nat.beq g 31, decide (s.size ≤ 10000000000000000), opW L], .str (s ++ catZ opY L))
   | none => none)
 | _ => none
theorem oplF_ok (args : List V) (c : List Bool) (v : V) (h : oplF args = some (c, v)) (hc : allB c) : PureAt Try.prog 28 args v := by
 unfold oplF at h
 split at h
 ·split at h
  ·rename_i s l g q L hl
   cases h
   rw [Nat.eq_of_beq_eq_true hc.1]
   exact PureAt.lst (pre := [.str s]) (rest := [.fn 31 [] []]) (opl_at s L (of_decide_eq_true hc.2.1) hc.2.2.1) hl
  ·cases h
 ·cases h
noncomputable def cmlF (args : List V) : Option (List Bool × V) := match args with
 | [.str s, l, .fn g [] []] => (match ofLst cmT l with
   | some L => some ([Nat.beq g 30, decide (s.size ≤ 10000000000000000), cmW L], .str (s ++ catZ cmY L))
   | none => none)
 | _ => none
theorem cmlF_ok (args : List V) (c : List Bool) (v : V) (h : cmlF args = some (c, v)) (hc : allB c) : PureAt Try.prog 29 args v := by
 unfold cmlF at h
 split at h
 ·split at h
  ·rename_i s l g q L hl
   cases h
   rw [Nat.eq_of_beq_eq_true hc.1]
   exact PureAt.lst (pre := [.str s]) (rest := [.fn 30 [] []]) (cml_at s L (of_decide_eq_true hc.2.1) hc.2.2.1) hl
  ·cases h
 ·cases h
noncomputable def rkvC (s : ByteArray) (L : List KvQ) (i : Nat) : CD := ⟨50, [(0, .str (s ++ catA kvY L i)), (1, .lst kvT L false), (5, .int .i64 (i : Int))], [], [], 0⟩
theorem rkv_lp (s : ByteArray) (L : List KvQ) (hs : s.size ≤ 10000000000000000) (N : Nat) (hw : kvW L = true) : LpD.ok Try.prog N 0 (bodyOf Try.prog 51) ⟨3, [], rkvC s L 0, .leaf (.exit 0) (rkvC s L L.length)⟩ := by
 have hi := (kvW_iff L).1 hw
 have hl := hi.1
 have hz := kvZ_le L hw
 refine LpD.ok_one (b := bodyAt Try.prog 51 3) rfl (loop_W tabE0_ok (fuel := 6) (d := 5) (X := { i : Nat // i ≤ L.length }) (fun x => rkvC s L x.1) (fun x => L.length - x.1)
   (fun _ => .leaf (.exit 0) (rkvC s L L.length)) (fun _ => noLpW) (fun _ => noLp) (fun _ => noLp_ad) (fun _ => noLp_ok _) ?_ ⟨0, Nat.zero_le _⟩)
 rintro ⟨i, hi2⟩
 dsimp only
 have hzi := hz i hi2
 rcases Nat.lt_or_ge i L.length with hlt | hge
 ·have ei : Int.toNat (i : Int) = i := Int.toNat_natCast i
  have es : catA kvY L (i + 1) = catA kvY L i ++ kvY (Sym.rowAt kvT L (Int.toNat (i : Int))) := catA_succ kvY L i
  obtain ⟨w0, w1, ⟨w2a, w2b⟩, ⟨w3a, w3b⟩, ⟨w4a, w4b⟩⟩ : ((Sym.rowAt kvT L (Int.toNat (i : Int))).1).size ≤ 1000000 ∧ ((Sym.rowAt kvT L (Int.toNat (i : Int))).2.1).size ≤ 1000000 ∧ (@LE.le Int _ 0 (Sym.rowAt kvT L (Int.toNat (i : Int))).2.2.1 ∧ @LT.lt Int _ (Sym.rowAt kvT L (Int.toNat (i : Int))).2.2.1 18446744073709551616) ∧ (@LE.le Int _ 0 (Sym.rowAt kvT L (Int.toNat (i : Int))).2.2.2.1 ∧ @LT.lt Int _ (Sym.rowAt kvT L (Int.toNat (i : Int))).2.2.2.1 18446744073709551616) ∧ (@LE.le Int _ 0 (Sym.rowAt kvT L (Int.toNat (i : Int))).2.2.2.2 ∧ @LT.lt Int _ (Sym.rowAt kvT L (Int.toNat (i : Int))).2.2.2.2 18446744073709551616) := by rw [ei]; exact hi.2 i hlt
  have z0 := txtT_le (Sym.rowAt kvT L (Int.toNat (i : Int))).1
  have z1 := txtT_le (Sym.rowAt kvT L (Int.toNat (i : Int))).2.1
  have z2 := numT_le (Sym.rowAt kvT L (Int.toNat (i : Int))).2.2.1
  have z3 := numT_le (Sym.rowAt kvT L (Int.toNat (i : Int))).2.2.2.1
  have z4 := numT_le (Sym.rowAt kvT L (Int.toNat (i : Int))).2.2.2.2
  have ey : kvY (Sym.rowAt kvT L (Int.toNat (i : Int))) = txtT (Sym.rowAt kvT L (Int.toNat (i : Int))).1 ++ (txtT (Sym.rowAt kvT L (Int.toNat (i : Int))).2.1 ++ (numT (Sym.rowAt kvT L (Int.toNat (i : Int))).2.2.1 ++ (numT (Sym.rowAt kvT L (Int.toNat (i : Int))).2.2.2.1 ++ (numT (Sym.rowAt kvT L (Int.toNat (i : Int))).2.2.2.2)))) := kvY_eq _ _ _ _ _
  repeat' ((conv => whnf); first | (with_reducible first | (refine W1.o ?_; constructor) | rfl | exact castL_self _ _) | ((with_reducible refine V.same_t ?_); exact rfl) | ((with_reducible refine andB_room ?_ ?_ ?_); (· kernel_rfl); (· (first | omega | (simp only [lens] <;> omega)))) | ((with_reducible refine W2.o ?_; constructor); · (first | (with_reducible assumption) | (first | omega | (simp only [lens] <;> omega)))) | ((with_reducible refine W3.o ?_; constructor); · (first | (with_reducible assumption) | (first | omega | (simp only [lens] <;> omega)))) | ((with_reducible refine W4.o ?_; constructor); · (first | (with_reducible first | assumption | exact decide_eq_true rfl | exact sEq_self _) | ((with_reducible refine eqOK_i ?_); kernel_rfl))) | ((with_reducible refine iteB_f ?_ ?_); · (first | (with_reducible first | assumption | exact decide_eq_true rfl | exact sEq_self _) | ((with_reducible refine eqOK_i ?_); kernel_rfl))) | (refine ⟨⟨i + 1, hlt⟩, ?_, rfl, ?_⟩) | (with_reducible refine CD.wk_au ?_) | (with_reducible refine W5.o ?_; constructor) | ((with_reducible refine W6.o ?_; constructor) <;> intro hB))
  all_goals ((conv => whnf); (try dsimp only); (try simp only [Nat.succ_eq_add_one, Nat.le_eq, castL_self]); (try omega))
  all_goals (try (first | omega | (simp only [lens] <;> omega)))
  all_goals first
   | exact rfl
   | omega
   | (simp only [lens] <;> omega)
   | (rw [es, ey]; simp only [ByteArray.append_assoc]; done)
   | (rw [es, ey]; simp only [ByteArray.append_assoc]; exact rfl)
   | trace_state
 ·have he : i = L.length := Nat.le_antisymm hi2 hge
  subst he
  repeat' ((conv => whnf); first | (with_reducible first | (refine W1.o ?_; constructor) | rfl | exact castL_self _ _) | ((with_reducible refine V.same_t ?_); exact rfl) | ((with_reducible refine andB_room ?_ ?_ ?_); (· kernel_rfl); (· (first | omega | (simp only [lens] <;> omega)))) | ((with_reducible refine W2.o ?_; constructor); · (first | (with_reducible assumption) | (first | omega | (simp only [lens] <;> omega)))) | ((with_reducible refine W3.o ?_; constructor); · (first | (with_reducible assumption) | (first | omega | (simp only [lens] <;> omega)))) | ((with_reducible refine W4.o ?_; constructor); · (first | (with_reducible first | assumption | exact decide_eq_true rfl | exact sEq_self _) | ((with_reducible refine eqOK_i ?_); kernel_rfl))) | ((with_reducible refine iteB_f ?_ ?_); · (first | (with_reducible first | assumption | exact decide_eq_true rfl | exact sEq_self _) | ((with_reducible refine eqOK_i ?_); kernel_rfl))) | (with_reducible refine CD.wk_au ?_) | (with_reducible refine W5.o ?_; constructor) | ((with_reducible refine W6.o ?_; constructor) <;> intro hB))
  all_goals ((conv => whnf); (try dsimp only); (try simp only [Nat.succ_eq_add_one, Nat.le_eq, castL_self]); (try omega))
  all_goals (try (first | omega | (simp only [lens] <;> omega)))
  all_goals first
   | exact rfl
   | trace_state
theorem rkvs_at (s : ByteArray) (L : List KvQ) (hs : s.size ≤ 10000000000000000) (hw : kvW L = true) : PureAt Try.prog 51 [.str s, .lst kvT L false] (.str (s ++ catZ kvY L)) := by
 have hi := (kvW_iff L).1 hw
 have hl := hi.1
 have hzL := kvZ_le L hw L.length (Nat.le_refl _)
 have e0 := catA_0 kvY L
 have eZ := catZ_eq kvY L
 have z0 := numT_le (L.length : Int)
 have en : (L.length : Int) % 18446744073709551616 = (L.length : Int) := by omega
 refine pure_of_loops tabE0_ok (fuel := 4) (d := 5) [⟨3, [], rkvC s L 0, .leaf (.exit 0) (rkvC s L L.length)⟩] (fun N y hy => by rw [List.mem_singleton.1 hy]; exact rkv_lp s L hs N hw) ?_
 repeat' ((conv => whnf); first | (with_reducible first | (refine W1.o ?_; constructor) | rfl | exact castL_self _ _) | ((with_reducible refine V.same_t ?_); exact rfl) | ((with_reducible refine andB_room ?_ ?_ ?_); (· kernel_rfl); (· (first | omega | (simp only [lens] <;> omega)))) | ((with_reducible refine W2.o ?_; constructor); · (first | (with_reducible assumption) | (first | omega | (simp only [lens] <;> omega)))) | ((with_reducible refine W3.o ?_; constructor); · (first | (with_reducible assumption) | (first | omega | (simp only [lens] <;> omega)))) | ((with_reducible refine W4.o ?_; constructor); · (first | (with_reducible first | assumption | exact decide_eq_true rfl | exact sEq_self _) | ((with_reducible refine eqOK_i ?_); kernel_rfl))) | ((with_reducible refine iteB_f ?_ ?_); · (first | (with_reducible first | assumption | exact decide_eq_true rfl | exact sEq_self _) | ((with_reducible refine eqOK_i ?_); kernel_rfl))) | (with_reducible refine CD.wk_au ?_) | (with_reducible refine W5.o ?_; constructor) | ((with_reducible refine W6.o ?_; constructor) <;> intro hB))
 all_goals ((conv => whnf); (try dsimp only); (try simp only [Nat.succ_eq_add_one, Nat.le_eq, castL_self]); (try omega))
 all_goals (try (first | omega | (simp only [lens] <;> omega)))
 all_goals first
  | exact rfl
  | (rw [eZ]; done)
  | (simp only [en, e0]; done)
  | trace_state
noncomputable def rkvF (args : List V) : Option (List Bool × V) := match args with
 | [.str s, l] => (match ofLst kvT l with
   | some L => some ([decide (s.size ≤ 10000000000000000), kvW L], .str (s ++ catZ kvY L))
   | none => none)
 | _ => none
theorem rkvF_ok (args : List V) (c : List Bool) (v : V) (h : rkvF args = some (c, v)) (hc : allB c) : PureAt Try.prog 51 args v := by
 unfold rkvF at h
 split at h
 ·split at h
  ·rename_i s l q L hl
   cases h
   exact PureAt.lst (pre := [.str s]) (rest := []) (rkvs_at s L (of_decide_eq_true hc.1) hc.2.1) hl
  ·cases h
 ·cases h
noncomputable def kvlF (args : List V) : Option (List Bool × V) := match args with
 | [.str s, l, .fn g [] []] => (match ofLst kvT l with
   | some L => some ([Nat.beq g 88, decide (s.size ≤ 10000000000000000), kvW L], .str (s ++ catZ kvY L))
   | none => none)
 | _ => none
theorem kvlF_ok (args : List V) (c : List Bool) (v : V) (h : kvlF args = some (c, v)) (hc : allB c) : PureAt Try.prog 87 args v := by
 unfold kvlF at h
 split at h
 ·split at h
  ·rename_i s l g q L hl
   cases h
   rw [Nat.eq_of_beq_eq_true hc.1]
   exact PureAt.lst (pre := [.str s]) (rest := [.fn 88 [] []]) (kvl_at s L (of_decide_eq_true hc.2.1) hc.2.2.1) hl
  ·cases h
 ·cases h
noncomputable def chF : RqF := fun k cl nm sr C A B rv => ([cmW C, opW A, opW B, leI 0 cl, leI 0 nm, leI 0 rv], .int .i64 (chE k cl nm sr C A B rv))
noncomputable def tabQ : Tab := oneTab 11 (rqF chF) (oneTab 12 (rqF chF) (oneTab 29 cmlF (oneTab 28 oplF (oneTab 87 kvlF (oneTab 35 ropF (oneTab 51 rkvF tabE0))))))
theorem tabQ_ok : TabOK Try.prog tabQ := oneTab_ok (rqF_ok fun k cl nm sr C A B rv h => check_at k cl nm rv sr C A B h.1 h.2.1 h.2.2.1 (of_leI h.2.2.2.1) (of_leI h.2.2.2.2.1) (of_leI h.2.2.2.2.2.1)) (oneTab_ok (rqF_ok fun k cl nm sr C A B rv h => rcheck_at k cl nm rv sr C A B h.1 h.2.1 h.2.2.1 (of_leI h.2.2.2.1) (of_leI h.2.2.2.2.1) (of_leI h.2.2.2.2.2.1)) (oneTab_ok cmlF_ok (oneTab_ok oplF_ok (oneTab_ok kvlF_ok (oneTab_ok ropF_ok (oneTab_ok rkvF_ok tabE0_ok))))))
section
variable (k cl nm rv : Int) (sr : Bool) (C : List CmQ) (A B : List OpQ)
noncomputable def rqh : Int → Int → Int → Bool → Int → ByteArray := hide fun k cl nm sr rv => numT (k % 18446744073709551616) ++ (numT cl ++ (numT nm ++ (numT (tI sr) ++ numT rv)))
theorem rqh_eq : rqh k cl nm sr rv = numT (k % 18446744073709551616) ++ (numT cl ++ (numT nm ++ (numT (tI sr) ++ numT rv))) := by unfold rqh; rw [hide_eq]
noncomputable def rqY : Int → Int → Int → Bool → List CmQ → List OpQ → List OpQ → Int → ByteArray := hide fun k cl nm sr C A B rv => rqh k cl nm sr rv ++ (catZ cmY C ++ (catZ opY A ++ catZ opY B))
theorem rqY_eq : rqY k cl nm sr C A B rv = rqh k cl nm sr rv ++ (catZ cmY C ++ (catZ opY A ++ catZ opY B)) := by unfold rqY; rw [hide_eq]
noncomputable def rqE : Int → Int → Int → Bool → List CmQ → List OpQ → List OpQ → Int → ByteArray := hide fun k cl nm sr C A B rv => bif chB k cl nm sr C A B rv then rqY k cl nm sr C A B rv else ⟨#[]⟩
theorem rqE_eq : rqE k cl nm sr C A B rv = bif chB k cl nm sr C A B rv then rqY k cl nm sr C A B rv else ⟨#[]⟩ := by unfold rqE; rw [hide_eq]
theorem chE_of : chE k cl nm sr C A B rv = bif chB k cl nm sr C A B rv then 0 else 11 := by unfold chE; rw [hide_eq]
theorem encReq_at (wC : cmW C = true) (wA : opW A = true) (wB : opW B = true) (h1 : 0 ≤ cl ∧ cl < 18446744073709551616) (h2 : 0 ≤ nm ∧ nm < 18446744073709551616) (h3 : 0 ≤ rv ∧ rv < 18446744073709551616) : PureAt Try.prog 9 [(.agg [.int .i64 k, .int .u64 cl, .int .u64 nm, .bool sr, .lst cmT C false, .lst opT A false, .lst opT B false, .int .u64 rv])] (.tup [.str (rqE k cl nm sr C A B rv), .int .i64 (chE k cl nm sr C A B rv)]) := by
 have zz : ByteArray.size ⟨#[]⟩ = 0 := rfl
 have z1 := numT_le (k % 18446744073709551616)
 have z2 := numT_le cl
 have z3 := numT_le nm
 have z4 := numT_le (tI sr)
 have z5 := numT_le rv
 have t4 := tI_in sr
 have yC := cmZ_le C wC C.length (Nat.le_refl _)
 have yA := opZ_le A wA A.length (Nat.le_refl _)
 have yB := opZ_le B wB B.length (Nat.le_refl _)
 rw [← catZ_eq] at yC yA yB
 have e1 := chE_of k cl nm rv sr C A B
 have e2 := rqE_eq k cl nm rv sr C A B
 have e3 := rqY_eq k cl nm rv sr C A B
 have e4 := rqh_eq k cl nm rv sr
 refine pure_of_W0 (tab := tabQ) (fuel := 12) (d := 5) tabQ_ok ?_
 cases hb : chB k cl nm sr C A B rv with
 | true =>
  rw [hb, cond_true] at e1 e2
  repeat' ((conv => whnf); first | (with_reducible first | (refine W1.o ?_; constructor) | rfl | exact castL_self _ _) | ((with_reducible refine V.same_t ?_); exact rfl) | ((with_reducible refine andB_room ?_ ?_ ?_); (· kernel_rfl); (· (first | omega | (simp only [lens] <;> omega)))) | ((with_reducible refine W2.o ?_; constructor); · (first | (with_reducible assumption) | (first | omega | (simp only [lens] <;> omega)))) | ((with_reducible refine W3.o ?_; constructor); · (first | (with_reducible assumption) | (first | omega | (simp only [lens] <;> omega)))) | ((with_reducible refine W4.o ?_; constructor); · (first | (with_reducible first | assumption | exact decide_eq_true rfl | exact sEq_self _) | ((with_reducible refine eqOK_i ?_); kernel_rfl) | (first | exact wC | exact wA | exact wB))) | ((with_reducible refine iteB_f ?_ ?_); · (first | (with_reducible first | assumption | exact decide_eq_true rfl | exact sEq_self _) | ((with_reducible refine eqOK_i ?_); kernel_rfl) | (first | exact wC | exact wA | exact wB))) | ((with_reducible refine W2.o ?_; constructor); · (simp only [Sym.rowAt, List.getD_cons_zero, List.getD_cons_succ, Int.zero_add, Nat.zero_add, Int.reduceToNat, Int.reduceAdd, lens] <;> omega)) | ((with_reducible refine W3.o ?_; constructor); · (simp only [Sym.rowAt, List.getD_cons_zero, List.getD_cons_succ, Int.zero_add, Nat.zero_add, Int.reduceToNat, Int.reduceAdd, lens] <;> omega)) | (with_reducible refine W5.o ?_; constructor) | ((with_reducible refine W6.o ?_; constructor) <;> intro hB))
  all_goals ((conv => whnf); (try dsimp only); (try simp only [Nat.succ_eq_add_one, Nat.le_eq, castL_self]); (try omega))
  all_goals (try (first | omega | (simp only [lens] <;> omega)))
  all_goals first
   | exact rfl
   | (rw [e1]; done)
   | (rw [e1]; exact rfl)
   | (rw [e2]; done)
   | (rw [e2]; exact rfl)
   | (rw [e1, e2]; done)
   | (rw [e1, e2]; exact rfl)
   | (rw [e1, e2, e3, e4]; simp only [Sym.rowAt, List.getD_cons_zero, List.getD_cons_succ, Int.zero_add, Nat.zero_add, Int.reduceToNat, Int.reduceAdd, ByteArray.append_assoc, nil_cat]; done)
   | (rw [e2, e3, e4]; simp only [Sym.rowAt, List.getD_cons_zero, List.getD_cons_succ, Int.zero_add, Nat.zero_add, Int.reduceToNat, Int.reduceAdd, ByteArray.append_assoc]; done)
   | (rw [e2, e3, e4]; simp only [Sym.rowAt, List.getD_cons_zero, List.getD_cons_succ, Int.zero_add, Nat.zero_add, Int.reduceToNat, Int.reduceAdd, ByteArray.append_assoc, nil_cat]; done)
   | (simp only [Sym.rowAt, List.getD_cons_zero, List.getD_cons_succ, Int.zero_add, Nat.zero_add, Int.reduceToNat, Int.reduceAdd, lens] <;> omega)
   | trace_state
 | false =>
  rw [hb, cond_false] at e1 e2
  repeat' ((conv => whnf); first | (with_reducible first | (refine W1.o ?_; constructor) | rfl | exact castL_self _ _) | ((with_reducible refine V.same_t ?_); exact rfl) | ((with_reducible refine andB_room ?_ ?_ ?_); (· kernel_rfl); (· (first | omega | (simp only [lens] <;> omega)))) | ((with_reducible refine W2.o ?_; constructor); · (first | (with_reducible assumption) | (first | omega | (simp only [lens] <;> omega)))) | ((with_reducible refine W3.o ?_; constructor); · (first | (with_reducible assumption) | (first | omega | (simp only [lens] <;> omega)))) | ((with_reducible refine W4.o ?_; constructor); · (first | (with_reducible first | assumption | exact decide_eq_true rfl | exact sEq_self _) | ((with_reducible refine eqOK_i ?_); kernel_rfl) | (first | exact wC | exact wA | exact wB))) | ((with_reducible refine iteB_f ?_ ?_); · (first | (with_reducible first | assumption | exact decide_eq_true rfl | exact sEq_self _) | ((with_reducible refine eqOK_i ?_); kernel_rfl) | (first | exact wC | exact wA | exact wB))) | ((with_reducible refine W2.o ?_; constructor); · (simp only [Sym.rowAt, List.getD_cons_zero, List.getD_cons_succ, Int.zero_add, Nat.zero_add, Int.reduceToNat, Int.reduceAdd, lens] <;> omega)) | ((with_reducible refine W3.o ?_; constructor); · (simp only [Sym.rowAt, List.getD_cons_zero, List.getD_cons_succ, Int.zero_add, Nat.zero_add, Int.reduceToNat, Int.reduceAdd, lens] <;> omega)) | (with_reducible refine W5.o ?_; constructor) | ((with_reducible refine W6.o ?_; constructor) <;> intro hB))
  all_goals ((conv => whnf); (try dsimp only); (try simp only [Nat.succ_eq_add_one, Nat.le_eq, castL_self]); (try omega))
  all_goals (try (first | omega | (simp only [lens] <;> omega)))
  all_goals first
   | exact rfl
   | (rw [e1]; done)
   | (rw [e1]; exact rfl)
   | (rw [e2]; done)
   | (rw [e2]; exact rfl)
   | (rw [e1, e2]; done)
   | (rw [e1, e2]; exact rfl)
   | (rw [e1, e2, e3, e4]; simp only [Sym.rowAt, List.getD_cons_zero, List.getD_cons_succ, Int.zero_add, Nat.zero_add, Int.reduceToNat, Int.reduceAdd, ByteArray.append_assoc, nil_cat]; done)
   | (rw [e2, e3, e4]; simp only [Sym.rowAt, List.getD_cons_zero, List.getD_cons_succ, Int.zero_add, Nat.zero_add, Int.reduceToNat, Int.reduceAdd, ByteArray.append_assoc]; done)
   | (rw [e2, e3, e4]; simp only [Sym.rowAt, List.getD_cons_zero, List.getD_cons_succ, Int.zero_add, Nat.zero_add, Int.reduceToNat, Int.reduceAdd, ByteArray.append_assoc, nil_cat]; done)
   | (simp only [Sym.rowAt, List.getD_cons_zero, List.getD_cons_succ, Int.zero_add, Nat.zero_add, Int.reduceToNat, Int.reduceAdd, lens] <;> omega)
   | trace_state
end
end Go.Proofs.Ytaloolcabmfjbaa
end
