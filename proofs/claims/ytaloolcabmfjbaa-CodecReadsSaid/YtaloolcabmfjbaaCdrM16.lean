/-
  Texts of this claim, one behind the other: CdEq CdDec CdD2. Each says its own conditions.
-/
import Derived.Test.YtaloolcabmfjbaaCdrM15
import Derived.Test.YtaloolcabmfjbaaCdrM11
import Derived.Test.YtaloolcabmfjbaaCdrM8
import Derived.Test.YtaloolcabmfjbaaCdrM9

set_option linter.unusedVariables false
set_option linter.unusedSimpArgs false
set_option linter.unusedSectionVars false
noncomputable section
namespace Go.Proofs.Ytaloolcabmfjbaa
open Go.Sym
set_option maxRecDepth 100000
set_option maxHeartbeats 4000000
def ropC (s : ByteArray) (L : List OpQ) (i : Nat) : CD := ⟨58, [(0, .str (s ++ catA opY L i)), (1, .lst opT L false), (5, .int .i64 (i : Int))], [], [], 0⟩
theorem rop_lp (s : ByteArray) (L : List OpQ) (hs : s.size ≤ 10000000000000000) (N : Nat) (hw : opW L = true) : LpD.ok Try.prog N 0 (bodyOf Try.prog 35) ⟨3, [], ropC s L 0, .leaf (.exit 0) (ropC s L L.length)⟩ := by
 have hi := (opW_iff L).1 hw
 have hl := hi.1
 have hz := opZ_le L hw
 refine LpD.ok_one (b := bodyAt Try.prog 35 3) rfl (loop_W tabE0r_ok (fuel := 6) (d := 5) (X := { i : Nat // i ≤ L.length }) (fun x => ropC s L x.1) (fun x => L.length - x.1)
   (fun _ => .leaf (.exit 0) (ropC s L L.length)) (fun _ => noLpW) (fun _ => noLp) (fun _ => noLp_ad) (fun _ => noLp_ok _) ?_ ⟨0, Nat.zero_le _⟩)
 rintro ⟨i, hi2⟩
 dsimp only
 have hzi := hz i hi2
 rcases Nat.lt_or_ge i L.length with hlt | hge
 case' inl =>
  have ei : Int.toNat (i : Int) = i := Int.toNat_natCast i
  have es : catA opY L (i + 1) = catA opY L i ++ opY (Sym.rowAt opT L (Int.toNat (i : Int))) := catA_succ opY L i
  obtain ⟨w1, w2, w3, ⟨w4a, w4b⟩⟩ : ((Sym.rowAt opT L (Int.toNat (i : Int))).2.1).size ≤ 1000000 ∧ ((Sym.rowAt opT L (Int.toNat (i : Int))).2.2.1).size ≤ 1000000 ∧ ((Sym.rowAt opT L (Int.toNat (i : Int))).2.2.2.1).size ≤ 1000000 ∧ (@LE.le Int _ 0 (Sym.rowAt opT L (Int.toNat (i : Int))).2.2.2.2.1 ∧ @LT.lt Int _ (Sym.rowAt opT L (Int.toNat (i : Int))).2.2.2.2.1 18446744073709551616) := by rw [ei]; exact hi.2 i hlt
  have z0 := numT_le (@HMod.hMod Int Int Int _ (Sym.rowAt opT L (Int.toNat (i : Int))).1 18446744073709551616)
  have z1 := txtT_le (Sym.rowAt opT L (Int.toNat (i : Int))).2.1
  have z2 := txtT_le (Sym.rowAt opT L (Int.toNat (i : Int))).2.2.1
  have z3 := txtT_le (Sym.rowAt opT L (Int.toNat (i : Int))).2.2.2.1
  have z4 := numT_le (Sym.rowAt opT L (Int.toNat (i : Int))).2.2.2.2.1
  have z5 := numT_le (@HMod.hMod Int Int Int _ (Sym.rowAt opT L (Int.toNat (i : Int))).2.2.2.2.2.1 18446744073709551616)
  have z6 := numT_le (tI (Sym.rowAt opT L (Int.toNat (i : Int))).2.2.2.2.2.2.1)
  have t6 := tI_in (Sym.rowAt opT L (Int.toNat (i : Int))).2.2.2.2.2.2.1
  have z7 := numT_le (tI (Sym.rowAt opT L (Int.toNat (i : Int))).2.2.2.2.2.2.2.1)
  have t7 := tI_in (Sym.rowAt opT L (Int.toNat (i : Int))).2.2.2.2.2.2.2.1
  have z8 := numT_le (tI (Sym.rowAt opT L (Int.toNat (i : Int))).2.2.2.2.2.2.2.2)
  have t8 := tI_in (Sym.rowAt opT L (Int.toNat (i : Int))).2.2.2.2.2.2.2.2
  have ey : opY (Sym.rowAt opT L (Int.toNat (i : Int))) = numT (@HMod.hMod Int Int Int _ (Sym.rowAt opT L (Int.toNat (i : Int))).1 18446744073709551616) ++ (txtT (Sym.rowAt opT L (Int.toNat (i : Int))).2.1 ++ (txtT (Sym.rowAt opT L (Int.toNat (i : Int))).2.2.1 ++ (txtT (Sym.rowAt opT L (Int.toNat (i : Int))).2.2.2.1 ++ (numT (Sym.rowAt opT L (Int.toNat (i : Int))).2.2.2.2.1 ++ (numT (@HMod.hMod Int Int Int _ (Sym.rowAt opT L (Int.toNat (i : Int))).2.2.2.2.2.1 18446744073709551616) ++ (numT (tI (Sym.rowAt opT L (Int.toNat (i : Int))).2.2.2.2.2.2.1) ++ (numT (tI (Sym.rowAt opT L (Int.toNat (i : Int))).2.2.2.2.2.2.2.1) ++ (numT (tI (Sym.rowAt opT L (Int.toNat (i : Int))).2.2.2.2.2.2.2.2))))))))) := opY_eq _ _ _ _ _ _ _ _ _
 case' inr =>
  have he : i = L.length := Nat.le_antisymm hi2 hge
  subst he
 all_goals
  repeat' ((conv => whnf); first | (with_reducible first | (refine W1.o ?_; constructor) | rfl | exact castL_self _ _) | ((with_reducible refine V.same_t ?_); exact rfl) | ((with_reducible refine andB_room ?_ ?_ ?_); (· kernel_rfl); (· (first | omega | (simp only [lens] <;> omega)))) | ((with_reducible refine W2.o ?_; constructor); · (first | with_reducible assumption | omega | (simp only [lens] <;> omega))) | ((with_reducible refine W3.o ?_; constructor); · (first | with_reducible assumption | omega | (simp only [lens] <;> omega))) | ((with_reducible refine W4.o ?_; constructor); · (first | (with_reducible first | assumption | exact decide_eq_true rfl | exact sEq_self _) | ((with_reducible refine eqOK_i ?_); kernel_rfl))) | ((with_reducible refine iteB_f ?_ ?_); · (first | (with_reducible first | assumption | exact decide_eq_true rfl | exact sEq_self _) | ((with_reducible refine eqOK_i ?_); kernel_rfl))) | (refine ⟨⟨i + 1, hlt⟩, ?_, rfl, ?_⟩) | (with_reducible refine CD.wk_au ?_) | (with_reducible refine W5.o ?_; constructor) | ((with_reducible refine W6.o ?_; constructor) <;> intro hB))
  all_goals ((conv => whnf); (try dsimp only); (try simp only [Nat.succ_eq_add_one, Nat.le_eq, castL_self]); (try omega))
  all_goals (try (first | omega | (simp only [lens] <;> omega)))
  all_goals first
   | exact rfl
   | omega
   | (simp only [lens] <;> omega)
   | (rw [es, ey]; simp only [ByteArray.append_assoc]; done)
   | (rw [es, ey]; simp only [ByteArray.append_assoc]; exact rfl)
theorem rops_at (s : ByteArray) (L : List OpQ) (hs : s.size ≤ 10000000000000000) (hw : opW L = true) : PureAt Try.prog 35 [.str s, .lst opT L false] (.str (s ++ catZ opY L)) := by
 have hi := (opW_iff L).1 hw
 have hl := hi.1
 have hzL := opZ_le L hw L.length (Nat.le_refl _)
 have e0 := catA_0 opY L
 have eZ := catZ_eq opY L
 have z0 := numT_le (L.length : Int)
 have en : (L.length : Int) % 18446744073709551616 = (L.length : Int) := by omega
 refine pure_of_loops tabE0r_ok (fuel := 4) (d := 5) [⟨3, [], ropC s L 0, .leaf (.exit 0) (ropC s L L.length)⟩] (fun N y hy => by rw [List.mem_singleton.1 hy]; exact rop_lp s L hs N hw) ?_
 repeat' ((conv => whnf); first | (with_reducible first | (refine W1.o ?_; constructor) | rfl | exact castL_self _ _) | ((with_reducible refine V.same_t ?_); exact rfl) | ((with_reducible refine andB_room ?_ ?_ ?_); (· kernel_rfl); (· (first | omega | (simp only [lens] <;> omega)))) | ((with_reducible refine W2.o ?_; constructor); · (first | with_reducible assumption | omega | (simp only [lens] <;> omega))) | ((with_reducible refine W3.o ?_; constructor); · (first | with_reducible assumption | omega | (simp only [lens] <;> omega))) | ((with_reducible refine W4.o ?_; constructor); · (first | (with_reducible first | assumption | exact decide_eq_true rfl | exact sEq_self _) | ((with_reducible refine eqOK_i ?_); kernel_rfl))) | ((with_reducible refine iteB_f ?_ ?_); · (first | (with_reducible first | assumption | exact decide_eq_true rfl | exact sEq_self _) | ((with_reducible refine eqOK_i ?_); kernel_rfl))) | (with_reducible refine CD.wk_au ?_) | (with_reducible refine W5.o ?_; constructor) | ((with_reducible refine W6.o ?_; constructor) <;> intro hB))
 all_goals ((conv => whnf); (try dsimp only); (try simp only [Nat.succ_eq_add_one, Nat.le_eq, castL_self]); (try omega))
 all_goals (try (first | omega | (simp only [lens] <;> omega)))
 all_goals first
  | exact rfl
  | (rw [eZ]; done)
  | (simp only [en, e0]; done)
def ropF (args : List V) : Option (List Bool × V) := match args with
 | [.str s, l] => (match ofLst opT l with
   | some L => some ([decide (s.size ≤ 10000000000000000), opW L], .str (s ++ catZ opY L))
   | none => none)
 | _ => none
theorem ropF_ok (args : List V) (c : List Bool) (v : V) (h : ropF args = some (c, v)) (hc : allB c) : PureAt Try.prog 35 args v := by
 unfold ropF at h
 split at h
 ·split at h
  ·rename_i s l q L hl
   cases h
   exact PureAt.lst (pre := [.str s]) (rest := []) (rops_at s L (of_decide_eq_true hc.1) hc.2.1) hl
  ·cases h
 ·cases h
def oplF (args : List V) : Option (List Bool × V) := match args with
 | [.str s, l, .fn g [] []] => (match ofLst opT l with
   | some L => some ([Nat.beq g 31, decide (s.size ≤ 10000000000000000), opW L], .str (s ++ catZ opY L))
   | none => none)
 | _ => none
theorem oplF_ok (args : List V) (c : List Bool) (v : V) (h : oplF args = some (c, v)) (hc : allB c) : PureAt Try.prog 28 args v := by
 unfold oplF at h
 split at h
 ·split at h
  ·rename_i s l g q L hl
   cases h
   rw [Nat.eq_of_beq_eq_true hc.1]
   exact PureAt.lst (pre := [.str s]) (rest := [.fn 31 [] []]) (opl_at s L (of_decide_eq_true hc.2.1) hc.2.2.1) hl
  ·cases h
 ·cases h
def cmlF (args : List V) : Option (List Bool × V) := match args with
 | [.str s, l, .fn g [] []] => (match ofLst cmT l with
   | some L => some ([Nat.beq g 30, decide (s.size ≤ 10000000000000000), cmW L], .str (s ++ catZ cmY L))
   | none => none)
 | _ => none
theorem cmlF_ok (args : List V) (c : List Bool) (v : V) (h : cmlF args = some (c, v)) (hc : allB c) : PureAt Try.prog 29 args v := by
 unfold cmlF at h
 split at h
 ·split at h
  ·rename_i s l g q L hl
   cases h
   rw [Nat.eq_of_beq_eq_true hc.1]
   exact PureAt.lst (pre := [.str s]) (rest := [.fn 30 [] []]) (cml_at s L (of_decide_eq_true hc.2.1) hc.2.2.1) hl
  ·cases h
 ·cases h
def rkvC (s : ByteArray) (L : List KvQ) (i : Nat) : CD := ⟨50, [(0, .str (s ++ catA kvY L i)), (1, .lst kvT L false), (5, .int .i64 (i : Int))], [], [], 0⟩
theorem rkv_lp (s : ByteArray) (L : List KvQ) (hs : s.size ≤ 10000000000000000) (N : Nat) (hw : kvW L = true) : LpD.ok Try.prog N 0 (bodyOf Try.prog 51) ⟨3, [], rkvC s L 0, .leaf (.exit 0) (rkvC s L L.length)⟩ := by
 have hi := (kvW_iff L).1 hw
 have hl := hi.1
 have hz := kvZ_le L hw
 refine LpD.ok_one (b := bodyAt Try.prog 51 3) rfl (loop_W tabE0r_ok (fuel := 6) (d := 5) (X := { i : Nat // i ≤ L.length }) (fun x => rkvC s L x.1) (fun x => L.length - x.1)
   (fun _ => .leaf (.exit 0) (rkvC s L L.length)) (fun _ => noLpW) (fun _ => noLp) (fun _ => noLp_ad) (fun _ => noLp_ok _) ?_ ⟨0, Nat.zero_le _⟩)
 rintro ⟨i, hi2⟩
 dsimp only
 have hzi := hz i hi2
 rcases Nat.lt_or_ge i L.length with hlt | hge
 case' inl =>
  have ei : Int.toNat (i : Int) = i := Int.toNat_natCast i
  have es : catA kvY L (i + 1) = catA kvY L i ++ kvY (Sym.rowAt kvT L (Int.toNat (i : Int))) := catA_succ kvY L i
  obtain ⟨w0, w1, ⟨w2a, w2b⟩, ⟨w3a, w3b⟩, ⟨w4a, w4b⟩⟩ : ((Sym.rowAt kvT L (Int.toNat (i : Int))).1).size ≤ 1000000 ∧ ((Sym.rowAt kvT L (Int.toNat (i : Int))).2.1).size ≤ 1000000 ∧ (@LE.le Int _ 0 (Sym.rowAt kvT L (Int.toNat (i : Int))).2.2.1 ∧ @LT.lt Int _ (Sym.rowAt kvT L (Int.toNat (i : Int))).2.2.1 18446744073709551616) ∧ (@LE.le Int _ 0 (Sym.rowAt kvT L (Int.toNat (i : Int))).2.2.2.1 ∧ @LT.lt Int _ (Sym.rowAt kvT L (Int.toNat (i : Int))).2.2.2.1 18446744073709551616) ∧ (@LE.le Int _ 0 (Sym.rowAt kvT L (Int.toNat (i : Int))).2.2.2.2 ∧ @LT.lt Int _ (Sym.rowAt kvT L (Int.toNat (i : Int))).2.2.2.2 18446744073709551616) := by rw [ei]; exact hi.2 i hlt
  have z0 := txtT_le (Sym.rowAt kvT L (Int.toNat (i : Int))).1
  have z1 := txtT_le (Sym.rowAt kvT L (Int.toNat (i : Int))).2.1
  have z2 := numT_le (Sym.rowAt kvT L (Int.toNat (i : Int))).2.2.1
  have z3 := numT_le (Sym.rowAt kvT L (Int.toNat (i : Int))).2.2.2.1
  have z4 := numT_le (Sym.rowAt kvT L (Int.toNat (i : Int))).2.2.2.2
  have ey : kvY (Sym.rowAt kvT L (Int.toNat (i : Int))) = txtT (Sym.rowAt kvT L (Int.toNat (i : Int))).1 ++ (txtT (Sym.rowAt kvT L (Int.toNat (i : Int))).2.1 ++ (numT (Sym.rowAt kvT L (Int.toNat (i : Int))).2.2.1 ++ (numT (Sym.rowAt kvT L (Int.toNat (i : Int))).2.2.2.1 ++ (numT (Sym.rowAt kvT L (Int.toNat (i : Int))).2.2.2.2)))) := kvY_eq _ _ _ _ _
 case' inr =>
  have he : i = L.length := Nat.le_antisymm hi2 hge
  subst he
 all_goals
  repeat' ((conv => whnf); first | (with_reducible first | (refine W1.o ?_; constructor) | rfl | exact castL_self _ _) | ((with_reducible refine V.same_t ?_); exact rfl) | ((with_reducible refine andB_room ?_ ?_ ?_); (· kernel_rfl); (· (first | omega | (simp only [lens] <;> omega)))) | ((with_reducible refine W2.o ?_; constructor); · (first | with_reducible assumption | omega | (simp only [lens] <;> omega))) | ((with_reducible refine W3.o ?_; constructor); · (first | with_reducible assumption | omega | (simp only [lens] <;> omega))) | ((with_reducible refine W4.o ?_; constructor); · (first | (with_reducible first | assumption | exact decide_eq_true rfl | exact sEq_self _) | ((with_reducible refine eqOK_i ?_); kernel_rfl))) | ((with_reducible refine iteB_f ?_ ?_); · (first | (with_reducible first | assumption | exact decide_eq_true rfl | exact sEq_self _) | ((with_reducible refine eqOK_i ?_); kernel_rfl))) | (refine ⟨⟨i + 1, hlt⟩, ?_, rfl, ?_⟩) | (with_reducible refine CD.wk_au ?_) | (with_reducible refine W5.o ?_; constructor) | ((with_reducible refine W6.o ?_; constructor) <;> intro hB))
  all_goals ((conv => whnf); (try dsimp only); (try simp only [Nat.succ_eq_add_one, Nat.le_eq, castL_self]); (try omega))
  all_goals (try (first | omega | (simp only [lens] <;> omega)))
  all_goals first
   | exact rfl
   | omega
   | (simp only [lens] <;> omega)
   | (rw [es, ey]; simp only [ByteArray.append_assoc]; done)
   | (rw [es, ey]; simp only [ByteArray.append_assoc]; exact rfl)
theorem rkvs_at (s : ByteArray) (L : List KvQ) (hs : s.size ≤ 10000000000000000) (hw : kvW L = true) : PureAt Try.prog 51 [.str s, .lst kvT L false] (.str (s ++ catZ kvY L)) := by
 have hi := (kvW_iff L).1 hw
 have hl := hi.1
 have hzL := kvZ_le L hw L.length (Nat.le_refl _)
 have e0 := catA_0 kvY L
 have eZ := catZ_eq kvY L
 have z0 := numT_le (L.length : Int)
 have en : (L.length : Int) % 18446744073709551616 = (L.length : Int) := by omega
 refine pure_of_loops tabE0r_ok (fuel := 4) (d := 5) [⟨3, [], rkvC s L 0, .leaf (.exit 0) (rkvC s L L.length)⟩] (fun N y hy => by rw [List.mem_singleton.1 hy]; exact rkv_lp s L hs N hw) ?_
 repeat' ((conv => whnf); first | (with_reducible first | (refine W1.o ?_; constructor) | rfl | exact castL_self _ _) | ((with_reducible refine V.same_t ?_); exact rfl) | ((with_reducible refine andB_room ?_ ?_ ?_); (· kernel_rfl); (· (first | omega | (simp only [lens] <;> omega)))) | ((with_reducible refine W2.o ?_; constructor); · (first | with_reducible assumption | omega | (simp only [lens] <;> omega))) | ((with_reducible refine W3.o ?_; constructor); · (first | with_reducible assumption | omega | (simp only [lens] <;> omega))) | ((with_reducible refine W4.o ?_; constructor); · (first | (with_reducible first | assumption | exact decide_eq_true rfl | exact sEq_self _) | ((with_reducible refine eqOK_i ?_); kernel_rfl))) | ((with_reducible refine iteB_f ?_ ?_); · (first | (with_reducible first | assumption | exact decide_eq_true rfl | exact sEq_self _) | ((with_reducible refine eqOK_i ?_); kernel_rfl))) | (with_reducible refine CD.wk_au ?_) | (with_reducible refine W5.o ?_; constructor) | ((with_reducible refine W6.o ?_; constructor) <;> intro hB))
 all_goals ((conv => whnf); (try dsimp only); (try simp only [Nat.succ_eq_add_one, Nat.le_eq, castL_self]); (try omega))
 all_goals (try (first | omega | (simp only [lens] <;> omega)))
 all_goals first
  | exact rfl
  | (rw [eZ]; done)
  | (simp only [en, e0]; done)
def rkvF (args : List V) : Option (List Bool × V) := match args with
 | [.str s, l] => (match ofLst kvT l with
   | some L => some ([decide (s.size ≤ 10000000000000000), kvW L], .str (s ++ catZ kvY L))
   | none => none)
 | _ => none
theorem rkvF_ok (args : List V) (c : List Bool) (v : V) (h : rkvF args = some (c, v)) (hc : allB c) : PureAt Try.prog 51 args v := by
 unfold rkvF at h
 split at h
 ·split at h
  ·rename_i s l q L hl
   cases h
   exact PureAt.lst (pre := [.str s]) (rest := []) (rkvs_at s L (of_decide_eq_true hc.1) hc.2.1) hl
  ·cases h
 ·cases h
def kvlF (args : List V) : Option (List Bool × V) := match args with
 | [.str s, l, .fn g [] []] => (match ofLst kvT l with
   | some L => some ([Nat.beq g 88, decide (s.size ≤ 10000000000000000), kvW L], .str (s ++ catZ kvY L))
   | none => none)
 | _ => none
theorem kvlF_ok (args : List V) (c : List Bool) (v : V) (h : kvlF args = some (c, v)) (hc : allB c) : PureAt Try.prog 87 args v := by
 unfold kvlF at h
 split at h
 ·split at h
  ·rename_i s l g q L hl
   cases h
   rw [Nat.eq_of_beq_eq_true hc.1]
   exact PureAt.lst (pre := [.str s]) (rest := [.fn 88 [] []]) (kvl_at s L (of_decide_eq_true hc.2.1) hc.2.2.1) hl
  ·cases h
 ·cases h
def chF : RqF := fun k cl nm sr C A B rv => ([cmW C, opW A, opW B, leI 0 cl, leI 0 nm, leI 0 rv], .int .i64 (chE k cl nm sr C A B rv))
def tabQ : Tab := oneTab 11 (rqF chF) (oneTab 29 cmlF (oneTab 28 oplF tabE0))
theorem tabQ_ok : TabOK Try.prog tabQ := oneTab_ok (rqF_ok fun k cl nm sr C A B rv h => check_at k cl nm rv sr C A B h.1 h.2.1 h.2.2.1 (of_leI h.2.2.2.1) (of_leI h.2.2.2.2.1) (of_leI h.2.2.2.2.2.1)) (oneTab_ok cmlF_ok (oneTab_ok oplF_ok tabE0_ok))
def tabQr : Tab := oneTab 12 (rqF chF) (oneTab 35 ropF tabE0r)
theorem tabQr_ok : TabOK Try.prog tabQr := oneTab_ok (rqF_ok fun k cl nm sr C A B rv h => rcheck_at k cl nm rv sr C A B h.1 h.2.1 h.2.2.1 (of_leI h.2.2.2.1) (of_leI h.2.2.2.2.1) (of_leI h.2.2.2.2.2.1)) (oneTab_ok ropF_ok tabE0r_ok)
section
variable (k cl nm rv : Int) (sr : Bool) (C : List CmQ) (A B : List OpQ)
def rqh : Int → Int → Int → Bool → Int → ByteArray := hide fun k cl nm sr rv => numT (k % 18446744073709551616) ++ (numT cl ++ (numT nm ++ (numT (tI sr) ++ numT rv)))
theorem rqh_eq : rqh k cl nm sr rv = numT (k % 18446744073709551616) ++ (numT cl ++ (numT nm ++ (numT (tI sr) ++ numT rv))) := by unfold rqh; rw [hide_eq]
def rqY : Int → Int → Int → Bool → List CmQ → List OpQ → List OpQ → Int → ByteArray := hide fun k cl nm sr C A B rv => rqh k cl nm sr rv ++ (catZ cmY C ++ (catZ opY A ++ catZ opY B))
theorem rqY_eq : rqY k cl nm sr C A B rv = rqh k cl nm sr rv ++ (catZ cmY C ++ (catZ opY A ++ catZ opY B)) := by unfold rqY; rw [hide_eq]
def rqE : Int → Int → Int → Bool → List CmQ → List OpQ → List OpQ → Int → ByteArray := hide fun k cl nm sr C A B rv => bif chB k cl nm sr C A B rv then rqY k cl nm sr C A B rv else ⟨#[]⟩
theorem rqE_eq : rqE k cl nm sr C A B rv = bif chB k cl nm sr C A B rv then rqY k cl nm sr C A B rv else ⟨#[]⟩ := by unfold rqE; rw [hide_eq]
theorem chE_of : chE k cl nm sr C A B rv = bif chB k cl nm sr C A B rv then 0 else 11 := by unfold chE; rw [hide_eq]
theorem encReq_at (wC : cmW C = true) (wA : opW A = true) (wB : opW B = true) (h1 : 0 ≤ cl ∧ cl < 18446744073709551616) (h2 : 0 ≤ nm ∧ nm < 18446744073709551616) (h3 : 0 ≤ rv ∧ rv < 18446744073709551616) : PureAt Try.prog 9 [(.agg [.int .i64 k, .int .u64 cl, .int .u64 nm, .bool sr, .lst cmT C false, .lst opT A false, .lst opT B false, .int .u64 rv])] (.tup [.str (rqE k cl nm sr C A B rv), .int .i64 (chE k cl nm sr C A B rv)]) := by
 have zz : ByteArray.size ⟨#[]⟩ = 0 := rfl
 have z1 := numT_le (k % 18446744073709551616)
 have z2 := numT_le cl
 have z3 := numT_le nm
 have z4 := numT_le (tI sr)
 have z5 := numT_le rv
 have t4 := tI_in sr
 have yC := cmZ_le C wC C.length (Nat.le_refl _)
 have yA := opZ_le A wA A.length (Nat.le_refl _)
 have yB := opZ_le B wB B.length (Nat.le_refl _)
 rw [← catZ_eq] at yC yA yB
 have e1 := chE_of k cl nm rv sr C A B
 have e2 := rqE_eq k cl nm rv sr C A B
 have e3 := rqY_eq k cl nm rv sr C A B
 have e4 := rqh_eq k cl nm rv sr
 refine pure_of_W0 (tab := tabQ) (fuel := 12) (d := 5) tabQ_ok ?_
 cases hb : chB k cl nm sr C A B rv with
 | true =>
  rw [hb, cond_true] at e1 e2
  repeat' ((conv => whnf); first | (with_reducible first | (refine W1.o ?_; constructor) | rfl | exact castL_self _ _) | ((with_reducible refine V.same_t ?_); exact rfl) | ((with_reducible refine andB_room ?_ ?_ ?_); (· kernel_rfl); (· (first | omega | (simp only [lens] <;> omega)))) | ((with_reducible refine W2.o ?_; constructor); · (first | with_reducible assumption | omega | (simp only [lens] <;> omega))) | ((with_reducible refine W3.o ?_; constructor); · (first | with_reducible assumption | omega | (simp only [lens] <;> omega))) | ((with_reducible refine W4.o ?_; constructor); · (first | (with_reducible first | assumption | exact decide_eq_true rfl | exact sEq_self _) | ((with_reducible refine eqOK_i ?_); kernel_rfl) | exact wC | exact wA | exact wB)) | ((with_reducible refine iteB_f ?_ ?_); · (first | (with_reducible first | assumption | exact decide_eq_true rfl | exact sEq_self _) | ((with_reducible refine eqOK_i ?_); kernel_rfl) | exact wC | exact wA | exact wB)) | ((with_reducible refine W2.o ?_; constructor); · (simp only [Sym.rowAt, List.getD_cons_zero, List.getD_cons_succ, Int.zero_add, Nat.zero_add, Int.reduceToNat, Int.reduceAdd, lens] <;> omega)) | ((with_reducible refine W3.o ?_; constructor); · (simp only [Sym.rowAt, List.getD_cons_zero, List.getD_cons_succ, Int.zero_add, Nat.zero_add, Int.reduceToNat, Int.reduceAdd, lens] <;> omega)) | (with_reducible refine W5.o ?_; constructor) | ((with_reducible refine W6.o ?_; constructor) <;> intro hB))
  all_goals ((conv => whnf); (try dsimp only); (try simp only [Nat.succ_eq_add_one, Nat.le_eq, castL_self]); (try omega))
  all_goals (try (first | omega | (simp only [lens] <;> omega)))
  all_goals first
   | exact rfl
   | (rw [e1]; done)
   | (rw [e1]; exact rfl)
   | (rw [e2]; done)
   | (rw [e2]; exact rfl)
   | (rw [e1, e2]; done)
   | (rw [e1, e2]; exact rfl)
   | (rw [e1, e2, e3, e4]; simp only [Sym.rowAt, List.getD_cons_zero, List.getD_cons_succ, Int.zero_add, Nat.zero_add, Int.reduceToNat, Int.reduceAdd, ByteArray.append_assoc, nil_cat]; done)
   | (rw [e2, e3, e4]; simp only [Sym.rowAt, List.getD_cons_zero, List.getD_cons_succ, Int.zero_add, Nat.zero_add, Int.reduceToNat, Int.reduceAdd, ByteArray.append_assoc]; done)
   | (rw [e2, e3, e4]; simp only [Sym.rowAt, List.getD_cons_zero, List.getD_cons_succ, Int.zero_add, Nat.zero_add, Int.reduceToNat, Int.reduceAdd, ByteArray.append_assoc, nil_cat]; done)
   | (simp only [Sym.rowAt, List.getD_cons_zero, List.getD_cons_succ, Int.zero_add, Nat.zero_add, Int.reduceToNat, Int.reduceAdd, lens] <;> omega)
 | false =>
  rw [hb, cond_false] at e1 e2
  repeat' ((conv => whnf); first | (with_reducible first | (refine W1.o ?_; constructor) | rfl | exact castL_self _ _) | ((with_reducible refine V.same_t ?_); exact rfl) | ((with_reducible refine andB_room ?_ ?_ ?_); (· kernel_rfl); (· (first | omega | (simp only [lens] <;> omega)))) | ((with_reducible refine W2.o ?_; constructor); · (first | with_reducible assumption | omega | (simp only [lens] <;> omega))) | ((with_reducible refine W3.o ?_; constructor); · (first | with_reducible assumption | omega | (simp only [lens] <;> omega))) | ((with_reducible refine W4.o ?_; constructor); · (first | (with_reducible first | assumption | exact decide_eq_true rfl | exact sEq_self _) | ((with_reducible refine eqOK_i ?_); kernel_rfl) | exact wC | exact wA | exact wB)) | ((with_reducible refine iteB_f ?_ ?_); · (first | (with_reducible first | assumption | exact decide_eq_true rfl | exact sEq_self _) | ((with_reducible refine eqOK_i ?_); kernel_rfl) | exact wC | exact wA | exact wB)) | ((with_reducible refine W2.o ?_; constructor); · (simp only [Sym.rowAt, List.getD_cons_zero, List.getD_cons_succ, Int.zero_add, Nat.zero_add, Int.reduceToNat, Int.reduceAdd, lens] <;> omega)) | ((with_reducible refine W3.o ?_; constructor); · (simp only [Sym.rowAt, List.getD_cons_zero, List.getD_cons_succ, Int.zero_add, Nat.zero_add, Int.reduceToNat, Int.reduceAdd, lens] <;> omega)) | (with_reducible refine W5.o ?_; constructor) | ((with_reducible refine W6.o ?_; constructor) <;> intro hB))
  all_goals ((conv => whnf); (try dsimp only); (try simp only [Nat.succ_eq_add_one, Nat.le_eq, castL_self]); (try omega))
  all_goals (try (first | omega | (simp only [lens] <;> omega)))
  all_goals first
   | exact rfl
   | (rw [e1]; done)
   | (rw [e1]; exact rfl)
   | (rw [e2]; done)
   | (rw [e2]; exact rfl)
   | (rw [e1, e2]; done)
   | (rw [e1, e2]; exact rfl)
   | (rw [e1, e2, e3, e4]; simp only [Sym.rowAt, List.getD_cons_zero, List.getD_cons_succ, Int.zero_add, Nat.zero_add, Int.reduceToNat, Int.reduceAdd, ByteArray.append_assoc, nil_cat]; done)
   | (rw [e2, e3, e4]; simp only [Sym.rowAt, List.getD_cons_zero, List.getD_cons_succ, Int.zero_add, Nat.zero_add, Int.reduceToNat, Int.reduceAdd, ByteArray.append_assoc]; done)
   | (rw [e2, e3, e4]; simp only [Sym.rowAt, List.getD_cons_zero, List.getD_cons_succ, Int.zero_add, Nat.zero_add, Int.reduceToNat, Int.reduceAdd, ByteArray.append_assoc, nil_cat]; done)
   | (simp only [Sym.rowAt, List.getD_cons_zero, List.getD_cons_succ, Int.zero_add, Nat.zero_add, Int.reduceToNat, Int.reduceAdd, lens] <;> omega)
def reqC (i : Nat) : CD := ⟨70, [(1, .ptr 0 0), (4, .str (rqh k cl nm sr rv ++ catA cmY C i)), (5, .int .i64 (i : Int))], [], rqH k cl nm rv sr C A B, 1⟩
theorem req_lp (hq : (rqh k cl nm sr rv).size ≤ 100) (N : Nat) (hw : cmW C = true) : LpD.ok Try.prog N 0 (bodyOf Try.prog 10) ⟨6, [(0, 0)], reqC k cl nm rv sr C A B 0, .leaf (.exit 0) (reqC k cl nm rv sr C A B C.length)⟩ := by
 have hi := (cmW_iff C).1 hw
 have hl := hi.1
 have hz := cmZ_le C hw
 refine LpD.ok_one (b := bodyAt Try.prog 10 6) rfl (loop_W tabE0r_ok (fuel := 6) (d := 5) (X := { i : Nat // i ≤ C.length }) (fun x => reqC k cl nm rv sr C A B x.1) (fun x => C.length - x.1)
   (fun _ => .leaf (.exit 0) (reqC k cl nm rv sr C A B C.length)) (fun _ => noLpW) (fun _ => noLp) (fun _ => noLp_ad) (fun _ => noLp_ok _) ?_ ⟨0, Nat.zero_le _⟩)
 rintro ⟨i, hi2⟩
 dsimp only
 have hzi := hz i hi2
 rcases Nat.lt_or_ge i C.length with hlt | hge
 case' inl =>
  have ei : Int.toNat (i : Int) = i := Int.toNat_natCast i
  have es : catA cmY C (i + 1) = catA cmY C i ++ cmY (Sym.rowAt cmT C (Int.toNat (i : Int))) := catA_succ cmY C i
  obtain ⟨w0, ⟨w3a, w3b⟩, w4⟩ : ((Sym.rowAt cmT C (Int.toNat (i : Int))).1).size ≤ 1000000 ∧ (@LE.le Int _ 0 (Sym.rowAt cmT C (Int.toNat (i : Int))).2.2.2.1 ∧ @LT.lt Int _ (Sym.rowAt cmT C (Int.toNat (i : Int))).2.2.2.1 18446744073709551616) ∧ ((Sym.rowAt cmT C (Int.toNat (i : Int))).2.2.2.2).size ≤ 1000000 := by rw [ei]; exact hi.2 i hlt
  have z0 := txtT_le (Sym.rowAt cmT C (Int.toNat (i : Int))).1
  have z1 := numT_le (@HMod.hMod Int Int Int _ (Sym.rowAt cmT C (Int.toNat (i : Int))).2.1 18446744073709551616)
  have z2 := numT_le (@HMod.hMod Int Int Int _ (Sym.rowAt cmT C (Int.toNat (i : Int))).2.2.1 18446744073709551616)
  have z3 := numT_le (Sym.rowAt cmT C (Int.toNat (i : Int))).2.2.2.1
  have z4 := txtT_le (Sym.rowAt cmT C (Int.toNat (i : Int))).2.2.2.2
  have ey : cmY (Sym.rowAt cmT C (Int.toNat (i : Int))) = txtT (Sym.rowAt cmT C (Int.toNat (i : Int))).1 ++ (numT (@HMod.hMod Int Int Int _ (Sym.rowAt cmT C (Int.toNat (i : Int))).2.1 18446744073709551616) ++ (numT (@HMod.hMod Int Int Int _ (Sym.rowAt cmT C (Int.toNat (i : Int))).2.2.1 18446744073709551616) ++ (numT (Sym.rowAt cmT C (Int.toNat (i : Int))).2.2.2.1 ++ (txtT (Sym.rowAt cmT C (Int.toNat (i : Int))).2.2.2.2)))) := cmY_eq _ _ _ _ _
 case' inr =>
  have he : i = C.length := Nat.le_antisymm hi2 hge
  subst he
 all_goals
  repeat' ((conv => whnf); first | (with_reducible first | (refine W1.o ?_; constructor) | rfl | exact castL_self _ _) | ((with_reducible refine V.same_t ?_); exact rfl) | ((with_reducible refine andB_room ?_ ?_ ?_); (· kernel_rfl); (· (first | omega | (simp only [lens] <;> omega)))) | ((with_reducible refine W2.o ?_; constructor); · (first | with_reducible assumption | omega | (simp only [lens] <;> omega))) | ((with_reducible refine W3.o ?_; constructor); · (first | with_reducible assumption | omega | (simp only [lens] <;> omega))) | ((with_reducible refine W4.o ?_; constructor); · (first | (with_reducible first | assumption | exact decide_eq_true rfl | exact sEq_self _) | ((with_reducible refine eqOK_i ?_); kernel_rfl))) | ((with_reducible refine iteB_f ?_ ?_); · (first | (with_reducible first | assumption | exact decide_eq_true rfl | exact sEq_self _) | ((with_reducible refine eqOK_i ?_); kernel_rfl))) | (refine ⟨⟨i + 1, hlt⟩, ?_, rfl, ?_⟩) | (with_reducible refine CD.wk_au ?_) | (with_reducible refine W5.o ?_; constructor) | ((with_reducible refine W6.o ?_; constructor) <;> intro hB))
  all_goals ((conv => whnf); (try dsimp only); (try simp only [Nat.succ_eq_add_one, Nat.le_eq, castL_self]); (try omega))
  all_goals (try (first | omega | (simp only [lens] <;> omega)))
  all_goals first
   | exact rfl
   | omega
   | (simp only [lens] <;> omega)
   | (rw [es, ey]; simp only [ByteArray.append_assoc]; done)
   | (rw [es, ey]; simp only [ByteArray.append_assoc]; exact rfl)
theorem rencReq_at (wC : cmW C = true) (wA : opW A = true) (wB : opW B = true) (h1 : 0 ≤ cl ∧ cl < 18446744073709551616) (h2 : 0 ≤ nm ∧ nm < 18446744073709551616) (h3 : 0 ≤ rv ∧ rv < 18446744073709551616) : PureAt Try.prog 10 [(.agg [.int .i64 k, .int .u64 cl, .int .u64 nm, .bool sr, .lst cmT C false, .lst opT A false, .lst opT B false, .int .u64 rv])] (.tup [.str (rqE k cl nm sr C A B rv), .int .i64 (chE k cl nm sr C A B rv)]) := by
 have zz : ByteArray.size ⟨#[]⟩ = 0 := rfl
 have z1 := numT_le (k % 18446744073709551616)
 have z2 := numT_le cl
 have z3 := numT_le nm
 have z4 := numT_le (tI sr)
 have z5 := numT_le rv
 have t4 := tI_in sr
 have yC := cmZ_le C wC C.length (Nat.le_refl _)
 have yA := opZ_le A wA A.length (Nat.le_refl _)
 have yB := opZ_le B wB B.length (Nat.le_refl _)
 rw [← catZ_eq] at yC yA yB
 have e1 := chE_of k cl nm rv sr C A B
 have e2 := rqE_eq k cl nm rv sr C A B
 have e3 := rqY_eq k cl nm rv sr C A B
 have e4 := rqh_eq k cl nm rv sr
 have hq : (rqh k cl nm sr rv).size ≤ 100 := by rw [e4]; simp only [ByteArray.size_append]; omega
 have c0 := catA_0 cmY C
 have yC2 := cmZ_le C wC C.length (Nat.le_refl _)
 have cZ := catZ_eq cmY C
 have lC := ((cmW_iff C).1 wC).1
 have y0 := numT_le (C.length : Int)
 have en : (C.length : Int) % 18446744073709551616 = (C.length : Int) := by omega
 refine pure_of_loops tabQr_ok (fuel := 6) (d := 5) [⟨6, [(0, 0)], reqC k cl nm rv sr C A B 0, .leaf (.exit 0) (reqC k cl nm rv sr C A B C.length)⟩] (fun N y hy => by rw [List.mem_singleton.1 hy]; exact req_lp k cl nm rv sr C A B hq N wC) ?_
 cases hb : chB k cl nm sr C A B rv with
 | true =>
  rw [hb, cond_true] at e1 e2
  repeat' ((conv => whnf); first | (with_reducible first | (refine W1.o ?_; constructor) | rfl | exact castL_self _ _) | ((with_reducible refine V.same_t ?_); exact rfl) | ((with_reducible refine andB_room ?_ ?_ ?_); (· kernel_rfl); (· (first | omega | (simp only [lens] <;> omega)))) | ((with_reducible refine W2.o ?_; constructor); · (first | with_reducible assumption | omega | (simp only [lens] <;> omega))) | ((with_reducible refine W3.o ?_; constructor); · (first | with_reducible assumption | omega | (simp only [lens] <;> omega))) | ((with_reducible refine W4.o ?_; constructor); · (first | (with_reducible first | assumption | exact decide_eq_true rfl | exact sEq_self _) | ((with_reducible refine eqOK_i ?_); kernel_rfl) | exact wC | exact wA | exact wB)) | ((with_reducible refine iteB_f ?_ ?_); · (first | (with_reducible first | assumption | exact decide_eq_true rfl | exact sEq_self _) | ((with_reducible refine eqOK_i ?_); kernel_rfl) | exact wC | exact wA | exact wB)) | ((with_reducible refine W2.o ?_; constructor); · (simp only [Sym.rowAt, List.getD_cons_zero, List.getD_cons_succ, Int.zero_add, Nat.zero_add, Int.reduceToNat, Int.reduceAdd, lens] <;> omega)) | ((with_reducible refine W3.o ?_; constructor); · (simp only [Sym.rowAt, List.getD_cons_zero, List.getD_cons_succ, Int.zero_add, Nat.zero_add, Int.reduceToNat, Int.reduceAdd, lens] <;> omega)) | (with_reducible refine CD.wk_au ?_) | (with_reducible refine W5.o ?_; constructor) | ((with_reducible refine W6.o ?_; constructor) <;> intro hB))
  all_goals ((conv => whnf); (try dsimp only); (try simp only [Nat.succ_eq_add_one, Nat.le_eq, castL_self]); (try omega))
  all_goals (try (first | omega | (simp only [lens] <;> omega)))
  all_goals first
   | exact rfl
   | (rw [e1]; done)
   | (rw [e1]; exact rfl)
   | (rw [e1, e2, e3, cZ]; simp only [ByteArray.append_assoc]; done)
   | (rw [e2, e3, cZ]; simp only [ByteArray.append_assoc]; done)
   | (simp only [en]; rw [c0, e4]; simp only [ByteArray.append_assoc, nil_cat]; done)
   | (simp only [Sym.rowAt, List.getD_cons_zero, List.getD_cons_succ, Int.zero_add, Nat.zero_add, Int.reduceToNat, Int.reduceAdd, lens] <;> omega)
 | false =>
  rw [hb, cond_false] at e1 e2
  repeat' ((conv => whnf); first | (with_reducible first | (refine W1.o ?_; constructor) | rfl | exact castL_self _ _) | ((with_reducible refine V.same_t ?_); exact rfl) | ((with_reducible refine andB_room ?_ ?_ ?_); (· kernel_rfl); (· (first | omega | (simp only [lens] <;> omega)))) | ((with_reducible refine W2.o ?_; constructor); · (first | with_reducible assumption | omega | (simp only [lens] <;> omega))) | ((with_reducible refine W3.o ?_; constructor); · (first | with_reducible assumption | omega | (simp only [lens] <;> omega))) | ((with_reducible refine W4.o ?_; constructor); · (first | (with_reducible first | assumption | exact decide_eq_true rfl | exact sEq_self _) | ((with_reducible refine eqOK_i ?_); kernel_rfl) | exact wC | exact wA | exact wB)) | ((with_reducible refine iteB_f ?_ ?_); · (first | (with_reducible first | assumption | exact decide_eq_true rfl | exact sEq_self _) | ((with_reducible refine eqOK_i ?_); kernel_rfl) | exact wC | exact wA | exact wB)) | ((with_reducible refine W2.o ?_; constructor); · (simp only [Sym.rowAt, List.getD_cons_zero, List.getD_cons_succ, Int.zero_add, Nat.zero_add, Int.reduceToNat, Int.reduceAdd, lens] <;> omega)) | ((with_reducible refine W3.o ?_; constructor); · (simp only [Sym.rowAt, List.getD_cons_zero, List.getD_cons_succ, Int.zero_add, Nat.zero_add, Int.reduceToNat, Int.reduceAdd, lens] <;> omega)) | (with_reducible refine CD.wk_au ?_) | (with_reducible refine W5.o ?_; constructor) | ((with_reducible refine W6.o ?_; constructor) <;> intro hB))
  all_goals ((conv => whnf); (try dsimp only); (try simp only [Nat.succ_eq_add_one, Nat.le_eq, castL_self]); (try omega))
  all_goals (try (first | omega | (simp only [lens] <;> omega)))
  all_goals first
   | exact rfl
   | (rw [e1]; done)
   | (rw [e1]; exact rfl)
   | (rw [e2]; done)
   | (rw [e2]; exact rfl)
   | (rw [e1, e2]; done)
   | (rw [e1, e2]; exact rfl)
   | (rw [e1, e2, e3, e4]; simp only [Sym.rowAt, List.getD_cons_zero, List.getD_cons_succ, Int.zero_add, Nat.zero_add, Int.reduceToNat, Int.reduceAdd, ByteArray.append_assoc, nil_cat]; done)
   | (rw [e2, e3, e4]; simp only [Sym.rowAt, List.getD_cons_zero, List.getD_cons_succ, Int.zero_add, Nat.zero_add, Int.reduceToNat, Int.reduceAdd, ByteArray.append_assoc]; done)
   | (rw [e2, e3, e4]; simp only [Sym.rowAt, List.getD_cons_zero, List.getD_cons_succ, Int.zero_add, Nat.zero_add, Int.reduceToNat, Int.reduceAdd, ByteArray.append_assoc, nil_cat]; done)
   | (simp only [Sym.rowAt, List.getD_cons_zero, List.getD_cons_succ, Int.zero_add, Nat.zero_add, Int.reduceToNat, Int.reduceAdd, lens] <;> omega)
end
end Go.Proofs.Ytaloolcabmfjbaa
end

noncomputable section
namespace Go.Proofs.Ytaloolcabmfjbaa
open Go.Sym
set_option maxRecDepth 100000
set_option maxHeartbeats 4000000
abbrev xS5 (s : ByteArray) : ByteArray := (numR (numR (numR (numR (numR s)))))
abbrev xB5 (s : ByteArray) : Bool := (((((false || numB s) || numB (numR s)) || numB (numR (numR s))) || numB (numR (numR (numR s)))) || numB (numR (numR (numR (numR s)))))
abbrev xS6 (s : ByteArray) : ByteArray := cmE (xS5 s)
abbrev xB6 (s : ByteArray) : Bool := xB5 s || numB (xS5 s)
abbrev xS7 (s : ByteArray) : ByteArray := opE (xS6 s)
abbrev xB7 (s : ByteArray) : Bool := xB6 s || numB (xS6 s)
abbrev xS8 (s : ByteArray) : ByteArray := opE (xS7 s)
abbrev xB8 (s : ByteArray) : Bool := xB7 s || numB (xS7 s)
def dq0 (s : ByteArray) : RqT := (numV s, numV (numR s), numV (numR (numR s)), decide (numV (numR (numR (numR s))) = 1), cmL (xS5 s), opL (xS6 s), opL (xS7 s), numV (numR (numR (numR (numR s)))))
theorem tup_of {ρ : Env} {l m : List V} (k : ∀ W, LRel ρ l W → LRel ρ m W) : ∀ X, VRel ρ (.tup l) X → VRel ρ (.tup m) X := by
 intro X h
 simp only [VRel] at h ⊢
 obtain ⟨A, e, h1⟩ := h
 exact ⟨A, e, k _ h1⟩
theorem PureAt.val {P : Program} {g : FuncId} {args : List V} {v v' : V} (h : PureAt P g args v) (hv : ∀ (φ : Nat → Nat → Option Value) X, VRel (envφ φ) v X → VRel (envφ φ) v' X) : PureAt P g args v' := by
 intro φ w A hφ hA
 refine (h φ w A hφ hA).mono ?_
 rintro E w' ⟨φ', X, h1, h2, h3, h4, h5, h6⟩
 exact ⟨φ', X, h1, h2, h3, h4, hv _ _ h5, h6⟩
theorem zero_rq {P : Program} {g : FuncId} {args : List V} {e : Int} (h : PureAt P g args (.tup [.agg [.int .i64 0, .int .u64 0, .int .u64 0, .bool false, .nils, .nils, .nils, .int .u64 0], .int .i64 e])) : PureAt P g args (.tup [rqG (0, 0, 0, false, [], [], [], 0), .int .i64 e]) :=
 PureAt.val h fun φ => tup_of (LRel.cons_of (agg_of (LRel.cons_of (fun _ h => h) (LRel.cons_of (fun _ h => h) (LRel.cons_of (fun _ h => h) (LRel.cons_of (fun _ h => h) (LRel.cons_of (fun _ h => ofLst_rel (e := cmT) (a := .nils) rfl h) (LRel.cons_of (fun _ h => ofLst_rel (e := opT) (a := .nils) rfl h) (LRel.cons_of (fun _ h => ofLst_rel (e := opT) (a := .nils) rfl h) fun _ h => h)))))))) fun _ h => h)
def dqK : ByteArray → Bool := hide fun s => leI (numV s) 1073741824 && leI (numV (numR (numR (numR s)))) 1 && cmS (xS5 s) (xB5 s) && opS (xS6 s) (xB6 s) && opS (xS7 s) (xB7 s) && !(xB8 s) && sEq (xS8 s) ⟨#[]⟩ && chB (numV s) (numV (numR s)) (numV (numR (numR s))) (decide (numV (numR (numR (numR s))) = 1)) (cmL (xS5 s)) (opL (xS6 s)) (opL (xS7 s)) (numV (numR (numR (numR (numR s))))) && sEq (rqE (numV s) (numV (numR s)) (numV (numR (numR s))) (decide (numV (numR (numR (numR s))) = 1)) (cmL (xS5 s)) (opL (xS6 s)) (opL (xS7 s)) (numV (numR (numR (numR (numR s)))))) s
theorem dqK_eq (s : ByteArray) : dqK s = (leI (numV s) 1073741824 && leI (numV (numR (numR (numR s)))) 1 && cmS (xS5 s) (xB5 s) && opS (xS6 s) (xB6 s) && opS (xS7 s) (xB7 s) && !(xB8 s) && sEq (xS8 s) ⟨#[]⟩ && chB (numV s) (numV (numR s)) (numV (numR (numR s))) (decide (numV (numR (numR (numR s))) = 1)) (cmL (xS5 s)) (opL (xS6 s)) (opL (xS7 s)) (numV (numR (numR (numR (numR s))))) && sEq (rqE (numV s) (numV (numR s)) (numV (numR (numR s))) (decide (numV (numR (numR (numR s))) = 1)) (cmL (xS5 s)) (opL (xS6 s)) (opL (xS7 s)) (numV (numR (numR (numR (numR s)))))) s) := by unfold dqK; rw [hide_eq]
def dqV : ByteArray → RqT := hide fun s => bif dqK s then dq0 s else (0, 0, 0, false, [], [], [], 0)
theorem dqV_eq (s : ByteArray) : dqV s = bif dqK s then dq0 s else (0, 0, 0, false, [], [], [], 0) := by unfold dqV; rw [hide_eq]
def dqE : ByteArray → Int := hide fun s => bif dqK s then 0 else 11
theorem dqE_eq (s : ByteArray) : dqE s = bif dqK s then 0 else 11 := by unfold dqE; rw [hide_eq]
def enqF : RqF := fun k cl nm sr C A B rv => ([cmW C, opW A, opW B, leI 0 cl, ltI cl 18446744073709551616, leI 0 nm, ltI nm 18446744073709551616, leI 0 rv, ltI rv 18446744073709551616], .tup [.str (rqE k cl nm sr C A B rv), .int .i64 (chE k cl nm sr C A B rv)])
def tabD : Tab := oneTab 9 (rqF enqF) noTab
theorem tabD_ok : TabOK Try.prog tabD := oneTab_ok (rqF_ok fun k cl nm sr C A B rv h => encReq_at k cl nm rv sr C A B h.1 h.2.1 h.2.2.1 ⟨of_leI h.2.2.2.1, of_ltI h.2.2.2.2.1⟩ ⟨of_leI h.2.2.2.2.2.1, of_ltI h.2.2.2.2.2.2.1⟩ ⟨of_leI h.2.2.2.2.2.2.2.1, of_ltI h.2.2.2.2.2.2.2.2.1⟩) noTab_ok
theorem decReq_at (s : ByteArray) (hs : s.size ≤ 1000000) : PureAt Try.prog 19 [.str s] (.tup [rqG (dqV s), .int .i64 (dqE s)]) := by
 have y0 := numV_in s
 have z0 := numR_size s
 have y1 := numV_in (numR s)
 have z1 := numR_size (numR s)
 have y2 := numV_in (numR (numR s))
 have z2 := numR_size (numR (numR s))
 have y3 := numV_in (numR (numR (numR s)))
 have z3 := numR_size (numR (numR (numR s)))
 have y4 := numV_in (numR (numR (numR (numR s))))
 have z4 := numR_size (numR (numR (numR (numR s))))
 have ec := chE_of (numV s) (numV (numR s)) (numV (numR (numR s))) (numV (numR (numR (numR (numR s))))) (decide (numV (numR (numR (numR s))) = 1)) (cmL (numR (numR (numR (numR (numR s)))))) (opL (cmE (numR (numR (numR (numR (numR s))))))) (opL (opE (cmE (numR (numR (numR (numR (numR s))))))))
 cases m0 : leI (numV s) 1073741824
 case' false =>
  have q : dqK s = false := by simp only [dqK_eq, Bool.and_false, Bool.false_and, Bool.true_and, Bool.and_true, Bool.not_true, Bool.not_false, m0]
  have e1 := dqV_eq s
  have e2 := dqE_eq s
  rw [q, cond_false] at e1 e2
  rw [e1, e2]
  refine zero_rq ?_
  have l0 := of_leI' m0
 case' true =>
  have l0 := of_leI m0
  cases m1 : leI (numV (numR (numR (numR s)))) 1
  case' false =>
   have q : dqK s = false := by simp only [dqK_eq, Bool.and_false, Bool.false_and, Bool.true_and, Bool.and_true, Bool.not_true, Bool.not_false, m0, m1]
   have e1 := dqV_eq s
   have e2 := dqE_eq s
   rw [q, cond_false] at e1 e2
   rw [e1, e2]
   refine zero_rq ?_
   have l1 := of_leI' m1
  case' true =>
   have l1 := of_leI m1
   cases m2 : cmS (xS5 s) (xB5 s)
   case' false =>
    have q : dqK s = false := by simp only [dqK_eq, Bool.and_false, Bool.false_and, Bool.true_and, Bool.and_true, Bool.not_true, Bool.not_false, m0, m1, m2]
    have e1 := dqV_eq s
    have e2 := dqE_eq s
    rw [q, cond_false] at e1 e2
    rw [e1, e2]
    refine zero_rq ?_
   case' true =>
    have w2 := cmL_W (s := (numR (numR (numR (numR (numR s)))))) (b := (xB5 s)) (by omega) m2
    have x2 := cmE_size (numR (numR (numR (numR (numR s))))) (xB5 s) m2
    cases m3 : opS (xS6 s) (xB6 s)
    case' false =>
     have q : dqK s = false := by simp only [dqK_eq, Bool.and_false, Bool.false_and, Bool.true_and, Bool.and_true, Bool.not_true, Bool.not_false, m0, m1, m2, m3]
     have e1 := dqV_eq s
     have e2 := dqE_eq s
     rw [q, cond_false] at e1 e2
     rw [e1, e2]
     refine zero_rq ?_
    case' true =>
     have w3 := opL_W (s := (cmE (numR (numR (numR (numR (numR s))))))) (b := (xB6 s)) (by omega) m3
     have x3 := opE_size (cmE (numR (numR (numR (numR (numR s)))))) (xB6 s) m3
     cases m4 : opS (xS7 s) (xB7 s)
     case' false =>
      have q : dqK s = false := by simp only [dqK_eq, Bool.and_false, Bool.false_and, Bool.true_and, Bool.and_true, Bool.not_true, Bool.not_false, m0, m1, m2, m3, m4]
      have e1 := dqV_eq s
      have e2 := dqE_eq s
      rw [q, cond_false] at e1 e2
      rw [e1, e2]
      refine zero_rq ?_
     case' true =>
      have w4 := opL_W (s := (opE (cmE (numR (numR (numR (numR (numR s)))))))) (b := (xB7 s)) (by omega) m4
      cases m5 : (xB8 s)
      case' true =>
       have q : dqK s = false := by simp only [dqK_eq, Bool.and_false, Bool.false_and, Bool.true_and, Bool.and_true, Bool.not_true, Bool.not_false, m0, m1, m2, m3, m4, m5]
       have e1 := dqV_eq s
       have e2 := dqE_eq s
       rw [q, cond_false] at e1 e2
       rw [e1, e2]
       refine zero_rq ?_
      case' false =>
       cases m6 : sEq (xS8 s) ⟨#[]⟩
       case' false =>
        have q : dqK s = false := by simp only [dqK_eq, Bool.and_false, Bool.false_and, Bool.true_and, Bool.and_true, Bool.not_true, Bool.not_false, m0, m1, m2, m3, m4, m5, m6]
        have e1 := dqV_eq s
        have e2 := dqE_eq s
        rw [q, cond_false] at e1 e2
        rw [e1, e2]
        refine zero_rq ?_
       case' true =>
        cases m7 : chB (numV s) (numV (numR s)) (numV (numR (numR s))) (decide (numV (numR (numR (numR s))) = 1)) (cmL (xS5 s)) (opL (xS6 s)) (opL (xS7 s)) (numV (numR (numR (numR (numR s)))))
        case' false =>
         rw [m7, cond_false] at ec
         have q : dqK s = false := by simp only [dqK_eq, Bool.and_false, Bool.false_and, Bool.true_and, Bool.and_true, Bool.not_true, Bool.not_false, m0, m1, m2, m3, m4, m5, m6, m7]
         have e1 := dqV_eq s
         have e2 := dqE_eq s
         rw [q, cond_false] at e1 e2
         rw [e1, e2]
         refine zero_rq ?_
        case' true =>
         rw [m7, cond_true] at ec
         cases m8 : sEq (rqE (numV s) (numV (numR s)) (numV (numR (numR s))) (decide (numV (numR (numR (numR s))) = 1)) (cmL (xS5 s)) (opL (xS6 s)) (opL (xS7 s)) (numV (numR (numR (numR (numR s)))))) s
         case' false =>
          have q : dqK s = false := by simp only [dqK_eq, Bool.and_false, Bool.false_and, Bool.true_and, Bool.and_true, Bool.not_true, Bool.not_false, m0, m1, m2, m3, m4, m5, m6, m7, m8]
          have e1 := dqV_eq s
          have e2 := dqE_eq s
          rw [q, cond_false] at e1 e2
          rw [e1, e2]
          refine zero_rq ?_
         case' true =>
          have q : dqK s = true := by simp only [dqK_eq, Bool.and_true, Bool.not_false, m0, m1, m2, m3, m4, m5, m6, m7, m8]
          have e1 := dqV_eq s
          have e2 := dqE_eq s
          rw [q, cond_true] at e1 e2
 all_goals
  refine pure_of_H htV_ok tabD_ok (fuel := 5) (d := 7) [] (fun _ _ h => by cases h) ?_
  repeat' ((conv => whnf); first | (with_reducible first | (refine W1.o ?_; constructor) | rfl | exact castL_self _ _) | ((with_reducible refine V.same_t ?_); exact rfl) | ((with_reducible refine andB_room ?_ ?_ ?_); (· kernel_rfl); (· (first | omega | (simp only [lens] <;> omega)))) | ((with_reducible refine W2.o ?_; constructor); · (first | with_reducible assumption | omega | (simp only [lens] <;> omega))) | ((with_reducible refine W3.o ?_; constructor); · (first | with_reducible assumption | omega | (simp only [lens] <;> omega))) | ((with_reducible refine W4.o ?_; constructor); · (first | (with_reducible first | assumption | exact decide_eq_true rfl | exact sEq_self _) | ((with_reducible refine eqOK_i ?_); kernel_rfl) | exact rfl | exact m2 | exact w2 | exact m3 | exact w3 | exact m4 | exact w4 | exact m5 | exact m6 | exact m7 | exact m8)) | ((with_reducible refine iteB_f ?_ ?_); · (first | (with_reducible first | assumption | exact decide_eq_true rfl | exact sEq_self _) | ((with_reducible refine eqOK_i ?_); kernel_rfl) | exact rfl | exact m2 | exact w2 | exact m3 | exact w3 | exact m4 | exact w4 | exact m5 | exact m6 | exact m7 | exact m8)) | (with_reducible refine CD.wk_au ?_) | (with_reducible refine W5.o ?_; constructor) | ((with_reducible refine W6.o ?_; constructor) <;> intro hB))
  all_goals ((conv => whnf); (try dsimp only); (try simp only [Nat.succ_eq_add_one, Nat.le_eq, castL_self]); (try omega))
  all_goals (try (first | omega | (simp only [lens] <;> omega)))
  all_goals first
   | exact rfl
   | (rw [e1, e2]; done)
   | (rw [e1, e2]; exact rfl)
   | (rw [e1]; exact rfl)
   | exact e2.symm
end Go.Proofs.Ytaloolcabmfjbaa
end

noncomputable section
namespace Go.Proofs.Ytaloolcabmfjbaa
open Go.Sym
set_option maxRecDepth 100000
set_option maxHeartbeats 4000000
abbrev qS5 (s : ByteArray) : ByteArray := (numR (numR (numR (numR (numR s)))))
abbrev qB5 (s : ByteArray) : Bool := (((((false || numB s) || numB (numR s)) || numB (numR (numR s))) || numB (numR (numR (numR s)))) || numB (numR (numR (numR (numR s)))))
abbrev qL6 (s : ByteArray) : List CmQ := gL cm2V cm2R cmB (qS5 s) (qB5 s)
abbrev qS6 (s : ByteArray) : ByteArray := gE cm2R cmB (qS5 s) (qB5 s)
abbrev qB6 (s : ByteArray) : Bool := gF cm2R cmB (qS5 s) (qB5 s)
abbrev qL7 (s : ByteArray) : List OpQ := gL op2V op2R opB (qS6 s) (qB6 s)
abbrev qS7 (s : ByteArray) : ByteArray := gE op2R opB (qS6 s) (qB6 s)
abbrev qB7 (s : ByteArray) : Bool := gF op2R opB (qS6 s) (qB6 s)
abbrev qL8 (s : ByteArray) : List OpQ := gL op2V op2R opB (qS7 s) (qB7 s)
abbrev qS8 (s : ByteArray) : ByteArray := gE op2R opB (qS7 s) (qB7 s)
abbrev qB8 (s : ByteArray) : Bool := gF op2R opB (qS7 s) (qB7 s)
def ddq (s : ByteArray) : RqT := (min (numV s) 2147483648, numV (numR s), numV (numR (numR s)), decide (numV (numR (numR (numR s))) = 1), qL6 s, qL7 s, qL8 s, numV (numR (numR (numR (numR s)))))
def d2K : ByteArray → Bool := hide fun s => chB (min (numV s) 2147483648) (numV (numR s)) (numV (numR (numR s))) (decide (numV (numR (numR (numR s))) = 1)) (qL6 s) (qL7 s) (qL8 s) (numV (numR (numR (numR (numR s))))) && sEq (rqE (min (numV s) 2147483648) (numV (numR s)) (numV (numR (numR s))) (decide (numV (numR (numR (numR s))) = 1)) (qL6 s) (qL7 s) (qL8 s) (numV (numR (numR (numR (numR s)))))) s && !(qB8 s) && sEq (qS8 s) ⟨#[]⟩
theorem d2K_eq (s : ByteArray) : d2K s = (chB (min (numV s) 2147483648) (numV (numR s)) (numV (numR (numR s))) (decide (numV (numR (numR (numR s))) = 1)) (qL6 s) (qL7 s) (qL8 s) (numV (numR (numR (numR (numR s))))) && sEq (rqE (min (numV s) 2147483648) (numV (numR s)) (numV (numR (numR s))) (decide (numV (numR (numR (numR s))) = 1)) (qL6 s) (qL7 s) (qL8 s) (numV (numR (numR (numR (numR s)))))) s && !(qB8 s) && sEq (qS8 s) ⟨#[]⟩) := by unfold d2K; rw [hide_eq]
def d2V : ByteArray → RqT := hide fun s => bif d2K s then ddq s else (0, 0, 0, false, [], [], [], 0)
theorem d2V_eq (s : ByteArray) : d2V s = bif d2K s then ddq s else (0, 0, 0, false, [], [], [], 0) := by unfold d2V; rw [hide_eq]
def d2E : ByteArray → Int := hide fun s => bif d2K s then 0 else 11
theorem d2E_eq (s : ByteArray) : d2E s = bif d2K s then 0 else 11 := by unfold d2E; rw [hide_eq]
theorem g_row {e : List Ty} (V2 : ByteArray → Bool → rowDen e) (R2 : ByteArray → Bool → ByteArray) (B2 : ByteArray → Bool → Bool) (s : ByteArray) (b : Bool) (n i : Nat) (h : i < n) : Sym.rowAt e (gN V2 R2 B2 s b n) i = V2 (gS R2 B2 s b i) (gB R2 B2 s b i) := by
 rw [gN_eq, Sym.rowAt, List.getD_eq_getElem?_getD, List.getElem?_map, List.getElem?_range h]; rfl
theorem cm2_hR (s : ByteArray) (b : Bool) : (cm2R s b).size ≤ s.size := cmR_size s
theorem cm2_hL (s : ByteArray) (b : Bool) (h : cmB s b = false) : (cm2R s b).size + 1 ≤ s.size := cmR_less h
theorem cm2_W {s : ByteArray} (b : Bool) (hs : s.size ≤ 100000) : cmW (gL cm2V cm2R cmB s b) = true := by
 have hm := gM_size cm2R cmB cm2_hR cm2_hL s b
 rw [cmW_iff, gL_eq, gN_len]
 refine ⟨by omega, fun i hi => ?_⟩
 rw [g_row _ _ _ _ _ _ _ hi]
 have hz := gS_size cm2R cmB cm2_hR s b i
 unfold cm2V
 rw [cmV_eq]
 generalize gS cm2R cmB s b i = u at hz
 have x1 := txV_size u
 have y1 := txR_size u
 have y2 := numR_size (txR u)
 have y3 := numR_size (numR (txR u))
 have y4 := numR_size (numR (numR (txR u)))
 have x5 := txV_size (numR (numR (numR (txR u))))
 exact ⟨by show (txV _).size ≤ _; omega, numV_in _, by show (txV _).size ≤ _; omega⟩
theorem op2_W {s : ByteArray} (b : Bool) (hs : s.size ≤ 100000) : opW (gL op2V op2R opB s b) = true := by
 have hm := gM_size op2R opB op2_hR op2_hL s b
 rw [opW_iff, gL_eq, gN_len]
 refine ⟨by omega, fun i hi => ?_⟩
 rw [g_row _ _ _ _ _ _ _ hi]
 have hz := gS_size op2R opB op2_hR s b i
 unfold op2V
 rw [opV_eq]
 generalize gS op2R opB s b i = u at hz
 have y0 := numR_size u
 have x1 := txV_size (numR u)
 have y1 := txR_size (numR u)
 have x2 := txV_size (txR (numR u))
 have y2 := txR_size (txR (numR u))
 have x3 := txV_size (txR (txR (numR u)))
 exact ⟨by show (txV _).size ≤ _; omega, by show (txV _).size ≤ _; omega, by show (txV _).size ≤ _; omega, numV_in _⟩
def tabD2 : Tab := oneTab 10 (rqF enqF) noTab
theorem tabD2_ok : TabOK Try.prog tabD2 := oneTab_ok (rqF_ok fun k cl nm sr C A B rv h => rencReq_at k cl nm rv sr C A B h.1 h.2.1 h.2.2.1 ⟨of_leI h.2.2.2.1, of_ltI h.2.2.2.2.1⟩ ⟨of_leI h.2.2.2.2.2.1, of_ltI h.2.2.2.2.2.2.1⟩ ⟨of_leI h.2.2.2.2.2.2.2.1, of_ltI h.2.2.2.2.2.2.2.2.1⟩) noTab_ok
section
variable (s u : ByteArray) (b : Bool) (k cl nm rv : Int) (sr : Bool)
def d2C (n : Int) (i : Nat) : CD := ⟨87, [(0, .str s), (2, .ptr 0 0), (3, .int .i64 0), (4, .ptr 1 0), (5, .ptr 2 0), (6, .int .i64 n), (7, .int .i64 (i : Int))], [], [(0, .cells [.int .i64 0, .int .u64 0, .int .u64 0, .bool false, .nils, .nils, .nils, .int .u64 0] 0 false), (1, .cells [.str (gS cm2R cmB u b i), .bool (gB cm2R cmB u b i)] 0 false), (2, .cells [.int .i64 k, .int .u64 cl, .int .u64 nm, .bool sr, .rs 3 0 (gN cm2V cm2R cmB u b i).length (gN cm2V cm2R cmB u b i).length false 5, .nils, .nils, .int .u64 rv] 0 false), (3, .rows cmT (gN cm2V cm2R cmB u b i) 0 false)], 4⟩
def d2O : CD := ⟨87, [(0, .str s), (2, .ptr 0 0), (3, .int .i64 0), (4, .ptr 1 0), (5, .ptr 2 0)], [], [(0, .cells [.int .i64 0, .int .u64 0, .int .u64 0, .bool false, .nils, .nils, .nils, .int .u64 0] 0 false), (1, .cells [.str (gE cm2R cmB u b), .bool (gF cm2R cmB u b)] 0 false), (2, .cells [.int .i64 k, .int .u64 cl, .int .u64 nm, .bool sr, .rs 3 0 (gL cm2V cm2R cmB u b).length (gL cm2V cm2R cmB u b).length false 5, .nils, .nils, .int .u64 rv] 0 false), (3, .rows cmT (gL cm2V cm2R cmB u b) 0 false)], 4⟩
theorem d2_lp (N : Nat) (hu : u.size ≤ 100000) : LpD.ok Try.prog N 0 (bodyOf Try.prog 20) ⟨9, [(0, 0), (1, 1), (2, 2)], d2C s u b k cl nm rv sr (min (numV u) 2147483648) 0, .leaf (.exit 0) (d2O s u b k cl nm rv sr)⟩ := by
 obtain ⟨m, em⟩ : ∃ m : Nat, gM cm2R cmB u b = m := ⟨_, rfl⟩
 obtain ⟨n, en⟩ : ∃ n : Int, min (numV u) 2147483648 = n := ⟨_, rfl⟩
 have h1 := numV_in u
 have hm := gM_le cm2R cmB u b
 have hmz := gM_size cm2R cmB cm2_hR cm2_hL u b
 have hend := gM_end cm2R cmB u b
 rw [em] at hm hmz hend
 rw [en] at hm hend
 have hlt := fun i (h : i < m) => gM_lt cm2R cmB (s := u) (b := b) (i := i) (by rw [em]; exact h)
 have eL := gL_eq cm2V cm2R cmB u b
 have eE := gE_eq cm2R cmB u b
 have eF := gF_eq cm2R cmB u b
 rw [em] at eL eE eF
 rw [en]
 refine LpD.ok_one (b := bodyAt Try.prog 20 9) rfl (loop_H htG_ok noTab_ok (fuel := 4) (d := 6) (X := { i : Nat // i ≤ m }) (fun x => d2C s u b k cl nm rv sr n x.1) (fun x => m - x.1)
   (fun _ => .leaf (.exit 0) (d2O s u b k cl nm rv sr)) (fun _ => []) (fun _ _ h => by cases h) ?_ ⟨0, Nat.zero_le _⟩)
 rintro ⟨i, hi⟩
 dsimp only
 have hz := gS_size cm2R cmB cm2_hR u b i
 have hl := gN_len cm2V cm2R cmB u b i
 have hl2 := gN_len cm2V cm2R cmB u b (i + 1)
 rcases Nat.lt_or_ge i m with hlt2 | hge
 rotate_left
 have he : i = m := Nat.le_antisymm hi hge
 subst he
 rcases hend with hend | hend
 rotate_left 2
 have hb := hlt i hlt2
 have e1 := (gS_succ cm2R cmB u b i).trans (cmR_eq _)
 have e3 := (gB_succ cm2R cmB u b i).trans (cmB_eq _ _)
 have e2 := gN_succ cm2V cm2R cmB u b i
 unfold cm2V at e2
 rw [cmV_eq] at e2
 have zz0 := txR_size (gS cm2R cmB u b i)
 have zz1 := numR_size (txR (gS cm2R cmB u b i))
 have zz2 := numV_in (txR (gS cm2R cmB u b i))
 have zz3 := numR_size (numR (txR (gS cm2R cmB u b i)))
 have zz4 := numV_in (numR (txR (gS cm2R cmB u b i)))
 have zz5 := numR_size (numR (numR (txR (gS cm2R cmB u b i))))
 all_goals
  repeat' ((conv => whnf); first | (with_reducible first | (refine W1.o ?_; constructor) | rfl | exact castL_self _ _) | ((with_reducible refine V.same_t ?_); exact rfl) | ((with_reducible refine andB_room ?_ ?_ ?_); (· kernel_rfl); (· (first | omega | (simp only [lens] <;> omega)))) | ((with_reducible refine W2.o ?_; constructor); · (first | with_reducible assumption | omega | (simp only [lens] <;> omega))) | ((with_reducible refine W3.o ?_; constructor); · (first | with_reducible assumption | omega | (simp only [lens] <;> omega))) | ((with_reducible refine W4.o ?_; constructor); · (first | (with_reducible first | assumption | exact decide_eq_true rfl | exact sEq_self _) | ((with_reducible refine eqOK_i ?_); kernel_rfl) | (first | (first | exact hb | (rw [hb]; exact rfl) | exact hend | (rw [hend]; exact rfl))))) | ((with_reducible refine iteB_f ?_ ?_); · (first | (with_reducible first | assumption | exact decide_eq_true rfl | exact sEq_self _) | ((with_reducible refine eqOK_i ?_); kernel_rfl) | (first | (first | exact hb | (rw [hb]; exact rfl) | exact hend | (rw [hend]; exact rfl))))) | (refine ⟨⟨i + 1, hlt2⟩, ?_, rfl, ?_⟩) | (with_reducible refine CD.wk_au ?_) | (with_reducible refine W5.o ?_; constructor) | ((with_reducible refine W6.o ?_; constructor) <;> intro hB))
  all_goals ((conv => whnf); (try dsimp only); (try simp only [Nat.succ_eq_add_one, Nat.le_eq, castL_self]); (try omega))
  all_goals (try (first | omega | (simp only [lens] <;> omega)))
  all_goals first
   | exact rfl
   | omega
   | exact e1.symm
   | exact e3.symm
   | exact eE.symm
   | exact eF.symm
   | exact eL.symm
   | (rw [e3]; done)
   | (rw [e2]; done)
   | (rw [hl2, hl]; exact rfl)
   | (rw [hl2, hl]; exact Nat.le_refl _)
   | (rw [eL]; done)
   | (rw [eL]; exact rfl)
   | (rw [eL]; exact Nat.le_refl _)
   | (simp (disch := (simp only [hl, lens] <;> omega)) only [seg_all, castL_self]; exact e2.symm)
end
theorem rdecReq_at (s : ByteArray) (hs : s.size ≤ 100000) : PureAt Try.prog 20 [.str s] (.tup [rqG (d2V s), .int .i64 (d2E s)]) := by
 have z0 := numR_size s
 have z1 := numR_size (numR s)
 have z2 := numR_size (numR (numR s))
 have z3 := numR_size (numR (numR (numR s)))
 have z4 := numR_size (numR (numR (numR (numR s))))
 have y0 := numV_in s
 have y1 := numV_in (numR s)
 have y2 := numV_in (numR (numR s))
 have y3 := numV_in (numR (numR (numR s)))
 have y4 := numV_in (numR (numR (numR (numR s))))
 have y5 := numV_in (numR (numR (numR (numR (numR s)))))
 have q0 := gS_0 cm2R cmB (numR (numR (numR (numR (numR s))))) (((((false || numB s) || numB (numR s)) || numB (numR (numR s))) || numB (numR (numR (numR s)))) || numB (numR (numR (numR (numR s)))))
 have q1 := gN_0 cm2V cm2R cmB (numR (numR (numR (numR (numR s))))) (((((false || numB s) || numB (numR s)) || numB (numR (numR s))) || numB (numR (numR (numR s)))) || numB (numR (numR (numR (numR s)))))
 have q2 := gB_0 cm2R cmB (numR (numR (numR (numR (numR s))))) (((((false || numB s) || numB (numR s)) || numB (numR (numR s))) || numB (numR (numR (numR s)))) || numB (numR (numR (numR (numR s)))))
 have zc := gE_size cm2R cmB cm2_hR (numR (numR (numR (numR (numR s))))) (((((false || numB s) || numB (numR s)) || numB (numR (numR s))) || numB (numR (numR (numR s)))) || numB (numR (numR (numR (numR s)))))
 have za := gE_size op2R opB op2_hR (gE cm2R cmB (numR (numR (numR (numR (numR s))))) (((((false || numB s) || numB (numR s)) || numB (numR (numR s))) || numB (numR (numR (numR s)))) || numB (numR (numR (numR (numR s)))))) (gF cm2R cmB (numR (numR (numR (numR (numR s))))) (((((false || numB s) || numB (numR s)) || numB (numR (numR s))) || numB (numR (numR (numR s)))) || numB (numR (numR (numR (numR s))))))
 have hsg : seg (qL6 s) 0 (List.length (qL6 s)) = qL6 s := seg_all _ rfl
 have wC : cmW (seg (qL6 s) 0 (List.length (qL6 s))) = true := by rw [hsg]; exact cm2_W (s := (numR (numR (numR (numR (numR s)))))) _ (by omega)
 have wA := op2_W (s := (gE cm2R cmB (numR (numR (numR (numR (numR s))))) (((((false || numB s) || numB (numR s)) || numB (numR (numR s))) || numB (numR (numR (numR s)))) || numB (numR (numR (numR (numR s))))))) (gF cm2R cmB (numR (numR (numR (numR (numR s))))) (((((false || numB s) || numB (numR s)) || numB (numR (numR s))) || numB (numR (numR (numR s)))) || numB (numR (numR (numR (numR s)))))) (by omega)
 have wB := op2_W (s := (gE op2R opB (gE cm2R cmB (numR (numR (numR (numR (numR s))))) (((((false || numB s) || numB (numR s)) || numB (numR (numR s))) || numB (numR (numR (numR s)))) || numB (numR (numR (numR (numR s)))))) (gF cm2R cmB (numR (numR (numR (numR (numR s))))) (((((false || numB s) || numB (numR s)) || numB (numR (numR s))) || numB (numR (numR (numR s)))) || numB (numR (numR (numR (numR s)))))))) (gF op2R opB (gE cm2R cmB (numR (numR (numR (numR (numR s))))) (((((false || numB s) || numB (numR s)) || numB (numR (numR s))) || numB (numR (numR (numR s)))) || numB (numR (numR (numR (numR s)))))) (gF cm2R cmB (numR (numR (numR (numR (numR s))))) (((((false || numB s) || numB (numR s)) || numB (numR (numR s))) || numB (numR (numR (numR s)))) || numB (numR (numR (numR (numR s))))))) (by omega)
 have ec := chE_of (min (numV s) 2147483648) (numV (numR s)) (numV (numR (numR s))) (numV (numR (numR (numR (numR s))))) (decide (numV (numR (numR (numR s))) = 1)) (seg (gL cm2V cm2R cmB (numR (numR (numR (numR (numR s))))) (((((false || numB s) || numB (numR s)) || numB (numR (numR s))) || numB (numR (numR (numR s)))) || numB (numR (numR (numR (numR s)))))) 0 (List.length (gL cm2V cm2R cmB (numR (numR (numR (numR (numR s))))) (((((false || numB s) || numB (numR s)) || numB (numR (numR s))) || numB (numR (numR (numR s)))) || numB (numR (numR (numR (numR s)))))))) (gL op2V op2R opB (gE cm2R cmB (numR (numR (numR (numR (numR s))))) (((((false || numB s) || numB (numR s)) || numB (numR (numR s))) || numB (numR (numR (numR s)))) || numB (numR (numR (numR (numR s)))))) (gF cm2R cmB (numR (numR (numR (numR (numR s))))) (((((false || numB s) || numB (numR s)) || numB (numR (numR s))) || numB (numR (numR (numR s)))) || numB (numR (numR (numR (numR s))))))) (gL op2V op2R opB (gE op2R opB (gE cm2R cmB (numR (numR (numR (numR (numR s))))) (((((false || numB s) || numB (numR s)) || numB (numR (numR s))) || numB (numR (numR (numR s)))) || numB (numR (numR (numR (numR s)))))) (gF cm2R cmB (numR (numR (numR (numR (numR s))))) (((((false || numB s) || numB (numR s)) || numB (numR (numR s))) || numB (numR (numR (numR s)))) || numB (numR (numR (numR (numR s))))))) (gF op2R opB (gE cm2R cmB (numR (numR (numR (numR (numR s))))) (((((false || numB s) || numB (numR s)) || numB (numR (numR s))) || numB (numR (numR (numR s)))) || numB (numR (numR (numR (numR s)))))) (gF cm2R cmB (numR (numR (numR (numR (numR s))))) (((((false || numB s) || numB (numR s)) || numB (numR (numR s))) || numB (numR (numR (numR s)))) || numB (numR (numR (numR (numR s))))))))
 cases m0 : chB (min (numV s) 2147483648) (numV (numR s)) (numV (numR (numR s))) (decide (numV (numR (numR (numR s))) = 1)) (qL6 s) (qL7 s) (qL8 s) (numV (numR (numR (numR (numR s)))))
 case' false =>
  have q : d2K s = false := by simp only [d2K_eq, Bool.and_false, Bool.false_and, Bool.true_and, Bool.and_true, Bool.not_true, Bool.not_false, m0]
  have e1 := d2V_eq s
  have e2 := d2E_eq s
  rw [q, cond_false] at e1 e2
  rw [e1, e2]
  refine zero_rq ?_
  rw [← hsg] at m0
  rw [m0, cond_false] at ec
 case' true =>
  cases m1 : sEq (rqE (min (numV s) 2147483648) (numV (numR s)) (numV (numR (numR s))) (decide (numV (numR (numR (numR s))) = 1)) (qL6 s) (qL7 s) (qL8 s) (numV (numR (numR (numR (numR s)))))) s
  case' false =>
   have q : d2K s = false := by simp only [d2K_eq, Bool.and_false, Bool.false_and, Bool.true_and, Bool.and_true, Bool.not_true, Bool.not_false, m0, m1]
   have e1 := d2V_eq s
   have e2 := d2E_eq s
   rw [q, cond_false] at e1 e2
   rw [e1, e2]
   refine zero_rq ?_
   rw [← hsg] at m1
  case' true =>
   cases m2 : (qB8 s)
   case' true =>
    have q : d2K s = false := by simp only [d2K_eq, Bool.and_false, Bool.false_and, Bool.true_and, Bool.and_true, Bool.not_true, Bool.not_false, m0, m1, m2]
    have e1 := d2V_eq s
    have e2 := d2E_eq s
    rw [q, cond_false] at e1 e2
    rw [e1, e2]
    refine zero_rq ?_
    rw [← hsg] at m1
   case' false =>
    cases m3 : sEq (qS8 s) ⟨#[]⟩
    case' false =>
     have q : d2K s = false := by simp only [d2K_eq, Bool.and_false, Bool.false_and, Bool.true_and, Bool.and_true, Bool.not_true, Bool.not_false, m0, m1, m2, m3]
     have e1 := d2V_eq s
     have e2 := d2E_eq s
     rw [q, cond_false] at e1 e2
     rw [e1, e2]
     refine zero_rq ?_
     rw [← hsg] at m1
    case' true =>
     have q : d2K s = true := by simp only [d2K_eq, Bool.and_true, Bool.not_false, m0, m1, m2, m3]
     have e1 := d2V_eq s
     have e2 := d2E_eq s
     rw [q, cond_true] at e1 e2
     rw [← hsg] at m1
 all_goals
  try (rw [← hsg] at m0; rw [m0, cond_true] at ec)
  refine pure_of_H htG_ok tabD2_ok (fuel := 5) (d := 7) [⟨9, [(0, 0), (1, 1), (2, 2)], d2C s (numR (numR (numR (numR (numR s))))) (((((false || numB s) || numB (numR s)) || numB (numR (numR s))) || numB (numR (numR (numR s)))) || numB (numR (numR (numR (numR s))))) (min (numV s) 2147483648) (numV (numR s)) (numV (numR (numR s))) (numV (numR (numR (numR (numR s))))) (decide (numV (numR (numR (numR s))) = 1)) (min (numV (numR (numR (numR (numR (numR s)))))) 2147483648) 0, .leaf (.exit 0) (d2O s (numR (numR (numR (numR (numR s))))) (((((false || numB s) || numB (numR s)) || numB (numR (numR s))) || numB (numR (numR (numR s)))) || numB (numR (numR (numR (numR s))))) (min (numV s) 2147483648) (numV (numR s)) (numV (numR (numR s))) (numV (numR (numR (numR (numR s))))) (decide (numV (numR (numR (numR s))) = 1)))⟩] (fun N y hy => by rw [List.mem_singleton.1 hy]; exact d2_lp s (numR (numR (numR (numR (numR s))))) (((((false || numB s) || numB (numR s)) || numB (numR (numR s))) || numB (numR (numR (numR s)))) || numB (numR (numR (numR (numR s))))) (min (numV s) 2147483648) (numV (numR s)) (numV (numR (numR s))) (numV (numR (numR (numR (numR s))))) (decide (numV (numR (numR (numR s))) = 1)) N (by omega)) ?_
  repeat' ((conv => whnf); first | (with_reducible first | (refine W1.o ?_; constructor) | rfl | exact castL_self _ _) | ((with_reducible refine V.same_t ?_); exact rfl) | ((with_reducible refine andB_room ?_ ?_ ?_); (· kernel_rfl); (· (first | omega | (simp only [lens] <;> omega)))) | ((with_reducible refine W2.o ?_; constructor); · (first | with_reducible assumption | omega | (simp only [lens] <;> omega))) | ((with_reducible refine W3.o ?_; constructor); · (first | with_reducible assumption | omega | (simp only [lens] <;> omega))) | ((with_reducible refine W4.o ?_; constructor); · (first | (with_reducible first | assumption | exact decide_eq_true rfl | exact sEq_self _) | ((with_reducible refine eqOK_i ?_); kernel_rfl) | exact rfl | exact wC | exact wA | exact wB | exact m0 | exact m1 | exact m2 | exact m3)) | ((with_reducible refine iteB_f ?_ ?_); · (first | (with_reducible first | assumption | exact decide_eq_true rfl | exact sEq_self _) | ((with_reducible refine eqOK_i ?_); kernel_rfl) | exact rfl | exact wC | exact wA | exact wB | exact m0 | exact m1 | exact m2 | exact m3)) | (with_reducible refine CD.wk_au ?_) | (with_reducible refine W5.o ?_; constructor) | ((with_reducible refine W6.o ?_; constructor) <;> intro hB))
  all_goals ((conv => whnf); (try dsimp only); (try simp only [Nat.succ_eq_add_one, Nat.le_eq, castL_self]); (try omega))
  all_goals (try (first | omega | (simp only [lens] <;> omega)))
  all_goals first
   | exact rfl
   | exact q0.symm
   | exact q1.symm
   | exact q2.symm
   | (rw [q1]; exact rfl)
   | (rw [e1, e2, hsg]; done)
   | (rw [hsg, e1, e2]; exact rfl)
   | (rw [e1, e2]; exact rfl)
   | exact e2.symm
end Go.Proofs.Ytaloolcabmfjbaa
end
