/-
  Texts of this claim, one behind the other: CdRq CdDecL CdDec. Each says its own conditions.
-/
import Derived.Test.YtaloolcabmfjbaaCdbM16
import Derived.Test.YtaloolcabmfjbaaCdbM8
import Derived.Test.YtaloolcabmfjbaaCdbM10
import Derived.Test.YtaloolcabmfjbaaCdbM15

set_option linter.unusedVariables false
set_option linter.unusedSimpArgs false
set_option linter.unusedSectionVars false
section
namespace Go.Proofs.Ytaloolcabmfjbaa
open Go.Sym
set_option linter.unusedVariables false
set_option linter.unusedSimpArgs false
set_option maxRecDepth 100000
set_option maxHeartbeats 4000000
noncomputable def tabKv : Tab := oneTab 87 kvlF tabE0
theorem tabKv_ok : TabOK Try.prog tabKv := oneTab_ok kvlF_ok tabE0_ok
theorem layRes_at (s : ByteArray) (K : List KvQ) (m : Bool) (c d : Int) (P : List KvQ) (hs : s.size ≤ 5000000000000000) (wK : kvW K = true) (wP : kvW P = true) : PureAt Try.prog 49 [.str s, (.agg [.lst kvT K false, .bool m, .int .i64 c, .int .i64 d, .lst kvT P false])] (.str (s ++ reY (K, m, c, d, P))) := by
 have e := reY_eq (K, m, c, d, P)
 have yK := kvZ_le K wK K.length (Nat.le_refl _)
 rw [← catZ_eq] at yK
 have z1 := numT_le (tI m)
 have z2 := numT_le (c % 18446744073709551616)
 have z3 := numT_le (d % 18446744073709551616)
 have t1 := tI_in m
 refine pure_of_W0 (tab := tabKv) (fuel := 12) (d := 5) tabKv_ok ?_
 repeat' ((conv => whnf); first | (with_reducible first | (refine W1.o ?_; constructor) | rfl | exact castL_self _ _) | ((with_reducible refine V.same_t ?_); exact rfl) | ((with_reducible refine andB_room ?_ ?_ ?_); (· kernel_rfl); (· (first | omega | (simp only [lens] <;> omega)))) | ((with_reducible refine W2.o ?_; constructor); · (first | (with_reducible assumption) | (first | omega | (simp only [lens] <;> omega)))) | ((with_reducible refine W3.o ?_; constructor); · (first | (with_reducible assumption) | (first | omega | (simp only [lens] <;> omega)))) | ((with_reducible refine W4.o ?_; constructor); · (first | (with_reducible first | assumption | exact decide_eq_true rfl | exact sEq_self _) | ((with_reducible refine eqOK_i ?_); kernel_rfl) | (first | exact wK | exact wP))) | ((with_reducible refine iteB_f ?_ ?_); · (first | (with_reducible first | assumption | exact decide_eq_true rfl | exact sEq_self _) | ((with_reducible refine eqOK_i ?_); kernel_rfl) | (first | exact wK | exact wP))) | ((with_reducible refine W2.o ?_; constructor); · (simp only [Sym.rowAt, List.getD_cons_zero, List.getD_cons_succ, Int.zero_add, Nat.zero_add, Int.reduceToNat, Int.reduceAdd, lens] <;> omega)) | ((with_reducible refine W3.o ?_; constructor); · (simp only [Sym.rowAt, List.getD_cons_zero, List.getD_cons_succ, Int.zero_add, Nat.zero_add, Int.reduceToNat, Int.reduceAdd, lens] <;> omega)) | (with_reducible refine W5.o ?_; constructor) | ((with_reducible refine W6.o ?_; constructor) <;> intro hB))
 all_goals ((conv => whnf); (try dsimp only); (try simp only [Nat.succ_eq_add_one, Nat.le_eq, castL_self]); (try omega))
 all_goals (try (first | omega | (simp only [lens] <;> omega)))
 all_goals first
  | exact rfl
  | (rw [e]; simp only [Sym.rowAt, List.getD_cons_zero, List.getD_cons_succ, Int.zero_add, Nat.zero_add, Int.reduceToNat, Int.reduceAdd, ByteArray.append_assoc]; done)
  | (rw [e]; simp only [Sym.rowAt, List.getD_cons_zero, List.getD_cons_succ, Int.zero_add, Nat.zero_add, Int.reduceToNat, Int.reduceAdd, ByteArray.append_assoc]; exact rfl)
  | (simp only [Sym.rowAt, List.getD_cons_zero, List.getD_cons_succ, Int.zero_add, Nat.zero_add, Int.reduceToNat, Int.reduceAdd, lens] <;> omega)
  | trace_state
noncomputable def lrF (args : List V) : Option (List Bool × V) := match args with
 | [.str s, .agg [k, .bool m, .int .i64 c, .int .i64 d, p]] => (match ofLst kvT k, ofLst kvT p with
   | some K, some P => some ([decide (s.size ≤ 5000000000000000), kvW K, kvW P], .str (s ++ reY (K, m, c, d, P)))
   | _, _ => none)
 | _ => none
theorem lrF_ok (args : List V) (c : List Bool) (v : V) (h : lrF args = some (c, v)) (hc : allB c) : PureAt Try.prog 49 args v := by
 unfold lrF at h
 split at h
 ·split at h
  ·rename_i s k m c d p q1 q2 K Q h1 h2
   cases h
   refine (layRes_at s K m c d Q (of_decide_eq_true hc.1) hc.2.1 hc.2.2.1).weak fun φ X hX => ?_
   exact LRel.cons_of (fun _ h => h) (LRel.cons_of (agg_of (LRel.cons_of (fun _ h => ofLst_rel h1 h) (LRel.cons_of (fun _ h => h) (LRel.cons_of (fun _ h => h) (LRel.cons_of (fun _ h => h) (LRel.cons_of (fun _ h => ofLst_rel h2 h) fun _ h => h)))))) (fun _ h => h)) X hX
  ·cases h
 ·cases h
noncomputable def tabL : Tab := oneTab 49 lrF tabE0
theorem tabL_ok : TabOK Try.prog tabL := oneTab_ok lrF_ok tabE0_ok
noncomputable def relC (s : ByteArray) (L : List ReQ) (i : Nat) : CD := ⟨27, [(0, .str (s ++ catA reY L i)), (2, .fn 49 [] []), (15, .lst reT L false), (16, .int .i64 (L.length : Int)), (17, .int .i64 (i : Int))], [], [], 0⟩
theorem rel_at (s : ByteArray) (L : List ReQ) (hs : s.size ≤ 10000) (hw : reW L = true) (hk : L.length ≤ 100) : PureAt Try.prog 48 [.str s, .lst reT L false, .fn 49 [] []] (.str (s ++ catZ reY L)) := by
 have hi := (reW_iff L).1 hw
 have hz : ∀ i, i ≤ L.length → (catA reY L i).size ≤ 4000000000000000 := fun i hi2 => by
  have := catA_le reY L 10000000000000 (fun j hj => reY_le _ (hi.2 j hj).1 (hi.2 j hj).2) i hi2
  omega
 have e0 := catA_0 reY L
 have eZ := catZ_eq reY L
 have z0 := numT_le (L.length : Int)
 have en : (L.length : Int) % 18446744073709551616 = (L.length : Int) := by omega
 have hzL := hz L.length (Nat.le_refl _)
 refine pure_of_loops tabL_ok (fuel := 4) (d := 5) [⟨3, [], relC s L 0, .leaf (.exit 0) (relC s L L.length)⟩] (fun N y hy => ?_) ?_
 ·rw [List.mem_singleton.1 hy]
  refine LpD.ok_one (b := bodyAt Try.prog 48 3) rfl (loop_W tabL_ok (fuel := 4) (d := 5) (X := { i : Nat // i ≤ L.length }) (fun x => relC s L x.1) (fun x => L.length - x.1)
    (fun _ => .leaf (.exit 0) (relC s L L.length)) (fun _ => noLpW) (fun _ => noLp) (fun _ => noLp_ad) (fun _ => noLp_ok _) ?_ ⟨0, Nat.zero_le _⟩)
  rintro ⟨i, hi2⟩
  dsimp only
  have hzi := hz i hi2
  rcases Nat.lt_or_ge i L.length with hlt | hge
  ·have ei : Int.toNat (i : Int) = i := Int.toNat_natCast i
   obtain ⟨w1, w2⟩ : kvW (Sym.rowAt reT L (Int.toNat (i : Int))).1 = true ∧ kvW (Sym.rowAt reT L (Int.toNat (i : Int))).2.2.2.2 = true := by rw [ei]; exact hi.2 i hlt
   have es : catA reY L (i + 1) = catA reY L i ++ reY (Sym.rowAt reT L (Int.toNat (i : Int))) := catA_succ reY L i
   repeat' ((conv => whnf); first | (with_reducible first | (refine W1.o ?_; constructor) | rfl | exact castL_self _ _) | ((with_reducible refine V.same_t ?_); exact rfl) | ((with_reducible refine andB_room ?_ ?_ ?_); (· kernel_rfl); (· (first | omega | (simp only [lens] <;> omega)))) | ((with_reducible refine W2.o ?_; constructor); · (first | (with_reducible assumption) | (first | omega | (simp only [lens] <;> omega)))) | ((with_reducible refine W3.o ?_; constructor); · (first | (with_reducible assumption) | (first | omega | (simp only [lens] <;> omega)))) | ((with_reducible refine W4.o ?_; constructor); · (first | (with_reducible first | assumption | exact decide_eq_true rfl | exact sEq_self _) | ((with_reducible refine eqOK_i ?_); kernel_rfl) | (first | (first | exact w1 | exact w2)))) | ((with_reducible refine iteB_f ?_ ?_); · (first | (with_reducible first | assumption | exact decide_eq_true rfl | exact sEq_self _) | ((with_reducible refine eqOK_i ?_); kernel_rfl) | (first | (first | exact w1 | exact w2)))) | (refine ⟨⟨i + 1, hlt⟩, ?_, rfl, ?_⟩) | (with_reducible refine CD.wk_au ?_) | (with_reducible refine W5.o ?_; constructor) | ((with_reducible refine W6.o ?_; constructor) <;> intro hB))
   all_goals ((conv => whnf); (try dsimp only); (try simp only [Nat.succ_eq_add_one, Nat.le_eq, castL_self]); (try omega))
   all_goals (try (first | omega | (simp only [lens] <;> omega)))
   all_goals first
    | exact rfl
    | omega
    | (simp only [lens] <;> omega)
    | (rw [es, ← ByteArray.append_assoc]; done)
    | (rw [es, ← ByteArray.append_assoc]; exact rfl)
    | trace_state
  ·have he : i = L.length := Nat.le_antisymm hi2 hge
   subst he
   repeat' ((conv => whnf); first | (with_reducible first | (refine W1.o ?_; constructor) | rfl | exact castL_self _ _) | ((with_reducible refine V.same_t ?_); exact rfl) | ((with_reducible refine andB_room ?_ ?_ ?_); (· kernel_rfl); (· (first | omega | (simp only [lens] <;> omega)))) | ((with_reducible refine W2.o ?_; constructor); · (first | (with_reducible assumption) | (first | omega | (simp only [lens] <;> omega)))) | ((with_reducible refine W3.o ?_; constructor); · (first | (with_reducible assumption) | (first | omega | (simp only [lens] <;> omega)))) | ((with_reducible refine W4.o ?_; constructor); · (first | (with_reducible first | assumption | exact decide_eq_true rfl | exact sEq_self _) | ((with_reducible refine eqOK_i ?_); kernel_rfl))) | ((with_reducible refine iteB_f ?_ ?_); · (first | (with_reducible first | assumption | exact decide_eq_true rfl | exact sEq_self _) | ((with_reducible refine eqOK_i ?_); kernel_rfl))) | (with_reducible refine CD.wk_au ?_) | (with_reducible refine W5.o ?_; constructor) | ((with_reducible refine W6.o ?_; constructor) <;> intro hB))
   all_goals ((conv => whnf); (try dsimp only); (try simp only [Nat.succ_eq_add_one, Nat.le_eq, castL_self]); (try omega))
   all_goals (try (first | omega | (simp only [lens] <;> omega)))
   all_goals first
    | exact rfl
    | trace_state
 ·repeat' ((conv => whnf); first | (with_reducible first | (refine W1.o ?_; constructor) | rfl | exact castL_self _ _) | ((with_reducible refine V.same_t ?_); exact rfl) | ((with_reducible refine andB_room ?_ ?_ ?_); (· kernel_rfl); (· (first | omega | (simp only [lens] <;> omega)))) | ((with_reducible refine W2.o ?_; constructor); · (first | (with_reducible assumption) | (first | omega | (simp only [lens] <;> omega)))) | ((with_reducible refine W3.o ?_; constructor); · (first | (with_reducible assumption) | (first | omega | (simp only [lens] <;> omega)))) | ((with_reducible refine W4.o ?_; constructor); · (first | (with_reducible first | assumption | exact decide_eq_true rfl | exact sEq_self _) | ((with_reducible refine eqOK_i ?_); kernel_rfl))) | ((with_reducible refine iteB_f ?_ ?_); · (first | (with_reducible first | assumption | exact decide_eq_true rfl | exact sEq_self _) | ((with_reducible refine eqOK_i ?_); kernel_rfl))) | ((with_reducible refine W2.o ?_; constructor); · (simp only [Sym.rowAt, List.getD_cons_zero, List.getD_cons_succ, Int.zero_add, Nat.zero_add, Int.reduceToNat, Int.reduceAdd, lens] <;> omega)) | ((with_reducible refine W3.o ?_; constructor); · (simp only [Sym.rowAt, List.getD_cons_zero, List.getD_cons_succ, Int.zero_add, Nat.zero_add, Int.reduceToNat, Int.reduceAdd, lens] <;> omega)) | (with_reducible refine CD.wk_au ?_) | (with_reducible refine W5.o ?_; constructor) | ((with_reducible refine W6.o ?_; constructor) <;> intro hB))
  all_goals ((conv => whnf); (try dsimp only); (try simp only [Nat.succ_eq_add_one, Nat.le_eq, castL_self]); (try omega))
  all_goals (try (first | omega | (simp only [lens] <;> omega)))
  all_goals first
   | exact rfl
   | (rw [eZ]; done)
   | (simp only [Sym.rowAt, List.getD_cons_zero, List.getD_cons_succ, Int.zero_add, Nat.zero_add, Int.reduceToNat, Int.reduceAdd, en, e0]; done)
   | trace_state
noncomputable def relF (args : List V) : Option (List Bool × V) := match args with
 | [.str s, l, .fn g [] []] => (match ofLst reT l with
   | some L => some ([Nat.beq g 49, decide (s.size ≤ 10000), reW L, decide (L.length ≤ 100)], .str (s ++ catZ reY L))
   | none => none)
 | _ => none
theorem relF_ok (args : List V) (c : List Bool) (v : V) (h : relF args = some (c, v)) (hc : allB c) : PureAt Try.prog 48 args v := by
 unfold relF at h
 split at h
 ·split at h
  ·rename_i s l g q L hl
   cases h
   rw [Nat.eq_of_beq_eq_true hc.1]
   exact PureAt.lst (pre := [.str s]) (rest := [.fn 49 [] []]) (rel_at s L (of_decide_eq_true hc.2.1) hc.2.2.1 (of_decide_eq_true hc.2.2.2.1)) hl
  ·cases h
 ·cases h
abbrev RpF : Type := Int → Int → Int → Bool → List ReQ → Int → Int → Int → Int → List Bool × V
noncomputable def rpF (f : RpF) (args : List V) : Option (List Bool × V) := match args with
 | [.agg [.int .i64 er, .int .u64 rv, .int .u64 cm, .bool tk, r, .int .u32 ha, .int .u64 ap, .int .u64 te, .int .i64 ld]] => (match ofLst reT r with
   | some R => some (f er rv cm tk R ha ap te ld)
   | none => none)
 | _ => none
theorem rpF_ok {P : Program} {g : FuncId} {f : RpF} (hf : ∀ er rv cm tk R ha ap te ld, allB (f er rv cm tk R ha ap te ld).1 → PureAt P g [(.agg [.int .i64 er, .int .u64 rv, .int .u64 cm, .bool tk, .lst reT R false, .int .u32 ha, .int .u64 ap, .int .u64 te, .int .i64 ld])] (f er rv cm tk R ha ap te ld).2) (args : List V) (c : List Bool) (v : V) (h : rpF f args = some (c, v)) (hc : allB c) : PureAt P g args v := by
 unfold rpF at h
 split at h
 ·split at h
  ·rename_i er rv cm tk r ha ap te ld q R h1
   have e : f er rv cm tk R ha ap te ld = (_, _) := Option.some.inj h
   have hg := hf er rv cm tk R ha ap te ld (by rw [e]; exact hc)
   rw [e] at hg
   refine hg.weak fun φ X hX => ?_
   exact LRel.cons_of (agg_of (LRel.cons_of (fun _ h => h) (LRel.cons_of (fun _ h => h) (LRel.cons_of (fun _ h => h) (LRel.cons_of (fun _ h => h) (LRel.cons_of (fun _ h => ofLst_rel h1 h) fun _ h => h)))))) (fun _ h => h) X hX
  ·cases h
 ·cases h
noncomputable def maF : RpF := fun er rv cm tk R ha ap te ld => ([reW R], .bool (maB er ld R))
noncomputable def tabW : Tab := oneTab 47 (rpF maF) (oneTab 48 relF tabE0)
theorem tabW_ok : TabOK Try.prog tabW := oneTab_ok (rpF_ok fun er rv cm tk R ha ap te ld h => mayResp_at er rv cm ha ap te ld tk R h.1) (oneTab_ok relF_ok tabE0_ok)
section
variable (er rv cm ha ap te ld : Int) (tk : Bool) (R : List ReQ)
noncomputable def rph : Int → Int → Int → Bool → Int → Int → Int → Int → ByteArray := hide fun er rv cm tk ha ap te ld => numT (er % 18446744073709551616) ++ (numT rv ++ (numT cm ++ (numT (tI tk) ++ (numT (ha % 18446744073709551616) ++ (numT ap ++ (numT te ++ numT ((ld + 1) % 18446744073709551616)))))))
theorem rph_eq : rph er rv cm tk ha ap te ld = numT (er % 18446744073709551616) ++ (numT rv ++ (numT cm ++ (numT (tI tk) ++ (numT (ha % 18446744073709551616) ++ (numT ap ++ (numT te ++ numT ((ld + 1) % 18446744073709551616))))))) := by unfold rph; rw [hide_eq]
noncomputable def rpE : Int → Int → Int → Bool → List ReQ → Int → Int → Int → Int → ByteArray := hide fun er rv cm tk R ha ap te ld => bif maB er ld R then rph er rv cm tk ha ap te ld ++ catZ reY R else ⟨#[]⟩
theorem rpE_eq : rpE er rv cm tk R ha ap te ld = bif maB er ld R then rph er rv cm tk ha ap te ld ++ catZ reY R else ⟨#[]⟩ := by unfold rpE; rw [hide_eq]
noncomputable def maE : Int → Int → List ReQ → Int := hide fun er ld R => bif maB er ld R then 0 else 2
theorem maE_eq : maE er ld R = bif maB er ld R then 0 else 2 := by unfold maE; rw [hide_eq]
theorem encResp_at (wR : reW R = true) (h1 : 0 ≤ rv ∧ rv < 18446744073709551616) (h2 : 0 ≤ cm ∧ cm < 18446744073709551616) (h3 : 0 ≤ ha ∧ ha < 4294967296) (h4 : 0 ≤ ap ∧ ap < 18446744073709551616) (h5 : 0 ≤ te ∧ te < 18446744073709551616) : PureAt Try.prog 17 [(.agg [.int .i64 er, .int .u64 rv, .int .u64 cm, .bool tk, .lst reT R false, .int .u32 ha, .int .u64 ap, .int .u64 te, .int .i64 ld])] (.tup [.str (rpE er rv cm tk R ha ap te ld), .int .i64 (maE er ld R)]) := by
 have zz : ByteArray.size ⟨#[]⟩ = 0 := rfl
 have z1 := numT_le (er % 18446744073709551616)
 have z2 := numT_le rv
 have z3 := numT_le cm
 have z4 := numT_le (tI tk)
 have z5 := numT_le (ha % 18446744073709551616)
 have z6 := numT_le ap
 have z7 := numT_le te
 have z8 := numT_le ((ld + 1) % 18446744073709551616)
 have t4 := tI_in tk
 have e1 := maE_eq er ld R
 have e2 := rpE_eq er rv cm ha ap te ld tk R
 have e4 := rph_eq er rv cm ha ap te ld tk
 refine pure_of_W0 (tab := tabW) (fuel := 12) (d := 5) tabW_ok ?_
 cases hb : maB er ld R with
 | true =>
  rw [hb, cond_true] at e1 e2
  rw [maB_eq] at hb
  obtain ⟨b1, b2, b3, b4, b5, b6⟩ := of_decide_eq_true hb
  rw [← maB_eq] at hb
  repeat' ((conv => whnf); first | (with_reducible first | (refine W1.o ?_; constructor) | rfl | exact castL_self _ _) | ((with_reducible refine V.same_t ?_); exact rfl) | ((with_reducible refine andB_room ?_ ?_ ?_); (· kernel_rfl); (· (first | omega | (simp only [lens] <;> omega)))) | ((with_reducible refine W2.o ?_; constructor); · (first | (with_reducible assumption) | (first | omega | (simp only [lens] <;> omega)))) | ((with_reducible refine W3.o ?_; constructor); · (first | (with_reducible assumption) | (first | omega | (simp only [lens] <;> omega)))) | ((with_reducible refine W4.o ?_; constructor); · (first | (with_reducible first | assumption | exact decide_eq_true rfl | exact sEq_self _) | ((with_reducible refine eqOK_i ?_); kernel_rfl) | (first | exact wR | exact hb))) | ((with_reducible refine iteB_f ?_ ?_); · (first | (with_reducible first | assumption | exact decide_eq_true rfl | exact sEq_self _) | ((with_reducible refine eqOK_i ?_); kernel_rfl) | (first | exact wR | exact hb))) | ((with_reducible refine W2.o ?_; constructor); · (simp only [Sym.rowAt, List.getD_cons_zero, List.getD_cons_succ, Int.zero_add, Nat.zero_add, Int.reduceToNat, Int.reduceAdd, lens] <;> omega)) | ((with_reducible refine W3.o ?_; constructor); · (simp only [Sym.rowAt, List.getD_cons_zero, List.getD_cons_succ, Int.zero_add, Nat.zero_add, Int.reduceToNat, Int.reduceAdd, lens] <;> omega)) | (with_reducible refine W5.o ?_; constructor) | ((with_reducible refine W6.o ?_; constructor) <;> intro hB))
  all_goals ((conv => whnf); (try dsimp only); (try simp only [Nat.succ_eq_add_one, Nat.le_eq, castL_self]); (try omega))
  all_goals (try (first | omega | (simp only [lens] <;> omega)))
  all_goals first
   | exact rfl
   | (rw [e1, e2]; done)
   | (rw [e1, e2]; exact rfl)
   | (rw [e1, e2, e4]; simp only [Sym.rowAt, List.getD_cons_zero, List.getD_cons_succ, Int.zero_add, Nat.zero_add, Int.reduceToNat, Int.reduceAdd, ByteArray.append_assoc, nil_cat]; done)
   | (simp only [Sym.rowAt, List.getD_cons_zero, List.getD_cons_succ, Int.zero_add, Nat.zero_add, Int.reduceToNat, Int.reduceAdd, lens] <;> omega)
   | omega
   | trace_state
 | false =>
  rw [hb, cond_false] at e1 e2
  repeat' ((conv => whnf); first | (with_reducible first | (refine W1.o ?_; constructor) | rfl | exact castL_self _ _) | ((with_reducible refine V.same_t ?_); exact rfl) | ((with_reducible refine andB_room ?_ ?_ ?_); (· kernel_rfl); (· (first | omega | (simp only [lens] <;> omega)))) | ((with_reducible refine W2.o ?_; constructor); · (first | (with_reducible assumption) | (first | omega | (simp only [lens] <;> omega)))) | ((with_reducible refine W3.o ?_; constructor); · (first | (with_reducible assumption) | (first | omega | (simp only [lens] <;> omega)))) | ((with_reducible refine W4.o ?_; constructor); · (first | (with_reducible first | assumption | exact decide_eq_true rfl | exact sEq_self _) | ((with_reducible refine eqOK_i ?_); kernel_rfl) | (first | exact wR | exact hb))) | ((with_reducible refine iteB_f ?_ ?_); · (first | (with_reducible first | assumption | exact decide_eq_true rfl | exact sEq_self _) | ((with_reducible refine eqOK_i ?_); kernel_rfl) | (first | exact wR | exact hb))) | ((with_reducible refine W2.o ?_; constructor); · (simp only [Sym.rowAt, List.getD_cons_zero, List.getD_cons_succ, Int.zero_add, Nat.zero_add, Int.reduceToNat, Int.reduceAdd, lens] <;> omega)) | ((with_reducible refine W3.o ?_; constructor); · (simp only [Sym.rowAt, List.getD_cons_zero, List.getD_cons_succ, Int.zero_add, Nat.zero_add, Int.reduceToNat, Int.reduceAdd, lens] <;> omega)) | (with_reducible refine W5.o ?_; constructor) | ((with_reducible refine W6.o ?_; constructor) <;> intro hB))
  all_goals ((conv => whnf); (try dsimp only); (try simp only [Nat.succ_eq_add_one, Nat.le_eq, castL_self]); (try omega))
  all_goals (try (first | omega | (simp only [lens] <;> omega)))
  all_goals first
   | exact rfl
   | (rw [e1, e2]; done)
   | (rw [e1, e2]; exact rfl)
   | (rw [e1, e2, e4]; simp only [Sym.rowAt, List.getD_cons_zero, List.getD_cons_succ, Int.zero_add, Nat.zero_add, Int.reduceToNat, Int.reduceAdd, ByteArray.append_assoc, nil_cat]; done)
   | (simp only [Sym.rowAt, List.getD_cons_zero, List.getD_cons_succ, Int.zero_add, Nat.zero_add, Int.reduceToNat, Int.reduceAdd, lens] <;> omega)
   | omega
   | trace_state
end
end Go.Proofs.Ytaloolcabmfjbaa
end

section
namespace Go.Proofs.Ytaloolcabmfjbaa
open Go.Sym
set_option linter.unusedVariables false
set_option linter.unusedSimpArgs false
theorem cm_row (s : ByteArray) (n i : Nat) (h : i < n) : Sym.rowAt cmT (cmN s n) i = cmV (cmI s i) := by
 rw [rowAt_lt (by rw [cmN_len]; exact h)]
 simp only [cmN_eq, List.getElem_map, List.getElem_range]
theorem op_row (s : ByteArray) (n i : Nat) (h : i < n) : Sym.rowAt opT (opN s n) i = opV (opI s i) := by
 rw [rowAt_lt (by rw [opN_len]; exact h)]
 simp only [opN_eq, List.getElem_map, List.getElem_range]
theorem kv_row (s : ByteArray) (n i : Nat) (h : i < n) : Sym.rowAt kvT (kvN s n) i = kvV (kvI s i) := by
 rw [rowAt_lt (by rw [kvN_len]; exact h)]
 simp only [kvN_eq, List.getElem_map, List.getElem_range]
theorem cmL_W {s : ByteArray} {b : Bool} (hs : s.size ≤ 1000000) (h : cmS s b = true) : cmW (cmL s) = true := by
 rw [cmS_eq, Bool.and_eq_true, List.all_eq_true] at h
 have hg := fun j (hj : j < (numV s).toNat) => h.2 j (List.mem_range.2 hj)
 have hn := cmI_size s (b || numB s) (numV s).toNat hg
 rw [cmW_iff, cmL_eq, cmN_len]
 refine ⟨by omega, fun i hi => ?_⟩
 rw [cm_row s _ i hi, cmV_eq]
 have hz := cmI_size s (b || numB s) i fun j hj => hg j (by omega)
 have x1 := txV_size (cmI s i)
 have y1 := txR_size (cmI s i)
 have y2 := numR_size (txR (cmI s i))
 have y3 := numR_size (numR (txR (cmI s i)))
 have y4 := numR_size (numR (numR (txR (cmI s i))))
 have x2 := txV_size (numR (numR (numR (txR (cmI s i)))))
 exact ⟨by show (txV _).size ≤ _; omega, numV_in _, by show (txV _).size ≤ _; omega⟩
theorem opL_W {s : ByteArray} {b : Bool} (hs : s.size ≤ 1000000) (h : opS s b = true) : opW (opL s) = true := by
 rw [opS_eq, Bool.and_eq_true, List.all_eq_true] at h
 have hg := fun j (hj : j < (numV s).toNat) => h.2 j (List.mem_range.2 hj)
 have hn := opI_size s (b || numB s) (numV s).toNat hg
 rw [opW_iff, opL_eq, opN_len]
 refine ⟨by omega, fun i hi => ?_⟩
 rw [op_row s _ i hi, opV_eq]
 have hz := opI_size s (b || numB s) i fun j hj => hg j (by omega)
 have y0 := numR_size (opI s i)
 have x1 := txV_size (numR (opI s i))
 have y1 := txR_size (numR (opI s i))
 have x2 := txV_size (txR (numR (opI s i)))
 have y2 := txR_size (txR (numR (opI s i)))
 have x3 := txV_size (txR (txR (numR (opI s i))))
 exact ⟨by show (txV _).size ≤ _; omega, by show (txV _).size ≤ _; omega, by show (txV _).size ≤ _; omega, numV_in _⟩
theorem kvL_W {s : ByteArray} {b : Bool} (hs : s.size ≤ 1000000) (h : kvS s b = true) : kvW (kvL s) = true := by
 rw [kvS_eq, Bool.and_eq_true, List.all_eq_true] at h
 have hg := fun j (hj : j < (numV s).toNat) => h.2 j (List.mem_range.2 hj)
 have hn := kvI_size s (b || numB s) (numV s).toNat hg
 rw [kvW_iff, kvL_eq, kvN_len]
 refine ⟨by omega, fun i hi => ?_⟩
 rw [kv_row s _ i hi, kvV_eq]
 have hz := kvI_size s (b || numB s) i fun j hj => hg j (by omega)
 have x1 := txV_size (kvI s i)
 have y1 := txR_size (kvI s i)
 have x2 := txV_size (txR (kvI s i))
 exact ⟨by show (txV _).size ≤ _; omega, by show (txV _).size ≤ _; omega, numV_in _, numV_in _, numV_in _⟩
end Go.Proofs.Ytaloolcabmfjbaa
end

section
namespace Go.Proofs.Ytaloolcabmfjbaa
open Go.Sym
set_option linter.unusedVariables false
set_option linter.unusedSimpArgs false
set_option maxRecDepth 100000
set_option maxHeartbeats 4000000
noncomputable def dq0 (s : ByteArray) : RqT := (numV s, numV (numR s), numV (numR (numR s)), decide (numV (numR (numR (numR s))) = 1), cmL (numR (numR (numR (numR (numR s))))), opL (cmE (numR (numR (numR (numR (numR s)))))), opL (opE (cmE (numR (numR (numR (numR (numR s))))))), numV (numR (numR (numR (numR s)))))
theorem tup_of {ρ : Env} {l m : List V} (k : ∀ W, LRel ρ l W → LRel ρ m W) : ∀ X, VRel ρ (.tup l) X → VRel ρ (.tup m) X := by
 intro X h
 simp only [VRel] at h ⊢
 obtain ⟨A, e, h1⟩ := h
 exact ⟨A, e, k _ h1⟩
theorem PureAt.val {P : Program} {g : FuncId} {args : List V} {v v' : V} (h : PureAt P g args v) (hv : ∀ (φ : Nat → Nat → Option Value) X, VRel (envφ φ) v X → VRel (envφ φ) v' X) : PureAt P g args v' := by
 intro φ w A hφ hA
 refine (h φ w A hφ hA).mono ?_
 rintro E w' ⟨φ', X, h1, h2, h3, h4, h5, h6⟩
 exact ⟨φ', X, h1, h2, h3, h4, hv _ _ h5, h6⟩
theorem zero_rq {P : Program} {g : FuncId} {args : List V} {e : Int} (h : PureAt P g args (.tup [.agg [.int .i64 0, .int .u64 0, .int .u64 0, .bool false, .nils, .nils, .nils, .int .u64 0], .int .i64 e])) : PureAt P g args (.tup [rqG (0, 0, 0, false, [], [], [], 0), .int .i64 e]) :=
 PureAt.val h fun φ => tup_of (LRel.cons_of (agg_of (LRel.cons_of (fun _ h => h) (LRel.cons_of (fun _ h => h) (LRel.cons_of (fun _ h => h) (LRel.cons_of (fun _ h => h) (LRel.cons_of (fun _ h => ofLst_rel (e := cmT) (a := .nils) rfl h) (LRel.cons_of (fun _ h => ofLst_rel (e := opT) (a := .nils) rfl h) (LRel.cons_of (fun _ h => ofLst_rel (e := opT) (a := .nils) rfl h) fun _ h => h)))))))) fun _ h => h)
noncomputable def dqK : ByteArray → Bool := hide fun s => leI (numV s) 1073741824 && leI (numV (numR (numR (numR s)))) 1 && cmS (numR (numR (numR (numR (numR s))))) (((((false || numB s) || numB (numR s)) || numB (numR (numR s))) || numB (numR (numR (numR s)))) || numB (numR (numR (numR (numR s))))) && opS (cmE (numR (numR (numR (numR (numR s)))))) ((((((false || numB s) || numB (numR s)) || numB (numR (numR s))) || numB (numR (numR (numR s)))) || numB (numR (numR (numR (numR s))))) || numB (numR (numR (numR (numR (numR s)))))) && opS (opE (cmE (numR (numR (numR (numR (numR s))))))) (((((((false || numB s) || numB (numR s)) || numB (numR (numR s))) || numB (numR (numR (numR s)))) || numB (numR (numR (numR (numR s))))) || numB (numR (numR (numR (numR (numR s)))))) || numB (cmE (numR (numR (numR (numR (numR s))))))) && !((((((((false || numB s) || numB (numR s)) || numB (numR (numR s))) || numB (numR (numR (numR s)))) || numB (numR (numR (numR (numR s))))) || numB (numR (numR (numR (numR (numR s)))))) || numB (cmE (numR (numR (numR (numR (numR s))))))) || numB (opE (cmE (numR (numR (numR (numR (numR s)))))))) && sEq (opE (opE (cmE (numR (numR (numR (numR (numR s)))))))) ⟨#[]⟩ && chB (numV s) (numV (numR s)) (numV (numR (numR s))) (decide (numV (numR (numR (numR s))) = 1)) (cmL (numR (numR (numR (numR (numR s)))))) (opL (cmE (numR (numR (numR (numR (numR s))))))) (opL (opE (cmE (numR (numR (numR (numR (numR s)))))))) (numV (numR (numR (numR (numR s))))) && sEq (rqE (numV s) (numV (numR s)) (numV (numR (numR s))) (decide (numV (numR (numR (numR s))) = 1)) (cmL (numR (numR (numR (numR (numR s)))))) (opL (cmE (numR (numR (numR (numR (numR s))))))) (opL (opE (cmE (numR (numR (numR (numR (numR s)))))))) (numV (numR (numR (numR (numR s)))))) s
theorem dqK_eq (s : ByteArray) : dqK s = (leI (numV s) 1073741824 && leI (numV (numR (numR (numR s)))) 1 && cmS (numR (numR (numR (numR (numR s))))) (((((false || numB s) || numB (numR s)) || numB (numR (numR s))) || numB (numR (numR (numR s)))) || numB (numR (numR (numR (numR s))))) && opS (cmE (numR (numR (numR (numR (numR s)))))) ((((((false || numB s) || numB (numR s)) || numB (numR (numR s))) || numB (numR (numR (numR s)))) || numB (numR (numR (numR (numR s))))) || numB (numR (numR (numR (numR (numR s)))))) && opS (opE (cmE (numR (numR (numR (numR (numR s))))))) (((((((false || numB s) || numB (numR s)) || numB (numR (numR s))) || numB (numR (numR (numR s)))) || numB (numR (numR (numR (numR s))))) || numB (numR (numR (numR (numR (numR s)))))) || numB (cmE (numR (numR (numR (numR (numR s))))))) && !((((((((false || numB s) || numB (numR s)) || numB (numR (numR s))) || numB (numR (numR (numR s)))) || numB (numR (numR (numR (numR s))))) || numB (numR (numR (numR (numR (numR s)))))) || numB (cmE (numR (numR (numR (numR (numR s))))))) || numB (opE (cmE (numR (numR (numR (numR (numR s)))))))) && sEq (opE (opE (cmE (numR (numR (numR (numR (numR s)))))))) ⟨#[]⟩ && chB (numV s) (numV (numR s)) (numV (numR (numR s))) (decide (numV (numR (numR (numR s))) = 1)) (cmL (numR (numR (numR (numR (numR s)))))) (opL (cmE (numR (numR (numR (numR (numR s))))))) (opL (opE (cmE (numR (numR (numR (numR (numR s)))))))) (numV (numR (numR (numR (numR s))))) && sEq (rqE (numV s) (numV (numR s)) (numV (numR (numR s))) (decide (numV (numR (numR (numR s))) = 1)) (cmL (numR (numR (numR (numR (numR s)))))) (opL (cmE (numR (numR (numR (numR (numR s))))))) (opL (opE (cmE (numR (numR (numR (numR (numR s)))))))) (numV (numR (numR (numR (numR s)))))) s) := by unfold dqK; rw [hide_eq]
noncomputable def dqV : ByteArray → RqT := hide fun s => bif dqK s then dq0 s else (0, 0, 0, false, [], [], [], 0)
theorem dqV_eq (s : ByteArray) : dqV s = bif dqK s then dq0 s else (0, 0, 0, false, [], [], [], 0) := by unfold dqV; rw [hide_eq]
noncomputable def dqE : ByteArray → Int := hide fun s => bif dqK s then 0 else 11
theorem dqE_eq (s : ByteArray) : dqE s = bif dqK s then 0 else 11 := by unfold dqE; rw [hide_eq]
noncomputable def enqF : RqF := fun k cl nm sr C A B rv => ([cmW C, opW A, opW B, leI 0 cl, ltI cl 18446744073709551616, leI 0 nm, ltI nm 18446744073709551616, leI 0 rv, ltI rv 18446744073709551616], .tup [.str (rqE k cl nm sr C A B rv), .int .i64 (chE k cl nm sr C A B rv)])
noncomputable def tabD : Tab := oneTab 9 (rqF enqF) noTab
theorem tabD_ok : TabOK Try.prog tabD := oneTab_ok (rqF_ok fun k cl nm sr C A B rv h => encReq_at k cl nm rv sr C A B h.1 h.2.1 h.2.2.1 ⟨of_leI h.2.2.2.1, of_ltI h.2.2.2.2.1⟩ ⟨of_leI h.2.2.2.2.2.1, of_ltI h.2.2.2.2.2.2.1⟩ ⟨of_leI h.2.2.2.2.2.2.2.1, of_ltI h.2.2.2.2.2.2.2.2.1⟩) noTab_ok
theorem decReq_at (s : ByteArray) (hs : s.size ≤ 1000000) : PureAt Try.prog 19 [.str s] (.tup [rqG (dqV s), .int .i64 (dqE s)]) := by
 have y0 := numV_in s
 have z0 := numR_size s
 have y1 := numV_in (numR s)
 have z1 := numR_size (numR s)
 have y2 := numV_in (numR (numR s))
 have z2 := numR_size (numR (numR s))
 have y3 := numV_in (numR (numR (numR s)))
 have z3 := numR_size (numR (numR (numR s)))
 have y4 := numV_in (numR (numR (numR (numR s))))
 have z4 := numR_size (numR (numR (numR (numR s))))
 have ec := chE_of (numV s) (numV (numR s)) (numV (numR (numR s))) (numV (numR (numR (numR (numR s))))) (decide (numV (numR (numR (numR s))) = 1)) (cmL (numR (numR (numR (numR (numR s)))))) (opL (cmE (numR (numR (numR (numR (numR s))))))) (opL (opE (cmE (numR (numR (numR (numR (numR s))))))))
 by_cases m0 : numV s ≤ 1073741824
 rotate_left
 ·skip
  have l0 : leI (numV s) 1073741824 = false := by rw [leI_eq]; exact decide_eq_false m0
  have q : dqK s = false := by simp only [dqK_eq, Bool.and_false, Bool.false_and, Bool.true_and, Bool.and_true, Bool.not_true, Bool.not_false, l0]
  have e1 := dqV_eq s
  have e2 := dqE_eq s
  rw [q, cond_false] at e1 e2
  rw [e1, e2]
  refine zero_rq ?_
  refine pure_of_H htV_ok tabD_ok (fuel := 5) (d := 7) [] (fun _ _ h => by cases h) ?_
  repeat' ((conv => whnf); first | (with_reducible first | (refine W1.o ?_; constructor) | rfl | exact castL_self _ _) | ((with_reducible refine V.same_t ?_); exact rfl) | ((with_reducible refine andB_room ?_ ?_ ?_); (· kernel_rfl); (· (first | omega | (simp only [lens] <;> omega)))) | ((with_reducible refine W2.o ?_; constructor); · (first | (with_reducible assumption) | (first | omega | (simp only [lens] <;> omega)))) | ((with_reducible refine W3.o ?_; constructor); · (first | (with_reducible assumption) | (first | omega | (simp only [lens] <;> omega)))) | ((with_reducible refine W4.o ?_; constructor); · (first | (with_reducible first | assumption | exact decide_eq_true rfl | exact sEq_self _) | ((with_reducible refine eqOK_i ?_); kernel_rfl) | (first | (first | exact rfl)))) | ((with_reducible refine iteB_f ?_ ?_); · (first | (with_reducible first | assumption | exact decide_eq_true rfl | exact sEq_self _) | ((with_reducible refine eqOK_i ?_); kernel_rfl) | (first | (first | exact rfl)))) | (with_reducible refine CD.wk_au ?_) | (with_reducible refine W5.o ?_; constructor) | ((with_reducible refine W6.o ?_; constructor) <;> intro hB))
  all_goals ((conv => whnf); (try dsimp only); (try simp only [Nat.succ_eq_add_one, Nat.le_eq, castL_self]); (try omega))
  all_goals (try (first | omega | (simp only [lens] <;> omega)))
  all_goals first
   | exact rfl
   | (rw [e1, e2]; done)
   | (rw [e1, e2]; exact rfl)
   | (rw [e1]; exact rfl)
   | exact e2.symm
   | trace_state
 have l0 : leI (numV s) 1073741824 = true := by rw [leI_eq]; exact decide_eq_true m0
 by_cases m1 : numV (numR (numR (numR s))) ≤ 1
 rotate_left
 ·skip
  have l1 : leI (numV (numR (numR (numR s)))) 1 = false := by rw [leI_eq]; exact decide_eq_false m1
  have q : dqK s = false := by simp only [dqK_eq, Bool.and_false, Bool.false_and, Bool.true_and, Bool.and_true, Bool.not_true, Bool.not_false, l0, l1]
  have e1 := dqV_eq s
  have e2 := dqE_eq s
  rw [q, cond_false] at e1 e2
  rw [e1, e2]
  refine zero_rq ?_
  refine pure_of_H htV_ok tabD_ok (fuel := 5) (d := 7) [] (fun _ _ h => by cases h) ?_
  repeat' ((conv => whnf); first | (with_reducible first | (refine W1.o ?_; constructor) | rfl | exact castL_self _ _) | ((with_reducible refine V.same_t ?_); exact rfl) | ((with_reducible refine andB_room ?_ ?_ ?_); (· kernel_rfl); (· (first | omega | (simp only [lens] <;> omega)))) | ((with_reducible refine W2.o ?_; constructor); · (first | (with_reducible assumption) | (first | omega | (simp only [lens] <;> omega)))) | ((with_reducible refine W3.o ?_; constructor); · (first | (with_reducible assumption) | (first | omega | (simp only [lens] <;> omega)))) | ((with_reducible refine W4.o ?_; constructor); · (first | (with_reducible first | assumption | exact decide_eq_true rfl | exact sEq_self _) | ((with_reducible refine eqOK_i ?_); kernel_rfl) | (first | (first | exact rfl)))) | ((with_reducible refine iteB_f ?_ ?_); · (first | (with_reducible first | assumption | exact decide_eq_true rfl | exact sEq_self _) | ((with_reducible refine eqOK_i ?_); kernel_rfl) | (first | (first | exact rfl)))) | (with_reducible refine CD.wk_au ?_) | (with_reducible refine W5.o ?_; constructor) | ((with_reducible refine W6.o ?_; constructor) <;> intro hB))
  all_goals ((conv => whnf); (try dsimp only); (try simp only [Nat.succ_eq_add_one, Nat.le_eq, castL_self]); (try omega))
  all_goals (try (first | omega | (simp only [lens] <;> omega)))
  all_goals first
   | exact rfl
   | (rw [e1, e2]; done)
   | (rw [e1, e2]; exact rfl)
   | (rw [e1]; exact rfl)
   | exact e2.symm
   | trace_state
 have l1 : leI (numV (numR (numR (numR s)))) 1 = true := by rw [leI_eq]; exact decide_eq_true m1
 cases m2 : cmS (numR (numR (numR (numR (numR s))))) (((((false || numB s) || numB (numR s)) || numB (numR (numR s))) || numB (numR (numR (numR s)))) || numB (numR (numR (numR (numR s))))) with
 | false =>
  have q : dqK s = false := by simp only [dqK_eq, Bool.and_false, Bool.false_and, Bool.true_and, Bool.and_true, Bool.not_true, Bool.not_false, l0, l1, m2]
  have e1 := dqV_eq s
  have e2 := dqE_eq s
  rw [q, cond_false] at e1 e2
  rw [e1, e2]
  refine zero_rq ?_
  refine pure_of_H htV_ok tabD_ok (fuel := 5) (d := 7) [] (fun _ _ h => by cases h) ?_
  repeat' ((conv => whnf); first | (with_reducible first | (refine W1.o ?_; constructor) | rfl | exact castL_self _ _) | ((with_reducible refine V.same_t ?_); exact rfl) | ((with_reducible refine andB_room ?_ ?_ ?_); (· kernel_rfl); (· (first | omega | (simp only [lens] <;> omega)))) | ((with_reducible refine W2.o ?_; constructor); · (first | (with_reducible assumption) | (first | omega | (simp only [lens] <;> omega)))) | ((with_reducible refine W3.o ?_; constructor); · (first | (with_reducible assumption) | (first | omega | (simp only [lens] <;> omega)))) | ((with_reducible refine W4.o ?_; constructor); · (first | (with_reducible first | assumption | exact decide_eq_true rfl | exact sEq_self _) | ((with_reducible refine eqOK_i ?_); kernel_rfl) | (first | (first | exact rfl | exact m2)))) | ((with_reducible refine iteB_f ?_ ?_); · (first | (with_reducible first | assumption | exact decide_eq_true rfl | exact sEq_self _) | ((with_reducible refine eqOK_i ?_); kernel_rfl) | (first | (first | exact rfl | exact m2)))) | (with_reducible refine CD.wk_au ?_) | (with_reducible refine W5.o ?_; constructor) | ((with_reducible refine W6.o ?_; constructor) <;> intro hB))
  all_goals ((conv => whnf); (try dsimp only); (try simp only [Nat.succ_eq_add_one, Nat.le_eq, castL_self]); (try omega))
  all_goals (try (first | omega | (simp only [lens] <;> omega)))
  all_goals first
   | exact rfl
   | (rw [e1, e2]; done)
   | (rw [e1, e2]; exact rfl)
   | (rw [e1]; exact rfl)
   | exact e2.symm
   | trace_state
 | true =>
  have w2 := cmL_W (s := (numR (numR (numR (numR (numR s)))))) (b := (((((false || numB s) || numB (numR s)) || numB (numR (numR s))) || numB (numR (numR (numR s)))) || numB (numR (numR (numR (numR s)))))) (by omega) m2
  have x2 := cmE_size (numR (numR (numR (numR (numR s))))) (((((false || numB s) || numB (numR s)) || numB (numR (numR s))) || numB (numR (numR (numR s)))) || numB (numR (numR (numR (numR s))))) m2
  cases m3 : opS (cmE (numR (numR (numR (numR (numR s)))))) ((((((false || numB s) || numB (numR s)) || numB (numR (numR s))) || numB (numR (numR (numR s)))) || numB (numR (numR (numR (numR s))))) || numB (numR (numR (numR (numR (numR s)))))) with
  | false =>
   have q : dqK s = false := by simp only [dqK_eq, Bool.and_false, Bool.false_and, Bool.true_and, Bool.and_true, Bool.not_true, Bool.not_false, l0, l1, m2, m3]
   have e1 := dqV_eq s
   have e2 := dqE_eq s
   rw [q, cond_false] at e1 e2
   rw [e1, e2]
   refine zero_rq ?_
   refine pure_of_H htV_ok tabD_ok (fuel := 5) (d := 7) [] (fun _ _ h => by cases h) ?_
   repeat' ((conv => whnf); first | (with_reducible first | (refine W1.o ?_; constructor) | rfl | exact castL_self _ _) | ((with_reducible refine V.same_t ?_); exact rfl) | ((with_reducible refine andB_room ?_ ?_ ?_); (· kernel_rfl); (· (first | omega | (simp only [lens] <;> omega)))) | ((with_reducible refine W2.o ?_; constructor); · (first | (with_reducible assumption) | (first | omega | (simp only [lens] <;> omega)))) | ((with_reducible refine W3.o ?_; constructor); · (first | (with_reducible assumption) | (first | omega | (simp only [lens] <;> omega)))) | ((with_reducible refine W4.o ?_; constructor); · (first | (with_reducible first | assumption | exact decide_eq_true rfl | exact sEq_self _) | ((with_reducible refine eqOK_i ?_); kernel_rfl) | (first | (first | exact rfl | exact m2 | exact w2 | exact m3)))) | ((with_reducible refine iteB_f ?_ ?_); · (first | (with_reducible first | assumption | exact decide_eq_true rfl | exact sEq_self _) | ((with_reducible refine eqOK_i ?_); kernel_rfl) | (first | (first | exact rfl | exact m2 | exact w2 | exact m3)))) | (with_reducible refine CD.wk_au ?_) | (with_reducible refine W5.o ?_; constructor) | ((with_reducible refine W6.o ?_; constructor) <;> intro hB))
   all_goals ((conv => whnf); (try dsimp only); (try simp only [Nat.succ_eq_add_one, Nat.le_eq, castL_self]); (try omega))
   all_goals (try (first | omega | (simp only [lens] <;> omega)))
   all_goals first
    | exact rfl
    | (rw [e1, e2]; done)
    | (rw [e1, e2]; exact rfl)
    | (rw [e1]; exact rfl)
    | exact e2.symm
    | trace_state
  | true =>
   have w3 := opL_W (s := (cmE (numR (numR (numR (numR (numR s))))))) (b := ((((((false || numB s) || numB (numR s)) || numB (numR (numR s))) || numB (numR (numR (numR s)))) || numB (numR (numR (numR (numR s))))) || numB (numR (numR (numR (numR (numR s))))))) (by omega) m3
   have x3 := opE_size (cmE (numR (numR (numR (numR (numR s)))))) ((((((false || numB s) || numB (numR s)) || numB (numR (numR s))) || numB (numR (numR (numR s)))) || numB (numR (numR (numR (numR s))))) || numB (numR (numR (numR (numR (numR s)))))) m3
   cases m4 : opS (opE (cmE (numR (numR (numR (numR (numR s))))))) (((((((false || numB s) || numB (numR s)) || numB (numR (numR s))) || numB (numR (numR (numR s)))) || numB (numR (numR (numR (numR s))))) || numB (numR (numR (numR (numR (numR s)))))) || numB (cmE (numR (numR (numR (numR (numR s))))))) with
   | false =>
    have q : dqK s = false := by simp only [dqK_eq, Bool.and_false, Bool.false_and, Bool.true_and, Bool.and_true, Bool.not_true, Bool.not_false, l0, l1, m2, m3, m4]
    have e1 := dqV_eq s
    have e2 := dqE_eq s
    rw [q, cond_false] at e1 e2
    rw [e1, e2]
    refine zero_rq ?_
    refine pure_of_H htV_ok tabD_ok (fuel := 5) (d := 7) [] (fun _ _ h => by cases h) ?_
    repeat' ((conv => whnf); first | (with_reducible first | (refine W1.o ?_; constructor) | rfl | exact castL_self _ _) | ((with_reducible refine V.same_t ?_); exact rfl) | ((with_reducible refine andB_room ?_ ?_ ?_); (· kernel_rfl); (· (first | omega | (simp only [lens] <;> omega)))) | ((with_reducible refine W2.o ?_; constructor); · (first | (with_reducible assumption) | (first | omega | (simp only [lens] <;> omega)))) | ((with_reducible refine W3.o ?_; constructor); · (first | (with_reducible assumption) | (first | omega | (simp only [lens] <;> omega)))) | ((with_reducible refine W4.o ?_; constructor); · (first | (with_reducible first | assumption | exact decide_eq_true rfl | exact sEq_self _) | ((with_reducible refine eqOK_i ?_); kernel_rfl) | (first | (first | exact rfl | exact m2 | exact w2 | exact m3 | exact w3 | exact m4)))) | ((with_reducible refine iteB_f ?_ ?_); · (first | (with_reducible first | assumption | exact decide_eq_true rfl | exact sEq_self _) | ((with_reducible refine eqOK_i ?_); kernel_rfl) | (first | (first | exact rfl | exact m2 | exact w2 | exact m3 | exact w3 | exact m4)))) | (with_reducible refine CD.wk_au ?_) | (with_reducible refine W5.o ?_; constructor) | ((with_reducible refine W6.o ?_; constructor) <;> intro hB))
    all_goals ((conv => whnf); (try dsimp only); (try simp only [Nat.succ_eq_add_one, Nat.le_eq, castL_self]); (try omega))
    all_goals (try (first | omega | (simp only [lens] <;> omega)))
    all_goals first
     | exact rfl
     | (rw [e1, e2]; done)
     | (rw [e1, e2]; exact rfl)
     | (rw [e1]; exact rfl)
     | exact e2.symm
     | trace_state
   | true =>
    have w4 := opL_W (s := (opE (cmE (numR (numR (numR (numR (numR s)))))))) (b := (((((((false || numB s) || numB (numR s)) || numB (numR (numR s))) || numB (numR (numR (numR s)))) || numB (numR (numR (numR (numR s))))) || numB (numR (numR (numR (numR (numR s)))))) || numB (cmE (numR (numR (numR (numR (numR s)))))))) (by omega) m4
    cases m5 : ((((((((false || numB s) || numB (numR s)) || numB (numR (numR s))) || numB (numR (numR (numR s)))) || numB (numR (numR (numR (numR s))))) || numB (numR (numR (numR (numR (numR s)))))) || numB (cmE (numR (numR (numR (numR (numR s))))))) || numB (opE (cmE (numR (numR (numR (numR (numR s)))))))) with
    | true =>
     have q : dqK s = false := by simp only [dqK_eq, Bool.and_false, Bool.false_and, Bool.true_and, Bool.and_true, Bool.not_true, Bool.not_false, l0, l1, m2, m3, m4, m5]
     have e1 := dqV_eq s
     have e2 := dqE_eq s
     rw [q, cond_false] at e1 e2
     rw [e1, e2]
     refine zero_rq ?_
     refine pure_of_H htV_ok tabD_ok (fuel := 5) (d := 7) [] (fun _ _ h => by cases h) ?_
     repeat' ((conv => whnf); first | (with_reducible first | (refine W1.o ?_; constructor) | rfl | exact castL_self _ _) | ((with_reducible refine V.same_t ?_); exact rfl) | ((with_reducible refine andB_room ?_ ?_ ?_); (· kernel_rfl); (· (first | omega | (simp only [lens] <;> omega)))) | ((with_reducible refine W2.o ?_; constructor); · (first | (with_reducible assumption) | (first | omega | (simp only [lens] <;> omega)))) | ((with_reducible refine W3.o ?_; constructor); · (first | (with_reducible assumption) | (first | omega | (simp only [lens] <;> omega)))) | ((with_reducible refine W4.o ?_; constructor); · (first | (with_reducible first | assumption | exact decide_eq_true rfl | exact sEq_self _) | ((with_reducible refine eqOK_i ?_); kernel_rfl) | (first | (first | exact rfl | exact m2 | exact w2 | exact m3 | exact w3 | exact m4 | exact w4 | exact m5)))) | ((with_reducible refine iteB_f ?_ ?_); · (first | (with_reducible first | assumption | exact decide_eq_true rfl | exact sEq_self _) | ((with_reducible refine eqOK_i ?_); kernel_rfl) | (first | (first | exact rfl | exact m2 | exact w2 | exact m3 | exact w3 | exact m4 | exact w4 | exact m5)))) | (with_reducible refine CD.wk_au ?_) | (with_reducible refine W5.o ?_; constructor) | ((with_reducible refine W6.o ?_; constructor) <;> intro hB))
     all_goals ((conv => whnf); (try dsimp only); (try simp only [Nat.succ_eq_add_one, Nat.le_eq, castL_self]); (try omega))
     all_goals (try (first | omega | (simp only [lens] <;> omega)))
     all_goals first
      | exact rfl
      | (rw [e1, e2]; done)
      | (rw [e1, e2]; exact rfl)
      | (rw [e1]; exact rfl)
      | exact e2.symm
      | trace_state
    | false =>
     cases m6 : sEq (opE (opE (cmE (numR (numR (numR (numR (numR s)))))))) ⟨#[]⟩ with
     | false =>
      have q : dqK s = false := by simp only [dqK_eq, Bool.and_false, Bool.false_and, Bool.true_and, Bool.and_true, Bool.not_true, Bool.not_false, l0, l1, m2, m3, m4, m5, m6]
      have e1 := dqV_eq s
      have e2 := dqE_eq s
      rw [q, cond_false] at e1 e2
      rw [e1, e2]
      refine zero_rq ?_
      refine pure_of_H htV_ok tabD_ok (fuel := 5) (d := 7) [] (fun _ _ h => by cases h) ?_
      repeat' ((conv => whnf); first | (with_reducible first | (refine W1.o ?_; constructor) | rfl | exact castL_self _ _) | ((with_reducible refine V.same_t ?_); exact rfl) | ((with_reducible refine andB_room ?_ ?_ ?_); (· kernel_rfl); (· (first | omega | (simp only [lens] <;> omega)))) | ((with_reducible refine W2.o ?_; constructor); · (first | (with_reducible assumption) | (first | omega | (simp only [lens] <;> omega)))) | ((with_reducible refine W3.o ?_; constructor); · (first | (with_reducible assumption) | (first | omega | (simp only [lens] <;> omega)))) | ((with_reducible refine W4.o ?_; constructor); · (first | (with_reducible first | assumption | exact decide_eq_true rfl | exact sEq_self _) | ((with_reducible refine eqOK_i ?_); kernel_rfl) | (first | (first | exact rfl | exact m2 | exact w2 | exact m3 | exact w3 | exact m4 | exact w4 | exact m5 | exact m6)))) | ((with_reducible refine iteB_f ?_ ?_); · (first | (with_reducible first | assumption | exact decide_eq_true rfl | exact sEq_self _) | ((with_reducible refine eqOK_i ?_); kernel_rfl) | (first | (first | exact rfl | exact m2 | exact w2 | exact m3 | exact w3 | exact m4 | exact w4 | exact m5 | exact m6)))) | (with_reducible refine CD.wk_au ?_) | (with_reducible refine W5.o ?_; constructor) | ((with_reducible refine W6.o ?_; constructor) <;> intro hB))
      all_goals ((conv => whnf); (try dsimp only); (try simp only [Nat.succ_eq_add_one, Nat.le_eq, castL_self]); (try omega))
      all_goals (try (first | omega | (simp only [lens] <;> omega)))
      all_goals first
       | exact rfl
       | (rw [e1, e2]; done)
       | (rw [e1, e2]; exact rfl)
       | (rw [e1]; exact rfl)
       | exact e2.symm
       | trace_state
     | true =>
      cases m7 : chB (numV s) (numV (numR s)) (numV (numR (numR s))) (decide (numV (numR (numR (numR s))) = 1)) (cmL (numR (numR (numR (numR (numR s)))))) (opL (cmE (numR (numR (numR (numR (numR s))))))) (opL (opE (cmE (numR (numR (numR (numR (numR s)))))))) (numV (numR (numR (numR (numR s))))) with
      | false =>
       rw [m7, cond_false] at ec
       have q : dqK s = false := by simp only [dqK_eq, Bool.and_false, Bool.false_and, Bool.true_and, Bool.and_true, Bool.not_true, Bool.not_false, l0, l1, m2, m3, m4, m5, m6, m7]
       have e1 := dqV_eq s
       have e2 := dqE_eq s
       rw [q, cond_false] at e1 e2
       rw [e1, e2]
       refine zero_rq ?_
       refine pure_of_H htV_ok tabD_ok (fuel := 5) (d := 7) [] (fun _ _ h => by cases h) ?_
       repeat' ((conv => whnf); first | (with_reducible first | (refine W1.o ?_; constructor) | rfl | exact castL_self _ _) | ((with_reducible refine V.same_t ?_); exact rfl) | ((with_reducible refine andB_room ?_ ?_ ?_); (· kernel_rfl); (· (first | omega | (simp only [lens] <;> omega)))) | ((with_reducible refine W2.o ?_; constructor); · (first | (with_reducible assumption) | (first | omega | (simp only [lens] <;> omega)))) | ((with_reducible refine W3.o ?_; constructor); · (first | (with_reducible assumption) | (first | omega | (simp only [lens] <;> omega)))) | ((with_reducible refine W4.o ?_; constructor); · (first | (with_reducible first | assumption | exact decide_eq_true rfl | exact sEq_self _) | ((with_reducible refine eqOK_i ?_); kernel_rfl) | (first | (first | exact rfl | exact m2 | exact w2 | exact m3 | exact w3 | exact m4 | exact w4 | exact m5 | exact m6 | exact m7)))) | ((with_reducible refine iteB_f ?_ ?_); · (first | (with_reducible first | assumption | exact decide_eq_true rfl | exact sEq_self _) | ((with_reducible refine eqOK_i ?_); kernel_rfl) | (first | (first | exact rfl | exact m2 | exact w2 | exact m3 | exact w3 | exact m4 | exact w4 | exact m5 | exact m6 | exact m7)))) | (with_reducible refine CD.wk_au ?_) | (with_reducible refine W5.o ?_; constructor) | ((with_reducible refine W6.o ?_; constructor) <;> intro hB))
       all_goals ((conv => whnf); (try dsimp only); (try simp only [Nat.succ_eq_add_one, Nat.le_eq, castL_self]); (try omega))
       all_goals (try (first | omega | (simp only [lens] <;> omega)))
       all_goals first
        | exact rfl
        | (rw [e1, e2]; done)
        | (rw [e1, e2]; exact rfl)
        | (rw [e1]; exact rfl)
        | exact e2.symm
        | trace_state
      | true =>
       rw [m7, cond_true] at ec
       cases m8 : sEq (rqE (numV s) (numV (numR s)) (numV (numR (numR s))) (decide (numV (numR (numR (numR s))) = 1)) (cmL (numR (numR (numR (numR (numR s)))))) (opL (cmE (numR (numR (numR (numR (numR s))))))) (opL (opE (cmE (numR (numR (numR (numR (numR s)))))))) (numV (numR (numR (numR (numR s)))))) s with
       | false =>
        have q : dqK s = false := by simp only [dqK_eq, Bool.and_false, Bool.false_and, Bool.true_and, Bool.and_true, Bool.not_true, Bool.not_false, l0, l1, m2, m3, m4, m5, m6, m7, m8]
        have e1 := dqV_eq s
        have e2 := dqE_eq s
        rw [q, cond_false] at e1 e2
        rw [e1, e2]
        refine zero_rq ?_
        refine pure_of_H htV_ok tabD_ok (fuel := 5) (d := 7) [] (fun _ _ h => by cases h) ?_
        repeat' ((conv => whnf); first | (with_reducible first | (refine W1.o ?_; constructor) | rfl | exact castL_self _ _) | ((with_reducible refine V.same_t ?_); exact rfl) | ((with_reducible refine andB_room ?_ ?_ ?_); (· kernel_rfl); (· (first | omega | (simp only [lens] <;> omega)))) | ((with_reducible refine W2.o ?_; constructor); · (first | (with_reducible assumption) | (first | omega | (simp only [lens] <;> omega)))) | ((with_reducible refine W3.o ?_; constructor); · (first | (with_reducible assumption) | (first | omega | (simp only [lens] <;> omega)))) | ((with_reducible refine W4.o ?_; constructor); · (first | (with_reducible first | assumption | exact decide_eq_true rfl | exact sEq_self _) | ((with_reducible refine eqOK_i ?_); kernel_rfl) | (first | (first | exact rfl | exact m2 | exact w2 | exact m3 | exact w3 | exact m4 | exact w4 | exact m5 | exact m6 | exact m7 | exact m8)))) | ((with_reducible refine iteB_f ?_ ?_); · (first | (with_reducible first | assumption | exact decide_eq_true rfl | exact sEq_self _) | ((with_reducible refine eqOK_i ?_); kernel_rfl) | (first | (first | exact rfl | exact m2 | exact w2 | exact m3 | exact w3 | exact m4 | exact w4 | exact m5 | exact m6 | exact m7 | exact m8)))) | (with_reducible refine CD.wk_au ?_) | (with_reducible refine W5.o ?_; constructor) | ((with_reducible refine W6.o ?_; constructor) <;> intro hB))
        all_goals ((conv => whnf); (try dsimp only); (try simp only [Nat.succ_eq_add_one, Nat.le_eq, castL_self]); (try omega))
        all_goals (try (first | omega | (simp only [lens] <;> omega)))
        all_goals first
         | exact rfl
         | (rw [e1, e2]; done)
         | (rw [e1, e2]; exact rfl)
         | (rw [e1]; exact rfl)
         | exact e2.symm
         | trace_state
       | true =>
        have q : dqK s = true := by simp only [dqK_eq, Bool.and_true, Bool.not_false, l0, l1, m2, m3, m4, m5, m6, m7, m8]
        have e1 := dqV_eq s
        have e2 := dqE_eq s
        rw [q, cond_true] at e1 e2
        refine pure_of_H htV_ok tabD_ok (fuel := 5) (d := 7) [] (fun _ _ h => by cases h) ?_
        repeat' ((conv => whnf); first | (with_reducible first | (refine W1.o ?_; constructor) | rfl | exact castL_self _ _) | ((with_reducible refine V.same_t ?_); exact rfl) | ((with_reducible refine andB_room ?_ ?_ ?_); (· kernel_rfl); (· (first | omega | (simp only [lens] <;> omega)))) | ((with_reducible refine W2.o ?_; constructor); · (first | (with_reducible assumption) | (first | omega | (simp only [lens] <;> omega)))) | ((with_reducible refine W3.o ?_; constructor); · (first | (with_reducible assumption) | (first | omega | (simp only [lens] <;> omega)))) | ((with_reducible refine W4.o ?_; constructor); · (first | (with_reducible first | assumption | exact decide_eq_true rfl | exact sEq_self _) | ((with_reducible refine eqOK_i ?_); kernel_rfl) | (first | (first | exact rfl | exact m2 | exact w2 | exact m3 | exact w3 | exact m4 | exact w4 | exact m5 | exact m6 | exact m7 | exact m8)))) | ((with_reducible refine iteB_f ?_ ?_); · (first | (with_reducible first | assumption | exact decide_eq_true rfl | exact sEq_self _) | ((with_reducible refine eqOK_i ?_); kernel_rfl) | (first | (first | exact rfl | exact m2 | exact w2 | exact m3 | exact w3 | exact m4 | exact w4 | exact m5 | exact m6 | exact m7 | exact m8)))) | (with_reducible refine CD.wk_au ?_) | (with_reducible refine W5.o ?_; constructor) | ((with_reducible refine W6.o ?_; constructor) <;> intro hB))
        all_goals ((conv => whnf); (try dsimp only); (try simp only [Nat.succ_eq_add_one, Nat.le_eq, castL_self]); (try omega))
        all_goals (try (first | omega | (simp only [lens] <;> omega)))
        all_goals first
         | exact rfl
         | (rw [e1, e2]; done)
         | (rw [e1, e2]; exact rfl)
         | (rw [e1]; exact rfl)
         | exact e2.symm
         | trace_state
end Go.Proofs.Ytaloolcabmfjbaa
end
