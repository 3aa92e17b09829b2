/-
  Texts of this claim, one behind the other: CdRq CdCutL CdCut. Each says its own conditions.
-/
import Derived.Test.YtaloolcabmfjbaaCdtM14
import Derived.Test.YtaloolcabmfjbaaCdtM12
import Derived.Test.YtaloolcabmfjbaaCdtM13

set_option linter.unusedVariables false
set_option linter.unusedSimpArgs false
set_option linter.unusedSectionVars false
section
namespace Go.Proofs.Ytaloolcabmfjbaa
open Go.Sym
set_option linter.unusedVariables false
set_option linter.unusedSimpArgs false
set_option maxRecDepth 100000
set_option maxHeartbeats 4000000
noncomputable def tabKv : Tab := oneTab 87 kvlF tabE0
theorem tabKv_ok : TabOK Try.prog tabKv := oneTab_ok kvlF_ok tabE0_ok
theorem layRes_at (s : ByteArray) (K : List KvQ) (m : Bool) (c d : Int) (P : List KvQ) (hs : s.size ≤ 5000000000000000) (wK : kvW K = true) (wP : kvW P = true) : PureAt Try.prog 49 [.str s, (.agg [.lst kvT K false, .bool m, .int .i64 c, .int .i64 d, .lst kvT P false])] (.str (s ++ reY (K, m, c, d, P))) := by
 have e := reY_eq (K, m, c, d, P)
 have yK := kvZ_le K wK K.length (Nat.le_refl _)
 rw [← catZ_eq] at yK
 have z1 := numT_le (tI m)
 have z2 := numT_le (c % 18446744073709551616)
 have z3 := numT_le (d % 18446744073709551616)
 have t1 := tI_in m
 refine pure_of_W0 (tab := tabKv) (fuel := 12) (d := 5) tabKv_ok ?_
 repeat' ((conv => whnf); first | (with_reducible first | (refine W1.o ?_; constructor) | rfl | exact castL_self _ _) | ((with_reducible refine V.same_t ?_); exact rfl) | ((with_reducible refine andB_room ?_ ?_ ?_); (· kernel_rfl); (· (first | omega | (simp only [lens] <;> omega)))) | ((with_reducible refine W2.o ?_; constructor); · (first | (with_reducible assumption) | (first | omega | (simp only [lens] <;> omega)))) | ((with_reducible refine W3.o ?_; constructor); · (first | (with_reducible assumption) | (first | omega | (simp only [lens] <;> omega)))) | ((with_reducible refine W4.o ?_; constructor); · (first | (with_reducible first | assumption | exact decide_eq_true rfl | exact sEq_self _) | ((with_reducible refine eqOK_i ?_); kernel_rfl) | (first | exact wK | exact wP))) | ((with_reducible refine iteB_f ?_ ?_); · (first | (with_reducible first | assumption | exact decide_eq_true rfl | exact sEq_self _) | ((with_reducible refine eqOK_i ?_); kernel_rfl) | (first | exact wK | exact wP))) | ((with_reducible refine W2.o ?_; constructor); · (simp only [Sym.rowAt, List.getD_cons_zero, List.getD_cons_succ, Int.zero_add, Nat.zero_add, Int.reduceToNat, Int.reduceAdd, lens] <;> omega)) | ((with_reducible refine W3.o ?_; constructor); · (simp only [Sym.rowAt, List.getD_cons_zero, List.getD_cons_succ, Int.zero_add, Nat.zero_add, Int.reduceToNat, Int.reduceAdd, lens] <;> omega)) | (with_reducible refine W5.o ?_; constructor) | ((with_reducible refine W6.o ?_; constructor) <;> intro hB))
 all_goals ((conv => whnf); (try dsimp only); (try simp only [Nat.succ_eq_add_one, Nat.le_eq, castL_self]); (try omega))
 all_goals (try (first | omega | (simp only [lens] <;> omega)))
 all_goals first
  | exact rfl
  | (rw [e]; simp only [Sym.rowAt, List.getD_cons_zero, List.getD_cons_succ, Int.zero_add, Nat.zero_add, Int.reduceToNat, Int.reduceAdd, ByteArray.append_assoc]; done)
  | (rw [e]; simp only [Sym.rowAt, List.getD_cons_zero, List.getD_cons_succ, Int.zero_add, Nat.zero_add, Int.reduceToNat, Int.reduceAdd, ByteArray.append_assoc]; exact rfl)
  | (simp only [Sym.rowAt, List.getD_cons_zero, List.getD_cons_succ, Int.zero_add, Nat.zero_add, Int.reduceToNat, Int.reduceAdd, lens] <;> omega)
  | trace_state
noncomputable def lrF (args : List V) : Option (List Bool × V) := match args with
 | [.str s, .agg [k, .bool m, .int .i64 c, .int .i64 d, p]] => (match ofLst kvT k, ofLst kvT p with
   | some K, some P => some ([decide (s.size ≤ 5000000000000000), kvW K, kvW P], .str (s ++ reY (K, m, c, d, P)))
   | _, _ => none)
 | _ => none
theorem lrF_ok (args : List V) (c : List Bool) (v : V) (h : lrF args = some (c, v)) (hc : allB c) : PureAt Try.prog 49 args v := by
 unfold lrF at h
 split at h
 ·split at h
  ·rename_i s k m c d p q1 q2 K Q h1 h2
   cases h
   refine (layRes_at s K m c d Q (of_decide_eq_true hc.1) hc.2.1 hc.2.2.1).weak fun φ X hX => ?_
   exact LRel.cons_of (fun _ h => h) (LRel.cons_of (agg_of (LRel.cons_of (fun _ h => ofLst_rel h1 h) (LRel.cons_of (fun _ h => h) (LRel.cons_of (fun _ h => h) (LRel.cons_of (fun _ h => h) (LRel.cons_of (fun _ h => ofLst_rel h2 h) fun _ h => h)))))) (fun _ h => h)) X hX
  ·cases h
 ·cases h
noncomputable def tabL : Tab := oneTab 49 lrF tabE0
theorem tabL_ok : TabOK Try.prog tabL := oneTab_ok lrF_ok tabE0_ok
noncomputable def relC (s : ByteArray) (L : List ReQ) (i : Nat) : CD := ⟨27, [(0, .str (s ++ catA reY L i)), (2, .fn 49 [] []), (15, .lst reT L false), (16, .int .i64 (L.length : Int)), (17, .int .i64 (i : Int))], [], [], 0⟩
theorem rel_at (s : ByteArray) (L : List ReQ) (hs : s.size ≤ 10000) (hw : reW L = true) (hk : L.length ≤ 100) : PureAt Try.prog 48 [.str s, .lst reT L false, .fn 49 [] []] (.str (s ++ catZ reY L)) := by
 have hi := (reW_iff L).1 hw
 have hz : ∀ i, i ≤ L.length → (catA reY L i).size ≤ 4000000000000000 := fun i hi2 => by
  have := catA_le reY L 10000000000000 (fun j hj => reY_le _ (hi.2 j hj).1 (hi.2 j hj).2) i hi2
  omega
 have e0 := catA_0 reY L
 have eZ := catZ_eq reY L
 have z0 := numT_le (L.length : Int)
 have en : (L.length : Int) % 18446744073709551616 = (L.length : Int) := by omega
 have hzL := hz L.length (Nat.le_refl _)
 refine pure_of_loops tabL_ok (fuel := 4) (d := 5) [⟨3, [], relC s L 0, .leaf (.exit 0) (relC s L L.length)⟩] (fun N y hy => ?_) ?_
 ·rw [List.mem_singleton.1 hy]
  refine LpD.ok_one (b := bodyAt Try.prog 48 3) rfl (loop_W tabL_ok (fuel := 4) (d := 5) (X := { i : Nat // i ≤ L.length }) (fun x => relC s L x.1) (fun x => L.length - x.1)
    (fun _ => .leaf (.exit 0) (relC s L L.length)) (fun _ => noLpW) (fun _ => noLp) (fun _ => noLp_ad) (fun _ => noLp_ok _) ?_ ⟨0, Nat.zero_le _⟩)
  rintro ⟨i, hi2⟩
  dsimp only
  have hzi := hz i hi2
  rcases Nat.lt_or_ge i L.length with hlt | hge
  ·have ei : Int.toNat (i : Int) = i := Int.toNat_natCast i
   obtain ⟨w1, w2⟩ : kvW (Sym.rowAt reT L (Int.toNat (i : Int))).1 = true ∧ kvW (Sym.rowAt reT L (Int.toNat (i : Int))).2.2.2.2 = true := by rw [ei]; exact hi.2 i hlt
   have es : catA reY L (i + 1) = catA reY L i ++ reY (Sym.rowAt reT L (Int.toNat (i : Int))) := catA_succ reY L i
   repeat' ((conv => whnf); first | (with_reducible first | (refine W1.o ?_; constructor) | rfl | exact castL_self _ _) | ((with_reducible refine V.same_t ?_); exact rfl) | ((with_reducible refine andB_room ?_ ?_ ?_); (· kernel_rfl); (· (first | omega | (simp only [lens] <;> omega)))) | ((with_reducible refine W2.o ?_; constructor); · (first | (with_reducible assumption) | (first | omega | (simp only [lens] <;> omega)))) | ((with_reducible refine W3.o ?_; constructor); · (first | (with_reducible assumption) | (first | omega | (simp only [lens] <;> omega)))) | ((with_reducible refine W4.o ?_; constructor); · (first | (with_reducible first | assumption | exact decide_eq_true rfl | exact sEq_self _) | ((with_reducible refine eqOK_i ?_); kernel_rfl) | (first | (first | exact w1 | exact w2)))) | ((with_reducible refine iteB_f ?_ ?_); · (first | (with_reducible first | assumption | exact decide_eq_true rfl | exact sEq_self _) | ((with_reducible refine eqOK_i ?_); kernel_rfl) | (first | (first | exact w1 | exact w2)))) | (refine ⟨⟨i + 1, hlt⟩, ?_, rfl, ?_⟩) | (with_reducible refine CD.wk_au ?_) | (with_reducible refine W5.o ?_; constructor) | ((with_reducible refine W6.o ?_; constructor) <;> intro hB))
   all_goals ((conv => whnf); (try dsimp only); (try simp only [Nat.succ_eq_add_one, Nat.le_eq, castL_self]); (try omega))
   all_goals (try (first | omega | (simp only [lens] <;> omega)))
   all_goals first
    | exact rfl
    | omega
    | (simp only [lens] <;> omega)
    | (rw [es, ← ByteArray.append_assoc]; done)
    | (rw [es, ← ByteArray.append_assoc]; exact rfl)
    | trace_state
  ·have he : i = L.length := Nat.le_antisymm hi2 hge
   subst he
   repeat' ((conv => whnf); first | (with_reducible first | (refine W1.o ?_; constructor) | rfl | exact castL_self _ _) | ((with_reducible refine V.same_t ?_); exact rfl) | ((with_reducible refine andB_room ?_ ?_ ?_); (· kernel_rfl); (· (first | omega | (simp only [lens] <;> omega)))) | ((with_reducible refine W2.o ?_; constructor); · (first | (with_reducible assumption) | (first | omega | (simp only [lens] <;> omega)))) | ((with_reducible refine W3.o ?_; constructor); · (first | (with_reducible assumption) | (first | omega | (simp only [lens] <;> omega)))) | ((with_reducible refine W4.o ?_; constructor); · (first | (with_reducible first | assumption | exact decide_eq_true rfl | exact sEq_self _) | ((with_reducible refine eqOK_i ?_); kernel_rfl))) | ((with_reducible refine iteB_f ?_ ?_); · (first | (with_reducible first | assumption | exact decide_eq_true rfl | exact sEq_self _) | ((with_reducible refine eqOK_i ?_); kernel_rfl))) | (with_reducible refine CD.wk_au ?_) | (with_reducible refine W5.o ?_; constructor) | ((with_reducible refine W6.o ?_; constructor) <;> intro hB))
   all_goals ((conv => whnf); (try dsimp only); (try simp only [Nat.succ_eq_add_one, Nat.le_eq, castL_self]); (try omega))
   all_goals (try (first | omega | (simp only [lens] <;> omega)))
   all_goals first
    | exact rfl
    | trace_state
 ·repeat' ((conv => whnf); first | (with_reducible first | (refine W1.o ?_; constructor) | rfl | exact castL_self _ _) | ((with_reducible refine V.same_t ?_); exact rfl) | ((with_reducible refine andB_room ?_ ?_ ?_); (· kernel_rfl); (· (first | omega | (simp only [lens] <;> omega)))) | ((with_reducible refine W2.o ?_; constructor); · (first | (with_reducible assumption) | (first | omega | (simp only [lens] <;> omega)))) | ((with_reducible refine W3.o ?_; constructor); · (first | (with_reducible assumption) | (first | omega | (simp only [lens] <;> omega)))) | ((with_reducible refine W4.o ?_; constructor); · (first | (with_reducible first | assumption | exact decide_eq_true rfl | exact sEq_self _) | ((with_reducible refine eqOK_i ?_); kernel_rfl))) | ((with_reducible refine iteB_f ?_ ?_); · (first | (with_reducible first | assumption | exact decide_eq_true rfl | exact sEq_self _) | ((with_reducible refine eqOK_i ?_); kernel_rfl))) | ((with_reducible refine W2.o ?_; constructor); · (simp only [Sym.rowAt, List.getD_cons_zero, List.getD_cons_succ, Int.zero_add, Nat.zero_add, Int.reduceToNat, Int.reduceAdd, lens] <;> omega)) | ((with_reducible refine W3.o ?_; constructor); · (simp only [Sym.rowAt, List.getD_cons_zero, List.getD_cons_succ, Int.zero_add, Nat.zero_add, Int.reduceToNat, Int.reduceAdd, lens] <;> omega)) | (with_reducible refine CD.wk_au ?_) | (with_reducible refine W5.o ?_; constructor) | ((with_reducible refine W6.o ?_; constructor) <;> intro hB))
  all_goals ((conv => whnf); (try dsimp only); (try simp only [Nat.succ_eq_add_one, Nat.le_eq, castL_self]); (try omega))
  all_goals (try (first | omega | (simp only [lens] <;> omega)))
  all_goals first
   | exact rfl
   | (rw [eZ]; done)
   | (simp only [Sym.rowAt, List.getD_cons_zero, List.getD_cons_succ, Int.zero_add, Nat.zero_add, Int.reduceToNat, Int.reduceAdd, en, e0]; done)
   | trace_state
noncomputable def relF (args : List V) : Option (List Bool × V) := match args with
 | [.str s, l, .fn g [] []] => (match ofLst reT l with
   | some L => some ([Nat.beq g 49, decide (s.size ≤ 10000), reW L, decide (L.length ≤ 100)], .str (s ++ catZ reY L))
   | none => none)
 | _ => none
theorem relF_ok (args : List V) (c : List Bool) (v : V) (h : relF args = some (c, v)) (hc : allB c) : PureAt Try.prog 48 args v := by
 unfold relF at h
 split at h
 ·split at h
  ·rename_i s l g q L hl
   cases h
   rw [Nat.eq_of_beq_eq_true hc.1]
   exact PureAt.lst (pre := [.str s]) (rest := [.fn 49 [] []]) (rel_at s L (of_decide_eq_true hc.2.1) hc.2.2.1 (of_decide_eq_true hc.2.2.2.1)) hl
  ·cases h
 ·cases h
abbrev RpF : Type := Int → Int → Int → Bool → List ReQ → Int → Int → Int → Int → List Bool × V
noncomputable def rpF (f : RpF) (args : List V) : Option (List Bool × V) := match args with
 | [.agg [.int .i64 er, .int .u64 rv, .int .u64 cm, .bool tk, r, .int .u32 ha, .int .u64 ap, .int .u64 te, .int .i64 ld]] => (match ofLst reT r with
   | some R => some (f er rv cm tk R ha ap te ld)
   | none => none)
 | _ => none
theorem rpF_ok {P : Program} {g : FuncId} {f : RpF} (hf : ∀ er rv cm tk R ha ap te ld, allB (f er rv cm tk R ha ap te ld).1 → PureAt P g [(.agg [.int .i64 er, .int .u64 rv, .int .u64 cm, .bool tk, .lst reT R false, .int .u32 ha, .int .u64 ap, .int .u64 te, .int .i64 ld])] (f er rv cm tk R ha ap te ld).2) (args : List V) (c : List Bool) (v : V) (h : rpF f args = some (c, v)) (hc : allB c) : PureAt P g args v := by
 unfold rpF at h
 split at h
 ·split at h
  ·rename_i er rv cm tk r ha ap te ld q R h1
   have e : f er rv cm tk R ha ap te ld = (_, _) := Option.some.inj h
   have hg := hf er rv cm tk R ha ap te ld (by rw [e]; exact hc)
   rw [e] at hg
   refine hg.weak fun φ X hX => ?_
   exact LRel.cons_of (agg_of (LRel.cons_of (fun _ h => h) (LRel.cons_of (fun _ h => h) (LRel.cons_of (fun _ h => h) (LRel.cons_of (fun _ h => h) (LRel.cons_of (fun _ h => ofLst_rel h1 h) fun _ h => h)))))) (fun _ h => h) X hX
  ·cases h
 ·cases h
noncomputable def maF : RpF := fun er rv cm tk R ha ap te ld => ([reW R], .bool (maB er ld R))
noncomputable def tabW : Tab := oneTab 47 (rpF maF) (oneTab 50 (rpF maF) (oneTab 48 relF (oneTab 51 rkvF tabE0)))
theorem tabW_ok : TabOK Try.prog tabW := oneTab_ok (rpF_ok fun er rv cm tk R ha ap te ld h => mayResp_at er rv cm ha ap te ld tk R h.1) (oneTab_ok (rpF_ok fun er rv cm tk R ha ap te ld h => rmayResp_at er rv cm ha ap te ld tk R h.1) (oneTab_ok relF_ok (oneTab_ok rkvF_ok tabE0_ok)))
section
variable (er rv cm ha ap te ld : Int) (tk : Bool) (R : List ReQ)
noncomputable def rph : Int → Int → Int → Bool → Int → Int → Int → Int → ByteArray := hide fun er rv cm tk ha ap te ld => numT (er % 18446744073709551616) ++ (numT rv ++ (numT cm ++ (numT (tI tk) ++ (numT (ha % 18446744073709551616) ++ (numT ap ++ (numT te ++ numT ((ld + 1) % 18446744073709551616)))))))
theorem rph_eq : rph er rv cm tk ha ap te ld = numT (er % 18446744073709551616) ++ (numT rv ++ (numT cm ++ (numT (tI tk) ++ (numT (ha % 18446744073709551616) ++ (numT ap ++ (numT te ++ numT ((ld + 1) % 18446744073709551616))))))) := by unfold rph; rw [hide_eq]
noncomputable def rpE : Int → Int → Int → Bool → List ReQ → Int → Int → Int → Int → ByteArray := hide fun er rv cm tk R ha ap te ld => bif maB er ld R then rph er rv cm tk ha ap te ld ++ catZ reY R else ⟨#[]⟩
theorem rpE_eq : rpE er rv cm tk R ha ap te ld = bif maB er ld R then rph er rv cm tk ha ap te ld ++ catZ reY R else ⟨#[]⟩ := by unfold rpE; rw [hide_eq]
noncomputable def maE : Int → Int → List ReQ → Int := hide fun er ld R => bif maB er ld R then 0 else 2
theorem maE_eq : maE er ld R = bif maB er ld R then 0 else 2 := by unfold maE; rw [hide_eq]
theorem encResp_at (wR : reW R = true) (h1 : 0 ≤ rv ∧ rv < 18446744073709551616) (h2 : 0 ≤ cm ∧ cm < 18446744073709551616) (h3 : 0 ≤ ha ∧ ha < 4294967296) (h4 : 0 ≤ ap ∧ ap < 18446744073709551616) (h5 : 0 ≤ te ∧ te < 18446744073709551616) : PureAt Try.prog 17 [(.agg [.int .i64 er, .int .u64 rv, .int .u64 cm, .bool tk, .lst reT R false, .int .u32 ha, .int .u64 ap, .int .u64 te, .int .i64 ld])] (.tup [.str (rpE er rv cm tk R ha ap te ld), .int .i64 (maE er ld R)]) := by
 have zz : ByteArray.size ⟨#[]⟩ = 0 := rfl
 have z1 := numT_le (er % 18446744073709551616)
 have z2 := numT_le rv
 have z3 := numT_le cm
 have z4 := numT_le (tI tk)
 have z5 := numT_le (ha % 18446744073709551616)
 have z6 := numT_le ap
 have z7 := numT_le te
 have z8 := numT_le ((ld + 1) % 18446744073709551616)
 have t4 := tI_in tk
 have e1 := maE_eq er ld R
 have e2 := rpE_eq er rv cm ha ap te ld tk R
 have e4 := rph_eq er rv cm ha ap te ld tk
 refine pure_of_W0 (tab := tabW) (fuel := 12) (d := 5) tabW_ok ?_
 cases hb : maB er ld R with
 | true =>
  rw [hb, cond_true] at e1 e2
  rw [maB_eq] at hb
  obtain ⟨b1, b2, b3, b4, b5, b6⟩ := of_decide_eq_true hb
  rw [← maB_eq] at hb
  repeat' ((conv => whnf); first | (with_reducible first | (refine W1.o ?_; constructor) | rfl | exact castL_self _ _) | ((with_reducible refine V.same_t ?_); exact rfl) | ((with_reducible refine andB_room ?_ ?_ ?_); (· kernel_rfl); (· (first | omega | (simp only [lens] <;> omega)))) | ((with_reducible refine W2.o ?_; constructor); · (first | (with_reducible assumption) | (first | omega | (simp only [lens] <;> omega)))) | ((with_reducible refine W3.o ?_; constructor); · (first | (with_reducible assumption) | (first | omega | (simp only [lens] <;> omega)))) | ((with_reducible refine W4.o ?_; constructor); · (first | (with_reducible first | assumption | exact decide_eq_true rfl | exact sEq_self _) | ((with_reducible refine eqOK_i ?_); kernel_rfl) | (first | exact wR | exact hb))) | ((with_reducible refine iteB_f ?_ ?_); · (first | (with_reducible first | assumption | exact decide_eq_true rfl | exact sEq_self _) | ((with_reducible refine eqOK_i ?_); kernel_rfl) | (first | exact wR | exact hb))) | ((with_reducible refine W2.o ?_; constructor); · (simp only [Sym.rowAt, List.getD_cons_zero, List.getD_cons_succ, Int.zero_add, Nat.zero_add, Int.reduceToNat, Int.reduceAdd, lens] <;> omega)) | ((with_reducible refine W3.o ?_; constructor); · (simp only [Sym.rowAt, List.getD_cons_zero, List.getD_cons_succ, Int.zero_add, Nat.zero_add, Int.reduceToNat, Int.reduceAdd, lens] <;> omega)) | (with_reducible refine W5.o ?_; constructor) | ((with_reducible refine W6.o ?_; constructor) <;> intro hB))
  all_goals ((conv => whnf); (try dsimp only); (try simp only [Nat.succ_eq_add_one, Nat.le_eq, castL_self]); (try omega))
  all_goals (try (first | omega | (simp only [lens] <;> omega)))
  all_goals first
   | exact rfl
   | (rw [e1, e2]; done)
   | (rw [e1, e2]; exact rfl)
   | (rw [e1, e2, e4]; simp only [Sym.rowAt, List.getD_cons_zero, List.getD_cons_succ, Int.zero_add, Nat.zero_add, Int.reduceToNat, Int.reduceAdd, ByteArray.append_assoc, nil_cat]; done)
   | (simp only [Sym.rowAt, List.getD_cons_zero, List.getD_cons_succ, Int.zero_add, Nat.zero_add, Int.reduceToNat, Int.reduceAdd, lens] <;> omega)
   | omega
   | trace_state
 | false =>
  rw [hb, cond_false] at e1 e2
  repeat' ((conv => whnf); first | (with_reducible first | (refine W1.o ?_; constructor) | rfl | exact castL_self _ _) | ((with_reducible refine V.same_t ?_); exact rfl) | ((with_reducible refine andB_room ?_ ?_ ?_); (· kernel_rfl); (· (first | omega | (simp only [lens] <;> omega)))) | ((with_reducible refine W2.o ?_; constructor); · (first | (with_reducible assumption) | (first | omega | (simp only [lens] <;> omega)))) | ((with_reducible refine W3.o ?_; constructor); · (first | (with_reducible assumption) | (first | omega | (simp only [lens] <;> omega)))) | ((with_reducible refine W4.o ?_; constructor); · (first | (with_reducible first | assumption | exact decide_eq_true rfl | exact sEq_self _) | ((with_reducible refine eqOK_i ?_); kernel_rfl) | (first | exact wR | exact hb))) | ((with_reducible refine iteB_f ?_ ?_); · (first | (with_reducible first | assumption | exact decide_eq_true rfl | exact sEq_self _) | ((with_reducible refine eqOK_i ?_); kernel_rfl) | (first | exact wR | exact hb))) | ((with_reducible refine W2.o ?_; constructor); · (simp only [Sym.rowAt, List.getD_cons_zero, List.getD_cons_succ, Int.zero_add, Nat.zero_add, Int.reduceToNat, Int.reduceAdd, lens] <;> omega)) | ((with_reducible refine W3.o ?_; constructor); · (simp only [Sym.rowAt, List.getD_cons_zero, List.getD_cons_succ, Int.zero_add, Nat.zero_add, Int.reduceToNat, Int.reduceAdd, lens] <;> omega)) | (with_reducible refine W5.o ?_; constructor) | ((with_reducible refine W6.o ?_; constructor) <;> intro hB))
  all_goals ((conv => whnf); (try dsimp only); (try simp only [Nat.succ_eq_add_one, Nat.le_eq, castL_self]); (try omega))
  all_goals (try (first | omega | (simp only [lens] <;> omega)))
  all_goals first
   | exact rfl
   | (rw [e1, e2]; done)
   | (rw [e1, e2]; exact rfl)
   | (rw [e1, e2, e4]; simp only [Sym.rowAt, List.getD_cons_zero, List.getD_cons_succ, Int.zero_add, Nat.zero_add, Int.reduceToNat, Int.reduceAdd, ByteArray.append_assoc, nil_cat]; done)
   | (simp only [Sym.rowAt, List.getD_cons_zero, List.getD_cons_succ, Int.zero_add, Nat.zero_add, Int.reduceToNat, Int.reduceAdd, lens] <;> omega)
   | omega
   | trace_state
noncomputable def resC (i : Nat) : CD := ⟨79, [(1, .ptr 0 0), (4, .str (rph er rv cm tk ha ap te ld ++ catA reY R i)), (5, .int .i64 (i : Int))], [], rpH er rv cm ha ap te ld tk R, 1⟩
theorem res_lp (hq : (rph er rv cm tk ha ap te ld).size ≤ 100) (N : Nat) (hw : reW R = true) (hk : R.length ≤ 100) : LpD.ok Try.prog N 0 (bodyOf Try.prog 18) ⟨7, [(0, 0)], resC er rv cm ha ap te ld tk R 0, .leaf (.exit 0) (resC er rv cm ha ap te ld tk R R.length)⟩ := by
 have hi := (reW_iff R).1 hw
 have hz : ∀ i, i ≤ R.length → (catA reY R i).size ≤ 4000000000000000 := fun i hi2 => by
  have := catA_le reY R 10000000000000 (fun j hj => reY_le _ (hi.2 j hj).1 (hi.2 j hj).2) i hi2
  omega
 refine LpD.ok_one (b := bodyAt Try.prog 18 7) rfl (loop_W tabW_ok (fuel := 6) (d := 5) (X := { i : Nat // i ≤ R.length }) (fun x => resC er rv cm ha ap te ld tk R x.1) (fun x => R.length - x.1)
   (fun _ => .leaf (.exit 0) (resC er rv cm ha ap te ld tk R R.length)) (fun _ => noLpW) (fun _ => noLp) (fun _ => noLp_ad) (fun _ => noLp_ok _) ?_ ⟨0, Nat.zero_le _⟩)
 rintro ⟨i, hi2⟩
 dsimp only
 have hzi := hz i hi2
 rcases Nat.lt_or_ge i R.length with hlt | hge
 ·have ei : Int.toNat (i : Int) = i := Int.toNat_natCast i
  obtain ⟨w1, w2⟩ : kvW (Sym.rowAt reT R (Int.toNat (i : Int))).1 = true ∧ kvW (Sym.rowAt reT R (Int.toNat (i : Int))).2.2.2.2 = true := by rw [ei]; exact hi.2 i hlt
  have es : catA reY R (i + 1) = catA reY R i ++ reY (Sym.rowAt reT R (Int.toNat (i : Int))) := catA_succ reY R i
  have ey : reY (Sym.rowAt reT R (Int.toNat (i : Int))) = catZ kvY (Sym.rowAt reT R (Int.toNat (i : Int))).1 ++ (numT (tI (Sym.rowAt reT R (Int.toNat (i : Int))).2.1) ++ (numT (@HMod.hMod Int Int Int _ (Sym.rowAt reT R (Int.toNat (i : Int))).2.2.1 18446744073709551616) ++ (numT (@HMod.hMod Int Int Int _ (Sym.rowAt reT R (Int.toNat (i : Int))).2.2.2.1 18446744073709551616) ++ catZ kvY (Sym.rowAt reT R (Int.toNat (i : Int))).2.2.2.2))) := reY_eq _
  have yK := kvZ_le _ w1 _ (Nat.le_refl _)
  rw [← catZ_eq] at yK
  have yP := kvZ_le _ w2 _ (Nat.le_refl _)
  rw [← catZ_eq] at yP
  have z1 := numT_le (tI (Sym.rowAt reT R (Int.toNat (i : Int))).2.1)
  have z2 := numT_le (@HMod.hMod Int Int Int _ (Sym.rowAt reT R (Int.toNat (i : Int))).2.2.1 18446744073709551616)
  have z3 := numT_le (@HMod.hMod Int Int Int _ (Sym.rowAt reT R (Int.toNat (i : Int))).2.2.2.1 18446744073709551616)
  have t1 := tI_in (Sym.rowAt reT R (Int.toNat (i : Int))).2.1
  repeat' ((conv => whnf); first | (with_reducible first | (refine W1.o ?_; constructor) | rfl | exact castL_self _ _) | ((with_reducible refine V.same_t ?_); exact rfl) | ((with_reducible refine andB_room ?_ ?_ ?_); (· kernel_rfl); (· (first | omega | (simp only [lens] <;> omega)))) | ((with_reducible refine W2.o ?_; constructor); · (first | (with_reducible assumption) | (first | omega | (simp only [lens] <;> omega)))) | ((with_reducible refine W3.o ?_; constructor); · (first | (with_reducible assumption) | (first | omega | (simp only [lens] <;> omega)))) | ((with_reducible refine W4.o ?_; constructor); · (first | (with_reducible first | assumption | exact decide_eq_true rfl | exact sEq_self _) | ((with_reducible refine eqOK_i ?_); kernel_rfl) | (first | (first | exact w1 | exact w2)))) | ((with_reducible refine iteB_f ?_ ?_); · (first | (with_reducible first | assumption | exact decide_eq_true rfl | exact sEq_self _) | ((with_reducible refine eqOK_i ?_); kernel_rfl) | (first | (first | exact w1 | exact w2)))) | (refine ⟨⟨i + 1, hlt⟩, ?_, rfl, ?_⟩) | (with_reducible refine CD.wk_au ?_) | (with_reducible refine W5.o ?_; constructor) | ((with_reducible refine W6.o ?_; constructor) <;> intro hB))
  all_goals ((conv => whnf); (try dsimp only); (try simp only [Nat.succ_eq_add_one, Nat.le_eq, castL_self]); (try omega))
  all_goals (try (first | omega | (simp only [lens] <;> omega)))
  all_goals first
   | exact rfl
   | omega
   | (simp only [lens] <;> omega)
   | (rw [es, ey]; simp only [ByteArray.append_assoc]; done)
   | (rw [es, ey]; simp only [ByteArray.append_assoc]; exact rfl)
   | trace_state
 ·have he : i = R.length := Nat.le_antisymm hi2 hge
  subst he
  repeat' ((conv => whnf); first | (with_reducible first | (refine W1.o ?_; constructor) | rfl | exact castL_self _ _) | ((with_reducible refine V.same_t ?_); exact rfl) | ((with_reducible refine andB_room ?_ ?_ ?_); (· kernel_rfl); (· (first | omega | (simp only [lens] <;> omega)))) | ((with_reducible refine W2.o ?_; constructor); · (first | (with_reducible assumption) | (first | omega | (simp only [lens] <;> omega)))) | ((with_reducible refine W3.o ?_; constructor); · (first | (with_reducible assumption) | (first | omega | (simp only [lens] <;> omega)))) | ((with_reducible refine W4.o ?_; constructor); · (first | (with_reducible first | assumption | exact decide_eq_true rfl | exact sEq_self _) | ((with_reducible refine eqOK_i ?_); kernel_rfl))) | ((with_reducible refine iteB_f ?_ ?_); · (first | (with_reducible first | assumption | exact decide_eq_true rfl | exact sEq_self _) | ((with_reducible refine eqOK_i ?_); kernel_rfl))) | (with_reducible refine CD.wk_au ?_) | (with_reducible refine W5.o ?_; constructor) | ((with_reducible refine W6.o ?_; constructor) <;> intro hB))
  all_goals ((conv => whnf); (try dsimp only); (try simp only [Nat.succ_eq_add_one, Nat.le_eq, castL_self]); (try omega))
  all_goals (try (first | omega | (simp only [lens] <;> omega)))
  all_goals first
   | exact rfl
   | trace_state
theorem rencResp_at (wR : reW R = true) (h1 : 0 ≤ rv ∧ rv < 18446744073709551616) (h2 : 0 ≤ cm ∧ cm < 18446744073709551616) (h3 : 0 ≤ ha ∧ ha < 4294967296) (h4 : 0 ≤ ap ∧ ap < 18446744073709551616) (h5 : 0 ≤ te ∧ te < 18446744073709551616) : PureAt Try.prog 18 [(.agg [.int .i64 er, .int .u64 rv, .int .u64 cm, .bool tk, .lst reT R false, .int .u32 ha, .int .u64 ap, .int .u64 te, .int .i64 ld])] (.tup [.str (rpE er rv cm tk R ha ap te ld), .int .i64 (maE er ld R)]) := by
 have zz : ByteArray.size ⟨#[]⟩ = 0 := rfl
 have z1 := numT_le (er % 18446744073709551616)
 have z2 := numT_le rv
 have z3 := numT_le cm
 have z4 := numT_le (tI tk)
 have z5 := numT_le (ha % 18446744073709551616)
 have z6 := numT_le ap
 have z7 := numT_le te
 have z8 := numT_le ((ld + 1) % 18446744073709551616)
 have t4 := tI_in tk
 have e1 := maE_eq er ld R
 have e2 := rpE_eq er rv cm ha ap te ld tk R
 have e4 := rph_eq er rv cm ha ap te ld tk
 have hq : (rph er rv cm tk ha ap te ld).size ≤ 100 := by rw [e4]; simp only [ByteArray.size_append]; omega
 have c0 := catA_0 reY R
 have cZ := catZ_eq reY R
 have y0 := numT_le (R.length : Int)
 cases hb : maB er ld R with
 | true =>
  rw [hb, cond_true] at e1 e2
  rw [maB_eq] at hb
  obtain ⟨b1, b2, b3, b4, b5, b6⟩ := of_decide_eq_true hb
  rw [← maB_eq] at hb
  have en : (R.length : Int) % 18446744073709551616 = (R.length : Int) := by omega
  refine pure_of_loops tabW_ok (fuel := 6) (d := 5) [⟨7, [(0, 0)], resC er rv cm ha ap te ld tk R 0, .leaf (.exit 0) (resC er rv cm ha ap te ld tk R R.length)⟩] (fun N y hy => by rw [List.mem_singleton.1 hy]; exact res_lp er rv cm ha ap te ld tk R hq N wR (by omega)) ?_
  repeat' ((conv => whnf); first | (with_reducible first | (refine W1.o ?_; constructor) | rfl | exact castL_self _ _) | ((with_reducible refine V.same_t ?_); exact rfl) | ((with_reducible refine andB_room ?_ ?_ ?_); (· kernel_rfl); (· (first | omega | (simp only [lens] <;> omega)))) | ((with_reducible refine W2.o ?_; constructor); · (first | (with_reducible assumption) | (first | omega | (simp only [lens] <;> omega)))) | ((with_reducible refine W3.o ?_; constructor); · (first | (with_reducible assumption) | (first | omega | (simp only [lens] <;> omega)))) | ((with_reducible refine W4.o ?_; constructor); · (first | (with_reducible first | assumption | exact decide_eq_true rfl | exact sEq_self _) | ((with_reducible refine eqOK_i ?_); kernel_rfl) | (first | exact wR | exact hb))) | ((with_reducible refine iteB_f ?_ ?_); · (first | (with_reducible first | assumption | exact decide_eq_true rfl | exact sEq_self _) | ((with_reducible refine eqOK_i ?_); kernel_rfl) | (first | exact wR | exact hb))) | ((with_reducible refine W2.o ?_; constructor); · (simp only [Sym.rowAt, List.getD_cons_zero, List.getD_cons_succ, Int.zero_add, Nat.zero_add, Int.reduceToNat, Int.reduceAdd, lens] <;> omega)) | ((with_reducible refine W3.o ?_; constructor); · (simp only [Sym.rowAt, List.getD_cons_zero, List.getD_cons_succ, Int.zero_add, Nat.zero_add, Int.reduceToNat, Int.reduceAdd, lens] <;> omega)) | (with_reducible refine CD.wk_au ?_) | (with_reducible refine W5.o ?_; constructor) | ((with_reducible refine W6.o ?_; constructor) <;> intro hB))
  all_goals ((conv => whnf); (try dsimp only); (try simp only [Nat.succ_eq_add_one, Nat.le_eq, castL_self]); (try omega))
  all_goals (try (first | omega | (simp only [lens] <;> omega)))
  all_goals first
   | exact rfl
   | (rw [e1]; done)
   | (rw [e1, e2, cZ]; done)
   | (rw [e2, cZ]; done)
   | (simp only [en]; rw [c0, e4]; simp only [ByteArray.append_assoc, nil_cat]; done)
   | (simp only [Sym.rowAt, List.getD_cons_zero, List.getD_cons_succ, Int.zero_add, Nat.zero_add, Int.reduceToNat, Int.reduceAdd, lens] <;> omega)
   | omega
   | trace_state
 | false =>
  rw [hb, cond_false] at e1 e2
  refine pure_of_W0 (tab := tabW) (fuel := 6) (d := 5) tabW_ok ?_
  repeat' ((conv => whnf); first | (with_reducible first | (refine W1.o ?_; constructor) | rfl | exact castL_self _ _) | ((with_reducible refine V.same_t ?_); exact rfl) | ((with_reducible refine andB_room ?_ ?_ ?_); (· kernel_rfl); (· (first | omega | (simp only [lens] <;> omega)))) | ((with_reducible refine W2.o ?_; constructor); · (first | (with_reducible assumption) | (first | omega | (simp only [lens] <;> omega)))) | ((with_reducible refine W3.o ?_; constructor); · (first | (with_reducible assumption) | (first | omega | (simp only [lens] <;> omega)))) | ((with_reducible refine W4.o ?_; constructor); · (first | (with_reducible first | assumption | exact decide_eq_true rfl | exact sEq_self _) | ((with_reducible refine eqOK_i ?_); kernel_rfl) | (first | exact wR | exact hb))) | ((with_reducible refine iteB_f ?_ ?_); · (first | (with_reducible first | assumption | exact decide_eq_true rfl | exact sEq_self _) | ((with_reducible refine eqOK_i ?_); kernel_rfl) | (first | exact wR | exact hb))) | ((with_reducible refine W2.o ?_; constructor); · (simp only [Sym.rowAt, List.getD_cons_zero, List.getD_cons_succ, Int.zero_add, Nat.zero_add, Int.reduceToNat, Int.reduceAdd, lens] <;> omega)) | ((with_reducible refine W3.o ?_; constructor); · (simp only [Sym.rowAt, List.getD_cons_zero, List.getD_cons_succ, Int.zero_add, Nat.zero_add, Int.reduceToNat, Int.reduceAdd, lens] <;> omega)) | (with_reducible refine CD.wk_au ?_) | (with_reducible refine W5.o ?_; constructor) | ((with_reducible refine W6.o ?_; constructor) <;> intro hB))
  all_goals ((conv => whnf); (try dsimp only); (try simp only [Nat.succ_eq_add_one, Nat.le_eq, castL_self]); (try omega))
  all_goals (try (first | omega | (simp only [lens] <;> omega)))
  all_goals first
   | exact rfl
   | (rw [e1, e2]; done)
   | (rw [e1, e2]; exact rfl)
   | (rw [e1, e2, e4]; simp only [Sym.rowAt, List.getD_cons_zero, List.getD_cons_succ, Int.zero_add, Nat.zero_add, Int.reduceToNat, Int.reduceAdd, ByteArray.append_assoc, nil_cat]; done)
   | (simp only [Sym.rowAt, List.getD_cons_zero, List.getD_cons_succ, Int.zero_add, Nat.zero_add, Int.reduceToNat, Int.reduceAdd, lens] <;> omega)
   | omega
   | trace_state
end
end Go.Proofs.Ytaloolcabmfjbaa
end

section
namespace Go.Proofs.Ytaloolcabmfjbaa
open Go.Sym
set_option linter.unusedVariables false
set_option linter.unusedSimpArgs false
set_option maxRecDepth 100000
set_option maxHeartbeats 4000000
noncomputable def cutN : Nat → ByteArray → ByteArray := hide fun n s => cutS s 0 (Int.toNat (min (s.size : Int) (n : Int)))
theorem cutN_eq (n : Nat) (s : ByteArray) : cutN n s = cutS s 0 (Int.toNat (min (s.size : Int) (n : Int))) := by unfold cutN; rw [hide_eq]
theorem cutN_size (n : Nat) (s : ByteArray) : (cutN n s).size ≤ n := by rw [cutN_eq, cutS_size]; omega
section
variable {e : List Ty} (f : rowDen e → rowDen e) (m : Nat)
noncomputable def cuA : List (rowDen e) → Nat → List (rowDen e) := hide fun L i => (List.range i).map fun j => f (Sym.rowAt e L j)
theorem cuA_eq (L : List (rowDen e)) (i : Nat) : cuA f L i = (List.range i).map fun j => f (Sym.rowAt e L j) := by unfold cuA; rw [hide_eq]
theorem cuA_0 (L : List (rowDen e)) : cuA f L 0 = [] := by rw [cuA_eq]; rfl
theorem cuA_succ (L : List (rowDen e)) (i : Nat) : cuA f L (i + 1) = cuA f L i ++ [f (Sym.rowAt e L i)] := by rw [cuA_eq, cuA_eq, List.range_succ, List.map_append]; rfl
theorem cuA_len (L : List (rowDen e)) (i : Nat) : (cuA f L i).length = i := by rw [cuA_eq, List.length_map, List.length_range]
noncomputable def cuZ : List (rowDen e) → List (rowDen e) := hide fun L => cuA f L (min L.length m)
theorem cuZ_eq (L : List (rowDen e)) : cuZ f m L = cuA f L (min L.length m) := by unfold cuZ; rw [hide_eq]
theorem cuZ_len (L : List (rowDen e)) : (cuZ f m L).length = min L.length m := by rw [cuZ_eq, cuA_len]
theorem cuZ_row (L : List (rowDen e)) (i : Nat) (h : i < (cuZ f m L).length) : Sym.rowAt e (cuZ f m L) i = f (Sym.rowAt e L i) := by
 rw [rowAt_lt h]
 have h2 : i < min L.length m := by rw [cuZ_len] at h; exact h
 simp only [cuZ_eq, cuA_eq, List.getElem_map, List.getElem_range]
end
noncomputable def kvU : KvQ → KvQ := hide fun r => match r with
 | (key, val, cr, md, ver) => (cutN 60 key, cutN 60 val, cr, md, ver)
theorem kvU_eq (key : ByteArray) (val : ByteArray) (cr : Int) (md : Int) (ver : Int) : kvU (key, val, cr, md, ver) = (cutN 60 key, cutN 60 val, cr, md, ver) := by unfold kvU; rw [hide_eq]
def u6K (r : KvQ) : Prop := u6P r.2.2.1 ∧ u6P r.2.2.2.1 ∧ u6P r.2.2.2.2
theorem kvU_wf (r : KvQ) (h : u6K r) : wfK (kvU r) := by
 obtain ⟨key, val, cr, md, ver⟩ := r
 obtain ⟨n2, n3, n4⟩ := h
 rw [kvU_eq]
 exact ⟨Nat.le_trans (cutN_size 60 key) (by decide), Nat.le_trans (cutN_size 60 val) (by decide), n2, n3, n4⟩
theorem kvU_W (L : List KvQ) (h : ∀ i, i < L.length → u6K (Sym.rowAt kvT L i)) : kvW (cuZ kvU 10 L) = true := by
 rw [kvW_iff]
 have hl := cuZ_len kvU 10 L
 refine ⟨by omega, fun i hi => ?_⟩
 rw [cuZ_row kvU 10 L i hi]
 exact kvU_wf _ (h i (by omega))
end Go.Proofs.Ytaloolcabmfjbaa
end

section
namespace Go.Proofs.Ytaloolcabmfjbaa
open Go.Sym
set_option linter.unusedVariables false
set_option linter.unusedSimpArgs false
set_option maxRecDepth 100000
set_option maxHeartbeats 4000000
noncomputable def kvxC (L : List KvQ) (i : Nat) : CD := ⟨41, [(0, .lst kvT L false), (3, .rs 0 0 (cuA kvU L i).length (cuA kvU L i).length false 5), (4, .int .i64 (i : Int))], [], [(0, .rows kvT (cuA kvU L i) 0 false)], 1⟩
theorem kvx_lp (L : List KvQ) (N : Nat) (hl : L.length ≤ 9223372036854775807) : LpD.ok Try.prog N 0 (bodyOf Try.prog 46) ⟨3, [], kvxC L 0, .leaf (.exit 0) (kvxC L (min L.length 10))⟩ := by
 refine LpD.ok_one (b := bodyAt Try.prog 46 3) rfl (loop_W noTab_ok (fuel := 4) (d := 5) (X := { i : Nat // i ≤ min L.length 10 }) (fun x => kvxC L x.1) (fun x => min L.length 10 - x.1)
   (fun _ => .leaf (.exit 0) (kvxC L (min L.length 10))) (fun _ => noLpW) (fun _ => noLp) (fun _ => noLp_ad) (fun _ => noLp_ok _) ?_ ⟨0, Nat.zero_le _⟩)
 rintro ⟨i, hi⟩
 dsimp only
 have ha := cuA_len kvU L i
 rcases Nat.lt_or_ge i (min L.length 10) with hlt | hge
 ·have es : cuA kvU L (i + 1) = cuA kvU L i ++ [kvU (Sym.rowAt kvT L (Int.toNat (i : Int)))] := cuA_succ kvU L i
  have eu : kvU (Sym.rowAt kvT L (Int.toNat (i : Int))) = (cutN 60 (Sym.rowAt kvT L (Int.toNat (i : Int))).1, cutN 60 (Sym.rowAt kvT L (Int.toNat (i : Int))).2.1, (Sym.rowAt kvT L (Int.toNat (i : Int))).2.2.1, (Sym.rowAt kvT L (Int.toNat (i : Int))).2.2.2.1, (Sym.rowAt kvT L (Int.toNat (i : Int))).2.2.2.2) := kvU_eq _ _ _ _ _
  rw [eu] at es
  have k0 : cutN 60 (Sym.rowAt kvT L (Int.toNat (i : Int))).1 = cutS (Sym.rowAt kvT L (Int.toNat (i : Int))).1 0 (Int.toNat (min (((Sym.rowAt kvT L (Int.toNat (i : Int))).1).size : Int) 60)) := cutN_eq _ _
  have k1 : cutN 60 (Sym.rowAt kvT L (Int.toNat (i : Int))).2.1 = cutS (Sym.rowAt kvT L (Int.toNat (i : Int))).2.1 0 (Int.toNat (min (((Sym.rowAt kvT L (Int.toNat (i : Int))).2.1).size : Int) 60)) := cutN_eq _ _
  repeat' ((conv => whnf); first | (with_reducible first | (refine W1.o ?_; constructor) | rfl | exact castL_self _ _) | ((with_reducible refine V.same_t ?_); exact rfl) | ((with_reducible refine andB_room ?_ ?_ ?_); (· kernel_rfl); (· (first | omega | (simp only [lens] <;> omega)))) | ((with_reducible refine W2.o ?_; constructor); · (first | (with_reducible assumption) | (first | omega | (simp only [lens] <;> omega)))) | ((with_reducible refine W3.o ?_; constructor); · (first | (with_reducible assumption) | (first | omega | (simp only [lens] <;> omega)))) | ((with_reducible refine W4.o ?_; constructor); · (first | (with_reducible first | assumption | exact decide_eq_true rfl | exact sEq_self _) | ((with_reducible refine eqOK_i ?_); kernel_rfl))) | ((with_reducible refine iteB_f ?_ ?_); · (first | (with_reducible first | assumption | exact decide_eq_true rfl | exact sEq_self _) | ((with_reducible refine eqOK_i ?_); kernel_rfl))) | (refine ⟨⟨i + 1, hlt⟩, ?_, rfl, ?_⟩) | (with_reducible refine CD.wk_au ?_) | (with_reducible refine W5.o ?_; constructor) | ((with_reducible refine W6.o ?_; constructor) <;> intro hB))
  all_goals ((conv => whnf); (try dsimp only); (try simp only [Nat.succ_eq_add_one, Nat.le_eq, castL_self]); (try omega))
  all_goals (try (first | omega | (simp only [lens] <;> omega)))
  all_goals first
   | exact rfl
   | omega
   | (rw [es]; simp only [k0, k1]; done)
   | (simp only [es, ha, lens] <;> omega)
   | (simp (disch := (simp only [ha, lens] <;> omega)) only [seg_all, castL_self]; rw [es]; simp only [k0, k1]; done)
   | (simp (disch := (simp only [ha, lens] <;> omega)) only [seg_all, castL_self]; rw [es]; simp only [k0, k1]; exact rfl)
   | trace_state
 ·have he : i = min L.length 10 := Nat.le_antisymm hi hge
  subst he
  repeat' ((conv => whnf); first | (with_reducible first | (refine W1.o ?_; constructor) | rfl | exact castL_self _ _) | ((with_reducible refine V.same_t ?_); exact rfl) | ((with_reducible refine andB_room ?_ ?_ ?_); (· kernel_rfl); (· (first | omega | (simp only [lens] <;> omega)))) | ((with_reducible refine W2.o ?_; constructor); · (first | (with_reducible assumption) | (first | omega | (simp only [lens] <;> omega)))) | ((with_reducible refine W3.o ?_; constructor); · (first | (with_reducible assumption) | (first | omega | (simp only [lens] <;> omega)))) | ((with_reducible refine W4.o ?_; constructor); · (first | (with_reducible first | assumption | exact decide_eq_true rfl | exact sEq_self _) | ((with_reducible refine eqOK_i ?_); kernel_rfl))) | ((with_reducible refine iteB_f ?_ ?_); · (first | (with_reducible first | assumption | exact decide_eq_true rfl | exact sEq_self _) | ((with_reducible refine eqOK_i ?_); kernel_rfl))) | (with_reducible refine CD.wk_au ?_) | (with_reducible refine W5.o ?_; constructor) | ((with_reducible refine W6.o ?_; constructor) <;> intro hB))
  all_goals ((conv => whnf); (try dsimp only); (try simp only [Nat.succ_eq_add_one, Nat.le_eq, castL_self]); (try omega))
  all_goals (try (first | omega | (simp only [lens] <;> omega)))
  all_goals first
   | exact rfl
   | trace_state
theorem kvx_at (L : List KvQ) (hl : L.length ≤ 9223372036854775807) : PureAt Try.prog 46 [.lst kvT L false] (.lst kvT (cuZ kvU 10 L) false) := by
 have q0 := cuA_0 kvU L
 have eZ := cuZ_eq kvU 10 L
 refine pure_of_loops noTab_ok (fuel := 4) (d := 5) [⟨3, [], kvxC L 0, .leaf (.exit 0) (kvxC L (min L.length 10))⟩] (fun N y hy => by rw [List.mem_singleton.1 hy]; exact kvx_lp L N hl) ?_
 repeat' ((conv => whnf); first | (with_reducible first | (refine W1.o ?_; constructor) | rfl | exact castL_self _ _) | ((with_reducible refine V.same_t ?_); exact rfl) | ((with_reducible refine andB_room ?_ ?_ ?_); (· kernel_rfl); (· (first | omega | (simp only [lens] <;> omega)))) | ((with_reducible refine W2.o ?_; constructor); · (first | (with_reducible assumption) | (first | omega | (simp only [lens] <;> omega)))) | ((with_reducible refine W3.o ?_; constructor); · (first | (with_reducible assumption) | (first | omega | (simp only [lens] <;> omega)))) | ((with_reducible refine W4.o ?_; constructor); · (first | (with_reducible first | assumption | exact decide_eq_true rfl | exact sEq_self _) | ((with_reducible refine eqOK_i ?_); kernel_rfl))) | ((with_reducible refine iteB_f ?_ ?_); · (first | (with_reducible first | assumption | exact decide_eq_true rfl | exact sEq_self _) | ((with_reducible refine eqOK_i ?_); kernel_rfl))) | (with_reducible refine CD.wk_au ?_) | (with_reducible refine W5.o ?_; constructor) | ((with_reducible refine W6.o ?_; constructor) <;> intro hB))
 all_goals ((conv => whnf); (try dsimp only); (try simp only [Nat.succ_eq_add_one, Nat.le_eq, castL_self]); (try omega))
 all_goals (try (first | omega | (simp only [lens] <;> omega)))
 all_goals first
  | exact rfl
  | exact q0.symm
  | (rw [q0]; exact rfl)
  | (rw [seg_all _ rfl]; exact eZ.symm)
  | (rw [seg_all _ rfl, ← eZ]; done)
  | exact congrArg (fun l => V.lst kvT l false) ((seg_all _ rfl).trans eZ.symm)
  | trace_state
section
variable (k cl nm rv : Int) (sr : Bool) (C : List CmQ) (A B : List OpQ)
end
end Go.Proofs.Ytaloolcabmfjbaa
end
