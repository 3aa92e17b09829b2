/-
  HoldsIs returns true at every list of comparisons and value. Conditions: lists and texts that fit a machine.
-/
import Derived.Test.YtjjebdfjmbnhpaaHoldsE
namespace Go.Proofs.Ytjjebdfjmbnhpaa
open Go.Sym
set_option maxRecDepth 100000
set_option maxHeartbeats 2000000

noncomputable def cutC : CmpR → CmpR := hide fun c => (c.1.extract 0 (min (Int.ofNat c.1.size) 20).toNat, c.2.1, c.2.2.1, c.2.2.2.1, c.2.2.2.2.extract 0 (min (Int.ofNat c.2.2.2.2.size) 40).toNat)
theorem cutC_eq (c : CmpR) : cutC c = (c.1.extract 0 (min (Int.ofNat c.1.size) 20).toNat, c.2.1, c.2.2.1, c.2.2.2.1, c.2.2.2.2.extract 0 (min (Int.ofNat c.2.2.2.2.size) 40).toNat) := by rw [cutC, hide_eq]
noncomputable def cutN (L : List CmpR) (k : Nat) : List CmpR := (L.take k).map cutC
noncomputable def cutL (L : List CmpR) : List CmpR := cutN L 6
theorem cutN_len (L : List CmpR) (k : Nat) (h : k ≤ L.length) : (cutN L k).length = k := by
  unfold cutN
  rw [List.length_map, List.length_take]
  omega
theorem cutN_succ (L : List CmpR) (k : Nat) (h : k < L.length) : cutN L (k + 1) = cutN L k ++ [cutC (L[k])] := by
  unfold cutN
  rw [List.take_succ_eq_append_getElem h, List.map_append]
  rfl
theorem cutN_end (L : List CmpR) (k : Nat) (h : k ≤ L.length) (h6 : k = 6 ∨ k = L.length ∧ k ≤ 6) : cutN L k = cutL L := by
  unfold cutL cutN
  rcases h6 with rfl | ⟨rfl, h6⟩
  · rfl
  · rw [List.take_of_length_le (Nat.le_refl _), List.take_of_length_le h6]
theorem cut_step (L : List CmpR) (k : Nat) (h : k < L.length) : seg (cutN L k) 0 k ++ ([((Sym.rowAt cmpE L k : CmpR).1.extract 0 (min (Int.ofNat (Sym.rowAt cmpE L k : CmpR).1.size) 20).toNat, (Sym.rowAt cmpE L k : CmpR).2.1, (Sym.rowAt cmpE L k : CmpR).2.2.1, (Sym.rowAt cmpE L k : CmpR).2.2.2.1, (Sym.rowAt cmpE L k : CmpR).2.2.2.2.extract 0 (min (Int.ofNat (Sym.rowAt cmpE L k : CmpR).2.2.2.2.size) 40).toNat)] : List CmpR) = cutN L (k + 1) := by
  rw [cutN_succ L k h, seg_all _ (cutN_len L k (by omega)), cutC_eq]
  rw [show (Sym.rowAt cmpE L k : CmpR) = L[k] from rowAt_lt (e := cmpE) h]
theorem cut_at (L : List (rowDen cmpE)) : PureAt Try.prog 14 [.lst cmpE L false] (.lst cmpE (cutL L) false) := by
  refine pure_of_loop noTab_ok (fuel := 3) (d := 3) 3 (X := { k : Nat // k ≤ L.length ∧ k ≤ 6 })
    (fun x => ⟨41, [(0, .lst cmpE L false), (3, .rs 0 0 x.1 x.1 false 5), (4, .int .i64 x.1)], [], [(0, .rows cmpE (cutN L x.1) 29 false)], 1⟩) (fun x => 6 - x.1)
    (fun _ => .leaf (.exit 0) ⟨41, [(3, .rs 0 0 (cutL L).length (cutL L).length false 5)], [], [(0, .rows cmpE (cutL L) 29 false)], 1⟩) ⟨0, Nat.zero_le _, by omega⟩ [] rfl ?_ ?_
  · intro x
    cases x with | mk k hk =>
    have hlen := cutN_len L k hk.1
    have ee : List.length (α := CmpR) L = List.length (α := rowDen cmpE) L := rfl
    repeat' (conv => whnf
             first
              | (with_reducible exact True.intro)
              | (with_reducible rfl)
              | (with_reducible exact castL_self _ _)
              | ((with_reducible refine V.same_t ?_); exact rfl)
              | (with_reducible refine iteB_n ?_)
              | ((with_reducible refine andB_i ?_ ?_); · (first | (with_reducible assumption) | (with_reducible exact decide_eq_true rfl) | (with_reducible exact sEq_self _)))
              | ((with_reducible refine iteB_t ?_ ?_); · (first | (with_reducible assumption) | (with_reducible exact decide_eq_true rfl) | (with_reducible exact sEq_self _)))
              | ((with_reducible refine iteB_f ?_ ?_); · (first | (with_reducible assumption) | (with_reducible exact decide_eq_true rfl) | (with_reducible exact sEq_self _)))
              | (refine ⟨⟨k + 1, ?_⟩, ?_, rfl, ⟨[(0, 3)], ?_⟩⟩)
              | (with_reducible refine andB_i ?_ ?_)
              | (with_reducible refine iteB_s (fun hB => ?_) (fun hB => ?_))
              | (with_reducible refine CD.wk_as ?_)
              | (with_reducible refine And.intro ?_ ?_))
    all_goals (conv => whnf)
    all_goals (try dsimp only at *)
    all_goals (try simp only [Bool.not_eq_true', decide_eq_true_eq, decide_eq_false_iff_not, Bool.not_eq_false', Int.ofNat_eq_natCast, Int.toNat_natCast, Nat.le_eq, Bool.and_eq_true, Bool.or_eq_true, Nat.succ_eq_add_one, castL_self, cond_true, cond_false] at *)
    all_goals (try simp (disch := omega) only [wrap_i64, wrap_i32, wrap_u64, wrap_u32, wrap_u16, wrap_u8] at *)
    all_goals (try omega)
    · exact (show 0 + k ≤ (cutN L k).length by omega)
    · have h1 : (2 * (k + 1) + 768) * 56 ≤ 281474976710656 := by omega
      exact decide_eq_true h1
    · have h1 : k + 1 ≤ 1099511627776 := by omega
      exact decide_eq_true h1
    · rfl
    · rfl
    · exact cut_step L k (by omega)
    all_goals first
      | exact cutN_end L k hk.1 (by omega)
      | exact hlen.symm.trans (congrArg List.length (cutN_end L k hk.1 (by omega)))
  · repeat' (conv => whnf
             first
              | (with_reducible exact True.intro)
              | (with_reducible rfl)
              | (with_reducible exact castL_self _ _)
              | ((with_reducible refine V.same_t ?_); exact rfl)
              | (with_reducible refine iteB_n ?_)
              | ((with_reducible refine andB_i ?_ ?_); · (first | (with_reducible assumption) | (with_reducible exact decide_eq_true rfl) | (with_reducible exact sEq_self _)))
              | ((with_reducible refine iteB_t ?_ ?_); · (first | (with_reducible assumption) | (with_reducible exact decide_eq_true rfl) | (with_reducible exact sEq_self _)))
              | ((with_reducible refine iteB_f ?_ ?_); · (first | (with_reducible assumption) | (with_reducible exact decide_eq_true rfl) | (with_reducible exact sEq_self _)))
              | (with_reducible refine andB_i ?_ ?_)
              | (with_reducible refine iteB_s (fun hB => ?_) (fun hB => ?_))
              | (with_reducible refine CD.wk_as ?_)
              | (with_reducible refine And.intro ?_ ?_))
    all_goals (conv => whnf)
    · rfl
    · exact decide_eq_true (show 0 + (cutL L).length ≤ (cutL L).length by omega)
    all_goals exact congrArg (fun l => V.lst cmpE l false) (seg_all (cutL L) rfl)
theorem cutL_len (L : List CmpR) : (cutL L).length ≤ 6 := by
  unfold cutL cutN
  rw [List.length_map, List.length_take]
  omega
noncomputable def cutLF (args : List V) : Option (List Bool × V) := match args with
  | [a] => (match ofLst cmpE a with
    | some L => some ([], .lst cmpE (cutL L) false)
    | none => none)
  | _ => none
theorem cutLF_ok (args : List V) (c : List Bool) (v : V) (h : cutLF args = some (c, v)) (hc : allB c) : PureAt Try.prog 14 args v := by
  unfold cutLF at h
  split at h
  · rename_i a
    split at h
    · rename_i L hL
      cases h
      exact (cut_at L).lst0 hL
    · cases h
  · cases h
noncomputable def tabIs : Tab := oneTab 19 trueF (oneTab 14 cutLF tabHolds)
theorem tabIs_ok : TabOK Try.prog tabIs := oneTab_ok (trueF_ok works_at14) (oneTab_ok cutLF_ok tabHolds_ok)
def isC (L : List (rowDen cmpE)) (kk kv : ByteArray) (cr mo ve : Int) (k : Int) : CD := ⟨58, [(0, .lst cmpE L false), (3, .ptr 0 0), (5, .int .i64 k)], [], [(0, .cells [.str kk, .str kv, .int .u64 cr, .int .u64 mo, .int .u64 ve] 25 false)], 1⟩
def isC' (L : List (rowDen cmpE)) (kk kv : ByteArray) (cr mo ve : Int) : CD := ⟨58, [(0, .lst cmpE L false), (3, .ptr 0 0)], [], [(0, .cells [.str kk, .str kv, .int .u64 cr, .int .u64 mo, .int .u64 ve] 25 false)], 1⟩
theorem is_loop (L : List (rowDen cmpE)) (kk kv : ByteArray) (cr mo ve : Int) (hL : L.length ≤ 6) (N : Nat) : LpD.ok Try.prog N 0 (bodyOf Try.prog 3) ⟨4, [(0, 0)], isC L kk kv cr mo ve 0, .leaf (.exit 0) (isC' L kk kv cr mo ve)⟩ := by
  refine LpD.ok_one (b := bodyAt Try.prog 3 4) rfl (loop_W tabIs_ok (fuel := 3) (d := 5) (X := { k : Nat // k ≤ L.length }) (fun x => isC L kk kv cr mo ve (x.1 : Int)) (fun x => L.length - x.1)
    (fun _ => .leaf (.exit 0) (isC' L kk kv cr mo ve)) (fun _ => noLpW) (fun _ => noLp) (fun _ => noLp_ad) (fun _ => noLp_ok _) ?_ ⟨0, Nat.zero_le _⟩)
  intro x
  cases x with | mk k hk =>
  repeat' (conv => whnf
           first
            | (with_reducible exact True.intro)
            | (with_reducible rfl)
            | (with_reducible exact castL_self _ _)
            | ((with_reducible refine V.same_t ?_); exact rfl)
            | (with_reducible refine iteB_n ?_)
            | ((with_reducible refine andB_i ?_ ?_); · (first | (with_reducible assumption) | (with_reducible exact decide_eq_true rfl) | (with_reducible exact sEq_self _) | ((with_reducible exact beq_self_eq_true _))))
            | ((with_reducible refine iteB_t ?_ ?_); · (first | (with_reducible assumption) | (with_reducible exact decide_eq_true rfl) | (with_reducible exact sEq_self _) | ((with_reducible exact beq_self_eq_true _))))
            | ((with_reducible refine iteB_f ?_ ?_); · (first | (with_reducible assumption) | (with_reducible exact decide_eq_true rfl) | (with_reducible exact sEq_self _) | ((with_reducible exact beq_self_eq_true _))))
            | (refine ⟨⟨k + 1, ?_⟩, ?_, rfl, ?_⟩)
            | (with_reducible refine andB_i ?_ ?_)
            | (with_reducible refine iteB_s (fun hB => ?_) (fun hB => ?_))
            | (with_reducible refine CD.wk_as ?_)
            | (with_reducible refine And.intro ?_ ?_))
  all_goals (conv => whnf)
  all_goals (try dsimp only at *)
  all_goals (try simp only [Bool.not_eq_true', decide_eq_true_eq, decide_eq_false_iff_not, Bool.not_eq_false', Int.ofNat_eq_natCast, Int.toNat_natCast, Nat.le_eq, Bool.and_eq_true, Bool.or_eq_true, Nat.succ_eq_add_one, castL_self, cond_true, cond_false] at *)
  all_goals (try simp (disch := omega) only [wrap_i64, wrap_i32, wrap_u64, wrap_u32, wrap_u16, wrap_u8] at *)
  all_goals (try omega)
  all_goals (rw [beq_self_eq_true] at hB; cases hB)
theorem holdsIs_at (L : List (rowDen cmpE)) (kk kv : ByteArray) (cr mo ve : Int) : PureAt Try.prog 3 [.lst cmpE L false, .agg [.str kk, .str kv, .int .u64 cr, .int .u64 mo, .int .u64 ve]] (.bool true) := by
  have hc6 := cutL_len L
  refine pure_of_loops tabIs_ok (fuel := 3) (d := 6) [⟨4, [(0, 0)], isC (cutL L) kk (kv.extract 0 (min (Int.ofNat kv.size) 40).toNat) cr mo ve 0, .leaf (.exit 0) (isC' (cutL L) kk (kv.extract 0 (min (Int.ofNat kv.size) 40).toNat) cr mo ve)⟩] ?_ ?_
  · intro N l hl
    rw [List.mem_singleton.1 hl]
    exact is_loop _ _ _ _ _ _ hc6 N
  · repeat' (conv => whnf
             first
              | (with_reducible exact True.intro)
              | (with_reducible rfl)
              | (with_reducible exact castL_self _ _)
              | ((with_reducible refine V.same_t ?_); exact rfl)
              | (with_reducible refine iteB_n ?_)
              | ((with_reducible refine andB_i ?_ ?_); · (first | (with_reducible assumption) | (with_reducible exact decide_eq_true rfl) | (with_reducible exact sEq_self _)))
              | ((with_reducible refine iteB_t ?_ ?_); · (first | (with_reducible assumption) | (with_reducible exact decide_eq_true rfl) | (with_reducible exact sEq_self _)))
              | ((with_reducible refine iteB_f ?_ ?_); · (first | (with_reducible assumption) | (with_reducible exact decide_eq_true rfl) | (with_reducible exact sEq_self _)))
              | (with_reducible refine andB_i ?_ ?_)
              | (with_reducible refine iteB_s (fun hB => ?_) (fun hB => ?_))
              | (with_reducible refine CD.wk_as ?_)
              | (with_reducible refine And.intro ?_ ?_))
    all_goals (conv => whnf)
    · exact decide_eq_true (by dsimp only; simp only [Int.ofNat_eq_natCast]; omega)
    · exact decide_eq_true (by dsimp only; simp only [Int.ofNat_eq_natCast]; omega)
    · rfl
    · exact decide_eq_true (show (cutL L).length < 2 ^ 62 by omega)
    · exact decide_eq_true (show (cutL L).length < 2 ^ 62 by omega)
    · rfl
end Go.Proofs.Ytjjebdfjmbnhpaa
