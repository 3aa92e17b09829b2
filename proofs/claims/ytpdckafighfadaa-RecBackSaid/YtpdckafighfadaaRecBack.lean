/-
  RecBack returns true at every record and every bytes. Conditions: numbers that fit their kinds, texts of a machine's size.
-/
import Derived.Test.YtpdckafighfadaaRecReads
namespace Go.Proofs.Ytpdckafighfadaa
open Go.Sym
set_option linter.unusedVariables false
set_option maxRecDepth 100000
set_option maxHeartbeats 4000000

/-! ### what is put, read again; plain -/
theorem ba_list_app (a b : ByteArray) : (a ++ b).data.toList = a.data.toList ++ b.data.toList := by
  rw [ByteArray.data_append, Array.toList_append]
theorem ba_drop (a b : ByteArray) : (a ++ b).extract a.size (a ++ b).size = b := by
  refine ba_ext ?_
  rw [extract_drop, ba_list_app]
  exact List.drop_left' (by rw [Array.length_toList]; rfl)
theorem ba_take (a b : ByteArray) : (a ++ b).extract 0 a.size = a := by
  refine ba_ext ?_
  have hx : ∀ (x : ByteArray) (n : Nat), (x.extract 0 n).data.toList = x.data.toList.take n := fun x n => by simp
  rw [hx, ba_list_app]
  exact List.take_left' (by rw [Array.length_toList]; rfl)
theorem ba_split (a : ByteArray) (i : Nat) (h : i ≤ a.size) : a.extract 0 i ++ a.extract i a.size = a := by
  refine ba_ext ?_
  have hx : ∀ (x : ByteArray) (n : Nat), (x.extract 0 n).data.toList = x.data.toList.take n := fun x n => by simp
  rw [ba_list_app, hx, extract_drop, List.take_append_drop]
theorem num_of (c : Int) (h : 0 ≤ c ∧ c < 18446744073709551616) (r : ByteArray) : numV (numT c ++ r) = c ∧ numB (numT c ++ r) = false ∧ numR (numT c ++ r) = r := by
  have e : Wire.numP (numT c ++ r).data.toList = (c.toNat, false, r.data.toList) := by
    rw [ba_list_app, numT_eq]
    exact Wire.numP_of_enc c.toNat (by omega) _
  obtain ⟨h1, h2, h3⟩ := num_is e
  exact ⟨by rw [h1]; omega, h2, h3⟩
theorem txt_of (k : ByteArray) (h : k.size < 18446744073709551616) (r : ByteArray) : txV (txtT k ++ r) = k ∧ txB (txtT k ++ r) = false ∧ txR (txtT k ++ r) = r := by
  have e : txtT k ++ r = numT k.size ++ (k ++ r) := by rw [txtT_eq, numT_nat, ByteArray.append_assoc]
  obtain ⟨h1, h2, h3⟩ := num_of (k.size : Int) (by omega) (k ++ r)
  have hl : decide (((k ++ r).size : Int) < (k.size : Int)) = false := decide_eq_false (by rw [ByteArray.size_append]; omega)
  rw [e]
  refine ⟨?_, ?_, ?_⟩
  · rw [txV_eq, h1, h3, hl, cond_false, Int.toNat_natCast, ba_take]
  · rw [txB_eq, h1, h2, h3, hl]; rfl
  · rw [txR_eq, h1, h3, hl, cond_false, Int.toNat_natCast, ba_drop]
theorem first_app (b : UInt8) (r : ByteArray) : bAt (⟨#[b]⟩ ++ r) 0 = (b.toNat : Int) := by
  unfold bAt
  rw [ba_list_app]
  rfl
theorem rest_app (b : UInt8) (r : ByteArray) : ((⟨#[b]⟩ ++ r : ByteArray)).extract 1 (⟨#[b]⟩ ++ r : ByteArray).size = r := ba_drop ⟨#[b]⟩ r
theorem may_in {m n : Int} {k v : ByteArray} {c d w : Int} {t : Bool} (h : mayR m n k v c d w t = true) : k.size ≤ 16 ∧ v.size ≤ 32 ∧ (t = true → v = ⟨#[]⟩ ∧ c = 0 ∧ d = 0 ∧ w = 0) ∧ (t = false → d = m) := by
  simp only [mayR, Bool.and_eq_true, decide_eq_true_eq] at h
  obtain ⟨⟨⟨⟨⟨h1, h2⟩, h3⟩, h4⟩, h5⟩, h6⟩ := h
  cases t
  · rw [cond_false] at h6
    simp only [Bool.and_eq_true, decide_eq_true_eq] at h6
    obtain ⟨⟨⟨⟨⟨g1, g2⟩, g3⟩, g4⟩, g5⟩, g6⟩ := h6
    exact ⟨h5, g1, fun h => (by cases h), fun _ => g2⟩
  · rw [cond_true] at h6
    simp only [Bool.and_eq_true, decide_eq_true_eq] at h6
    obtain ⟨⟨⟨g1, g2⟩, g3⟩, g4⟩ := h6
    have hv : v = ⟨#[]⟩ := ba_ext (show v.data.toList = [] from List.length_eq_zero_iff.1 (by rw [Array.length_toList]; exact g1))
    exact ⟨h5, by omega, fun _ => ⟨hv, g2, g3, g4⟩, fun h => by cases h⟩
theorem sEq_nil_app (a : ByteArray) (h : sEq a ⟨#[]⟩ = false) : a ≠ ⟨#[]⟩ := of_decide_eq_false h
/-- a record's bytes, and more behind them -/
theorem dec_app (key : ByteArray) (k v : ByteArray) (c d w : Int) (t : Bool) (Z : ByteArray) (hk : key.size = 16) (hc : 0 ≤ c ∧ c < 18446744073709551616) (hw : 0 ≤ w ∧ w < 18446744073709551616)
    (hm : mayR (spV key 0) (spV key 8) k v c d w t = true) :
    decOK key (recT (spV key 0) (spV key 8) k v c d w t ++ Z) = (sEq (recT (spV key 0) (spV key 8) k v c d w t) (recT (spV key 0) (spV key 8) k v c d w t ++ Z) && sEq Z ⟨#[]⟩) ∧
      txV ((recT (spV key 0) (spV key 8) k v c d w t ++ Z).extract 1 (recT (spV key 0) (spV key 8) k v c d w t ++ Z).size) = k ∧
      decide (bAt (recT (spV key 0) (spV key 8) k v c d w t ++ Z) 0 = 0) = t ∧
      (t = false → txV (txR ((recT (spV key 0) (spV key 8) k v c d w t ++ Z).extract 1 (recT (spV key 0) (spV key 8) k v c d w t ++ Z).size)) = v ∧
        numV (txR (txR ((recT (spV key 0) (spV key 8) k v c d w t ++ Z).extract 1 (recT (spV key 0) (spV key 8) k v c d w t ++ Z).size))) = c ∧
        numV (numR (txR (txR ((recT (spV key 0) (spV key 8) k v c d w t ++ Z).extract 1 (recT (spV key 0) (spV key 8) k v c d w t ++ Z).size)))) = w) := by
  obtain ⟨b1, b2, b3, b4⟩ := may_in hm
  have h16 : decide (key.size = 16) = true := decide_eq_true hk
  generalize hT : recT (spV key 0) (spV key 8) k v c d w t = T
  cases t
  · have hd := b4 rfl
    subst hd
    have e : T ++ Z = ⟨#[1]⟩ ++ (txtT k ++ (txtT v ++ (numT c ++ (numT w ++ Z)))) := by
      rw [← hT, recT_eq, hm, cond_true, cond_false]
      simp only [ByteArray.append_assoc]
    have hn : sEq (T ++ Z) ⟨#[]⟩ = false := by
      refine decide_eq_false fun h => ?_
      have := congrArg ByteArray.size h
      rw [e, ByteArray.size_append] at this
      have h1 : ByteArray.size ⟨#[1]⟩ = 1 := rfl
      have h0 : ByteArray.size ⟨#[]⟩ = 0 := rfl
      omega
    have hE : decide (recE (spV key 0) (spV key 8) k v c (spV key 0) w false = 0) = true := by rw [recE_eq, hm]; rfl
    obtain ⟨k1, k2, k3⟩ := txt_of k (by omega) (txtT v ++ (numT c ++ (numT w ++ Z)))
    obtain ⟨v1, v2, v3⟩ := txt_of v (by omega) (numT c ++ (numT w ++ Z))
    obtain ⟨c1, c2, c3⟩ := num_of c hc (numT w ++ Z)
    obtain ⟨w1, w2, w3⟩ := num_of w hw Z
    have hb : decide (bAt (⟨#[1]⟩ ++ (txtT k ++ (txtT v ++ (numT c ++ (numT w ++ Z))))) 0 = 0) = false := by rw [first_app]; rfl
    refine ⟨?_, ?_, ?_, fun _ => ⟨?_, ?_, ?_⟩⟩
    · rw [decOK_eq, h16, hn, e, hb, cond_false, rest_app, k1, k2, k3, v1, v2, v3, c1, c2, c3, w1, w2, w3, hE, hT]
      simp only [Bool.true_and, Bool.and_true, Bool.not_false, Bool.or_false]
    · rw [e, rest_app, k1]
    · rw [e, hb]
    · rw [e, rest_app, k3, v1]
    · rw [e, rest_app, k3, v3, c1]
    · rw [e, rest_app, k3, v3, c3, w1]
  · obtain ⟨q1, q2, q3, q4⟩ := b3 rfl
    subst q1 q2 q3 q4
    have e : T ++ Z = ⟨#[0]⟩ ++ (txtT k ++ Z) := by
      rw [← hT, recT_eq, hm, cond_true, cond_true]
      simp only [ByteArray.append_assoc]
    have hn : sEq (T ++ Z) ⟨#[]⟩ = false := by
      refine decide_eq_false fun h => ?_
      have := congrArg ByteArray.size h
      rw [e, ByteArray.size_append] at this
      have h1 : ByteArray.size ⟨#[0]⟩ = 1 := rfl
      have h0 : ByteArray.size ⟨#[]⟩ = 0 := rfl
      omega
    have hE : decide (recE (spV key 0) (spV key 8) k ⟨#[]⟩ 0 0 0 true = 0) = true := by rw [recE_eq, hm]; rfl
    obtain ⟨k1, k2, k3⟩ := txt_of k (by omega) Z
    have hb : decide (bAt (⟨#[0]⟩ ++ (txtT k ++ Z)) 0 = 0) = true := by rw [first_app]; rfl
    refine ⟨?_, ?_, ?_, fun h => by cases h⟩
    · rw [decOK_eq, h16, hn, e, hb, cond_true, rest_app, k1, k2, k3, hE, hT]
      simp only [Bool.true_and, Bool.and_true, Bool.not_false]
    · rw [e, rest_app, k1]
    · rw [e, hb]
/-! ### and the functions -/
theorem decE_cases (key s : ByteArray) : decOK key s = true ∧ dcE key s = 0 ∨ decOK key s = false ∧ dcE key s = 4 := by
  cases h : decOK key s
  · exact .inr ⟨rfl, by simp only [dcE, hide_eq, h, cond_false]⟩
  · exact .inl ⟨rfl, by simp only [dcE, hide_eq, h, cond_true]⟩
theorem dec_not {key s : ByteArray} (h : decOK key s = false) : dcM key s = 0 ∧ dcN key s = 0 ∧ dcK key s = ⟨#[]⟩ ∧ dcV key s = ⟨#[]⟩ ∧ dcC key s = 0 ∧ dcD key s = 0 ∧ dcW key s = 0 ∧ dcT key s = false := by
  simp only [dcM, dcN, dcK, dcV, dcC, dcD, dcW, dcT, hide_eq, h, cond_false, Bool.false_and, and_self]
/-- what is taken, put again -/
theorem dec_again {key s : ByteArray} (h : decOK key s = true) : key.size = 16 ∧ dcM key s = spV key 0 ∧ dcN key s = spV key 8 ∧ recE (dcM key s) (dcN key s) (dcK key s) (dcV key s) (dcC key s) (dcD key s) (dcW key s) (dcT key s) = 0 ∧
    recT (dcM key s) (dcN key s) (dcK key s) (dcV key s) (dcC key s) (dcD key s) (dcW key s) (dcT key s) = s := by
  have h' := h
  rw [decOK_eq] at h'
  cases ht : decide (bAt s 0 = 0) with
  | true =>
    rw [ht, cond_true] at h'
    simp only [Bool.and_eq_true, decide_eq_true_eq] at h'
    obtain ⟨⟨h1, h2⟩, ⟨⟨h3, h4⟩, h5⟩, h6⟩ := h'
    have h4 := of_decide_eq_true h4
    simp only [dcM, dcN, dcK, dcV, dcC, dcD, dcW, dcT, hide_eq, h, ht, cond_true, cond_false, Bool.true_and, Bool.not_true]
    exact ⟨h1, trivial, trivial, h3, h4⟩
  | false =>
    rw [ht, cond_false] at h'
    simp only [Bool.and_eq_true, decide_eq_true_eq] at h'
    obtain ⟨⟨h1, h2⟩, ⟨⟨h3, h4⟩, h5⟩, h6⟩ := h'
    have h4 := of_decide_eq_true h4
    simp only [dcM, dcN, dcK, dcV, dcC, dcD, dcW, dcT, hide_eq, h, ht, cond_true, cond_false, Bool.true_and, Bool.and_true, Bool.not_false, Bool.and_false]
    exact ⟨h1, trivial, trivial, h3, h4⟩
theorem dec_in (key s : ByteArray) (hs : s.size ≤ 120) : (0 ≤ dcM key s ∧ dcM key s < 18446744073709551616) ∧ (0 ≤ dcN key s ∧ dcN key s < 18446744073709551616) ∧ (0 ≤ dcC key s ∧ dcC key s < 18446744073709551616) ∧ (0 ≤ dcD key s ∧ dcD key s < 18446744073709551616) ∧ (0 ≤ dcW key s ∧ dcW key s < 18446744073709551616) ∧ (dcK key s).size ≤ 1000 ∧ (dcV key s).size ≤ 1000 := by
  have z : (0 : Int) ≤ 0 ∧ (0 : Int) < 18446744073709551616 := by decide
  have hx : (s.extract 1 s.size).size ≤ 120 := by rw [ByteArray.size_extract]; omega
  have hy := txR_size (s.extract 1 s.size)
  have z2 : (⟨#[]⟩ : ByteArray).size ≤ 1000 := by decide
  simp only [dcM, dcN, dcK, dcV, dcC, dcD, dcW, hide_eq]
  refine ⟨?_, ?_, ?_, ?_, ?_, ?_, ?_⟩
  · cases decOK key s
    · exact z
    · exact spV_in _ _
  · cases decOK key s
    · exact z
    · exact spV_in _ _
  · cases decOK key s && !decide (bAt s 0 = 0)
    · exact z
    · exact numV_lt _
  · cases decOK key s && !decide (bAt s 0 = 0)
    · exact z
    · exact spV_in _ _
  · cases decOK key s && !decide (bAt s 0 = 0)
    · exact z
    · exact numV_lt _
  · cases decOK key s
    · exact z2
    · exact Nat.le_trans (txV_size _) (by omega)
  · cases decOK key s && !decide (bAt s 0 = 0)
    · exact z2
    · exact Nat.le_trans (txV_size _) (by omega)
/-- a record's own bytes -/
theorem dec_own (m n : Int) (k v : ByteArray) (c d w : Int) (t : Bool) (hm : 0 ≤ m ∧ m < 18446744073709551616) (hn : 0 ≤ n ∧ n < 18446744073709551616) (hc : 0 ≤ c ∧ c < 18446744073709551616) (hw : 0 ≤ w ∧ w < 18446744073709551616) (h : mayR m n k v c d w t = true) :
    dcE (keyB m n) (recT m n k v c d w t) = 0 ∧ dcM (keyB m n) (recT m n k v c d w t) = m ∧ dcN (keyB m n) (recT m n k v c d w t) = n ∧ dcK (keyB m n) (recT m n k v c d w t) = k ∧ dcV (keyB m n) (recT m n k v c d w t) = v ∧ dcC (keyB m n) (recT m n k v c d w t) = c ∧ dcD (keyB m n) (recT m n k v c d w t) = d ∧ dcW (keyB m n) (recT m n k v c d w t) = w ∧ dcT (keyB m n) (recT m n k v c d w t) = t ∧
      dcE (keyB m n) (recT m n k v c d w t ++ ⟨#[0]⟩) = 4 ∧ (∀ i, i < (recT m n k v c d w t).size → dcE (keyB m n) ((recT m n k v c d w t).extract 0 i) = 4) ∧ (recT m n k v c d w t).size ≤ 96 ∧ 0 < (recT m n k v c d w t).size := by
  have e0 := spV_0 m n hm
  have e8 := spV_8 m n hn
  have hk := keyB_size m n
  generalize hK : keyB m n = key at *
  subst e0 e8
  obtain ⟨b1, b2, b3, b4⟩ := may_in h
  have app := fun Z => dec_app key k v c d w t Z hk hc hw h
  generalize hT : recT (spV key 0) (spV key 8) k v c d w t = T at *
  have hno : ∀ Z, Z ≠ (⟨#[]⟩ : ByteArray) → decOK key (T ++ Z) = false := fun Z hZ => by
    rw [(app Z).1, show sEq Z ⟨#[]⟩ = false from decide_eq_false hZ, Bool.and_false]
  have h0 := app ⟨#[]⟩
  have hz0 : T ++ (⟨#[]⟩ : ByteArray) = T := ba_ext (by rw [ba_list_app]; simp)
  rw [hz0] at h0
  obtain ⟨o1, o2, o3, o4⟩ := h0
  have o1 : decOK key T = true := by rw [o1, sEq_self]; rfl
  have hsz : T.size ≤ 96 ∧ 0 < T.size := by
    rw [← hT, recT_eq, h, cond_true]
    have z1 := txtT_size k (by omega)
    have z2 := txtT_size v (by omega)
    have z3 := numT_size c hc.2
    have z4 := numT_size w hw.2
    cases t
    · rw [cond_false]
      simp only [ByteArray.size_append]
      have : ByteArray.size ⟨#[1]⟩ = 1 := rfl
      omega
    · rw [cond_true]
      simp only [ByteArray.size_append]
      have : ByteArray.size ⟨#[0]⟩ = 1 := rfl
      omega
  refine ⟨?_, ?_, ?_, ?_, ?_, ?_, ?_, ?_, ?_, ?_, ?_, hsz⟩
  · simp only [dcE, hide_eq, o1, cond_true]
  · simp only [dcM, hide_eq, o1, cond_true]
  · simp only [dcN, hide_eq, o1, cond_true]
  · simp only [dcK, hide_eq, o1, cond_true, o2]
  · simp only [dcV, hide_eq, o1, o3, Bool.true_and]
    cases t
    · exact (o4 rfl).1
    · exact (b3 rfl).1.symm
  · simp only [dcC, hide_eq, o1, o3, Bool.true_and]
    cases t
    · exact (o4 rfl).2.1
    · exact (b3 rfl).2.1.symm
  · simp only [dcD, hide_eq, o1, o3, Bool.true_and]
    cases t
    · exact (b4 rfl).symm
    · exact (b3 rfl).2.2.1.symm
  · simp only [dcW, hide_eq, o1, o3, Bool.true_and]
    cases t
    · exact (o4 rfl).2.2
    · exact (b3 rfl).2.2.2.symm
  · simp only [dcT, hide_eq, o1, o3, Bool.true_and]
  · simp only [dcE, hide_eq, hno ⟨#[0]⟩ (by intro h; exact absurd (congrArg ByteArray.size h) (by decide)), cond_false]
  · intro i hi
    rcases decE_cases key (T.extract 0 i) with ⟨q1, q2⟩ | ⟨q1, q2⟩
    · exfalso
      obtain ⟨g1, g2, g3, g4, g5⟩ := dec_again q1
      have hin := dec_in key (T.extract 0 i) (by rw [ByteArray.size_extract]; omega)
      have hmay : mayR (dcM key (T.extract 0 i)) (dcN key (T.extract 0 i)) (dcK key (T.extract 0 i)) (dcV key (T.extract 0 i)) (dcC key (T.extract 0 i)) (dcD key (T.extract 0 i)) (dcW key (T.extract 0 i)) (dcT key (T.extract 0 i)) = true := by
        rw [recE_eq] at g4
        revert g4
        generalize mayR (dcM key (T.extract 0 i)) (dcN key (T.extract 0 i)) (dcK key (T.extract 0 i)) (dcV key (T.extract 0 i)) (dcC key (T.extract 0 i)) (dcD key (T.extract 0 i)) (dcW key (T.extract 0 i)) (dcT key (T.extract 0 i)) = b
        cases b
        · intro h; cases h
        · intro _; rfl
      rw [g2, g3] at hmay g5
      have := (dec_app key _ _ _ _ _ _ (T.extract i T.size) hk hin.2.2.1 hin.2.2.2.2.1 hmay).1
      rw [g5, ba_split T i (by omega), o1] at this
      have hz : sEq (T.extract i T.size) ⟨#[]⟩ = false := decide_eq_false fun h => by
        have := congrArg ByteArray.size h
        rw [ByteArray.size_extract] at this
        have : min T.size T.size - i = 0 := this
        omega
      rw [hz, Bool.and_false] at this
      cases this
    · exact q2
noncomputable def cut60 : ByteArray → ByteArray := hide fun k => k.extract 0 (min (Int.ofNat k.size) 60).toNat
theorem cut60_eq (k : ByteArray) : cut60 k = k.extract 0 (min (Int.ofNat k.size) 60).toNat := by rw [cut60, hide_eq]
theorem cut60_size (k : ByteArray) : (cut60 k).size ≤ 60 := by rw [cut60_eq, ByteArray.size_extract]; simp only [Int.ofNat_eq_natCast]; omega
theorem cut_at (m n : Int) (k v : ByteArray) (c d w : Int) (t : Bool) : PureAt Try.prog 8 [.agg [.int .u64 m, .int .u64 n, .str k, .str v, .int .u64 c, .int .u64 d, .int .u64 w, .bool t]] (.agg [.int .u64 m, .int .u64 n, .str (cut60 k), .str (cut60 v), .int .u64 c, .int .u64 d, .int .u64 w, .bool t]) := by
  rw [cut60_eq, cut60_eq]
  refine pure_of_W0 (tab := noTab) (fuel := 3) (d := 4) noTab_ok ?_
  repeat' (conv => whnf
           first
            | (with_reducible exact True.intro)
            | (with_reducible rfl)
            | (with_reducible exact castL_self _ _)
            | ((with_reducible refine V.same_t ?_); exact rfl)
            | (with_reducible refine iteB_n ?_)
            | ((with_reducible refine andB_i ?_ ?_); · (first | (with_reducible assumption) | (with_reducible exact decide_eq_true rfl) | (with_reducible exact sEq_self _) | ((with_reducible refine eqOK_i ?_); kernel_rfl)))
            | ((with_reducible refine iteB_t ?_ ?_); · (first | (with_reducible assumption) | (with_reducible exact decide_eq_true rfl) | (with_reducible exact sEq_self _) | ((with_reducible refine eqOK_i ?_); kernel_rfl)))
            | ((with_reducible refine iteB_f ?_ ?_); · (first | (with_reducible assumption) | (with_reducible exact decide_eq_true rfl) | (with_reducible exact sEq_self _) | ((with_reducible refine eqOK_i ?_); kernel_rfl)))
            | (with_reducible refine andB_i ?_ ?_)
            | (with_reducible refine iteB_s (fun hB => ?_) (fun hB => ?_))
            | (with_reducible refine CD.wk_as ?_)
            | (with_reducible refine And.intro ?_ ?_))
  all_goals (conv => whnf)
  all_goals first
    | (refine decide_eq_true ?_; simp only [Int.ofNat_eq_natCast]; omega)
    | rfl
    | trace_state
noncomputable def cutF (args : List V) : Option (List Bool × V) := match args with
  | [.agg [.int .u64 m, .int .u64 n, .str k, .str v, .int .u64 c, .int .u64 d, .int .u64 w, .bool t]] => some ([], .agg [.int .u64 m, .int .u64 n, .str (cut60 k), .str (cut60 v), .int .u64 c, .int .u64 d, .int .u64 w, .bool t])
  | _ => none
theorem cutF_ok (args : List V) (c : List Bool) (v : V) (h : cutF args = some (c, v)) (hc : allB c) : PureAt Try.prog 8 args v := by
  unfold cutF at h
  split at h
  · cases h
    exact cut_at _ _ _ _ _ _ _ _
  · cases h
noncomputable def tabBack : Tab := oneTab 13 trueF (oneTab 8 cutF (oneTab 14 decF (oneTab 11 keyF (oneTab 9 encF noTab))))
theorem tabBack_ok : TabOK Try.prog tabBack := oneTab_ok (trueF_ok works_at11) (oneTab_ok cutF_ok (oneTab_ok decF_ok (oneTab_ok keyF_ok (oneTab_ok encF_ok noTab_ok))))
theorem back_no (m n : Int) (k v : ByteArray) (c d w : Int) (t : Bool) (s : ByteArray) (h1 : decide (0 ≤ m) = true) (h2 : decide (m < 18446744073709551616) = true) (h3 : decide (0 ≤ n) = true) (h4 : decide (n < 18446744073709551616) = true)
    (h5 : decide (0 ≤ c) = true) (h6 : decide (c < 18446744073709551616) = true) (h7 : decide (0 ≤ d) = true) (h8 : decide (d < 18446744073709551616) = true) (h9 : decide (0 ≤ w) = true) (h10 : decide (w < 18446744073709551616) = true)
    (hmay : mayR m n (cut60 k) (cut60 v) c d w t = false) : PureAt Try.prog 5 [.agg [.int .u64 m, .int .u64 n, .str k, .str v, .int .u64 c, .int .u64 d, .int .u64 w, .bool t], .str s] (.bool true) := by
  have hm : 0 ≤ m ∧ m < 18446744073709551616 := ⟨of_decide_eq_true h1, of_decide_eq_true h2⟩
  have hn : 0 ≤ n ∧ n < 18446744073709551616 := ⟨of_decide_eq_true h3, of_decide_eq_true h4⟩
  have hc : 0 ≤ c ∧ c < 18446744073709551616 := ⟨of_decide_eq_true h5, of_decide_eq_true h6⟩
  have hw : 0 ≤ w ∧ w < 18446744073709551616 := ⟨of_decide_eq_true h9, of_decide_eq_true h10⟩
  have g1 : decide ((cut60 k).size ≤ 1000) = true := decide_eq_true (Nat.le_trans (cut60_size k) (by decide))
  have g2 : decide ((cut60 v).size ≤ 1000) = true := decide_eq_true (Nat.le_trans (cut60_size v) (by decide))
  have g3 : decide (0 ≤ min (Int.ofNat s.size) 120) = true := decide_eq_true (by simp only [Int.ofNat_eq_natCast]; omega)
  have g4 : decide ((min (Int.ofNat s.size) 120).toNat ≤ s.size) = true := decide_eq_true (by simp only [Int.ofNat_eq_natCast]; omega)
  have hS : (s.extract 0 (min (Int.ofNat s.size) 120).toNat).size ≤ 120 := by rw [ByteArray.size_extract]; simp only [Int.ofNat_eq_natCast]; omega
  have g5 : decide ((s.extract 0 (min (Int.ofNat s.size) 120).toNat).size ≤ 120) = true := decide_eq_true hS
  obtain ⟨i1, i2, i3, i4, i5, i6, i7⟩ := dec_in (keyB m n) (s.extract 0 (min (Int.ofNat s.size) 120).toNat) hS
  have j1 : decide (0 ≤ dcM (keyB m n) (s.extract 0 (min (Int.ofNat s.size) 120).toNat)) = true := decide_eq_true i1.1
  have j2 : decide (dcM (keyB m n) (s.extract 0 (min (Int.ofNat s.size) 120).toNat) < 18446744073709551616) = true := decide_eq_true i1.2
  have j3 : decide (0 ≤ dcN (keyB m n) (s.extract 0 (min (Int.ofNat s.size) 120).toNat)) = true := decide_eq_true i2.1
  have j4 : decide (dcN (keyB m n) (s.extract 0 (min (Int.ofNat s.size) 120).toNat) < 18446744073709551616) = true := decide_eq_true i2.2
  have j5 : decide (0 ≤ dcC (keyB m n) (s.extract 0 (min (Int.ofNat s.size) 120).toNat)) = true := decide_eq_true i3.1
  have j6 : decide (dcC (keyB m n) (s.extract 0 (min (Int.ofNat s.size) 120).toNat) < 18446744073709551616) = true := decide_eq_true i3.2
  have j7 : decide (0 ≤ dcD (keyB m n) (s.extract 0 (min (Int.ofNat s.size) 120).toNat)) = true := decide_eq_true i4.1
  have j8 : decide (dcD (keyB m n) (s.extract 0 (min (Int.ofNat s.size) 120).toNat) < 18446744073709551616) = true := decide_eq_true i4.2
  have j9 : decide (0 ≤ dcW (keyB m n) (s.extract 0 (min (Int.ofNat s.size) 120).toNat)) = true := decide_eq_true i5.1
  have j10 : decide (dcW (keyB m n) (s.extract 0 (min (Int.ofNat s.size) 120).toNat) < 18446744073709551616) = true := decide_eq_true i5.2
  have j11 : decide ((dcK (keyB m n) (s.extract 0 (min (Int.ofNat s.size) 120).toNat)).size ≤ 1000) = true := decide_eq_true i6
  have j12 : decide ((dcV (keyB m n) (s.extract 0 (min (Int.ofNat s.size) 120).toNat)).size ≤ 1000) = true := decide_eq_true i7
  have e1 : recE m n (cut60 k) (cut60 v) c d w t = 2 := by rw [recE_eq, hmay]; rfl
  have e2 : (recT m n (cut60 k) (cut60 v) c d w t) = ⟨#[]⟩ := by rw [recT_eq, hmay]; rfl
  have e3 : decide (recE m n (cut60 k) (cut60 v) c d w t = 0) = false := by rw [e1]; rfl
  rcases decE_cases (keyB m n) (s.extract 0 (min (Int.ofNat s.size) 120).toNat) with ⟨ho, hE⟩ | ⟨ho, hE⟩
  · obtain ⟨a0, a1, a2, a3, a4⟩ := dec_again ho
    rw [spV_0 m n hm] at a1
    rw [spV_8 m n hn] at a2
    have l1 : decide (dcE (keyB m n) (s.extract 0 (min (Int.ofNat s.size) 120).toNat) = 0) = true := by rw [hE]; rfl
    refine pure_of_W0 (tab := tabBack) (fuel := 3) (d := 4) tabBack_ok ?_
    repeat' (conv => whnf
             first
              | (with_reducible exact True.intro)
              | (with_reducible rfl)
              | (with_reducible exact castL_self _ _)
              | ((with_reducible refine V.same_t ?_); exact rfl)
              | (with_reducible refine iteB_n ?_)
              | ((with_reducible refine andB_i ?_ ?_); · (first | (with_reducible assumption) | (with_reducible exact decide_eq_true rfl) | (with_reducible exact sEq_self _) | ((with_reducible refine eqOK_i ?_); kernel_rfl)))
              | ((with_reducible refine iteB_t ?_ ?_); · (first | (with_reducible assumption) | (with_reducible exact decide_eq_true rfl) | (with_reducible exact sEq_self _) | ((with_reducible refine eqOK_i ?_); kernel_rfl)))
              | ((with_reducible refine iteB_f ?_ ?_); · (first | (with_reducible assumption) | (with_reducible exact decide_eq_true rfl) | (with_reducible exact sEq_self _) | ((with_reducible refine eqOK_i ?_); kernel_rfl)))
              | (with_reducible refine andB_i ?_ ?_)
              | (with_reducible refine iteB_s (fun hB => ?_) (fun hB => ?_))
              | (with_reducible refine CD.wk_as ?_)
              | (with_reducible refine And.intro ?_ ?_))
    all_goals (conv => whnf)
    all_goals first
      | rfl
      | (exfalso; simp only [cond_true, cond_false, Bool.and_true, Bool.true_and, Bool.and_self, Bool.and_false, Bool.false_and, Bool.or_false, Bool.or_true, Bool.not_true, Bool.not_false, eq_self, decide_true, decide_false, beq_self_eq_true, reduceCtorEq, e1, e2, hE, a1, a2, a3, a4, sEq_self] at hB; done)
      | (exfalso; simp only [cond_true, cond_false, Bool.and_true, Bool.true_and, Bool.and_self, Bool.and_false, Bool.false_and, Bool.or_false, Bool.or_true, Bool.not_true, Bool.not_false, eq_self, decide_true, decide_false, beq_self_eq_true, reduceCtorEq, e1, e2, hE, a3, a4, sEq_self] at hB; done)
      | trace_state
  · obtain ⟨a1, a2, a3, a4, a5, a6, a7, a8⟩ := dec_not ho
    have l1 : decide (dcE (keyB m n) (s.extract 0 (min (Int.ofNat s.size) 120).toNat) = 0) = false := by rw [hE]; rfl
    have l2 : decide (dcE (keyB m n) (s.extract 0 (min (Int.ofNat s.size) 120).toNat) = 4) = true := by rw [hE]; rfl
    refine pure_of_W0 (tab := tabBack) (fuel := 3) (d := 4) tabBack_ok ?_
    repeat' (conv => whnf
             first
              | (with_reducible exact True.intro)
              | (with_reducible rfl)
              | (with_reducible exact castL_self _ _)
              | ((with_reducible refine V.same_t ?_); exact rfl)
              | (with_reducible refine iteB_n ?_)
              | ((with_reducible refine andB_i ?_ ?_); · (first | (with_reducible assumption) | (with_reducible exact decide_eq_true rfl) | (with_reducible exact sEq_self _) | ((with_reducible refine eqOK_i ?_); kernel_rfl)))
              | ((with_reducible refine iteB_t ?_ ?_); · (first | (with_reducible assumption) | (with_reducible exact decide_eq_true rfl) | (with_reducible exact sEq_self _) | ((with_reducible refine eqOK_i ?_); kernel_rfl)))
              | ((with_reducible refine iteB_f ?_ ?_); · (first | (with_reducible assumption) | (with_reducible exact decide_eq_true rfl) | (with_reducible exact sEq_self _) | ((with_reducible refine eqOK_i ?_); kernel_rfl)))
              | (with_reducible refine andB_i ?_ ?_)
              | (with_reducible refine iteB_s (fun hB => ?_) (fun hB => ?_))
              | (with_reducible refine CD.wk_as ?_)
              | (with_reducible refine And.intro ?_ ?_))
    all_goals (conv => whnf)
    all_goals first
      | rfl
      | (exfalso; simp only [cond_true, cond_false, Bool.and_true, Bool.true_and, Bool.and_self, Bool.and_false, Bool.false_and, Bool.or_false, Bool.or_true, Bool.not_true, Bool.not_false, eq_self, decide_true, decide_false, beq_self_eq_true, reduceCtorEq, e1, e2, hE, a1, a2, a3, a4, a5, a6, a7, a8, sEq_self] at hB; done)
      | trace_state
theorem back_is (m n : Int) (k v : ByteArray) (c d w : Int) (t : Bool) (s : ByteArray) (h1 : decide (0 ≤ m) = true) (h2 : decide (m < 18446744073709551616) = true) (h3 : decide (0 ≤ n) = true) (h4 : decide (n < 18446744073709551616) = true)
    (h5 : decide (0 ≤ c) = true) (h6 : decide (c < 18446744073709551616) = true) (h7 : decide (0 ≤ d) = true) (h8 : decide (d < 18446744073709551616) = true) (h9 : decide (0 ≤ w) = true) (h10 : decide (w < 18446744073709551616) = true)
    (hmay : mayR m n (cut60 k) (cut60 v) c d w t = true) : PureAt Try.prog 5 [.agg [.int .u64 m, .int .u64 n, .str k, .str v, .int .u64 c, .int .u64 d, .int .u64 w, .bool t], .str s] (.bool true) := by
  have hm : 0 ≤ m ∧ m < 18446744073709551616 := ⟨of_decide_eq_true h1, of_decide_eq_true h2⟩
  have hn : 0 ≤ n ∧ n < 18446744073709551616 := ⟨of_decide_eq_true h3, of_decide_eq_true h4⟩
  have hc : 0 ≤ c ∧ c < 18446744073709551616 := ⟨of_decide_eq_true h5, of_decide_eq_true h6⟩
  have hw : 0 ≤ w ∧ w < 18446744073709551616 := ⟨of_decide_eq_true h9, of_decide_eq_true h10⟩
  have g1 : decide ((cut60 k).size ≤ 1000) = true := decide_eq_true (Nat.le_trans (cut60_size k) (by decide))
  have g2 : decide ((cut60 v).size ≤ 1000) = true := decide_eq_true (Nat.le_trans (cut60_size v) (by decide))
  have g3 : decide (0 ≤ min (Int.ofNat s.size) 120) = true := decide_eq_true (by simp only [Int.ofNat_eq_natCast]; omega)
  have g4 : decide ((min (Int.ofNat s.size) 120).toNat ≤ s.size) = true := decide_eq_true (by simp only [Int.ofNat_eq_natCast]; omega)
  have hS : (s.extract 0 (min (Int.ofNat s.size) 120).toNat).size ≤ 120 := by rw [ByteArray.size_extract]; simp only [Int.ofNat_eq_natCast]; omega
  have g5 : decide ((s.extract 0 (min (Int.ofNat s.size) 120).toNat).size ≤ 120) = true := decide_eq_true hS
  obtain ⟨i1, i2, i3, i4, i5, i6, i7⟩ := dec_in (keyB m n) (s.extract 0 (min (Int.ofNat s.size) 120).toNat) hS
  have j1 : decide (0 ≤ dcM (keyB m n) (s.extract 0 (min (Int.ofNat s.size) 120).toNat)) = true := decide_eq_true i1.1
  have j2 : decide (dcM (keyB m n) (s.extract 0 (min (Int.ofNat s.size) 120).toNat) < 18446744073709551616) = true := decide_eq_true i1.2
  have j3 : decide (0 ≤ dcN (keyB m n) (s.extract 0 (min (Int.ofNat s.size) 120).toNat)) = true := decide_eq_true i2.1
  have j4 : decide (dcN (keyB m n) (s.extract 0 (min (Int.ofNat s.size) 120).toNat) < 18446744073709551616) = true := decide_eq_true i2.2
  have j5 : decide (0 ≤ dcC (keyB m n) (s.extract 0 (min (Int.ofNat s.size) 120).toNat)) = true := decide_eq_true i3.1
  have j6 : decide (dcC (keyB m n) (s.extract 0 (min (Int.ofNat s.size) 120).toNat) < 18446744073709551616) = true := decide_eq_true i3.2
  have j7 : decide (0 ≤ dcD (keyB m n) (s.extract 0 (min (Int.ofNat s.size) 120).toNat)) = true := decide_eq_true i4.1
  have j8 : decide (dcD (keyB m n) (s.extract 0 (min (Int.ofNat s.size) 120).toNat) < 18446744073709551616) = true := decide_eq_true i4.2
  have j9 : decide (0 ≤ dcW (keyB m n) (s.extract 0 (min (Int.ofNat s.size) 120).toNat)) = true := decide_eq_true i5.1
  have j10 : decide (dcW (keyB m n) (s.extract 0 (min (Int.ofNat s.size) 120).toNat) < 18446744073709551616) = true := decide_eq_true i5.2
  have j11 : decide ((dcK (keyB m n) (s.extract 0 (min (Int.ofNat s.size) 120).toNat)).size ≤ 1000) = true := decide_eq_true i6
  have j12 : decide ((dcV (keyB m n) (s.extract 0 (min (Int.ofNat s.size) 120).toNat)).size ≤ 1000) = true := decide_eq_true i7
  have e1 : recE m n (cut60 k) (cut60 v) c d w t = 0 := by rw [recE_eq, hmay]; rfl
  have e3 : decide (recE m n (cut60 k) (cut60 v) c d w t = 0) = true := by rw [e1]; rfl
  obtain ⟨q1, q2, q3, q4, q5, q6, q7, q8, q9, q10, q11, q12, q13⟩ := dec_own m n (cut60 k) (cut60 v) c d w t hm hn hc hw hmay
  have p1 : decide ((recT m n (cut60 k) (cut60 v) c d w t).size ≤ 120) = true := decide_eq_true (by omega)
  have p2 : decide (((recT m n (cut60 k) (cut60 v) c d w t) ++ ⟨#[0]⟩).size ≤ 120) = true := decide_eq_true (by rw [ByteArray.size_append]; have : ByteArray.size ⟨#[0]⟩ = 1 := rfl; omega)
  have p3 : decide (dcE (keyB m n) (recT m n (cut60 k) (cut60 v) c d w t) = 0) = true := by rw [q1]; rfl
  have p4 : decide (dcE (keyB m n) ((recT m n (cut60 k) (cut60 v) c d w t) ++ ⟨#[0]⟩) = 4) = true := by rw [q10]; rfl
  have p5 : sEq (recT m n (cut60 k) (cut60 v) c d w t) ⟨#[]⟩ = false := decide_eq_false fun h => by rw [h] at q13; exact absurd q13 (by decide)
  have p6 : (bif false then true else decide (96 < Int.ofNat (recT m n (cut60 k) (cut60 v) c d w t).size)) = false := decide_eq_false (by show ¬ (96 : Int) < ((recT m n (cut60 k) (cut60 v) c d w t).size : Int); omega)
  have p7 : decide ((recT m n (cut60 k) (cut60 v) c d w t).size + ByteArray.size ⟨#[0]⟩ ≤ 4611686018427387904) = true := decide_eq_true (by have : ByteArray.size ⟨#[0]⟩ = 1 := rfl; omega)
  rcases decE_cases (keyB m n) (s.extract 0 (min (Int.ofNat s.size) 120).toNat) with ⟨ho, hE⟩ | ⟨ho, hE⟩
  · obtain ⟨a0, a1, a2, a3, a4⟩ := dec_again ho
    rw [spV_0 m n hm] at a1
    rw [spV_8 m n hn] at a2
    have l1 : decide (dcE (keyB m n) (s.extract 0 (min (Int.ofNat s.size) 120).toNat) = 0) = true := by rw [hE]; rfl
    refine pure_of_loop tabBack_ok (fuel := 3) (d := 4) 9 (X := { i : Nat // i ≤ (recT m n (cut60 k) (cut60 v) c d w t).size })
      (fun x => ⟨139, [(1, .str s), (2, .ptr 0 0), (5, .str (recT m n (cut60 k) (cut60 v) c d w t)), (6, .int .i64 (recE m n (cut60 k) (cut60 v) c d w t)), (11, .int .i64 (Int.ofNat x.1))], [], [(0, .cells [.int .u64 m, .int .u64 n, .str (cut60 k), .str (cut60 v), .int .u64 c, .int .u64 d, .int .u64 w, .bool t] 28 false)], 1⟩) (fun x => (recT m n (cut60 k) (cut60 v) c d w t).size - x.1)
      (fun _ => .leaf (.exit 0) ⟨139, [(1, .str s), (2, .ptr 0 0), (5, .str (recT m n (cut60 k) (cut60 v) c d w t)), (6, .int .i64 (recE m n (cut60 k) (cut60 v) c d w t))], [], [(0, .cells [.int .u64 m, .int .u64 n, .str (cut60 k), .str (cut60 v), .int .u64 c, .int .u64 d, .int .u64 w, .bool t] 28 false)], 1⟩) ⟨0, Nat.zero_le _⟩ [(0, 0)] rfl ?_ ?_
    · rintro ⟨i, hi⟩
      cases hlt : decide (Int.ofNat i < Int.ofNat (recT m n (cut60 k) (cut60 v) c d w t).size) with
      | true =>
        have hil : i < (recT m n (cut60 k) (cut60 v) c d w t).size := by
          have := of_decide_eq_true hlt
          simp only [Int.ofNat_eq_natCast] at this
          omega
        have r1 : decide (0 ≤ Int.ofNat i) = true := decide_eq_true (Int.natCast_nonneg i)
        have r2 : decide ((Int.ofNat i).toNat ≤ (recT m n (cut60 k) (cut60 v) c d w t).size) = true := decide_eq_true (Nat.le_of_lt hil)
        have r3 : decide (((recT m n (cut60 k) (cut60 v) c d w t).extract 0 (Int.ofNat i).toNat).size ≤ 120) = true := decide_eq_true (by rw [ByteArray.size_extract]; omega)
        have r4 : decide (dcE (keyB m n) ((recT m n (cut60 k) (cut60 v) c d w t).extract 0 (Int.ofNat i).toNat) = 4) = true := decide_eq_true (q11 i hil)
        repeat' (conv => whnf
                 first
                  | (with_reducible exact True.intro)
                  | (with_reducible rfl)
                  | (with_reducible exact castL_self _ _)
                  | ((with_reducible refine V.same_t ?_); exact rfl)
                  | (with_reducible refine iteB_n ?_)
                  | ((with_reducible refine andB_i ?_ ?_); · (first | (with_reducible assumption) | (with_reducible exact decide_eq_true rfl) | (with_reducible exact sEq_self _) | ((with_reducible refine eqOK_i ?_); kernel_rfl)))
                  | ((with_reducible refine iteB_t ?_ ?_); · (first | (with_reducible assumption) | (with_reducible exact decide_eq_true rfl) | (with_reducible exact sEq_self _) | ((with_reducible refine eqOK_i ?_); kernel_rfl)))
                  | ((with_reducible refine iteB_f ?_ ?_); · (first | (with_reducible assumption) | (with_reducible exact decide_eq_true rfl) | (with_reducible exact sEq_self _) | ((with_reducible refine eqOK_i ?_); kernel_rfl)))
                  | (refine ⟨⟨i + 1, ?_⟩, ?_, rfl, ?_⟩)
                  | (with_reducible refine CD.wk_ask ?_)
                  | (with_reducible refine andB_i ?_ ?_)
                  | (with_reducible refine iteB_s (fun hB => ?_) (fun hB => ?_))
                  | (with_reducible refine CD.wk_as ?_)
                  | (with_reducible refine And.intro ?_ ?_))
        all_goals (conv => whnf)
        all_goals first
          | (show i + 1 ≤ _
             omega)
          | (show _ - (i + 1) + 1 ≤ _ - i
             omega)
          | rfl
          | (show IntKind.i64.wrap ((i : Int) + 1) = ((i + 1 : Nat) : Int)
             rw [wrap_i64 (by omega) (by omega)]
             omega)
          | trace_state
      | false =>
        repeat' (conv => whnf
                 first
                  | (with_reducible exact True.intro)
                  | (with_reducible rfl)
                  | (with_reducible exact castL_self _ _)
                  | ((with_reducible refine V.same_t ?_); exact rfl)
                  | (with_reducible refine iteB_n ?_)
                  | ((with_reducible refine andB_i ?_ ?_); · (first | (with_reducible assumption) | (with_reducible exact decide_eq_true rfl) | (with_reducible exact sEq_self _) | ((with_reducible refine eqOK_i ?_); kernel_rfl)))
                  | ((with_reducible refine iteB_t ?_ ?_); · (first | (with_reducible assumption) | (with_reducible exact decide_eq_true rfl) | (with_reducible exact sEq_self _) | ((with_reducible refine eqOK_i ?_); kernel_rfl)))
                  | ((with_reducible refine iteB_f ?_ ?_); · (first | (with_reducible assumption) | (with_reducible exact decide_eq_true rfl) | (with_reducible exact sEq_self _) | ((with_reducible refine eqOK_i ?_); kernel_rfl)))
                  | (with_reducible refine andB_i ?_ ?_)
                  | (with_reducible refine iteB_s (fun hB => ?_) (fun hB => ?_))
                  | (with_reducible refine CD.wk_as ?_)
                  | (with_reducible refine And.intro ?_ ?_))
        all_goals (conv => whnf)
        all_goals first
          | rfl
          | trace_state
    · repeat' (conv => whnf
               first
                | (with_reducible exact True.intro)
                | (with_reducible rfl)
                | (with_reducible exact castL_self _ _)
                | ((with_reducible refine V.same_t ?_); exact rfl)
                | (with_reducible refine iteB_n ?_)
                | ((with_reducible refine andB_i ?_ ?_); · (first | (with_reducible assumption) | (with_reducible exact decide_eq_true rfl) | (with_reducible exact sEq_self _) | ((with_reducible refine eqOK_i ?_); kernel_rfl)))
                | ((with_reducible refine iteB_t ?_ ?_); · (first | (with_reducible assumption) | (with_reducible exact decide_eq_true rfl) | (with_reducible exact sEq_self _) | ((with_reducible refine eqOK_i ?_); kernel_rfl)))
                | ((with_reducible refine iteB_f ?_ ?_); · (first | (with_reducible assumption) | (with_reducible exact decide_eq_true rfl) | (with_reducible exact sEq_self _) | ((with_reducible refine eqOK_i ?_); kernel_rfl)))
                | (with_reducible refine andB_i ?_ ?_)
                | (with_reducible refine iteB_s (fun hB => ?_) (fun hB => ?_))
                | (with_reducible refine CD.wk_as ?_)
                | (with_reducible refine And.intro ?_ ?_))
      all_goals (conv => whnf)
      all_goals first
        | rfl
        | (exfalso; simp only [cond_true, cond_false, Bool.and_true, Bool.true_and, Bool.and_self, Bool.and_false, Bool.false_and, Bool.or_false, Bool.or_true, Bool.not_true, Bool.not_false, eq_self, decide_true, decide_false, beq_self_eq_true, reduceCtorEq, e1, p3, p4, p5, p6, q1, q2, q3, q4, q5, q6, q7, q8, q9, q10, hE, a1, a2, a3, a4, sEq_self] at hB; done)
        | (exfalso; simp only [cond_true, cond_false, Bool.and_true, Bool.true_and, Bool.and_self, Bool.and_false, Bool.false_and, Bool.or_false, Bool.or_true, Bool.not_true, Bool.not_false, eq_self, decide_true, decide_false, beq_self_eq_true, reduceCtorEq, e1, p3, p4, p5, p6, q1, q2, q3, q4, q5, q6, q7, q8, q9, q10, hE, a3, a4, sEq_self] at hB; done)
        | trace_state
  · obtain ⟨a1, a2, a3, a4, a5, a6, a7, a8⟩ := dec_not ho
    have l1 : decide (dcE (keyB m n) (s.extract 0 (min (Int.ofNat s.size) 120).toNat) = 0) = false := by rw [hE]; rfl
    have l2 : decide (dcE (keyB m n) (s.extract 0 (min (Int.ofNat s.size) 120).toNat) = 4) = true := by rw [hE]; rfl
    refine pure_of_loop tabBack_ok (fuel := 3) (d := 4) 9 (X := { i : Nat // i ≤ (recT m n (cut60 k) (cut60 v) c d w t).size })
      (fun x => ⟨139, [(1, .str s), (2, .ptr 0 0), (5, .str (recT m n (cut60 k) (cut60 v) c d w t)), (6, .int .i64 (recE m n (cut60 k) (cut60 v) c d w t)), (11, .int .i64 (Int.ofNat x.1))], [], [(0, .cells [.int .u64 m, .int .u64 n, .str (cut60 k), .str (cut60 v), .int .u64 c, .int .u64 d, .int .u64 w, .bool t] 28 false)], 1⟩) (fun x => (recT m n (cut60 k) (cut60 v) c d w t).size - x.1)
      (fun _ => .leaf (.exit 0) ⟨139, [(1, .str s), (2, .ptr 0 0), (5, .str (recT m n (cut60 k) (cut60 v) c d w t)), (6, .int .i64 (recE m n (cut60 k) (cut60 v) c d w t))], [], [(0, .cells [.int .u64 m, .int .u64 n, .str (cut60 k), .str (cut60 v), .int .u64 c, .int .u64 d, .int .u64 w, .bool t] 28 false)], 1⟩) ⟨0, Nat.zero_le _⟩ [(0, 0)] rfl ?_ ?_
    · rintro ⟨i, hi⟩
      cases hlt : decide (Int.ofNat i < Int.ofNat (recT m n (cut60 k) (cut60 v) c d w t).size) with
      | true =>
        have hil : i < (recT m n (cut60 k) (cut60 v) c d w t).size := by
          have := of_decide_eq_true hlt
          simp only [Int.ofNat_eq_natCast] at this
          omega
        have r1 : decide (0 ≤ Int.ofNat i) = true := decide_eq_true (Int.natCast_nonneg i)
        have r2 : decide ((Int.ofNat i).toNat ≤ (recT m n (cut60 k) (cut60 v) c d w t).size) = true := decide_eq_true (Nat.le_of_lt hil)
        have r3 : decide (((recT m n (cut60 k) (cut60 v) c d w t).extract 0 (Int.ofNat i).toNat).size ≤ 120) = true := decide_eq_true (by rw [ByteArray.size_extract]; omega)
        have r4 : decide (dcE (keyB m n) ((recT m n (cut60 k) (cut60 v) c d w t).extract 0 (Int.ofNat i).toNat) = 4) = true := decide_eq_true (q11 i hil)
        repeat' (conv => whnf
                 first
                  | (with_reducible exact True.intro)
                  | (with_reducible rfl)
                  | (with_reducible exact castL_self _ _)
                  | ((with_reducible refine V.same_t ?_); exact rfl)
                  | (with_reducible refine iteB_n ?_)
                  | ((with_reducible refine andB_i ?_ ?_); · (first | (with_reducible assumption) | (with_reducible exact decide_eq_true rfl) | (with_reducible exact sEq_self _) | ((with_reducible refine eqOK_i ?_); kernel_rfl)))
                  | ((with_reducible refine iteB_t ?_ ?_); · (first | (with_reducible assumption) | (with_reducible exact decide_eq_true rfl) | (with_reducible exact sEq_self _) | ((with_reducible refine eqOK_i ?_); kernel_rfl)))
                  | ((with_reducible refine iteB_f ?_ ?_); · (first | (with_reducible assumption) | (with_reducible exact decide_eq_true rfl) | (with_reducible exact sEq_self _) | ((with_reducible refine eqOK_i ?_); kernel_rfl)))
                  | (refine ⟨⟨i + 1, ?_⟩, ?_, rfl, ?_⟩)
                  | (with_reducible refine CD.wk_ask ?_)
                  | (with_reducible refine andB_i ?_ ?_)
                  | (with_reducible refine iteB_s (fun hB => ?_) (fun hB => ?_))
                  | (with_reducible refine CD.wk_as ?_)
                  | (with_reducible refine And.intro ?_ ?_))
        all_goals (conv => whnf)
        all_goals first
          | (show i + 1 ≤ _
             omega)
          | (show _ - (i + 1) + 1 ≤ _ - i
             omega)
          | rfl
          | (show IntKind.i64.wrap ((i : Int) + 1) = ((i + 1 : Nat) : Int)
             rw [wrap_i64 (by omega) (by omega)]
             omega)
          | trace_state
      | false =>
        repeat' (conv => whnf
                 first
                  | (with_reducible exact True.intro)
                  | (with_reducible rfl)
                  | (with_reducible exact castL_self _ _)
                  | ((with_reducible refine V.same_t ?_); exact rfl)
                  | (with_reducible refine iteB_n ?_)
                  | ((with_reducible refine andB_i ?_ ?_); · (first | (with_reducible assumption) | (with_reducible exact decide_eq_true rfl) | (with_reducible exact sEq_self _) | ((with_reducible refine eqOK_i ?_); kernel_rfl)))
                  | ((with_reducible refine iteB_t ?_ ?_); · (first | (with_reducible assumption) | (with_reducible exact decide_eq_true rfl) | (with_reducible exact sEq_self _) | ((with_reducible refine eqOK_i ?_); kernel_rfl)))
                  | ((with_reducible refine iteB_f ?_ ?_); · (first | (with_reducible assumption) | (with_reducible exact decide_eq_true rfl) | (with_reducible exact sEq_self _) | ((with_reducible refine eqOK_i ?_); kernel_rfl)))
                  | (with_reducible refine andB_i ?_ ?_)
                  | (with_reducible refine iteB_s (fun hB => ?_) (fun hB => ?_))
                  | (with_reducible refine CD.wk_as ?_)
                  | (with_reducible refine And.intro ?_ ?_))
        all_goals (conv => whnf)
        all_goals first
          | rfl
          | trace_state
    · repeat' (conv => whnf
               first
                | (with_reducible exact True.intro)
                | (with_reducible rfl)
                | (with_reducible exact castL_self _ _)
                | ((with_reducible refine V.same_t ?_); exact rfl)
                | (with_reducible refine iteB_n ?_)
                | ((with_reducible refine andB_i ?_ ?_); · (first | (with_reducible assumption) | (with_reducible exact decide_eq_true rfl) | (with_reducible exact sEq_self _) | ((with_reducible refine eqOK_i ?_); kernel_rfl)))
                | ((with_reducible refine iteB_t ?_ ?_); · (first | (with_reducible assumption) | (with_reducible exact decide_eq_true rfl) | (with_reducible exact sEq_self _) | ((with_reducible refine eqOK_i ?_); kernel_rfl)))
                | ((with_reducible refine iteB_f ?_ ?_); · (first | (with_reducible assumption) | (with_reducible exact decide_eq_true rfl) | (with_reducible exact sEq_self _) | ((with_reducible refine eqOK_i ?_); kernel_rfl)))
                | (with_reducible refine andB_i ?_ ?_)
                | (with_reducible refine iteB_s (fun hB => ?_) (fun hB => ?_))
                | (with_reducible refine CD.wk_as ?_)
                | (with_reducible refine And.intro ?_ ?_))
      all_goals (conv => whnf)
      all_goals first
        | rfl
        | (exfalso; simp only [cond_true, cond_false, Bool.and_true, Bool.true_and, Bool.and_self, Bool.and_false, Bool.false_and, Bool.or_false, Bool.or_true, Bool.not_true, Bool.not_false, eq_self, decide_true, decide_false, beq_self_eq_true, reduceCtorEq, e1, p3, p4, p5, p6, q1, q2, q3, q4, q5, q6, q7, q8, q9, q10, hE, a1, a2, a3, a4, a5, a6, a7, a8, sEq_self] at hB; done)
        | trace_state
end Go.Proofs.Ytpdckafighfadaa
