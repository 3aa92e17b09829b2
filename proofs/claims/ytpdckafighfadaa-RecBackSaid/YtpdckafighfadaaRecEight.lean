/-
  The document's bytes of a revision. Conditions: numbers that fit their kinds.
-/
import Derived.Test.YtpdckafighfadaaRecKey
namespace Go.Proofs.Ytpdckafighfadaa
open Go.Sym
set_option maxRecDepth 100000
set_option maxHeartbeats 2000000

/-- a number, divided so often -/
def dN (m : Int) : Nat → Int
  | 0 => m
  | k + 1 => IntKind.u64.wrap ((dN m k).tdiv 256)
theorem dN_eq (m : Nat) (hm : m < 18446744073709551616) : ∀ k, dN m k = ((m / 256 ^ k : Nat) : Int)
  | 0 => by simp [dN]
  | k + 1 => by
    have h : m / 256 ^ k < 18446744073709551616 := Nat.lt_of_le_of_lt (Nat.div_le_self _ _) hm
    rw [dN, dN_eq m hm k, Nat.pow_succ, ← Nat.div_div_eq_div_mul]
    generalize m / 256 ^ k = q at *
    rw [show ((q : Nat) : Int).tdiv 256 = ((q / 256 : Nat) : Int) from rfl]
    exact wrap_u64 (by omega) (by omega)
theorem dN_byte (m : Nat) (hm : m < 18446744073709551616) (k : Nat) : strOf [IntKind.u8.wrap ((dN m k).tmod 256)] = ⟨#[UInt8.ofNat (m / 256 ^ k % 256)]⟩ := by
  rw [dN_eq m hm k]
  generalize m / 256 ^ k = q
  rw [show ((q : Nat) : Int).tmod 256 = ((q % 256 : Nat) : Int) from rfl, wrap_u8 (by omega) (by omega)]
  show (⟨#[UInt8.ofNat (((q % 256 : Nat) : Int)).toNat]⟩ : ByteArray) = _
  rw [Int.toNat_natCast]
noncomputable def eightB : Int → ByteArray := hide fun m => ⟨(be 8 m.toNat).toArray⟩
theorem eightB_eq (m : Int) : eightB m = ⟨(be 8 m.toNat).toArray⟩ := by rw [eightB, hide_eq]
theorem ba_app (a b : ByteArray) : (a ++ b).data.toList = a.data.toList ++ b.data.toList := by
  rw [ByteArray.data_append, Array.toList_append]
theorem eightB_key (m n : Int) : eightB m ++ eightB n = keyB m n := by
  refine ba_ext ?_
  rw [ba_app, eightB_eq, eightB_eq, keyB_list]
theorem eight_bytes (m : Nat) (hm : m < 18446744073709551616) : strOf [IntKind.u8.wrap ((dN m 7).tmod 256)] ++ (strOf [IntKind.u8.wrap ((dN m 6).tmod 256)] ++ (strOf [IntKind.u8.wrap ((dN m 5).tmod 256)] ++ (strOf [IntKind.u8.wrap ((dN m 4).tmod 256)] ++
    (strOf [IntKind.u8.wrap ((dN m 3).tmod 256)] ++ (strOf [IntKind.u8.wrap ((dN m 2).tmod 256)] ++ (strOf [IntKind.u8.wrap ((dN m 1).tmod 256)] ++ (strOf [IntKind.u8.wrap ((dN m 0).tmod 256)] ++ (⟨#[]⟩ : ByteArray)))))))) = eightB m := by
  refine ba_ext ?_
  simp only [ba_app, dN_byte m hm, eightB_eq, Int.toNat_natCast, be8]
  rfl
theorem eight_at (m : Int) (hm : 0 ≤ m ∧ m < 18446744073709551616) : PureAt Try.prog 26 [.int .u64 m] (.str (eightB m)) := by
  obtain ⟨q, rfl⟩ := Int.eq_ofNat_of_zero_le hm.1
  refine pure_of_W0 (tab := noTab) (fuel := 10) (d := 3) noTab_ok ?_
  repeat' (conv => whnf
           first
            | (with_reducible exact True.intro)
            | (with_reducible rfl)
            | (with_reducible exact castL_self _ _)
            | ((with_reducible refine V.same_t ?_); exact rfl)
            | (with_reducible refine iteB_n ?_)
            | ((with_reducible refine andB_i ?_ ?_); · (first | (with_reducible assumption) | (with_reducible exact decide_eq_true rfl) | (with_reducible exact sEq_self _) | ((with_reducible refine eqOK_i ?_); kernel_rfl)))
            | ((with_reducible refine iteB_t ?_ ?_); · (first | (with_reducible assumption) | (with_reducible exact decide_eq_true rfl) | (with_reducible exact sEq_self _) | ((with_reducible refine eqOK_i ?_); kernel_rfl)))
            | ((with_reducible refine iteB_f ?_ ?_); · (first | (with_reducible assumption) | (with_reducible exact decide_eq_true rfl) | (with_reducible exact sEq_self _) | ((with_reducible refine eqOK_i ?_); kernel_rfl)))
            | (with_reducible refine andB_i ?_ ?_)
            | (with_reducible refine iteB_s (fun hB => ?_) (fun hB => ?_))
            | (with_reducible refine CD.wk_as ?_)
            | (with_reducible refine And.intro ?_ ?_))
  all_goals (conv => whnf)
  exact congrArg V.str (eight_bytes q (by omega))
noncomputable def eightF (args : List V) : Option (List Bool × V) := match args with
  | [.int .u64 m] => some ([decide (0 ≤ m), decide (m < 18446744073709551616)], .str (eightB m))
  | _ => none
theorem eightF_ok (args : List V) (c : List Bool) (v : V) (h : eightF args = some (c, v)) (hc : allB c) : PureAt Try.prog 26 args v := by
  unfold eightF at h
  split at h
  · cases h
    exact eight_at _ ⟨of_decide_eq_true hc.1, of_decide_eq_true hc.2.1⟩
  · cases h
theorem refkey_at (m n : Int) (h1 : decide (0 ≤ m) = true) (h2 : decide (m < 18446744073709551616) = true) (h3 : decide (0 ≤ n) = true) (h4 : decide (n < 18446744073709551616) = true) : PureAt Try.prog 12 [.agg [.int .u64 m, .int .u64 n]] (.str (keyB m n)) := by
  refine pure_of_W0 (tab := oneTab 26 eightF noTab) (fuel := 3) (d := 3) (oneTab_ok eightF_ok noTab_ok) ?_
  repeat' (conv => whnf
           first
            | (with_reducible exact True.intro)
            | (with_reducible rfl)
            | (with_reducible exact castL_self _ _)
            | ((with_reducible refine V.same_t ?_); exact rfl)
            | (with_reducible refine iteB_n ?_)
            | ((with_reducible refine andB_i ?_ ?_); · (first | (with_reducible assumption) | (with_reducible exact decide_eq_true rfl) | (with_reducible exact sEq_self _) | ((with_reducible refine eqOK_i ?_); kernel_rfl)))
            | ((with_reducible refine iteB_t ?_ ?_); · (first | (with_reducible assumption) | (with_reducible exact decide_eq_true rfl) | (with_reducible exact sEq_self _) | ((with_reducible refine eqOK_i ?_); kernel_rfl)))
            | ((with_reducible refine iteB_f ?_ ?_); · (first | (with_reducible assumption) | (with_reducible exact decide_eq_true rfl) | (with_reducible exact sEq_self _) | ((with_reducible refine eqOK_i ?_); kernel_rfl)))
            | (with_reducible refine andB_i ?_ ?_)
            | (with_reducible refine iteB_s (fun hB => ?_) (fun hB => ?_))
            | (with_reducible refine CD.wk_as ?_)
            | (with_reducible refine And.intro ?_ ?_))
  all_goals (conv => whnf)
  · exact decide_eq_true (by
      have e : ∀ m, (eightB m).size = 8 := fun m => by
        rw [eightB_eq]
        show (be 8 m.toNat).toArray.size = 8
        rw [List.size_toArray, be_len]
      rw [e, e]; decide)
  · exact congrArg V.str (eightB_key m n)
end Go.Proofs.Ytpdckafighfadaa
