/-
  Texts of this claim, one behind the other: PgDec PgDecW PgDecF PgRefD PgRefF PgDecT PgBackL PgWk PgReads SymU PgReadsFin EngP PgREnd. Each says its own conditions.
-/
import Derived.Test.YtlfhiophojahbaaPgRM8
import Derived.Test.YtlfhiophojahbaaPgRM5
import Derived.Deep.Slices
import Derived.ChangeArms
import Derived.WideShapes
import Derived.OpenShut
import Derived.Below
import Derived.ChangeSame
import Derived.WalkKit
import Derived.ProofKit

set_option linter.unusedVariables false
set_option linter.unusedSimpArgs false
set_option linter.unusedSectionVars false
section
namespace Go.Proofs.Ytlfhiophojahbaa
open Go.Sym
set_option linter.unusedVariables false

abbrev PS : Type := List ByteArray × List ByteArray × List Int × Nat
abbrev or4 (a b c d : Int) : Int := IntKind.u32.wrap (Int.ofNat ((ofI .u32 (IntKind.u32.wrap (Int.ofNat ((ofI .u32 (IntKind.u32.wrap (Int.ofNat ((ofI .u32 (a % 4294967296 * 2 ^ min (Int.toNat 24) 32 % 4294967296)).lor (ofI .u32 (b % 4294967296 * 2 ^ min (Int.toNat 16) 32 % 4294967296)))))).lor (ofI .u32 (c % 4294967296 * 2 ^ min (Int.toNat 8) 32 % 4294967296)))))).lor (ofI .u32 (d % 4294967296))))
noncomputable def n4 (t : ByteArray) (o : Nat) : Int := or4 (bAt t o) (bAt t (o + 1)) (bAt t (o + 2)) (bAt t (o + 3))
def lenP (t : ByteArray) (o : Nat) : Nat := (bAt t o).toNat
def txP (t : ByteArray) (o : Nat) : Prop := o + 1 ≤ t.size ∧ o + 1 + lenP t o ≤ t.size
instance (t : ByteArray) (o : Nat) : Decidable (txP t o) := by unfold txP; infer_instance
def txS (t : ByteArray) (o : Nat) : ByteArray := t.extract (o + 1) (o + 1 + lenP t o)
noncomputable def stepP (l : Bool) (t : ByteArray) (x : PS) : Option PS :=
  if txP t x.2.2.2 then
    (if l = true then (if txP t (x.2.2.2 + 1 + lenP t x.2.2.2) then some (x.1 ++ [txS t x.2.2.2], x.2.1 ++ [txS t (x.2.2.2 + 1 + lenP t x.2.2.2)], x.2.2.1, x.2.2.2 + 1 + lenP t x.2.2.2 + 1 + lenP t (x.2.2.2 + 1 + lenP t x.2.2.2)) else none)
    else (if x.2.2.2 + 1 + lenP t x.2.2.2 + 4 ≤ t.size then some (x.1 ++ [txS t x.2.2.2], x.2.1, x.2.2.1 ++ [n4 t (x.2.2.2 + 1 + lenP t x.2.2.2)], x.2.2.2 + 1 + lenP t x.2.2.2 + 4) else none))
  else none
noncomputable def startP (l : Bool) (t : ByteArray) : PS := if l = true then ([], [], [], 2) else ([], [], [n4 t 2], 6)
noncomputable def runP0 (l : Bool) (t : ByteArray) : Nat → Option PS
  | 0 => some (startP l t)
  | i + 1 => (runP0 l t i).bind (stepP l t)
noncomputable def runP : Bool → ByteArray → Nat → Option PS := hide runP0
theorem runP_0 (l : Bool) (t : ByteArray) : runP l t 0 = some (startP l t) := by unfold runP; rw [hide_eq]; rfl
theorem runP_succ (l : Bool) (t : ByteArray) (i : Nat) : runP l t (i + 1) = (runP l t i).bind (stepP l t) := by unfold runP; rw [hide_eq]; rfl
theorem runP_none {l : Bool} {t : ByteArray} {i j : Nat} (h : runP l t i = none) (hij : i ≤ j) : runP l t j = none := by
  induction hij with
  | refl => exact h
  | step _ ih => rw [runP_succ, ih]; rfl
noncomputable def stP : Bool → ByteArray → Nat → PS := hide fun l t i => (runP l t i).getD ([], [], [], 0)
theorem stP_of {l : Bool} {t : ByteArray} {i : Nat} {x : PS} (h : runP l t i = some x) : stP l t i = x := by unfold stP; rw [hide_eq, h]; rfl
noncomputable def stK : Bool → ByteArray → Nat → List ByteArray := hide fun l t i => (stP l t i).1
noncomputable def stX : Bool → ByteArray → Nat → List ByteArray := hide fun l t i => (stP l t i).2.1
noncomputable def stC : Bool → ByteArray → Nat → List Int := hide fun l t i => (stP l t i).2.2.1
noncomputable def stO : Bool → ByteArray → Nat → Nat := hide fun l t i => (stP l t i).2.2.2
theorem st_of {l : Bool} {t : ByteArray} {i : Nat} {x : PS} (h : runP l t i = some x) : stK l t i = x.1 ∧ stX l t i = x.2.1 ∧ stC l t i = x.2.2.1 ∧ stO l t i = x.2.2.2 := by
  unfold stK stX stC stO
  rw [hide_eq, hide_eq, hide_eq, hide_eq, stP_of h]
  exact ⟨rfl, rfl, rfl, rfl⟩
theorem runP_st4 {l : Bool} {t : ByteArray} {i : Nat} (h : (runP l t i).isSome = true) : runP l t i = some (stK l t i, stX l t i, stC l t i, stO l t i) := by
  obtain ⟨x, hx⟩ := Option.isSome_iff_exists.1 h
  obtain ⟨h1, h2, h3, h4⟩ := st_of hx
  rw [hx, h1, h2, h3, h4]
theorem lenP_lt (t : ByteArray) (o : Nat) : lenP t o < 256 := by
  have := UInt8.toNat_lt (t.data.toList.getD o 0)
  unfold lenP bAt
  omega
theorem bAt_in (s : ByteArray) (i : Nat) : 0 ≤ bAt s i ∧ bAt s i < 256 := by
  have := UInt8.toNat_lt (s.data.toList.getD i 0)
  unfold bAt
  omega
theorem bAt_len (t : ByteArray) (o : Nat) : bAt t o = (lenP t o : Int) := by
  have := bAt_in t o
  unfold lenP
  omega
theorem stepP_leaf {t : ByteArray} {x : PS} (h1 : txP t x.2.2.2) (h2 : txP t (x.2.2.2 + 1 + lenP t x.2.2.2)) : stepP true t x = some (x.1 ++ [txS t x.2.2.2], x.2.1 ++ [txS t (x.2.2.2 + 1 + lenP t x.2.2.2)], x.2.2.1, x.2.2.2 + 1 + lenP t x.2.2.2 + 1 + lenP t (x.2.2.2 + 1 + lenP t x.2.2.2)) := by
  unfold stepP; rw [if_pos h1, if_pos rfl, if_pos h2]
theorem stepP_knot {t : ByteArray} {x : PS} (h1 : txP t x.2.2.2) (h2 : x.2.2.2 + 1 + lenP t x.2.2.2 + 4 ≤ t.size) : stepP false t x = some (x.1 ++ [txS t x.2.2.2], x.2.1, x.2.2.1 ++ [n4 t (x.2.2.2 + 1 + lenP t x.2.2.2)], x.2.2.2 + 1 + lenP t x.2.2.2 + 4) := by
  unfold stepP; rw [if_pos h1, if_neg (by decide), if_pos h2]
theorem stepP_no1 {l : Bool} {t : ByteArray} {x : PS} (h1 : ¬ txP t x.2.2.2) : stepP l t x = none := by unfold stepP; rw [if_neg h1]
theorem stepP_no2 {t : ByteArray} {x : PS} (h2 : ¬ txP t (x.2.2.2 + 1 + lenP t x.2.2.2)) : stepP true t x = none := by
  by_cases h1 : txP t x.2.2.2
  · unfold stepP; rw [if_pos h1, if_pos rfl, if_neg h2]
  · exact stepP_no1 h1
theorem stepP_no4 {t : ByteArray} {x : PS} (h2 : ¬ x.2.2.2 + 1 + lenP t x.2.2.2 + 4 ≤ t.size) : stepP false t x = none := by
  by_cases h1 : txP t x.2.2.2
  · unfold stepP; rw [if_pos h1, if_neg (by decide), if_neg h2]
  · exact stepP_no1 h1
theorem runP_in {l : Bool} {t : ByteArray} (ht : 6 ≤ t.size) : ∀ (i : Nat) {x : PS}, runP l t i = some x → x.1.length = i ∧ x.2.1.length ≤ i ∧ x.2.2.1.length ≤ i + 1 ∧ 2 ≤ x.2.2.2 ∧ x.2.2.2 ≤ t.size
  | 0, x, h => by
    rw [runP_0] at h
    cases h
    unfold startP
    split <;> simp <;> omega
  | i + 1, x, h => by
    rw [runP_succ] at h
    obtain ⟨y, hy, h2⟩ := Option.bind_eq_some_iff.1 h
    obtain ⟨g1, g2, g3, g4, g5⟩ := runP_in ht i hy
    unfold stepP at h2
    split at h2
    · split at h2
      · split at h2
        · rename_i k1 _ k2
          cases h2
          have := k2.2
          simp
          omega
        · cases h2
      · split at h2
        · cases h2
          simp
          omega
        · cases h2
    · cases h2
noncomputable def restS : ByteArray → Nat → ByteArray := hide fun t o => t.extract o t.size
theorem restS_eq (t : ByteArray) (o : Nat) : restS t o = t.extract o t.size := by unfold restS; rw [hide_eq]
theorem restS_size (t : ByteArray) (o : Nat) : (restS t o).size = t.size - o := by rw [restS_eq, ByteArray.size_extract]; omega
theorem restS_0 (t : ByteArray) : restS t 0 = t := by rw [restS_eq]; exact ByteArray.extract_zero_size
theorem ext_ext (t : ByteArray) (a b c d : Nat) (h : a + d ≤ b) : (t.extract a b).extract c d = t.extract (a + c) (a + d) := by
  rw [ByteArray.extract_extract]
  congr 1
  omega
theorem restS_ext (t : ByteArray) (o c d : Nat) (h : o + d ≤ t.size) : (restS t o).extract c d = t.extract (o + c) (o + d) := by
  rw [restS_eq, ext_ext _ _ _ _ _ h]
theorem bAt_ext (t : ByteArray) (a b i : Nat) (h : a + i < b) (hb : b ≤ t.size) : bAt (t.extract a b) i = bAt t (a + i) := by
  unfold bAt
  congr 1
  rw [ByteArray.data_extract, Array.toList_extract, List.getD_eq_getElem?_getD, List.getD_eq_getElem?_getD]
  rw [List.extract_eq_take_drop, List.getElem?_take_of_lt (by omega), List.getElem?_drop]
theorem rest_ext (t : ByteArray) (o a : Nat) : (restS t o).extract a (restS t o).size = restS t (o + a) := by
  rw [restS_size, restS_eq, restS_eq, ByteArray.extract_extract]
  congr 1
  omega
theorem rest_cut (t : ByteArray) (o k : Nat) (h : o + k ≤ t.size) : (restS t o).extract 0 k = t.extract o (o + k) := by
  rw [restS_ext _ _ _ _ h, Nat.add_zero]
theorem rest_at (t : ByteArray) (o k i : Nat) (h : o + k ≤ t.size) (hi : i < k) : bAt ((restS t o).extract 0 k) i = bAt t (o + i) := by
  rw [rest_cut _ _ _ h, bAt_ext _ _ _ _ (by omega) h]
theorem rest_len (t : ByteArray) (o : Nat) (h : o + 1 ≤ t.size) : bAt ((restS t o).extract 0 1) 0 = (lenP t o : Int) := by
  rw [rest_at _ _ _ _ h (by omega), Nat.add_zero, bAt_len]
theorem cut_ext (t : ByteArray) (o a : Nat) : cutS (restS t o) a (restS t o).size = restS t (o + a) := by rw [cutS_eq]; exact rest_ext t o a
theorem cut_cut (t : ByteArray) (o k : Nat) (h : o + k ≤ t.size) : cutS (restS t o) 0 k = t.extract o (o + k) := by rw [cutS_eq]; exact rest_cut t o k h
theorem cut_at (t : ByteArray) (o k i : Nat) (h : o + k ≤ t.size) (hi : i < k) : bAt (cutS (restS t o) 0 k) i = bAt t (o + i) := by rw [cutS_eq]; exact rest_at t o k i h hi
theorem cut_len (t : ByteArray) (o : Nat) (h : o + 1 ≤ t.size) : bAt (cutS (restS t o) 0 1) 0 = (lenP t o : Int) := by rw [cutS_eq]; exact rest_len t o h
end Go.Proofs.Ytlfhiophojahbaa
end

section
namespace Go.Proofs.Ytlfhiophojahbaa
open Go.Sym
set_option linter.unusedVariables false
set_option linter.unusedSimpArgs false
set_option maxRecDepth 100000
set_option maxHeartbeats 4000000

noncomputable def tabPgI : Tab := oneTab 38 openF (oneTab 16 encodeF noTab)
theorem tabPgI_ok : TabOK Try.prog tabPgI := oneTab_ok openF_ok (oneTab_ok encodeF_ok noTab_ok)
section
variable (l : Bool) (s t : ByteArray) (cnt : Nat)
noncomputable def dcH (K X : List ByteArray) (C : List Int) (r : ByteArray) : List (Nat × EObj) := [(0, .cells [.bool l, .rs 4 0 K.length K.length false 1, .rs 5 0 X.length X.length false 1, .rs 6 0 C.length C.length false 1] 0 false), (1, .cells [.int .i64 0] 0 false), (2, .cells [.str r] 0 false), (3, .cells [.fn 40 [] [.ptr 2 0]] 0 false), (4, .rows [.str] K 0 false), (5, .rows [.str] X 0 false), (6, .rows [.int .u32] C 0 false)]
noncomputable def dcC (i : Nat) : CD := ⟨93, [(0, .str s), (2, .ptr 0 0), (3, .ptr 1 0), (6, .ptr 3 0), (7, .fn 41 [] [.ptr 3 0]), (8, .fn 42 [] [.ptr 3 0]), (48, .int .i64 (cnt : Int)), (49, .int .i64 (i : Int))], [.call 37 [] [.ptr 0 0, .ptr 1 0]], dcH l (stK l t i) (stX l t i) (stC l t i) (restS t (stO l t i)), 7⟩
noncomputable def dcP : CD := ⟨93, [(2, .ptr 0 0), (3, .ptr 1 0)], [.call 37 [] [.ptr 0 0, .ptr 1 0]], [(0, .cells [.any, .any, .any, .any] 0 false), (1, .cells [.any] 0 false)], 2⟩
noncomputable def okB : Bool → ByteArray → Nat → Bool := hide fun l t i => (runP l t i).isSome
theorem okB_eq (l : Bool) (t : ByteArray) (i : Nat) : okB l t i = (runP l t i).isSome := by unfold okB; rw [hide_eq]
noncomputable def dcO : OD := .ite (okB l t cnt) (.leaf (.exit 0) (dcC l s t cnt cnt)) (.leaf (.pan (.iface 84 (.agg []))) dcP)
end
theorem dc_leaf (s t : ByteArray) (cnt : Nat) (ht : t.size = 252) (hc : cnt ≤ 255) (N : Nat) : LpD.ok Try.prog N 0 (bodyOf Try.prog 10) ⟨12, [], dcC true s t cnt 0, dcO true s t cnt⟩ := by
  refine LpD.ok_one (b := bodyAt Try.prog 10 12) rfl (loop_W tabPgI_ok (fuel := 3) (d := 6) (X := { i : Nat // i ≤ cnt ∧ (runP true t i).isSome = true }) (fun x => dcC true s t cnt x.1) (fun x => cnt - x.1)
    (fun _ => dcO true s t cnt) (fun _ => noLpW) (fun _ => noLp) (fun _ => noLp_ad) (fun _ => noLp_ok _) ?_ ⟨0, Nat.zero_le _, by rw [runP_0]; rfl⟩)
  rintro ⟨i, hi, ha⟩
  dsimp only
  rcases Nat.lt_or_ge i cnt with hlt | hge
  · have hst := runP_st4 ha
    obtain ⟨q1, q2, q3, q4, q5⟩ := runP_in (by omega) i hst
    dsimp only at q1 q2 q3 q4 q5
    have s0 : ByteArray.size (restS t (stO true t i)) = t.size - (stO true t i) := restS_size t (stO true t i)
    have y1 : (cutS (restS t (stO true t i)) (Int.toNat 1) (ByteArray.size (restS t (stO true t i)))) = restS t ((stO true t i) + 1) := cut_ext t (stO true t i) 1
    have s1 : ByteArray.size (cutS (restS t (stO true t i)) (Int.toNat 1) (ByteArray.size (restS t (stO true t i)))) = t.size - ((stO true t i) + 1) := by rw [y1, restS_size]
    have hl0 := lenP_lt t (stO true t i)
    by_cases h1 : txP t (stO true t i)
    · obtain ⟨g1, g2⟩ := h1
      have x0 : (bAt (cutS (restS t (stO true t i)) 0 (Int.toNat 1)) (Int.toNat 0)) = (lenP t (stO true t i) : Int) := cut_len t (stO true t i) g1
      obtain ⟨o1, ho1⟩ : ∃ o1, (stO true t i) + 1 + lenP t (stO true t i) = o1 := ⟨_, rfl⟩
      have y2 : (cutS (cutS (restS t (stO true t i)) (Int.toNat 1) (ByteArray.size (restS t (stO true t i)))) (Int.toNat (bAt (cutS (restS t (stO true t i)) 0 (Int.toNat 1)) (Int.toNat 0))) (ByteArray.size (cutS (restS t (stO true t i)) (Int.toNat 1) (ByteArray.size (restS t (stO true t i)))))) = restS t o1 := by rw [x0, y1, ← ho1]; exact cut_ext t ((stO true t i) + 1) (lenP t (stO true t i))
      have k0 : (cutS (cutS (restS t (stO true t i)) (Int.toNat 1) (ByteArray.size (restS t (stO true t i)))) 0 (Int.toNat (bAt (cutS (restS t (stO true t i)) 0 (Int.toNat 1)) (Int.toNat 0)))) = txS t (stO true t i) := by rw [x0, y1]; exact cut_cut t ((stO true t i) + 1) (lenP t (stO true t i)) g2
      have hl1 := lenP_lt t o1
      have s2 : ByteArray.size (cutS (cutS (restS t (stO true t i)) (Int.toNat 1) (ByteArray.size (restS t (stO true t i)))) (Int.toNat (bAt (cutS (restS t (stO true t i)) 0 (Int.toNat 1)) (Int.toNat 0))) (ByteArray.size (cutS (restS t (stO true t i)) (Int.toNat 1) (ByteArray.size (restS t (stO true t i)))))) = t.size - o1 := by rw [y2, restS_size]
      have y3 : (cutS (cutS (cutS (restS t (stO true t i)) (Int.toNat 1) (ByteArray.size (restS t (stO true t i)))) (Int.toNat (bAt (cutS (restS t (stO true t i)) 0 (Int.toNat 1)) (Int.toNat 0))) (ByteArray.size (cutS (restS t (stO true t i)) (Int.toNat 1) (ByteArray.size (restS t (stO true t i)))))) (Int.toNat 1) (ByteArray.size (cutS (cutS (restS t (stO true t i)) (Int.toNat 1) (ByteArray.size (restS t (stO true t i)))) (Int.toNat (bAt (cutS (restS t (stO true t i)) 0 (Int.toNat 1)) (Int.toNat 0))) (ByteArray.size (cutS (restS t (stO true t i)) (Int.toNat 1) (ByteArray.size (restS t (stO true t i)))))))) = restS t (o1 + 1) := by rw [y2]; exact cut_ext t o1 1
      have s3 : ByteArray.size (cutS (cutS (cutS (restS t (stO true t i)) (Int.toNat 1) (ByteArray.size (restS t (stO true t i)))) (Int.toNat (bAt (cutS (restS t (stO true t i)) 0 (Int.toNat 1)) (Int.toNat 0))) (ByteArray.size (cutS (restS t (stO true t i)) (Int.toNat 1) (ByteArray.size (restS t (stO true t i)))))) (Int.toNat 1) (ByteArray.size (cutS (cutS (restS t (stO true t i)) (Int.toNat 1) (ByteArray.size (restS t (stO true t i)))) (Int.toNat (bAt (cutS (restS t (stO true t i)) 0 (Int.toNat 1)) (Int.toNat 0))) (ByteArray.size (cutS (restS t (stO true t i)) (Int.toNat 1) (ByteArray.size (restS t (stO true t i)))))))) = t.size - (o1 + 1) := by rw [y3, restS_size]
      by_cases h2 : txP t o1
      · have hs : runP true t (i + 1) = some (stK true t i ++ [txS t (stO true t i)], stX true t i ++ [txS t o1], stC true t i, o1 + 1 + lenP t o1) := by
          rw [runP_succ, hst]
          rw [← ho1] at h2 ⊢
          exact stepP_leaf ⟨g1, g2⟩ h2
        obtain ⟨hK, hX, hC, hO⟩ := st_of hs
        dsimp only at hK hX hC hO
        have ha' : (runP true t (i + 1)).isSome = true := by rw [hs]; rfl
        obtain ⟨g3, g4⟩ := h2
        have x1 : (bAt (cutS (cutS (cutS (restS t (stO true t i)) (Int.toNat 1) (ByteArray.size (restS t (stO true t i)))) (Int.toNat (bAt (cutS (restS t (stO true t i)) 0 (Int.toNat 1)) (Int.toNat 0))) (ByteArray.size (cutS (restS t (stO true t i)) (Int.toNat 1) (ByteArray.size (restS t (stO true t i)))))) 0 (Int.toNat 1)) (Int.toNat 0)) = (lenP t o1 : Int) := by rw [y2]; exact cut_len t o1 g3
        have k1 : (cutS (cutS (cutS (cutS (restS t (stO true t i)) (Int.toNat 1) (ByteArray.size (restS t (stO true t i)))) (Int.toNat (bAt (cutS (restS t (stO true t i)) 0 (Int.toNat 1)) (Int.toNat 0))) (ByteArray.size (cutS (restS t (stO true t i)) (Int.toNat 1) (ByteArray.size (restS t (stO true t i)))))) (Int.toNat 1) (ByteArray.size (cutS (cutS (restS t (stO true t i)) (Int.toNat 1) (ByteArray.size (restS t (stO true t i)))) (Int.toNat (bAt (cutS (restS t (stO true t i)) 0 (Int.toNat 1)) (Int.toNat 0))) (ByteArray.size (cutS (restS t (stO true t i)) (Int.toNat 1) (ByteArray.size (restS t (stO true t i)))))))) 0 (Int.toNat (bAt (cutS (cutS (cutS (restS t (stO true t i)) (Int.toNat 1) (ByteArray.size (restS t (stO true t i)))) (Int.toNat (bAt (cutS (restS t (stO true t i)) 0 (Int.toNat 1)) (Int.toNat 0))) (ByteArray.size (cutS (restS t (stO true t i)) (Int.toNat 1) (ByteArray.size (restS t (stO true t i)))))) 0 (Int.toNat 1)) (Int.toNat 0)))) = txS t o1 := by rw [x1, y3]; exact cut_cut t (o1 + 1) (lenP t o1) g4
        have m4 := x1
        have y4 : (cutS (cutS (cutS (cutS (restS t (stO true t i)) (Int.toNat 1) (ByteArray.size (restS t (stO true t i)))) (Int.toNat (bAt (cutS (restS t (stO true t i)) 0 (Int.toNat 1)) (Int.toNat 0))) (ByteArray.size (cutS (restS t (stO true t i)) (Int.toNat 1) (ByteArray.size (restS t (stO true t i)))))) (Int.toNat 1) (ByteArray.size (cutS (cutS (restS t (stO true t i)) (Int.toNat 1) (ByteArray.size (restS t (stO true t i)))) (Int.toNat (bAt (cutS (restS t (stO true t i)) 0 (Int.toNat 1)) (Int.toNat 0))) (ByteArray.size (cutS (restS t (stO true t i)) (Int.toNat 1) (ByteArray.size (restS t (stO true t i)))))))) (Int.toNat (bAt (cutS (cutS (cutS (restS t (stO true t i)) (Int.toNat 1) (ByteArray.size (restS t (stO true t i)))) (Int.toNat (bAt (cutS (restS t (stO true t i)) 0 (Int.toNat 1)) (Int.toNat 0))) (ByteArray.size (cutS (restS t (stO true t i)) (Int.toNat 1) (ByteArray.size (restS t (stO true t i)))))) 0 (Int.toNat 1)) (Int.toNat 0))) (ByteArray.size (cutS (cutS (cutS (restS t (stO true t i)) (Int.toNat 1) (ByteArray.size (restS t (stO true t i)))) (Int.toNat (bAt (cutS (restS t (stO true t i)) 0 (Int.toNat 1)) (Int.toNat 0))) (ByteArray.size (cutS (restS t (stO true t i)) (Int.toNat 1) (ByteArray.size (restS t (stO true t i)))))) (Int.toNat 1) (ByteArray.size (cutS (cutS (restS t (stO true t i)) (Int.toNat 1) (ByteArray.size (restS t (stO true t i)))) (Int.toNat (bAt (cutS (restS t (stO true t i)) 0 (Int.toNat 1)) (Int.toNat 0))) (ByteArray.size (cutS (restS t (stO true t i)) (Int.toNat 1) (ByteArray.size (restS t (stO true t i)))))))))) = restS t (o1 + 1 + lenP t o1) := by rw [x1, y3]; exact cut_ext t (o1 + 1) (lenP t o1)
        repeat' ((conv => whnf); first | (with_reducible first | (refine W1.o ?_; constructor) | rfl | exact castL_self _ _) | ((with_reducible refine V.same_t ?_); exact rfl) | ((with_reducible refine andB_room ?_ ?_ ?_); (· kernel_rfl); (· (first | omega | (simp only [lens] <;> omega)))) | ((with_reducible refine W2.o ?_; constructor); · (first | (with_reducible assumption) | (first | omega | (simp only [lens] <;> omega)))) | ((with_reducible refine W3.o ?_; constructor); · (first | (with_reducible assumption) | (first | omega | (simp only [lens] <;> omega)))) | ((with_reducible refine W4.o ?_; constructor); · (first | (with_reducible first | assumption | exact decide_eq_true rfl | exact sEq_self _) | ((with_reducible refine eqOK_i ?_); kernel_rfl))) | ((with_reducible refine iteB_f ?_ ?_); · (first | (with_reducible first | assumption | exact decide_eq_true rfl | exact sEq_self _) | ((with_reducible refine eqOK_i ?_); kernel_rfl))) | (refine ⟨⟨i + 1, hlt, ha'⟩, ?_, rfl, ?_⟩) | (with_reducible refine CD.wk_au ?_) | (with_reducible refine W5.o ?_; constructor) | ((with_reducible refine W6.o ?_; constructor) <;> intro hB))
        all_goals ((conv => whnf); (try dsimp only); (try simp only [Nat.succ_eq_add_one, Nat.le_eq, castL_self]); (try omega))
        all_goals (try (first | omega | (simp only [lens] <;> omega)))
        all_goals first
          | omega
          | (rw [hC]; done)
          | (rw [hX]; done)
          | (rw [hO, y4]; done)
          | (rw [hC]; exact Nat.le_refl _)
          | (rw [hX]; exact Nat.le_refl _)
          | (simp only [hK, hX, hC, lens] <;> omega)
          | (rw [hK, k0, seg_all _ rfl]; rfl)
          | (rw [hX, k1, seg_all _ rfl]; rfl)
          | (rw [hC, ← m4, seg_all _ rfl, seg_one]; done)
          | trace_state
      · have hn : runP true t (i + 1) = none := by rw [runP_succ, hst]; exact stepP_no2 (by rw [ho1]; exact h2)
        have hk : okB true t cnt = false := by rw [okB_eq, runP_none hn hlt]; rfl
        by_cases g3 : o1 + 1 ≤ t.size
        · have g4 : ¬ o1 + 1 + lenP t o1 ≤ t.size := fun h => h2 ⟨g3, h⟩
          have x1 : (bAt (cutS (cutS (cutS (restS t (stO true t i)) (Int.toNat 1) (ByteArray.size (restS t (stO true t i)))) (Int.toNat (bAt (cutS (restS t (stO true t i)) 0 (Int.toNat 1)) (Int.toNat 0))) (ByteArray.size (cutS (restS t (stO true t i)) (Int.toNat 1) (ByteArray.size (restS t (stO true t i)))))) 0 (Int.toNat 1)) (Int.toNat 0)) = (lenP t o1 : Int) := by rw [y2]; exact cut_len t o1 g3
          repeat' ((conv => whnf); first | (with_reducible first | (refine W1.o ?_; constructor) | rfl | exact castL_self _ _) | ((with_reducible refine V.same_t ?_); exact rfl) | ((with_reducible refine andB_room ?_ ?_ ?_); (· kernel_rfl); (· (first | omega | (simp only [lens] <;> omega)))) | ((with_reducible refine W2.o ?_; constructor); · (first | (with_reducible assumption) | (first | omega | (simp only [lens] <;> omega)))) | ((with_reducible refine W3.o ?_; constructor); · (first | (with_reducible assumption) | (first | omega | (simp only [lens] <;> omega)))) | ((with_reducible refine W4.o ?_; constructor); · (first | (with_reducible first | assumption | exact decide_eq_true rfl | exact sEq_self _) | ((with_reducible refine eqOK_i ?_); kernel_rfl))) | ((with_reducible refine iteB_f ?_ ?_); · (first | (with_reducible first | assumption | exact decide_eq_true rfl | exact sEq_self _) | ((with_reducible refine eqOK_i ?_); kernel_rfl))) | (with_reducible refine CD.wk_au ?_) | (with_reducible refine W5.o ?_; constructor) | ((with_reducible refine W6.o ?_; constructor) <;> intro hB))
          all_goals ((conv => whnf); (try dsimp only); (try simp only [Nat.succ_eq_add_one, Nat.le_eq, castL_self]); (try omega))
          all_goals (try (first | omega | (simp only [lens] <;> omega)))
          all_goals trace_state
        · repeat' ((conv => whnf); first | (with_reducible first | (refine W1.o ?_; constructor) | rfl | exact castL_self _ _) | ((with_reducible refine V.same_t ?_); exact rfl) | ((with_reducible refine andB_room ?_ ?_ ?_); (· kernel_rfl); (· (first | omega | (simp only [lens] <;> omega)))) | ((with_reducible refine W2.o ?_; constructor); · (first | (with_reducible assumption) | (first | omega | (simp only [lens] <;> omega)))) | ((with_reducible refine W3.o ?_; constructor); · (first | (with_reducible assumption) | (first | omega | (simp only [lens] <;> omega)))) | ((with_reducible refine W4.o ?_; constructor); · (first | (with_reducible first | assumption | exact decide_eq_true rfl | exact sEq_self _) | ((with_reducible refine eqOK_i ?_); kernel_rfl))) | ((with_reducible refine iteB_f ?_ ?_); · (first | (with_reducible first | assumption | exact decide_eq_true rfl | exact sEq_self _) | ((with_reducible refine eqOK_i ?_); kernel_rfl))) | (with_reducible refine CD.wk_au ?_) | (with_reducible refine W5.o ?_; constructor) | ((with_reducible refine W6.o ?_; constructor) <;> intro hB))
          all_goals ((conv => whnf); (try dsimp only); (try simp only [Nat.succ_eq_add_one, Nat.le_eq, castL_self]); (try omega))
          all_goals (try (first | omega | (simp only [lens] <;> omega)))
          all_goals trace_state
    · have hn : runP true t (i + 1) = none := by rw [runP_succ, hst]; exact stepP_no1 h1
      have hk : okB true t cnt = false := by rw [okB_eq, runP_none hn hlt]; rfl
      by_cases g1 : (stO true t i) + 1 ≤ t.size
      · have g2 : ¬ (stO true t i) + 1 + lenP t (stO true t i) ≤ t.size := fun h => h1 ⟨g1, h⟩
        have x0 : (bAt (cutS (restS t (stO true t i)) 0 (Int.toNat 1)) (Int.toNat 0)) = (lenP t (stO true t i) : Int) := cut_len t (stO true t i) g1
        repeat' ((conv => whnf); first | (with_reducible first | (refine W1.o ?_; constructor) | rfl | exact castL_self _ _) | ((with_reducible refine V.same_t ?_); exact rfl) | ((with_reducible refine andB_room ?_ ?_ ?_); (· kernel_rfl); (· (first | omega | (simp only [lens] <;> omega)))) | ((with_reducible refine W2.o ?_; constructor); · (first | (with_reducible assumption) | (first | omega | (simp only [lens] <;> omega)))) | ((with_reducible refine W3.o ?_; constructor); · (first | (with_reducible assumption) | (first | omega | (simp only [lens] <;> omega)))) | ((with_reducible refine W4.o ?_; constructor); · (first | (with_reducible first | assumption | exact decide_eq_true rfl | exact sEq_self _) | ((with_reducible refine eqOK_i ?_); kernel_rfl))) | ((with_reducible refine iteB_f ?_ ?_); · (first | (with_reducible first | assumption | exact decide_eq_true rfl | exact sEq_self _) | ((with_reducible refine eqOK_i ?_); kernel_rfl))) | (with_reducible refine CD.wk_au ?_) | (with_reducible refine W5.o ?_; constructor) | ((with_reducible refine W6.o ?_; constructor) <;> intro hB))
        all_goals ((conv => whnf); (try dsimp only); (try simp only [Nat.succ_eq_add_one, Nat.le_eq, castL_self]); (try omega))
        all_goals (try (first | omega | (simp only [lens] <;> omega)))
        all_goals trace_state
      · repeat' ((conv => whnf); first | (with_reducible first | (refine W1.o ?_; constructor) | rfl | exact castL_self _ _) | ((with_reducible refine V.same_t ?_); exact rfl) | ((with_reducible refine andB_room ?_ ?_ ?_); (· kernel_rfl); (· (first | omega | (simp only [lens] <;> omega)))) | ((with_reducible refine W2.o ?_; constructor); · (first | (with_reducible assumption) | (first | omega | (simp only [lens] <;> omega)))) | ((with_reducible refine W3.o ?_; constructor); · (first | (with_reducible assumption) | (first | omega | (simp only [lens] <;> omega)))) | ((with_reducible refine W4.o ?_; constructor); · (first | (with_reducible first | assumption | exact decide_eq_true rfl | exact sEq_self _) | ((with_reducible refine eqOK_i ?_); kernel_rfl))) | ((with_reducible refine iteB_f ?_ ?_); · (first | (with_reducible first | assumption | exact decide_eq_true rfl | exact sEq_self _) | ((with_reducible refine eqOK_i ?_); kernel_rfl))) | (with_reducible refine CD.wk_au ?_) | (with_reducible refine W5.o ?_; constructor) | ((with_reducible refine W6.o ?_; constructor) <;> intro hB))
        all_goals ((conv => whnf); (try dsimp only); (try simp only [Nat.succ_eq_add_one, Nat.le_eq, castL_self]); (try omega))
        all_goals (try (first | omega | (simp only [lens] <;> omega)))
        all_goals trace_state
  · have he : i = cnt := Nat.le_antisymm hi hge
    subst he
    have hk : okB true t i = true := by rw [okB_eq]; exact ha
    repeat' ((conv => whnf); first | (with_reducible first | (refine W1.o ?_; constructor) | rfl | exact castL_self _ _) | ((with_reducible refine V.same_t ?_); exact rfl) | ((with_reducible refine andB_room ?_ ?_ ?_); (· kernel_rfl); (· (first | omega | (simp only [lens] <;> omega)))) | ((with_reducible refine W2.o ?_; constructor); · (first | (with_reducible assumption) | (first | omega | (simp only [lens] <;> omega)))) | ((with_reducible refine W3.o ?_; constructor); · (first | (with_reducible assumption) | (first | omega | (simp only [lens] <;> omega)))) | ((with_reducible refine W4.o ?_; constructor); · (first | (with_reducible first | assumption | exact decide_eq_true rfl | exact sEq_self _) | ((with_reducible refine eqOK_i ?_); kernel_rfl))) | ((with_reducible refine iteB_f ?_ ?_); · (first | (with_reducible first | assumption | exact decide_eq_true rfl | exact sEq_self _) | ((with_reducible refine eqOK_i ?_); kernel_rfl))) | (with_reducible refine CD.wk_au ?_) | (with_reducible refine W5.o ?_; constructor) | ((with_reducible refine W6.o ?_; constructor) <;> intro hB))
    all_goals ((conv => whnf); (try dsimp only); (try simp only [Nat.succ_eq_add_one, Nat.le_eq, castL_self]); (try omega))
    all_goals (try (first | omega | (simp only [lens] <;> omega)))
    all_goals trace_state
theorem dc_knot (s t : ByteArray) (cnt : Nat) (ht : t.size = 252) (hc : cnt ≤ 255) (N : Nat) : LpD.ok Try.prog N 0 (bodyOf Try.prog 10) ⟨12, [], dcC false s t cnt 0, dcO false s t cnt⟩ := by
  refine LpD.ok_one (b := bodyAt Try.prog 10 12) rfl (loop_W tabPgI_ok (fuel := 3) (d := 6) (X := { i : Nat // i ≤ cnt ∧ (runP false t i).isSome = true }) (fun x => dcC false s t cnt x.1) (fun x => cnt - x.1)
    (fun _ => dcO false s t cnt) (fun _ => noLpW) (fun _ => noLp) (fun _ => noLp_ad) (fun _ => noLp_ok _) ?_ ⟨0, Nat.zero_le _, by rw [runP_0]; rfl⟩)
  rintro ⟨i, hi, ha⟩
  dsimp only
  rcases Nat.lt_or_ge i cnt with hlt | hge
  · have hst := runP_st4 ha
    obtain ⟨q1, q2, q3, q4, q5⟩ := runP_in (by omega) i hst
    dsimp only at q1 q2 q3 q4 q5
    have s0 : ByteArray.size (restS t (stO false t i)) = t.size - (stO false t i) := restS_size t (stO false t i)
    have y1 : (cutS (restS t (stO false t i)) (Int.toNat 1) (ByteArray.size (restS t (stO false t i)))) = restS t ((stO false t i) + 1) := cut_ext t (stO false t i) 1
    have s1 : ByteArray.size (cutS (restS t (stO false t i)) (Int.toNat 1) (ByteArray.size (restS t (stO false t i)))) = t.size - ((stO false t i) + 1) := by rw [y1, restS_size]
    have hl0 := lenP_lt t (stO false t i)
    by_cases h1 : txP t (stO false t i)
    · obtain ⟨g1, g2⟩ := h1
      have x0 : (bAt (cutS (restS t (stO false t i)) 0 (Int.toNat 1)) (Int.toNat 0)) = (lenP t (stO false t i) : Int) := cut_len t (stO false t i) g1
      obtain ⟨o1, ho1⟩ : ∃ o1, (stO false t i) + 1 + lenP t (stO false t i) = o1 := ⟨_, rfl⟩
      have y2 : (cutS (cutS (restS t (stO false t i)) (Int.toNat 1) (ByteArray.size (restS t (stO false t i)))) (Int.toNat (bAt (cutS (restS t (stO false t i)) 0 (Int.toNat 1)) (Int.toNat 0))) (ByteArray.size (cutS (restS t (stO false t i)) (Int.toNat 1) (ByteArray.size (restS t (stO false t i)))))) = restS t o1 := by rw [x0, y1, ← ho1]; exact cut_ext t ((stO false t i) + 1) (lenP t (stO false t i))
      have k0 : (cutS (cutS (restS t (stO false t i)) (Int.toNat 1) (ByteArray.size (restS t (stO false t i)))) 0 (Int.toNat (bAt (cutS (restS t (stO false t i)) 0 (Int.toNat 1)) (Int.toNat 0)))) = txS t (stO false t i) := by rw [x0, y1]; exact cut_cut t ((stO false t i) + 1) (lenP t (stO false t i)) g2
      have hl1 := lenP_lt t o1
      have s2 : ByteArray.size (cutS (cutS (restS t (stO false t i)) (Int.toNat 1) (ByteArray.size (restS t (stO false t i)))) (Int.toNat (bAt (cutS (restS t (stO false t i)) 0 (Int.toNat 1)) (Int.toNat 0))) (ByteArray.size (cutS (restS t (stO false t i)) (Int.toNat 1) (ByteArray.size (restS t (stO false t i)))))) = t.size - o1 := by rw [y2, restS_size]
      by_cases h2 : o1 + 4 ≤ t.size
      · have hs : runP false t (i + 1) = some (stK false t i ++ [txS t (stO false t i)], stX false t i, stC false t i ++ [n4 t o1], o1 + 4) := by
          rw [runP_succ, hst]
          rw [← ho1] at h2 ⊢
          exact stepP_knot ⟨g1, g2⟩ h2
        obtain ⟨hK, hX, hC, hO⟩ := st_of hs
        dsimp only at hK hX hC hO
        have ha' : (runP false t (i + 1)).isSome = true := by rw [hs]; rfl
        have c0 : bAt (cutS (cutS (cutS (restS t (stO false t i)) (Int.toNat 1) (ByteArray.size (restS t (stO false t i)))) (Int.toNat (bAt (cutS (restS t (stO false t i)) 0 (Int.toNat 1)) (Int.toNat 0))) (ByteArray.size (cutS (restS t (stO false t i)) (Int.toNat 1) (ByteArray.size (restS t (stO false t i)))))) 0 (Int.toNat 4)) (Int.toNat 0) = bAt t o1 := by rw [y2]; exact cut_at t o1 4 0 h2 (by decide)
        have c1 : bAt (cutS (cutS (cutS (restS t (stO false t i)) (Int.toNat 1) (ByteArray.size (restS t (stO false t i)))) (Int.toNat (bAt (cutS (restS t (stO false t i)) 0 (Int.toNat 1)) (Int.toNat 0))) (ByteArray.size (cutS (restS t (stO false t i)) (Int.toNat 1) (ByteArray.size (restS t (stO false t i)))))) 0 (Int.toNat 4)) (Int.toNat 1) = bAt t (o1 + 1) := by rw [y2]; exact cut_at t o1 4 1 h2 (by decide)
        have c2 : bAt (cutS (cutS (cutS (restS t (stO false t i)) (Int.toNat 1) (ByteArray.size (restS t (stO false t i)))) (Int.toNat (bAt (cutS (restS t (stO false t i)) 0 (Int.toNat 1)) (Int.toNat 0))) (ByteArray.size (cutS (restS t (stO false t i)) (Int.toNat 1) (ByteArray.size (restS t (stO false t i)))))) 0 (Int.toNat 4)) (Int.toNat 2) = bAt t (o1 + 2) := by rw [y2]; exact cut_at t o1 4 2 h2 (by decide)
        have c3 : bAt (cutS (cutS (cutS (restS t (stO false t i)) (Int.toNat 1) (ByteArray.size (restS t (stO false t i)))) (Int.toNat (bAt (cutS (restS t (stO false t i)) 0 (Int.toNat 1)) (Int.toNat 0))) (ByteArray.size (cutS (restS t (stO false t i)) (Int.toNat 1) (ByteArray.size (restS t (stO false t i)))))) 0 (Int.toNat 4)) (Int.toNat 3) = bAt t (o1 + 3) := by rw [y2]; exact cut_at t o1 4 3 h2 (by decide)
        have k1 := c0
        have m4 : or4 (bAt (cutS (cutS (cutS (restS t (stO false t i)) (Int.toNat 1) (ByteArray.size (restS t (stO false t i)))) (Int.toNat (bAt (cutS (restS t (stO false t i)) 0 (Int.toNat 1)) (Int.toNat 0))) (ByteArray.size (cutS (restS t (stO false t i)) (Int.toNat 1) (ByteArray.size (restS t (stO false t i)))))) 0 (Int.toNat 4)) (Int.toNat 0)) (bAt (cutS (cutS (cutS (restS t (stO false t i)) (Int.toNat 1) (ByteArray.size (restS t (stO false t i)))) (Int.toNat (bAt (cutS (restS t (stO false t i)) 0 (Int.toNat 1)) (Int.toNat 0))) (ByteArray.size (cutS (restS t (stO false t i)) (Int.toNat 1) (ByteArray.size (restS t (stO false t i)))))) 0 (Int.toNat 4)) (Int.toNat 1)) (bAt (cutS (cutS (cutS (restS t (stO false t i)) (Int.toNat 1) (ByteArray.size (restS t (stO false t i)))) (Int.toNat (bAt (cutS (restS t (stO false t i)) 0 (Int.toNat 1)) (Int.toNat 0))) (ByteArray.size (cutS (restS t (stO false t i)) (Int.toNat 1) (ByteArray.size (restS t (stO false t i)))))) 0 (Int.toNat 4)) (Int.toNat 2)) (bAt (cutS (cutS (cutS (restS t (stO false t i)) (Int.toNat 1) (ByteArray.size (restS t (stO false t i)))) (Int.toNat (bAt (cutS (restS t (stO false t i)) 0 (Int.toNat 1)) (Int.toNat 0))) (ByteArray.size (cutS (restS t (stO false t i)) (Int.toNat 1) (ByteArray.size (restS t (stO false t i)))))) 0 (Int.toNat 4)) (Int.toNat 3)) = n4 t o1 := by rw [c0, c1, c2, c3]; rfl
        have y4 : (cutS (cutS (cutS (restS t (stO false t i)) (Int.toNat 1) (ByteArray.size (restS t (stO false t i)))) (Int.toNat (bAt (cutS (restS t (stO false t i)) 0 (Int.toNat 1)) (Int.toNat 0))) (ByteArray.size (cutS (restS t (stO false t i)) (Int.toNat 1) (ByteArray.size (restS t (stO false t i)))))) (Int.toNat 4) (ByteArray.size (cutS (cutS (restS t (stO false t i)) (Int.toNat 1) (ByteArray.size (restS t (stO false t i)))) (Int.toNat (bAt (cutS (restS t (stO false t i)) 0 (Int.toNat 1)) (Int.toNat 0))) (ByteArray.size (cutS (restS t (stO false t i)) (Int.toNat 1) (ByteArray.size (restS t (stO false t i)))))))) = restS t (o1 + 4) := by rw [y2]; exact cut_ext t o1 4
        repeat' ((conv => whnf); first | (with_reducible first | (refine W1.o ?_; constructor) | rfl | exact castL_self _ _) | ((with_reducible refine V.same_t ?_); exact rfl) | ((with_reducible refine andB_room ?_ ?_ ?_); (· kernel_rfl); (· (first | omega | (simp only [lens] <;> omega)))) | ((with_reducible refine W2.o ?_; constructor); · (first | (with_reducible assumption) | (first | omega | (simp only [lens] <;> omega)))) | ((with_reducible refine W3.o ?_; constructor); · (first | (with_reducible assumption) | (first | omega | (simp only [lens] <;> omega)))) | ((with_reducible refine W4.o ?_; constructor); · (first | (with_reducible first | assumption | exact decide_eq_true rfl | exact sEq_self _) | ((with_reducible refine eqOK_i ?_); kernel_rfl))) | ((with_reducible refine iteB_f ?_ ?_); · (first | (with_reducible first | assumption | exact decide_eq_true rfl | exact sEq_self _) | ((with_reducible refine eqOK_i ?_); kernel_rfl))) | (refine ⟨⟨i + 1, hlt, ha'⟩, ?_, rfl, ?_⟩) | (with_reducible refine CD.wk_au ?_) | (with_reducible refine W5.o ?_; constructor) | ((with_reducible refine W6.o ?_; constructor) <;> intro hB))
        all_goals ((conv => whnf); (try dsimp only); (try simp only [Nat.succ_eq_add_one, Nat.le_eq, castL_self]); (try omega))
        all_goals (try (first | omega | (simp only [lens] <;> omega)))
        all_goals first
          | omega
          | (rw [hC]; done)
          | (rw [hX]; done)
          | (rw [hO, y4]; done)
          | (rw [hC]; exact Nat.le_refl _)
          | (rw [hX]; exact Nat.le_refl _)
          | (simp only [hK, hX, hC, lens] <;> omega)
          | (rw [hK, k0, seg_all _ rfl]; rfl)
          | (rw [hX, k1, seg_all _ rfl]; rfl)
          | (rw [hC, ← m4, seg_all _ rfl, seg_one]; done)
          | trace_state
      · have hn : runP false t (i + 1) = none := by rw [runP_succ, hst]; exact stepP_no4 (by rw [ho1]; exact h2)
        have hk : okB false t cnt = false := by rw [okB_eq, runP_none hn hlt]; rfl
        repeat' ((conv => whnf); first | (with_reducible first | (refine W1.o ?_; constructor) | rfl | exact castL_self _ _) | ((with_reducible refine V.same_t ?_); exact rfl) | ((with_reducible refine andB_room ?_ ?_ ?_); (· kernel_rfl); (· (first | omega | (simp only [lens] <;> omega)))) | ((with_reducible refine W2.o ?_; constructor); · (first | (with_reducible assumption) | (first | omega | (simp only [lens] <;> omega)))) | ((with_reducible refine W3.o ?_; constructor); · (first | (with_reducible assumption) | (first | omega | (simp only [lens] <;> omega)))) | ((with_reducible refine W4.o ?_; constructor); · (first | (with_reducible first | assumption | exact decide_eq_true rfl | exact sEq_self _) | ((with_reducible refine eqOK_i ?_); kernel_rfl))) | ((with_reducible refine iteB_f ?_ ?_); · (first | (with_reducible first | assumption | exact decide_eq_true rfl | exact sEq_self _) | ((with_reducible refine eqOK_i ?_); kernel_rfl))) | (with_reducible refine CD.wk_au ?_) | (with_reducible refine W5.o ?_; constructor) | ((with_reducible refine W6.o ?_; constructor) <;> intro hB))
        all_goals ((conv => whnf); (try dsimp only); (try simp only [Nat.succ_eq_add_one, Nat.le_eq, castL_self]); (try omega))
        all_goals (try (first | omega | (simp only [lens] <;> omega)))
        all_goals trace_state
    · have hn : runP false t (i + 1) = none := by rw [runP_succ, hst]; exact stepP_no1 h1
      have hk : okB false t cnt = false := by rw [okB_eq, runP_none hn hlt]; rfl
      by_cases g1 : (stO false t i) + 1 ≤ t.size
      · have g2 : ¬ (stO false t i) + 1 + lenP t (stO false t i) ≤ t.size := fun h => h1 ⟨g1, h⟩
        have x0 : (bAt (cutS (restS t (stO false t i)) 0 (Int.toNat 1)) (Int.toNat 0)) = (lenP t (stO false t i) : Int) := cut_len t (stO false t i) g1
        repeat' ((conv => whnf); first | (with_reducible first | (refine W1.o ?_; constructor) | rfl | exact castL_self _ _) | ((with_reducible refine V.same_t ?_); exact rfl) | ((with_reducible refine andB_room ?_ ?_ ?_); (· kernel_rfl); (· (first | omega | (simp only [lens] <;> omega)))) | ((with_reducible refine W2.o ?_; constructor); · (first | (with_reducible assumption) | (first | omega | (simp only [lens] <;> omega)))) | ((with_reducible refine W3.o ?_; constructor); · (first | (with_reducible assumption) | (first | omega | (simp only [lens] <;> omega)))) | ((with_reducible refine W4.o ?_; constructor); · (first | (with_reducible first | assumption | exact decide_eq_true rfl | exact sEq_self _) | ((with_reducible refine eqOK_i ?_); kernel_rfl))) | ((with_reducible refine iteB_f ?_ ?_); · (first | (with_reducible first | assumption | exact decide_eq_true rfl | exact sEq_self _) | ((with_reducible refine eqOK_i ?_); kernel_rfl))) | (with_reducible refine CD.wk_au ?_) | (with_reducible refine W5.o ?_; constructor) | ((with_reducible refine W6.o ?_; constructor) <;> intro hB))
        all_goals ((conv => whnf); (try dsimp only); (try simp only [Nat.succ_eq_add_one, Nat.le_eq, castL_self]); (try omega))
        all_goals (try (first | omega | (simp only [lens] <;> omega)))
        all_goals trace_state
      · repeat' ((conv => whnf); first | (with_reducible first | (refine W1.o ?_; constructor) | rfl | exact castL_self _ _) | ((with_reducible refine V.same_t ?_); exact rfl) | ((with_reducible refine andB_room ?_ ?_ ?_); (· kernel_rfl); (· (first | omega | (simp only [lens] <;> omega)))) | ((with_reducible refine W2.o ?_; constructor); · (first | (with_reducible assumption) | (first | omega | (simp only [lens] <;> omega)))) | ((with_reducible refine W3.o ?_; constructor); · (first | (with_reducible assumption) | (first | omega | (simp only [lens] <;> omega)))) | ((with_reducible refine W4.o ?_; constructor); · (first | (with_reducible first | assumption | exact decide_eq_true rfl | exact sEq_self _) | ((with_reducible refine eqOK_i ?_); kernel_rfl))) | ((with_reducible refine iteB_f ?_ ?_); · (first | (with_reducible first | assumption | exact decide_eq_true rfl | exact sEq_self _) | ((with_reducible refine eqOK_i ?_); kernel_rfl))) | (with_reducible refine CD.wk_au ?_) | (with_reducible refine W5.o ?_; constructor) | ((with_reducible refine W6.o ?_; constructor) <;> intro hB))
        all_goals ((conv => whnf); (try dsimp only); (try simp only [Nat.succ_eq_add_one, Nat.le_eq, castL_self]); (try omega))
        all_goals (try (first | omega | (simp only [lens] <;> omega)))
        all_goals trace_state
  · have he : i = cnt := Nat.le_antisymm hi hge
    subst he
    have hk : okB false t i = true := by rw [okB_eq]; exact ha
    repeat' ((conv => whnf); first | (with_reducible first | (refine W1.o ?_; constructor) | rfl | exact castL_self _ _) | ((with_reducible refine V.same_t ?_); exact rfl) | ((with_reducible refine andB_room ?_ ?_ ?_); (· kernel_rfl); (· (first | omega | (simp only [lens] <;> omega)))) | ((with_reducible refine W2.o ?_; constructor); · (first | (with_reducible assumption) | (first | omega | (simp only [lens] <;> omega)))) | ((with_reducible refine W3.o ?_; constructor); · (first | (with_reducible assumption) | (first | omega | (simp only [lens] <;> omega)))) | ((with_reducible refine W4.o ?_; constructor); · (first | (with_reducible first | assumption | exact decide_eq_true rfl | exact sEq_self _) | ((with_reducible refine eqOK_i ?_); kernel_rfl))) | ((with_reducible refine iteB_f ?_ ?_); · (first | (with_reducible first | assumption | exact decide_eq_true rfl | exact sEq_self _) | ((with_reducible refine eqOK_i ?_); kernel_rfl))) | (with_reducible refine CD.wk_au ?_) | (with_reducible refine W5.o ?_; constructor) | ((with_reducible refine W6.o ?_; constructor) <;> intro hB))
    all_goals ((conv => whnf); (try dsimp only); (try simp only [Nat.succ_eq_add_one, Nat.le_eq, castL_self]); (try omega))
    all_goals (try (first | omega | (simp only [lens] <;> omega)))
    all_goals trace_state
end Go.Proofs.Ytlfhiophojahbaa
end

section
namespace Go.Proofs.Ytlfhiophojahbaa
open Go.Sym
set_option linter.unusedVariables false
set_option linter.unusedSimpArgs false
set_option maxRecDepth 100000
set_option maxHeartbeats 4000000

def leafT (t : ByteArray) : Bool := decide (bAt t 0 = 1)
def cntT (t : ByteArray) : Nat := lenP t 1
noncomputable def readP (s : ByteArray) : Prop := openI s = true ∧ s.size = 256 ∧ okB (leafT (openS s)) (openS s) (cntT (openS s)) = true
noncomputable def nodK (s : ByteArray) : List ByteArray := stK (leafT (openS s)) (openS s) (cntT (openS s))
noncomputable def nodX (s : ByteArray) : List ByteArray := stX (leafT (openS s)) (openS s) (cntT (openS s))
noncomputable def nodC (s : ByteArray) : List Int := stC (leafT (openS s)) (openS s) (cntT (openS s))
def decP (s : ByteArray) : Prop := readP s ∧ fitP (leafT (openS s)) (nodK s) (nodX s) (nodC s) ∧ encS (leafT (openS s)) (nodK s) (nodX s) (nodC s) = s
open Classical in
noncomputable def decL : ByteArray → Bool := hide fun s => if decP s then leafT (openS s) else false
open Classical in
noncomputable def decK : ByteArray → List ByteArray := hide fun s => if decP s then nodK s else []
open Classical in
noncomputable def decX : ByteArray → List ByteArray := hide fun s => if decP s then nodX s else []
open Classical in
noncomputable def decC : ByteArray → List Int := hide fun s => if decP s then nodC s else []
open Classical in
noncomputable def decE : ByteArray → Int := hide fun s => if decP s then 0 else 8
theorem dec_no {s : ByteArray} (h : ¬ decP s) : decL s = false ∧ decK s = [] ∧ decX s = [] ∧ decC s = [] ∧ decE s = 8 := by
  unfold decL decK decX decC decE
  rw [hide_eq, hide_eq, hide_eq, hide_eq, hide_eq]
  exact ⟨if_neg h, if_neg h, if_neg h, if_neg h, if_neg h⟩
theorem dec_yes {s : ByteArray} (h : decP s) : decL s = leafT (openS s) ∧ decK s = nodK s ∧ decX s = nodX s ∧ decC s = nodC s ∧ decE s = 0 := by
  unfold decL decK decX decC decE
  rw [hide_eq, hide_eq, hide_eq, hide_eq, hide_eq]
  exact ⟨if_pos h, if_pos h, if_pos h, if_pos h, if_pos h⟩
theorem nil_node {ρ : Env} : ∀ X, VRel ρ (.tup [.agg [.bool false, .nils, .nils, .nils], .int .i64 8]) X → VRel ρ (.tup [nodeV false [] [] [], .int .i64 8]) X :=
  tup_of (LRel.cons_of (node_rel rfl rfl rfl) fun _ h => h)
theorem decode_at (s : ByteArray) (hs : s.size ≤ 300) : PureAt Try.prog 10 [.str s] (.tup [nodeV (decL s) (decK s) (decX s) (decC s), .int .i64 (decE s)]) := by
  cases ho : openI s with
  | false =>
    have hn : ¬ decP s := fun h => by rw [h.1.1] at ho; cases ho
    obtain ⟨e1, e2, e3, e4, e5⟩ := dec_no hn
    rw [e1, e2, e3, e4, e5]
    refine PureAt.val (v := .tup [.agg [.bool false, .nils, .nils, .nils], .int .i64 8]) ?_ fun φ => nil_node
    refine pure_of_W0 (tab := tabPgI) (fuel := 3) (d := 6) tabPgI_ok ?_
    repeat' ((conv => whnf); first | (with_reducible first | (refine W1.o ?_; constructor) | rfl | exact castL_self _ _) | ((with_reducible refine V.same_t ?_); exact rfl) | ((with_reducible refine andB_room ?_ ?_ ?_); (· kernel_rfl); (· (first | omega | (simp only [lens] <;> omega)))) | ((with_reducible refine W2.o ?_; constructor); · (first | (with_reducible assumption) | (first | omega | (simp only [lens] <;> omega)))) | ((with_reducible refine W3.o ?_; constructor); · (first | (with_reducible assumption) | (first | omega | (simp only [lens] <;> omega)))) | ((with_reducible refine W4.o ?_; constructor); · (first | (with_reducible first | assumption | exact decide_eq_true rfl | exact sEq_self _) | ((with_reducible refine eqOK_i ?_); kernel_rfl) | (exact ho))) | ((with_reducible refine iteB_f ?_ ?_); · (first | (with_reducible first | assumption | exact decide_eq_true rfl | exact sEq_self _) | ((with_reducible refine eqOK_i ?_); kernel_rfl) | (exact ho))) | (with_reducible refine W5.o ?_; constructor) | ((with_reducible refine W6.o ?_; constructor) <;> intro hB))
    all_goals ((conv => whnf); (try dsimp only); (try simp only [Nat.succ_eq_add_one, Nat.le_eq, castL_self]); (try omega))
    all_goals (try (first | omega | (simp only [lens] <;> omega)))
    all_goals rfl
  | true =>
    have hz := openS_size s ho
    by_cases h6 : s.size = 256
    · have ht : (openS s).size = 252 := by omega
      have eT : openS s = restS (openS s) 0 := (restS_0 _).symm
      have p0 : (cutS (openS s) (Int.toNat 1) (ByteArray.size (openS s))) = restS (openS s) 1 := by
        have := cut_ext (openS s) 0 1
        rw [restS_0] at this
        exact this
      have p1 : (cutS (cutS (openS s) (Int.toNat 1) (ByteArray.size (openS s))) (Int.toNat 1) (ByteArray.size (cutS (openS s) (Int.toNat 1) (ByteArray.size (openS s))))) = restS (openS s) 2 := by rw [p0]; exact cut_ext (openS s) 1 1
      have sp0 : ByteArray.size (cutS (openS s) (Int.toNat 1) (ByteArray.size (openS s))) = 251 := by rw [p0, restS_size]; omega
      have a0 : (bAt (cutS (openS s) 0 (Int.toNat 1)) (Int.toNat 0)) = bAt (openS s) 0 := by
        have := cut_at (openS s) 0 1 0 (by omega) (by decide)
        rw [restS_0] at this
        exact this
      have a1 : (bAt (cutS (cutS (openS s) (Int.toNat 1) (ByteArray.size (openS s))) 0 (Int.toNat 1)) (Int.toNat 0)) = (cntT (openS s) : Int) := by rw [p0]; exact cut_len (openS s) 1 (by omega)
      have hcnt : cntT (openS s) ≤ 255 := by have := lenP_lt (openS s) 1; unfold cntT; omega
      by_cases hl : bAt (openS s) 0 = 1
      · have eL : leafT (openS s) = true := decide_eq_true hl
        rw [← a0] at hl
        have f0 : decide (@Eq Int (bAt (cutS (openS s) 0 (Int.toNat 1)) (Int.toNat 0)) 1) = true := decide_eq_true hl
        have hls : ∀ N, ∀ y ∈ [(⟨12, [(0, 0), (1, 1), (2, 2), (3, 3)], dcC true s (openS s) (cntT (openS s)) 0, dcO true s (openS s) (cntT (openS s))⟩ : LpD)], y.ok Try.prog N 0 (bodyOf Try.prog 10) := fun N y hy => by
          rw [List.mem_singleton.1 hy]
          exact dc_leaf s (openS s) (cntT (openS s)) ht hcnt N
        have r0 := runP_0 true (openS s)
        obtain ⟨i1, i2, i3, i4⟩ := st_of r0
        have y2 : (cutS (cutS (openS s) (Int.toNat 1) (ByteArray.size (openS s))) (Int.toNat 1) (ByteArray.size (cutS (openS s) (Int.toNat 1) (ByteArray.size (openS s))))) = restS (openS s) (stO true (openS s) 0) := by rw [i4]; exact p1
        have y5 := y2
        have z1 : (stK true (openS s) 0).length = 0 := by rw [i1]; rfl
        have z2 : (stX true (openS s) 0).length = 0 := by rw [i2]; rfl
        have z3 : (stC true (openS s) 0).length = 0 := by rw [i3]; rfl
        cases hk : okB true (openS s) (cntT (openS s)) with
        | false =>
          have hn : ¬ decP s := fun h => by
            have := h.1.2.2
            rw [eL, hk] at this
            cases this
          obtain ⟨e1, e2, e3, e4, e5⟩ := dec_no hn
          rw [e1, e2, e3, e4, e5]
          refine PureAt.val (v := .tup [.agg [.bool false, .nils, .nils, .nils], .int .i64 8]) ?_ fun φ => nil_node
          refine pure_of_loops tabPgI_ok (fuel := 3) (d := 6) _ hls ?_
          repeat' ((conv => whnf); first | (with_reducible first | (refine W1.o ?_; constructor) | rfl | exact castL_self _ _) | ((with_reducible refine V.same_t ?_); exact rfl) | ((with_reducible refine andB_room ?_ ?_ ?_); (· kernel_rfl); (· (first | omega | (simp only [lens] <;> omega)))) | ((with_reducible refine W2.o ?_; constructor); · (first | (with_reducible assumption) | (first | omega | (simp only [lens] <;> omega)))) | ((with_reducible refine W3.o ?_; constructor); · (first | (with_reducible assumption) | (first | omega | (simp only [lens] <;> omega)))) | ((with_reducible refine W4.o ?_; constructor); · (first | (with_reducible first | assumption | exact decide_eq_true rfl | exact sEq_self _) | ((with_reducible refine eqOK_i ?_); kernel_rfl) | (first | exact ho | exact f0))) | ((with_reducible refine iteB_f ?_ ?_); · (first | (with_reducible first | assumption | exact decide_eq_true rfl | exact sEq_self _) | ((with_reducible refine eqOK_i ?_); kernel_rfl) | (first | exact ho | exact f0))) | (with_reducible refine CD.wk_au ?_) | (with_reducible refine W5.o ?_; constructor) | ((with_reducible refine W6.o ?_; constructor) <;> intro hB))
          all_goals ((conv => whnf); (try dsimp only); (try simp only [Nat.succ_eq_add_one, Nat.le_eq, castL_self]); (try omega))
          all_goals (try (first | omega | (simp only [lens] <;> omega)))
          all_goals first
            | rfl
            | exact z1
            | exact z2
            | exact z3
            | exact y2
            | exact y5
            | exact f0
            | omega
            | trace_state
        | true =>
          have hsome : (runP true (openS s) (cntT (openS s))).isSome = true := by rw [← okB_eq]; exact hk
          obtain ⟨q1, q2, q3, q4, q5⟩ := runP_in (by omega) _ (runP_st4 hsome)
          dsimp only at q1 q2 q3 q4 q5
          have eK : (seg (stK true (openS s) (cntT (openS s))) 0 (List.length (stK true (openS s) (cntT (openS s))))) = stK true (openS s) (cntT (openS s)) := seg_all _ rfl
          have eX : (seg (stX true (openS s) (cntT (openS s))) 0 (List.length (stX true (openS s) (cntT (openS s))))) = stX true (openS s) (cntT (openS s)) := seg_all _ rfl
          have eC : (seg (stC true (openS s) (cntT (openS s))) 0 (List.length (stC true (openS s) (cntT (openS s))))) = stC true (openS s) (cntT (openS s)) := seg_all _ rfl
          have l1 : List.length (seg (stK true (openS s) (cntT (openS s))) 0 (List.length (stK true (openS s) (cntT (openS s))))) ≤ 4611686018427387904 := by rw [eK]; omega
          have l2 : List.length (seg (stX true (openS s) (cntT (openS s))) 0 (List.length (stX true (openS s) (cntT (openS s))))) ≤ 4611686018427387904 := by rw [eX]; omega
          have l3 : List.length (seg (stC true (openS s) (cntT (openS s))) 0 (List.length (stC true (openS s) (cntT (openS s))))) ≤ 4611686018427387904 := by rw [eC]; omega
          have dK : nodK s = stK true (openS s) (cntT (openS s)) := by unfold nodK; rw [eL]
          have dX : nodX s = stX true (openS s) (cntT (openS s)) := by unfold nodX; rw [eL]
          have dC : nodC s = stC true (openS s) (cntT (openS s)) := by unfold nodC; rw [eL]
          by_cases hf : fitP true (seg (stK true (openS s) (cntT (openS s))) 0 (List.length (stK true (openS s) (cntT (openS s))))) (seg (stX true (openS s) (cntT (openS s))) 0 (List.length (stX true (openS s) (cntT (openS s))))) (seg (stC true (openS s) (cntT (openS s))) 0 (List.length (stC true (openS s) (cntT (openS s)))))
          · have g1 := encE_0 hf
            by_cases he : encS true (seg (stK true (openS s) (cntT (openS s))) 0 (List.length (stK true (openS s) (cntT (openS s))))) (seg (stX true (openS s) (cntT (openS s))) 0 (List.length (stX true (openS s) (cntT (openS s))))) (seg (stC true (openS s) (cntT (openS s))) 0 (List.length (stC true (openS s) (cntT (openS s))))) = s
            · have g2 : sEq (encS true (seg (stK true (openS s) (cntT (openS s))) 0 (List.length (stK true (openS s) (cntT (openS s))))) (seg (stX true (openS s) (cntT (openS s))) 0 (List.length (stX true (openS s) (cntT (openS s))))) (seg (stC true (openS s) (cntT (openS s))) 0 (List.length (stC true (openS s) (cntT (openS s)))))) s = true := decide_eq_true he
              have hd : decP s := by
                refine ⟨⟨ho, h6, by rw [eL]; exact hk⟩, ?_, ?_⟩
                · rw [eL, dK, dX, dC, ← eK, ← eX, ← eC]; exact hf
                · rw [eL, dK, dX, dC, ← eK, ← eX, ← eC]; exact he
              obtain ⟨e1, e2, e3, e4, e5⟩ := dec_yes hd
              rw [e1, e2, e3, e4, e5, eL, dK, dX, dC]
              refine pure_of_loops tabPgI_ok (fuel := 3) (d := 6) _ hls ?_
              repeat' ((conv => whnf); first | (with_reducible first | (refine W1.o ?_; constructor) | rfl | exact castL_self _ _) | ((with_reducible refine V.same_t ?_); exact rfl) | ((with_reducible refine andB_room ?_ ?_ ?_); (· kernel_rfl); (· (first | omega | (simp only [lens] <;> omega)))) | ((with_reducible refine W2.o ?_; constructor); · (first | (with_reducible assumption) | (first | omega | (simp only [lens] <;> omega)))) | ((with_reducible refine W3.o ?_; constructor); · (first | (with_reducible assumption) | (first | omega | (simp only [lens] <;> omega)))) | ((with_reducible refine W4.o ?_; constructor); · (first | (with_reducible first | assumption | exact decide_eq_true rfl | exact sEq_self _) | ((with_reducible refine eqOK_i ?_); kernel_rfl) | (first | exact ho | exact f0 | exact g2))) | ((with_reducible refine iteB_f ?_ ?_); · (first | (with_reducible first | assumption | exact decide_eq_true rfl | exact sEq_self _) | ((with_reducible refine eqOK_i ?_); kernel_rfl) | (first | exact ho | exact f0 | exact g2))) | (with_reducible refine CD.wk_au ?_) | (with_reducible refine W5.o ?_; constructor) | ((with_reducible refine W6.o ?_; constructor) <;> intro hB))
              all_goals ((conv => whnf); (try dsimp only); (try simp only [Nat.succ_eq_add_one, Nat.le_eq, castL_self]); (try omega))
              all_goals (try (first | omega | (simp only [lens] <;> omega)))
              all_goals first
                | rfl
                | exact z1
                | exact z2
                | exact z3
                | exact y2
                | exact y5
                | exact f0
                | omega
                | (rw [eK, eX, eC])
                | trace_state
            · have g2 : sEq (encS true (seg (stK true (openS s) (cntT (openS s))) 0 (List.length (stK true (openS s) (cntT (openS s))))) (seg (stX true (openS s) (cntT (openS s))) 0 (List.length (stX true (openS s) (cntT (openS s))))) (seg (stC true (openS s) (cntT (openS s))) 0 (List.length (stC true (openS s) (cntT (openS s)))))) s = false := decide_eq_false he
              have hn : ¬ decP s := fun h => he (by
                have := h.2.2
                rw [eL, dK, dX, dC, ← eK, ← eX, ← eC] at this
                exact this)
              obtain ⟨e1, e2, e3, e4, e5⟩ := dec_no hn
              rw [e1, e2, e3, e4, e5]
              refine PureAt.val (v := .tup [.agg [.bool false, .nils, .nils, .nils], .int .i64 8]) ?_ fun φ => nil_node
              refine pure_of_loops tabPgI_ok (fuel := 3) (d := 6) _ hls ?_
              repeat' ((conv => whnf); first | (with_reducible first | (refine W1.o ?_; constructor) | rfl | exact castL_self _ _) | ((with_reducible refine V.same_t ?_); exact rfl) | ((with_reducible refine andB_room ?_ ?_ ?_); (· kernel_rfl); (· (first | omega | (simp only [lens] <;> omega)))) | ((with_reducible refine W2.o ?_; constructor); · (first | (with_reducible assumption) | (first | omega | (simp only [lens] <;> omega)))) | ((with_reducible refine W3.o ?_; constructor); · (first | (with_reducible assumption) | (first | omega | (simp only [lens] <;> omega)))) | ((with_reducible refine W4.o ?_; constructor); · (first | (with_reducible first | assumption | exact decide_eq_true rfl | exact sEq_self _) | ((with_reducible refine eqOK_i ?_); kernel_rfl) | (first | exact ho | exact f0 | exact g2))) | ((with_reducible refine iteB_f ?_ ?_); · (first | (with_reducible first | assumption | exact decide_eq_true rfl | exact sEq_self _) | ((with_reducible refine eqOK_i ?_); kernel_rfl) | (first | exact ho | exact f0 | exact g2))) | (with_reducible refine CD.wk_au ?_) | (with_reducible refine W5.o ?_; constructor) | ((with_reducible refine W6.o ?_; constructor) <;> intro hB))
              all_goals ((conv => whnf); (try dsimp only); (try simp only [Nat.succ_eq_add_one, Nat.le_eq, castL_self]); (try omega))
              all_goals (try (first | omega | (simp only [lens] <;> omega)))
              all_goals first
                | rfl
                | exact z1
                | exact z2
                | exact z3
                | exact y2
                | exact y5
                | exact f0
                | omega
                | trace_state
          · have g1 : ¬ @Eq Int (encE true (seg (stK true (openS s) (cntT (openS s))) 0 (List.length (stK true (openS s) (cntT (openS s))))) (seg (stX true (openS s) (cntT (openS s))) 0 (List.length (stX true (openS s) (cntT (openS s))))) (seg (stC true (openS s) (cntT (openS s))) 0 (List.length (stC true (openS s) (cntT (openS s)))))) 0 := by
              by_cases hm : mayP true (seg (stK true (openS s) (cntT (openS s))) 0 (List.length (stK true (openS s) (cntT (openS s))))) (seg (stX true (openS s) (cntT (openS s))) 0 (List.length (stX true (openS s) (cntT (openS s))))) (seg (stC true (openS s) (cntT (openS s))) 0 (List.length (stC true (openS s) (cntT (openS s)))))
              · rw [encE_3 hm (fun h => hf ⟨hm, h⟩)]; decide
              · rw [encE_2 hm]; decide
            have hn : ¬ decP s := fun h => hf (by
              have := h.2.1
              rw [eL, dK, dX, dC, ← eK, ← eX, ← eC] at this
              exact this)
            obtain ⟨e1, e2, e3, e4, e5⟩ := dec_no hn
            rw [e1, e2, e3, e4, e5]
            refine PureAt.val (v := .tup [.agg [.bool false, .nils, .nils, .nils], .int .i64 8]) ?_ fun φ => nil_node
            refine pure_of_loops tabPgI_ok (fuel := 3) (d := 6) _ hls ?_
            repeat' ((conv => whnf); first | (with_reducible first | (refine W1.o ?_; constructor) | rfl | exact castL_self _ _) | ((with_reducible refine V.same_t ?_); exact rfl) | ((with_reducible refine andB_room ?_ ?_ ?_); (· kernel_rfl); (· (first | omega | (simp only [lens] <;> omega)))) | ((with_reducible refine W2.o ?_; constructor); · (first | (with_reducible assumption) | (first | omega | (simp only [lens] <;> omega)))) | ((with_reducible refine W3.o ?_; constructor); · (first | (with_reducible assumption) | (first | omega | (simp only [lens] <;> omega)))) | ((with_reducible refine W4.o ?_; constructor); · (first | (with_reducible first | assumption | exact decide_eq_true rfl | exact sEq_self _) | ((with_reducible refine eqOK_i ?_); kernel_rfl) | (first | exact ho | exact f0))) | ((with_reducible refine iteB_f ?_ ?_); · (first | (with_reducible first | assumption | exact decide_eq_true rfl | exact sEq_self _) | ((with_reducible refine eqOK_i ?_); kernel_rfl) | (first | exact ho | exact f0))) | (with_reducible refine CD.wk_au ?_) | (with_reducible refine W5.o ?_; constructor) | ((with_reducible refine W6.o ?_; constructor) <;> intro hB))
            all_goals ((conv => whnf); (try dsimp only); (try simp only [Nat.succ_eq_add_one, Nat.le_eq, castL_self]); (try omega))
            all_goals (try (first | omega | (simp only [lens] <;> omega)))
            all_goals first
              | rfl
              | exact z1
              | exact z2
              | exact z3
              | exact y2
              | exact y5
              | exact f0
              | omega
              | trace_state
      · have eL : leafT (openS s) = false := decide_eq_false hl
        rw [← a0] at hl
        have f0 : decide (@Eq Int (bAt (cutS (openS s) 0 (Int.toNat 1)) (Int.toNat 0)) 1) = false := decide_eq_false hl
        have hls : ∀ N, ∀ y ∈ [(⟨12, [(0, 0), (1, 1), (2, 2), (3, 3), (6, 5)], dcC false s (openS s) (cntT (openS s)) 0, dcO false s (openS s) (cntT (openS s))⟩ : LpD)], y.ok Try.prog N 0 (bodyOf Try.prog 10) := fun N y hy => by
          rw [List.mem_singleton.1 hy]
          exact dc_knot s (openS s) (cntT (openS s)) ht hcnt N
        have r0 := runP_0 false (openS s)
        obtain ⟨i1, i2, i3, i4⟩ := st_of r0
        have p2 : (cutS (cutS (cutS (openS s) (Int.toNat 1) (ByteArray.size (openS s))) (Int.toNat 1) (ByteArray.size (cutS (openS s) (Int.toNat 1) (ByteArray.size (openS s))))) (Int.toNat 4) (ByteArray.size (cutS (cutS (openS s) (Int.toNat 1) (ByteArray.size (openS s))) (Int.toNat 1) (ByteArray.size (cutS (openS s) (Int.toNat 1) (ByteArray.size (openS s))))))) = restS (openS s) 6 := by rw [p1]; exact cut_ext (openS s) 2 4
        have sp1 : ByteArray.size (cutS (cutS (openS s) (Int.toNat 1) (ByteArray.size (openS s))) (Int.toNat 1) (ByteArray.size (cutS (openS s) (Int.toNat 1) (ByteArray.size (openS s))))) = 250 := by rw [p1, restS_size]; omega
        have c0 : bAt (cutS (cutS (cutS (openS s) (Int.toNat 1) (ByteArray.size (openS s))) (Int.toNat 1) (ByteArray.size (cutS (openS s) (Int.toNat 1) (ByteArray.size (openS s))))) 0 (Int.toNat 4)) (Int.toNat 0) = bAt (openS s) 2 := by rw [p1]; exact cut_at (openS s) 2 4 0 (by omega) (by decide)
        have c1 : bAt (cutS (cutS (cutS (openS s) (Int.toNat 1) (ByteArray.size (openS s))) (Int.toNat 1) (ByteArray.size (cutS (openS s) (Int.toNat 1) (ByteArray.size (openS s))))) 0 (Int.toNat 4)) (Int.toNat 1) = bAt (openS s) (2 + 1) := by rw [p1]; exact cut_at (openS s) 2 4 1 (by omega) (by decide)
        have c2 : bAt (cutS (cutS (cutS (openS s) (Int.toNat 1) (ByteArray.size (openS s))) (Int.toNat 1) (ByteArray.size (cutS (openS s) (Int.toNat 1) (ByteArray.size (openS s))))) 0 (Int.toNat 4)) (Int.toNat 2) = bAt (openS s) (2 + 2) := by rw [p1]; exact cut_at (openS s) 2 4 2 (by omega) (by decide)
        have c3 : bAt (cutS (cutS (cutS (openS s) (Int.toNat 1) (ByteArray.size (openS s))) (Int.toNat 1) (ByteArray.size (cutS (openS s) (Int.toNat 1) (ByteArray.size (openS s))))) 0 (Int.toNat 4)) (Int.toNat 3) = bAt (openS s) (2 + 3) := by rw [p1]; exact cut_at (openS s) 2 4 3 (by omega) (by decide)
        have m4 : or4 (bAt (cutS (cutS (cutS (openS s) (Int.toNat 1) (ByteArray.size (openS s))) (Int.toNat 1) (ByteArray.size (cutS (openS s) (Int.toNat 1) (ByteArray.size (openS s))))) 0 (Int.toNat 4)) (Int.toNat 0)) (bAt (cutS (cutS (cutS (openS s) (Int.toNat 1) (ByteArray.size (openS s))) (Int.toNat 1) (ByteArray.size (cutS (openS s) (Int.toNat 1) (ByteArray.size (openS s))))) 0 (Int.toNat 4)) (Int.toNat 1)) (bAt (cutS (cutS (cutS (openS s) (Int.toNat 1) (ByteArray.size (openS s))) (Int.toNat 1) (ByteArray.size (cutS (openS s) (Int.toNat 1) (ByteArray.size (openS s))))) 0 (Int.toNat 4)) (Int.toNat 2)) (bAt (cutS (cutS (cutS (openS s) (Int.toNat 1) (ByteArray.size (openS s))) (Int.toNat 1) (ByteArray.size (cutS (openS s) (Int.toNat 1) (ByteArray.size (openS s))))) 0 (Int.toNat 4)) (Int.toNat 3)) = n4 (openS s) 2 := by rw [c0, c1, c2, c3]; rfl
        have i3 : stC false (openS s) 0 = [n4 (openS s) 2] := i3
        have y2 : (cutS (cutS (cutS (openS s) (Int.toNat 1) (ByteArray.size (openS s))) (Int.toNat 1) (ByteArray.size (cutS (openS s) (Int.toNat 1) (ByteArray.size (openS s))))) (Int.toNat 4) (ByteArray.size (cutS (cutS (openS s) (Int.toNat 1) (ByteArray.size (openS s))) (Int.toNat 1) (ByteArray.size (cutS (openS s) (Int.toNat 1) (ByteArray.size (openS s))))))) = restS (openS s) (stO false (openS s) 0) := by rw [i4]; exact p2
        have y5 : seg [or4 (bAt (cutS (cutS (cutS (openS s) (Int.toNat 1) (ByteArray.size (openS s))) (Int.toNat 1) (ByteArray.size (cutS (openS s) (Int.toNat 1) (ByteArray.size (openS s))))) 0 (Int.toNat 4)) (Int.toNat 0)) (bAt (cutS (cutS (cutS (openS s) (Int.toNat 1) (ByteArray.size (openS s))) (Int.toNat 1) (ByteArray.size (cutS (openS s) (Int.toNat 1) (ByteArray.size (openS s))))) 0 (Int.toNat 4)) (Int.toNat 1)) (bAt (cutS (cutS (cutS (openS s) (Int.toNat 1) (ByteArray.size (openS s))) (Int.toNat 1) (ByteArray.size (cutS (openS s) (Int.toNat 1) (ByteArray.size (openS s))))) 0 (Int.toNat 4)) (Int.toNat 2)) (bAt (cutS (cutS (cutS (openS s) (Int.toNat 1) (ByteArray.size (openS s))) (Int.toNat 1) (ByteArray.size (cutS (openS s) (Int.toNat 1) (ByteArray.size (openS s))))) 0 (Int.toNat 4)) (Int.toNat 3))] 0 1 = stC false (openS s) 0 := by rw [seg_one, m4, i3]
        have b0 : 0 ≤ (bAt (cutS (openS s) 0 (Int.toNat 1)) (Int.toNat 0)) ∧ (bAt (cutS (openS s) 0 (Int.toNat 1)) (Int.toNat 0)) < 256 := bAt_in _ _
        have z1 : (stK false (openS s) 0).length = 0 := by rw [i1]; rfl
        have z2 : (stX false (openS s) 0).length = 0 := by rw [i2]; rfl
        have z3 : (stC false (openS s) 0).length = 1 := by rw [i3]; rfl
        cases hk : okB false (openS s) (cntT (openS s)) with
        | false =>
          have hn : ¬ decP s := fun h => by
            have := h.1.2.2
            rw [eL, hk] at this
            cases this
          obtain ⟨e1, e2, e3, e4, e5⟩ := dec_no hn
          rw [e1, e2, e3, e4, e5]
          refine PureAt.val (v := .tup [.agg [.bool false, .nils, .nils, .nils], .int .i64 8]) ?_ fun φ => nil_node
          refine pure_of_loops tabPgI_ok (fuel := 3) (d := 6) _ hls ?_
          repeat' ((conv => whnf); first | (with_reducible first | (refine W1.o ?_; constructor) | rfl | exact castL_self _ _) | ((with_reducible refine V.same_t ?_); exact rfl) | ((with_reducible refine andB_room ?_ ?_ ?_); (· kernel_rfl); (· (first | omega | (simp only [lens] <;> omega)))) | ((with_reducible refine W2.o ?_; constructor); · (first | (with_reducible assumption) | (first | omega | (simp only [lens] <;> omega)))) | ((with_reducible refine W3.o ?_; constructor); · (first | (with_reducible assumption) | (first | omega | (simp only [lens] <;> omega)))) | ((with_reducible refine W4.o ?_; constructor); · (first | (with_reducible first | assumption | exact decide_eq_true rfl | exact sEq_self _) | ((with_reducible refine eqOK_i ?_); kernel_rfl) | (first | exact ho | exact f0))) | ((with_reducible refine iteB_f ?_ ?_); · (first | (with_reducible first | assumption | exact decide_eq_true rfl | exact sEq_self _) | ((with_reducible refine eqOK_i ?_); kernel_rfl) | (first | exact ho | exact f0))) | (with_reducible refine CD.wk_au ?_) | (with_reducible refine W5.o ?_; constructor) | ((with_reducible refine W6.o ?_; constructor) <;> intro hB))
          all_goals ((conv => whnf); (try dsimp only); (try simp only [Nat.succ_eq_add_one, Nat.le_eq, castL_self]); (try omega))
          all_goals (try (first | omega | (simp only [lens] <;> omega)))
          all_goals first
            | rfl
            | exact z1
            | exact z2
            | exact z3
            | exact y2
            | exact y5
            | exact f0
            | omega
            | trace_state
        | true =>
          have hsome : (runP false (openS s) (cntT (openS s))).isSome = true := by rw [← okB_eq]; exact hk
          obtain ⟨q1, q2, q3, q4, q5⟩ := runP_in (by omega) _ (runP_st4 hsome)
          dsimp only at q1 q2 q3 q4 q5
          have eK : (seg (stK false (openS s) (cntT (openS s))) 0 (List.length (stK false (openS s) (cntT (openS s))))) = stK false (openS s) (cntT (openS s)) := seg_all _ rfl
          have eX : (seg (stX false (openS s) (cntT (openS s))) 0 (List.length (stX false (openS s) (cntT (openS s))))) = stX false (openS s) (cntT (openS s)) := seg_all _ rfl
          have eC : (seg (stC false (openS s) (cntT (openS s))) 0 (List.length (stC false (openS s) (cntT (openS s))))) = stC false (openS s) (cntT (openS s)) := seg_all _ rfl
          have l1 : List.length (seg (stK false (openS s) (cntT (openS s))) 0 (List.length (stK false (openS s) (cntT (openS s))))) ≤ 4611686018427387904 := by rw [eK]; omega
          have l2 : List.length (seg (stX false (openS s) (cntT (openS s))) 0 (List.length (stX false (openS s) (cntT (openS s))))) ≤ 4611686018427387904 := by rw [eX]; omega
          have l3 : List.length (seg (stC false (openS s) (cntT (openS s))) 0 (List.length (stC false (openS s) (cntT (openS s))))) ≤ 4611686018427387904 := by rw [eC]; omega
          have dK : nodK s = stK false (openS s) (cntT (openS s)) := by unfold nodK; rw [eL]
          have dX : nodX s = stX false (openS s) (cntT (openS s)) := by unfold nodX; rw [eL]
          have dC : nodC s = stC false (openS s) (cntT (openS s)) := by unfold nodC; rw [eL]
          by_cases hf : fitP false (seg (stK false (openS s) (cntT (openS s))) 0 (List.length (stK false (openS s) (cntT (openS s))))) (seg (stX false (openS s) (cntT (openS s))) 0 (List.length (stX false (openS s) (cntT (openS s))))) (seg (stC false (openS s) (cntT (openS s))) 0 (List.length (stC false (openS s) (cntT (openS s)))))
          · have g1 := encE_0 hf
            by_cases he : encS false (seg (stK false (openS s) (cntT (openS s))) 0 (List.length (stK false (openS s) (cntT (openS s))))) (seg (stX false (openS s) (cntT (openS s))) 0 (List.length (stX false (openS s) (cntT (openS s))))) (seg (stC false (openS s) (cntT (openS s))) 0 (List.length (stC false (openS s) (cntT (openS s))))) = s
            · have g2 : sEq (encS false (seg (stK false (openS s) (cntT (openS s))) 0 (List.length (stK false (openS s) (cntT (openS s))))) (seg (stX false (openS s) (cntT (openS s))) 0 (List.length (stX false (openS s) (cntT (openS s))))) (seg (stC false (openS s) (cntT (openS s))) 0 (List.length (stC false (openS s) (cntT (openS s)))))) s = true := decide_eq_true he
              have hd : decP s := by
                refine ⟨⟨ho, h6, by rw [eL]; exact hk⟩, ?_, ?_⟩
                · rw [eL, dK, dX, dC, ← eK, ← eX, ← eC]; exact hf
                · rw [eL, dK, dX, dC, ← eK, ← eX, ← eC]; exact he
              obtain ⟨e1, e2, e3, e4, e5⟩ := dec_yes hd
              rw [e1, e2, e3, e4, e5, eL, dK, dX, dC]
              refine pure_of_loops tabPgI_ok (fuel := 3) (d := 6) _ hls ?_
              repeat' ((conv => whnf); first | (with_reducible first | (refine W1.o ?_; constructor) | rfl | exact castL_self _ _) | ((with_reducible refine V.same_t ?_); exact rfl) | ((with_reducible refine andB_room ?_ ?_ ?_); (· kernel_rfl); (· (first | omega | (simp only [lens] <;> omega)))) | ((with_reducible refine W2.o ?_; constructor); · (first | (with_reducible assumption) | (first | omega | (simp only [lens] <;> omega)))) | ((with_reducible refine W3.o ?_; constructor); · (first | (with_reducible assumption) | (first | omega | (simp only [lens] <;> omega)))) | ((with_reducible refine W4.o ?_; constructor); · (first | (with_reducible first | assumption | exact decide_eq_true rfl | exact sEq_self _) | ((with_reducible refine eqOK_i ?_); kernel_rfl) | (first | exact ho | exact f0 | exact g2))) | ((with_reducible refine iteB_f ?_ ?_); · (first | (with_reducible first | assumption | exact decide_eq_true rfl | exact sEq_self _) | ((with_reducible refine eqOK_i ?_); kernel_rfl) | (first | exact ho | exact f0 | exact g2))) | (with_reducible refine CD.wk_au ?_) | (with_reducible refine W5.o ?_; constructor) | ((with_reducible refine W6.o ?_; constructor) <;> intro hB))
              all_goals ((conv => whnf); (try dsimp only); (try simp only [Nat.succ_eq_add_one, Nat.le_eq, castL_self]); (try omega))
              all_goals (try (first | omega | (simp only [lens] <;> omega)))
              all_goals first
                | rfl
                | exact z1
                | exact z2
                | exact z3
                | exact y2
                | exact y5
                | exact f0
                | omega
                | (rw [eK, eX, eC])
                | trace_state
            · have g2 : sEq (encS false (seg (stK false (openS s) (cntT (openS s))) 0 (List.length (stK false (openS s) (cntT (openS s))))) (seg (stX false (openS s) (cntT (openS s))) 0 (List.length (stX false (openS s) (cntT (openS s))))) (seg (stC false (openS s) (cntT (openS s))) 0 (List.length (stC false (openS s) (cntT (openS s)))))) s = false := decide_eq_false he
              have hn : ¬ decP s := fun h => he (by
                have := h.2.2
                rw [eL, dK, dX, dC, ← eK, ← eX, ← eC] at this
                exact this)
              obtain ⟨e1, e2, e3, e4, e5⟩ := dec_no hn
              rw [e1, e2, e3, e4, e5]
              refine PureAt.val (v := .tup [.agg [.bool false, .nils, .nils, .nils], .int .i64 8]) ?_ fun φ => nil_node
              refine pure_of_loops tabPgI_ok (fuel := 3) (d := 6) _ hls ?_
              repeat' ((conv => whnf); first | (with_reducible first | (refine W1.o ?_; constructor) | rfl | exact castL_self _ _) | ((with_reducible refine V.same_t ?_); exact rfl) | ((with_reducible refine andB_room ?_ ?_ ?_); (· kernel_rfl); (· (first | omega | (simp only [lens] <;> omega)))) | ((with_reducible refine W2.o ?_; constructor); · (first | (with_reducible assumption) | (first | omega | (simp only [lens] <;> omega)))) | ((with_reducible refine W3.o ?_; constructor); · (first | (with_reducible assumption) | (first | omega | (simp only [lens] <;> omega)))) | ((with_reducible refine W4.o ?_; constructor); · (first | (with_reducible first | assumption | exact decide_eq_true rfl | exact sEq_self _) | ((with_reducible refine eqOK_i ?_); kernel_rfl) | (first | exact ho | exact f0 | exact g2))) | ((with_reducible refine iteB_f ?_ ?_); · (first | (with_reducible first | assumption | exact decide_eq_true rfl | exact sEq_self _) | ((with_reducible refine eqOK_i ?_); kernel_rfl) | (first | exact ho | exact f0 | exact g2))) | (with_reducible refine CD.wk_au ?_) | (with_reducible refine W5.o ?_; constructor) | ((with_reducible refine W6.o ?_; constructor) <;> intro hB))
              all_goals ((conv => whnf); (try dsimp only); (try simp only [Nat.succ_eq_add_one, Nat.le_eq, castL_self]); (try omega))
              all_goals (try (first | omega | (simp only [lens] <;> omega)))
              all_goals first
                | rfl
                | exact z1
                | exact z2
                | exact z3
                | exact y2
                | exact y5
                | exact f0
                | omega
                | trace_state
          · have g1 : ¬ @Eq Int (encE false (seg (stK false (openS s) (cntT (openS s))) 0 (List.length (stK false (openS s) (cntT (openS s))))) (seg (stX false (openS s) (cntT (openS s))) 0 (List.length (stX false (openS s) (cntT (openS s))))) (seg (stC false (openS s) (cntT (openS s))) 0 (List.length (stC false (openS s) (cntT (openS s)))))) 0 := by
              by_cases hm : mayP false (seg (stK false (openS s) (cntT (openS s))) 0 (List.length (stK false (openS s) (cntT (openS s))))) (seg (stX false (openS s) (cntT (openS s))) 0 (List.length (stX false (openS s) (cntT (openS s))))) (seg (stC false (openS s) (cntT (openS s))) 0 (List.length (stC false (openS s) (cntT (openS s)))))
              · rw [encE_3 hm (fun h => hf ⟨hm, h⟩)]; decide
              · rw [encE_2 hm]; decide
            have hn : ¬ decP s := fun h => hf (by
              have := h.2.1
              rw [eL, dK, dX, dC, ← eK, ← eX, ← eC] at this
              exact this)
            obtain ⟨e1, e2, e3, e4, e5⟩ := dec_no hn
            rw [e1, e2, e3, e4, e5]
            refine PureAt.val (v := .tup [.agg [.bool false, .nils, .nils, .nils], .int .i64 8]) ?_ fun φ => nil_node
            refine pure_of_loops tabPgI_ok (fuel := 3) (d := 6) _ hls ?_
            repeat' ((conv => whnf); first | (with_reducible first | (refine W1.o ?_; constructor) | rfl | exact castL_self _ _) | ((with_reducible refine V.same_t ?_); exact rfl) | ((with_reducible refine andB_room ?_ ?_ ?_); (· kernel_rfl); (· (first | omega | (simp only [lens] <;> omega)))) | ((with_reducible refine W2.o ?_; constructor); · (first | (with_reducible assumption) | (first | omega | (simp only [lens] <;> omega)))) | ((with_reducible refine W3.o ?_; constructor); · (first | (with_reducible assumption) | (first | omega | (simp only [lens] <;> omega)))) | ((with_reducible refine W4.o ?_; constructor); · (first | (with_reducible first | assumption | exact decide_eq_true rfl | exact sEq_self _) | ((with_reducible refine eqOK_i ?_); kernel_rfl) | (first | exact ho | exact f0))) | ((with_reducible refine iteB_f ?_ ?_); · (first | (with_reducible first | assumption | exact decide_eq_true rfl | exact sEq_self _) | ((with_reducible refine eqOK_i ?_); kernel_rfl) | (first | exact ho | exact f0))) | (with_reducible refine CD.wk_au ?_) | (with_reducible refine W5.o ?_; constructor) | ((with_reducible refine W6.o ?_; constructor) <;> intro hB))
            all_goals ((conv => whnf); (try dsimp only); (try simp only [Nat.succ_eq_add_one, Nat.le_eq, castL_self]); (try omega))
            all_goals (try (first | omega | (simp only [lens] <;> omega)))
            all_goals first
              | rfl
              | exact z1
              | exact z2
              | exact z3
              | exact y2
              | exact y5
              | exact f0
              | omega
              | trace_state
    · have hn : ¬ decP s := fun h => h6 h.1.2.1
      obtain ⟨e1, e2, e3, e4, e5⟩ := dec_no hn
      rw [e1, e2, e3, e4, e5]
      refine PureAt.val (v := .tup [.agg [.bool false, .nils, .nils, .nils], .int .i64 8]) ?_ fun φ => nil_node
      refine pure_of_W0 (tab := tabPgI) (fuel := 3) (d := 6) tabPgI_ok ?_
      repeat' ((conv => whnf); first | (with_reducible first | (refine W1.o ?_; constructor) | rfl | exact castL_self _ _) | ((with_reducible refine V.same_t ?_); exact rfl) | ((with_reducible refine andB_room ?_ ?_ ?_); (· kernel_rfl); (· (first | omega | (simp only [lens] <;> omega)))) | ((with_reducible refine W2.o ?_; constructor); · (first | (with_reducible assumption) | (first | omega | (simp only [lens] <;> omega)))) | ((with_reducible refine W3.o ?_; constructor); · (first | (with_reducible assumption) | (first | omega | (simp only [lens] <;> omega)))) | ((with_reducible refine W4.o ?_; constructor); · (first | (with_reducible first | assumption | exact decide_eq_true rfl | exact sEq_self _) | ((with_reducible refine eqOK_i ?_); kernel_rfl) | (exact ho))) | ((with_reducible refine iteB_f ?_ ?_); · (first | (with_reducible first | assumption | exact decide_eq_true rfl | exact sEq_self _) | ((with_reducible refine eqOK_i ?_); kernel_rfl) | (exact ho))) | (with_reducible refine W5.o ?_; constructor) | ((with_reducible refine W6.o ?_; constructor) <;> intro hB))
      all_goals ((conv => whnf); (try dsimp only); (try simp only [Nat.succ_eq_add_one, Nat.le_eq, castL_self]); (try omega))
      all_goals (try (first | omega | (simp only [lens] <;> omega)))
      all_goals rfl
end Go.Proofs.Ytlfhiophojahbaa
end

section
namespace Go.Proofs.Ytlfhiophojahbaa
open Go.Sym
set_option linter.unusedVariables false
set_option linter.unusedSimpArgs false
set_option maxRecDepth 100000
set_option maxHeartbeats 4000000

noncomputable def tabPgJ : Tab := oneTab 43 openF (oneTab 28 refencodeF noTab)
theorem tabPgJ_ok : TabOK Try.prog tabPgJ := oneTab_ok refopenF_ok (oneTab_ok refencodeF_ok noTab_ok)
section
variable (l : Bool) (s t : ByteArray) (cnt : Nat)
noncomputable def rdH (K X : List ByteArray) (C : List Int) : List (Nat × EObj) := [(0, .cells [.bool false, .nils, .nils, .nils] 0 false), (1, .cells [.bool l, .rs 2 0 K.length K.length false 1, .rs 3 0 X.length X.length false 1, .rs 4 0 C.length C.length false 1] 0 false), (2, .rows [.str] K 0 false), (3, .rows [.str] X 0 false), (4, .rows [.int .u32] C 0 false)]
noncomputable def rdD (i : Nat) (K X : List ByteArray) (C : List Int) (o : Nat) : CD := ⟨177, [(0, .str s), (2, .ptr 0 0), (3, .int .i64 0), (4, .str t), (6, .ptr 1 0), (7, .int .i64 (o : Int)), (8, .int .i64 (i : Int))], [], rdH l K X C, 5⟩
noncomputable def rdC (i : Nat) : CD := match i with
  | 0 => rdD l s t 0 [] [] [] 2
  | i + 1 => rdD l s t (i + 1) (stK l t i) (stX l t i) (stC l t i) (stO l t i)
noncomputable def rdO : OD := .ite (okB l t cnt) (.leaf (.exit 0) (rdC l s t (cnt + 1))) (.leaf .ret ⟨177, [(2, .ptr 0 0), (3, .int .i64 8)], [], [(0, .cells [.bool false, .nils, .nils, .nils] 0 false)], 1⟩)
end
theorem rd_leaf (s t : ByteArray) (ht : t.size = 252) (hlf : bAt t 0 = 1) (N : Nat) : LpD.ok Try.prog N 0 (bodyOf Try.prog 11) ⟨7, [(0, 0), (1, 1)], rdC true s t 0, rdO true s t (cntT t)⟩ := by
  have hc := lenP_lt t 1
  have ec : bAt t (Int.toNat 1) = (cntT t : Int) := bAt_len t 1
  have ec2 : cntT t = lenP t 1 := rfl
  refine LpD.ok_one (b := bodyAt Try.prog 11 7) rfl (loop_W tabPgJ_ok (fuel := 3) (d := 5) (X := { i : Nat // i ≤ cntT t + 1 ∧ (runP true t (i - 1)).isSome = true }) (fun x => rdC true s t x.1) (fun x => cntT t + 1 - x.1)
    (fun _ => rdO true s t (cntT t)) (fun _ => noLpW) (fun _ => noLp) (fun _ => noLp_ad) (fun _ => noLp_ok _) ?_ ⟨0, Nat.zero_le _, by rw [runP_0]; rfl⟩)
  rintro ⟨i, hi, ha⟩
  dsimp only
  match i, hi, ha with
  | 0, hi, ha =>
    have r0 := runP_0 true t
    obtain ⟨hK, hX, hC, hO⟩ := st_of r0
    have hK : stK true t 0 = [] := hK
    have hX : stX true t 0 = [] := hX
    have hC : stC true t 0 = [] := hC
    have hO : stO true t 0 = 2 := hO
    have ha' : (runP true t (0 + 1 - 1)).isSome = true := by rw [show 0 + 1 - 1 = 0 from rfl, r0]; rfl
    repeat' ((conv => whnf); first | (with_reducible first | (refine W1.o ?_; constructor) | rfl | exact castL_self _ _) | ((with_reducible refine V.same_t ?_); exact rfl) | ((with_reducible refine andB_room ?_ ?_ ?_); (· kernel_rfl); (· (first | omega | (simp only [lens] <;> omega)))) | ((with_reducible refine W2.o ?_; constructor); · (first | (with_reducible assumption) | (first | omega | (simp only [lens] <;> omega)))) | ((with_reducible refine W3.o ?_; constructor); · (first | (with_reducible assumption) | (first | omega | (simp only [lens] <;> omega)))) | ((with_reducible refine W4.o ?_; constructor); · (first | (with_reducible first | assumption | exact decide_eq_true rfl | exact sEq_self _) | ((with_reducible refine eqOK_i ?_); kernel_rfl))) | ((with_reducible refine iteB_f ?_ ?_); · (first | (with_reducible first | assumption | exact decide_eq_true rfl | exact sEq_self _) | ((with_reducible refine eqOK_i ?_); kernel_rfl))) | (refine ⟨⟨0 + 1, Nat.le_add_left _ _, ha'⟩, ?_, rfl, ?_⟩) | (with_reducible refine CD.wk_au ?_) | (with_reducible refine W5.o ?_; constructor) | ((with_reducible refine W6.o ?_; constructor) <;> intro hB))
    all_goals ((conv => whnf); (try dsimp only); (try simp only [Nat.succ_eq_add_one, Nat.le_eq, castL_self]); (try omega))
    all_goals (try (first | omega | (simp only [lens] <;> omega)))
    all_goals first
      | omega
      | (rw [hO]; rfl)
      | (rw [hK]; done)
      | (rw [hX]; done)
      | (rw [hC]; done)
      | (rw [hK]; exact Nat.le_refl _)
      | (rw [hX]; exact Nat.le_refl _)
      | (rw [hC]; exact Nat.le_refl _)
      | trace_state
  | i + 1, hi, ha =>
    have ha : (runP true t i).isSome = true := ha
    rcases Nat.lt_or_ge i (cntT t) with hlt | hge
    · have hst := runP_st4 ha
      obtain ⟨q1, q2, q3, q4, q5⟩ := runP_in (by omega) i hst
      dsimp only at q1 q2 q3 q4 q5
      have x0 : (bAt t (Int.toNat ((stO true t i) : Int))) = (lenP t (stO true t i) : Int) := bAt_len t (stO true t i)
      have hl0 := lenP_lt t (stO true t i)
      obtain ⟨o1, ho1⟩ : ∃ o1, (stO true t i) + 1 + lenP t (stO true t i) = o1 := ⟨_, rfl⟩
      have x1 : (bAt t (Int.toNat (((stO true t i) : Int) + 1 + (bAt t (Int.toNat ((stO true t i) : Int)))))) = (lenP t o1 : Int) := by rw [x0, show Int.toNat (((stO true t i) : Int) + 1 + (lenP t (stO true t i) : Int)) = o1 by omega]; exact bAt_len t o1
      have hl1 := lenP_lt t o1
      have k0 : (cutS t (Int.toNat (((stO true t i) : Int) + 1)) (Int.toNat (((stO true t i) : Int) + 1 + (bAt t (Int.toNat ((stO true t i) : Int)))))) = txS t (stO true t i) := by rw [cutS_eq, x0, show Int.toNat (((stO true t i) : Int) + 1 + (lenP t (stO true t i) : Int)) = (stO true t i) + 1 + lenP t (stO true t i) by omega, show Int.toNat (((stO true t i) : Int) + 1) = (stO true t i) + 1 by omega]; rfl
      by_cases h1 : txP t (stO true t i)
      · obtain ⟨g1, g2⟩ := h1
        by_cases h2 : txP t o1
        · have hs : runP true t (i + 1) = some (stK true t i ++ [txS t (stO true t i)], stX true t i ++ [txS t o1], stC true t i, o1 + 1 + lenP t o1) := by
            rw [runP_succ, hst]
            rw [← ho1] at h2 ⊢
            exact stepP_leaf ⟨g1, g2⟩ h2
          obtain ⟨hK, hX, hC, hO⟩ := st_of hs
          dsimp only at hK hX hC hO
          have ha' : (runP true t (i + 1 + 1 - 1)).isSome = true := by rw [show i + 1 + 1 - 1 = i + 1 from rfl, hs]; rfl
          obtain ⟨g3, g4⟩ := h2
          have k1 : (cutS t (Int.toNat ((((stO true t i) : Int) + 1 + (bAt t (Int.toNat ((stO true t i) : Int)))) + 1)) (Int.toNat ((((stO true t i) : Int) + 1 + (bAt t (Int.toNat ((stO true t i) : Int)))) + 1 + (bAt t (Int.toNat (((stO true t i) : Int) + 1 + (bAt t (Int.toNat ((stO true t i) : Int))))))))) = txS t o1 := by rw [cutS_eq, x1, x0, show Int.toNat (((stO true t i) : Int) + 1 + (lenP t (stO true t i) : Int) + 1 + (lenP t o1 : Int)) = o1 + 1 + lenP t o1 by omega, show Int.toNat (((stO true t i) : Int) + 1 + (lenP t (stO true t i) : Int) + 1) = o1 + 1 by omega]; rfl
          have m4 := x1
          repeat' ((conv => whnf); first | (with_reducible first | (refine W1.o ?_; constructor) | rfl | exact castL_self _ _) | ((with_reducible refine V.same_t ?_); exact rfl) | ((with_reducible refine andB_room ?_ ?_ ?_); (· kernel_rfl); (· (first | omega | (simp only [lens] <;> omega)))) | ((with_reducible refine W2.o ?_; constructor); · (first | (with_reducible assumption) | (first | omega | (simp only [lens] <;> omega)))) | ((with_reducible refine W3.o ?_; constructor); · (first | (with_reducible assumption) | (first | omega | (simp only [lens] <;> omega)))) | ((with_reducible refine W4.o ?_; constructor); · (first | (with_reducible first | assumption | exact decide_eq_true rfl | exact sEq_self _) | ((with_reducible refine eqOK_i ?_); kernel_rfl))) | ((with_reducible refine iteB_f ?_ ?_); · (first | (with_reducible first | assumption | exact decide_eq_true rfl | exact sEq_self _) | ((with_reducible refine eqOK_i ?_); kernel_rfl))) | (refine ⟨⟨i + 1 + 1, by omega, ha'⟩, ?_, rfl, ?_⟩) | (with_reducible refine CD.wk_au ?_) | (with_reducible refine W5.o ?_; constructor) | ((with_reducible refine W6.o ?_; constructor) <;> intro hB))
          all_goals ((conv => whnf); (try dsimp only); (try simp only [Nat.succ_eq_add_one, Nat.le_eq, castL_self]); (try omega))
          all_goals (try (first | omega | (simp only [lens] <;> omega)))
          all_goals first
            | omega
            | (rw [hC]; done)
            | (rw [hX]; done)
            | (rw [hC]; exact Nat.le_refl _)
            | (rw [hX]; exact Nat.le_refl _)
            | (rw [hO]; omega)
            | (simp only [hK, hX, hC, lens] <;> omega)
            | (rw [hK, k0, seg_all _ rfl]; rfl)
            | (rw [hX, k1, seg_all _ rfl]; rfl)
            | (rw [hC, ← m4, seg_all _ rfl, seg_one]; done)
            | trace_state
        · have hn : runP true t (i + 1) = none := by rw [runP_succ, hst]; exact stepP_no2 (by rw [ho1]; exact h2)
          have hk : okB true t (cntT t) = false := by rw [okB_eq, runP_none hn hlt]; rfl
          have h2 : ¬ (o1 + 1 ≤ t.size ∧ o1 + 1 + lenP t o1 ≤ t.size) := h2
          repeat' ((conv => whnf); first | (with_reducible first | (refine W1.o ?_; constructor) | rfl | exact castL_self _ _) | ((with_reducible refine V.same_t ?_); exact rfl) | ((with_reducible refine andB_room ?_ ?_ ?_); (· kernel_rfl); (· (first | omega | (simp only [lens] <;> omega)))) | ((with_reducible refine W2.o ?_; constructor); · (first | (with_reducible assumption) | (first | omega | (simp only [lens] <;> omega)))) | ((with_reducible refine W3.o ?_; constructor); · (first | (with_reducible assumption) | (first | omega | (simp only [lens] <;> omega)))) | ((with_reducible refine W4.o ?_; constructor); · (first | (with_reducible first | assumption | exact decide_eq_true rfl | exact sEq_self _) | ((with_reducible refine eqOK_i ?_); kernel_rfl))) | ((with_reducible refine iteB_f ?_ ?_); · (first | (with_reducible first | assumption | exact decide_eq_true rfl | exact sEq_self _) | ((with_reducible refine eqOK_i ?_); kernel_rfl))) | (with_reducible refine CD.wk_au ?_) | (with_reducible refine W5.o ?_; constructor) | ((with_reducible refine W6.o ?_; constructor) <;> intro hB))
          all_goals ((conv => whnf); (try dsimp only); (try simp only [Nat.succ_eq_add_one, Nat.le_eq, castL_self]); (try omega))
          all_goals (try (first | omega | (simp only [lens] <;> omega)))
          all_goals trace_state
      · have hn : runP true t (i + 1) = none := by rw [runP_succ, hst]; exact stepP_no1 h1
        have hk : okB true t (cntT t) = false := by rw [okB_eq, runP_none hn hlt]; rfl
        have h1 : ¬ ((stO true t i) + 1 ≤ t.size ∧ (stO true t i) + 1 + lenP t (stO true t i) ≤ t.size) := h1
        repeat' ((conv => whnf); first | (with_reducible first | (refine W1.o ?_; constructor) | rfl | exact castL_self _ _) | ((with_reducible refine V.same_t ?_); exact rfl) | ((with_reducible refine andB_room ?_ ?_ ?_); (· kernel_rfl); (· (first | omega | (simp only [lens] <;> omega)))) | ((with_reducible refine W2.o ?_; constructor); · (first | (with_reducible assumption) | (first | omega | (simp only [lens] <;> omega)))) | ((with_reducible refine W3.o ?_; constructor); · (first | (with_reducible assumption) | (first | omega | (simp only [lens] <;> omega)))) | ((with_reducible refine W4.o ?_; constructor); · (first | (with_reducible first | assumption | exact decide_eq_true rfl | exact sEq_self _) | ((with_reducible refine eqOK_i ?_); kernel_rfl))) | ((with_reducible refine iteB_f ?_ ?_); · (first | (with_reducible first | assumption | exact decide_eq_true rfl | exact sEq_self _) | ((with_reducible refine eqOK_i ?_); kernel_rfl))) | (with_reducible refine CD.wk_au ?_) | (with_reducible refine W5.o ?_; constructor) | ((with_reducible refine W6.o ?_; constructor) <;> intro hB))
        all_goals ((conv => whnf); (try dsimp only); (try simp only [Nat.succ_eq_add_one, Nat.le_eq, castL_self]); (try omega))
        all_goals (try (first | omega | (simp only [lens] <;> omega)))
        all_goals trace_state
    · have he : i = cntT t := Nat.le_antisymm (by omega) hge
      have hk : okB true t (cntT t) = true := by rw [okB_eq, ← he]; exact ha
      have ec : bAt t (Int.toNat 1) = (i : Int) := by rw [ec, he]
      repeat' ((conv => whnf); first | (with_reducible first | (refine W1.o ?_; constructor) | rfl | exact castL_self _ _) | ((with_reducible refine V.same_t ?_); exact rfl) | ((with_reducible refine andB_room ?_ ?_ ?_); (· kernel_rfl); (· (first | omega | (simp only [lens] <;> omega)))) | ((with_reducible refine W2.o ?_; constructor); · (first | (with_reducible assumption) | (first | omega | (simp only [lens] <;> omega)))) | ((with_reducible refine W3.o ?_; constructor); · (first | (with_reducible assumption) | (first | omega | (simp only [lens] <;> omega)))) | ((with_reducible refine W4.o ?_; constructor); · (first | (with_reducible first | assumption | exact decide_eq_true rfl | exact sEq_self _) | ((with_reducible refine eqOK_i ?_); kernel_rfl))) | ((with_reducible refine iteB_f ?_ ?_); · (first | (with_reducible first | assumption | exact decide_eq_true rfl | exact sEq_self _) | ((with_reducible refine eqOK_i ?_); kernel_rfl))) | (with_reducible refine CD.wk_au ?_) | (with_reducible refine W5.o ?_; constructor) | ((with_reducible refine W6.o ?_; constructor) <;> intro hB))
      all_goals ((conv => whnf); (try dsimp only); (try simp only [Nat.succ_eq_add_one, Nat.le_eq, castL_self]); (try omega))
      all_goals (try (first | omega | (simp only [lens] <;> omega)))
      all_goals first
        | omega
        | (rw [he]; done)
        | (rw [he]; exact Nat.le_refl _)
        | trace_state
theorem rd_knot (s t : ByteArray) (ht : t.size = 252) (hlf : ¬ bAt t 0 = 1) (N : Nat) : LpD.ok Try.prog N 0 (bodyOf Try.prog 11) ⟨7, [(0, 0), (1, 1)], rdC false s t 0, rdO false s t (cntT t)⟩ := by
  have hc := lenP_lt t 1
  have ec : bAt t (Int.toNat 1) = (cntT t : Int) := bAt_len t 1
  have ec2 : cntT t = lenP t 1 := rfl
  refine LpD.ok_one (b := bodyAt Try.prog 11 7) rfl (loop_W tabPgJ_ok (fuel := 3) (d := 5) (X := { i : Nat // i ≤ cntT t + 1 ∧ (runP false t (i - 1)).isSome = true }) (fun x => rdC false s t x.1) (fun x => cntT t + 1 - x.1)
    (fun _ => rdO false s t (cntT t)) (fun _ => noLpW) (fun _ => noLp) (fun _ => noLp_ad) (fun _ => noLp_ok _) ?_ ⟨0, Nat.zero_le _, by rw [runP_0]; rfl⟩)
  rintro ⟨i, hi, ha⟩
  dsimp only
  match i, hi, ha with
  | 0, hi, ha =>
    have r0 := runP_0 false t
    obtain ⟨hK, hX, hC, hO⟩ := st_of r0
    have hK : stK false t 0 = [] := hK
    have hX : stX false t 0 = [] := hX
    have hC : stC false t 0 = [n4 t 2] := hC
    have hO : stO false t 0 = 6 := hO
    have m4 : or4 (bAt t (Int.toNat 2)) (bAt t (Int.toNat (2 + 1))) (bAt t (Int.toNat (2 + 2))) (bAt t (Int.toNat (2 + 3))) = n4 t 2 := rfl
    have m5 : or4 (bAt t (Int.toNat ((2 : Nat) : Int))) (bAt t (Int.toNat (((2 : Nat) : Int) + 1))) (bAt t (Int.toNat (((2 : Nat) : Int) + 2))) (bAt t (Int.toNat (((2 : Nat) : Int) + 3))) = n4 t 2 := rfl
    have ha' : (runP false t (0 + 1 - 1)).isSome = true := by rw [show 0 + 1 - 1 = 0 from rfl, r0]; rfl
    repeat' ((conv => whnf); first | (with_reducible first | (refine W1.o ?_; constructor) | rfl | exact castL_self _ _) | ((with_reducible refine V.same_t ?_); exact rfl) | ((with_reducible refine andB_room ?_ ?_ ?_); (· kernel_rfl); (· (first | omega | (simp only [lens] <;> omega)))) | ((with_reducible refine W2.o ?_; constructor); · (first | (with_reducible assumption) | (first | omega | (simp only [lens] <;> omega)))) | ((with_reducible refine W3.o ?_; constructor); · (first | (with_reducible assumption) | (first | omega | (simp only [lens] <;> omega)))) | ((with_reducible refine W4.o ?_; constructor); · (first | (with_reducible first | assumption | exact decide_eq_true rfl | exact sEq_self _) | ((with_reducible refine eqOK_i ?_); kernel_rfl))) | ((with_reducible refine iteB_f ?_ ?_); · (first | (with_reducible first | assumption | exact decide_eq_true rfl | exact sEq_self _) | ((with_reducible refine eqOK_i ?_); kernel_rfl))) | (refine ⟨⟨0 + 1, Nat.le_add_left _ _, ha'⟩, ?_, rfl, ?_⟩) | (with_reducible refine CD.wk_au ?_) | (with_reducible refine W5.o ?_; constructor) | ((with_reducible refine W6.o ?_; constructor) <;> intro hB))
    all_goals ((conv => whnf); (try dsimp only); (try simp only [Nat.succ_eq_add_one, Nat.le_eq, castL_self]); (try omega))
    all_goals (try (first | omega | (simp only [lens] <;> omega)))
    all_goals first
      | omega
      | (rw [hO]; rfl)
      | (rw [hK]; done)
      | (rw [hX]; done)
      | (rw [hC]; done)
      | (rw [hK]; exact Nat.le_refl _)
      | (rw [hX]; exact Nat.le_refl _)
      | (rw [hC]; exact Nat.le_refl _)
      | (simp only [hC, lens] <;> omega)
      | (rw [hC, ← m4, seg_one]; done)
      | (rw [hC, ← m5, seg_one, seg_all _ rfl, List.nil_append]; done)
      | trace_state
  | i + 1, hi, ha =>
    have ha : (runP false t i).isSome = true := ha
    rcases Nat.lt_or_ge i (cntT t) with hlt | hge
    · have hst := runP_st4 ha
      obtain ⟨q1, q2, q3, q4, q5⟩ := runP_in (by omega) i hst
      dsimp only at q1 q2 q3 q4 q5
      have x0 : (bAt t (Int.toNat ((stO false t i) : Int))) = (lenP t (stO false t i) : Int) := bAt_len t (stO false t i)
      have hl0 := lenP_lt t (stO false t i)
      obtain ⟨o1, ho1⟩ : ∃ o1, (stO false t i) + 1 + lenP t (stO false t i) = o1 := ⟨_, rfl⟩
      have x1 : (bAt t (Int.toNat (((stO false t i) : Int) + 1 + (bAt t (Int.toNat ((stO false t i) : Int)))))) = (lenP t o1 : Int) := by rw [x0, show Int.toNat (((stO false t i) : Int) + 1 + (lenP t (stO false t i) : Int)) = o1 by omega]; exact bAt_len t o1
      have hl1 := lenP_lt t o1
      have k0 : (cutS t (Int.toNat (((stO false t i) : Int) + 1)) (Int.toNat (((stO false t i) : Int) + 1 + (bAt t (Int.toNat ((stO false t i) : Int)))))) = txS t (stO false t i) := by rw [cutS_eq, x0, show Int.toNat (((stO false t i) : Int) + 1 + (lenP t (stO false t i) : Int)) = (stO false t i) + 1 + lenP t (stO false t i) by omega, show Int.toNat (((stO false t i) : Int) + 1) = (stO false t i) + 1 by omega]; rfl
      by_cases h1 : txP t (stO false t i)
      · obtain ⟨g1, g2⟩ := h1
        by_cases h2 : o1 + 4 ≤ t.size
        · have hs : runP false t (i + 1) = some (stK false t i ++ [txS t (stO false t i)], stX false t i, stC false t i ++ [n4 t o1], o1 + 4) := by
            rw [runP_succ, hst]
            rw [← ho1] at h2 ⊢
            exact stepP_knot ⟨g1, g2⟩ h2
          obtain ⟨hK, hX, hC, hO⟩ := st_of hs
          dsimp only at hK hX hC hO
          have ha' : (runP false t (i + 1 + 1 - 1)).isSome = true := by rw [show i + 1 + 1 - 1 = i + 1 from rfl, hs]; rfl
          have k1 := x1
          have m4 : or4 (bAt t (Int.toNat (((stO false t i) : Int) + 1 + (bAt t (Int.toNat ((stO false t i) : Int)))))) (bAt t (Int.toNat ((((stO false t i) : Int) + 1 + (bAt t (Int.toNat ((stO false t i) : Int)))) + 1))) (bAt t (Int.toNat ((((stO false t i) : Int) + 1 + (bAt t (Int.toNat ((stO false t i) : Int)))) + 2))) (bAt t (Int.toNat ((((stO false t i) : Int) + 1 + (bAt t (Int.toNat ((stO false t i) : Int)))) + 3))) = n4 t o1 := by
            rw [x0, show Int.toNat (((stO false t i) : Int) + 1 + (lenP t (stO false t i) : Int)) = o1 by omega, show Int.toNat (((stO false t i) : Int) + 1 + (lenP t (stO false t i) : Int) + 1) = o1 + 1 by omega, show Int.toNat (((stO false t i) : Int) + 1 + (lenP t (stO false t i) : Int) + 2) = o1 + 2 by omega, show Int.toNat (((stO false t i) : Int) + 1 + (lenP t (stO false t i) : Int) + 3) = o1 + 3 by omega]; rfl
          repeat' ((conv => whnf); first | (with_reducible first | (refine W1.o ?_; constructor) | rfl | exact castL_self _ _) | ((with_reducible refine V.same_t ?_); exact rfl) | ((with_reducible refine andB_room ?_ ?_ ?_); (· kernel_rfl); (· (first | omega | (simp only [lens] <;> omega)))) | ((with_reducible refine W2.o ?_; constructor); · (first | (with_reducible assumption) | (first | omega | (simp only [lens] <;> omega)))) | ((with_reducible refine W3.o ?_; constructor); · (first | (with_reducible assumption) | (first | omega | (simp only [lens] <;> omega)))) | ((with_reducible refine W4.o ?_; constructor); · (first | (with_reducible first | assumption | exact decide_eq_true rfl | exact sEq_self _) | ((with_reducible refine eqOK_i ?_); kernel_rfl))) | ((with_reducible refine iteB_f ?_ ?_); · (first | (with_reducible first | assumption | exact decide_eq_true rfl | exact sEq_self _) | ((with_reducible refine eqOK_i ?_); kernel_rfl))) | (refine ⟨⟨i + 1 + 1, by omega, ha'⟩, ?_, rfl, ?_⟩) | (with_reducible refine CD.wk_au ?_) | (with_reducible refine W5.o ?_; constructor) | ((with_reducible refine W6.o ?_; constructor) <;> intro hB))
          all_goals ((conv => whnf); (try dsimp only); (try simp only [Nat.succ_eq_add_one, Nat.le_eq, castL_self]); (try omega))
          all_goals (try (first | omega | (simp only [lens] <;> omega)))
          all_goals first
            | omega
            | (rw [hC]; done)
            | (rw [hX]; done)
            | (rw [hC]; exact Nat.le_refl _)
            | (rw [hX]; exact Nat.le_refl _)
            | (rw [hO]; omega)
            | (simp only [hK, hX, hC, lens] <;> omega)
            | (rw [hK, k0, seg_all _ rfl]; rfl)
            | (rw [hX, k1, seg_all _ rfl]; rfl)
            | (rw [hC, ← m4, seg_all _ rfl, seg_one]; done)
            | trace_state
        · have hn : runP false t (i + 1) = none := by rw [runP_succ, hst]; exact stepP_no4 (by rw [ho1]; exact h2)
          have hk : okB false t (cntT t) = false := by rw [okB_eq, runP_none hn hlt]; rfl
          repeat' ((conv => whnf); first | (with_reducible first | (refine W1.o ?_; constructor) | rfl | exact castL_self _ _) | ((with_reducible refine V.same_t ?_); exact rfl) | ((with_reducible refine andB_room ?_ ?_ ?_); (· kernel_rfl); (· (first | omega | (simp only [lens] <;> omega)))) | ((with_reducible refine W2.o ?_; constructor); · (first | (with_reducible assumption) | (first | omega | (simp only [lens] <;> omega)))) | ((with_reducible refine W3.o ?_; constructor); · (first | (with_reducible assumption) | (first | omega | (simp only [lens] <;> omega)))) | ((with_reducible refine W4.o ?_; constructor); · (first | (with_reducible first | assumption | exact decide_eq_true rfl | exact sEq_self _) | ((with_reducible refine eqOK_i ?_); kernel_rfl))) | ((with_reducible refine iteB_f ?_ ?_); · (first | (with_reducible first | assumption | exact decide_eq_true rfl | exact sEq_self _) | ((with_reducible refine eqOK_i ?_); kernel_rfl))) | (with_reducible refine CD.wk_au ?_) | (with_reducible refine W5.o ?_; constructor) | ((with_reducible refine W6.o ?_; constructor) <;> intro hB))
          all_goals ((conv => whnf); (try dsimp only); (try simp only [Nat.succ_eq_add_one, Nat.le_eq, castL_self]); (try omega))
          all_goals (try (first | omega | (simp only [lens] <;> omega)))
          all_goals trace_state
      · have hn : runP false t (i + 1) = none := by rw [runP_succ, hst]; exact stepP_no1 h1
        have hk : okB false t (cntT t) = false := by rw [okB_eq, runP_none hn hlt]; rfl
        have h1 : ¬ ((stO false t i) + 1 ≤ t.size ∧ (stO false t i) + 1 + lenP t (stO false t i) ≤ t.size) := h1
        repeat' ((conv => whnf); first | (with_reducible first | (refine W1.o ?_; constructor) | rfl | exact castL_self _ _) | ((with_reducible refine V.same_t ?_); exact rfl) | ((with_reducible refine andB_room ?_ ?_ ?_); (· kernel_rfl); (· (first | omega | (simp only [lens] <;> omega)))) | ((with_reducible refine W2.o ?_; constructor); · (first | (with_reducible assumption) | (first | omega | (simp only [lens] <;> omega)))) | ((with_reducible refine W3.o ?_; constructor); · (first | (with_reducible assumption) | (first | omega | (simp only [lens] <;> omega)))) | ((with_reducible refine W4.o ?_; constructor); · (first | (with_reducible first | assumption | exact decide_eq_true rfl | exact sEq_self _) | ((with_reducible refine eqOK_i ?_); kernel_rfl))) | ((with_reducible refine iteB_f ?_ ?_); · (first | (with_reducible first | assumption | exact decide_eq_true rfl | exact sEq_self _) | ((with_reducible refine eqOK_i ?_); kernel_rfl))) | (with_reducible refine CD.wk_au ?_) | (with_reducible refine W5.o ?_; constructor) | ((with_reducible refine W6.o ?_; constructor) <;> intro hB))
        all_goals ((conv => whnf); (try dsimp only); (try simp only [Nat.succ_eq_add_one, Nat.le_eq, castL_self]); (try omega))
        all_goals (try (first | omega | (simp only [lens] <;> omega)))
        all_goals trace_state
    · have he : i = cntT t := Nat.le_antisymm (by omega) hge
      have hk : okB false t (cntT t) = true := by rw [okB_eq, ← he]; exact ha
      have ec : bAt t (Int.toNat 1) = (i : Int) := by rw [ec, he]
      repeat' ((conv => whnf); first | (with_reducible first | (refine W1.o ?_; constructor) | rfl | exact castL_self _ _) | ((with_reducible refine V.same_t ?_); exact rfl) | ((with_reducible refine andB_room ?_ ?_ ?_); (· kernel_rfl); (· (first | omega | (simp only [lens] <;> omega)))) | ((with_reducible refine W2.o ?_; constructor); · (first | (with_reducible assumption) | (first | omega | (simp only [lens] <;> omega)))) | ((with_reducible refine W3.o ?_; constructor); · (first | (with_reducible assumption) | (first | omega | (simp only [lens] <;> omega)))) | ((with_reducible refine W4.o ?_; constructor); · (first | (with_reducible first | assumption | exact decide_eq_true rfl | exact sEq_self _) | ((with_reducible refine eqOK_i ?_); kernel_rfl))) | ((with_reducible refine iteB_f ?_ ?_); · (first | (with_reducible first | assumption | exact decide_eq_true rfl | exact sEq_self _) | ((with_reducible refine eqOK_i ?_); kernel_rfl))) | (with_reducible refine CD.wk_au ?_) | (with_reducible refine W5.o ?_; constructor) | ((with_reducible refine W6.o ?_; constructor) <;> intro hB))
      all_goals ((conv => whnf); (try dsimp only); (try simp only [Nat.succ_eq_add_one, Nat.le_eq, castL_self]); (try omega))
      all_goals (try (first | omega | (simp only [lens] <;> omega)))
      all_goals first
        | omega
        | (rw [he]; done)
        | (rw [he]; exact Nat.le_refl _)
        | trace_state
end Go.Proofs.Ytlfhiophojahbaa
end

section
namespace Go.Proofs.Ytlfhiophojahbaa
open Go.Sym
set_option linter.unusedVariables false
set_option linter.unusedSimpArgs false
set_option maxRecDepth 100000
set_option maxHeartbeats 4000000

theorem n4_in (t : ByteArray) (o : Nat) : 0 ≤ n4 t o ∧ n4 t o < 4294967296 := by
  unfold n4 or4
  simp only [IntKind.wrap, IntKind.bits, IntKind.signed, Bool.false_and, Bool.false_eq_true, if_false]
  omega
theorem runP_kids {l : Bool} {t : ByteArray} : ∀ (i : Nat) {x : PS}, runP l t i = some x → ∀ c ∈ x.2.2.1, 0 ≤ c ∧ c < 4294967296
  | 0, x, h => by
    rw [runP_0] at h
    cases h
    unfold startP
    split
    · intro c hc; cases hc
    · intro c hc
      rw [List.mem_singleton.1 hc]
      exact n4_in t 2
  | i + 1, x, h => by
    rw [runP_succ] at h
    obtain ⟨y, hy, h2⟩ := Option.bind_eq_some_iff.1 h
    have ih := runP_kids i hy
    unfold stepP at h2
    split at h2
    · split at h2
      · split at h2
        · cases h2; exact ih
        · cases h2
      · split at h2
        · cases h2
          intro c hc
          rcases List.mem_append.1 hc with hc | hc
          · exact ih c hc
          · rw [List.mem_singleton.1 hc]; exact n4_in t _
        · cases h2
    · cases h2
theorem refdecode_at (s : ByteArray) (hs : s.size ≤ 300) : PureAt Try.prog 11 [.str s] (.tup [nodeV (decL s) (decK s) (decX s) (decC s), .int .i64 (decE s)]) := by
  cases ho : openI s with
  | false =>
    have hn : ¬ decP s := fun h => by rw [h.1.1] at ho; cases ho
    obtain ⟨e1, e2, e3, e4, e5⟩ := dec_no hn
    rw [e1, e2, e3, e4, e5]
    refine PureAt.val (v := .tup [.agg [.bool false, .nils, .nils, .nils], .int .i64 8]) ?_ fun φ => nil_node
    refine pure_of_W0 (tab := tabPgJ) (fuel := 3) (d := 6) tabPgJ_ok ?_
    repeat' ((conv => whnf); first | (with_reducible first | (refine W1.o ?_; constructor) | rfl | exact castL_self _ _) | ((with_reducible refine V.same_t ?_); exact rfl) | ((with_reducible refine andB_room ?_ ?_ ?_); (· kernel_rfl); (· (first | omega | (simp only [lens] <;> omega)))) | ((with_reducible refine W2.o ?_; constructor); · (first | (with_reducible assumption) | (first | omega | (simp only [lens] <;> omega)))) | ((with_reducible refine W3.o ?_; constructor); · (first | (with_reducible assumption) | (first | omega | (simp only [lens] <;> omega)))) | ((with_reducible refine W4.o ?_; constructor); · (first | (with_reducible first | assumption | exact decide_eq_true rfl | exact sEq_self _) | ((with_reducible refine eqOK_i ?_); kernel_rfl) | (exact ho))) | ((with_reducible refine iteB_f ?_ ?_); · (first | (with_reducible first | assumption | exact decide_eq_true rfl | exact sEq_self _) | ((with_reducible refine eqOK_i ?_); kernel_rfl) | (exact ho))) | (with_reducible refine W5.o ?_; constructor) | ((with_reducible refine W6.o ?_; constructor) <;> intro hB))
    all_goals ((conv => whnf); (try dsimp only); (try simp only [Nat.succ_eq_add_one, Nat.le_eq, castL_self]); (try omega))
    all_goals (try (first | omega | (simp only [lens] <;> omega)))
    all_goals rfl
  | true =>
    have hz := openS_size s ho
    by_cases h6 : s.size = 256
    · have ht : (openS s).size = 252 := by omega
      have hcnt : cntT (openS s) ≤ 255 := by have := lenP_lt (openS s) 1; unfold cntT; omega
      by_cases hl : bAt (openS s) 0 = 1
      · have eL : leafT (openS s) = true := decide_eq_true hl
        have f0 : decide (@Eq Int (bAt (openS s) (Int.toNat 0)) 1) = true := decide_eq_true hl
        have hls : ∀ N, ∀ y ∈ [(⟨7, [(0, 0), (1, 1)], rdC true s (openS s) 0, rdO true s (openS s) (cntT (openS s))⟩ : LpD)], y.ok Try.prog N 0 (bodyOf Try.prog 11) := fun N y hy => by
          rw [List.mem_singleton.1 hy]
          exact rd_leaf s (openS s) ht hl N
        cases hk : okB true (openS s) (cntT (openS s)) with
        | false =>
          have hn : ¬ decP s := fun h => by
            have := h.1.2.2
            rw [eL, hk] at this
            cases this
          obtain ⟨e1, e2, e3, e4, e5⟩ := dec_no hn
          rw [e1, e2, e3, e4, e5]
          refine PureAt.val (v := .tup [.agg [.bool false, .nils, .nils, .nils], .int .i64 8]) ?_ fun φ => nil_node
          refine pure_of_loops tabPgJ_ok (fuel := 3) (d := 6) _ hls ?_
          repeat' ((conv => whnf); first | (with_reducible first | (refine W1.o ?_; constructor) | rfl | exact castL_self _ _) | ((with_reducible refine V.same_t ?_); exact rfl) | ((with_reducible refine andB_room ?_ ?_ ?_); (· kernel_rfl); (· (first | omega | (simp only [lens] <;> omega)))) | ((with_reducible refine W2.o ?_; constructor); · (first | (with_reducible assumption) | (first | omega | (simp only [lens] <;> omega)))) | ((with_reducible refine W3.o ?_; constructor); · (first | (with_reducible assumption) | (first | omega | (simp only [lens] <;> omega)))) | ((with_reducible refine W4.o ?_; constructor); · (first | (with_reducible first | assumption | exact decide_eq_true rfl | exact sEq_self _) | ((with_reducible refine eqOK_i ?_); kernel_rfl) | (first | exact ho | exact f0))) | ((with_reducible refine iteB_f ?_ ?_); · (first | (with_reducible first | assumption | exact decide_eq_true rfl | exact sEq_self _) | ((with_reducible refine eqOK_i ?_); kernel_rfl) | (first | exact ho | exact f0))) | (with_reducible refine CD.wk_au ?_) | (with_reducible refine W5.o ?_; constructor) | ((with_reducible refine W6.o ?_; constructor) <;> intro hB))
          all_goals ((conv => whnf); (try dsimp only); (try simp only [Nat.succ_eq_add_one, Nat.le_eq, castL_self]); (try omega))
          all_goals (try (first | omega | (simp only [lens] <;> omega)))
          all_goals first
            | rfl
            | exact f0
            | omega
            | trace_state
        | true =>
          have hsome : (runP true (openS s) (cntT (openS s))).isSome = true := by rw [← okB_eq]; exact hk
          obtain ⟨q1, q2, q3, q4, q5⟩ := runP_in (by omega) _ (runP_st4 hsome)
          dsimp only at q1 q2 q3 q4 q5
          have eK : (seg (stK true (openS s) (cntT (openS s))) 0 (List.length (stK true (openS s) (cntT (openS s))))) = stK true (openS s) (cntT (openS s)) := seg_all _ rfl
          have eX : (seg (stX true (openS s) (cntT (openS s))) 0 (List.length (stX true (openS s) (cntT (openS s))))) = stX true (openS s) (cntT (openS s)) := seg_all _ rfl
          have eC : (seg (stC true (openS s) (cntT (openS s))) 0 (List.length (stC true (openS s) (cntT (openS s))))) = stC true (openS s) (cntT (openS s)) := seg_all _ rfl
          have l1 : List.length (seg (stK true (openS s) (cntT (openS s))) 0 (List.length (stK true (openS s) (cntT (openS s))))) ≤ 4611686018427387904 := by rw [eK]; omega
          have l2 : List.length (seg (stX true (openS s) (cntT (openS s))) 0 (List.length (stX true (openS s) (cntT (openS s))))) ≤ 4611686018427387904 := by rw [eX]; omega
          have l3 : List.length (seg (stC true (openS s) (cntT (openS s))) 0 (List.length (stC true (openS s) (cntT (openS s))))) ≤ 4611686018427387904 := by rw [eC]; omega
          have kz : kidsZ (seg (stC true (openS s) (cntT (openS s))) 0 (List.length (stC true (openS s) (cntT (openS s))))) = true := by rw [eC]; exact kidsZ_of (runP_kids _ (runP_st4 hsome))
          have dK : nodK s = stK true (openS s) (cntT (openS s)) := by unfold nodK; rw [eL]
          have dX : nodX s = stX true (openS s) (cntT (openS s)) := by unfold nodX; rw [eL]
          have dC : nodC s = stC true (openS s) (cntT (openS s)) := by unfold nodC; rw [eL]
          by_cases hf : fitP true (seg (stK true (openS s) (cntT (openS s))) 0 (List.length (stK true (openS s) (cntT (openS s))))) (seg (stX true (openS s) (cntT (openS s))) 0 (List.length (stX true (openS s) (cntT (openS s))))) (seg (stC true (openS s) (cntT (openS s))) 0 (List.length (stC true (openS s) (cntT (openS s)))))
          · have g1 := encE_0 hf
            by_cases he : encS true (seg (stK true (openS s) (cntT (openS s))) 0 (List.length (stK true (openS s) (cntT (openS s))))) (seg (stX true (openS s) (cntT (openS s))) 0 (List.length (stX true (openS s) (cntT (openS s))))) (seg (stC true (openS s) (cntT (openS s))) 0 (List.length (stC true (openS s) (cntT (openS s))))) = s
            · have g2 : sEq (encS true (seg (stK true (openS s) (cntT (openS s))) 0 (List.length (stK true (openS s) (cntT (openS s))))) (seg (stX true (openS s) (cntT (openS s))) 0 (List.length (stX true (openS s) (cntT (openS s))))) (seg (stC true (openS s) (cntT (openS s))) 0 (List.length (stC true (openS s) (cntT (openS s)))))) s = true := decide_eq_true he
              have hd : decP s := by
                refine ⟨⟨ho, h6, by rw [eL]; exact hk⟩, ?_, ?_⟩
                · rw [eL, dK, dX, dC, ← eK, ← eX, ← eC]; exact hf
                · rw [eL, dK, dX, dC, ← eK, ← eX, ← eC]; exact he
              obtain ⟨e1, e2, e3, e4, e5⟩ := dec_yes hd
              rw [e1, e2, e3, e4, e5, eL, dK, dX, dC]
              refine pure_of_loops tabPgJ_ok (fuel := 3) (d := 6) _ hls ?_
              repeat' ((conv => whnf); first | (with_reducible first | (refine W1.o ?_; constructor) | rfl | exact castL_self _ _) | ((with_reducible refine V.same_t ?_); exact rfl) | ((with_reducible refine andB_room ?_ ?_ ?_); (· kernel_rfl); (· (first | omega | (simp only [lens] <;> omega)))) | ((with_reducible refine W2.o ?_; constructor); · (first | (with_reducible assumption) | (first | omega | (simp only [lens] <;> omega)))) | ((with_reducible refine W3.o ?_; constructor); · (first | (with_reducible assumption) | (first | omega | (simp only [lens] <;> omega)))) | ((with_reducible refine W4.o ?_; constructor); · (first | (with_reducible first | assumption | exact decide_eq_true rfl | exact sEq_self _) | ((with_reducible refine eqOK_i ?_); kernel_rfl) | (first | exact ho | exact f0 | exact g2 | exact kz))) | ((with_reducible refine iteB_f ?_ ?_); · (first | (with_reducible first | assumption | exact decide_eq_true rfl | exact sEq_self _) | ((with_reducible refine eqOK_i ?_); kernel_rfl) | (first | exact ho | exact f0 | exact g2 | exact kz))) | (with_reducible refine CD.wk_au ?_) | (with_reducible refine W5.o ?_; constructor) | ((with_reducible refine W6.o ?_; constructor) <;> intro hB))
              all_goals ((conv => whnf); (try dsimp only); (try simp only [Nat.succ_eq_add_one, Nat.le_eq, castL_self]); (try omega))
              all_goals (try (first | omega | (simp only [lens] <;> omega)))
              all_goals first
                | rfl
                | exact f0
                | omega
                | (rw [eK, eX, eC])
                | trace_state
            · have g2 : sEq (encS true (seg (stK true (openS s) (cntT (openS s))) 0 (List.length (stK true (openS s) (cntT (openS s))))) (seg (stX true (openS s) (cntT (openS s))) 0 (List.length (stX true (openS s) (cntT (openS s))))) (seg (stC true (openS s) (cntT (openS s))) 0 (List.length (stC true (openS s) (cntT (openS s)))))) s = false := decide_eq_false he
              have hn : ¬ decP s := fun h => he (by
                have := h.2.2
                rw [eL, dK, dX, dC, ← eK, ← eX, ← eC] at this
                exact this)
              obtain ⟨e1, e2, e3, e4, e5⟩ := dec_no hn
              rw [e1, e2, e3, e4, e5]
              refine PureAt.val (v := .tup [.agg [.bool false, .nils, .nils, .nils], .int .i64 8]) ?_ fun φ => nil_node
              refine pure_of_loops tabPgJ_ok (fuel := 3) (d := 6) _ hls ?_
              repeat' ((conv => whnf); first | (with_reducible first | (refine W1.o ?_; constructor) | rfl | exact castL_self _ _) | ((with_reducible refine V.same_t ?_); exact rfl) | ((with_reducible refine andB_room ?_ ?_ ?_); (· kernel_rfl); (· (first | omega | (simp only [lens] <;> omega)))) | ((with_reducible refine W2.o ?_; constructor); · (first | (with_reducible assumption) | (first | omega | (simp only [lens] <;> omega)))) | ((with_reducible refine W3.o ?_; constructor); · (first | (with_reducible assumption) | (first | omega | (simp only [lens] <;> omega)))) | ((with_reducible refine W4.o ?_; constructor); · (first | (with_reducible first | assumption | exact decide_eq_true rfl | exact sEq_self _) | ((with_reducible refine eqOK_i ?_); kernel_rfl) | (first | exact ho | exact f0 | exact g2 | exact kz))) | ((with_reducible refine iteB_f ?_ ?_); · (first | (with_reducible first | assumption | exact decide_eq_true rfl | exact sEq_self _) | ((with_reducible refine eqOK_i ?_); kernel_rfl) | (first | exact ho | exact f0 | exact g2 | exact kz))) | (with_reducible refine CD.wk_au ?_) | (with_reducible refine W5.o ?_; constructor) | ((with_reducible refine W6.o ?_; constructor) <;> intro hB))
              all_goals ((conv => whnf); (try dsimp only); (try simp only [Nat.succ_eq_add_one, Nat.le_eq, castL_self]); (try omega))
              all_goals (try (first | omega | (simp only [lens] <;> omega)))
              all_goals first
                | rfl
                | exact f0
                | omega
                | trace_state
          · have g1 : ¬ @Eq Int (encE true (seg (stK true (openS s) (cntT (openS s))) 0 (List.length (stK true (openS s) (cntT (openS s))))) (seg (stX true (openS s) (cntT (openS s))) 0 (List.length (stX true (openS s) (cntT (openS s))))) (seg (stC true (openS s) (cntT (openS s))) 0 (List.length (stC true (openS s) (cntT (openS s)))))) 0 := by
              by_cases hm : mayP true (seg (stK true (openS s) (cntT (openS s))) 0 (List.length (stK true (openS s) (cntT (openS s))))) (seg (stX true (openS s) (cntT (openS s))) 0 (List.length (stX true (openS s) (cntT (openS s))))) (seg (stC true (openS s) (cntT (openS s))) 0 (List.length (stC true (openS s) (cntT (openS s)))))
              · rw [encE_3 hm (fun h => hf ⟨hm, h⟩)]; decide
              · rw [encE_2 hm]; decide
            have hn : ¬ decP s := fun h => hf (by
              have := h.2.1
              rw [eL, dK, dX, dC, ← eK, ← eX, ← eC] at this
              exact this)
            obtain ⟨e1, e2, e3, e4, e5⟩ := dec_no hn
            rw [e1, e2, e3, e4, e5]
            refine PureAt.val (v := .tup [.agg [.bool false, .nils, .nils, .nils], .int .i64 8]) ?_ fun φ => nil_node
            refine pure_of_loops tabPgJ_ok (fuel := 3) (d := 6) _ hls ?_
            repeat' ((conv => whnf); first | (with_reducible first | (refine W1.o ?_; constructor) | rfl | exact castL_self _ _) | ((with_reducible refine V.same_t ?_); exact rfl) | ((with_reducible refine andB_room ?_ ?_ ?_); (· kernel_rfl); (· (first | omega | (simp only [lens] <;> omega)))) | ((with_reducible refine W2.o ?_; constructor); · (first | (with_reducible assumption) | (first | omega | (simp only [lens] <;> omega)))) | ((with_reducible refine W3.o ?_; constructor); · (first | (with_reducible assumption) | (first | omega | (simp only [lens] <;> omega)))) | ((with_reducible refine W4.o ?_; constructor); · (first | (with_reducible first | assumption | exact decide_eq_true rfl | exact sEq_self _) | ((with_reducible refine eqOK_i ?_); kernel_rfl) | (first | exact ho | exact f0 | exact kz))) | ((with_reducible refine iteB_f ?_ ?_); · (first | (with_reducible first | assumption | exact decide_eq_true rfl | exact sEq_self _) | ((with_reducible refine eqOK_i ?_); kernel_rfl) | (first | exact ho | exact f0 | exact kz))) | (with_reducible refine CD.wk_au ?_) | (with_reducible refine W5.o ?_; constructor) | ((with_reducible refine W6.o ?_; constructor) <;> intro hB))
            all_goals ((conv => whnf); (try dsimp only); (try simp only [Nat.succ_eq_add_one, Nat.le_eq, castL_self]); (try omega))
            all_goals (try (first | omega | (simp only [lens] <;> omega)))
            all_goals first
              | rfl
              | exact f0
              | omega
              | trace_state
      · have eL : leafT (openS s) = false := decide_eq_false hl
        have f0 : decide (@Eq Int (bAt (openS s) (Int.toNat 0)) 1) = false := decide_eq_false hl
        have hls : ∀ N, ∀ y ∈ [(⟨7, [(0, 0), (1, 1)], rdC false s (openS s) 0, rdO false s (openS s) (cntT (openS s))⟩ : LpD)], y.ok Try.prog N 0 (bodyOf Try.prog 11) := fun N y hy => by
          rw [List.mem_singleton.1 hy]
          exact rd_knot s (openS s) ht hl N
        cases hk : okB false (openS s) (cntT (openS s)) with
        | false =>
          have hn : ¬ decP s := fun h => by
            have := h.1.2.2
            rw [eL, hk] at this
            cases this
          obtain ⟨e1, e2, e3, e4, e5⟩ := dec_no hn
          rw [e1, e2, e3, e4, e5]
          refine PureAt.val (v := .tup [.agg [.bool false, .nils, .nils, .nils], .int .i64 8]) ?_ fun φ => nil_node
          refine pure_of_loops tabPgJ_ok (fuel := 3) (d := 6) _ hls ?_
          repeat' ((conv => whnf); first | (with_reducible first | (refine W1.o ?_; constructor) | rfl | exact castL_self _ _) | ((with_reducible refine V.same_t ?_); exact rfl) | ((with_reducible refine andB_room ?_ ?_ ?_); (· kernel_rfl); (· (first | omega | (simp only [lens] <;> omega)))) | ((with_reducible refine W2.o ?_; constructor); · (first | (with_reducible assumption) | (first | omega | (simp only [lens] <;> omega)))) | ((with_reducible refine W3.o ?_; constructor); · (first | (with_reducible assumption) | (first | omega | (simp only [lens] <;> omega)))) | ((with_reducible refine W4.o ?_; constructor); · (first | (with_reducible first | assumption | exact decide_eq_true rfl | exact sEq_self _) | ((with_reducible refine eqOK_i ?_); kernel_rfl) | (first | exact ho | exact f0))) | ((with_reducible refine iteB_f ?_ ?_); · (first | (with_reducible first | assumption | exact decide_eq_true rfl | exact sEq_self _) | ((with_reducible refine eqOK_i ?_); kernel_rfl) | (first | exact ho | exact f0))) | (with_reducible refine CD.wk_au ?_) | (with_reducible refine W5.o ?_; constructor) | ((with_reducible refine W6.o ?_; constructor) <;> intro hB))
          all_goals ((conv => whnf); (try dsimp only); (try simp only [Nat.succ_eq_add_one, Nat.le_eq, castL_self]); (try omega))
          all_goals (try (first | omega | (simp only [lens] <;> omega)))
          all_goals first
            | rfl
            | exact f0
            | omega
            | trace_state
        | true =>
          have hsome : (runP false (openS s) (cntT (openS s))).isSome = true := by rw [← okB_eq]; exact hk
          obtain ⟨q1, q2, q3, q4, q5⟩ := runP_in (by omega) _ (runP_st4 hsome)
          dsimp only at q1 q2 q3 q4 q5
          have eK : (seg (stK false (openS s) (cntT (openS s))) 0 (List.length (stK false (openS s) (cntT (openS s))))) = stK false (openS s) (cntT (openS s)) := seg_all _ rfl
          have eX : (seg (stX false (openS s) (cntT (openS s))) 0 (List.length (stX false (openS s) (cntT (openS s))))) = stX false (openS s) (cntT (openS s)) := seg_all _ rfl
          have eC : (seg (stC false (openS s) (cntT (openS s))) 0 (List.length (stC false (openS s) (cntT (openS s))))) = stC false (openS s) (cntT (openS s)) := seg_all _ rfl
          have l1 : List.length (seg (stK false (openS s) (cntT (openS s))) 0 (List.length (stK false (openS s) (cntT (openS s))))) ≤ 4611686018427387904 := by rw [eK]; omega
          have l2 : List.length (seg (stX false (openS s) (cntT (openS s))) 0 (List.length (stX false (openS s) (cntT (openS s))))) ≤ 4611686018427387904 := by rw [eX]; omega
          have l3 : List.length (seg (stC false (openS s) (cntT (openS s))) 0 (List.length (stC false (openS s) (cntT (openS s))))) ≤ 4611686018427387904 := by rw [eC]; omega
          have kz : kidsZ (seg (stC false (openS s) (cntT (openS s))) 0 (List.length (stC false (openS s) (cntT (openS s))))) = true := by rw [eC]; exact kidsZ_of (runP_kids _ (runP_st4 hsome))
          have dK : nodK s = stK false (openS s) (cntT (openS s)) := by unfold nodK; rw [eL]
          have dX : nodX s = stX false (openS s) (cntT (openS s)) := by unfold nodX; rw [eL]
          have dC : nodC s = stC false (openS s) (cntT (openS s)) := by unfold nodC; rw [eL]
          by_cases hf : fitP false (seg (stK false (openS s) (cntT (openS s))) 0 (List.length (stK false (openS s) (cntT (openS s))))) (seg (stX false (openS s) (cntT (openS s))) 0 (List.length (stX false (openS s) (cntT (openS s))))) (seg (stC false (openS s) (cntT (openS s))) 0 (List.length (stC false (openS s) (cntT (openS s)))))
          · have g1 := encE_0 hf
            by_cases he : encS false (seg (stK false (openS s) (cntT (openS s))) 0 (List.length (stK false (openS s) (cntT (openS s))))) (seg (stX false (openS s) (cntT (openS s))) 0 (List.length (stX false (openS s) (cntT (openS s))))) (seg (stC false (openS s) (cntT (openS s))) 0 (List.length (stC false (openS s) (cntT (openS s))))) = s
            · have g2 : sEq (encS false (seg (stK false (openS s) (cntT (openS s))) 0 (List.length (stK false (openS s) (cntT (openS s))))) (seg (stX false (openS s) (cntT (openS s))) 0 (List.length (stX false (openS s) (cntT (openS s))))) (seg (stC false (openS s) (cntT (openS s))) 0 (List.length (stC false (openS s) (cntT (openS s)))))) s = true := decide_eq_true he
              have hd : decP s := by
                refine ⟨⟨ho, h6, by rw [eL]; exact hk⟩, ?_, ?_⟩
                · rw [eL, dK, dX, dC, ← eK, ← eX, ← eC]; exact hf
                · rw [eL, dK, dX, dC, ← eK, ← eX, ← eC]; exact he
              obtain ⟨e1, e2, e3, e4, e5⟩ := dec_yes hd
              rw [e1, e2, e3, e4, e5, eL, dK, dX, dC]
              refine pure_of_loops tabPgJ_ok (fuel := 3) (d := 6) _ hls ?_
              repeat' ((conv => whnf); first | (with_reducible first | (refine W1.o ?_; constructor) | rfl | exact castL_self _ _) | ((with_reducible refine V.same_t ?_); exact rfl) | ((with_reducible refine andB_room ?_ ?_ ?_); (· kernel_rfl); (· (first | omega | (simp only [lens] <;> omega)))) | ((with_reducible refine W2.o ?_; constructor); · (first | (with_reducible assumption) | (first | omega | (simp only [lens] <;> omega)))) | ((with_reducible refine W3.o ?_; constructor); · (first | (with_reducible assumption) | (first | omega | (simp only [lens] <;> omega)))) | ((with_reducible refine W4.o ?_; constructor); · (first | (with_reducible first | assumption | exact decide_eq_true rfl | exact sEq_self _) | ((with_reducible refine eqOK_i ?_); kernel_rfl) | (first | exact ho | exact f0 | exact g2 | exact kz))) | ((with_reducible refine iteB_f ?_ ?_); · (first | (with_reducible first | assumption | exact decide_eq_true rfl | exact sEq_self _) | ((with_reducible refine eqOK_i ?_); kernel_rfl) | (first | exact ho | exact f0 | exact g2 | exact kz))) | (with_reducible refine CD.wk_au ?_) | (with_reducible refine W5.o ?_; constructor) | ((with_reducible refine W6.o ?_; constructor) <;> intro hB))
              all_goals ((conv => whnf); (try dsimp only); (try simp only [Nat.succ_eq_add_one, Nat.le_eq, castL_self]); (try omega))
              all_goals (try (first | omega | (simp only [lens] <;> omega)))
              all_goals first
                | rfl
                | exact f0
                | omega
                | (rw [eK, eX, eC])
                | trace_state
            · have g2 : sEq (encS false (seg (stK false (openS s) (cntT (openS s))) 0 (List.length (stK false (openS s) (cntT (openS s))))) (seg (stX false (openS s) (cntT (openS s))) 0 (List.length (stX false (openS s) (cntT (openS s))))) (seg (stC false (openS s) (cntT (openS s))) 0 (List.length (stC false (openS s) (cntT (openS s)))))) s = false := decide_eq_false he
              have hn : ¬ decP s := fun h => he (by
                have := h.2.2
                rw [eL, dK, dX, dC, ← eK, ← eX, ← eC] at this
                exact this)
              obtain ⟨e1, e2, e3, e4, e5⟩ := dec_no hn
              rw [e1, e2, e3, e4, e5]
              refine PureAt.val (v := .tup [.agg [.bool false, .nils, .nils, .nils], .int .i64 8]) ?_ fun φ => nil_node
              refine pure_of_loops tabPgJ_ok (fuel := 3) (d := 6) _ hls ?_
              repeat' ((conv => whnf); first | (with_reducible first | (refine W1.o ?_; constructor) | rfl | exact castL_self _ _) | ((with_reducible refine V.same_t ?_); exact rfl) | ((with_reducible refine andB_room ?_ ?_ ?_); (· kernel_rfl); (· (first | omega | (simp only [lens] <;> omega)))) | ((with_reducible refine W2.o ?_; constructor); · (first | (with_reducible assumption) | (first | omega | (simp only [lens] <;> omega)))) | ((with_reducible refine W3.o ?_; constructor); · (first | (with_reducible assumption) | (first | omega | (simp only [lens] <;> omega)))) | ((with_reducible refine W4.o ?_; constructor); · (first | (with_reducible first | assumption | exact decide_eq_true rfl | exact sEq_self _) | ((with_reducible refine eqOK_i ?_); kernel_rfl) | (first | exact ho | exact f0 | exact g2 | exact kz))) | ((with_reducible refine iteB_f ?_ ?_); · (first | (with_reducible first | assumption | exact decide_eq_true rfl | exact sEq_self _) | ((with_reducible refine eqOK_i ?_); kernel_rfl) | (first | exact ho | exact f0 | exact g2 | exact kz))) | (with_reducible refine CD.wk_au ?_) | (with_reducible refine W5.o ?_; constructor) | ((with_reducible refine W6.o ?_; constructor) <;> intro hB))
              all_goals ((conv => whnf); (try dsimp only); (try simp only [Nat.succ_eq_add_one, Nat.le_eq, castL_self]); (try omega))
              all_goals (try (first | omega | (simp only [lens] <;> omega)))
              all_goals first
                | rfl
                | exact f0
                | omega
                | trace_state
          · have g1 : ¬ @Eq Int (encE false (seg (stK false (openS s) (cntT (openS s))) 0 (List.length (stK false (openS s) (cntT (openS s))))) (seg (stX false (openS s) (cntT (openS s))) 0 (List.length (stX false (openS s) (cntT (openS s))))) (seg (stC false (openS s) (cntT (openS s))) 0 (List.length (stC false (openS s) (cntT (openS s)))))) 0 := by
              by_cases hm : mayP false (seg (stK false (openS s) (cntT (openS s))) 0 (List.length (stK false (openS s) (cntT (openS s))))) (seg (stX false (openS s) (cntT (openS s))) 0 (List.length (stX false (openS s) (cntT (openS s))))) (seg (stC false (openS s) (cntT (openS s))) 0 (List.length (stC false (openS s) (cntT (openS s)))))
              · rw [encE_3 hm (fun h => hf ⟨hm, h⟩)]; decide
              · rw [encE_2 hm]; decide
            have hn : ¬ decP s := fun h => hf (by
              have := h.2.1
              rw [eL, dK, dX, dC, ← eK, ← eX, ← eC] at this
              exact this)
            obtain ⟨e1, e2, e3, e4, e5⟩ := dec_no hn
            rw [e1, e2, e3, e4, e5]
            refine PureAt.val (v := .tup [.agg [.bool false, .nils, .nils, .nils], .int .i64 8]) ?_ fun φ => nil_node
            refine pure_of_loops tabPgJ_ok (fuel := 3) (d := 6) _ hls ?_
            repeat' ((conv => whnf); first | (with_reducible first | (refine W1.o ?_; constructor) | rfl | exact castL_self _ _) | ((with_reducible refine V.same_t ?_); exact rfl) | ((with_reducible refine andB_room ?_ ?_ ?_); (· kernel_rfl); (· (first | omega | (simp only [lens] <;> omega)))) | ((with_reducible refine W2.o ?_; constructor); · (first | (with_reducible assumption) | (first | omega | (simp only [lens] <;> omega)))) | ((with_reducible refine W3.o ?_; constructor); · (first | (with_reducible assumption) | (first | omega | (simp only [lens] <;> omega)))) | ((with_reducible refine W4.o ?_; constructor); · (first | (with_reducible first | assumption | exact decide_eq_true rfl | exact sEq_self _) | ((with_reducible refine eqOK_i ?_); kernel_rfl) | (first | exact ho | exact f0 | exact kz))) | ((with_reducible refine iteB_f ?_ ?_); · (first | (with_reducible first | assumption | exact decide_eq_true rfl | exact sEq_self _) | ((with_reducible refine eqOK_i ?_); kernel_rfl) | (first | exact ho | exact f0 | exact kz))) | (with_reducible refine CD.wk_au ?_) | (with_reducible refine W5.o ?_; constructor) | ((with_reducible refine W6.o ?_; constructor) <;> intro hB))
            all_goals ((conv => whnf); (try dsimp only); (try simp only [Nat.succ_eq_add_one, Nat.le_eq, castL_self]); (try omega))
            all_goals (try (first | omega | (simp only [lens] <;> omega)))
            all_goals first
              | rfl
              | exact f0
              | omega
              | trace_state
    · have hn : ¬ decP s := fun h => h6 h.1.2.1
      obtain ⟨e1, e2, e3, e4, e5⟩ := dec_no hn
      rw [e1, e2, e3, e4, e5]
      refine PureAt.val (v := .tup [.agg [.bool false, .nils, .nils, .nils], .int .i64 8]) ?_ fun φ => nil_node
      refine pure_of_W0 (tab := tabPgJ) (fuel := 3) (d := 6) tabPgJ_ok ?_
      repeat' ((conv => whnf); first | (with_reducible first | (refine W1.o ?_; constructor) | rfl | exact castL_self _ _) | ((with_reducible refine V.same_t ?_); exact rfl) | ((with_reducible refine andB_room ?_ ?_ ?_); (· kernel_rfl); (· (first | omega | (simp only [lens] <;> omega)))) | ((with_reducible refine W2.o ?_; constructor); · (first | (with_reducible assumption) | (first | omega | (simp only [lens] <;> omega)))) | ((with_reducible refine W3.o ?_; constructor); · (first | (with_reducible assumption) | (first | omega | (simp only [lens] <;> omega)))) | ((with_reducible refine W4.o ?_; constructor); · (first | (with_reducible first | assumption | exact decide_eq_true rfl | exact sEq_self _) | ((with_reducible refine eqOK_i ?_); kernel_rfl) | (exact ho))) | ((with_reducible refine iteB_f ?_ ?_); · (first | (with_reducible first | assumption | exact decide_eq_true rfl | exact sEq_self _) | ((with_reducible refine eqOK_i ?_); kernel_rfl) | (exact ho))) | (with_reducible refine W5.o ?_; constructor) | ((with_reducible refine W6.o ?_; constructor) <;> intro hB))
      all_goals ((conv => whnf); (try dsimp only); (try simp only [Nat.succ_eq_add_one, Nat.le_eq, castL_self]); (try omega))
      all_goals (try (first | omega | (simp only [lens] <;> omega)))
      all_goals rfl
end Go.Proofs.Ytlfhiophojahbaa
end

section
namespace Go.Proofs.Ytlfhiophojahbaa
open Go.Sym
set_option linter.unusedVariables false
noncomputable def decodeF (args : List V) : Option (List Bool × V) := match args with
  | [.str s] => some ([decide (s.size ≤ 300)], .tup [nodeV (decL s) (decK s) (decX s) (decC s), .int .i64 (decE s)])
  | _ => none
theorem decodeF_ok (args : List V) (c : List Bool) (v : V) (h : decodeF args = some (c, v)) (hc : allB c) : PureAt Try.prog 10 args v := by
  unfold decodeF at h
  split at h
  · cases h; exact decode_at _ (of_decide_eq_true hc.1)
  · cases h
theorem dec_len (s : ByteArray) : (decK s).length ≤ 255 ∧ (decX s).length ≤ 255 ∧ (decC s).length ≤ 256 := by
  by_cases hd : decP s
  · obtain ⟨e1, e2, e3, e4, e5⟩ := dec_yes hd
    rw [e2, e3, e4]
    obtain ⟨⟨h1, h2, h3⟩, h4, h5⟩ := hd
    have hz := openS_size s h1
    have hc := lenP_lt (openS s) 1
    have hc2 : cntT (openS s) = lenP (openS s) 1 := rfl
    rw [okB_eq] at h3
    obtain ⟨q1, q2, q3, q4, q5⟩ := runP_in (by omega) _ (runP_st4 h3)
    dsimp only at q1 q2 q3
    unfold nodK nodX nodC
    omega
  · obtain ⟨e1, e2, e3, e4, e5⟩ := dec_no hd
    rw [e2, e3, e4]
    simp
end Go.Proofs.Ytlfhiophojahbaa
end

section
namespace Go.Proofs.Ytlfhiophojahbaa
open Go.Sym
set_option linter.unusedVariables false

theorem strOf_list (l : List Int) : (strOf l).data.toList = l.map fun n => UInt8.ofNat n.toNat := by
  unfold strOf
  rw [List.toList_toArray]
theorem bAt_str (A R : List Int) (x : Int) (h : 0 ≤ x ∧ x < 256) : bAt (strOf (A ++ x :: R)) A.length = x := by
  unfold bAt
  rw [strOf_list, List.map_append, List.map_cons, List.getD_eq_getElem?_getD, List.getElem?_append_right (by rw [List.length_map]; exact Nat.le_refl _), List.length_map, Nat.sub_self]
  show ((UInt8.ofNat x.toNat).toNat : Int) = x
  rw [UInt8.toNat_ofNat']
  omega
theorem ext_str (A R : List Int) (k : ByteArray) : (strOf (A ++ (bytesL k ++ R))).extract A.length (A.length + k.size) = k := by
  apply ByteArray.ext
  rw [ByteArray.data_extract]
  apply Array.ext'
  rw [Array.toList_extract, strOf_list, List.extract_eq_take_drop, List.map_append, List.map_append, List.drop_left' (by rw [List.length_map]), Nat.add_sub_cancel_left]
  have e : (bytesL k).map (fun n => UInt8.ofNat n.toNat) = k.data.toList := by
    have := strOf_bytesL k
    rw [← strOf_list, this]
  rw [e]
  have hs : k.data.toList.length = k.size := by rw [Array.length_toList]; rfl
  rw [List.take_left' hs]
theorem ofI_u (q : Nat) (hq : q < 4294967296) : ofI .u32 (q : Int) = q := by
  have h : ((ofI .u32 (q : Int) : Nat) : Int) = (q : Int) % ((kM .u32 : Nat) : Int) := modN_eq (kM .u32) (by decide) q
  have hk : ((kM .u32 : Nat) : Int) = 4294967296 := rfl
  rw [hk] at h
  omega
theorem lor_hi (x y k : Nat) (h : y < 2 ^ k) : Nat.lor (x * 2 ^ k) y = x * 2 ^ k + y := by
  have := Nat.two_pow_add_eq_or_of_lt (i := k) (b := y) h x
  rw [Nat.mul_comm x, this]
  rfl
theorem or4_eq (a b c d : Nat) (ha : a < 256) (hb : b < 256) (hc : c < 256) (hd : d < 256) : or4 a b c d = ((a * 16777216 + b * 65536 + c * 256 + d : Nat) : Int) := by
  have t24 : min (Int.toNat 24) 32 = 24 := rfl
  have t16 : min (Int.toNat 16) 32 = 16 := rfl
  have t8 : min (Int.toNat 8) 32 = 8 := rfl
  have p24 : (2 : Int) ^ 24 = 16777216 := rfl
  have p16 : (2 : Int) ^ 16 = 65536 := rfl
  have p8 : (2 : Int) ^ 8 = 256 := rfl
  have w : ∀ q : Nat, q < 4294967296 → IntKind.u32.wrap (Int.ofNat q) = (q : Int) := fun q h => wrap_u32 (by simp only [Int.ofNat_eq_natCast]; omega) (by simp only [Int.ofNat_eq_natCast]; omega)
  unfold or4
  rw [t24, t16, t8, p24, p16, p8]
  rw [show ((a : Nat) : Int) % 4294967296 * 16777216 % 4294967296 = ((a * 16777216 : Nat) : Int) by omega, ofI_u _ (by omega)]
  rw [show ((b : Nat) : Int) % 4294967296 * 65536 % 4294967296 = ((b * 65536 : Nat) : Int) by omega, ofI_u _ (by omega)]
  rw [show ((c : Nat) : Int) % 4294967296 * 256 % 4294967296 = ((c * 256 : Nat) : Int) by omega, ofI_u _ (by omega)]
  rw [show ((d : Nat) : Int) % 4294967296 = ((d : Nat) : Int) by omega, ofI_u _ (by omega)]
  rw [show Nat.lor (a * 16777216) (b * 65536) = a * 16777216 + b * 65536 from lor_hi a (b * 65536) 24 (by omega)]
  rw [w (a * 16777216 + b * 65536) (by omega), ofI_u _ (by omega)]
  rw [show Nat.lor (a * 16777216 + b * 65536) (c * 256) = a * 16777216 + b * 65536 + c * 256 by
    have := lor_hi (a * 256 + b) (c * 256) 16 (by omega)
    rw [show (a * 256 + b) * 2 ^ 16 = a * 16777216 + b * 65536 by omega] at this
    exact this]
  rw [w (a * 16777216 + b * 65536 + c * 256) (by omega), ofI_u _ (by omega)]
  rw [show Nat.lor (a * 16777216 + b * 65536 + c * 256) d = a * 16777216 + b * 65536 + c * 256 + d by
    have := lor_hi (a * 65536 + b * 256 + c) d 8 (by omega)
    rw [show (a * 65536 + b * 256 + c) * 2 ^ 8 = a * 16777216 + b * 65536 + c * 256 by omega] at this
    exact this]
  exact w _ (by omega)
theorem or4_be (n : Int) (h0 : 0 ≤ n) (h1 : n < 4294967296) : or4 (n / 2 ^ min (Int.toNat 24) 32 % 256) (n / 2 ^ min (Int.toNat 16) 32 % 256) (n / 2 ^ min (Int.toNat 8) 32 % 256) (n % 256) = n := by
  have t24 : min (Int.toNat 24) 32 = 24 := rfl
  have t16 : min (Int.toNat 16) 32 = 16 := rfl
  have t8 : min (Int.toNat 8) 32 = 8 := rfl
  have p24 : (2 : Int) ^ 24 = 16777216 := rfl
  have p16 : (2 : Int) ^ 16 = 65536 := rfl
  have p8 : (2 : Int) ^ 8 = 256 := rfl
  rw [t24, t16, t8, p24, p16, p8]
  obtain ⟨m, rfl⟩ := Int.eq_ofNat_of_zero_le h0
  have e := or4_eq (m / 16777216 % 256) (m / 65536 % 256) (m / 256 % 256) (m % 256) (by omega) (by omega) (by omega) (by omega)
  have q1 : ((m / 16777216 % 256 : Nat) : Int) = (m : Int) / 16777216 % 256 := by omega
  have q2 : ((m / 65536 % 256 : Nat) : Int) = (m : Int) / 65536 % 256 := by omega
  have q3 : ((m / 256 % 256 : Nat) : Int) = (m : Int) / 256 % 256 := by omega
  have q4 : ((m % 256 : Nat) : Int) = (m : Int) % 256 := by omega
  rw [q1, q2, q3, q4] at e
  rw [e]
  omega
theorem n4_str (A R : List Int) (n : Int) (h0 : 0 ≤ n) (h1 : n < 4294967296) : n4 (strOf (A ++ (be4 n ++ R))) A.length = n := by
  have e : ∀ (B : List Int) (x : Int) (Q : List Int), 0 ≤ x ∧ x < 256 → A ++ (be4 n ++ R) = B ++ x :: Q → bAt (strOf (A ++ (be4 n ++ R))) B.length = x := fun B x Q hx he => by rw [he]; exact bAt_str B Q x hx
  have m24 : 0 ≤ n / 2 ^ min (Int.toNat 24) 32 % 256 ∧ n / 2 ^ min (Int.toNat 24) 32 % 256 < 256 := by omega
  have m16 : 0 ≤ n / 2 ^ min (Int.toNat 16) 32 % 256 ∧ n / 2 ^ min (Int.toNat 16) 32 % 256 < 256 := by omega
  have m8 : 0 ≤ n / 2 ^ min (Int.toNat 8) 32 % 256 ∧ n / 2 ^ min (Int.toNat 8) 32 % 256 < 256 := by omega
  have m0 : 0 ≤ n % 256 ∧ n % 256 < 256 := by omega
  have g0 := e A _ (n / 2 ^ min (Int.toNat 16) 32 % 256 :: n / 2 ^ min (Int.toNat 8) 32 % 256 :: n % 256 :: R) m24 rfl
  have g1 := e (A ++ [n / 2 ^ min (Int.toNat 24) 32 % 256]) _ (n / 2 ^ min (Int.toNat 8) 32 % 256 :: n % 256 :: R) m16 (by rw [List.append_assoc]; rfl)
  have g2 := e (A ++ [n / 2 ^ min (Int.toNat 24) 32 % 256, n / 2 ^ min (Int.toNat 16) 32 % 256]) _ (n % 256 :: R) m8 (by rw [List.append_assoc]; rfl)
  have g3 := e (A ++ [n / 2 ^ min (Int.toNat 24) 32 % 256, n / 2 ^ min (Int.toNat 16) 32 % 256, n / 2 ^ min (Int.toNat 8) 32 % 256]) _ R m0 (by rw [List.append_assoc]; rfl)
  rw [List.length_append] at g1 g2 g3
  unfold n4
  rw [g0, show A.length + 1 = A.length + [n / 2 ^ min (Int.toNat 24) 32 % 256].length from rfl, g1, show A.length + 2 = A.length + [n / 2 ^ min (Int.toNat 24) 32 % 256, n / 2 ^ min (Int.toNat 16) 32 % 256].length from rfl, g2, show A.length + 3 = A.length + [n / 2 ^ min (Int.toNat 24) 32 % 256, n / 2 ^ min (Int.toNat 16) 32 % 256, n / 2 ^ min (Int.toNat 8) 32 % 256].length from rfl, g3]
  exact or4_be n h0 h1
theorem lay_pre (l : Bool) (K X : List ByteArray) (C : List Int) (i : Nat) : ∀ d, ∃ T, layN l K X C (i + d) = layN l K X C i ++ T
  | 0 => ⟨[], by rw [Nat.add_zero, List.append_nil]⟩
  | d + 1 => by
    obtain ⟨T, hT⟩ := lay_pre l K X C i d
    cases l with
    | true => exact ⟨T ++ ([((atS K (i + d)).size : Int) % 256] ++ bytesL (atS K (i + d)) ++ [((atS X (i + d)).size : Int) % 256] ++ bytesL (atS X (i + d))), by rw [← Nat.add_assoc, layN_leaf, hT]; simp only [List.append_assoc]⟩
    | false => exact ⟨T ++ ([((atS K (i + d)).size : Int) % 256] ++ bytesL (atS K (i + d)) ++ be4 (atI C (i + d + 1))), by rw [← Nat.add_assoc, layN_knot, hT]; simp only [List.append_assoc]⟩
theorem body_pre (l : Bool) (K X : List ByteArray) (C : List Int) {i : Nat} (h : i ≤ K.length) : ∃ R, bodyN l K X C = strOf (layN l K X C i ++ R) := by
  obtain ⟨T, hT⟩ := lay_pre l K X C i (K.length - i)
  rw [Nat.add_sub_cancel' h] at hT
  exact ⟨T ++ List.replicate (252 - (layN l K X C K.length).length) 0, by unfold bodyN; rw [hT, List.append_assoc]⟩
theorem len_mod {s : ByteArray} (h : s.size ≤ 96) : (s.size : Int) % 256 = (s.size : Int) := by omega
theorem lenP_of {t : ByteArray} {o : Nat} {s : ByteArray} (hs : s.size ≤ 96) (h : bAt t o = (s.size : Int) % 256) : lenP t o = s.size := by
  unfold lenP
  rw [h, len_mod hs]
  omega
noncomputable def stB (l : Bool) (K X : List ByteArray) (C : List Int) (i : Nat) : PS := (K.take i, if l = true then X.take i else [], if l = true then [] else C.take (i + 1), (layN l K X C i).length)
theorem run_leaf {K X : List ByteArray} {C : List Int} (h : fitP true K X C) : ∀ i, i ≤ K.length → runP true (bodyN true K X C) i = some (stB true K X C i)
  | 0, _ => by
    rw [runP_0]
    unfold stB startP
    rw [layN_leaf0]
    simp
  | i + 1, hi => by
    have hk := may_keys h.1 i (by omega)
    have hx := may_vals h.1 i (by have := may_x h.1; omega)
    obtain ⟨hxl, hcl⟩ := may_x h.1
    obtain ⟨R, hR⟩ := body_pre true K X C hi
    have ht := bodyN_size h
    have hl := layN_len_leaf K X C i
    have hsz : (layN true K X C (i + 1)).length + R.length = 252 := by rw [← List.length_append, ← strOf_size, ← hR, ht]
    rw [layN_leaf] at hR
    obtain ⟨t, et⟩ : ∃ t, bodyN true K X C = t := ⟨_, rfl⟩
    rw [runP_succ, run_leaf h i (by omega)]
    rw [et] at hR ht ⊢
    have f0 := bAt_str (layN true K X C i) (bytesL (atS K i) ++ ([((atS X i).size : Int) % 256] ++ (bytesL (atS X i) ++ R))) (((atS K i).size : Int) % 256) (by omega)
    have f1 := ext_str (layN true K X C i ++ [((atS K i).size : Int) % 256]) ([((atS X i).size : Int) % 256] ++ (bytesL (atS X i) ++ R)) (atS K i)
    have f2 := bAt_str (layN true K X C i ++ ([((atS K i).size : Int) % 256] ++ bytesL (atS K i))) (bytesL (atS X i) ++ R) (((atS X i).size : Int) % 256) (by omega)
    have f3 := ext_str (layN true K X C i ++ ([((atS K i).size : Int) % 256] ++ (bytesL (atS K i) ++ [((atS X i).size : Int) % 256]))) R (atS X i)
    have m1 : (layN true K X C i ++ [((atS K i).size : Int) % 256]).length = (layN true K X C i).length + 1 := by simp only [lens]
    have m2 : (layN true K X C i ++ ([((atS K i).size : Int) % 256] ++ bytesL (atS K i))).length = (layN true K X C i).length + 1 + (atS K i).size := by simp only [lens]; omega
    have m3 : (layN true K X C i ++ ([((atS K i).size : Int) % 256] ++ (bytesL (atS K i) ++ [((atS X i).size : Int) % 256]))).length = (layN true K X C i).length + 1 + (atS K i).size + 1 := by simp only [lens]; omega
    rw [m1] at f1
    rw [m2] at f2
    rw [m3] at f3
    have hQ : t = strOf (layN true K X C i ++ ([((atS K i).size : Int) % 256] ++ (bytesL (atS K i) ++ ([((atS X i).size : Int) % 256] ++ (bytesL (atS X i) ++ R))))) := by
      rw [hR]; simp only [List.append_assoc]
    have b0 : bAt t (layN true K X C i).length = ((atS K i).size : Int) % 256 := by rw [hQ]; exact f0
    have e0 : t.extract ((layN true K X C i).length + 1) ((layN true K X C i).length + 1 + (atS K i).size) = atS K i := by
      rw [List.append_assoc] at f1; rw [hQ]; exact f1
    have b1 : bAt t ((layN true K X C i).length + 1 + (atS K i).size) = ((atS X i).size : Int) % 256 := by
      rw [List.append_assoc, List.append_assoc] at f2; rw [hQ]; exact f2
    have e1 : t.extract ((layN true K X C i).length + 1 + (atS K i).size + 1) ((layN true K X C i).length + 1 + (atS K i).size + 1 + (atS X i).size) = atS X i := by
      simp only [List.append_assoc] at f3; rw [hQ]; exact f3
    have l0 := lenP_of (by omega) b0
    have l1 := lenP_of hx b1
    show stepP true t (stB true K X C i) = _
    have q1 : txP t (stB true K X C i).2.2.2 := by
      show txP t (layN true K X C i).length
      unfold txP
      rw [l0]; omega
    have q2 : txP t ((stB true K X C i).2.2.2 + 1 + lenP t (stB true K X C i).2.2.2) := by
      show txP t ((layN true K X C i).length + 1 + lenP t (layN true K X C i).length)
      unfold txP
      rw [l0, l1]; omega
    rw [stepP_leaf q1 q2]
    have w0 : txS t (layN true K X C i).length = atS K i := by unfold txS; rw [l0]; exact e0
    have w1 : txS t ((layN true K X C i).length + 1 + (atS K i).size) = atS X i := by unfold txS; rw [l1]; exact e1
    have z1 : (stB true K X C i).1 = K.take i := rfl
    have z2 : (stB true K X C i).2.1 = X.take i := rfl
    have z3 : (stB true K X C i).2.2.1 = [] := rfl
    have z4 : (stB true K X C i).2.2.2 = (layN true K X C i).length := rfl
    rw [z1, z2, z3, z4, l0, w0, w1, l1]
    unfold stB
    rw [List.take_succ_eq_append_getElem (by omega : i < K.length), List.take_succ_eq_append_getElem (by omega : i < X.length), atS_lt (by omega : i < K.length), atS_lt (by omega : i < X.length), hl, atS_lt (by omega : i < K.length), atS_lt (by omega : i < X.length)]
    simp only [if_true, Option.some.injEq, Prod.mk.injEq, true_and]
    omega
theorem run_knot {K X : List ByteArray} {C : List Int} (h : fitP false K X C) (hz : ∀ c ∈ C, 0 ≤ c ∧ c < 4294967296) : ∀ i, i ≤ K.length → runP false (bodyN false K X C) i = some (stB false K X C i)
  | 0, _ => by
    have hkl := h.1.2.1
    obtain ⟨hxl, hcl⟩ := may_c h.1
    obtain ⟨R, hR⟩ := body_pre false K X C (Nat.zero_le K.length)
    have hc0 : atI C 0 = C[0] := atI_lt (by omega)
    have hc := hz C[0] (List.getElem_mem _)
    rw [layN_knot0, hc0] at hR
    have e := n4_str [2, (K.length : Int) % 256] R C[0] hc.1 hc.2
    rw [List.append_assoc] at hR
    rw [runP_0, hR]
    unfold stB startP
    rw [layN_knot0]
    have e2 : n4 (strOf ([2, (K.length : Int) % 256] ++ (be4 C[0] ++ R))) 2 = C[0] := e
    have e3 : C.take 1 = [C[0]] := by
      have := List.take_succ_eq_append_getElem (show 0 < C.length by omega)
      simpa using this
    simp only [if_neg (show ¬ false = true by decide), e2, List.take_zero, Nat.zero_add, e3]
    rfl
  | i + 1, hi => by
    have hk := may_keys h.1 i (by omega)
    obtain ⟨hxl, hcl⟩ := may_c h.1
    obtain ⟨R, hR⟩ := body_pre false K X C hi
    have ht := bodyN_size h
    have hl := layN_len_knot K X C i
    have hsz : (layN false K X C (i + 1)).length + R.length = 252 := by rw [← List.length_append, ← strOf_size, ← hR, ht]
    have hc0 : atI C (i + 1) = C[i + 1] := atI_lt (by omega)
    have hc := hz C[i + 1] (List.getElem_mem _)
    rw [layN_knot, hc0] at hR
    obtain ⟨t, et⟩ : ∃ t, bodyN false K X C = t := ⟨_, rfl⟩
    rw [runP_succ, run_knot h hz i (by omega)]
    rw [et] at hR ht ⊢
    have f0 := bAt_str (layN false K X C i) (bytesL (atS K i) ++ (be4 C[i + 1] ++ R)) (((atS K i).size : Int) % 256) (by omega)
    have f1 := ext_str (layN false K X C i ++ [((atS K i).size : Int) % 256]) (be4 C[i + 1] ++ R) (atS K i)
    have f2 := n4_str (layN false K X C i ++ ([((atS K i).size : Int) % 256] ++ bytesL (atS K i))) R C[i + 1] hc.1 hc.2
    have m1 : (layN false K X C i ++ [((atS K i).size : Int) % 256]).length = (layN false K X C i).length + 1 := by simp only [lens]
    have m2 : (layN false K X C i ++ ([((atS K i).size : Int) % 256] ++ bytesL (atS K i))).length = (layN false K X C i).length + 1 + (atS K i).size := by simp only [lens]; omega
    rw [m1] at f1
    rw [m2] at f2
    have hQ : t = strOf (layN false K X C i ++ ([((atS K i).size : Int) % 256] ++ (bytesL (atS K i) ++ (be4 C[i + 1] ++ R)))) := by
      rw [hR]; simp only [List.append_assoc]
    have b0 : bAt t (layN false K X C i).length = ((atS K i).size : Int) % 256 := by rw [hQ]; exact f0
    have e0 : t.extract ((layN false K X C i).length + 1) ((layN false K X C i).length + 1 + (atS K i).size) = atS K i := by
      rw [List.append_assoc] at f1; rw [hQ]; exact f1
    have e1 : n4 t ((layN false K X C i).length + 1 + (atS K i).size) = C[i + 1] := by
      rw [List.append_assoc, List.append_assoc] at f2; rw [hQ]; exact f2
    have l0 := lenP_of (by omega) b0
    show stepP false t (stB false K X C i) = _
    have q1 : txP t (stB false K X C i).2.2.2 := by
      show txP t (layN false K X C i).length
      unfold txP
      rw [l0]; omega
    have q2 : (stB false K X C i).2.2.2 + 1 + lenP t (stB false K X C i).2.2.2 + 4 ≤ t.size := by
      show (layN false K X C i).length + 1 + lenP t (layN false K X C i).length + 4 ≤ t.size
      rw [l0]; omega
    rw [stepP_knot q1 q2]
    have w0 : txS t (layN false K X C i).length = atS K i := by unfold txS; rw [l0]; exact e0
    have z1 : (stB false K X C i).1 = K.take i := rfl
    have z2 : (stB false K X C i).2.1 = [] := rfl
    have z3 : (stB false K X C i).2.2.1 = C.take (i + 1) := rfl
    have z4 : (stB false K X C i).2.2.2 = (layN false K X C i).length := rfl
    rw [z1, z2, z3, z4, l0, w0, e1]
    unfold stB
    rw [List.take_succ_eq_append_getElem (by omega : i < K.length), List.take_succ_eq_append_getElem (by omega : i + 1 < C.length), atS_lt (by omega : i < K.length), hl, atS_lt (by omega : i < K.length)]
    simp only [if_neg (show ¬ false = true by decide), Option.some.injEq, Prod.mk.injEq, true_and]
    omega
theorem run_back {l : Bool} {K X : List ByteArray} {C : List Int} (h : fitP l K X C) (hz : ∀ c ∈ C, 0 ≤ c ∧ c < 4294967296) : runP l (bodyN l K X C) K.length = some (K, X, C, (layN l K X C K.length).length) := by
  cases l with
  | true =>
    obtain ⟨hx, hc⟩ := may_x h.1
    rw [run_leaf h _ (Nat.le_refl _)]
    unfold stB
    rw [if_pos rfl, if_pos rfl, List.take_of_length_le (Nat.le_refl _), List.take_of_length_le (by omega), List.eq_nil_of_length_eq_zero hc]
  | false =>
    obtain ⟨hx, hc⟩ := may_c h.1
    rw [run_knot h hz _ (Nat.le_refl _)]
    unfold stB
    rw [if_neg (by decide), if_neg (by decide), List.take_of_length_le (Nat.le_refl _), List.take_of_length_le (by omega), List.eq_nil_of_length_eq_zero hx]
theorem body_head {l : Bool} {K X : List ByteArray} {C : List Int} (h : fitP l K X C) : leafT (bodyN l K X C) = l ∧ cntT (bodyN l K X C) = K.length := by
  obtain ⟨R, hR⟩ := body_pre l K X C (Nat.zero_le K.length)
  have hK := h.1.2.2.1
  unfold leafT cntT lenP
  cases l with
  | true =>
    rw [layN_leaf0] at hR
    rw [hR]
    have e0 := bAt_str [] ((K.length : Int) % 256 :: R) 1 (by decide)
    have e1 := bAt_str [1] R ((K.length : Int) % 256) (by omega)
    have e0 : bAt (strOf ([1, (K.length : Int) % 256] ++ R)) 0 = 1 := e0
    have e1 : bAt (strOf ([1, (K.length : Int) % 256] ++ R)) 1 = (K.length : Int) % 256 := e1
    rw [e0, e1]
    exact ⟨rfl, by omega⟩
  | false =>
    rw [layN_knot0, List.append_assoc] at hR
    rw [hR]
    have e0 := bAt_str [] ((K.length : Int) % 256 :: (be4 (atI C 0) ++ R)) 2 (by decide)
    have e1 := bAt_str [2] (be4 (atI C 0) ++ R) ((K.length : Int) % 256) (by omega)
    have e0 : bAt (strOf ([2, (K.length : Int) % 256] ++ (be4 (atI C 0) ++ R))) 0 = 2 := e0
    have e1 : bAt (strOf ([2, (K.length : Int) % 256] ++ (be4 (atI C 0) ++ R))) 1 = (K.length : Int) % 256 := e1
    rw [e0, e1]
    exact ⟨rfl, by omega⟩
theorem dec_back {l : Bool} {K X : List ByteArray} {C : List Int} (h : fitP l K X C) (hz : ∀ c ∈ C, 0 ≤ c ∧ c < 4294967296) : decL (encS l K X C) = l ∧ decK (encS l K X C) = K ∧ decX (encS l K X C) = X ∧ decC (encS l K X C) = C ∧ decE (encS l K X C) = 0 := by
  have es := encS_yes h
  obtain ⟨o1, o2⟩ := open_seal (bodyN l K X C)
  have ht := bodyN_size h
  obtain ⟨h1, h2⟩ := body_head h
  have hr := run_back h hz
  obtain ⟨k1, k2, k3, k4⟩ := st_of hr
  have g1 : nodK (encS l K X C) = K := by unfold nodK; rw [es, o2, h1, h2]; exact k1
  have g2 : nodX (encS l K X C) = X := by unfold nodX; rw [es, o2, h1, h2]; exact k2
  have g3 : nodC (encS l K X C) = C := by unfold nodC; rw [es, o2, h1, h2]; exact k3
  have g0 : leafT (openS (encS l K X C)) = l := by rw [es, o2]; exact h1
  have hd : decP (encS l K X C) := by
    refine ⟨⟨by rw [es]; exact o1, by rw [es, sealS_size, ht], ?_⟩, ?_, ?_⟩
    · rw [es, o2, h1, h2, okB_eq, hr]; rfl
    · rw [g0, g1, g2, g3]; exact h
    · rw [g0, g1, g2, g3]
  obtain ⟨e1, e2, e3, e4, e5⟩ := dec_yes hd
  rw [e1, e2, e3, e4, e5]
  exact ⟨g0, g1, g2, g3, rfl⟩
end Go.Proofs.Ytlfhiophojahbaa
end

section
namespace Go.Proofs.Ytlfhiophojahbaa
open Go.Sym
set_option linter.unusedVariables false
set_option linter.unusedSimpArgs false
set_option maxRecDepth 100000
set_option maxHeartbeats 4000000
theorem wk_k : atS ([⟨#[97]⟩] : List ByteArray) 0 = ⟨#[97]⟩ := rowAt_oneS _
theorem wk_x : atS ([⟨#[120, 121]⟩] : List ByteArray) 0 = ⟨#[120, 121]⟩ := rowAt_oneS _
theorem wk_len : (layN true ([⟨#[97]⟩] : List ByteArray) ([⟨#[120, 121]⟩] : List ByteArray) [] (0 + 1)).length = 7 := by
  rw [layN_len_leaf, layN_leaf0, wk_k, wk_x]; rfl
theorem wk_fit : fitP true ([⟨#[97]⟩] : List ByteArray) ([⟨#[120, 121]⟩] : List ByteArray) [] := by
  refine ⟨⟨⟨rfl, rfl⟩, Nat.zero_lt_one, (by decide), (keysB_iff _).2 ?_, (valsB_iff _).2 ?_, (kidsB_iff _).2 ?_⟩, ?_⟩
  · intro j hj
    have hj0 : j = 0 := Nat.lt_one_iff.1 hj
    subst hj0
    rw [ahS_0, wk_k]
    exact ⟨by decide +kernel, by decide⟩
  · intro j hj
    have hj0 : j = 0 := Nat.lt_one_iff.1 hj
    subst hj0
    rw [wk_x]; decide
  · intro j hj
    exact absurd hj (Nat.not_lt_zero j)
  · exact Nat.le_trans (Nat.le_of_eq wk_len) (by decide)
theorem wk_siz : sizN true ([⟨#[97]⟩] : List ByteArray) ([⟨#[120, 121]⟩] : List ByteArray) [] = 11 := by
  rw [sizN_yes wk_fit.1]
  show ((layN true ([⟨#[97]⟩] : List ByteArray) ([⟨#[120, 121]⟩] : List ByteArray) [] (0 + 1)).length : Int) + 4 = 11
  rw [wk_len]; rfl
theorem wk_size : (encS true ([⟨#[97]⟩] : List ByteArray) ([⟨#[120, 121]⟩] : List ByteArray) []).size = 256 := by
  rw [encS_yes wk_fit, sealS_size]
  have := bodyN_size wk_fit
  omega
noncomputable def tabPgW : Tab := oneTab 16 encodeF (oneTab 10 decodeF (oneTab 31 sizeF (oneTab 17 fitsF (oneTab 12 sameNF noTab))))
theorem tabPgW_ok : TabOK Try.prog tabPgW := oneTab_ok encodeF_ok (oneTab_ok decodeF_ok (oneTab_ok sizeF_ok (oneTab_ok fitsF_ok (oneTab_ok sameNF_ok noTab_ok))))
theorem works07_at : PureAt Try.prog 14 [] (.bool true) := by
  have f1 : encE true (seg ([⟨#[97]⟩] : List ByteArray) 0 1) (seg ([⟨#[120, 121]⟩] : List ByteArray) 0 1) [] = 0 := encE_0 wk_fit
  have f2 : (encS true (seg ([⟨#[97]⟩] : List ByteArray) 0 1) (seg ([⟨#[120, 121]⟩] : List ByteArray) 0 1) []).size = 256 := wk_size
  obtain ⟨b1, b2, b3, b4, b5⟩ : decL (encS true (seg ([⟨#[97]⟩] : List ByteArray) 0 1) (seg ([⟨#[120, 121]⟩] : List ByteArray) 0 1) []) = true ∧ decK (encS true (seg ([⟨#[97]⟩] : List ByteArray) 0 1) (seg ([⟨#[120, 121]⟩] : List ByteArray) 0 1) []) = (seg ([⟨#[97]⟩] : List ByteArray) 0 1) ∧ decX (encS true (seg ([⟨#[97]⟩] : List ByteArray) 0 1) (seg ([⟨#[120, 121]⟩] : List ByteArray) 0 1) []) = (seg ([⟨#[120, 121]⟩] : List ByteArray) 0 1) ∧ decC (encS true (seg ([⟨#[97]⟩] : List ByteArray) 0 1) (seg ([⟨#[120, 121]⟩] : List ByteArray) 0 1) []) = [] ∧ decE (encS true (seg ([⟨#[97]⟩] : List ByteArray) 0 1) (seg ([⟨#[120, 121]⟩] : List ByteArray) 0 1) []) = 0 := dec_back wk_fit (fun c hc => by cases hc)
  have f3 : sizN true (seg ([⟨#[97]⟩] : List ByteArray) 0 1) (seg ([⟨#[120, 121]⟩] : List ByteArray) 0 1) [] = 11 := wk_siz
  have f4 : fitB true (seg ([⟨#[97]⟩] : List ByteArray) 0 1) (seg ([⟨#[120, 121]⟩] : List ByteArray) 0 1) [] = true := (fitB_iff _ _ _ _).2 wk_fit
  have g1 : eqLs (decK (encS true (seg ([⟨#[97]⟩] : List ByteArray) 0 1) (seg ([⟨#[120, 121]⟩] : List ByteArray) 0 1) [])) (seg ([⟨#[97]⟩] : List ByteArray) 0 1) = true := by rw [b2]; exact eqLs_self _
  have g2 : eqLs (decX (encS true (seg ([⟨#[97]⟩] : List ByteArray) 0 1) (seg ([⟨#[120, 121]⟩] : List ByteArray) 0 1) [])) (seg ([⟨#[120, 121]⟩] : List ByteArray) 0 1) = true := by rw [b3]; exact eqLs_self _
  have g3 : eqIs (decC (encS true (seg ([⟨#[97]⟩] : List ByteArray) 0 1) (seg ([⟨#[120, 121]⟩] : List ByteArray) 0 1) [])) [] = true := by rw [b4]; exact eqIs_self _
  have n1 : (decK (encS true (seg ([⟨#[97]⟩] : List ByteArray) 0 1) (seg ([⟨#[120, 121]⟩] : List ByteArray) 0 1) [])).length = 1 := by rw [b2]; rfl
  have n2 : (decX (encS true (seg ([⟨#[97]⟩] : List ByteArray) 0 1) (seg ([⟨#[120, 121]⟩] : List ByteArray) 0 1) [])).length = 1 := by rw [b3]; rfl
  have n3 : (decC (encS true (seg ([⟨#[97]⟩] : List ByteArray) 0 1) (seg ([⟨#[120, 121]⟩] : List ByteArray) 0 1) [])).length = 0 := by rw [b4]; rfl
  refine pure_of_W0 (tab := tabPgW) (fuel := 3) (d := 5) tabPgW_ok ?_
  repeat' ((conv => whnf); first | (with_reducible first | (refine W1.o ?_; constructor) | rfl | exact castL_self _ _) | ((with_reducible refine V.same_t ?_); exact rfl) | ((with_reducible refine andB_room ?_ ?_ ?_); (· kernel_rfl); (· (first | omega | (simp only [lens] <;> omega)))) | ((with_reducible refine W2.o ?_; constructor); · (first | (with_reducible assumption) | (first | omega | (simp only [lens] <;> omega)))) | ((with_reducible refine W3.o ?_; constructor); · (first | (with_reducible assumption) | (first | omega | (simp only [lens] <;> omega)))) | ((with_reducible refine W4.o ?_; constructor); · (first | (with_reducible first | assumption | exact decide_eq_true rfl | exact sEq_self _) | ((with_reducible refine eqOK_i ?_); kernel_rfl) | (first | exact f4 | exact g1 | exact g2 | exact g3 | exact b1))) | ((with_reducible refine iteB_f ?_ ?_); · (first | (with_reducible first | assumption | exact decide_eq_true rfl | exact sEq_self _) | ((with_reducible refine eqOK_i ?_); kernel_rfl) | (first | exact f4 | exact g1 | exact g2 | exact g3 | exact b1))) | (with_reducible refine W5.o ?_; constructor) | ((with_reducible refine W6.o ?_; constructor) <;> intro hB))
  all_goals ((conv => whnf); (try dsimp only); (try simp only [Nat.succ_eq_add_one, Nat.le_eq, castL_self]); (try omega))
  all_goals (try (first | omega | (simp only [lens] <;> omega)))
  all_goals first
    | (rw [f4]; rfl)
    | trace_state
noncomputable def true07F (args : List V) : Option (List Bool × V) := match args with
  | [] => some ([], .bool true)
  | _ => none
theorem true07F_ok (args : List V) (c : List Bool) (v : V) (h : true07F args = some (c, v)) (_ : allB c) : PureAt Try.prog 14 args v := by
  unfold true07F at h
  split at h
  · cases h; exact works07_at
  · cases h
end Go.Proofs.Ytlfhiophojahbaa
end

section
namespace Go.Proofs.Ytlfhiophojahbaa
open Go.Sym
set_option linter.unusedVariables false
set_option linter.unusedSimpArgs false
set_option maxRecDepth 100000
set_option maxHeartbeats 4000000
theorem refdecodeF_ok (args : List V) (c : List Bool) (v : V) (h : decodeF args = some (c, v)) (hc : allB c) : PureAt Try.prog 11 args v := by
  unfold decodeF at h
  split at h
  · cases h; exact refdecode_at _ (of_decide_eq_true hc.1)
  · cases h
noncomputable def tabPgR : Tab := oneTab 10 decodeF (oneTab 11 decodeF (oneTab 12 sameNF (oneTab 14 true07F noTab)))
theorem tabPgR_ok : TabOK Try.prog tabPgR := oneTab_ok decodeF_ok (oneTab_ok refdecodeF_ok (oneTab_ok sameNF_ok (oneTab_ok true07F_ok noTab_ok)))
theorem pageReads_at (s : ByteArray) (hs : s.size ≤ 9223372036854775807) : PureAt Try.prog 3 [.str s] (.bool true) := by
  have hd := dec_len (cutS s 0 (Int.toNat (min (s.size : Int) 300)))
  obtain ⟨d1, d2, d3⟩ := hd
  refine pure_of_W0 (tab := tabPgR) (fuel := 3) (d := 5) tabPgR_ok ?_
  repeat' ((conv => whnf); first | (with_reducible first | (refine W1.o ?_; constructor) | rfl | exact castL_self _ _) | ((with_reducible refine V.same_t ?_); exact rfl) | ((with_reducible refine andB_room ?_ ?_ ?_); (· kernel_rfl); (· (first | omega | (simp only [lens] <;> omega)))) | ((with_reducible refine W2.o ?_; constructor); · (first | (with_reducible assumption) | (first | omega | (simp only [lens] <;> omega)))) | ((with_reducible refine W3.o ?_; constructor); · (first | (with_reducible assumption) | (first | omega | (simp only [lens] <;> omega)))) | ((with_reducible refine W4.o ?_; constructor); · (first | (with_reducible first | assumption | exact decide_eq_true rfl | exact sEq_self _) | ((with_reducible refine eqOK_i ?_); kernel_rfl) | (first | exact eqLs_self _ | exact eqIs_self _ | exact decide_eq_true rfl))) | ((with_reducible refine iteB_f ?_ ?_); · (first | (with_reducible first | assumption | exact decide_eq_true rfl | exact sEq_self _) | ((with_reducible refine eqOK_i ?_); kernel_rfl) | (first | exact eqLs_self _ | exact eqIs_self _ | exact decide_eq_true rfl))) | (with_reducible refine W5.o ?_; constructor) | ((with_reducible refine W6.o ?_; constructor) <;> intro hB))
  all_goals ((conv => whnf); (try dsimp only); (try simp only [Nat.succ_eq_add_one, Nat.le_eq, castL_self]); (try omega))
  all_goals (try (first | omega | (simp only [lens] <;> omega)))
  all_goals first
    | rfl
    | trace_state
end Go.Proofs.Ytlfhiophojahbaa
end

section
namespace Go.Sym
open Go.ChangeShapes Go.WideShapes

def kLo : IntKind → Int
  | .i8 => -128
  | .i16 => -32768
  | .i32 => -2147483648
  | .i64 => -9223372036854775808
  | _ => 0
def kHi : IntKind → Int
  | .i8 => 128
  | .i16 => 32768
  | .i32 => 2147483648
  | .i64 => 9223372036854775808
  | .u8 => 256
  | .u16 => 65536
  | .u32 => 4294967296
  | .u64 => 18446744073709551616
mutual
def wfT : (t : Ty) → t.den → Prop
  | .int k, n => (fun n : Int => kLo k ≤ n ∧ n < kHi k) n
  | .bool, _ => True
  | .str, s => ByteArray.size s ≤ 9223372036854775807
  | .lst e, L => List.length (α := rowDen e) L ≤ 9223372036854775807 ∧ ∀ i, i < List.length (α := rowDen e) L → wfR e (rowAt e L i)
def wfR : (e : List Ty) → rowDen e → Prop
  | [], _ => True
  | [t], x => wfT t x
  | t :: u :: ts, x => wfT t x.1 ∧ wfR (u :: ts) x.2
end
def repT (r : List Ty) : Nat → List Ty
  | 0 => []
  | n + 1 => r ++ repT r n
noncomputable section
variable (P : Program)
def layF (f : TypeId → Option (List Ty)) : Nat → List Field → Option (List Ty)
  | _, [] => some []
  | off, fd :: l => match f fd.type with
    | some a => bif Nat.beq fd.offset off && Nat.beq (P.cellsOf fd.type) a.length then (match layF f (off + a.length) l with
      | some b => some (a ++ b)
      | none => none) else none
    | none => none
def layE : Nat → TypeId → Option (List Ty)
  | 0, _ => none
  | n + 1, t => match P.underlying t with
    | some (.int k) => some [.int k]
    | some .bool => some [.bool]
    | some .string => some [.str]
    | some (.slice e) => match layE n e with
      | some r => bif Nat.beq (P.cellsOf e) r.length && Nat.blt 0 r.length then some [.lst r] else none
      | none => none
    | some (.struct fs) => match layF P (layE n) 0 fs.toList with
      | some e => bif Nat.beq (P.cellsOf t) e.length then some e else none
      | none => none
    | some (.array m el) => match layE n el with
      | some r => bif Nat.beq (P.cellsOf el) r.length && Nat.beq (P.cellsOf t) (repT r m).length then some (repT r m) else none
      | none => none
    | _ => none
end

theorem addr_addN (b o j : Nat) : (⟨b, o, none⟩ : Addr).add j = ⟨b, o + j, none⟩ := by
  unfold Addr.add
  split
  · rename_i h; subst h; rfl
  · rfl
theorem wfR_nil (x : rowDen []) : wfR [] x := by rw [wfR]; trivial
theorem wfR_one {t : Ty} (x : rowDen [t]) (h : wfT t x) : wfR [t] x := by rw [wfR]; exact h
theorem wfR_cons {t u : Ty} {ts : List Ty} (x : rowDen (t :: u :: ts)) (h1 : wfT t x.1) (h2 : wfR (u :: ts) x.2) : wfR (t :: u :: ts) x := by rw [wfR]; exact ⟨h1, h2⟩
theorem of_wfR_one {t : Ty} (x : rowDen [t]) (h : wfR [t] x) : wfT t x := by rw [wfR] at h; exact h
theorem of_CRel_one {φ : Nat → Nat → Option Value} {t : Ty} (x : rowDen [t]) {C : Nat → Option Value} (h : CRel φ [t] x C) : ∃ X, C 0 = some X ∧ TRel φ t x X := by rw [CRel] at h; exact h
theorem wfT_int {k : IntKind} {n : (Ty.int k).den} (h : (fun n : Int => kLo k ≤ n ∧ n < kHi k) n) : wfT (.int k) n := by rw [wfT]; exact h
theorem wfT_bool (b : Ty.bool.den) : wfT .bool b := by rw [wfT]; trivial
theorem wfT_str {s : Ty.str.den} (h : ByteArray.size s ≤ 9223372036854775807) : wfT .str s := by rw [wfT]; exact h
theorem wfT_lst {e : List Ty} (L : (Ty.lst e).den) (h : List.length (α := rowDen e) L ≤ 9223372036854775807) (h2 : ∀ i, i < List.length (α := rowDen e) L → wfR e (rowAt e L i)) : wfT (.lst e) L := by rw [wfT]; exact ⟨h, h2⟩
theorem crel_app {φ : Nat → Nat → Option Value} : ∀ (e1 e2 : List Ty) (C : Nat → Option Value), (∃ x, wfR e1 x ∧ CRel φ e1 x C) → (∃ x, wfR e2 x ∧ CRel φ e2 x (fun j => C (e1.length + j))) → ∃ x, wfR (e1 ++ e2) x ∧ CRel φ (e1 ++ e2) x C
  | [], e2, C, _, h2 => by
    obtain ⟨x, h3, h4⟩ := h2
    refine ⟨x, h3, ?_⟩
    have : (fun j => C (([] : List Ty).length + j)) = C := by funext j; rw [List.length_nil, Nat.zero_add]
    rw [this] at h4
    exact h4
  | [t], [], C, h1, _ => h1
  | [t], u :: us, C, ⟨x, h3, h4⟩, ⟨y, h5, h6⟩ => by
    have : (fun j => C ([t].length + j)) = fun j => C (j + 1) := by funext j; rw [List.length_singleton, Nat.add_comm]
    rw [this] at h6
    exact ⟨(x, y), wfR_cons (t := t) (u := u) (ts := us) (x, y) (of_wfR_one x h3) h5, CRel_cons (t := t) (u := u) (ts := us) (x, y) (of_CRel_one x h4) h6⟩
  | t :: u :: us, e2, C, ⟨x, h3, h4⟩, h2 => by
    rw [wfR] at h3
    rw [CRel] at h4
    obtain ⟨y, h5, h6⟩ := crel_app (u :: us) e2 (fun j => C (j + 1)) ⟨x.2, h3.2, h4.2⟩ (by
      obtain ⟨z, h7, h8⟩ := h2
      refine ⟨z, h7, ?_⟩
      have : (fun j => C ((t :: u :: us).length + j)) = fun j => C ((u :: us).length + j + 1) := by funext j; congr 1; simp only [List.length_cons]; omega
      rw [this] at h8
      exact h8)
    exact ⟨(x.1, y), wfR_cons (t := t) (u := u) (ts := us ++ e2) (x.1, y) h3.1 h5, CRel_cons (t := t) (u := u) (ts := us ++ e2) (x.1, y) h4.1 h6⟩

section
variable {H : Type} {enc : TypeId × Value → H} {P : Program} {w : World} {base : Nat} {spare : Nat → Bool} {held : Bool}
abbrev φW (w : World) : Nat → Nat → Option Value := fun B k => w.cell? ⟨B, k, none⟩
def LayOK (enc : TypeId × Value → H) (P : Program) (w : World) (base : Nat) (spare : Nat → Bool) (held : Bool) (f : TypeId → Option (List Ty)) : Prop :=
  ∀ t e, f t = some e → ∀ fuel cs x, DataW.trod enc P w base spare held fuel t cs = some x → cs.length = e.length ∧ ∃ r, wfR e r ∧ CRel (φW w) e r (fun j => cs[j]?)
theorem layF_ok {f : TypeId → Option (List Ty)} (hf : LayOK enc P w base spare held f) {n : Nat} {cs : List Value} : ∀ (l : List Field) (off : Nat) (e : List Ty), layF P f off l = some e → off + e.length ≤ cs.length →
    (∀ (i : Nat) (fd : Field), l[i]? = some fd → ∃ y, DataW.trod enc P w base spare held n fd.type ((cs.drop fd.offset).take (P.cellsOf fd.type)) = some y) →
    ∃ r, wfR e r ∧ CRel (φW w) e r (fun j => cs[off + j]?)
  | [], off, e, h, _, _ => by
    cases h
    exact ⟨(), wfR_nil (), CRel_nil () _⟩
  | fd :: l, off, e, h, hle, ht => by
    rw [layF] at h
    split at h
    · rename_i a ha
      cases hb : (Nat.beq fd.offset off && Nat.beq (P.cellsOf fd.type) a.length) with
      | false => rw [hb] at h; cases h
      | true =>
        rw [hb, cond_true] at h
        rw [Bool.and_eq_true, Nat.beq_eq, Nat.beq_eq] at hb
        split at h
        · rename_i b hbb
          cases h
          rw [List.length_append] at hle
          obtain ⟨y, hy⟩ := ht 0 fd rfl
          obtain ⟨h1, r, h2, h3⟩ := hf _ _ ha _ _ _ hy
          refine crel_app a b _ ⟨r, h2, ?_⟩ ?_
          · refine CRel.mono (fun _ _ _ h => h) a r (fun j v hj => ?_) h3
            rw [List.getElem?_take] at hj
            split at hj
            · rw [List.getElem?_drop, hb.1] at hj; exact hj
            · cases hj
          · obtain ⟨r', h4, h5⟩ := layF_ok hf l (off + a.length) b hbb (by omega) fun i fd' hi => ht (i + 1) fd' (by simpa using hi)
            exact ⟨r', h4, CRel.mono (fun _ _ _ h => h) b r' (fun j v hj => by rw [← Nat.add_assoc]; exact hj) h5⟩
        · cases h
    · cases h
theorem layA_ok {f : TypeId → Option (List Ty)} (hf : LayOK enc P w base spare held f) {m : Nat} {cs : List Value} {el : TypeId} {r : List Ty} (hr : f el = some r) (hb : P.cellsOf el = r.length) : ∀ (n off : Nat), off + (repT r n).length ≤ cs.length →
    (∀ i, i < n → ∃ y, DataW.trod enc P w base spare held m el ((cs.drop (off + i * r.length)).take r.length) = some y) →
    ∃ x, wfR (repT r n) x ∧ CRel (φW w) (repT r n) x (fun j => cs[off + j]?)
  | 0, off, _, _ => ⟨(), wfR_nil (), CRel_nil () _⟩
  | n + 1, off, hle, ht => by
    have hle' : off + (r.length + (repT r n).length) ≤ cs.length := by rw [repT, List.length_append] at hle; exact hle
    obtain ⟨y, hy⟩ := ht 0 (Nat.zero_lt_succ _)
    rw [Nat.zero_mul, Nat.add_zero] at hy
    obtain ⟨h1, x, h2, h3⟩ := hf _ _ hr _ _ _ hy
    refine crel_app r (repT r n) _ ⟨x, h2, ?_⟩ ?_
    · refine CRel.mono (fun _ _ _ h => h) r x (fun j v hj => ?_) h3
      rw [List.getElem?_take] at hj
      split at hj
      · rw [List.getElem?_drop] at hj; exact hj
      · cases hj
    · obtain ⟨x', h4, h5⟩ := layA_ok (cs := cs) (m := m) hf hr hb n (off + r.length) (by rw [Nat.add_assoc]; exact hle') fun i hi => by
        obtain ⟨y, hy⟩ := ht (i + 1) (by omega)
        rw [Nat.succ_mul, Nat.add_comm (i * r.length), ← Nat.add_assoc] at hy
        exact ⟨y, hy⟩
      exact ⟨x', h4, CRel.mono (fun _ _ _ h => h) _ x' (fun j v hj => by rw [← Nat.add_assoc]; exact hj) h5⟩
theorem lay_ok : ∀ n : Nat, LayOK enc P w base spare held (layE P n)
  | 0 => fun t e h => by cases h
  | n + 1 => fun t e h fuel cs x hx => by
    have ih := lay_ok n
    rw [layE] at h
    split at h
    · rename_i k hu
      cases h
      obtain ⟨q, rfl, _, hw⟩ := DataW.trod_int hu hx
      refine ⟨rfl, q, wfR_one (t := .int k) q (wfT_int ?_), CRel_one (t := .int k) q rfl (TRel_int k q)⟩
      cases k <;> simp [Lit.wf, IntKind.min, IntKind.max, IntKind.signed, IntKind.bits, kLo, kHi] at hw ⊢ <;> omega
    · rename_i hu
      cases h
      obtain ⟨q, rfl, _⟩ := DataW.trod_bool hu hx
      exact ⟨rfl, q, wfR_one (t := .bool) q (wfT_bool q), CRel_one (t := .bool) q rfl (TRel_bool q)⟩
    · rename_i hu
      cases h
      obtain ⟨q, rfl, _, hw⟩ := DataW.trod_string hu hx
      unfold maxLen at hw
      exact ⟨rfl, q, wfR_one (t := .str) q (wfT_str (by omega)), CRel_one (t := .str) q rfl (TRel_str q)⟩
    · rename_i el hu
      split at h
      · rename_i r hr
        cases hb : (Nat.beq (P.cellsOf el) r.length && Nat.blt 0 r.length) with
        | false => rw [hb] at h; cases h
        | true =>
          rw [hb, cond_true] at h
          rw [Bool.and_eq_true, Nat.beq_eq, blt_iff, decide_eq_true_eq] at hb
          obtain ⟨hb, hz⟩ := hb
          cases h
          rcases Go.Deep.open_slice hu hx with ⟨rfl, _⟩ | ⟨a, len, cap, m, n', D, Pl, rfl, _, hl, hm, hmm, rfl, hc⟩
          · exact ⟨rfl, ([] : List (rowDen r)), wfR_one (t := .lst r) ([] : List (rowDen r)) (wfT_lst (e := r) ([] : List (rowDen r)) (Nat.zero_le _) fun i hi => absurd hi (Nat.not_lt_zero _)),
              CRel_one (t := .lst r) ([] : List (rowDen r)) rfl (TRel_lstU (e := r) ([] : List (rowDen r)) (Nat.le_refl _) (fun _ => rfl) fun h => absurd h (Nat.lt_irrefl _))⟩
          · have hlm : len ≤ m := by subst hmm; split <;> omega
            have hr1 : ∀ i, i < len → ∃ y, wfR r y ∧ CRel (φW w) r y (fun j => w.cell? (a.add (i * r.length + j))) ∧ (i = 0 → a.spot = none) := by
              intro i hi
              obtain ⟨cs', h1, h2⟩ := hc i (by omega)
              obtain ⟨h3, y, h4, h5⟩ := ih _ _ hr _ _ _ h2
              obtain ⟨_, h6, h7⟩ := World.cells?_some h1
              refine ⟨y, h4, CRel.mono (fun _ _ _ h => h) r y (fun j v hj => ?_) h5, fun h0 => ?_⟩
              · have hlt : j < cs'.length := (List.getElem?_eq_some_iff.1 hj).1
                have := h7 j (by omega)
                rw [hb, Go.Deep.add_add] at this
                rw [this]; exact hj
              · subst h0
                have := h7 0 (by omega)
                rw [List.getElem?_eq_getElem (by omega), Nat.zero_mul] at this
                exact World.cell?_spot this
            have : Inhabited (rowDen r) := ⟨rowDflt r⟩
            obtain ⟨g, hg⟩ := Go.Deep.choose_lt hr1
            have hat : ∀ i, i < len → rowAt r ((List.range len).map g) i = g i := fun i hi => by
              unfold rowAt
              simp [List.getD_eq_getElem?_getD, hi]
            have hlen : ((List.range len).map g).length = len := by simp
            refine ⟨rfl, (List.range len).map g, wfR_one (t := .lst r) _ (wfT_lst _ ?_ fun i hi => ?_), CRel_one (t := .lst r) _ (X := .slice (some a) len cap) rfl ?_⟩
            · rw [hlen]; unfold maxLen at hm; omega
            · rw [hlen] at hi
              rw [hat i hi]
              exact (hg i hi).1
            · have ht := TRel_lstU (e := r) (φ := φW w) ((List.range len).map g) (a := some a) (c := cap) (by rw [hlen]; exact hl) (fun h => (by cases h)) (fun h0 => ?_)
              · rw [hlen] at ht; exact ht
              rw [hlen] at h0 ⊢
              have hsp := (hg 0 h0).2.2 rfl
              refine ⟨a.block, a.off, by cases a; simp only at hsp; rw [hsp], fun i hi => ?_⟩
              rw [hat i hi]
              refine CRel.mono (fun _ _ _ h => h) r _ (fun j v hj => ?_) (hg i hi).2.1
              have e : a = ⟨a.block, a.off, none⟩ := by cases a; simp only at hsp; rw [hsp]
              rw [e, addr_addN] at hj
              rw [Nat.add_assoc]
              exact hj
      · cases h
    · rename_i fs hu
      split at h
      · rename_i e' he
        cases hb : Nat.beq (P.cellsOf t) e'.length with
        | false => rw [hb] at h; cases h
        | true =>
          rw [hb, cond_true] at h
          cases h
          have hb := Nat.eq_of_beq_eq_true hb
          obtain ⟨xs, m, _, _, hl, hlen, hf⟩ := DataW.trod_struct hu hx
          refine ⟨by omega, ?_⟩
          obtain ⟨r, h1, h2⟩ := layF_ok ih (n := m) (cs := cs) fs.toList 0 e he (by omega) fun i fd hi => by
            have hi : fs[i]? = some fd := by simpa using hi
            exact ⟨_, (hf i fd hi).trans (List.getElem?_eq_getElem (by have := (Array.getElem?_eq_some_iff.1 hi).1; omega))⟩
          exact ⟨r, h1, CRel.mono (fun _ _ _ h => h) e r (fun j v hj => by rwa [Nat.zero_add] at hj) h2⟩
      · cases h
    · rename_i m el hu
      split at h
      · rename_i r hr
        cases hb : (Nat.beq (P.cellsOf el) r.length && Nat.beq (P.cellsOf t) (repT r m).length) with
        | false => rw [hb] at h; cases h
        | true =>
          rw [hb, cond_true] at h
          rw [Bool.and_eq_true, Nat.beq_eq, Nat.beq_eq] at hb
          cases h
          obtain ⟨xs, m', _, _, hl, hlen, hf⟩ := DataW.trod_array hu hx
          refine ⟨by omega, ?_⟩
          obtain ⟨y, h1, h2⟩ := layA_ok ih (m := m') (cs := cs) hr hb.1 m 0 (by omega) fun i hi => by
            have := hf i hi
            rw [hb.1] at this
            rw [Nat.zero_add]
            exact ⟨_, this.trans (List.getElem?_eq_getElem (by omega))⟩
          exact ⟨y, h1, CRel.mono (fun _ _ _ h => h) _ y (fun j v hj => by rwa [Nat.zero_add] at hj) h2⟩
      · cases h
    · cases h

theorem crel_rowV {φ : Nat → Nat → Option Value} : ∀ (e : List Ty) (x : rowDen e) (A : List Value), A.length = e.length → CRel φ e x (fun j => A[j]?) → LRel (envφ φ) (rowV e x) A
  | [], _, A, h, _ => by cases A <;> simp at h; exact rfl
  | [t], x, A, h, hc => by
    match A, h with
    | [a], _ =>
      rw [CRel] at hc
      obtain ⟨X, h1, h2⟩ := hc
      cases h1
      exact ⟨a, [], rfl, toV_rel t x a h2, rfl⟩
  | t :: u :: ts, x, A, h, hc => by
    match A, h with
    | a :: A, h =>
      rw [CRel] at hc
      obtain ⟨⟨X, h1, h2⟩, h3⟩ := hc
      cases h1
      exact ⟨a, A, rfl, toV_rel t x.1 a h2, crel_rowV (u :: ts) x.2 A (by simpa using h) h3⟩
where
  toV_rel (t : Ty) (x : t.den) (a : Value) (h : TRel φ t x a) : VRel (envφ φ) (toV t x) a := by
    cases t with
    | int k => rw [TRel] at h; simp only [toV, VRel]; exact h
    | bool => rw [TRel] at h; simp only [toV, VRel]; exact h
    | str => rw [TRel] at h; simp only [toV, VRel]; exact h
    | lst e =>
      rw [TRel] at h
      simp only [toV, VRel]
      obtain ⟨a', c, h1, h2, h3, h4⟩ := h
      refine ⟨a', c, h1, h2, fun h => (by cases h), h3, fun hp => ?_⟩
      obtain ⟨B, o, h5, h6⟩ := h4 hp
      refine ⟨B, o, h5, fun i hi => ?_⟩
      refine CRel.mono (fun _ _ _ h => h) e _ (fun j v hj => ?_) (h6 i hi)
      show φ B (o + (i * e.length + j)) = some v
      rw [← Nat.add_assoc]
      exact hj
theorem arg_one {n : Nat} {t : TypeId} {t0 : Ty} {v : Value} {d : DataW H} {p : List MemPlace} (hl : layE P n t = some [t0]) (hc : v.cells = #[v])
    (h : DataW.Trod enc P w base spare held t v d p) : ∃ x : t0.den, wfT t0 x ∧ VRel (envφ (φW w)) (toV t0 x) v := by
  obtain ⟨fuel, hf⟩ := h
  rw [hc] at hf
  obtain ⟨h1, x, h2, h3⟩ := lay_ok n t [t0] hl _ _ _ hf
  rw [wfR] at h2
  rw [CRel] at h3
  obtain ⟨X, h4, h5⟩ := h3
  cases h4
  exact ⟨x, h2, crel_rowV.toV_rel t0 x v h5⟩
theorem arg_str {n : Nat} {t : TypeId} {v : Value} {d : DataW H} {p : List MemPlace} {r : Go.Reach} {b0 : Nat} {W : World} (hu : P.underlying t = some .string) (hl : layE P n t = some [.str]) (k : Value.okWide P W r b0 t v)
    (h : DataW.Trod enc P w base spare held t v d p) : ∃ s : ByteArray, s.size ≤ 9223372036854775807 ∧ VRel (envφ (φW w)) (.str s) v := by
  obtain ⟨s, rfl⟩ := okWide_string hu k
  obtain ⟨x, h1, h2⟩ := arg_one (t0 := .str) hl rfl h
  rw [wfT] at h1
  exact ⟨x, h1, h2⟩
end
end Go.Sym
end

section
namespace Go.Proofs.Ytlfhiophojahbaa
open Go.Sym Go.WideShapes
open Go.RowKit (Below)
set_option maxRecDepth 100000
theorem pageReads_fin {H : Type} {enc : TypeId × Value → H} {base : Nat} (W : World) (v0 : Value) {d0 : DataW H} {p0 : List MemPlace} (k0 : Value.okWide Try.prog W .any base 9 v0) (h0 : DataW.Trod enc Try.prog W 0 (fun _ => true) true 9 v0 d0 p0) (lt0 : ∀ x ∈ p0, x.block < W.heap.size) :
    Calls Try.prog 3 #[v0] W fun e w' => e = .returned (.bool true) ∧ Below W.heap.size W w' := by
  obtain ⟨s, w0, g0⟩ := arg_str (n := 6) Try.underlying9 (by kernel_rfl) k0 h0
  exact pure_true (pageReads_at s w0) W _ ⟨_, _, rfl, g0, rfl⟩
end Go.Proofs.Ytlfhiophojahbaa
end

section
namespace Go.Eng
open Go.RowKit Go.ChangeShapes Go.WideShapes

section
variable {H : Type} {enc : TypeId × Value → H} {P : Program} {f : Func} {s : ChangeSpec} {apart fresh handsOn again : Bool} {W W' : World} {args : Array Value} {v : Value} {ds gs : List (DataW H)} {before : List MemPlace}

theorem post_low (hW : DataW.Whole enc P f.params.toList s.vars apart W args.toList ds gs before) (hb : Below W.heap.size W W')
    (pa pv : List MemPlace) (hp : before = pa ++ pv)
    (hr : ∀ (b : Nat) (sp : Nat → Bool) (hd : Bool), DataW.TrodAll enc P W' b sp hd f.resultTypes.toList (v.resultList f.resultTypes.size) (s.fn H (ds ++ gs)).results [])
    (ha : ∀ sp : Nat → Bool, (∀ p ∈ before, sp p.block = true) → DataW.TrodAll enc P W' 0 sp true f.params.toList args.toList (s.fn H (ds ++ gs)).args pa)
    (hv : ∀ sp : Nat → Bool, (∀ p ∈ before, sp p.block = true) → DataW.TrodVars enc P W' sp s.vars (s.fn H (ds ++ gs)).vars pv)
    (hok : ∀ (j : Nat) (t : TypeId) (r : Value), f.resultTypes[j]? = some t → (v.resultList f.resultTypes.size)[j]? = some r → Value.okWide P W' .any 0 t r) :
    s.post enc P f apart fresh handsOn again W args v W' := by
  have low : ∀ p ∈ before, p.block < W.heap.size := fun p h => hW.lt p h
  have seen : ∀ p ∈ before, decide (p.block < W.heap.size) = true := fun p h => decide_eq_true (low p h)
  have kept : W.keptBut W' fun p => p ∈ before ∧ (p ∈ pa ∨ p ∈ pv) :=
    World.keptBut_mono (fun p h => ⟨h, by rw [hp] at h; exact List.mem_append.1 h⟩) (hb.frame (· ∈ before))
  subst hp
  refine ⟨ds, gs, pa ++ pv, [], pa, pv, hW, hr _ _ _, ha (fun b => decide (b < W.heap.size)) seen, hv (fun b => decide (b < W.heap.size)) seen, ?_, fun _ => ⟨hok, ?_⟩⟩
  · exact World.keptBut_mono (fun p h => ⟨h.1, h.2.elim (fun h => .inr (.inl h)) fun h => .inr (.inr h)⟩) kept
  · obtain ⟨_, _, _, _, _, hz, hn⟩ := hW
    have hA := trodAll_append (ha (fun _ => true) fun _ _ => rfl) (hr 0 (fun _ => true) true)
    refine ⟨_, _, pa ++ pv, ⟨pa, pv, by simpa using hA, hv (fun _ => true) fun _ _ => rfl, rfl, fun b off h => ?_, hn⟩, fun p h _ => by simpa using h⟩
    rw [hb.frozen (low _ h)]
    exact hz b off h
end
end Go.Eng
end

section

end
