/-
  Texts of this claim, one behind the other: FlAtB SymU FlAtFin EngP FlaEnd. Each says its own conditions.
-/
import Derived.Test.YtechbadkbiognaaFlaM17
import Derived.Test.YtechbadkbiognaaFlaM15
import Derived.Deep.Slices
import Derived.ChangeArms
import Derived.WideShapes
import Derived.OpenShut
import Derived.Below
import Derived.ChangeSame
import Derived.WalkKit
import Derived.ProofKit

set_option linter.unusedVariables false
set_option linter.unusedSimpArgs false
set_option linter.unusedSectionVars false
section
namespace Go.Proofs.Ytechbadkbiognaa
open Go.Sym
set_option linter.unusedVariables false
set_option linter.unusedSimpArgs false
set_option maxRecDepth 100000
set_option maxHeartbeats 4000000
theorem at_3 (x y : ByteArray) (fuse : Int) (F : List Int) (hf : 0 ≤ fuse ∧ fuse ≤ 255) (hk : fuse % 6 = 3) (hF : ∀ i, @LE.le Int _ 0 (Sym.rowAt byE F i) ∧ @LE.le Int _ (Sym.rowAt byE F i) 255) (hFl : F.length ≤ 9223372036854775807) : PureAt Try.prog 4 [.agg [.str x, .str y], .int .u8 fuse, .lst byE F false] (.bool true) := by
  have h1 := nm_f
  have h2 := nm_t
  have h3 := ks_f
  have h4 := ks_ft
  have h5 := lt_ft
  have h6 := lt_tf
  have o1 : (cutS x 0 (min (x.size : Int) 60).toNat).size ≤ 60 := by rw [cutS_size]; omega
  have o2 := layz_len (cutS x 0 (min (x.size : Int) 60).toNat)
  have o3 : (Sym.strOf (List.take (layL [] 0 (cutS x 0 (min (x.size : Int) 60).toNat)).length (List.drop 0 (layL [] 0 (cutS x 0 (min (x.size : Int) 60).toNat))))).size = (cutS x 0 (min (x.size : Int) 60).toNat).size := congrArg ByteArray.size (strOf_lay (cutS x 0 (min (x.size : Int) 60).toNat))
  have n1 : (cutS y 0 (min (y.size : Int) 60).toNat).size ≤ 60 := by rw [cutS_size]; omega
  have n2 := layz_len (cutS y 0 (min (y.size : Int) 60).toNat)
  have n3 : (Sym.strOf (List.take (layL [] 0 (cutS y 0 (min (y.size : Int) 60).toNat)).length (List.drop 0 (layL [] 0 (cutS y 0 (min (y.size : Int) 60).toNat))))).size = (cutS y 0 (min (y.size : Int) 60).toNat).size := congrArg ByteArray.size (strOf_lay (cutS y 0 (min (y.size : Int) 60).toNat))
  have f0 := hF (Int.toNat 0)
  have f1 := hF (0 + 1 : Int).toNat
  have k1 := keepT_size (cutS y 0 (min (y.size : Int) 60).toNat) 0
  have k2 := keepT_size (cutS y 0 (min (y.size : Int) 60).toNat) (Sym.rowAt byE F (Int.toNat 0))
  have k3 := keepT_size (cutS y 0 (min (y.size : Int) 60).toNat) (Sym.rowAt byE F (0 + 1 : Int).toNat)
  refine pure_of_H htA_ok tabN_ok (fuel := 10) (d := 16) [] (fun _ _ h => by cases h) ?_
  repeat' ((conv => whnf); first | (with_reducible first | (refine W1.o ?_; constructor) | rfl | exact castL_self _ _) | ((with_reducible refine V.same_t ?_); exact rfl) | ((with_reducible refine andB_room ?_ ?_ ?_); (· kernel_rfl); (· (first | omega | (simp only [lens] <;> omega) | (decide +kernel) | (simp only [pms] <;> decide +kernel)))) | ((with_reducible refine W2.o ?_; constructor); · (first | (with_reducible assumption) | (first | omega | (simp only [lens] <;> omega) | (decide +kernel) | (simp only [pms] <;> decide +kernel)))) | ((with_reducible refine W3.o ?_; constructor); · (first | (with_reducible assumption) | (first | omega | (simp only [lens] <;> omega) | (decide +kernel) | (simp only [pms] <;> decide +kernel)))) | ((with_reducible refine W4.o ?_; constructor); · (first | (with_reducible first | assumption | exact decide_eq_true rfl | exact sEq_self _) | ((with_reducible refine eqOK_i ?_); kernel_rfl) | (first | (first | exact h1 | exact h2 | exact h3 | exact h4 | exact h5 | exact h6) | (simp only [pms] <;> decide +kernel)))) | ((with_reducible refine iteB_f ?_ ?_); · (first | (with_reducible first | assumption | exact decide_eq_true rfl | exact sEq_self _) | ((with_reducible refine eqOK_i ?_); kernel_rfl) | (first | (first | exact h1 | exact h2 | exact h3 | exact h4 | exact h5 | exact h6) | (simp only [pms] <;> decide +kernel)))) | (with_reducible refine W5.o ?_; constructor) | ((with_reducible refine W6.o ?_; constructor) <;> intro hB))
  all_goals ((conv => whnf); (try dsimp only); (try simp only [Nat.succ_eq_add_one, Nat.le_eq, castL_self]); (try omega))
  all_goals (try (first | omega | (simp only [lens] <;> omega) | (decide +kernel) | (simp only [pms] <;> decide +kernel)))
  all_goals first
    | omega
    | exact rfl
    | (exfalso; simp only [castL_self, strOf_lay, strOf_len, sEq_self, Bool.true_eq_false, reduceCtorEq] at *; done)
    | trace_state
theorem at_4 (x y : ByteArray) (fuse : Int) (F : List Int) (hf : 0 ≤ fuse ∧ fuse ≤ 255) (hk : fuse % 6 = 4) (hF : ∀ i, @LE.le Int _ 0 (Sym.rowAt byE F i) ∧ @LE.le Int _ (Sym.rowAt byE F i) 255) (hFl : F.length ≤ 9223372036854775807) : PureAt Try.prog 4 [.agg [.str x, .str y], .int .u8 fuse, .lst byE F false] (.bool true) := by
  have h1 := nm_f
  have h2 := nm_t
  have h3 := ks_f
  have h4 := ks_ft
  have h5 := lt_ft
  have h6 := lt_tf
  have o1 : (cutS x 0 (min (x.size : Int) 60).toNat).size ≤ 60 := by rw [cutS_size]; omega
  have o2 := layz_len (cutS x 0 (min (x.size : Int) 60).toNat)
  have o3 : (Sym.strOf (List.take (layL [] 0 (cutS x 0 (min (x.size : Int) 60).toNat)).length (List.drop 0 (layL [] 0 (cutS x 0 (min (x.size : Int) 60).toNat))))).size = (cutS x 0 (min (x.size : Int) 60).toNat).size := congrArg ByteArray.size (strOf_lay (cutS x 0 (min (x.size : Int) 60).toNat))
  have n1 : (cutS y 0 (min (y.size : Int) 60).toNat).size ≤ 60 := by rw [cutS_size]; omega
  have n2 := layz_len (cutS y 0 (min (y.size : Int) 60).toNat)
  have n3 : (Sym.strOf (List.take (layL [] 0 (cutS y 0 (min (y.size : Int) 60).toNat)).length (List.drop 0 (layL [] 0 (cutS y 0 (min (y.size : Int) 60).toNat))))).size = (cutS y 0 (min (y.size : Int) 60).toNat).size := congrArg ByteArray.size (strOf_lay (cutS y 0 (min (y.size : Int) 60).toNat))
  have f0 := hF (Int.toNat 0)
  have f1 := hF (0 + 1 : Int).toNat
  have k1 := keepT_size (cutS y 0 (min (y.size : Int) 60).toNat) 0
  have k2 := keepT_size (cutS y 0 (min (y.size : Int) 60).toNat) (Sym.rowAt byE F (Int.toNat 0))
  have k3 := keepT_size (cutS y 0 (min (y.size : Int) 60).toNat) (Sym.rowAt byE F (0 + 1 : Int).toNat)
  refine pure_of_H htA_ok tabN_ok (fuel := 10) (d := 16) [] (fun _ _ h => by cases h) ?_
  repeat' ((conv => whnf); first | (with_reducible first | (refine W1.o ?_; constructor) | rfl | exact castL_self _ _) | ((with_reducible refine V.same_t ?_); exact rfl) | ((with_reducible refine andB_room ?_ ?_ ?_); (· kernel_rfl); (· (first | omega | (simp only [lens] <;> omega) | (decide +kernel) | (simp only [pms] <;> decide +kernel)))) | ((with_reducible refine W2.o ?_; constructor); · (first | (with_reducible assumption) | (first | omega | (simp only [lens] <;> omega) | (decide +kernel) | (simp only [pms] <;> decide +kernel)))) | ((with_reducible refine W3.o ?_; constructor); · (first | (with_reducible assumption) | (first | omega | (simp only [lens] <;> omega) | (decide +kernel) | (simp only [pms] <;> decide +kernel)))) | ((with_reducible refine W4.o ?_; constructor); · (first | (with_reducible first | assumption | exact decide_eq_true rfl | exact sEq_self _) | ((with_reducible refine eqOK_i ?_); kernel_rfl) | (first | (first | exact h1 | exact h2 | exact h3 | exact h4 | exact h5 | exact h6) | (simp only [pms] <;> decide +kernel)))) | ((with_reducible refine iteB_f ?_ ?_); · (first | (with_reducible first | assumption | exact decide_eq_true rfl | exact sEq_self _) | ((with_reducible refine eqOK_i ?_); kernel_rfl) | (first | (first | exact h1 | exact h2 | exact h3 | exact h4 | exact h5 | exact h6) | (simp only [pms] <;> decide +kernel)))) | (with_reducible refine W5.o ?_; constructor) | ((with_reducible refine W6.o ?_; constructor) <;> intro hB))
  all_goals ((conv => whnf); (try dsimp only); (try simp only [Nat.succ_eq_add_one, Nat.le_eq, castL_self]); (try omega))
  all_goals (try (first | omega | (simp only [lens] <;> omega) | (decide +kernel) | (simp only [pms] <;> decide +kernel)))
  all_goals first
    | omega
    | exact rfl
    | (exfalso; simp only [castL_self, strOf_lay, strOf_len, sEq_self, Bool.true_eq_false, reduceCtorEq] at *; done)
    | trace_state
theorem at_5 (x y : ByteArray) (fuse : Int) (F : List Int) (hf : 0 ≤ fuse ∧ fuse ≤ 255) (hk : fuse % 6 = 5) (hF : ∀ i, @LE.le Int _ 0 (Sym.rowAt byE F i) ∧ @LE.le Int _ (Sym.rowAt byE F i) 255) (hFl : F.length ≤ 9223372036854775807) : PureAt Try.prog 4 [.agg [.str x, .str y], .int .u8 fuse, .lst byE F false] (.bool true) := by
  have h1 := nm_f
  have h2 := nm_t
  have h3 := ks_f
  have h4 := ks_ft
  have h5 := lt_ft
  have h6 := lt_tf
  have o1 : (cutS x 0 (min (x.size : Int) 60).toNat).size ≤ 60 := by rw [cutS_size]; omega
  have o2 := layz_len (cutS x 0 (min (x.size : Int) 60).toNat)
  have o3 : (Sym.strOf (List.take (layL [] 0 (cutS x 0 (min (x.size : Int) 60).toNat)).length (List.drop 0 (layL [] 0 (cutS x 0 (min (x.size : Int) 60).toNat))))).size = (cutS x 0 (min (x.size : Int) 60).toNat).size := congrArg ByteArray.size (strOf_lay (cutS x 0 (min (x.size : Int) 60).toNat))
  have n1 : (cutS y 0 (min (y.size : Int) 60).toNat).size ≤ 60 := by rw [cutS_size]; omega
  have n2 := layz_len (cutS y 0 (min (y.size : Int) 60).toNat)
  have n3 : (Sym.strOf (List.take (layL [] 0 (cutS y 0 (min (y.size : Int) 60).toNat)).length (List.drop 0 (layL [] 0 (cutS y 0 (min (y.size : Int) 60).toNat))))).size = (cutS y 0 (min (y.size : Int) 60).toNat).size := congrArg ByteArray.size (strOf_lay (cutS y 0 (min (y.size : Int) 60).toNat))
  have f0 := hF (Int.toNat 0)
  have f1 := hF (0 + 1 : Int).toNat
  have k1 := keepT_size (cutS y 0 (min (y.size : Int) 60).toNat) 0
  have k2 := keepT_size (cutS y 0 (min (y.size : Int) 60).toNat) (Sym.rowAt byE F (Int.toNat 0))
  have k3 := keepT_size (cutS y 0 (min (y.size : Int) 60).toNat) (Sym.rowAt byE F (0 + 1 : Int).toNat)
  refine pure_of_H htA_ok tabN_ok (fuel := 10) (d := 16) [] (fun _ _ h => by cases h) ?_
  repeat' ((conv => whnf); first | (with_reducible first | (refine W1.o ?_; constructor) | rfl | exact castL_self _ _) | ((with_reducible refine V.same_t ?_); exact rfl) | ((with_reducible refine andB_room ?_ ?_ ?_); (· kernel_rfl); (· (first | omega | (simp only [lens] <;> omega) | (decide +kernel) | (simp only [pms] <;> decide +kernel)))) | ((with_reducible refine W2.o ?_; constructor); · (first | (with_reducible assumption) | (first | omega | (simp only [lens] <;> omega) | (decide +kernel) | (simp only [pms] <;> decide +kernel)))) | ((with_reducible refine W3.o ?_; constructor); · (first | (with_reducible assumption) | (first | omega | (simp only [lens] <;> omega) | (decide +kernel) | (simp only [pms] <;> decide +kernel)))) | ((with_reducible refine W4.o ?_; constructor); · (first | (with_reducible first | assumption | exact decide_eq_true rfl | exact sEq_self _) | ((with_reducible refine eqOK_i ?_); kernel_rfl) | (first | (first | exact h1 | exact h2 | exact h3 | exact h4 | exact h5 | exact h6) | (simp only [pms] <;> decide +kernel)))) | ((with_reducible refine iteB_f ?_ ?_); · (first | (with_reducible first | assumption | exact decide_eq_true rfl | exact sEq_self _) | ((with_reducible refine eqOK_i ?_); kernel_rfl) | (first | (first | exact h1 | exact h2 | exact h3 | exact h4 | exact h5 | exact h6) | (simp only [pms] <;> decide +kernel)))) | (with_reducible refine W5.o ?_; constructor) | ((with_reducible refine W6.o ?_; constructor) <;> intro hB))
  all_goals ((conv => whnf); (try dsimp only); (try simp only [Nat.succ_eq_add_one, Nat.le_eq, castL_self]); (try omega))
  all_goals (try (first | omega | (simp only [lens] <;> omega) | (decide +kernel) | (simp only [pms] <;> decide +kernel)))
  all_goals first
    | omega
    | exact rfl
    | (exfalso; simp only [castL_self, strOf_lay, strOf_len, sEq_self, Bool.true_eq_false, reduceCtorEq] at *; done)
    | trace_state
end Go.Proofs.Ytechbadkbiognaa
end

section
namespace Go.Sym
open Go.ChangeShapes Go.WideShapes

def kLo : IntKind → Int
  | .i8 => -128
  | .i16 => -32768
  | .i32 => -2147483648
  | .i64 => -9223372036854775808
  | _ => 0
def kHi : IntKind → Int
  | .i8 => 128
  | .i16 => 32768
  | .i32 => 2147483648
  | .i64 => 9223372036854775808
  | .u8 => 256
  | .u16 => 65536
  | .u32 => 4294967296
  | .u64 => 18446744073709551616
mutual
def wfT : (t : Ty) → t.den → Prop
  | .int k, n => (fun n : Int => kLo k ≤ n ∧ n < kHi k) n
  | .bool, _ => True
  | .str, s => ByteArray.size s ≤ 9223372036854775807
  | .lst e, L => List.length (α := rowDen e) L ≤ 9223372036854775807 ∧ ∀ i, i < List.length (α := rowDen e) L → wfR e (rowAt e L i)
def wfR : (e : List Ty) → rowDen e → Prop
  | [], _ => True
  | [t], x => wfT t x
  | t :: u :: ts, x => wfT t x.1 ∧ wfR (u :: ts) x.2
end
def repT (r : List Ty) : Nat → List Ty
  | 0 => []
  | n + 1 => r ++ repT r n
noncomputable section
variable (P : Program)
def layF (f : TypeId → Option (List Ty)) : Nat → List Field → Option (List Ty)
  | _, [] => some []
  | off, fd :: l => match f fd.type with
    | some a => bif Nat.beq fd.offset off && Nat.beq (P.cellsOf fd.type) a.length then (match layF f (off + a.length) l with
      | some b => some (a ++ b)
      | none => none) else none
    | none => none
def layE : Nat → TypeId → Option (List Ty)
  | 0, _ => none
  | n + 1, t => match P.underlying t with
    | some (.int k) => some [.int k]
    | some .bool => some [.bool]
    | some .string => some [.str]
    | some (.slice e) => match layE n e with
      | some r => bif Nat.beq (P.cellsOf e) r.length && Nat.blt 0 r.length then some [.lst r] else none
      | none => none
    | some (.struct fs) => match layF P (layE n) 0 fs.toList with
      | some e => bif Nat.beq (P.cellsOf t) e.length then some e else none
      | none => none
    | some (.array m el) => match layE n el with
      | some r => bif Nat.beq (P.cellsOf el) r.length && Nat.beq (P.cellsOf t) (repT r m).length then some (repT r m) else none
      | none => none
    | _ => none
end

theorem addr_addN (b o j : Nat) : (⟨b, o, none⟩ : Addr).add j = ⟨b, o + j, none⟩ := by
  unfold Addr.add
  split
  · rename_i h; subst h; rfl
  · rfl
theorem wfR_nil (x : rowDen []) : wfR [] x := by rw [wfR]; trivial
theorem wfR_one {t : Ty} (x : rowDen [t]) (h : wfT t x) : wfR [t] x := by rw [wfR]; exact h
theorem wfR_cons {t u : Ty} {ts : List Ty} (x : rowDen (t :: u :: ts)) (h1 : wfT t x.1) (h2 : wfR (u :: ts) x.2) : wfR (t :: u :: ts) x := by rw [wfR]; exact ⟨h1, h2⟩
theorem of_wfR_one {t : Ty} (x : rowDen [t]) (h : wfR [t] x) : wfT t x := by rw [wfR] at h; exact h
theorem of_CRel_one {φ : Nat → Nat → Option Value} {t : Ty} (x : rowDen [t]) {C : Nat → Option Value} (h : CRel φ [t] x C) : ∃ X, C 0 = some X ∧ TRel φ t x X := by rw [CRel] at h; exact h
theorem wfT_int {k : IntKind} {n : (Ty.int k).den} (h : (fun n : Int => kLo k ≤ n ∧ n < kHi k) n) : wfT (.int k) n := by rw [wfT]; exact h
theorem wfT_bool (b : Ty.bool.den) : wfT .bool b := by rw [wfT]; trivial
theorem wfT_str {s : Ty.str.den} (h : ByteArray.size s ≤ 9223372036854775807) : wfT .str s := by rw [wfT]; exact h
theorem wfT_lst {e : List Ty} (L : (Ty.lst e).den) (h : List.length (α := rowDen e) L ≤ 9223372036854775807) (h2 : ∀ i, i < List.length (α := rowDen e) L → wfR e (rowAt e L i)) : wfT (.lst e) L := by rw [wfT]; exact ⟨h, h2⟩
theorem crel_app {φ : Nat → Nat → Option Value} : ∀ (e1 e2 : List Ty) (C : Nat → Option Value), (∃ x, wfR e1 x ∧ CRel φ e1 x C) → (∃ x, wfR e2 x ∧ CRel φ e2 x (fun j => C (e1.length + j))) → ∃ x, wfR (e1 ++ e2) x ∧ CRel φ (e1 ++ e2) x C
  | [], e2, C, _, h2 => by
    obtain ⟨x, h3, h4⟩ := h2
    refine ⟨x, h3, ?_⟩
    have : (fun j => C (([] : List Ty).length + j)) = C := by funext j; rw [List.length_nil, Nat.zero_add]
    rw [this] at h4
    exact h4
  | [t], [], C, h1, _ => h1
  | [t], u :: us, C, ⟨x, h3, h4⟩, ⟨y, h5, h6⟩ => by
    have : (fun j => C ([t].length + j)) = fun j => C (j + 1) := by funext j; rw [List.length_singleton, Nat.add_comm]
    rw [this] at h6
    exact ⟨(x, y), wfR_cons (t := t) (u := u) (ts := us) (x, y) (of_wfR_one x h3) h5, CRel_cons (t := t) (u := u) (ts := us) (x, y) (of_CRel_one x h4) h6⟩
  | t :: u :: us, e2, C, ⟨x, h3, h4⟩, h2 => by
    rw [wfR] at h3
    rw [CRel] at h4
    obtain ⟨y, h5, h6⟩ := crel_app (u :: us) e2 (fun j => C (j + 1)) ⟨x.2, h3.2, h4.2⟩ (by
      obtain ⟨z, h7, h8⟩ := h2
      refine ⟨z, h7, ?_⟩
      have : (fun j => C ((t :: u :: us).length + j)) = fun j => C ((u :: us).length + j + 1) := by funext j; congr 1; simp only [List.length_cons]; omega
      rw [this] at h8
      exact h8)
    exact ⟨(x.1, y), wfR_cons (t := t) (u := u) (ts := us ++ e2) (x.1, y) h3.1 h5, CRel_cons (t := t) (u := u) (ts := us ++ e2) (x.1, y) h4.1 h6⟩

section
variable {H : Type} {enc : TypeId × Value → H} {P : Program} {w : World} {base : Nat} {spare : Nat → Bool} {held : Bool}
abbrev φW (w : World) : Nat → Nat → Option Value := fun B k => w.cell? ⟨B, k, none⟩
def LayOK (enc : TypeId × Value → H) (P : Program) (w : World) (base : Nat) (spare : Nat → Bool) (held : Bool) (f : TypeId → Option (List Ty)) : Prop :=
  ∀ t e, f t = some e → ∀ fuel cs x, DataW.trod enc P w base spare held fuel t cs = some x → cs.length = e.length ∧ ∃ r, wfR e r ∧ CRel (φW w) e r (fun j => cs[j]?)
theorem layF_ok {f : TypeId → Option (List Ty)} (hf : LayOK enc P w base spare held f) {n : Nat} {cs : List Value} : ∀ (l : List Field) (off : Nat) (e : List Ty), layF P f off l = some e → off + e.length ≤ cs.length →
    (∀ (i : Nat) (fd : Field), l[i]? = some fd → ∃ y, DataW.trod enc P w base spare held n fd.type ((cs.drop fd.offset).take (P.cellsOf fd.type)) = some y) →
    ∃ r, wfR e r ∧ CRel (φW w) e r (fun j => cs[off + j]?)
  | [], off, e, h, _, _ => by
    cases h
    exact ⟨(), wfR_nil (), CRel_nil () _⟩
  | fd :: l, off, e, h, hle, ht => by
    rw [layF] at h
    split at h
    · rename_i a ha
      cases hb : (Nat.beq fd.offset off && Nat.beq (P.cellsOf fd.type) a.length) with
      | false => rw [hb] at h; cases h
      | true =>
        rw [hb, cond_true] at h
        rw [Bool.and_eq_true, Nat.beq_eq, Nat.beq_eq] at hb
        split at h
        · rename_i b hbb
          cases h
          rw [List.length_append] at hle
          obtain ⟨y, hy⟩ := ht 0 fd rfl
          obtain ⟨h1, r, h2, h3⟩ := hf _ _ ha _ _ _ hy
          refine crel_app a b _ ⟨r, h2, ?_⟩ ?_
          · refine CRel.mono (fun _ _ _ h => h) a r (fun j v hj => ?_) h3
            rw [List.getElem?_take] at hj
            split at hj
            · rw [List.getElem?_drop, hb.1] at hj; exact hj
            · cases hj
          · obtain ⟨r', h4, h5⟩ := layF_ok hf l (off + a.length) b hbb (by omega) fun i fd' hi => ht (i + 1) fd' (by simpa using hi)
            exact ⟨r', h4, CRel.mono (fun _ _ _ h => h) b r' (fun j v hj => by rw [← Nat.add_assoc]; exact hj) h5⟩
        · cases h
    · cases h
theorem layA_ok {f : TypeId → Option (List Ty)} (hf : LayOK enc P w base spare held f) {m : Nat} {cs : List Value} {el : TypeId} {r : List Ty} (hr : f el = some r) (hb : P.cellsOf el = r.length) : ∀ (n off : Nat), off + (repT r n).length ≤ cs.length →
    (∀ i, i < n → ∃ y, DataW.trod enc P w base spare held m el ((cs.drop (off + i * r.length)).take r.length) = some y) →
    ∃ x, wfR (repT r n) x ∧ CRel (φW w) (repT r n) x (fun j => cs[off + j]?)
  | 0, off, _, _ => ⟨(), wfR_nil (), CRel_nil () _⟩
  | n + 1, off, hle, ht => by
    have hle' : off + (r.length + (repT r n).length) ≤ cs.length := by rw [repT, List.length_append] at hle; exact hle
    obtain ⟨y, hy⟩ := ht 0 (Nat.zero_lt_succ _)
    rw [Nat.zero_mul, Nat.add_zero] at hy
    obtain ⟨h1, x, h2, h3⟩ := hf _ _ hr _ _ _ hy
    refine crel_app r (repT r n) _ ⟨x, h2, ?_⟩ ?_
    · refine CRel.mono (fun _ _ _ h => h) r x (fun j v hj => ?_) h3
      rw [List.getElem?_take] at hj
      split at hj
      · rw [List.getElem?_drop] at hj; exact hj
      · cases hj
    · obtain ⟨x', h4, h5⟩ := layA_ok (cs := cs) (m := m) hf hr hb n (off + r.length) (by rw [Nat.add_assoc]; exact hle') fun i hi => by
        obtain ⟨y, hy⟩ := ht (i + 1) (by omega)
        rw [Nat.succ_mul, Nat.add_comm (i * r.length), ← Nat.add_assoc] at hy
        exact ⟨y, hy⟩
      exact ⟨x', h4, CRel.mono (fun _ _ _ h => h) _ x' (fun j v hj => by rw [← Nat.add_assoc]; exact hj) h5⟩
theorem lay_ok : ∀ n : Nat, LayOK enc P w base spare held (layE P n)
  | 0 => fun t e h => by cases h
  | n + 1 => fun t e h fuel cs x hx => by
    have ih := lay_ok n
    rw [layE] at h
    split at h
    · rename_i k hu
      cases h
      obtain ⟨q, rfl, _, hw⟩ := DataW.trod_int hu hx
      refine ⟨rfl, q, wfR_one (t := .int k) q (wfT_int ?_), CRel_one (t := .int k) q rfl (TRel_int k q)⟩
      cases k <;> simp [Lit.wf, IntKind.min, IntKind.max, IntKind.signed, IntKind.bits, kLo, kHi] at hw ⊢ <;> omega
    · rename_i hu
      cases h
      obtain ⟨q, rfl, _⟩ := DataW.trod_bool hu hx
      exact ⟨rfl, q, wfR_one (t := .bool) q (wfT_bool q), CRel_one (t := .bool) q rfl (TRel_bool q)⟩
    · rename_i hu
      cases h
      obtain ⟨q, rfl, _, hw⟩ := DataW.trod_string hu hx
      unfold maxLen at hw
      exact ⟨rfl, q, wfR_one (t := .str) q (wfT_str (by omega)), CRel_one (t := .str) q rfl (TRel_str q)⟩
    · rename_i el hu
      split at h
      · rename_i r hr
        cases hb : (Nat.beq (P.cellsOf el) r.length && Nat.blt 0 r.length) with
        | false => rw [hb] at h; cases h
        | true =>
          rw [hb, cond_true] at h
          rw [Bool.and_eq_true, Nat.beq_eq, blt_iff, decide_eq_true_eq] at hb
          obtain ⟨hb, hz⟩ := hb
          cases h
          rcases Go.Deep.open_slice hu hx with ⟨rfl, _⟩ | ⟨a, len, cap, m, n', D, Pl, rfl, _, hl, hm, hmm, rfl, hc⟩
          · exact ⟨rfl, ([] : List (rowDen r)), wfR_one (t := .lst r) ([] : List (rowDen r)) (wfT_lst (e := r) ([] : List (rowDen r)) (Nat.zero_le _) fun i hi => absurd hi (Nat.not_lt_zero _)),
              CRel_one (t := .lst r) ([] : List (rowDen r)) rfl (TRel_lstU (e := r) ([] : List (rowDen r)) (Nat.le_refl _) (fun _ => rfl) fun h => absurd h (Nat.lt_irrefl _))⟩
          · have hlm : len ≤ m := by subst hmm; split <;> omega
            have hr1 : ∀ i, i < len → ∃ y, wfR r y ∧ CRel (φW w) r y (fun j => w.cell? (a.add (i * r.length + j))) ∧ (i = 0 → a.spot = none) := by
              intro i hi
              obtain ⟨cs', h1, h2⟩ := hc i (by omega)
              obtain ⟨h3, y, h4, h5⟩ := ih _ _ hr _ _ _ h2
              obtain ⟨_, h6, h7⟩ := World.cells?_some h1
              refine ⟨y, h4, CRel.mono (fun _ _ _ h => h) r y (fun j v hj => ?_) h5, fun h0 => ?_⟩
              · have hlt : j < cs'.length := (List.getElem?_eq_some_iff.1 hj).1
                have := h7 j (by omega)
                rw [hb, Go.Deep.add_add] at this
                rw [this]; exact hj
              · subst h0
                have := h7 0 (by omega)
                rw [List.getElem?_eq_getElem (by omega), Nat.zero_mul] at this
                exact World.cell?_spot this
            have : Inhabited (rowDen r) := ⟨rowDflt r⟩
            obtain ⟨g, hg⟩ := Go.Deep.choose_lt hr1
            have hat : ∀ i, i < len → rowAt r ((List.range len).map g) i = g i := fun i hi => by
              unfold rowAt
              simp [List.getD_eq_getElem?_getD, hi]
            have hlen : ((List.range len).map g).length = len := by simp
            refine ⟨rfl, (List.range len).map g, wfR_one (t := .lst r) _ (wfT_lst _ ?_ fun i hi => ?_), CRel_one (t := .lst r) _ (X := .slice (some a) len cap) rfl ?_⟩
            · rw [hlen]; unfold maxLen at hm; omega
            · rw [hlen] at hi
              rw [hat i hi]
              exact (hg i hi).1
            · have ht := TRel_lstU (e := r) (φ := φW w) ((List.range len).map g) (a := some a) (c := cap) (by rw [hlen]; exact hl) (fun h => (by cases h)) (fun h0 => ?_)
              · rw [hlen] at ht; exact ht
              rw [hlen] at h0 ⊢
              have hsp := (hg 0 h0).2.2 rfl
              refine ⟨a.block, a.off, by cases a; simp only at hsp; rw [hsp], fun i hi => ?_⟩
              rw [hat i hi]
              refine CRel.mono (fun _ _ _ h => h) r _ (fun j v hj => ?_) (hg i hi).2.1
              have e : a = ⟨a.block, a.off, none⟩ := by cases a; simp only at hsp; rw [hsp]
              rw [e, addr_addN] at hj
              rw [Nat.add_assoc]
              exact hj
      · cases h
    · rename_i fs hu
      split at h
      · rename_i e' he
        cases hb : Nat.beq (P.cellsOf t) e'.length with
        | false => rw [hb] at h; cases h
        | true =>
          rw [hb, cond_true] at h
          cases h
          have hb := Nat.eq_of_beq_eq_true hb
          obtain ⟨xs, m, _, _, hl, hlen, hf⟩ := DataW.trod_struct hu hx
          refine ⟨by omega, ?_⟩
          obtain ⟨r, h1, h2⟩ := layF_ok ih (n := m) (cs := cs) fs.toList 0 e he (by omega) fun i fd hi => by
            have hi : fs[i]? = some fd := by simpa using hi
            exact ⟨_, (hf i fd hi).trans (List.getElem?_eq_getElem (by have := (Array.getElem?_eq_some_iff.1 hi).1; omega))⟩
          exact ⟨r, h1, CRel.mono (fun _ _ _ h => h) e r (fun j v hj => by rwa [Nat.zero_add] at hj) h2⟩
      · cases h
    · rename_i m el hu
      split at h
      · rename_i r hr
        cases hb : (Nat.beq (P.cellsOf el) r.length && Nat.beq (P.cellsOf t) (repT r m).length) with
        | false => rw [hb] at h; cases h
        | true =>
          rw [hb, cond_true] at h
          rw [Bool.and_eq_true, Nat.beq_eq, Nat.beq_eq] at hb
          cases h
          obtain ⟨xs, m', _, _, hl, hlen, hf⟩ := DataW.trod_array hu hx
          refine ⟨by omega, ?_⟩
          obtain ⟨y, h1, h2⟩ := layA_ok ih (m := m') (cs := cs) hr hb.1 m 0 (by omega) fun i hi => by
            have := hf i hi
            rw [hb.1] at this
            rw [Nat.zero_add]
            exact ⟨_, this.trans (List.getElem?_eq_getElem (by omega))⟩
          exact ⟨y, h1, CRel.mono (fun _ _ _ h => h) _ y (fun j v hj => by rwa [Nat.zero_add] at hj) h2⟩
      · cases h
    · cases h

theorem crel_rowV {φ : Nat → Nat → Option Value} : ∀ (e : List Ty) (x : rowDen e) (A : List Value), A.length = e.length → CRel φ e x (fun j => A[j]?) → LRel (envφ φ) (rowV e x) A
  | [], _, A, h, _ => by cases A <;> simp at h; exact rfl
  | [t], x, A, h, hc => by
    match A, h with
    | [a], _ =>
      rw [CRel] at hc
      obtain ⟨X, h1, h2⟩ := hc
      cases h1
      exact ⟨a, [], rfl, toV_rel t x a h2, rfl⟩
  | t :: u :: ts, x, A, h, hc => by
    match A, h with
    | a :: A, h =>
      rw [CRel] at hc
      obtain ⟨⟨X, h1, h2⟩, h3⟩ := hc
      cases h1
      exact ⟨a, A, rfl, toV_rel t x.1 a h2, crel_rowV (u :: ts) x.2 A (by simpa using h) h3⟩
where
  toV_rel (t : Ty) (x : t.den) (a : Value) (h : TRel φ t x a) : VRel (envφ φ) (toV t x) a := by
    cases t with
    | int k => rw [TRel] at h; simp only [toV, VRel]; exact h
    | bool => rw [TRel] at h; simp only [toV, VRel]; exact h
    | str => rw [TRel] at h; simp only [toV, VRel]; exact h
    | lst e =>
      rw [TRel] at h
      simp only [toV, VRel]
      obtain ⟨a', c, h1, h2, h3, h4⟩ := h
      refine ⟨a', c, h1, h2, fun h => (by cases h), h3, fun hp => ?_⟩
      obtain ⟨B, o, h5, h6⟩ := h4 hp
      refine ⟨B, o, h5, fun i hi => ?_⟩
      refine CRel.mono (fun _ _ _ h => h) e _ (fun j v hj => ?_) (h6 i hi)
      show φ B (o + (i * e.length + j)) = some v
      rw [← Nat.add_assoc]
      exact hj
theorem arg_struct {n : Nat} {t : TypeId} {e : List Ty} {fs : Array Field} {v : Value} {d : DataW H} {p : List MemPlace} {r : Go.Reach} {b0 : Nat} {W : World} (hu : P.underlying t = some (.struct fs)) (hl : layE P n t = some e)
    (k : Value.okWide P W r b0 t v) (h : DataW.Trod enc P w base spare held t v d p) : ∃ x : rowDen e, wfR e x ∧ VRel (envφ (φW w)) (.agg (rowV e x)) v := by
  obtain ⟨A, rfl, hA⟩ := okWide_struct hu k
  obtain ⟨fuel, hf⟩ := h
  have hf' : DataW.trod enc P w base spare held fuel t A.toList = some (d, p) := by simpa [Value.cells] using hf
  obtain ⟨h1, x, h2, h3⟩ := lay_ok n t e hl _ _ _ hf'
  exact ⟨x, h2, by simp only [VRel]; exact ⟨A, rfl, crel_rowV e x _ h1 h3⟩⟩
theorem arg_one {n : Nat} {t : TypeId} {t0 : Ty} {v : Value} {d : DataW H} {p : List MemPlace} (hl : layE P n t = some [t0]) (hc : v.cells = #[v])
    (h : DataW.Trod enc P w base spare held t v d p) : ∃ x : t0.den, wfT t0 x ∧ VRel (envφ (φW w)) (toV t0 x) v := by
  obtain ⟨fuel, hf⟩ := h
  rw [hc] at hf
  obtain ⟨h1, x, h2, h3⟩ := lay_ok n t [t0] hl _ _ _ hf
  rw [wfR] at h2
  rw [CRel] at h3
  obtain ⟨X, h4, h5⟩ := h3
  cases h4
  exact ⟨x, h2, crel_rowV.toV_rel t0 x v h5⟩
theorem arg_slice {n : Nat} {t el : TypeId} {e : List Ty} {v : Value} {d : DataW H} {p : List MemPlace} {r : Go.Reach} {b0 : Nat} {W : World} (hu : P.underlying t = some (.slice el)) (hl : layE P n t = some [.lst e]) (k : Value.okWide P W r b0 t v)
    (h : DataW.Trod enc P w base spare held t v d p) : ∃ L : List (rowDen e), wfT (.lst e) L ∧ VRel (envφ (φW w)) (.lst e L false) v := by
  obtain ⟨a, len, cap, rfl⟩ := okWide_slice hu k
  exact arg_one (t0 := .lst e) hl rfl h
theorem arg_int {n : Nat} {t : TypeId} {kd : IntKind} {v : Value} {d : DataW H} {p : List MemPlace} {r : Go.Reach} {b0 : Nat} {W : World} (hu : P.underlying t = some (.int kd)) (hl : layE P n t = some [.int kd]) (k : Value.okWide P W r b0 t v)
    (h : DataW.Trod enc P w base spare held t v d p) : ∃ q : Int, (kLo kd ≤ q ∧ q < kHi kd) ∧ VRel (envφ (φW w)) (.int kd q) v := by
  obtain ⟨q, rfl⟩ := okWide_int hu k
  obtain ⟨x, h1, h2⟩ := arg_one (t0 := .int kd) hl rfl h
  rw [wfT] at h1
  exact ⟨x, h1, h2⟩
end
end Go.Sym
end

section
namespace Go.Proofs.Ytechbadkbiognaa
open Go.Sym Go.WideShapes
open Go.RowKit (Below)
set_option maxRecDepth 100000
theorem fates_in {F : List Int} (h : wfT (.lst [.int .u8]) F) (i : Nat) : @LE.le Int _ 0 (Sym.rowAt byE F i) ∧ @LE.le Int _ (Sym.rowAt byE F i) 255 := by
  rw [wfT] at h
  rcases Nat.lt_or_ge i F.length with hi | hi
  · have := h.2 i hi
    simp only [wfR, wfT] at this
    exact ⟨this.1, Int.le_of_lt_add_one this.2⟩
  · have e : Sym.rowAt byE F i = (0 : Int) := by
      show F.getD i 0 = 0
      rw [List.getD_eq_getElem?_getD, List.getElem?_eq_none hi]
      rfl
    rw [e]
    exact ⟨by decide, by decide⟩
theorem filesAtomic_at (x y : ByteArray) (fuse : Int) (F : List Int) (hf : 0 ≤ fuse ∧ fuse ≤ 255) (h : wfT (.lst [.int .u8]) F) : PureAt Try.prog 4 [.agg [.str x, .str y], .int .u8 fuse, .lst byE F false] (.bool true) := by
  have hF := fates_in h
  have hFl : F.length ≤ 9223372036854775807 := by rw [wfT] at h; exact h.1
  have : fuse % 6 = 0 ∨ fuse % 6 = 1 ∨ fuse % 6 = 2 ∨ fuse % 6 = 3 ∨ fuse % 6 = 4 ∨ fuse % 6 = 5 := by omega
  rcases this with hk | hk | hk | hk | hk | hk
  · exact at_0 x y fuse F hf hk hF hFl
  · exact at_1 x y fuse F hf hk hF hFl
  · exact at_2 x y fuse F hf hk hF hFl
  · exact at_3 x y fuse F hf hk hF hFl
  · exact at_4 x y fuse F hf hk hF hFl
  · exact at_5 x y fuse F hf hk hF hFl
theorem filesAtomic_fin {H : Type} {enc : TypeId × Value → H} {base : Nat} (W : World) (v0 : Value) (v1 : Value) (v2 : Value) {d0 : DataW H} {d1 : DataW H} {d2 : DataW H} {p0 : List MemPlace} {p1 : List MemPlace} {p2 : List MemPlace} (k0 : Value.okWide Try.prog W .any base 40 v0) (k1 : Value.okWide Try.prog W .any base 5 v1) (k2 : Value.okWide Try.prog W .any base 29 v2) (h0 : DataW.Trod enc Try.prog W 0 (fun _ => true) true 40 v0 d0 p0) (h1 : DataW.Trod enc Try.prog W 0 (fun _ => true) true 5 v1 d1 p1) (h2 : DataW.Trod enc Try.prog W 0 (fun _ => true) true 29 v2 d2 p2) (lt0 : ∀ x ∈ p0, x.block < W.heap.size) (lt1 : ∀ x ∈ p1, x.block < W.heap.size) (lt2 : ∀ x ∈ p2, x.block < W.heap.size) :
    Calls Try.prog 4 #[v0, v1, v2] W fun e w' => e = .returned (.bool true) ∧ Below W.heap.size W w' := by
  obtain ⟨⟨x, y⟩, w0, g0⟩ := arg_struct (n := 6) (e := [.str, .str]) Try.underlying40 (by kernel_rfl) k0 h0
  obtain ⟨q, w1, g1⟩ := arg_int (n := 6) (kd := .u8) Try.underlying5 (by kernel_rfl) k1 h1
  obtain ⟨F, w2, g2⟩ := arg_slice (n := 6) (e := [.int .u8]) Try.underlying29 (by kernel_rfl) k2 h2
  have e1 : kLo .u8 = 0 := rfl
  have e2 : kHi .u8 = 256 := rfl
  rw [e1, e2] at w1
  exact pure_true (filesAtomic_at x y q F ⟨w1.1, by omega⟩ w2) W _ ⟨_, _, rfl, g0, _, _, rfl, g1, _, _, rfl, g2, rfl⟩
end Go.Proofs.Ytechbadkbiognaa
end

section
namespace Go.Eng
open Go.RowKit Go.ChangeShapes Go.WideShapes

section
variable {H : Type} {enc : TypeId × Value → H} {P : Program} {f : Func} {s : ChangeSpec} {apart fresh handsOn again : Bool} {W W' : World} {args : Array Value} {v : Value} {ds gs : List (DataW H)} {before : List MemPlace}

theorem post_low (hW : DataW.Whole enc P f.params.toList s.vars apart W args.toList ds gs before) (hb : Below W.heap.size W W')
    (pa pv : List MemPlace) (hp : before = pa ++ pv)
    (hr : ∀ (b : Nat) (sp : Nat → Bool) (hd : Bool), DataW.TrodAll enc P W' b sp hd f.resultTypes.toList (v.resultList f.resultTypes.size) (s.fn H (ds ++ gs)).results [])
    (ha : ∀ sp : Nat → Bool, (∀ p ∈ before, sp p.block = true) → DataW.TrodAll enc P W' 0 sp true f.params.toList args.toList (s.fn H (ds ++ gs)).args pa)
    (hv : ∀ sp : Nat → Bool, (∀ p ∈ before, sp p.block = true) → DataW.TrodVars enc P W' sp s.vars (s.fn H (ds ++ gs)).vars pv)
    (hok : ∀ (j : Nat) (t : TypeId) (r : Value), f.resultTypes[j]? = some t → (v.resultList f.resultTypes.size)[j]? = some r → Value.okWide P W' .any 0 t r) :
    s.post enc P f apart fresh handsOn again W args v W' := by
  have low : ∀ p ∈ before, p.block < W.heap.size := fun p h => hW.lt p h
  have seen : ∀ p ∈ before, decide (p.block < W.heap.size) = true := fun p h => decide_eq_true (low p h)
  have kept : W.keptBut W' fun p => p ∈ before ∧ (p ∈ pa ∨ p ∈ pv) :=
    World.keptBut_mono (fun p h => ⟨h, by rw [hp] at h; exact List.mem_append.1 h⟩) (hb.frame (· ∈ before))
  subst hp
  refine ⟨ds, gs, pa ++ pv, [], pa, pv, hW, hr _ _ _, ha (fun b => decide (b < W.heap.size)) seen, hv (fun b => decide (b < W.heap.size)) seen, ?_, fun _ => ⟨hok, ?_⟩⟩
  · exact World.keptBut_mono (fun p h => ⟨h.1, h.2.elim (fun h => .inr (.inl h)) fun h => .inr (.inr h)⟩) kept
  · obtain ⟨_, _, _, _, _, hz, hn⟩ := hW
    have hA := trodAll_append (ha (fun _ => true) fun _ _ => rfl) (hr 0 (fun _ => true) true)
    refine ⟨_, _, pa ++ pv, ⟨pa, pv, by simpa using hA, hv (fun _ => true) fun _ _ => rfl, rfl, fun b off h => ?_, hn⟩, fun p h _ => by simpa using h⟩
    rw [hb.frozen (low _ h)]
    exact hz b off h
end
end Go.Eng
end

section

end
