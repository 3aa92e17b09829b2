/-
  Texts of this claim, one behind the other: PgRefE PgSpl PgSplF PgDec PgDecW PgDecF PgDecT PgBackL PgWk PgBrL. Each says its own conditions.
-/
import Derived.Test.YtlfhiophojahbaaPgNM8

set_option linter.unusedVariables false
set_option linter.unusedSimpArgs false
set_option linter.unusedSectionVars false
section
namespace Go.Proofs.Ytlfhiophojahbaa
open Go.Sym
set_option linter.unusedVariables false
set_option linter.unusedSimpArgs false
set_option maxRecDepth 100000
set_option maxHeartbeats 4000000

section
variable (l : Bool) (K X : List ByteArray) (C : List Int)
noncomputable def encodeF : List V → Option (List Bool × V) := nodeF fun l K X C => (lensB K X C, .tup [.str (encS l K X C), .int .i64 (encE l K X C)])
theorem encodeF_ok (args : List V) (c : List Bool) (v : V) (h : encodeF args = some (c, v)) (hc : allB c) : PureAt Try.prog 16 args v :=
  nodeF_ok (fun l K X C h => by obtain ⟨h1, h2, h3⟩ := lensB_ok h; exact encode_at l K X C h1 h2 h3) args c v h hc
end
end Go.Proofs.Ytlfhiophojahbaa
end

section
namespace Go.Proofs.Ytlfhiophojahbaa
open Go.Sym
set_option linter.unusedVariables false
set_option linter.unusedSimpArgs false
set_option maxRecDepth 100000
set_option maxHeartbeats 4000000
noncomputable def spS0 (f : Int → Int) : Nat → Int × Int
  | 0 => (0, 0)
  | n + 1 => if (spS0 f n).1 = 0 ∨ f ((n : Int) + 1) < (spS0 f n).2 then ((n : Int) + 1, f ((n : Int) + 1)) else spS0 f n
noncomputable def spA : (Int → Int) → Nat → Int := hide fun f n => (spS0 f n).1
noncomputable def spM : (Int → Int) → Nat → Int := hide fun f n => (spS0 f n).2
theorem spA_eq (f : Int → Int) (n : Nat) : spA f n = (spS0 f n).1 := by unfold spA; rw [hide_eq]
theorem spM_eq (f : Int → Int) (n : Nat) : spM f n = (spS0 f n).2 := by unfold spM; rw [hide_eq]
theorem sp_yes {f : Int → Int} {n : Nat} (h : spA f n = 0 ∨ f ((n : Int) + 1) < spM f n) : spA f (n + 1) = (n : Int) + 1 ∧ spM f (n + 1) = f ((n : Int) + 1) := by
  rw [spA_eq, spM_eq] at h
  rw [spA_eq, spM_eq, spS0, if_pos h]
  exact ⟨rfl, rfl⟩
theorem sp_no {f : Int → Int} {n : Nat} (h : ¬ (spA f n = 0 ∨ f ((n : Int) + 1) < spM f n)) : spA f (n + 1) = spA f n ∧ spM f (n + 1) = spM f n := by
  rw [spA_eq, spM_eq] at h
  rw [spA_eq, spM_eq, spS0, if_neg h, spA_eq, spM_eq]
  exact ⟨rfl, rfl⟩
theorem sp_0 (f : Int → Int) : spA f 0 = 0 ∧ spM f 0 = 0 := by rw [spA_eq, spM_eq]; exact ⟨rfl, rfl⟩
theorem sp_in (f : Int → Int) : ∀ n : Nat, 0 ≤ spA f n ∧ spA f n ≤ n ∧ (0 < n → 1 ≤ spA f n)
  | 0 => by rw [(sp_0 f).1]; simp
  | n + 1 => by
    have ih := sp_in f n
    by_cases h : spA f n = 0 ∨ f ((n : Int) + 1) < spM f n
    · rw [(sp_yes h).1]; omega
    · rw [(sp_no h).1]
      have : spA f n ≠ 0 := fun e => h (.inl e)
      omega
noncomputable abbrev fLf (K X : List ByteArray) (i : Int) : Int := maxI (sizN true (tkS K (Int.toNat i)) (tkS X (Int.toNat i)) []) (sizN true (dpS K (Int.toNat i)) (dpS X (Int.toNat i)) [])
noncomputable abbrev fKt (K : List ByteArray) (C : List Int) (i : Int) : Int := maxI (sizN false (tkS K (Int.toNat i)) [] (tkI C (Int.toNat (i + 1)))) (sizN false (dpS K (Int.toNat (i + 1))) [] (dpI C (Int.toNat (i + 1))))
theorem tkS_len (K : List ByteArray) (i : Nat) : (tkS K i).length ≤ K.length := by rw [tkS_eq, List.length_take]; omega
theorem dpS_len (K : List ByteArray) (i : Nat) : (dpS K i).length ≤ K.length := by rw [dpS_eq, List.length_drop]; omega
theorem tkI_len (K : List Int) (i : Nat) : (tkI K i).length ≤ K.length := by rw [tkI_eq, List.length_take]; omega
theorem dpI_len (K : List Int) (i : Nat) : (dpI K i).length ≤ K.length := by rw [dpI_eq, List.length_drop]; omega
theorem kidsZ_all {C : List Int} (h : kidsZ C = true) : ∀ c ∈ C, 0 ≤ c ∧ c < 4294967296 := fun c hc => by
  obtain ⟨i, hi, rfl⟩ := List.mem_iff_getElem.1 hc
  have := (kidsZ_iff C).1 h i hi
  rw [atI_lt hi] at this
  exact this
theorem kidsZ_nil : kidsZ [] = true := kidsZ_of fun c hc => by cases hc
theorem kidsZ_tk {C : List Int} (h : kidsZ C = true) (i : Nat) : kidsZ (tkI C i) = true := kidsZ_of fun c hc => kidsZ_all h c (by rw [tkI_eq] at hc; exact List.mem_of_mem_take hc)
theorem kidsZ_dp {C : List Int} (h : kidsZ C = true) (i : Nat) : kidsZ (dpI C i) = true := kidsZ_of fun c hc => kidsZ_all h c (by rw [dpI_eq] at hc; exact List.mem_of_mem_drop hc)
noncomputable def tabPgS : Tab := oneTab 44 mayF (oneTab 31 sizeF (oneTab 56 halfF noTab))
theorem tabPgS_ok : TabOK Try.prog tabPgS := oneTab_ok mayF_ok (oneTab_ok sizeF_ok (oneTab_ok halfF_ok noTab_ok))
section
variable (l : Bool) (K X : List ByteArray) (C : List Int) (f : Int → Int) (last : Nat)
noncomputable abbrev spH : List (Nat × EObj) := [(0, .cells [.bool l, .lst [.str] K false, .lst [.str] X false, .lst [.int .u32] C false] 0 false), (1, .cells [.bool false, .nils, .nils, .nils] 0 false), (2, .cells [.bool false, .nils, .nils, .nils] 0 false)]
noncomputable def spC (n : Nat) : CD := ⟨68, [(1, .ptr 0 0), (2, .ptr 1 0), (3, .ptr 2 0), (6, .int .i64 (last : Int)), (7, .int .i64 (spA f n)), (8, .int .i64 (spM f n)), (9, .int .i64 ((n : Int) + 1))], [], spH l K X C, 3⟩
theorem sp_leaf (hK : K.length ≤ 255) (hX : X.length = K.length) (hl : last + 1 = K.length) (N : Nat) : LpD.ok Try.prog N 0 (bodyOf Try.prog 29) ⟨8, [(0, 0), (1, 1), (2, 2)], spC true K X C (fLf K X) last 0, .leaf (.exit 0) (spC true K X C (fLf K X) last last)⟩ := by
  refine LpD.ok_one (b := bodyAt Try.prog 29 8) rfl (loop_W tabPgS_ok (fuel := 3) (d := 4) (X := { n : Nat // n ≤ last }) (fun x => spC true K X C (fLf K X) last x.1) (fun x => last - x.1)
    (fun _ => .leaf (.exit 0) (spC true K X C (fLf K X) last last)) (fun _ => noLpW) (fun _ => noLp) (fun _ => noLp_ad) (fun _ => noLp_ok _) ?_ ⟨0, Nat.zero_le _⟩)
  rintro ⟨n, hn⟩
  dsimp only
  rcases Nat.lt_or_ge n last with hlt | hge
  · have z1 := sizN_in true (tkS K (Int.toNat ((n : Int) + 1))) (tkS X (Int.toNat ((n : Int) + 1))) []
    have z2 := sizN_in true (dpS K (Int.toNat ((n : Int) + 1))) (dpS X (Int.toNat ((n : Int) + 1))) []
    have eM := maxI_eq (sizN true (tkS K (Int.toNat ((n : Int) + 1))) (tkS X (Int.toNat ((n : Int) + 1))) []) (sizN true (dpS K (Int.toNat ((n : Int) + 1))) (dpS X (Int.toNat ((n : Int) + 1))) [])
    have l1 := tkS_len K (Int.toNat ((n : Int) + 1))
    have l2 := tkS_len X (Int.toNat ((n : Int) + 1))
    have l3 := dpS_len K (Int.toNat ((n : Int) + 1))
    have l4 := dpS_len X (Int.toNat ((n : Int) + 1))
    have k1 := kidsZ_nil
    have k2 := kidsZ_nil
    by_cases hc : spA (fLf K X) n = 0 ∨ (fLf K X) ((n : Int) + 1) < spM (fLf K X) n
    · obtain ⟨s1, s2⟩ := sp_yes hc
      have hc : spA (fLf K X) n = 0 ∨ maxI (sizN true (tkS K (Int.toNat ((n : Int) + 1))) (tkS X (Int.toNat ((n : Int) + 1))) []) (sizN true (dpS K (Int.toNat ((n : Int) + 1))) (dpS X (Int.toNat ((n : Int) + 1))) []) < spM (fLf K X) n := hc
      repeat' ((conv => whnf); first | (with_reducible first | (refine W1.o ?_; constructor) | rfl | exact castL_self _ _) | ((with_reducible refine V.same_t ?_); exact rfl) | ((with_reducible refine andB_room ?_ ?_ ?_); (· kernel_rfl); (· (first | omega | (simp only [lens] <;> omega)))) | ((with_reducible refine W2.o ?_; constructor); · (first | (with_reducible assumption) | (first | omega | (simp only [lens] <;> omega)))) | ((with_reducible refine W3.o ?_; constructor); · (first | (with_reducible assumption) | (first | omega | (simp only [lens] <;> omega)))) | ((with_reducible refine W4.o ?_; constructor); · (first | (with_reducible first | assumption | exact decide_eq_true rfl | exact sEq_self _) | ((with_reducible refine eqOK_i ?_); kernel_rfl) | (first | exact k1 | exact k2))) | ((with_reducible refine iteB_f ?_ ?_); · (first | (with_reducible first | assumption | exact decide_eq_true rfl | exact sEq_self _) | ((with_reducible refine eqOK_i ?_); kernel_rfl) | (first | exact k1 | exact k2))) | (refine ⟨⟨n + 1, hlt⟩, ?_, rfl, ?_⟩) | (with_reducible refine CD.wk_au ?_) | (with_reducible refine W5.o ?_; constructor) | ((with_reducible refine W6.o ?_; constructor) <;> intro hB))
      all_goals ((conv => whnf); (try dsimp only); (try simp only [Nat.succ_eq_add_one, Nat.le_eq, castL_self]); (try omega))
      all_goals (try (first | omega | (simp only [lens] <;> omega)))
      all_goals first
        | omega
        | exact s1.symm
        | exact s2.symm
        | trace_state
    · obtain ⟨s1, s2⟩ := sp_no hc
      have hc : ¬ (spA (fLf K X) n = 0 ∨ maxI (sizN true (tkS K (Int.toNat ((n : Int) + 1))) (tkS X (Int.toNat ((n : Int) + 1))) []) (sizN true (dpS K (Int.toNat ((n : Int) + 1))) (dpS X (Int.toNat ((n : Int) + 1))) []) < spM (fLf K X) n) := hc
      repeat' ((conv => whnf); first | (with_reducible first | (refine W1.o ?_; constructor) | rfl | exact castL_self _ _) | ((with_reducible refine V.same_t ?_); exact rfl) | ((with_reducible refine andB_room ?_ ?_ ?_); (· kernel_rfl); (· (first | omega | (simp only [lens] <;> omega)))) | ((with_reducible refine W2.o ?_; constructor); · (first | (with_reducible assumption) | (first | omega | (simp only [lens] <;> omega)))) | ((with_reducible refine W3.o ?_; constructor); · (first | (with_reducible assumption) | (first | omega | (simp only [lens] <;> omega)))) | ((with_reducible refine W4.o ?_; constructor); · (first | (with_reducible first | assumption | exact decide_eq_true rfl | exact sEq_self _) | ((with_reducible refine eqOK_i ?_); kernel_rfl) | (first | exact k1 | exact k2))) | ((with_reducible refine iteB_f ?_ ?_); · (first | (with_reducible first | assumption | exact decide_eq_true rfl | exact sEq_self _) | ((with_reducible refine eqOK_i ?_); kernel_rfl) | (first | exact k1 | exact k2))) | (refine ⟨⟨n + 1, hlt⟩, ?_, rfl, ?_⟩) | (with_reducible refine CD.wk_au ?_) | (with_reducible refine W5.o ?_; constructor) | ((with_reducible refine W6.o ?_; constructor) <;> intro hB))
      all_goals ((conv => whnf); (try dsimp only); (try simp only [Nat.succ_eq_add_one, Nat.le_eq, castL_self]); (try omega))
      all_goals (try (first | omega | (simp only [lens] <;> omega)))
      all_goals first
        | omega
        | exact s1.symm
        | exact s2.symm
        | trace_state
  · have he : n = last := Nat.le_antisymm hn hge
    subst he
    repeat' ((conv => whnf); first | (with_reducible first | (refine W1.o ?_; constructor) | rfl | exact castL_self _ _) | ((with_reducible refine V.same_t ?_); exact rfl) | ((with_reducible refine andB_room ?_ ?_ ?_); (· kernel_rfl); (· (first | omega | (simp only [lens] <;> omega)))) | ((with_reducible refine W2.o ?_; constructor); · (first | (with_reducible assumption) | (first | omega | (simp only [lens] <;> omega)))) | ((with_reducible refine W3.o ?_; constructor); · (first | (with_reducible assumption) | (first | omega | (simp only [lens] <;> omega)))) | ((with_reducible refine W4.o ?_; constructor); · (first | (with_reducible first | assumption | exact decide_eq_true rfl | exact sEq_self _) | ((with_reducible refine eqOK_i ?_); kernel_rfl))) | ((with_reducible refine iteB_f ?_ ?_); · (first | (with_reducible first | assumption | exact decide_eq_true rfl | exact sEq_self _) | ((with_reducible refine eqOK_i ?_); kernel_rfl))) | (with_reducible refine CD.wk_au ?_) | (with_reducible refine W5.o ?_; constructor) | ((with_reducible refine W6.o ?_; constructor) <;> intro hB))
    all_goals ((conv => whnf); (try dsimp only); (try simp only [Nat.succ_eq_add_one, Nat.le_eq, castL_self]); (try omega))
    all_goals (try (first | omega | (simp only [lens] <;> omega)))
    all_goals trace_state
theorem sp_knot (hK : K.length ≤ 255) (hC : C.length = K.length + 1) (hl : last + 2 = K.length) (hz : kidsZ C = true) (N : Nat) : LpD.ok Try.prog N 0 (bodyOf Try.prog 29) ⟨8, [(0, 0), (1, 1), (2, 2)], spC false K X C (fKt K C) last 0, .leaf (.exit 0) (spC false K X C (fKt K C) last last)⟩ := by
  refine LpD.ok_one (b := bodyAt Try.prog 29 8) rfl (loop_W tabPgS_ok (fuel := 3) (d := 4) (X := { n : Nat // n ≤ last }) (fun x => spC false K X C (fKt K C) last x.1) (fun x => last - x.1)
    (fun _ => .leaf (.exit 0) (spC false K X C (fKt K C) last last)) (fun _ => noLpW) (fun _ => noLp) (fun _ => noLp_ad) (fun _ => noLp_ok _) ?_ ⟨0, Nat.zero_le _⟩)
  rintro ⟨n, hn⟩
  dsimp only
  rcases Nat.lt_or_ge n last with hlt | hge
  · have z1 := sizN_in false (tkS K (Int.toNat ((n : Int) + 1))) [] (tkI C (Int.toNat (((n : Int) + 1) + 1)))
    have z2 := sizN_in false (dpS K (Int.toNat (((n : Int) + 1) + 1))) [] (dpI C (Int.toNat (((n : Int) + 1) + 1)))
    have eM := maxI_eq (sizN false (tkS K (Int.toNat ((n : Int) + 1))) [] (tkI C (Int.toNat (((n : Int) + 1) + 1)))) (sizN false (dpS K (Int.toNat (((n : Int) + 1) + 1))) [] (dpI C (Int.toNat (((n : Int) + 1) + 1))))
    have l1 := tkS_len K (Int.toNat ((n : Int) + 1))
    have l2 := tkI_len C (Int.toNat (((n : Int) + 1) + 1))
    have l3 := dpS_len K (Int.toNat (((n : Int) + 1) + 1))
    have l4 := dpI_len C (Int.toNat (((n : Int) + 1) + 1))
    have k1 := kidsZ_tk hz (Int.toNat (((n : Int) + 1) + 1))
    have k2 := kidsZ_dp hz (Int.toNat (((n : Int) + 1) + 1))
    by_cases hc : spA (fKt K C) n = 0 ∨ (fKt K C) ((n : Int) + 1) < spM (fKt K C) n
    · obtain ⟨s1, s2⟩ := sp_yes hc
      have hc : spA (fKt K C) n = 0 ∨ maxI (sizN false (tkS K (Int.toNat ((n : Int) + 1))) [] (tkI C (Int.toNat (((n : Int) + 1) + 1)))) (sizN false (dpS K (Int.toNat (((n : Int) + 1) + 1))) [] (dpI C (Int.toNat (((n : Int) + 1) + 1)))) < spM (fKt K C) n := hc
      repeat' ((conv => whnf); first | (with_reducible first | (refine W1.o ?_; constructor) | rfl | exact castL_self _ _) | ((with_reducible refine V.same_t ?_); exact rfl) | ((with_reducible refine andB_room ?_ ?_ ?_); (· kernel_rfl); (· (first | omega | (simp only [lens] <;> omega)))) | ((with_reducible refine W2.o ?_; constructor); · (first | (with_reducible assumption) | (first | omega | (simp only [lens] <;> omega)))) | ((with_reducible refine W3.o ?_; constructor); · (first | (with_reducible assumption) | (first | omega | (simp only [lens] <;> omega)))) | ((with_reducible refine W4.o ?_; constructor); · (first | (with_reducible first | assumption | exact decide_eq_true rfl | exact sEq_self _) | ((with_reducible refine eqOK_i ?_); kernel_rfl) | (first | exact k1 | exact k2))) | ((with_reducible refine iteB_f ?_ ?_); · (first | (with_reducible first | assumption | exact decide_eq_true rfl | exact sEq_self _) | ((with_reducible refine eqOK_i ?_); kernel_rfl) | (first | exact k1 | exact k2))) | (refine ⟨⟨n + 1, hlt⟩, ?_, rfl, ?_⟩) | (with_reducible refine CD.wk_au ?_) | (with_reducible refine W5.o ?_; constructor) | ((with_reducible refine W6.o ?_; constructor) <;> intro hB))
      all_goals ((conv => whnf); (try dsimp only); (try simp only [Nat.succ_eq_add_one, Nat.le_eq, castL_self]); (try omega))
      all_goals (try (first | omega | (simp only [lens] <;> omega)))
      all_goals first
        | omega
        | exact s1.symm
        | exact s2.symm
        | trace_state
    · obtain ⟨s1, s2⟩ := sp_no hc
      have hc : ¬ (spA (fKt K C) n = 0 ∨ maxI (sizN false (tkS K (Int.toNat ((n : Int) + 1))) [] (tkI C (Int.toNat (((n : Int) + 1) + 1)))) (sizN false (dpS K (Int.toNat (((n : Int) + 1) + 1))) [] (dpI C (Int.toNat (((n : Int) + 1) + 1)))) < spM (fKt K C) n) := hc
      repeat' ((conv => whnf); first | (with_reducible first | (refine W1.o ?_; constructor) | rfl | exact castL_self _ _) | ((with_reducible refine V.same_t ?_); exact rfl) | ((with_reducible refine andB_room ?_ ?_ ?_); (· kernel_rfl); (· (first | omega | (simp only [lens] <;> omega)))) | ((with_reducible refine W2.o ?_; constructor); · (first | (with_reducible assumption) | (first | omega | (simp only [lens] <;> omega)))) | ((with_reducible refine W3.o ?_; constructor); · (first | (with_reducible assumption) | (first | omega | (simp only [lens] <;> omega)))) | ((with_reducible refine W4.o ?_; constructor); · (first | (with_reducible first | assumption | exact decide_eq_true rfl | exact sEq_self _) | ((with_reducible refine eqOK_i ?_); kernel_rfl) | (first | exact k1 | exact k2))) | ((with_reducible refine iteB_f ?_ ?_); · (first | (with_reducible first | assumption | exact decide_eq_true rfl | exact sEq_self _) | ((with_reducible refine eqOK_i ?_); kernel_rfl) | (first | exact k1 | exact k2))) | (refine ⟨⟨n + 1, hlt⟩, ?_, rfl, ?_⟩) | (with_reducible refine CD.wk_au ?_) | (with_reducible refine W5.o ?_; constructor) | ((with_reducible refine W6.o ?_; constructor) <;> intro hB))
      all_goals ((conv => whnf); (try dsimp only); (try simp only [Nat.succ_eq_add_one, Nat.le_eq, castL_self]); (try omega))
      all_goals (try (first | omega | (simp only [lens] <;> omega)))
      all_goals first
        | omega
        | exact s1.symm
        | exact s2.symm
        | trace_state
  · have he : n = last := Nat.le_antisymm hn hge
    subst he
    repeat' ((conv => whnf); first | (with_reducible first | (refine W1.o ?_; constructor) | rfl | exact castL_self _ _) | ((with_reducible refine V.same_t ?_); exact rfl) | ((with_reducible refine andB_room ?_ ?_ ?_); (· kernel_rfl); (· (first | omega | (simp only [lens] <;> omega)))) | ((with_reducible refine W2.o ?_; constructor); · (first | (with_reducible assumption) | (first | omega | (simp only [lens] <;> omega)))) | ((with_reducible refine W3.o ?_; constructor); · (first | (with_reducible assumption) | (first | omega | (simp only [lens] <;> omega)))) | ((with_reducible refine W4.o ?_; constructor); · (first | (with_reducible first | assumption | exact decide_eq_true rfl | exact sEq_self _) | ((with_reducible refine eqOK_i ?_); kernel_rfl))) | ((with_reducible refine iteB_f ?_ ?_); · (first | (with_reducible first | assumption | exact decide_eq_true rfl | exact sEq_self _) | ((with_reducible refine eqOK_i ?_); kernel_rfl))) | (with_reducible refine CD.wk_au ?_) | (with_reducible refine W5.o ?_; constructor) | ((with_reducible refine W6.o ?_; constructor) <;> intro hB))
    all_goals ((conv => whnf); (try dsimp only); (try simp only [Nat.succ_eq_add_one, Nat.le_eq, castL_self]); (try omega))
    all_goals (try (first | omega | (simp only [lens] <;> omega)))
    all_goals trace_state
end
end Go.Proofs.Ytlfhiophojahbaa
end

section
namespace Go.Proofs.Ytlfhiophojahbaa
open Go.Sym
set_option linter.unusedVariables false
set_option linter.unusedSimpArgs false
set_option maxRecDepth 100000
set_option maxHeartbeats 4000000
def okS (l : Bool) (K X : List ByteArray) (C : List Int) : Prop := mayP l K X C ∧ (if l = true then 2 ≤ K.length else 3 ≤ K.length)
noncomputable def atN (l : Bool) (K X : List ByteArray) (C : List Int) : Int := if l = true then spA (fLf K X) (K.length - 1) else spA (fKt K C) (K.length - 2)
section
open Classical
noncomputable def s1L : Bool → List ByteArray → List ByteArray → List Int → Bool := hide fun l K X C => if okS l K X C then l else false
noncomputable def s1K : Bool → List ByteArray → List ByteArray → List Int → List ByteArray := hide fun l K X C => if okS l K X C then tkS K (atN l K X C).toNat else []
noncomputable def s1X : Bool → List ByteArray → List ByteArray → List Int → List ByteArray := hide fun l K X C => if okS l K X C ∧ l = true then tkS X (atN l K X C).toNat else []
noncomputable def s1C : Bool → List ByteArray → List ByteArray → List Int → List Int := hide fun l K X C => if okS l K X C ∧ l = false then tkI C (atN l K X C + 1).toNat else []
noncomputable def s2K : Bool → List ByteArray → List ByteArray → List Int → List ByteArray := hide fun l K X C => if okS l K X C then (if l = true then dpS K (atN l K X C).toNat else dpS K (atN l K X C + 1).toNat) else []
noncomputable def s2X : Bool → List ByteArray → List ByteArray → List Int → List ByteArray := hide fun l K X C => if okS l K X C ∧ l = true then dpS X (atN l K X C).toNat else []
noncomputable def s2C : Bool → List ByteArray → List ByteArray → List Int → List Int := hide fun l K X C => if okS l K X C ∧ l = false then dpI C (atN l K X C + 1).toNat else []
noncomputable def sKey : Bool → List ByteArray → List ByteArray → List Int → ByteArray := hide fun l K X C => if okS l K X C then atS K (atN l K X C).toNat else ⟨#[]⟩
noncomputable def sErr : Bool → List ByteArray → List ByteArray → List Int → Int := hide fun l K X C => if okS l K X C then 0 else 2
end
theorem spl_no {l : Bool} {K X : List ByteArray} {C : List Int} (h : ¬ okS l K X C) : s1L l K X C = false ∧ s1K l K X C = [] ∧ s1X l K X C = [] ∧ s1C l K X C = [] ∧ s2K l K X C = [] ∧ s2X l K X C = [] ∧ s2C l K X C = [] ∧ sKey l K X C = ⟨#[]⟩ ∧ sErr l K X C = 2 := by
  unfold s1L s1K s1X s1C s2K s2X s2C sKey sErr
  simp [hide_eq, h, atN]
theorem spl_leaf {K X : List ByteArray} {C : List Int} (h : okS true K X C) : s1L true K X C = true ∧ s1K true K X C = tkS K (spA (fLf K X) (K.length - 1)).toNat ∧ s1X true K X C = tkS X (spA (fLf K X) (K.length - 1)).toNat ∧ s1C true K X C = [] ∧ s2K true K X C = dpS K (spA (fLf K X) (K.length - 1)).toNat ∧ s2X true K X C = dpS X (spA (fLf K X) (K.length - 1)).toNat ∧ s2C true K X C = [] ∧ sKey true K X C = atS K (spA (fLf K X) (K.length - 1)).toNat ∧ sErr true K X C = 0 := by
  unfold s1L s1K s1X s1C s2K s2X s2C sKey sErr
  simp [hide_eq, h, atN]
theorem spl_knot {K X : List ByteArray} {C : List Int} (h : okS false K X C) : s1L false K X C = false ∧ s1K false K X C = tkS K (spA (fKt K C) (K.length - 2)).toNat ∧ s1X false K X C = [] ∧ s1C false K X C = tkI C (spA (fKt K C) (K.length - 2) + 1).toNat ∧ s2K false K X C = dpS K (spA (fKt K C) (K.length - 2) + 1).toNat ∧ s2X false K X C = [] ∧ s2C false K X C = dpI C (spA (fKt K C) (K.length - 2) + 1).toNat ∧ sKey false K X C = atS K (spA (fKt K C) (K.length - 2)).toNat ∧ sErr false K X C = 0 := by
  unfold s1L s1K s1X s1C s2K s2X s2C sKey sErr
  simp [hide_eq, h, atN]
noncomputable abbrev splV (l : Bool) (K X : List ByteArray) (C : List Int) : V := .tup [nodeV (s1L l K X C) (s1K l K X C) (s1X l K X C) (s1C l K X C), nodeV (s1L l K X C) (s2K l K X C) (s2X l K X C) (s2C l K X C), .str (sKey l K X C), .int .i64 (sErr l K X C)]
theorem nil_spl {ρ : Env} : ∀ X, VRel ρ (.tup [.agg [.bool false, .nils, .nils, .nils], .agg [.bool false, .nils, .nils, .nils], .str ⟨#[]⟩, .int .i64 2]) X → VRel ρ (.tup [nodeV false [] [] [], nodeV false [] [] [], .str ⟨#[]⟩, .int .i64 2]) X :=
  tup_of (LRel.cons_of (node_rel rfl rfl rfl) (LRel.cons_of (node_rel rfl rfl rfl) fun _ h => h))
theorem split_at (l : Bool) (K X : List ByteArray) (C : List Int) (hK : K.length ≤ 4611686018427387904) (hX : X.length ≤ 4611686018427387904) (hC : C.length ≤ 4611686018427387904) (hz : kidsZ C = true) : PureAt Try.prog 29 [nodeV l K X C] (splV l K X C) := by
  by_cases hok : okS l K X C
  · obtain ⟨hm, h2⟩ := hok
    have hb := (mayB_iff l K X C).2 hm
    have hK255 := hm.2.2.1
    cases l with
    | true =>
      have hok : okS true K X C := ⟨hm, h2⟩
      have h2 : 2 ≤ K.length := h2
      obtain ⟨hx, hc⟩ := may_x hm
      obtain ⟨e1, e2, e3, e4, e5, e6, e7, e8, e9⟩ := spl_leaf hok
      rw [splV, e1, e2, e3, e4, e5, e6, e7, e8, e9]
      obtain ⟨a0, a1, a2⟩ := sp_in (fLf K X) (K.length - 1)
      obtain ⟨z1, z2⟩ := sp_0 (fLf K X)
      refine pure_of_loops tabPgS_ok (fuel := 3) (d := 4) [⟨8, [(0, 0), (1, 1), (2, 2)], spC true K X C (fLf K X) (K.length - 1) 0, .leaf (.exit 0) (spC true K X C (fLf K X) (K.length - 1) (K.length - 1))⟩] ?_ ?_
      · intro N y hy
        rw [List.mem_singleton.1 hy]
        exact sp_leaf K X C (K.length - 1) hK255 hx (by omega) N
      · repeat' ((conv => whnf); first | (with_reducible first | (refine W1.o ?_; constructor) | rfl | exact castL_self _ _) | ((with_reducible refine V.same_t ?_); exact rfl) | ((with_reducible refine andB_room ?_ ?_ ?_); (· kernel_rfl); (· (first | omega | (simp only [lens] <;> omega)))) | ((with_reducible refine W2.o ?_; constructor); · (first | (with_reducible assumption) | (first | omega | (simp only [lens] <;> omega)))) | ((with_reducible refine W3.o ?_; constructor); · (first | (with_reducible assumption) | (first | omega | (simp only [lens] <;> omega)))) | ((with_reducible refine W4.o ?_; constructor); · (first | (with_reducible first | assumption | exact decide_eq_true rfl | exact sEq_self _) | ((with_reducible refine eqOK_i ?_); kernel_rfl) | (first | exact hb | exact hz))) | ((with_reducible refine iteB_f ?_ ?_); · (first | (with_reducible first | assumption | exact decide_eq_true rfl | exact sEq_self _) | ((with_reducible refine eqOK_i ?_); kernel_rfl) | (first | exact hb | exact hz))) | (with_reducible refine CD.wk_au ?_) | (with_reducible refine W5.o ?_; constructor) | ((with_reducible refine W6.o ?_; constructor) <;> intro hB))
        all_goals ((conv => whnf); (try dsimp only); (try simp only [Nat.succ_eq_add_one, Nat.le_eq, castL_self]); (try omega))
        all_goals (try (first | omega | (simp only [lens] <;> omega)))
        all_goals first
          | omega
          | rfl
          | exact z1.symm
          | exact z2.symm
          | trace_state
    | false =>
      have hok : okS false K X C := ⟨hm, h2⟩
      have h2 : 3 ≤ K.length := h2
      obtain ⟨hx, hc⟩ := may_c hm
      obtain ⟨e1, e2, e3, e4, e5, e6, e7, e8, e9⟩ := spl_knot hok
      rw [splV, e1, e2, e3, e4, e5, e6, e7, e8, e9]
      obtain ⟨a0, a1, a2⟩ := sp_in (fKt K C) (K.length - 2)
      obtain ⟨z1, z2⟩ := sp_0 (fKt K C)
      refine pure_of_loops tabPgS_ok (fuel := 3) (d := 4) [⟨8, [(0, 0), (1, 1), (2, 2)], spC false K X C (fKt K C) (K.length - 2) 0, .leaf (.exit 0) (spC false K X C (fKt K C) (K.length - 2) (K.length - 2))⟩] ?_ ?_
      · intro N y hy
        rw [List.mem_singleton.1 hy]
        exact sp_knot K X C (K.length - 2) hK255 hc (by omega) hz N
      · repeat' ((conv => whnf); first | (with_reducible first | (refine W1.o ?_; constructor) | rfl | exact castL_self _ _) | ((with_reducible refine V.same_t ?_); exact rfl) | ((with_reducible refine andB_room ?_ ?_ ?_); (· kernel_rfl); (· (first | omega | (simp only [lens] <;> omega)))) | ((with_reducible refine W2.o ?_; constructor); · (first | (with_reducible assumption) | (first | omega | (simp only [lens] <;> omega)))) | ((with_reducible refine W3.o ?_; constructor); · (first | (with_reducible assumption) | (first | omega | (simp only [lens] <;> omega)))) | ((with_reducible refine W4.o ?_; constructor); · (first | (with_reducible first | assumption | exact decide_eq_true rfl | exact sEq_self _) | ((with_reducible refine eqOK_i ?_); kernel_rfl) | (first | exact hb | exact hz))) | ((with_reducible refine iteB_f ?_ ?_); · (first | (with_reducible first | assumption | exact decide_eq_true rfl | exact sEq_self _) | ((with_reducible refine eqOK_i ?_); kernel_rfl) | (first | exact hb | exact hz))) | (with_reducible refine CD.wk_au ?_) | (with_reducible refine W5.o ?_; constructor) | ((with_reducible refine W6.o ?_; constructor) <;> intro hB))
        all_goals ((conv => whnf); (try dsimp only); (try simp only [Nat.succ_eq_add_one, Nat.le_eq, castL_self]); (try omega))
        all_goals (try (first | omega | (simp only [lens] <;> omega)))
        all_goals first
          | omega
          | rfl
          | exact z1.symm
          | exact z2.symm
          | trace_state
  · obtain ⟨e1, e2, e3, e4, e5, e6, e7, e8, e9⟩ := spl_no hok
    rw [splV, e1, e2, e3, e4, e5, e6, e7, e8, e9]
    refine PureAt.val (v := .tup [.agg [.bool false, .nils, .nils, .nils], .agg [.bool false, .nils, .nils, .nils], .str ⟨#[]⟩, .int .i64 2]) ?_ fun φ => nil_spl
    refine pure_of_W0 (tab := tabPgS) (fuel := 3) (d := 4) tabPgS_ok ?_
    by_cases hm : mayP l K X C
    · have hb := (mayB_iff l K X C).2 hm
      cases l with
      | true =>
        have h2 : ¬ 2 ≤ K.length := fun h => hok ⟨hm, h⟩
        repeat' ((conv => whnf); first | (with_reducible first | (refine W1.o ?_; constructor) | rfl | exact castL_self _ _) | ((with_reducible refine V.same_t ?_); exact rfl) | ((with_reducible refine andB_room ?_ ?_ ?_); (· kernel_rfl); (· (first | omega | (simp only [lens] <;> omega)))) | ((with_reducible refine W2.o ?_; constructor); · (first | (with_reducible assumption) | (first | omega | (simp only [lens] <;> omega)))) | ((with_reducible refine W3.o ?_; constructor); · (first | (with_reducible assumption) | (first | omega | (simp only [lens] <;> omega)))) | ((with_reducible refine W4.o ?_; constructor); · (first | (with_reducible first | assumption | exact decide_eq_true rfl | exact sEq_self _) | ((with_reducible refine eqOK_i ?_); kernel_rfl) | (first | exact hb | exact hz))) | ((with_reducible refine iteB_f ?_ ?_); · (first | (with_reducible first | assumption | exact decide_eq_true rfl | exact sEq_self _) | ((with_reducible refine eqOK_i ?_); kernel_rfl) | (first | exact hb | exact hz))) | (with_reducible refine W5.o ?_; constructor) | ((with_reducible refine W6.o ?_; constructor) <;> intro hB))
        all_goals ((conv => whnf); (try dsimp only); (try simp only [Nat.succ_eq_add_one, Nat.le_eq, castL_self]); (try omega))
        all_goals (try (first | omega | (simp only [lens] <;> omega)))
        all_goals first
          | rfl
          | omega
          | trace_state
      | false =>
        have h2 : ¬ 3 ≤ K.length := fun h => hok ⟨hm, h⟩
        repeat' ((conv => whnf); first | (with_reducible first | (refine W1.o ?_; constructor) | rfl | exact castL_self _ _) | ((with_reducible refine V.same_t ?_); exact rfl) | ((with_reducible refine andB_room ?_ ?_ ?_); (· kernel_rfl); (· (first | omega | (simp only [lens] <;> omega)))) | ((with_reducible refine W2.o ?_; constructor); · (first | (with_reducible assumption) | (first | omega | (simp only [lens] <;> omega)))) | ((with_reducible refine W3.o ?_; constructor); · (first | (with_reducible assumption) | (first | omega | (simp only [lens] <;> omega)))) | ((with_reducible refine W4.o ?_; constructor); · (first | (with_reducible first | assumption | exact decide_eq_true rfl | exact sEq_self _) | ((with_reducible refine eqOK_i ?_); kernel_rfl) | (first | exact hb | exact hz))) | ((with_reducible refine iteB_f ?_ ?_); · (first | (with_reducible first | assumption | exact decide_eq_true rfl | exact sEq_self _) | ((with_reducible refine eqOK_i ?_); kernel_rfl) | (first | exact hb | exact hz))) | (with_reducible refine W5.o ?_; constructor) | ((with_reducible refine W6.o ?_; constructor) <;> intro hB))
        all_goals ((conv => whnf); (try dsimp only); (try simp only [Nat.succ_eq_add_one, Nat.le_eq, castL_self]); (try omega))
        all_goals (try (first | omega | (simp only [lens] <;> omega)))
        all_goals first
          | rfl
          | omega
          | trace_state
    · have hb := mayB_no hm
      cases l with
      | true =>
        repeat' ((conv => whnf); first | (with_reducible first | (refine W1.o ?_; constructor) | rfl | exact castL_self _ _) | ((with_reducible refine V.same_t ?_); exact rfl) | ((with_reducible refine andB_room ?_ ?_ ?_); (· kernel_rfl); (· (first | omega | (simp only [lens] <;> omega)))) | ((with_reducible refine W2.o ?_; constructor); · (first | (with_reducible assumption) | (first | omega | (simp only [lens] <;> omega)))) | ((with_reducible refine W3.o ?_; constructor); · (first | (with_reducible assumption) | (first | omega | (simp only [lens] <;> omega)))) | ((with_reducible refine W4.o ?_; constructor); · (first | (with_reducible first | assumption | exact decide_eq_true rfl | exact sEq_self _) | ((with_reducible refine eqOK_i ?_); kernel_rfl) | (first | exact hb | exact hz))) | ((with_reducible refine iteB_f ?_ ?_); · (first | (with_reducible first | assumption | exact decide_eq_true rfl | exact sEq_self _) | ((with_reducible refine eqOK_i ?_); kernel_rfl) | (first | exact hb | exact hz))) | (with_reducible refine W5.o ?_; constructor) | ((with_reducible refine W6.o ?_; constructor) <;> intro hB))
        all_goals ((conv => whnf); (try dsimp only); (try simp only [Nat.succ_eq_add_one, Nat.le_eq, castL_self]); (try omega))
        all_goals (try (first | omega | (simp only [lens] <;> omega)))
        all_goals first
          | rfl
          | omega
          | trace_state
      | false =>
        repeat' ((conv => whnf); first | (with_reducible first | (refine W1.o ?_; constructor) | rfl | exact castL_self _ _) | ((with_reducible refine V.same_t ?_); exact rfl) | ((with_reducible refine andB_room ?_ ?_ ?_); (· kernel_rfl); (· (first | omega | (simp only [lens] <;> omega)))) | ((with_reducible refine W2.o ?_; constructor); · (first | (with_reducible assumption) | (first | omega | (simp only [lens] <;> omega)))) | ((with_reducible refine W3.o ?_; constructor); · (first | (with_reducible assumption) | (first | omega | (simp only [lens] <;> omega)))) | ((with_reducible refine W4.o ?_; constructor); · (first | (with_reducible first | assumption | exact decide_eq_true rfl | exact sEq_self _) | ((with_reducible refine eqOK_i ?_); kernel_rfl) | (first | exact hb | exact hz))) | ((with_reducible refine iteB_f ?_ ?_); · (first | (with_reducible first | assumption | exact decide_eq_true rfl | exact sEq_self _) | ((with_reducible refine eqOK_i ?_); kernel_rfl) | (first | exact hb | exact hz))) | (with_reducible refine W5.o ?_; constructor) | ((with_reducible refine W6.o ?_; constructor) <;> intro hB))
        all_goals ((conv => whnf); (try dsimp only); (try simp only [Nat.succ_eq_add_one, Nat.le_eq, castL_self]); (try omega))
        all_goals (try (first | omega | (simp only [lens] <;> omega)))
        all_goals first
          | rfl
          | omega
          | trace_state
noncomputable def splitF : List V → Option (List Bool × V) := nodeF fun l K X C => (lensZ K X C, splV l K X C)
theorem splitF_ok (args : List V) (c : List Bool) (v : V) (h : splitF args = some (c, v)) (hc : allB c) : PureAt Try.prog 29 args v :=
  nodeF_ok (fun l K X C h => by exact split_at l K X C (of_decide_eq_true h.1) (of_decide_eq_true h.2.1) (of_decide_eq_true h.2.2.1) h.2.2.2.1) args c v h hc
end Go.Proofs.Ytlfhiophojahbaa
end

section
namespace Go.Proofs.Ytlfhiophojahbaa
open Go.Sym
set_option linter.unusedVariables false

abbrev PS : Type := List ByteArray × List ByteArray × List Int × Nat
abbrev or4 (a b c d : Int) : Int := IntKind.u32.wrap (Int.ofNat ((ofI .u32 (IntKind.u32.wrap (Int.ofNat ((ofI .u32 (IntKind.u32.wrap (Int.ofNat ((ofI .u32 (a % 4294967296 * 2 ^ min (Int.toNat 24) 32 % 4294967296)).lor (ofI .u32 (b % 4294967296 * 2 ^ min (Int.toNat 16) 32 % 4294967296)))))).lor (ofI .u32 (c % 4294967296 * 2 ^ min (Int.toNat 8) 32 % 4294967296)))))).lor (ofI .u32 (d % 4294967296))))
noncomputable def n4 (t : ByteArray) (o : Nat) : Int := or4 (bAt t o) (bAt t (o + 1)) (bAt t (o + 2)) (bAt t (o + 3))
def lenP (t : ByteArray) (o : Nat) : Nat := (bAt t o).toNat
def txP (t : ByteArray) (o : Nat) : Prop := o + 1 ≤ t.size ∧ o + 1 + lenP t o ≤ t.size
instance (t : ByteArray) (o : Nat) : Decidable (txP t o) := by unfold txP; infer_instance
def txS (t : ByteArray) (o : Nat) : ByteArray := t.extract (o + 1) (o + 1 + lenP t o)
noncomputable def stepP (l : Bool) (t : ByteArray) (x : PS) : Option PS :=
  if txP t x.2.2.2 then
    (if l = true then (if txP t (x.2.2.2 + 1 + lenP t x.2.2.2) then some (x.1 ++ [txS t x.2.2.2], x.2.1 ++ [txS t (x.2.2.2 + 1 + lenP t x.2.2.2)], x.2.2.1, x.2.2.2 + 1 + lenP t x.2.2.2 + 1 + lenP t (x.2.2.2 + 1 + lenP t x.2.2.2)) else none)
    else (if x.2.2.2 + 1 + lenP t x.2.2.2 + 4 ≤ t.size then some (x.1 ++ [txS t x.2.2.2], x.2.1, x.2.2.1 ++ [n4 t (x.2.2.2 + 1 + lenP t x.2.2.2)], x.2.2.2 + 1 + lenP t x.2.2.2 + 4) else none))
  else none
noncomputable def startP (l : Bool) (t : ByteArray) : PS := if l = true then ([], [], [], 2) else ([], [], [n4 t 2], 6)
noncomputable def runP0 (l : Bool) (t : ByteArray) : Nat → Option PS
  | 0 => some (startP l t)
  | i + 1 => (runP0 l t i).bind (stepP l t)
noncomputable def runP : Bool → ByteArray → Nat → Option PS := hide runP0
theorem runP_0 (l : Bool) (t : ByteArray) : runP l t 0 = some (startP l t) := by unfold runP; rw [hide_eq]; rfl
theorem runP_succ (l : Bool) (t : ByteArray) (i : Nat) : runP l t (i + 1) = (runP l t i).bind (stepP l t) := by unfold runP; rw [hide_eq]; rfl
theorem runP_none {l : Bool} {t : ByteArray} {i j : Nat} (h : runP l t i = none) (hij : i ≤ j) : runP l t j = none := by
  induction hij with
  | refl => exact h
  | step _ ih => rw [runP_succ, ih]; rfl
noncomputable def stP : Bool → ByteArray → Nat → PS := hide fun l t i => (runP l t i).getD ([], [], [], 0)
theorem stP_of {l : Bool} {t : ByteArray} {i : Nat} {x : PS} (h : runP l t i = some x) : stP l t i = x := by unfold stP; rw [hide_eq, h]; rfl
noncomputable def stK : Bool → ByteArray → Nat → List ByteArray := hide fun l t i => (stP l t i).1
noncomputable def stX : Bool → ByteArray → Nat → List ByteArray := hide fun l t i => (stP l t i).2.1
noncomputable def stC : Bool → ByteArray → Nat → List Int := hide fun l t i => (stP l t i).2.2.1
noncomputable def stO : Bool → ByteArray → Nat → Nat := hide fun l t i => (stP l t i).2.2.2
theorem st_of {l : Bool} {t : ByteArray} {i : Nat} {x : PS} (h : runP l t i = some x) : stK l t i = x.1 ∧ stX l t i = x.2.1 ∧ stC l t i = x.2.2.1 ∧ stO l t i = x.2.2.2 := by
  unfold stK stX stC stO
  rw [hide_eq, hide_eq, hide_eq, hide_eq, stP_of h]
  exact ⟨rfl, rfl, rfl, rfl⟩
theorem runP_st4 {l : Bool} {t : ByteArray} {i : Nat} (h : (runP l t i).isSome = true) : runP l t i = some (stK l t i, stX l t i, stC l t i, stO l t i) := by
  obtain ⟨x, hx⟩ := Option.isSome_iff_exists.1 h
  obtain ⟨h1, h2, h3, h4⟩ := st_of hx
  rw [hx, h1, h2, h3, h4]
theorem lenP_lt (t : ByteArray) (o : Nat) : lenP t o < 256 := by
  have := UInt8.toNat_lt (t.data.toList.getD o 0)
  unfold lenP bAt
  omega
theorem bAt_in (s : ByteArray) (i : Nat) : 0 ≤ bAt s i ∧ bAt s i < 256 := by
  have := UInt8.toNat_lt (s.data.toList.getD i 0)
  unfold bAt
  omega
theorem bAt_len (t : ByteArray) (o : Nat) : bAt t o = (lenP t o : Int) := by
  have := bAt_in t o
  unfold lenP
  omega
theorem stepP_leaf {t : ByteArray} {x : PS} (h1 : txP t x.2.2.2) (h2 : txP t (x.2.2.2 + 1 + lenP t x.2.2.2)) : stepP true t x = some (x.1 ++ [txS t x.2.2.2], x.2.1 ++ [txS t (x.2.2.2 + 1 + lenP t x.2.2.2)], x.2.2.1, x.2.2.2 + 1 + lenP t x.2.2.2 + 1 + lenP t (x.2.2.2 + 1 + lenP t x.2.2.2)) := by
  unfold stepP; rw [if_pos h1, if_pos rfl, if_pos h2]
theorem stepP_knot {t : ByteArray} {x : PS} (h1 : txP t x.2.2.2) (h2 : x.2.2.2 + 1 + lenP t x.2.2.2 + 4 ≤ t.size) : stepP false t x = some (x.1 ++ [txS t x.2.2.2], x.2.1, x.2.2.1 ++ [n4 t (x.2.2.2 + 1 + lenP t x.2.2.2)], x.2.2.2 + 1 + lenP t x.2.2.2 + 4) := by
  unfold stepP; rw [if_pos h1, if_neg (by decide), if_pos h2]
theorem stepP_no1 {l : Bool} {t : ByteArray} {x : PS} (h1 : ¬ txP t x.2.2.2) : stepP l t x = none := by unfold stepP; rw [if_neg h1]
theorem stepP_no2 {t : ByteArray} {x : PS} (h2 : ¬ txP t (x.2.2.2 + 1 + lenP t x.2.2.2)) : stepP true t x = none := by
  by_cases h1 : txP t x.2.2.2
  · unfold stepP; rw [if_pos h1, if_pos rfl, if_neg h2]
  · exact stepP_no1 h1
theorem stepP_no4 {t : ByteArray} {x : PS} (h2 : ¬ x.2.2.2 + 1 + lenP t x.2.2.2 + 4 ≤ t.size) : stepP false t x = none := by
  by_cases h1 : txP t x.2.2.2
  · unfold stepP; rw [if_pos h1, if_neg (by decide), if_neg h2]
  · exact stepP_no1 h1
theorem runP_in {l : Bool} {t : ByteArray} (ht : 6 ≤ t.size) : ∀ (i : Nat) {x : PS}, runP l t i = some x → x.1.length = i ∧ x.2.1.length ≤ i ∧ x.2.2.1.length ≤ i + 1 ∧ 2 ≤ x.2.2.2 ∧ x.2.2.2 ≤ t.size
  | 0, x, h => by
    rw [runP_0] at h
    cases h
    unfold startP
    split <;> simp <;> omega
  | i + 1, x, h => by
    rw [runP_succ] at h
    obtain ⟨y, hy, h2⟩ := Option.bind_eq_some_iff.1 h
    obtain ⟨g1, g2, g3, g4, g5⟩ := runP_in ht i hy
    unfold stepP at h2
    split at h2
    · split at h2
      · split at h2
        · rename_i k1 _ k2
          cases h2
          have := k2.2
          simp
          omega
        · cases h2
      · split at h2
        · cases h2
          simp
          omega
        · cases h2
    · cases h2
noncomputable def restS : ByteArray → Nat → ByteArray := hide fun t o => t.extract o t.size
theorem restS_eq (t : ByteArray) (o : Nat) : restS t o = t.extract o t.size := by unfold restS; rw [hide_eq]
theorem restS_size (t : ByteArray) (o : Nat) : (restS t o).size = t.size - o := by rw [restS_eq, ByteArray.size_extract]; omega
theorem restS_0 (t : ByteArray) : restS t 0 = t := by rw [restS_eq]; exact ByteArray.extract_zero_size
theorem ext_ext (t : ByteArray) (a b c d : Nat) (h : a + d ≤ b) : (t.extract a b).extract c d = t.extract (a + c) (a + d) := by
  rw [ByteArray.extract_extract]
  congr 1
  omega
theorem restS_ext (t : ByteArray) (o c d : Nat) (h : o + d ≤ t.size) : (restS t o).extract c d = t.extract (o + c) (o + d) := by
  rw [restS_eq, ext_ext _ _ _ _ _ h]
theorem bAt_ext (t : ByteArray) (a b i : Nat) (h : a + i < b) (hb : b ≤ t.size) : bAt (t.extract a b) i = bAt t (a + i) := by
  unfold bAt
  congr 1
  rw [ByteArray.data_extract, Array.toList_extract, List.getD_eq_getElem?_getD, List.getD_eq_getElem?_getD]
  rw [List.extract_eq_take_drop, List.getElem?_take_of_lt (by omega), List.getElem?_drop]
theorem rest_ext (t : ByteArray) (o a : Nat) : (restS t o).extract a (restS t o).size = restS t (o + a) := by
  rw [restS_size, restS_eq, restS_eq, ByteArray.extract_extract]
  congr 1
  omega
theorem rest_cut (t : ByteArray) (o k : Nat) (h : o + k ≤ t.size) : (restS t o).extract 0 k = t.extract o (o + k) := by
  rw [restS_ext _ _ _ _ h, Nat.add_zero]
theorem rest_at (t : ByteArray) (o k i : Nat) (h : o + k ≤ t.size) (hi : i < k) : bAt ((restS t o).extract 0 k) i = bAt t (o + i) := by
  rw [rest_cut _ _ _ h, bAt_ext _ _ _ _ (by omega) h]
theorem rest_len (t : ByteArray) (o : Nat) (h : o + 1 ≤ t.size) : bAt ((restS t o).extract 0 1) 0 = (lenP t o : Int) := by
  rw [rest_at _ _ _ _ h (by omega), Nat.add_zero, bAt_len]
theorem cut_ext (t : ByteArray) (o a : Nat) : cutS (restS t o) a (restS t o).size = restS t (o + a) := by rw [cutS_eq]; exact rest_ext t o a
theorem cut_cut (t : ByteArray) (o k : Nat) (h : o + k ≤ t.size) : cutS (restS t o) 0 k = t.extract o (o + k) := by rw [cutS_eq]; exact rest_cut t o k h
theorem cut_at (t : ByteArray) (o k i : Nat) (h : o + k ≤ t.size) (hi : i < k) : bAt (cutS (restS t o) 0 k) i = bAt t (o + i) := by rw [cutS_eq]; exact rest_at t o k i h hi
theorem cut_len (t : ByteArray) (o : Nat) (h : o + 1 ≤ t.size) : bAt (cutS (restS t o) 0 1) 0 = (lenP t o : Int) := by rw [cutS_eq]; exact rest_len t o h
end Go.Proofs.Ytlfhiophojahbaa
end

section
namespace Go.Proofs.Ytlfhiophojahbaa
open Go.Sym
set_option linter.unusedVariables false
set_option linter.unusedSimpArgs false
set_option maxRecDepth 100000
set_option maxHeartbeats 4000000

noncomputable def tabPgI : Tab := oneTab 38 openF (oneTab 16 encodeF noTab)
theorem tabPgI_ok : TabOK Try.prog tabPgI := oneTab_ok openF_ok (oneTab_ok encodeF_ok noTab_ok)
section
variable (l : Bool) (s t : ByteArray) (cnt : Nat)
noncomputable def dcH (K X : List ByteArray) (C : List Int) (r : ByteArray) : List (Nat × EObj) := [(0, .cells [.bool l, .rs 4 0 K.length K.length false 1, .rs 5 0 X.length X.length false 1, .rs 6 0 C.length C.length false 1] 0 false), (1, .cells [.int .i64 0] 0 false), (2, .cells [.str r] 0 false), (3, .cells [.fn 40 [] [.ptr 2 0]] 0 false), (4, .rows [.str] K 0 false), (5, .rows [.str] X 0 false), (6, .rows [.int .u32] C 0 false)]
noncomputable def dcC (i : Nat) : CD := ⟨93, [(0, .str s), (2, .ptr 0 0), (3, .ptr 1 0), (6, .ptr 3 0), (7, .fn 41 [] [.ptr 3 0]), (8, .fn 42 [] [.ptr 3 0]), (48, .int .i64 (cnt : Int)), (49, .int .i64 (i : Int))], [.call 37 [] [.ptr 0 0, .ptr 1 0]], dcH l (stK l t i) (stX l t i) (stC l t i) (restS t (stO l t i)), 7⟩
noncomputable def dcP : CD := ⟨93, [(2, .ptr 0 0), (3, .ptr 1 0)], [.call 37 [] [.ptr 0 0, .ptr 1 0]], [(0, .cells [.any, .any, .any, .any] 0 false), (1, .cells [.any] 0 false)], 2⟩
noncomputable def okB : Bool → ByteArray → Nat → Bool := hide fun l t i => (runP l t i).isSome
theorem okB_eq (l : Bool) (t : ByteArray) (i : Nat) : okB l t i = (runP l t i).isSome := by unfold okB; rw [hide_eq]
noncomputable def dcO : OD := .ite (okB l t cnt) (.leaf (.exit 0) (dcC l s t cnt cnt)) (.leaf (.pan (.iface 84 (.agg []))) dcP)
end
theorem dc_leaf (s t : ByteArray) (cnt : Nat) (ht : t.size = 252) (hc : cnt ≤ 255) (N : Nat) : LpD.ok Try.prog N 0 (bodyOf Try.prog 10) ⟨12, [], dcC true s t cnt 0, dcO true s t cnt⟩ := by
  refine LpD.ok_one (b := bodyAt Try.prog 10 12) rfl (loop_W tabPgI_ok (fuel := 3) (d := 6) (X := { i : Nat // i ≤ cnt ∧ (runP true t i).isSome = true }) (fun x => dcC true s t cnt x.1) (fun x => cnt - x.1)
    (fun _ => dcO true s t cnt) (fun _ => noLpW) (fun _ => noLp) (fun _ => noLp_ad) (fun _ => noLp_ok _) ?_ ⟨0, Nat.zero_le _, by rw [runP_0]; rfl⟩)
  rintro ⟨i, hi, ha⟩
  dsimp only
  rcases Nat.lt_or_ge i cnt with hlt | hge
  · have hst := runP_st4 ha
    obtain ⟨q1, q2, q3, q4, q5⟩ := runP_in (by omega) i hst
    dsimp only at q1 q2 q3 q4 q5
    have s0 : ByteArray.size (restS t (stO true t i)) = t.size - (stO true t i) := restS_size t (stO true t i)
    have y1 : (cutS (restS t (stO true t i)) (Int.toNat 1) (ByteArray.size (restS t (stO true t i)))) = restS t ((stO true t i) + 1) := cut_ext t (stO true t i) 1
    have s1 : ByteArray.size (cutS (restS t (stO true t i)) (Int.toNat 1) (ByteArray.size (restS t (stO true t i)))) = t.size - ((stO true t i) + 1) := by rw [y1, restS_size]
    have hl0 := lenP_lt t (stO true t i)
    by_cases h1 : txP t (stO true t i)
    · obtain ⟨g1, g2⟩ := h1
      have x0 : (bAt (cutS (restS t (stO true t i)) 0 (Int.toNat 1)) (Int.toNat 0)) = (lenP t (stO true t i) : Int) := cut_len t (stO true t i) g1
      obtain ⟨o1, ho1⟩ : ∃ o1, (stO true t i) + 1 + lenP t (stO true t i) = o1 := ⟨_, rfl⟩
      have y2 : (cutS (cutS (restS t (stO true t i)) (Int.toNat 1) (ByteArray.size (restS t (stO true t i)))) (Int.toNat (bAt (cutS (restS t (stO true t i)) 0 (Int.toNat 1)) (Int.toNat 0))) (ByteArray.size (cutS (restS t (stO true t i)) (Int.toNat 1) (ByteArray.size (restS t (stO true t i)))))) = restS t o1 := by rw [x0, y1, ← ho1]; exact cut_ext t ((stO true t i) + 1) (lenP t (stO true t i))
      have k0 : (cutS (cutS (restS t (stO true t i)) (Int.toNat 1) (ByteArray.size (restS t (stO true t i)))) 0 (Int.toNat (bAt (cutS (restS t (stO true t i)) 0 (Int.toNat 1)) (Int.toNat 0)))) = txS t (stO true t i) := by rw [x0, y1]; exact cut_cut t ((stO true t i) + 1) (lenP t (stO true t i)) g2
      have hl1 := lenP_lt t o1
      have s2 : ByteArray.size (cutS (cutS (restS t (stO true t i)) (Int.toNat 1) (ByteArray.size (restS t (stO true t i)))) (Int.toNat (bAt (cutS (restS t (stO true t i)) 0 (Int.toNat 1)) (Int.toNat 0))) (ByteArray.size (cutS (restS t (stO true t i)) (Int.toNat 1) (ByteArray.size (restS t (stO true t i)))))) = t.size - o1 := by rw [y2, restS_size]
      have y3 : (cutS (cutS (cutS (restS t (stO true t i)) (Int.toNat 1) (ByteArray.size (restS t (stO true t i)))) (Int.toNat (bAt (cutS (restS t (stO true t i)) 0 (Int.toNat 1)) (Int.toNat 0))) (ByteArray.size (cutS (restS t (stO true t i)) (Int.toNat 1) (ByteArray.size (restS t (stO true t i)))))) (Int.toNat 1) (ByteArray.size (cutS (cutS (restS t (stO true t i)) (Int.toNat 1) (ByteArray.size (restS t (stO true t i)))) (Int.toNat (bAt (cutS (restS t (stO true t i)) 0 (Int.toNat 1)) (Int.toNat 0))) (ByteArray.size (cutS (restS t (stO true t i)) (Int.toNat 1) (ByteArray.size (restS t (stO true t i)))))))) = restS t (o1 + 1) := by rw [y2]; exact cut_ext t o1 1
      have s3 : ByteArray.size (cutS (cutS (cutS (restS t (stO true t i)) (Int.toNat 1) (ByteArray.size (restS t (stO true t i)))) (Int.toNat (bAt (cutS (restS t (stO true t i)) 0 (Int.toNat 1)) (Int.toNat 0))) (ByteArray.size (cutS (restS t (stO true t i)) (Int.toNat 1) (ByteArray.size (restS t (stO true t i)))))) (Int.toNat 1) (ByteArray.size (cutS (cutS (restS t (stO true t i)) (Int.toNat 1) (ByteArray.size (restS t (stO true t i)))) (Int.toNat (bAt (cutS (restS t (stO true t i)) 0 (Int.toNat 1)) (Int.toNat 0))) (ByteArray.size (cutS (restS t (stO true t i)) (Int.toNat 1) (ByteArray.size (restS t (stO true t i)))))))) = t.size - (o1 + 1) := by rw [y3, restS_size]
      by_cases h2 : txP t o1
      · have hs : runP true t (i + 1) = some (stK true t i ++ [txS t (stO true t i)], stX true t i ++ [txS t o1], stC true t i, o1 + 1 + lenP t o1) := by
          rw [runP_succ, hst]
          rw [← ho1] at h2 ⊢
          exact stepP_leaf ⟨g1, g2⟩ h2
        obtain ⟨hK, hX, hC, hO⟩ := st_of hs
        dsimp only at hK hX hC hO
        have ha' : (runP true t (i + 1)).isSome = true := by rw [hs]; rfl
        obtain ⟨g3, g4⟩ := h2
        have x1 : (bAt (cutS (cutS (cutS (restS t (stO true t i)) (Int.toNat 1) (ByteArray.size (restS t (stO true t i)))) (Int.toNat (bAt (cutS (restS t (stO true t i)) 0 (Int.toNat 1)) (Int.toNat 0))) (ByteArray.size (cutS (restS t (stO true t i)) (Int.toNat 1) (ByteArray.size (restS t (stO true t i)))))) 0 (Int.toNat 1)) (Int.toNat 0)) = (lenP t o1 : Int) := by rw [y2]; exact cut_len t o1 g3
        have k1 : (cutS (cutS (cutS (cutS (restS t (stO true t i)) (Int.toNat 1) (ByteArray.size (restS t (stO true t i)))) (Int.toNat (bAt (cutS (restS t (stO true t i)) 0 (Int.toNat 1)) (Int.toNat 0))) (ByteArray.size (cutS (restS t (stO true t i)) (Int.toNat 1) (ByteArray.size (restS t (stO true t i)))))) (Int.toNat 1) (ByteArray.size (cutS (cutS (restS t (stO true t i)) (Int.toNat 1) (ByteArray.size (restS t (stO true t i)))) (Int.toNat (bAt (cutS (restS t (stO true t i)) 0 (Int.toNat 1)) (Int.toNat 0))) (ByteArray.size (cutS (restS t (stO true t i)) (Int.toNat 1) (ByteArray.size (restS t (stO true t i)))))))) 0 (Int.toNat (bAt (cutS (cutS (cutS (restS t (stO true t i)) (Int.toNat 1) (ByteArray.size (restS t (stO true t i)))) (Int.toNat (bAt (cutS (restS t (stO true t i)) 0 (Int.toNat 1)) (Int.toNat 0))) (ByteArray.size (cutS (restS t (stO true t i)) (Int.toNat 1) (ByteArray.size (restS t (stO true t i)))))) 0 (Int.toNat 1)) (Int.toNat 0)))) = txS t o1 := by rw [x1, y3]; exact cut_cut t (o1 + 1) (lenP t o1) g4
        have m4 := x1
        have y4 : (cutS (cutS (cutS (cutS (restS t (stO true t i)) (Int.toNat 1) (ByteArray.size (restS t (stO true t i)))) (Int.toNat (bAt (cutS (restS t (stO true t i)) 0 (Int.toNat 1)) (Int.toNat 0))) (ByteArray.size (cutS (restS t (stO true t i)) (Int.toNat 1) (ByteArray.size (restS t (stO true t i)))))) (Int.toNat 1) (ByteArray.size (cutS (cutS (restS t (stO true t i)) (Int.toNat 1) (ByteArray.size (restS t (stO true t i)))) (Int.toNat (bAt (cutS (restS t (stO true t i)) 0 (Int.toNat 1)) (Int.toNat 0))) (ByteArray.size (cutS (restS t (stO true t i)) (Int.toNat 1) (ByteArray.size (restS t (stO true t i)))))))) (Int.toNat (bAt (cutS (cutS (cutS (restS t (stO true t i)) (Int.toNat 1) (ByteArray.size (restS t (stO true t i)))) (Int.toNat (bAt (cutS (restS t (stO true t i)) 0 (Int.toNat 1)) (Int.toNat 0))) (ByteArray.size (cutS (restS t (stO true t i)) (Int.toNat 1) (ByteArray.size (restS t (stO true t i)))))) 0 (Int.toNat 1)) (Int.toNat 0))) (ByteArray.size (cutS (cutS (cutS (restS t (stO true t i)) (Int.toNat 1) (ByteArray.size (restS t (stO true t i)))) (Int.toNat (bAt (cutS (restS t (stO true t i)) 0 (Int.toNat 1)) (Int.toNat 0))) (ByteArray.size (cutS (restS t (stO true t i)) (Int.toNat 1) (ByteArray.size (restS t (stO true t i)))))) (Int.toNat 1) (ByteArray.size (cutS (cutS (restS t (stO true t i)) (Int.toNat 1) (ByteArray.size (restS t (stO true t i)))) (Int.toNat (bAt (cutS (restS t (stO true t i)) 0 (Int.toNat 1)) (Int.toNat 0))) (ByteArray.size (cutS (restS t (stO true t i)) (Int.toNat 1) (ByteArray.size (restS t (stO true t i)))))))))) = restS t (o1 + 1 + lenP t o1) := by rw [x1, y3]; exact cut_ext t (o1 + 1) (lenP t o1)
        repeat' ((conv => whnf); first | (with_reducible first | (refine W1.o ?_; constructor) | rfl | exact castL_self _ _) | ((with_reducible refine V.same_t ?_); exact rfl) | ((with_reducible refine andB_room ?_ ?_ ?_); (· kernel_rfl); (· (first | omega | (simp only [lens] <;> omega)))) | ((with_reducible refine W2.o ?_; constructor); · (first | (with_reducible assumption) | (first | omega | (simp only [lens] <;> omega)))) | ((with_reducible refine W3.o ?_; constructor); · (first | (with_reducible assumption) | (first | omega | (simp only [lens] <;> omega)))) | ((with_reducible refine W4.o ?_; constructor); · (first | (with_reducible first | assumption | exact decide_eq_true rfl | exact sEq_self _) | ((with_reducible refine eqOK_i ?_); kernel_rfl))) | ((with_reducible refine iteB_f ?_ ?_); · (first | (with_reducible first | assumption | exact decide_eq_true rfl | exact sEq_self _) | ((with_reducible refine eqOK_i ?_); kernel_rfl))) | (refine ⟨⟨i + 1, hlt, ha'⟩, ?_, rfl, ?_⟩) | (with_reducible refine CD.wk_au ?_) | (with_reducible refine W5.o ?_; constructor) | ((with_reducible refine W6.o ?_; constructor) <;> intro hB))
        all_goals ((conv => whnf); (try dsimp only); (try simp only [Nat.succ_eq_add_one, Nat.le_eq, castL_self]); (try omega))
        all_goals (try (first | omega | (simp only [lens] <;> omega)))
        all_goals first
          | omega
          | (rw [hC]; done)
          | (rw [hX]; done)
          | (rw [hO, y4]; done)
          | (rw [hC]; exact Nat.le_refl _)
          | (rw [hX]; exact Nat.le_refl _)
          | (simp only [hK, hX, hC, lens] <;> omega)
          | (rw [hK, k0, seg_all _ rfl]; rfl)
          | (rw [hX, k1, seg_all _ rfl]; rfl)
          | (rw [hC, ← m4, seg_all _ rfl, seg_one]; done)
          | trace_state
      · have hn : runP true t (i + 1) = none := by rw [runP_succ, hst]; exact stepP_no2 (by rw [ho1]; exact h2)
        have hk : okB true t cnt = false := by rw [okB_eq, runP_none hn hlt]; rfl
        by_cases g3 : o1 + 1 ≤ t.size
        · have g4 : ¬ o1 + 1 + lenP t o1 ≤ t.size := fun h => h2 ⟨g3, h⟩
          have x1 : (bAt (cutS (cutS (cutS (restS t (stO true t i)) (Int.toNat 1) (ByteArray.size (restS t (stO true t i)))) (Int.toNat (bAt (cutS (restS t (stO true t i)) 0 (Int.toNat 1)) (Int.toNat 0))) (ByteArray.size (cutS (restS t (stO true t i)) (Int.toNat 1) (ByteArray.size (restS t (stO true t i)))))) 0 (Int.toNat 1)) (Int.toNat 0)) = (lenP t o1 : Int) := by rw [y2]; exact cut_len t o1 g3
          repeat' ((conv => whnf); first | (with_reducible first | (refine W1.o ?_; constructor) | rfl | exact castL_self _ _) | ((with_reducible refine V.same_t ?_); exact rfl) | ((with_reducible refine andB_room ?_ ?_ ?_); (· kernel_rfl); (· (first | omega | (simp only [lens] <;> omega)))) | ((with_reducible refine W2.o ?_; constructor); · (first | (with_reducible assumption) | (first | omega | (simp only [lens] <;> omega)))) | ((with_reducible refine W3.o ?_; constructor); · (first | (with_reducible assumption) | (first | omega | (simp only [lens] <;> omega)))) | ((with_reducible refine W4.o ?_; constructor); · (first | (with_reducible first | assumption | exact decide_eq_true rfl | exact sEq_self _) | ((with_reducible refine eqOK_i ?_); kernel_rfl))) | ((with_reducible refine iteB_f ?_ ?_); · (first | (with_reducible first | assumption | exact decide_eq_true rfl | exact sEq_self _) | ((with_reducible refine eqOK_i ?_); kernel_rfl))) | (with_reducible refine CD.wk_au ?_) | (with_reducible refine W5.o ?_; constructor) | ((with_reducible refine W6.o ?_; constructor) <;> intro hB))
          all_goals ((conv => whnf); (try dsimp only); (try simp only [Nat.succ_eq_add_one, Nat.le_eq, castL_self]); (try omega))
          all_goals (try (first | omega | (simp only [lens] <;> omega)))
          all_goals trace_state
        · repeat' ((conv => whnf); first | (with_reducible first | (refine W1.o ?_; constructor) | rfl | exact castL_self _ _) | ((with_reducible refine V.same_t ?_); exact rfl) | ((with_reducible refine andB_room ?_ ?_ ?_); (· kernel_rfl); (· (first | omega | (simp only [lens] <;> omega)))) | ((with_reducible refine W2.o ?_; constructor); · (first | (with_reducible assumption) | (first | omega | (simp only [lens] <;> omega)))) | ((with_reducible refine W3.o ?_; constructor); · (first | (with_reducible assumption) | (first | omega | (simp only [lens] <;> omega)))) | ((with_reducible refine W4.o ?_; constructor); · (first | (with_reducible first | assumption | exact decide_eq_true rfl | exact sEq_self _) | ((with_reducible refine eqOK_i ?_); kernel_rfl))) | ((with_reducible refine iteB_f ?_ ?_); · (first | (with_reducible first | assumption | exact decide_eq_true rfl | exact sEq_self _) | ((with_reducible refine eqOK_i ?_); kernel_rfl))) | (with_reducible refine CD.wk_au ?_) | (with_reducible refine W5.o ?_; constructor) | ((with_reducible refine W6.o ?_; constructor) <;> intro hB))
          all_goals ((conv => whnf); (try dsimp only); (try simp only [Nat.succ_eq_add_one, Nat.le_eq, castL_self]); (try omega))
          all_goals (try (first | omega | (simp only [lens] <;> omega)))
          all_goals trace_state
    · have hn : runP true t (i + 1) = none := by rw [runP_succ, hst]; exact stepP_no1 h1
      have hk : okB true t cnt = false := by rw [okB_eq, runP_none hn hlt]; rfl
      by_cases g1 : (stO true t i) + 1 ≤ t.size
      · have g2 : ¬ (stO true t i) + 1 + lenP t (stO true t i) ≤ t.size := fun h => h1 ⟨g1, h⟩
        have x0 : (bAt (cutS (restS t (stO true t i)) 0 (Int.toNat 1)) (Int.toNat 0)) = (lenP t (stO true t i) : Int) := cut_len t (stO true t i) g1
        repeat' ((conv => whnf); first | (with_reducible first | (refine W1.o ?_; constructor) | rfl | exact castL_self _ _) | ((with_reducible refine V.same_t ?_); exact rfl) | ((with_reducible refine andB_room ?_ ?_ ?_); (· kernel_rfl); (· (first | omega | (simp only [lens] <;> omega)))) | ((with_reducible refine W2.o ?_; constructor); · (first | (with_reducible assumption) | (first | omega | (simp only [lens] <;> omega)))) | ((with_reducible refine W3.o ?_; constructor); · (first | (with_reducible assumption) | (first | omega | (simp only [lens] <;> omega)))) | ((with_reducible refine W4.o ?_; constructor); · (first | (with_reducible first | assumption | exact decide_eq_true rfl | exact sEq_self _) | ((with_reducible refine eqOK_i ?_); kernel_rfl))) | ((with_reducible refine iteB_f ?_ ?_); · (first | (with_reducible first | assumption | exact decide_eq_true rfl | exact sEq_self _) | ((with_reducible refine eqOK_i ?_); kernel_rfl))) | (with_reducible refine CD.wk_au ?_) | (with_reducible refine W5.o ?_; constructor) | ((with_reducible refine W6.o ?_; constructor) <;> intro hB))
        all_goals ((conv => whnf); (try dsimp only); (try simp only [Nat.succ_eq_add_one, Nat.le_eq, castL_self]); (try omega))
        all_goals (try (first | omega | (simp only [lens] <;> omega)))
        all_goals trace_state
      · repeat' ((conv => whnf); first | (with_reducible first | (refine W1.o ?_; constructor) | rfl | exact castL_self _ _) | ((with_reducible refine V.same_t ?_); exact rfl) | ((with_reducible refine andB_room ?_ ?_ ?_); (· kernel_rfl); (· (first | omega | (simp only [lens] <;> omega)))) | ((with_reducible refine W2.o ?_; constructor); · (first | (with_reducible assumption) | (first | omega | (simp only [lens] <;> omega)))) | ((with_reducible refine W3.o ?_; constructor); · (first | (with_reducible assumption) | (first | omega | (simp only [lens] <;> omega)))) | ((with_reducible refine W4.o ?_; constructor); · (first | (with_reducible first | assumption | exact decide_eq_true rfl | exact sEq_self _) | ((with_reducible refine eqOK_i ?_); kernel_rfl))) | ((with_reducible refine iteB_f ?_ ?_); · (first | (with_reducible first | assumption | exact decide_eq_true rfl | exact sEq_self _) | ((with_reducible refine eqOK_i ?_); kernel_rfl))) | (with_reducible refine CD.wk_au ?_) | (with_reducible refine W5.o ?_; constructor) | ((with_reducible refine W6.o ?_; constructor) <;> intro hB))
        all_goals ((conv => whnf); (try dsimp only); (try simp only [Nat.succ_eq_add_one, Nat.le_eq, castL_self]); (try omega))
        all_goals (try (first | omega | (simp only [lens] <;> omega)))
        all_goals trace_state
  · have he : i = cnt := Nat.le_antisymm hi hge
    subst he
    have hk : okB true t i = true := by rw [okB_eq]; exact ha
    repeat' ((conv => whnf); first | (with_reducible first | (refine W1.o ?_; constructor) | rfl | exact castL_self _ _) | ((with_reducible refine V.same_t ?_); exact rfl) | ((with_reducible refine andB_room ?_ ?_ ?_); (· kernel_rfl); (· (first | omega | (simp only [lens] <;> omega)))) | ((with_reducible refine W2.o ?_; constructor); · (first | (with_reducible assumption) | (first | omega | (simp only [lens] <;> omega)))) | ((with_reducible refine W3.o ?_; constructor); · (first | (with_reducible assumption) | (first | omega | (simp only [lens] <;> omega)))) | ((with_reducible refine W4.o ?_; constructor); · (first | (with_reducible first | assumption | exact decide_eq_true rfl | exact sEq_self _) | ((with_reducible refine eqOK_i ?_); kernel_rfl))) | ((with_reducible refine iteB_f ?_ ?_); · (first | (with_reducible first | assumption | exact decide_eq_true rfl | exact sEq_self _) | ((with_reducible refine eqOK_i ?_); kernel_rfl))) | (with_reducible refine CD.wk_au ?_) | (with_reducible refine W5.o ?_; constructor) | ((with_reducible refine W6.o ?_; constructor) <;> intro hB))
    all_goals ((conv => whnf); (try dsimp only); (try simp only [Nat.succ_eq_add_one, Nat.le_eq, castL_self]); (try omega))
    all_goals (try (first | omega | (simp only [lens] <;> omega)))
    all_goals trace_state
theorem dc_knot (s t : ByteArray) (cnt : Nat) (ht : t.size = 252) (hc : cnt ≤ 255) (N : Nat) : LpD.ok Try.prog N 0 (bodyOf Try.prog 10) ⟨12, [], dcC false s t cnt 0, dcO false s t cnt⟩ := by
  refine LpD.ok_one (b := bodyAt Try.prog 10 12) rfl (loop_W tabPgI_ok (fuel := 3) (d := 6) (X := { i : Nat // i ≤ cnt ∧ (runP false t i).isSome = true }) (fun x => dcC false s t cnt x.1) (fun x => cnt - x.1)
    (fun _ => dcO false s t cnt) (fun _ => noLpW) (fun _ => noLp) (fun _ => noLp_ad) (fun _ => noLp_ok _) ?_ ⟨0, Nat.zero_le _, by rw [runP_0]; rfl⟩)
  rintro ⟨i, hi, ha⟩
  dsimp only
  rcases Nat.lt_or_ge i cnt with hlt | hge
  · have hst := runP_st4 ha
    obtain ⟨q1, q2, q3, q4, q5⟩ := runP_in (by omega) i hst
    dsimp only at q1 q2 q3 q4 q5
    have s0 : ByteArray.size (restS t (stO false t i)) = t.size - (stO false t i) := restS_size t (stO false t i)
    have y1 : (cutS (restS t (stO false t i)) (Int.toNat 1) (ByteArray.size (restS t (stO false t i)))) = restS t ((stO false t i) + 1) := cut_ext t (stO false t i) 1
    have s1 : ByteArray.size (cutS (restS t (stO false t i)) (Int.toNat 1) (ByteArray.size (restS t (stO false t i)))) = t.size - ((stO false t i) + 1) := by rw [y1, restS_size]
    have hl0 := lenP_lt t (stO false t i)
    by_cases h1 : txP t (stO false t i)
    · obtain ⟨g1, g2⟩ := h1
      have x0 : (bAt (cutS (restS t (stO false t i)) 0 (Int.toNat 1)) (Int.toNat 0)) = (lenP t (stO false t i) : Int) := cut_len t (stO false t i) g1
      obtain ⟨o1, ho1⟩ : ∃ o1, (stO false t i) + 1 + lenP t (stO false t i) = o1 := ⟨_, rfl⟩
      have y2 : (cutS (cutS (restS t (stO false t i)) (Int.toNat 1) (ByteArray.size (restS t (stO false t i)))) (Int.toNat (bAt (cutS (restS t (stO false t i)) 0 (Int.toNat 1)) (Int.toNat 0))) (ByteArray.size (cutS (restS t (stO false t i)) (Int.toNat 1) (ByteArray.size (restS t (stO false t i)))))) = restS t o1 := by rw [x0, y1, ← ho1]; exact cut_ext t ((stO false t i) + 1) (lenP t (stO false t i))
      have k0 : (cutS (cutS (restS t (stO false t i)) (Int.toNat 1) (ByteArray.size (restS t (stO false t i)))) 0 (Int.toNat (bAt (cutS (restS t (stO false t i)) 0 (Int.toNat 1)) (Int.toNat 0)))) = txS t (stO false t i) := by rw [x0, y1]; exact cut_cut t ((stO false t i) + 1) (lenP t (stO false t i)) g2
      have hl1 := lenP_lt t o1
      have s2 : ByteArray.size (cutS (cutS (restS t (stO false t i)) (Int.toNat 1) (ByteArray.size (restS t (stO false t i)))) (Int.toNat (bAt (cutS (restS t (stO false t i)) 0 (Int.toNat 1)) (Int.toNat 0))) (ByteArray.size (cutS (restS t (stO false t i)) (Int.toNat 1) (ByteArray.size (restS t (stO false t i)))))) = t.size - o1 := by rw [y2, restS_size]
      by_cases h2 : o1 + 4 ≤ t.size
      · have hs : runP false t (i + 1) = some (stK false t i ++ [txS t (stO false t i)], stX false t i, stC false t i ++ [n4 t o1], o1 + 4) := by
          rw [runP_succ, hst]
          rw [← ho1] at h2 ⊢
          exact stepP_knot ⟨g1, g2⟩ h2
        obtain ⟨hK, hX, hC, hO⟩ := st_of hs
        dsimp only at hK hX hC hO
        have ha' : (runP false t (i + 1)).isSome = true := by rw [hs]; rfl
        have c0 : bAt (cutS (cutS (cutS (restS t (stO false t i)) (Int.toNat 1) (ByteArray.size (restS t (stO false t i)))) (Int.toNat (bAt (cutS (restS t (stO false t i)) 0 (Int.toNat 1)) (Int.toNat 0))) (ByteArray.size (cutS (restS t (stO false t i)) (Int.toNat 1) (ByteArray.size (restS t (stO false t i)))))) 0 (Int.toNat 4)) (Int.toNat 0) = bAt t o1 := by rw [y2]; exact cut_at t o1 4 0 h2 (by decide)
        have c1 : bAt (cutS (cutS (cutS (restS t (stO false t i)) (Int.toNat 1) (ByteArray.size (restS t (stO false t i)))) (Int.toNat (bAt (cutS (restS t (stO false t i)) 0 (Int.toNat 1)) (Int.toNat 0))) (ByteArray.size (cutS (restS t (stO false t i)) (Int.toNat 1) (ByteArray.size (restS t (stO false t i)))))) 0 (Int.toNat 4)) (Int.toNat 1) = bAt t (o1 + 1) := by rw [y2]; exact cut_at t o1 4 1 h2 (by decide)
        have c2 : bAt (cutS (cutS (cutS (restS t (stO false t i)) (Int.toNat 1) (ByteArray.size (restS t (stO false t i)))) (Int.toNat (bAt (cutS (restS t (stO false t i)) 0 (Int.toNat 1)) (Int.toNat 0))) (ByteArray.size (cutS (restS t (stO false t i)) (Int.toNat 1) (ByteArray.size (restS t (stO false t i)))))) 0 (Int.toNat 4)) (Int.toNat 2) = bAt t (o1 + 2) := by rw [y2]; exact cut_at t o1 4 2 h2 (by decide)
        have c3 : bAt (cutS (cutS (cutS (restS t (stO false t i)) (Int.toNat 1) (ByteArray.size (restS t (stO false t i)))) (Int.toNat (bAt (cutS (restS t (stO false t i)) 0 (Int.toNat 1)) (Int.toNat 0))) (ByteArray.size (cutS (restS t (stO false t i)) (Int.toNat 1) (ByteArray.size (restS t (stO false t i)))))) 0 (Int.toNat 4)) (Int.toNat 3) = bAt t (o1 + 3) := by rw [y2]; exact cut_at t o1 4 3 h2 (by decide)
        have k1 := c0
        have m4 : or4 (bAt (cutS (cutS (cutS (restS t (stO false t i)) (Int.toNat 1) (ByteArray.size (restS t (stO false t i)))) (Int.toNat (bAt (cutS (restS t (stO false t i)) 0 (Int.toNat 1)) (Int.toNat 0))) (ByteArray.size (cutS (restS t (stO false t i)) (Int.toNat 1) (ByteArray.size (restS t (stO false t i)))))) 0 (Int.toNat 4)) (Int.toNat 0)) (bAt (cutS (cutS (cutS (restS t (stO false t i)) (Int.toNat 1) (ByteArray.size (restS t (stO false t i)))) (Int.toNat (bAt (cutS (restS t (stO false t i)) 0 (Int.toNat 1)) (Int.toNat 0))) (ByteArray.size (cutS (restS t (stO false t i)) (Int.toNat 1) (ByteArray.size (restS t (stO false t i)))))) 0 (Int.toNat 4)) (Int.toNat 1)) (bAt (cutS (cutS (cutS (restS t (stO false t i)) (Int.toNat 1) (ByteArray.size (restS t (stO false t i)))) (Int.toNat (bAt (cutS (restS t (stO false t i)) 0 (Int.toNat 1)) (Int.toNat 0))) (ByteArray.size (cutS (restS t (stO false t i)) (Int.toNat 1) (ByteArray.size (restS t (stO false t i)))))) 0 (Int.toNat 4)) (Int.toNat 2)) (bAt (cutS (cutS (cutS (restS t (stO false t i)) (Int.toNat 1) (ByteArray.size (restS t (stO false t i)))) (Int.toNat (bAt (cutS (restS t (stO false t i)) 0 (Int.toNat 1)) (Int.toNat 0))) (ByteArray.size (cutS (restS t (stO false t i)) (Int.toNat 1) (ByteArray.size (restS t (stO false t i)))))) 0 (Int.toNat 4)) (Int.toNat 3)) = n4 t o1 := by rw [c0, c1, c2, c3]; rfl
        have y4 : (cutS (cutS (cutS (restS t (stO false t i)) (Int.toNat 1) (ByteArray.size (restS t (stO false t i)))) (Int.toNat (bAt (cutS (restS t (stO false t i)) 0 (Int.toNat 1)) (Int.toNat 0))) (ByteArray.size (cutS (restS t (stO false t i)) (Int.toNat 1) (ByteArray.size (restS t (stO false t i)))))) (Int.toNat 4) (ByteArray.size (cutS (cutS (restS t (stO false t i)) (Int.toNat 1) (ByteArray.size (restS t (stO false t i)))) (Int.toNat (bAt (cutS (restS t (stO false t i)) 0 (Int.toNat 1)) (Int.toNat 0))) (ByteArray.size (cutS (restS t (stO false t i)) (Int.toNat 1) (ByteArray.size (restS t (stO false t i)))))))) = restS t (o1 + 4) := by rw [y2]; exact cut_ext t o1 4
        repeat' ((conv => whnf); first | (with_reducible first | (refine W1.o ?_; constructor) | rfl | exact castL_self _ _) | ((with_reducible refine V.same_t ?_); exact rfl) | ((with_reducible refine andB_room ?_ ?_ ?_); (· kernel_rfl); (· (first | omega | (simp only [lens] <;> omega)))) | ((with_reducible refine W2.o ?_; constructor); · (first | (with_reducible assumption) | (first | omega | (simp only [lens] <;> omega)))) | ((with_reducible refine W3.o ?_; constructor); · (first | (with_reducible assumption) | (first | omega | (simp only [lens] <;> omega)))) | ((with_reducible refine W4.o ?_; constructor); · (first | (with_reducible first | assumption | exact decide_eq_true rfl | exact sEq_self _) | ((with_reducible refine eqOK_i ?_); kernel_rfl))) | ((with_reducible refine iteB_f ?_ ?_); · (first | (with_reducible first | assumption | exact decide_eq_true rfl | exact sEq_self _) | ((with_reducible refine eqOK_i ?_); kernel_rfl))) | (refine ⟨⟨i + 1, hlt, ha'⟩, ?_, rfl, ?_⟩) | (with_reducible refine CD.wk_au ?_) | (with_reducible refine W5.o ?_; constructor) | ((with_reducible refine W6.o ?_; constructor) <;> intro hB))
        all_goals ((conv => whnf); (try dsimp only); (try simp only [Nat.succ_eq_add_one, Nat.le_eq, castL_self]); (try omega))
        all_goals (try (first | omega | (simp only [lens] <;> omega)))
        all_goals first
          | omega
          | (rw [hC]; done)
          | (rw [hX]; done)
          | (rw [hO, y4]; done)
          | (rw [hC]; exact Nat.le_refl _)
          | (rw [hX]; exact Nat.le_refl _)
          | (simp only [hK, hX, hC, lens] <;> omega)
          | (rw [hK, k0, seg_all _ rfl]; rfl)
          | (rw [hX, k1, seg_all _ rfl]; rfl)
          | (rw [hC, ← m4, seg_all _ rfl, seg_one]; done)
          | trace_state
      · have hn : runP false t (i + 1) = none := by rw [runP_succ, hst]; exact stepP_no4 (by rw [ho1]; exact h2)
        have hk : okB false t cnt = false := by rw [okB_eq, runP_none hn hlt]; rfl
        repeat' ((conv => whnf); first | (with_reducible first | (refine W1.o ?_; constructor) | rfl | exact castL_self _ _) | ((with_reducible refine V.same_t ?_); exact rfl) | ((with_reducible refine andB_room ?_ ?_ ?_); (· kernel_rfl); (· (first | omega | (simp only [lens] <;> omega)))) | ((with_reducible refine W2.o ?_; constructor); · (first | (with_reducible assumption) | (first | omega | (simp only [lens] <;> omega)))) | ((with_reducible refine W3.o ?_; constructor); · (first | (with_reducible assumption) | (first | omega | (simp only [lens] <;> omega)))) | ((with_reducible refine W4.o ?_; constructor); · (first | (with_reducible first | assumption | exact decide_eq_true rfl | exact sEq_self _) | ((with_reducible refine eqOK_i ?_); kernel_rfl))) | ((with_reducible refine iteB_f ?_ ?_); · (first | (with_reducible first | assumption | exact decide_eq_true rfl | exact sEq_self _) | ((with_reducible refine eqOK_i ?_); kernel_rfl))) | (with_reducible refine CD.wk_au ?_) | (with_reducible refine W5.o ?_; constructor) | ((with_reducible refine W6.o ?_; constructor) <;> intro hB))
        all_goals ((conv => whnf); (try dsimp only); (try simp only [Nat.succ_eq_add_one, Nat.le_eq, castL_self]); (try omega))
        all_goals (try (first | omega | (simp only [lens] <;> omega)))
        all_goals trace_state
    · have hn : runP false t (i + 1) = none := by rw [runP_succ, hst]; exact stepP_no1 h1
      have hk : okB false t cnt = false := by rw [okB_eq, runP_none hn hlt]; rfl
      by_cases g1 : (stO false t i) + 1 ≤ t.size
      · have g2 : ¬ (stO false t i) + 1 + lenP t (stO false t i) ≤ t.size := fun h => h1 ⟨g1, h⟩
        have x0 : (bAt (cutS (restS t (stO false t i)) 0 (Int.toNat 1)) (Int.toNat 0)) = (lenP t (stO false t i) : Int) := cut_len t (stO false t i) g1
        repeat' ((conv => whnf); first | (with_reducible first | (refine W1.o ?_; constructor) | rfl | exact castL_self _ _) | ((with_reducible refine V.same_t ?_); exact rfl) | ((with_reducible refine andB_room ?_ ?_ ?_); (· kernel_rfl); (· (first | omega | (simp only [lens] <;> omega)))) | ((with_reducible refine W2.o ?_; constructor); · (first | (with_reducible assumption) | (first | omega | (simp only [lens] <;> omega)))) | ((with_reducible refine W3.o ?_; constructor); · (first | (with_reducible assumption) | (first | omega | (simp only [lens] <;> omega)))) | ((with_reducible refine W4.o ?_; constructor); · (first | (with_reducible first | assumption | exact decide_eq_true rfl | exact sEq_self _) | ((with_reducible refine eqOK_i ?_); kernel_rfl))) | ((with_reducible refine iteB_f ?_ ?_); · (first | (with_reducible first | assumption | exact decide_eq_true rfl | exact sEq_self _) | ((with_reducible refine eqOK_i ?_); kernel_rfl))) | (with_reducible refine CD.wk_au ?_) | (with_reducible refine W5.o ?_; constructor) | ((with_reducible refine W6.o ?_; constructor) <;> intro hB))
        all_goals ((conv => whnf); (try dsimp only); (try simp only [Nat.succ_eq_add_one, Nat.le_eq, castL_self]); (try omega))
        all_goals (try (first | omega | (simp only [lens] <;> omega)))
        all_goals trace_state
      · repeat' ((conv => whnf); first | (with_reducible first | (refine W1.o ?_; constructor) | rfl | exact castL_self _ _) | ((with_reducible refine V.same_t ?_); exact rfl) | ((with_reducible refine andB_room ?_ ?_ ?_); (· kernel_rfl); (· (first | omega | (simp only [lens] <;> omega)))) | ((with_reducible refine W2.o ?_; constructor); · (first | (with_reducible assumption) | (first | omega | (simp only [lens] <;> omega)))) | ((with_reducible refine W3.o ?_; constructor); · (first | (with_reducible assumption) | (first | omega | (simp only [lens] <;> omega)))) | ((with_reducible refine W4.o ?_; constructor); · (first | (with_reducible first | assumption | exact decide_eq_true rfl | exact sEq_self _) | ((with_reducible refine eqOK_i ?_); kernel_rfl))) | ((with_reducible refine iteB_f ?_ ?_); · (first | (with_reducible first | assumption | exact decide_eq_true rfl | exact sEq_self _) | ((with_reducible refine eqOK_i ?_); kernel_rfl))) | (with_reducible refine CD.wk_au ?_) | (with_reducible refine W5.o ?_; constructor) | ((with_reducible refine W6.o ?_; constructor) <;> intro hB))
        all_goals ((conv => whnf); (try dsimp only); (try simp only [Nat.succ_eq_add_one, Nat.le_eq, castL_self]); (try omega))
        all_goals (try (first | omega | (simp only [lens] <;> omega)))
        all_goals trace_state
  · have he : i = cnt := Nat.le_antisymm hi hge
    subst he
    have hk : okB false t i = true := by rw [okB_eq]; exact ha
    repeat' ((conv => whnf); first | (with_reducible first | (refine W1.o ?_; constructor) | rfl | exact castL_self _ _) | ((with_reducible refine V.same_t ?_); exact rfl) | ((with_reducible refine andB_room ?_ ?_ ?_); (· kernel_rfl); (· (first | omega | (simp only [lens] <;> omega)))) | ((with_reducible refine W2.o ?_; constructor); · (first | (with_reducible assumption) | (first | omega | (simp only [lens] <;> omega)))) | ((with_reducible refine W3.o ?_; constructor); · (first | (with_reducible assumption) | (first | omega | (simp only [lens] <;> omega)))) | ((with_reducible refine W4.o ?_; constructor); · (first | (with_reducible first | assumption | exact decide_eq_true rfl | exact sEq_self _) | ((with_reducible refine eqOK_i ?_); kernel_rfl))) | ((with_reducible refine iteB_f ?_ ?_); · (first | (with_reducible first | assumption | exact decide_eq_true rfl | exact sEq_self _) | ((with_reducible refine eqOK_i ?_); kernel_rfl))) | (with_reducible refine CD.wk_au ?_) | (with_reducible refine W5.o ?_; constructor) | ((with_reducible refine W6.o ?_; constructor) <;> intro hB))
    all_goals ((conv => whnf); (try dsimp only); (try simp only [Nat.succ_eq_add_one, Nat.le_eq, castL_self]); (try omega))
    all_goals (try (first | omega | (simp only [lens] <;> omega)))
    all_goals trace_state
end Go.Proofs.Ytlfhiophojahbaa
end

section
namespace Go.Proofs.Ytlfhiophojahbaa
open Go.Sym
set_option linter.unusedVariables false
set_option linter.unusedSimpArgs false
set_option maxRecDepth 100000
set_option maxHeartbeats 4000000

def leafT (t : ByteArray) : Bool := decide (bAt t 0 = 1)
def cntT (t : ByteArray) : Nat := lenP t 1
noncomputable def readP (s : ByteArray) : Prop := openI s = true ∧ s.size = 256 ∧ okB (leafT (openS s)) (openS s) (cntT (openS s)) = true
noncomputable def nodK (s : ByteArray) : List ByteArray := stK (leafT (openS s)) (openS s) (cntT (openS s))
noncomputable def nodX (s : ByteArray) : List ByteArray := stX (leafT (openS s)) (openS s) (cntT (openS s))
noncomputable def nodC (s : ByteArray) : List Int := stC (leafT (openS s)) (openS s) (cntT (openS s))
def decP (s : ByteArray) : Prop := readP s ∧ fitP (leafT (openS s)) (nodK s) (nodX s) (nodC s) ∧ encS (leafT (openS s)) (nodK s) (nodX s) (nodC s) = s
open Classical in
noncomputable def decL : ByteArray → Bool := hide fun s => if decP s then leafT (openS s) else false
open Classical in
noncomputable def decK : ByteArray → List ByteArray := hide fun s => if decP s then nodK s else []
open Classical in
noncomputable def decX : ByteArray → List ByteArray := hide fun s => if decP s then nodX s else []
open Classical in
noncomputable def decC : ByteArray → List Int := hide fun s => if decP s then nodC s else []
open Classical in
noncomputable def decE : ByteArray → Int := hide fun s => if decP s then 0 else 8
theorem dec_no {s : ByteArray} (h : ¬ decP s) : decL s = false ∧ decK s = [] ∧ decX s = [] ∧ decC s = [] ∧ decE s = 8 := by
  unfold decL decK decX decC decE
  rw [hide_eq, hide_eq, hide_eq, hide_eq, hide_eq]
  exact ⟨if_neg h, if_neg h, if_neg h, if_neg h, if_neg h⟩
theorem dec_yes {s : ByteArray} (h : decP s) : decL s = leafT (openS s) ∧ decK s = nodK s ∧ decX s = nodX s ∧ decC s = nodC s ∧ decE s = 0 := by
  unfold decL decK decX decC decE
  rw [hide_eq, hide_eq, hide_eq, hide_eq, hide_eq]
  exact ⟨if_pos h, if_pos h, if_pos h, if_pos h, if_pos h⟩
theorem nil_node {ρ : Env} : ∀ X, VRel ρ (.tup [.agg [.bool false, .nils, .nils, .nils], .int .i64 8]) X → VRel ρ (.tup [nodeV false [] [] [], .int .i64 8]) X :=
  tup_of (LRel.cons_of (node_rel rfl rfl rfl) fun _ h => h)
theorem decode_at (s : ByteArray) (hs : s.size ≤ 300) : PureAt Try.prog 10 [.str s] (.tup [nodeV (decL s) (decK s) (decX s) (decC s), .int .i64 (decE s)]) := by
  cases ho : openI s with
  | false =>
    have hn : ¬ decP s := fun h => by rw [h.1.1] at ho; cases ho
    obtain ⟨e1, e2, e3, e4, e5⟩ := dec_no hn
    rw [e1, e2, e3, e4, e5]
    refine PureAt.val (v := .tup [.agg [.bool false, .nils, .nils, .nils], .int .i64 8]) ?_ fun φ => nil_node
    refine pure_of_W0 (tab := tabPgI) (fuel := 3) (d := 6) tabPgI_ok ?_
    repeat' ((conv => whnf); first | (with_reducible first | (refine W1.o ?_; constructor) | rfl | exact castL_self _ _) | ((with_reducible refine V.same_t ?_); exact rfl) | ((with_reducible refine andB_room ?_ ?_ ?_); (· kernel_rfl); (· (first | omega | (simp only [lens] <;> omega)))) | ((with_reducible refine W2.o ?_; constructor); · (first | (with_reducible assumption) | (first | omega | (simp only [lens] <;> omega)))) | ((with_reducible refine W3.o ?_; constructor); · (first | (with_reducible assumption) | (first | omega | (simp only [lens] <;> omega)))) | ((with_reducible refine W4.o ?_; constructor); · (first | (with_reducible first | assumption | exact decide_eq_true rfl | exact sEq_self _) | ((with_reducible refine eqOK_i ?_); kernel_rfl) | (exact ho))) | ((with_reducible refine iteB_f ?_ ?_); · (first | (with_reducible first | assumption | exact decide_eq_true rfl | exact sEq_self _) | ((with_reducible refine eqOK_i ?_); kernel_rfl) | (exact ho))) | (with_reducible refine W5.o ?_; constructor) | ((with_reducible refine W6.o ?_; constructor) <;> intro hB))
    all_goals ((conv => whnf); (try dsimp only); (try simp only [Nat.succ_eq_add_one, Nat.le_eq, castL_self]); (try omega))
    all_goals (try (first | omega | (simp only [lens] <;> omega)))
    all_goals rfl
  | true =>
    have hz := openS_size s ho
    by_cases h6 : s.size = 256
    · have ht : (openS s).size = 252 := by omega
      have eT : openS s = restS (openS s) 0 := (restS_0 _).symm
      have p0 : (cutS (openS s) (Int.toNat 1) (ByteArray.size (openS s))) = restS (openS s) 1 := by
        have := cut_ext (openS s) 0 1
        rw [restS_0] at this
        exact this
      have p1 : (cutS (cutS (openS s) (Int.toNat 1) (ByteArray.size (openS s))) (Int.toNat 1) (ByteArray.size (cutS (openS s) (Int.toNat 1) (ByteArray.size (openS s))))) = restS (openS s) 2 := by rw [p0]; exact cut_ext (openS s) 1 1
      have sp0 : ByteArray.size (cutS (openS s) (Int.toNat 1) (ByteArray.size (openS s))) = 251 := by rw [p0, restS_size]; omega
      have a0 : (bAt (cutS (openS s) 0 (Int.toNat 1)) (Int.toNat 0)) = bAt (openS s) 0 := by
        have := cut_at (openS s) 0 1 0 (by omega) (by decide)
        rw [restS_0] at this
        exact this
      have a1 : (bAt (cutS (cutS (openS s) (Int.toNat 1) (ByteArray.size (openS s))) 0 (Int.toNat 1)) (Int.toNat 0)) = (cntT (openS s) : Int) := by rw [p0]; exact cut_len (openS s) 1 (by omega)
      have hcnt : cntT (openS s) ≤ 255 := by have := lenP_lt (openS s) 1; unfold cntT; omega
      by_cases hl : bAt (openS s) 0 = 1
      · have eL : leafT (openS s) = true := decide_eq_true hl
        rw [← a0] at hl
        have f0 : decide (@Eq Int (bAt (cutS (openS s) 0 (Int.toNat 1)) (Int.toNat 0)) 1) = true := decide_eq_true hl
        have hls : ∀ N, ∀ y ∈ [(⟨12, [(0, 0), (1, 1), (2, 2), (3, 3)], dcC true s (openS s) (cntT (openS s)) 0, dcO true s (openS s) (cntT (openS s))⟩ : LpD)], y.ok Try.prog N 0 (bodyOf Try.prog 10) := fun N y hy => by
          rw [List.mem_singleton.1 hy]
          exact dc_leaf s (openS s) (cntT (openS s)) ht hcnt N
        have r0 := runP_0 true (openS s)
        obtain ⟨i1, i2, i3, i4⟩ := st_of r0
        have y2 : (cutS (cutS (openS s) (Int.toNat 1) (ByteArray.size (openS s))) (Int.toNat 1) (ByteArray.size (cutS (openS s) (Int.toNat 1) (ByteArray.size (openS s))))) = restS (openS s) (stO true (openS s) 0) := by rw [i4]; exact p1
        have y5 := y2
        have z1 : (stK true (openS s) 0).length = 0 := by rw [i1]; rfl
        have z2 : (stX true (openS s) 0).length = 0 := by rw [i2]; rfl
        have z3 : (stC true (openS s) 0).length = 0 := by rw [i3]; rfl
        cases hk : okB true (openS s) (cntT (openS s)) with
        | false =>
          have hn : ¬ decP s := fun h => by
            have := h.1.2.2
            rw [eL, hk] at this
            cases this
          obtain ⟨e1, e2, e3, e4, e5⟩ := dec_no hn
          rw [e1, e2, e3, e4, e5]
          refine PureAt.val (v := .tup [.agg [.bool false, .nils, .nils, .nils], .int .i64 8]) ?_ fun φ => nil_node
          refine pure_of_loops tabPgI_ok (fuel := 3) (d := 6) _ hls ?_
          repeat' ((conv => whnf); first | (with_reducible first | (refine W1.o ?_; constructor) | rfl | exact castL_self _ _) | ((with_reducible refine V.same_t ?_); exact rfl) | ((with_reducible refine andB_room ?_ ?_ ?_); (· kernel_rfl); (· (first | omega | (simp only [lens] <;> omega)))) | ((with_reducible refine W2.o ?_; constructor); · (first | (with_reducible assumption) | (first | omega | (simp only [lens] <;> omega)))) | ((with_reducible refine W3.o ?_; constructor); · (first | (with_reducible assumption) | (first | omega | (simp only [lens] <;> omega)))) | ((with_reducible refine W4.o ?_; constructor); · (first | (with_reducible first | assumption | exact decide_eq_true rfl | exact sEq_self _) | ((with_reducible refine eqOK_i ?_); kernel_rfl) | (first | exact ho | exact f0))) | ((with_reducible refine iteB_f ?_ ?_); · (first | (with_reducible first | assumption | exact decide_eq_true rfl | exact sEq_self _) | ((with_reducible refine eqOK_i ?_); kernel_rfl) | (first | exact ho | exact f0))) | (with_reducible refine CD.wk_au ?_) | (with_reducible refine W5.o ?_; constructor) | ((with_reducible refine W6.o ?_; constructor) <;> intro hB))
          all_goals ((conv => whnf); (try dsimp only); (try simp only [Nat.succ_eq_add_one, Nat.le_eq, castL_self]); (try omega))
          all_goals (try (first | omega | (simp only [lens] <;> omega)))
          all_goals first
            | rfl
            | exact z1
            | exact z2
            | exact z3
            | exact y2
            | exact y5
            | exact f0
            | omega
            | trace_state
        | true =>
          have hsome : (runP true (openS s) (cntT (openS s))).isSome = true := by rw [← okB_eq]; exact hk
          obtain ⟨q1, q2, q3, q4, q5⟩ := runP_in (by omega) _ (runP_st4 hsome)
          dsimp only at q1 q2 q3 q4 q5
          have eK : (seg (stK true (openS s) (cntT (openS s))) 0 (List.length (stK true (openS s) (cntT (openS s))))) = stK true (openS s) (cntT (openS s)) := seg_all _ rfl
          have eX : (seg (stX true (openS s) (cntT (openS s))) 0 (List.length (stX true (openS s) (cntT (openS s))))) = stX true (openS s) (cntT (openS s)) := seg_all _ rfl
          have eC : (seg (stC true (openS s) (cntT (openS s))) 0 (List.length (stC true (openS s) (cntT (openS s))))) = stC true (openS s) (cntT (openS s)) := seg_all _ rfl
          have l1 : List.length (seg (stK true (openS s) (cntT (openS s))) 0 (List.length (stK true (openS s) (cntT (openS s))))) ≤ 4611686018427387904 := by rw [eK]; omega
          have l2 : List.length (seg (stX true (openS s) (cntT (openS s))) 0 (List.length (stX true (openS s) (cntT (openS s))))) ≤ 4611686018427387904 := by rw [eX]; omega
          have l3 : List.length (seg (stC true (openS s) (cntT (openS s))) 0 (List.length (stC true (openS s) (cntT (openS s))))) ≤ 4611686018427387904 := by rw [eC]; omega
          have dK : nodK s = stK true (openS s) (cntT (openS s)) := by unfold nodK; rw [eL]
          have dX : nodX s = stX true (openS s) (cntT (openS s)) := by unfold nodX; rw [eL]
          have dC : nodC s = stC true (openS s) (cntT (openS s)) := by unfold nodC; rw [eL]
          by_cases hf : fitP true (seg (stK true (openS s) (cntT (openS s))) 0 (List.length (stK true (openS s) (cntT (openS s))))) (seg (stX true (openS s) (cntT (openS s))) 0 (List.length (stX true (openS s) (cntT (openS s))))) (seg (stC true (openS s) (cntT (openS s))) 0 (List.length (stC true (openS s) (cntT (openS s)))))
          · have g1 := encE_0 hf
            by_cases he : encS true (seg (stK true (openS s) (cntT (openS s))) 0 (List.length (stK true (openS s) (cntT (openS s))))) (seg (stX true (openS s) (cntT (openS s))) 0 (List.length (stX true (openS s) (cntT (openS s))))) (seg (stC true (openS s) (cntT (openS s))) 0 (List.length (stC true (openS s) (cntT (openS s))))) = s
            · have g2 : sEq (encS true (seg (stK true (openS s) (cntT (openS s))) 0 (List.length (stK true (openS s) (cntT (openS s))))) (seg (stX true (openS s) (cntT (openS s))) 0 (List.length (stX true (openS s) (cntT (openS s))))) (seg (stC true (openS s) (cntT (openS s))) 0 (List.length (stC true (openS s) (cntT (openS s)))))) s = true := decide_eq_true he
              have hd : decP s := by
                refine ⟨⟨ho, h6, by rw [eL]; exact hk⟩, ?_, ?_⟩
                · rw [eL, dK, dX, dC, ← eK, ← eX, ← eC]; exact hf
                · rw [eL, dK, dX, dC, ← eK, ← eX, ← eC]; exact he
              obtain ⟨e1, e2, e3, e4, e5⟩ := dec_yes hd
              rw [e1, e2, e3, e4, e5, eL, dK, dX, dC]
              refine pure_of_loops tabPgI_ok (fuel := 3) (d := 6) _ hls ?_
              repeat' ((conv => whnf); first | (with_reducible first | (refine W1.o ?_; constructor) | rfl | exact castL_self _ _) | ((with_reducible refine V.same_t ?_); exact rfl) | ((with_reducible refine andB_room ?_ ?_ ?_); (· kernel_rfl); (· (first | omega | (simp only [lens] <;> omega)))) | ((with_reducible refine W2.o ?_; constructor); · (first | (with_reducible assumption) | (first | omega | (simp only [lens] <;> omega)))) | ((with_reducible refine W3.o ?_; constructor); · (first | (with_reducible assumption) | (first | omega | (simp only [lens] <;> omega)))) | ((with_reducible refine W4.o ?_; constructor); · (first | (with_reducible first | assumption | exact decide_eq_true rfl | exact sEq_self _) | ((with_reducible refine eqOK_i ?_); kernel_rfl) | (first | exact ho | exact f0 | exact g2))) | ((with_reducible refine iteB_f ?_ ?_); · (first | (with_reducible first | assumption | exact decide_eq_true rfl | exact sEq_self _) | ((with_reducible refine eqOK_i ?_); kernel_rfl) | (first | exact ho | exact f0 | exact g2))) | (with_reducible refine CD.wk_au ?_) | (with_reducible refine W5.o ?_; constructor) | ((with_reducible refine W6.o ?_; constructor) <;> intro hB))
              all_goals ((conv => whnf); (try dsimp only); (try simp only [Nat.succ_eq_add_one, Nat.le_eq, castL_self]); (try omega))
              all_goals (try (first | omega | (simp only [lens] <;> omega)))
              all_goals first
                | rfl
                | exact z1
                | exact z2
                | exact z3
                | exact y2
                | exact y5
                | exact f0
                | omega
                | (rw [eK, eX, eC])
                | trace_state
            · have g2 : sEq (encS true (seg (stK true (openS s) (cntT (openS s))) 0 (List.length (stK true (openS s) (cntT (openS s))))) (seg (stX true (openS s) (cntT (openS s))) 0 (List.length (stX true (openS s) (cntT (openS s))))) (seg (stC true (openS s) (cntT (openS s))) 0 (List.length (stC true (openS s) (cntT (openS s)))))) s = false := decide_eq_false he
              have hn : ¬ decP s := fun h => he (by
                have := h.2.2
                rw [eL, dK, dX, dC, ← eK, ← eX, ← eC] at this
                exact this)
              obtain ⟨e1, e2, e3, e4, e5⟩ := dec_no hn
              rw [e1, e2, e3, e4, e5]
              refine PureAt.val (v := .tup [.agg [.bool false, .nils, .nils, .nils], .int .i64 8]) ?_ fun φ => nil_node
              refine pure_of_loops tabPgI_ok (fuel := 3) (d := 6) _ hls ?_
              repeat' ((conv => whnf); first | (with_reducible first | (refine W1.o ?_; constructor) | rfl | exact castL_self _ _) | ((with_reducible refine V.same_t ?_); exact rfl) | ((with_reducible refine andB_room ?_ ?_ ?_); (· kernel_rfl); (· (first | omega | (simp only [lens] <;> omega)))) | ((with_reducible refine W2.o ?_; constructor); · (first | (with_reducible assumption) | (first | omega | (simp only [lens] <;> omega)))) | ((with_reducible refine W3.o ?_; constructor); · (first | (with_reducible assumption) | (first | omega | (simp only [lens] <;> omega)))) | ((with_reducible refine W4.o ?_; constructor); · (first | (with_reducible first | assumption | exact decide_eq_true rfl | exact sEq_self _) | ((with_reducible refine eqOK_i ?_); kernel_rfl) | (first | exact ho | exact f0 | exact g2))) | ((with_reducible refine iteB_f ?_ ?_); · (first | (with_reducible first | assumption | exact decide_eq_true rfl | exact sEq_self _) | ((with_reducible refine eqOK_i ?_); kernel_rfl) | (first | exact ho | exact f0 | exact g2))) | (with_reducible refine CD.wk_au ?_) | (with_reducible refine W5.o ?_; constructor) | ((with_reducible refine W6.o ?_; constructor) <;> intro hB))
              all_goals ((conv => whnf); (try dsimp only); (try simp only [Nat.succ_eq_add_one, Nat.le_eq, castL_self]); (try omega))
              all_goals (try (first | omega | (simp only [lens] <;> omega)))
              all_goals first
                | rfl
                | exact z1
                | exact z2
                | exact z3
                | exact y2
                | exact y5
                | exact f0
                | omega
                | trace_state
          · have g1 : ¬ @Eq Int (encE true (seg (stK true (openS s) (cntT (openS s))) 0 (List.length (stK true (openS s) (cntT (openS s))))) (seg (stX true (openS s) (cntT (openS s))) 0 (List.length (stX true (openS s) (cntT (openS s))))) (seg (stC true (openS s) (cntT (openS s))) 0 (List.length (stC true (openS s) (cntT (openS s)))))) 0 := by
              by_cases hm : mayP true (seg (stK true (openS s) (cntT (openS s))) 0 (List.length (stK true (openS s) (cntT (openS s))))) (seg (stX true (openS s) (cntT (openS s))) 0 (List.length (stX true (openS s) (cntT (openS s))))) (seg (stC true (openS s) (cntT (openS s))) 0 (List.length (stC true (openS s) (cntT (openS s)))))
              · rw [encE_3 hm (fun h => hf ⟨hm, h⟩)]; decide
              · rw [encE_2 hm]; decide
            have hn : ¬ decP s := fun h => hf (by
              have := h.2.1
              rw [eL, dK, dX, dC, ← eK, ← eX, ← eC] at this
              exact this)
            obtain ⟨e1, e2, e3, e4, e5⟩ := dec_no hn
            rw [e1, e2, e3, e4, e5]
            refine PureAt.val (v := .tup [.agg [.bool false, .nils, .nils, .nils], .int .i64 8]) ?_ fun φ => nil_node
            refine pure_of_loops tabPgI_ok (fuel := 3) (d := 6) _ hls ?_
            repeat' ((conv => whnf); first | (with_reducible first | (refine W1.o ?_; constructor) | rfl | exact castL_self _ _) | ((with_reducible refine V.same_t ?_); exact rfl) | ((with_reducible refine andB_room ?_ ?_ ?_); (· kernel_rfl); (· (first | omega | (simp only [lens] <;> omega)))) | ((with_reducible refine W2.o ?_; constructor); · (first | (with_reducible assumption) | (first | omega | (simp only [lens] <;> omega)))) | ((with_reducible refine W3.o ?_; constructor); · (first | (with_reducible assumption) | (first | omega | (simp only [lens] <;> omega)))) | ((with_reducible refine W4.o ?_; constructor); · (first | (with_reducible first | assumption | exact decide_eq_true rfl | exact sEq_self _) | ((with_reducible refine eqOK_i ?_); kernel_rfl) | (first | exact ho | exact f0))) | ((with_reducible refine iteB_f ?_ ?_); · (first | (with_reducible first | assumption | exact decide_eq_true rfl | exact sEq_self _) | ((with_reducible refine eqOK_i ?_); kernel_rfl) | (first | exact ho | exact f0))) | (with_reducible refine CD.wk_au ?_) | (with_reducible refine W5.o ?_; constructor) | ((with_reducible refine W6.o ?_; constructor) <;> intro hB))
            all_goals ((conv => whnf); (try dsimp only); (try simp only [Nat.succ_eq_add_one, Nat.le_eq, castL_self]); (try omega))
            all_goals (try (first | omega | (simp only [lens] <;> omega)))
            all_goals first
              | rfl
              | exact z1
              | exact z2
              | exact z3
              | exact y2
              | exact y5
              | exact f0
              | omega
              | trace_state
      · have eL : leafT (openS s) = false := decide_eq_false hl
        rw [← a0] at hl
        have f0 : decide (@Eq Int (bAt (cutS (openS s) 0 (Int.toNat 1)) (Int.toNat 0)) 1) = false := decide_eq_false hl
        have hls : ∀ N, ∀ y ∈ [(⟨12, [(0, 0), (1, 1), (2, 2), (3, 3), (6, 5)], dcC false s (openS s) (cntT (openS s)) 0, dcO false s (openS s) (cntT (openS s))⟩ : LpD)], y.ok Try.prog N 0 (bodyOf Try.prog 10) := fun N y hy => by
          rw [List.mem_singleton.1 hy]
          exact dc_knot s (openS s) (cntT (openS s)) ht hcnt N
        have r0 := runP_0 false (openS s)
        obtain ⟨i1, i2, i3, i4⟩ := st_of r0
        have p2 : (cutS (cutS (cutS (openS s) (Int.toNat 1) (ByteArray.size (openS s))) (Int.toNat 1) (ByteArray.size (cutS (openS s) (Int.toNat 1) (ByteArray.size (openS s))))) (Int.toNat 4) (ByteArray.size (cutS (cutS (openS s) (Int.toNat 1) (ByteArray.size (openS s))) (Int.toNat 1) (ByteArray.size (cutS (openS s) (Int.toNat 1) (ByteArray.size (openS s))))))) = restS (openS s) 6 := by rw [p1]; exact cut_ext (openS s) 2 4
        have sp1 : ByteArray.size (cutS (cutS (openS s) (Int.toNat 1) (ByteArray.size (openS s))) (Int.toNat 1) (ByteArray.size (cutS (openS s) (Int.toNat 1) (ByteArray.size (openS s))))) = 250 := by rw [p1, restS_size]; omega
        have c0 : bAt (cutS (cutS (cutS (openS s) (Int.toNat 1) (ByteArray.size (openS s))) (Int.toNat 1) (ByteArray.size (cutS (openS s) (Int.toNat 1) (ByteArray.size (openS s))))) 0 (Int.toNat 4)) (Int.toNat 0) = bAt (openS s) 2 := by rw [p1]; exact cut_at (openS s) 2 4 0 (by omega) (by decide)
        have c1 : bAt (cutS (cutS (cutS (openS s) (Int.toNat 1) (ByteArray.size (openS s))) (Int.toNat 1) (ByteArray.size (cutS (openS s) (Int.toNat 1) (ByteArray.size (openS s))))) 0 (Int.toNat 4)) (Int.toNat 1) = bAt (openS s) (2 + 1) := by rw [p1]; exact cut_at (openS s) 2 4 1 (by omega) (by decide)
        have c2 : bAt (cutS (cutS (cutS (openS s) (Int.toNat 1) (ByteArray.size (openS s))) (Int.toNat 1) (ByteArray.size (cutS (openS s) (Int.toNat 1) (ByteArray.size (openS s))))) 0 (Int.toNat 4)) (Int.toNat 2) = bAt (openS s) (2 + 2) := by rw [p1]; exact cut_at (openS s) 2 4 2 (by omega) (by decide)
        have c3 : bAt (cutS (cutS (cutS (openS s) (Int.toNat 1) (ByteArray.size (openS s))) (Int.toNat 1) (ByteArray.size (cutS (openS s) (Int.toNat 1) (ByteArray.size (openS s))))) 0 (Int.toNat 4)) (Int.toNat 3) = bAt (openS s) (2 + 3) := by rw [p1]; exact cut_at (openS s) 2 4 3 (by omega) (by decide)
        have m4 : or4 (bAt (cutS (cutS (cutS (openS s) (Int.toNat 1) (ByteArray.size (openS s))) (Int.toNat 1) (ByteArray.size (cutS (openS s) (Int.toNat 1) (ByteArray.size (openS s))))) 0 (Int.toNat 4)) (Int.toNat 0)) (bAt (cutS (cutS (cutS (openS s) (Int.toNat 1) (ByteArray.size (openS s))) (Int.toNat 1) (ByteArray.size (cutS (openS s) (Int.toNat 1) (ByteArray.size (openS s))))) 0 (Int.toNat 4)) (Int.toNat 1)) (bAt (cutS (cutS (cutS (openS s) (Int.toNat 1) (ByteArray.size (openS s))) (Int.toNat 1) (ByteArray.size (cutS (openS s) (Int.toNat 1) (ByteArray.size (openS s))))) 0 (Int.toNat 4)) (Int.toNat 2)) (bAt (cutS (cutS (cutS (openS s) (Int.toNat 1) (ByteArray.size (openS s))) (Int.toNat 1) (ByteArray.size (cutS (openS s) (Int.toNat 1) (ByteArray.size (openS s))))) 0 (Int.toNat 4)) (Int.toNat 3)) = n4 (openS s) 2 := by rw [c0, c1, c2, c3]; rfl
        have i3 : stC false (openS s) 0 = [n4 (openS s) 2] := i3
        have y2 : (cutS (cutS (cutS (openS s) (Int.toNat 1) (ByteArray.size (openS s))) (Int.toNat 1) (ByteArray.size (cutS (openS s) (Int.toNat 1) (ByteArray.size (openS s))))) (Int.toNat 4) (ByteArray.size (cutS (cutS (openS s) (Int.toNat 1) (ByteArray.size (openS s))) (Int.toNat 1) (ByteArray.size (cutS (openS s) (Int.toNat 1) (ByteArray.size (openS s))))))) = restS (openS s) (stO false (openS s) 0) := by rw [i4]; exact p2
        have y5 : seg [or4 (bAt (cutS (cutS (cutS (openS s) (Int.toNat 1) (ByteArray.size (openS s))) (Int.toNat 1) (ByteArray.size (cutS (openS s) (Int.toNat 1) (ByteArray.size (openS s))))) 0 (Int.toNat 4)) (Int.toNat 0)) (bAt (cutS (cutS (cutS (openS s) (Int.toNat 1) (ByteArray.size (openS s))) (Int.toNat 1) (ByteArray.size (cutS (openS s) (Int.toNat 1) (ByteArray.size (openS s))))) 0 (Int.toNat 4)) (Int.toNat 1)) (bAt (cutS (cutS (cutS (openS s) (Int.toNat 1) (ByteArray.size (openS s))) (Int.toNat 1) (ByteArray.size (cutS (openS s) (Int.toNat 1) (ByteArray.size (openS s))))) 0 (Int.toNat 4)) (Int.toNat 2)) (bAt (cutS (cutS (cutS (openS s) (Int.toNat 1) (ByteArray.size (openS s))) (Int.toNat 1) (ByteArray.size (cutS (openS s) (Int.toNat 1) (ByteArray.size (openS s))))) 0 (Int.toNat 4)) (Int.toNat 3))] 0 1 = stC false (openS s) 0 := by rw [seg_one, m4, i3]
        have b0 : 0 ≤ (bAt (cutS (openS s) 0 (Int.toNat 1)) (Int.toNat 0)) ∧ (bAt (cutS (openS s) 0 (Int.toNat 1)) (Int.toNat 0)) < 256 := bAt_in _ _
        have z1 : (stK false (openS s) 0).length = 0 := by rw [i1]; rfl
        have z2 : (stX false (openS s) 0).length = 0 := by rw [i2]; rfl
        have z3 : (stC false (openS s) 0).length = 1 := by rw [i3]; rfl
        cases hk : okB false (openS s) (cntT (openS s)) with
        | false =>
          have hn : ¬ decP s := fun h => by
            have := h.1.2.2
            rw [eL, hk] at this
            cases this
          obtain ⟨e1, e2, e3, e4, e5⟩ := dec_no hn
          rw [e1, e2, e3, e4, e5]
          refine PureAt.val (v := .tup [.agg [.bool false, .nils, .nils, .nils], .int .i64 8]) ?_ fun φ => nil_node
          refine pure_of_loops tabPgI_ok (fuel := 3) (d := 6) _ hls ?_
          repeat' ((conv => whnf); first | (with_reducible first | (refine W1.o ?_; constructor) | rfl | exact castL_self _ _) | ((with_reducible refine V.same_t ?_); exact rfl) | ((with_reducible refine andB_room ?_ ?_ ?_); (· kernel_rfl); (· (first | omega | (simp only [lens] <;> omega)))) | ((with_reducible refine W2.o ?_; constructor); · (first | (with_reducible assumption) | (first | omega | (simp only [lens] <;> omega)))) | ((with_reducible refine W3.o ?_; constructor); · (first | (with_reducible assumption) | (first | omega | (simp only [lens] <;> omega)))) | ((with_reducible refine W4.o ?_; constructor); · (first | (with_reducible first | assumption | exact decide_eq_true rfl | exact sEq_self _) | ((with_reducible refine eqOK_i ?_); kernel_rfl) | (first | exact ho | exact f0))) | ((with_reducible refine iteB_f ?_ ?_); · (first | (with_reducible first | assumption | exact decide_eq_true rfl | exact sEq_self _) | ((with_reducible refine eqOK_i ?_); kernel_rfl) | (first | exact ho | exact f0))) | (with_reducible refine CD.wk_au ?_) | (with_reducible refine W5.o ?_; constructor) | ((with_reducible refine W6.o ?_; constructor) <;> intro hB))
          all_goals ((conv => whnf); (try dsimp only); (try simp only [Nat.succ_eq_add_one, Nat.le_eq, castL_self]); (try omega))
          all_goals (try (first | omega | (simp only [lens] <;> omega)))
          all_goals first
            | rfl
            | exact z1
            | exact z2
            | exact z3
            | exact y2
            | exact y5
            | exact f0
            | omega
            | trace_state
        | true =>
          have hsome : (runP false (openS s) (cntT (openS s))).isSome = true := by rw [← okB_eq]; exact hk
          obtain ⟨q1, q2, q3, q4, q5⟩ := runP_in (by omega) _ (runP_st4 hsome)
          dsimp only at q1 q2 q3 q4 q5
          have eK : (seg (stK false (openS s) (cntT (openS s))) 0 (List.length (stK false (openS s) (cntT (openS s))))) = stK false (openS s) (cntT (openS s)) := seg_all _ rfl
          have eX : (seg (stX false (openS s) (cntT (openS s))) 0 (List.length (stX false (openS s) (cntT (openS s))))) = stX false (openS s) (cntT (openS s)) := seg_all _ rfl
          have eC : (seg (stC false (openS s) (cntT (openS s))) 0 (List.length (stC false (openS s) (cntT (openS s))))) = stC false (openS s) (cntT (openS s)) := seg_all _ rfl
          have l1 : List.length (seg (stK false (openS s) (cntT (openS s))) 0 (List.length (stK false (openS s) (cntT (openS s))))) ≤ 4611686018427387904 := by rw [eK]; omega
          have l2 : List.length (seg (stX false (openS s) (cntT (openS s))) 0 (List.length (stX false (openS s) (cntT (openS s))))) ≤ 4611686018427387904 := by rw [eX]; omega
          have l3 : List.length (seg (stC false (openS s) (cntT (openS s))) 0 (List.length (stC false (openS s) (cntT (openS s))))) ≤ 4611686018427387904 := by rw [eC]; omega
          have dK : nodK s = stK false (openS s) (cntT (openS s)) := by unfold nodK; rw [eL]
          have dX : nodX s = stX false (openS s) (cntT (openS s)) := by unfold nodX; rw [eL]
          have dC : nodC s = stC false (openS s) (cntT (openS s)) := by unfold nodC; rw [eL]
          by_cases hf : fitP false (seg (stK false (openS s) (cntT (openS s))) 0 (List.length (stK false (openS s) (cntT (openS s))))) (seg (stX false (openS s) (cntT (openS s))) 0 (List.length (stX false (openS s) (cntT (openS s))))) (seg (stC false (openS s) (cntT (openS s))) 0 (List.length (stC false (openS s) (cntT (openS s)))))
          · have g1 := encE_0 hf
            by_cases he : encS false (seg (stK false (openS s) (cntT (openS s))) 0 (List.length (stK false (openS s) (cntT (openS s))))) (seg (stX false (openS s) (cntT (openS s))) 0 (List.length (stX false (openS s) (cntT (openS s))))) (seg (stC false (openS s) (cntT (openS s))) 0 (List.length (stC false (openS s) (cntT (openS s))))) = s
            · have g2 : sEq (encS false (seg (stK false (openS s) (cntT (openS s))) 0 (List.length (stK false (openS s) (cntT (openS s))))) (seg (stX false (openS s) (cntT (openS s))) 0 (List.length (stX false (openS s) (cntT (openS s))))) (seg (stC false (openS s) (cntT (openS s))) 0 (List.length (stC false (openS s) (cntT (openS s)))))) s = true := decide_eq_true he
              have hd : decP s := by
                refine ⟨⟨ho, h6, by rw [eL]; exact hk⟩, ?_, ?_⟩
                · rw [eL, dK, dX, dC, ← eK, ← eX, ← eC]; exact hf
                · rw [eL, dK, dX, dC, ← eK, ← eX, ← eC]; exact he
              obtain ⟨e1, e2, e3, e4, e5⟩ := dec_yes hd
              rw [e1, e2, e3, e4, e5, eL, dK, dX, dC]
              refine pure_of_loops tabPgI_ok (fuel := 3) (d := 6) _ hls ?_
              repeat' ((conv => whnf); first | (with_reducible first | (refine W1.o ?_; constructor) | rfl | exact castL_self _ _) | ((with_reducible refine V.same_t ?_); exact rfl) | ((with_reducible refine andB_room ?_ ?_ ?_); (· kernel_rfl); (· (first | omega | (simp only [lens] <;> omega)))) | ((with_reducible refine W2.o ?_; constructor); · (first | (with_reducible assumption) | (first | omega | (simp only [lens] <;> omega)))) | ((with_reducible refine W3.o ?_; constructor); · (first | (with_reducible assumption) | (first | omega | (simp only [lens] <;> omega)))) | ((with_reducible refine W4.o ?_; constructor); · (first | (with_reducible first | assumption | exact decide_eq_true rfl | exact sEq_self _) | ((with_reducible refine eqOK_i ?_); kernel_rfl) | (first | exact ho | exact f0 | exact g2))) | ((with_reducible refine iteB_f ?_ ?_); · (first | (with_reducible first | assumption | exact decide_eq_true rfl | exact sEq_self _) | ((with_reducible refine eqOK_i ?_); kernel_rfl) | (first | exact ho | exact f0 | exact g2))) | (with_reducible refine CD.wk_au ?_) | (with_reducible refine W5.o ?_; constructor) | ((with_reducible refine W6.o ?_; constructor) <;> intro hB))
              all_goals ((conv => whnf); (try dsimp only); (try simp only [Nat.succ_eq_add_one, Nat.le_eq, castL_self]); (try omega))
              all_goals (try (first | omega | (simp only [lens] <;> omega)))
              all_goals first
                | rfl
                | exact z1
                | exact z2
                | exact z3
                | exact y2
                | exact y5
                | exact f0
                | omega
                | (rw [eK, eX, eC])
                | trace_state
            · have g2 : sEq (encS false (seg (stK false (openS s) (cntT (openS s))) 0 (List.length (stK false (openS s) (cntT (openS s))))) (seg (stX false (openS s) (cntT (openS s))) 0 (List.length (stX false (openS s) (cntT (openS s))))) (seg (stC false (openS s) (cntT (openS s))) 0 (List.length (stC false (openS s) (cntT (openS s)))))) s = false := decide_eq_false he
              have hn : ¬ decP s := fun h => he (by
                have := h.2.2
                rw [eL, dK, dX, dC, ← eK, ← eX, ← eC] at this
                exact this)
              obtain ⟨e1, e2, e3, e4, e5⟩ := dec_no hn
              rw [e1, e2, e3, e4, e5]
              refine PureAt.val (v := .tup [.agg [.bool false, .nils, .nils, .nils], .int .i64 8]) ?_ fun φ => nil_node
              refine pure_of_loops tabPgI_ok (fuel := 3) (d := 6) _ hls ?_
              repeat' ((conv => whnf); first | (with_reducible first | (refine W1.o ?_; constructor) | rfl | exact castL_self _ _) | ((with_reducible refine V.same_t ?_); exact rfl) | ((with_reducible refine andB_room ?_ ?_ ?_); (· kernel_rfl); (· (first | omega | (simp only [lens] <;> omega)))) | ((with_reducible refine W2.o ?_; constructor); · (first | (with_reducible assumption) | (first | omega | (simp only [lens] <;> omega)))) | ((with_reducible refine W3.o ?_; constructor); · (first | (with_reducible assumption) | (first | omega | (simp only [lens] <;> omega)))) | ((with_reducible refine W4.o ?_; constructor); · (first | (with_reducible first | assumption | exact decide_eq_true rfl | exact sEq_self _) | ((with_reducible refine eqOK_i ?_); kernel_rfl) | (first | exact ho | exact f0 | exact g2))) | ((with_reducible refine iteB_f ?_ ?_); · (first | (with_reducible first | assumption | exact decide_eq_true rfl | exact sEq_self _) | ((with_reducible refine eqOK_i ?_); kernel_rfl) | (first | exact ho | exact f0 | exact g2))) | (with_reducible refine CD.wk_au ?_) | (with_reducible refine W5.o ?_; constructor) | ((with_reducible refine W6.o ?_; constructor) <;> intro hB))
              all_goals ((conv => whnf); (try dsimp only); (try simp only [Nat.succ_eq_add_one, Nat.le_eq, castL_self]); (try omega))
              all_goals (try (first | omega | (simp only [lens] <;> omega)))
              all_goals first
                | rfl
                | exact z1
                | exact z2
                | exact z3
                | exact y2
                | exact y5
                | exact f0
                | omega
                | trace_state
          · have g1 : ¬ @Eq Int (encE false (seg (stK false (openS s) (cntT (openS s))) 0 (List.length (stK false (openS s) (cntT (openS s))))) (seg (stX false (openS s) (cntT (openS s))) 0 (List.length (stX false (openS s) (cntT (openS s))))) (seg (stC false (openS s) (cntT (openS s))) 0 (List.length (stC false (openS s) (cntT (openS s)))))) 0 := by
              by_cases hm : mayP false (seg (stK false (openS s) (cntT (openS s))) 0 (List.length (stK false (openS s) (cntT (openS s))))) (seg (stX false (openS s) (cntT (openS s))) 0 (List.length (stX false (openS s) (cntT (openS s))))) (seg (stC false (openS s) (cntT (openS s))) 0 (List.length (stC false (openS s) (cntT (openS s)))))
              · rw [encE_3 hm (fun h => hf ⟨hm, h⟩)]; decide
              · rw [encE_2 hm]; decide
            have hn : ¬ decP s := fun h => hf (by
              have := h.2.1
              rw [eL, dK, dX, dC, ← eK, ← eX, ← eC] at this
              exact this)
            obtain ⟨e1, e2, e3, e4, e5⟩ := dec_no hn
            rw [e1, e2, e3, e4, e5]
            refine PureAt.val (v := .tup [.agg [.bool false, .nils, .nils, .nils], .int .i64 8]) ?_ fun φ => nil_node
            refine pure_of_loops tabPgI_ok (fuel := 3) (d := 6) _ hls ?_
            repeat' ((conv => whnf); first | (with_reducible first | (refine W1.o ?_; constructor) | rfl | exact castL_self _ _) | ((with_reducible refine V.same_t ?_); exact rfl) | ((with_reducible refine andB_room ?_ ?_ ?_); (· kernel_rfl); (· (first | omega | (simp only [lens] <;> omega)))) | ((with_reducible refine W2.o ?_; constructor); · (first | (with_reducible assumption) | (first | omega | (simp only [lens] <;> omega)))) | ((with_reducible refine W3.o ?_; constructor); · (first | (with_reducible assumption) | (first | omega | (simp only [lens] <;> omega)))) | ((with_reducible refine W4.o ?_; constructor); · (first | (with_reducible first | assumption | exact decide_eq_true rfl | exact sEq_self _) | ((with_reducible refine eqOK_i ?_); kernel_rfl) | (first | exact ho | exact f0))) | ((with_reducible refine iteB_f ?_ ?_); · (first | (with_reducible first | assumption | exact decide_eq_true rfl | exact sEq_self _) | ((with_reducible refine eqOK_i ?_); kernel_rfl) | (first | exact ho | exact f0))) | (with_reducible refine CD.wk_au ?_) | (with_reducible refine W5.o ?_; constructor) | ((with_reducible refine W6.o ?_; constructor) <;> intro hB))
            all_goals ((conv => whnf); (try dsimp only); (try simp only [Nat.succ_eq_add_one, Nat.le_eq, castL_self]); (try omega))
            all_goals (try (first | omega | (simp only [lens] <;> omega)))
            all_goals first
              | rfl
              | exact z1
              | exact z2
              | exact z3
              | exact y2
              | exact y5
              | exact f0
              | omega
              | trace_state
    · have hn : ¬ decP s := fun h => h6 h.1.2.1
      obtain ⟨e1, e2, e3, e4, e5⟩ := dec_no hn
      rw [e1, e2, e3, e4, e5]
      refine PureAt.val (v := .tup [.agg [.bool false, .nils, .nils, .nils], .int .i64 8]) ?_ fun φ => nil_node
      refine pure_of_W0 (tab := tabPgI) (fuel := 3) (d := 6) tabPgI_ok ?_
      repeat' ((conv => whnf); first | (with_reducible first | (refine W1.o ?_; constructor) | rfl | exact castL_self _ _) | ((with_reducible refine V.same_t ?_); exact rfl) | ((with_reducible refine andB_room ?_ ?_ ?_); (· kernel_rfl); (· (first | omega | (simp only [lens] <;> omega)))) | ((with_reducible refine W2.o ?_; constructor); · (first | (with_reducible assumption) | (first | omega | (simp only [lens] <;> omega)))) | ((with_reducible refine W3.o ?_; constructor); · (first | (with_reducible assumption) | (first | omega | (simp only [lens] <;> omega)))) | ((with_reducible refine W4.o ?_; constructor); · (first | (with_reducible first | assumption | exact decide_eq_true rfl | exact sEq_self _) | ((with_reducible refine eqOK_i ?_); kernel_rfl) | (exact ho))) | ((with_reducible refine iteB_f ?_ ?_); · (first | (with_reducible first | assumption | exact decide_eq_true rfl | exact sEq_self _) | ((with_reducible refine eqOK_i ?_); kernel_rfl) | (exact ho))) | (with_reducible refine W5.o ?_; constructor) | ((with_reducible refine W6.o ?_; constructor) <;> intro hB))
      all_goals ((conv => whnf); (try dsimp only); (try simp only [Nat.succ_eq_add_one, Nat.le_eq, castL_self]); (try omega))
      all_goals (try (first | omega | (simp only [lens] <;> omega)))
      all_goals rfl
end Go.Proofs.Ytlfhiophojahbaa
end

section
namespace Go.Proofs.Ytlfhiophojahbaa
open Go.Sym
set_option linter.unusedVariables false
noncomputable def decodeF (args : List V) : Option (List Bool × V) := match args with
  | [.str s] => some ([decide (s.size ≤ 300)], .tup [nodeV (decL s) (decK s) (decX s) (decC s), .int .i64 (decE s)])
  | _ => none
theorem decodeF_ok (args : List V) (c : List Bool) (v : V) (h : decodeF args = some (c, v)) (hc : allB c) : PureAt Try.prog 10 args v := by
  unfold decodeF at h
  split at h
  · cases h; exact decode_at _ (of_decide_eq_true hc.1)
  · cases h
end Go.Proofs.Ytlfhiophojahbaa
end

section
namespace Go.Proofs.Ytlfhiophojahbaa
open Go.Sym
set_option linter.unusedVariables false

theorem strOf_list (l : List Int) : (strOf l).data.toList = l.map fun n => UInt8.ofNat n.toNat := by
  unfold strOf
  rw [List.toList_toArray]
theorem bAt_str (A R : List Int) (x : Int) (h : 0 ≤ x ∧ x < 256) : bAt (strOf (A ++ x :: R)) A.length = x := by
  unfold bAt
  rw [strOf_list, List.map_append, List.map_cons, List.getD_eq_getElem?_getD, List.getElem?_append_right (by rw [List.length_map]; exact Nat.le_refl _), List.length_map, Nat.sub_self]
  show ((UInt8.ofNat x.toNat).toNat : Int) = x
  rw [UInt8.toNat_ofNat']
  omega
theorem ext_str (A R : List Int) (k : ByteArray) : (strOf (A ++ (bytesL k ++ R))).extract A.length (A.length + k.size) = k := by
  apply ByteArray.ext
  rw [ByteArray.data_extract]
  apply Array.ext'
  rw [Array.toList_extract, strOf_list, List.extract_eq_take_drop, List.map_append, List.map_append, List.drop_left' (by rw [List.length_map]), Nat.add_sub_cancel_left]
  have e : (bytesL k).map (fun n => UInt8.ofNat n.toNat) = k.data.toList := by
    have := strOf_bytesL k
    rw [← strOf_list, this]
  rw [e]
  have hs : k.data.toList.length = k.size := by rw [Array.length_toList]; rfl
  rw [List.take_left' hs]
theorem ofI_u (q : Nat) (hq : q < 4294967296) : ofI .u32 (q : Int) = q := by
  have h : ((ofI .u32 (q : Int) : Nat) : Int) = (q : Int) % ((kM .u32 : Nat) : Int) := modN_eq (kM .u32) (by decide) q
  have hk : ((kM .u32 : Nat) : Int) = 4294967296 := rfl
  rw [hk] at h
  omega
theorem lor_hi (x y k : Nat) (h : y < 2 ^ k) : Nat.lor (x * 2 ^ k) y = x * 2 ^ k + y := by
  have := Nat.two_pow_add_eq_or_of_lt (i := k) (b := y) h x
  rw [Nat.mul_comm x, this]
  rfl
theorem or4_eq (a b c d : Nat) (ha : a < 256) (hb : b < 256) (hc : c < 256) (hd : d < 256) : or4 a b c d = ((a * 16777216 + b * 65536 + c * 256 + d : Nat) : Int) := by
  have t24 : min (Int.toNat 24) 32 = 24 := rfl
  have t16 : min (Int.toNat 16) 32 = 16 := rfl
  have t8 : min (Int.toNat 8) 32 = 8 := rfl
  have p24 : (2 : Int) ^ 24 = 16777216 := rfl
  have p16 : (2 : Int) ^ 16 = 65536 := rfl
  have p8 : (2 : Int) ^ 8 = 256 := rfl
  have w : ∀ q : Nat, q < 4294967296 → IntKind.u32.wrap (Int.ofNat q) = (q : Int) := fun q h => wrap_u32 (by simp only [Int.ofNat_eq_natCast]; omega) (by simp only [Int.ofNat_eq_natCast]; omega)
  unfold or4
  rw [t24, t16, t8, p24, p16, p8]
  rw [show ((a : Nat) : Int) % 4294967296 * 16777216 % 4294967296 = ((a * 16777216 : Nat) : Int) by omega, ofI_u _ (by omega)]
  rw [show ((b : Nat) : Int) % 4294967296 * 65536 % 4294967296 = ((b * 65536 : Nat) : Int) by omega, ofI_u _ (by omega)]
  rw [show ((c : Nat) : Int) % 4294967296 * 256 % 4294967296 = ((c * 256 : Nat) : Int) by omega, ofI_u _ (by omega)]
  rw [show ((d : Nat) : Int) % 4294967296 = ((d : Nat) : Int) by omega, ofI_u _ (by omega)]
  rw [show Nat.lor (a * 16777216) (b * 65536) = a * 16777216 + b * 65536 from lor_hi a (b * 65536) 24 (by omega)]
  rw [w (a * 16777216 + b * 65536) (by omega), ofI_u _ (by omega)]
  rw [show Nat.lor (a * 16777216 + b * 65536) (c * 256) = a * 16777216 + b * 65536 + c * 256 by
    have := lor_hi (a * 256 + b) (c * 256) 16 (by omega)
    rw [show (a * 256 + b) * 2 ^ 16 = a * 16777216 + b * 65536 by omega] at this
    exact this]
  rw [w (a * 16777216 + b * 65536 + c * 256) (by omega), ofI_u _ (by omega)]
  rw [show Nat.lor (a * 16777216 + b * 65536 + c * 256) d = a * 16777216 + b * 65536 + c * 256 + d by
    have := lor_hi (a * 65536 + b * 256 + c) d 8 (by omega)
    rw [show (a * 65536 + b * 256 + c) * 2 ^ 8 = a * 16777216 + b * 65536 + c * 256 by omega] at this
    exact this]
  exact w _ (by omega)
theorem or4_be (n : Int) (h0 : 0 ≤ n) (h1 : n < 4294967296) : or4 (n / 2 ^ min (Int.toNat 24) 32 % 256) (n / 2 ^ min (Int.toNat 16) 32 % 256) (n / 2 ^ min (Int.toNat 8) 32 % 256) (n % 256) = n := by
  have t24 : min (Int.toNat 24) 32 = 24 := rfl
  have t16 : min (Int.toNat 16) 32 = 16 := rfl
  have t8 : min (Int.toNat 8) 32 = 8 := rfl
  have p24 : (2 : Int) ^ 24 = 16777216 := rfl
  have p16 : (2 : Int) ^ 16 = 65536 := rfl
  have p8 : (2 : Int) ^ 8 = 256 := rfl
  rw [t24, t16, t8, p24, p16, p8]
  obtain ⟨m, rfl⟩ := Int.eq_ofNat_of_zero_le h0
  have e := or4_eq (m / 16777216 % 256) (m / 65536 % 256) (m / 256 % 256) (m % 256) (by omega) (by omega) (by omega) (by omega)
  have q1 : ((m / 16777216 % 256 : Nat) : Int) = (m : Int) / 16777216 % 256 := by omega
  have q2 : ((m / 65536 % 256 : Nat) : Int) = (m : Int) / 65536 % 256 := by omega
  have q3 : ((m / 256 % 256 : Nat) : Int) = (m : Int) / 256 % 256 := by omega
  have q4 : ((m % 256 : Nat) : Int) = (m : Int) % 256 := by omega
  rw [q1, q2, q3, q4] at e
  rw [e]
  omega
theorem n4_str (A R : List Int) (n : Int) (h0 : 0 ≤ n) (h1 : n < 4294967296) : n4 (strOf (A ++ (be4 n ++ R))) A.length = n := by
  have e : ∀ (B : List Int) (x : Int) (Q : List Int), 0 ≤ x ∧ x < 256 → A ++ (be4 n ++ R) = B ++ x :: Q → bAt (strOf (A ++ (be4 n ++ R))) B.length = x := fun B x Q hx he => by rw [he]; exact bAt_str B Q x hx
  have m24 : 0 ≤ n / 2 ^ min (Int.toNat 24) 32 % 256 ∧ n / 2 ^ min (Int.toNat 24) 32 % 256 < 256 := by omega
  have m16 : 0 ≤ n / 2 ^ min (Int.toNat 16) 32 % 256 ∧ n / 2 ^ min (Int.toNat 16) 32 % 256 < 256 := by omega
  have m8 : 0 ≤ n / 2 ^ min (Int.toNat 8) 32 % 256 ∧ n / 2 ^ min (Int.toNat 8) 32 % 256 < 256 := by omega
  have m0 : 0 ≤ n % 256 ∧ n % 256 < 256 := by omega
  have g0 := e A _ (n / 2 ^ min (Int.toNat 16) 32 % 256 :: n / 2 ^ min (Int.toNat 8) 32 % 256 :: n % 256 :: R) m24 rfl
  have g1 := e (A ++ [n / 2 ^ min (Int.toNat 24) 32 % 256]) _ (n / 2 ^ min (Int.toNat 8) 32 % 256 :: n % 256 :: R) m16 (by rw [List.append_assoc]; rfl)
  have g2 := e (A ++ [n / 2 ^ min (Int.toNat 24) 32 % 256, n / 2 ^ min (Int.toNat 16) 32 % 256]) _ (n % 256 :: R) m8 (by rw [List.append_assoc]; rfl)
  have g3 := e (A ++ [n / 2 ^ min (Int.toNat 24) 32 % 256, n / 2 ^ min (Int.toNat 16) 32 % 256, n / 2 ^ min (Int.toNat 8) 32 % 256]) _ R m0 (by rw [List.append_assoc]; rfl)
  rw [List.length_append] at g1 g2 g3
  unfold n4
  rw [g0, show A.length + 1 = A.length + [n / 2 ^ min (Int.toNat 24) 32 % 256].length from rfl, g1, show A.length + 2 = A.length + [n / 2 ^ min (Int.toNat 24) 32 % 256, n / 2 ^ min (Int.toNat 16) 32 % 256].length from rfl, g2, show A.length + 3 = A.length + [n / 2 ^ min (Int.toNat 24) 32 % 256, n / 2 ^ min (Int.toNat 16) 32 % 256, n / 2 ^ min (Int.toNat 8) 32 % 256].length from rfl, g3]
  exact or4_be n h0 h1
theorem lay_pre (l : Bool) (K X : List ByteArray) (C : List Int) (i : Nat) : ∀ d, ∃ T, layN l K X C (i + d) = layN l K X C i ++ T
  | 0 => ⟨[], by rw [Nat.add_zero, List.append_nil]⟩
  | d + 1 => by
    obtain ⟨T, hT⟩ := lay_pre l K X C i d
    cases l with
    | true => exact ⟨T ++ ([((atS K (i + d)).size : Int) % 256] ++ bytesL (atS K (i + d)) ++ [((atS X (i + d)).size : Int) % 256] ++ bytesL (atS X (i + d))), by rw [← Nat.add_assoc, layN_leaf, hT]; simp only [List.append_assoc]⟩
    | false => exact ⟨T ++ ([((atS K (i + d)).size : Int) % 256] ++ bytesL (atS K (i + d)) ++ be4 (atI C (i + d + 1))), by rw [← Nat.add_assoc, layN_knot, hT]; simp only [List.append_assoc]⟩
theorem body_pre (l : Bool) (K X : List ByteArray) (C : List Int) {i : Nat} (h : i ≤ K.length) : ∃ R, bodyN l K X C = strOf (layN l K X C i ++ R) := by
  obtain ⟨T, hT⟩ := lay_pre l K X C i (K.length - i)
  rw [Nat.add_sub_cancel' h] at hT
  exact ⟨T ++ List.replicate (252 - (layN l K X C K.length).length) 0, by unfold bodyN; rw [hT, List.append_assoc]⟩
theorem len_mod {s : ByteArray} (h : s.size ≤ 96) : (s.size : Int) % 256 = (s.size : Int) := by omega
theorem lenP_of {t : ByteArray} {o : Nat} {s : ByteArray} (hs : s.size ≤ 96) (h : bAt t o = (s.size : Int) % 256) : lenP t o = s.size := by
  unfold lenP
  rw [h, len_mod hs]
  omega
noncomputable def stB (l : Bool) (K X : List ByteArray) (C : List Int) (i : Nat) : PS := (K.take i, if l = true then X.take i else [], if l = true then [] else C.take (i + 1), (layN l K X C i).length)
theorem run_leaf {K X : List ByteArray} {C : List Int} (h : fitP true K X C) : ∀ i, i ≤ K.length → runP true (bodyN true K X C) i = some (stB true K X C i)
  | 0, _ => by
    rw [runP_0]
    unfold stB startP
    rw [layN_leaf0]
    simp
  | i + 1, hi => by
    have hk := may_keys h.1 i (by omega)
    have hx := may_vals h.1 i (by have := may_x h.1; omega)
    obtain ⟨hxl, hcl⟩ := may_x h.1
    obtain ⟨R, hR⟩ := body_pre true K X C hi
    have ht := bodyN_size h
    have hl := layN_len_leaf K X C i
    have hsz : (layN true K X C (i + 1)).length + R.length = 252 := by rw [← List.length_append, ← strOf_size, ← hR, ht]
    rw [layN_leaf] at hR
    obtain ⟨t, et⟩ : ∃ t, bodyN true K X C = t := ⟨_, rfl⟩
    rw [runP_succ, run_leaf h i (by omega)]
    rw [et] at hR ht ⊢
    have f0 := bAt_str (layN true K X C i) (bytesL (atS K i) ++ ([((atS X i).size : Int) % 256] ++ (bytesL (atS X i) ++ R))) (((atS K i).size : Int) % 256) (by omega)
    have f1 := ext_str (layN true K X C i ++ [((atS K i).size : Int) % 256]) ([((atS X i).size : Int) % 256] ++ (bytesL (atS X i) ++ R)) (atS K i)
    have f2 := bAt_str (layN true K X C i ++ ([((atS K i).size : Int) % 256] ++ bytesL (atS K i))) (bytesL (atS X i) ++ R) (((atS X i).size : Int) % 256) (by omega)
    have f3 := ext_str (layN true K X C i ++ ([((atS K i).size : Int) % 256] ++ (bytesL (atS K i) ++ [((atS X i).size : Int) % 256]))) R (atS X i)
    have m1 : (layN true K X C i ++ [((atS K i).size : Int) % 256]).length = (layN true K X C i).length + 1 := by simp only [lens]
    have m2 : (layN true K X C i ++ ([((atS K i).size : Int) % 256] ++ bytesL (atS K i))).length = (layN true K X C i).length + 1 + (atS K i).size := by simp only [lens]; omega
    have m3 : (layN true K X C i ++ ([((atS K i).size : Int) % 256] ++ (bytesL (atS K i) ++ [((atS X i).size : Int) % 256]))).length = (layN true K X C i).length + 1 + (atS K i).size + 1 := by simp only [lens]; omega
    rw [m1] at f1
    rw [m2] at f2
    rw [m3] at f3
    have hQ : t = strOf (layN true K X C i ++ ([((atS K i).size : Int) % 256] ++ (bytesL (atS K i) ++ ([((atS X i).size : Int) % 256] ++ (bytesL (atS X i) ++ R))))) := by
      rw [hR]; simp only [List.append_assoc]
    have b0 : bAt t (layN true K X C i).length = ((atS K i).size : Int) % 256 := by rw [hQ]; exact f0
    have e0 : t.extract ((layN true K X C i).length + 1) ((layN true K X C i).length + 1 + (atS K i).size) = atS K i := by
      rw [List.append_assoc] at f1; rw [hQ]; exact f1
    have b1 : bAt t ((layN true K X C i).length + 1 + (atS K i).size) = ((atS X i).size : Int) % 256 := by
      rw [List.append_assoc, List.append_assoc] at f2; rw [hQ]; exact f2
    have e1 : t.extract ((layN true K X C i).length + 1 + (atS K i).size + 1) ((layN true K X C i).length + 1 + (atS K i).size + 1 + (atS X i).size) = atS X i := by
      simp only [List.append_assoc] at f3; rw [hQ]; exact f3
    have l0 := lenP_of (by omega) b0
    have l1 := lenP_of hx b1
    show stepP true t (stB true K X C i) = _
    have q1 : txP t (stB true K X C i).2.2.2 := by
      show txP t (layN true K X C i).length
      unfold txP
      rw [l0]; omega
    have q2 : txP t ((stB true K X C i).2.2.2 + 1 + lenP t (stB true K X C i).2.2.2) := by
      show txP t ((layN true K X C i).length + 1 + lenP t (layN true K X C i).length)
      unfold txP
      rw [l0, l1]; omega
    rw [stepP_leaf q1 q2]
    have w0 : txS t (layN true K X C i).length = atS K i := by unfold txS; rw [l0]; exact e0
    have w1 : txS t ((layN true K X C i).length + 1 + (atS K i).size) = atS X i := by unfold txS; rw [l1]; exact e1
    have z1 : (stB true K X C i).1 = K.take i := rfl
    have z2 : (stB true K X C i).2.1 = X.take i := rfl
    have z3 : (stB true K X C i).2.2.1 = [] := rfl
    have z4 : (stB true K X C i).2.2.2 = (layN true K X C i).length := rfl
    rw [z1, z2, z3, z4, l0, w0, w1, l1]
    unfold stB
    rw [List.take_succ_eq_append_getElem (by omega : i < K.length), List.take_succ_eq_append_getElem (by omega : i < X.length), atS_lt (by omega : i < K.length), atS_lt (by omega : i < X.length), hl, atS_lt (by omega : i < K.length), atS_lt (by omega : i < X.length)]
    simp only [if_true, Option.some.injEq, Prod.mk.injEq, true_and]
    omega
theorem run_knot {K X : List ByteArray} {C : List Int} (h : fitP false K X C) (hz : ∀ c ∈ C, 0 ≤ c ∧ c < 4294967296) : ∀ i, i ≤ K.length → runP false (bodyN false K X C) i = some (stB false K X C i)
  | 0, _ => by
    have hkl := h.1.2.1
    obtain ⟨hxl, hcl⟩ := may_c h.1
    obtain ⟨R, hR⟩ := body_pre false K X C (Nat.zero_le K.length)
    have hc0 : atI C 0 = C[0] := atI_lt (by omega)
    have hc := hz C[0] (List.getElem_mem _)
    rw [layN_knot0, hc0] at hR
    have e := n4_str [2, (K.length : Int) % 256] R C[0] hc.1 hc.2
    rw [List.append_assoc] at hR
    rw [runP_0, hR]
    unfold stB startP
    rw [layN_knot0]
    have e2 : n4 (strOf ([2, (K.length : Int) % 256] ++ (be4 C[0] ++ R))) 2 = C[0] := e
    have e3 : C.take 1 = [C[0]] := by
      have := List.take_succ_eq_append_getElem (show 0 < C.length by omega)
      simpa using this
    simp only [if_neg (show ¬ false = true by decide), e2, List.take_zero, Nat.zero_add, e3]
    rfl
  | i + 1, hi => by
    have hk := may_keys h.1 i (by omega)
    obtain ⟨hxl, hcl⟩ := may_c h.1
    obtain ⟨R, hR⟩ := body_pre false K X C hi
    have ht := bodyN_size h
    have hl := layN_len_knot K X C i
    have hsz : (layN false K X C (i + 1)).length + R.length = 252 := by rw [← List.length_append, ← strOf_size, ← hR, ht]
    have hc0 : atI C (i + 1) = C[i + 1] := atI_lt (by omega)
    have hc := hz C[i + 1] (List.getElem_mem _)
    rw [layN_knot, hc0] at hR
    obtain ⟨t, et⟩ : ∃ t, bodyN false K X C = t := ⟨_, rfl⟩
    rw [runP_succ, run_knot h hz i (by omega)]
    rw [et] at hR ht ⊢
    have f0 := bAt_str (layN false K X C i) (bytesL (atS K i) ++ (be4 C[i + 1] ++ R)) (((atS K i).size : Int) % 256) (by omega)
    have f1 := ext_str (layN false K X C i ++ [((atS K i).size : Int) % 256]) (be4 C[i + 1] ++ R) (atS K i)
    have f2 := n4_str (layN false K X C i ++ ([((atS K i).size : Int) % 256] ++ bytesL (atS K i))) R C[i + 1] hc.1 hc.2
    have m1 : (layN false K X C i ++ [((atS K i).size : Int) % 256]).length = (layN false K X C i).length + 1 := by simp only [lens]
    have m2 : (layN false K X C i ++ ([((atS K i).size : Int) % 256] ++ bytesL (atS K i))).length = (layN false K X C i).length + 1 + (atS K i).size := by simp only [lens]; omega
    rw [m1] at f1
    rw [m2] at f2
    have hQ : t = strOf (layN false K X C i ++ ([((atS K i).size : Int) % 256] ++ (bytesL (atS K i) ++ (be4 C[i + 1] ++ R)))) := by
      rw [hR]; simp only [List.append_assoc]
    have b0 : bAt t (layN false K X C i).length = ((atS K i).size : Int) % 256 := by rw [hQ]; exact f0
    have e0 : t.extract ((layN false K X C i).length + 1) ((layN false K X C i).length + 1 + (atS K i).size) = atS K i := by
      rw [List.append_assoc] at f1; rw [hQ]; exact f1
    have e1 : n4 t ((layN false K X C i).length + 1 + (atS K i).size) = C[i + 1] := by
      rw [List.append_assoc, List.append_assoc] at f2; rw [hQ]; exact f2
    have l0 := lenP_of (by omega) b0
    show stepP false t (stB false K X C i) = _
    have q1 : txP t (stB false K X C i).2.2.2 := by
      show txP t (layN false K X C i).length
      unfold txP
      rw [l0]; omega
    have q2 : (stB false K X C i).2.2.2 + 1 + lenP t (stB false K X C i).2.2.2 + 4 ≤ t.size := by
      show (layN false K X C i).length + 1 + lenP t (layN false K X C i).length + 4 ≤ t.size
      rw [l0]; omega
    rw [stepP_knot q1 q2]
    have w0 : txS t (layN false K X C i).length = atS K i := by unfold txS; rw [l0]; exact e0
    have z1 : (stB false K X C i).1 = K.take i := rfl
    have z2 : (stB false K X C i).2.1 = [] := rfl
    have z3 : (stB false K X C i).2.2.1 = C.take (i + 1) := rfl
    have z4 : (stB false K X C i).2.2.2 = (layN false K X C i).length := rfl
    rw [z1, z2, z3, z4, l0, w0, e1]
    unfold stB
    rw [List.take_succ_eq_append_getElem (by omega : i < K.length), List.take_succ_eq_append_getElem (by omega : i + 1 < C.length), atS_lt (by omega : i < K.length), hl, atS_lt (by omega : i < K.length)]
    simp only [if_neg (show ¬ false = true by decide), Option.some.injEq, Prod.mk.injEq, true_and]
    omega
theorem run_back {l : Bool} {K X : List ByteArray} {C : List Int} (h : fitP l K X C) (hz : ∀ c ∈ C, 0 ≤ c ∧ c < 4294967296) : runP l (bodyN l K X C) K.length = some (K, X, C, (layN l K X C K.length).length) := by
  cases l with
  | true =>
    obtain ⟨hx, hc⟩ := may_x h.1
    rw [run_leaf h _ (Nat.le_refl _)]
    unfold stB
    rw [if_pos rfl, if_pos rfl, List.take_of_length_le (Nat.le_refl _), List.take_of_length_le (by omega), List.eq_nil_of_length_eq_zero hc]
  | false =>
    obtain ⟨hx, hc⟩ := may_c h.1
    rw [run_knot h hz _ (Nat.le_refl _)]
    unfold stB
    rw [if_neg (by decide), if_neg (by decide), List.take_of_length_le (Nat.le_refl _), List.take_of_length_le (by omega), List.eq_nil_of_length_eq_zero hx]
theorem body_head {l : Bool} {K X : List ByteArray} {C : List Int} (h : fitP l K X C) : leafT (bodyN l K X C) = l ∧ cntT (bodyN l K X C) = K.length := by
  obtain ⟨R, hR⟩ := body_pre l K X C (Nat.zero_le K.length)
  have hK := h.1.2.2.1
  unfold leafT cntT lenP
  cases l with
  | true =>
    rw [layN_leaf0] at hR
    rw [hR]
    have e0 := bAt_str [] ((K.length : Int) % 256 :: R) 1 (by decide)
    have e1 := bAt_str [1] R ((K.length : Int) % 256) (by omega)
    have e0 : bAt (strOf ([1, (K.length : Int) % 256] ++ R)) 0 = 1 := e0
    have e1 : bAt (strOf ([1, (K.length : Int) % 256] ++ R)) 1 = (K.length : Int) % 256 := e1
    rw [e0, e1]
    exact ⟨rfl, by omega⟩
  | false =>
    rw [layN_knot0, List.append_assoc] at hR
    rw [hR]
    have e0 := bAt_str [] ((K.length : Int) % 256 :: (be4 (atI C 0) ++ R)) 2 (by decide)
    have e1 := bAt_str [2] (be4 (atI C 0) ++ R) ((K.length : Int) % 256) (by omega)
    have e0 : bAt (strOf ([2, (K.length : Int) % 256] ++ (be4 (atI C 0) ++ R))) 0 = 2 := e0
    have e1 : bAt (strOf ([2, (K.length : Int) % 256] ++ (be4 (atI C 0) ++ R))) 1 = (K.length : Int) % 256 := e1
    rw [e0, e1]
    exact ⟨rfl, by omega⟩
theorem dec_back {l : Bool} {K X : List ByteArray} {C : List Int} (h : fitP l K X C) (hz : ∀ c ∈ C, 0 ≤ c ∧ c < 4294967296) : decL (encS l K X C) = l ∧ decK (encS l K X C) = K ∧ decX (encS l K X C) = X ∧ decC (encS l K X C) = C ∧ decE (encS l K X C) = 0 := by
  have es := encS_yes h
  obtain ⟨o1, o2⟩ := open_seal (bodyN l K X C)
  have ht := bodyN_size h
  obtain ⟨h1, h2⟩ := body_head h
  have hr := run_back h hz
  obtain ⟨k1, k2, k3, k4⟩ := st_of hr
  have g1 : nodK (encS l K X C) = K := by unfold nodK; rw [es, o2, h1, h2]; exact k1
  have g2 : nodX (encS l K X C) = X := by unfold nodX; rw [es, o2, h1, h2]; exact k2
  have g3 : nodC (encS l K X C) = C := by unfold nodC; rw [es, o2, h1, h2]; exact k3
  have g0 : leafT (openS (encS l K X C)) = l := by rw [es, o2]; exact h1
  have hd : decP (encS l K X C) := by
    refine ⟨⟨by rw [es]; exact o1, by rw [es, sealS_size, ht], ?_⟩, ?_, ?_⟩
    · rw [es, o2, h1, h2, okB_eq, hr]; rfl
    · rw [g0, g1, g2, g3]; exact h
    · rw [g0, g1, g2, g3]
  obtain ⟨e1, e2, e3, e4, e5⟩ := dec_yes hd
  rw [e1, e2, e3, e4, e5]
  exact ⟨g0, g1, g2, g3, rfl⟩
end Go.Proofs.Ytlfhiophojahbaa
end

section
namespace Go.Proofs.Ytlfhiophojahbaa
open Go.Sym
set_option linter.unusedVariables false
set_option linter.unusedSimpArgs false
set_option maxRecDepth 100000
set_option maxHeartbeats 4000000
theorem wk_k : atS ([⟨#[97]⟩] : List ByteArray) 0 = ⟨#[97]⟩ := rowAt_oneS _
theorem wk_x : atS ([⟨#[120, 121]⟩] : List ByteArray) 0 = ⟨#[120, 121]⟩ := rowAt_oneS _
theorem wk_len : (layN true ([⟨#[97]⟩] : List ByteArray) ([⟨#[120, 121]⟩] : List ByteArray) [] (0 + 1)).length = 7 := by
  rw [layN_len_leaf, layN_leaf0, wk_k, wk_x]; rfl
theorem wk_fit : fitP true ([⟨#[97]⟩] : List ByteArray) ([⟨#[120, 121]⟩] : List ByteArray) [] := by
  refine ⟨⟨⟨rfl, rfl⟩, Nat.zero_lt_one, (by decide), (keysB_iff _).2 ?_, (valsB_iff _).2 ?_, (kidsB_iff _).2 ?_⟩, ?_⟩
  · intro j hj
    have hj0 : j = 0 := Nat.lt_one_iff.1 hj
    subst hj0
    rw [ahS_0, wk_k]
    exact ⟨by decide +kernel, by decide⟩
  · intro j hj
    have hj0 : j = 0 := Nat.lt_one_iff.1 hj
    subst hj0
    rw [wk_x]; decide
  · intro j hj
    exact absurd hj (Nat.not_lt_zero j)
  · exact Nat.le_trans (Nat.le_of_eq wk_len) (by decide)
theorem wk_siz : sizN true ([⟨#[97]⟩] : List ByteArray) ([⟨#[120, 121]⟩] : List ByteArray) [] = 11 := by
  rw [sizN_yes wk_fit.1]
  show ((layN true ([⟨#[97]⟩] : List ByteArray) ([⟨#[120, 121]⟩] : List ByteArray) [] (0 + 1)).length : Int) + 4 = 11
  rw [wk_len]; rfl
theorem wk_size : (encS true ([⟨#[97]⟩] : List ByteArray) ([⟨#[120, 121]⟩] : List ByteArray) []).size = 256 := by
  rw [encS_yes wk_fit, sealS_size]
  have := bodyN_size wk_fit
  omega
noncomputable def tabPgW : Tab := oneTab 16 encodeF (oneTab 10 decodeF (oneTab 31 sizeF (oneTab 17 fitsF (oneTab 12 sameNF noTab))))
theorem tabPgW_ok : TabOK Try.prog tabPgW := oneTab_ok encodeF_ok (oneTab_ok decodeF_ok (oneTab_ok sizeF_ok (oneTab_ok fitsF_ok (oneTab_ok sameNF_ok noTab_ok))))
theorem works07_at : PureAt Try.prog 14 [] (.bool true) := by
  have f1 : encE true (seg ([⟨#[97]⟩] : List ByteArray) 0 1) (seg ([⟨#[120, 121]⟩] : List ByteArray) 0 1) [] = 0 := encE_0 wk_fit
  have f2 : (encS true (seg ([⟨#[97]⟩] : List ByteArray) 0 1) (seg ([⟨#[120, 121]⟩] : List ByteArray) 0 1) []).size = 256 := wk_size
  obtain ⟨b1, b2, b3, b4, b5⟩ : decL (encS true (seg ([⟨#[97]⟩] : List ByteArray) 0 1) (seg ([⟨#[120, 121]⟩] : List ByteArray) 0 1) []) = true ∧ decK (encS true (seg ([⟨#[97]⟩] : List ByteArray) 0 1) (seg ([⟨#[120, 121]⟩] : List ByteArray) 0 1) []) = (seg ([⟨#[97]⟩] : List ByteArray) 0 1) ∧ decX (encS true (seg ([⟨#[97]⟩] : List ByteArray) 0 1) (seg ([⟨#[120, 121]⟩] : List ByteArray) 0 1) []) = (seg ([⟨#[120, 121]⟩] : List ByteArray) 0 1) ∧ decC (encS true (seg ([⟨#[97]⟩] : List ByteArray) 0 1) (seg ([⟨#[120, 121]⟩] : List ByteArray) 0 1) []) = [] ∧ decE (encS true (seg ([⟨#[97]⟩] : List ByteArray) 0 1) (seg ([⟨#[120, 121]⟩] : List ByteArray) 0 1) []) = 0 := dec_back wk_fit (fun c hc => by cases hc)
  have f3 : sizN true (seg ([⟨#[97]⟩] : List ByteArray) 0 1) (seg ([⟨#[120, 121]⟩] : List ByteArray) 0 1) [] = 11 := wk_siz
  have f4 : fitB true (seg ([⟨#[97]⟩] : List ByteArray) 0 1) (seg ([⟨#[120, 121]⟩] : List ByteArray) 0 1) [] = true := (fitB_iff _ _ _ _).2 wk_fit
  have g1 : eqLs (decK (encS true (seg ([⟨#[97]⟩] : List ByteArray) 0 1) (seg ([⟨#[120, 121]⟩] : List ByteArray) 0 1) [])) (seg ([⟨#[97]⟩] : List ByteArray) 0 1) = true := by rw [b2]; exact eqLs_self _
  have g2 : eqLs (decX (encS true (seg ([⟨#[97]⟩] : List ByteArray) 0 1) (seg ([⟨#[120, 121]⟩] : List ByteArray) 0 1) [])) (seg ([⟨#[120, 121]⟩] : List ByteArray) 0 1) = true := by rw [b3]; exact eqLs_self _
  have g3 : eqIs (decC (encS true (seg ([⟨#[97]⟩] : List ByteArray) 0 1) (seg ([⟨#[120, 121]⟩] : List ByteArray) 0 1) [])) [] = true := by rw [b4]; exact eqIs_self _
  have n1 : (decK (encS true (seg ([⟨#[97]⟩] : List ByteArray) 0 1) (seg ([⟨#[120, 121]⟩] : List ByteArray) 0 1) [])).length = 1 := by rw [b2]; rfl
  have n2 : (decX (encS true (seg ([⟨#[97]⟩] : List ByteArray) 0 1) (seg ([⟨#[120, 121]⟩] : List ByteArray) 0 1) [])).length = 1 := by rw [b3]; rfl
  have n3 : (decC (encS true (seg ([⟨#[97]⟩] : List ByteArray) 0 1) (seg ([⟨#[120, 121]⟩] : List ByteArray) 0 1) [])).length = 0 := by rw [b4]; rfl
  refine pure_of_W0 (tab := tabPgW) (fuel := 3) (d := 5) tabPgW_ok ?_
  repeat' ((conv => whnf); first | (with_reducible first | (refine W1.o ?_; constructor) | rfl | exact castL_self _ _) | ((with_reducible refine V.same_t ?_); exact rfl) | ((with_reducible refine andB_room ?_ ?_ ?_); (· kernel_rfl); (· (first | omega | (simp only [lens] <;> omega)))) | ((with_reducible refine W2.o ?_; constructor); · (first | (with_reducible assumption) | (first | omega | (simp only [lens] <;> omega)))) | ((with_reducible refine W3.o ?_; constructor); · (first | (with_reducible assumption) | (first | omega | (simp only [lens] <;> omega)))) | ((with_reducible refine W4.o ?_; constructor); · (first | (with_reducible first | assumption | exact decide_eq_true rfl | exact sEq_self _) | ((with_reducible refine eqOK_i ?_); kernel_rfl) | (first | exact f4 | exact g1 | exact g2 | exact g3 | exact b1))) | ((with_reducible refine iteB_f ?_ ?_); · (first | (with_reducible first | assumption | exact decide_eq_true rfl | exact sEq_self _) | ((with_reducible refine eqOK_i ?_); kernel_rfl) | (first | exact f4 | exact g1 | exact g2 | exact g3 | exact b1))) | (with_reducible refine W5.o ?_; constructor) | ((with_reducible refine W6.o ?_; constructor) <;> intro hB))
  all_goals ((conv => whnf); (try dsimp only); (try simp only [Nat.succ_eq_add_one, Nat.le_eq, castL_self]); (try omega))
  all_goals (try (first | omega | (simp only [lens] <;> omega)))
  all_goals first
    | (rw [f4]; rfl)
    | trace_state
noncomputable def true07F (args : List V) : Option (List Bool × V) := match args with
  | [] => some ([], .bool true)
  | _ => none
theorem true07F_ok (args : List V) (c : List Bool) (v : V) (h : true07F args = some (c, v)) (_ : allB c) : PureAt Try.prog 14 args v := by
  unfold true07F at h
  split at h
  · cases h; exact works07_at
  · cases h
end Go.Proofs.Ytlfhiophojahbaa
end

section
namespace Go.Proofs.Ytlfhiophojahbaa
open Go.Sym
set_option linter.unusedVariables false
set_option linter.unusedSimpArgs false
set_option maxRecDepth 100000
set_option maxHeartbeats 4000000
noncomputable def keyS : Int → ByteArray := hide fun n => strOf [107, (97 + n / 16) % 256, (97 + n % 16) % 256]
theorem keyS_eq (n : Int) : keyS n = strOf [107, (97 + n / 16) % 256, (97 + n % 16) % 256] := by unfold keyS; rw [hide_eq]
theorem key_at (n : Int) (hn : 0 ≤ n ∧ n < 256) : PureAt Try.prog 35 [.int .u8 n] (.str (keyS n)) := by
  rw [keyS_eq]
  refine pure_of_W0 (tab := noTab) (fuel := 3) (d := 4) noTab_ok ?_
  repeat' ((conv => whnf); first | (with_reducible first | (refine W1.o ?_; constructor) | rfl | exact castL_self _ _) | ((with_reducible refine V.same_t ?_); exact rfl) | ((with_reducible refine andB_room ?_ ?_ ?_); (· kernel_rfl); (· (first | omega | (simp only [lens] <;> omega)))) | ((with_reducible refine W2.o ?_; constructor); · (first | (with_reducible assumption) | (first | omega | (simp only [lens] <;> omega)))) | ((with_reducible refine W3.o ?_; constructor); · (first | (with_reducible assumption) | (first | omega | (simp only [lens] <;> omega)))) | ((with_reducible refine W4.o ?_; constructor); · (first | (with_reducible first | assumption | exact decide_eq_true rfl | exact sEq_self _) | ((with_reducible refine eqOK_i ?_); kernel_rfl))) | ((with_reducible refine iteB_f ?_ ?_); · (first | (with_reducible first | assumption | exact decide_eq_true rfl | exact sEq_self _) | ((with_reducible refine eqOK_i ?_); kernel_rfl))) | (with_reducible refine W5.o ?_; constructor) | ((with_reducible refine W6.o ?_; constructor) <;> intro hB))
  all_goals ((conv => whnf); (try dsimp only); (try simp only [Nat.succ_eq_add_one, Nat.le_eq, castL_self]); (try omega))
  all_goals (try (first | omega | (simp only [lens] <;> omega)))
  all_goals first
    | rfl
    | trace_state
noncomputable def keyNF (args : List V) : Option (List Bool × V) := match args with
  | [.int .u8 n] => some ([leI 0 n, ltI n 256], .str (keyS n))
  | _ => none
theorem keyNF_ok (args : List V) (c : List Bool) (v : V) (h : keyNF args = some (c, v)) (hc : allB c) : PureAt Try.prog 35 args v := by
  unfold keyNF at h
  split at h
  · cases h
    obtain ⟨c1, c2, _⟩ := hc
    rw [leI_eq] at c1
    rw [ltI_eq] at c2
    exact key_at _ ⟨of_decide_eq_true c1, of_decide_eq_true c2⟩
  · cases h
noncomputable def brK : Nat → List ByteArray := hide fun n => (List.range n).map fun i : Nat => keyS ((i : Int) % 256)
theorem brK_0 : brK 0 = [] := by unfold brK; rw [hide_eq]; rfl
theorem brK_succ (n : Nat) : brK (n + 1) = brK n ++ [keyS ((n : Int) % 256)] := by unfold brK; rw [hide_eq, List.range_succ, List.map_append]; rfl
theorem brK_len (n : Nat) : (brK n).length = n := by unfold brK; rw [hide_eq, List.length_map, List.length_range]
theorem brK_at {n j : Nat} (h : j < n) : atS (brK n) j = keyS ((j : Int) % 256) := by
  rw [atS_lt (by rw [brK_len]; exact h)]
  unfold brK
  simp only [hide_eq, List.getElem_map, List.getElem_range]
noncomputable def brV (L : List Int) (i : Nat) : Int := if i < L.length ∧ 0 < atI L i then atI L i else ((i : Int) + 2) % 4294967296
noncomputable def brI : List Int → Nat → List Int := hide fun L n => 1 :: (List.range n).map (brV L)
theorem brI_0 (L : List Int) : brI L 0 = [1] := by unfold brI; rw [hide_eq]; rfl
theorem brI_succ (L : List Int) (n : Nat) : brI L (n + 1) = brI L n ++ [brV L n] := by unfold brI; rw [hide_eq, List.range_succ, List.map_append]; rfl
theorem brI_len (L : List Int) (n : Nat) : (brI L n).length = n + 1 := by unfold brI; rw [hide_eq, List.length_cons, List.length_map, List.length_range]
theorem brV_yes {L : List Int} {n : Nat} (h : n < L.length) (h2 : 0 < atI L n) : brV L n = atI L n := if_pos ⟨h, h2⟩
theorem brV_no {L : List Int} {n : Nat} (h : n < L.length → ¬ 0 < atI L n) : brV L n = ((n : Int) + 2) % 4294967296 := if_neg fun k => h k.1 k.2
theorem brI_all {L : List Int} {n : Nat} (hn : n ≤ 1000) (hL : ∀ c ∈ L, 0 ≤ c ∧ c < 4294967296) : ∀ c ∈ brI L n, 0 < c ∧ c < 4294967296 := by
  intro c hc
  unfold brI at hc
  rw [hide_eq] at hc
  rcases List.mem_cons.1 hc with rfl | hc
  · omega
  · obtain ⟨i, hi, rfl⟩ := List.mem_map.1 hc
    rw [List.mem_range] at hi
    unfold brV
    split
    · rename_i h
      have := hL (atI L i) (by rw [atI_lt h.1]; exact List.getElem_mem _)
      omega
    · omega
theorem br_rise : ∀ j : Nat, j < 100 → sLt (strOf [107, (97 + (j : Int) / 16) % 256, (97 + (j : Int) % 16) % 256]) (strOf [107, (97 + ((j : Int) + 1) / 16) % 256, (97 + ((j : Int) + 1) % 16) % 256]) = true := by decide +kernel
theorem br_may {L : List Int} {n : Nat} (h1 : 1 ≤ n) (h2 : n ≤ 100) (hL : ∀ c ∈ L, 0 ≤ c ∧ c < 4294967296) : mayP false (brK n) [] (brI L n) := by
  refine ⟨⟨rfl, by rw [brI_len, brK_len]⟩, by rw [brK_len]; omega, by rw [brK_len]; omega, (keysB_iff _).2 ?_, (valsB_iff _).2 ?_, (kidsB_iff _).2 ?_⟩
  · rw [brK_len]
    intro j hj
    rw [brK_at hj, keyS_eq]
    refine ⟨?_, by rw [strOf_size]; exact Nat.le_trans (Nat.le_of_eq rfl) (show 3 ≤ 24 by decide)⟩
    rcases Nat.eq_zero_or_pos j with rfl | hp
    · rw [ahS_0]; decide +kernel
    · obtain ⟨i, rfl⟩ : ∃ i, j = i + 1 := ⟨j - 1, by omega⟩
      rw [ahS_succ, brK_at (by omega), keyS_eq]
      have e1 : (i : Int) % 256 = i := by omega
      have e2 : ((i + 1 : Nat) : Int) % 256 = (i : Int) + 1 := by omega
      rw [e1, e2]
      exact br_rise i (by omega)
  · intro j hj
    exact absurd hj (Nat.not_lt_zero j)
  · intro j hj
    rw [atI_lt hj]
    exact (brI_all (by omega) hL _ (List.getElem_mem _)).1
theorem br_spl {L : List Int} {n : Nat} (h1 : 3 ≤ n) (h2 : n ≤ 100) (hL : ∀ c ∈ L, 0 ≤ c ∧ c < 4294967296) :
    ∃ a : Nat, 1 ≤ a ∧ a + 2 ≤ n ∧ s1L false (brK n) [] (brI L n) = false ∧ s1K false (brK n) [] (brI L n) = (brK n).take a ∧ s1X false (brK n) [] (brI L n) = [] ∧ s1C false (brK n) [] (brI L n) = (brI L n).take (a + 1) ∧ s2K false (brK n) [] (brI L n) = (brK n).drop (a + 1) ∧ s2X false (brK n) [] (brI L n) = [] ∧ s2C false (brK n) [] (brI L n) = (brI L n).drop (a + 1) ∧ sKey false (brK n) [] (brI L n) = atS (brK n) a ∧ sErr false (brK n) [] (brI L n) = 0 := by
  have hok : okS false (brK n) [] (brI L n) := ⟨br_may (by omega) h2 hL, by rw [brK_len]; exact h1⟩
  obtain ⟨e1, e2, e3, e4, e5, e6, e7, e8, e9⟩ := spl_knot hok
  obtain ⟨a0, a1, a2⟩ := sp_in (fKt (brK n) (brI L n)) ((brK n).length - 2)
  have hl := brK_len n
  obtain ⟨a, ha⟩ := Int.eq_ofNat_of_zero_le a0
  have a3 := a2 (by omega)
  rw [ha] at e2 e4 e5 e7 e8
  have t1 : Int.toNat ((a : Int) + 1) = a + 1 := by omega
  have t2 : Int.toNat (a : Int) = a := by omega
  rw [t1] at e4 e5 e7
  rw [t2] at e2 e8
  rw [tkS_eq] at e2
  rw [tkI_eq] at e4
  rw [dpS_eq] at e5
  rw [dpI_eq] at e7
  exact ⟨a, by omega, by omega, e1, e2, e3, e4, e5, e6, e7, e8, e9⟩
theorem br_join {L : List ByteArray} {a : Nat} (h : a < L.length) : L.take a ++ [atS L a] ++ L.drop (a + 1) = L := by
  rw [atS_lt h, ← List.take_succ_eq_append_getElem h, List.take_append_drop]
end Go.Proofs.Ytlfhiophojahbaa
end
