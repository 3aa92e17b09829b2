/-
  Texts of this claim, one behind the other: PgRef PgRefE PgSpl PgSplF PgHvL PgDec PgDecW. Each says its own conditions.
-/
import Derived.Test.YtlfhiophojahbaaPgHM8
import Derived.Test.YtlfhiophojahbaaPgHM5

set_option linter.unusedVariables false
set_option linter.unusedSimpArgs false
set_option linter.unusedSectionVars false
section
namespace Go.Proofs.Ytlfhiophojahbaa
open Go.Sym
set_option linter.unusedVariables false
set_option linter.unusedSimpArgs false
set_option maxRecDepth 100000
set_option maxHeartbeats 4000000

theorem strOf_bytesL (s : ByteArray) : strOf (bytesL s) = s := by
  apply ByteArray.ext
  unfold strOf bytesL
  rw [List.map_map]
  have e : (s.data.toList.map ((fun n : Int => UInt8.ofNat n.toNat) ∘ fun b : UInt8 => (b.toNat : Int))) = s.data.toList := by
    rw [List.map_congr_left (g := id)]
    · simp
    · intro x _
      simp
  rw [e]
section
variable (l : Bool) (K X : List ByteArray) (C : List Int)
end
noncomputable def kidsZ : List Int → Bool := hide fun C => (List.range C.length).all fun j => decide (0 ≤ atI C j ∧ atI C j < 4294967296)
theorem kidsZ_iff (C : List Int) : kidsZ C = true ↔ ∀ j, j < C.length → 0 ≤ atI C j ∧ atI C j < 4294967296 := by
  unfold kidsZ
  rw [hide_eq, List.all_eq_true]
  simp only [List.mem_range, decide_eq_true_eq]
theorem kidsZ_of {C : List Int} (h : ∀ c ∈ C, 0 ≤ c ∧ c < 4294967296) : kidsZ C = true := (kidsZ_iff C).2 fun j hj => by
  rw [atI_lt hj]
  exact h _ (List.getElem_mem hj)
noncomputable def lensZ (K X : List ByteArray) (C : List Int) : List Bool := [decide (K.length ≤ 4611686018427387904), decide (X.length ≤ 4611686018427387904), decide (C.length ≤ 4611686018427387904), kidsZ C]
section
variable (l : Bool) (K X : List ByteArray) (C : List Int)
end
end Go.Proofs.Ytlfhiophojahbaa
end

section
namespace Go.Proofs.Ytlfhiophojahbaa
open Go.Sym
set_option linter.unusedVariables false
set_option linter.unusedSimpArgs false
set_option maxRecDepth 100000
set_option maxHeartbeats 4000000

section
variable (l : Bool) (K X : List ByteArray) (C : List Int)
noncomputable def encodeF : List V → Option (List Bool × V) := nodeF fun l K X C => (lensB K X C, .tup [.str (encS l K X C), .int .i64 (encE l K X C)])
theorem encodeF_ok (args : List V) (c : List Bool) (v : V) (h : encodeF args = some (c, v)) (hc : allB c) : PureAt Try.prog 16 args v :=
  nodeF_ok (fun l K X C h => by obtain ⟨h1, h2, h3⟩ := lensB_ok h; exact encode_at l K X C h1 h2 h3) args c v h hc
end
end Go.Proofs.Ytlfhiophojahbaa
end

section
namespace Go.Proofs.Ytlfhiophojahbaa
open Go.Sym
set_option linter.unusedVariables false
set_option linter.unusedSimpArgs false
set_option maxRecDepth 100000
set_option maxHeartbeats 4000000
noncomputable def spS0 (f : Int → Int) : Nat → Int × Int
  | 0 => (0, 0)
  | n + 1 => if (spS0 f n).1 = 0 ∨ f ((n : Int) + 1) < (spS0 f n).2 then ((n : Int) + 1, f ((n : Int) + 1)) else spS0 f n
noncomputable def spA : (Int → Int) → Nat → Int := hide fun f n => (spS0 f n).1
noncomputable def spM : (Int → Int) → Nat → Int := hide fun f n => (spS0 f n).2
theorem spA_eq (f : Int → Int) (n : Nat) : spA f n = (spS0 f n).1 := by unfold spA; rw [hide_eq]
theorem spM_eq (f : Int → Int) (n : Nat) : spM f n = (spS0 f n).2 := by unfold spM; rw [hide_eq]
theorem sp_yes {f : Int → Int} {n : Nat} (h : spA f n = 0 ∨ f ((n : Int) + 1) < spM f n) : spA f (n + 1) = (n : Int) + 1 ∧ spM f (n + 1) = f ((n : Int) + 1) := by
  rw [spA_eq, spM_eq] at h
  rw [spA_eq, spM_eq, spS0, if_pos h]
  exact ⟨rfl, rfl⟩
theorem sp_no {f : Int → Int} {n : Nat} (h : ¬ (spA f n = 0 ∨ f ((n : Int) + 1) < spM f n)) : spA f (n + 1) = spA f n ∧ spM f (n + 1) = spM f n := by
  rw [spA_eq, spM_eq] at h
  rw [spA_eq, spM_eq, spS0, if_neg h, spA_eq, spM_eq]
  exact ⟨rfl, rfl⟩
theorem sp_0 (f : Int → Int) : spA f 0 = 0 ∧ spM f 0 = 0 := by rw [spA_eq, spM_eq]; exact ⟨rfl, rfl⟩
theorem sp_in (f : Int → Int) : ∀ n : Nat, 0 ≤ spA f n ∧ spA f n ≤ n ∧ (0 < n → 1 ≤ spA f n)
  | 0 => by rw [(sp_0 f).1]; simp
  | n + 1 => by
    have ih := sp_in f n
    by_cases h : spA f n = 0 ∨ f ((n : Int) + 1) < spM f n
    · rw [(sp_yes h).1]; omega
    · rw [(sp_no h).1]
      have : spA f n ≠ 0 := fun e => h (.inl e)
      omega
noncomputable abbrev fLf (K X : List ByteArray) (i : Int) : Int := maxI (sizN true (tkS K (Int.toNat i)) (tkS X (Int.toNat i)) []) (sizN true (dpS K (Int.toNat i)) (dpS X (Int.toNat i)) [])
noncomputable abbrev fKt (K : List ByteArray) (C : List Int) (i : Int) : Int := maxI (sizN false (tkS K (Int.toNat i)) [] (tkI C (Int.toNat (i + 1)))) (sizN false (dpS K (Int.toNat (i + 1))) [] (dpI C (Int.toNat (i + 1))))
theorem tkS_len (K : List ByteArray) (i : Nat) : (tkS K i).length ≤ K.length := by rw [tkS_eq, List.length_take]; omega
theorem dpS_len (K : List ByteArray) (i : Nat) : (dpS K i).length ≤ K.length := by rw [dpS_eq, List.length_drop]; omega
theorem tkI_len (K : List Int) (i : Nat) : (tkI K i).length ≤ K.length := by rw [tkI_eq, List.length_take]; omega
theorem dpI_len (K : List Int) (i : Nat) : (dpI K i).length ≤ K.length := by rw [dpI_eq, List.length_drop]; omega
theorem kidsZ_all {C : List Int} (h : kidsZ C = true) : ∀ c ∈ C, 0 ≤ c ∧ c < 4294967296 := fun c hc => by
  obtain ⟨i, hi, rfl⟩ := List.mem_iff_getElem.1 hc
  have := (kidsZ_iff C).1 h i hi
  rw [atI_lt hi] at this
  exact this
theorem kidsZ_nil : kidsZ [] = true := kidsZ_of fun c hc => by cases hc
theorem kidsZ_tk {C : List Int} (h : kidsZ C = true) (i : Nat) : kidsZ (tkI C i) = true := kidsZ_of fun c hc => kidsZ_all h c (by rw [tkI_eq] at hc; exact List.mem_of_mem_take hc)
theorem kidsZ_dp {C : List Int} (h : kidsZ C = true) (i : Nat) : kidsZ (dpI C i) = true := kidsZ_of fun c hc => kidsZ_all h c (by rw [dpI_eq] at hc; exact List.mem_of_mem_drop hc)
noncomputable def tabPgS : Tab := oneTab 44 mayF (oneTab 31 sizeF (oneTab 56 halfF noTab))
theorem tabPgS_ok : TabOK Try.prog tabPgS := oneTab_ok mayF_ok (oneTab_ok sizeF_ok (oneTab_ok halfF_ok noTab_ok))
section
variable (l : Bool) (K X : List ByteArray) (C : List Int) (f : Int → Int) (last : Nat)
noncomputable abbrev spH : List (Nat × EObj) := [(0, .cells [.bool l, .lst [.str] K false, .lst [.str] X false, .lst [.int .u32] C false] 0 false), (1, .cells [.bool false, .nils, .nils, .nils] 0 false), (2, .cells [.bool false, .nils, .nils, .nils] 0 false)]
noncomputable def spC (n : Nat) : CD := ⟨68, [(1, .ptr 0 0), (2, .ptr 1 0), (3, .ptr 2 0), (6, .int .i64 (last : Int)), (7, .int .i64 (spA f n)), (8, .int .i64 (spM f n)), (9, .int .i64 ((n : Int) + 1))], [], spH l K X C, 3⟩
theorem sp_leaf (hK : K.length ≤ 255) (hX : X.length = K.length) (hl : last + 1 = K.length) (N : Nat) : LpD.ok Try.prog N 0 (bodyOf Try.prog 29) ⟨8, [(0, 0), (1, 1), (2, 2)], spC true K X C (fLf K X) last 0, .leaf (.exit 0) (spC true K X C (fLf K X) last last)⟩ := by
  refine LpD.ok_one (b := bodyAt Try.prog 29 8) rfl (loop_W tabPgS_ok (fuel := 3) (d := 4) (X := { n : Nat // n ≤ last }) (fun x => spC true K X C (fLf K X) last x.1) (fun x => last - x.1)
    (fun _ => .leaf (.exit 0) (spC true K X C (fLf K X) last last)) (fun _ => noLpW) (fun _ => noLp) (fun _ => noLp_ad) (fun _ => noLp_ok _) ?_ ⟨0, Nat.zero_le _⟩)
  rintro ⟨n, hn⟩
  dsimp only
  rcases Nat.lt_or_ge n last with hlt | hge
  · have z1 := sizN_in true (tkS K (Int.toNat ((n : Int) + 1))) (tkS X (Int.toNat ((n : Int) + 1))) []
    have z2 := sizN_in true (dpS K (Int.toNat ((n : Int) + 1))) (dpS X (Int.toNat ((n : Int) + 1))) []
    have eM := maxI_eq (sizN true (tkS K (Int.toNat ((n : Int) + 1))) (tkS X (Int.toNat ((n : Int) + 1))) []) (sizN true (dpS K (Int.toNat ((n : Int) + 1))) (dpS X (Int.toNat ((n : Int) + 1))) [])
    have l1 := tkS_len K (Int.toNat ((n : Int) + 1))
    have l2 := tkS_len X (Int.toNat ((n : Int) + 1))
    have l3 := dpS_len K (Int.toNat ((n : Int) + 1))
    have l4 := dpS_len X (Int.toNat ((n : Int) + 1))
    have k1 := kidsZ_nil
    have k2 := kidsZ_nil
    by_cases hc : spA (fLf K X) n = 0 ∨ (fLf K X) ((n : Int) + 1) < spM (fLf K X) n
    · obtain ⟨s1, s2⟩ := sp_yes hc
      have hc : spA (fLf K X) n = 0 ∨ maxI (sizN true (tkS K (Int.toNat ((n : Int) + 1))) (tkS X (Int.toNat ((n : Int) + 1))) []) (sizN true (dpS K (Int.toNat ((n : Int) + 1))) (dpS X (Int.toNat ((n : Int) + 1))) []) < spM (fLf K X) n := hc
      repeat' ((conv => whnf); first | (with_reducible first | (refine W1.o ?_; constructor) | rfl | exact castL_self _ _) | ((with_reducible refine V.same_t ?_); exact rfl) | ((with_reducible refine andB_room ?_ ?_ ?_); (· kernel_rfl); (· (first | omega | (simp only [lens] <;> omega)))) | ((with_reducible refine W2.o ?_; constructor); · (first | (with_reducible assumption) | (first | omega | (simp only [lens] <;> omega)))) | ((with_reducible refine W3.o ?_; constructor); · (first | (with_reducible assumption) | (first | omega | (simp only [lens] <;> omega)))) | ((with_reducible refine W4.o ?_; constructor); · (first | (with_reducible first | assumption | exact decide_eq_true rfl | exact sEq_self _) | ((with_reducible refine eqOK_i ?_); kernel_rfl) | (first | exact k1 | exact k2))) | ((with_reducible refine iteB_f ?_ ?_); · (first | (with_reducible first | assumption | exact decide_eq_true rfl | exact sEq_self _) | ((with_reducible refine eqOK_i ?_); kernel_rfl) | (first | exact k1 | exact k2))) | (refine ⟨⟨n + 1, hlt⟩, ?_, rfl, ?_⟩) | (with_reducible refine CD.wk_au ?_) | (with_reducible refine W5.o ?_; constructor) | ((with_reducible refine W6.o ?_; constructor) <;> intro hB))
      all_goals ((conv => whnf); (try dsimp only); (try simp only [Nat.succ_eq_add_one, Nat.le_eq, castL_self]); (try omega))
      all_goals (try (first | omega | (simp only [lens] <;> omega)))
      all_goals first
        | omega
        | exact s1.symm
        | exact s2.symm
        | trace_state
    · obtain ⟨s1, s2⟩ := sp_no hc
      have hc : ¬ (spA (fLf K X) n = 0 ∨ maxI (sizN true (tkS K (Int.toNat ((n : Int) + 1))) (tkS X (Int.toNat ((n : Int) + 1))) []) (sizN true (dpS K (Int.toNat ((n : Int) + 1))) (dpS X (Int.toNat ((n : Int) + 1))) []) < spM (fLf K X) n) := hc
      repeat' ((conv => whnf); first | (with_reducible first | (refine W1.o ?_; constructor) | rfl | exact castL_self _ _) | ((with_reducible refine V.same_t ?_); exact rfl) | ((with_reducible refine andB_room ?_ ?_ ?_); (· kernel_rfl); (· (first | omega | (simp only [lens] <;> omega)))) | ((with_reducible refine W2.o ?_; constructor); · (first | (with_reducible assumption) | (first | omega | (simp only [lens] <;> omega)))) | ((with_reducible refine W3.o ?_; constructor); · (first | (with_reducible assumption) | (first | omega | (simp only [lens] <;> omega)))) | ((with_reducible refine W4.o ?_; constructor); · (first | (with_reducible first | assumption | exact decide_eq_true rfl | exact sEq_self _) | ((with_reducible refine eqOK_i ?_); kernel_rfl) | (first | exact k1 | exact k2))) | ((with_reducible refine iteB_f ?_ ?_); · (first | (with_reducible first | assumption | exact decide_eq_true rfl | exact sEq_self _) | ((with_reducible refine eqOK_i ?_); kernel_rfl) | (first | exact k1 | exact k2))) | (refine ⟨⟨n + 1, hlt⟩, ?_, rfl, ?_⟩) | (with_reducible refine CD.wk_au ?_) | (with_reducible refine W5.o ?_; constructor) | ((with_reducible refine W6.o ?_; constructor) <;> intro hB))
      all_goals ((conv => whnf); (try dsimp only); (try simp only [Nat.succ_eq_add_one, Nat.le_eq, castL_self]); (try omega))
      all_goals (try (first | omega | (simp only [lens] <;> omega)))
      all_goals first
        | omega
        | exact s1.symm
        | exact s2.symm
        | trace_state
  · have he : n = last := Nat.le_antisymm hn hge
    subst he
    repeat' ((conv => whnf); first | (with_reducible first | (refine W1.o ?_; constructor) | rfl | exact castL_self _ _) | ((with_reducible refine V.same_t ?_); exact rfl) | ((with_reducible refine andB_room ?_ ?_ ?_); (· kernel_rfl); (· (first | omega | (simp only [lens] <;> omega)))) | ((with_reducible refine W2.o ?_; constructor); · (first | (with_reducible assumption) | (first | omega | (simp only [lens] <;> omega)))) | ((with_reducible refine W3.o ?_; constructor); · (first | (with_reducible assumption) | (first | omega | (simp only [lens] <;> omega)))) | ((with_reducible refine W4.o ?_; constructor); · (first | (with_reducible first | assumption | exact decide_eq_true rfl | exact sEq_self _) | ((with_reducible refine eqOK_i ?_); kernel_rfl))) | ((with_reducible refine iteB_f ?_ ?_); · (first | (with_reducible first | assumption | exact decide_eq_true rfl | exact sEq_self _) | ((with_reducible refine eqOK_i ?_); kernel_rfl))) | (with_reducible refine CD.wk_au ?_) | (with_reducible refine W5.o ?_; constructor) | ((with_reducible refine W6.o ?_; constructor) <;> intro hB))
    all_goals ((conv => whnf); (try dsimp only); (try simp only [Nat.succ_eq_add_one, Nat.le_eq, castL_self]); (try omega))
    all_goals (try (first | omega | (simp only [lens] <;> omega)))
    all_goals trace_state
theorem sp_knot (hK : K.length ≤ 255) (hC : C.length = K.length + 1) (hl : last + 2 = K.length) (hz : kidsZ C = true) (N : Nat) : LpD.ok Try.prog N 0 (bodyOf Try.prog 29) ⟨8, [(0, 0), (1, 1), (2, 2)], spC false K X C (fKt K C) last 0, .leaf (.exit 0) (spC false K X C (fKt K C) last last)⟩ := by
  refine LpD.ok_one (b := bodyAt Try.prog 29 8) rfl (loop_W tabPgS_ok (fuel := 3) (d := 4) (X := { n : Nat // n ≤ last }) (fun x => spC false K X C (fKt K C) last x.1) (fun x => last - x.1)
    (fun _ => .leaf (.exit 0) (spC false K X C (fKt K C) last last)) (fun _ => noLpW) (fun _ => noLp) (fun _ => noLp_ad) (fun _ => noLp_ok _) ?_ ⟨0, Nat.zero_le _⟩)
  rintro ⟨n, hn⟩
  dsimp only
  rcases Nat.lt_or_ge n last with hlt | hge
  · have z1 := sizN_in false (tkS K (Int.toNat ((n : Int) + 1))) [] (tkI C (Int.toNat (((n : Int) + 1) + 1)))
    have z2 := sizN_in false (dpS K (Int.toNat (((n : Int) + 1) + 1))) [] (dpI C (Int.toNat (((n : Int) + 1) + 1)))
    have eM := maxI_eq (sizN false (tkS K (Int.toNat ((n : Int) + 1))) [] (tkI C (Int.toNat (((n : Int) + 1) + 1)))) (sizN false (dpS K (Int.toNat (((n : Int) + 1) + 1))) [] (dpI C (Int.toNat (((n : Int) + 1) + 1))))
    have l1 := tkS_len K (Int.toNat ((n : Int) + 1))
    have l2 := tkI_len C (Int.toNat (((n : Int) + 1) + 1))
    have l3 := dpS_len K (Int.toNat (((n : Int) + 1) + 1))
    have l4 := dpI_len C (Int.toNat (((n : Int) + 1) + 1))
    have k1 := kidsZ_tk hz (Int.toNat (((n : Int) + 1) + 1))
    have k2 := kidsZ_dp hz (Int.toNat (((n : Int) + 1) + 1))
    by_cases hc : spA (fKt K C) n = 0 ∨ (fKt K C) ((n : Int) + 1) < spM (fKt K C) n
    · obtain ⟨s1, s2⟩ := sp_yes hc
      have hc : spA (fKt K C) n = 0 ∨ maxI (sizN false (tkS K (Int.toNat ((n : Int) + 1))) [] (tkI C (Int.toNat (((n : Int) + 1) + 1)))) (sizN false (dpS K (Int.toNat (((n : Int) + 1) + 1))) [] (dpI C (Int.toNat (((n : Int) + 1) + 1)))) < spM (fKt K C) n := hc
      repeat' ((conv => whnf); first | (with_reducible first | (refine W1.o ?_; constructor) | rfl | exact castL_self _ _) | ((with_reducible refine V.same_t ?_); exact rfl) | ((with_reducible refine andB_room ?_ ?_ ?_); (· kernel_rfl); (· (first | omega | (simp only [lens] <;> omega)))) | ((with_reducible refine W2.o ?_; constructor); · (first | (with_reducible assumption) | (first | omega | (simp only [lens] <;> omega)))) | ((with_reducible refine W3.o ?_; constructor); · (first | (with_reducible assumption) | (first | omega | (simp only [lens] <;> omega)))) | ((with_reducible refine W4.o ?_; constructor); · (first | (with_reducible first | assumption | exact decide_eq_true rfl | exact sEq_self _) | ((with_reducible refine eqOK_i ?_); kernel_rfl) | (first | exact k1 | exact k2))) | ((with_reducible refine iteB_f ?_ ?_); · (first | (with_reducible first | assumption | exact decide_eq_true rfl | exact sEq_self _) | ((with_reducible refine eqOK_i ?_); kernel_rfl) | (first | exact k1 | exact k2))) | (refine ⟨⟨n + 1, hlt⟩, ?_, rfl, ?_⟩) | (with_reducible refine CD.wk_au ?_) | (with_reducible refine W5.o ?_; constructor) | ((with_reducible refine W6.o ?_; constructor) <;> intro hB))
      all_goals ((conv => whnf); (try dsimp only); (try simp only [Nat.succ_eq_add_one, Nat.le_eq, castL_self]); (try omega))
      all_goals (try (first | omega | (simp only [lens] <;> omega)))
      all_goals first
        | omega
        | exact s1.symm
        | exact s2.symm
        | trace_state
    · obtain ⟨s1, s2⟩ := sp_no hc
      have hc : ¬ (spA (fKt K C) n = 0 ∨ maxI (sizN false (tkS K (Int.toNat ((n : Int) + 1))) [] (tkI C (Int.toNat (((n : Int) + 1) + 1)))) (sizN false (dpS K (Int.toNat (((n : Int) + 1) + 1))) [] (dpI C (Int.toNat (((n : Int) + 1) + 1)))) < spM (fKt K C) n) := hc
      repeat' ((conv => whnf); first | (with_reducible first | (refine W1.o ?_; constructor) | rfl | exact castL_self _ _) | ((with_reducible refine V.same_t ?_); exact rfl) | ((with_reducible refine andB_room ?_ ?_ ?_); (· kernel_rfl); (· (first | omega | (simp only [lens] <;> omega)))) | ((with_reducible refine W2.o ?_; constructor); · (first | (with_reducible assumption) | (first | omega | (simp only [lens] <;> omega)))) | ((with_reducible refine W3.o ?_; constructor); · (first | (with_reducible assumption) | (first | omega | (simp only [lens] <;> omega)))) | ((with_reducible refine W4.o ?_; constructor); · (first | (with_reducible first | assumption | exact decide_eq_true rfl | exact sEq_self _) | ((with_reducible refine eqOK_i ?_); kernel_rfl) | (first | exact k1 | exact k2))) | ((with_reducible refine iteB_f ?_ ?_); · (first | (with_reducible first | assumption | exact decide_eq_true rfl | exact sEq_self _) | ((with_reducible refine eqOK_i ?_); kernel_rfl) | (first | exact k1 | exact k2))) | (refine ⟨⟨n + 1, hlt⟩, ?_, rfl, ?_⟩) | (with_reducible refine CD.wk_au ?_) | (with_reducible refine W5.o ?_; constructor) | ((with_reducible refine W6.o ?_; constructor) <;> intro hB))
      all_goals ((conv => whnf); (try dsimp only); (try simp only [Nat.succ_eq_add_one, Nat.le_eq, castL_self]); (try omega))
      all_goals (try (first | omega | (simp only [lens] <;> omega)))
      all_goals first
        | omega
        | exact s1.symm
        | exact s2.symm
        | trace_state
  · have he : n = last := Nat.le_antisymm hn hge
    subst he
    repeat' ((conv => whnf); first | (with_reducible first | (refine W1.o ?_; constructor) | rfl | exact castL_self _ _) | ((with_reducible refine V.same_t ?_); exact rfl) | ((with_reducible refine andB_room ?_ ?_ ?_); (· kernel_rfl); (· (first | omega | (simp only [lens] <;> omega)))) | ((with_reducible refine W2.o ?_; constructor); · (first | (with_reducible assumption) | (first | omega | (simp only [lens] <;> omega)))) | ((with_reducible refine W3.o ?_; constructor); · (first | (with_reducible assumption) | (first | omega | (simp only [lens] <;> omega)))) | ((with_reducible refine W4.o ?_; constructor); · (first | (with_reducible first | assumption | exact decide_eq_true rfl | exact sEq_self _) | ((with_reducible refine eqOK_i ?_); kernel_rfl))) | ((with_reducible refine iteB_f ?_ ?_); · (first | (with_reducible first | assumption | exact decide_eq_true rfl | exact sEq_self _) | ((with_reducible refine eqOK_i ?_); kernel_rfl))) | (with_reducible refine CD.wk_au ?_) | (with_reducible refine W5.o ?_; constructor) | ((with_reducible refine W6.o ?_; constructor) <;> intro hB))
    all_goals ((conv => whnf); (try dsimp only); (try simp only [Nat.succ_eq_add_one, Nat.le_eq, castL_self]); (try omega))
    all_goals (try (first | omega | (simp only [lens] <;> omega)))
    all_goals trace_state
end
end Go.Proofs.Ytlfhiophojahbaa
end

section
namespace Go.Proofs.Ytlfhiophojahbaa
open Go.Sym
set_option linter.unusedVariables false
set_option linter.unusedSimpArgs false
set_option maxRecDepth 100000
set_option maxHeartbeats 4000000
def okS (l : Bool) (K X : List ByteArray) (C : List Int) : Prop := mayP l K X C ∧ (if l = true then 2 ≤ K.length else 3 ≤ K.length)
noncomputable def atN (l : Bool) (K X : List ByteArray) (C : List Int) : Int := if l = true then spA (fLf K X) (K.length - 1) else spA (fKt K C) (K.length - 2)
section
open Classical
noncomputable def s1L : Bool → List ByteArray → List ByteArray → List Int → Bool := hide fun l K X C => if okS l K X C then l else false
noncomputable def s1K : Bool → List ByteArray → List ByteArray → List Int → List ByteArray := hide fun l K X C => if okS l K X C then tkS K (atN l K X C).toNat else []
noncomputable def s1X : Bool → List ByteArray → List ByteArray → List Int → List ByteArray := hide fun l K X C => if okS l K X C ∧ l = true then tkS X (atN l K X C).toNat else []
noncomputable def s1C : Bool → List ByteArray → List ByteArray → List Int → List Int := hide fun l K X C => if okS l K X C ∧ l = false then tkI C (atN l K X C + 1).toNat else []
noncomputable def s2K : Bool → List ByteArray → List ByteArray → List Int → List ByteArray := hide fun l K X C => if okS l K X C then (if l = true then dpS K (atN l K X C).toNat else dpS K (atN l K X C + 1).toNat) else []
noncomputable def s2X : Bool → List ByteArray → List ByteArray → List Int → List ByteArray := hide fun l K X C => if okS l K X C ∧ l = true then dpS X (atN l K X C).toNat else []
noncomputable def s2C : Bool → List ByteArray → List ByteArray → List Int → List Int := hide fun l K X C => if okS l K X C ∧ l = false then dpI C (atN l K X C + 1).toNat else []
noncomputable def sKey : Bool → List ByteArray → List ByteArray → List Int → ByteArray := hide fun l K X C => if okS l K X C then atS K (atN l K X C).toNat else ⟨#[]⟩
noncomputable def sErr : Bool → List ByteArray → List ByteArray → List Int → Int := hide fun l K X C => if okS l K X C then 0 else 2
end
theorem spl_no {l : Bool} {K X : List ByteArray} {C : List Int} (h : ¬ okS l K X C) : s1L l K X C = false ∧ s1K l K X C = [] ∧ s1X l K X C = [] ∧ s1C l K X C = [] ∧ s2K l K X C = [] ∧ s2X l K X C = [] ∧ s2C l K X C = [] ∧ sKey l K X C = ⟨#[]⟩ ∧ sErr l K X C = 2 := by
  unfold s1L s1K s1X s1C s2K s2X s2C sKey sErr
  simp [hide_eq, h, atN]
theorem spl_leaf {K X : List ByteArray} {C : List Int} (h : okS true K X C) : s1L true K X C = true ∧ s1K true K X C = tkS K (spA (fLf K X) (K.length - 1)).toNat ∧ s1X true K X C = tkS X (spA (fLf K X) (K.length - 1)).toNat ∧ s1C true K X C = [] ∧ s2K true K X C = dpS K (spA (fLf K X) (K.length - 1)).toNat ∧ s2X true K X C = dpS X (spA (fLf K X) (K.length - 1)).toNat ∧ s2C true K X C = [] ∧ sKey true K X C = atS K (spA (fLf K X) (K.length - 1)).toNat ∧ sErr true K X C = 0 := by
  unfold s1L s1K s1X s1C s2K s2X s2C sKey sErr
  simp [hide_eq, h, atN]
theorem spl_knot {K X : List ByteArray} {C : List Int} (h : okS false K X C) : s1L false K X C = false ∧ s1K false K X C = tkS K (spA (fKt K C) (K.length - 2)).toNat ∧ s1X false K X C = [] ∧ s1C false K X C = tkI C (spA (fKt K C) (K.length - 2) + 1).toNat ∧ s2K false K X C = dpS K (spA (fKt K C) (K.length - 2) + 1).toNat ∧ s2X false K X C = [] ∧ s2C false K X C = dpI C (spA (fKt K C) (K.length - 2) + 1).toNat ∧ sKey false K X C = atS K (spA (fKt K C) (K.length - 2)).toNat ∧ sErr false K X C = 0 := by
  unfold s1L s1K s1X s1C s2K s2X s2C sKey sErr
  simp [hide_eq, h, atN]
noncomputable abbrev splV (l : Bool) (K X : List ByteArray) (C : List Int) : V := .tup [nodeV (s1L l K X C) (s1K l K X C) (s1X l K X C) (s1C l K X C), nodeV (s1L l K X C) (s2K l K X C) (s2X l K X C) (s2C l K X C), .str (sKey l K X C), .int .i64 (sErr l K X C)]
theorem nil_spl {ρ : Env} : ∀ X, VRel ρ (.tup [.agg [.bool false, .nils, .nils, .nils], .agg [.bool false, .nils, .nils, .nils], .str ⟨#[]⟩, .int .i64 2]) X → VRel ρ (.tup [nodeV false [] [] [], nodeV false [] [] [], .str ⟨#[]⟩, .int .i64 2]) X :=
  tup_of (LRel.cons_of (node_rel rfl rfl rfl) (LRel.cons_of (node_rel rfl rfl rfl) fun _ h => h))
theorem split_at (l : Bool) (K X : List ByteArray) (C : List Int) (hK : K.length ≤ 4611686018427387904) (hX : X.length ≤ 4611686018427387904) (hC : C.length ≤ 4611686018427387904) (hz : kidsZ C = true) : PureAt Try.prog 29 [nodeV l K X C] (splV l K X C) := by
  by_cases hok : okS l K X C
  · obtain ⟨hm, h2⟩ := hok
    have hb := (mayB_iff l K X C).2 hm
    have hK255 := hm.2.2.1
    cases l with
    | true =>
      have hok : okS true K X C := ⟨hm, h2⟩
      have h2 : 2 ≤ K.length := h2
      obtain ⟨hx, hc⟩ := may_x hm
      obtain ⟨e1, e2, e3, e4, e5, e6, e7, e8, e9⟩ := spl_leaf hok
      rw [splV, e1, e2, e3, e4, e5, e6, e7, e8, e9]
      obtain ⟨a0, a1, a2⟩ := sp_in (fLf K X) (K.length - 1)
      obtain ⟨z1, z2⟩ := sp_0 (fLf K X)
      refine pure_of_loops tabPgS_ok (fuel := 3) (d := 4) [⟨8, [(0, 0), (1, 1), (2, 2)], spC true K X C (fLf K X) (K.length - 1) 0, .leaf (.exit 0) (spC true K X C (fLf K X) (K.length - 1) (K.length - 1))⟩] ?_ ?_
      · intro N y hy
        rw [List.mem_singleton.1 hy]
        exact sp_leaf K X C (K.length - 1) hK255 hx (by omega) N
      · repeat' ((conv => whnf); first | (with_reducible first | (refine W1.o ?_; constructor) | rfl | exact castL_self _ _) | ((with_reducible refine V.same_t ?_); exact rfl) | ((with_reducible refine andB_room ?_ ?_ ?_); (· kernel_rfl); (· (first | omega | (simp only [lens] <;> omega)))) | ((with_reducible refine W2.o ?_; constructor); · (first | (with_reducible assumption) | (first | omega | (simp only [lens] <;> omega)))) | ((with_reducible refine W3.o ?_; constructor); · (first | (with_reducible assumption) | (first | omega | (simp only [lens] <;> omega)))) | ((with_reducible refine W4.o ?_; constructor); · (first | (with_reducible first | assumption | exact decide_eq_true rfl | exact sEq_self _) | ((with_reducible refine eqOK_i ?_); kernel_rfl) | (first | exact hb | exact hz))) | ((with_reducible refine iteB_f ?_ ?_); · (first | (with_reducible first | assumption | exact decide_eq_true rfl | exact sEq_self _) | ((with_reducible refine eqOK_i ?_); kernel_rfl) | (first | exact hb | exact hz))) | (with_reducible refine CD.wk_au ?_) | (with_reducible refine W5.o ?_; constructor) | ((with_reducible refine W6.o ?_; constructor) <;> intro hB))
        all_goals ((conv => whnf); (try dsimp only); (try simp only [Nat.succ_eq_add_one, Nat.le_eq, castL_self]); (try omega))
        all_goals (try (first | omega | (simp only [lens] <;> omega)))
        all_goals first
          | omega
          | rfl
          | exact z1.symm
          | exact z2.symm
          | trace_state
    | false =>
      have hok : okS false K X C := ⟨hm, h2⟩
      have h2 : 3 ≤ K.length := h2
      obtain ⟨hx, hc⟩ := may_c hm
      obtain ⟨e1, e2, e3, e4, e5, e6, e7, e8, e9⟩ := spl_knot hok
      rw [splV, e1, e2, e3, e4, e5, e6, e7, e8, e9]
      obtain ⟨a0, a1, a2⟩ := sp_in (fKt K C) (K.length - 2)
      obtain ⟨z1, z2⟩ := sp_0 (fKt K C)
      refine pure_of_loops tabPgS_ok (fuel := 3) (d := 4) [⟨8, [(0, 0), (1, 1), (2, 2)], spC false K X C (fKt K C) (K.length - 2) 0, .leaf (.exit 0) (spC false K X C (fKt K C) (K.length - 2) (K.length - 2))⟩] ?_ ?_
      · intro N y hy
        rw [List.mem_singleton.1 hy]
        exact sp_knot K X C (K.length - 2) hK255 hc (by omega) hz N
      · repeat' ((conv => whnf); first | (with_reducible first | (refine W1.o ?_; constructor) | rfl | exact castL_self _ _) | ((with_reducible refine V.same_t ?_); exact rfl) | ((with_reducible refine andB_room ?_ ?_ ?_); (· kernel_rfl); (· (first | omega | (simp only [lens] <;> omega)))) | ((with_reducible refine W2.o ?_; constructor); · (first | (with_reducible assumption) | (first | omega | (simp only [lens] <;> omega)))) | ((with_reducible refine W3.o ?_; constructor); · (first | (with_reducible assumption) | (first | omega | (simp only [lens] <;> omega)))) | ((with_reducible refine W4.o ?_; constructor); · (first | (with_reducible first | assumption | exact decide_eq_true rfl | exact sEq_self _) | ((with_reducible refine eqOK_i ?_); kernel_rfl) | (first | exact hb | exact hz))) | ((with_reducible refine iteB_f ?_ ?_); · (first | (with_reducible first | assumption | exact decide_eq_true rfl | exact sEq_self _) | ((with_reducible refine eqOK_i ?_); kernel_rfl) | (first | exact hb | exact hz))) | (with_reducible refine CD.wk_au ?_) | (with_reducible refine W5.o ?_; constructor) | ((with_reducible refine W6.o ?_; constructor) <;> intro hB))
        all_goals ((conv => whnf); (try dsimp only); (try simp only [Nat.succ_eq_add_one, Nat.le_eq, castL_self]); (try omega))
        all_goals (try (first | omega | (simp only [lens] <;> omega)))
        all_goals first
          | omega
          | rfl
          | exact z1.symm
          | exact z2.symm
          | trace_state
  · obtain ⟨e1, e2, e3, e4, e5, e6, e7, e8, e9⟩ := spl_no hok
    rw [splV, e1, e2, e3, e4, e5, e6, e7, e8, e9]
    refine PureAt.val (v := .tup [.agg [.bool false, .nils, .nils, .nils], .agg [.bool false, .nils, .nils, .nils], .str ⟨#[]⟩, .int .i64 2]) ?_ fun φ => nil_spl
    refine pure_of_W0 (tab := tabPgS) (fuel := 3) (d := 4) tabPgS_ok ?_
    by_cases hm : mayP l K X C
    · have hb := (mayB_iff l K X C).2 hm
      cases l with
      | true =>
        have h2 : ¬ 2 ≤ K.length := fun h => hok ⟨hm, h⟩
        repeat' ((conv => whnf); first | (with_reducible first | (refine W1.o ?_; constructor) | rfl | exact castL_self _ _) | ((with_reducible refine V.same_t ?_); exact rfl) | ((with_reducible refine andB_room ?_ ?_ ?_); (· kernel_rfl); (· (first | omega | (simp only [lens] <;> omega)))) | ((with_reducible refine W2.o ?_; constructor); · (first | (with_reducible assumption) | (first | omega | (simp only [lens] <;> omega)))) | ((with_reducible refine W3.o ?_; constructor); · (first | (with_reducible assumption) | (first | omega | (simp only [lens] <;> omega)))) | ((with_reducible refine W4.o ?_; constructor); · (first | (with_reducible first | assumption | exact decide_eq_true rfl | exact sEq_self _) | ((with_reducible refine eqOK_i ?_); kernel_rfl) | (first | exact hb | exact hz))) | ((with_reducible refine iteB_f ?_ ?_); · (first | (with_reducible first | assumption | exact decide_eq_true rfl | exact sEq_self _) | ((with_reducible refine eqOK_i ?_); kernel_rfl) | (first | exact hb | exact hz))) | (with_reducible refine W5.o ?_; constructor) | ((with_reducible refine W6.o ?_; constructor) <;> intro hB))
        all_goals ((conv => whnf); (try dsimp only); (try simp only [Nat.succ_eq_add_one, Nat.le_eq, castL_self]); (try omega))
        all_goals (try (first | omega | (simp only [lens] <;> omega)))
        all_goals first
          | rfl
          | omega
          | trace_state
      | false =>
        have h2 : ¬ 3 ≤ K.length := fun h => hok ⟨hm, h⟩
        repeat' ((conv => whnf); first | (with_reducible first | (refine W1.o ?_; constructor) | rfl | exact castL_self _ _) | ((with_reducible refine V.same_t ?_); exact rfl) | ((with_reducible refine andB_room ?_ ?_ ?_); (· kernel_rfl); (· (first | omega | (simp only [lens] <;> omega)))) | ((with_reducible refine W2.o ?_; constructor); · (first | (with_reducible assumption) | (first | omega | (simp only [lens] <;> omega)))) | ((with_reducible refine W3.o ?_; constructor); · (first | (with_reducible assumption) | (first | omega | (simp only [lens] <;> omega)))) | ((with_reducible refine W4.o ?_; constructor); · (first | (with_reducible first | assumption | exact decide_eq_true rfl | exact sEq_self _) | ((with_reducible refine eqOK_i ?_); kernel_rfl) | (first | exact hb | exact hz))) | ((with_reducible refine iteB_f ?_ ?_); · (first | (with_reducible first | assumption | exact decide_eq_true rfl | exact sEq_self _) | ((with_reducible refine eqOK_i ?_); kernel_rfl) | (first | exact hb | exact hz))) | (with_reducible refine W5.o ?_; constructor) | ((with_reducible refine W6.o ?_; constructor) <;> intro hB))
        all_goals ((conv => whnf); (try dsimp only); (try simp only [Nat.succ_eq_add_one, Nat.le_eq, castL_self]); (try omega))
        all_goals (try (first | omega | (simp only [lens] <;> omega)))
        all_goals first
          | rfl
          | omega
          | trace_state
    · have hb := mayB_no hm
      cases l with
      | true =>
        repeat' ((conv => whnf); first | (with_reducible first | (refine W1.o ?_; constructor) | rfl | exact castL_self _ _) | ((with_reducible refine V.same_t ?_); exact rfl) | ((with_reducible refine andB_room ?_ ?_ ?_); (· kernel_rfl); (· (first | omega | (simp only [lens] <;> omega)))) | ((with_reducible refine W2.o ?_; constructor); · (first | (with_reducible assumption) | (first | omega | (simp only [lens] <;> omega)))) | ((with_reducible refine W3.o ?_; constructor); · (first | (with_reducible assumption) | (first | omega | (simp only [lens] <;> omega)))) | ((with_reducible refine W4.o ?_; constructor); · (first | (with_reducible first | assumption | exact decide_eq_true rfl | exact sEq_self _) | ((with_reducible refine eqOK_i ?_); kernel_rfl) | (first | exact hb | exact hz))) | ((with_reducible refine iteB_f ?_ ?_); · (first | (with_reducible first | assumption | exact decide_eq_true rfl | exact sEq_self _) | ((with_reducible refine eqOK_i ?_); kernel_rfl) | (first | exact hb | exact hz))) | (with_reducible refine W5.o ?_; constructor) | ((with_reducible refine W6.o ?_; constructor) <;> intro hB))
        all_goals ((conv => whnf); (try dsimp only); (try simp only [Nat.succ_eq_add_one, Nat.le_eq, castL_self]); (try omega))
        all_goals (try (first | omega | (simp only [lens] <;> omega)))
        all_goals first
          | rfl
          | omega
          | trace_state
      | false =>
        repeat' ((conv => whnf); first | (with_reducible first | (refine W1.o ?_; constructor) | rfl | exact castL_self _ _) | ((with_reducible refine V.same_t ?_); exact rfl) | ((with_reducible refine andB_room ?_ ?_ ?_); (· kernel_rfl); (· (first | omega | (simp only [lens] <;> omega)))) | ((with_reducible refine W2.o ?_; constructor); · (first | (with_reducible assumption) | (first | omega | (simp only [lens] <;> omega)))) | ((with_reducible refine W3.o ?_; constructor); · (first | (with_reducible assumption) | (first | omega | (simp only [lens] <;> omega)))) | ((with_reducible refine W4.o ?_; constructor); · (first | (with_reducible first | assumption | exact decide_eq_true rfl | exact sEq_self _) | ((with_reducible refine eqOK_i ?_); kernel_rfl) | (first | exact hb | exact hz))) | ((with_reducible refine iteB_f ?_ ?_); · (first | (with_reducible first | assumption | exact decide_eq_true rfl | exact sEq_self _) | ((with_reducible refine eqOK_i ?_); kernel_rfl) | (first | exact hb | exact hz))) | (with_reducible refine W5.o ?_; constructor) | ((with_reducible refine W6.o ?_; constructor) <;> intro hB))
        all_goals ((conv => whnf); (try dsimp only); (try simp only [Nat.succ_eq_add_one, Nat.le_eq, castL_self]); (try omega))
        all_goals (try (first | omega | (simp only [lens] <;> omega)))
        all_goals first
          | rfl
          | omega
          | trace_state
noncomputable def splitF : List V → Option (List Bool × V) := nodeF fun l K X C => (lensZ K X C, splV l K X C)
theorem splitF_ok (args : List V) (c : List Bool) (v : V) (h : splitF args = some (c, v)) (hc : allB c) : PureAt Try.prog 29 args v :=
  nodeF_ok (fun l K X C h => by exact split_at l K X C (of_decide_eq_true h.1) (of_decide_eq_true h.2.1) (of_decide_eq_true h.2.2.1) h.2.2.2.1) args c v h hc
end Go.Proofs.Ytlfhiophojahbaa
end

section
namespace Go.Proofs.Ytlfhiophojahbaa
open Go.Sym
set_option linter.unusedVariables false
set_option linter.unusedSimpArgs false
set_option linter.unusedSectionVars false

theorem sp_best (f : Int → Int) : ∀ n : Nat, (0 < n → spM f n = f (spA f n)) ∧ ∀ i : Nat, 1 ≤ i → i ≤ n → spM f n ≤ f (i : Int)
  | 0 => ⟨fun h => absurd h (Nat.lt_irrefl 0), fun i h1 h2 => by omega⟩
  | n + 1 => by
    obtain ⟨ih1, ih2⟩ := sp_best f n
    obtain ⟨a0, a1, a2⟩ := sp_in f n
    by_cases h : spA f n = 0 ∨ f ((n : Int) + 1) < spM f n
    · obtain ⟨e1, e2⟩ := sp_yes h
      refine ⟨fun _ => by rw [e1, e2], fun i h1 h2 => ?_⟩
      rw [e2]
      rcases Nat.lt_or_ge n i with h3 | h3
      · have : i = n + 1 := by omega
        subst this
        exact Int.le_of_eq rfl
      · have h4 := ih2 i h1 h3
        rcases h with h | h
        · have := a2 (by omega); omega
        · omega
    · obtain ⟨e1, e2⟩ := sp_no h
      have hn : 0 < n := by
        rcases Nat.eq_zero_or_pos n with q | q
        · subst q; exact absurd (Or.inl (sp_0 f).1) h
        · exact q
      refine ⟨fun _ => by rw [e1, e2]; exact ih1 hn, fun i h1 h2 => ?_⟩
      rw [e2]
      rcases Nat.lt_or_ge n i with h3 | h3
      · have : i = n + 1 := by omega
        subst this
        have h5 : ¬ f ((n : Int) + 1) < spM f n := fun q => h (.inr q)
        have : ((n + 1 : Nat) : Int) = (n : Int) + 1 := by omega
        rw [this]; omega
      · exact ih2 i h1 h3
theorem atS_take {K : List ByteArray} {i j : Nat} (h : j < (K.take i).length) : atS (K.take i) j = atS K j := by
  rw [List.length_take] at h
  rw [atS_lt (by rw [List.length_take]; exact h), atS_lt (by omega), List.getElem_take]
theorem atS_drop {K : List ByteArray} {i j : Nat} (h : j < (K.drop i).length) : atS (K.drop i) j = atS K (i + j) := by
  rw [List.length_drop] at h
  rw [atS_lt (by rw [List.length_drop]; exact h), atS_lt (by omega), List.getElem_drop]
theorem rise_take {K : List ByteArray} (h : riseL K) (i : Nat) : riseL (K.take i) := by
  intro j hj
  have hj2 := hj
  rw [List.length_take] at hj2
  rw [atS_take hj]
  have := h j (by omega)
  cases j with
  | zero => rw [ahS_0] at this ⊢; exact this
  | succ j => rw [ahS_succ] at this ⊢; rw [atS_take (by omega)]; exact this
theorem rise_drop {K : List ByteArray} (h : riseL K) (i : Nat) : riseL (K.drop i) := by
  intro j hj
  have hj2 := hj
  rw [List.length_drop] at hj2
  rw [atS_drop hj]
  have := h (i + j) (by omega)
  cases j with
  | zero => rw [ahS_0]; exact sLt_pos2 this
  | succ j =>
    rw [ahS_succ, atS_drop (by omega)]
    have e : i + (j + 1) = (i + j) + 1 := by omega
    rw [e, ahS_succ] at this
    rw [e]; exact this
theorem may_of {K X : List ByteArray} (hl : X.length = K.length) (h1 : 1 ≤ K.length) (h2 : K.length ≤ 255) (hr : riseL K) (hs : ∀ x ∈ K, x.size ≤ 24) (hx : ∀ x ∈ X, x.size ≤ 96) : mayP true K X [] := by
  refine ⟨⟨hl, rfl⟩, h1, h2, (keysB_iff _).2 fun j hj => ⟨hr j hj, ?_⟩, (valsB_iff _).2 fun j hj => ?_, (kidsB_iff _).2 fun j hj => absurd hj (Nat.not_lt_zero j)⟩
  · rw [atS_lt hj]; exact hs _ (List.getElem_mem _)
  · rw [atS_lt hj]; exact hx _ (List.getElem_mem _)
section
variable {K X : List ByteArray} (h : mayP true K X [])
include h
theorem may_take {i : Nat} (h1 : 1 ≤ i) (h2 : i < K.length) : mayP true (K.take i) (X.take i) [] := by
  obtain ⟨g1, g2, g3, g4⟩ := may_all h
  have hk := h.2.2.1
  exact may_of (by rw [List.length_take, List.length_take, g1]) (by rw [List.length_take]; omega) (by rw [List.length_take]; omega) (rise_take g2 i) (fun x q => g3 x (List.mem_of_mem_take q)) (fun x q => g4 x (List.mem_of_mem_take q))
theorem may_drop {i : Nat} (h2 : i < K.length) : mayP true (K.drop i) (X.drop i) [] := by
  obtain ⟨g1, g2, g3, g4⟩ := may_all h
  have hk := h.2.2.1
  exact may_of (by rw [List.length_drop, List.length_drop, g1]) (by rw [List.length_drop]; omega) (by rw [List.length_drop]; omega) (rise_drop g2 i) (fun x q => g3 x (List.mem_of_mem_drop q)) (fun x q => g4 x (List.mem_of_mem_drop q))
theorem siz_take {i : Nat} (h1 : 1 ≤ i) (h2 : i < K.length) : sizN true (K.take i) (X.take i) [] = (totL (K.take i) (X.take i) : Int) + 6 := by
  rw [sizN_yes (may_take h h1 h2), lay_all [] (may_x (may_take h h1 h2)).1]
  omega
theorem siz_drop {i : Nat} (h2 : i < K.length) : sizN true (K.drop i) (X.drop i) [] = (totL (K.drop i) (X.drop i) : Int) + 6 := by
  rw [sizN_yes (may_drop h h2), lay_all [] (may_x (may_drop h h2)).1]
  omega
theorem fLf_at {i : Nat} (h1 : 1 ≤ i) (h2 : i < K.length) : fLf K X (i : Int) = max ((totL (K.take i) (X.take i) : Int) + 6) ((totL (K.drop i) (X.drop i) : Int) + 6) := by
  have e : Int.toNat (i : Int) = i := by omega
  rw [fLf, maxI_eq, e, tkS_eq, tkS_eq, dpS_eq, dpS_eq, siz_take h h1 h2, siz_drop h h2]
theorem tot_part (i : Nat) (hi : i ≤ K.length) : totL K X = totL (K.take i) (X.take i) + totL (K.drop i) (X.drop i) := by
  have := tot_app (K.take i) (X.take i) (K.drop i) (X.drop i)
  rw [List.take_append_drop, List.take_append_drop] at this
  exact this
theorem place_at : ∀ n : Nat, n ≤ K.length → 250 < totL (K.take n) (X.take n) → ∃ i, 1 ≤ i ∧ i < n ∧ totL (K.take i) (X.take i) ≤ 250 ∧ 128 < totL (K.take i) (X.take i)
  | 0, _, q => by
    have : totL (K.take 0) (X.take 0) = 0 := rfl
    omega
  | n + 1, hn, q => by
    have hx := (may_x h).1
    have ta := tot_at (K := K) (X := X) (i := n) (by omega) (by omega)
    have s1 := may_keys h n (by omega)
    have s2 := may_vals h n (by omega)
    rcases Nat.lt_or_ge 250 (totL (K.take n) (X.take n)) with q2 | q2
    · obtain ⟨i, g1, g2, g3⟩ := place_at n (by omega) q2
      exact ⟨i, g1, by omega, g3⟩
    · refine ⟨n, ?_, by omega, q2, by omega⟩
      rcases Nat.eq_zero_or_pos n with q3 | q3
      · subst q3
        have : totL (K.take 0) (X.take 0) = 0 := rfl
        omega
      · exact q3
theorem halves_fit (h2 : 2 ≤ K.length) (hlo : ¬ (layN true K X [] K.length).length ≤ 252) (hhi : totL K X ≤ 372) :
    ∃ a : Nat, 1 ≤ a ∧ a < K.length ∧ spA (fLf K X) (K.length - 1) = (a : Int) ∧ fitP true (K.take a) (X.take a) [] ∧ fitP true (K.drop a) (X.drop a) [] := by
  obtain ⟨a0, a1, a2⟩ := sp_in (fLf K X) (K.length - 1)
  obtain ⟨b1, b2⟩ := sp_best (fLf K X) (K.length - 1)
  have b1 := b1 (by omega)
  have a2 := a2 (by omega)
  obtain ⟨a, ha⟩ := Int.eq_ofNat_of_zero_le a0
  have hx := (may_x h).1
  rw [lay_all [] hx] at hlo
  have tk : K.take K.length = K := List.take_length
  have tx : X.take K.length = X := by rw [← hx]; exact List.take_length
  obtain ⟨i, i1, i2, i3, i4⟩ := place_at h K.length (Nat.le_refl _) (by rw [tk, tx]; omega)
  have hp := tot_part h i (by omega)
  have b3 := b2 i i1 (by omega)
  rw [b1, ha] at b3
  have ha1 : 1 ≤ a := by omega
  have ha2 : a < K.length := by omega
  have f1 := fLf_at h ha1 ha2
  have f2 := fLf_at h i1 i2
  rw [f1, f2] at b3
  refine ⟨a, ha1, ha2, ha, ⟨may_take h ha1 ha2, ?_⟩, ⟨may_drop h ha2, ?_⟩⟩
  · rw [lay_all [] (may_x (may_take h ha1 ha2)).1]; omega
  · rw [lay_all [] (may_x (may_drop h ha2)).1]; omega
end
end Go.Proofs.Ytlfhiophojahbaa
end

section
namespace Go.Proofs.Ytlfhiophojahbaa
open Go.Sym
set_option linter.unusedVariables false

abbrev PS : Type := List ByteArray × List ByteArray × List Int × Nat
abbrev or4 (a b c d : Int) : Int := IntKind.u32.wrap (Int.ofNat ((ofI .u32 (IntKind.u32.wrap (Int.ofNat ((ofI .u32 (IntKind.u32.wrap (Int.ofNat ((ofI .u32 (a % 4294967296 * 2 ^ min (Int.toNat 24) 32 % 4294967296)).lor (ofI .u32 (b % 4294967296 * 2 ^ min (Int.toNat 16) 32 % 4294967296)))))).lor (ofI .u32 (c % 4294967296 * 2 ^ min (Int.toNat 8) 32 % 4294967296)))))).lor (ofI .u32 (d % 4294967296))))
noncomputable def n4 (t : ByteArray) (o : Nat) : Int := or4 (bAt t o) (bAt t (o + 1)) (bAt t (o + 2)) (bAt t (o + 3))
def lenP (t : ByteArray) (o : Nat) : Nat := (bAt t o).toNat
def txP (t : ByteArray) (o : Nat) : Prop := o + 1 ≤ t.size ∧ o + 1 + lenP t o ≤ t.size
instance (t : ByteArray) (o : Nat) : Decidable (txP t o) := by unfold txP; infer_instance
def txS (t : ByteArray) (o : Nat) : ByteArray := t.extract (o + 1) (o + 1 + lenP t o)
noncomputable def stepP (l : Bool) (t : ByteArray) (x : PS) : Option PS :=
  if txP t x.2.2.2 then
    (if l = true then (if txP t (x.2.2.2 + 1 + lenP t x.2.2.2) then some (x.1 ++ [txS t x.2.2.2], x.2.1 ++ [txS t (x.2.2.2 + 1 + lenP t x.2.2.2)], x.2.2.1, x.2.2.2 + 1 + lenP t x.2.2.2 + 1 + lenP t (x.2.2.2 + 1 + lenP t x.2.2.2)) else none)
    else (if x.2.2.2 + 1 + lenP t x.2.2.2 + 4 ≤ t.size then some (x.1 ++ [txS t x.2.2.2], x.2.1, x.2.2.1 ++ [n4 t (x.2.2.2 + 1 + lenP t x.2.2.2)], x.2.2.2 + 1 + lenP t x.2.2.2 + 4) else none))
  else none
noncomputable def startP (l : Bool) (t : ByteArray) : PS := if l = true then ([], [], [], 2) else ([], [], [n4 t 2], 6)
noncomputable def runP0 (l : Bool) (t : ByteArray) : Nat → Option PS
  | 0 => some (startP l t)
  | i + 1 => (runP0 l t i).bind (stepP l t)
noncomputable def runP : Bool → ByteArray → Nat → Option PS := hide runP0
theorem runP_0 (l : Bool) (t : ByteArray) : runP l t 0 = some (startP l t) := by unfold runP; rw [hide_eq]; rfl
theorem runP_succ (l : Bool) (t : ByteArray) (i : Nat) : runP l t (i + 1) = (runP l t i).bind (stepP l t) := by unfold runP; rw [hide_eq]; rfl
theorem runP_none {l : Bool} {t : ByteArray} {i j : Nat} (h : runP l t i = none) (hij : i ≤ j) : runP l t j = none := by
  induction hij with
  | refl => exact h
  | step _ ih => rw [runP_succ, ih]; rfl
noncomputable def stP : Bool → ByteArray → Nat → PS := hide fun l t i => (runP l t i).getD ([], [], [], 0)
theorem stP_of {l : Bool} {t : ByteArray} {i : Nat} {x : PS} (h : runP l t i = some x) : stP l t i = x := by unfold stP; rw [hide_eq, h]; rfl
noncomputable def stK : Bool → ByteArray → Nat → List ByteArray := hide fun l t i => (stP l t i).1
noncomputable def stX : Bool → ByteArray → Nat → List ByteArray := hide fun l t i => (stP l t i).2.1
noncomputable def stC : Bool → ByteArray → Nat → List Int := hide fun l t i => (stP l t i).2.2.1
noncomputable def stO : Bool → ByteArray → Nat → Nat := hide fun l t i => (stP l t i).2.2.2
theorem st_of {l : Bool} {t : ByteArray} {i : Nat} {x : PS} (h : runP l t i = some x) : stK l t i = x.1 ∧ stX l t i = x.2.1 ∧ stC l t i = x.2.2.1 ∧ stO l t i = x.2.2.2 := by
  unfold stK stX stC stO
  rw [hide_eq, hide_eq, hide_eq, hide_eq, stP_of h]
  exact ⟨rfl, rfl, rfl, rfl⟩
theorem runP_st4 {l : Bool} {t : ByteArray} {i : Nat} (h : (runP l t i).isSome = true) : runP l t i = some (stK l t i, stX l t i, stC l t i, stO l t i) := by
  obtain ⟨x, hx⟩ := Option.isSome_iff_exists.1 h
  obtain ⟨h1, h2, h3, h4⟩ := st_of hx
  rw [hx, h1, h2, h3, h4]
theorem lenP_lt (t : ByteArray) (o : Nat) : lenP t o < 256 := by
  have := UInt8.toNat_lt (t.data.toList.getD o 0)
  unfold lenP bAt
  omega
theorem bAt_in (s : ByteArray) (i : Nat) : 0 ≤ bAt s i ∧ bAt s i < 256 := by
  have := UInt8.toNat_lt (s.data.toList.getD i 0)
  unfold bAt
  omega
theorem bAt_len (t : ByteArray) (o : Nat) : bAt t o = (lenP t o : Int) := by
  have := bAt_in t o
  unfold lenP
  omega
theorem stepP_leaf {t : ByteArray} {x : PS} (h1 : txP t x.2.2.2) (h2 : txP t (x.2.2.2 + 1 + lenP t x.2.2.2)) : stepP true t x = some (x.1 ++ [txS t x.2.2.2], x.2.1 ++ [txS t (x.2.2.2 + 1 + lenP t x.2.2.2)], x.2.2.1, x.2.2.2 + 1 + lenP t x.2.2.2 + 1 + lenP t (x.2.2.2 + 1 + lenP t x.2.2.2)) := by
  unfold stepP; rw [if_pos h1, if_pos rfl, if_pos h2]
theorem stepP_knot {t : ByteArray} {x : PS} (h1 : txP t x.2.2.2) (h2 : x.2.2.2 + 1 + lenP t x.2.2.2 + 4 ≤ t.size) : stepP false t x = some (x.1 ++ [txS t x.2.2.2], x.2.1, x.2.2.1 ++ [n4 t (x.2.2.2 + 1 + lenP t x.2.2.2)], x.2.2.2 + 1 + lenP t x.2.2.2 + 4) := by
  unfold stepP; rw [if_pos h1, if_neg (by decide), if_pos h2]
theorem stepP_no1 {l : Bool} {t : ByteArray} {x : PS} (h1 : ¬ txP t x.2.2.2) : stepP l t x = none := by unfold stepP; rw [if_neg h1]
theorem stepP_no2 {t : ByteArray} {x : PS} (h2 : ¬ txP t (x.2.2.2 + 1 + lenP t x.2.2.2)) : stepP true t x = none := by
  by_cases h1 : txP t x.2.2.2
  · unfold stepP; rw [if_pos h1, if_pos rfl, if_neg h2]
  · exact stepP_no1 h1
theorem stepP_no4 {t : ByteArray} {x : PS} (h2 : ¬ x.2.2.2 + 1 + lenP t x.2.2.2 + 4 ≤ t.size) : stepP false t x = none := by
  by_cases h1 : txP t x.2.2.2
  · unfold stepP; rw [if_pos h1, if_neg (by decide), if_neg h2]
  · exact stepP_no1 h1
theorem runP_in {l : Bool} {t : ByteArray} (ht : 6 ≤ t.size) : ∀ (i : Nat) {x : PS}, runP l t i = some x → x.1.length = i ∧ x.2.1.length ≤ i ∧ x.2.2.1.length ≤ i + 1 ∧ 2 ≤ x.2.2.2 ∧ x.2.2.2 ≤ t.size
  | 0, x, h => by
    rw [runP_0] at h
    cases h
    unfold startP
    split <;> simp <;> omega
  | i + 1, x, h => by
    rw [runP_succ] at h
    obtain ⟨y, hy, h2⟩ := Option.bind_eq_some_iff.1 h
    obtain ⟨g1, g2, g3, g4, g5⟩ := runP_in ht i hy
    unfold stepP at h2
    split at h2
    · split at h2
      · split at h2
        · rename_i k1 _ k2
          cases h2
          have := k2.2
          simp
          omega
        · cases h2
      · split at h2
        · cases h2
          simp
          omega
        · cases h2
    · cases h2
noncomputable def restS : ByteArray → Nat → ByteArray := hide fun t o => t.extract o t.size
theorem restS_eq (t : ByteArray) (o : Nat) : restS t o = t.extract o t.size := by unfold restS; rw [hide_eq]
theorem restS_size (t : ByteArray) (o : Nat) : (restS t o).size = t.size - o := by rw [restS_eq, ByteArray.size_extract]; omega
theorem restS_0 (t : ByteArray) : restS t 0 = t := by rw [restS_eq]; exact ByteArray.extract_zero_size
theorem ext_ext (t : ByteArray) (a b c d : Nat) (h : a + d ≤ b) : (t.extract a b).extract c d = t.extract (a + c) (a + d) := by
  rw [ByteArray.extract_extract]
  congr 1
  omega
theorem restS_ext (t : ByteArray) (o c d : Nat) (h : o + d ≤ t.size) : (restS t o).extract c d = t.extract (o + c) (o + d) := by
  rw [restS_eq, ext_ext _ _ _ _ _ h]
theorem bAt_ext (t : ByteArray) (a b i : Nat) (h : a + i < b) (hb : b ≤ t.size) : bAt (t.extract a b) i = bAt t (a + i) := by
  unfold bAt
  congr 1
  rw [ByteArray.data_extract, Array.toList_extract, List.getD_eq_getElem?_getD, List.getD_eq_getElem?_getD]
  rw [List.extract_eq_take_drop, List.getElem?_take_of_lt (by omega), List.getElem?_drop]
theorem rest_ext (t : ByteArray) (o a : Nat) : (restS t o).extract a (restS t o).size = restS t (o + a) := by
  rw [restS_size, restS_eq, restS_eq, ByteArray.extract_extract]
  congr 1
  omega
theorem rest_cut (t : ByteArray) (o k : Nat) (h : o + k ≤ t.size) : (restS t o).extract 0 k = t.extract o (o + k) := by
  rw [restS_ext _ _ _ _ h, Nat.add_zero]
theorem rest_at (t : ByteArray) (o k i : Nat) (h : o + k ≤ t.size) (hi : i < k) : bAt ((restS t o).extract 0 k) i = bAt t (o + i) := by
  rw [rest_cut _ _ _ h, bAt_ext _ _ _ _ (by omega) h]
theorem rest_len (t : ByteArray) (o : Nat) (h : o + 1 ≤ t.size) : bAt ((restS t o).extract 0 1) 0 = (lenP t o : Int) := by
  rw [rest_at _ _ _ _ h (by omega), Nat.add_zero, bAt_len]
theorem cut_ext (t : ByteArray) (o a : Nat) : cutS (restS t o) a (restS t o).size = restS t (o + a) := by rw [cutS_eq]; exact rest_ext t o a
theorem cut_cut (t : ByteArray) (o k : Nat) (h : o + k ≤ t.size) : cutS (restS t o) 0 k = t.extract o (o + k) := by rw [cutS_eq]; exact rest_cut t o k h
theorem cut_at (t : ByteArray) (o k i : Nat) (h : o + k ≤ t.size) (hi : i < k) : bAt (cutS (restS t o) 0 k) i = bAt t (o + i) := by rw [cutS_eq]; exact rest_at t o k i h hi
theorem cut_len (t : ByteArray) (o : Nat) (h : o + 1 ≤ t.size) : bAt (cutS (restS t o) 0 1) 0 = (lenP t o : Int) := by rw [cutS_eq]; exact rest_len t o h
end Go.Proofs.Ytlfhiophojahbaa
end

section
namespace Go.Proofs.Ytlfhiophojahbaa
open Go.Sym
set_option linter.unusedVariables false
set_option linter.unusedSimpArgs false
set_option maxRecDepth 100000
set_option maxHeartbeats 4000000

noncomputable def tabPgI : Tab := oneTab 38 openF (oneTab 16 encodeF noTab)
theorem tabPgI_ok : TabOK Try.prog tabPgI := oneTab_ok openF_ok (oneTab_ok encodeF_ok noTab_ok)
section
variable (l : Bool) (s t : ByteArray) (cnt : Nat)
noncomputable def dcH (K X : List ByteArray) (C : List Int) (r : ByteArray) : List (Nat × EObj) := [(0, .cells [.bool l, .rs 4 0 K.length K.length false 1, .rs 5 0 X.length X.length false 1, .rs 6 0 C.length C.length false 1] 0 false), (1, .cells [.int .i64 0] 0 false), (2, .cells [.str r] 0 false), (3, .cells [.fn 40 [] [.ptr 2 0]] 0 false), (4, .rows [.str] K 0 false), (5, .rows [.str] X 0 false), (6, .rows [.int .u32] C 0 false)]
noncomputable def dcC (i : Nat) : CD := ⟨93, [(0, .str s), (2, .ptr 0 0), (3, .ptr 1 0), (6, .ptr 3 0), (7, .fn 41 [] [.ptr 3 0]), (8, .fn 42 [] [.ptr 3 0]), (48, .int .i64 (cnt : Int)), (49, .int .i64 (i : Int))], [.call 37 [] [.ptr 0 0, .ptr 1 0]], dcH l (stK l t i) (stX l t i) (stC l t i) (restS t (stO l t i)), 7⟩
noncomputable def dcP : CD := ⟨93, [(2, .ptr 0 0), (3, .ptr 1 0)], [.call 37 [] [.ptr 0 0, .ptr 1 0]], [(0, .cells [.any, .any, .any, .any] 0 false), (1, .cells [.any] 0 false)], 2⟩
noncomputable def okB : Bool → ByteArray → Nat → Bool := hide fun l t i => (runP l t i).isSome
theorem okB_eq (l : Bool) (t : ByteArray) (i : Nat) : okB l t i = (runP l t i).isSome := by unfold okB; rw [hide_eq]
noncomputable def dcO : OD := .ite (okB l t cnt) (.leaf (.exit 0) (dcC l s t cnt cnt)) (.leaf (.pan (.iface 84 (.agg []))) dcP)
end
theorem dc_leaf (s t : ByteArray) (cnt : Nat) (ht : t.size = 252) (hc : cnt ≤ 255) (N : Nat) : LpD.ok Try.prog N 0 (bodyOf Try.prog 10) ⟨12, [], dcC true s t cnt 0, dcO true s t cnt⟩ := by
  refine LpD.ok_one (b := bodyAt Try.prog 10 12) rfl (loop_W tabPgI_ok (fuel := 3) (d := 6) (X := { i : Nat // i ≤ cnt ∧ (runP true t i).isSome = true }) (fun x => dcC true s t cnt x.1) (fun x => cnt - x.1)
    (fun _ => dcO true s t cnt) (fun _ => noLpW) (fun _ => noLp) (fun _ => noLp_ad) (fun _ => noLp_ok _) ?_ ⟨0, Nat.zero_le _, by rw [runP_0]; rfl⟩)
  rintro ⟨i, hi, ha⟩
  dsimp only
  rcases Nat.lt_or_ge i cnt with hlt | hge
  · have hst := runP_st4 ha
    obtain ⟨q1, q2, q3, q4, q5⟩ := runP_in (by omega) i hst
    dsimp only at q1 q2 q3 q4 q5
    have s0 : ByteArray.size (restS t (stO true t i)) = t.size - (stO true t i) := restS_size t (stO true t i)
    have y1 : (cutS (restS t (stO true t i)) (Int.toNat 1) (ByteArray.size (restS t (stO true t i)))) = restS t ((stO true t i) + 1) := cut_ext t (stO true t i) 1
    have s1 : ByteArray.size (cutS (restS t (stO true t i)) (Int.toNat 1) (ByteArray.size (restS t (stO true t i)))) = t.size - ((stO true t i) + 1) := by rw [y1, restS_size]
    have hl0 := lenP_lt t (stO true t i)
    by_cases h1 : txP t (stO true t i)
    · obtain ⟨g1, g2⟩ := h1
      have x0 : (bAt (cutS (restS t (stO true t i)) 0 (Int.toNat 1)) (Int.toNat 0)) = (lenP t (stO true t i) : Int) := cut_len t (stO true t i) g1
      obtain ⟨o1, ho1⟩ : ∃ o1, (stO true t i) + 1 + lenP t (stO true t i) = o1 := ⟨_, rfl⟩
      have y2 : (cutS (cutS (restS t (stO true t i)) (Int.toNat 1) (ByteArray.size (restS t (stO true t i)))) (Int.toNat (bAt (cutS (restS t (stO true t i)) 0 (Int.toNat 1)) (Int.toNat 0))) (ByteArray.size (cutS (restS t (stO true t i)) (Int.toNat 1) (ByteArray.size (restS t (stO true t i)))))) = restS t o1 := by rw [x0, y1, ← ho1]; exact cut_ext t ((stO true t i) + 1) (lenP t (stO true t i))
      have k0 : (cutS (cutS (restS t (stO true t i)) (Int.toNat 1) (ByteArray.size (restS t (stO true t i)))) 0 (Int.toNat (bAt (cutS (restS t (stO true t i)) 0 (Int.toNat 1)) (Int.toNat 0)))) = txS t (stO true t i) := by rw [x0, y1]; exact cut_cut t ((stO true t i) + 1) (lenP t (stO true t i)) g2
      have hl1 := lenP_lt t o1
      have s2 : ByteArray.size (cutS (cutS (restS t (stO true t i)) (Int.toNat 1) (ByteArray.size (restS t (stO true t i)))) (Int.toNat (bAt (cutS (restS t (stO true t i)) 0 (Int.toNat 1)) (Int.toNat 0))) (ByteArray.size (cutS (restS t (stO true t i)) (Int.toNat 1) (ByteArray.size (restS t (stO true t i)))))) = t.size - o1 := by rw [y2, restS_size]
      have y3 : (cutS (cutS (cutS (restS t (stO true t i)) (Int.toNat 1) (ByteArray.size (restS t (stO true t i)))) (Int.toNat (bAt (cutS (restS t (stO true t i)) 0 (Int.toNat 1)) (Int.toNat 0))) (ByteArray.size (cutS (restS t (stO true t i)) (Int.toNat 1) (ByteArray.size (restS t (stO true t i)))))) (Int.toNat 1) (ByteArray.size (cutS (cutS (restS t (stO true t i)) (Int.toNat 1) (ByteArray.size (restS t (stO true t i)))) (Int.toNat (bAt (cutS (restS t (stO true t i)) 0 (Int.toNat 1)) (Int.toNat 0))) (ByteArray.size (cutS (restS t (stO true t i)) (Int.toNat 1) (ByteArray.size (restS t (stO true t i)))))))) = restS t (o1 + 1) := by rw [y2]; exact cut_ext t o1 1
      have s3 : ByteArray.size (cutS (cutS (cutS (restS t (stO true t i)) (Int.toNat 1) (ByteArray.size (restS t (stO true t i)))) (Int.toNat (bAt (cutS (restS t (stO true t i)) 0 (Int.toNat 1)) (Int.toNat 0))) (ByteArray.size (cutS (restS t (stO true t i)) (Int.toNat 1) (ByteArray.size (restS t (stO true t i)))))) (Int.toNat 1) (ByteArray.size (cutS (cutS (restS t (stO true t i)) (Int.toNat 1) (ByteArray.size (restS t (stO true t i)))) (Int.toNat (bAt (cutS (restS t (stO true t i)) 0 (Int.toNat 1)) (Int.toNat 0))) (ByteArray.size (cutS (restS t (stO true t i)) (Int.toNat 1) (ByteArray.size (restS t (stO true t i)))))))) = t.size - (o1 + 1) := by rw [y3, restS_size]
      by_cases h2 : txP t o1
      · have hs : runP true t (i + 1) = some (stK true t i ++ [txS t (stO true t i)], stX true t i ++ [txS t o1], stC true t i, o1 + 1 + lenP t o1) := by
          rw [runP_succ, hst]
          rw [← ho1] at h2 ⊢
          exact stepP_leaf ⟨g1, g2⟩ h2
        obtain ⟨hK, hX, hC, hO⟩ := st_of hs
        dsimp only at hK hX hC hO
        have ha' : (runP true t (i + 1)).isSome = true := by rw [hs]; rfl
        obtain ⟨g3, g4⟩ := h2
        have x1 : (bAt (cutS (cutS (cutS (restS t (stO true t i)) (Int.toNat 1) (ByteArray.size (restS t (stO true t i)))) (Int.toNat (bAt (cutS (restS t (stO true t i)) 0 (Int.toNat 1)) (Int.toNat 0))) (ByteArray.size (cutS (restS t (stO true t i)) (Int.toNat 1) (ByteArray.size (restS t (stO true t i)))))) 0 (Int.toNat 1)) (Int.toNat 0)) = (lenP t o1 : Int) := by rw [y2]; exact cut_len t o1 g3
        have k1 : (cutS (cutS (cutS (cutS (restS t (stO true t i)) (Int.toNat 1) (ByteArray.size (restS t (stO true t i)))) (Int.toNat (bAt (cutS (restS t (stO true t i)) 0 (Int.toNat 1)) (Int.toNat 0))) (ByteArray.size (cutS (restS t (stO true t i)) (Int.toNat 1) (ByteArray.size (restS t (stO true t i)))))) (Int.toNat 1) (ByteArray.size (cutS (cutS (restS t (stO true t i)) (Int.toNat 1) (ByteArray.size (restS t (stO true t i)))) (Int.toNat (bAt (cutS (restS t (stO true t i)) 0 (Int.toNat 1)) (Int.toNat 0))) (ByteArray.size (cutS (restS t (stO true t i)) (Int.toNat 1) (ByteArray.size (restS t (stO true t i)))))))) 0 (Int.toNat (bAt (cutS (cutS (cutS (restS t (stO true t i)) (Int.toNat 1) (ByteArray.size (restS t (stO true t i)))) (Int.toNat (bAt (cutS (restS t (stO true t i)) 0 (Int.toNat 1)) (Int.toNat 0))) (ByteArray.size (cutS (restS t (stO true t i)) (Int.toNat 1) (ByteArray.size (restS t (stO true t i)))))) 0 (Int.toNat 1)) (Int.toNat 0)))) = txS t o1 := by rw [x1, y3]; exact cut_cut t (o1 + 1) (lenP t o1) g4
        have m4 := x1
        have y4 : (cutS (cutS (cutS (cutS (restS t (stO true t i)) (Int.toNat 1) (ByteArray.size (restS t (stO true t i)))) (Int.toNat (bAt (cutS (restS t (stO true t i)) 0 (Int.toNat 1)) (Int.toNat 0))) (ByteArray.size (cutS (restS t (stO true t i)) (Int.toNat 1) (ByteArray.size (restS t (stO true t i)))))) (Int.toNat 1) (ByteArray.size (cutS (cutS (restS t (stO true t i)) (Int.toNat 1) (ByteArray.size (restS t (stO true t i)))) (Int.toNat (bAt (cutS (restS t (stO true t i)) 0 (Int.toNat 1)) (Int.toNat 0))) (ByteArray.size (cutS (restS t (stO true t i)) (Int.toNat 1) (ByteArray.size (restS t (stO true t i)))))))) (Int.toNat (bAt (cutS (cutS (cutS (restS t (stO true t i)) (Int.toNat 1) (ByteArray.size (restS t (stO true t i)))) (Int.toNat (bAt (cutS (restS t (stO true t i)) 0 (Int.toNat 1)) (Int.toNat 0))) (ByteArray.size (cutS (restS t (stO true t i)) (Int.toNat 1) (ByteArray.size (restS t (stO true t i)))))) 0 (Int.toNat 1)) (Int.toNat 0))) (ByteArray.size (cutS (cutS (cutS (restS t (stO true t i)) (Int.toNat 1) (ByteArray.size (restS t (stO true t i)))) (Int.toNat (bAt (cutS (restS t (stO true t i)) 0 (Int.toNat 1)) (Int.toNat 0))) (ByteArray.size (cutS (restS t (stO true t i)) (Int.toNat 1) (ByteArray.size (restS t (stO true t i)))))) (Int.toNat 1) (ByteArray.size (cutS (cutS (restS t (stO true t i)) (Int.toNat 1) (ByteArray.size (restS t (stO true t i)))) (Int.toNat (bAt (cutS (restS t (stO true t i)) 0 (Int.toNat 1)) (Int.toNat 0))) (ByteArray.size (cutS (restS t (stO true t i)) (Int.toNat 1) (ByteArray.size (restS t (stO true t i)))))))))) = restS t (o1 + 1 + lenP t o1) := by rw [x1, y3]; exact cut_ext t (o1 + 1) (lenP t o1)
        repeat' ((conv => whnf); first | (with_reducible first | (refine W1.o ?_; constructor) | rfl | exact castL_self _ _) | ((with_reducible refine V.same_t ?_); exact rfl) | ((with_reducible refine andB_room ?_ ?_ ?_); (· kernel_rfl); (· (first | omega | (simp only [lens] <;> omega)))) | ((with_reducible refine W2.o ?_; constructor); · (first | (with_reducible assumption) | (first | omega | (simp only [lens] <;> omega)))) | ((with_reducible refine W3.o ?_; constructor); · (first | (with_reducible assumption) | (first | omega | (simp only [lens] <;> omega)))) | ((with_reducible refine W4.o ?_; constructor); · (first | (with_reducible first | assumption | exact decide_eq_true rfl | exact sEq_self _) | ((with_reducible refine eqOK_i ?_); kernel_rfl))) | ((with_reducible refine iteB_f ?_ ?_); · (first | (with_reducible first | assumption | exact decide_eq_true rfl | exact sEq_self _) | ((with_reducible refine eqOK_i ?_); kernel_rfl))) | (refine ⟨⟨i + 1, hlt, ha'⟩, ?_, rfl, ?_⟩) | (with_reducible refine CD.wk_au ?_) | (with_reducible refine W5.o ?_; constructor) | ((with_reducible refine W6.o ?_; constructor) <;> intro hB))
        all_goals ((conv => whnf); (try dsimp only); (try simp only [Nat.succ_eq_add_one, Nat.le_eq, castL_self]); (try omega))
        all_goals (try (first | omega | (simp only [lens] <;> omega)))
        all_goals first
          | omega
          | (rw [hC]; done)
          | (rw [hX]; done)
          | (rw [hO, y4]; done)
          | (rw [hC]; exact Nat.le_refl _)
          | (rw [hX]; exact Nat.le_refl _)
          | (simp only [hK, hX, hC, lens] <;> omega)
          | (rw [hK, k0, seg_all _ rfl]; rfl)
          | (rw [hX, k1, seg_all _ rfl]; rfl)
          | (rw [hC, ← m4, seg_all _ rfl, seg_one]; done)
          | trace_state
      · have hn : runP true t (i + 1) = none := by rw [runP_succ, hst]; exact stepP_no2 (by rw [ho1]; exact h2)
        have hk : okB true t cnt = false := by rw [okB_eq, runP_none hn hlt]; rfl
        by_cases g3 : o1 + 1 ≤ t.size
        · have g4 : ¬ o1 + 1 + lenP t o1 ≤ t.size := fun h => h2 ⟨g3, h⟩
          have x1 : (bAt (cutS (cutS (cutS (restS t (stO true t i)) (Int.toNat 1) (ByteArray.size (restS t (stO true t i)))) (Int.toNat (bAt (cutS (restS t (stO true t i)) 0 (Int.toNat 1)) (Int.toNat 0))) (ByteArray.size (cutS (restS t (stO true t i)) (Int.toNat 1) (ByteArray.size (restS t (stO true t i)))))) 0 (Int.toNat 1)) (Int.toNat 0)) = (lenP t o1 : Int) := by rw [y2]; exact cut_len t o1 g3
          repeat' ((conv => whnf); first | (with_reducible first | (refine W1.o ?_; constructor) | rfl | exact castL_self _ _) | ((with_reducible refine V.same_t ?_); exact rfl) | ((with_reducible refine andB_room ?_ ?_ ?_); (· kernel_rfl); (· (first | omega | (simp only [lens] <;> omega)))) | ((with_reducible refine W2.o ?_; constructor); · (first | (with_reducible assumption) | (first | omega | (simp only [lens] <;> omega)))) | ((with_reducible refine W3.o ?_; constructor); · (first | (with_reducible assumption) | (first | omega | (simp only [lens] <;> omega)))) | ((with_reducible refine W4.o ?_; constructor); · (first | (with_reducible first | assumption | exact decide_eq_true rfl | exact sEq_self _) | ((with_reducible refine eqOK_i ?_); kernel_rfl))) | ((with_reducible refine iteB_f ?_ ?_); · (first | (with_reducible first | assumption | exact decide_eq_true rfl | exact sEq_self _) | ((with_reducible refine eqOK_i ?_); kernel_rfl))) | (with_reducible refine CD.wk_au ?_) | (with_reducible refine W5.o ?_; constructor) | ((with_reducible refine W6.o ?_; constructor) <;> intro hB))
          all_goals ((conv => whnf); (try dsimp only); (try simp only [Nat.succ_eq_add_one, Nat.le_eq, castL_self]); (try omega))
          all_goals (try (first | omega | (simp only [lens] <;> omega)))
          all_goals trace_state
        · repeat' ((conv => whnf); first | (with_reducible first | (refine W1.o ?_; constructor) | rfl | exact castL_self _ _) | ((with_reducible refine V.same_t ?_); exact rfl) | ((with_reducible refine andB_room ?_ ?_ ?_); (· kernel_rfl); (· (first | omega | (simp only [lens] <;> omega)))) | ((with_reducible refine W2.o ?_; constructor); · (first | (with_reducible assumption) | (first | omega | (simp only [lens] <;> omega)))) | ((with_reducible refine W3.o ?_; constructor); · (first | (with_reducible assumption) | (first | omega | (simp only [lens] <;> omega)))) | ((with_reducible refine W4.o ?_; constructor); · (first | (with_reducible first | assumption | exact decide_eq_true rfl | exact sEq_self _) | ((with_reducible refine eqOK_i ?_); kernel_rfl))) | ((with_reducible refine iteB_f ?_ ?_); · (first | (with_reducible first | assumption | exact decide_eq_true rfl | exact sEq_self _) | ((with_reducible refine eqOK_i ?_); kernel_rfl))) | (with_reducible refine CD.wk_au ?_) | (with_reducible refine W5.o ?_; constructor) | ((with_reducible refine W6.o ?_; constructor) <;> intro hB))
          all_goals ((conv => whnf); (try dsimp only); (try simp only [Nat.succ_eq_add_one, Nat.le_eq, castL_self]); (try omega))
          all_goals (try (first | omega | (simp only [lens] <;> omega)))
          all_goals trace_state
    · have hn : runP true t (i + 1) = none := by rw [runP_succ, hst]; exact stepP_no1 h1
      have hk : okB true t cnt = false := by rw [okB_eq, runP_none hn hlt]; rfl
      by_cases g1 : (stO true t i) + 1 ≤ t.size
      · have g2 : ¬ (stO true t i) + 1 + lenP t (stO true t i) ≤ t.size := fun h => h1 ⟨g1, h⟩
        have x0 : (bAt (cutS (restS t (stO true t i)) 0 (Int.toNat 1)) (Int.toNat 0)) = (lenP t (stO true t i) : Int) := cut_len t (stO true t i) g1
        repeat' ((conv => whnf); first | (with_reducible first | (refine W1.o ?_; constructor) | rfl | exact castL_self _ _) | ((with_reducible refine V.same_t ?_); exact rfl) | ((with_reducible refine andB_room ?_ ?_ ?_); (· kernel_rfl); (· (first | omega | (simp only [lens] <;> omega)))) | ((with_reducible refine W2.o ?_; constructor); · (first | (with_reducible assumption) | (first | omega | (simp only [lens] <;> omega)))) | ((with_reducible refine W3.o ?_; constructor); · (first | (with_reducible assumption) | (first | omega | (simp only [lens] <;> omega)))) | ((with_reducible refine W4.o ?_; constructor); · (first | (with_reducible first | assumption | exact decide_eq_true rfl | exact sEq_self _) | ((with_reducible refine eqOK_i ?_); kernel_rfl))) | ((with_reducible refine iteB_f ?_ ?_); · (first | (with_reducible first | assumption | exact decide_eq_true rfl | exact sEq_self _) | ((with_reducible refine eqOK_i ?_); kernel_rfl))) | (with_reducible refine CD.wk_au ?_) | (with_reducible refine W5.o ?_; constructor) | ((with_reducible refine W6.o ?_; constructor) <;> intro hB))
        all_goals ((conv => whnf); (try dsimp only); (try simp only [Nat.succ_eq_add_one, Nat.le_eq, castL_self]); (try omega))
        all_goals (try (first | omega | (simp only [lens] <;> omega)))
        all_goals trace_state
      · repeat' ((conv => whnf); first | (with_reducible first | (refine W1.o ?_; constructor) | rfl | exact castL_self _ _) | ((with_reducible refine V.same_t ?_); exact rfl) | ((with_reducible refine andB_room ?_ ?_ ?_); (· kernel_rfl); (· (first | omega | (simp only [lens] <;> omega)))) | ((with_reducible refine W2.o ?_; constructor); · (first | (with_reducible assumption) | (first | omega | (simp only [lens] <;> omega)))) | ((with_reducible refine W3.o ?_; constructor); · (first | (with_reducible assumption) | (first | omega | (simp only [lens] <;> omega)))) | ((with_reducible refine W4.o ?_; constructor); · (first | (with_reducible first | assumption | exact decide_eq_true rfl | exact sEq_self _) | ((with_reducible refine eqOK_i ?_); kernel_rfl))) | ((with_reducible refine iteB_f ?_ ?_); · (first | (with_reducible first | assumption | exact decide_eq_true rfl | exact sEq_self _) | ((with_reducible refine eqOK_i ?_); kernel_rfl))) | (with_reducible refine CD.wk_au ?_) | (with_reducible refine W5.o ?_; constructor) | ((with_reducible refine W6.o ?_; constructor) <;> intro hB))
        all_goals ((conv => whnf); (try dsimp only); (try simp only [Nat.succ_eq_add_one, Nat.le_eq, castL_self]); (try omega))
        all_goals (try (first | omega | (simp only [lens] <;> omega)))
        all_goals trace_state
  · have he : i = cnt := Nat.le_antisymm hi hge
    subst he
    have hk : okB true t i = true := by rw [okB_eq]; exact ha
    repeat' ((conv => whnf); first | (with_reducible first | (refine W1.o ?_; constructor) | rfl | exact castL_self _ _) | ((with_reducible refine V.same_t ?_); exact rfl) | ((with_reducible refine andB_room ?_ ?_ ?_); (· kernel_rfl); (· (first | omega | (simp only [lens] <;> omega)))) | ((with_reducible refine W2.o ?_; constructor); · (first | (with_reducible assumption) | (first | omega | (simp only [lens] <;> omega)))) | ((with_reducible refine W3.o ?_; constructor); · (first | (with_reducible assumption) | (first | omega | (simp only [lens] <;> omega)))) | ((with_reducible refine W4.o ?_; constructor); · (first | (with_reducible first | assumption | exact decide_eq_true rfl | exact sEq_self _) | ((with_reducible refine eqOK_i ?_); kernel_rfl))) | ((with_reducible refine iteB_f ?_ ?_); · (first | (with_reducible first | assumption | exact decide_eq_true rfl | exact sEq_self _) | ((with_reducible refine eqOK_i ?_); kernel_rfl))) | (with_reducible refine CD.wk_au ?_) | (with_reducible refine W5.o ?_; constructor) | ((with_reducible refine W6.o ?_; constructor) <;> intro hB))
    all_goals ((conv => whnf); (try dsimp only); (try simp only [Nat.succ_eq_add_one, Nat.le_eq, castL_self]); (try omega))
    all_goals (try (first | omega | (simp only [lens] <;> omega)))
    all_goals trace_state
theorem dc_knot (s t : ByteArray) (cnt : Nat) (ht : t.size = 252) (hc : cnt ≤ 255) (N : Nat) : LpD.ok Try.prog N 0 (bodyOf Try.prog 10) ⟨12, [], dcC false s t cnt 0, dcO false s t cnt⟩ := by
  refine LpD.ok_one (b := bodyAt Try.prog 10 12) rfl (loop_W tabPgI_ok (fuel := 3) (d := 6) (X := { i : Nat // i ≤ cnt ∧ (runP false t i).isSome = true }) (fun x => dcC false s t cnt x.1) (fun x => cnt - x.1)
    (fun _ => dcO false s t cnt) (fun _ => noLpW) (fun _ => noLp) (fun _ => noLp_ad) (fun _ => noLp_ok _) ?_ ⟨0, Nat.zero_le _, by rw [runP_0]; rfl⟩)
  rintro ⟨i, hi, ha⟩
  dsimp only
  rcases Nat.lt_or_ge i cnt with hlt | hge
  · have hst := runP_st4 ha
    obtain ⟨q1, q2, q3, q4, q5⟩ := runP_in (by omega) i hst
    dsimp only at q1 q2 q3 q4 q5
    have s0 : ByteArray.size (restS t (stO false t i)) = t.size - (stO false t i) := restS_size t (stO false t i)
    have y1 : (cutS (restS t (stO false t i)) (Int.toNat 1) (ByteArray.size (restS t (stO false t i)))) = restS t ((stO false t i) + 1) := cut_ext t (stO false t i) 1
    have s1 : ByteArray.size (cutS (restS t (stO false t i)) (Int.toNat 1) (ByteArray.size (restS t (stO false t i)))) = t.size - ((stO false t i) + 1) := by rw [y1, restS_size]
    have hl0 := lenP_lt t (stO false t i)
    by_cases h1 : txP t (stO false t i)
    · obtain ⟨g1, g2⟩ := h1
      have x0 : (bAt (cutS (restS t (stO false t i)) 0 (Int.toNat 1)) (Int.toNat 0)) = (lenP t (stO false t i) : Int) := cut_len t (stO false t i) g1
      obtain ⟨o1, ho1⟩ : ∃ o1, (stO false t i) + 1 + lenP t (stO false t i) = o1 := ⟨_, rfl⟩
      have y2 : (cutS (cutS (restS t (stO false t i)) (Int.toNat 1) (ByteArray.size (restS t (stO false t i)))) (Int.toNat (bAt (cutS (restS t (stO false t i)) 0 (Int.toNat 1)) (Int.toNat 0))) (ByteArray.size (cutS (restS t (stO false t i)) (Int.toNat 1) (ByteArray.size (restS t (stO false t i)))))) = restS t o1 := by rw [x0, y1, ← ho1]; exact cut_ext t ((stO false t i) + 1) (lenP t (stO false t i))
      have k0 : (cutS (cutS (restS t (stO false t i)) (Int.toNat 1) (ByteArray.size (restS t (stO false t i)))) 0 (Int.toNat (bAt (cutS (restS t (stO false t i)) 0 (Int.toNat 1)) (Int.toNat 0)))) = txS t (stO false t i) := by rw [x0, y1]; exact cut_cut t ((stO false t i) + 1) (lenP t (stO false t i)) g2
      have hl1 := lenP_lt t o1
      have s2 : ByteArray.size (cutS (cutS (restS t (stO false t i)) (Int.toNat 1) (ByteArray.size (restS t (stO false t i)))) (Int.toNat (bAt (cutS (restS t (stO false t i)) 0 (Int.toNat 1)) (Int.toNat 0))) (ByteArray.size (cutS (restS t (stO false t i)) (Int.toNat 1) (ByteArray.size (restS t (stO false t i)))))) = t.size - o1 := by rw [y2, restS_size]
      by_cases h2 : o1 + 4 ≤ t.size
      · have hs : runP false t (i + 1) = some (stK false t i ++ [txS t (stO false t i)], stX false t i, stC false t i ++ [n4 t o1], o1 + 4) := by
          rw [runP_succ, hst]
          rw [← ho1] at h2 ⊢
          exact stepP_knot ⟨g1, g2⟩ h2
        obtain ⟨hK, hX, hC, hO⟩ := st_of hs
        dsimp only at hK hX hC hO
        have ha' : (runP false t (i + 1)).isSome = true := by rw [hs]; rfl
        have c0 : bAt (cutS (cutS (cutS (restS t (stO false t i)) (Int.toNat 1) (ByteArray.size (restS t (stO false t i)))) (Int.toNat (bAt (cutS (restS t (stO false t i)) 0 (Int.toNat 1)) (Int.toNat 0))) (ByteArray.size (cutS (restS t (stO false t i)) (Int.toNat 1) (ByteArray.size (restS t (stO false t i)))))) 0 (Int.toNat 4)) (Int.toNat 0) = bAt t o1 := by rw [y2]; exact cut_at t o1 4 0 h2 (by decide)
        have c1 : bAt (cutS (cutS (cutS (restS t (stO false t i)) (Int.toNat 1) (ByteArray.size (restS t (stO false t i)))) (Int.toNat (bAt (cutS (restS t (stO false t i)) 0 (Int.toNat 1)) (Int.toNat 0))) (ByteArray.size (cutS (restS t (stO false t i)) (Int.toNat 1) (ByteArray.size (restS t (stO false t i)))))) 0 (Int.toNat 4)) (Int.toNat 1) = bAt t (o1 + 1) := by rw [y2]; exact cut_at t o1 4 1 h2 (by decide)
        have c2 : bAt (cutS (cutS (cutS (restS t (stO false t i)) (Int.toNat 1) (ByteArray.size (restS t (stO false t i)))) (Int.toNat (bAt (cutS (restS t (stO false t i)) 0 (Int.toNat 1)) (Int.toNat 0))) (ByteArray.size (cutS (restS t (stO false t i)) (Int.toNat 1) (ByteArray.size (restS t (stO false t i)))))) 0 (Int.toNat 4)) (Int.toNat 2) = bAt t (o1 + 2) := by rw [y2]; exact cut_at t o1 4 2 h2 (by decide)
        have c3 : bAt (cutS (cutS (cutS (restS t (stO false t i)) (Int.toNat 1) (ByteArray.size (restS t (stO false t i)))) (Int.toNat (bAt (cutS (restS t (stO false t i)) 0 (Int.toNat 1)) (Int.toNat 0))) (ByteArray.size (cutS (restS t (stO false t i)) (Int.toNat 1) (ByteArray.size (restS t (stO false t i)))))) 0 (Int.toNat 4)) (Int.toNat 3) = bAt t (o1 + 3) := by rw [y2]; exact cut_at t o1 4 3 h2 (by decide)
        have k1 := c0
        have m4 : or4 (bAt (cutS (cutS (cutS (restS t (stO false t i)) (Int.toNat 1) (ByteArray.size (restS t (stO false t i)))) (Int.toNat (bAt (cutS (restS t (stO false t i)) 0 (Int.toNat 1)) (Int.toNat 0))) (ByteArray.size (cutS (restS t (stO false t i)) (Int.toNat 1) (ByteArray.size (restS t (stO false t i)))))) 0 (Int.toNat 4)) (Int.toNat 0)) (bAt (cutS (cutS (cutS (restS t (stO false t i)) (Int.toNat 1) (ByteArray.size (restS t (stO false t i)))) (Int.toNat (bAt (cutS (restS t (stO false t i)) 0 (Int.toNat 1)) (Int.toNat 0))) (ByteArray.size (cutS (restS t (stO false t i)) (Int.toNat 1) (ByteArray.size (restS t (stO false t i)))))) 0 (Int.toNat 4)) (Int.toNat 1)) (bAt (cutS (cutS (cutS (restS t (stO false t i)) (Int.toNat 1) (ByteArray.size (restS t (stO false t i)))) (Int.toNat (bAt (cutS (restS t (stO false t i)) 0 (Int.toNat 1)) (Int.toNat 0))) (ByteArray.size (cutS (restS t (stO false t i)) (Int.toNat 1) (ByteArray.size (restS t (stO false t i)))))) 0 (Int.toNat 4)) (Int.toNat 2)) (bAt (cutS (cutS (cutS (restS t (stO false t i)) (Int.toNat 1) (ByteArray.size (restS t (stO false t i)))) (Int.toNat (bAt (cutS (restS t (stO false t i)) 0 (Int.toNat 1)) (Int.toNat 0))) (ByteArray.size (cutS (restS t (stO false t i)) (Int.toNat 1) (ByteArray.size (restS t (stO false t i)))))) 0 (Int.toNat 4)) (Int.toNat 3)) = n4 t o1 := by rw [c0, c1, c2, c3]; rfl
        have y4 : (cutS (cutS (cutS (restS t (stO false t i)) (Int.toNat 1) (ByteArray.size (restS t (stO false t i)))) (Int.toNat (bAt (cutS (restS t (stO false t i)) 0 (Int.toNat 1)) (Int.toNat 0))) (ByteArray.size (cutS (restS t (stO false t i)) (Int.toNat 1) (ByteArray.size (restS t (stO false t i)))))) (Int.toNat 4) (ByteArray.size (cutS (cutS (restS t (stO false t i)) (Int.toNat 1) (ByteArray.size (restS t (stO false t i)))) (Int.toNat (bAt (cutS (restS t (stO false t i)) 0 (Int.toNat 1)) (Int.toNat 0))) (ByteArray.size (cutS (restS t (stO false t i)) (Int.toNat 1) (ByteArray.size (restS t (stO false t i)))))))) = restS t (o1 + 4) := by rw [y2]; exact cut_ext t o1 4
        repeat' ((conv => whnf); first | (with_reducible first | (refine W1.o ?_; constructor) | rfl | exact castL_self _ _) | ((with_reducible refine V.same_t ?_); exact rfl) | ((with_reducible refine andB_room ?_ ?_ ?_); (· kernel_rfl); (· (first | omega | (simp only [lens] <;> omega)))) | ((with_reducible refine W2.o ?_; constructor); · (first | (with_reducible assumption) | (first | omega | (simp only [lens] <;> omega)))) | ((with_reducible refine W3.o ?_; constructor); · (first | (with_reducible assumption) | (first | omega | (simp only [lens] <;> omega)))) | ((with_reducible refine W4.o ?_; constructor); · (first | (with_reducible first | assumption | exact decide_eq_true rfl | exact sEq_self _) | ((with_reducible refine eqOK_i ?_); kernel_rfl))) | ((with_reducible refine iteB_f ?_ ?_); · (first | (with_reducible first | assumption | exact decide_eq_true rfl | exact sEq_self _) | ((with_reducible refine eqOK_i ?_); kernel_rfl))) | (refine ⟨⟨i + 1, hlt, ha'⟩, ?_, rfl, ?_⟩) | (with_reducible refine CD.wk_au ?_) | (with_reducible refine W5.o ?_; constructor) | ((with_reducible refine W6.o ?_; constructor) <;> intro hB))
        all_goals ((conv => whnf); (try dsimp only); (try simp only [Nat.succ_eq_add_one, Nat.le_eq, castL_self]); (try omega))
        all_goals (try (first | omega | (simp only [lens] <;> omega)))
        all_goals first
          | omega
          | (rw [hC]; done)
          | (rw [hX]; done)
          | (rw [hO, y4]; done)
          | (rw [hC]; exact Nat.le_refl _)
          | (rw [hX]; exact Nat.le_refl _)
          | (simp only [hK, hX, hC, lens] <;> omega)
          | (rw [hK, k0, seg_all _ rfl]; rfl)
          | (rw [hX, k1, seg_all _ rfl]; rfl)
          | (rw [hC, ← m4, seg_all _ rfl, seg_one]; done)
          | trace_state
      · have hn : runP false t (i + 1) = none := by rw [runP_succ, hst]; exact stepP_no4 (by rw [ho1]; exact h2)
        have hk : okB false t cnt = false := by rw [okB_eq, runP_none hn hlt]; rfl
        repeat' ((conv => whnf); first | (with_reducible first | (refine W1.o ?_; constructor) | rfl | exact castL_self _ _) | ((with_reducible refine V.same_t ?_); exact rfl) | ((with_reducible refine andB_room ?_ ?_ ?_); (· kernel_rfl); (· (first | omega | (simp only [lens] <;> omega)))) | ((with_reducible refine W2.o ?_; constructor); · (first | (with_reducible assumption) | (first | omega | (simp only [lens] <;> omega)))) | ((with_reducible refine W3.o ?_; constructor); · (first | (with_reducible assumption) | (first | omega | (simp only [lens] <;> omega)))) | ((with_reducible refine W4.o ?_; constructor); · (first | (with_reducible first | assumption | exact decide_eq_true rfl | exact sEq_self _) | ((with_reducible refine eqOK_i ?_); kernel_rfl))) | ((with_reducible refine iteB_f ?_ ?_); · (first | (with_reducible first | assumption | exact decide_eq_true rfl | exact sEq_self _) | ((with_reducible refine eqOK_i ?_); kernel_rfl))) | (with_reducible refine CD.wk_au ?_) | (with_reducible refine W5.o ?_; constructor) | ((with_reducible refine W6.o ?_; constructor) <;> intro hB))
        all_goals ((conv => whnf); (try dsimp only); (try simp only [Nat.succ_eq_add_one, Nat.le_eq, castL_self]); (try omega))
        all_goals (try (first | omega | (simp only [lens] <;> omega)))
        all_goals trace_state
    · have hn : runP false t (i + 1) = none := by rw [runP_succ, hst]; exact stepP_no1 h1
      have hk : okB false t cnt = false := by rw [okB_eq, runP_none hn hlt]; rfl
      by_cases g1 : (stO false t i) + 1 ≤ t.size
      · have g2 : ¬ (stO false t i) + 1 + lenP t (stO false t i) ≤ t.size := fun h => h1 ⟨g1, h⟩
        have x0 : (bAt (cutS (restS t (stO false t i)) 0 (Int.toNat 1)) (Int.toNat 0)) = (lenP t (stO false t i) : Int) := cut_len t (stO false t i) g1
        repeat' ((conv => whnf); first | (with_reducible first | (refine W1.o ?_; constructor) | rfl | exact castL_self _ _) | ((with_reducible refine V.same_t ?_); exact rfl) | ((with_reducible refine andB_room ?_ ?_ ?_); (· kernel_rfl); (· (first | omega | (simp only [lens] <;> omega)))) | ((with_reducible refine W2.o ?_; constructor); · (first | (with_reducible assumption) | (first | omega | (simp only [lens] <;> omega)))) | ((with_reducible refine W3.o ?_; constructor); · (first | (with_reducible assumption) | (first | omega | (simp only [lens] <;> omega)))) | ((with_reducible refine W4.o ?_; constructor); · (first | (with_reducible first | assumption | exact decide_eq_true rfl | exact sEq_self _) | ((with_reducible refine eqOK_i ?_); kernel_rfl))) | ((with_reducible refine iteB_f ?_ ?_); · (first | (with_reducible first | assumption | exact decide_eq_true rfl | exact sEq_self _) | ((with_reducible refine eqOK_i ?_); kernel_rfl))) | (with_reducible refine CD.wk_au ?_) | (with_reducible refine W5.o ?_; constructor) | ((with_reducible refine W6.o ?_; constructor) <;> intro hB))
        all_goals ((conv => whnf); (try dsimp only); (try simp only [Nat.succ_eq_add_one, Nat.le_eq, castL_self]); (try omega))
        all_goals (try (first | omega | (simp only [lens] <;> omega)))
        all_goals trace_state
      · repeat' ((conv => whnf); first | (with_reducible first | (refine W1.o ?_; constructor) | rfl | exact castL_self _ _) | ((with_reducible refine V.same_t ?_); exact rfl) | ((with_reducible refine andB_room ?_ ?_ ?_); (· kernel_rfl); (· (first | omega | (simp only [lens] <;> omega)))) | ((with_reducible refine W2.o ?_; constructor); · (first | (with_reducible assumption) | (first | omega | (simp only [lens] <;> omega)))) | ((with_reducible refine W3.o ?_; constructor); · (first | (with_reducible assumption) | (first | omega | (simp only [lens] <;> omega)))) | ((with_reducible refine W4.o ?_; constructor); · (first | (with_reducible first | assumption | exact decide_eq_true rfl | exact sEq_self _) | ((with_reducible refine eqOK_i ?_); kernel_rfl))) | ((with_reducible refine iteB_f ?_ ?_); · (first | (with_reducible first | assumption | exact decide_eq_true rfl | exact sEq_self _) | ((with_reducible refine eqOK_i ?_); kernel_rfl))) | (with_reducible refine CD.wk_au ?_) | (with_reducible refine W5.o ?_; constructor) | ((with_reducible refine W6.o ?_; constructor) <;> intro hB))
        all_goals ((conv => whnf); (try dsimp only); (try simp only [Nat.succ_eq_add_one, Nat.le_eq, castL_self]); (try omega))
        all_goals (try (first | omega | (simp only [lens] <;> omega)))
        all_goals trace_state
  · have he : i = cnt := Nat.le_antisymm hi hge
    subst he
    have hk : okB false t i = true := by rw [okB_eq]; exact ha
    repeat' ((conv => whnf); first | (with_reducible first | (refine W1.o ?_; constructor) | rfl | exact castL_self _ _) | ((with_reducible refine V.same_t ?_); exact rfl) | ((with_reducible refine andB_room ?_ ?_ ?_); (· kernel_rfl); (· (first | omega | (simp only [lens] <;> omega)))) | ((with_reducible refine W2.o ?_; constructor); · (first | (with_reducible assumption) | (first | omega | (simp only [lens] <;> omega)))) | ((with_reducible refine W3.o ?_; constructor); · (first | (with_reducible assumption) | (first | omega | (simp only [lens] <;> omega)))) | ((with_reducible refine W4.o ?_; constructor); · (first | (with_reducible first | assumption | exact decide_eq_true rfl | exact sEq_self _) | ((with_reducible refine eqOK_i ?_); kernel_rfl))) | ((with_reducible refine iteB_f ?_ ?_); · (first | (with_reducible first | assumption | exact decide_eq_true rfl | exact sEq_self _) | ((with_reducible refine eqOK_i ?_); kernel_rfl))) | (with_reducible refine CD.wk_au ?_) | (with_reducible refine W5.o ?_; constructor) | ((with_reducible refine W6.o ?_; constructor) <;> intro hB))
    all_goals ((conv => whnf); (try dsimp only); (try simp only [Nat.succ_eq_add_one, Nat.le_eq, castL_self]); (try omega))
    all_goals (try (first | omega | (simp only [lens] <;> omega)))
    all_goals trace_state
end Go.Proofs.Ytlfhiophojahbaa
end
