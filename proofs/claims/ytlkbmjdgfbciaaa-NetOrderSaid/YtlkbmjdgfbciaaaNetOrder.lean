/-
  NetOrder returns true at every number and list. Conditions: numbers that fit their kinds.
-/
import Derived.Test.YtlkbmjdgfbciaaaNetLaw
import Derived.Test.YtlkbmjdgfbciaaaNetWorks
namespace Go.Proofs.Ytlkbmjdgfbciaaa
open Go.Sym
set_option linter.unusedVariables false
set_option linter.unusedSimpArgs false
set_option maxRecDepth 100000
set_option maxHeartbeats 4000000

/-! ### plain -/
theorem bAt_u8 (s : ByteArray) (i : Nat) : 0 ≤ bAt s i ∧ bAt s i < 256 := by
  have := UInt8.toNat_lt (s.data.toList.getD i 0)
  unfold bAt
  omega
noncomputable def oneB (j : Nat) : FrR := (0, 1, strOf [(j : Int) % 256])
noncomputable def frO : Nat → List FrR := hide fun i => (List.range i).map oneB
theorem frO_eq (i : Nat) : frO i = (List.range i).map oneB := by unfold frO; rw [hide_eq]
theorem frO_len (i : Nat) : (frO i).length = i := by rw [frO_eq]; simp
theorem frO_succ (i : Nat) : frO (i + 1) = frO i ++ [oneB i] := by rw [frO_eq, frO_eq, List.range_succ, List.map_append]; rfl
def stepO (F : List FrR) (b : Int) : List FrR := if b < (F.length : Int) then F.eraseIdx b.toNat else F
noncomputable def runO0 (n : Nat) (l : List Int) : Nat → List FrR
  | 0 => frO n
  | k + 1 => stepO (runO0 n l k) (Sym.rowAt [.int .u8] l k)
noncomputable def runO : Nat → List Int → Nat → List FrR := hide runO0
theorem runO_0 (n : Nat) (l : List Int) : runO n l 0 = frO n := by unfold runO; rw [hide_eq]; rfl
theorem runO_succ (n : Nat) (l : List Int) (k : Nat) : runO n l (k + 1) = stepO (runO n l k) (Sym.rowAt [.int .u8] l k) := by unfold runO; rw [hide_eq]; rfl
theorem runO_sub (n : Nat) (l : List Int) : ∀ k, (runO n l k).Sublist (frO n)
  | 0 => by rw [runO_0]; exact List.Sublist.refl _
  | k + 1 => by
    rw [runO_succ]
    unfold stepO
    split
    · exact (List.eraseIdx_sublist _ _).trans (runO_sub n l k)
    · exact runO_sub n l k
theorem runO_len (n : Nat) (l : List Int) (k : Nat) : (runO n l k).length ≤ n := by
  have := (runO_sub n l k).length_le
  rwa [frO_len] at this
theorem strOf_one (n : Int) : (strOf [n]).size = 1 ∧ bAt (strOf [n]) 0 = ((UInt8.ofNat n.toNat).toNat : Int) := ⟨rfl, rfl⟩
theorem oneB_is (j : Nat) (h : j < 256) : (oneB j).2.2.size = 1 ∧ bAt (oneB j).2.2 0 = j := by
  refine ⟨rfl, ?_⟩
  have := (strOf_one ((j : Int) % 256)).2
  unfold oneB
  rw [this, show ((j : Int) % 256).toNat = j by omega]
  simp
  omega
theorem frO_inc (n : Nat) (h : n ≤ 256) : (frO n).Pairwise (fun f g => bAt f.2.2 0 < bAt g.2.2 0) := by
  rw [frO_eq, List.pairwise_map]
  refine List.Pairwise.imp_of_mem ?_ (List.pairwise_lt_range (n := n))
  intro a b ha hb hab
  rw [List.mem_range] at ha hb
  rw [(oneB_is a (by omega)).2, (oneB_is b (by omega)).2]
  omega
theorem frO_one (n : Nat) (h : n ≤ 256) : ∀ f ∈ frO n, f.2.2.size = 1 ∧ 0 ≤ bAt f.2.2 0 := by
  intro f hf
  rw [frO_eq] at hf
  obtain ⟨j, hj, rfl⟩ := List.mem_map.1 hf
  rw [List.mem_range] at hj
  have := oneB_is j (by omega)
  rw [this.1, this.2]
  omega
theorem run_one (n : Nat) (h : n ≤ 256) (l : List Int) (k i : Nat) (hi : i < (runO n l k).length) : (rowF (runO n l k) i).2.2.size = 1 ∧ 0 ≤ bAt (rowF (runO n l k) i).2.2 0 :=
  frO_one n h _ ((runO_sub n l k).subset (rowF_mem hi))
theorem run_inc (n : Nat) (h : n ≤ 256) (l : List Int) (k i : Nat) (hi : i + 1 < (runO n l k).length) : bAt (rowF (runO n l k) i).2.2 0 < bAt (rowF (runO n l k) (i + 1)).2.2 0 := by
  have hp := (frO_inc n h).sublist (runO_sub n l k)
  unfold rowF
  rw [rowAt_lt (e := frE) (L := runO n l k) (by exact Nat.lt_of_succ_lt hi), rowAt_lt (e := frE) (L := runO n l k) hi]
  exact List.pairwise_iff_getElem.1 hp i (i + 1) _ hi (Nat.lt_succ_self i)
/-- the last number that was seen -/
noncomputable def lastO : List FrR → Nat → Int := hide fun F i => if i = 0 then -1 else bAt (rowF F (i - 1)).2.2 0
theorem lastO_0 (F : List FrR) : lastO F 0 = -1 := by unfold lastO; rw [hide_eq]; rfl
theorem lastO_succ (F : List FrR) (i : Nat) : lastO F (i + 1) = bAt (rowF F i).2.2 0 := by unfold lastO; rw [hide_eq]; exact if_neg (Nat.succ_ne_zero i)

section
variable (many : Int) (l : List Int)
noncomputable def noC (n i : Nat) : CD := ⟨114, [(0, .int .u8 many), (1, .lst [.int .u8] l false), (5, .ptr 0 0), (6, .int .i64 (i : Int))], [], [(0, .cells [.int .i64 100, .rs 1 0 i i false 3] 0 false), (1, .rows frE (frO i) 0 false)], 2⟩
theorem no_loop1 (n : Nat) (hn : (n : Int) = many % 40) (h0 : 0 ≤ many ∧ many < 256) (N : Nat) : LpD.ok Try.prog N 0 (bodyOf Try.prog 5) ⟨7, [(0, 0)], noC many l n 0, .leaf (.exit 0) (noC many l n n)⟩ := by
  refine LpD.ok_one (b := bodyAt Try.prog 5 7) rfl (loop_W noTab_ok (fuel := 3) (d := 8) (X := { i : Nat // i ≤ n }) (fun x => noC many l n x.1) (fun x => n - x.1)
    (fun _ => .leaf (.exit 0) (noC many l n n)) (fun _ => noLpW) (fun _ => noLp) (fun _ => noLp_ad) (fun _ => noLp_ok _) ?_ ⟨0, Nat.zero_le _⟩)
  rintro ⟨i, hi⟩
  dsimp only
  have hl := frO_len i
  have eM := maxI_eq 0 1
  have z1 := (strOf_one ((i : Int) % 256)).1
  rcases Nat.lt_or_ge i n with hlt | hge
  · have hs := frO_succ i
    repeat' (conv => whnf
             first
              | (with_reducible exact True.intro)
              | (with_reducible rfl)
              | (with_reducible exact castL_self _ _)
              | ((with_reducible refine V.same_t ?_); exact rfl)
              | (with_reducible refine iteB_n ?_)
              | (with_reducible refine iteB_ct ?_)
              | (with_reducible refine iteB_cf ?_)
              | (with_reducible refine iteB_bt ?_)
              | (with_reducible refine iteB_bf ?_)
              | (with_reducible refine iteB_tb ?_)
              | (with_reducible refine iteB_fb ?_)
              | ((with_reducible refine andB_room ?_ ?_ ?_); (· kernel_rfl); (· (first | omega | (simp only [castL_self, seg_len, rowAt_one, rowAt_oneS, List.length_append, List.length_cons, List.length_nil, List.length_drop, List.length_take, List.length_eraseIdx, List.length_replicate, ByteArray.size_extract, bs_app, strOf_size, bytesL_len, maxI_eq] <;> omega))))
              | ((with_reducible refine andB_in ?_ ?_); · (first | omega | (simp only [castL_self, seg_len, rowAt_one, rowAt_oneS, List.length_append, List.length_cons, List.length_nil, List.length_drop, List.length_take, List.length_eraseIdx, List.length_replicate, ByteArray.size_extract, bs_app, strOf_size, bytesL_len, maxI_eq] <;> omega)))
              | ((with_reducible refine andB_d ?_ ?_); · (first | (with_reducible assumption) | (first | omega | (simp only [castL_self, seg_len, rowAt_one, rowAt_oneS, List.length_append, List.length_cons, List.length_nil, List.length_drop, List.length_take, List.length_eraseIdx, List.length_replicate, ByteArray.size_extract, bs_app, strOf_size, bytesL_len, maxI_eq] <;> omega))))
              | ((with_reducible refine andB_lt ?_ ?_); · (first | (with_reducible assumption) | (first | omega | (simp only [castL_self, seg_len, rowAt_one, rowAt_oneS, List.length_append, List.length_cons, List.length_nil, List.length_drop, List.length_take, List.length_eraseIdx, List.length_replicate, ByteArray.size_extract, bs_app, strOf_size, bytesL_len, maxI_eq] <;> omega))))
              | ((with_reducible refine andB_le ?_ ?_); · (first | (with_reducible assumption) | (first | omega | (simp only [castL_self, seg_len, rowAt_one, rowAt_oneS, List.length_append, List.length_cons, List.length_nil, List.length_drop, List.length_take, List.length_eraseIdx, List.length_replicate, ByteArray.size_extract, bs_app, strOf_size, bytesL_len, maxI_eq] <;> omega))))
              | ((with_reducible refine iteB_ltt ?_ ?_); · (first | (with_reducible assumption) | (first | omega | (simp only [castL_self, seg_len, rowAt_one, rowAt_oneS, List.length_append, List.length_cons, List.length_nil, List.length_drop, List.length_take, List.length_eraseIdx, List.length_replicate, ByteArray.size_extract, bs_app, strOf_size, bytesL_len, maxI_eq] <;> omega))))
              | ((with_reducible refine iteB_ltf ?_ ?_); · (first | (with_reducible assumption) | (first | omega | (simp only [castL_self, seg_len, rowAt_one, rowAt_oneS, List.length_append, List.length_cons, List.length_nil, List.length_drop, List.length_take, List.length_eraseIdx, List.length_replicate, ByteArray.size_extract, bs_app, strOf_size, bytesL_len, maxI_eq] <;> omega))))
              | ((with_reducible refine iteB_let ?_ ?_); · (first | (with_reducible assumption) | (first | omega | (simp only [castL_self, seg_len, rowAt_one, rowAt_oneS, List.length_append, List.length_cons, List.length_nil, List.length_drop, List.length_take, List.length_eraseIdx, List.length_replicate, ByteArray.size_extract, bs_app, strOf_size, bytesL_len, maxI_eq] <;> omega))))
              | ((with_reducible refine iteB_lef ?_ ?_); · (first | (with_reducible assumption) | (first | omega | (simp only [castL_self, seg_len, rowAt_one, rowAt_oneS, List.length_append, List.length_cons, List.length_nil, List.length_drop, List.length_take, List.length_eraseIdx, List.length_replicate, ByteArray.size_extract, bs_app, strOf_size, bytesL_len, maxI_eq] <;> omega))))
              | ((with_reducible refine iteB_dt ?_ ?_); · (first | (with_reducible assumption) | (first | omega | (simp only [castL_self, seg_len, rowAt_one, rowAt_oneS, List.length_append, List.length_cons, List.length_nil, List.length_drop, List.length_take, List.length_eraseIdx, List.length_replicate, ByteArray.size_extract, bs_app, strOf_size, bytesL_len, maxI_eq] <;> omega))))
              | ((with_reducible refine iteB_df ?_ ?_); · (first | (with_reducible assumption) | (first | omega | (simp only [castL_self, seg_len, rowAt_one, rowAt_oneS, List.length_append, List.length_cons, List.length_nil, List.length_drop, List.length_take, List.length_eraseIdx, List.length_replicate, ByteArray.size_extract, bs_app, strOf_size, bytesL_len, maxI_eq] <;> omega))))
              | ((with_reducible refine andB_i ?_ ?_); · (first | (with_reducible assumption) | (with_reducible exact decide_eq_true rfl) | (with_reducible exact sEq_self _) | ((with_reducible refine eqOK_i ?_); kernel_rfl)))
              | ((with_reducible refine iteB_t ?_ ?_); · (first | (with_reducible assumption) | (with_reducible exact decide_eq_true rfl) | (with_reducible exact sEq_self _) | ((with_reducible refine eqOK_i ?_); kernel_rfl)))
              | ((with_reducible refine iteB_f ?_ ?_); · (first | (with_reducible assumption) | (with_reducible exact decide_eq_true rfl) | (with_reducible exact sEq_self _) | ((with_reducible refine eqOK_i ?_); kernel_rfl)))
              | (refine ⟨⟨i + 1, hlt⟩, ?_, rfl, ?_⟩)
              | (with_reducible refine CD.wk_au ?_)
              | (with_reducible refine andB_in ?_ ?_)
              | (with_reducible refine andB_lt ?_ ?_)
              | (with_reducible refine andB_le ?_ ?_)
              | (with_reducible refine andB_d ?_ ?_)
              | (with_reducible refine andB_i ?_ ?_)
              | (with_reducible refine iteB_lts (fun hB => ?_) (fun hB => ?_))
              | (with_reducible refine iteB_les (fun hB => ?_) (fun hB => ?_))
              | (with_reducible refine iteB_ds (fun hB => ?_) (fun hB => ?_))
              | (with_reducible refine iteB_s (fun hB => ?_) (fun hB => ?_))
              | (with_reducible refine CD.wk_as ?_)
              | (with_reducible refine And.intro ?_ ?_))
    all_goals (conv => whnf)
    all_goals (try dsimp only)
    all_goals (try simp only [Nat.succ_eq_add_one, Nat.le_eq, castL_self])
    all_goals (try omega)
    all_goals (try (simp only [castL_self, seg_len, rowAt_one, rowAt_oneS, List.length_append, List.length_cons, List.length_nil, List.length_drop, List.length_take, List.length_eraseIdx, List.length_replicate, ByteArray.size_extract, bs_app, strOf_size, bytesL_len, maxI_eq] <;> omega))
    all_goals first
      | omega
      | (rw [hs, seg_all _ hl]; rfl)
      | trace_state
  · have he : i = n := Nat.le_antisymm hi hge
    subst he
    repeat' (conv => whnf
             first
              | (with_reducible exact True.intro)
              | (with_reducible rfl)
              | (with_reducible exact castL_self _ _)
              | ((with_reducible refine V.same_t ?_); exact rfl)
              | (with_reducible refine iteB_n ?_)
              | (with_reducible refine iteB_ct ?_)
              | (with_reducible refine iteB_cf ?_)
              | (with_reducible refine iteB_bt ?_)
              | (with_reducible refine iteB_bf ?_)
              | (with_reducible refine iteB_tb ?_)
              | (with_reducible refine iteB_fb ?_)
              | ((with_reducible refine andB_room ?_ ?_ ?_); (· kernel_rfl); (· (first | omega | (simp only [castL_self, seg_len, rowAt_one, rowAt_oneS, List.length_append, List.length_cons, List.length_nil, List.length_drop, List.length_take, List.length_eraseIdx, List.length_replicate, ByteArray.size_extract, bs_app, strOf_size, bytesL_len, maxI_eq] <;> omega))))
              | ((with_reducible refine andB_in ?_ ?_); · (first | omega | (simp only [castL_self, seg_len, rowAt_one, rowAt_oneS, List.length_append, List.length_cons, List.length_nil, List.length_drop, List.length_take, List.length_eraseIdx, List.length_replicate, ByteArray.size_extract, bs_app, strOf_size, bytesL_len, maxI_eq] <;> omega)))
              | ((with_reducible refine andB_d ?_ ?_); · (first | (with_reducible assumption) | (first | omega | (simp only [castL_self, seg_len, rowAt_one, rowAt_oneS, List.length_append, List.length_cons, List.length_nil, List.length_drop, List.length_take, List.length_eraseIdx, List.length_replicate, ByteArray.size_extract, bs_app, strOf_size, bytesL_len, maxI_eq] <;> omega))))
              | ((with_reducible refine andB_lt ?_ ?_); · (first | (with_reducible assumption) | (first | omega | (simp only [castL_self, seg_len, rowAt_one, rowAt_oneS, List.length_append, List.length_cons, List.length_nil, List.length_drop, List.length_take, List.length_eraseIdx, List.length_replicate, ByteArray.size_extract, bs_app, strOf_size, bytesL_len, maxI_eq] <;> omega))))
              | ((with_reducible refine andB_le ?_ ?_); · (first | (with_reducible assumption) | (first | omega | (simp only [castL_self, seg_len, rowAt_one, rowAt_oneS, List.length_append, List.length_cons, List.length_nil, List.length_drop, List.length_take, List.length_eraseIdx, List.length_replicate, ByteArray.size_extract, bs_app, strOf_size, bytesL_len, maxI_eq] <;> omega))))
              | ((with_reducible refine iteB_ltt ?_ ?_); · (first | (with_reducible assumption) | (first | omega | (simp only [castL_self, seg_len, rowAt_one, rowAt_oneS, List.length_append, List.length_cons, List.length_nil, List.length_drop, List.length_take, List.length_eraseIdx, List.length_replicate, ByteArray.size_extract, bs_app, strOf_size, bytesL_len, maxI_eq] <;> omega))))
              | ((with_reducible refine iteB_ltf ?_ ?_); · (first | (with_reducible assumption) | (first | omega | (simp only [castL_self, seg_len, rowAt_one, rowAt_oneS, List.length_append, List.length_cons, List.length_nil, List.length_drop, List.length_take, List.length_eraseIdx, List.length_replicate, ByteArray.size_extract, bs_app, strOf_size, bytesL_len, maxI_eq] <;> omega))))
              | ((with_reducible refine iteB_let ?_ ?_); · (first | (with_reducible assumption) | (first | omega | (simp only [castL_self, seg_len, rowAt_one, rowAt_oneS, List.length_append, List.length_cons, List.length_nil, List.length_drop, List.length_take, List.length_eraseIdx, List.length_replicate, ByteArray.size_extract, bs_app, strOf_size, bytesL_len, maxI_eq] <;> omega))))
              | ((with_reducible refine iteB_lef ?_ ?_); · (first | (with_reducible assumption) | (first | omega | (simp only [castL_self, seg_len, rowAt_one, rowAt_oneS, List.length_append, List.length_cons, List.length_nil, List.length_drop, List.length_take, List.length_eraseIdx, List.length_replicate, ByteArray.size_extract, bs_app, strOf_size, bytesL_len, maxI_eq] <;> omega))))
              | ((with_reducible refine iteB_dt ?_ ?_); · (first | (with_reducible assumption) | (first | omega | (simp only [castL_self, seg_len, rowAt_one, rowAt_oneS, List.length_append, List.length_cons, List.length_nil, List.length_drop, List.length_take, List.length_eraseIdx, List.length_replicate, ByteArray.size_extract, bs_app, strOf_size, bytesL_len, maxI_eq] <;> omega))))
              | ((with_reducible refine iteB_df ?_ ?_); · (first | (with_reducible assumption) | (first | omega | (simp only [castL_self, seg_len, rowAt_one, rowAt_oneS, List.length_append, List.length_cons, List.length_nil, List.length_drop, List.length_take, List.length_eraseIdx, List.length_replicate, ByteArray.size_extract, bs_app, strOf_size, bytesL_len, maxI_eq] <;> omega))))
              | ((with_reducible refine andB_i ?_ ?_); · (first | (with_reducible assumption) | (with_reducible exact decide_eq_true rfl) | (with_reducible exact sEq_self _) | ((with_reducible refine eqOK_i ?_); kernel_rfl)))
              | ((with_reducible refine iteB_t ?_ ?_); · (first | (with_reducible assumption) | (with_reducible exact decide_eq_true rfl) | (with_reducible exact sEq_self _) | ((with_reducible refine eqOK_i ?_); kernel_rfl)))
              | ((with_reducible refine iteB_f ?_ ?_); · (first | (with_reducible assumption) | (with_reducible exact decide_eq_true rfl) | (with_reducible exact sEq_self _) | ((with_reducible refine eqOK_i ?_); kernel_rfl)))
              | (with_reducible refine CD.wk_au ?_)
              | (with_reducible refine andB_in ?_ ?_)
              | (with_reducible refine andB_lt ?_ ?_)
              | (with_reducible refine andB_le ?_ ?_)
              | (with_reducible refine andB_d ?_ ?_)
              | (with_reducible refine andB_i ?_ ?_)
              | (with_reducible refine iteB_lts (fun hB => ?_) (fun hB => ?_))
              | (with_reducible refine iteB_les (fun hB => ?_) (fun hB => ?_))
              | (with_reducible refine iteB_ds (fun hB => ?_) (fun hB => ?_))
              | (with_reducible refine iteB_s (fun hB => ?_) (fun hB => ?_))
              | (with_reducible refine CD.wk_as ?_)
              | (with_reducible refine And.intro ?_ ?_))
    all_goals (conv => whnf)
    all_goals (try dsimp only)
    all_goals (try simp only [Nat.succ_eq_add_one, Nat.le_eq, castL_self])
    all_goals (try omega)
    all_goals (try (simp only [castL_self, seg_len, rowAt_one, rowAt_oneS, List.length_append, List.length_cons, List.length_nil, List.length_drop, List.length_take, List.length_eraseIdx, List.length_replicate, ByteArray.size_extract, bs_app, strOf_size, bytesL_len, maxI_eq] <;> omega))
    all_goals trace_state
noncomputable def noP (n k : Nat) : CD := ⟨114, [(1, .lst [.int .u8] l false), (5, .ptr 0 0), (7, .int .i64 (k : Int))], [], [(0, .cells [.int .i64 100, .rs 1 0 (runO n l k).length n false 3] 0 false), (1, .rows frE (runO n l k) 0 false)], 2⟩
theorem no_loop2 (n : Nat) (hn : n < 40) (hw : ∀ i, i < l.length → @LE.le Int _ 0 (Sym.rowAt [.int .u8] l i) ∧ @LT.lt Int _ (Sym.rowAt [.int .u8] l i) 256) (N : Nat) : LpD.ok Try.prog N 0 (bodyOf Try.prog 5) ⟨12, [(0, 0), (1, 1)], noP l n 0, .leaf (.exit 2) (noP l n (min l.length 50))⟩ := by
  refine LpD.ok_one (b := bodyAt Try.prog 5 12) rfl (loop_W noTab_ok (fuel := 3) (d := 8) (X := { k : Nat // k ≤ min l.length 50 }) (fun x => noP l n x.1) (fun x => min l.length 50 - x.1)
    (fun _ => .leaf (.exit 2) (noP l n (min l.length 50))) (fun _ => noLpW) (fun _ => noLp) (fun _ => noLp_ad) (fun _ => noLp_ok _) ?_ ⟨0, Nat.zero_le _⟩)
  rintro ⟨k, hk⟩
  dsimp only
  have hl := runO_len n l k
  rcases Nat.lt_or_ge k (min l.length 50) with hlt | hge
  · have hs := runO_succ n l k
    have hb := hw k (by omega)
    obtain ⟨w, ew⟩ : ∃ w : Int, @Eq Int w (Sym.rowAt [.int .u8] l (Int.toNat (k : Int))) := ⟨_, rfl⟩
    have ew0 : @Eq Int (Sym.rowAt [.int .u8] l k) w := ew.symm
    have hb1 : 0 ≤ w := by rw [ew]; exact hb.1
    have hb2 : w < 256 := by rw [ew]; exact hb.2
    clear hb
    obtain ⟨j, rfl⟩ := Int.eq_ofNat_of_zero_le hb1
    have ej : Int.toNat ((j : Int) + 1) = j + 1 := by omega
    have ek : Int.toNat (k : Int) = k := rfl
    by_cases hwl : (j : Int) < ((runO n l k).length : Int)
    · have hs2 : runO n l (k + 1) = (runO n l k).eraseIdx j := by rw [hs, ew0]; exact if_pos hwl
      have hs3 : (runO n l (k + 1)).length = (runO n l k).length - 1 := by rw [hs2, List.length_eraseIdx, if_pos (by omega)]
      repeat' (conv => whnf
               first
                | (with_reducible exact True.intro)
                | (with_reducible rfl)
                | (with_reducible exact castL_self _ _)
                | ((with_reducible refine V.same_t ?_); exact rfl)
                | (with_reducible refine iteB_n ?_)
                | (with_reducible refine iteB_ct ?_)
                | (with_reducible refine iteB_cf ?_)
                | (with_reducible refine iteB_bt ?_)
                | (with_reducible refine iteB_bf ?_)
                | (with_reducible refine iteB_tb ?_)
                | (with_reducible refine iteB_fb ?_)
                | ((with_reducible refine andB_room ?_ ?_ ?_); (· kernel_rfl); (· (first | omega | (simp only [castL_self, seg_len, rowAt_one, rowAt_oneS, List.length_append, List.length_cons, List.length_nil, List.length_drop, List.length_take, List.length_eraseIdx, List.length_replicate, ByteArray.size_extract, bs_app, strOf_size, bytesL_len, maxI_eq] <;> omega))))
                | ((with_reducible refine andB_in ?_ ?_); · (first | omega | (simp only [castL_self, seg_len, rowAt_one, rowAt_oneS, List.length_append, List.length_cons, List.length_nil, List.length_drop, List.length_take, List.length_eraseIdx, List.length_replicate, ByteArray.size_extract, bs_app, strOf_size, bytesL_len, maxI_eq] <;> omega)))
                | ((with_reducible refine andB_d ?_ ?_); · (first | (with_reducible assumption) | (first | omega | (simp only [castL_self, seg_len, rowAt_one, rowAt_oneS, List.length_append, List.length_cons, List.length_nil, List.length_drop, List.length_take, List.length_eraseIdx, List.length_replicate, ByteArray.size_extract, bs_app, strOf_size, bytesL_len, maxI_eq] <;> omega))))
                | ((with_reducible refine andB_lt ?_ ?_); · (first | (with_reducible assumption) | (first | omega | (simp only [castL_self, seg_len, rowAt_one, rowAt_oneS, List.length_append, List.length_cons, List.length_nil, List.length_drop, List.length_take, List.length_eraseIdx, List.length_replicate, ByteArray.size_extract, bs_app, strOf_size, bytesL_len, maxI_eq] <;> omega))))
                | ((with_reducible refine andB_le ?_ ?_); · (first | (with_reducible assumption) | (first | omega | (simp only [castL_self, seg_len, rowAt_one, rowAt_oneS, List.length_append, List.length_cons, List.length_nil, List.length_drop, List.length_take, List.length_eraseIdx, List.length_replicate, ByteArray.size_extract, bs_app, strOf_size, bytesL_len, maxI_eq] <;> omega))))
                | ((with_reducible refine iteB_ltt ?_ ?_); · (first | (with_reducible assumption) | (first | omega | (simp only [castL_self, seg_len, rowAt_one, rowAt_oneS, List.length_append, List.length_cons, List.length_nil, List.length_drop, List.length_take, List.length_eraseIdx, List.length_replicate, ByteArray.size_extract, bs_app, strOf_size, bytesL_len, maxI_eq] <;> omega))))
                | ((with_reducible refine iteB_ltf ?_ ?_); · (first | (with_reducible assumption) | (first | omega | (simp only [castL_self, seg_len, rowAt_one, rowAt_oneS, List.length_append, List.length_cons, List.length_nil, List.length_drop, List.length_take, List.length_eraseIdx, List.length_replicate, ByteArray.size_extract, bs_app, strOf_size, bytesL_len, maxI_eq] <;> omega))))
                | ((with_reducible refine iteB_let ?_ ?_); · (first | (with_reducible assumption) | (first | omega | (simp only [castL_self, seg_len, rowAt_one, rowAt_oneS, List.length_append, List.length_cons, List.length_nil, List.length_drop, List.length_take, List.length_eraseIdx, List.length_replicate, ByteArray.size_extract, bs_app, strOf_size, bytesL_len, maxI_eq] <;> omega))))
                | ((with_reducible refine iteB_lef ?_ ?_); · (first | (with_reducible assumption) | (first | omega | (simp only [castL_self, seg_len, rowAt_one, rowAt_oneS, List.length_append, List.length_cons, List.length_nil, List.length_drop, List.length_take, List.length_eraseIdx, List.length_replicate, ByteArray.size_extract, bs_app, strOf_size, bytesL_len, maxI_eq] <;> omega))))
                | ((with_reducible refine iteB_dt ?_ ?_); · (first | (with_reducible assumption) | (first | omega | (simp only [castL_self, seg_len, rowAt_one, rowAt_oneS, List.length_append, List.length_cons, List.length_nil, List.length_drop, List.length_take, List.length_eraseIdx, List.length_replicate, ByteArray.size_extract, bs_app, strOf_size, bytesL_len, maxI_eq] <;> omega))))
                | ((with_reducible refine iteB_df ?_ ?_); · (first | (with_reducible assumption) | (first | omega | (simp only [castL_self, seg_len, rowAt_one, rowAt_oneS, List.length_append, List.length_cons, List.length_nil, List.length_drop, List.length_take, List.length_eraseIdx, List.length_replicate, ByteArray.size_extract, bs_app, strOf_size, bytesL_len, maxI_eq] <;> omega))))
                | ((with_reducible refine andB_i ?_ ?_); · (first | (with_reducible assumption) | (with_reducible exact decide_eq_true rfl) | (with_reducible exact sEq_self _) | ((with_reducible refine eqOK_i ?_); kernel_rfl)))
                | ((with_reducible refine iteB_t ?_ ?_); · (first | (with_reducible assumption) | (with_reducible exact decide_eq_true rfl) | (with_reducible exact sEq_self _) | ((with_reducible refine eqOK_i ?_); kernel_rfl)))
                | ((with_reducible refine iteB_f ?_ ?_); · (first | (with_reducible assumption) | (with_reducible exact decide_eq_true rfl) | (with_reducible exact sEq_self _) | ((with_reducible refine eqOK_i ?_); kernel_rfl)))
                | (refine ⟨⟨k + 1, hlt⟩, ?_, rfl, ?_⟩)
                | (with_reducible refine CD.wk_au ?_)
                | (with_reducible refine andB_in ?_ ?_)
                | (with_reducible refine andB_lt ?_ ?_)
                | (with_reducible refine andB_le ?_ ?_)
                | (with_reducible refine andB_d ?_ ?_)
                | (with_reducible refine andB_i ?_ ?_)
                | (with_reducible refine iteB_lts (fun hB => ?_) (fun hB => ?_))
                | (with_reducible refine iteB_les (fun hB => ?_) (fun hB => ?_))
                | (with_reducible refine iteB_ds (fun hB => ?_) (fun hB => ?_))
                | (with_reducible refine iteB_s (fun hB => ?_) (fun hB => ?_))
                | (with_reducible refine CD.wk_as ?_)
                | (with_reducible refine And.intro ?_ ?_))
      all_goals (conv => whnf)
      all_goals (try dsimp only)
      all_goals (try simp only [Nat.succ_eq_add_one, Nat.le_eq, castL_self])
      all_goals (try omega)
      all_goals (try (simp only [castL_self, seg_len, rowAt_one, rowAt_oneS, List.length_append, List.length_cons, List.length_nil, List.length_drop, List.length_take, List.length_eraseIdx, List.length_replicate, ByteArray.size_extract, bs_app, strOf_size, bytesL_len, maxI_eq] <;> omega))
      all_goals first
        | (rw [← ew]; simp only [ej, Int.toNat_natCast, Nat.zero_add, Nat.sub_zero]; rw [hs2]; exact erase_in _ _ (by omega))
        | (simp only [Int.toNat_natCast, ew0, ej, Nat.zero_add, Nat.sub_zero]; rw [hs2]; exact erase_in _ _ (by omega))
        | trace_state
    · have hs2 : runO n l (k + 1) = runO n l k := by rw [hs, ew0]; exact if_neg hwl
      have hs3 : (runO n l (k + 1)).length = (runO n l k).length := by rw [hs2]
      repeat' (conv => whnf
               first
                | (with_reducible exact True.intro)
                | (with_reducible rfl)
                | (with_reducible exact castL_self _ _)
                | ((with_reducible refine V.same_t ?_); exact rfl)
                | (with_reducible refine iteB_n ?_)
                | (with_reducible refine iteB_ct ?_)
                | (with_reducible refine iteB_cf ?_)
                | (with_reducible refine iteB_bt ?_)
                | (with_reducible refine iteB_bf ?_)
                | (with_reducible refine iteB_tb ?_)
                | (with_reducible refine iteB_fb ?_)
                | ((with_reducible refine andB_room ?_ ?_ ?_); (· kernel_rfl); (· (first | omega | (simp only [castL_self, seg_len, rowAt_one, rowAt_oneS, List.length_append, List.length_cons, List.length_nil, List.length_drop, List.length_take, List.length_eraseIdx, List.length_replicate, ByteArray.size_extract, bs_app, strOf_size, bytesL_len, maxI_eq] <;> omega))))
                | ((with_reducible refine andB_in ?_ ?_); · (first | omega | (simp only [castL_self, seg_len, rowAt_one, rowAt_oneS, List.length_append, List.length_cons, List.length_nil, List.length_drop, List.length_take, List.length_eraseIdx, List.length_replicate, ByteArray.size_extract, bs_app, strOf_size, bytesL_len, maxI_eq] <;> omega)))
                | ((with_reducible refine andB_d ?_ ?_); · (first | (with_reducible assumption) | (first | omega | (simp only [castL_self, seg_len, rowAt_one, rowAt_oneS, List.length_append, List.length_cons, List.length_nil, List.length_drop, List.length_take, List.length_eraseIdx, List.length_replicate, ByteArray.size_extract, bs_app, strOf_size, bytesL_len, maxI_eq] <;> omega))))
                | ((with_reducible refine andB_lt ?_ ?_); · (first | (with_reducible assumption) | (first | omega | (simp only [castL_self, seg_len, rowAt_one, rowAt_oneS, List.length_append, List.length_cons, List.length_nil, List.length_drop, List.length_take, List.length_eraseIdx, List.length_replicate, ByteArray.size_extract, bs_app, strOf_size, bytesL_len, maxI_eq] <;> omega))))
                | ((with_reducible refine andB_le ?_ ?_); · (first | (with_reducible assumption) | (first | omega | (simp only [castL_self, seg_len, rowAt_one, rowAt_oneS, List.length_append, List.length_cons, List.length_nil, List.length_drop, List.length_take, List.length_eraseIdx, List.length_replicate, ByteArray.size_extract, bs_app, strOf_size, bytesL_len, maxI_eq] <;> omega))))
                | ((with_reducible refine iteB_ltt ?_ ?_); · (first | (with_reducible assumption) | (first | omega | (simp only [castL_self, seg_len, rowAt_one, rowAt_oneS, List.length_append, List.length_cons, List.length_nil, List.length_drop, List.length_take, List.length_eraseIdx, List.length_replicate, ByteArray.size_extract, bs_app, strOf_size, bytesL_len, maxI_eq] <;> omega))))
                | ((with_reducible refine iteB_ltf ?_ ?_); · (first | (with_reducible assumption) | (first | omega | (simp only [castL_self, seg_len, rowAt_one, rowAt_oneS, List.length_append, List.length_cons, List.length_nil, List.length_drop, List.length_take, List.length_eraseIdx, List.length_replicate, ByteArray.size_extract, bs_app, strOf_size, bytesL_len, maxI_eq] <;> omega))))
                | ((with_reducible refine iteB_let ?_ ?_); · (first | (with_reducible assumption) | (first | omega | (simp only [castL_self, seg_len, rowAt_one, rowAt_oneS, List.length_append, List.length_cons, List.length_nil, List.length_drop, List.length_take, List.length_eraseIdx, List.length_replicate, ByteArray.size_extract, bs_app, strOf_size, bytesL_len, maxI_eq] <;> omega))))
                | ((with_reducible refine iteB_lef ?_ ?_); · (first | (with_reducible assumption) | (first | omega | (simp only [castL_self, seg_len, rowAt_one, rowAt_oneS, List.length_append, List.length_cons, List.length_nil, List.length_drop, List.length_take, List.length_eraseIdx, List.length_replicate, ByteArray.size_extract, bs_app, strOf_size, bytesL_len, maxI_eq] <;> omega))))
                | ((with_reducible refine iteB_dt ?_ ?_); · (first | (with_reducible assumption) | (first | omega | (simp only [castL_self, seg_len, rowAt_one, rowAt_oneS, List.length_append, List.length_cons, List.length_nil, List.length_drop, List.length_take, List.length_eraseIdx, List.length_replicate, ByteArray.size_extract, bs_app, strOf_size, bytesL_len, maxI_eq] <;> omega))))
                | ((with_reducible refine iteB_df ?_ ?_); · (first | (with_reducible assumption) | (first | omega | (simp only [castL_self, seg_len, rowAt_one, rowAt_oneS, List.length_append, List.length_cons, List.length_nil, List.length_drop, List.length_take, List.length_eraseIdx, List.length_replicate, ByteArray.size_extract, bs_app, strOf_size, bytesL_len, maxI_eq] <;> omega))))
                | ((with_reducible refine andB_i ?_ ?_); · (first | (with_reducible assumption) | (with_reducible exact decide_eq_true rfl) | (with_reducible exact sEq_self _) | ((with_reducible refine eqOK_i ?_); kernel_rfl)))
                | ((with_reducible refine iteB_t ?_ ?_); · (first | (with_reducible assumption) | (with_reducible exact decide_eq_true rfl) | (with_reducible exact sEq_self _) | ((with_reducible refine eqOK_i ?_); kernel_rfl)))
                | ((with_reducible refine iteB_f ?_ ?_); · (first | (with_reducible assumption) | (with_reducible exact decide_eq_true rfl) | (with_reducible exact sEq_self _) | ((with_reducible refine eqOK_i ?_); kernel_rfl)))
                | (refine ⟨⟨k + 1, hlt⟩, ?_, rfl, ?_⟩)
                | (with_reducible refine CD.wk_au ?_)
                | (with_reducible refine andB_in ?_ ?_)
                | (with_reducible refine andB_lt ?_ ?_)
                | (with_reducible refine andB_le ?_ ?_)
                | (with_reducible refine andB_d ?_ ?_)
                | (with_reducible refine andB_i ?_ ?_)
                | (with_reducible refine iteB_lts (fun hB => ?_) (fun hB => ?_))
                | (with_reducible refine iteB_les (fun hB => ?_) (fun hB => ?_))
                | (with_reducible refine iteB_ds (fun hB => ?_) (fun hB => ?_))
                | (with_reducible refine iteB_s (fun hB => ?_) (fun hB => ?_))
                | (with_reducible refine CD.wk_as ?_)
                | (with_reducible refine And.intro ?_ ?_))
      all_goals (conv => whnf)
      all_goals (try dsimp only)
      all_goals (try simp only [Nat.succ_eq_add_one, Nat.le_eq, castL_self])
      all_goals (try omega)
      all_goals (try (simp only [castL_self, seg_len, rowAt_one, rowAt_oneS, List.length_append, List.length_cons, List.length_nil, List.length_drop, List.length_take, List.length_eraseIdx, List.length_replicate, ByteArray.size_extract, bs_app, strOf_size, bytesL_len, maxI_eq] <;> omega))
      all_goals first
        | exact hs2.symm
        | trace_state
  · have he : k = min l.length 50 := Nat.le_antisymm hk hge
    subst he
    repeat' (conv => whnf
             first
              | (with_reducible exact True.intro)
              | (with_reducible rfl)
              | (with_reducible exact castL_self _ _)
              | ((with_reducible refine V.same_t ?_); exact rfl)
              | (with_reducible refine iteB_n ?_)
              | (with_reducible refine iteB_ct ?_)
              | (with_reducible refine iteB_cf ?_)
              | (with_reducible refine iteB_bt ?_)
              | (with_reducible refine iteB_bf ?_)
              | (with_reducible refine iteB_tb ?_)
              | (with_reducible refine iteB_fb ?_)
              | ((with_reducible refine andB_room ?_ ?_ ?_); (· kernel_rfl); (· (first | omega | (simp only [castL_self, seg_len, rowAt_one, rowAt_oneS, List.length_append, List.length_cons, List.length_nil, List.length_drop, List.length_take, List.length_eraseIdx, List.length_replicate, ByteArray.size_extract, bs_app, strOf_size, bytesL_len, maxI_eq] <;> omega))))
              | ((with_reducible refine andB_in ?_ ?_); · (first | omega | (simp only [castL_self, seg_len, rowAt_one, rowAt_oneS, List.length_append, List.length_cons, List.length_nil, List.length_drop, List.length_take, List.length_eraseIdx, List.length_replicate, ByteArray.size_extract, bs_app, strOf_size, bytesL_len, maxI_eq] <;> omega)))
              | ((with_reducible refine andB_d ?_ ?_); · (first | (with_reducible assumption) | (first | omega | (simp only [castL_self, seg_len, rowAt_one, rowAt_oneS, List.length_append, List.length_cons, List.length_nil, List.length_drop, List.length_take, List.length_eraseIdx, List.length_replicate, ByteArray.size_extract, bs_app, strOf_size, bytesL_len, maxI_eq] <;> omega))))
              | ((with_reducible refine andB_lt ?_ ?_); · (first | (with_reducible assumption) | (first | omega | (simp only [castL_self, seg_len, rowAt_one, rowAt_oneS, List.length_append, List.length_cons, List.length_nil, List.length_drop, List.length_take, List.length_eraseIdx, List.length_replicate, ByteArray.size_extract, bs_app, strOf_size, bytesL_len, maxI_eq] <;> omega))))
              | ((with_reducible refine andB_le ?_ ?_); · (first | (with_reducible assumption) | (first | omega | (simp only [castL_self, seg_len, rowAt_one, rowAt_oneS, List.length_append, List.length_cons, List.length_nil, List.length_drop, List.length_take, List.length_eraseIdx, List.length_replicate, ByteArray.size_extract, bs_app, strOf_size, bytesL_len, maxI_eq] <;> omega))))
              | ((with_reducible refine iteB_ltt ?_ ?_); · (first | (with_reducible assumption) | (first | omega | (simp only [castL_self, seg_len, rowAt_one, rowAt_oneS, List.length_append, List.length_cons, List.length_nil, List.length_drop, List.length_take, List.length_eraseIdx, List.length_replicate, ByteArray.size_extract, bs_app, strOf_size, bytesL_len, maxI_eq] <;> omega))))
              | ((with_reducible refine iteB_ltf ?_ ?_); · (first | (with_reducible assumption) | (first | omega | (simp only [castL_self, seg_len, rowAt_one, rowAt_oneS, List.length_append, List.length_cons, List.length_nil, List.length_drop, List.length_take, List.length_eraseIdx, List.length_replicate, ByteArray.size_extract, bs_app, strOf_size, bytesL_len, maxI_eq] <;> omega))))
              | ((with_reducible refine iteB_let ?_ ?_); · (first | (with_reducible assumption) | (first | omega | (simp only [castL_self, seg_len, rowAt_one, rowAt_oneS, List.length_append, List.length_cons, List.length_nil, List.length_drop, List.length_take, List.length_eraseIdx, List.length_replicate, ByteArray.size_extract, bs_app, strOf_size, bytesL_len, maxI_eq] <;> omega))))
              | ((with_reducible refine iteB_lef ?_ ?_); · (first | (with_reducible assumption) | (first | omega | (simp only [castL_self, seg_len, rowAt_one, rowAt_oneS, List.length_append, List.length_cons, List.length_nil, List.length_drop, List.length_take, List.length_eraseIdx, List.length_replicate, ByteArray.size_extract, bs_app, strOf_size, bytesL_len, maxI_eq] <;> omega))))
              | ((with_reducible refine iteB_dt ?_ ?_); · (first | (with_reducible assumption) | (first | omega | (simp only [castL_self, seg_len, rowAt_one, rowAt_oneS, List.length_append, List.length_cons, List.length_nil, List.length_drop, List.length_take, List.length_eraseIdx, List.length_replicate, ByteArray.size_extract, bs_app, strOf_size, bytesL_len, maxI_eq] <;> omega))))
              | ((with_reducible refine iteB_df ?_ ?_); · (first | (with_reducible assumption) | (first | omega | (simp only [castL_self, seg_len, rowAt_one, rowAt_oneS, List.length_append, List.length_cons, List.length_nil, List.length_drop, List.length_take, List.length_eraseIdx, List.length_replicate, ByteArray.size_extract, bs_app, strOf_size, bytesL_len, maxI_eq] <;> omega))))
              | ((with_reducible refine andB_i ?_ ?_); · (first | (with_reducible assumption) | (with_reducible exact decide_eq_true rfl) | (with_reducible exact sEq_self _) | ((with_reducible refine eqOK_i ?_); kernel_rfl)))
              | ((with_reducible refine iteB_t ?_ ?_); · (first | (with_reducible assumption) | (with_reducible exact decide_eq_true rfl) | (with_reducible exact sEq_self _) | ((with_reducible refine eqOK_i ?_); kernel_rfl)))
              | ((with_reducible refine iteB_f ?_ ?_); · (first | (with_reducible assumption) | (with_reducible exact decide_eq_true rfl) | (with_reducible exact sEq_self _) | ((with_reducible refine eqOK_i ?_); kernel_rfl)))
              | (with_reducible refine CD.wk_au ?_)
              | (with_reducible refine andB_in ?_ ?_)
              | (with_reducible refine andB_lt ?_ ?_)
              | (with_reducible refine andB_le ?_ ?_)
              | (with_reducible refine andB_d ?_ ?_)
              | (with_reducible refine andB_i ?_ ?_)
              | (with_reducible refine iteB_lts (fun hB => ?_) (fun hB => ?_))
              | (with_reducible refine iteB_les (fun hB => ?_) (fun hB => ?_))
              | (with_reducible refine iteB_ds (fun hB => ?_) (fun hB => ?_))
              | (with_reducible refine iteB_s (fun hB => ?_) (fun hB => ?_))
              | (with_reducible refine CD.wk_as ?_)
              | (with_reducible refine And.intro ?_ ?_))
    all_goals (conv => whnf)
    all_goals (try dsimp only)
    all_goals (try simp only [Nat.succ_eq_add_one, Nat.le_eq, castL_self])
    all_goals (try omega)
    all_goals (try (simp only [castL_self, seg_len, rowAt_one, rowAt_oneS, List.length_append, List.length_cons, List.length_nil, List.length_drop, List.length_take, List.length_eraseIdx, List.length_replicate, ByteArray.size_extract, bs_app, strOf_size, bytesL_len, maxI_eq] <;> omega))
    all_goals trace_state
noncomputable def noQ (F : List FrR) (n i : Nat) : CD := ⟨114, [(5, .ptr 0 0), (10, .int .i64 (lastO F i)), (11, .int .i64 (i : Int))], [], [(0, .cells [.int .i64 100, .rs 1 0 F.length n false 3] 0 false), (1, .rows frE F 0 false)], 2⟩
theorem no_loop3 (n m : Nat) (hn : n < 40) (N : Nat) : LpD.ok Try.prog N 0 (bodyOf Try.prog 5) ⟨20, [(0, 0), (1, 1)], noQ (runO n l m) n 0, .leaf (.exit 4) (noQ (runO n l m) n (runO n l m).length)⟩ := by
  refine LpD.ok_one (b := bodyAt Try.prog 5 20) rfl (loop_W noTab_ok (fuel := 3) (d := 8) (X := { k : Nat // k ≤ (runO n l m).length }) (fun x => noQ (runO n l m) n x.1) (fun x => (runO n l m).length - x.1)
    (fun _ => .leaf (.exit 4) (noQ (runO n l m) n (runO n l m).length)) (fun _ => noLpW) (fun _ => noLp) (fun _ => noLp_ad) (fun _ => noLp_ok _) ?_ ⟨0, Nat.zero_le _⟩)
  rintro ⟨i, hi⟩
  dsimp only
  have hl := runO_len n l m
  rcases Nat.lt_or_ge i (runO n l m).length with hlt | hge
  · have h1 := run_one n (by omega) l m i hlt
    have h2 := lastO_succ (runO n l m) i
    have h3 : @LT.lt Int _ (lastO (runO n l m) i) (bAt (rowF (runO n l m) i).2.2 0) := by
      cases i with
      | zero => rw [lastO_0]; omega
      | succ j => rw [lastO_succ]; exact run_inc n (by omega) l m j hlt
    have ei : 0 + Int.toNat (i : Int) = i := Nat.zero_add _
    have g1 : @Eq Int (((ByteArray.size (Sym.rowAt frE (runO n l m) (0 + Int.toNat (i : Int))).2.2 : Nat)) : Int) 1 := by rw [ei]; exact congrArg Nat.cast h1.1
    have g2 := bAt_u8 (Sym.rowAt frE (runO n l m) (0 + Int.toNat (i : Int))).2.2 (Int.toNat 0)
    have g3 : @LT.lt Int _ (lastO (runO n l m) i) (bAt (Sym.rowAt frE (runO n l m) (0 + Int.toNat (i : Int))).2.2 (Int.toNat 0)) := by rw [ei]; exact h3
    have g4 : @Eq Int (bAt (Sym.rowAt frE (runO n l m) (0 + Int.toNat (i : Int))).2.2 (Int.toNat 0)) (lastO (runO n l m) (i + 1)) := by rw [ei]; exact h2.symm
    repeat' (conv => whnf
             first
              | (with_reducible exact True.intro)
              | (with_reducible rfl)
              | (with_reducible exact castL_self _ _)
              | ((with_reducible refine V.same_t ?_); exact rfl)
              | (with_reducible refine iteB_n ?_)
              | (with_reducible refine iteB_ct ?_)
              | (with_reducible refine iteB_cf ?_)
              | (with_reducible refine iteB_bt ?_)
              | (with_reducible refine iteB_bf ?_)
              | (with_reducible refine iteB_tb ?_)
              | (with_reducible refine iteB_fb ?_)
              | ((with_reducible refine andB_room ?_ ?_ ?_); (· kernel_rfl); (· (first | omega | (simp only [castL_self, seg_len, rowAt_one, rowAt_oneS, List.length_append, List.length_cons, List.length_nil, List.length_drop, List.length_take, List.length_eraseIdx, List.length_replicate, ByteArray.size_extract, bs_app, strOf_size, bytesL_len, maxI_eq] <;> omega))))
              | ((with_reducible refine andB_in ?_ ?_); · (first | omega | (simp only [castL_self, seg_len, rowAt_one, rowAt_oneS, List.length_append, List.length_cons, List.length_nil, List.length_drop, List.length_take, List.length_eraseIdx, List.length_replicate, ByteArray.size_extract, bs_app, strOf_size, bytesL_len, maxI_eq] <;> omega)))
              | ((with_reducible refine andB_d ?_ ?_); · (first | (with_reducible assumption) | (first | omega | (simp only [castL_self, seg_len, rowAt_one, rowAt_oneS, List.length_append, List.length_cons, List.length_nil, List.length_drop, List.length_take, List.length_eraseIdx, List.length_replicate, ByteArray.size_extract, bs_app, strOf_size, bytesL_len, maxI_eq] <;> omega))))
              | ((with_reducible refine andB_lt ?_ ?_); · (first | (with_reducible assumption) | (first | omega | (simp only [castL_self, seg_len, rowAt_one, rowAt_oneS, List.length_append, List.length_cons, List.length_nil, List.length_drop, List.length_take, List.length_eraseIdx, List.length_replicate, ByteArray.size_extract, bs_app, strOf_size, bytesL_len, maxI_eq] <;> omega))))
              | ((with_reducible refine andB_le ?_ ?_); · (first | (with_reducible assumption) | (first | omega | (simp only [castL_self, seg_len, rowAt_one, rowAt_oneS, List.length_append, List.length_cons, List.length_nil, List.length_drop, List.length_take, List.length_eraseIdx, List.length_replicate, ByteArray.size_extract, bs_app, strOf_size, bytesL_len, maxI_eq] <;> omega))))
              | ((with_reducible refine iteB_ltt ?_ ?_); · (first | (with_reducible assumption) | (first | omega | (simp only [castL_self, seg_len, rowAt_one, rowAt_oneS, List.length_append, List.length_cons, List.length_nil, List.length_drop, List.length_take, List.length_eraseIdx, List.length_replicate, ByteArray.size_extract, bs_app, strOf_size, bytesL_len, maxI_eq] <;> omega))))
              | ((with_reducible refine iteB_ltf ?_ ?_); · (first | (with_reducible assumption) | (first | omega | (simp only [castL_self, seg_len, rowAt_one, rowAt_oneS, List.length_append, List.length_cons, List.length_nil, List.length_drop, List.length_take, List.length_eraseIdx, List.length_replicate, ByteArray.size_extract, bs_app, strOf_size, bytesL_len, maxI_eq] <;> omega))))
              | ((with_reducible refine iteB_let ?_ ?_); · (first | (with_reducible assumption) | (first | omega | (simp only [castL_self, seg_len, rowAt_one, rowAt_oneS, List.length_append, List.length_cons, List.length_nil, List.length_drop, List.length_take, List.length_eraseIdx, List.length_replicate, ByteArray.size_extract, bs_app, strOf_size, bytesL_len, maxI_eq] <;> omega))))
              | ((with_reducible refine iteB_lef ?_ ?_); · (first | (with_reducible assumption) | (first | omega | (simp only [castL_self, seg_len, rowAt_one, rowAt_oneS, List.length_append, List.length_cons, List.length_nil, List.length_drop, List.length_take, List.length_eraseIdx, List.length_replicate, ByteArray.size_extract, bs_app, strOf_size, bytesL_len, maxI_eq] <;> omega))))
              | ((with_reducible refine iteB_dt ?_ ?_); · (first | (with_reducible assumption) | (first | omega | (simp only [castL_self, seg_len, rowAt_one, rowAt_oneS, List.length_append, List.length_cons, List.length_nil, List.length_drop, List.length_take, List.length_eraseIdx, List.length_replicate, ByteArray.size_extract, bs_app, strOf_size, bytesL_len, maxI_eq] <;> omega))))
              | ((with_reducible refine iteB_df ?_ ?_); · (first | (with_reducible assumption) | (first | omega | (simp only [castL_self, seg_len, rowAt_one, rowAt_oneS, List.length_append, List.length_cons, List.length_nil, List.length_drop, List.length_take, List.length_eraseIdx, List.length_replicate, ByteArray.size_extract, bs_app, strOf_size, bytesL_len, maxI_eq] <;> omega))))
              | ((with_reducible refine andB_i ?_ ?_); · (first | (with_reducible assumption) | (with_reducible exact decide_eq_true rfl) | (with_reducible exact sEq_self _) | ((with_reducible refine eqOK_i ?_); kernel_rfl)))
              | ((with_reducible refine iteB_t ?_ ?_); · (first | (with_reducible assumption) | (with_reducible exact decide_eq_true rfl) | (with_reducible exact sEq_self _) | ((with_reducible refine eqOK_i ?_); kernel_rfl)))
              | ((with_reducible refine iteB_f ?_ ?_); · (first | (with_reducible assumption) | (with_reducible exact decide_eq_true rfl) | (with_reducible exact sEq_self _) | ((with_reducible refine eqOK_i ?_); kernel_rfl)))
              | (refine ⟨⟨i + 1, hlt⟩, ?_, rfl, ?_⟩)
              | (with_reducible refine CD.wk_au ?_)
              | (with_reducible refine andB_in ?_ ?_)
              | (with_reducible refine andB_lt ?_ ?_)
              | (with_reducible refine andB_le ?_ ?_)
              | (with_reducible refine andB_d ?_ ?_)
              | (with_reducible refine andB_i ?_ ?_)
              | (with_reducible refine iteB_lts (fun hB => ?_) (fun hB => ?_))
              | (with_reducible refine iteB_les (fun hB => ?_) (fun hB => ?_))
              | (with_reducible refine iteB_ds (fun hB => ?_) (fun hB => ?_))
              | (with_reducible refine iteB_s (fun hB => ?_) (fun hB => ?_))
              | (with_reducible refine CD.wk_as ?_)
              | (with_reducible refine And.intro ?_ ?_))
    all_goals (conv => whnf)
    all_goals (try dsimp only)
    all_goals (try simp only [Nat.succ_eq_add_one, Nat.le_eq, castL_self])
    all_goals (try omega)
    all_goals (try (simp only [castL_self, seg_len, rowAt_one, rowAt_oneS, List.length_append, List.length_cons, List.length_nil, List.length_drop, List.length_take, List.length_eraseIdx, List.length_replicate, ByteArray.size_extract, bs_app, strOf_size, bytesL_len, maxI_eq] <;> omega))
    all_goals trace_state
  · have he : i = (runO n l m).length := Nat.le_antisymm hi hge
    subst he
    repeat' (conv => whnf
             first
              | (with_reducible exact True.intro)
              | (with_reducible rfl)
              | (with_reducible exact castL_self _ _)
              | ((with_reducible refine V.same_t ?_); exact rfl)
              | (with_reducible refine iteB_n ?_)
              | (with_reducible refine iteB_ct ?_)
              | (with_reducible refine iteB_cf ?_)
              | (with_reducible refine iteB_bt ?_)
              | (with_reducible refine iteB_bf ?_)
              | (with_reducible refine iteB_tb ?_)
              | (with_reducible refine iteB_fb ?_)
              | ((with_reducible refine andB_room ?_ ?_ ?_); (· kernel_rfl); (· (first | omega | (simp only [castL_self, seg_len, rowAt_one, rowAt_oneS, List.length_append, List.length_cons, List.length_nil, List.length_drop, List.length_take, List.length_eraseIdx, List.length_replicate, ByteArray.size_extract, bs_app, strOf_size, bytesL_len, maxI_eq] <;> omega))))
              | ((with_reducible refine andB_in ?_ ?_); · (first | omega | (simp only [castL_self, seg_len, rowAt_one, rowAt_oneS, List.length_append, List.length_cons, List.length_nil, List.length_drop, List.length_take, List.length_eraseIdx, List.length_replicate, ByteArray.size_extract, bs_app, strOf_size, bytesL_len, maxI_eq] <;> omega)))
              | ((with_reducible refine andB_d ?_ ?_); · (first | (with_reducible assumption) | (first | omega | (simp only [castL_self, seg_len, rowAt_one, rowAt_oneS, List.length_append, List.length_cons, List.length_nil, List.length_drop, List.length_take, List.length_eraseIdx, List.length_replicate, ByteArray.size_extract, bs_app, strOf_size, bytesL_len, maxI_eq] <;> omega))))
              | ((with_reducible refine andB_lt ?_ ?_); · (first | (with_reducible assumption) | (first | omega | (simp only [castL_self, seg_len, rowAt_one, rowAt_oneS, List.length_append, List.length_cons, List.length_nil, List.length_drop, List.length_take, List.length_eraseIdx, List.length_replicate, ByteArray.size_extract, bs_app, strOf_size, bytesL_len, maxI_eq] <;> omega))))
              | ((with_reducible refine andB_le ?_ ?_); · (first | (with_reducible assumption) | (first | omega | (simp only [castL_self, seg_len, rowAt_one, rowAt_oneS, List.length_append, List.length_cons, List.length_nil, List.length_drop, List.length_take, List.length_eraseIdx, List.length_replicate, ByteArray.size_extract, bs_app, strOf_size, bytesL_len, maxI_eq] <;> omega))))
              | ((with_reducible refine iteB_ltt ?_ ?_); · (first | (with_reducible assumption) | (first | omega | (simp only [castL_self, seg_len, rowAt_one, rowAt_oneS, List.length_append, List.length_cons, List.length_nil, List.length_drop, List.length_take, List.length_eraseIdx, List.length_replicate, ByteArray.size_extract, bs_app, strOf_size, bytesL_len, maxI_eq] <;> omega))))
              | ((with_reducible refine iteB_ltf ?_ ?_); · (first | (with_reducible assumption) | (first | omega | (simp only [castL_self, seg_len, rowAt_one, rowAt_oneS, List.length_append, List.length_cons, List.length_nil, List.length_drop, List.length_take, List.length_eraseIdx, List.length_replicate, ByteArray.size_extract, bs_app, strOf_size, bytesL_len, maxI_eq] <;> omega))))
              | ((with_reducible refine iteB_let ?_ ?_); · (first | (with_reducible assumption) | (first | omega | (simp only [castL_self, seg_len, rowAt_one, rowAt_oneS, List.length_append, List.length_cons, List.length_nil, List.length_drop, List.length_take, List.length_eraseIdx, List.length_replicate, ByteArray.size_extract, bs_app, strOf_size, bytesL_len, maxI_eq] <;> omega))))
              | ((with_reducible refine iteB_lef ?_ ?_); · (first | (with_reducible assumption) | (first | omega | (simp only [castL_self, seg_len, rowAt_one, rowAt_oneS, List.length_append, List.length_cons, List.length_nil, List.length_drop, List.length_take, List.length_eraseIdx, List.length_replicate, ByteArray.size_extract, bs_app, strOf_size, bytesL_len, maxI_eq] <;> omega))))
              | ((with_reducible refine iteB_dt ?_ ?_); · (first | (with_reducible assumption) | (first | omega | (simp only [castL_self, seg_len, rowAt_one, rowAt_oneS, List.length_append, List.length_cons, List.length_nil, List.length_drop, List.length_take, List.length_eraseIdx, List.length_replicate, ByteArray.size_extract, bs_app, strOf_size, bytesL_len, maxI_eq] <;> omega))))
              | ((with_reducible refine iteB_df ?_ ?_); · (first | (with_reducible assumption) | (first | omega | (simp only [castL_self, seg_len, rowAt_one, rowAt_oneS, List.length_append, List.length_cons, List.length_nil, List.length_drop, List.length_take, List.length_eraseIdx, List.length_replicate, ByteArray.size_extract, bs_app, strOf_size, bytesL_len, maxI_eq] <;> omega))))
              | ((with_reducible refine andB_i ?_ ?_); · (first | (with_reducible assumption) | (with_reducible exact decide_eq_true rfl) | (with_reducible exact sEq_self _) | ((with_reducible refine eqOK_i ?_); kernel_rfl)))
              | ((with_reducible refine iteB_t ?_ ?_); · (first | (with_reducible assumption) | (with_reducible exact decide_eq_true rfl) | (with_reducible exact sEq_self _) | ((with_reducible refine eqOK_i ?_); kernel_rfl)))
              | ((with_reducible refine iteB_f ?_ ?_); · (first | (with_reducible assumption) | (with_reducible exact decide_eq_true rfl) | (with_reducible exact sEq_self _) | ((with_reducible refine eqOK_i ?_); kernel_rfl)))
              | (with_reducible refine CD.wk_au ?_)
              | (with_reducible refine andB_in ?_ ?_)
              | (with_reducible refine andB_lt ?_ ?_)
              | (with_reducible refine andB_le ?_ ?_)
              | (with_reducible refine andB_d ?_ ?_)
              | (with_reducible refine andB_i ?_ ?_)
              | (with_reducible refine iteB_lts (fun hB => ?_) (fun hB => ?_))
              | (with_reducible refine iteB_les (fun hB => ?_) (fun hB => ?_))
              | (with_reducible refine iteB_ds (fun hB => ?_) (fun hB => ?_))
              | (with_reducible refine iteB_s (fun hB => ?_) (fun hB => ?_))
              | (with_reducible refine CD.wk_as ?_)
              | (with_reducible refine And.intro ?_ ?_))
    all_goals (conv => whnf)
    all_goals (try dsimp only)
    all_goals (try simp only [Nat.succ_eq_add_one, Nat.le_eq, castL_self])
    all_goals (try omega)
    all_goals (try (simp only [castL_self, seg_len, rowAt_one, rowAt_oneS, List.length_append, List.length_cons, List.length_nil, List.length_drop, List.length_take, List.length_eraseIdx, List.length_replicate, ByteArray.size_extract, bs_app, strOf_size, bytesL_len, maxI_eq] <;> omega))
    all_goals trace_state
end
end Go.Proofs.Ytlkbmjdgfbciaaa
