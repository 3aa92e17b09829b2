/-
  NetOrder returns true at every number and list: the law itself. Conditions: numbers that fit their kinds.
-/
import Derived.Test.YtlkbmjdgfbciaaaNetOrder
namespace Go.Proofs.Ytlkbmjdgfbciaaa
open Go.Sym
set_option linter.unusedVariables false
set_option linter.unusedSimpArgs false
set_option maxRecDepth 100000
set_option maxHeartbeats 4000000

noncomputable def true30F (args : List V) : Option (List Bool × V) := match args with
  | [] => some ([], .bool true)
  | _ => none
theorem true30F_ok {P : Program} {g : FuncId} (hg : PureAt P g [] (.bool true)) (args : List V) (c : List Bool) (v : V) (h : true30F args = some (c, v)) (_ : allB c) : PureAt P g args v := by
  unfold true30F at h
  split at h
  · cases h; exact hg
  · cases h
noncomputable def tabW30 : Tab := oneTab 11 true30F noTab
theorem tabW30_ok : TabOK Try.prog tabW30 := oneTab_ok (true30F_ok works30_at) noTab_ok
theorem netOrder_at (many : Int) (l : List Int) (h0 : 0 ≤ many ∧ many < 256) (hl : l.length ≤ 9223372036854775807) (hw : ∀ i, i < l.length → @LE.le Int _ 0 (Sym.rowAt [.int .u8] l i) ∧ @LT.lt Int _ (Sym.rowAt [.int .u8] l i) 256) :
    PureAt Try.prog 5 [.int .u8 many, .lst [.int .u8] l false] (.bool true) := by
  obtain ⟨n, hn⟩ : ∃ n : Nat, (n : Int) = many % 40 := ⟨(many % 40).toNat, by omega⟩
  have hn40 : n < 40 := by omega
  refine pure_of_loops tabW30_ok (fuel := 3) (d := 8) [⟨7, [(0, 0)], noC many l n 0, .leaf (.exit 0) (noC many l n n)⟩, ⟨12, [(0, 0), (1, 1)], noP l n 0, .leaf (.exit 2) (noP l n (min l.length 50))⟩, ⟨20, [(0, 0), (1, 1)], noQ (runO n l (min l.length 50)) n 0, .leaf (.exit 4) (noQ (runO n l (min l.length 50)) n (runO n l (min l.length 50)).length)⟩] ?_ ?_
  · intro N x hx
    rcases List.mem_cons.1 hx with rfl | hx
    · exact no_loop1 many l n hn h0 N
    · rcases List.mem_cons.1 hx with rfl | hx
      · exact no_loop2 l n hn40 hw N
      · rw [List.mem_singleton.1 hx]
        exact no_loop3 l n _ hn40 N
  · have z0 := runO_0 n l
    have z1 := frO_len n
    have z2 : frO 0 = [] := by rw [frO_eq]; rfl
    have z3 := lastO_0 (runO n l (min l.length 50))
    have z4 : (runO n l 0).length = n := by rw [z0, z1]
    have z5 := runO_len n l (min l.length 50)
    repeat' (conv => whnf
             first
              | (with_reducible exact True.intro)
              | (with_reducible rfl)
              | (with_reducible exact castL_self _ _)
              | ((with_reducible refine V.same_t ?_); exact rfl)
              | (with_reducible refine iteB_n ?_)
              | (with_reducible refine iteB_ct ?_)
              | (with_reducible refine iteB_cf ?_)
              | (with_reducible refine iteB_bt ?_)
              | (with_reducible refine iteB_bf ?_)
              | (with_reducible refine iteB_tb ?_)
              | (with_reducible refine iteB_fb ?_)
              | ((with_reducible refine andB_room ?_ ?_ ?_); (· kernel_rfl); (· (first | omega | (simp only [castL_self, seg_len, rowAt_one, rowAt_oneS, List.length_append, List.length_cons, List.length_nil, List.length_drop, List.length_take, List.length_eraseIdx, List.length_replicate, ByteArray.size_extract, bs_app, strOf_size, bytesL_len, maxI_eq] <;> omega))))
              | ((with_reducible refine andB_in ?_ ?_); · (first | omega | (simp only [castL_self, seg_len, rowAt_one, rowAt_oneS, List.length_append, List.length_cons, List.length_nil, List.length_drop, List.length_take, List.length_eraseIdx, List.length_replicate, ByteArray.size_extract, bs_app, strOf_size, bytesL_len, maxI_eq] <;> omega)))
              | ((with_reducible refine andB_d ?_ ?_); · (first | (with_reducible assumption) | (first | omega | (simp only [castL_self, seg_len, rowAt_one, rowAt_oneS, List.length_append, List.length_cons, List.length_nil, List.length_drop, List.length_take, List.length_eraseIdx, List.length_replicate, ByteArray.size_extract, bs_app, strOf_size, bytesL_len, maxI_eq] <;> omega))))
              | ((with_reducible refine andB_lt ?_ ?_); · (first | (with_reducible assumption) | (first | omega | (simp only [castL_self, seg_len, rowAt_one, rowAt_oneS, List.length_append, List.length_cons, List.length_nil, List.length_drop, List.length_take, List.length_eraseIdx, List.length_replicate, ByteArray.size_extract, bs_app, strOf_size, bytesL_len, maxI_eq] <;> omega))))
              | ((with_reducible refine andB_le ?_ ?_); · (first | (with_reducible assumption) | (first | omega | (simp only [castL_self, seg_len, rowAt_one, rowAt_oneS, List.length_append, List.length_cons, List.length_nil, List.length_drop, List.length_take, List.length_eraseIdx, List.length_replicate, ByteArray.size_extract, bs_app, strOf_size, bytesL_len, maxI_eq] <;> omega))))
              | ((with_reducible refine iteB_ltt ?_ ?_); · (first | (with_reducible assumption) | (first | omega | (simp only [castL_self, seg_len, rowAt_one, rowAt_oneS, List.length_append, List.length_cons, List.length_nil, List.length_drop, List.length_take, List.length_eraseIdx, List.length_replicate, ByteArray.size_extract, bs_app, strOf_size, bytesL_len, maxI_eq] <;> omega))))
              | ((with_reducible refine iteB_ltf ?_ ?_); · (first | (with_reducible assumption) | (first | omega | (simp only [castL_self, seg_len, rowAt_one, rowAt_oneS, List.length_append, List.length_cons, List.length_nil, List.length_drop, List.length_take, List.length_eraseIdx, List.length_replicate, ByteArray.size_extract, bs_app, strOf_size, bytesL_len, maxI_eq] <;> omega))))
              | ((with_reducible refine iteB_let ?_ ?_); · (first | (with_reducible assumption) | (first | omega | (simp only [castL_self, seg_len, rowAt_one, rowAt_oneS, List.length_append, List.length_cons, List.length_nil, List.length_drop, List.length_take, List.length_eraseIdx, List.length_replicate, ByteArray.size_extract, bs_app, strOf_size, bytesL_len, maxI_eq] <;> omega))))
              | ((with_reducible refine iteB_lef ?_ ?_); · (first | (with_reducible assumption) | (first | omega | (simp only [castL_self, seg_len, rowAt_one, rowAt_oneS, List.length_append, List.length_cons, List.length_nil, List.length_drop, List.length_take, List.length_eraseIdx, List.length_replicate, ByteArray.size_extract, bs_app, strOf_size, bytesL_len, maxI_eq] <;> omega))))
              | ((with_reducible refine iteB_dt ?_ ?_); · (first | (with_reducible assumption) | (first | omega | (simp only [castL_self, seg_len, rowAt_one, rowAt_oneS, List.length_append, List.length_cons, List.length_nil, List.length_drop, List.length_take, List.length_eraseIdx, List.length_replicate, ByteArray.size_extract, bs_app, strOf_size, bytesL_len, maxI_eq] <;> omega))))
              | ((with_reducible refine iteB_df ?_ ?_); · (first | (with_reducible assumption) | (first | omega | (simp only [castL_self, seg_len, rowAt_one, rowAt_oneS, List.length_append, List.length_cons, List.length_nil, List.length_drop, List.length_take, List.length_eraseIdx, List.length_replicate, ByteArray.size_extract, bs_app, strOf_size, bytesL_len, maxI_eq] <;> omega))))
              | ((with_reducible refine andB_i ?_ ?_); · (first | (with_reducible assumption) | (with_reducible exact decide_eq_true rfl) | (with_reducible exact sEq_self _) | ((with_reducible refine eqOK_i ?_); kernel_rfl)))
              | ((with_reducible refine iteB_t ?_ ?_); · (first | (with_reducible assumption) | (with_reducible exact decide_eq_true rfl) | (with_reducible exact sEq_self _) | ((with_reducible refine eqOK_i ?_); kernel_rfl)))
              | ((with_reducible refine iteB_f ?_ ?_); · (first | (with_reducible assumption) | (with_reducible exact decide_eq_true rfl) | (with_reducible exact sEq_self _) | ((with_reducible refine eqOK_i ?_); kernel_rfl)))
              | (with_reducible refine andB_in ?_ ?_)
              | (with_reducible refine andB_lt ?_ ?_)
              | (with_reducible refine andB_le ?_ ?_)
              | (with_reducible refine andB_d ?_ ?_)
              | (with_reducible refine andB_i ?_ ?_)
              | (with_reducible refine iteB_lts (fun hB => ?_) (fun hB => ?_))
              | (with_reducible refine iteB_les (fun hB => ?_) (fun hB => ?_))
              | (with_reducible refine iteB_ds (fun hB => ?_) (fun hB => ?_))
              | (with_reducible refine iteB_s (fun hB => ?_) (fun hB => ?_))
              | (with_reducible refine CD.wk_as ?_)
              | (with_reducible refine And.intro ?_ ?_))
    all_goals (conv => whnf)
    all_goals (try dsimp only)
    all_goals (try simp only [Nat.succ_eq_add_one, Nat.le_eq, castL_self])
    all_goals (try omega)
    all_goals (try (simp only [castL_self, seg_len, rowAt_one, rowAt_oneS, List.length_append, List.length_cons, List.length_nil, List.length_drop, List.length_take, List.length_eraseIdx, List.length_replicate, ByteArray.size_extract, bs_app, strOf_size, bytesL_len, maxI_eq] <;> omega))
    all_goals first
      | exact z2.symm
      | exact z0.symm
      | omega
      | rfl
      | trace_state
end Go.Proofs.Ytlkbmjdgfbciaaa
