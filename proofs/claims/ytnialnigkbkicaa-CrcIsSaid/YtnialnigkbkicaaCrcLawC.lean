/-
  The law CrcIs, walked: it returns true at every list of texts. Conditions: what any such argument fulfils.
-/
import Derived.Test.YtnialnigkbkicaaCrcSeal
import Derived.Laws.AppendOwn
import Derived.OwnWalk
namespace Go.Proofs.Ytnialnigkbkicaa
open Go.RowKit Go.ChangeShapes Go.WideShapes

theorem strInfo : (Try.prog.info? 9).map (fun i => (i.zero, i.size, i.bytes)) = some (some (.string ByteArray.empty), 1, 16) := by kernel_rfl
/-- texts, one behind the other -/
def allB (ss : Nat → ByteArray) : Nat → ByteArray
  | 0 => ByteArray.empty
  | k + 1 => allB ss k ++ cutB (ss k)
theorem allB_size (ss : Nat → ByteArray) : ∀ k, (allB ss k).size ≤ 4000 * k
  | 0 => by simp [allB]
  | k + 1 => by
    have := allB_size ss k
    have := cutB_size (ss k)
    simp only [allB, ByteArray.size_append]
    omega
theorem regAt_all (ss : Nat → ByteArray) : ∀ k, regAt (fun j => cutB (ss j)) k = sumT 4294967295 (allB ss k).data.toList
  | 0 => rfl
  | k + 1 => by
    have e : (allB ss (k + 1)).data.toList = (allB ss k).data.toList ++ (cutB (ss k)).data.toList := by simp [allB]
    rw [regAt, regAt_all ss k, e, sumT_append]
def rowS (ss : Nat → ByteArray) (k : Nat) : List Value := (List.range k).map fun j => .string (cutB (ss j))
theorem rowS_succ (ss : Nat → ByteArray) (k : Nat) : rowS ss (k + 1) = rowS ss k ++ [.string (cutB (ss k))] := by simp [rowS, List.range_succ]

theorem sum_own (ss : Nat → ByteArray) (v : Value) (n base : Nat) (w : World) (hn : n ≤ 10) (h : w.ownsRow base 9 1 v n (rowS ss n)) :
    Calls Try.prog 10 #[v] w fun e w' => e = .returned (.int .u32 (crcL (allB ss n).data.toList : Nat)) ∧ Below w.heap.size w w' := by
  rcases h.2 with ⟨rfl, rfl⟩ | ⟨g, cap, cur, rfl, _, hh, hnc, _, hcs, htk⟩
  · refine (sum_none w).mono ?_
    rintro e w' ⟨rfl, hw⟩
    have e0 : crcL (allB ss 0).data.toList = 0 := Nat.xor_self _
    exact ⟨by rw [e0]; rfl, hw⟩
  · have hg : g < w.heap.size := by
      rcases Nat.lt_or_ge g w.heap.size with h' | h'
      · exact h'
      · simp [Array.getElem?_eq_none h'] at hh
    refine (sum_walk g 0 n cap w (fun j => cutB (ss j)) hg (fun k hk => ?_) (by omega) (fun k _ => by have := cutB_size (ss k); omega)).mono ?_
    · have h1 : (rowS ss n)[k]? = some (.string (cutB (ss k))) := by simp [rowS, hk]
      rw [← htk, List.getElem?_take] at h1
      rw [World.cell?, hh]
      have : k < n * 1 := by omega
      simp only [this, if_true] at h1
      simpa using h1
    · rintro e w' ⟨rfl, hw⟩
      exact ⟨by rw [regAt_all, crcL], hw⟩

theorem own_block {w : World} {base n : Nat} {e : TypeId} {v : Value} {xs : List Value} (h : w.ownsRow base e 1 v n xs) : ∀ k, v.ownBlock = some k → base ≤ k := by
  intro k hk
  rcases h.2 with ⟨rfl, _⟩ | ⟨g, cap, cur, rfl, hb, _⟩
  · simp [Value.ownBlock] at hk
  · simp [Value.ownBlock] at hk; omega

theorem sum_any (t : ByteArray) (x : Value) (w : World) (ht : t.size ≤ 9223372036854775807)
    (h : (∃ b cap, x = .slice (some ⟨b, 0, none⟩) 1 cap ∧ b < w.heap.size ∧ w.cell? ⟨b, 0, none⟩ = some (.string t)) ∨
      Calls Try.prog 10 #[x] w fun e w' => e = .returned (.int .u32 (crcL t.data.toList : Nat)) ∧ Below w.heap.size w w') :
    Calls Try.prog 10 #[x] w fun e w' => e = .returned (.int .u32 (crcL t.data.toList : Nat)) ∧ Below w.heap.size w w' := by
  rcases h with ⟨b, cap, rfl, h1, h2⟩ | h
  · exact sum_one b cap t w h1 h2 ht
  · exact h

set_option maxRecDepth 100000 in
theorem crcIs_walk (b off len cap : Nat) (ss : Nat → ByteArray) (w : World) (hb : b < w.heap.size) (hc : ∀ k, k < len → w.cell? ⟨b, off + k, none⟩ = some (.string (ss k))) (hl : len ≤ 9223372036854775807)
    (hz : ∀ k, k < len → (ss k).size ≤ 9223372036854775807) :
    Calls Try.prog 3 #[.slice (some ⟨b, off, none⟩) len cap] w fun e w' => e = .returned (.bool true) ∧ Below w.heap.size w w' := by
  obtain ⟨i0, hi, hz0, hz1, hz2⟩ := info_parts strInfo
  have HC := Lib.hid hc
  have HZ := Lib.hid hz
  clear hc hz
  go_enter Try.func3, Try.ntmps3
  go_wp2
  go_loopw [3, 4, 5] (fun all parts i wr => ∃ k : Nat, k ≤ 10 ∧ k ≤ len ∧ i = .int .i64 k ∧ all = .string (allB ss k) ∧ wr.ownsRow w.heap.size 9 1 parts k (rowS ss k) ∧ Below w.heap.size w wr) (fun _ _ i _ => 10 - (intOf i).toNat)
  case atStart => exact ⟨0, Nat.zero_le _, Nat.zero_le _, rfl, rfl, World.ownsRow_nil _ _ _ _, Below.refl _ _⟩
  case round =>
    obtain ⟨k, hk, hkl, rfl, rfl, hown, hB⟩ := hrel
    have hsz := hB.size
    have haz := allB_size ss k
    by_cases hgo : k < len ∧ k < 10
    · obtain ⟨h1, h2⟩ := hgo
      have hcell : wr.cell? ⟨b, off + k, none⟩ = some (.string (ss k)) := (hB.cell hb).trans (HC.out k h1)
      have hcz := cutB_size (ss k)
      have hsk := HZ.out k h1
      have hcut := fun w => cut_walk (ss k) w hsk
      obtain ⟨c, hcE⟩ : ∃ c, cutB (ss k) = c := ⟨_, rfl⟩
      have HE := Lib.hid hcE
      rw [hcE] at hcut hcz
      clear hcE
      go_wp2_with (first
        | (go_at_call 9; refine (hcut _).mono ?_; rintro e w1 ⟨rfl, rfl⟩)
        | (at_builtin; refine wpList_append_own _ rfl _ _ 22 rfl w.heap.size 9 i0 (.string ByteArray.empty) 1 16 Try.underlying22 hi hz0 hz1 hz2 rfl (by decide) _ _ _ rfl (hown.alloc _) ⟨wr.heap.size, 0, none⟩ 1 1 [.string c] rfl rfl (fun j u hj => by rcases j with _ | j <;> simp at hj; subst hj; rw [Eng.addr_add]; exact cell_new _ _ _ _) (fun x hx => by simp at hx; subst hx; rfl) (by unfold maxLen; omega) (by omega) (by simp; omega) ?_; intro v' w1 hown' hgrow _; have hB1 := (hB.alloc hsz _).grown hgrow (by simp; omega) (own_block hown); have hcell1 : w1.cell? ⟨b, off + k, none⟩ = some (.string (ss k)) := (hB1.cell hb).trans (HC.out k h1)))
      refine ⟨⟨k + 1, by omega, by omega, by go_num, by rw [allB, HE.out], by rw [rowS_succ, HE.out]; exact hown', hB1⟩, by simp [intOf]; omega⟩
    · obtain ⟨t, ht⟩ : ∃ t, allB ss k = t := ⟨_, rfl⟩
      have hsum1 : Calls Try.prog 10 #[u4] wr fun e w' => e = .returned (.int .u32 (crcL t.data.toList : Nat)) ∧ Below wr.heap.size wr w' := by rw [← ht]; exact sum_own ss u4 k w.heap.size wr hk hown
      have hcl := crcL_lt t.data.toList
      rw [ht] at haz ⊢
      clear ht hown
      go_wp2_with (first
        | (go_at_call 10; refine (sum_any t _ _ (by omega) (by first | exact .inl ⟨_, _, rfl, by simp, cell_new _ _ _ _⟩ | exact .inr hsum1)).mono ?_; rintro e w4 ⟨rfl, hw4⟩; have hB := Below.trans (by first | exact hB.alloc hB.size _ | exact hB) (hw4.mono (by have := hB.size; simp; omega)))
        | (go_at_call 11; refine (ref_sum t _ (by omega)).mono ?_; rintro e w3 ⟨rfl, rfl⟩)
        | (go_at_call 12; refine (works_calls _).mono ?_; rintro e w6 ⟨rfl, hw6⟩; have hB := hB.trans (hw6.mono hB.size)))
      all_goals go_ret
      all_goals exact ⟨rfl, hB⟩

set_option maxRecDepth 100000 in
theorem crcIs_none (a : Option Addr) (cap : Nat) (w : World) :
    Calls Try.prog 3 #[.slice a 0 cap] w fun e w' => e = .returned (.bool true) ∧ Below w.heap.size w w' := by
  have e0 : crcL (⟨#[]⟩ : ByteArray).data.toList = 0 := Nat.xor_self _
  have hnone : ∀ w, Calls Try.prog 10 #[.slice none 0 0] w fun e w' => e = .returned (.int .u32 (crcL (⟨#[]⟩ : ByteArray).data.toList : Nat)) ∧ Below w.heap.size w w' := fun w => (sum_none w).mono fun e w' h => ⟨by rw [h.1, e0]; rfl, h.2⟩
  have hsum := fun x w => sum_any ⟨#[]⟩ x w (by decide)
  have href := fun w => ref_sum ⟨#[]⟩ w (by decide)
  have hcl := crcL_lt (⟨#[]⟩ : ByteArray).data.toList
  clear e0
  generalize crcL (⟨#[]⟩ : ByteArray).data.toList = z at *
  go_enter Try.func3, Try.ntmps3
  go_wp2
  go_loopw [3, 4, 5] (fun all parts i wr => i = .int .i64 0 ∧ all = .string ⟨#[]⟩ ∧ parts = .slice none 0 0 ∧ wr = w) (fun _ _ i _ => 10 - (intOf i).toNat)
  case atStart => exact ⟨rfl, rfl, rfl, rfl⟩
  case round =>
    obtain ⟨rfl, rfl, rfl, rfl⟩ := hrel
    have hB := Below.refl wr.heap.size wr
    go_wp2_with (first
        | (go_at_call 10; refine (hsum _ _ (by first | exact .inl ⟨_, _, rfl, by simp, cell_new _ _ _ _⟩ | exact .inr (hnone _))).mono ?_; rintro e w4 ⟨rfl, hw4⟩; have hB := Below.trans (by first | exact hB.alloc hB.size _ | exact hB) (hw4.mono (by have := hB.size; first | omega | (simp; done) | (simp; omega))))
        | (go_at_call 11; refine (href _).mono ?_; rintro e w3 ⟨rfl, rfl⟩)
        | (go_at_call 12; refine (works_calls _).mono ?_; rintro e w6 ⟨rfl, hw6⟩; have hB := hB.trans (hw6.mono hB.size)))
    go_ret
    exact ⟨rfl, hB⟩
end Go.Proofs.Ytnialnigkbkicaa
