/-
  Texts of this claim, one behind the other: CrcKnow FrWorks FrIs FrRowsLaw FrRw SymU FrRowsFin EngP FrRwEnd. Each says its own conditions.
-/
import Derived.Test.YtjjebdfjmbnhpaaFrRwM7
import Derived.Test.YtjjebdfjmbnhpaaProg
import Derived.KernelRfl
import Derived.Test.YtjjebdfjmbnhpaaFrRwM4
import Derived.Deep.Slices
import Derived.ChangeArms
import Derived.WideShapes
import Derived.OpenShut
import Derived.Below
import Derived.ChangeSame
import Derived.WalkKit
import Derived.ProofKit

section
namespace Go.Proofs.Ytjjebdfjmbnhpaa
open Go.RowKit Go.ChangeShapes Go.WideShapes

/-- Sum of no texts -/
theorem sum_none (w : World) : Calls Try.prog 57 #[.slice none 0 0] w fun e w' => e = .returned (.int .u32 0) ∧ Below w.heap.size w w' := by
  have hT := tab_calls
  have hZ := zeroTab.1
  go_enter Try.func57, Try.ntmps57
  go_wp2_with (go_at_call 79; refine (hT _).mono ?_; rintro e w1 ⟨ρ, X, rfl, hX, hw1⟩; obtain ⟨A, rfl, hA, hs, h1c⟩ := tab_arr hX; have hst := run_storeCells_new w1 120 (Array.replicate 256 (.int .u32 0)) A (by rw [hs]; exact zeroTab.2) (by simp [hs]) h1c)
  go_loop [4, 11] (fun r i => i = .int .i64 0 ∧ r = .int .u32 4294967295) (fun _ _ => 0)
  case atStart => exact ⟨rfl, rfl⟩
  case round =>
    obtain ⟨rfl, rfl⟩ := hrel
    have hmax : bits .xor .u32 IntKind.u32.max 4294967295 = 0 := by kernel_rfl
    go_wp2
    try rw [hmax]
    go_ret
    exact ⟨rfl, hw1.alloc hw1.size _⟩

/-! ### The sum, for the kernel -/
open Go.Eng
noncomputable def forceN {α : Type} (n : Nat) (g : Nat → α) : α := @Nat.rec (fun _ => α) (g 0) (fun m _ => g (Nat.succ m)) n
theorem forceN_eq {α : Type} (n : Nat) (g : Nat → α) : forceN n g = g n := by cases n <;> rfl
noncomputable def tabTree : B Nat := B.ofList 0 8 tabNats
noncomputable def byteQ (r b : Nat) : Nat := Nat.xor (Nat.div r 256) (B.get tabTree (Nat.xor (Nat.mod r 256) b))
/-- the sum of n bytes that a number holds, by halves -/
noncomputable def sumH (f : Nat) : Nat → Nat → Nat → Nat :=
  @Nat.rec (fun _ => Nat → Nat → Nat → Nat) (fun _ _ r => r)
    (fun _ ih n N r => bif Nat.ble n 1 then (bif Nat.beq n 0 then r else byteQ r (Nat.mod N 256)) else
      forceN (ih (Nat.sub n (Nat.div n 2)) (Nat.div N (Nat.pow 256 (Nat.div n 2))) r) (ih (Nat.div n 2) (Nat.mod N (Nat.pow 256 (Nat.div n 2))))) f
theorem byteQ_eq (r b : Nat) (hb : b < 256) : byteQ r b = Crc.byteT r b := by
  have hx : (r % 256) ^^^ b < 256 := Nat.xor_lt_two_pow (n := 8) (Nat.mod_lt _ (by decide)) hb
  have hg : B.get tabTree ((r % 256) ^^^ b) = Crc.out8 ((r % 256) ^^^ b) := by
    unfold tabTree
    rw [B.ofList_get _ _ _ _ (by simpa using hx), List.getD_eq_getElem?_getD, tabNats_get hx]
    rfl
  show (r / 256) ^^^ B.get tabTree ((r % 256) ^^^ b) = _
  rw [hg]
  rfl
theorem sumT_append (l m : List UInt8) (r : Nat) : sumT r (l ++ m) = sumT (sumT r l) m := by simp [sumT]
theorem sumH_eq : ∀ (f n N r : Nat), n ≤ 2 ^ f → sumH (f + 1) n N r = sumT r (dig n N)
  | f, n, N, r, h => by
    show (bif Nat.ble n 1 then (bif Nat.beq n 0 then r else byteQ r (Nat.mod N 256)) else
      forceN (sumH f (Nat.sub n (Nat.div n 2)) (Nat.div N (Nat.pow 256 (Nat.div n 2))) r) (sumH f (Nat.div n 2) (Nat.mod N (Nat.pow 256 (Nat.div n 2))))) = _
    cases h1 : Nat.ble n 1 with
    | true =>
      rw [cond_true]
      have h1 := Nat.le_of_ble_eq_true h1
      cases h0 : Nat.beq n 0 with
      | true =>
        have := Nat.eq_of_beq_eq_true h0
        subst this
        rfl
      | false =>
        have : n = 1 := by
          have : n ≠ 0 := fun e => by subst e; cases h0
          omega
        subst this
        rw [cond_false]
        show byteQ r (N % 256) = Crc.byteT r (UInt8.ofNat N).toNat
        rw [byteQ_eq _ _ (Nat.mod_lt _ (by decide))]
        congr 1
    | false =>
      rw [cond_false, forceN_eq]
      have h1 : 2 ≤ n := by
        rcases Nat.lt_or_ge 1 n with hh | hh
        · exact hh
        · rw [Nat.ble_eq_true_of_le hh] at h1; cases h1
      cases f with
      | zero => simp at h; omega
      | succ f =>
        have e1 := sumH_eq f (n - n / 2) (N / 256 ^ (n / 2)) r (by rw [Nat.pow_succ] at h; omega)
        have e2 := sumH_eq f (n / 2) (N % 256 ^ (n / 2)) (sumT r (dig (n - n / 2) (N / 256 ^ (n / 2)))) (by rw [Nat.pow_succ] at h; omega)
        show sumH (f + 1) (n / 2) (N % 256 ^ (n / 2)) (sumH (f + 1) (n - n / 2) (N / 256 ^ (n / 2)) r) = _
        rw [e1, e2, dig_mod]
        have hn : n = (n - n / 2) + n / 2 := by omega
        conv => rhs; rw [hn, dig_add, sumT_append]
noncomputable def sumBS (x : BS) (r : Nat) : Nat := sumH 41 x.n x.N r
theorem sumBS_eq (x : BS) (r : Nat) (h : x.n ≤ 1099511627776) : sumBS x r = sumT r x.den.data.toList := sumH_eq 40 x.n x.N r h
def strsOf : List V → Option (List BS)
  | [] => some []
  | .str x :: l => bif Nat.ble x.n 1099511627776 then (match strsOf l with
    | some r => some (x :: r)
    | none => none) else none
  | _ => none
noncomputable def sumAll : List BS → Nat → Nat
  | [], r => r
  | x :: l, r => forceN (sumBS x r) (sumAll l)
theorem strsOf_spec {ρ : Env} : ∀ {cs : List V} {xs : List BS}, strsOf cs = some xs → xs.length = cs.length ∧ ∀ (k : Nat) x, xs[k]? = some x → cs[k]? = some (.str x) ∧ x.n ≤ 1099511627776
  | [], xs, h => by simp only [strsOf] at h; cases h; exact ⟨rfl, fun k x hk => by simp at hk⟩
  | v :: l, xs, h => by
    cases v with
    | str y =>
      simp only [strsOf] at h
      cases hb : Nat.ble y.n 1099511627776 with
      | false => rw [hb] at h; cases h
      | true =>
        rw [hb, cond_true] at h
        split at h
        · rename_i r hr
          cases h
          obtain ⟨h1, h2⟩ := strsOf_spec (ρ := ρ) hr
          refine ⟨by simp [h1], fun k x hk => ?_⟩
          cases k with
          | zero => simp at hk; subst hk; exact ⟨rfl, Nat.le_of_ble_eq_true hb⟩
          | succ k => simpa using h2 k x (by simpa using hk)
        · cases h
    | _ => simp [strsOf] at h

theorem regAt_congr {ss tt : Nat → ByteArray} : ∀ k, (∀ i, i < k → ss i = tt i) → regAt ss k = regAt tt k
  | 0, _ => rfl
  | k + 1, h => by rw [regAt, regAt, regAt_congr k fun i hi => h i (by omega), h k (by omega)]
theorem sumAll_eq : ∀ (l : List BS) (done : List BS), (∀ x ∈ l, x.n ≤ 1099511627776) → sumAll l (regAt (fun k => (done.getD k ⟨0, 0⟩).den) done.length) = regAt (fun k => ((done ++ l).getD k ⟨0, 0⟩).den) (done ++ l).length
  | [], done, _ => by simp [sumAll]
  | x :: l, done, hx => by
    have ih := sumAll_eq l (done ++ [x]) fun y hy => hx y (List.mem_cons_of_mem _ hy)
    rw [sumAll, forceN_eq, sumBS_eq _ _ (hx x List.mem_cons_self)]
    have e : sumT (regAt (fun k => (done.getD k ⟨0, 0⟩).den) done.length) x.den.data.toList = regAt (fun k => ((done ++ [x]).getD k ⟨0, 0⟩).den) (done ++ [x]).length := by
      rw [List.length_append, List.length_singleton, regAt]
      have h1 : regAt (fun k => ((done ++ [x]).getD k ⟨0, 0⟩).den) done.length = regAt (fun k => (done.getD k ⟨0, 0⟩).den) done.length :=
        regAt_congr _ fun i hi => by simp only [List.getD_eq_getElem?_getD, List.getElem?_append_left hi]
      rw [h1]
      congr 3
      simp
    rw [e, ih, List.append_assoc]
    rfl

/-- what is known of the program: its sums -/
noncomputable def sumOf (s : St) : V → Option (EEnd × St)
  | .nils => some (.ret (.int .u32 0), s)
  | .sl b o len _ _ es => bif Nat.beq es 1 then (match cellsAt s b with
    | some cs => bif Nat.ble (o + len) (llen cs) && Nat.ble len 1099511627776 then (match strsOf (ltake (ldrop cs o) len) with
      | some xs => some (.ret (.int .u32 (.ofNat (Nat.xor 4294967295 (sumAll xs 4294967295)))), s)
      | none => none) else none
    | none => none) else none
  | _ => none
noncomputable def knownSum : ESelf := fun t s => match t with
  | .fn f args => bif Nat.beq f 57 then (match args with
    | [a] => sumOf s a
    | _ => none) else none
  | .round _ _ => none

theorem knownSum_ok : SelfOK Try.prog knownSum := by
  intro t s e s' hk base ρ w hS n
  cases t with
  | round l args => cases hk
  | fn f args =>
    intro A hA
    simp only [knownSum] at hk
    cases he : Nat.beq f 57 with
    | false => rw [he] at hk; cases hk
    | true =>
    rw [he, cond_true] at hk
    have := Nat.eq_of_beq_eq_true he
    subst this
    split at hk
    · rename_i a
      obtain ⟨X, Y, e1, h1, e3⟩ := hA
      have e3 : Y = [] := e3
      subst e3
      have hAA : A = #[X] := by cases A; simp at e1; simp [e1]
      subst hAA
      unfold sumOf at hk
      split at hk
      · cases hk
        have h1 : X = .slice none 0 0 := by simpa only [VRel] using h1
        subst h1
        refine callsIn_wide.2 ((sum_none w).mono ?_)
        rintro E w' ⟨rfl, hw⟩
        exact ⟨ρ, ρ.le_refl, ⟨_, rfl, by simp only [VRel]⟩, hS.grow hw, hw.mono hS.le⟩
      · rename_i b o len cap x es
        cases hes : Nat.beq es 1 with
        | false => rw [hes] at hk; cases hk
        | true =>
        rw [hes, cond_true] at hk
        split at hk
        · rename_i cs hcs
          simp only [llen_eq, ltake_eq, ldrop_eq] at hk
          cases hb : (Nat.ble (o + len) cs.length && Nat.ble len 1099511627776) with
          | false => rw [hb] at hk; cases hk
          | true =>
          rw [hb, cond_true] at hk
          simp only [Bool.and_eq_true, Nat.ble_eq] at hb
          split at hk
          · rename_i xs hxs
            cases hk
            simp only [VRel] at h1
            obtain ⟨B, O, S, cap', hB, rfl, c1, c2, c3, c4⟩ := h1
            obtain ⟨y, hy, hcA⟩ := hS.cellsAt hcs hB
            rw [hB] at hy; cases hy
            obtain ⟨q1, q2⟩ := strsOf_spec (ρ := ρ) hxs
            have hlen : xs.length = len := by rw [q1]; simp; omega
            have hlt : B < w.heap.size := by
              obtain ⟨C, t', fr, g1, _⟩ := hcA.ex
              rcases Nat.lt_or_ge B w.heap.size with hh | hh
              · exact hh
              · rw [Array.getElem?_eq_none hh] at g1; cases g1
            have hcell : ∀ k, k < len → w.cell? ⟨B, (O + o) + k, none⟩ = some (.string ((xs.getD k ⟨0, 0⟩).den)) := fun k hk => by
              have hx : xs[k]? = some (xs[k]'(by omega)) := List.getElem?_eq_getElem (by omega)
              obtain ⟨g1, _⟩ := q2 k _ hx
              have g2 : cs[o + k]? = some (.str (xs[k]'(by omega))) := by
                rw [List.getElem?_take, if_pos hk, List.getElem?_drop] at g1
                exact g1
              obtain ⟨W, g3, g4⟩ := hcA.cell g2
              have g4 : W = .string (xs[k]'(by omega)).den := by simpa only [VRel] using g4
              subst g4
              rw [List.getD_eq_getElem?_getD, hx]
              simpa [Nat.add_assoc] using g3
            have hsz : ∀ k, k < len → ((xs.getD k ⟨0, 0⟩).den).size ≤ 9223372036854775807 := fun k hk => by
              have hx : xs[k]? = some (xs[k]'(by omega)) := List.getElem?_eq_getElem (by omega)
              have := (q2 k _ hx).2
              rw [List.getD_eq_getElem?_getD, hx, BS.den_size]
              simp only [Option.getD_some]; omega
            have hreg : regAt (fun k => (xs.getD k ⟨0, 0⟩).den) len = sumAll xs 4294967295 := by
              have := sumAll_eq xs [] fun x hx => by obtain ⟨k, hk⟩ := List.getElem?_of_mem hx; exact (q2 k x hk).2
              simp only [List.length_nil, List.nil_append] at this
              rw [← hlen, ← this]
              rfl
            refine callsIn_wide.2 ((sum_walk B (O + o) len cap' w (fun k => (xs.getD k ⟨0, 0⟩).den) hlt hcell (by omega) hsz).mono ?_)
            rintro E w' ⟨rfl, hw⟩
            refine ⟨ρ, ρ.le_refl, ⟨_, rfl, ?_⟩, hS.grow hw, hw.mono hS.le⟩
            simp only [VRel]
            rw [hreg]
            rfl
          · cases hk
        · cases hk
      · cases hk
    · cases hk
end Go.Proofs.Ytjjebdfjmbnhpaa
end

section
namespace Go.Proofs.Ytjjebdfjmbnhpaa
open Go.Eng
open Go.RowKit (Below)

theorem works04_run : isTrue (callE Try.prog knownSum 1000 40 (.fn 29 []) st0) = true := by kernel_rfl
theorem works04_calls (w : World) : Calls Try.prog 29 #[] w fun E w' => E = .returned (.bool true) ∧ Below w.heap.size w w' :=
  calls_true knownSum_ok works04_run w
end Go.Proofs.Ytjjebdfjmbnhpaa
end

section
namespace Go.Proofs.Ytjjebdfjmbnhpaa
open Go.Sym
set_option linter.unusedVariables false
set_option linter.unusedSimpArgs false
set_option maxRecDepth 100000
set_option maxHeartbeats 4000000

noncomputable def txC (L : List ByteArray) (i : Nat) : CD := ⟨26, [(0, .lst [.str] L false), (1, .lst [.str] L false), (5, .int .i64 (i : Int))], [], [], 0⟩
noncomputable def txE : CD := ⟨26, [], [], [], 0⟩
theorem texts_at (L : List ByteArray) (hl : L.length ≤ 4611686018427387904) : PureAt Try.prog 28 [.lst [.str] L false, .lst [.str] L false] (.bool true) := by
  refine pure_of_loop noTab_ok (fuel := 3) (d := 3) 4 (X := { k : Nat // k ≤ L.length })
    (fun x => txC L x.1) (fun x => L.length - x.1)
    (fun _ => .leaf (.exit 0) txE) ⟨0, Nat.zero_le _⟩ [] rfl ?_ ?_
  · rintro ⟨i, hi⟩
    dsimp only
    have hh := sEq_self (Sym.rowAt [.str] L (Int.toNat (i : Int)))
    repeat' (conv => whnf
             first
              | (with_reducible exact True.intro)
              | (with_reducible rfl)
              | (with_reducible exact castL_self _ _)
              | ((with_reducible refine V.same_t ?_); exact rfl)
              | (with_reducible refine iteB_n ?_)
              | (with_reducible refine iteB_ct ?_)
              | (with_reducible refine iteB_cf ?_)
              | (with_reducible refine iteB_bt ?_)
              | (with_reducible refine iteB_bf ?_)
              | (with_reducible refine iteB_tb ?_)
              | (with_reducible refine iteB_fb ?_)
              | ((with_reducible refine andB_room ?_ ?_ ?_); (· kernel_rfl); (· (first | omega | (simp only [castL_self, seg_len, rowAt_one, rowAt_oneS, List.length_append, List.length_cons, List.length_nil, List.length_drop, List.length_take, List.length_eraseIdx, List.length_replicate, ByteArray.size_extract, bs_app, strOf_size, bytesL_len, maxI_eq] <;> omega))))
              | ((first | (with_reducible refine andB_in ?_ ?_) | (with_reducible refine andB_d ?_ ?_) | (with_reducible refine andB_lt ?_ ?_) | (with_reducible refine andB_le ?_ ?_)); · (first | (with_reducible assumption) | (first | omega | (simp only [castL_self, seg_len, rowAt_one, rowAt_oneS, List.length_append, List.length_cons, List.length_nil, List.length_drop, List.length_take, List.length_eraseIdx, List.length_replicate, ByteArray.size_extract, bs_app, strOf_size, bytesL_len, maxI_eq] <;> omega))))
              | ((first | (with_reducible refine iteB_ltt ?_ ?_) | (with_reducible refine iteB_let ?_ ?_) | (with_reducible refine iteB_dt ?_ ?_)); · (first | (with_reducible assumption) | (first | omega | (simp only [castL_self, seg_len, rowAt_one, rowAt_oneS, List.length_append, List.length_cons, List.length_nil, List.length_drop, List.length_take, List.length_eraseIdx, List.length_replicate, ByteArray.size_extract, bs_app, strOf_size, bytesL_len, maxI_eq] <;> omega))))
              | ((first | (with_reducible refine iteB_ltf ?_ ?_) | (with_reducible refine iteB_lef ?_ ?_) | (with_reducible refine iteB_df ?_ ?_)); · (first | (with_reducible assumption) | (first | omega | (simp only [castL_self, seg_len, rowAt_one, rowAt_oneS, List.length_append, List.length_cons, List.length_nil, List.length_drop, List.length_take, List.length_eraseIdx, List.length_replicate, ByteArray.size_extract, bs_app, strOf_size, bytesL_len, maxI_eq] <;> omega))))
              | ((first | (with_reducible refine andB_i ?_ ?_) | (with_reducible refine iteB_t ?_ ?_)); · (first | (with_reducible assumption) | (with_reducible exact decide_eq_true rfl) | (with_reducible exact sEq_self _) | ((with_reducible refine eqOK_i ?_); kernel_rfl)))
              | ((with_reducible refine iteB_f ?_ ?_); · (first | (with_reducible assumption) | (with_reducible exact decide_eq_true rfl) | (with_reducible exact sEq_self _) | ((with_reducible refine eqOK_i ?_); kernel_rfl)))
              | (refine ⟨⟨i + 1, ?_⟩, ?_, rfl, ?_⟩)
              | (with_reducible refine CD.wk_au ?_)
              | (with_reducible refine andB_in ?_ ?_)
              | (with_reducible refine andB_lt ?_ ?_)
              | (with_reducible refine andB_le ?_ ?_)
              | (with_reducible refine andB_d ?_ ?_)
              | (with_reducible refine andB_i ?_ ?_)
              | (with_reducible refine iteB_lts (fun hB => ?_) (fun hB => ?_))
              | (with_reducible refine iteB_les (fun hB => ?_) (fun hB => ?_))
              | (with_reducible refine iteB_ds (fun hB => ?_) (fun hB => ?_))
              | (with_reducible refine iteB_s (fun hB => ?_) (fun hB => ?_))
              | (with_reducible refine CD.wk_as ?_)
              | (with_reducible refine And.intro ?_ ?_))
    all_goals (conv => whnf)
    all_goals (try dsimp only)
    all_goals (try simp only [Nat.succ_eq_add_one, Nat.le_eq, castL_self])
    all_goals (try omega)
    all_goals (try (simp only [castL_self, seg_len, rowAt_one, rowAt_oneS, List.length_append, List.length_cons, List.length_nil, List.length_drop, List.length_take, List.length_eraseIdx, List.length_replicate, ByteArray.size_extract, bs_app, strOf_size, bytesL_len, maxI_eq] <;> omega))
    all_goals first
      | omega
      | (exact Bool.noConfusion (hh.symm.trans ‹_›))
      | trace_state
  · repeat' (conv => whnf
             first
              | (with_reducible exact True.intro)
              | (with_reducible rfl)
              | (with_reducible exact castL_self _ _)
              | ((with_reducible refine V.same_t ?_); exact rfl)
              | (with_reducible refine iteB_n ?_)
              | (with_reducible refine iteB_ct ?_)
              | (with_reducible refine iteB_cf ?_)
              | (with_reducible refine iteB_bt ?_)
              | (with_reducible refine iteB_bf ?_)
              | (with_reducible refine iteB_tb ?_)
              | (with_reducible refine iteB_fb ?_)
              | ((with_reducible refine andB_room ?_ ?_ ?_); (· kernel_rfl); (· (first | omega | (simp only [castL_self, seg_len, rowAt_one, rowAt_oneS, List.length_append, List.length_cons, List.length_nil, List.length_drop, List.length_take, List.length_eraseIdx, List.length_replicate, ByteArray.size_extract, bs_app, strOf_size, bytesL_len, maxI_eq] <;> omega))))
              | ((first | (with_reducible refine andB_in ?_ ?_) | (with_reducible refine andB_d ?_ ?_) | (with_reducible refine andB_lt ?_ ?_) | (with_reducible refine andB_le ?_ ?_)); · (first | (with_reducible assumption) | (first | omega | (simp only [castL_self, seg_len, rowAt_one, rowAt_oneS, List.length_append, List.length_cons, List.length_nil, List.length_drop, List.length_take, List.length_eraseIdx, List.length_replicate, ByteArray.size_extract, bs_app, strOf_size, bytesL_len, maxI_eq] <;> omega))))
              | ((first | (with_reducible refine iteB_ltt ?_ ?_) | (with_reducible refine iteB_let ?_ ?_) | (with_reducible refine iteB_dt ?_ ?_)); · (first | (with_reducible assumption) | (first | omega | (simp only [castL_self, seg_len, rowAt_one, rowAt_oneS, List.length_append, List.length_cons, List.length_nil, List.length_drop, List.length_take, List.length_eraseIdx, List.length_replicate, ByteArray.size_extract, bs_app, strOf_size, bytesL_len, maxI_eq] <;> omega))))
              | ((first | (with_reducible refine iteB_ltf ?_ ?_) | (with_reducible refine iteB_lef ?_ ?_) | (with_reducible refine iteB_df ?_ ?_)); · (first | (with_reducible assumption) | (first | omega | (simp only [castL_self, seg_len, rowAt_one, rowAt_oneS, List.length_append, List.length_cons, List.length_nil, List.length_drop, List.length_take, List.length_eraseIdx, List.length_replicate, ByteArray.size_extract, bs_app, strOf_size, bytesL_len, maxI_eq] <;> omega))))
              | ((first | (with_reducible refine andB_i ?_ ?_) | (with_reducible refine iteB_t ?_ ?_)); · (first | (with_reducible assumption) | (with_reducible exact decide_eq_true rfl) | (with_reducible exact sEq_self _) | ((with_reducible refine eqOK_i ?_); kernel_rfl)))
              | ((with_reducible refine iteB_f ?_ ?_); · (first | (with_reducible assumption) | (with_reducible exact decide_eq_true rfl) | (with_reducible exact sEq_self _) | ((with_reducible refine eqOK_i ?_); kernel_rfl)))
              | (with_reducible refine andB_in ?_ ?_)
              | (with_reducible refine andB_lt ?_ ?_)
              | (with_reducible refine andB_le ?_ ?_)
              | (with_reducible refine andB_d ?_ ?_)
              | (with_reducible refine andB_i ?_ ?_)
              | (with_reducible refine iteB_lts (fun hB => ?_) (fun hB => ?_))
              | (with_reducible refine iteB_les (fun hB => ?_) (fun hB => ?_))
              | (with_reducible refine iteB_ds (fun hB => ?_) (fun hB => ?_))
              | (with_reducible refine iteB_s (fun hB => ?_) (fun hB => ?_))
              | (with_reducible refine CD.wk_as ?_)
              | (with_reducible refine And.intro ?_ ?_))
    all_goals (conv => whnf)
    all_goals (try dsimp only)
    all_goals (try simp only [Nat.succ_eq_add_one, Nat.le_eq, castL_self])
    all_goals (try omega)
    all_goals (try (simp only [castL_self, seg_len, rowAt_one, rowAt_oneS, List.length_append, List.length_cons, List.length_nil, List.length_drop, List.length_take, List.length_eraseIdx, List.length_replicate, ByteArray.size_extract, bs_app, strOf_size, bytesL_len, maxI_eq] <;> omega))
    all_goals first
      | rfl
      | trace_state
/-- are they alike -/
noncomputable def eqL : List ByteArray → List ByteArray → Bool := hide fun a b => decide (a = b)
theorem eqL_eq (a b : List ByteArray) : eqL a b = decide (a = b) := by rw [eqL, hide_eq]
theorem eqL_of {a b : List ByteArray} (h : eqL a b = true) : a = b := of_decide_eq_true ((eqL_eq a b).symm.trans h)
theorem eqL_self (a : List ByteArray) : eqL a a = true := by rw [eqL_eq]; exact decide_eq_true rfl
noncomputable def textsF (args : List V) : Option (List Bool × V) := match args with
  | [a, b] => (match ofLst [.str] a, ofLst [.str] b with
    | some L, some M => some ([eqL L M, decide (List.length (α := ByteArray) L ≤ 4611686018427387904)], .bool true)
    | _, _ => none)
  | _ => none
theorem textsF_ok (args : List V) (c : List Bool) (v : V) (h : textsF args = some (c, v)) (hc : allB c) : PureAt Try.prog 28 args v := by
  unfold textsF at h
  split at h
  · rename_i a b
    split at h
    · rename_i L M hL hM
      cases h
      have h1 : L = M := eqL_of hc.1
      subst h1
      exact PureAt.lst (pre := [a]) ((texts_at L (@of_decide_eq_true (List.length (α := ByteArray) L ≤ 4611686018427387904) _ hc.2.1)).lst0 hL) hM
    · cases h
  · cases h
noncomputable def trueF4 (args : List V) : Option (List Bool × V) := match args with
  | [] => some ([], .bool true)
  | _ => none
theorem trueF4_ok {P : Program} {g : FuncId} (hg : PureAt P g [] (.bool true)) (args : List V) (c : List Bool) (v : V) (h : trueF4 args = some (c, v)) (_ : allB c) : PureAt P g args v := by
  unfold trueF4 at h
  split at h
  · cases h; exact hg
  · cases h
theorem works04_at : PureAt Try.prog 29 [] (.bool true) :=
  pure_of_calls (A := #[]) (X := .bool true) (fun φ Y h => h) (fun φ => rfl) works04_calls
theorem refscanF_ok (args : List V) (c : List Bool) (v : V) (h : scanF args = some (c, v)) (hc : allB c) : PureAt Try.prog 27 args v := by
  unfold scanF at h
  split at h
  · cases h; exact refscan_at _ (of_decide_eq_true hc.1)
  · cases h
noncomputable def tabIs4 : Tab := oneTab 29 trueF4 (oneTab 28 textsF (oneTab 24 frameF (oneTab 25 frameF (oneTab 26 scanF (oneTab 27 scanF noTab)))))
theorem tabIs4_ok : TabOK Try.prog tabIs4 := oneTab_ok (trueF4_ok works04_at) (oneTab_ok textsF_ok (oneTab_ok frameF_ok (oneTab_ok refframeF_ok (oneTab_ok scanF_ok (oneTab_ok refscanF_ok noTab_ok)))))
theorem frV_size (s : ByteArray) : (frV s).size ≤ s.size + 8 := by
  rw [frV_eq]
  cases decide (65535 < (s.size : Int))
  · rw [cond_false, ByteArray.size_append, ByteArray.size_append, fourH_size, fourH_size]; omega
  · exact Nat.zero_le _
theorem scP_len (s : ByteArray) : ∀ o, o ≤ s.size → (scP s o).1.length + o ≤ s.size ∧ (scP s o).2 ≤ s.size := by
  intro o
  induction h : s.size - o using Nat.strongRecOn generalizing o with
  | _ n ih =>
    intro ho
    cases hf : frOK s o with
    | false => rw [scP_stop hf]; exact ⟨by simp; exact ho, ho⟩
    | true =>
      have := frOK_is hf
      have := ih (s.size - (o + 8 + frN s o)) (by omega) (o + 8 + frN s o) rfl (by omega)
      rw [scP_step hf]
      simp only [List.length_cons]
      omega
theorem scL_len (s : ByteArray) : (scL s).length ≤ s.size := by
  rw [scL_eq]
  have := (scP_len s 0 (Nat.zero_le _)).1
  omega
theorem framed_at (s : ByteArray) (hs : s.size ≤ 65535) : PureAt Try.prog 30 [.str s] (.str (frV s)) := by
  have hE : @Eq Int (frE s) 0 := by rw [frE_eq, decide_eq_false (by omega)]; rfl
  refine pure_of_W0 (tab := tabIs4) (fuel := 3) (d := 4) tabIs4_ok ?_
  repeat' (conv => whnf
           first
            | (with_reducible exact True.intro)
            | (with_reducible rfl)
            | (with_reducible exact castL_self _ _)
            | ((with_reducible refine V.same_t ?_); exact rfl)
            | (with_reducible refine iteB_n ?_)
            | (with_reducible refine iteB_ct ?_)
            | (with_reducible refine iteB_cf ?_)
            | (with_reducible refine iteB_bt ?_)
            | (with_reducible refine iteB_bf ?_)
            | (with_reducible refine iteB_tb ?_)
            | (with_reducible refine iteB_fb ?_)
            | ((with_reducible refine andB_room ?_ ?_ ?_); (· kernel_rfl); (· (first | omega | (simp only [castL_self, seg_len, rowAt_one, rowAt_oneS, List.length_append, List.length_cons, List.length_nil, List.length_drop, List.length_take, List.length_eraseIdx, List.length_replicate, ByteArray.size_extract, bs_app, strOf_size, bytesL_len, maxI_eq] <;> omega))))
            | ((first | (with_reducible refine andB_in ?_ ?_) | (with_reducible refine andB_d ?_ ?_) | (with_reducible refine andB_lt ?_ ?_) | (with_reducible refine andB_le ?_ ?_)); · (first | (with_reducible assumption) | (first | omega | (simp only [castL_self, seg_len, rowAt_one, rowAt_oneS, List.length_append, List.length_cons, List.length_nil, List.length_drop, List.length_take, List.length_eraseIdx, List.length_replicate, ByteArray.size_extract, bs_app, strOf_size, bytesL_len, maxI_eq] <;> omega))))
            | ((first | (with_reducible refine iteB_ltt ?_ ?_) | (with_reducible refine iteB_let ?_ ?_) | (with_reducible refine iteB_dt ?_ ?_)); · (first | (with_reducible assumption) | (first | omega | (simp only [castL_self, seg_len, rowAt_one, rowAt_oneS, List.length_append, List.length_cons, List.length_nil, List.length_drop, List.length_take, List.length_eraseIdx, List.length_replicate, ByteArray.size_extract, bs_app, strOf_size, bytesL_len, maxI_eq] <;> omega))))
            | ((first | (with_reducible refine iteB_ltf ?_ ?_) | (with_reducible refine iteB_lef ?_ ?_) | (with_reducible refine iteB_df ?_ ?_)); · (first | (with_reducible assumption) | (first | omega | (simp only [castL_self, seg_len, rowAt_one, rowAt_oneS, List.length_append, List.length_cons, List.length_nil, List.length_drop, List.length_take, List.length_eraseIdx, List.length_replicate, ByteArray.size_extract, bs_app, strOf_size, bytesL_len, maxI_eq] <;> omega))))
            | ((first | (with_reducible refine andB_i ?_ ?_) | (with_reducible refine iteB_t ?_ ?_)); · (first | (with_reducible assumption) | (with_reducible exact decide_eq_true rfl) | (with_reducible exact sEq_self _) | ((with_reducible refine eqOK_i ?_); kernel_rfl)))
            | ((with_reducible refine iteB_f ?_ ?_); · (first | (with_reducible assumption) | (with_reducible exact decide_eq_true rfl) | (with_reducible exact sEq_self _) | ((with_reducible refine eqOK_i ?_); kernel_rfl)))
            | (with_reducible refine andB_in ?_ ?_)
            | (with_reducible refine andB_lt ?_ ?_)
            | (with_reducible refine andB_le ?_ ?_)
            | (with_reducible refine andB_d ?_ ?_)
            | (with_reducible refine andB_i ?_ ?_)
            | (with_reducible refine iteB_lts (fun hB => ?_) (fun hB => ?_))
            | (with_reducible refine iteB_les (fun hB => ?_) (fun hB => ?_))
            | (with_reducible refine iteB_ds (fun hB => ?_) (fun hB => ?_))
            | (with_reducible refine iteB_s (fun hB => ?_) (fun hB => ?_))
            | (with_reducible refine CD.wk_as ?_)
            | (with_reducible refine And.intro ?_ ?_))
  all_goals (conv => whnf)
  all_goals (try dsimp only)
  all_goals (try simp only [Nat.succ_eq_add_one, Nat.le_eq, castL_self])
  all_goals (try omega)
  all_goals (try (simp only [castL_self, seg_len, rowAt_one, rowAt_oneS, List.length_append, List.length_cons, List.length_nil, List.length_drop, List.length_take, List.length_eraseIdx, List.length_replicate, ByteArray.size_extract, bs_app, strOf_size, bytesL_len, maxI_eq] <;> omega))
  all_goals first
    | rfl
    | trace_state
noncomputable def framedF (args : List V) : Option (List Bool × V) := match args with
  | [.str s] => some ([decide (s.size ≤ 65535)], .str (frV s))
  | _ => none
theorem framedF_ok (args : List V) (c : List Bool) (v : V) (h : framedF args = some (c, v)) (hc : allB c) : PureAt Try.prog 30 args v := by
  unfold framedF at h
  split at h
  · cases h; exact framed_at _ (of_decide_eq_true hc.1)
  · cases h
theorem scans_at (s : ByteArray) (hs : s.size ≤ 100000) : PureAt Try.prog 31 [.str s, .int .i64 ((scN s : Nat) : Int), .lst [.str] (scL s) false] (.bool true) := by
  have c2 := eqL_self (scL s)
  have l1 := scL_len s
  refine pure_of_W0 (tab := tabIs4) (fuel := 3) (d := 4) tabIs4_ok ?_
  repeat' (conv => whnf
           first
            | (with_reducible exact True.intro)
            | (with_reducible rfl)
            | (with_reducible exact castL_self _ _)
            | ((with_reducible refine V.same_t ?_); exact rfl)
            | (with_reducible refine iteB_n ?_)
            | (with_reducible refine iteB_ct ?_)
            | (with_reducible refine iteB_cf ?_)
            | (with_reducible refine iteB_bt ?_)
            | (with_reducible refine iteB_bf ?_)
            | (with_reducible refine iteB_tb ?_)
            | (with_reducible refine iteB_fb ?_)
            | ((with_reducible refine andB_room ?_ ?_ ?_); (· kernel_rfl); (· (first | omega | (simp only [castL_self, seg_len, rowAt_one, rowAt_oneS, List.length_append, List.length_cons, List.length_nil, List.length_drop, List.length_take, List.length_eraseIdx, List.length_replicate, ByteArray.size_extract, bs_app, strOf_size, bytesL_len, maxI_eq] <;> omega))))
            | ((first | (with_reducible refine andB_in ?_ ?_) | (with_reducible refine andB_d ?_ ?_) | (with_reducible refine andB_lt ?_ ?_) | (with_reducible refine andB_le ?_ ?_)); · (first | (with_reducible assumption) | (first | omega | (simp only [castL_self, seg_len, rowAt_one, rowAt_oneS, List.length_append, List.length_cons, List.length_nil, List.length_drop, List.length_take, List.length_eraseIdx, List.length_replicate, ByteArray.size_extract, bs_app, strOf_size, bytesL_len, maxI_eq] <;> omega))))
            | ((first | (with_reducible refine iteB_ltt ?_ ?_) | (with_reducible refine iteB_let ?_ ?_) | (with_reducible refine iteB_dt ?_ ?_)); · (first | (with_reducible assumption) | (first | omega | (simp only [castL_self, seg_len, rowAt_one, rowAt_oneS, List.length_append, List.length_cons, List.length_nil, List.length_drop, List.length_take, List.length_eraseIdx, List.length_replicate, ByteArray.size_extract, bs_app, strOf_size, bytesL_len, maxI_eq] <;> omega))))
            | ((first | (with_reducible refine iteB_ltf ?_ ?_) | (with_reducible refine iteB_lef ?_ ?_) | (with_reducible refine iteB_df ?_ ?_)); · (first | (with_reducible assumption) | (first | omega | (simp only [castL_self, seg_len, rowAt_one, rowAt_oneS, List.length_append, List.length_cons, List.length_nil, List.length_drop, List.length_take, List.length_eraseIdx, List.length_replicate, ByteArray.size_extract, bs_app, strOf_size, bytesL_len, maxI_eq] <;> omega))))
            | ((first | (with_reducible refine andB_i ?_ ?_) | (with_reducible refine iteB_t ?_ ?_)); · (first | (with_reducible assumption) | (with_reducible exact decide_eq_true rfl) | (with_reducible exact sEq_self _) | ((with_reducible refine eqOK_i ?_); kernel_rfl)))
            | ((with_reducible refine iteB_f ?_ ?_); · (first | (with_reducible assumption) | (with_reducible exact decide_eq_true rfl) | (with_reducible exact sEq_self _) | ((with_reducible refine eqOK_i ?_); kernel_rfl)))
            | (with_reducible refine andB_in ?_ ?_)
            | (with_reducible refine andB_lt ?_ ?_)
            | (with_reducible refine andB_le ?_ ?_)
            | (with_reducible refine andB_d ?_ ?_)
            | (with_reducible refine andB_i ?_ ?_)
            | (with_reducible refine iteB_lts (fun hB => ?_) (fun hB => ?_))
            | (with_reducible refine iteB_les (fun hB => ?_) (fun hB => ?_))
            | (with_reducible refine iteB_ds (fun hB => ?_) (fun hB => ?_))
            | (with_reducible refine iteB_s (fun hB => ?_) (fun hB => ?_))
            | (with_reducible refine CD.wk_as ?_)
            | (with_reducible refine And.intro ?_ ?_))
  all_goals (conv => whnf)
  all_goals (try dsimp only)
  all_goals (try simp only [Nat.succ_eq_add_one, Nat.le_eq, castL_self])
  all_goals (try omega)
  all_goals (try (simp only [castL_self, seg_len, rowAt_one, rowAt_oneS, List.length_append, List.length_cons, List.length_nil, List.length_drop, List.length_take, List.length_eraseIdx, List.length_replicate, ByteArray.size_extract, bs_app, strOf_size, bytesL_len, maxI_eq] <;> omega))
  all_goals first
    | exact eqL_self _
    | rfl
    | trace_state
noncomputable def scansF (args : List V) : Option (List Bool × V) := match args with
  | [.str s, .int .i64 n, a] => (match ofLst [.str] a with
    | some L => some ([decide (s.size ≤ 100000), decide (n = ((scN s : Nat) : Int)), eqL L (scL s)], .bool true)
    | none => none)
  | _ => none
theorem scansF_ok (args : List V) (c : List Bool) (v : V) (h : scansF args = some (c, v)) (hc : allB c) : PureAt Try.prog 31 args v := by
  unfold scansF at h
  split at h
  · rename_i s n a
    split at h
    · rename_i L hL
      cases h
      have h1 : L = scL s := eqL_of hc.2.2.1
      subst h1
      have h2 := of_decide_eq_true hc.2.1
      subst h2
      exact PureAt.lst (pre := [.str s, .int .i64 ((scN s : Nat) : Int)]) (rest := []) (scans_at s (of_decide_eq_true hc.1)) hL
    · cases h
  · cases h
noncomputable def tabRows : Tab := oneTab 29 trueF4 (oneTab 30 framedF (oneTab 31 scansF noTab))
theorem tabRows_ok : TabOK Try.prog tabRows := oneTab_ok (trueF4_ok works04_at) (oneTab_ok framedF_ok (oneTab_ok scansF_ok noTab_ok))
end Go.Proofs.Ytjjebdfjmbnhpaa
end

section
namespace Go.Proofs.Ytjjebdfjmbnhpaa
open Go.Sym
set_option linter.unusedVariables false

theorem bsz_app (a b : ByteArray) : (a ++ b).size = a.size + b.size := ByteArray.size_append
theorem ext_mid (A x B : ByteArray) {i j : Nat} (hi : i = A.size) (hj : j = A.size + x.size) : (A ++ x ++ B).extract i j = x := by
  subst hi; subst hj
  refine ba_ext ?_
  rw [ext_list, ba_app_list, ba_app_list]
  have h1 : A.size = A.data.toList.length := by rw [Array.length_toList]; rfl
  have h2 : x.size = x.data.toList.length := by rw [Array.length_toList]; rfl
  rw [h1, h2, List.take_append_of_le_length (by rw [List.length_append]; omega), List.take_of_length_le (by rw [List.length_append]; omega), List.drop_left]
theorem frV_of (x : ByteArray) (h : x.size ≤ 65535) : frV x = fourH (x.size : Int) ++ fourH (sumB (fourH (x.size : Int) ++ x)) ++ x := by
  rw [frV_eq, decide_eq_false (by omega), cond_false]
theorem frV_sz (x : ByteArray) (h : x.size ≤ 65535) : (frV x).size = 8 + x.size := by
  rw [frV_of x h, bsz_app, bsz_app, fourH_size, fourH_size]
/-- the parts of a frame that stands in bytes: head, sum, payload -/
theorem fr_parts (A B h4 s4 x : ByteArray) (h1 : h4.size = 4) (h2 : s4.size = 4) : (A ++ (h4 ++ s4 ++ x) ++ B).extract A.size (A.size + 4) = h4 ∧ (A ++ (h4 ++ s4 ++ x) ++ B).extract (A.size + 4) (A.size + 8) = s4 ∧
    (A ++ (h4 ++ s4 ++ x) ++ B).extract (A.size + 8) (A.size + 8 + x.size) = x := by
  have e1 : A ++ (h4 ++ s4 ++ x) ++ B = A ++ h4 ++ (s4 ++ x ++ B) := by simp only [ByteArray.append_assoc]
  have e2 : A ++ (h4 ++ s4 ++ x) ++ B = (A ++ h4) ++ s4 ++ (x ++ B) := by simp only [ByteArray.append_assoc]
  have e3 : A ++ (h4 ++ s4 ++ x) ++ B = (A ++ h4 ++ s4) ++ x ++ B := by simp only [ByteArray.append_assoc]
  refine ⟨?_, ?_, ?_⟩
  · rw [e1]; exact ext_mid _ _ _ rfl (by rw [h1])
  · rw [e2]; exact ext_mid _ _ _ (by rw [bsz_app, h1]) (by rw [bsz_app, h1, h2])
  · rw [e3]; exact ext_mid _ _ _ (by rw [bsz_app, bsz_app, h1, h2]) (by rw [bsz_app, bsz_app, h1, h2])
/-- a frame's head tells a payload's size -/
theorem frN_of (A B s4 x : ByteArray) (n : Nat) (hn : n ≤ 65535) (h2 : s4.size = 4) : frN (A ++ (fourH (n : Int) ++ s4 ++ x) ++ B) A.size = n := by
  unfold frN
  rw [(fr_parts A B _ s4 x (fourH_size _) h2).1, num_four n (by omega)]
  rfl
/-- whether some payload stands there -/
theorem frOK_of (A B s4 x : ByteArray) (hn : x.size ≤ 65535) (h2 : s4.size = 4) : frOK (A ++ (fourH (x.size : Int) ++ s4 ++ x) ++ B) A.size = decide (sumB (fourH (x.size : Int) ++ x) = numH s4) := by
  obtain ⟨p1, p2, p3⟩ := fr_parts A B _ s4 x (fourH_size (x.size : Int)) h2
  have hN := frN_of A B s4 x x.size hn h2
  have hs : (A ++ (fourH (x.size : Int) ++ s4 ++ x) ++ B).size = A.size + (4 + 4 + x.size) + B.size := by rw [bsz_app, bsz_app, bsz_app, bsz_app, fourH_size, h2]
  rw [frOK_eq, hN, p1, p2, p3, hs, decide_eq_true (by omega), decide_eq_true hn, decide_eq_true (by omega), Bool.true_and, Bool.true_and, Bool.true_and]
theorem frOK_frame (A B x : ByteArray) (hn : x.size ≤ 65535) : frOK (A ++ frV x ++ B) A.size = true ∧ frN (A ++ frV x ++ B) A.size = x.size ∧ (A ++ frV x ++ B).extract (A.size + 8) (A.size + 8 + x.size) = x := by
  rw [frV_of x hn]
  have hs := sumB_in (fourH (x.size : Int) ++ x)
  refine ⟨?_, frN_of A B _ x _ hn (fourH_size _), (fr_parts A B _ _ x (fourH_size _) (fourH_size _)).2.2⟩
  rw [frOK_of A B _ x hn (fourH_size _)]
  obtain ⟨q, hq⟩ := Int.eq_ofNat_of_zero_le hs.1
  rw [hq, num_four q (by omega)]
  exact decide_eq_true rfl
/-- frames one behind the other -/
noncomputable def rowOf (l : List ByteArray) : ByteArray := l.foldr (fun x r => frV x ++ r) ⟨#[]⟩
theorem rowOf_cons (x : ByteArray) (l : List ByteArray) : rowOf (x :: l) = frV x ++ rowOf l := rfl
theorem ba_nil_app (a : ByteArray) : (⟨#[]⟩ : ByteArray) ++ a = a := by refine ba_ext ?_; rw [ba_app_list]; rfl
theorem ba_app_nil (a : ByteArray) : a ++ (⟨#[]⟩ : ByteArray) = a := by
  refine ba_ext ?_
  rw [ba_app_list]
  exact List.append_nil _
theorem rowOf_app : ∀ l m : List ByteArray, rowOf (l ++ m) = rowOf l ++ rowOf m
  | [], m => (ba_nil_app _).symm
  | x :: l, m => by rw [List.cons_append, rowOf_cons, rowOf_cons, rowOf_app l m, ByteArray.append_assoc]
theorem rowOf_one (x : ByteArray) : rowOf [x] = frV x := by rw [rowOf_cons]; exact ba_app_nil _
theorem scP_row : ∀ (l : List ByteArray) (A B : ByteArray), (∀ x ∈ l, x.size ≤ 65535) →
    scP (A ++ rowOf l ++ B) A.size = (l ++ (scP (A ++ rowOf l ++ B) (A.size + (rowOf l).size)).1, (scP (A ++ rowOf l ++ B) (A.size + (rowOf l).size)).2)
  | [], A, B, _ => by
    show _ = ((scP (A ++ rowOf [] ++ B) (A.size + 0)).1, _)
    rfl
  | x :: l, A, B, h => by
    have hx := h x (List.mem_cons_self ..)
    have e : A ++ rowOf (x :: l) ++ B = A ++ frV x ++ (rowOf l ++ B) := by rw [rowOf_cons]; simp only [ByteArray.append_assoc]
    have e' : A ++ rowOf (x :: l) ++ B = (A ++ frV x) ++ rowOf l ++ B := by rw [rowOf_cons]; simp only [ByteArray.append_assoc]
    obtain ⟨k1, k2, k3⟩ := frOK_frame A (rowOf l ++ B) x hx
    rw [← e] at k1 k2 k3
    have hz := frV_sz x hx
    rw [scP_step k1, k2, k3]
    have ih := scP_row l (A ++ frV x) B fun y hy => h y (List.mem_cons_of_mem _ hy)
    rw [← e'] at ih
    have s1 : (A ++ frV x).size = A.size + 8 + x.size := by rw [bsz_app, hz]; omega
    have s2 : A.size + (rowOf (x :: l)).size = (A ++ frV x).size + (rowOf l).size := by rw [rowOf_cons, bsz_app, bsz_app]; omega
    rw [s1] at ih s2
    rw [ih, s2]
    rfl
theorem frOK_end (s : ByteArray) (o : Nat) (h : s.size < o + 8) : frOK s o = false := by
  rw [frOK_eq, decide_eq_false (by omega), Bool.false_and]
theorem sc_row (l : List ByteArray) (h : ∀ x ∈ l, x.size ≤ 65535) : scL (rowOf l) = l ∧ scN (rowOf l) = (rowOf l).size := by
  have := scP_row l ⟨#[]⟩ ⟨#[]⟩ h
  rw [ba_nil_app, ba_app_nil] at this
  have z : ByteArray.size ⟨#[]⟩ = 0 := rfl
  rw [z, Nat.zero_add, scP_stop (frOK_end (rowOf l) (rowOf l).size (by omega))] at this
  rw [scL_eq, scN_eq, this]
  exact ⟨List.append_nil _, rfl⟩
/-- of a frame some bytes alone: none -/
theorem frOK_part (A x : ByteArray) (hx : x.size ≤ 65535) (k : Nat) (hk : k < (frV x).size) : frOK (A ++ (frV x).extract 0 k) A.size = false := by
  have hz := frV_sz x hx
  have hk' : ((frV x).extract 0 k).size = k := by rw [ByteArray.size_extract]; omega
  rcases Nat.lt_or_ge k 8 with h8 | h8
  · exact frOK_end _ _ (by rw [bsz_app, hk']; omega)
  · have e : (frV x).extract 0 k = fourH (x.size : Int) ++ fourH (sumB (fourH (x.size : Int) ++ x)) ++ x.extract 0 (k - 8) := by
      rw [frV_of x hx]
      refine ba_ext ?_
      rw [ext_list, ba_app_list, ba_app_list, ba_app_list, ba_app_list, ext_list, List.drop_zero, List.drop_zero]
      have l1 : (fourH (x.size : Int)).data.toList.length = 4 := by rw [Array.length_toList]; exact fourH_size _
      have l2 : (fourH (sumB (fourH (x.size : Int) ++ x))).data.toList.length = 4 := by rw [Array.length_toList]; exact fourH_size _
      rw [List.take_append, List.length_append, l1, l2, List.take_of_length_le (by rw [List.length_append]; omega)]
    have hN : frN (A ++ (frV x).extract 0 k) A.size = x.size := by
      rw [e, ← ba_app_nil (A ++ _)]
      exact frN_of A ⟨#[]⟩ _ _ _ hx (fourH_size _)
    rw [frOK_eq, hN, bsz_app, hk', decide_eq_true hx, show decide (A.size + 8 + x.size ≤ A.size + k) = false from decide_eq_false (by omega), Bool.false_and, Bool.and_false, Bool.and_false]
/-- so many frames, and of the next one a part -/
theorem sc_cut (l : List ByteArray) (h : ∀ x ∈ l, x.size ≤ 65535) (x : ByteArray) (hx : x.size ≤ 65535) (k : Nat) (hk : k < (frV x).size) : scL (rowOf l ++ (frV x).extract 0 k) = l ∧ scN (rowOf l ++ (frV x).extract 0 k) = (rowOf l).size := by
  have := scP_row l ⟨#[]⟩ ((frV x).extract 0 k) h
  rw [ba_nil_app] at this
  have z : ByteArray.size ⟨#[]⟩ = 0 := rfl
  rw [z, Nat.zero_add, scP_stop (frOK_part (rowOf l) x hx k hk)] at this
  rw [scL_eq, scN_eq, this]
  exact ⟨List.append_nil _, rfl⟩
/-- the ends of the frames, one behind the other -/
noncomputable def endAt (l : List ByteArray) (i : Nat) : Nat := (rowOf (l.take i)).size
theorem endAt_succ (l : List ByteArray) (i : Nat) (h : i < l.length) : rowOf (l.take (i + 1)) = rowOf (l.take i) ++ frV l[i] := by
  rw [List.take_succ_eq_append_getElem h, rowOf_app, rowOf_one]
/-- a row, cut: just the frames that are whole -/
theorem sc_rowcut (l : List ByteArray) (h : ∀ x ∈ l, x.size ≤ 65535) (k i : Nat) (hk : k ≤ (rowOf l).size) (hi : i ≤ l.length) (h1 : endAt l i ≤ k) (h2 : i < l.length → k < endAt l (i + 1)) :
    scL ((rowOf l).extract 0 k) = l.take i ∧ scN ((rowOf l).extract 0 k) = endAt l i := by
  have ht : ∀ x ∈ l.take i, x.size ≤ 65535 := fun x hx => h x (List.mem_of_mem_take hx)
  rcases Nat.lt_or_ge i l.length with hlt | hge
  · have hk2 := h2 hlt
    have hx := h l[i] (List.getElem_mem hlt)
    have e1 : rowOf l = rowOf (l.take i) ++ (frV l[i] ++ rowOf (l.drop (i + 1))) := by
      have : l = l.take i ++ (l[i] :: l.drop (i + 1)) := by rw [← List.drop_eq_getElem_cons hlt, List.take_append_drop]
      conv => lhs; rw [this]
      rw [rowOf_app, rowOf_cons]
    unfold endAt at h1 hk2 ⊢
    rw [endAt_succ l i hlt, bsz_app] at hk2
    have e2 : (rowOf l).extract 0 k = rowOf (l.take i) ++ (frV l[i]).extract 0 (k - (rowOf (l.take i)).size) := by
      rw [e1]
      refine ba_ext ?_
      rw [ext_list, ba_app_list, ba_app_list, ba_app_list, ext_list, List.drop_zero, List.drop_zero]
      have l1 : (rowOf (l.take i)).data.toList.length = (rowOf (l.take i)).size := by rw [Array.length_toList]; rfl
      have l2 : (frV l[i]).data.toList.length = (frV l[i]).size := by rw [Array.length_toList]; rfl
      rw [List.take_append, l1, List.take_of_length_le (by omega), List.take_append, l2, show k - (rowOf (l.take i)).size - (frV l[i]).size = 0 by omega, List.take_zero, List.append_nil]
    rw [e2]
    exact sc_cut _ ht _ hx _ (by omega)
  · have e0 : l.take i = l := List.take_of_length_le hge
    have hk' : k = (rowOf l).size := by unfold endAt at h1; rw [e0] at h1; omega
    have e2 : (rowOf l).extract 0 k = rowOf l := by
      refine ba_ext ?_
      rw [ext_list, List.drop_zero, List.take_of_length_le (by rw [Array.length_toList, hk']; exact Nat.le_refl _)]
    unfold endAt
    rw [e2, e0]
    exact sc_row l h
end Go.Proofs.Ytjjebdfjmbnhpaa
end

section
namespace Go.Proofs.Ytjjebdfjmbnhpaa
open Go.Sym
set_option linter.unusedVariables false
set_option linter.unusedSimpArgs false
set_option maxRecDepth 100000
set_option maxHeartbeats 4000000

/-! ### the row's payloads, frames, ends -/
noncomputable def cut3 (x : ByteArray) : ByteArray := x.extract 0 (min (x.size : Int) 300).toNat
theorem cut3_size (x : ByteArray) : (cut3 x).size ≤ 300 := by unfold cut3; rw [ByteArray.size_extract]; omega
noncomputable def xsF (L : List ByteArray) : List ByteArray := (L.take 10).map cut3
theorem xsF_len (L : List ByteArray) : (xsF L).length = min 10 L.length := by unfold xsF; rw [List.length_map, List.length_take]
theorem xsF_small (L : List ByteArray) : ∀ x ∈ xsF L, x.size ≤ 300 := fun x hx => by
  obtain ⟨y, _, rfl⟩ := List.mem_map.1 hx
  exact cut3_size y
theorem xsF_get (L : List ByteArray) (i : Nat) (h : i < (xsF L).length) : (xsF L)[i] = cut3 (Sym.rowAt [.str] L i) := by
  have h' := h
  rw [xsF_len] at h'
  have hr : Sym.rowAt [.str] L i = L[i]'(by omega) := rowAt_lt (e := [.str]) (L := L) (show i < L.length by omega)
  have hm : (xsF L)[i] = cut3 ((L.take 10)[i]'(by rw [List.length_take]; omega)) := List.getElem_map ..
  rw [hr, hm, List.getElem_take]
theorem xsF_succ (L : List ByteArray) (i : Nat) (h : i < (xsF L).length) : (xsF L).take (i + 1) = (xsF L).take i ++ [cut3 (Sym.rowAt [.str] L i)] := by
  rw [List.take_succ_eq_append_getElem h, xsF_get]
theorem row_succ (L : List ByteArray) (i : Nat) (h : i < (xsF L).length) : rowOf ((xsF L).take (i + 1)) = rowOf ((xsF L).take i) ++ frV (cut3 (Sym.rowAt [.str] L i)) := by
  rw [xsF_succ L i h, rowOf_app, rowOf_one]
noncomputable def endsL (xs : List ByteArray) (k : Nat) : List Int := (List.range k).map fun j => (endAt xs (j + 1) : Int)
theorem endsL_len (xs : List ByteArray) (k : Nat) : (endsL xs k).length = k := by simp [endsL]
theorem endsL_succ (xs : List ByteArray) (k : Nat) : endsL xs (k + 1) = endsL xs k ++ [((rowOf (xs.take (k + 1))).size : Int)] := by
  unfold endsL
  rw [List.range_succ, List.map_append]
  rfl
theorem endsL_get (xs : List ByteArray) (k i : Nat) (h : i < k) : Sym.rowAt [.int .i64] (endsL xs k) i = (endAt xs (i + 1) : Int) := by
  have hr : Sym.rowAt [.int .i64] (endsL xs k) i = (endsL xs k)[i]'(by rw [endsL_len]; exact h) := rowAt_lt (e := [.int .i64]) (L := endsL xs k) (show i < (endsL xs k).length by rw [endsL_len]; exact h)
  rw [hr]
  unfold endsL
  rw [List.getElem_map, List.getElem_range]
theorem row_small : ∀ l : List ByteArray, (∀ x ∈ l, x.size ≤ 300) → (rowOf l).size ≤ 308 * l.length
  | [], _ => Nat.le_refl _
  | x :: l, h => by
    have := row_small l fun y hy => h y (List.mem_cons_of_mem _ hy)
    have hx := h x (List.mem_cons_self ..)
    rw [rowOf_cons, bsz_app, frV_sz x (by omega), List.length_cons]
    omega
theorem row_sz (L : List ByteArray) (i : Nat) : (rowOf ((xsF L).take i)).size ≤ 3080 := by
  have := row_small ((xsF L).take i) fun x hx => xsF_small L x (List.mem_of_mem_take hx)
  have h2 : ((xsF L).take i).length ≤ 10 := by rw [List.length_take, xsF_len]; omega
  omega
section
variable (L : List ByteArray) (at' : Int)
noncomputable def rwH (i : Nat) : List (Nat × EObj) := [(0, .rows [.str] ((xsF L).take i) 9 false), (1, .rows [.int .i64] (endsL (xsF L) i) 3 false)]
noncomputable def rwC (i : Nat) : CD := ⟨90, [(0, .lst [.str] L false), (1, .int .u16 at'), (5, .str (rowOf ((xsF L).take i))), (6, .rs 0 0 i i false 1), (7, .rs 1 0 i i false 1), (8, .int .i64 (i : Int))], [], rwH L i, 2⟩
noncomputable def rwE : CD := ⟨90, [(0, .lst [.str] L false), (1, .int .u16 at'), (5, .str (rowOf (xsF L))), (6, .rs 0 0 (xsF L).length (xsF L).length false 1), (7, .rs 1 0 (xsF L).length (xsF L).length false 1)], [], [(0, .rows [.str] (xsF L) 9 false), (1, .rows [.int .i64] (endsL (xsF L) (xsF L).length) 3 false)], 2⟩
theorem rows_loop1 (hL : L.length ≤ 9223372036854775807) (N : Nat) : LpD.ok Try.prog N 0 (bodyOf Try.prog 6) ⟨7, [], rwC L at' 0, .leaf (.exit 0) (rwE L at')⟩ := by
  refine LpD.ok_one (b := bodyAt Try.prog 6 7) rfl (loop_W tabRows_ok (fuel := 3) (d := 5) (X := { i : Nat // i ≤ (xsF L).length }) (fun x => rwC L at' x.1) (fun x => (xsF L).length - x.1)
    (fun _ => .leaf (.exit 0) (rwE L at')) (fun _ => noLpW) (fun _ => noLp) (fun _ => noLp_ad) (fun _ => noLp_ok _) ?_ ⟨0, Nat.zero_le _⟩)
  rintro ⟨i, hi⟩
  dsimp only
  have hl := xsF_len L
  have hl1 : ((xsF L).take i).length = i := by rw [List.length_take]; omega
  have hl2 := endsL_len (xsF L) i
  have hr := row_sz L i
  rcases Nat.lt_or_ge i (xsF L).length with hlt | hge
  · have hc : (Sym.rowAt [.str] L (Int.toNat (i : Int))).extract 0 (min ((Sym.rowAt [.str] L (Int.toNat (i : Int))).size : Int) 300).toNat = cut3 (Sym.rowAt [.str] L i) := rfl
    have hc1 := cut3_size (Sym.rowAt [.str] L i)
    rw [← hc] at hc1
    have hr1 := row_sz L (i + 1)
    have hrs := row_succ L i hlt
    rw [hrs, bsz_app, ← hc] at hr1
    repeat' (conv => whnf
             first
              | (with_reducible exact True.intro)
              | (with_reducible rfl)
              | (with_reducible exact castL_self _ _)
              | ((with_reducible refine V.same_t ?_); exact rfl)
              | (with_reducible refine iteB_n ?_)
              | (with_reducible refine iteB_ct ?_)
              | (with_reducible refine iteB_cf ?_)
              | (with_reducible refine iteB_bt ?_)
              | (with_reducible refine iteB_bf ?_)
              | (with_reducible refine iteB_tb ?_)
              | (with_reducible refine iteB_fb ?_)
              | ((with_reducible refine andB_room ?_ ?_ ?_); (· kernel_rfl); (· (first | omega | (simp only [castL_self, seg_len, rowAt_one, rowAt_oneS, List.length_append, List.length_cons, List.length_nil, List.length_drop, List.length_take, List.length_eraseIdx, List.length_replicate, ByteArray.size_extract, bs_app, strOf_size, bytesL_len, maxI_eq] <;> omega))))
              | ((first | (with_reducible refine andB_in ?_ ?_) | (with_reducible refine andB_d ?_ ?_) | (with_reducible refine andB_lt ?_ ?_) | (with_reducible refine andB_le ?_ ?_)); · (first | (with_reducible assumption) | (first | omega | (simp only [castL_self, seg_len, rowAt_one, rowAt_oneS, List.length_append, List.length_cons, List.length_nil, List.length_drop, List.length_take, List.length_eraseIdx, List.length_replicate, ByteArray.size_extract, bs_app, strOf_size, bytesL_len, maxI_eq] <;> omega))))
              | ((first | (with_reducible refine iteB_ltt ?_ ?_) | (with_reducible refine iteB_let ?_ ?_) | (with_reducible refine iteB_dt ?_ ?_)); · (first | (with_reducible assumption) | (first | omega | (simp only [castL_self, seg_len, rowAt_one, rowAt_oneS, List.length_append, List.length_cons, List.length_nil, List.length_drop, List.length_take, List.length_eraseIdx, List.length_replicate, ByteArray.size_extract, bs_app, strOf_size, bytesL_len, maxI_eq] <;> omega))))
              | ((first | (with_reducible refine iteB_ltf ?_ ?_) | (with_reducible refine iteB_lef ?_ ?_) | (with_reducible refine iteB_df ?_ ?_)); · (first | (with_reducible assumption) | (first | omega | (simp only [castL_self, seg_len, rowAt_one, rowAt_oneS, List.length_append, List.length_cons, List.length_nil, List.length_drop, List.length_take, List.length_eraseIdx, List.length_replicate, ByteArray.size_extract, bs_app, strOf_size, bytesL_len, maxI_eq] <;> omega))))
              | ((first | (with_reducible refine andB_i ?_ ?_) | (with_reducible refine iteB_t ?_ ?_)); · (first | (with_reducible assumption) | (with_reducible exact decide_eq_true rfl) | (with_reducible exact sEq_self _) | ((with_reducible refine eqOK_i ?_); kernel_rfl)))
              | ((with_reducible refine iteB_f ?_ ?_); · (first | (with_reducible assumption) | (with_reducible exact decide_eq_true rfl) | (with_reducible exact sEq_self _) | ((with_reducible refine eqOK_i ?_); kernel_rfl)))
              | (refine ⟨⟨i + 1, hlt⟩, ?_, rfl, ?_⟩)
              | (with_reducible refine CD.wk_au ?_)
              | (with_reducible refine andB_in ?_ ?_)
              | (with_reducible refine andB_lt ?_ ?_)
              | (with_reducible refine andB_le ?_ ?_)
              | (with_reducible refine andB_d ?_ ?_)
              | (with_reducible refine andB_i ?_ ?_)
              | (with_reducible refine iteB_lts (fun hB => ?_) (fun hB => ?_))
              | (with_reducible refine iteB_les (fun hB => ?_) (fun hB => ?_))
              | (with_reducible refine iteB_ds (fun hB => ?_) (fun hB => ?_))
              | (with_reducible refine iteB_s (fun hB => ?_) (fun hB => ?_))
              | (with_reducible refine CD.wk_as ?_)
              | (with_reducible refine And.intro ?_ ?_))
    all_goals (conv => whnf)
    all_goals (try dsimp only)
    all_goals (try simp only [Nat.succ_eq_add_one, Nat.le_eq, castL_self])
    all_goals (try omega)
    all_goals (try (simp only [castL_self, seg_len, rowAt_one, rowAt_oneS, List.length_append, List.length_cons, List.length_nil, List.length_drop, List.length_take, List.length_eraseIdx, List.length_replicate, ByteArray.size_extract, bs_app, strOf_size, bytesL_len, maxI_eq] <;> omega))
    all_goals first
      | omega
      | (rw [hrs, ← hc]; done)
      | (rw [seg_all _ hl1, xsF_succ L i hlt, ← hc]; rfl)
      | (rw [seg_all _ hl2, endsL_succ, hrs, ← hc]; rfl)
      | trace_state
  · have he : i = (xsF L).length := Nat.le_antisymm hi hge
    subst he
    have hrow1 : ((xsF L).take (xsF L).length) = xsF L := List.take_length
    repeat' (conv => whnf
             first
              | (with_reducible exact True.intro)
              | (with_reducible rfl)
              | (with_reducible exact castL_self _ _)
              | ((with_reducible refine V.same_t ?_); exact rfl)
              | (with_reducible refine iteB_n ?_)
              | (with_reducible refine iteB_ct ?_)
              | (with_reducible refine iteB_cf ?_)
              | (with_reducible refine iteB_bt ?_)
              | (with_reducible refine iteB_bf ?_)
              | (with_reducible refine iteB_tb ?_)
              | (with_reducible refine iteB_fb ?_)
              | ((with_reducible refine andB_room ?_ ?_ ?_); (· kernel_rfl); (· (first | omega | (simp only [castL_self, seg_len, rowAt_one, rowAt_oneS, List.length_append, List.length_cons, List.length_nil, List.length_drop, List.length_take, List.length_eraseIdx, List.length_replicate, ByteArray.size_extract, bs_app, strOf_size, bytesL_len, maxI_eq] <;> omega))))
              | ((first | (with_reducible refine andB_in ?_ ?_) | (with_reducible refine andB_d ?_ ?_) | (with_reducible refine andB_lt ?_ ?_) | (with_reducible refine andB_le ?_ ?_)); · (first | (with_reducible assumption) | (first | omega | (simp only [castL_self, seg_len, rowAt_one, rowAt_oneS, List.length_append, List.length_cons, List.length_nil, List.length_drop, List.length_take, List.length_eraseIdx, List.length_replicate, ByteArray.size_extract, bs_app, strOf_size, bytesL_len, maxI_eq] <;> omega))))
              | ((first | (with_reducible refine iteB_ltt ?_ ?_) | (with_reducible refine iteB_let ?_ ?_) | (with_reducible refine iteB_dt ?_ ?_)); · (first | (with_reducible assumption) | (first | omega | (simp only [castL_self, seg_len, rowAt_one, rowAt_oneS, List.length_append, List.length_cons, List.length_nil, List.length_drop, List.length_take, List.length_eraseIdx, List.length_replicate, ByteArray.size_extract, bs_app, strOf_size, bytesL_len, maxI_eq] <;> omega))))
              | ((first | (with_reducible refine iteB_ltf ?_ ?_) | (with_reducible refine iteB_lef ?_ ?_) | (with_reducible refine iteB_df ?_ ?_)); · (first | (with_reducible assumption) | (first | omega | (simp only [castL_self, seg_len, rowAt_one, rowAt_oneS, List.length_append, List.length_cons, List.length_nil, List.length_drop, List.length_take, List.length_eraseIdx, List.length_replicate, ByteArray.size_extract, bs_app, strOf_size, bytesL_len, maxI_eq] <;> omega))))
              | ((first | (with_reducible refine andB_i ?_ ?_) | (with_reducible refine iteB_t ?_ ?_)); · (first | (with_reducible assumption) | (with_reducible exact decide_eq_true rfl) | (with_reducible exact sEq_self _) | ((with_reducible refine eqOK_i ?_); kernel_rfl)))
              | ((with_reducible refine iteB_f ?_ ?_); · (first | (with_reducible assumption) | (with_reducible exact decide_eq_true rfl) | (with_reducible exact sEq_self _) | ((with_reducible refine eqOK_i ?_); kernel_rfl)))
              | (with_reducible refine CD.wk_au ?_)
              | (with_reducible refine andB_in ?_ ?_)
              | (with_reducible refine andB_lt ?_ ?_)
              | (with_reducible refine andB_le ?_ ?_)
              | (with_reducible refine andB_d ?_ ?_)
              | (with_reducible refine andB_i ?_ ?_)
              | (with_reducible refine iteB_lts (fun hB => ?_) (fun hB => ?_))
              | (with_reducible refine iteB_les (fun hB => ?_) (fun hB => ?_))
              | (with_reducible refine iteB_ds (fun hB => ?_) (fun hB => ?_))
              | (with_reducible refine iteB_s (fun hB => ?_) (fun hB => ?_))
              | (with_reducible refine CD.wk_as ?_)
              | (with_reducible refine And.intro ?_ ?_))
    all_goals (conv => whnf)
    all_goals (try dsimp only)
    all_goals (try simp only [Nat.succ_eq_add_one, Nat.le_eq, castL_self])
    all_goals (try omega)
    all_goals (try (simp only [castL_self, seg_len, rowAt_one, rowAt_oneS, List.length_append, List.length_cons, List.length_nil, List.length_drop, List.length_take, List.length_eraseIdx, List.length_replicate, ByteArray.size_extract, bs_app, strOf_size, bytesL_len, maxI_eq] <;> omega))
    all_goals first
      | exact hrow1
      | exact congrArg rowOf hrow1
      | trace_state
/-- how many frames stand ahead of a place -/
noncomputable def whF : Nat → Nat := hide fun K => (List.range (xsF L).length).findIdx fun j => !decide (endAt (xsF L) (j + 1) ≤ K)
theorem whF_eq (K : Nat) : whF L K = (List.range (xsF L).length).findIdx fun j => !decide (endAt (xsF L) (j + 1) ≤ K) := by rw [whF, hide_eq]
theorem whF_le (K : Nat) : whF L K ≤ (xsF L).length := by
  rw [whF_eq]
  have := List.findIdx_le_length (xs := List.range (xsF L).length) (p := fun j => !decide (endAt (xsF L) (j + 1) ≤ K))
  rwa [List.length_range] at this
theorem whF_lt (K i : Nat) (h : i < whF L K) : endAt (xsF L) (i + 1) ≤ K := by
  have hl := whF_le L K
  rw [whF_eq] at h
  have := List.not_of_lt_findIdx h
  simpa using this
theorem whF_at (K : Nat) (h : whF L K < (xsF L).length) : K < endAt (xsF L) (whF L K + 1) := by
  have e := whF_eq L K
  have h' : (List.range (xsF L).length).findIdx (fun j => !decide (endAt (xsF L) (j + 1) ≤ K)) < (List.range (xsF L).length).length := by rw [List.length_range, ← e]; exact h
  have := List.findIdx_getElem (w := h')
  rw [List.getElem_range] at this
  have h2 : ¬ endAt (xsF L) ((List.range (xsF L).length).findIdx (fun j => !decide (endAt (xsF L) (j + 1) ≤ K)) + 1) ≤ K := by
    intro h3
    rw [decide_eq_true h3] at this
    cases this
  rw [← e] at h2
  omega
theorem endAt_0 (xs : List ByteArray) : endAt xs 0 = 0 := rfl
noncomputable def rvC (K i : Nat) : CD := ⟨90, [(5, .str (rowOf (xsF L))), (6, .rs 0 0 (xsF L).length (xsF L).length false 1), (7, .rs 1 0 (xsF L).length (xsF L).length false 1), (10, .int .i64 (K : Int)), (11, .int .i64 (i : Int)), (12, .int .i64 ((endAt (xsF L) i : Nat) : Int)), (13, .int .i64 (i : Int))], [], [(0, .rows [.str] (xsF L) 9 false), (1, .rows [.int .i64] (endsL (xsF L) (xsF L).length) 3 false)], 2⟩
theorem rows_loop2 (K N : Nat) : LpD.ok Try.prog N 0 (bodyOf Try.prog 6) ⟨18, [(0, 0), (1, 1)], rvC L K 0, .leaf (.exit 2) (rvC L K (whF L K))⟩ := by
  refine LpD.ok_one (b := bodyAt Try.prog 6 18) rfl (loop_W tabRows_ok (fuel := 3) (d := 5) (X := { i : Nat // i ≤ whF L K }) (fun x => rvC L K x.1) (fun x => whF L K - x.1)
    (fun _ => .leaf (.exit 2) (rvC L K (whF L K))) (fun _ => noLpW) (fun _ => noLp) (fun _ => noLp_ad) (fun _ => noLp_ok _) ?_ ⟨0, Nat.zero_le _⟩)
  rintro ⟨i, hi⟩
  dsimp only
  have hl := xsF_len L
  have hle := whF_le L K
  have hl2 := endsL_len (xsF L) (xsF L).length
  have hg : i < (xsF L).length → @Eq Int (Sym.rowAt [.int .i64] (endsL (xsF L) (xsF L).length) (0 + Int.toNat (i : Int))) (endAt (xsF L) (i + 1) : Int) := fun h => by
    rw [Nat.zero_add]; exact endsL_get _ _ i h
  rcases Nat.lt_or_ge i (whF L K) with hlt | hge
  · have h1 := whF_lt L K i hlt
    have h2 := hg (by omega)
    repeat' (conv => whnf
             first
              | (with_reducible exact True.intro)
              | (with_reducible rfl)
              | (with_reducible exact castL_self _ _)
              | ((with_reducible refine V.same_t ?_); exact rfl)
              | (with_reducible refine iteB_n ?_)
              | (with_reducible refine iteB_ct ?_)
              | (with_reducible refine iteB_cf ?_)
              | (with_reducible refine iteB_bt ?_)
              | (with_reducible refine iteB_bf ?_)
              | (with_reducible refine iteB_tb ?_)
              | (with_reducible refine iteB_fb ?_)
              | ((with_reducible refine andB_room ?_ ?_ ?_); (· kernel_rfl); (· (first | omega | (simp only [castL_self, seg_len, rowAt_one, rowAt_oneS, List.length_append, List.length_cons, List.length_nil, List.length_drop, List.length_take, List.length_eraseIdx, List.length_replicate, ByteArray.size_extract, bs_app, strOf_size, bytesL_len, maxI_eq] <;> omega))))
              | ((first | (with_reducible refine andB_in ?_ ?_) | (with_reducible refine andB_d ?_ ?_) | (with_reducible refine andB_lt ?_ ?_) | (with_reducible refine andB_le ?_ ?_)); · (first | (with_reducible assumption) | (first | omega | (simp only [castL_self, seg_len, rowAt_one, rowAt_oneS, List.length_append, List.length_cons, List.length_nil, List.length_drop, List.length_take, List.length_eraseIdx, List.length_replicate, ByteArray.size_extract, bs_app, strOf_size, bytesL_len, maxI_eq] <;> omega))))
              | ((first | (with_reducible refine iteB_ltt ?_ ?_) | (with_reducible refine iteB_let ?_ ?_) | (with_reducible refine iteB_dt ?_ ?_)); · (first | (with_reducible assumption) | (first | omega | (simp only [castL_self, seg_len, rowAt_one, rowAt_oneS, List.length_append, List.length_cons, List.length_nil, List.length_drop, List.length_take, List.length_eraseIdx, List.length_replicate, ByteArray.size_extract, bs_app, strOf_size, bytesL_len, maxI_eq] <;> omega))))
              | ((first | (with_reducible refine iteB_ltf ?_ ?_) | (with_reducible refine iteB_lef ?_ ?_) | (with_reducible refine iteB_df ?_ ?_)); · (first | (with_reducible assumption) | (first | omega | (simp only [castL_self, seg_len, rowAt_one, rowAt_oneS, List.length_append, List.length_cons, List.length_nil, List.length_drop, List.length_take, List.length_eraseIdx, List.length_replicate, ByteArray.size_extract, bs_app, strOf_size, bytesL_len, maxI_eq] <;> omega))))
              | ((first | (with_reducible refine andB_i ?_ ?_) | (with_reducible refine iteB_t ?_ ?_)); · (first | (with_reducible assumption) | (with_reducible exact decide_eq_true rfl) | (with_reducible exact sEq_self _) | ((with_reducible refine eqOK_i ?_); kernel_rfl)))
              | ((with_reducible refine iteB_f ?_ ?_); · (first | (with_reducible assumption) | (with_reducible exact decide_eq_true rfl) | (with_reducible exact sEq_self _) | ((with_reducible refine eqOK_i ?_); kernel_rfl)))
              | (refine ⟨⟨i + 1, hlt⟩, ?_, rfl, ?_⟩)
              | (with_reducible refine CD.wk_au ?_)
              | (with_reducible refine andB_in ?_ ?_)
              | (with_reducible refine andB_lt ?_ ?_)
              | (with_reducible refine andB_le ?_ ?_)
              | (with_reducible refine andB_d ?_ ?_)
              | (with_reducible refine andB_i ?_ ?_)
              | (with_reducible refine iteB_lts (fun hB => ?_) (fun hB => ?_))
              | (with_reducible refine iteB_les (fun hB => ?_) (fun hB => ?_))
              | (with_reducible refine iteB_ds (fun hB => ?_) (fun hB => ?_))
              | (with_reducible refine iteB_s (fun hB => ?_) (fun hB => ?_))
              | (with_reducible refine CD.wk_as ?_)
              | (with_reducible refine And.intro ?_ ?_))
    all_goals (conv => whnf)
    all_goals (try dsimp only)
    all_goals (try simp only [Nat.succ_eq_add_one, Nat.le_eq, castL_self])
    all_goals (try omega)
    all_goals (try (simp only [castL_self, seg_len, rowAt_one, rowAt_oneS, List.length_append, List.length_cons, List.length_nil, List.length_drop, List.length_take, List.length_eraseIdx, List.length_replicate, ByteArray.size_extract, bs_app, strOf_size, bytesL_len, maxI_eq] <;> omega))
    all_goals first
      | omega
      | trace_state
  · have he : i = whF L K := Nat.le_antisymm hi hge
    subst he
    have h3 : whF L K < (xsF L).length → @LT.lt Int _ (K : Int) (Sym.rowAt [.int .i64] (endsL (xsF L) (xsF L).length) (0 + Int.toNat ((whF L K : Nat) : Int))) := fun h => by
      have h1 := whF_at L K h
      rw [hg h]; omega
    repeat' (conv => whnf
             first
              | (with_reducible exact True.intro)
              | (with_reducible rfl)
              | (with_reducible exact castL_self _ _)
              | ((with_reducible refine V.same_t ?_); exact rfl)
              | (with_reducible refine iteB_n ?_)
              | (with_reducible refine iteB_ct ?_)
              | (with_reducible refine iteB_cf ?_)
              | (with_reducible refine iteB_bt ?_)
              | (with_reducible refine iteB_bf ?_)
              | (with_reducible refine iteB_tb ?_)
              | (with_reducible refine iteB_fb ?_)
              | ((with_reducible refine andB_room ?_ ?_ ?_); (· kernel_rfl); (· (first | omega | (simp only [castL_self, seg_len, rowAt_one, rowAt_oneS, List.length_append, List.length_cons, List.length_nil, List.length_drop, List.length_take, List.length_eraseIdx, List.length_replicate, ByteArray.size_extract, bs_app, strOf_size, bytesL_len, maxI_eq] <;> omega))))
              | ((first | (with_reducible refine andB_in ?_ ?_) | (with_reducible refine andB_d ?_ ?_) | (with_reducible refine andB_lt ?_ ?_) | (with_reducible refine andB_le ?_ ?_)); · (first | (with_reducible assumption) | (first | omega | (simp only [castL_self, seg_len, rowAt_one, rowAt_oneS, List.length_append, List.length_cons, List.length_nil, List.length_drop, List.length_take, List.length_eraseIdx, List.length_replicate, ByteArray.size_extract, bs_app, strOf_size, bytesL_len, maxI_eq] <;> omega))))
              | ((first | (with_reducible refine iteB_ltt ?_ ?_) | (with_reducible refine iteB_let ?_ ?_) | (with_reducible refine iteB_dt ?_ ?_)); · (first | (with_reducible assumption) | (first | omega | (simp only [castL_self, seg_len, rowAt_one, rowAt_oneS, List.length_append, List.length_cons, List.length_nil, List.length_drop, List.length_take, List.length_eraseIdx, List.length_replicate, ByteArray.size_extract, bs_app, strOf_size, bytesL_len, maxI_eq] <;> omega))))
              | ((first | (with_reducible refine iteB_ltf ?_ ?_) | (with_reducible refine iteB_lef ?_ ?_) | (with_reducible refine iteB_df ?_ ?_)); · (first | (with_reducible assumption) | (first | omega | (simp only [castL_self, seg_len, rowAt_one, rowAt_oneS, List.length_append, List.length_cons, List.length_nil, List.length_drop, List.length_take, List.length_eraseIdx, List.length_replicate, ByteArray.size_extract, bs_app, strOf_size, bytesL_len, maxI_eq] <;> omega))))
              | ((first | (with_reducible refine andB_i ?_ ?_) | (with_reducible refine iteB_t ?_ ?_)); · (first | (with_reducible assumption) | (with_reducible exact decide_eq_true rfl) | (with_reducible exact sEq_self _) | ((with_reducible refine eqOK_i ?_); kernel_rfl)))
              | ((with_reducible refine iteB_f ?_ ?_); · (first | (with_reducible assumption) | (with_reducible exact decide_eq_true rfl) | (with_reducible exact sEq_self _) | ((with_reducible refine eqOK_i ?_); kernel_rfl)))
              | (with_reducible refine CD.wk_au ?_)
              | (with_reducible refine andB_in ?_ ?_)
              | (with_reducible refine andB_lt ?_ ?_)
              | (with_reducible refine andB_le ?_ ?_)
              | (with_reducible refine andB_d ?_ ?_)
              | (with_reducible refine andB_i ?_ ?_)
              | (with_reducible refine iteB_lts (fun hB => ?_) (fun hB => ?_))
              | (with_reducible refine iteB_les (fun hB => ?_) (fun hB => ?_))
              | (with_reducible refine iteB_ds (fun hB => ?_) (fun hB => ?_))
              | (with_reducible refine iteB_s (fun hB => ?_) (fun hB => ?_))
              | (with_reducible refine CD.wk_as ?_)
              | (with_reducible refine And.intro ?_ ?_))
    all_goals (conv => whnf)
    all_goals (try dsimp only)
    all_goals (try simp only [Nat.succ_eq_add_one, Nat.le_eq, castL_self])
    all_goals (try omega)
    all_goals (try (simp only [castL_self, seg_len, rowAt_one, rowAt_oneS, List.length_append, List.length_cons, List.length_nil, List.length_drop, List.length_take, List.length_eraseIdx, List.length_replicate, ByteArray.size_extract, bs_app, strOf_size, bytesL_len, maxI_eq] <;> omega))
    all_goals trace_state
theorem frameRows_at (hL : L.length ≤ 9223372036854775807) (hat : 0 ≤ at' ∧ at' < 65536) : PureAt Try.prog 6 [.lst [.str] L false, .int .u16 at'] (.bool true) := by
  have hrow : (rowOf ((xsF L).take (xsF L).length)) = rowOf (xsF L) := by rw [List.take_length]
  have hrow1 : ((xsF L).take (xsF L).length) = xsF L := List.take_length
  have hsz := row_sz L (xsF L).length
  rw [hrow] at hsz
  have hl := xsF_len L
  have hl2 := endsL_len (xsF L) (xsF L).length
  have hsm : ∀ x ∈ xsF L, x.size ≤ 65535 := fun x hx => Nat.le_trans (xsF_small L x hx) (by decide)
  obtain ⟨s1, s2⟩ := sc_row (xsF L) hsm
  obtain ⟨q, rfl⟩ := Int.eq_ofNat_of_zero_le hat.1
  have hK : q % ((rowOf (xsF L)).size + 1) ≤ (rowOf (xsF L)).size := by have := Nat.mod_lt q (show 0 < (rowOf (xsF L)).size + 1 by omega); omega
  generalize hKd : q % ((rowOf (xsF L)).size + 1) = K at hK
  obtain ⟨c1, c2⟩ := sc_rowcut (xsF L) hsm K (whF L K) hK (whF_le L K) (by
    rcases Nat.eq_zero_or_pos (whF L K) with h | h
    · rw [h, endAt_0]; exact Nat.zero_le _
    · have := whF_lt L K (whF L K - 1) (by omega)
      rwa [show whF L K - 1 + 1 = whF L K by omega] at this) (whF_at L K)
  refine pure_of_loops tabRows_ok (fuel := 3) (d := 6) [⟨7, [], rwC L (q : Int) 0, .leaf (.exit 0) (rwE L (q : Int))⟩, ⟨18, [(0, 0), (1, 1)], rvC L K 0, .leaf (.exit 2) (rvC L K (whF L K))⟩] ?_ ?_
  · intro N l hl
    rcases List.mem_cons.1 hl with rfl | hl
    · exact rows_loop1 L _ hL N
    · rw [List.mem_singleton.1 hl]
      exact rows_loop2 L K N
  · have hle := whF_le L K
    have hz2 : ((rowOf (xsF L)).extract 0 (Int.toNat (K : Int))).size ≤ 100000 := by rw [ByteArray.size_extract]; omega
    have hq : @Eq Int ((q : Int) % (((rowOf (xsF L)).size : Int) + 1)) (K : Int) := by rw [← hKd]; exact (Int.natCast_emod q ((rowOf (xsF L)).size + 1)).symm
    repeat' (conv => whnf
             first
              | (with_reducible exact True.intro)
              | (with_reducible rfl)
              | (with_reducible exact castL_self _ _)
              | ((with_reducible refine V.same_t ?_); exact rfl)
              | (with_reducible refine iteB_n ?_)
              | (with_reducible refine iteB_ct ?_)
              | (with_reducible refine iteB_cf ?_)
              | (with_reducible refine iteB_bt ?_)
              | (with_reducible refine iteB_bf ?_)
              | (with_reducible refine iteB_tb ?_)
              | (with_reducible refine iteB_fb ?_)
              | ((with_reducible refine andB_room ?_ ?_ ?_); (· kernel_rfl); (· (first | omega | (simp only [castL_self, seg_len, rowAt_one, rowAt_oneS, List.length_append, List.length_cons, List.length_nil, List.length_drop, List.length_take, List.length_eraseIdx, List.length_replicate, ByteArray.size_extract, bs_app, strOf_size, bytesL_len, maxI_eq] <;> omega))))
              | ((first | (with_reducible refine andB_in ?_ ?_) | (with_reducible refine andB_d ?_ ?_) | (with_reducible refine andB_lt ?_ ?_) | (with_reducible refine andB_le ?_ ?_)); · (first | (with_reducible assumption) | (first | omega | (simp only [castL_self, seg_len, rowAt_one, rowAt_oneS, List.length_append, List.length_cons, List.length_nil, List.length_drop, List.length_take, List.length_eraseIdx, List.length_replicate, ByteArray.size_extract, bs_app, strOf_size, bytesL_len, maxI_eq] <;> omega))))
              | ((first | (with_reducible refine iteB_ltt ?_ ?_) | (with_reducible refine iteB_let ?_ ?_) | (with_reducible refine iteB_dt ?_ ?_)); · (first | (with_reducible assumption) | (first | omega | (simp only [castL_self, seg_len, rowAt_one, rowAt_oneS, List.length_append, List.length_cons, List.length_nil, List.length_drop, List.length_take, List.length_eraseIdx, List.length_replicate, ByteArray.size_extract, bs_app, strOf_size, bytesL_len, maxI_eq] <;> omega))))
              | ((first | (with_reducible refine iteB_ltf ?_ ?_) | (with_reducible refine iteB_lef ?_ ?_) | (with_reducible refine iteB_df ?_ ?_)); · (first | (with_reducible assumption) | (first | omega | (simp only [castL_self, seg_len, rowAt_one, rowAt_oneS, List.length_append, List.length_cons, List.length_nil, List.length_drop, List.length_take, List.length_eraseIdx, List.length_replicate, ByteArray.size_extract, bs_app, strOf_size, bytesL_len, maxI_eq] <;> omega))))
              | ((first | (with_reducible refine andB_i ?_ ?_) | (with_reducible refine iteB_t ?_ ?_)); · (first | (with_reducible assumption) | (with_reducible exact decide_eq_true rfl) | (with_reducible exact sEq_self _) | ((with_reducible refine eqOK_i ?_); kernel_rfl)))
              | ((with_reducible refine iteB_f ?_ ?_); · (first | (with_reducible assumption) | (with_reducible exact decide_eq_true rfl) | (with_reducible exact sEq_self _) | ((with_reducible refine eqOK_i ?_); kernel_rfl)))
              | (with_reducible refine andB_in ?_ ?_)
              | (with_reducible refine andB_lt ?_ ?_)
              | (with_reducible refine andB_le ?_ ?_)
              | (with_reducible refine andB_d ?_ ?_)
              | (with_reducible refine andB_i ?_ ?_)
              | (with_reducible refine iteB_lts (fun hB => ?_) (fun hB => ?_))
              | (with_reducible refine iteB_les (fun hB => ?_) (fun hB => ?_))
              | (with_reducible refine iteB_ds (fun hB => ?_) (fun hB => ?_))
              | (with_reducible refine iteB_s (fun hB => ?_) (fun hB => ?_))
              | (with_reducible refine CD.wk_as ?_)
              | (with_reducible refine And.intro ?_ ?_))
    all_goals (conv => whnf)
    all_goals (try dsimp only)
    all_goals (try simp only [Nat.succ_eq_add_one, Nat.le_eq, castL_self])
    all_goals (try omega)
    all_goals (try (simp only [castL_self, seg_len, rowAt_one, rowAt_oneS, List.length_append, List.length_cons, List.length_nil, List.length_drop, List.length_take, List.length_eraseIdx, List.length_replicate, ByteArray.size_extract, bs_app, strOf_size, bytesL_len, maxI_eq] <;> omega))
    all_goals first
      | (with_reducible rfl)
      | (rw [List.take_zero]; rfl)
      | exact congrArg Nat.cast s2.symm
      | (rw [seg_all _ rfl, s1]; exact eqL_self _)
      | exact congrArg Nat.cast c2.symm
      | exact (congrArg Nat.cast (endAt_0 (xsF L))).symm
      | (show eqL (seg (xsF L) 0 (whF L K)) (scL ((rowOf (xsF L)).extract 0 K)) = true
         rw [c1]
         unfold seg
         rw [Nat.zero_add, List.drop_zero]
         exact eqL_self _)
      | trace_state
end
end Go.Proofs.Ytjjebdfjmbnhpaa
end

section
namespace Go.Sym
open Go.ChangeShapes Go.WideShapes

def kLo : IntKind → Int
  | .i8 => -128
  | .i16 => -32768
  | .i32 => -2147483648
  | .i64 => -9223372036854775808
  | _ => 0
def kHi : IntKind → Int
  | .i8 => 128
  | .i16 => 32768
  | .i32 => 2147483648
  | .i64 => 9223372036854775808
  | .u8 => 256
  | .u16 => 65536
  | .u32 => 4294967296
  | .u64 => 18446744073709551616
mutual
/-- in its kind's bounds -/
def wfT : (t : Ty) → t.den → Prop
  | .int k, n => (fun n : Int => kLo k ≤ n ∧ n < kHi k) n
  | .bool, _ => True
  | .str, s => ByteArray.size s ≤ 9223372036854775807
  | .lst e, L => List.length (α := rowDen e) L ≤ 9223372036854775807 ∧ ∀ i, i < List.length (α := rowDen e) L → wfR e (rowAt e L i)
def wfR : (e : List Ty) → rowDen e → Prop
  | [], _ => True
  | [t], x => wfT t x
  | t :: u :: ts, x => wfT t x.1 ∧ wfR (u :: ts) x.2
end
/-- so many times one behind the other -/
def repT (r : List Ty) : Nat → List Ty
  | 0 => []
  | n + 1 => r ++ repT r n
noncomputable section
variable (P : Program)
def layF (f : TypeId → Option (List Ty)) : Nat → List Field → Option (List Ty)
  | _, [] => some []
  | off, fd :: l => match f fd.type with
    | some a => bif Nat.beq fd.offset off && Nat.beq (P.cellsOf fd.type) a.length then (match layF f (off + a.length) l with
      | some b => some (a ++ b)
      | none => none) else none
    | none => none
/-- the plain types of a type's cells, laid one behind the other -/
def layE : Nat → TypeId → Option (List Ty)
  | 0, _ => none
  | n + 1, t => match P.underlying t with
    | some (.int k) => some [.int k]
    | some .bool => some [.bool]
    | some .string => some [.str]
    | some (.slice e) => match layE n e with
      | some r => bif Nat.beq (P.cellsOf e) r.length && Nat.blt 0 r.length then some [.lst r] else none
      | none => none
    | some (.struct fs) => match layF P (layE n) 0 fs.toList with
      | some e => bif Nat.beq (P.cellsOf t) e.length then some e else none
      | none => none
    | some (.array m el) => match layE n el with
      | some r => bif Nat.beq (P.cellsOf el) r.length && Nat.beq (P.cellsOf t) (repT r m).length then some (repT r m) else none
      | none => none
    | _ => none
end

theorem addr_addN (b o j : Nat) : (⟨b, o, none⟩ : Addr).add j = ⟨b, o + j, none⟩ := by
  unfold Addr.add
  split
  · rename_i h; subst h; rfl
  · rfl
theorem wfR_nil (x : rowDen []) : wfR [] x := by rw [wfR]; trivial
theorem wfR_one {t : Ty} (x : rowDen [t]) (h : wfT t x) : wfR [t] x := by rw [wfR]; exact h
theorem wfR_cons {t u : Ty} {ts : List Ty} (x : rowDen (t :: u :: ts)) (h1 : wfT t x.1) (h2 : wfR (u :: ts) x.2) : wfR (t :: u :: ts) x := by rw [wfR]; exact ⟨h1, h2⟩
theorem of_wfR_one {t : Ty} (x : rowDen [t]) (h : wfR [t] x) : wfT t x := by rw [wfR] at h; exact h
theorem of_CRel_one {φ : Nat → Nat → Option Value} {t : Ty} (x : rowDen [t]) {C : Nat → Option Value} (h : CRel φ [t] x C) : ∃ X, C 0 = some X ∧ TRel φ t x X := by rw [CRel] at h; exact h
theorem wfT_int {k : IntKind} {n : (Ty.int k).den} (h : (fun n : Int => kLo k ≤ n ∧ n < kHi k) n) : wfT (.int k) n := by rw [wfT]; exact h
theorem wfT_bool (b : Ty.bool.den) : wfT .bool b := by rw [wfT]; trivial
theorem wfT_str {s : Ty.str.den} (h : ByteArray.size s ≤ 9223372036854775807) : wfT .str s := by rw [wfT]; exact h
theorem wfT_lst {e : List Ty} (L : (Ty.lst e).den) (h : List.length (α := rowDen e) L ≤ 9223372036854775807) (h2 : ∀ i, i < List.length (α := rowDen e) L → wfR e (rowAt e L i)) : wfT (.lst e) L := by rw [wfT]; exact ⟨h, h2⟩
theorem crel_app {φ : Nat → Nat → Option Value} : ∀ (e1 e2 : List Ty) (C : Nat → Option Value), (∃ x, wfR e1 x ∧ CRel φ e1 x C) → (∃ x, wfR e2 x ∧ CRel φ e2 x (fun j => C (e1.length + j))) → ∃ x, wfR (e1 ++ e2) x ∧ CRel φ (e1 ++ e2) x C
  | [], e2, C, _, h2 => by
    obtain ⟨x, h3, h4⟩ := h2
    refine ⟨x, h3, ?_⟩
    have : (fun j => C (([] : List Ty).length + j)) = C := by funext j; rw [List.length_nil, Nat.zero_add]
    rw [this] at h4
    exact h4
  | [t], [], C, h1, _ => h1
  | [t], u :: us, C, ⟨x, h3, h4⟩, ⟨y, h5, h6⟩ => by
    have : (fun j => C ([t].length + j)) = fun j => C (j + 1) := by funext j; rw [List.length_singleton, Nat.add_comm]
    rw [this] at h6
    exact ⟨(x, y), wfR_cons (t := t) (u := u) (ts := us) (x, y) (of_wfR_one x h3) h5, CRel_cons (t := t) (u := u) (ts := us) (x, y) (of_CRel_one x h4) h6⟩
  | t :: u :: us, e2, C, ⟨x, h3, h4⟩, h2 => by
    rw [wfR] at h3
    rw [CRel] at h4
    obtain ⟨y, h5, h6⟩ := crel_app (u :: us) e2 (fun j => C (j + 1)) ⟨x.2, h3.2, h4.2⟩ (by
      obtain ⟨z, h7, h8⟩ := h2
      refine ⟨z, h7, ?_⟩
      have : (fun j => C ((t :: u :: us).length + j)) = fun j => C ((u :: us).length + j + 1) := by funext j; congr 1; simp only [List.length_cons]; omega
      rw [this] at h8
      exact h8)
    exact ⟨(x.1, y), wfR_cons (t := t) (u := u) (ts := us ++ e2) (x.1, y) h3.1 h5, CRel_cons (t := t) (u := u) (ts := us ++ e2) (x.1, y) h4.1 h6⟩

section
variable {H : Type} {enc : TypeId × Value → H} {P : Program} {w : World} {base : Nat} {spare : Nat → Bool} {held : Bool}
abbrev φW (w : World) : Nat → Nat → Option Value := fun B k => w.cell? ⟨B, k, none⟩
/-- a type's cells, opened -/
def LayOK (enc : TypeId × Value → H) (P : Program) (w : World) (base : Nat) (spare : Nat → Bool) (held : Bool) (f : TypeId → Option (List Ty)) : Prop :=
  ∀ t e, f t = some e → ∀ fuel cs x, DataW.trod enc P w base spare held fuel t cs = some x → cs.length = e.length ∧ ∃ r, wfR e r ∧ CRel (φW w) e r (fun j => cs[j]?)
theorem layF_ok {f : TypeId → Option (List Ty)} (hf : LayOK enc P w base spare held f) {n : Nat} {cs : List Value} : ∀ (l : List Field) (off : Nat) (e : List Ty), layF P f off l = some e → off + e.length ≤ cs.length →
    (∀ (i : Nat) (fd : Field), l[i]? = some fd → ∃ y, DataW.trod enc P w base spare held n fd.type ((cs.drop fd.offset).take (P.cellsOf fd.type)) = some y) →
    ∃ r, wfR e r ∧ CRel (φW w) e r (fun j => cs[off + j]?)
  | [], off, e, h, _, _ => by
    cases h
    exact ⟨(), wfR_nil (), CRel_nil () _⟩
  | fd :: l, off, e, h, hle, ht => by
    rw [layF] at h
    split at h
    · rename_i a ha
      cases hb : (Nat.beq fd.offset off && Nat.beq (P.cellsOf fd.type) a.length) with
      | false => rw [hb] at h; cases h
      | true =>
        rw [hb, cond_true] at h
        rw [Bool.and_eq_true, Nat.beq_eq, Nat.beq_eq] at hb
        split at h
        · rename_i b hbb
          cases h
          rw [List.length_append] at hle
          obtain ⟨y, hy⟩ := ht 0 fd rfl
          obtain ⟨h1, r, h2, h3⟩ := hf _ _ ha _ _ _ hy
          refine crel_app a b _ ⟨r, h2, ?_⟩ ?_
          · refine CRel.mono (fun _ _ _ h => h) a r (fun j v hj => ?_) h3
            rw [List.getElem?_take] at hj
            split at hj
            · rw [List.getElem?_drop, hb.1] at hj; exact hj
            · cases hj
          · obtain ⟨r', h4, h5⟩ := layF_ok hf l (off + a.length) b hbb (by omega) fun i fd' hi => ht (i + 1) fd' (by simpa using hi)
            exact ⟨r', h4, CRel.mono (fun _ _ _ h => h) b r' (fun j v hj => by rw [← Nat.add_assoc]; exact hj) h5⟩
        · cases h
    · cases h
theorem layA_ok {f : TypeId → Option (List Ty)} (hf : LayOK enc P w base spare held f) {m : Nat} {cs : List Value} {el : TypeId} {r : List Ty} (hr : f el = some r) (hb : P.cellsOf el = r.length) : ∀ (n off : Nat), off + (repT r n).length ≤ cs.length →
    (∀ i, i < n → ∃ y, DataW.trod enc P w base spare held m el ((cs.drop (off + i * r.length)).take r.length) = some y) →
    ∃ x, wfR (repT r n) x ∧ CRel (φW w) (repT r n) x (fun j => cs[off + j]?)
  | 0, off, _, _ => ⟨(), wfR_nil (), CRel_nil () _⟩
  | n + 1, off, hle, ht => by
    have hle' : off + (r.length + (repT r n).length) ≤ cs.length := by rw [repT, List.length_append] at hle; exact hle
    obtain ⟨y, hy⟩ := ht 0 (Nat.zero_lt_succ _)
    rw [Nat.zero_mul, Nat.add_zero] at hy
    obtain ⟨h1, x, h2, h3⟩ := hf _ _ hr _ _ _ hy
    refine crel_app r (repT r n) _ ⟨x, h2, ?_⟩ ?_
    · refine CRel.mono (fun _ _ _ h => h) r x (fun j v hj => ?_) h3
      rw [List.getElem?_take] at hj
      split at hj
      · rw [List.getElem?_drop] at hj; exact hj
      · cases hj
    · obtain ⟨x', h4, h5⟩ := layA_ok (cs := cs) (m := m) hf hr hb n (off + r.length) (by rw [Nat.add_assoc]; exact hle') fun i hi => by
        obtain ⟨y, hy⟩ := ht (i + 1) (by omega)
        rw [Nat.succ_mul, Nat.add_comm (i * r.length), ← Nat.add_assoc] at hy
        exact ⟨y, hy⟩
      exact ⟨x', h4, CRel.mono (fun _ _ _ h => h) _ x' (fun j v hj => by rw [← Nat.add_assoc]; exact hj) h5⟩
theorem lay_ok : ∀ n : Nat, LayOK enc P w base spare held (layE P n)
  | 0 => fun t e h => by cases h
  | n + 1 => fun t e h fuel cs x hx => by
    have ih := lay_ok n
    rw [layE] at h
    split at h
    · rename_i k hu
      cases h
      obtain ⟨q, rfl, _, hw⟩ := DataW.trod_int hu hx
      refine ⟨rfl, q, wfR_one (t := .int k) q (wfT_int ?_), CRel_one (t := .int k) q rfl (TRel_int k q)⟩
      cases k <;> simp [Lit.wf, IntKind.min, IntKind.max, IntKind.signed, IntKind.bits, kLo, kHi] at hw ⊢ <;> omega
    · rename_i hu
      cases h
      obtain ⟨q, rfl, _⟩ := DataW.trod_bool hu hx
      exact ⟨rfl, q, wfR_one (t := .bool) q (wfT_bool q), CRel_one (t := .bool) q rfl (TRel_bool q)⟩
    · rename_i hu
      cases h
      obtain ⟨q, rfl, _, hw⟩ := DataW.trod_string hu hx
      unfold maxLen at hw
      exact ⟨rfl, q, wfR_one (t := .str) q (wfT_str (by omega)), CRel_one (t := .str) q rfl (TRel_str q)⟩
    · rename_i el hu
      split at h
      · rename_i r hr
        cases hb : (Nat.beq (P.cellsOf el) r.length && Nat.blt 0 r.length) with
        | false => rw [hb] at h; cases h
        | true =>
          rw [hb, cond_true] at h
          rw [Bool.and_eq_true, Nat.beq_eq, blt_iff, decide_eq_true_eq] at hb
          obtain ⟨hb, hz⟩ := hb
          cases h
          rcases Go.Deep.open_slice hu hx with ⟨rfl, _⟩ | ⟨a, len, cap, m, n', D, Pl, rfl, _, hl, hm, hmm, rfl, hc⟩
          · exact ⟨rfl, ([] : List (rowDen r)), wfR_one (t := .lst r) ([] : List (rowDen r)) (wfT_lst (e := r) ([] : List (rowDen r)) (Nat.zero_le _) fun i hi => absurd hi (Nat.not_lt_zero _)),
              CRel_one (t := .lst r) ([] : List (rowDen r)) rfl (TRel_lstU (e := r) ([] : List (rowDen r)) (Nat.le_refl _) (fun _ => rfl) fun h => absurd h (Nat.lt_irrefl _))⟩
          · have hlm : len ≤ m := by subst hmm; split <;> omega
            have hr1 : ∀ i, i < len → ∃ y, wfR r y ∧ CRel (φW w) r y (fun j => w.cell? (a.add (i * r.length + j))) ∧ (i = 0 → a.spot = none) := by
              intro i hi
              obtain ⟨cs', h1, h2⟩ := hc i (by omega)
              obtain ⟨h3, y, h4, h5⟩ := ih _ _ hr _ _ _ h2
              obtain ⟨_, h6, h7⟩ := World.cells?_some h1
              refine ⟨y, h4, CRel.mono (fun _ _ _ h => h) r y (fun j v hj => ?_) h5, fun h0 => ?_⟩
              · have hlt : j < cs'.length := (List.getElem?_eq_some_iff.1 hj).1
                have := h7 j (by omega)
                rw [hb, Go.Deep.add_add] at this
                rw [this]; exact hj
              · subst h0
                have := h7 0 (by omega)
                rw [List.getElem?_eq_getElem (by omega), Nat.zero_mul] at this
                exact World.cell?_spot this
            have : Inhabited (rowDen r) := ⟨rowDflt r⟩
            obtain ⟨g, hg⟩ := Go.Deep.choose_lt hr1
            have hat : ∀ i, i < len → rowAt r ((List.range len).map g) i = g i := fun i hi => by
              unfold rowAt
              simp [List.getD_eq_getElem?_getD, hi]
            have hlen : ((List.range len).map g).length = len := by simp
            refine ⟨rfl, (List.range len).map g, wfR_one (t := .lst r) _ (wfT_lst _ ?_ fun i hi => ?_), CRel_one (t := .lst r) _ (X := .slice (some a) len cap) rfl ?_⟩
            · rw [hlen]; unfold maxLen at hm; omega
            · rw [hlen] at hi
              rw [hat i hi]
              exact (hg i hi).1
            · have ht := TRel_lstU (e := r) (φ := φW w) ((List.range len).map g) (a := some a) (c := cap) (by rw [hlen]; exact hl) (fun h => (by cases h)) (fun h0 => ?_)
              · rw [hlen] at ht; exact ht
              rw [hlen] at h0 ⊢
              have hsp := (hg 0 h0).2.2 rfl
              refine ⟨a.block, a.off, by cases a; simp only at hsp; rw [hsp], fun i hi => ?_⟩
              rw [hat i hi]
              refine CRel.mono (fun _ _ _ h => h) r _ (fun j v hj => ?_) (hg i hi).2.1
              have e : a = ⟨a.block, a.off, none⟩ := by cases a; simp only at hsp; rw [hsp]
              rw [e, addr_addN] at hj
              rw [Nat.add_assoc]
              exact hj
      · cases h
    · rename_i fs hu
      split at h
      · rename_i e' he
        cases hb : Nat.beq (P.cellsOf t) e'.length with
        | false => rw [hb] at h; cases h
        | true =>
          rw [hb, cond_true] at h
          cases h
          have hb := Nat.eq_of_beq_eq_true hb
          obtain ⟨xs, m, _, _, hl, hlen, hf⟩ := DataW.trod_struct hu hx
          refine ⟨by omega, ?_⟩
          obtain ⟨r, h1, h2⟩ := layF_ok ih (n := m) (cs := cs) fs.toList 0 e he (by omega) fun i fd hi => by
            have hi : fs[i]? = some fd := by simpa using hi
            exact ⟨_, (hf i fd hi).trans (List.getElem?_eq_getElem (by have := (Array.getElem?_eq_some_iff.1 hi).1; omega))⟩
          exact ⟨r, h1, CRel.mono (fun _ _ _ h => h) e r (fun j v hj => by rwa [Nat.zero_add] at hj) h2⟩
      · cases h
    · rename_i m el hu
      split at h
      · rename_i r hr
        cases hb : (Nat.beq (P.cellsOf el) r.length && Nat.beq (P.cellsOf t) (repT r m).length) with
        | false => rw [hb] at h; cases h
        | true =>
          rw [hb, cond_true] at h
          rw [Bool.and_eq_true, Nat.beq_eq, Nat.beq_eq] at hb
          cases h
          obtain ⟨xs, m', _, _, hl, hlen, hf⟩ := DataW.trod_array hu hx
          refine ⟨by omega, ?_⟩
          obtain ⟨y, h1, h2⟩ := layA_ok ih (m := m') (cs := cs) hr hb.1 m 0 (by omega) fun i hi => by
            have := hf i hi
            rw [hb.1] at this
            rw [Nat.zero_add]
            exact ⟨_, this.trans (List.getElem?_eq_getElem (by omega))⟩
          exact ⟨y, h1, CRel.mono (fun _ _ _ h => h) _ y (fun j v hj => by rwa [Nat.zero_add] at hj) h2⟩
      · cases h
    · cases h

/-! ### arguments -/
theorem crel_rowV {φ : Nat → Nat → Option Value} : ∀ (e : List Ty) (x : rowDen e) (A : List Value), A.length = e.length → CRel φ e x (fun j => A[j]?) → LRel (envφ φ) (rowV e x) A
  | [], _, A, h, _ => by cases A <;> simp at h; exact rfl
  | [t], x, A, h, hc => by
    match A, h with
    | [a], _ =>
      rw [CRel] at hc
      obtain ⟨X, h1, h2⟩ := hc
      cases h1
      exact ⟨a, [], rfl, toV_rel t x a h2, rfl⟩
  | t :: u :: ts, x, A, h, hc => by
    match A, h with
    | a :: A, h =>
      rw [CRel] at hc
      obtain ⟨⟨X, h1, h2⟩, h3⟩ := hc
      cases h1
      exact ⟨a, A, rfl, toV_rel t x.1 a h2, crel_rowV (u :: ts) x.2 A (by simpa using h) h3⟩
where
  toV_rel (t : Ty) (x : t.den) (a : Value) (h : TRel φ t x a) : VRel (envφ φ) (toV t x) a := by
    cases t with
    | int k => rw [TRel] at h; simp only [toV, VRel]; exact h
    | bool => rw [TRel] at h; simp only [toV, VRel]; exact h
    | str => rw [TRel] at h; simp only [toV, VRel]; exact h
    | lst e =>
      rw [TRel] at h
      simp only [toV, VRel]
      obtain ⟨a', c, h1, h2, h3, h4⟩ := h
      refine ⟨a', c, h1, h2, fun h => (by cases h), h3, fun hp => ?_⟩
      obtain ⟨B, o, h5, h6⟩ := h4 hp
      refine ⟨B, o, h5, fun i hi => ?_⟩
      refine CRel.mono (fun _ _ _ h => h) e _ (fun j v hj => ?_) (h6 i hi)
      show φ B (o + (i * e.length + j)) = some v
      rw [← Nat.add_assoc]
      exact hj
/-- a struct, handed in -/
theorem arg_struct {n : Nat} {t : TypeId} {e : List Ty} {fs : Array Field} {v : Value} {d : DataW H} {p : List MemPlace} {r : Go.Reach} {b0 : Nat} {W : World} (hu : P.underlying t = some (.struct fs)) (hl : layE P n t = some e)
    (k : Value.okWide P W r b0 t v) (h : DataW.Trod enc P w base spare held t v d p) : ∃ x : rowDen e, wfR e x ∧ VRel (envφ (φW w)) (.agg (rowV e x)) v := by
  obtain ⟨A, rfl, hA⟩ := okWide_struct hu k
  obtain ⟨fuel, hf⟩ := h
  have hf' : DataW.trod enc P w base spare held fuel t A.toList = some (d, p) := by simpa [Value.cells] using hf
  obtain ⟨h1, x, h2, h3⟩ := lay_ok n t e hl _ _ _ hf'
  exact ⟨x, h2, by simp only [VRel]; exact ⟨A, rfl, crel_rowV e x _ h1 h3⟩⟩
theorem okWide_array {n : Nat} {e t : TypeId} {v : Value} {r : Go.Reach} {b0 : Nat} {W : World} (ht : P.underlying t = some (.array n e)) (h : Value.okWide P W r b0 t v) : ∃ cs, v = .agg cs ∧ cs.size = P.cellsOf t := by
  simp only [Value.okWide, ht] at h
  obtain ⟨cs, h1, h2, _⟩ := h
  exact ⟨cs, h1, h2⟩
/-- an array, handed in -/
theorem arg_array {n m : Nat} {t el : TypeId} {e : List Ty} {v : Value} {d : DataW H} {p : List MemPlace} {r : Go.Reach} {b0 : Nat} {W : World} (hu : P.underlying t = some (.array m el)) (hl : layE P n t = some e)
    (k : Value.okWide P W r b0 t v) (h : DataW.Trod enc P w base spare held t v d p) : ∃ x : rowDen e, wfR e x ∧ VRel (envφ (φW w)) (.agg (rowV e x)) v := by
  obtain ⟨A, rfl, hA⟩ := okWide_array hu k
  obtain ⟨fuel, hf⟩ := h
  have hf' : DataW.trod enc P w base spare held fuel t A.toList = some (d, p) := by simpa [Value.cells] using hf
  obtain ⟨h1, x, h2, h3⟩ := lay_ok n t e hl _ _ _ hf'
  exact ⟨x, h2, by simp only [VRel]; exact ⟨A, rfl, crel_rowV e x _ h1 h3⟩⟩
/-- what is one cell, handed in -/
theorem arg_one {n : Nat} {t : TypeId} {t0 : Ty} {v : Value} {d : DataW H} {p : List MemPlace} (hl : layE P n t = some [t0]) (hc : v.cells = #[v])
    (h : DataW.Trod enc P w base spare held t v d p) : ∃ x : t0.den, wfT t0 x ∧ VRel (envφ (φW w)) (toV t0 x) v := by
  obtain ⟨fuel, hf⟩ := h
  rw [hc] at hf
  obtain ⟨h1, x, h2, h3⟩ := lay_ok n t [t0] hl _ _ _ hf
  rw [wfR] at h2
  rw [CRel] at h3
  obtain ⟨X, h4, h5⟩ := h3
  cases h4
  exact ⟨x, h2, crel_rowV.toV_rel t0 x v h5⟩
theorem arg_slice {n : Nat} {t el : TypeId} {e : List Ty} {v : Value} {d : DataW H} {p : List MemPlace} {r : Go.Reach} {b0 : Nat} {W : World} (hu : P.underlying t = some (.slice el)) (hl : layE P n t = some [.lst e]) (k : Value.okWide P W r b0 t v)
    (h : DataW.Trod enc P w base spare held t v d p) : ∃ L : List (rowDen e), wfT (.lst e) L ∧ VRel (envφ (φW w)) (.lst e L false) v := by
  obtain ⟨a, len, cap, rfl⟩ := okWide_slice hu k
  exact arg_one (t0 := .lst e) hl rfl h
theorem arg_str {n : Nat} {t : TypeId} {v : Value} {d : DataW H} {p : List MemPlace} {r : Go.Reach} {b0 : Nat} {W : World} (hu : P.underlying t = some .string) (hl : layE P n t = some [.str]) (k : Value.okWide P W r b0 t v)
    (h : DataW.Trod enc P w base spare held t v d p) : ∃ s : ByteArray, s.size ≤ 9223372036854775807 ∧ VRel (envφ (φW w)) (.str s) v := by
  obtain ⟨s, rfl⟩ := okWide_string hu k
  obtain ⟨x, h1, h2⟩ := arg_one (t0 := .str) hl rfl h
  rw [wfT] at h1
  exact ⟨x, h1, h2⟩
theorem arg_int {n : Nat} {t : TypeId} {kd : IntKind} {v : Value} {d : DataW H} {p : List MemPlace} {r : Go.Reach} {b0 : Nat} {W : World} (hu : P.underlying t = some (.int kd)) (hl : layE P n t = some [.int kd]) (k : Value.okWide P W r b0 t v)
    (h : DataW.Trod enc P w base spare held t v d p) : ∃ q : Int, (kLo kd ≤ q ∧ q < kHi kd) ∧ VRel (envφ (φW w)) (.int kd q) v := by
  obtain ⟨q, rfl⟩ := okWide_int hu k
  obtain ⟨x, h1, h2⟩ := arg_one (t0 := .int kd) hl rfl h
  rw [wfT] at h1
  exact ⟨x, h1, h2⟩
theorem arg_bool {n : Nat} {t : TypeId} {v : Value} {d : DataW H} {p : List MemPlace} {r : Go.Reach} {b0 : Nat} {W : World} (hu : P.underlying t = some .bool) (hl : layE P n t = some [.bool]) (k : Value.okWide P W r b0 t v)
    (h : DataW.Trod enc P w base spare held t v d p) : ∃ q : Bool, VRel (envφ (φW w)) (.bool q) v := by
  obtain ⟨q, rfl⟩ := okWide_bool hu k
  obtain ⟨x, h1, h2⟩ := arg_one (t0 := .bool) hl rfl h
  exact ⟨x, h2⟩
end
end Go.Sym
end

section
namespace Go.Proofs.Ytjjebdfjmbnhpaa
open Go.Sym Go.WideShapes
open Go.RowKit (Below)
set_option maxRecDepth 100000
theorem frameRows_fin {H : Type} {enc : TypeId × Value → H} {base : Nat} (W : World) (v0 : Value) (v1 : Value) {d0 : DataW H} {d1 : DataW H} {p0 : List MemPlace} {p1 : List MemPlace} (k0 : Value.okWide Try.prog W .any base 40 v0) (k1 : Value.okWide Try.prog W .any base 45 v1) (h0 : DataW.Trod enc Try.prog W 0 (fun _ => true) true 40 v0 d0 p0) (h1 : DataW.Trod enc Try.prog W 0 (fun _ => true) true 45 v1 d1 p1) (lt0 : ∀ x ∈ p0, x.block < W.heap.size) (lt1 : ∀ x ∈ p1, x.block < W.heap.size) :
    Calls Try.prog 6 #[v0, v1] W fun e w' => e = .returned (.bool true) ∧ Below W.heap.size W w' := by
  obtain ⟨L, w0, g0⟩ := arg_slice (n := 6) (e := [.str]) Try.underlying40 (by kernel_rfl) k0 h0
  obtain ⟨q, w1, g1⟩ := arg_int (n := 6) Try.underlying45 (by kernel_rfl) k1 h1
  rw [wfT] at w0
  exact pure_true (frameRows_at L q w0.1 w1) W _ ⟨_, _, rfl, g0, _, _, rfl, g1, rfl⟩
end Go.Proofs.Ytjjebdfjmbnhpaa
end

section
namespace Go.Eng
open Go.RowKit Go.ChangeShapes Go.WideShapes

section
variable {H : Type} {enc : TypeId × Value → H} {P : Program} {f : Func} {s : ChangeSpec} {apart fresh handsOn again : Bool} {W W' : World} {args : Array Value} {v : Value} {ds gs : List (DataW H)} {before : List MemPlace}

/-- A law that answers and leaves its arguments: the world may have grown, and below it is as it was. -/
theorem post_low (hW : DataW.Whole enc P f.params.toList s.vars apart W args.toList ds gs before) (hb : Below W.heap.size W W')
    (pa pv : List MemPlace) (hp : before = pa ++ pv)
    (hr : ∀ (b : Nat) (sp : Nat → Bool) (hd : Bool), DataW.TrodAll enc P W' b sp hd f.resultTypes.toList (v.resultList f.resultTypes.size) (s.fn H (ds ++ gs)).results [])
    (ha : ∀ sp : Nat → Bool, (∀ p ∈ before, sp p.block = true) → DataW.TrodAll enc P W' 0 sp true f.params.toList args.toList (s.fn H (ds ++ gs)).args pa)
    (hv : ∀ sp : Nat → Bool, (∀ p ∈ before, sp p.block = true) → DataW.TrodVars enc P W' sp s.vars (s.fn H (ds ++ gs)).vars pv)
    (hok : ∀ (j : Nat) (t : TypeId) (r : Value), f.resultTypes[j]? = some t → (v.resultList f.resultTypes.size)[j]? = some r → Value.okWide P W' .any 0 t r) :
    s.post enc P f apart fresh handsOn again W args v W' := by
  have low : ∀ p ∈ before, p.block < W.heap.size := fun p h => hW.lt p h
  have seen : ∀ p ∈ before, decide (p.block < W.heap.size) = true := fun p h => decide_eq_true (low p h)
  have kept : W.keptBut W' fun p => p ∈ before ∧ (p ∈ pa ∨ p ∈ pv) :=
    World.keptBut_mono (fun p h => ⟨h, by rw [hp] at h; exact List.mem_append.1 h⟩) (hb.frame (· ∈ before))
  subst hp
  refine ⟨ds, gs, pa ++ pv, [], pa, pv, hW, hr _ _ _, ha (fun b => decide (b < W.heap.size)) seen, hv (fun b => decide (b < W.heap.size)) seen, ?_, fun _ => ⟨hok, ?_⟩⟩
  · exact World.keptBut_mono (fun p h => ⟨h.1, h.2.elim (fun h => .inr (.inl h)) fun h => .inr (.inr h)⟩) kept
  · obtain ⟨_, _, _, _, _, hz, hn⟩ := hW
    have hA := trodAll_append (ha (fun _ => true) fun _ _ => rfl) (hr 0 (fun _ => true) true)
    refine ⟨_, _, pa ++ pv, ⟨pa, pv, by simpa using hA, hv (fun _ => true) fun _ _ => rfl, rfl, fun b off h => ?_, hn⟩, fun p h _ => by simpa using h⟩
    rw [hb.frozen (low _ h)]
    exact hz b off h
end
end Go.Eng
end

section

end
