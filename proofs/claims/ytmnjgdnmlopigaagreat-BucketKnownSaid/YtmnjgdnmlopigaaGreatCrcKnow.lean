/-
  A contract for the evaluator: the program's "Sum" of any texts that are known. Conditions: texts shorter than 2^40 bytes each.
-/
import Derived.Test.YtmnjgdnmlopigaaGreatCrcSum
namespace Go.Proofs.YtmnjgdnmlopigaaGreat
open Go.RowKit Go.ChangeShapes Go.WideShapes

/-- Sum of no texts -/
theorem sum_none (w : World) : Calls Tryz.prog 210 #[.slice none 0 0] w fun e w' => e = .returned (.int .u32 0) ∧ Below w.heap.size w w' := by
  have hT := tab_calls
  have hZ := zeroTab.1
  go_enter Tryz.func210, Tryz.ntmps210
  go_wp2_with (go_at_call 239; refine (hT _).mono ?_; rintro e w1 ⟨ρ, X, rfl, hX, hw1⟩; obtain ⟨A, rfl, hA, hs, h1c⟩ := tab_arr hX; have hst := run_storeCells_new w1 266 (Array.replicate 256 (.int .u32 0)) A (by rw [hs]; exact zeroTab.2) (by simp [hs]) h1c)
  go_loop [4, 11] (fun r i => i = .int .i64 0 ∧ r = .int .u32 4294967295) (fun _ _ => 0)
  case atStart => exact ⟨rfl, rfl⟩
  case round =>
    obtain ⟨rfl, rfl⟩ := hrel
    have hmax : bits .xor .u32 IntKind.u32.max 4294967295 = 0 := by kernel_rfl
    go_wp2
    try rw [hmax]
    go_ret
    exact ⟨rfl, hw1.alloc hw1.size _⟩

/-! ### The sum, for the kernel -/
open Go.Eng
noncomputable def forceN {α : Type} (n : Nat) (g : Nat → α) : α := @Nat.rec (fun _ => α) (g 0) (fun m _ => g (Nat.succ m)) n
theorem forceN_eq {α : Type} (n : Nat) (g : Nat → α) : forceN n g = g n := by cases n <;> rfl
noncomputable def tabTree : B Nat := B.ofList 0 8 tabNats
noncomputable def byteQ (r b : Nat) : Nat := Nat.xor (Nat.div r 256) (B.get tabTree (Nat.xor (Nat.mod r 256) b))
/-- the sum of n bytes that a number holds, by halves -/
noncomputable def sumH (f : Nat) : Nat → Nat → Nat → Nat :=
  @Nat.rec (fun _ => Nat → Nat → Nat → Nat) (fun _ _ r => r)
    (fun _ ih n N r => bif Nat.ble n 1 then (bif Nat.beq n 0 then r else byteQ r (Nat.mod N 256)) else
      forceN (ih (Nat.sub n (Nat.div n 2)) (Nat.div N (Nat.pow 256 (Nat.div n 2))) r) (ih (Nat.div n 2) (Nat.mod N (Nat.pow 256 (Nat.div n 2))))) f
theorem byteQ_eq (r b : Nat) (hb : b < 256) : byteQ r b = Crc.byteT r b := by
  have hx : (r % 256) ^^^ b < 256 := Nat.xor_lt_two_pow (n := 8) (Nat.mod_lt _ (by decide)) hb
  have hg : B.get tabTree ((r % 256) ^^^ b) = Crc.out8 ((r % 256) ^^^ b) := by
    unfold tabTree
    rw [B.ofList_get _ _ _ _ (by simpa using hx), List.getD_eq_getElem?_getD, tabNats_get hx]
    rfl
  show (r / 256) ^^^ B.get tabTree ((r % 256) ^^^ b) = _
  rw [hg]
  rfl
theorem sumT_append (l m : List UInt8) (r : Nat) : sumT r (l ++ m) = sumT (sumT r l) m := by simp [sumT]
theorem sumH_eq : ∀ (f n N r : Nat), n ≤ 2 ^ f → sumH (f + 1) n N r = sumT r (dig n N)
  | f, n, N, r, h => by
    show (bif Nat.ble n 1 then (bif Nat.beq n 0 then r else byteQ r (Nat.mod N 256)) else
      forceN (sumH f (Nat.sub n (Nat.div n 2)) (Nat.div N (Nat.pow 256 (Nat.div n 2))) r) (sumH f (Nat.div n 2) (Nat.mod N (Nat.pow 256 (Nat.div n 2))))) = _
    cases h1 : Nat.ble n 1 with
    | true =>
      rw [cond_true]
      have h1 := Nat.le_of_ble_eq_true h1
      cases h0 : Nat.beq n 0 with
      | true =>
        have := Nat.eq_of_beq_eq_true h0
        subst this
        rfl
      | false =>
        have : n = 1 := by
          have : n ≠ 0 := fun e => by subst e; cases h0
          omega
        subst this
        rw [cond_false]
        show byteQ r (N % 256) = Crc.byteT r (UInt8.ofNat N).toNat
        rw [byteQ_eq _ _ (Nat.mod_lt _ (by decide))]
        congr 1
    | false =>
      rw [cond_false, forceN_eq]
      have h1 : 2 ≤ n := by
        rcases Nat.lt_or_ge 1 n with hh | hh
        · exact hh
        · rw [Nat.ble_eq_true_of_le hh] at h1; cases h1
      cases f with
      | zero => simp at h; omega
      | succ f =>
        have e1 := sumH_eq f (n - n / 2) (N / 256 ^ (n / 2)) r (by rw [Nat.pow_succ] at h; omega)
        have e2 := sumH_eq f (n / 2) (N % 256 ^ (n / 2)) (sumT r (dig (n - n / 2) (N / 256 ^ (n / 2)))) (by rw [Nat.pow_succ] at h; omega)
        show sumH (f + 1) (n / 2) (N % 256 ^ (n / 2)) (sumH (f + 1) (n - n / 2) (N / 256 ^ (n / 2)) r) = _
        rw [e1, e2, dig_mod]
        have hn : n = (n - n / 2) + n / 2 := by omega
        conv => rhs; rw [hn, dig_add, sumT_append]
noncomputable def sumBS (x : BS) (r : Nat) : Nat := sumH 41 x.n x.N r
theorem sumBS_eq (x : BS) (r : Nat) (h : x.n ≤ 1099511627776) : sumBS x r = sumT r x.den.data.toList := sumH_eq 40 x.n x.N r h
def strsOf : List V → Option (List BS)
  | [] => some []
  | .str x :: l => bif Nat.ble x.n 1099511627776 then (match strsOf l with
    | some r => some (x :: r)
    | none => none) else none
  | _ => none
noncomputable def sumAll : List BS → Nat → Nat
  | [], r => r
  | x :: l, r => forceN (sumBS x r) (sumAll l)
theorem strsOf_spec {ρ : Env} : ∀ {cs : List V} {xs : List BS}, strsOf cs = some xs → xs.length = cs.length ∧ ∀ (k : Nat) x, xs[k]? = some x → cs[k]? = some (.str x) ∧ x.n ≤ 1099511627776
  | [], xs, h => by simp only [strsOf] at h; cases h; exact ⟨rfl, fun k x hk => by simp at hk⟩
  | v :: l, xs, h => by
    cases v with
    | str y =>
      simp only [strsOf] at h
      cases hb : Nat.ble y.n 1099511627776 with
      | false => rw [hb] at h; cases h
      | true =>
        rw [hb, cond_true] at h
        split at h
        · rename_i r hr
          cases h
          obtain ⟨h1, h2⟩ := strsOf_spec (ρ := ρ) hr
          refine ⟨by simp [h1], fun k x hk => ?_⟩
          cases k with
          | zero => simp at hk; subst hk; exact ⟨rfl, Nat.le_of_ble_eq_true hb⟩
          | succ k => simpa using h2 k x (by simpa using hk)
        · cases h
    | _ => simp [strsOf] at h

theorem regAt_congr {ss tt : Nat → ByteArray} : ∀ k, (∀ i, i < k → ss i = tt i) → regAt ss k = regAt tt k
  | 0, _ => rfl
  | k + 1, h => by rw [regAt, regAt, regAt_congr k fun i hi => h i (by omega), h k (by omega)]
theorem sumAll_eq : ∀ (l : List BS) (done : List BS), (∀ x ∈ l, x.n ≤ 1099511627776) → sumAll l (regAt (fun k => (done.getD k ⟨0, 0⟩).den) done.length) = regAt (fun k => ((done ++ l).getD k ⟨0, 0⟩).den) (done ++ l).length
  | [], done, _ => by simp [sumAll]
  | x :: l, done, hx => by
    have ih := sumAll_eq l (done ++ [x]) fun y hy => hx y (List.mem_cons_of_mem _ hy)
    rw [sumAll, forceN_eq, sumBS_eq _ _ (hx x List.mem_cons_self)]
    have e : sumT (regAt (fun k => (done.getD k ⟨0, 0⟩).den) done.length) x.den.data.toList = regAt (fun k => ((done ++ [x]).getD k ⟨0, 0⟩).den) (done ++ [x]).length := by
      rw [List.length_append, List.length_singleton, regAt]
      have h1 : regAt (fun k => ((done ++ [x]).getD k ⟨0, 0⟩).den) done.length = regAt (fun k => (done.getD k ⟨0, 0⟩).den) done.length :=
        regAt_congr _ fun i hi => by simp only [List.getD_eq_getElem?_getD, List.getElem?_append_left hi]
      rw [h1]
      congr 3
      simp
    rw [e, ih, List.append_assoc]
    rfl

/-- what is known of the program: its sums -/
noncomputable def sumOf (s : St) : V → Option (EEnd × St)
  | .nils => some (.ret (.int .u32 0), s)
  | .sl b o len _ _ es => bif Nat.beq es 1 then (match cellsAt s b with
    | some cs => bif Nat.ble (o + len) (llen cs) && Nat.ble len 1099511627776 then (match strsOf (ltake (ldrop cs o) len) with
      | some xs => some (.ret (.int .u32 (.ofNat (Nat.xor 4294967295 (sumAll xs 4294967295)))), s)
      | none => none) else none
    | none => none) else none
  | _ => none
noncomputable def knownSum : ESelf := fun t s => match t with
  | .fn f args => bif Nat.beq f 210 then (match args with
    | [a] => sumOf s a
    | _ => none) else none
  | .round _ _ => none

theorem knownSum_ok : SelfOK Tryz.prog knownSum := by
  intro t s e s' hk base ρ w hS n
  cases t with
  | round l args => cases hk
  | fn f args =>
    intro A hA
    simp only [knownSum] at hk
    cases he : Nat.beq f 210 with
    | false => rw [he] at hk; cases hk
    | true =>
    rw [he, cond_true] at hk
    have := Nat.eq_of_beq_eq_true he
    subst this
    split at hk
    · rename_i a
      obtain ⟨X, Y, e1, h1, e3⟩ := hA
      have e3 : Y = [] := e3
      subst e3
      have hAA : A = #[X] := by cases A; simp at e1; simp [e1]
      subst hAA
      unfold sumOf at hk
      split at hk
      · cases hk
        have h1 : X = .slice none 0 0 := by simpa only [VRel] using h1
        subst h1
        refine callsIn_wide.2 ((sum_none w).mono ?_)
        rintro E w' ⟨rfl, hw⟩
        exact ⟨ρ, ρ.le_refl, ⟨_, rfl, by simp only [VRel]⟩, hS.grow hw, hw.mono hS.le⟩
      · rename_i b o len cap x es
        cases hes : Nat.beq es 1 with
        | false => rw [hes] at hk; cases hk
        | true =>
        rw [hes, cond_true] at hk
        split at hk
        · rename_i cs hcs
          simp only [llen_eq, ltake_eq, ldrop_eq] at hk
          cases hb : (Nat.ble (o + len) cs.length && Nat.ble len 1099511627776) with
          | false => rw [hb] at hk; cases hk
          | true =>
          rw [hb, cond_true] at hk
          simp only [Bool.and_eq_true, Nat.ble_eq] at hb
          split at hk
          · rename_i xs hxs
            cases hk
            simp only [VRel] at h1
            obtain ⟨B, O, S, cap', hB, rfl, c1, c2, c3, c4⟩ := h1
            obtain ⟨y, hy, hcA⟩ := hS.cellsAt hcs hB
            rw [hB] at hy; cases hy
            obtain ⟨q1, q2⟩ := strsOf_spec (ρ := ρ) hxs
            have hlen : xs.length = len := by rw [q1]; simp; omega
            have hlt : B < w.heap.size := by
              obtain ⟨C, t', fr, g1, _⟩ := hcA.ex
              rcases Nat.lt_or_ge B w.heap.size with hh | hh
              · exact hh
              · rw [Array.getElem?_eq_none hh] at g1; cases g1
            have hcell : ∀ k, k < len → w.cell? ⟨B, (O + o) + k, none⟩ = some (.string ((xs.getD k ⟨0, 0⟩).den)) := fun k hk => by
              have hx : xs[k]? = some (xs[k]'(by omega)) := List.getElem?_eq_getElem (by omega)
              obtain ⟨g1, _⟩ := q2 k _ hx
              have g2 : cs[o + k]? = some (.str (xs[k]'(by omega))) := by
                rw [List.getElem?_take, if_pos hk, List.getElem?_drop] at g1
                exact g1
              obtain ⟨W, g3, g4⟩ := hcA.cell g2
              have g4 : W = .string (xs[k]'(by omega)).den := by simpa only [VRel] using g4
              subst g4
              rw [List.getD_eq_getElem?_getD, hx]
              simpa [Nat.add_assoc] using g3
            have hsz : ∀ k, k < len → ((xs.getD k ⟨0, 0⟩).den).size ≤ 9223372036854775807 := fun k hk => by
              have hx : xs[k]? = some (xs[k]'(by omega)) := List.getElem?_eq_getElem (by omega)
              have := (q2 k _ hx).2
              rw [List.getD_eq_getElem?_getD, hx, BS.den_size]
              simp only [Option.getD_some]; omega
            have hreg : regAt (fun k => (xs.getD k ⟨0, 0⟩).den) len = sumAll xs 4294967295 := by
              have := sumAll_eq xs [] fun x hx => by obtain ⟨k, hk⟩ := List.getElem?_of_mem hx; exact (q2 k x hk).2
              simp only [List.length_nil, List.nil_append] at this
              rw [← hlen, ← this]
              rfl
            refine callsIn_wide.2 ((sum_walk B (O + o) len cap' w (fun k => (xs.getD k ⟨0, 0⟩).den) hlt hcell (by omega) hsz).mono ?_)
            rintro E w' ⟨rfl, hw⟩
            refine ⟨ρ, ρ.le_refl, ⟨_, rfl, ?_⟩, hS.grow hw, hw.mono hS.le⟩
            simp only [VRel]
            rw [hreg]
            rfl
          · cases hk
        · cases hk
      · cases hk
    · cases hk
end Go.Proofs.YtmnjgdnmlopigaaGreat
