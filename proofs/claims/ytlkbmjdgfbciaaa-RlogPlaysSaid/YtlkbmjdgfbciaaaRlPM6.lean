/-
  Texts of this claim, one behind the other: RlH RlI RlJ RlM RlR RlS. Each says its own conditions.
-/
import Derived.Test.YtlkbmjdgfbciaaaRlPM5

set_option linter.unusedVariables false
set_option linter.unusedSimpArgs false
set_option linter.unusedSectionVars false
section
namespace Go.Proofs.Ytlkbmjdgfbciaaa
open Go.Sym
set_option linter.unusedVariables false
set_option linter.unusedSimpArgs false
set_option maxRecDepth 100000
set_option maxHeartbeats 4000000

noncomputable def hintF (args : List V) : Option (List Bool × V) := match args with
  | [a, .int .u64 i] => (match oneLog a with
    | some (i0, t0, L) => some ([logB i0 t0 L, leI i0 i, ltI i 18446744073709551616], .int .u64 (hintV i0 t0 L i))
    | none => none)
  | _ => none
theorem hintF_ok (args : List V) (c : List Bool) (v : V) (h : hintF args = some (c, v)) (hc : allB c) : PureAt Try.prog 51 args v := by
  unfold hintF at h
  split at h
  · rename_i a i
    split at h
    · rename_i i0 t0 L hx
      cases h
      obtain rfl := oneLog_eq hx
      obtain ⟨c1, c2, c3, _⟩ := hc
      rw [leI_eq] at c2
      rw [ltI_eq] at c3
      exact hint_at i0 t0 L i (logB_of c1) ⟨of_decide_eq_true c2, of_decide_eq_true c3⟩
    · cases h
  · cases h
noncomputable def tabR3 : Tab := oneTab 51 hintF (oneTab 50 cloneF (oneTab 21 works20F tabR1))
theorem tabR3_ok : TabOK Try.prog tabR3 := oneTab_ok hintF_ok (oneTab_ok cloneF_ok (oneTab_ok works20F_ok tabR1_ok))

def firstP (p : Nat → Bool) : Nat → Nat
  | 0 => 0
  | n + 1 => if firstP p n < n then firstP p n else if p n then n else n + 1
theorem firstP_le (p : Nat → Bool) : ∀ n, firstP p n ≤ n
  | 0 => Nat.le_refl _
  | n + 1 => by
    have := firstP_le p n
    unfold firstP
    split
    · omega
    · split <;> omega
theorem firstP_no (p : Nat → Bool) : ∀ n j, j < firstP p n → p j = false
  | 0, j, h => absurd h (Nat.not_lt_zero _)
  | n + 1, j, h => by
    have ih := firstP_no p n j
    have hl := firstP_le p n
    unfold firstP at h
    split at h
    · exact ih h
    · split at h
      · exact ih (by omega)
      · rename_i h1 h2
        rcases Nat.lt_or_ge j n with hj | hj
        · exact ih (by omega)
        · rw [show j = n by omega]; simpa using h2
theorem firstP_yes (p : Nat → Bool) : ∀ n, firstP p n < n → p (firstP p n) = true
  | 0, h => absurd h (Nat.not_lt_zero _)
  | n + 1, h => by
    have ih := firstP_yes p n
    unfold firstP at h ⊢
    split
    · rename_i h1; exact ih h1
    · rename_i h1
      rw [if_neg h1] at h
      split
      · rename_i h2; exact h2
      · rename_i h2; rw [if_neg h2] at h; omega
theorem termI_in {i0 t0 : Int} {L : List EnR} {i : Int} (h : termI i0 t0 L i = true) : i0 ≤ i ∧ i ≤ i0 + L.length := by
  rw [termI_eq] at h
  by_cases e : i = i0
  · omega
  · by_cases h2 : i < i0 ∨ (L.length : Int) < i - i0
    · rw [termP_no h2 e] at h; cases h
    · omega
noncomputable def misB (i0 t0 : Int) (L : List EnR) (E : List EnR) (j : Nat) : Bool := !(decide ((rowE E j).2.1 ≤ i0) || (termI i0 t0 L (rowE E j).2.1 && decide (termV i0 t0 L (rowE E j).2.1 = (rowE E j).1)))
theorem misB_no {i0 t0 : Int} {L : List EnR} {E : List EnR} {j : Nat} (h : misB i0 t0 L E j = false) : (rowE E j).2.1 ≤ i0 ∨ (termI i0 t0 L (rowE E j).2.1 = true ∧ termV i0 t0 L (rowE E j).2.1 = (rowE E j).1) := by
  unfold misB at h
  rw [Bool.not_eq_false', Bool.or_eq_true, Bool.and_eq_true, decide_eq_true_eq, decide_eq_true_eq] at h
  exact h
theorem misB_yes {i0 t0 : Int} {L : List EnR} {E : List EnR} {j : Nat} (h : misB i0 t0 L E j = true) : i0 < (rowE E j).2.1 ∧ ¬ (termI i0 t0 L (rowE E j).2.1 = true ∧ termV i0 t0 L (rowE E j).2.1 = (rowE E j).1) := by
  unfold misB at h
  rw [Bool.not_eq_true', Bool.or_eq_false_iff, decide_eq_false_iff_not] at h
  refine ⟨by omega, fun g => ?_⟩
  rw [g.1, decide_eq_true g.2] at h
  cases h.2
noncomputable def putJ (i0 t0 : Int) (L : List EnR) (E : List EnR) : Nat := firstP (misB i0 t0 L E) E.length
def putAt (i0 t0 : Int) (L : List EnR) (idx trm : Int) (E : List EnR) : Prop := folL idx trm E = true ∧ (idx < i0 ∨ (termI i0 t0 L idx = true ∧ termV i0 t0 L idx = trm))
noncomputable def putL0 (i0 t0 : Int) (L : List EnR) (idx : Int) (E : List EnR) : List EnR := if putJ i0 t0 L E < E.length then L.take (idx + (putJ i0 t0 L E : Nat) - i0).toNat ++ E.drop (putJ i0 t0 L E) else L
open Classical in
noncomputable def pOk : Int → Int → List EnR → Int → Int → List EnR → Bool := hide fun i0 t0 L idx trm E => decide (putAt i0 t0 L idx trm E)
open Classical in
noncomputable def pLast : Int → Int → List EnR → Int → Int → List EnR → Int := hide fun i0 t0 L idx trm E => if putAt i0 t0 L idx trm E then lastP idx E else 0
open Classical in
noncomputable def pHint : Int → Int → List EnR → Int → Int → List EnR → Int := hide fun i0 t0 L idx trm E => if folL idx trm E = true ∧ ¬ putAt i0 t0 L idx trm E then hintV i0 t0 L idx else 0
open Classical in
noncomputable def pLog : Int → Int → List EnR → Int → Int → List EnR → List EnR := hide fun i0 t0 L idx trm E => if putAt i0 t0 L idx trm E then putL0 i0 t0 L idx E else L
section
variable {i0 t0 : Int} {L : List EnR} {idx trm : Int} {E : List EnR}
open Classical in
theorem put_yes (h : putAt i0 t0 L idx trm E) : pOk i0 t0 L idx trm E = true ∧ pLast i0 t0 L idx trm E = lastP idx E ∧ pHint i0 t0 L idx trm E = 0 ∧ pLog i0 t0 L idx trm E = putL0 i0 t0 L idx E := by
  unfold pOk pLast pHint pLog
  rw [hide_eq, hide_eq, hide_eq, hide_eq]
  exact ⟨decide_eq_true h, if_pos h, if_neg fun g => g.2 h, if_pos h⟩
open Classical in
theorem put_fol (h : folL idx trm E = false) : pOk i0 t0 L idx trm E = false ∧ pLast i0 t0 L idx trm E = 0 ∧ pHint i0 t0 L idx trm E = 0 ∧ pLog i0 t0 L idx trm E = L := by
  have hn : ¬ putAt i0 t0 L idx trm E := fun g => by have := g.1; rw [h] at this; cases this
  unfold pOk pLast pHint pLog
  rw [hide_eq, hide_eq, hide_eq, hide_eq]
  refine ⟨decide_eq_false hn, if_neg hn, if_neg ?_, if_neg hn⟩
  rw [h]
  exact fun g => (by cases g.1)
open Classical in
theorem put_no (h1 : folL idx trm E = true) (h : ¬ putAt i0 t0 L idx trm E) : pOk i0 t0 L idx trm E = false ∧ pLast i0 t0 L idx trm E = 0 ∧ pHint i0 t0 L idx trm E = hintV i0 t0 L idx ∧ pLog i0 t0 L idx trm E = L := by
  unfold pOk pLast pHint pLog
  rw [hide_eq, hide_eq, hide_eq, hide_eq]
  exact ⟨decide_eq_false h, if_neg h, if_pos ⟨h1, h⟩, if_neg h⟩
theorem putAt_in (h : putAt i0 t0 L idx trm E) (hL : LogOK i0 t0 L) (hx : 0 ≤ idx) : idx ≤ i0 + L.length ∧ idx ≤ 1099511627776 := by
  have h1 := hL.hi
  have h2 := hL.top
  rcases h.2 with h3 | ⟨h3, _⟩
  · omega
  · have := termI_in h3; omega
theorem putJ_in (h : putAt i0 t0 L idx trm E) (hL : LogOK i0 t0 L) (hx : 0 ≤ idx) (hJ : putJ i0 t0 L E < E.length) : i0 ≤ idx + (putJ i0 t0 L E : Nat) ∧ idx + (putJ i0 t0 L E : Nat) ≤ i0 + L.length := by
  have hin := putAt_in h hL hx
  have hrun := fol_run h.1 (by omega)
  have hy := misB_yes (firstP_yes _ _ hJ)
  have e : (rowE E (putJ i0 t0 L E)).2.1 = idx + (putJ i0 t0 L E : Nat) + 1 := hrun _ hJ
  rw [show firstP (misB i0 t0 L E) E.length = putJ i0 t0 L E from rfl, e] at hy
  refine ⟨by omega, ?_⟩
  rcases Nat.eq_zero_or_pos (putJ i0 t0 L E) with h0 | h0
  · rw [h0]; omega
  · have hn := misB_no (firstP_no (misB i0 t0 L E) E.length (putJ i0 t0 L E - 1) (by unfold putJ at h0 ⊢; omega))
    rw [hrun _ (show putJ i0 t0 L E - 1 < E.length by omega)] at hn
    have h2 := hL.top
    rcases hn with hn | ⟨hn, _⟩
    · omega
    · have := termI_in hn; omega
end
section
variable (i0 t0 : Int) (L : List EnR) (idx trm : Int) (E : List EnR) (ty : TypeId)
abbrev logO : EObj := .cells [.int .u64 i0, .int .u64 t0, .lst entE L false] ty false
noncomputable def puC (i : Nat) : CD := ⟨116, [(0, .ptr 0 0), (3, .lst entE E false), (8, .int .u64 (lastP idx E)), (62, .lst entE E false), (63, .int .i64 ((List.length (α := EnR) E : Nat) : Int)), (64, .int .i64 (i : Int))], [], [(0, logO i0 t0 L ty)], 1⟩
noncomputable def puE : CD := ⟨116, [(8, .int .u64 (lastP idx E))], [], [(0, .cells [.int .u64 i0, .int .u64 t0, .rs 1 0 (putL0 i0 t0 L idx E).length (putL0 i0 t0 L idx E).length false 3] ty false), (1, .rows entE (putL0 i0 t0 L idx E) 58 false)], 2⟩
theorem put_full (hL : LogOK i0 t0 L) (hx : 0 ≤ idx ∧ idx < 18446744073709551616) (hE : E.length ≤ 1000000) (hEr : ∀ j, j < E.length → 0 ≤ (rowE E j).2.1 ∧ (rowE E j).2.1 < 18446744073709551616) :
    HeapAt Try.prog 1 24 [.ptr 0 0, .int .u64 idx, .int .u64 trm, .lst entE E false] [logO i0 t0 L ty]
      (.tup [.int .u64 (pLast i0 t0 L idx trm E), .int .u64 (pHint i0 t0 L idx trm E), .bool (pOk i0 t0 L idx trm E)]) [(0, logO i0 t0 (pLog i0 t0 L idx trm E) ty)] 1 := by
  have hi := hL.hi
  have ht := hL.ht
  have hl := hL.hl
  have htop := hL.top
  have q1 : @Eq Int (Sym.rowAt logE [(i0, t0, L)] 0).1 i0 := rfl
  have q3 : List.length (α := rowDen entE) (Sym.rowAt logE [(i0, t0, L)] 0).2.2 = List.length (α := EnR) L := rfl
  have hEl : (List.length (α := EnR) E : Int) = ((List.length (α := rowDen entE) E : Nat) : Int) := rfl
  cases hf : folL idx trm E with
  | false =>
    obtain ⟨e1, e2, e3, e4⟩ := put_fol (i0 := i0) (t0 := t0) (L := L) hf
    rw [e1, e2, e3, e4]
    refine heap_of_W tabR3_ok (fuel := 3) (d := 6) (N := 1) rfl rfl [] (fun _ _ h => by cases h) ?_
    repeat' (conv => whnf
             first | (with_reducible first | exact True.intro | rfl | exact castL_self _ _ | refine iteB_n ?_ | refine iteB_ct ?_ | refine iteB_cf ?_ | refine iteB_bt ?_ | refine iteB_bf ?_ | refine iteB_tb ?_ | refine iteB_fb ?_) | ((with_reducible refine V.same_t ?_); exact rfl) | ((with_reducible refine andB_room ?_ ?_ ?_); (· kernel_rfl); (· (first | omega | (simp only [lens] <;> omega)))) | ((with_reducible first | refine andB_in ?_ ?_ | refine andB_d ?_ ?_ | refine andB_lt ?_ ?_ | refine andB_le ?_ ?_ | refine iteB_ltt ?_ ?_ | refine iteB_let ?_ ?_ | refine iteB_dt ?_ ?_); · (first | (with_reducible assumption) | (first | omega | (simp only [lens] <;> omega)))) | ((with_reducible first | refine iteB_ltf ?_ ?_ | refine iteB_lef ?_ ?_ | refine iteB_df ?_ ?_); · (first | (with_reducible assumption) | (first | omega | (simp only [lens] <;> omega)))) | ((with_reducible first | refine andB_i ?_ ?_ | refine iteB_t ?_ ?_); · (first | (with_reducible first | assumption | exact decide_eq_true rfl | exact sEq_self _) | ((with_reducible refine eqOK_i ?_); kernel_rfl) | (exact hf))) | ((with_reducible refine iteB_f ?_ ?_); · (first | (with_reducible first | assumption | exact decide_eq_true rfl | exact sEq_self _) | ((with_reducible refine eqOK_i ?_); kernel_rfl) | (exact hf))) | (with_reducible refine CD.wk_au ?_) | (with_reducible first | refine andB_in ?_ ?_ | refine andB_lt ?_ ?_ | refine andB_le ?_ ?_ | refine andB_d ?_ ?_ | refine andB_i ?_ ?_ | refine iteB_lts (fun hB => ?_) (fun hB => ?_) | refine iteB_les (fun hB => ?_) (fun hB => ?_) | refine iteB_ds (fun hB => ?_) (fun hB => ?_) | refine iteB_s (fun hB => ?_) (fun hB => ?_) | refine CD.wk_as ?_ | refine And.intro ?_ ?_))
    all_goals ((conv => whnf); (try dsimp only); (try simp only [Nat.succ_eq_add_one, Nat.le_eq, castL_self]); (try omega))
    all_goals (try (first | omega | (simp only [lens] <;> omega)))
    all_goals trace_state
  | true =>
    by_cases hp : putAt i0 t0 L idx trm E
    · obtain ⟨e1, e2, e3, e4⟩ := put_yes hp
      rw [e1, e2, e3, e4]
      have hin := putAt_in hp hL hx.1
      have hrun := fol_run hf (by omega)
      have hjin := fun hJ => putJ_in hp hL hx.1 hJ
      have hrowE : ∀ j, j < E.length → @Eq Int (Sym.rowAt entE E (Int.toNat (j : Int))).2.1 (idx + (j : Int) + 1) := fun j hj => hrun j hj
      have hnm := fun j hj => misB_no (firstP_no (misB i0 t0 L E) E.length j hj)
      have hlast : ∀ n, n = List.length (α := EnR) E → (n = 0 → lastP idx E = idx) ∧ (n ≠ 0 → lastP idx E = (rowE E (n - 1)).2.1) := fun n e => by subst e; exact ⟨lastP_0, lastP_1⟩
      rcases Nat.lt_or_ge (putJ i0 t0 L E) E.length with hJ | hJ
      · obtain ⟨j1, j2⟩ := hjin hJ
        obtain ⟨J, hJe⟩ : ∃ J, putJ i0 t0 L E = J := ⟨_, rfl⟩
        have hyes := misB_yes (firstP_yes _ _ hJ)
        have hnm : ∀ j, j < J → _ := fun j hj => hnm j (by rw [← hJe] at hj; exact hj)
        rw [show firstP (misB i0 t0 L E) E.length = putJ i0 t0 L E from rfl, hJe] at hyes
        have eP : putL0 i0 t0 L idx E = L.take (idx + (J : Nat) - i0).toNat ++ E.drop J := by unfold putL0; rw [if_pos hJ, hJe]
        rw [hJe] at hJ j1 j2
        obtain ⟨K, hK⟩ : ∃ K : Nat, (K : Int) = idx + J - i0 := ⟨(idx + J - i0).toNat, by omega⟩
        have hK2 : (idx + (J : Nat) - i0).toNat = K := by omega
        rw [hK2] at eP
        have hPl : (putL0 i0 t0 L idx E).length = K + (E.length - J) := by rw [eP, List.length_append, List.length_take, List.length_drop]; omega
        refine heap_of_W tabR3_ok (fuel := 3) (d := 6) (N := 1) rfl rfl [⟨10, [], puC i0 t0 L idx E ty 0, .leaf (.exit 0) (puE i0 t0 L idx E ty)⟩] (fun N l hl => ?_) ?_
        · rw [List.mem_singleton.1 hl]
          refine LpD.ok_one (b := bodyAt Try.prog 24 10) rfl (loop_W tabR3_ok (fuel := 3) (d := 5) (X := { i : Nat // i ≤ J }) (fun x => puC i0 t0 L idx E ty x.1) (fun x => J - x.1)
            (fun _ => .leaf (.exit 0) (puE i0 t0 L idx E ty)) (fun _ => noLpW) (fun _ => noLp) (fun _ => noLp_ad) (fun _ => noLp_ok _) ?_ ⟨0, Nat.zero_le _⟩)
          rintro ⟨i, hi2⟩
          dsimp only
          have hlt' : i < E.length := Nat.lt_of_le_of_lt hi2 hJ
          have rE := hrowE i hlt'
          have hEr := hEr i hlt'
          obtain ⟨w, ew⟩ : ∃ w : Int, @Eq Int w (Sym.rowAt entE E (Int.toNat (i : Int))).2.1 := ⟨_, rfl⟩
          have ew0 : @Eq Int (Sym.rowAt entE E i).2.1 w := ew.symm
          rcases Nat.lt_or_ge i J with hlt | hge
          · have ha := hnm i hlt
            rw [show (rowE E i).2.1 = w from ew0] at ha
            rcases ha with ha | ⟨ha1, ha2⟩
            · repeat' (conv => whnf
                       first | (with_reducible first | exact True.intro | rfl | exact castL_self _ _ | refine iteB_n ?_ | refine iteB_ct ?_ | refine iteB_cf ?_ | refine iteB_bt ?_ | refine iteB_bf ?_ | refine iteB_tb ?_ | refine iteB_fb ?_) | ((with_reducible refine V.same_t ?_); exact rfl) | ((with_reducible refine andB_room ?_ ?_ ?_); (· kernel_rfl); (· (first | omega | (simp only [lens] <;> omega)))) | ((with_reducible first | refine andB_in ?_ ?_ | refine andB_d ?_ ?_ | refine andB_lt ?_ ?_ | refine andB_le ?_ ?_ | refine iteB_ltt ?_ ?_ | refine iteB_let ?_ ?_ | refine iteB_dt ?_ ?_); · (first | (with_reducible assumption) | (first | omega | (simp only [lens] <;> omega)))) | ((with_reducible first | refine iteB_ltf ?_ ?_ | refine iteB_lef ?_ ?_ | refine iteB_df ?_ ?_); · (first | (with_reducible assumption) | (first | omega | (simp only [lens] <;> omega)))) | ((with_reducible first | refine andB_i ?_ ?_ | refine iteB_t ?_ ?_); · (first | (with_reducible first | assumption | exact decide_eq_true rfl | exact sEq_self _) | ((with_reducible refine eqOK_i ?_); kernel_rfl))) | ((with_reducible refine iteB_f ?_ ?_); · (first | (with_reducible first | assumption | exact decide_eq_true rfl | exact sEq_self _) | ((with_reducible refine eqOK_i ?_); kernel_rfl))) | (refine ⟨⟨i + 1, hlt⟩, ?_, rfl, ?_⟩) | (with_reducible refine CD.wk_au ?_) | (with_reducible first | refine andB_in ?_ ?_ | refine andB_lt ?_ ?_ | refine andB_le ?_ ?_ | refine andB_d ?_ ?_ | refine andB_i ?_ ?_ | refine iteB_lts (fun hB => ?_) (fun hB => ?_) | refine iteB_les (fun hB => ?_) (fun hB => ?_) | refine iteB_ds (fun hB => ?_) (fun hB => ?_) | refine iteB_s (fun hB => ?_) (fun hB => ?_) | refine CD.wk_as ?_ | refine And.intro ?_ ?_))
              all_goals ((conv => whnf); (try dsimp only); (try simp only [Nat.succ_eq_add_one, Nat.le_eq, castL_self]); (try omega))
              all_goals (try (first | omega | (simp only [lens] <;> omega)))
              all_goals trace_state
            · have hb1 : termI i0 t0 L (Sym.rowAt entE E (Int.toNat (i : Int))).2.1 = true := by rw [← ew]; exact ha1
              have hb2 : @Eq Int (termV i0 t0 L (Sym.rowAt entE E (Int.toNat (i : Int))).2.1) (Sym.rowAt entE E (Int.toNat (i : Int))).1 := by rw [← ew]; exact ha2
              repeat' (conv => whnf
                       first | (with_reducible first | exact True.intro | rfl | exact castL_self _ _ | refine iteB_n ?_ | refine iteB_ct ?_ | refine iteB_cf ?_ | refine iteB_bt ?_ | refine iteB_bf ?_ | refine iteB_tb ?_ | refine iteB_fb ?_) | ((with_reducible refine V.same_t ?_); exact rfl) | ((with_reducible refine andB_room ?_ ?_ ?_); (· kernel_rfl); (· (first | omega | (simp only [lens] <;> omega)))) | ((with_reducible first | refine andB_in ?_ ?_ | refine andB_d ?_ ?_ | refine andB_lt ?_ ?_ | refine andB_le ?_ ?_ | refine iteB_ltt ?_ ?_ | refine iteB_let ?_ ?_ | refine iteB_dt ?_ ?_); · (first | (with_reducible assumption) | (first | omega | (simp only [lens] <;> omega)))) | ((with_reducible first | refine iteB_ltf ?_ ?_ | refine iteB_lef ?_ ?_ | refine iteB_df ?_ ?_); · (first | (with_reducible assumption) | (first | omega | (simp only [lens] <;> omega)))) | ((with_reducible first | refine andB_i ?_ ?_ | refine iteB_t ?_ ?_); · (first | (with_reducible first | assumption | exact decide_eq_true rfl | exact sEq_self _) | ((with_reducible refine eqOK_i ?_); kernel_rfl))) | ((with_reducible refine iteB_f ?_ ?_); · (first | (with_reducible first | assumption | exact decide_eq_true rfl | exact sEq_self _) | ((with_reducible refine eqOK_i ?_); kernel_rfl))) | (refine ⟨⟨i + 1, hlt⟩, ?_, rfl, ?_⟩) | (with_reducible refine CD.wk_au ?_) | (with_reducible first | refine andB_in ?_ ?_ | refine andB_lt ?_ ?_ | refine andB_le ?_ ?_ | refine andB_d ?_ ?_ | refine andB_i ?_ ?_ | refine iteB_lts (fun hB => ?_) (fun hB => ?_) | refine iteB_les (fun hB => ?_) (fun hB => ?_) | refine iteB_ds (fun hB => ?_) (fun hB => ?_) | refine iteB_s (fun hB => ?_) (fun hB => ?_) | refine CD.wk_as ?_ | refine And.intro ?_ ?_))
              all_goals ((conv => whnf); (try dsimp only); (try simp only [Nat.succ_eq_add_one, Nat.le_eq, castL_self]); (try omega))
              all_goals (try (first | omega | (simp only [lens] <;> omega)))
              all_goals trace_state
          · have he : i = J := Nat.le_antisymm hi2 hge
            subst he
            rw [show (rowE E i).2.1 = w from ew0] at hyes
            obtain ⟨y1, y2⟩ := hyes
            have hkp : Int.toNat ((((Sym.rowAt entE E (Int.toNat (i : Int))).2.1 - i0) % 18446744073709551616 - 1) % 18446744073709551616) = K := by rw [← ew]; omega
            cases hb1 : termI i0 t0 L (Sym.rowAt entE E (Int.toNat (i : Int))).2.1 with
            | true =>
              have hb2 : ¬ @Eq Int (termV i0 t0 L (Sym.rowAt entE E (Int.toNat (i : Int))).2.1) (Sym.rowAt entE E (Int.toNat (i : Int))).1 := by
                rw [← ew] at hb1 ⊢
                exact fun g => y2 ⟨hb1, g⟩
              repeat' (conv => whnf
                       first | (with_reducible first | exact True.intro | rfl | exact castL_self _ _ | refine iteB_n ?_ | refine iteB_ct ?_ | refine iteB_cf ?_ | refine iteB_bt ?_ | refine iteB_bf ?_ | refine iteB_tb ?_ | refine iteB_fb ?_) | ((with_reducible refine V.same_t ?_); exact rfl) | ((with_reducible refine andB_room ?_ ?_ ?_); (· kernel_rfl); (· (first | omega | (simp only [lens] <;> omega)))) | ((with_reducible first | refine andB_in ?_ ?_ | refine andB_d ?_ ?_ | refine andB_lt ?_ ?_ | refine andB_le ?_ ?_ | refine iteB_ltt ?_ ?_ | refine iteB_let ?_ ?_ | refine iteB_dt ?_ ?_); · (first | (with_reducible assumption) | (first | omega | (simp only [lens] <;> omega)))) | ((with_reducible first | refine iteB_ltf ?_ ?_ | refine iteB_lef ?_ ?_ | refine iteB_df ?_ ?_); · (first | (with_reducible assumption) | (first | omega | (simp only [lens] <;> omega)))) | ((with_reducible first | refine andB_i ?_ ?_ | refine iteB_t ?_ ?_); · (first | (with_reducible first | assumption | exact decide_eq_true rfl | exact sEq_self _) | ((with_reducible refine eqOK_i ?_); kernel_rfl))) | ((with_reducible refine iteB_f ?_ ?_); · (first | (with_reducible first | assumption | exact decide_eq_true rfl | exact sEq_self _) | ((with_reducible refine eqOK_i ?_); kernel_rfl))) | (with_reducible refine CD.wk_au ?_) | (with_reducible first | refine andB_in ?_ ?_ | refine andB_lt ?_ ?_ | refine andB_le ?_ ?_ | refine andB_d ?_ ?_ | refine andB_i ?_ ?_ | refine iteB_lts (fun hB => ?_) (fun hB => ?_) | refine iteB_les (fun hB => ?_) (fun hB => ?_) | refine iteB_ds (fun hB => ?_) (fun hB => ?_) | refine iteB_s (fun hB => ?_) (fun hB => ?_) | refine CD.wk_as ?_ | refine And.intro ?_ ?_))
              all_goals ((conv => whnf); (try dsimp only); (try simp only [Nat.succ_eq_add_one, Nat.le_eq, castL_self]); (try omega))
              all_goals (try (first | omega | (simp only [lens] <;> omega)))
              all_goals first
                | (rw [eP, hkp]; rfl)
                | trace_state
            | false =>
              repeat' (conv => whnf
                       first | (with_reducible first | exact True.intro | rfl | exact castL_self _ _ | refine iteB_n ?_ | refine iteB_ct ?_ | refine iteB_cf ?_ | refine iteB_bt ?_ | refine iteB_bf ?_ | refine iteB_tb ?_ | refine iteB_fb ?_) | ((with_reducible refine V.same_t ?_); exact rfl) | ((with_reducible refine andB_room ?_ ?_ ?_); (· kernel_rfl); (· (first | omega | (simp only [lens] <;> omega)))) | ((with_reducible first | refine andB_in ?_ ?_ | refine andB_d ?_ ?_ | refine andB_lt ?_ ?_ | refine andB_le ?_ ?_ | refine iteB_ltt ?_ ?_ | refine iteB_let ?_ ?_ | refine iteB_dt ?_ ?_); · (first | (with_reducible assumption) | (first | omega | (simp only [lens] <;> omega)))) | ((with_reducible first | refine iteB_ltf ?_ ?_ | refine iteB_lef ?_ ?_ | refine iteB_df ?_ ?_); · (first | (with_reducible assumption) | (first | omega | (simp only [lens] <;> omega)))) | ((with_reducible first | refine andB_i ?_ ?_ | refine iteB_t ?_ ?_); · (first | (with_reducible first | assumption | exact decide_eq_true rfl | exact sEq_self _) | ((with_reducible refine eqOK_i ?_); kernel_rfl))) | ((with_reducible refine iteB_f ?_ ?_); · (first | (with_reducible first | assumption | exact decide_eq_true rfl | exact sEq_self _) | ((with_reducible refine eqOK_i ?_); kernel_rfl))) | (with_reducible refine CD.wk_au ?_) | (with_reducible first | refine andB_in ?_ ?_ | refine andB_lt ?_ ?_ | refine andB_le ?_ ?_ | refine andB_d ?_ ?_ | refine andB_i ?_ ?_ | refine iteB_lts (fun hB => ?_) (fun hB => ?_) | refine iteB_les (fun hB => ?_) (fun hB => ?_) | refine iteB_ds (fun hB => ?_) (fun hB => ?_) | refine iteB_s (fun hB => ?_) (fun hB => ?_) | refine CD.wk_as ?_ | refine And.intro ?_ ?_))
              all_goals ((conv => whnf); (try dsimp only); (try simp only [Nat.succ_eq_add_one, Nat.le_eq, castL_self]); (try omega))
              all_goals (try (first | omega | (simp only [lens] <;> omega)))
              all_goals first
                | (rw [eP, hkp]; rfl)
                | trace_state
        · rcases hp.2 with ha | ⟨ha1, ha2⟩
          all_goals
            repeat' (conv => whnf
                     first | (with_reducible first | exact True.intro | rfl | exact castL_self _ _ | refine iteB_n ?_ | refine iteB_ct ?_ | refine iteB_cf ?_ | refine iteB_bt ?_ | refine iteB_bf ?_ | refine iteB_tb ?_ | refine iteB_fb ?_) | ((with_reducible refine V.same_t ?_); exact rfl) | ((with_reducible refine andB_room ?_ ?_ ?_); (· kernel_rfl); (· (first | omega | (simp only [lens] <;> omega)))) | ((with_reducible first | refine andB_in ?_ ?_ | refine andB_d ?_ ?_ | refine andB_lt ?_ ?_ | refine andB_le ?_ ?_ | refine iteB_ltt ?_ ?_ | refine iteB_let ?_ ?_ | refine iteB_dt ?_ ?_); · (first | (with_reducible assumption) | (first | omega | (simp only [lens] <;> omega)))) | ((with_reducible first | refine iteB_ltf ?_ ?_ | refine iteB_lef ?_ ?_ | refine iteB_df ?_ ?_); · (first | (with_reducible assumption) | (first | omega | (simp only [lens] <;> omega)))) | ((with_reducible first | refine andB_i ?_ ?_ | refine iteB_t ?_ ?_); · (first | (with_reducible first | assumption | exact decide_eq_true rfl | exact sEq_self _) | ((with_reducible refine eqOK_i ?_); kernel_rfl) | (exact hf))) | ((with_reducible refine iteB_f ?_ ?_); · (first | (with_reducible first | assumption | exact decide_eq_true rfl | exact sEq_self _) | ((with_reducible refine eqOK_i ?_); kernel_rfl) | (exact hf))) | (with_reducible refine CD.wk_au ?_) | (with_reducible first | refine andB_in ?_ ?_ | refine andB_lt ?_ ?_ | refine andB_le ?_ ?_ | refine andB_d ?_ ?_ | refine andB_i ?_ ?_ | refine iteB_lts (fun hB => ?_) (fun hB => ?_) | refine iteB_les (fun hB => ?_) (fun hB => ?_) | refine iteB_ds (fun hB => ?_) (fun hB => ?_) | refine iteB_s (fun hB => ?_) (fun hB => ?_) | refine CD.wk_as ?_ | refine And.intro ?_ ?_))
            all_goals ((conv => whnf); (try dsimp only); (try simp only [Nat.succ_eq_add_one, Nat.le_eq, castL_self]); (try omega))
            all_goals (try (first | omega | (simp only [lens] <;> omega)))
          all_goals first
            | omega
            | exact seg_all _ rfl
            | rfl
            | exact (lastP_0 (by omega)).symm
            | (rw [lastP_1 (by omega), show (((List.length (α := EnR) E : Nat) : Int) - 1).toNat = List.length (α := EnR) E - 1 by omega]; done)
            | (rw [lastP_1 (by omega), show (((List.length (α := EnR) E : Nat) : Int) - 1).toNat = List.length (α := EnR) E - 1 by omega]; rfl)
            | trace_state
      · have eL : putL0 i0 t0 L idx E = L := if_neg (by omega)
        rw [eL]
        refine heap_of_W tabR3_ok (fuel := 3) (d := 6) (N := 1) rfl rfl [⟨10, [], puC i0 t0 L idx E ty 0, .leaf (.exit 0) (puC i0 t0 L idx E ty E.length)⟩] (fun N l hl => ?_) ?_
        · rw [List.mem_singleton.1 hl]
          refine LpD.ok_one (b := bodyAt Try.prog 24 10) rfl (loop_W tabR3_ok (fuel := 3) (d := 5) (X := { i : Nat // i ≤ E.length }) (fun x => puC i0 t0 L idx E ty x.1) (fun x => E.length - x.1)
            (fun _ => .leaf (.exit 0) (puC i0 t0 L idx E ty E.length)) (fun _ => noLpW) (fun _ => noLp) (fun _ => noLp_ad) (fun _ => noLp_ok _) ?_ ⟨0, Nat.zero_le _⟩)
          rintro ⟨i, hi2⟩
          dsimp only
          rcases Nat.lt_or_ge i E.length with hlt | hge
          · have rE := hrowE i hlt
            have hEr := hEr i hlt
            obtain ⟨w, ew⟩ : ∃ w : Int, @Eq Int w (Sym.rowAt entE E (Int.toNat (i : Int))).2.1 := ⟨_, rfl⟩
            have ew0 : @Eq Int (Sym.rowAt entE E i).2.1 w := ew.symm
            have ha := hnm i (Nat.lt_of_lt_of_le hlt hJ)
            rw [show (rowE E i).2.1 = w from ew0] at ha
            rcases ha with ha | ⟨ha1, ha2⟩
            · repeat' (conv => whnf
                       first | (with_reducible first | exact True.intro | rfl | exact castL_self _ _ | refine iteB_n ?_ | refine iteB_ct ?_ | refine iteB_cf ?_ | refine iteB_bt ?_ | refine iteB_bf ?_ | refine iteB_tb ?_ | refine iteB_fb ?_) | ((with_reducible refine V.same_t ?_); exact rfl) | ((with_reducible refine andB_room ?_ ?_ ?_); (· kernel_rfl); (· (first | omega | (simp only [lens] <;> omega)))) | ((with_reducible first | refine andB_in ?_ ?_ | refine andB_d ?_ ?_ | refine andB_lt ?_ ?_ | refine andB_le ?_ ?_ | refine iteB_ltt ?_ ?_ | refine iteB_let ?_ ?_ | refine iteB_dt ?_ ?_); · (first | (with_reducible assumption) | (first | omega | (simp only [lens] <;> omega)))) | ((with_reducible first | refine iteB_ltf ?_ ?_ | refine iteB_lef ?_ ?_ | refine iteB_df ?_ ?_); · (first | (with_reducible assumption) | (first | omega | (simp only [lens] <;> omega)))) | ((with_reducible first | refine andB_i ?_ ?_ | refine iteB_t ?_ ?_); · (first | (with_reducible first | assumption | exact decide_eq_true rfl | exact sEq_self _) | ((with_reducible refine eqOK_i ?_); kernel_rfl))) | ((with_reducible refine iteB_f ?_ ?_); · (first | (with_reducible first | assumption | exact decide_eq_true rfl | exact sEq_self _) | ((with_reducible refine eqOK_i ?_); kernel_rfl))) | (refine ⟨⟨i + 1, hlt⟩, ?_, rfl, ?_⟩) | (with_reducible refine CD.wk_au ?_) | (with_reducible first | refine andB_in ?_ ?_ | refine andB_lt ?_ ?_ | refine andB_le ?_ ?_ | refine andB_d ?_ ?_ | refine andB_i ?_ ?_ | refine iteB_lts (fun hB => ?_) (fun hB => ?_) | refine iteB_les (fun hB => ?_) (fun hB => ?_) | refine iteB_ds (fun hB => ?_) (fun hB => ?_) | refine iteB_s (fun hB => ?_) (fun hB => ?_) | refine CD.wk_as ?_ | refine And.intro ?_ ?_))
              all_goals ((conv => whnf); (try dsimp only); (try simp only [Nat.succ_eq_add_one, Nat.le_eq, castL_self]); (try omega))
              all_goals (try (first | omega | (simp only [lens] <;> omega)))
              all_goals trace_state
            · have hb1 : termI i0 t0 L (Sym.rowAt entE E (Int.toNat (i : Int))).2.1 = true := by rw [← ew]; exact ha1
              have hb2 : @Eq Int (termV i0 t0 L (Sym.rowAt entE E (Int.toNat (i : Int))).2.1) (Sym.rowAt entE E (Int.toNat (i : Int))).1 := by rw [← ew]; exact ha2
              repeat' (conv => whnf
                       first | (with_reducible first | exact True.intro | rfl | exact castL_self _ _ | refine iteB_n ?_ | refine iteB_ct ?_ | refine iteB_cf ?_ | refine iteB_bt ?_ | refine iteB_bf ?_ | refine iteB_tb ?_ | refine iteB_fb ?_) | ((with_reducible refine V.same_t ?_); exact rfl) | ((with_reducible refine andB_room ?_ ?_ ?_); (· kernel_rfl); (· (first | omega | (simp only [lens] <;> omega)))) | ((with_reducible first | refine andB_in ?_ ?_ | refine andB_d ?_ ?_ | refine andB_lt ?_ ?_ | refine andB_le ?_ ?_ | refine iteB_ltt ?_ ?_ | refine iteB_let ?_ ?_ | refine iteB_dt ?_ ?_); · (first | (with_reducible assumption) | (first | omega | (simp only [lens] <;> omega)))) | ((with_reducible first | refine iteB_ltf ?_ ?_ | refine iteB_lef ?_ ?_ | refine iteB_df ?_ ?_); · (first | (with_reducible assumption) | (first | omega | (simp only [lens] <;> omega)))) | ((with_reducible first | refine andB_i ?_ ?_ | refine iteB_t ?_ ?_); · (first | (with_reducible first | assumption | exact decide_eq_true rfl | exact sEq_self _) | ((with_reducible refine eqOK_i ?_); kernel_rfl))) | ((with_reducible refine iteB_f ?_ ?_); · (first | (with_reducible first | assumption | exact decide_eq_true rfl | exact sEq_self _) | ((with_reducible refine eqOK_i ?_); kernel_rfl))) | (refine ⟨⟨i + 1, hlt⟩, ?_, rfl, ?_⟩) | (with_reducible refine CD.wk_au ?_) | (with_reducible first | refine andB_in ?_ ?_ | refine andB_lt ?_ ?_ | refine andB_le ?_ ?_ | refine andB_d ?_ ?_ | refine andB_i ?_ ?_ | refine iteB_lts (fun hB => ?_) (fun hB => ?_) | refine iteB_les (fun hB => ?_) (fun hB => ?_) | refine iteB_ds (fun hB => ?_) (fun hB => ?_) | refine iteB_s (fun hB => ?_) (fun hB => ?_) | refine CD.wk_as ?_ | refine And.intro ?_ ?_))
              all_goals ((conv => whnf); (try dsimp only); (try simp only [Nat.succ_eq_add_one, Nat.le_eq, castL_self]); (try omega))
              all_goals (try (first | omega | (simp only [lens] <;> omega)))
              all_goals trace_state
          · have he : i = E.length := Nat.le_antisymm hi2 hge
            subst he
            repeat' (conv => whnf
                     first | (with_reducible first | exact True.intro | rfl | exact castL_self _ _ | refine iteB_n ?_ | refine iteB_ct ?_ | refine iteB_cf ?_ | refine iteB_bt ?_ | refine iteB_bf ?_ | refine iteB_tb ?_ | refine iteB_fb ?_) | ((with_reducible refine V.same_t ?_); exact rfl) | ((with_reducible refine andB_room ?_ ?_ ?_); (· kernel_rfl); (· (first | omega | (simp only [lens] <;> omega)))) | ((with_reducible first | refine andB_in ?_ ?_ | refine andB_d ?_ ?_ | refine andB_lt ?_ ?_ | refine andB_le ?_ ?_ | refine iteB_ltt ?_ ?_ | refine iteB_let ?_ ?_ | refine iteB_dt ?_ ?_); · (first | (with_reducible assumption) | (first | omega | (simp only [lens] <;> omega)))) | ((with_reducible first | refine iteB_ltf ?_ ?_ | refine iteB_lef ?_ ?_ | refine iteB_df ?_ ?_); · (first | (with_reducible assumption) | (first | omega | (simp only [lens] <;> omega)))) | ((with_reducible first | refine andB_i ?_ ?_ | refine iteB_t ?_ ?_); · (first | (with_reducible first | assumption | exact decide_eq_true rfl | exact sEq_self _) | ((with_reducible refine eqOK_i ?_); kernel_rfl))) | ((with_reducible refine iteB_f ?_ ?_); · (first | (with_reducible first | assumption | exact decide_eq_true rfl | exact sEq_self _) | ((with_reducible refine eqOK_i ?_); kernel_rfl))) | (with_reducible refine CD.wk_au ?_) | (with_reducible first | refine andB_in ?_ ?_ | refine andB_lt ?_ ?_ | refine andB_le ?_ ?_ | refine andB_d ?_ ?_ | refine andB_i ?_ ?_ | refine iteB_lts (fun hB => ?_) (fun hB => ?_) | refine iteB_les (fun hB => ?_) (fun hB => ?_) | refine iteB_ds (fun hB => ?_) (fun hB => ?_) | refine iteB_s (fun hB => ?_) (fun hB => ?_) | refine CD.wk_as ?_ | refine And.intro ?_ ?_))
            all_goals ((conv => whnf); (try dsimp only); (try simp only [Nat.succ_eq_add_one, Nat.le_eq, castL_self]); (try omega))
            all_goals (try (first | omega | (simp only [lens] <;> omega)))
            all_goals trace_state
        · rcases hp.2 with ha | ⟨ha1, ha2⟩
          all_goals
            repeat' (conv => whnf
                     first | (with_reducible first | exact True.intro | rfl | exact castL_self _ _ | refine iteB_n ?_ | refine iteB_ct ?_ | refine iteB_cf ?_ | refine iteB_bt ?_ | refine iteB_bf ?_ | refine iteB_tb ?_ | refine iteB_fb ?_) | ((with_reducible refine V.same_t ?_); exact rfl) | ((with_reducible refine andB_room ?_ ?_ ?_); (· kernel_rfl); (· (first | omega | (simp only [lens] <;> omega)))) | ((with_reducible first | refine andB_in ?_ ?_ | refine andB_d ?_ ?_ | refine andB_lt ?_ ?_ | refine andB_le ?_ ?_ | refine iteB_ltt ?_ ?_ | refine iteB_let ?_ ?_ | refine iteB_dt ?_ ?_); · (first | (with_reducible assumption) | (first | omega | (simp only [lens] <;> omega)))) | ((with_reducible first | refine iteB_ltf ?_ ?_ | refine iteB_lef ?_ ?_ | refine iteB_df ?_ ?_); · (first | (with_reducible assumption) | (first | omega | (simp only [lens] <;> omega)))) | ((with_reducible first | refine andB_i ?_ ?_ | refine iteB_t ?_ ?_); · (first | (with_reducible first | assumption | exact decide_eq_true rfl | exact sEq_self _) | ((with_reducible refine eqOK_i ?_); kernel_rfl) | (exact hf))) | ((with_reducible refine iteB_f ?_ ?_); · (first | (with_reducible first | assumption | exact decide_eq_true rfl | exact sEq_self _) | ((with_reducible refine eqOK_i ?_); kernel_rfl) | (exact hf))) | (with_reducible refine CD.wk_au ?_) | (with_reducible first | refine andB_in ?_ ?_ | refine andB_lt ?_ ?_ | refine andB_le ?_ ?_ | refine andB_d ?_ ?_ | refine andB_i ?_ ?_ | refine iteB_lts (fun hB => ?_) (fun hB => ?_) | refine iteB_les (fun hB => ?_) (fun hB => ?_) | refine iteB_ds (fun hB => ?_) (fun hB => ?_) | refine iteB_s (fun hB => ?_) (fun hB => ?_) | refine CD.wk_as ?_ | refine And.intro ?_ ?_))
            all_goals ((conv => whnf); (try dsimp only); (try simp only [Nat.succ_eq_add_one, Nat.le_eq, castL_self]); (try omega))
            all_goals (try (first | omega | (simp only [lens] <;> omega)))
          all_goals first
            | omega
            | exact seg_all _ rfl
            | rfl
            | exact (lastP_0 (by omega)).symm
            | (rw [lastP_1 (by omega), show (((List.length (α := EnR) E : Nat) : Int) - 1).toNat = List.length (α := EnR) E - 1 by omega]; done)
            | (rw [lastP_1 (by omega), show (((List.length (α := EnR) E : Nat) : Int) - 1).toNat = List.length (α := EnR) E - 1 by omega]; rfl)
            | trace_state
    · obtain ⟨e1, e2, e3, e4⟩ := put_no hf hp
      rw [e1, e2, e3, e4]
      have hn : ¬ (idx < i0 ∨ (termI i0 t0 L idx = true ∧ termV i0 t0 L idx = trm)) := fun g => hp ⟨hf, g⟩
      have hge : i0 ≤ idx := by omega
      have hlb := logB_ok hL
      refine heap_of_W tabR3_ok (fuel := 3) (d := 6) (N := 1) rfl rfl [] (fun _ _ h => by cases h) ?_
      cases hI : termI i0 t0 L idx with
      | false =>
        repeat' (conv => whnf
                 first | (with_reducible first | exact True.intro | rfl | exact castL_self _ _ | refine iteB_n ?_ | refine iteB_ct ?_ | refine iteB_cf ?_ | refine iteB_bt ?_ | refine iteB_bf ?_ | refine iteB_tb ?_ | refine iteB_fb ?_) | ((with_reducible refine V.same_t ?_); exact rfl) | ((with_reducible refine andB_room ?_ ?_ ?_); (· kernel_rfl); (· (first | omega | (simp only [lens] <;> omega)))) | ((with_reducible first | refine andB_in ?_ ?_ | refine andB_d ?_ ?_ | refine andB_lt ?_ ?_ | refine andB_le ?_ ?_ | refine iteB_ltt ?_ ?_ | refine iteB_let ?_ ?_ | refine iteB_dt ?_ ?_); · (first | (with_reducible assumption) | (first | omega | (simp only [lens] <;> omega)))) | ((with_reducible first | refine iteB_ltf ?_ ?_ | refine iteB_lef ?_ ?_ | refine iteB_df ?_ ?_); · (first | (with_reducible assumption) | (first | omega | (simp only [lens] <;> omega)))) | ((with_reducible first | refine andB_i ?_ ?_ | refine iteB_t ?_ ?_); · (first | (with_reducible first | assumption | exact decide_eq_true rfl | exact sEq_self _) | ((with_reducible refine eqOK_i ?_); kernel_rfl) | (first | exact hf | exact hlb))) | ((with_reducible refine iteB_f ?_ ?_); · (first | (with_reducible first | assumption | exact decide_eq_true rfl | exact sEq_self _) | ((with_reducible refine eqOK_i ?_); kernel_rfl) | (first | exact hf | exact hlb))) | (with_reducible refine CD.wk_au ?_) | (with_reducible first | refine andB_in ?_ ?_ | refine andB_lt ?_ ?_ | refine andB_le ?_ ?_ | refine andB_d ?_ ?_ | refine andB_i ?_ ?_ | refine iteB_lts (fun hB => ?_) (fun hB => ?_) | refine iteB_les (fun hB => ?_) (fun hB => ?_) | refine iteB_ds (fun hB => ?_) (fun hB => ?_) | refine iteB_s (fun hB => ?_) (fun hB => ?_) | refine CD.wk_as ?_ | refine And.intro ?_ ?_))
        all_goals ((conv => whnf); (try dsimp only); (try simp only [Nat.succ_eq_add_one, Nat.le_eq, castL_self]); (try omega))
        all_goals (try (first | omega | (simp only [lens] <;> omega)))
        all_goals trace_state
      | true =>
        have hne : ¬ termV i0 t0 L idx = trm := fun g => hn (.inr ⟨hI, g⟩)
        repeat' (conv => whnf
                 first | (with_reducible first | exact True.intro | rfl | exact castL_self _ _ | refine iteB_n ?_ | refine iteB_ct ?_ | refine iteB_cf ?_ | refine iteB_bt ?_ | refine iteB_bf ?_ | refine iteB_tb ?_ | refine iteB_fb ?_) | ((with_reducible refine V.same_t ?_); exact rfl) | ((with_reducible refine andB_room ?_ ?_ ?_); (· kernel_rfl); (· (first | omega | (simp only [lens] <;> omega)))) | ((with_reducible first | refine andB_in ?_ ?_ | refine andB_d ?_ ?_ | refine andB_lt ?_ ?_ | refine andB_le ?_ ?_ | refine iteB_ltt ?_ ?_ | refine iteB_let ?_ ?_ | refine iteB_dt ?_ ?_); · (first | (with_reducible assumption) | (first | omega | (simp only [lens] <;> omega)))) | ((with_reducible first | refine iteB_ltf ?_ ?_ | refine iteB_lef ?_ ?_ | refine iteB_df ?_ ?_); · (first | (with_reducible assumption) | (first | omega | (simp only [lens] <;> omega)))) | ((with_reducible first | refine andB_i ?_ ?_ | refine iteB_t ?_ ?_); · (first | (with_reducible first | assumption | exact decide_eq_true rfl | exact sEq_self _) | ((with_reducible refine eqOK_i ?_); kernel_rfl) | (first | exact hf | exact hlb))) | ((with_reducible refine iteB_f ?_ ?_); · (first | (with_reducible first | assumption | exact decide_eq_true rfl | exact sEq_self _) | ((with_reducible refine eqOK_i ?_); kernel_rfl) | (first | exact hf | exact hlb))) | (with_reducible refine CD.wk_au ?_) | (with_reducible first | refine andB_in ?_ ?_ | refine andB_lt ?_ ?_ | refine andB_le ?_ ?_ | refine andB_d ?_ ?_ | refine andB_i ?_ ?_ | refine iteB_lts (fun hB => ?_) (fun hB => ?_) | refine iteB_les (fun hB => ?_) (fun hB => ?_) | refine iteB_ds (fun hB => ?_) (fun hB => ?_) | refine iteB_s (fun hB => ?_) (fun hB => ?_) | refine CD.wk_as ?_ | refine And.intro ?_ ?_))
        all_goals ((conv => whnf); (try dsimp only); (try simp only [Nat.succ_eq_add_one, Nat.le_eq, castL_self]); (try omega))
        all_goals (try (first | omega | (simp only [lens] <;> omega)))
        all_goals trace_state
end
noncomputable def asLog (o : EObj) : Option (TypeId × LogR) := match o with
  | .cells cs ty ish => (match cs, ish with
    | [.int .u64 i0, .int .u64 t0, .lst e L false], false => (match asL entE e L with
      | some M => some (ty, i0, t0, (M : List EnR))
      | none => none)
    | _, _ => none)
  | _ => none
theorem asLog_eq {o : EObj} {ty : TypeId} {i0 t0 : Int} {L : List EnR} (h : asLog o = some (ty, i0, t0, L)) : o = logO i0 t0 L ty := by
  unfold asLog at h
  split at h
  · split at h
    · split at h
      · rename_i M hM
        cases h
        obtain ⟨q, e1⟩ := asL_eq hM
        subst q
        have e1 := e1.symm
        subst e1
        rfl
      · cases h
    · cases h
  · cases h
open Classical in
noncomputable def rowsB : List EnR → Bool := hide fun E => decide (E.length ≤ 1000000 ∧ ∀ j, j < E.length → 0 ≤ (rowE E j).2.1 ∧ (rowE E j).2.1 < 18446744073709551616)
open Classical in
theorem rowsB_ok {E : List EnR} (h : E.length ≤ 1000000) (h2 : ∀ j, j < E.length → 0 ≤ (rowE E j).2.1 ∧ (rowE E j).2.1 < 18446744073709551616) : rowsB E = true := by
  unfold rowsB
  rw [hide_eq]
  exact decide_eq_true ⟨h, h2⟩
open Classical in
theorem rowsB_of {E : List EnR} (h : rowsB E = true) : E.length ≤ 1000000 ∧ ∀ j, j < E.length → 0 ≤ (rowE E j).2.1 ∧ (rowE E j).2.1 < 18446744073709551616 := by
  unfold rowsB at h
  rw [hide_eq] at h
  exact of_decide_eq_true h
noncomputable def hputF (args : List V) (os : List EObj) : Option HRes := match args, os with
  | [.ptr 0 0, .int .u64 idx, .int .u64 trm, b], [o] => (match asLog o, ofLst entE b with
    | some (ty, i0, t0, L), some E => some ([logB i0 t0 L, leI 0 idx, ltI idx 18446744073709551616, rowsB E], .tup [.int .u64 (pLast i0 t0 L idx trm E), .int .u64 (pHint i0 t0 L idx trm E), .bool (pOk i0 t0 L idx trm E)], [(0, logO i0 t0 (pLog i0 t0 L idx trm E) ty)], 1)
    | _, _ => none)
  | _, _ => none
theorem hputF_ok (args : List V) (os : List EObj) (c : List Bool) (v : V) (h' : List (Nat × EObj)) (n' : Nat) (h : hputF args os = some (c, v, h', n')) (hc : allB c) : HeapAt Try.prog 1 24 args os v h' n' := by
  unfold hputF at h
  split at h
  · rename_i idx trm b o
    split at h
    · rename_i ty i0 t0 L E ho hE
      cases h
      obtain rfl := asLog_eq ho
      obtain ⟨c1, c2, c3, c4, _⟩ := hc
      rw [leI_eq] at c2
      rw [ltI_eq] at c3
      obtain ⟨e1, e2⟩ := rowsB_of c4
      exact HeapAt.lst (pre := [.ptr 0 0, .int .u64 idx, .int .u64 trm]) (rest := []) (put_full i0 t0 L idx trm E ty (logB_of c1) ⟨of_decide_eq_true c2, of_decide_eq_true c3⟩ e1 e2) hE
    · cases h
  · cases h
end Go.Proofs.Ytlkbmjdgfbciaaa
end

section
namespace Go.Proofs.Ytlkbmjdgfbciaaa
open Go.Sym
set_option linter.unusedVariables false
set_option linter.unusedSimpArgs false
set_option maxRecDepth 100000
set_option maxHeartbeats 4000000

noncomputable def lastT : Int → List EnR → Int := hide fun t0 L => if L.length = 0 then t0 else (rowE L (L.length - 1)).1
theorem lastT_0 {t0 : Int} {L : List EnR} (h : L.length = 0) : lastT t0 L = t0 := by unfold lastT; rw [hide_eq]; exact if_pos h
theorem lastT_1 {t0 : Int} {L : List EnR} (h : L.length ≠ 0) : lastT t0 L = (rowE L (L.length - 1)).1 := by unfold lastT; rw [hide_eq]; exact if_neg h
def pushAt (i0 t0 : Int) (L : List EnR) (trm : Int) (d : ByteArray) : Prop := lastT t0 L ≤ trm ∧ trm ≠ 0 ∧ (d.size : Int) ≤ 4000 ∧ i0 + L.length < 1099511627776
noncomputable instance (i0 t0 : Int) (L : List EnR) (trm : Int) (d : ByteArray) : Decidable (pushAt i0 t0 L trm d) := Classical.propDecidable _
noncomputable def pushV : Int → Int → List EnR → Int → ByteArray → Int := hide fun i0 t0 L trm d => if pushAt i0 t0 L trm d then i0 + L.length + 1 else 0
noncomputable def pushL : Int → Int → List EnR → Int → ByteArray → List EnR := hide fun i0 t0 L trm d => if pushAt i0 t0 L trm d then L ++ [(trm, i0 + L.length + 1, d)] else L
theorem push_yes {i0 t0 : Int} {L : List EnR} {trm : Int} {d : ByteArray} (h : pushAt i0 t0 L trm d) : pushV i0 t0 L trm d = i0 + L.length + 1 ∧ pushL i0 t0 L trm d = L ++ [(trm, i0 + L.length + 1, d)] := by
  unfold pushV pushL; rw [hide_eq, hide_eq]; exact ⟨if_pos h, if_pos h⟩
theorem push_no {i0 t0 : Int} {L : List EnR} {trm : Int} {d : ByteArray} (h : ¬ pushAt i0 t0 L trm d) : pushV i0 t0 L trm d = 0 ∧ pushL i0 t0 L trm d = L := by
  unfold pushV pushL; rw [hide_eq, hide_eq]; exact ⟨if_neg h, if_neg h⟩
noncomputable def compE : Int → Int → List EnR → Int → Int := hide fun i0 t0 L i => if termI i0 t0 L i = true then 0 else 2
noncomputable def compI : Int → Int → List EnR → Int → Int := hide fun i0 t0 L i => if termI i0 t0 L i = true then i else i0
noncomputable def compT : Int → Int → List EnR → Int → Int := hide fun i0 t0 L i => if termI i0 t0 L i = true then termV i0 t0 L i else t0
noncomputable def compL : Int → Int → List EnR → Int → List EnR := hide fun i0 t0 L i => if termI i0 t0 L i = true then L.drop (i - i0).toNat else L
theorem comp_yes {i0 t0 : Int} {L : List EnR} {i : Int} (h : termI i0 t0 L i = true) : compE i0 t0 L i = 0 ∧ compI i0 t0 L i = i ∧ compT i0 t0 L i = termV i0 t0 L i ∧ compL i0 t0 L i = L.drop (i - i0).toNat := by
  unfold compE compI compT compL; rw [hide_eq, hide_eq, hide_eq, hide_eq]; exact ⟨if_pos h, if_pos h, if_pos h, if_pos h⟩
theorem comp_no {i0 t0 : Int} {L : List EnR} {i : Int} (h : ¬ termI i0 t0 L i = true) : compE i0 t0 L i = 2 ∧ compI i0 t0 L i = i0 ∧ compT i0 t0 L i = t0 ∧ compL i0 t0 L i = L := by
  unfold compE compI compT compL; rw [hide_eq, hide_eq, hide_eq, hide_eq]; exact ⟨if_neg h, if_neg h, if_neg h, if_neg h⟩
def restAt (i0 idx trm : Int) : Prop := idx ≠ 0 ∧ trm ≠ 0 ∧ idx ≤ 1099511627776 ∧ i0 < idx
noncomputable instance (i0 idx trm : Int) : Decidable (restAt i0 idx trm) := Classical.propDecidable _
noncomputable def restI : Int → Int → Int → Int := hide fun i0 idx trm => if restAt i0 idx trm then idx else i0
noncomputable def restT : Int → Int → Int → Int → Int := hide fun i0 t0 idx trm => if restAt i0 idx trm then trm else t0
noncomputable def restL : Int → Int → List EnR → Int → Int → List EnR := hide fun i0 t0 L idx trm => if restAt i0 idx trm then (if termI i0 t0 L idx = true ∧ termV i0 t0 L idx = trm then L.drop (idx - i0).toNat else []) else L
theorem rest_yes {i0 t0 : Int} {L : List EnR} {idx trm : Int} (h : restAt i0 idx trm) : restI i0 idx trm = idx ∧ restT i0 t0 idx trm = trm ∧ restL i0 t0 L idx trm = (if termI i0 t0 L idx = true ∧ termV i0 t0 L idx = trm then L.drop (idx - i0).toNat else []) := by
  unfold restI restT restL; rw [hide_eq, hide_eq, hide_eq]; exact ⟨if_pos h, if_pos h, if_pos h⟩
theorem rest_no {i0 t0 : Int} {L : List EnR} {idx trm : Int} (h : ¬ restAt i0 idx trm) : restI i0 idx trm = i0 ∧ restT i0 t0 idx trm = t0 ∧ restL i0 t0 L idx trm = L := by
  unfold restI restT restL; rw [hide_eq, hide_eq, hide_eq]; exact ⟨if_neg h, if_neg h, if_neg h⟩

theorem push_leaf {L : List EnR} {x y : EnR} {n m : Nat} {k : Nat} (hn : n = L.length) (hm : m = L.length + 1) (hxy : x = y) : seg (List.drop 0 (List.take n L) ++ seg [x] 0 1) 0 m = L ++ [y] := by
  subst hxy
  rw [List.drop_zero, hn, List.take_length, seg_one x]
  exact seg_all _ (by rw [List.length_append, hm]; rfl)
section
variable (i0 t0 : Int) (L : List EnR) (ty : TypeId)
noncomputable def shC (a b : Int) (i : Nat) : CD := ⟨37, [(1, .int .u64 a), (2, .int .u64 b), (7, .rs 1 0 (slF a b L i).length (slF a b L i).length false 3), (15, .lst entE L false), (16, .int .i64 ((List.length (α := EnR) L : Nat) : Int)), (17, .int .i64 (i : Int))], [], [(0, logO i0 t0 L ty), (1, .rows entE (slF a b L i) 0 false)], 2⟩
theorem sliceH_at (a b : Int) (hL : L.length ≤ 1000000) : HeapAt Try.prog 1 31 [.ptr 0 0, .int .u64 a, .int .u64 b] [logO i0 t0 L ty] (.lst entE (slF a b L L.length) false) [(0, logO i0 t0 L ty)] 1 := by
  refine heap_of_W noTab_ok (fuel := 3) (d := 3) (N := 1) rfl rfl [⟨5, [], shC i0 t0 L ty a b 0, .leaf (.exit 0) (shC i0 t0 L ty a b L.length)⟩] (fun N l hl => ?_) ?_
  · rw [List.mem_singleton.1 hl]
    refine LpD.ok_one (b := bodyAt Try.prog 31 5) rfl (loop_W noTab_ok (fuel := 3) (d := 5) (X := { i : Nat // i ≤ L.length }) (fun x => shC i0 t0 L ty a b x.1) (fun x => L.length - x.1)
      (fun _ => .leaf (.exit 0) (shC i0 t0 L ty a b L.length)) (fun _ => noLpW) (fun _ => noLp) (fun _ => noLp_ad) (fun _ => noLp_ok _) ?_ ⟨0, Nat.zero_le _⟩)
    rintro ⟨i, hi⟩
    dsimp only
    have hl := slF_len a b L i
    have hl2 := slF_len2 a b L i
    rcases Nat.lt_or_ge i L.length with hlt | hge
    · by_cases hc : @LE.le Int _ a (Sym.rowAt entE L (Int.toNat (i : Int))).2.1 ∧ @LE.le Int _ (Sym.rowAt entE L (Int.toNat (i : Int))).2.1 b
      · obtain ⟨hc1, hc2⟩ := hc
        have hs := slF_yes hlt hc1 hc2
        have hn : (slF a b L (i + 1)).length = (slF a b L i).length + 1 := by rw [hs, List.length_append]; rfl
        repeat' (conv => whnf
                 first | (with_reducible first | exact True.intro | rfl | exact castL_self _ _ | refine iteB_n ?_ | refine iteB_ct ?_ | refine iteB_cf ?_ | refine iteB_bt ?_ | refine iteB_bf ?_ | refine iteB_tb ?_ | refine iteB_fb ?_) | ((with_reducible refine V.same_t ?_); exact rfl) | ((with_reducible refine andB_room ?_ ?_ ?_); (· kernel_rfl); (· (first | omega | (simp only [lens] <;> omega)))) | ((with_reducible first | refine andB_in ?_ ?_ | refine andB_d ?_ ?_ | refine andB_lt ?_ ?_ | refine andB_le ?_ ?_ | refine iteB_ltt ?_ ?_ | refine iteB_let ?_ ?_ | refine iteB_dt ?_ ?_); · (first | (with_reducible assumption) | (first | omega | (simp only [lens] <;> omega)))) | ((with_reducible first | refine iteB_ltf ?_ ?_ | refine iteB_lef ?_ ?_ | refine iteB_df ?_ ?_); · (first | (with_reducible assumption) | (first | omega | (simp only [lens] <;> omega)))) | ((with_reducible first | refine andB_i ?_ ?_ | refine iteB_t ?_ ?_); · (first | (with_reducible first | assumption | exact decide_eq_true rfl | exact sEq_self _) | ((with_reducible refine eqOK_i ?_); kernel_rfl))) | ((with_reducible refine iteB_f ?_ ?_); · (first | (with_reducible first | assumption | exact decide_eq_true rfl | exact sEq_self _) | ((with_reducible refine eqOK_i ?_); kernel_rfl))) | (refine ⟨⟨i + 1, hlt⟩, ?_, rfl, ?_⟩) | (with_reducible refine CD.wk_au ?_) | (with_reducible first | refine andB_in ?_ ?_ | refine andB_lt ?_ ?_ | refine andB_le ?_ ?_ | refine andB_d ?_ ?_ | refine andB_i ?_ ?_ | refine iteB_lts (fun hB => ?_) (fun hB => ?_) | refine iteB_les (fun hB => ?_) (fun hB => ?_) | refine iteB_ds (fun hB => ?_) (fun hB => ?_) | refine iteB_s (fun hB => ?_) (fun hB => ?_) | refine CD.wk_as ?_ | refine And.intro ?_ ?_))
        all_goals ((conv => whnf); (try dsimp only); (try simp only [Nat.succ_eq_add_one, Nat.le_eq, castL_self]); (try omega))
        all_goals (try (first | omega | (simp only [lens] <;> omega)))
        all_goals first
          | omega
          | (rw [hs, seg_all _ rfl]; rfl)
          | trace_state
      · have hs := slF_no hlt hc
        rw [not_and] at hc
        have hn : (slF a b L (i + 1)).length = (slF a b L i).length := by rw [hs]
        repeat' (conv => whnf
                 first | (with_reducible first | exact True.intro | rfl | exact castL_self _ _ | refine iteB_n ?_ | refine iteB_ct ?_ | refine iteB_cf ?_ | refine iteB_bt ?_ | refine iteB_bf ?_ | refine iteB_tb ?_ | refine iteB_fb ?_) | ((with_reducible refine V.same_t ?_); exact rfl) | ((with_reducible refine andB_room ?_ ?_ ?_); (· kernel_rfl); (· (first | omega | (simp only [lens] <;> omega)))) | ((with_reducible first | refine andB_in ?_ ?_ | refine andB_d ?_ ?_ | refine andB_lt ?_ ?_ | refine andB_le ?_ ?_ | refine iteB_ltt ?_ ?_ | refine iteB_let ?_ ?_ | refine iteB_dt ?_ ?_); · (first | (with_reducible assumption) | (first | omega | (simp only [lens] <;> omega)))) | ((with_reducible first | refine iteB_ltf ?_ ?_ | refine iteB_lef ?_ ?_ | refine iteB_df ?_ ?_); · (first | (with_reducible assumption) | (first | omega | (simp only [lens] <;> omega)))) | ((with_reducible first | refine andB_i ?_ ?_ | refine iteB_t ?_ ?_); · (first | (with_reducible first | assumption | exact decide_eq_true rfl | exact sEq_self _) | ((with_reducible refine eqOK_i ?_); kernel_rfl))) | ((with_reducible refine iteB_f ?_ ?_); · (first | (with_reducible first | assumption | exact decide_eq_true rfl | exact sEq_self _) | ((with_reducible refine eqOK_i ?_); kernel_rfl))) | (refine ⟨⟨i + 1, hlt⟩, ?_, rfl, ?_⟩) | (with_reducible refine CD.wk_au ?_) | (with_reducible first | refine andB_in ?_ ?_ | refine andB_lt ?_ ?_ | refine andB_le ?_ ?_ | refine andB_d ?_ ?_ | refine andB_i ?_ ?_ | refine iteB_lts (fun hB => ?_) (fun hB => ?_) | refine iteB_les (fun hB => ?_) (fun hB => ?_) | refine iteB_ds (fun hB => ?_) (fun hB => ?_) | refine iteB_s (fun hB => ?_) (fun hB => ?_) | refine CD.wk_as ?_ | refine And.intro ?_ ?_))
        all_goals ((conv => whnf); (try dsimp only); (try simp only [Nat.succ_eq_add_one, Nat.le_eq, castL_self]); (try omega))
        all_goals (try (first | omega | (simp only [lens] <;> omega)))
        all_goals first
          | omega
          | exact hs.symm
          | trace_state
    · have he : i = L.length := Nat.le_antisymm hi hge
      subst he
      repeat' (conv => whnf
               first | (with_reducible first | exact True.intro | rfl | exact castL_self _ _ | refine iteB_n ?_ | refine iteB_ct ?_ | refine iteB_cf ?_ | refine iteB_bt ?_ | refine iteB_bf ?_ | refine iteB_tb ?_ | refine iteB_fb ?_) | ((with_reducible refine V.same_t ?_); exact rfl) | ((with_reducible refine andB_room ?_ ?_ ?_); (· kernel_rfl); (· (first | omega | (simp only [lens] <;> omega)))) | ((with_reducible first | refine andB_in ?_ ?_ | refine andB_d ?_ ?_ | refine andB_lt ?_ ?_ | refine andB_le ?_ ?_ | refine iteB_ltt ?_ ?_ | refine iteB_let ?_ ?_ | refine iteB_dt ?_ ?_); · (first | (with_reducible assumption) | (first | omega | (simp only [lens] <;> omega)))) | ((with_reducible first | refine iteB_ltf ?_ ?_ | refine iteB_lef ?_ ?_ | refine iteB_df ?_ ?_); · (first | (with_reducible assumption) | (first | omega | (simp only [lens] <;> omega)))) | ((with_reducible first | refine andB_i ?_ ?_ | refine iteB_t ?_ ?_); · (first | (with_reducible first | assumption | exact decide_eq_true rfl | exact sEq_self _) | ((with_reducible refine eqOK_i ?_); kernel_rfl))) | ((with_reducible refine iteB_f ?_ ?_); · (first | (with_reducible first | assumption | exact decide_eq_true rfl | exact sEq_self _) | ((with_reducible refine eqOK_i ?_); kernel_rfl))) | (with_reducible refine CD.wk_au ?_) | (with_reducible first | refine andB_in ?_ ?_ | refine andB_lt ?_ ?_ | refine andB_le ?_ ?_ | refine andB_d ?_ ?_ | refine andB_i ?_ ?_ | refine iteB_lts (fun hB => ?_) (fun hB => ?_) | refine iteB_les (fun hB => ?_) (fun hB => ?_) | refine iteB_ds (fun hB => ?_) (fun hB => ?_) | refine iteB_s (fun hB => ?_) (fun hB => ?_) | refine CD.wk_as ?_ | refine And.intro ?_ ?_))
      all_goals ((conv => whnf); (try dsimp only); (try simp only [Nat.succ_eq_add_one, Nat.le_eq, castL_self]); (try omega))
      all_goals (try (first | omega | (simp only [lens] <;> omega)))
      all_goals trace_state
  · have h0 := slF_0 a b L
    have hl := slF_len a b L L.length
    have hz : (slF a b L 0).length = 0 := by rw [h0]; rfl
    repeat' (conv => whnf
             first | (with_reducible first | exact True.intro | rfl | exact castL_self _ _ | refine iteB_n ?_ | refine iteB_ct ?_ | refine iteB_cf ?_ | refine iteB_bt ?_ | refine iteB_bf ?_ | refine iteB_tb ?_ | refine iteB_fb ?_) | ((with_reducible refine V.same_t ?_); exact rfl) | ((with_reducible refine andB_room ?_ ?_ ?_); (· kernel_rfl); (· (first | omega | (simp only [lens] <;> omega)))) | ((with_reducible first | refine andB_in ?_ ?_ | refine andB_d ?_ ?_ | refine andB_lt ?_ ?_ | refine andB_le ?_ ?_ | refine iteB_ltt ?_ ?_ | refine iteB_let ?_ ?_ | refine iteB_dt ?_ ?_); · (first | (with_reducible assumption) | (first | omega | (simp only [lens] <;> omega)))) | ((with_reducible first | refine iteB_ltf ?_ ?_ | refine iteB_lef ?_ ?_ | refine iteB_df ?_ ?_); · (first | (with_reducible assumption) | (first | omega | (simp only [lens] <;> omega)))) | ((with_reducible first | refine andB_i ?_ ?_ | refine iteB_t ?_ ?_); · (first | (with_reducible first | assumption | exact decide_eq_true rfl | exact sEq_self _) | ((with_reducible refine eqOK_i ?_); kernel_rfl))) | ((with_reducible refine iteB_f ?_ ?_); · (first | (with_reducible first | assumption | exact decide_eq_true rfl | exact sEq_self _) | ((with_reducible refine eqOK_i ?_); kernel_rfl))) | (with_reducible refine CD.wk_au ?_) | (with_reducible first | refine andB_in ?_ ?_ | refine andB_lt ?_ ?_ | refine andB_le ?_ ?_ | refine andB_d ?_ ?_ | refine andB_i ?_ ?_ | refine iteB_lts (fun hB => ?_) (fun hB => ?_) | refine iteB_les (fun hB => ?_) (fun hB => ?_) | refine iteB_ds (fun hB => ?_) (fun hB => ?_) | refine iteB_s (fun hB => ?_) (fun hB => ?_) | refine CD.wk_as ?_ | refine And.intro ?_ ?_))
    all_goals ((conv => whnf); (try dsimp only); (try simp only [Nat.succ_eq_add_one, Nat.le_eq, castL_self]); (try omega))
    all_goals (try (first | omega | (simp only [lens] <;> omega)))
    all_goals first
      | omega
      | exact seg_all _ rfl
      | exact h0.symm
      | trace_state
theorem pushH_at (trm : Int) (d : ByteArray) (hL : LogOK i0 t0 L) (ht : 0 ≤ trm ∧ trm < 18446744073709551616) : HeapAt Try.prog 1 35 [.ptr 0 0, .int .u64 trm, .str d] [logO i0 t0 L ty] (.int .u64 (pushV i0 t0 L trm d)) [(0, logO i0 t0 (pushL i0 t0 L trm d) ty)] 1 := by
  have hi := hL.hi
  have ht0 := hL.ht
  have hl := hL.hl
  have htop := hL.top
  have q1 : @Eq Int (Sym.rowAt logE [(i0, t0, L)] 0).1 i0 := rfl
  rcases Nat.eq_zero_or_pos L.length with hz | hz
  · have hlt : lastT t0 L = t0 := lastT_0 hz
    by_cases hp : pushAt i0 t0 L trm d
    · obtain ⟨e1, e2⟩ := push_yes hp
      rw [e1, e2]
      unfold pushAt at hp
      rw [hlt] at hp
      refine heap_of_W tabR3_ok (fuel := 3) (d := 6) (N := 1) rfl rfl [] (fun _ _ h => by cases h) ?_
      repeat' (conv => whnf
               first | (with_reducible first | exact True.intro | rfl | exact castL_self _ _ | refine iteB_n ?_ | refine iteB_ct ?_ | refine iteB_cf ?_ | refine iteB_bt ?_ | refine iteB_bf ?_ | refine iteB_tb ?_ | refine iteB_fb ?_) | ((with_reducible refine V.same_t ?_); exact rfl) | ((with_reducible refine andB_room ?_ ?_ ?_); (· kernel_rfl); (· (first | omega | (simp only [lens] <;> omega)))) | ((with_reducible first | refine andB_in ?_ ?_ | refine andB_d ?_ ?_ | refine andB_lt ?_ ?_ | refine andB_le ?_ ?_ | refine iteB_ltt ?_ ?_ | refine iteB_let ?_ ?_ | refine iteB_dt ?_ ?_); · (first | (with_reducible assumption) | (first | omega | (simp only [lens] <;> omega)))) | ((with_reducible first | refine iteB_ltf ?_ ?_ | refine iteB_lef ?_ ?_ | refine iteB_df ?_ ?_); · (first | (with_reducible assumption) | (first | omega | (simp only [lens] <;> omega)))) | ((with_reducible first | refine andB_i ?_ ?_ | refine iteB_t ?_ ?_); · (first | (with_reducible first | assumption | exact decide_eq_true rfl | exact sEq_self _) | ((with_reducible refine eqOK_i ?_); kernel_rfl))) | ((with_reducible refine iteB_f ?_ ?_); · (first | (with_reducible first | assumption | exact decide_eq_true rfl | exact sEq_self _) | ((with_reducible refine eqOK_i ?_); kernel_rfl))) | (with_reducible refine CD.wk_au ?_) | (with_reducible first | refine andB_in ?_ ?_ | refine andB_lt ?_ ?_ | refine andB_le ?_ ?_ | refine andB_d ?_ ?_ | refine andB_i ?_ ?_ | refine iteB_lts (fun hB => ?_) (fun hB => ?_) | refine iteB_les (fun hB => ?_) (fun hB => ?_) | refine iteB_ds (fun hB => ?_) (fun hB => ?_) | refine iteB_s (fun hB => ?_) (fun hB => ?_) | refine CD.wk_as ?_ | refine And.intro ?_ ?_))
      all_goals ((conv => whnf); (try dsimp only); (try simp only [Nat.succ_eq_add_one, Nat.le_eq, castL_self]); (try omega))
      all_goals (try (first | omega | (simp only [lens] <;> omega)))
      all_goals first
        | exact push_leaf (k := 0) (by omega) (by simp only [List.length_drop, List.length_take, seg_len, List.length_cons, List.length_nil]; omega) (by first | (rw [show (i0 + 1) % 18446744073709551616 = i0 + (L.length : Int) + 1 by omega]; done) | exact congrArg (fun z => (trm, z, d)) (show @Eq Int ((@HAdd.hAdd Int Int Int _ (Sym.rowAt entE L (((List.length (α := EnR) L : Nat) : Int) - 1).toNat).2.1 1) % 18446744073709551616) (i0 + (L.length : Int) + 1) by omega))
        | trace_state
    · obtain ⟨e1, e2⟩ := push_no hp
      rw [e1, e2]
      unfold pushAt at hp
      rw [hlt] at hp
      refine heap_of_W tabR3_ok (fuel := 3) (d := 6) (N := 1) rfl rfl [] (fun _ _ h => by cases h) ?_
      repeat' (conv => whnf
               first | (with_reducible first | exact True.intro | rfl | exact castL_self _ _ | refine iteB_n ?_ | refine iteB_ct ?_ | refine iteB_cf ?_ | refine iteB_bt ?_ | refine iteB_bf ?_ | refine iteB_tb ?_ | refine iteB_fb ?_) | ((with_reducible refine V.same_t ?_); exact rfl) | ((with_reducible refine andB_room ?_ ?_ ?_); (· kernel_rfl); (· (first | omega | (simp only [lens] <;> omega)))) | ((with_reducible first | refine andB_in ?_ ?_ | refine andB_d ?_ ?_ | refine andB_lt ?_ ?_ | refine andB_le ?_ ?_ | refine iteB_ltt ?_ ?_ | refine iteB_let ?_ ?_ | refine iteB_dt ?_ ?_); · (first | (with_reducible assumption) | (first | omega | (simp only [lens] <;> omega)))) | ((with_reducible first | refine iteB_ltf ?_ ?_ | refine iteB_lef ?_ ?_ | refine iteB_df ?_ ?_); · (first | (with_reducible assumption) | (first | omega | (simp only [lens] <;> omega)))) | ((with_reducible first | refine andB_i ?_ ?_ | refine iteB_t ?_ ?_); · (first | (with_reducible first | assumption | exact decide_eq_true rfl | exact sEq_self _) | ((with_reducible refine eqOK_i ?_); kernel_rfl))) | ((with_reducible refine iteB_f ?_ ?_); · (first | (with_reducible first | assumption | exact decide_eq_true rfl | exact sEq_self _) | ((with_reducible refine eqOK_i ?_); kernel_rfl))) | (with_reducible refine CD.wk_au ?_) | (with_reducible first | refine andB_in ?_ ?_ | refine andB_lt ?_ ?_ | refine andB_le ?_ ?_ | refine andB_d ?_ ?_ | refine andB_i ?_ ?_ | refine iteB_lts (fun hB => ?_) (fun hB => ?_) | refine iteB_les (fun hB => ?_) (fun hB => ?_) | refine iteB_ds (fun hB => ?_) (fun hB => ?_) | refine iteB_s (fun hB => ?_) (fun hB => ?_) | refine CD.wk_as ?_ | refine And.intro ?_ ?_))
      all_goals ((conv => whnf); (try dsimp only); (try simp only [Nat.succ_eq_add_one, Nat.le_eq, castL_self]); (try omega))
      all_goals (try (first | omega | (simp only [lens] <;> omega)))
      all_goals first
        | exact push_leaf (k := 0) (by omega) (by simp only [List.length_drop, List.length_take, seg_len, List.length_cons, List.length_nil]; omega) (by first | (rw [show (i0 + 1) % 18446744073709551616 = i0 + (L.length : Int) + 1 by omega]; done) | exact congrArg (fun z => (trm, z, d)) (show @Eq Int ((@HAdd.hAdd Int Int Int _ (Sym.rowAt entE L (((List.length (α := EnR) L : Nat) : Int) - 1).toNat).2.1 1) % 18446744073709551616) (i0 + (L.length : Int) + 1) by omega))
        | trace_state
  · have hlt : lastT t0 L = (rowE L (L.length - 1)).1 := lastT_1 (by omega)
    have hlr : @Eq Int (Sym.rowAt entE L (((List.length (α := EnR) L : Nat) : Int) - 1).toNat).2.1 (i0 + (L.length : Int)) := by
      show (rowE L (((L.length : Nat) : Int) - 1).toNat).2.1 = _
      rw [hL.run _ (by omega)]; omega
    have hlr2 : @Eq Int (Sym.rowAt entE L (((List.length (α := EnR) L : Nat) : Int) - 1).toNat).1 (lastT t0 L) := by
      rw [hlt, show (((List.length (α := EnR) L : Nat) : Int) - 1).toNat = L.length - 1 by omega]
    by_cases hp : pushAt i0 t0 L trm d
    · obtain ⟨e1, e2⟩ := push_yes hp
      rw [e1, e2]
      unfold pushAt at hp
      refine heap_of_W tabR3_ok (fuel := 3) (d := 6) (N := 1) rfl rfl [] (fun _ _ h => by cases h) ?_
      repeat' (conv => whnf
               first | (with_reducible first | exact True.intro | rfl | exact castL_self _ _ | refine iteB_n ?_ | refine iteB_ct ?_ | refine iteB_cf ?_ | refine iteB_bt ?_ | refine iteB_bf ?_ | refine iteB_tb ?_ | refine iteB_fb ?_) | ((with_reducible refine V.same_t ?_); exact rfl) | ((with_reducible refine andB_room ?_ ?_ ?_); (· kernel_rfl); (· (first | omega | (simp only [lens] <;> omega)))) | ((with_reducible first | refine andB_in ?_ ?_ | refine andB_d ?_ ?_ | refine andB_lt ?_ ?_ | refine andB_le ?_ ?_ | refine iteB_ltt ?_ ?_ | refine iteB_let ?_ ?_ | refine iteB_dt ?_ ?_); · (first | (with_reducible assumption) | (first | omega | (simp only [lens] <;> omega)))) | ((with_reducible first | refine iteB_ltf ?_ ?_ | refine iteB_lef ?_ ?_ | refine iteB_df ?_ ?_); · (first | (with_reducible assumption) | (first | omega | (simp only [lens] <;> omega)))) | ((with_reducible first | refine andB_i ?_ ?_ | refine iteB_t ?_ ?_); · (first | (with_reducible first | assumption | exact decide_eq_true rfl | exact sEq_self _) | ((with_reducible refine eqOK_i ?_); kernel_rfl))) | ((with_reducible refine iteB_f ?_ ?_); · (first | (with_reducible first | assumption | exact decide_eq_true rfl | exact sEq_self _) | ((with_reducible refine eqOK_i ?_); kernel_rfl))) | (with_reducible refine CD.wk_au ?_) | (with_reducible first | refine andB_in ?_ ?_ | refine andB_lt ?_ ?_ | refine andB_le ?_ ?_ | refine andB_d ?_ ?_ | refine andB_i ?_ ?_ | refine iteB_lts (fun hB => ?_) (fun hB => ?_) | refine iteB_les (fun hB => ?_) (fun hB => ?_) | refine iteB_ds (fun hB => ?_) (fun hB => ?_) | refine iteB_s (fun hB => ?_) (fun hB => ?_) | refine CD.wk_as ?_ | refine And.intro ?_ ?_))
      all_goals ((conv => whnf); (try dsimp only); (try simp only [Nat.succ_eq_add_one, Nat.le_eq, castL_self]); (try omega))
      all_goals (try (first | omega | (simp only [lens] <;> omega)))
      all_goals first
        | exact push_leaf (k := 0) (by omega) (by simp only [List.length_drop, List.length_take, seg_len, List.length_cons, List.length_nil]; omega) (by first | (rw [show (i0 + 1) % 18446744073709551616 = i0 + (L.length : Int) + 1 by omega]; done) | exact congrArg (fun z => (trm, z, d)) (show @Eq Int ((@HAdd.hAdd Int Int Int _ (Sym.rowAt entE L (((List.length (α := EnR) L : Nat) : Int) - 1).toNat).2.1 1) % 18446744073709551616) (i0 + (L.length : Int) + 1) by omega))
        | trace_state
    · obtain ⟨e1, e2⟩ := push_no hp
      rw [e1, e2]
      unfold pushAt at hp
      refine heap_of_W tabR3_ok (fuel := 3) (d := 6) (N := 1) rfl rfl [] (fun _ _ h => by cases h) ?_
      repeat' (conv => whnf
               first | (with_reducible first | exact True.intro | rfl | exact castL_self _ _ | refine iteB_n ?_ | refine iteB_ct ?_ | refine iteB_cf ?_ | refine iteB_bt ?_ | refine iteB_bf ?_ | refine iteB_tb ?_ | refine iteB_fb ?_) | ((with_reducible refine V.same_t ?_); exact rfl) | ((with_reducible refine andB_room ?_ ?_ ?_); (· kernel_rfl); (· (first | omega | (simp only [lens] <;> omega)))) | ((with_reducible first | refine andB_in ?_ ?_ | refine andB_d ?_ ?_ | refine andB_lt ?_ ?_ | refine andB_le ?_ ?_ | refine iteB_ltt ?_ ?_ | refine iteB_let ?_ ?_ | refine iteB_dt ?_ ?_); · (first | (with_reducible assumption) | (first | omega | (simp only [lens] <;> omega)))) | ((with_reducible first | refine iteB_ltf ?_ ?_ | refine iteB_lef ?_ ?_ | refine iteB_df ?_ ?_); · (first | (with_reducible assumption) | (first | omega | (simp only [lens] <;> omega)))) | ((with_reducible first | refine andB_i ?_ ?_ | refine iteB_t ?_ ?_); · (first | (with_reducible first | assumption | exact decide_eq_true rfl | exact sEq_self _) | ((with_reducible refine eqOK_i ?_); kernel_rfl))) | ((with_reducible refine iteB_f ?_ ?_); · (first | (with_reducible first | assumption | exact decide_eq_true rfl | exact sEq_self _) | ((with_reducible refine eqOK_i ?_); kernel_rfl))) | (with_reducible refine CD.wk_au ?_) | (with_reducible first | refine andB_in ?_ ?_ | refine andB_lt ?_ ?_ | refine andB_le ?_ ?_ | refine andB_d ?_ ?_ | refine andB_i ?_ ?_ | refine iteB_lts (fun hB => ?_) (fun hB => ?_) | refine iteB_les (fun hB => ?_) (fun hB => ?_) | refine iteB_ds (fun hB => ?_) (fun hB => ?_) | refine iteB_s (fun hB => ?_) (fun hB => ?_) | refine CD.wk_as ?_ | refine And.intro ?_ ?_))
      all_goals ((conv => whnf); (try dsimp only); (try simp only [Nat.succ_eq_add_one, Nat.le_eq, castL_self]); (try omega))
      all_goals (try (first | omega | (simp only [lens] <;> omega)))
      all_goals first
        | exact push_leaf (k := 0) (by omega) (by simp only [List.length_drop, List.length_take, seg_len, List.length_cons, List.length_nil]; omega) (by first | (rw [show (i0 + 1) % 18446744073709551616 = i0 + (L.length : Int) + 1 by omega]; done) | exact congrArg (fun z => (trm, z, d)) (show @Eq Int ((@HAdd.hAdd Int Int Int _ (Sym.rowAt entE L (((List.length (α := EnR) L : Nat) : Int) - 1).toNat).2.1 1) % 18446744073709551616) (i0 + (L.length : Int) + 1) by omega))
        | trace_state
theorem compH_at (i : Int) (hL : LogOK i0 t0 L) (ht : 0 ≤ i ∧ i < 18446744073709551616) : HeapAt Try.prog 1 34 [.ptr 0 0, .int .u64 i] [logO i0 t0 L ty] (.int .i64 (compE i0 t0 L i)) [(0, logO (compI i0 t0 L i) (compT i0 t0 L i) (compL i0 t0 L i) ty)] 1 := by
  have hi := hL.hi
  have ht0 := hL.ht
  have hl := hL.hl
  have htop := hL.top
  have q1 : @Eq Int (Sym.rowAt logE [(i0, t0, L)] 0).1 i0 := rfl
  cases hI : termI i0 t0 L i with
  | true =>
    have hin := termI_in hI
    obtain ⟨e1, e2, e3, e4⟩ := comp_yes hI
    rw [e1, e2, e3, e4]
    refine heap_of_W tabR3_ok (fuel := 3) (d := 6) (N := 1) rfl rfl [] (fun _ _ h => by cases h) ?_
    repeat' (conv => whnf
             first | (with_reducible first | exact True.intro | rfl | exact castL_self _ _ | refine iteB_n ?_ | refine iteB_ct ?_ | refine iteB_cf ?_ | refine iteB_bt ?_ | refine iteB_bf ?_ | refine iteB_tb ?_ | refine iteB_fb ?_) | ((with_reducible refine V.same_t ?_); exact rfl) | ((with_reducible refine andB_room ?_ ?_ ?_); (· kernel_rfl); (· (first | omega | (simp only [lens] <;> omega)))) | ((with_reducible first | refine andB_in ?_ ?_ | refine andB_d ?_ ?_ | refine andB_lt ?_ ?_ | refine andB_le ?_ ?_ | refine iteB_ltt ?_ ?_ | refine iteB_let ?_ ?_ | refine iteB_dt ?_ ?_); · (first | (with_reducible assumption) | (first | omega | (simp only [lens] <;> omega)))) | ((with_reducible first | refine iteB_ltf ?_ ?_ | refine iteB_lef ?_ ?_ | refine iteB_df ?_ ?_); · (first | (with_reducible assumption) | (first | omega | (simp only [lens] <;> omega)))) | ((with_reducible first | refine andB_i ?_ ?_ | refine iteB_t ?_ ?_); · (first | (with_reducible first | assumption | exact decide_eq_true rfl | exact sEq_self _) | ((with_reducible refine eqOK_i ?_); kernel_rfl))) | ((with_reducible refine iteB_f ?_ ?_); · (first | (with_reducible first | assumption | exact decide_eq_true rfl | exact sEq_self _) | ((with_reducible refine eqOK_i ?_); kernel_rfl))) | (with_reducible refine CD.wk_au ?_) | (with_reducible first | refine andB_in ?_ ?_ | refine andB_lt ?_ ?_ | refine andB_le ?_ ?_ | refine andB_d ?_ ?_ | refine andB_i ?_ ?_ | refine iteB_lts (fun hB => ?_) (fun hB => ?_) | refine iteB_les (fun hB => ?_) (fun hB => ?_) | refine iteB_ds (fun hB => ?_) (fun hB => ?_) | refine iteB_s (fun hB => ?_) (fun hB => ?_) | refine CD.wk_as ?_ | refine And.intro ?_ ?_))
    all_goals ((conv => whnf); (try dsimp only); (try simp only [Nat.succ_eq_add_one, Nat.le_eq, castL_self]); (try omega))
    all_goals (try (first | omega | (simp only [lens] <;> omega)))
    all_goals first
      | (rw [show ((i - i0) % 18446744073709551616).toNat = (i - i0).toNat by omega]; done)
      | trace_state
  | false =>
    obtain ⟨e1, e2, e3, e4⟩ := comp_no (by rw [hI]; decide)
    rw [e1, e2, e3, e4]
    refine heap_of_W tabR3_ok (fuel := 3) (d := 6) (N := 1) rfl rfl [] (fun _ _ h => by cases h) ?_
    repeat' (conv => whnf
             first | (with_reducible first | exact True.intro | rfl | exact castL_self _ _ | refine iteB_n ?_ | refine iteB_ct ?_ | refine iteB_cf ?_ | refine iteB_bt ?_ | refine iteB_bf ?_ | refine iteB_tb ?_ | refine iteB_fb ?_) | ((with_reducible refine V.same_t ?_); exact rfl) | ((with_reducible refine andB_room ?_ ?_ ?_); (· kernel_rfl); (· (first | omega | (simp only [lens] <;> omega)))) | ((with_reducible first | refine andB_in ?_ ?_ | refine andB_d ?_ ?_ | refine andB_lt ?_ ?_ | refine andB_le ?_ ?_ | refine iteB_ltt ?_ ?_ | refine iteB_let ?_ ?_ | refine iteB_dt ?_ ?_); · (first | (with_reducible assumption) | (first | omega | (simp only [lens] <;> omega)))) | ((with_reducible first | refine iteB_ltf ?_ ?_ | refine iteB_lef ?_ ?_ | refine iteB_df ?_ ?_); · (first | (with_reducible assumption) | (first | omega | (simp only [lens] <;> omega)))) | ((with_reducible first | refine andB_i ?_ ?_ | refine iteB_t ?_ ?_); · (first | (with_reducible first | assumption | exact decide_eq_true rfl | exact sEq_self _) | ((with_reducible refine eqOK_i ?_); kernel_rfl))) | ((with_reducible refine iteB_f ?_ ?_); · (first | (with_reducible first | assumption | exact decide_eq_true rfl | exact sEq_self _) | ((with_reducible refine eqOK_i ?_); kernel_rfl))) | (with_reducible refine CD.wk_au ?_) | (with_reducible first | refine andB_in ?_ ?_ | refine andB_lt ?_ ?_ | refine andB_le ?_ ?_ | refine andB_d ?_ ?_ | refine andB_i ?_ ?_ | refine iteB_lts (fun hB => ?_) (fun hB => ?_) | refine iteB_les (fun hB => ?_) (fun hB => ?_) | refine iteB_ds (fun hB => ?_) (fun hB => ?_) | refine iteB_s (fun hB => ?_) (fun hB => ?_) | refine CD.wk_as ?_ | refine And.intro ?_ ?_))
    all_goals ((conv => whnf); (try dsimp only); (try simp only [Nat.succ_eq_add_one, Nat.le_eq, castL_self]); (try omega))
    all_goals (try (first | omega | (simp only [lens] <;> omega)))
    all_goals trace_state
theorem restH_at (idx trm : Int) (hL : LogOK i0 t0 L) (hx : 0 ≤ idx ∧ idx < 18446744073709551616) (ht : 0 ≤ trm ∧ trm < 18446744073709551616) : HeapAt Try.prog 1 36 [.ptr 0 0, .int .u64 idx, .int .u64 trm] [logO i0 t0 L ty] .undef [(0, logO (restI i0 idx trm) (restT i0 t0 idx trm) (restL i0 t0 L idx trm) ty)] 1 := by
  have hi := hL.hi
  have ht0 := hL.ht
  have hl := hL.hl
  have htop := hL.top
  have q1 : @Eq Int (Sym.rowAt logE [(i0, t0, L)] 0).1 i0 := rfl
  by_cases hr : restAt i0 idx trm
  · obtain ⟨e1, e2, e3⟩ := rest_yes (t0 := t0) (L := L) hr
    rw [e1, e2, e3]
    unfold restAt at hr
    cases hI : termI i0 t0 L idx with
    | true =>
      have hin := termI_in hI
      by_cases hV : termV i0 t0 L idx = trm
      · rw [if_pos ⟨rfl, hV⟩]
        refine heap_of_W tabR3_ok (fuel := 3) (d := 6) (N := 1) rfl rfl [] (fun _ _ h => by cases h) ?_
        repeat' (conv => whnf
                 first | (with_reducible first | exact True.intro | rfl | exact castL_self _ _ | refine iteB_n ?_ | refine iteB_ct ?_ | refine iteB_cf ?_ | refine iteB_bt ?_ | refine iteB_bf ?_ | refine iteB_tb ?_ | refine iteB_fb ?_) | ((with_reducible refine V.same_t ?_); exact rfl) | ((with_reducible refine andB_room ?_ ?_ ?_); (· kernel_rfl); (· (first | omega | (simp only [lens] <;> omega)))) | ((with_reducible first | refine andB_in ?_ ?_ | refine andB_d ?_ ?_ | refine andB_lt ?_ ?_ | refine andB_le ?_ ?_ | refine iteB_ltt ?_ ?_ | refine iteB_let ?_ ?_ | refine iteB_dt ?_ ?_); · (first | (with_reducible assumption) | (first | omega | (simp only [lens] <;> omega)))) | ((with_reducible first | refine iteB_ltf ?_ ?_ | refine iteB_lef ?_ ?_ | refine iteB_df ?_ ?_); · (first | (with_reducible assumption) | (first | omega | (simp only [lens] <;> omega)))) | ((with_reducible first | refine andB_i ?_ ?_ | refine iteB_t ?_ ?_); · (first | (with_reducible first | assumption | exact decide_eq_true rfl | exact sEq_self _) | ((with_reducible refine eqOK_i ?_); kernel_rfl))) | ((with_reducible refine iteB_f ?_ ?_); · (first | (with_reducible first | assumption | exact decide_eq_true rfl | exact sEq_self _) | ((with_reducible refine eqOK_i ?_); kernel_rfl))) | (with_reducible refine CD.wk_au ?_) | (with_reducible first | refine andB_in ?_ ?_ | refine andB_lt ?_ ?_ | refine andB_le ?_ ?_ | refine andB_d ?_ ?_ | refine andB_i ?_ ?_ | refine iteB_lts (fun hB => ?_) (fun hB => ?_) | refine iteB_les (fun hB => ?_) (fun hB => ?_) | refine iteB_ds (fun hB => ?_) (fun hB => ?_) | refine iteB_s (fun hB => ?_) (fun hB => ?_) | refine CD.wk_as ?_ | refine And.intro ?_ ?_))
        all_goals ((conv => whnf); (try dsimp only); (try simp only [Nat.succ_eq_add_one, Nat.le_eq, castL_self]); (try omega))
        all_goals (try (first | omega | (simp only [lens] <;> omega)))
        all_goals first
          | (rw [show ((idx - i0) % 18446744073709551616).toNat = (idx - i0).toNat by omega]; done)
          | trace_state
      · rw [if_neg fun g => hV g.2]
        refine heap_of_W tabR3_ok (fuel := 3) (d := 6) (N := 1) rfl rfl [] (fun _ _ h => by cases h) ?_
        repeat' (conv => whnf
                 first | (with_reducible first | exact True.intro | rfl | exact castL_self _ _ | refine iteB_n ?_ | refine iteB_ct ?_ | refine iteB_cf ?_ | refine iteB_bt ?_ | refine iteB_bf ?_ | refine iteB_tb ?_ | refine iteB_fb ?_) | ((with_reducible refine V.same_t ?_); exact rfl) | ((with_reducible refine andB_room ?_ ?_ ?_); (· kernel_rfl); (· (first | omega | (simp only [lens] <;> omega)))) | ((with_reducible first | refine andB_in ?_ ?_ | refine andB_d ?_ ?_ | refine andB_lt ?_ ?_ | refine andB_le ?_ ?_ | refine iteB_ltt ?_ ?_ | refine iteB_let ?_ ?_ | refine iteB_dt ?_ ?_); · (first | (with_reducible assumption) | (first | omega | (simp only [lens] <;> omega)))) | ((with_reducible first | refine iteB_ltf ?_ ?_ | refine iteB_lef ?_ ?_ | refine iteB_df ?_ ?_); · (first | (with_reducible assumption) | (first | omega | (simp only [lens] <;> omega)))) | ((with_reducible first | refine andB_i ?_ ?_ | refine iteB_t ?_ ?_); · (first | (with_reducible first | assumption | exact decide_eq_true rfl | exact sEq_self _) | ((with_reducible refine eqOK_i ?_); kernel_rfl))) | ((with_reducible refine iteB_f ?_ ?_); · (first | (with_reducible first | assumption | exact decide_eq_true rfl | exact sEq_self _) | ((with_reducible refine eqOK_i ?_); kernel_rfl))) | (with_reducible refine CD.wk_au ?_) | (with_reducible first | refine andB_in ?_ ?_ | refine andB_lt ?_ ?_ | refine andB_le ?_ ?_ | refine andB_d ?_ ?_ | refine andB_i ?_ ?_ | refine iteB_lts (fun hB => ?_) (fun hB => ?_) | refine iteB_les (fun hB => ?_) (fun hB => ?_) | refine iteB_ds (fun hB => ?_) (fun hB => ?_) | refine iteB_s (fun hB => ?_) (fun hB => ?_) | refine CD.wk_as ?_ | refine And.intro ?_ ?_))
        all_goals ((conv => whnf); (try dsimp only); (try simp only [Nat.succ_eq_add_one, Nat.le_eq, castL_self]); (try omega))
        all_goals (try (first | omega | (simp only [lens] <;> omega)))
        all_goals trace_state
    | false =>
      rw [if_neg fun g => by cases g.1]
      refine heap_of_W tabR3_ok (fuel := 3) (d := 6) (N := 1) rfl rfl [] (fun _ _ h => by cases h) ?_
      repeat' (conv => whnf
               first | (with_reducible first | exact True.intro | rfl | exact castL_self _ _ | refine iteB_n ?_ | refine iteB_ct ?_ | refine iteB_cf ?_ | refine iteB_bt ?_ | refine iteB_bf ?_ | refine iteB_tb ?_ | refine iteB_fb ?_) | ((with_reducible refine V.same_t ?_); exact rfl) | ((with_reducible refine andB_room ?_ ?_ ?_); (· kernel_rfl); (· (first | omega | (simp only [lens] <;> omega)))) | ((with_reducible first | refine andB_in ?_ ?_ | refine andB_d ?_ ?_ | refine andB_lt ?_ ?_ | refine andB_le ?_ ?_ | refine iteB_ltt ?_ ?_ | refine iteB_let ?_ ?_ | refine iteB_dt ?_ ?_); · (first | (with_reducible assumption) | (first | omega | (simp only [lens] <;> omega)))) | ((with_reducible first | refine iteB_ltf ?_ ?_ | refine iteB_lef ?_ ?_ | refine iteB_df ?_ ?_); · (first | (with_reducible assumption) | (first | omega | (simp only [lens] <;> omega)))) | ((with_reducible first | refine andB_i ?_ ?_ | refine iteB_t ?_ ?_); · (first | (with_reducible first | assumption | exact decide_eq_true rfl | exact sEq_self _) | ((with_reducible refine eqOK_i ?_); kernel_rfl))) | ((with_reducible refine iteB_f ?_ ?_); · (first | (with_reducible first | assumption | exact decide_eq_true rfl | exact sEq_self _) | ((with_reducible refine eqOK_i ?_); kernel_rfl))) | (with_reducible refine CD.wk_au ?_) | (with_reducible first | refine andB_in ?_ ?_ | refine andB_lt ?_ ?_ | refine andB_le ?_ ?_ | refine andB_d ?_ ?_ | refine andB_i ?_ ?_ | refine iteB_lts (fun hB => ?_) (fun hB => ?_) | refine iteB_les (fun hB => ?_) (fun hB => ?_) | refine iteB_ds (fun hB => ?_) (fun hB => ?_) | refine iteB_s (fun hB => ?_) (fun hB => ?_) | refine CD.wk_as ?_ | refine And.intro ?_ ?_))
      all_goals ((conv => whnf); (try dsimp only); (try simp only [Nat.succ_eq_add_one, Nat.le_eq, castL_self]); (try omega))
      all_goals (try (first | omega | (simp only [lens] <;> omega)))
      all_goals trace_state
  · obtain ⟨e1, e2, e3⟩ := rest_no (t0 := t0) (L := L) hr
    rw [e1, e2, e3]
    unfold restAt at hr
    refine heap_of_W tabR3_ok (fuel := 3) (d := 6) (N := 1) rfl rfl [] (fun _ _ h => by cases h) ?_
    repeat' (conv => whnf
             first | (with_reducible first | exact True.intro | rfl | exact castL_self _ _ | refine iteB_n ?_ | refine iteB_ct ?_ | refine iteB_cf ?_ | refine iteB_bt ?_ | refine iteB_bf ?_ | refine iteB_tb ?_ | refine iteB_fb ?_) | ((with_reducible refine V.same_t ?_); exact rfl) | ((with_reducible refine andB_room ?_ ?_ ?_); (· kernel_rfl); (· (first | omega | (simp only [lens] <;> omega)))) | ((with_reducible first | refine andB_in ?_ ?_ | refine andB_d ?_ ?_ | refine andB_lt ?_ ?_ | refine andB_le ?_ ?_ | refine iteB_ltt ?_ ?_ | refine iteB_let ?_ ?_ | refine iteB_dt ?_ ?_); · (first | (with_reducible assumption) | (first | omega | (simp only [lens] <;> omega)))) | ((with_reducible first | refine iteB_ltf ?_ ?_ | refine iteB_lef ?_ ?_ | refine iteB_df ?_ ?_); · (first | (with_reducible assumption) | (first | omega | (simp only [lens] <;> omega)))) | ((with_reducible first | refine andB_i ?_ ?_ | refine iteB_t ?_ ?_); · (first | (with_reducible first | assumption | exact decide_eq_true rfl | exact sEq_self _) | ((with_reducible refine eqOK_i ?_); kernel_rfl))) | ((with_reducible refine iteB_f ?_ ?_); · (first | (with_reducible first | assumption | exact decide_eq_true rfl | exact sEq_self _) | ((with_reducible refine eqOK_i ?_); kernel_rfl))) | (with_reducible refine CD.wk_au ?_) | (with_reducible first | refine andB_in ?_ ?_ | refine andB_lt ?_ ?_ | refine andB_le ?_ ?_ | refine andB_d ?_ ?_ | refine andB_i ?_ ?_ | refine iteB_lts (fun hB => ?_) (fun hB => ?_) | refine iteB_les (fun hB => ?_) (fun hB => ?_) | refine iteB_ds (fun hB => ?_) (fun hB => ?_) | refine iteB_s (fun hB => ?_) (fun hB => ?_) | refine CD.wk_as ?_ | refine And.intro ?_ ?_))
    all_goals ((conv => whnf); (try dsimp only); (try simp only [Nat.succ_eq_add_one, Nat.le_eq, castL_self]); (try omega))
    all_goals (try (first | omega | (simp only [lens] <;> omega)))
    all_goals trace_state
end
noncomputable def hslF (args : List V) (os : List EObj) : Option HRes := match args, os with
  | [.ptr 0 0, .int .u64 a, .int .u64 b], [o] => (match asLog o with
    | some (ty, i0, t0, L) => some ([decide (List.length (α := EnR) L ≤ 1000000)], .lst entE (slF a b L (List.length (α := EnR) L)) false, [(0, logO i0 t0 L ty)], 1)
    | none => none)
  | _, _ => none
theorem hslF_ok (args : List V) (os : List EObj) (c : List Bool) (v : V) (h' : List (Nat × EObj)) (n' : Nat) (h : hslF args os = some (c, v, h', n')) (hc : allB c) : HeapAt Try.prog 1 31 args os v h' n' := by
  unfold hslF at h
  split at h
  · split at h
    · rename_i ty i0 t0 L ho
      cases h
      obtain rfl := asLog_eq ho
      exact sliceH_at i0 t0 L ty _ _ (of_decide_eq_true hc.1)
    · cases h
  · cases h
noncomputable def hpushF (args : List V) (os : List EObj) : Option HRes := match args, os with
  | [.ptr 0 0, .int .u64 a, .str d], [o] => (match asLog o with
    | some (ty, i0, t0, L) => some ([logB i0 t0 L, leI 0 a, ltI a 18446744073709551616], .int .u64 (pushV i0 t0 L a d), [(0, logO i0 t0 (pushL i0 t0 L a d) ty)], 1)
    | none => none)
  | _, _ => none
theorem hpushF_ok (args : List V) (os : List EObj) (c : List Bool) (v : V) (h' : List (Nat × EObj)) (n' : Nat) (h : hpushF args os = some (c, v, h', n')) (hc : allB c) : HeapAt Try.prog 1 35 args os v h' n' := by
  unfold hpushF at h
  split at h
  · split at h
    · rename_i ty i0 t0 L ho
      cases h
      obtain rfl := asLog_eq ho
      obtain ⟨c1, c2, c3, _⟩ := hc
      rw [leI_eq] at c2
      rw [ltI_eq] at c3
      exact pushH_at i0 t0 L ty _ _ (logB_of c1) ⟨of_decide_eq_true c2, of_decide_eq_true c3⟩
    · cases h
  · cases h
noncomputable def hcompF (args : List V) (os : List EObj) : Option HRes := match args, os with
  | [.ptr 0 0, .int .u64 a], [o] => (match asLog o with
    | some (ty, i0, t0, L) => some ([logB i0 t0 L, leI 0 a, ltI a 18446744073709551616], .int .i64 (compE i0 t0 L a), [(0, logO (compI i0 t0 L a) (compT i0 t0 L a) (compL i0 t0 L a) ty)], 1)
    | none => none)
  | _, _ => none
theorem hcompF_ok (args : List V) (os : List EObj) (c : List Bool) (v : V) (h' : List (Nat × EObj)) (n' : Nat) (h : hcompF args os = some (c, v, h', n')) (hc : allB c) : HeapAt Try.prog 1 34 args os v h' n' := by
  unfold hcompF at h
  split at h
  · split at h
    · rename_i ty i0 t0 L ho
      cases h
      obtain rfl := asLog_eq ho
      obtain ⟨c1, c2, c3, _⟩ := hc
      rw [leI_eq] at c2
      rw [ltI_eq] at c3
      exact compH_at i0 t0 L ty _ (logB_of c1) ⟨of_decide_eq_true c2, of_decide_eq_true c3⟩
    · cases h
  · cases h
noncomputable def hrestF (args : List V) (os : List EObj) : Option HRes := match args, os with
  | [.ptr 0 0, .int .u64 a, .int .u64 b], [o] => (match asLog o with
    | some (ty, i0, t0, L) => some ([logB i0 t0 L, leI 0 a, ltI a 18446744073709551616, leI 0 b, ltI b 18446744073709551616], .undef, [(0, logO (restI i0 a b) (restT i0 t0 a b) (restL i0 t0 L a b) ty)], 1)
    | none => none)
  | _, _ => none
theorem hrestF_ok (args : List V) (os : List EObj) (c : List Bool) (v : V) (h' : List (Nat × EObj)) (n' : Nat) (h : hrestF args os = some (c, v, h', n')) (hc : allB c) : HeapAt Try.prog 1 36 args os v h' n' := by
  unfold hrestF at h
  split at h
  · split at h
    · rename_i ty i0 t0 L ho
      cases h
      obtain rfl := asLog_eq ho
      obtain ⟨c1, c2, c3, c4, c5, _⟩ := hc
      rw [leI_eq] at c2 c4
      rw [ltI_eq] at c3 c5
      exact restH_at i0 t0 L ty _ _ (logB_of c1) ⟨of_decide_eq_true c2, of_decide_eq_true c3⟩ ⟨of_decide_eq_true c4, of_decide_eq_true c5⟩
    · cases h
  · cases h
noncomputable def htS : HTab := oneHT 31 1 true hslF (oneHT 35 1 true hpushF (oneHT 34 1 true hcompF (oneHT 36 1 true hrestF noHT)))
theorem htS_ok : HTabOK Try.prog htS := oneHT_ok hslF_ok (oneHT_ok hpushF_ok (oneHT_ok hcompF_ok (oneHT_ok hrestF_ok noHT_ok)))
noncomputable def htP : HTab := oneHT 24 1 true hputF htS
theorem htP_ok : HTabOK Try.prog htP := oneHT_ok hputF_ok htS_ok
end Go.Proofs.Ytlkbmjdgfbciaaa
end

section
namespace Go.Proofs.Ytlkbmjdgfbciaaa
open Go.Sym
set_option linter.unusedVariables false
set_option linter.unusedSimpArgs false
theorem rowE_app1 {L M : List EnR} {j : Nat} (h : j < L.length) : rowE (L ++ M) j = rowE L j := by
  have h1 : j < (L ++ M).length := by rw [List.length_append]; omega
  rw [← rowE_is h1, ← rowE_is h, List.getElem_append_left h]
theorem rowE_app2 {L M : List EnR} {j : Nat} (h : L.length ≤ j) (h2 : j < L.length + M.length) : rowE (L ++ M) j = rowE M (j - L.length) := by
  have h1 : j < (L ++ M).length := by rw [List.length_append]; omega
  rw [← rowE_is h1, ← rowE_is (show j - L.length < M.length by omega), List.getElem_append_right h]
theorem rowE_drop {L : List EnR} {k j : Nat} (h : k + j < L.length) : rowE (L.drop k) j = rowE L (k + j) := by
  have h1 : j < (L.drop k).length := by rw [List.length_drop]; omega
  rw [← rowE_is h1, ← rowE_is h, List.getElem_drop]
theorem rowE_take {L : List EnR} {k j : Nat} (h : j < k) (h2 : j < L.length) : rowE (L.take k) j = rowE L j := by
  have h1 : j < (L.take k).length := by rw [List.length_take]; omega
  rw [← rowE_is h1, ← rowE_is h2, List.getElem_take]
theorem LogOK.term {i0 t0 : Int} {L : List EnR} (h : LogOK i0 t0 L) (i : Int) : 0 ≤ termV i0 t0 L i ∧ termV i0 t0 L i < 18446744073709551616 := by
  rw [termV_eq]
  have ht := h.ht
  by_cases e : i = i0
  · subst e; rw [termP_0]; exact ht
  · by_cases h2 : i < i0 ∨ (L.length : Int) < i - i0
    · rw [termP_no h2 e]; decide
    · rw [termP_at (by omega) (by omega)]
      exact h.hw _ (by omega)
theorem LogOK.drop {i0 t0 : Int} {L : List EnR} (h : LogOK i0 t0 L) {k : Nat} (hk : k ≤ L.length) {t : Int} (ht : 0 ≤ t ∧ t < 18446744073709551616) : LogOK (i0 + k) t (L.drop k) := by
  have h1 := h.hi
  have h2 := h.top
  refine ⟨by omega, ht, by rw [List.length_drop]; have := h.hl; omega, fun j hj => ?_, by rw [List.length_drop]; omega, fun j hj => ?_⟩
  · rw [List.length_drop] at hj
    rw [rowE_drop (by omega), h.run _ (by omega)]; omega
  · rw [List.length_drop] at hj
    rw [rowE_drop (by omega)]; exact h.hw _ (by omega)
theorem LogOK.push {i0 t0 : Int} {L : List EnR} (h : LogOK i0 t0 L) {trm : Int} {d : ByteArray} (ht : 0 ≤ trm ∧ trm < 18446744073709551616) (hl : L.length ≤ 999999) : LogOK i0 t0 (pushL i0 t0 L trm d) := by
  by_cases hp : pushAt i0 t0 L trm d
  · rw [(push_yes hp).2]
    obtain ⟨_, _, _, hp4⟩ := hp
    refine ⟨h.hi, h.ht, by rw [List.length_append, List.length_singleton]; omega, fun j hj => ?_, by rw [List.length_append, List.length_singleton]; omega, fun j hj => ?_⟩
    · rw [List.length_append, List.length_singleton] at hj
      rcases Nat.lt_or_ge j L.length with e | e
      · rw [rowE_app1 e]; exact h.run j e
      · rw [rowE_app2 e (by rw [List.length_singleton]; omega), show j - L.length = 0 by omega]
        show i0 + (L.length : Int) + 1 = _
        omega
    · rw [List.length_append, List.length_singleton] at hj
      rcases Nat.lt_or_ge j L.length with e | e
      · rw [rowE_app1 e]; exact h.hw j e
      · rw [rowE_app2 e (by rw [List.length_singleton]; omega), show j - L.length = 0 by omega]
        exact ht
  · rw [(push_no hp).2]; exact h
theorem LogOK.comp {i0 t0 : Int} {L : List EnR} (h : LogOK i0 t0 L) (i : Int) : LogOK (compI i0 t0 L i) (compT i0 t0 L i) (compL i0 t0 L i) := by
  by_cases hI : termI i0 t0 L i = true
  · obtain ⟨_, e2, e3, e4⟩ := comp_yes hI
    have hin := termI_in hI
    rw [e2, e3, e4]
    have := h.drop (k := (i - i0).toNat) (by omega) (h.term i)
    rw [show i0 + ((i - i0).toNat : Int) = i by omega] at this
    exact this
  · obtain ⟨_, e2, e3, e4⟩ := comp_no hI
    rw [e2, e3, e4]; exact h
theorem LogOK.rest {i0 t0 : Int} {L : List EnR} (h : LogOK i0 t0 L) {idx trm : Int} (hx : 0 ≤ idx) (ht : 0 ≤ trm ∧ trm < 18446744073709551616) : LogOK (restI i0 idx trm) (restT i0 t0 idx trm) (restL i0 t0 L idx trm) := by
  by_cases hr : restAt i0 idx trm
  · obtain ⟨e1, e2, e3⟩ := rest_yes (t0 := t0) (L := L) hr
    rw [e1, e2, e3]
    split
    · rename_i hI
      have hin := termI_in hI.1
      have := h.drop (k := (idx - i0).toNat) (by omega) ht
      rw [show i0 + ((idx - i0).toNat : Int) = idx by omega] at this
      exact this
    · have := hr.2.2.1
      exact ⟨⟨hx, this⟩, ht, Nat.zero_le _, fun j hj => absurd hj (Nat.not_lt_zero _), by show idx + ((0 : Nat) : Int) ≤ _; omega, fun j hj => absurd hj (Nat.not_lt_zero _)⟩
  · obtain ⟨e1, e2, e3⟩ := rest_no (t0 := t0) (L := L) hr
    rw [e1, e2, e3]; exact h
theorem LogOK.putLen {i0 t0 : Int} {L : List EnR} (h : LogOK i0 t0 L) {idx trm : Int} {E : List EnR} (hx : 0 ≤ idx) : (pLog i0 t0 L idx trm E).length ≤ L.length + E.length := by
  cases hf : folL idx trm E with
  | false => rw [(put_fol hf).2.2.2]; omega
  | true =>
    by_cases hp : putAt i0 t0 L idx trm E
    · rw [(put_yes hp).2.2.2]
      unfold putL0
      split
      · rw [List.length_append, List.length_take, List.length_drop]; omega
      · omega
    · rw [(put_no hf hp).2.2.2]; omega
theorem LogOK.put {i0 t0 : Int} {L : List EnR} (h : LogOK i0 t0 L) {idx trm : Int} {E : List EnR} (hx : 0 ≤ idx) (hE : L.length + E.length ≤ 1000000) (hw : ∀ j, j < E.length → 0 ≤ (rowE E j).1 ∧ (rowE E j).1 < 18446744073709551616) : LogOK i0 t0 (pLog i0 t0 L idx trm E) := by
  cases hf : folL idx trm E with
  | false => rw [(put_fol hf).2.2.2]; exact h
  | true =>
    by_cases hp : putAt i0 t0 L idx trm E
    · rw [(put_yes hp).2.2.2]
      unfold putL0
      split
      · rename_i hJ
        have hin := putAt_in hp h hx
        obtain ⟨j1, j2⟩ := putJ_in hp h hx hJ
        have hrun := fol_run hf (by omega)
        have hftop := fol_top hf (by omega)
        generalize putJ i0 t0 L E = J at *
        obtain ⟨K, hK⟩ : ∃ K : Nat, (idx + (J : Int) - i0).toNat = K := ⟨_, rfl⟩
        rw [hK]
        have hl : (L.take K ++ E.drop J).length = K + (E.length - J) := by rw [List.length_append, List.length_take, List.length_drop]; omega
        have hlt : (L.take K).length = K := by rw [List.length_take]; omega
        refine ⟨h.hi, h.ht, by rw [hl]; omega, fun j hj => ?_, by rw [hl]; omega, fun j hj => ?_⟩
        · rw [hl] at hj
          rcases Nat.lt_or_ge j K with e | e
          · rw [rowE_app1 (by omega), rowE_take e (by omega)]; exact h.run j (by omega)
          · rw [rowE_app2 (by omega) (by rw [hlt, List.length_drop]; omega), hlt, rowE_drop (by omega), hrun _ (by omega)]; omega
        · rw [hl] at hj
          rcases Nat.lt_or_ge j K with e | e
          · rw [rowE_app1 (by omega), rowE_take e (by omega)]; exact h.hw j (by omega)
          · rw [rowE_app2 (by omega) (by rw [hlt, List.length_drop]; omega), hlt, rowE_drop (by omega)]; exact hw _ (by omega)
      · exact h
    · rw [(put_no hf hp).2.2.2]; exact h
end Go.Proofs.Ytlkbmjdgfbciaaa
end

section
namespace Go.Proofs.Ytlkbmjdgfbciaaa
open Go.Sym
set_option linter.unusedVariables false
set_option linter.unusedSimpArgs false
set_option linter.unusedSectionVars false
noncomputable def oT0 (l other : List Int) (K : Nat) : Nat → Int
  | 0 => if K = 0 then 1 else ldT l K
  | i + 1 => (if oT0 l other K i % 2 = 0 then oT0 l other K i + 1 else oT0 l other K i) + 2 * ((Sym.rowAt [.int .u8] other i : Int) % 3)
noncomputable def oT : List Int → List Int → Nat → Nat → Int := hide oT0
theorem oT_0 (l other : List Int) (K : Nat) : oT l other K 0 = if K = 0 then 1 else ldT l K := by unfold oT; rw [hide_eq]; rfl
theorem oT_succ (l other : List Int) (K i : Nat) : oT l other K (i + 1) = (if oT l other K i % 2 = 0 then oT l other K i + 1 else oT l other K i) + 2 * ((Sym.rowAt [.int .u8] other i : Int) % 3) := by unfold oT; rw [hide_eq]; rfl
theorem oT_in (l other : List Int) (K : Nat) : ∀ i, 1 ≤ oT l other K i ∧ oT l other K i ≤ 2 + 2 * K + 5 * i ∧ (i ≠ 0 → oT l other K i % 2 = 1)
  | 0 => by
    have := ldT_in l K
    rw [oT_0]
    split <;> omega
  | i + 1 => by
    have ih := oT_in l other K i
    have hm := Int.emod_lt_of_pos (Sym.rowAt [.int .u8] other i : Int) (show (0 : Int) < 3 by decide)
    have hm2 := Int.emod_nonneg (Sym.rowAt [.int .u8] other i : Int) (show (3 : Int) ≠ 0 by decide)
    rw [oT_succ]
    generalize (Sym.rowAt [.int .u8] other i : Int) % 3 = m at *
    split <;> omega
theorem oT_le (l other : List Int) (K i : Nat) : oT l other K i ≤ oT l other K (i + 1) := by
  have hm2 := Int.emod_nonneg (Sym.rowAt [.int .u8] other i : Int) (show (3 : Int) ≠ 0 by decide)
  rw [oT_succ]
  generalize (Sym.rowAt [.int .u8] other i : Int) % 3 = m at *
  split <;> omega
noncomputable def oE (l other : List Int) (K i : Nat) : EnR := (oT l other K (i + 1), ((K + i : Nat) : Int) + 1, ⟨#[111, 116, 104, 101, 114]⟩)
noncomputable def owL : List Int → List Int → Nat → Nat → List EnR := hide fun l other K i => (allL l).take K ++ (List.range i).map (oE l other K)
theorem owL_eq (l other : List Int) (K i : Nat) : owL l other K i = (allL l).take K ++ (List.range i).map (oE l other K) := by unfold owL; rw [hide_eq]
theorem owL_0 (l other : List Int) (K : Nat) : owL l other K 0 = (allL l).take K := by rw [owL_eq]; exact List.append_nil _
theorem owL_succ (l other : List Int) (K i : Nat) : owL l other K (i + 1) = owL l other K i ++ [oE l other K i] := by rw [owL_eq, owL_eq, List.range_succ, List.map_append, ← List.append_assoc]; rfl
section
variable {l other : List Int} {K n : Nat} (hA : allL l = ldL l n) (hK : K ≤ n) (hn : n ≤ 40)
include hA hK hn
theorem owL_len (i : Nat) : (owL l other K i).length = K + i := by
  rw [owL_eq, List.length_append, List.length_take, List.length_map, List.length_range, hA, ldL_len]; omega
theorem owL_lo {i j : Nat} (h : j < K) : rowE (owL l other K i) j = ldE l j := by
  rw [owL_eq, rowE_app1 (by rw [List.length_take, hA, ldL_len]; omega), rowE_take h (by rw [hA, ldL_len]; omega), hA, ldL_get l n j (by omega)]
theorem owL_hi {i j : Nat} (h : j < i) : rowE (owL l other K i) (K + j) = oE l other K j := by
  have hl : ((allL l).take K).length = K := by rw [List.length_take, hA, ldL_len]; omega
  have h1 : K + j < (owL l other K i).length := by rw [owL_len hA hK hn]; omega
  rw [owL_eq, rowE_app2 (by omega) (by rw [hl, List.length_map, List.length_range]; omega), hl, Nat.add_sub_cancel_left]
  have h2 : j < ((List.range i).map (oE l other K)).length := by rw [List.length_map, List.length_range]; exact h
  rw [← rowE_is h2, List.getElem_map, List.getElem_range]
theorem owL_run (i : Nat) : RunL 0 (owL l other K i) := fun j hj => by
  rw [owL_len hA hK hn] at hj
  rcases Nat.lt_or_ge j K with e | e
  · rw [owL_lo hA hK hn e]
    show (j : Int) + 1 = _
    omega
  · have : j = K + (j - K) := by omega
    rw [this, owL_hi hA hK hn (by omega)]
    show ((K + (j - K) : Nat) : Int) + 1 = _
    omega
theorem owL_fol {i : Nat} (hi : i ≤ 40) : folL 0 0 (owL l other K i) = true := by
  refine folL_ok fun j hj => ?_
  have hrun := owL_run (l := l) (other := other) hA hK hn i
  have hj' := hj
  rw [owL_len hA hK hn] at hj'
  have hterm : ∀ q, q < K + i → (rowE (owL l other K i) q).1 = if q < K then ldT l (q + 1) else oT l other K (q - K + 1) := fun q hq => by
    split
    · rename_i e; rw [owL_lo hA hK hn e]; rfl
    · rename_i e
      have : q = K + (q - K) := by omega
      conv => lhs; rw [this, owL_hi hA hK hn (by omega)]
      rfl
  have hsz : (rowE (owL l other K i) j).2.2.size ≤ 5 := by
    rcases Nat.lt_or_ge j K with e | e
    · rw [owL_lo hA hK hn e, ld_size]; decide
    · have : j = K + (j - K) := by omega
      rw [this, owL_hi hA hK hn (by omega)]
      exact Nat.le_refl _
  have hpos : 1 ≤ (rowE (owL l other K i) j).1 := by
    rw [hterm j hj']
    split
    · have := ldT_in l (j + 1); omega
    · exact (oT_in l other K _).1
  cases j with
  | zero =>
    rw [aheadE_0]
    refine ⟨?_, ?_, ?_, ?_, by omega⟩
    · rw [hrun 0 hj]; rfl
    · rw [hrun 0 hj]; decide
    · show (0 : Int) ≤ _; omega
    · omega
  | succ j =>
    rw [aheadE_succ]
    refine ⟨?_, ?_, ?_, ?_, by omega⟩
    · rw [hrun _ hj, hrun j (by omega)]; omega
    · rw [hrun _ hj]; omega
    · rw [hterm j (by omega), hterm (j + 1) hj']
      by_cases e1 : j + 1 < K
      · rw [if_pos (by omega), if_pos e1]; exact ldT_mono l (j + 1)
      · rw [if_neg e1]
        by_cases e2 : j < K
        · rw [if_pos e2]
          have e3 : j + 1 = K := by omega
          rw [show j + 1 - K + 1 = 0 + 1 by omega]
          refine Int.le_trans ?_ (oT_le l other K 0)
          rw [oT_0, if_neg (by omega), e3]
          exact Int.le_refl _
        · rw [if_neg e2, show j + 1 - K + 1 = (j - K + 1) + 1 by omega]
          exact oT_le l other K _
    · omega
theorem owL_log {i : Nat} (hi : i ≤ 40) : LogOK 0 0 (owL l other K i) := by
  have hl := owL_len (l := l) (other := other) hA hK hn i
  refine ⟨by decide, by decide, by omega, owL_run hA hK hn i, by omega, fun j hj => ?_⟩
  rw [hl] at hj
  rcases Nat.lt_or_ge j K with e | e
  · rw [owL_lo hA hK hn e]
    have := ldT_in l (j + 1)
    show 0 ≤ ldT l (j + 1) ∧ ldT l (j + 1) < _
    omega
  · have : j = K + (j - K) := by omega
    rw [this, owL_hi hA hK hn (by omega)]
    have := oT_in l other K (j - K + 1)
    show 0 ≤ oT l other K (j - K + 1) ∧ oT l other K (j - K + 1) < _
    omega
theorem match_le {i nx : Nat} (hi : i ≤ 40) (hnx : nx ≤ n) (h : termI 0 0 (owL l other K i) nx = true ∧ termV 0 0 (owL l other K i) nx = trmL l nx) : nx ≤ K := by
  rcases Nat.lt_or_ge K nx with hlt | hge
  · exfalso
    have hl := owL_len (l := l) (other := other) hA hK hn i
    have hin := termI_in h.1
    have hv := h.2
    rw [termV_eq, termP_at (by omega) (by omega)] at hv
    have e : ((nx : Int) - 0 - 1).toNat = K + (nx - 1 - K) := by omega
    rw [e, owL_hi hA hK hn (by omega)] at hv
    have h1 := (oT_in l other K (nx - 1 - K + 1)).2.2 (by omega)
    have h2 := ldT_in l nx
    have hv : oT l other K (nx - 1 - K + 1) = trmL l nx := hv
    rw [hv] at h1
    unfold trmL at h1
    rw [if_neg (by omega)] at h1
    omega
  · exact hge
theorem match_all {i nx : Nat} (hi : i ≤ 40) (hnx : nx ≤ n) (hp : putAt 0 0 (owL l other K i) nx (trmL l nx) (seg (ldL l n) nx (n - nx))) {j : Nat} (hj : j < n) :
    termP 0 0 (pLog 0 0 (owL l other K i) nx (trmL l nx) (seg (ldL l n) nx (n - nx))) ((j : Int) + 1) = (ldT l (j + 1), true) := by
  have hlk := owL_log (l := l) (other := other) hA hK hn hi
  have hl := owL_len (l := l) (other := other) hA hK hn i
  have hin := putAt_in hp hlk (by omega)
  have hle : nx ≤ K := by
    rcases hp.2 with h | h
    · omega
    · exact match_le hA hK hn hi hnx h
  have hEl : nx + (n - nx) ≤ (ldL l n).length := by rw [ldL_len]; omega
  have hElen := seg_length hEl
  have hErow : ∀ q, q < n - nx → rowE (seg (ldL l n) nx (n - nx)) q = ldE l (nx + q) := fun q hq => by rw [rowE_seg hEl hq, ldL_get l n _ (by omega)]
  rw [(put_yes hp).2.2.2]
  have hJle : putJ 0 0 (owL l other K i) (seg (ldL l n) nx (n - nx)) ≤ n - nx := by
    have := firstP_le (misB 0 0 (owL l other K i) (seg (ldL l n) nx (n - nx))) (seg (ldL l n) nx (n - nx)).length
    unfold putJ
    omega
  -- the entries ahead of the first that it has not
  have hold : ∀ q, q < nx + putJ 0 0 (owL l other K i) (seg (ldL l n) nx (n - nx)) → q < K + i ∧ (rowE (owL l other K i) q).1 = ldT l (q + 1) := by
    intro q hq
    rcases Nat.lt_or_ge q nx with e | e
    · exact ⟨by omega, by rw [owL_lo hA hK hn (by omega)]; rfl⟩
    · have hno := misB_no (firstP_no (misB 0 0 (owL l other K i) (seg (ldL l n) nx (n - nx))) (seg (ldL l n) nx (n - nx)).length (q - nx) (by unfold putJ at hq; omega))
      rw [hErow _ (by omega)] at hno
      have e1 : (ldE l (nx + (q - nx))).2.1 = (q : Int) + 1 := by show ((nx + (q - nx) : Nat) : Int) + 1 = _; omega
      have e2 : (ldE l (nx + (q - nx))).1 = ldT l (q + 1) := by show ldT l (nx + (q - nx) + 1) = _; rw [show nx + (q - nx) + 1 = q + 1 by omega]
      rw [e1, e2] at hno
      rcases hno with hno | ⟨h1, h2⟩
      · omega
      · have hin := termI_in h1
        rw [termV_eq, termP_at (by omega) (by omega), show ((q : Int) + 1 - 0 - 1).toNat = q by omega] at h2
        exact ⟨by omega, h2⟩
  unfold putL0
  split
  · rename_i hJ
    obtain ⟨j1, j2⟩ := putJ_in hp hlk (by omega) hJ
    generalize putJ 0 0 (owL l other K i) (seg (ldL l n) nx (n - nx)) = J at *
    have eK : ((nx : Int) + (J : Int) - 0).toNat = nx + J := by omega
    rw [eK]
    have hlt : ((owL l other K i).take (nx + J)).length = nx + J := by rw [List.length_take]; omega
    have hlen : ((owL l other K i).take (nx + J) ++ (seg (ldL l n) nx (n - nx)).drop J).length = n := by rw [List.length_append, hlt, List.length_drop, hElen]; omega
    rw [termP_at (by omega) (by rw [hlen]; omega), show ((j : Int) + 1 - 0 - 1).toNat = j by omega]
    rcases Nat.lt_or_ge j (nx + J) with e | e
    · rw [rowE_app1 (by omega), rowE_take e (by have := (hold j e).1; omega), (hold j e).2]
    · rw [rowE_app2 (by omega) (by rw [hlt, List.length_drop, hElen]; omega), hlt, rowE_drop (by omega), hErow _ (by omega)]
      show (ldT l (nx + (J + (j - (nx + J))) + 1), true) = _
      rw [show nx + (J + (j - (nx + J))) + 1 = j + 1 by omega]
  · rename_i hJ
    have hJ' : putJ 0 0 (owL l other K i) (seg (ldL l n) nx (n - nx)) = n - nx := by omega
    rw [hJ'] at hold
    obtain ⟨h1, h2⟩ := hold j (by omega)
    rw [termP_at (by omega) (by omega), show ((j : Int) + 1 - 0 - 1).toNat = j by omega, h2]
theorem match_hint {i nx : Nat} (hi : i ≤ 40) (hnx : nx ≤ n) (hp : ¬ putAt 0 0 (owL l other K i) nx (trmL l nx) (seg (ldL l n) nx (n - nx))) : 0 < nx ∧ 0 ≤ hintV 0 0 (owL l other K i) nx ∧ hintV 0 0 (owL l other K i) nx ≤ nx := by
  have hl := owL_len (l := l) (other := other) hA hK hn i
  have hf := ld_fol l n nx (n - nx) hn (by omega)
  have h0 : 0 < nx := by
    rcases Nat.eq_zero_or_pos nx with e | e
    · exfalso
      subst e
      refine hp ⟨hf, .inr ?_⟩
      have : termP 0 0 (owL l other K i) ((0 : Nat) : Int) = (0, true) := termP_0 0 0 _
      exact ⟨by rw [termI_eq, this], by rw [termV_eq, this]; rfl⟩
    · exact e
  refine ⟨h0, ?_⟩
  by_cases h : 0 + ((owL l other K i).length : Int) < (nx : Int)
  · rw [hintV_hi h]; omega
  · rw [hintV_lo h]
    have := hintI_in 0 0 (owL l other K i) (termV 0 0 (owL l other K i) nx) ((nx : Int) - 0).toNat
    omega
end
theorem heap_pure {P : Program} {g : FuncId} {args : List V} {v : V} (h : PureAt P g args v) (hb : bareL args = true) : HeapAt P 0 g args [] v [] 0 := by
  intro own ρ w A hS hA
  refine (h ρ.φ w A hS.fz (LRel.bare (ρ := ρ) (ρ' := envφ ρ.φ) (fun _ _ _ h => h) args _ hb hA)).mono ?_
  rintro E w' ⟨φ', X, rfl, h1, h2, h3, h4, h5⟩
  obtain ⟨g1, g2, g3⟩ := hS.grow h5 h1 h2 h3
  exact ⟨_, X, Env.le_trans (Env.cut_le ρ 0) g1, rfl, VRel.up (ρ := envφ φ') (ρ' := ⟨ρ.f, ρ.n, φ'⟩) ⟨fun _ _ h => (by cases h), fun _ _ _ h => h⟩ v X h4, g2, g3⟩
noncomputable def hcloneF (args : List V) (os : List EObj) : Option HRes := match args, os with
  | [.lst e L cl], [] => (match cloneF [.lst e L cl] with
    | some (c, v) => some (c, v, [], 0)
    | none => none)
  | _, _ => none
theorem hcloneF_ok (args : List V) (os : List EObj) (c : List Bool) (v : V) (h' : List (Nat × EObj)) (n' : Nat) (h : hcloneF args os = some (c, v, h', n')) (hc : allB c) : HeapAt Try.prog 0 50 args os v h' n' := by
  unfold hcloneF at h
  split at h
  · split at h
    · rename_i c v hcl
      cases h
      exact heap_pure (cloneF_ok _ _ _ hcl hc) rfl
    · cases h
  · cases h
noncomputable def htQ : HTab := oneHT 50 0 true hcloneF htP
theorem htQ_ok : HTabOK Try.prog htQ := oneHT_ok hcloneF_ok htP_ok
end Go.Proofs.Ytlkbmjdgfbciaaa
end

section
namespace Go.Proofs.Ytlkbmjdgfbciaaa
open Go.Sym
set_option linter.unusedVariables false
set_option linter.unusedSimpArgs false
set_option maxRecDepth 100000
set_option maxHeartbeats 4000000
abbrev refO (i0 t0 : Int) (L : List EnR) (ty : TypeId) : EObj := .cells [.int .u64 i0, .int .u64 t0, .rs 1 0 (List.length (α := EnR) L) (List.length (α := EnR) L) false 3] ty false
abbrev rowO (L : List EnR) (ty : TypeId) : EObj := .rows entE L ty false
theorem rl_last {i0 t0 : Int} {L : List EnR} (h : LogOK i0 t0 L) (hz : L.length ≠ 0) : @Eq Int (Sym.rowAt entE L (0 + (((List.length (α := EnR) L : Nat) : Int) - 1).toNat)).2.1 (i0 + (L.length : Int)) ∧ @Eq Int (Sym.rowAt entE L (0 + (((List.length (α := EnR) L : Nat) : Int) - 1).toNat)).1 (lastT t0 L) := by
  rw [show 0 + (((List.length (α := EnR) L : Nat) : Int) - 1).toNat = L.length - 1 by omega]
  refine ⟨?_, (lastT_1 hz).symm⟩
  rw [h.run _ (by omega)]; omega
section
variable (i0 t0 : Int) (L : List EnR) (ty ty2 : TypeId)
noncomputable def rtH : List (Nat × EObj) := [(0, refO i0 t0 L ty), (1, rowO L ty2)]
noncomputable def rtC (i : Int) (k : Nat) : CD := ⟨44, [(0, .ptr 0 0), (1, .int .u64 i), (6, .int .i64 (k : Int))], [], rtH i0 t0 L ty ty2, 2⟩
noncomputable def rtE (i : Int) : CD := ⟨44, [(4, .int .u64 (termV i0 t0 L i)), (5, .bool true)], [], rtH i0 t0 L ty ty2, 2⟩
theorem rterm_at (i : Int) (h : LogOK i0 t0 L) (hi : 0 ≤ i ∧ i < 18446744073709551616) : HeapAt Try.prog 2 59 [.ptr 0 0, .int .u64 i] [refO i0 t0 L ty, rowO L ty2] (.tup [.int .u64 (termV i0 t0 L i), .bool (termI i0 t0 L i)]) (rtH i0 t0 L ty ty2) 2 := by
  have h0 := h.hi
  have ht := h.ht
  have hl := h.hl
  have htop := h.top
  have hrun : ∀ k : Nat, k < L.length → @Eq Int (Sym.rowAt entE L (0 + Int.toNat (k : Int))).2.1 (i0 + k + 1) := fun k hk => by
    rw [show 0 + Int.toNat (k : Int) = k by omega]; exact h.run k hk
  by_cases c1 : i = i0
  · subst c1
    rw [termV_eq, termI_eq, termP_0]
    refine heap_of_W noTab_ok (fuel := 3) (d := 5) (N := 2) rfl rfl [] (fun _ _ h => by cases h) ?_
    repeat' (conv => whnf
             first | (with_reducible first | exact True.intro | rfl | exact castL_self _ _ | refine iteB_n ?_ | refine iteB_ct ?_ | refine iteB_cf ?_ | refine iteB_bt ?_ | refine iteB_bf ?_ | refine iteB_tb ?_ | refine iteB_fb ?_) | ((with_reducible refine V.same_t ?_); exact rfl) | ((with_reducible refine andB_room ?_ ?_ ?_); (· kernel_rfl); (· (first | omega | (simp only [lens] <;> omega)))) | ((with_reducible first | refine andB_in ?_ ?_ | refine andB_d ?_ ?_ | refine andB_lt ?_ ?_ | refine andB_le ?_ ?_ | refine iteB_ltt ?_ ?_ | refine iteB_let ?_ ?_ | refine iteB_dt ?_ ?_); · (first | (with_reducible assumption) | (first | omega | (simp only [lens] <;> omega)))) | ((with_reducible first | refine iteB_ltf ?_ ?_ | refine iteB_lef ?_ ?_ | refine iteB_df ?_ ?_); · (first | (with_reducible assumption) | (first | omega | (simp only [lens] <;> omega)))) | ((with_reducible first | refine andB_i ?_ ?_ | refine iteB_t ?_ ?_); · (first | (with_reducible first | assumption | exact decide_eq_true rfl | exact sEq_self _) | ((with_reducible refine eqOK_i ?_); kernel_rfl))) | ((with_reducible refine iteB_f ?_ ?_); · (first | (with_reducible first | assumption | exact decide_eq_true rfl | exact sEq_self _) | ((with_reducible refine eqOK_i ?_); kernel_rfl))) | (with_reducible refine CD.wk_au ?_) | (with_reducible first | refine andB_in ?_ ?_ | refine andB_lt ?_ ?_ | refine andB_le ?_ ?_ | refine andB_d ?_ ?_ | refine andB_i ?_ ?_ | refine iteB_lts (fun hB => ?_) (fun hB => ?_) | refine iteB_les (fun hB => ?_) (fun hB => ?_) | refine iteB_ds (fun hB => ?_) (fun hB => ?_) | refine iteB_s (fun hB => ?_) (fun hB => ?_) | refine CD.wk_as ?_ | refine And.intro ?_ ?_))
    all_goals ((conv => whnf); (try dsimp only); (try simp only [Nat.succ_eq_add_one, Nat.le_eq, castL_self]); (try omega))
    all_goals (try (first | omega | (simp only [lens] <;> omega)))
    all_goals trace_state
  · by_cases c2 : i < i0 ∨ (L.length : Int) < i - i0
    · rw [termV_eq, termI_eq, termP_no c2 c1]
      refine heap_of_W noTab_ok (fuel := 3) (d := 5) (N := 2) rfl rfl [⟨4, [], rtC i0 t0 L ty ty2 i 0, .leaf (.exit 0) (rtC i0 t0 L ty ty2 i L.length)⟩] (fun N l hl => ?_) ?_
      · rw [List.mem_singleton.1 hl]
        refine LpD.ok_one (b := bodyAt Try.prog 59 4) rfl (loop_W noTab_ok (fuel := 3) (d := 5) (X := { k : Nat // k ≤ L.length }) (fun x => rtC i0 t0 L ty ty2 i x.1) (fun x => L.length - x.1)
          (fun _ => .leaf (.exit 0) (rtC i0 t0 L ty ty2 i L.length)) (fun _ => noLpW) (fun _ => noLp) (fun _ => noLp_ad) (fun _ => noLp_ok _) ?_ ⟨0, Nat.zero_le _⟩)
        rintro ⟨k, hk⟩
        dsimp only
        rcases Nat.lt_or_ge k L.length with hlt | hge
        · have hr := hrun k hlt
          repeat' (conv => whnf
                   first | (with_reducible first | exact True.intro | rfl | exact castL_self _ _ | refine iteB_n ?_ | refine iteB_ct ?_ | refine iteB_cf ?_ | refine iteB_bt ?_ | refine iteB_bf ?_ | refine iteB_tb ?_ | refine iteB_fb ?_) | ((with_reducible refine V.same_t ?_); exact rfl) | ((with_reducible refine andB_room ?_ ?_ ?_); (· kernel_rfl); (· (first | omega | (simp only [lens] <;> omega)))) | ((with_reducible first | refine andB_in ?_ ?_ | refine andB_d ?_ ?_ | refine andB_lt ?_ ?_ | refine andB_le ?_ ?_ | refine iteB_ltt ?_ ?_ | refine iteB_let ?_ ?_ | refine iteB_dt ?_ ?_); · (first | (with_reducible assumption) | (first | omega | (simp only [lens] <;> omega)))) | ((with_reducible first | refine iteB_ltf ?_ ?_ | refine iteB_lef ?_ ?_ | refine iteB_df ?_ ?_); · (first | (with_reducible assumption) | (first | omega | (simp only [lens] <;> omega)))) | ((with_reducible first | refine andB_i ?_ ?_ | refine iteB_t ?_ ?_); · (first | (with_reducible first | assumption | exact decide_eq_true rfl | exact sEq_self _) | ((with_reducible refine eqOK_i ?_); kernel_rfl))) | ((with_reducible refine iteB_f ?_ ?_); · (first | (with_reducible first | assumption | exact decide_eq_true rfl | exact sEq_self _) | ((with_reducible refine eqOK_i ?_); kernel_rfl))) | (refine ⟨⟨k + 1, hlt⟩, ?_, rfl, ?_⟩) | (with_reducible refine CD.wk_au ?_) | (with_reducible first | refine andB_in ?_ ?_ | refine andB_lt ?_ ?_ | refine andB_le ?_ ?_ | refine andB_d ?_ ?_ | refine andB_i ?_ ?_ | refine iteB_lts (fun hB => ?_) (fun hB => ?_) | refine iteB_les (fun hB => ?_) (fun hB => ?_) | refine iteB_ds (fun hB => ?_) (fun hB => ?_) | refine iteB_s (fun hB => ?_) (fun hB => ?_) | refine CD.wk_as ?_ | refine And.intro ?_ ?_))
          all_goals ((conv => whnf); (try dsimp only); (try simp only [Nat.succ_eq_add_one, Nat.le_eq, castL_self]); (try omega))
          all_goals (try (first | omega | (simp only [lens] <;> omega)))
          all_goals trace_state
        · have he : k = L.length := Nat.le_antisymm hk hge
          subst he
          repeat' (conv => whnf
                   first | (with_reducible first | exact True.intro | rfl | exact castL_self _ _ | refine iteB_n ?_ | refine iteB_ct ?_ | refine iteB_cf ?_ | refine iteB_bt ?_ | refine iteB_bf ?_ | refine iteB_tb ?_ | refine iteB_fb ?_) | ((with_reducible refine V.same_t ?_); exact rfl) | ((with_reducible refine andB_room ?_ ?_ ?_); (· kernel_rfl); (· (first | omega | (simp only [lens] <;> omega)))) | ((with_reducible first | refine andB_in ?_ ?_ | refine andB_d ?_ ?_ | refine andB_lt ?_ ?_ | refine andB_le ?_ ?_ | refine iteB_ltt ?_ ?_ | refine iteB_let ?_ ?_ | refine iteB_dt ?_ ?_); · (first | (with_reducible assumption) | (first | omega | (simp only [lens] <;> omega)))) | ((with_reducible first | refine iteB_ltf ?_ ?_ | refine iteB_lef ?_ ?_ | refine iteB_df ?_ ?_); · (first | (with_reducible assumption) | (first | omega | (simp only [lens] <;> omega)))) | ((with_reducible first | refine andB_i ?_ ?_ | refine iteB_t ?_ ?_); · (first | (with_reducible first | assumption | exact decide_eq_true rfl | exact sEq_self _) | ((with_reducible refine eqOK_i ?_); kernel_rfl))) | ((with_reducible refine iteB_f ?_ ?_); · (first | (with_reducible first | assumption | exact decide_eq_true rfl | exact sEq_self _) | ((with_reducible refine eqOK_i ?_); kernel_rfl))) | (with_reducible refine CD.wk_au ?_) | (with_reducible first | refine andB_in ?_ ?_ | refine andB_lt ?_ ?_ | refine andB_le ?_ ?_ | refine andB_d ?_ ?_ | refine andB_i ?_ ?_ | refine iteB_lts (fun hB => ?_) (fun hB => ?_) | refine iteB_les (fun hB => ?_) (fun hB => ?_) | refine iteB_ds (fun hB => ?_) (fun hB => ?_) | refine iteB_s (fun hB => ?_) (fun hB => ?_) | refine CD.wk_as ?_ | refine And.intro ?_ ?_))
          all_goals ((conv => whnf); (try dsimp only); (try simp only [Nat.succ_eq_add_one, Nat.le_eq, castL_self]); (try omega))
          all_goals (try (first | omega | (simp only [lens] <;> omega)))
          all_goals trace_state
      · repeat' (conv => whnf
                 first | (with_reducible first | exact True.intro | rfl | exact castL_self _ _ | refine iteB_n ?_ | refine iteB_ct ?_ | refine iteB_cf ?_ | refine iteB_bt ?_ | refine iteB_bf ?_ | refine iteB_tb ?_ | refine iteB_fb ?_) | ((with_reducible refine V.same_t ?_); exact rfl) | ((with_reducible refine andB_room ?_ ?_ ?_); (· kernel_rfl); (· (first | omega | (simp only [lens] <;> omega)))) | ((with_reducible first | refine andB_in ?_ ?_ | refine andB_d ?_ ?_ | refine andB_lt ?_ ?_ | refine andB_le ?_ ?_ | refine iteB_ltt ?_ ?_ | refine iteB_let ?_ ?_ | refine iteB_dt ?_ ?_); · (first | (with_reducible assumption) | (first | omega | (simp only [lens] <;> omega)))) | ((with_reducible first | refine iteB_ltf ?_ ?_ | refine iteB_lef ?_ ?_ | refine iteB_df ?_ ?_); · (first | (with_reducible assumption) | (first | omega | (simp only [lens] <;> omega)))) | ((with_reducible first | refine andB_i ?_ ?_ | refine iteB_t ?_ ?_); · (first | (with_reducible first | assumption | exact decide_eq_true rfl | exact sEq_self _) | ((with_reducible refine eqOK_i ?_); kernel_rfl))) | ((with_reducible refine iteB_f ?_ ?_); · (first | (with_reducible first | assumption | exact decide_eq_true rfl | exact sEq_self _) | ((with_reducible refine eqOK_i ?_); kernel_rfl))) | (with_reducible refine CD.wk_au ?_) | (with_reducible first | refine andB_in ?_ ?_ | refine andB_lt ?_ ?_ | refine andB_le ?_ ?_ | refine andB_d ?_ ?_ | refine andB_i ?_ ?_ | refine iteB_lts (fun hB => ?_) (fun hB => ?_) | refine iteB_les (fun hB => ?_) (fun hB => ?_) | refine iteB_ds (fun hB => ?_) (fun hB => ?_) | refine iteB_s (fun hB => ?_) (fun hB => ?_) | refine CD.wk_as ?_ | refine And.intro ?_ ?_))
        all_goals ((conv => whnf); (try dsimp only); (try simp only [Nat.succ_eq_add_one, Nat.le_eq, castL_self]); (try omega))
        all_goals (try (first | omega | (simp only [lens] <;> omega)))
        all_goals trace_state
    · have hI : termI i0 t0 L i = true := by rw [termI_eq, termP_at (by omega) (by omega)]
      obtain ⟨K, hK⟩ : ∃ K : Nat, i = i0 + K + 1 := ⟨(i - i0 - 1).toNat, by omega⟩
      have hv : @Eq Int (Sym.rowAt entE L (0 + Int.toNat (K : Int))).1 (termV i0 t0 L i) := by
        rw [show 0 + Int.toNat (K : Int) = K by omega, termV_eq, termP_at (by omega) (by omega), show (i - i0 - 1).toNat = K by omega]
      rw [hI]
      refine heap_of_W noTab_ok (fuel := 3) (d := 5) (N := 2) rfl rfl [⟨4, [], rtC i0 t0 L ty ty2 i 0, .leaf .ret (rtE i0 t0 L ty ty2 i)⟩] (fun N l hl => ?_) ?_
      · rw [List.mem_singleton.1 hl]
        refine LpD.ok_one (b := bodyAt Try.prog 59 4) rfl (loop_W noTab_ok (fuel := 3) (d := 5) (X := { k : Nat // k ≤ K }) (fun x => rtC i0 t0 L ty ty2 i x.1) (fun x => L.length - x.1)
          (fun _ => .leaf .ret (rtE i0 t0 L ty ty2 i)) (fun _ => noLpW) (fun _ => noLp) (fun _ => noLp_ad) (fun _ => noLp_ok _) ?_ ⟨0, Nat.zero_le _⟩)
        rintro ⟨k, hk⟩
        dsimp only
        have hlt : k < L.length := by omega
        have hr := hrun k hlt
        by_cases hkK : k = K
        · subst hkK
          repeat' (conv => whnf
                   first | (with_reducible first | exact True.intro | rfl | exact castL_self _ _ | refine iteB_n ?_ | refine iteB_ct ?_ | refine iteB_cf ?_ | refine iteB_bt ?_ | refine iteB_bf ?_ | refine iteB_tb ?_ | refine iteB_fb ?_) | ((with_reducible refine V.same_t ?_); exact rfl) | ((with_reducible refine andB_room ?_ ?_ ?_); (· kernel_rfl); (· (first | omega | (simp only [lens] <;> omega)))) | ((with_reducible first | refine andB_in ?_ ?_ | refine andB_d ?_ ?_ | refine andB_lt ?_ ?_ | refine andB_le ?_ ?_ | refine iteB_ltt ?_ ?_ | refine iteB_let ?_ ?_ | refine iteB_dt ?_ ?_); · (first | (with_reducible assumption) | (first | omega | (simp only [lens] <;> omega)))) | ((with_reducible first | refine iteB_ltf ?_ ?_ | refine iteB_lef ?_ ?_ | refine iteB_df ?_ ?_); · (first | (with_reducible assumption) | (first | omega | (simp only [lens] <;> omega)))) | ((with_reducible first | refine andB_i ?_ ?_ | refine iteB_t ?_ ?_); · (first | (with_reducible first | assumption | exact decide_eq_true rfl | exact sEq_self _) | ((with_reducible refine eqOK_i ?_); kernel_rfl))) | ((with_reducible refine iteB_f ?_ ?_); · (first | (with_reducible first | assumption | exact decide_eq_true rfl | exact sEq_self _) | ((with_reducible refine eqOK_i ?_); kernel_rfl))) | (with_reducible refine CD.wk_au ?_) | (with_reducible first | refine andB_in ?_ ?_ | refine andB_lt ?_ ?_ | refine andB_le ?_ ?_ | refine andB_d ?_ ?_ | refine andB_i ?_ ?_ | refine iteB_lts (fun hB => ?_) (fun hB => ?_) | refine iteB_les (fun hB => ?_) (fun hB => ?_) | refine iteB_ds (fun hB => ?_) (fun hB => ?_) | refine iteB_s (fun hB => ?_) (fun hB => ?_) | refine CD.wk_as ?_ | refine And.intro ?_ ?_))
          all_goals ((conv => whnf); (try dsimp only); (try simp only [Nat.succ_eq_add_one, Nat.le_eq, castL_self]); (try omega))
          all_goals (try (first | omega | (simp only [lens] <;> omega)))
          all_goals trace_state
        · repeat' (conv => whnf
                   first | (with_reducible first | exact True.intro | rfl | exact castL_self _ _ | refine iteB_n ?_ | refine iteB_ct ?_ | refine iteB_cf ?_ | refine iteB_bt ?_ | refine iteB_bf ?_ | refine iteB_tb ?_ | refine iteB_fb ?_) | ((with_reducible refine V.same_t ?_); exact rfl) | ((with_reducible refine andB_room ?_ ?_ ?_); (· kernel_rfl); (· (first | omega | (simp only [lens] <;> omega)))) | ((with_reducible first | refine andB_in ?_ ?_ | refine andB_d ?_ ?_ | refine andB_lt ?_ ?_ | refine andB_le ?_ ?_ | refine iteB_ltt ?_ ?_ | refine iteB_let ?_ ?_ | refine iteB_dt ?_ ?_); · (first | (with_reducible assumption) | (first | omega | (simp only [lens] <;> omega)))) | ((with_reducible first | refine iteB_ltf ?_ ?_ | refine iteB_lef ?_ ?_ | refine iteB_df ?_ ?_); · (first | (with_reducible assumption) | (first | omega | (simp only [lens] <;> omega)))) | ((with_reducible first | refine andB_i ?_ ?_ | refine iteB_t ?_ ?_); · (first | (with_reducible first | assumption | exact decide_eq_true rfl | exact sEq_self _) | ((with_reducible refine eqOK_i ?_); kernel_rfl))) | ((with_reducible refine iteB_f ?_ ?_); · (first | (with_reducible first | assumption | exact decide_eq_true rfl | exact sEq_self _) | ((with_reducible refine eqOK_i ?_); kernel_rfl))) | (refine ⟨⟨k + 1, by omega⟩, ?_, rfl, ?_⟩) | (with_reducible refine CD.wk_au ?_) | (with_reducible first | refine andB_in ?_ ?_ | refine andB_lt ?_ ?_ | refine andB_le ?_ ?_ | refine andB_d ?_ ?_ | refine andB_i ?_ ?_ | refine iteB_lts (fun hB => ?_) (fun hB => ?_) | refine iteB_les (fun hB => ?_) (fun hB => ?_) | refine iteB_ds (fun hB => ?_) (fun hB => ?_) | refine iteB_s (fun hB => ?_) (fun hB => ?_) | refine CD.wk_as ?_ | refine And.intro ?_ ?_))
          all_goals ((conv => whnf); (try dsimp only); (try simp only [Nat.succ_eq_add_one, Nat.le_eq, castL_self]); (try omega))
          all_goals (try (first | omega | (simp only [lens] <;> omega)))
          all_goals trace_state
      · repeat' (conv => whnf
                 first | (with_reducible first | exact True.intro | rfl | exact castL_self _ _ | refine iteB_n ?_ | refine iteB_ct ?_ | refine iteB_cf ?_ | refine iteB_bt ?_ | refine iteB_bf ?_ | refine iteB_tb ?_ | refine iteB_fb ?_) | ((with_reducible refine V.same_t ?_); exact rfl) | ((with_reducible refine andB_room ?_ ?_ ?_); (· kernel_rfl); (· (first | omega | (simp only [lens] <;> omega)))) | ((with_reducible first | refine andB_in ?_ ?_ | refine andB_d ?_ ?_ | refine andB_lt ?_ ?_ | refine andB_le ?_ ?_ | refine iteB_ltt ?_ ?_ | refine iteB_let ?_ ?_ | refine iteB_dt ?_ ?_); · (first | (with_reducible assumption) | (first | omega | (simp only [lens] <;> omega)))) | ((with_reducible first | refine iteB_ltf ?_ ?_ | refine iteB_lef ?_ ?_ | refine iteB_df ?_ ?_); · (first | (with_reducible assumption) | (first | omega | (simp only [lens] <;> omega)))) | ((with_reducible first | refine andB_i ?_ ?_ | refine iteB_t ?_ ?_); · (first | (with_reducible first | assumption | exact decide_eq_true rfl | exact sEq_self _) | ((with_reducible refine eqOK_i ?_); kernel_rfl))) | ((with_reducible refine iteB_f ?_ ?_); · (first | (with_reducible first | assumption | exact decide_eq_true rfl | exact sEq_self _) | ((with_reducible refine eqOK_i ?_); kernel_rfl))) | (with_reducible refine CD.wk_au ?_) | (with_reducible first | refine andB_in ?_ ?_ | refine andB_lt ?_ ?_ | refine andB_le ?_ ?_ | refine andB_d ?_ ?_ | refine andB_i ?_ ?_ | refine iteB_lts (fun hB => ?_) (fun hB => ?_) | refine iteB_les (fun hB => ?_) (fun hB => ?_) | refine iteB_ds (fun hB => ?_) (fun hB => ?_) | refine iteB_s (fun hB => ?_) (fun hB => ?_) | refine CD.wk_as ?_ | refine And.intro ?_ ?_))
        all_goals ((conv => whnf); (try dsimp only); (try simp only [Nat.succ_eq_add_one, Nat.le_eq, castL_self]); (try omega))
        all_goals (try (first | omega | (simp only [lens] <;> omega)))
        all_goals trace_state
theorem rlast_at (h : LogOK i0 t0 L) : HeapAt Try.prog 2 58 [.ptr 0 0] [refO i0 t0 L ty, rowO L ty2] (.tup [.int .u64 (i0 + (List.length (α := EnR) L : Nat)), .int .u64 (lastT t0 L)]) (rtH i0 t0 L ty ty2) 2 := by
  have h0 := h.hi
  have hl := h.hl
  rcases Nat.eq_zero_or_pos L.length with hz | hz
  · have hlt := lastT_0 (t0 := t0) hz
    refine heap_of_W noTab_ok (fuel := 3) (d := 5) (N := 2) rfl rfl [] (fun _ _ h => by cases h) ?_
    repeat' (conv => whnf
             first | (with_reducible first | exact True.intro | rfl | exact castL_self _ _ | refine iteB_n ?_ | refine iteB_ct ?_ | refine iteB_cf ?_ | refine iteB_bt ?_ | refine iteB_bf ?_ | refine iteB_tb ?_ | refine iteB_fb ?_) | ((with_reducible refine V.same_t ?_); exact rfl) | ((with_reducible refine andB_room ?_ ?_ ?_); (· kernel_rfl); (· (first | omega | (simp only [lens] <;> omega)))) | ((with_reducible first | refine andB_in ?_ ?_ | refine andB_d ?_ ?_ | refine andB_lt ?_ ?_ | refine andB_le ?_ ?_ | refine iteB_ltt ?_ ?_ | refine iteB_let ?_ ?_ | refine iteB_dt ?_ ?_); · (first | (with_reducible assumption) | (first | omega | (simp only [lens] <;> omega)))) | ((with_reducible first | refine iteB_ltf ?_ ?_ | refine iteB_lef ?_ ?_ | refine iteB_df ?_ ?_); · (first | (with_reducible assumption) | (first | omega | (simp only [lens] <;> omega)))) | ((with_reducible first | refine andB_i ?_ ?_ | refine iteB_t ?_ ?_); · (first | (with_reducible first | assumption | exact decide_eq_true rfl | exact sEq_self _) | ((with_reducible refine eqOK_i ?_); kernel_rfl))) | ((with_reducible refine iteB_f ?_ ?_); · (first | (with_reducible first | assumption | exact decide_eq_true rfl | exact sEq_self _) | ((with_reducible refine eqOK_i ?_); kernel_rfl))) | (with_reducible refine CD.wk_au ?_) | (with_reducible first | refine andB_in ?_ ?_ | refine andB_lt ?_ ?_ | refine andB_le ?_ ?_ | refine andB_d ?_ ?_ | refine andB_i ?_ ?_ | refine iteB_lts (fun hB => ?_) (fun hB => ?_) | refine iteB_les (fun hB => ?_) (fun hB => ?_) | refine iteB_ds (fun hB => ?_) (fun hB => ?_) | refine iteB_s (fun hB => ?_) (fun hB => ?_) | refine CD.wk_as ?_ | refine And.intro ?_ ?_))
    all_goals ((conv => whnf); (try dsimp only); (try simp only [Nat.succ_eq_add_one, Nat.le_eq, castL_self]); (try omega))
    all_goals (try (first | omega | (simp only [lens] <;> omega)))
    all_goals trace_state
  · obtain ⟨e1, e2⟩ := rl_last h (by omega)
    refine heap_of_W noTab_ok (fuel := 3) (d := 5) (N := 2) rfl rfl [] (fun _ _ h => by cases h) ?_
    repeat' (conv => whnf
             first | (with_reducible first | exact True.intro | rfl | exact castL_self _ _ | refine iteB_n ?_ | refine iteB_ct ?_ | refine iteB_cf ?_ | refine iteB_bt ?_ | refine iteB_bf ?_ | refine iteB_tb ?_ | refine iteB_fb ?_) | ((with_reducible refine V.same_t ?_); exact rfl) | ((with_reducible refine andB_room ?_ ?_ ?_); (· kernel_rfl); (· (first | omega | (simp only [lens] <;> omega)))) | ((with_reducible first | refine andB_in ?_ ?_ | refine andB_d ?_ ?_ | refine andB_lt ?_ ?_ | refine andB_le ?_ ?_ | refine iteB_ltt ?_ ?_ | refine iteB_let ?_ ?_ | refine iteB_dt ?_ ?_); · (first | (with_reducible assumption) | (first | omega | (simp only [lens] <;> omega)))) | ((with_reducible first | refine iteB_ltf ?_ ?_ | refine iteB_lef ?_ ?_ | refine iteB_df ?_ ?_); · (first | (with_reducible assumption) | (first | omega | (simp only [lens] <;> omega)))) | ((with_reducible first | refine andB_i ?_ ?_ | refine iteB_t ?_ ?_); · (first | (with_reducible first | assumption | exact decide_eq_true rfl | exact sEq_self _) | ((with_reducible refine eqOK_i ?_); kernel_rfl))) | ((with_reducible refine iteB_f ?_ ?_); · (first | (with_reducible first | assumption | exact decide_eq_true rfl | exact sEq_self _) | ((with_reducible refine eqOK_i ?_); kernel_rfl))) | (with_reducible refine CD.wk_au ?_) | (with_reducible first | refine andB_in ?_ ?_ | refine andB_lt ?_ ?_ | refine andB_le ?_ ?_ | refine andB_d ?_ ?_ | refine andB_i ?_ ?_ | refine iteB_lts (fun hB => ?_) (fun hB => ?_) | refine iteB_les (fun hB => ?_) (fun hB => ?_) | refine iteB_ds (fun hB => ?_) (fun hB => ?_) | refine iteB_s (fun hB => ?_) (fun hB => ?_) | refine CD.wk_as ?_ | refine And.intro ?_ ?_))
    all_goals ((conv => whnf); (try dsimp only); (try simp only [Nat.succ_eq_add_one, Nat.le_eq, castL_self]); (try omega))
    all_goals (try (first | omega | (simp only [lens] <;> omega)))
    all_goals trace_state
noncomputable def rsC (a b : Int) (k : Nat) : CD := ⟨51, [(0, .ptr 0 0), (1, .int .u64 a), (2, .int .u64 b), (7, .rs 2 0 (slF a b L k).length (slF a b L k).length false 3), (8, .int .i64 (k : Int))], [], [(0, refO i0 t0 L ty), (1, rowO L ty2), (2, .rows entE (slF a b L k) 0 false)], 3⟩
theorem rslice_at (a b : Int) (hL : L.length ≤ 1000000) : HeapAt Try.prog 2 32 [.ptr 0 0, .int .u64 a, .int .u64 b] [refO i0 t0 L ty, rowO L ty2] (.rs 2 0 (slF a b L (List.length (α := EnR) L)).length (slF a b L (List.length (α := EnR) L)).length false 3) [(0, refO i0 t0 L ty), (1, rowO L ty2), (2, .rows entE (slF a b L (List.length (α := EnR) L)) 0 false)] 3 := by
  refine heap_of_W noTab_ok (fuel := 3) (d := 3) (N := 2) rfl rfl [⟨3, [], rsC i0 t0 L ty ty2 a b 0, .leaf (.exit 0) (rsC i0 t0 L ty ty2 a b L.length)⟩] (fun N l hl => ?_) ?_
  · rw [List.mem_singleton.1 hl]
    refine LpD.ok_one (b := bodyAt Try.prog 32 3) rfl (loop_W noTab_ok (fuel := 3) (d := 5) (X := { i : Nat // i ≤ L.length }) (fun x => rsC i0 t0 L ty ty2 a b x.1) (fun x => L.length - x.1)
      (fun _ => .leaf (.exit 0) (rsC i0 t0 L ty ty2 a b L.length)) (fun _ => noLpW) (fun _ => noLp) (fun _ => noLp_ad) (fun _ => noLp_ok _) ?_ ⟨0, Nat.zero_le _⟩)
    rintro ⟨i, hi⟩
    dsimp only
    have hl := slF_len a b L i
    have hl2 := slF_len2 a b L i
    rcases Nat.lt_or_ge i L.length with hlt | hge
    · have e0 : 0 + Int.toNat (i : Int) = i := by omega
      by_cases hc : @LE.le Int _ a (Sym.rowAt entE L (0 + Int.toNat (i : Int))).2.1 ∧ @LE.le Int _ (Sym.rowAt entE L (0 + Int.toNat (i : Int))).2.1 b
      · obtain ⟨hc1, hc2⟩ := hc
        have hs := slF_yes (a := a) (b := b) hlt (by rw [← e0]; exact hc1) (by rw [← e0]; exact hc2)
        have hn : (slF a b L (i + 1)).length = (slF a b L i).length + 1 := by rw [hs, List.length_append]; rfl
        repeat' (conv => whnf
                 first | (with_reducible first | exact True.intro | rfl | exact castL_self _ _ | refine iteB_n ?_ | refine iteB_ct ?_ | refine iteB_cf ?_ | refine iteB_bt ?_ | refine iteB_bf ?_ | refine iteB_tb ?_ | refine iteB_fb ?_) | ((with_reducible refine V.same_t ?_); exact rfl) | ((with_reducible refine andB_room ?_ ?_ ?_); (· kernel_rfl); (· (first | omega | (simp only [lens] <;> omega)))) | ((with_reducible first | refine andB_in ?_ ?_ | refine andB_d ?_ ?_ | refine andB_lt ?_ ?_ | refine andB_le ?_ ?_ | refine iteB_ltt ?_ ?_ | refine iteB_let ?_ ?_ | refine iteB_dt ?_ ?_); · (first | (with_reducible assumption) | (first | omega | (simp only [lens] <;> omega)))) | ((with_reducible first | refine iteB_ltf ?_ ?_ | refine iteB_lef ?_ ?_ | refine iteB_df ?_ ?_); · (first | (with_reducible assumption) | (first | omega | (simp only [lens] <;> omega)))) | ((with_reducible first | refine andB_i ?_ ?_ | refine iteB_t ?_ ?_); · (first | (with_reducible first | assumption | exact decide_eq_true rfl | exact sEq_self _) | ((with_reducible refine eqOK_i ?_); kernel_rfl))) | ((with_reducible refine iteB_f ?_ ?_); · (first | (with_reducible first | assumption | exact decide_eq_true rfl | exact sEq_self _) | ((with_reducible refine eqOK_i ?_); kernel_rfl))) | (refine ⟨⟨i + 1, hlt⟩, ?_, rfl, ?_⟩) | (with_reducible refine CD.wk_au ?_) | (with_reducible first | refine andB_in ?_ ?_ | refine andB_lt ?_ ?_ | refine andB_le ?_ ?_ | refine andB_d ?_ ?_ | refine andB_i ?_ ?_ | refine iteB_lts (fun hB => ?_) (fun hB => ?_) | refine iteB_les (fun hB => ?_) (fun hB => ?_) | refine iteB_ds (fun hB => ?_) (fun hB => ?_) | refine iteB_s (fun hB => ?_) (fun hB => ?_) | refine CD.wk_as ?_ | refine And.intro ?_ ?_))
        all_goals ((conv => whnf); (try dsimp only); (try simp only [Nat.succ_eq_add_one, Nat.le_eq, castL_self]); (try omega))
        all_goals (try (first | omega | (simp only [lens] <;> omega)))
        all_goals first
          | omega
          | (rw [hs, seg_all _ rfl, e0]; rfl)
          | trace_state
      · have hs := slF_no (a := a) (b := b) hlt (by rw [e0] at hc; exact hc)
        rw [not_and] at hc
        have hn : (slF a b L (i + 1)).length = (slF a b L i).length := by rw [hs]
        repeat' (conv => whnf
                 first | (with_reducible first | exact True.intro | rfl | exact castL_self _ _ | refine iteB_n ?_ | refine iteB_ct ?_ | refine iteB_cf ?_ | refine iteB_bt ?_ | refine iteB_bf ?_ | refine iteB_tb ?_ | refine iteB_fb ?_) | ((with_reducible refine V.same_t ?_); exact rfl) | ((with_reducible refine andB_room ?_ ?_ ?_); (· kernel_rfl); (· (first | omega | (simp only [lens] <;> omega)))) | ((with_reducible first | refine andB_in ?_ ?_ | refine andB_d ?_ ?_ | refine andB_lt ?_ ?_ | refine andB_le ?_ ?_ | refine iteB_ltt ?_ ?_ | refine iteB_let ?_ ?_ | refine iteB_dt ?_ ?_); · (first | (with_reducible assumption) | (first | omega | (simp only [lens] <;> omega)))) | ((with_reducible first | refine iteB_ltf ?_ ?_ | refine iteB_lef ?_ ?_ | refine iteB_df ?_ ?_); · (first | (with_reducible assumption) | (first | omega | (simp only [lens] <;> omega)))) | ((with_reducible first | refine andB_i ?_ ?_ | refine iteB_t ?_ ?_); · (first | (with_reducible first | assumption | exact decide_eq_true rfl | exact sEq_self _) | ((with_reducible refine eqOK_i ?_); kernel_rfl))) | ((with_reducible refine iteB_f ?_ ?_); · (first | (with_reducible first | assumption | exact decide_eq_true rfl | exact sEq_self _) | ((with_reducible refine eqOK_i ?_); kernel_rfl))) | (refine ⟨⟨i + 1, hlt⟩, ?_, rfl, ?_⟩) | (with_reducible refine CD.wk_au ?_) | (with_reducible first | refine andB_in ?_ ?_ | refine andB_lt ?_ ?_ | refine andB_le ?_ ?_ | refine andB_d ?_ ?_ | refine andB_i ?_ ?_ | refine iteB_lts (fun hB => ?_) (fun hB => ?_) | refine iteB_les (fun hB => ?_) (fun hB => ?_) | refine iteB_ds (fun hB => ?_) (fun hB => ?_) | refine iteB_s (fun hB => ?_) (fun hB => ?_) | refine CD.wk_as ?_ | refine And.intro ?_ ?_))
        all_goals ((conv => whnf); (try dsimp only); (try simp only [Nat.succ_eq_add_one, Nat.le_eq, castL_self]); (try omega))
        all_goals (try (first | omega | (simp only [lens] <;> omega)))
        all_goals first
          | omega
          | exact hs.symm
          | trace_state
    · have he : i = L.length := Nat.le_antisymm hi hge
      subst he
      repeat' (conv => whnf
               first | (with_reducible first | exact True.intro | rfl | exact castL_self _ _ | refine iteB_n ?_ | refine iteB_ct ?_ | refine iteB_cf ?_ | refine iteB_bt ?_ | refine iteB_bf ?_ | refine iteB_tb ?_ | refine iteB_fb ?_) | ((with_reducible refine V.same_t ?_); exact rfl) | ((with_reducible refine andB_room ?_ ?_ ?_); (· kernel_rfl); (· (first | omega | (simp only [lens] <;> omega)))) | ((with_reducible first | refine andB_in ?_ ?_ | refine andB_d ?_ ?_ | refine andB_lt ?_ ?_ | refine andB_le ?_ ?_ | refine iteB_ltt ?_ ?_ | refine iteB_let ?_ ?_ | refine iteB_dt ?_ ?_); · (first | (with_reducible assumption) | (first | omega | (simp only [lens] <;> omega)))) | ((with_reducible first | refine iteB_ltf ?_ ?_ | refine iteB_lef ?_ ?_ | refine iteB_df ?_ ?_); · (first | (with_reducible assumption) | (first | omega | (simp only [lens] <;> omega)))) | ((with_reducible first | refine andB_i ?_ ?_ | refine iteB_t ?_ ?_); · (first | (with_reducible first | assumption | exact decide_eq_true rfl | exact sEq_self _) | ((with_reducible refine eqOK_i ?_); kernel_rfl))) | ((with_reducible refine iteB_f ?_ ?_); · (first | (with_reducible first | assumption | exact decide_eq_true rfl | exact sEq_self _) | ((with_reducible refine eqOK_i ?_); kernel_rfl))) | (with_reducible refine CD.wk_au ?_) | (with_reducible first | refine andB_in ?_ ?_ | refine andB_lt ?_ ?_ | refine andB_le ?_ ?_ | refine andB_d ?_ ?_ | refine andB_i ?_ ?_ | refine iteB_lts (fun hB => ?_) (fun hB => ?_) | refine iteB_les (fun hB => ?_) (fun hB => ?_) | refine iteB_ds (fun hB => ?_) (fun hB => ?_) | refine iteB_s (fun hB => ?_) (fun hB => ?_) | refine CD.wk_as ?_ | refine And.intro ?_ ?_))
      all_goals ((conv => whnf); (try dsimp only); (try simp only [Nat.succ_eq_add_one, Nat.le_eq, castL_self]); (try omega))
      all_goals (try (first | omega | (simp only [lens] <;> omega)))
      all_goals trace_state
  · have h0 := slF_0 a b L
    have hl := slF_len a b L L.length
    have hz : (slF a b L 0).length = 0 := by rw [h0]; rfl
    repeat' (conv => whnf
             first | (with_reducible first | exact True.intro | rfl | exact castL_self _ _ | refine iteB_n ?_ | refine iteB_ct ?_ | refine iteB_cf ?_ | refine iteB_bt ?_ | refine iteB_bf ?_ | refine iteB_tb ?_ | refine iteB_fb ?_) | ((with_reducible refine V.same_t ?_); exact rfl) | ((with_reducible refine andB_room ?_ ?_ ?_); (· kernel_rfl); (· (first | omega | (simp only [lens] <;> omega)))) | ((with_reducible first | refine andB_in ?_ ?_ | refine andB_d ?_ ?_ | refine andB_lt ?_ ?_ | refine andB_le ?_ ?_ | refine iteB_ltt ?_ ?_ | refine iteB_let ?_ ?_ | refine iteB_dt ?_ ?_); · (first | (with_reducible assumption) | (first | omega | (simp only [lens] <;> omega)))) | ((with_reducible first | refine iteB_ltf ?_ ?_ | refine iteB_lef ?_ ?_ | refine iteB_df ?_ ?_); · (first | (with_reducible assumption) | (first | omega | (simp only [lens] <;> omega)))) | ((with_reducible first | refine andB_i ?_ ?_ | refine iteB_t ?_ ?_); · (first | (with_reducible first | assumption | exact decide_eq_true rfl | exact sEq_self _) | ((with_reducible refine eqOK_i ?_); kernel_rfl))) | ((with_reducible refine iteB_f ?_ ?_); · (first | (with_reducible first | assumption | exact decide_eq_true rfl | exact sEq_self _) | ((with_reducible refine eqOK_i ?_); kernel_rfl))) | (with_reducible refine CD.wk_au ?_) | (with_reducible first | refine andB_in ?_ ?_ | refine andB_lt ?_ ?_ | refine andB_le ?_ ?_ | refine andB_d ?_ ?_ | refine andB_i ?_ ?_ | refine iteB_lts (fun hB => ?_) (fun hB => ?_) | refine iteB_les (fun hB => ?_) (fun hB => ?_) | refine iteB_ds (fun hB => ?_) (fun hB => ?_) | refine iteB_s (fun hB => ?_) (fun hB => ?_) | refine CD.wk_as ?_ | refine And.intro ?_ ?_))
    all_goals ((conv => whnf); (try dsimp only); (try simp only [Nat.succ_eq_add_one, Nat.le_eq, castL_self]); (try omega))
    all_goals (try (first | omega | (simp only [lens] <;> omega)))
    all_goals first
      | omega
      | exact seg_all _ rfl
      | exact h0.symm
      | trace_state
end
noncomputable def asRef (os : List EObj) : Option (TypeId × TypeId × List Bool × LogR) := match os with
  | [o0, o1] => (match o0, o1 with
    | .cells cs ty ish, .rows e L ty2 ish2 => (match cs, ish, ish2 with
      | [.int .u64 i0, .int .u64 t0, .rs 1 0 len cap false 3], false, false => (match asL entE e L with
        | some M => some (ty, ty2, [decide (len = List.length (α := EnR) M), decide (cap = List.length (α := EnR) M)], i0, t0, (M : List EnR))
        | none => none)
      | _, _, _ => none)
    | _, _ => none)
  | _ => none
theorem asRef_eq {os : List EObj} {ty ty2 : TypeId} {c : List Bool} {i0 t0 : Int} {L : List EnR} (h : asRef os = some (ty, ty2, c, i0, t0, L)) (hc : allB c) : os = [refO i0 t0 L ty, rowO L ty2] := by
  unfold asRef at h
  split at h
  · split at h
    · split at h
      · split at h
        · rename_i M hM
          cases h
          obtain ⟨q, e1⟩ := asL_eq hM
          subst q
          have e1 := e1.symm
          subst e1
          have h1 := of_decide_eq_true hc.1
          have h2 := of_decide_eq_true hc.2.1
          subst h1; subst h2
          rfl
        · cases h
      · cases h
    · cases h
  · cases h
noncomputable def rtermF (args : List V) (os : List EObj) : Option HRes := match args with
  | [.ptr 0 0, .int .u64 i] => (match asRef os with
    | some (ty, ty2, c, i0, t0, L) => some (logB i0 t0 L :: leI 0 i :: ltI i 18446744073709551616 :: c, .tup [.int .u64 (termV i0 t0 L i), .bool (termI i0 t0 L i)], [(0, refO i0 t0 L ty), (1, rowO L ty2)], 2)
    | none => none)
  | _ => none
theorem rtermF_ok (args : List V) (os : List EObj) (c : List Bool) (v : V) (h' : List (Nat × EObj)) (n' : Nat) (h : rtermF args os = some (c, v, h', n')) (hc : allB c) : HeapAt Try.prog 2 59 args os v h' n' := by
  unfold rtermF at h
  split at h
  · split at h
    · rename_i ty ty2 c i0 t0 L ho
      cases h
      obtain ⟨c1, c2, c3, c4⟩ := hc
      obtain rfl := asRef_eq ho c4
      rw [leI_eq] at c2
      rw [ltI_eq] at c3
      exact rterm_at i0 t0 L ty ty2 _ (logB_of c1) ⟨of_decide_eq_true c2, of_decide_eq_true c3⟩
    · cases h
  · cases h
noncomputable def rlastF (args : List V) (os : List EObj) : Option HRes := match args with
  | [.ptr 0 0] => (match asRef os with
    | some (ty, ty2, c, i0, t0, L) => some (logB i0 t0 L :: c, .tup [.int .u64 (i0 + (List.length (α := EnR) L : Nat)), .int .u64 (lastT t0 L)], [(0, refO i0 t0 L ty), (1, rowO L ty2)], 2)
    | none => none)
  | _ => none
theorem rlastF_ok (args : List V) (os : List EObj) (c : List Bool) (v : V) (h' : List (Nat × EObj)) (n' : Nat) (h : rlastF args os = some (c, v, h', n')) (hc : allB c) : HeapAt Try.prog 2 58 args os v h' n' := by
  unfold rlastF at h
  split at h
  · split at h
    · rename_i ty ty2 c i0 t0 L ho
      cases h
      obtain ⟨c1, c4⟩ := hc
      obtain rfl := asRef_eq ho c4
      exact rlast_at i0 t0 L ty ty2 (logB_of c1)
    · cases h
  · cases h
noncomputable def rslF (args : List V) (os : List EObj) : Option HRes := match args with
  | [.ptr 0 0, .int .u64 a, .int .u64 b] => (match asRef os with
    | some (ty, ty2, c, i0, t0, L) => some (decide (List.length (α := EnR) L ≤ 1000000) :: c, .rs 2 0 (slF a b L (List.length (α := EnR) L)).length (slF a b L (List.length (α := EnR) L)).length false 3, [(0, refO i0 t0 L ty), (1, rowO L ty2), (2, .rows entE (slF a b L (List.length (α := EnR) L)) 0 false)], 3)
    | none => none)
  | _ => none
theorem rslF_ok (args : List V) (os : List EObj) (c : List Bool) (v : V) (h' : List (Nat × EObj)) (n' : Nat) (h : rslF args os = some (c, v, h', n')) (hc : allB c) : HeapAt Try.prog 2 32 args os v h' n' := by
  unfold rslF at h
  split at h
  · split at h
    · rename_i ty ty2 c i0 t0 L ho
      cases h
      obtain ⟨c1, c4⟩ := hc
      obtain rfl := asRef_eq ho c4
      exact rslice_at i0 t0 L ty ty2 _ _ (of_decide_eq_true c1)
    · cases h
  · cases h
noncomputable def htR1 : HTab := oneHT 59 2 false rtermF (oneHT 58 2 false rlastF (oneHT 32 2 false rslF noHT))
theorem htR1_ok : HTabOK Try.prog htR1 := oneHT_ok rtermF_ok (oneHT_ok rlastF_ok (oneHT_ok rslF_ok noHT_ok))
end Go.Proofs.Ytlkbmjdgfbciaaa
end

section
namespace Go.Proofs.Ytlkbmjdgfbciaaa
open Go.Sym
set_option linter.unusedVariables false
set_option linter.unusedSimpArgs false
set_option maxRecDepth 100000
set_option maxHeartbeats 4000000
theorem slF_drop {i0 : Int} {L : List EnR} (hr : RunL i0 L) {a b : Int} {k : Nat} (hk : k ≤ L.length) (ha : a = i0 + k + 1) (hb : b = i0 + L.length) : slF a b L L.length = L.drop k := by
  subst ha; subst hb
  rw [slF_eq, List.take_length]
  have h1 : (L.take k).filter (inS (i0 + k + 1) (i0 + L.length)) = [] := by
    refine List.filter_eq_nil_iff.2 fun e he => ?_
    obtain ⟨j, hj, rfl⟩ := List.mem_iff_getElem.1 he
    rw [List.length_take] at hj
    have e1 : (L.take k)[j] = rowE L j := by rw [List.getElem_take, rowE_is (by omega)]
    rw [e1]
    unfold inS
    rw [hr j (by omega), decide_eq_false (by omega)]
    simp
  have h2 : (L.drop k).filter (inS (i0 + k + 1) (i0 + L.length)) = L.drop k := by
    refine List.filter_eq_self.2 fun e he => ?_
    obtain ⟨j, hj, rfl⟩ := List.mem_iff_getElem.1 he
    rw [List.length_drop] at hj
    have e1 : (L.drop k)[j] = rowE L (k + j) := by rw [List.getElem_drop, rowE_is (by omega)]
    rw [e1]
    unfold inS
    rw [hr (k + j) (by omega), decide_eq_true (by omega), decide_eq_true (by omega)]
    rfl
  have h3 : L.filter (inS (i0 + k + 1) (i0 + L.length)) = (L.take k ++ L.drop k).filter (inS (i0 + k + 1) (i0 + L.length)) := congrArg (List.filter _) (List.take_append_drop k L).symm
  rw [h3, List.filter_append, h1, h2]; rfl
theorem push_leaf2 {L : List EnR} {x y : EnR} {n : Nat} (hn : L.length = n) (hxy : x = y) : seg L 0 n ++ seg [x] 0 1 = L ++ [y] := by
  subst hxy
  rw [seg_all _ hn, seg_one]
section
variable (i0 t0 : Int) (L : List EnR) (ty ty2 : TypeId)
theorem rpush_at (trm : Int) (d : ByteArray) (hL : LogOK i0 t0 L) (ht : 0 ≤ trm ∧ trm < 18446744073709551616) : HeapAt Try.prog 1 53 [.ptr 0 0, .int .u64 trm, .str d] [refO i0 t0 L ty, rowO L ty2] (.int .u64 (pushV i0 t0 L trm d)) (rtH i0 t0 (pushL i0 t0 L trm d) ty ty2) 2 := by
  have hi := hL.hi
  have ht0 := hL.ht
  have hl := hL.hl
  have htop := hL.top
  have hlb := logB_ok hL
  by_cases hp : pushAt i0 t0 L trm d
  · obtain ⟨e1, e2⟩ := push_yes hp
    rw [e1, e2]
    unfold pushAt at hp
    refine heap_of_H htR1_ok noTab_ok (fuel := 3) (d := 6) (N := 2) rfl rfl [] (fun _ _ h => by cases h) ?_
    repeat' (conv => whnf
             first | (with_reducible first | exact True.intro | rfl | exact castL_self _ _ | refine iteB_n ?_ | refine iteB_ct ?_ | refine iteB_cf ?_ | refine iteB_bt ?_ | refine iteB_bf ?_ | refine iteB_tb ?_ | refine iteB_fb ?_) | ((with_reducible refine V.same_t ?_); exact rfl) | ((with_reducible refine andB_room ?_ ?_ ?_); (· kernel_rfl); (· (first | omega | (simp only [lens] <;> omega)))) | ((with_reducible first | refine andB_in ?_ ?_ | refine andB_d ?_ ?_ | refine andB_lt ?_ ?_ | refine andB_le ?_ ?_ | refine iteB_ltt ?_ ?_ | refine iteB_let ?_ ?_ | refine iteB_dt ?_ ?_); · (first | (with_reducible assumption) | (first | omega | (simp only [lens] <;> omega)))) | ((with_reducible first | refine iteB_ltf ?_ ?_ | refine iteB_lef ?_ ?_ | refine iteB_df ?_ ?_); · (first | (with_reducible assumption) | (first | omega | (simp only [lens] <;> omega)))) | ((with_reducible first | refine andB_i ?_ ?_ | refine iteB_t ?_ ?_); · (first | (with_reducible first | assumption | exact decide_eq_true rfl | exact sEq_self _) | ((with_reducible refine eqOK_i ?_); kernel_rfl) | (exact hlb))) | ((with_reducible refine iteB_f ?_ ?_); · (first | (with_reducible first | assumption | exact decide_eq_true rfl | exact sEq_self _) | ((with_reducible refine eqOK_i ?_); kernel_rfl) | (exact hlb))) | (with_reducible refine CD.wk_au ?_) | (with_reducible first | refine andB_in ?_ ?_ | refine andB_lt ?_ ?_ | refine andB_le ?_ ?_ | refine andB_d ?_ ?_ | refine andB_i ?_ ?_ | refine iteB_lts (fun hB => ?_) (fun hB => ?_) | refine iteB_les (fun hB => ?_) (fun hB => ?_) | refine iteB_ds (fun hB => ?_) (fun hB => ?_) | refine iteB_s (fun hB => ?_) (fun hB => ?_) | refine CD.wk_as ?_ | refine And.intro ?_ ?_))
    all_goals ((conv => whnf); (try dsimp only); (try simp only [Nat.succ_eq_add_one, Nat.le_eq, castL_self]); (try omega))
    all_goals (try (first | omega | (simp only [lens] <;> omega)))
    all_goals first
      | exact push_leaf2 rfl (by rw [show (i0 + ((List.length (α := EnR) L : Nat) : Int) + 1) % 18446744073709551616 = i0 + ((List.length (α := EnR) L : Nat) : Int) + 1 by omega])
      | trace_state
  · obtain ⟨e1, e2⟩ := push_no hp
    rw [e1, e2]
    unfold pushAt at hp
    refine heap_of_H htR1_ok noTab_ok (fuel := 3) (d := 6) (N := 2) rfl rfl [] (fun _ _ h => by cases h) ?_
    repeat' (conv => whnf
             first | (with_reducible first | exact True.intro | rfl | exact castL_self _ _ | refine iteB_n ?_ | refine iteB_ct ?_ | refine iteB_cf ?_ | refine iteB_bt ?_ | refine iteB_bf ?_ | refine iteB_tb ?_ | refine iteB_fb ?_) | ((with_reducible refine V.same_t ?_); exact rfl) | ((with_reducible refine andB_room ?_ ?_ ?_); (· kernel_rfl); (· (first | omega | (simp only [lens] <;> omega)))) | ((with_reducible first | refine andB_in ?_ ?_ | refine andB_d ?_ ?_ | refine andB_lt ?_ ?_ | refine andB_le ?_ ?_ | refine iteB_ltt ?_ ?_ | refine iteB_let ?_ ?_ | refine iteB_dt ?_ ?_); · (first | (with_reducible assumption) | (first | omega | (simp only [lens] <;> omega)))) | ((with_reducible first | refine iteB_ltf ?_ ?_ | refine iteB_lef ?_ ?_ | refine iteB_df ?_ ?_); · (first | (with_reducible assumption) | (first | omega | (simp only [lens] <;> omega)))) | ((with_reducible first | refine andB_i ?_ ?_ | refine iteB_t ?_ ?_); · (first | (with_reducible first | assumption | exact decide_eq_true rfl | exact sEq_self _) | ((with_reducible refine eqOK_i ?_); kernel_rfl) | (exact hlb))) | ((with_reducible refine iteB_f ?_ ?_); · (first | (with_reducible first | assumption | exact decide_eq_true rfl | exact sEq_self _) | ((with_reducible refine eqOK_i ?_); kernel_rfl) | (exact hlb))) | (with_reducible refine CD.wk_au ?_) | (with_reducible first | refine andB_in ?_ ?_ | refine andB_lt ?_ ?_ | refine andB_le ?_ ?_ | refine andB_d ?_ ?_ | refine andB_i ?_ ?_ | refine iteB_lts (fun hB => ?_) (fun hB => ?_) | refine iteB_les (fun hB => ?_) (fun hB => ?_) | refine iteB_ds (fun hB => ?_) (fun hB => ?_) | refine iteB_s (fun hB => ?_) (fun hB => ?_) | refine CD.wk_as ?_ | refine And.intro ?_ ?_))
    all_goals ((conv => whnf); (try dsimp only); (try simp only [Nat.succ_eq_add_one, Nat.le_eq, castL_self]); (try omega))
    all_goals (try (first | omega | (simp only [lens] <;> omega)))
    all_goals first
      | (exfalso; simp only [castL_self] at *; omega)
      | trace_state
theorem rcomp_at (i : Int) (hL : LogOK i0 t0 L) (ht : 0 ≤ i ∧ i < 18446744073709551616) : HeapAt Try.prog 1 54 [.ptr 0 0, .int .u64 i] [refO i0 t0 L ty, rowO L ty2] (.int .i64 (compE i0 t0 L i)) (rtH (compI i0 t0 L i) (compT i0 t0 L i) (compL i0 t0 L i) ty ty2) 2 := by
  have hi := hL.hi
  have ht0 := hL.ht
  have hl := hL.hl
  have htop := hL.top
  have hlb := logB_ok hL
  cases hI : termI i0 t0 L i with
  | true =>
    have hin := termI_in hI
    obtain ⟨e1, e2, e3, e4⟩ := comp_yes hI
    have hsl := slF_drop hL.run (a := (i + 1) % 18446744073709551616) (b := i0 + (List.length (α := EnR) L : Nat)) (k := (i - i0).toNat) (by omega) (by omega) rfl
    rw [e1, e2, e3, e4, ← hsl]
    refine heap_of_H htR1_ok noTab_ok (fuel := 3) (d := 6) (N := 2) rfl rfl [] (fun _ _ h => by cases h) ?_
    repeat' (conv => whnf
             first | (with_reducible first | exact True.intro | rfl | exact castL_self _ _ | refine iteB_n ?_ | refine iteB_ct ?_ | refine iteB_cf ?_ | refine iteB_bt ?_ | refine iteB_bf ?_ | refine iteB_tb ?_ | refine iteB_fb ?_) | ((with_reducible refine V.same_t ?_); exact rfl) | ((with_reducible refine andB_room ?_ ?_ ?_); (· kernel_rfl); (· (first | omega | (simp only [lens] <;> omega)))) | ((with_reducible first | refine andB_in ?_ ?_ | refine andB_d ?_ ?_ | refine andB_lt ?_ ?_ | refine andB_le ?_ ?_ | refine iteB_ltt ?_ ?_ | refine iteB_let ?_ ?_ | refine iteB_dt ?_ ?_); · (first | (with_reducible assumption) | (first | omega | (simp only [lens] <;> omega)))) | ((with_reducible first | refine iteB_ltf ?_ ?_ | refine iteB_lef ?_ ?_ | refine iteB_df ?_ ?_); · (first | (with_reducible assumption) | (first | omega | (simp only [lens] <;> omega)))) | ((with_reducible first | refine andB_i ?_ ?_ | refine iteB_t ?_ ?_); · (first | (with_reducible first | assumption | exact decide_eq_true rfl | exact sEq_self _) | ((with_reducible refine eqOK_i ?_); kernel_rfl) | (first | exact hlb | exact hI))) | ((with_reducible refine iteB_f ?_ ?_); · (first | (with_reducible first | assumption | exact decide_eq_true rfl | exact sEq_self _) | ((with_reducible refine eqOK_i ?_); kernel_rfl) | (first | exact hlb | exact hI))) | (with_reducible refine CD.wk_au ?_) | (with_reducible first | refine andB_in ?_ ?_ | refine andB_lt ?_ ?_ | refine andB_le ?_ ?_ | refine andB_d ?_ ?_ | refine andB_i ?_ ?_ | refine iteB_lts (fun hB => ?_) (fun hB => ?_) | refine iteB_les (fun hB => ?_) (fun hB => ?_) | refine iteB_ds (fun hB => ?_) (fun hB => ?_) | refine iteB_s (fun hB => ?_) (fun hB => ?_) | refine CD.wk_as ?_ | refine And.intro ?_ ?_))
    all_goals ((conv => whnf); (try dsimp only); (try simp only [Nat.succ_eq_add_one, Nat.le_eq, castL_self]); (try omega))
    all_goals (try (first | omega | (simp only [lens] <;> omega)))
    all_goals trace_state
  | false =>
    obtain ⟨e1, e2, e3, e4⟩ := comp_no (by rw [hI]; decide)
    rw [e1, e2, e3, e4]
    refine heap_of_H htR1_ok noTab_ok (fuel := 3) (d := 6) (N := 2) rfl rfl [] (fun _ _ h => by cases h) ?_
    repeat' (conv => whnf
             first | (with_reducible first | exact True.intro | rfl | exact castL_self _ _ | refine iteB_n ?_ | refine iteB_ct ?_ | refine iteB_cf ?_ | refine iteB_bt ?_ | refine iteB_bf ?_ | refine iteB_tb ?_ | refine iteB_fb ?_) | ((with_reducible refine V.same_t ?_); exact rfl) | ((with_reducible refine andB_room ?_ ?_ ?_); (· kernel_rfl); (· (first | omega | (simp only [lens] <;> omega)))) | ((with_reducible first | refine andB_in ?_ ?_ | refine andB_d ?_ ?_ | refine andB_lt ?_ ?_ | refine andB_le ?_ ?_ | refine iteB_ltt ?_ ?_ | refine iteB_let ?_ ?_ | refine iteB_dt ?_ ?_); · (first | (with_reducible assumption) | (first | omega | (simp only [lens] <;> omega)))) | ((with_reducible first | refine iteB_ltf ?_ ?_ | refine iteB_lef ?_ ?_ | refine iteB_df ?_ ?_); · (first | (with_reducible assumption) | (first | omega | (simp only [lens] <;> omega)))) | ((with_reducible first | refine andB_i ?_ ?_ | refine iteB_t ?_ ?_); · (first | (with_reducible first | assumption | exact decide_eq_true rfl | exact sEq_self _) | ((with_reducible refine eqOK_i ?_); kernel_rfl) | (first | exact hlb | exact hI))) | ((with_reducible refine iteB_f ?_ ?_); · (first | (with_reducible first | assumption | exact decide_eq_true rfl | exact sEq_self _) | ((with_reducible refine eqOK_i ?_); kernel_rfl) | (first | exact hlb | exact hI))) | (with_reducible refine CD.wk_au ?_) | (with_reducible first | refine andB_in ?_ ?_ | refine andB_lt ?_ ?_ | refine andB_le ?_ ?_ | refine andB_d ?_ ?_ | refine andB_i ?_ ?_ | refine iteB_lts (fun hB => ?_) (fun hB => ?_) | refine iteB_les (fun hB => ?_) (fun hB => ?_) | refine iteB_ds (fun hB => ?_) (fun hB => ?_) | refine iteB_s (fun hB => ?_) (fun hB => ?_) | refine CD.wk_as ?_ | refine And.intro ?_ ?_))
    all_goals ((conv => whnf); (try dsimp only); (try simp only [Nat.succ_eq_add_one, Nat.le_eq, castL_self]); (try omega))
    all_goals (try (first | omega | (simp only [lens] <;> omega)))
    all_goals trace_state
theorem rrest_at (idx trm : Int) (hL : LogOK i0 t0 L) (hx : 0 ≤ idx ∧ idx < 18446744073709551616) (ht : 0 ≤ trm ∧ trm < 18446744073709551616) : HeapAt Try.prog 1 55 [.ptr 0 0, .int .u64 idx, .int .u64 trm] [refO i0 t0 L ty, rowO L ty2] .undef (rtH (restI i0 idx trm) (restT i0 t0 idx trm) (restL i0 t0 L idx trm) ty ty2) 2 := by
  have hi := hL.hi
  have ht0 := hL.ht
  have hl := hL.hl
  have htop := hL.top
  have hlb := logB_ok hL
  by_cases hr : restAt i0 idx trm
  · obtain ⟨e1, e2, e3⟩ := rest_yes (t0 := t0) (L := L) hr
    rw [e1, e2, e3]
    unfold restAt at hr
    cases hI : termI i0 t0 L idx with
    | true =>
      have hin := termI_in hI
      by_cases hV : termV i0 t0 L idx = trm
      · rw [if_pos ⟨rfl, hV⟩]
        have hsl := slF_drop hL.run (a := (idx + 1) % 18446744073709551616) (b := i0 + (List.length (α := EnR) L : Nat)) (k := (idx - i0).toNat) (by omega) (by omega) rfl
        rw [← hsl]
        refine heap_of_H htR1_ok noTab_ok (fuel := 3) (d := 6) (N := 2) rfl rfl [] (fun _ _ h => by cases h) ?_
        repeat' (conv => whnf
                 first | (with_reducible first | exact True.intro | rfl | exact castL_self _ _ | refine iteB_n ?_ | refine iteB_ct ?_ | refine iteB_cf ?_ | refine iteB_bt ?_ | refine iteB_bf ?_ | refine iteB_tb ?_ | refine iteB_fb ?_) | ((with_reducible refine V.same_t ?_); exact rfl) | ((with_reducible refine andB_room ?_ ?_ ?_); (· kernel_rfl); (· (first | omega | (simp only [lens] <;> omega)))) | ((with_reducible first | refine andB_in ?_ ?_ | refine andB_d ?_ ?_ | refine andB_lt ?_ ?_ | refine andB_le ?_ ?_ | refine iteB_ltt ?_ ?_ | refine iteB_let ?_ ?_ | refine iteB_dt ?_ ?_); · (first | (with_reducible assumption) | (first | omega | (simp only [lens] <;> omega)))) | ((with_reducible first | refine iteB_ltf ?_ ?_ | refine iteB_lef ?_ ?_ | refine iteB_df ?_ ?_); · (first | (with_reducible assumption) | (first | omega | (simp only [lens] <;> omega)))) | ((with_reducible first | refine andB_i ?_ ?_ | refine iteB_t ?_ ?_); · (first | (with_reducible first | assumption | exact decide_eq_true rfl | exact sEq_self _) | ((with_reducible refine eqOK_i ?_); kernel_rfl) | (first | exact hlb | exact hI))) | ((with_reducible refine iteB_f ?_ ?_); · (first | (with_reducible first | assumption | exact decide_eq_true rfl | exact sEq_self _) | ((with_reducible refine eqOK_i ?_); kernel_rfl) | (first | exact hlb | exact hI))) | (with_reducible refine CD.wk_au ?_) | (with_reducible first | refine andB_in ?_ ?_ | refine andB_lt ?_ ?_ | refine andB_le ?_ ?_ | refine andB_d ?_ ?_ | refine andB_i ?_ ?_ | refine iteB_lts (fun hB => ?_) (fun hB => ?_) | refine iteB_les (fun hB => ?_) (fun hB => ?_) | refine iteB_ds (fun hB => ?_) (fun hB => ?_) | refine iteB_s (fun hB => ?_) (fun hB => ?_) | refine CD.wk_as ?_ | refine And.intro ?_ ?_))
        all_goals ((conv => whnf); (try dsimp only); (try simp only [Nat.succ_eq_add_one, Nat.le_eq, castL_self]); (try omega))
        all_goals (try (first | omega | (simp only [lens] <;> omega)))
        all_goals trace_state
      · rw [if_neg fun g => hV g.2]
        refine heap_of_H htR1_ok noTab_ok (fuel := 3) (d := 6) (N := 2) rfl rfl [] (fun _ _ h => by cases h) ?_
        repeat' (conv => whnf
                 first | (with_reducible first | exact True.intro | rfl | exact castL_self _ _ | refine iteB_n ?_ | refine iteB_ct ?_ | refine iteB_cf ?_ | refine iteB_bt ?_ | refine iteB_bf ?_ | refine iteB_tb ?_ | refine iteB_fb ?_) | ((with_reducible refine V.same_t ?_); exact rfl) | ((with_reducible refine andB_room ?_ ?_ ?_); (· kernel_rfl); (· (first | omega | (simp only [lens] <;> omega)))) | ((with_reducible first | refine andB_in ?_ ?_ | refine andB_d ?_ ?_ | refine andB_lt ?_ ?_ | refine andB_le ?_ ?_ | refine iteB_ltt ?_ ?_ | refine iteB_let ?_ ?_ | refine iteB_dt ?_ ?_); · (first | (with_reducible assumption) | (first | omega | (simp only [lens] <;> omega)))) | ((with_reducible first | refine iteB_ltf ?_ ?_ | refine iteB_lef ?_ ?_ | refine iteB_df ?_ ?_); · (first | (with_reducible assumption) | (first | omega | (simp only [lens] <;> omega)))) | ((with_reducible first | refine andB_i ?_ ?_ | refine iteB_t ?_ ?_); · (first | (with_reducible first | assumption | exact decide_eq_true rfl | exact sEq_self _) | ((with_reducible refine eqOK_i ?_); kernel_rfl) | (first | exact hlb | exact hI))) | ((with_reducible refine iteB_f ?_ ?_); · (first | (with_reducible first | assumption | exact decide_eq_true rfl | exact sEq_self _) | ((with_reducible refine eqOK_i ?_); kernel_rfl) | (first | exact hlb | exact hI))) | (with_reducible refine CD.wk_au ?_) | (with_reducible first | refine andB_in ?_ ?_ | refine andB_lt ?_ ?_ | refine andB_le ?_ ?_ | refine andB_d ?_ ?_ | refine andB_i ?_ ?_ | refine iteB_lts (fun hB => ?_) (fun hB => ?_) | refine iteB_les (fun hB => ?_) (fun hB => ?_) | refine iteB_ds (fun hB => ?_) (fun hB => ?_) | refine iteB_s (fun hB => ?_) (fun hB => ?_) | refine CD.wk_as ?_ | refine And.intro ?_ ?_))
        all_goals ((conv => whnf); (try dsimp only); (try simp only [Nat.succ_eq_add_one, Nat.le_eq, castL_self]); (try omega))
        all_goals (try (first | omega | (simp only [lens] <;> omega)))
        all_goals trace_state
    | false =>
      rw [if_neg fun g => by cases g.1]
      refine heap_of_H htR1_ok noTab_ok (fuel := 3) (d := 6) (N := 2) rfl rfl [] (fun _ _ h => by cases h) ?_
      repeat' (conv => whnf
               first | (with_reducible first | exact True.intro | rfl | exact castL_self _ _ | refine iteB_n ?_ | refine iteB_ct ?_ | refine iteB_cf ?_ | refine iteB_bt ?_ | refine iteB_bf ?_ | refine iteB_tb ?_ | refine iteB_fb ?_) | ((with_reducible refine V.same_t ?_); exact rfl) | ((with_reducible refine andB_room ?_ ?_ ?_); (· kernel_rfl); (· (first | omega | (simp only [lens] <;> omega)))) | ((with_reducible first | refine andB_in ?_ ?_ | refine andB_d ?_ ?_ | refine andB_lt ?_ ?_ | refine andB_le ?_ ?_ | refine iteB_ltt ?_ ?_ | refine iteB_let ?_ ?_ | refine iteB_dt ?_ ?_); · (first | (with_reducible assumption) | (first | omega | (simp only [lens] <;> omega)))) | ((with_reducible first | refine iteB_ltf ?_ ?_ | refine iteB_lef ?_ ?_ | refine iteB_df ?_ ?_); · (first | (with_reducible assumption) | (first | omega | (simp only [lens] <;> omega)))) | ((with_reducible first | refine andB_i ?_ ?_ | refine iteB_t ?_ ?_); · (first | (with_reducible first | assumption | exact decide_eq_true rfl | exact sEq_self _) | ((with_reducible refine eqOK_i ?_); kernel_rfl) | (first | exact hlb | exact hI))) | ((with_reducible refine iteB_f ?_ ?_); · (first | (with_reducible first | assumption | exact decide_eq_true rfl | exact sEq_self _) | ((with_reducible refine eqOK_i ?_); kernel_rfl) | (first | exact hlb | exact hI))) | (with_reducible refine CD.wk_au ?_) | (with_reducible first | refine andB_in ?_ ?_ | refine andB_lt ?_ ?_ | refine andB_le ?_ ?_ | refine andB_d ?_ ?_ | refine andB_i ?_ ?_ | refine iteB_lts (fun hB => ?_) (fun hB => ?_) | refine iteB_les (fun hB => ?_) (fun hB => ?_) | refine iteB_ds (fun hB => ?_) (fun hB => ?_) | refine iteB_s (fun hB => ?_) (fun hB => ?_) | refine CD.wk_as ?_ | refine And.intro ?_ ?_))
      all_goals ((conv => whnf); (try dsimp only); (try simp only [Nat.succ_eq_add_one, Nat.le_eq, castL_self]); (try omega))
      all_goals (try (first | omega | (simp only [lens] <;> omega)))
      all_goals trace_state
  · obtain ⟨e1, e2, e3⟩ := rest_no (t0 := t0) (L := L) hr
    rw [e1, e2, e3]
    unfold restAt at hr
    refine heap_of_H htR1_ok noTab_ok (fuel := 3) (d := 6) (N := 2) rfl rfl [] (fun _ _ h => by cases h) ?_
    repeat' (conv => whnf
             first | (with_reducible first | exact True.intro | rfl | exact castL_self _ _ | refine iteB_n ?_ | refine iteB_ct ?_ | refine iteB_cf ?_ | refine iteB_bt ?_ | refine iteB_bf ?_ | refine iteB_tb ?_ | refine iteB_fb ?_) | ((with_reducible refine V.same_t ?_); exact rfl) | ((with_reducible refine andB_room ?_ ?_ ?_); (· kernel_rfl); (· (first | omega | (simp only [lens] <;> omega)))) | ((with_reducible first | refine andB_in ?_ ?_ | refine andB_d ?_ ?_ | refine andB_lt ?_ ?_ | refine andB_le ?_ ?_ | refine iteB_ltt ?_ ?_ | refine iteB_let ?_ ?_ | refine iteB_dt ?_ ?_); · (first | (with_reducible assumption) | (first | omega | (simp only [lens] <;> omega)))) | ((with_reducible first | refine iteB_ltf ?_ ?_ | refine iteB_lef ?_ ?_ | refine iteB_df ?_ ?_); · (first | (with_reducible assumption) | (first | omega | (simp only [lens] <;> omega)))) | ((with_reducible first | refine andB_i ?_ ?_ | refine iteB_t ?_ ?_); · (first | (with_reducible first | assumption | exact decide_eq_true rfl | exact sEq_self _) | ((with_reducible refine eqOK_i ?_); kernel_rfl) | (first | exact hlb | exact hI))) | ((with_reducible refine iteB_f ?_ ?_); · (first | (with_reducible first | assumption | exact decide_eq_true rfl | exact sEq_self _) | ((with_reducible refine eqOK_i ?_); kernel_rfl) | (first | exact hlb | exact hI))) | (with_reducible refine CD.wk_au ?_) | (with_reducible first | refine andB_in ?_ ?_ | refine andB_lt ?_ ?_ | refine andB_le ?_ ?_ | refine andB_d ?_ ?_ | refine andB_i ?_ ?_ | refine iteB_lts (fun hB => ?_) (fun hB => ?_) | refine iteB_les (fun hB => ?_) (fun hB => ?_) | refine iteB_ds (fun hB => ?_) (fun hB => ?_) | refine iteB_s (fun hB => ?_) (fun hB => ?_) | refine CD.wk_as ?_ | refine And.intro ?_ ?_))
    all_goals ((conv => whnf); (try dsimp only); (try simp only [Nat.succ_eq_add_one, Nat.le_eq, castL_self]); (try omega))
    all_goals (try (first | omega | (simp only [lens] <;> omega)))
    all_goals trace_state
end
end Go.Proofs.Ytlkbmjdgfbciaaa
end
