/-
  Texts of this claim, one behind the other: ClOnJ ClOnK SymU ClOnFin EngP CloEnd. Each says its own conditions.
-/
import Derived.Test.YtlfhiophojahbaaCloM25
import Derived.Test.YtlfhiophojahbaaCloM26
import Derived.Test.YtlfhiophojahbaaCloM22
import Derived.Deep.Slices
import Derived.ChangeArms
import Derived.WideShapes
import Derived.OpenShut
import Derived.Below
import Derived.ChangeSame
import Derived.WalkKit
import Derived.ProofKit

set_option linter.unusedVariables false
set_option linter.unusedSimpArgs false
set_option linter.unusedSectionVars false
section
namespace Go.Proofs.Ytlfhiophojahbaa
open Go.Sym
set_option linter.unusedVariables false
set_option linter.unusedSimpArgs false
set_option maxRecDepth 100000
set_option maxHeartbeats 4000000
section
variable (idn nodes : Int) (l : List (Int × Int × Int)) (n i : Nat)
theorem inv_up {s : S27} (h : Inv27 idn nodes i s) : Inv27 idn nodes (i + 1) s := by
  cases s with
  | non node => exact h
  | idl node writes sent L => obtain ⟨⟨a1, a2⟩, ⟨a3, a4⟩, ⟨a5, a6⟩, ⟨a7, a8⟩, a9, a10, a11⟩ := h; exact ⟨⟨a1, a2⟩, ⟨a3, by omega⟩, ⟨a5, by omega⟩, ⟨a7, by omega⟩, a9, a10, by omega⟩
  | pnd node writes sent L send ticks M clk => obtain ⟨⟨a1, a2⟩, ⟨a3, a4⟩, ⟨a5, a6⟩, ⟨a7, a8⟩, a9, ⟨a10, a11⟩, a12, a13, a14⟩ := h; exact ⟨⟨a1, a2⟩, ⟨a3, by omega⟩, ⟨a5, by omega⟩, ⟨a7, by omega⟩, a9, ⟨a10, by omega⟩, a12, a13, a14⟩
theorem inv_nonPut {node : Int} (h : Inv27 idn nodes i (.non node)) (id num : Int) (o : OpR) (w : Int) (hw : 0 ≤ w ∧ w ≤ 1) (hc : (id = idn + 1 ∧ num = w) ∨ (id = 0 ∧ num = 0)) : Inv27 idn nodes (i + 1) (.pnd node w 0 [begR id num o ((i : Int) + 1)] true 0 [] 0) := by
  have e1 : lstC [begR id num o ((i : Int) + 1)] = begR id num o ((i : Int) + 1) := lst_app (L := [])
  refine ⟨h, ⟨hw.1, by omega⟩, ⟨by omega, by omega⟩, ⟨Nat.zero_lt_one, by show 1 ≤ i + 1; omega⟩, okL_one _ rfl, ?_, ?_, ⟨by omega, by omega⟩, fun q => by cases q⟩
  · rw [e1]; exact ⟨rfl, by show (i : Int) + 1 ≤ ((i + 1 : Nat) : Int); omega⟩
  · rw [e1]; exact hc
theorem inv_idlPut {node writes sent : Int} {L : List ClR} (h : Inv27 idn nodes i (.idl node writes sent L)) (id num : Int) (o : OpR) (w : Int) (hw : writes ≤ w ∧ w ≤ writes + 1) (hc : (id = idn + 1 ∧ num = w) ∨ (id = 0 ∧ num = 0)) : Inv27 idn nodes (i + 1) (.pnd node w sent (L ++ [begR id num o ((i : Int) + 1)]) true 0 [] 0) := by
  obtain ⟨⟨a1, a2⟩, ⟨a3, a4⟩, ⟨a5, a6⟩, ⟨a7, a8⟩, a9, a10, a11⟩ := h
  have e1 : lstC (L ++ [begR id num o ((i : Int) + 1)]) = begR id num o ((i : Int) + 1) := lst_app
  have e2 : (L ++ [begR id num o ((i : Int) + 1)]).length = L.length + 1 := by rw [List.length_append]; rfl
  refine ⟨⟨a1, a2⟩, ⟨by omega, by omega⟩, ⟨a5, by omega⟩, ⟨by omega, by omega⟩, okL_app a9 a7 a10 (by show dne (lstC L) ≤ (i : Int) + 1; omega) rfl, ?_, ?_, ⟨by omega, by omega⟩, fun q => by cases q⟩
  · rw [e1]; exact ⟨rfl, by show (i : Int) + 1 ≤ ((i + 1 : Nat) : Int); omega⟩
  · rw [e1]; exact hc
theorem inv_done {node writes sent : Int} {L : List ClR} {send : Bool} {ticks : Int} {M : KM} {clk : Nat} (h : Inv27 idn nodes i (.pnd node writes sent L send ticks M clk)) (nd rev : Int) : Inv27 idn nodes (i + 1) (.idl node writes sent (doneL L ((i : Int) + 1) nd rev)) := by
  obtain ⟨⟨a1, a2⟩, ⟨a3, a4⟩, ⟨a5, a6⟩, ⟨a7, a8⟩, a9, ⟨a10, a11⟩, a12, a13, a14⟩ := h
  have e1 := lst_done (step := (i : Int) + 1) (nd := nd) (rev := rev) a7
  have e2 := doneL_len L ((i : Int) + 1) nd rev
  have e3 : dne (lstC (doneL L ((i : Int) + 1) nd rev)) = max ((i : Int) + 1) 1 := by rw [e1]
  refine ⟨⟨a1, a2⟩, ⟨a3, by omega⟩, ⟨a5, by omega⟩, ⟨by omega, by omega⟩, okL_done a9 a7 a10 (by omega) (by omega), ?_, ?_⟩
  · rw [e3]; omega
  · rw [e3]; omega
theorem inv_pnd {node writes sent node' sent' : Int} {L : List ClR} {send send' : Bool} {ticks ticks' : Int} {M M' : KM} {clk clk' : Nat} (h : Inv27 idn nodes i (.pnd node writes sent L send ticks M clk)) (hn : 0 ≤ node' ∧ node' < nodes) (hs : sent ≤ sent' ∧ sent' ≤ sent + 1) (ht : 0 ≤ ticks' ∧ ticks' ≤ 20) (hq : send' = false → ticks' < 20) : Inv27 idn nodes (i + 1) (.pnd node' writes sent' L send' ticks' M' clk') := by
  obtain ⟨⟨a1, a2⟩, ⟨a3, a4⟩, ⟨a5, a6⟩, ⟨a7, a8⟩, a9, ⟨a10, a11⟩, a12, a13, a14⟩ := h
  exact ⟨hn, ⟨a3, by omega⟩, ⟨by omega, by omega⟩, ⟨a7, by omega⟩, a9, ⟨a10, by omega⟩, a12, ht, hq⟩
noncomputable abbrev BD27 : Code := bodyAt Try.prog 5 8
theorem ok_in (N : Nat) {y : LpD} (h : LpD.ok Try.prog N 0 (bodyOf Try.prog 5) y) (he : loopsIn y.r BD27 = loopsIn y.r (bodyOf Try.prog 5)) : LpD.ok Try.prog N 0 BD27 y := fun b hb => h b (he ▸ hb)
theorem e56 : loopsIn 56 BD27 = loopsIn 56 (bodyOf Try.prog 5) := rfl
theorem e15 : loopsIn 15 BD27 = loopsIn 15 (bodyOf Try.prog 5) := rfl
theorem ok_lpI (N : Nat) (m : List (Nat × Nat)) {node writes sent : Int} {L : List ClR} (hL : okL L) (hl : L.length ≤ 1000) : LpD.ok Try.prog N 0 BD27 (lpI idn nodes l i m node writes sent L) :=
  ok_in N (fun b hb => ck_idl idn nodes node writes sent l L i ((i : Int) + 1) hL hl N b hb) e56
theorem ok_lpP (N : Nat) (m : List (Nat × Nat)) {node writes sent : Int} {L : List ClR} {send : Bool} {ticks : Int} {M : KM} {clk : Nat} (hL : okL L) (hl : L.length ≤ 1000) : LpD.ok Try.prog N 0 BD27 (lpP idn nodes l i m node writes sent L send ticks M clk) :=
  ok_in N (fun b hb => ck_pnd idn nodes node writes sent l L send ticks M clk i ((i : Int) + 1) hL hl N b hb) e56
abbrev OKS (ls : List LpD) : Prop := ∀ N, ∀ y ∈ ls, LpD.ok Try.prog N 0 BD27 y
theorem oks_nil : OKS [] := fun _ _ h => by cases h
theorem oks_one {a : LpD} (h : ∀ N, LpD.ok Try.prog N 0 BD27 a) : OKS [a] := fun N y hy => by rw [List.mem_singleton.1 hy]; exact h N
theorem oks_two {a b : LpD} (h : ∀ N, LpD.ok Try.prog N 0 BD27 a) (h2 : ∀ N, LpD.ok Try.prog N 0 BD27 b) : OKS [a, b] := fun N y hy => by
  rcases List.mem_cons.1 hy with rfl | hy
  · exact h N
  · rw [List.mem_singleton.1 hy]; exact h2 N
theorem ok_I {s : S27} {m} {node writes sent : Int} {L : List ClR} (h : Inv27 idn nodes (i + 1) (.idl node writes sent L)) (hi : i < 150) (N : Nat) : LpD.ok Try.prog N 0 BD27 (lpI idn nodes l i m node writes sent L) := by
  obtain ⟨a1, a3, a5, ⟨a7, a8⟩, a9, a10⟩ := h
  exact ok_lpI idn nodes l i N m a9 (by omega)
theorem ok_P {m} {node writes sent : Int} {L : List ClR} {send : Bool} {ticks : Int} {M : KM} {clk : Nat} (h : Inv27 idn nodes (i + 1) (.pnd node writes sent L send ticks M clk)) (hi : i < 150) (N : Nat) : LpD.ok Try.prog N 0 BD27 (lpP idn nodes l i m node writes sent L send ticks M clk) := by
  obtain ⟨a1, a3, a5, ⟨a7, a8⟩, a9, a10⟩ := h
  exact ok_lpP idn nodes l i N m a9 (by omega)
theorem stp_ex (s : S27) (H : H27 idn nodes l n) (hlt : i < n) (h : Inv27 idn nodes i s) : ∃ ls, Stp27 idn nodes l i s ls ∧ OKS ls := by
  obtain ⟨hn, hn3, hl, hr, hid, hno⟩ := H
  obtain ⟨⟨r1, r2⟩, ⟨r3, r4⟩, r5, r6⟩ := hr i hlt
  have hi : i < 150 := by omega
  have hil : i < l.length := by omega
  have ha : @Eq Int ((Sym.rowAt a3 l (Int.toNat (i : Int))).1 % 5) 0 ∨ (@Eq Int ((Sym.rowAt a3 l (Int.toNat (i : Int))).1 % 5) 1 ∨ @Eq Int ((Sym.rowAt a3 l (Int.toNat (i : Int))).1 % 5) 2) ∨ @Eq Int ((Sym.rowAt a3 l (Int.toNat (i : Int))).1 % 5) 3 ∨ @Eq Int ((Sym.rowAt a3 l (Int.toNat (i : Int))).1 % 5) 4 := by omega
  obtain ⟨m, hm⟩ : ∃ m : Nat, @Eq Int (m : Int) ((Sym.rowAt a3 l (Int.toNat (i : Int))).2.1 % 30) := ⟨((Sym.rowAt a3 l (Int.toNat (i : Int))).2.1 % 30).toNat, by omega⟩
  have hno2 : 1 ≤ nodes ∧ nodes ≤ 7 := by omega
  cases s with
  | non node =>
    rcases ha with ha | ha | ha | ha
    · by_cases hb : @Eq Int ((Sym.rowAt a3 l (Int.toNat (i : Int))).2.1 % 3) 0
      · exact ⟨_, .nonGet node ha hb, oks_one fun N => ok_P idn nodes l i (inv_nonPut idn nodes i h 0 0 getR 0 (by omega) (Or.inr ⟨rfl, rfl⟩)) hi N⟩
      · exact ⟨_, .nonPut node ha hb, oks_one fun N => ok_P idn nodes l i (inv_nonPut idn nodes i h (idn + 1) 1 (putR ⟨#[118]⟩) 1 (by omega) (Or.inl ⟨rfl, rfl⟩)) hi N⟩
    · exact ⟨_, .nonNext node ha, oks_nil⟩
    · exact ⟨_, .nonTell node ha, oks_nil⟩
    · exact ⟨_, .nonTick node m ha hm, oks_one fun N => ok_in N (tn_loop idn nodes node l i ((i : Int) + 1) m hil hl ⟨r3, r4⟩ hm N) e15⟩
  | idl node writes sent L =>
    have h2 := inv_up idn nodes i h
    rcases ha with ha | ha | ha | ha
    · by_cases hb : @Eq Int ((Sym.rowAt a3 l (Int.toNat (i : Int))).2.1 % 3) 0
      · exact ⟨_, .idlGet node writes sent L ha hb, oks_one fun N => ok_P idn nodes l i (inv_idlPut idn nodes i h 0 0 getR writes (by omega) (Or.inr ⟨rfl, rfl⟩)) hi N⟩
      · exact ⟨_, .idlPut node writes sent L ha hb, oks_one fun N => ok_P idn nodes l i (inv_idlPut idn nodes i h (idn + 1) (writes + 1) (putR ⟨#[118]⟩) (writes + 1) (by omega) (Or.inl ⟨rfl, rfl⟩)) hi N⟩
    · exact ⟨_, .idlNext node writes sent L ha, oks_one fun N => ok_I (s := .non 0) idn nodes l i h2 hi N⟩
    · exact ⟨_, .idlTell node writes sent L ha, oks_one fun N => ok_I (s := .non 0) idn nodes l i h2 hi N⟩
    · exact ⟨_, .idlTick node writes sent L m ha hm, oks_two (fun N => ok_in N (fun b hb => ti_loop idn nodes node writes sent l L i ((i : Int) + 1) m hil hl ⟨r3, r4⟩ hm N b hb) e15) (fun N => ok_I (s := .non 0) idn nodes l i h2 hi N)⟩
  | pnd node writes sent L send ticks M clk =>
    have h2 := inv_up idn nodes i h
    have hnd := h.1
    obtain ⟨ht, hst⟩ := h.2.2.2.2.2.2.2
    rcases ha with ha | ha | ha | ha
    · exact ⟨_, .pndAsk node writes sent L send ticks M clk ha, oks_one fun N => ok_P idn nodes l i h2 hi N⟩
    · cases send with
      | true => exact ⟨_, .pndNext node writes sent L ticks M clk ha, oks_one fun N => ok_P idn nodes l i (inv_pnd idn nodes i h hnd (by omega) (by omega) (fun _ => by omega)) hi N⟩
      | false => exact ⟨_, .pndNone node writes sent L ticks M clk ha, oks_one fun N => ok_P idn nodes l i h2 hi N⟩
    · cases hc : hasM M ((sent - min sent ((Sym.rowAt a3 l (Int.toNat (i : Int))).2.1 % 4 % 18446744073709551616)) % 18446744073709551616) with
      | false => exact ⟨_, .pndNot node writes sent L send ticks M clk ha hc, oks_one fun N => ok_P idn nodes l i h2 hi N⟩
      | true =>
        by_cases hb : @Eq Int ((Sym.rowAt a3 l (Int.toNat (i : Int))).2.2 % 3) 0
        · rcases Nat.eq_zero_or_pos (delM M ((sent - min sent ((Sym.rowAt a3 l (Int.toNat (i : Int))).2.1 % 4 % 18446744073709551616)) % 18446744073709551616)).length with hm | hm
          · exact ⟨_, .pndElse node writes sent L send ticks M clk ha hb hc hm, oks_one fun N => ok_P idn nodes l i (inv_pnd idn nodes i h (elseN_in hno2.1) (by omega) ht (fun q => by cases q)) hi N⟩
          · exact ⟨_, .pndOff node writes sent L send ticks M clk ha hb hc hm, oks_one fun N => ok_P idn nodes l i (inv_pnd idn nodes i h hnd (by omega) ht hst) hi N⟩
        · exact ⟨_, .pndDone node writes sent L send ticks M clk ha hb hc, oks_one fun N => ok_I (s := .non 0) idn nodes l i (inv_done idn nodes i h _ _) hi N⟩
    · obtain ⟨i1, i2, i3⟩ := tk_in nodes (node, send, ticks) hno2.1 hnd ht hst m
      exact ⟨_, .pndTick node writes sent L send ticks M clk m ha hm, oks_two (fun N => ok_in N (fun b hb => tk_loop idn nodes node writes sent l L send ticks M clk i ((i : Int) + 1) m hil hl ⟨r3, r4⟩ hm hno2 hnd ht hst N b hb) e15) (fun N => ok_P idn nodes l i (inv_pnd idn nodes i h i1 (by omega) i2 i3) hi N)⟩
theorem nx_ex (s : S27) (H : H27 idn nodes l n) (hle : i ≤ n) (h : Inv27 idn nodes i s) : ∃ ls, P27 idn nodes l n (i, s, ls) := by
  rcases Nat.lt_or_ge i n with q | q
  · obtain ⟨ls, h1, h2⟩ := stp_ex idn nodes l n i s H q h
    exact ⟨ls, hle, h, fun _ => h1, h2⟩
  · exact ⟨[], hle, h, fun p => absurd p (Nat.not_lt.2 q), oks_nil⟩
end
end Go.Proofs.Ytlfhiophojahbaa
end

section
namespace Go.Proofs.Ytlfhiophojahbaa
open Go.Sym
set_option linter.unusedVariables false
set_option linter.unusedSimpArgs false
set_option maxRecDepth 100000
set_option maxHeartbeats 4000000
section
variable (idn nodes : Int) (l : List (Int × Int × Int)) (n : Nat)
theorem rd_end (s : S27) (ls : List LpD) (H : H27 idn nodes l n) (h : P27 idn nodes l n (n, s, ls)) : RG idn nodes l n n s ls h := by
  obtain ⟨hn, hn3, hl, hr, hid, hno⟩ := H
  cases s
  all_goals
    repeat' ((conv => whnf); first | (with_reducible first | (refine W1.o ?_; constructor) | rfl | exact castL_self _ _) | ((with_reducible refine V.same_t ?_); exact rfl) | ((with_reducible refine andB_room ?_ ?_ ?_); (· kernel_rfl); (· (first | omega | (simp only [lens] <;> omega) | (decide +kernel) | (simp only [maxI_eq, pmGet_eq, pmHas_eq, pmPut_eq, pmClk_eq, pmDel_eq] <;> decide +kernel)))) | ((with_reducible refine W2.o ?_; constructor); · (first | (with_reducible assumption) | (first | omega | (simp only [lens] <;> omega) | (decide +kernel) | (simp only [maxI_eq, pmGet_eq, pmHas_eq, pmPut_eq, pmClk_eq, pmDel_eq] <;> decide +kernel)))) | ((with_reducible refine W3.o ?_; constructor); · (first | (with_reducible assumption) | (first | omega | (simp only [lens] <;> omega) | (decide +kernel) | (simp only [maxI_eq, pmGet_eq, pmHas_eq, pmPut_eq, pmClk_eq, pmDel_eq] <;> decide +kernel)))) | ((with_reducible refine W4.o ?_; constructor); · (first | (with_reducible first | assumption | exact decide_eq_true rfl | exact sEq_self _) | ((with_reducible refine eqOK_i ?_); kernel_rfl) | (simp only [maxI_eq, pmGet_eq, pmHas_eq, pmPut_eq, pmClk_eq, pmDel_eq] <;> decide +kernel))) | ((with_reducible refine iteB_f ?_ ?_); · (first | (with_reducible first | assumption | exact decide_eq_true rfl | exact sEq_self _) | ((with_reducible refine eqOK_i ?_); kernel_rfl) | (simp only [maxI_eq, pmGet_eq, pmHas_eq, pmPut_eq, pmClk_eq, pmDel_eq] <;> decide +kernel))) | (with_reducible refine CD.wk_au ?_) | (with_reducible refine W5.o ?_; constructor) | ((with_reducible refine W6.o ?_; constructor) <;> intro hB))
    all_goals ((conv => whnf); (try dsimp only); (try simp only [Nat.succ_eq_add_one, Nat.le_eq, castL_self]); (try omega))
    all_goals (try (first | omega | (simp only [lens] <;> omega) | (decide +kernel) | (simp only [maxI_eq, pmGet_eq, pmHas_eq, pmPut_eq, pmClk_eq, pmDel_eq] <;> decide +kernel)))
    all_goals first
      | exact rfl
      | trace_state
theorem on_loop (H : H27 idn nodes l n) (node : Int) (hnd : 0 ≤ node ∧ node < nodes) (m : List (Nat × Nat)) (N : Nat) : LpD.ok Try.prog N 0 (bodyOf Try.prog 5) ⟨8, m, onC idn nodes l 0 (.non node), .leaf (.exit 0) endC⟩ := by
  obtain ⟨ls0, h0⟩ := nx_ex idn nodes l n 0 (.non node) H (Nat.zero_le n) hnd
  refine LpD.ok_one (b := BD27) rfl (loop_H htCl_ok tabCl_ok (fuel := 4) (d := 6) (X := X27 idn nodes l n) (fun x => onC idn nodes l x.1.1 x.1.2.1) (fun x => n - x.1.1)
    (fun _ => .leaf (.exit 0) endC) (fun x => x.1.2.2) (fun x => x.2.2.2.2 N) ?_ ⟨(0, .non node, ls0), h0⟩)
  rintro ⟨⟨i, s, ls⟩, h⟩
  rcases Nat.lt_or_ge i n with hlt | hge
  · have hs : Stp27 idn nodes l i s ls := h.2.2.1 hlt
    have hI : Inv27 idn nodes i s := h.2.1
    have up : ∀ s' : S27, Inv27 idn nodes (i + 1) s' → ∃ ls', P27 idn nodes l n (i + 1, s', ls') := fun s' q => nx_ex idn nodes l n (i + 1) s' H hlt q
    obtain ⟨ht1, ht2, hno2⟩ : True ∧ True ∧ 1 ≤ nodes := ⟨trivial, trivial, by obtain ⟨_, _, _, _, hid, hno⟩ := H; omega⟩
    cases hs with
    | nonPut node ha hb => obtain ⟨ls', h'⟩ := up _ (inv_nonPut idn nodes i hI (idn + 1) 1 (putR ⟨#[118]⟩) 1 (by omega) (Or.inl ⟨rfl, rfl⟩)); exact rd_nonPut idn nodes l n i node ls' H hlt ha hb h h'
    | nonGet node ha hb => obtain ⟨ls', h'⟩ := up _ (inv_nonPut idn nodes i hI 0 0 getR 0 (by omega) (Or.inr ⟨rfl, rfl⟩)); exact rd_nonGet idn nodes l n i node ls' H hlt ha hb h h'
    | nonNext node ha => obtain ⟨ls', h'⟩ := up (.non node) hI; exact rd_nonNext idn nodes l n i node ls' H hlt ha h h'
    | nonTell node ha => obtain ⟨ls', h'⟩ := up (.non node) hI; exact rd_nonTell idn nodes l n i node ls' H hlt ha h h'
    | nonTick node m ha hm => obtain ⟨ls', h'⟩ := up (.non node) hI; exact rd_nonTick idn nodes l n i node ls' m hm H hlt ha h h'
    | idlPut node writes sent L ha hb => obtain ⟨ls', h'⟩ := up _ (inv_idlPut idn nodes i hI (idn + 1) (writes + 1) (putR ⟨#[118]⟩) (writes + 1) (by omega) (Or.inl ⟨rfl, rfl⟩)); exact rd_idlPut idn nodes l n i node writes sent L ls' H hlt ha hb h h'
    | idlGet node writes sent L ha hb => obtain ⟨ls', h'⟩ := up _ (inv_idlPut idn nodes i hI 0 0 getR writes (by omega) (Or.inr ⟨rfl, rfl⟩)); exact rd_idlGet idn nodes l n i node writes sent L ls' H hlt ha hb h h'
    | idlNext node writes sent L ha => obtain ⟨ls', h'⟩ := up _ (inv_up idn nodes i hI); exact rd_idlNext idn nodes l n i node writes sent L ls' H hlt ha h h'
    | idlTell node writes sent L ha => obtain ⟨ls', h'⟩ := up _ (inv_up idn nodes i hI); exact rd_idlTell idn nodes l n i node writes sent L ls' H hlt ha h h'
    | idlTick node writes sent L m ha hm => obtain ⟨ls', h'⟩ := up _ (inv_up idn nodes i hI); exact rd_idlTick idn nodes l n i node writes sent L m ls' H hlt ha hm h h'
    | pndAsk node writes sent L send ticks M clk ha => obtain ⟨ls', h'⟩ := up _ (inv_up idn nodes i hI); exact rd_pndAsk idn nodes l n i node writes sent L send ticks M clk ls' H hlt ha h h'
    | pndNext node writes sent L ticks M clk ha => obtain ⟨ls', h'⟩ := up (.pnd node writes (sent + 1) L false 0 (putM M (sent + 1) clk) (clkM M (sent + 1) clk)) (inv_pnd (send' := false) (ticks' := 0) (M' := putM M (sent + 1) clk) (clk' := clkM M (sent + 1) clk) (sent' := sent + 1) idn nodes i hI hI.1 (by omega) (by omega) (fun _ => by omega)); exact rd_pndNext idn nodes l n i node writes sent L ticks M clk ls' H hlt ha h h'
    | pndNone node writes sent L ticks M clk ha => obtain ⟨ls', h'⟩ := up _ (inv_up idn nodes i hI); exact rd_pndNone idn nodes l n i node writes sent L ticks M clk ls' H hlt ha h h'
    | pndNot node writes sent L send ticks M clk ha hc => obtain ⟨ls', h'⟩ := up _ (inv_up idn nodes i hI); exact rd_pndNot idn nodes l n i node writes sent L send ticks M clk ls' H hlt ha hc h h'
    | pndDone node writes sent L send ticks M clk ha hb hc => obtain ⟨ls', h'⟩ := up _ (inv_done idn nodes i hI _ _); exact rd_pndDone idn nodes l n i node writes sent L send ticks M clk ls' H hlt ha hb hc h h'
    | pndOff node writes sent L send ticks M clk ha hb hc hm => obtain ⟨ls', h'⟩ := up (.pnd node writes sent L send ticks (delM M ((sent - min sent ((Sym.rowAt a3 l (Int.toNat (i : Int))).2.1 % 4 % 18446744073709551616)) % 18446744073709551616)) clk) (inv_pnd idn nodes i hI hI.1 (by omega) hI.2.2.2.2.2.2.2.1 hI.2.2.2.2.2.2.2.2); exact rd_pndOff idn nodes l n i node writes sent L send ticks M clk ls' H hlt ha hb hc hm h h'
    | pndElse node writes sent L send ticks M clk ha hb hc hm => obtain ⟨ls', h'⟩ := up (.pnd (elseN nodes ((Sym.rowAt a3 l (Int.toNat (i : Int))).2.1 % nodes) ((Sym.rowAt a3 l (Int.toNat (i : Int))).2.2 % 9 - 1)) writes sent L true ticks (delM M ((sent - min sent ((Sym.rowAt a3 l (Int.toNat (i : Int))).2.1 % 4 % 18446744073709551616)) % 18446744073709551616)) clk) (inv_pnd idn nodes i hI (elseN_in hno2) (by omega) hI.2.2.2.2.2.2.2.1 (fun q => by cases q)); exact rd_pndElse idn nodes l n i node writes sent L send ticks M clk ls' H hlt ha hb hc hm h h'
    | pndTick node writes sent L send ticks M clk m ha hm =>
      obtain ⟨i1, i2, i3⟩ := tk_in nodes (node, send, ticks) hno2 hI.1 hI.2.2.2.2.2.2.2.1 hI.2.2.2.2.2.2.2.2 m
      obtain ⟨ls', h'⟩ := up (.pnd (tkN nodes (node, send, ticks) m) writes sent L (tkS nodes (node, send, ticks) m) (tkT nodes (node, send, ticks) m) M clk) (inv_pnd idn nodes i hI i1 (by omega) i2 i3); exact rd_pndTick idn nodes l n i node writes sent L send ticks M clk m ls' H hlt ha hm h h'
  · have he : i = n := Nat.le_antisymm h.1 hge
    subst he
    exact rd_end idn nodes l i s ls H h
theorem clientOnce_at (hid : 0 ≤ idn ∧ idn < 256) (hl : l.length ≤ 9223372036854775807) (hr : ∀ i : Nat, i < l.length → (@LE.le Int _ 0 (Sym.rowAt a3 l (Int.toNat (i : Int))).1 ∧ @LT.lt Int _ (Sym.rowAt a3 l (Int.toNat (i : Int))).1 256) ∧ (@LE.le Int _ 0 (Sym.rowAt a3 l (Int.toNat (i : Int))).2.1 ∧ @LT.lt Int _ (Sym.rowAt a3 l (Int.toNat (i : Int))).2.1 256) ∧ @LE.le Int _ 0 (Sym.rowAt a3 l (Int.toNat (i : Int))).2.2 ∧ @LT.lt Int _ (Sym.rowAt a3 l (Int.toNat (i : Int))).2.2 256) : PureAt Try.prog 5 [.int .u8 idn, .lst a3 l false] (.bool true) := by
  have hr1 : 0 ≤ ((idn % 18446744073709551616 + 1) % 18446744073709551616 % ((1 + idn % 7) % 18446744073709551616)) := Int.emod_nonneg _ (by omega)
  have hr2 : ((idn % 18446744073709551616 + 1) % 18446744073709551616 % ((1 + idn % 7) % 18446744073709551616)) < (1 + idn % 7) % 18446744073709551616 := Int.emod_lt_of_pos _ (by omega)
  have H : H27 idn (1 + idn % 7) l (min l.length 150) := ⟨by omega, rfl, hl, fun i hi => hr i (by omega), hid, rfl⟩
  refine pure_of_H htCl_ok tabCl_ok (fuel := 6) (d := 8) [⟨8, [(0, 0), (1, 1)], onC idn (1 + idn % 7) l 0 (.non ((idn % 18446744073709551616 + 1) % 18446744073709551616 % ((1 + idn % 7) % 18446744073709551616))), .leaf (.exit 0) endC⟩] ?_ ?_
  · intro N y hy
    rw [List.mem_singleton.1 hy]
    exact on_loop idn (1 + idn % 7) l (min l.length 150) H ((idn % 18446744073709551616 + 1) % 18446744073709551616 % ((1 + idn % 7) % 18446744073709551616)) (by omega) _ N
  · repeat' ((conv => whnf); first | (with_reducible first | (refine W1.o ?_; constructor) | rfl | exact castL_self _ _) | ((with_reducible refine V.same_t ?_); exact rfl) | ((with_reducible refine andB_room ?_ ?_ ?_); (· kernel_rfl); (· (first | omega | (simp only [lens] <;> omega) | (decide +kernel) | (simp only [maxI_eq, pmGet_eq, pmHas_eq, pmPut_eq, pmClk_eq, pmDel_eq] <;> decide +kernel)))) | ((with_reducible refine W2.o ?_; constructor); · (first | (with_reducible assumption) | (first | omega | (simp only [lens] <;> omega) | (decide +kernel) | (simp only [maxI_eq, pmGet_eq, pmHas_eq, pmPut_eq, pmClk_eq, pmDel_eq] <;> decide +kernel)))) | ((with_reducible refine W3.o ?_; constructor); · (first | (with_reducible assumption) | (first | omega | (simp only [lens] <;> omega) | (decide +kernel) | (simp only [maxI_eq, pmGet_eq, pmHas_eq, pmPut_eq, pmClk_eq, pmDel_eq] <;> decide +kernel)))) | ((with_reducible refine W4.o ?_; constructor); · (first | (with_reducible first | assumption | exact decide_eq_true rfl | exact sEq_self _) | ((with_reducible refine eqOK_i ?_); kernel_rfl) | (simp only [maxI_eq, pmGet_eq, pmHas_eq, pmPut_eq, pmClk_eq, pmDel_eq] <;> decide +kernel))) | ((with_reducible refine iteB_f ?_ ?_); · (first | (with_reducible first | assumption | exact decide_eq_true rfl | exact sEq_self _) | ((with_reducible refine eqOK_i ?_); kernel_rfl) | (simp only [maxI_eq, pmGet_eq, pmHas_eq, pmPut_eq, pmClk_eq, pmDel_eq] <;> decide +kernel))) | (with_reducible refine CD.wk_au ?_) | (with_reducible refine W5.o ?_; constructor) | ((with_reducible refine W6.o ?_; constructor) <;> intro hB))
    all_goals ((conv => whnf); (try dsimp only); (try simp only [Nat.succ_eq_add_one, Nat.le_eq, castL_self]); (try omega))
    all_goals (try (first | omega | (simp only [lens] <;> omega) | (decide +kernel) | (simp only [maxI_eq, pmGet_eq, pmHas_eq, pmPut_eq, pmClk_eq, pmDel_eq] <;> decide +kernel)))
    all_goals first
      | exact rfl
      | trace_state
end
end Go.Proofs.Ytlfhiophojahbaa
end

section
namespace Go.Sym
open Go.ChangeShapes Go.WideShapes

def kLo : IntKind → Int
  | .i8 => -128
  | .i16 => -32768
  | .i32 => -2147483648
  | .i64 => -9223372036854775808
  | _ => 0
def kHi : IntKind → Int
  | .i8 => 128
  | .i16 => 32768
  | .i32 => 2147483648
  | .i64 => 9223372036854775808
  | .u8 => 256
  | .u16 => 65536
  | .u32 => 4294967296
  | .u64 => 18446744073709551616
mutual
def wfT : (t : Ty) → t.den → Prop
  | .int k, n => (fun n : Int => kLo k ≤ n ∧ n < kHi k) n
  | .bool, _ => True
  | .str, s => ByteArray.size s ≤ 9223372036854775807
  | .lst e, L => List.length (α := rowDen e) L ≤ 9223372036854775807 ∧ ∀ i, i < List.length (α := rowDen e) L → wfR e (rowAt e L i)
def wfR : (e : List Ty) → rowDen e → Prop
  | [], _ => True
  | [t], x => wfT t x
  | t :: u :: ts, x => wfT t x.1 ∧ wfR (u :: ts) x.2
end
def repT (r : List Ty) : Nat → List Ty
  | 0 => []
  | n + 1 => r ++ repT r n
noncomputable section
variable (P : Program)
def layF (f : TypeId → Option (List Ty)) : Nat → List Field → Option (List Ty)
  | _, [] => some []
  | off, fd :: l => match f fd.type with
    | some a => bif Nat.beq fd.offset off && Nat.beq (P.cellsOf fd.type) a.length then (match layF f (off + a.length) l with
      | some b => some (a ++ b)
      | none => none) else none
    | none => none
def layE : Nat → TypeId → Option (List Ty)
  | 0, _ => none
  | n + 1, t => match P.underlying t with
    | some (.int k) => some [.int k]
    | some .bool => some [.bool]
    | some .string => some [.str]
    | some (.slice e) => match layE n e with
      | some r => bif Nat.beq (P.cellsOf e) r.length && Nat.blt 0 r.length then some [.lst r] else none
      | none => none
    | some (.struct fs) => match layF P (layE n) 0 fs.toList with
      | some e => bif Nat.beq (P.cellsOf t) e.length then some e else none
      | none => none
    | some (.array m el) => match layE n el with
      | some r => bif Nat.beq (P.cellsOf el) r.length && Nat.beq (P.cellsOf t) (repT r m).length then some (repT r m) else none
      | none => none
    | _ => none
end

theorem addr_addN (b o j : Nat) : (⟨b, o, none⟩ : Addr).add j = ⟨b, o + j, none⟩ := by
  unfold Addr.add
  split
  · rename_i h; subst h; rfl
  · rfl
theorem wfR_nil (x : rowDen []) : wfR [] x := by rw [wfR]; trivial
theorem wfR_one {t : Ty} (x : rowDen [t]) (h : wfT t x) : wfR [t] x := by rw [wfR]; exact h
theorem wfR_cons {t u : Ty} {ts : List Ty} (x : rowDen (t :: u :: ts)) (h1 : wfT t x.1) (h2 : wfR (u :: ts) x.2) : wfR (t :: u :: ts) x := by rw [wfR]; exact ⟨h1, h2⟩
theorem of_wfR_one {t : Ty} (x : rowDen [t]) (h : wfR [t] x) : wfT t x := by rw [wfR] at h; exact h
theorem of_CRel_one {φ : Nat → Nat → Option Value} {t : Ty} (x : rowDen [t]) {C : Nat → Option Value} (h : CRel φ [t] x C) : ∃ X, C 0 = some X ∧ TRel φ t x X := by rw [CRel] at h; exact h
theorem wfT_int {k : IntKind} {n : (Ty.int k).den} (h : (fun n : Int => kLo k ≤ n ∧ n < kHi k) n) : wfT (.int k) n := by rw [wfT]; exact h
theorem wfT_bool (b : Ty.bool.den) : wfT .bool b := by rw [wfT]; trivial
theorem wfT_str {s : Ty.str.den} (h : ByteArray.size s ≤ 9223372036854775807) : wfT .str s := by rw [wfT]; exact h
theorem wfT_lst {e : List Ty} (L : (Ty.lst e).den) (h : List.length (α := rowDen e) L ≤ 9223372036854775807) (h2 : ∀ i, i < List.length (α := rowDen e) L → wfR e (rowAt e L i)) : wfT (.lst e) L := by rw [wfT]; exact ⟨h, h2⟩
theorem crel_app {φ : Nat → Nat → Option Value} : ∀ (e1 e2 : List Ty) (C : Nat → Option Value), (∃ x, wfR e1 x ∧ CRel φ e1 x C) → (∃ x, wfR e2 x ∧ CRel φ e2 x (fun j => C (e1.length + j))) → ∃ x, wfR (e1 ++ e2) x ∧ CRel φ (e1 ++ e2) x C
  | [], e2, C, _, h2 => by
    obtain ⟨x, h3, h4⟩ := h2
    refine ⟨x, h3, ?_⟩
    have : (fun j => C (([] : List Ty).length + j)) = C := by funext j; rw [List.length_nil, Nat.zero_add]
    rw [this] at h4
    exact h4
  | [t], [], C, h1, _ => h1
  | [t], u :: us, C, ⟨x, h3, h4⟩, ⟨y, h5, h6⟩ => by
    have : (fun j => C ([t].length + j)) = fun j => C (j + 1) := by funext j; rw [List.length_singleton, Nat.add_comm]
    rw [this] at h6
    exact ⟨(x, y), wfR_cons (t := t) (u := u) (ts := us) (x, y) (of_wfR_one x h3) h5, CRel_cons (t := t) (u := u) (ts := us) (x, y) (of_CRel_one x h4) h6⟩
  | t :: u :: us, e2, C, ⟨x, h3, h4⟩, h2 => by
    rw [wfR] at h3
    rw [CRel] at h4
    obtain ⟨y, h5, h6⟩ := crel_app (u :: us) e2 (fun j => C (j + 1)) ⟨x.2, h3.2, h4.2⟩ (by
      obtain ⟨z, h7, h8⟩ := h2
      refine ⟨z, h7, ?_⟩
      have : (fun j => C ((t :: u :: us).length + j)) = fun j => C ((u :: us).length + j + 1) := by funext j; congr 1; simp only [List.length_cons]; omega
      rw [this] at h8
      exact h8)
    exact ⟨(x.1, y), wfR_cons (t := t) (u := u) (ts := us ++ e2) (x.1, y) h3.1 h5, CRel_cons (t := t) (u := u) (ts := us ++ e2) (x.1, y) h4.1 h6⟩

section
variable {H : Type} {enc : TypeId × Value → H} {P : Program} {w : World} {base : Nat} {spare : Nat → Bool} {held : Bool}
abbrev φW (w : World) : Nat → Nat → Option Value := fun B k => w.cell? ⟨B, k, none⟩
def LayOK (enc : TypeId × Value → H) (P : Program) (w : World) (base : Nat) (spare : Nat → Bool) (held : Bool) (f : TypeId → Option (List Ty)) : Prop :=
  ∀ t e, f t = some e → ∀ fuel cs x, DataW.trod enc P w base spare held fuel t cs = some x → cs.length = e.length ∧ ∃ r, wfR e r ∧ CRel (φW w) e r (fun j => cs[j]?)
theorem layF_ok {f : TypeId → Option (List Ty)} (hf : LayOK enc P w base spare held f) {n : Nat} {cs : List Value} : ∀ (l : List Field) (off : Nat) (e : List Ty), layF P f off l = some e → off + e.length ≤ cs.length →
    (∀ (i : Nat) (fd : Field), l[i]? = some fd → ∃ y, DataW.trod enc P w base spare held n fd.type ((cs.drop fd.offset).take (P.cellsOf fd.type)) = some y) →
    ∃ r, wfR e r ∧ CRel (φW w) e r (fun j => cs[off + j]?)
  | [], off, e, h, _, _ => by
    cases h
    exact ⟨(), wfR_nil (), CRel_nil () _⟩
  | fd :: l, off, e, h, hle, ht => by
    rw [layF] at h
    split at h
    · rename_i a ha
      cases hb : (Nat.beq fd.offset off && Nat.beq (P.cellsOf fd.type) a.length) with
      | false => rw [hb] at h; cases h
      | true =>
        rw [hb, cond_true] at h
        rw [Bool.and_eq_true, Nat.beq_eq, Nat.beq_eq] at hb
        split at h
        · rename_i b hbb
          cases h
          rw [List.length_append] at hle
          obtain ⟨y, hy⟩ := ht 0 fd rfl
          obtain ⟨h1, r, h2, h3⟩ := hf _ _ ha _ _ _ hy
          refine crel_app a b _ ⟨r, h2, ?_⟩ ?_
          · refine CRel.mono (fun _ _ _ h => h) a r (fun j v hj => ?_) h3
            rw [List.getElem?_take] at hj
            split at hj
            · rw [List.getElem?_drop, hb.1] at hj; exact hj
            · cases hj
          · obtain ⟨r', h4, h5⟩ := layF_ok hf l (off + a.length) b hbb (by omega) fun i fd' hi => ht (i + 1) fd' (by simpa using hi)
            exact ⟨r', h4, CRel.mono (fun _ _ _ h => h) b r' (fun j v hj => by rw [← Nat.add_assoc]; exact hj) h5⟩
        · cases h
    · cases h
theorem layA_ok {f : TypeId → Option (List Ty)} (hf : LayOK enc P w base spare held f) {m : Nat} {cs : List Value} {el : TypeId} {r : List Ty} (hr : f el = some r) (hb : P.cellsOf el = r.length) : ∀ (n off : Nat), off + (repT r n).length ≤ cs.length →
    (∀ i, i < n → ∃ y, DataW.trod enc P w base spare held m el ((cs.drop (off + i * r.length)).take r.length) = some y) →
    ∃ x, wfR (repT r n) x ∧ CRel (φW w) (repT r n) x (fun j => cs[off + j]?)
  | 0, off, _, _ => ⟨(), wfR_nil (), CRel_nil () _⟩
  | n + 1, off, hle, ht => by
    have hle' : off + (r.length + (repT r n).length) ≤ cs.length := by rw [repT, List.length_append] at hle; exact hle
    obtain ⟨y, hy⟩ := ht 0 (Nat.zero_lt_succ _)
    rw [Nat.zero_mul, Nat.add_zero] at hy
    obtain ⟨h1, x, h2, h3⟩ := hf _ _ hr _ _ _ hy
    refine crel_app r (repT r n) _ ⟨x, h2, ?_⟩ ?_
    · refine CRel.mono (fun _ _ _ h => h) r x (fun j v hj => ?_) h3
      rw [List.getElem?_take] at hj
      split at hj
      · rw [List.getElem?_drop] at hj; exact hj
      · cases hj
    · obtain ⟨x', h4, h5⟩ := layA_ok (cs := cs) (m := m) hf hr hb n (off + r.length) (by rw [Nat.add_assoc]; exact hle') fun i hi => by
        obtain ⟨y, hy⟩ := ht (i + 1) (by omega)
        rw [Nat.succ_mul, Nat.add_comm (i * r.length), ← Nat.add_assoc] at hy
        exact ⟨y, hy⟩
      exact ⟨x', h4, CRel.mono (fun _ _ _ h => h) _ x' (fun j v hj => by rw [← Nat.add_assoc]; exact hj) h5⟩
theorem lay_ok : ∀ n : Nat, LayOK enc P w base spare held (layE P n)
  | 0 => fun t e h => by cases h
  | n + 1 => fun t e h fuel cs x hx => by
    have ih := lay_ok n
    rw [layE] at h
    split at h
    · rename_i k hu
      cases h
      obtain ⟨q, rfl, _, hw⟩ := DataW.trod_int hu hx
      refine ⟨rfl, q, wfR_one (t := .int k) q (wfT_int ?_), CRel_one (t := .int k) q rfl (TRel_int k q)⟩
      cases k <;> simp [Lit.wf, IntKind.min, IntKind.max, IntKind.signed, IntKind.bits, kLo, kHi] at hw ⊢ <;> omega
    · rename_i hu
      cases h
      obtain ⟨q, rfl, _⟩ := DataW.trod_bool hu hx
      exact ⟨rfl, q, wfR_one (t := .bool) q (wfT_bool q), CRel_one (t := .bool) q rfl (TRel_bool q)⟩
    · rename_i hu
      cases h
      obtain ⟨q, rfl, _, hw⟩ := DataW.trod_string hu hx
      unfold maxLen at hw
      exact ⟨rfl, q, wfR_one (t := .str) q (wfT_str (by omega)), CRel_one (t := .str) q rfl (TRel_str q)⟩
    · rename_i el hu
      split at h
      · rename_i r hr
        cases hb : (Nat.beq (P.cellsOf el) r.length && Nat.blt 0 r.length) with
        | false => rw [hb] at h; cases h
        | true =>
          rw [hb, cond_true] at h
          rw [Bool.and_eq_true, Nat.beq_eq, blt_iff, decide_eq_true_eq] at hb
          obtain ⟨hb, hz⟩ := hb
          cases h
          rcases Go.Deep.open_slice hu hx with ⟨rfl, _⟩ | ⟨a, len, cap, m, n', D, Pl, rfl, _, hl, hm, hmm, rfl, hc⟩
          · exact ⟨rfl, ([] : List (rowDen r)), wfR_one (t := .lst r) ([] : List (rowDen r)) (wfT_lst (e := r) ([] : List (rowDen r)) (Nat.zero_le _) fun i hi => absurd hi (Nat.not_lt_zero _)),
              CRel_one (t := .lst r) ([] : List (rowDen r)) rfl (TRel_lstU (e := r) ([] : List (rowDen r)) (Nat.le_refl _) (fun _ => rfl) fun h => absurd h (Nat.lt_irrefl _))⟩
          · have hlm : len ≤ m := by subst hmm; split <;> omega
            have hr1 : ∀ i, i < len → ∃ y, wfR r y ∧ CRel (φW w) r y (fun j => w.cell? (a.add (i * r.length + j))) ∧ (i = 0 → a.spot = none) := by
              intro i hi
              obtain ⟨cs', h1, h2⟩ := hc i (by omega)
              obtain ⟨h3, y, h4, h5⟩ := ih _ _ hr _ _ _ h2
              obtain ⟨_, h6, h7⟩ := World.cells?_some h1
              refine ⟨y, h4, CRel.mono (fun _ _ _ h => h) r y (fun j v hj => ?_) h5, fun h0 => ?_⟩
              · have hlt : j < cs'.length := (List.getElem?_eq_some_iff.1 hj).1
                have := h7 j (by omega)
                rw [hb, Go.Deep.add_add] at this
                rw [this]; exact hj
              · subst h0
                have := h7 0 (by omega)
                rw [List.getElem?_eq_getElem (by omega), Nat.zero_mul] at this
                exact World.cell?_spot this
            have : Inhabited (rowDen r) := ⟨rowDflt r⟩
            obtain ⟨g, hg⟩ := Go.Deep.choose_lt hr1
            have hat : ∀ i, i < len → rowAt r ((List.range len).map g) i = g i := fun i hi => by
              unfold rowAt
              simp [List.getD_eq_getElem?_getD, hi]
            have hlen : ((List.range len).map g).length = len := by simp
            refine ⟨rfl, (List.range len).map g, wfR_one (t := .lst r) _ (wfT_lst _ ?_ fun i hi => ?_), CRel_one (t := .lst r) _ (X := .slice (some a) len cap) rfl ?_⟩
            · rw [hlen]; unfold maxLen at hm; omega
            · rw [hlen] at hi
              rw [hat i hi]
              exact (hg i hi).1
            · have ht := TRel_lstU (e := r) (φ := φW w) ((List.range len).map g) (a := some a) (c := cap) (by rw [hlen]; exact hl) (fun h => (by cases h)) (fun h0 => ?_)
              · rw [hlen] at ht; exact ht
              rw [hlen] at h0 ⊢
              have hsp := (hg 0 h0).2.2 rfl
              refine ⟨a.block, a.off, by cases a; simp only at hsp; rw [hsp], fun i hi => ?_⟩
              rw [hat i hi]
              refine CRel.mono (fun _ _ _ h => h) r _ (fun j v hj => ?_) (hg i hi).2.1
              have e : a = ⟨a.block, a.off, none⟩ := by cases a; simp only at hsp; rw [hsp]
              rw [e, addr_addN] at hj
              rw [Nat.add_assoc]
              exact hj
      · cases h
    · rename_i fs hu
      split at h
      · rename_i e' he
        cases hb : Nat.beq (P.cellsOf t) e'.length with
        | false => rw [hb] at h; cases h
        | true =>
          rw [hb, cond_true] at h
          cases h
          have hb := Nat.eq_of_beq_eq_true hb
          obtain ⟨xs, m, _, _, hl, hlen, hf⟩ := DataW.trod_struct hu hx
          refine ⟨by omega, ?_⟩
          obtain ⟨r, h1, h2⟩ := layF_ok ih (n := m) (cs := cs) fs.toList 0 e he (by omega) fun i fd hi => by
            have hi : fs[i]? = some fd := by simpa using hi
            exact ⟨_, (hf i fd hi).trans (List.getElem?_eq_getElem (by have := (Array.getElem?_eq_some_iff.1 hi).1; omega))⟩
          exact ⟨r, h1, CRel.mono (fun _ _ _ h => h) e r (fun j v hj => by rwa [Nat.zero_add] at hj) h2⟩
      · cases h
    · rename_i m el hu
      split at h
      · rename_i r hr
        cases hb : (Nat.beq (P.cellsOf el) r.length && Nat.beq (P.cellsOf t) (repT r m).length) with
        | false => rw [hb] at h; cases h
        | true =>
          rw [hb, cond_true] at h
          rw [Bool.and_eq_true, Nat.beq_eq, Nat.beq_eq] at hb
          cases h
          obtain ⟨xs, m', _, _, hl, hlen, hf⟩ := DataW.trod_array hu hx
          refine ⟨by omega, ?_⟩
          obtain ⟨y, h1, h2⟩ := layA_ok ih (m := m') (cs := cs) hr hb.1 m 0 (by omega) fun i hi => by
            have := hf i hi
            rw [hb.1] at this
            rw [Nat.zero_add]
            exact ⟨_, this.trans (List.getElem?_eq_getElem (by omega))⟩
          exact ⟨y, h1, CRel.mono (fun _ _ _ h => h) _ y (fun j v hj => by rwa [Nat.zero_add] at hj) h2⟩
      · cases h
    · cases h

theorem crel_rowV {φ : Nat → Nat → Option Value} : ∀ (e : List Ty) (x : rowDen e) (A : List Value), A.length = e.length → CRel φ e x (fun j => A[j]?) → LRel (envφ φ) (rowV e x) A
  | [], _, A, h, _ => by cases A <;> simp at h; exact rfl
  | [t], x, A, h, hc => by
    match A, h with
    | [a], _ =>
      rw [CRel] at hc
      obtain ⟨X, h1, h2⟩ := hc
      cases h1
      exact ⟨a, [], rfl, toV_rel t x a h2, rfl⟩
  | t :: u :: ts, x, A, h, hc => by
    match A, h with
    | a :: A, h =>
      rw [CRel] at hc
      obtain ⟨⟨X, h1, h2⟩, h3⟩ := hc
      cases h1
      exact ⟨a, A, rfl, toV_rel t x.1 a h2, crel_rowV (u :: ts) x.2 A (by simpa using h) h3⟩
where
  toV_rel (t : Ty) (x : t.den) (a : Value) (h : TRel φ t x a) : VRel (envφ φ) (toV t x) a := by
    cases t with
    | int k => rw [TRel] at h; simp only [toV, VRel]; exact h
    | bool => rw [TRel] at h; simp only [toV, VRel]; exact h
    | str => rw [TRel] at h; simp only [toV, VRel]; exact h
    | lst e =>
      rw [TRel] at h
      simp only [toV, VRel]
      obtain ⟨a', c, h1, h2, h3, h4⟩ := h
      refine ⟨a', c, h1, h2, fun h => (by cases h), h3, fun hp => ?_⟩
      obtain ⟨B, o, h5, h6⟩ := h4 hp
      refine ⟨B, o, h5, fun i hi => ?_⟩
      refine CRel.mono (fun _ _ _ h => h) e _ (fun j v hj => ?_) (h6 i hi)
      show φ B (o + (i * e.length + j)) = some v
      rw [← Nat.add_assoc]
      exact hj
theorem arg_one {n : Nat} {t : TypeId} {t0 : Ty} {v : Value} {d : DataW H} {p : List MemPlace} (hl : layE P n t = some [t0]) (hc : v.cells = #[v])
    (h : DataW.Trod enc P w base spare held t v d p) : ∃ x : t0.den, wfT t0 x ∧ VRel (envφ (φW w)) (toV t0 x) v := by
  obtain ⟨fuel, hf⟩ := h
  rw [hc] at hf
  obtain ⟨h1, x, h2, h3⟩ := lay_ok n t [t0] hl _ _ _ hf
  rw [wfR] at h2
  rw [CRel] at h3
  obtain ⟨X, h4, h5⟩ := h3
  cases h4
  exact ⟨x, h2, crel_rowV.toV_rel t0 x v h5⟩
theorem arg_slice {n : Nat} {t el : TypeId} {e : List Ty} {v : Value} {d : DataW H} {p : List MemPlace} {r : Go.Reach} {b0 : Nat} {W : World} (hu : P.underlying t = some (.slice el)) (hl : layE P n t = some [.lst e]) (k : Value.okWide P W r b0 t v)
    (h : DataW.Trod enc P w base spare held t v d p) : ∃ L : List (rowDen e), wfT (.lst e) L ∧ VRel (envφ (φW w)) (.lst e L false) v := by
  obtain ⟨a, len, cap, rfl⟩ := okWide_slice hu k
  exact arg_one (t0 := .lst e) hl rfl h
theorem arg_int {n : Nat} {t : TypeId} {kd : IntKind} {v : Value} {d : DataW H} {p : List MemPlace} {r : Go.Reach} {b0 : Nat} {W : World} (hu : P.underlying t = some (.int kd)) (hl : layE P n t = some [.int kd]) (k : Value.okWide P W r b0 t v)
    (h : DataW.Trod enc P w base spare held t v d p) : ∃ q : Int, (kLo kd ≤ q ∧ q < kHi kd) ∧ VRel (envφ (φW w)) (.int kd q) v := by
  obtain ⟨q, rfl⟩ := okWide_int hu k
  obtain ⟨x, h1, h2⟩ := arg_one (t0 := .int kd) hl rfl h
  rw [wfT] at h1
  exact ⟨x, h1, h2⟩
end
end Go.Sym
end

section
namespace Go.Proofs.Ytlfhiophojahbaa
open Go.Sym Go.WideShapes
open Go.RowKit (Below)
set_option maxRecDepth 100000
theorem clientOnce_fin {H : Type} {enc : TypeId × Value → H} {base : Nat} (W : World) (v0 : Value) (v1 : Value) {d0 : DataW H} {d1 : DataW H} {p0 : List MemPlace} {p1 : List MemPlace} (k0 : Value.okWide Try.prog W .any base 5 v0) (k1 : Value.okWide Try.prog W .any base 44 v1) (h0 : DataW.Trod enc Try.prog W 0 (fun _ => true) true 5 v0 d0 p0) (h1 : DataW.Trod enc Try.prog W 0 (fun _ => true) true 44 v1 d1 p1) (lt0 : ∀ x ∈ p0, x.block < W.heap.size) (lt1 : ∀ x ∈ p1, x.block < W.heap.size) :
    Calls Try.prog 5 #[v0, v1] W fun e w' => e = .returned (.bool true) ∧ Below W.heap.size W w' := by
  obtain ⟨q, w0, g0⟩ := arg_int (n := 6) Try.underlying5 (by kernel_rfl) k0 h0
  obtain ⟨L, w1, g1⟩ := arg_slice (n := 6) (e := a3) Try.underlying44 (by kernel_rfl) k1 h1
  rw [wfT] at w1
  refine pure_true (clientOnce_at q L w0 w1.1 (fun i hi => ?_)) W _ ⟨_, _, rfl, g0, _, _, rfl, g1, rfl⟩
  have := w1.2 i hi
  simp only [wfR, wfT] at this
  obtain ⟨⟨a1, a2⟩, ⟨a3, a4⟩, a5, a6⟩ := this
  exact ⟨⟨a1, a2⟩, ⟨a3, a4⟩, a5, a6⟩
end Go.Proofs.Ytlfhiophojahbaa
end

section
namespace Go.Eng
open Go.RowKit Go.ChangeShapes Go.WideShapes

section
variable {H : Type} {enc : TypeId × Value → H} {P : Program} {f : Func} {s : ChangeSpec} {apart fresh handsOn again : Bool} {W W' : World} {args : Array Value} {v : Value} {ds gs : List (DataW H)} {before : List MemPlace}

theorem post_low (hW : DataW.Whole enc P f.params.toList s.vars apart W args.toList ds gs before) (hb : Below W.heap.size W W')
    (pa pv : List MemPlace) (hp : before = pa ++ pv)
    (hr : ∀ (b : Nat) (sp : Nat → Bool) (hd : Bool), DataW.TrodAll enc P W' b sp hd f.resultTypes.toList (v.resultList f.resultTypes.size) (s.fn H (ds ++ gs)).results [])
    (ha : ∀ sp : Nat → Bool, (∀ p ∈ before, sp p.block = true) → DataW.TrodAll enc P W' 0 sp true f.params.toList args.toList (s.fn H (ds ++ gs)).args pa)
    (hv : ∀ sp : Nat → Bool, (∀ p ∈ before, sp p.block = true) → DataW.TrodVars enc P W' sp s.vars (s.fn H (ds ++ gs)).vars pv)
    (hok : ∀ (j : Nat) (t : TypeId) (r : Value), f.resultTypes[j]? = some t → (v.resultList f.resultTypes.size)[j]? = some r → Value.okWide P W' .any 0 t r) :
    s.post enc P f apart fresh handsOn again W args v W' := by
  have low : ∀ p ∈ before, p.block < W.heap.size := fun p h => hW.lt p h
  have seen : ∀ p ∈ before, decide (p.block < W.heap.size) = true := fun p h => decide_eq_true (low p h)
  have kept : W.keptBut W' fun p => p ∈ before ∧ (p ∈ pa ∨ p ∈ pv) :=
    World.keptBut_mono (fun p h => ⟨h, by rw [hp] at h; exact List.mem_append.1 h⟩) (hb.frame (· ∈ before))
  subst hp
  refine ⟨ds, gs, pa ++ pv, [], pa, pv, hW, hr _ _ _, ha (fun b => decide (b < W.heap.size)) seen, hv (fun b => decide (b < W.heap.size)) seen, ?_, fun _ => ⟨hok, ?_⟩⟩
  · exact World.keptBut_mono (fun p h => ⟨h.1, h.2.elim (fun h => .inr (.inl h)) fun h => .inr (.inr h)⟩) kept
  · obtain ⟨_, _, _, _, _, hz, hn⟩ := hW
    have hA := trodAll_append (ha (fun _ => true) fun _ _ => rfl) (hr 0 (fun _ => true) true)
    refine ⟨_, _, pa ++ pv, ⟨pa, pv, by simpa using hA, hv (fun _ => true) fun _ _ => rfl, rfl, fun b off h => ?_, hn⟩, fun p h _ => by simpa using h⟩
    rw [hb.frozen (low _ h)]
    exact hz b off h
end
end Go.Eng
end

section

end
