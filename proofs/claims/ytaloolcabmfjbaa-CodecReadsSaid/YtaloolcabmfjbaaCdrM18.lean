/-
  Texts of this claim, one behind the other: CdD3 CdBk CdRdsL CdWs CdOne CdSame CdReads. Each says its own conditions.
-/
import Derived.Test.YtaloolcabmfjbaaCdrM16
import Derived.Test.YtaloolcabmfjbaaCdrM17
import Derived.Test.YtaloolcabmfjbaaCdrM8

set_option linter.unusedVariables false
set_option linter.unusedSimpArgs false
set_option linter.unusedSectionVars false
noncomputable section
namespace Go.Proofs.Ytaloolcabmfjbaa
open Go.Sym
set_option maxRecDepth 100000
set_option maxHeartbeats 4000000
def re2V : ByteArray → Bool → ReQ := hide fun s b => (gL kv2V kv2R kvB s b, decide (numV (gE kv2R kvB s b) = 1), min (numV (numR (gE kv2R kvB s b))) 2147483648, min (numV (numR (numR (gE kv2R kvB s b)))) 2147483648, gL kv2V kv2R kvB (numR (numR (numR (gE kv2R kvB s b)))) ((((gF kv2R kvB s b) || numB (gE kv2R kvB s b)) || numB (numR (gE kv2R kvB s b))) || numB (numR (numR (gE kv2R kvB s b)))))
theorem re2V_eq (s : ByteArray) (b : Bool) : re2V s b = (gL kv2V kv2R kvB s b, decide (numV (gE kv2R kvB s b) = 1), min (numV (numR (gE kv2R kvB s b))) 2147483648, min (numV (numR (numR (gE kv2R kvB s b)))) 2147483648, gL kv2V kv2R kvB (numR (numR (numR (gE kv2R kvB s b)))) ((((gF kv2R kvB s b) || numB (gE kv2R kvB s b)) || numB (numR (gE kv2R kvB s b))) || numB (numR (numR (gE kv2R kvB s b))))) := by unfold re2V; rw [hide_eq]
def re2R : ByteArray → Bool → ByteArray := hide fun s b => gE kv2R kvB (numR (numR (numR (gE kv2R kvB s b)))) ((((gF kv2R kvB s b) || numB (gE kv2R kvB s b)) || numB (numR (gE kv2R kvB s b))) || numB (numR (numR (gE kv2R kvB s b))))
theorem re2R_eq (s : ByteArray) (b : Bool) : re2R s b = gE kv2R kvB (numR (numR (numR (gE kv2R kvB s b)))) ((((gF kv2R kvB s b) || numB (gE kv2R kvB s b)) || numB (numR (gE kv2R kvB s b))) || numB (numR (numR (gE kv2R kvB s b)))) := by unfold re2R; rw [hide_eq]
def re2B : ByteArray → Bool → Bool := hide fun s b => gF kv2R kvB (numR (numR (numR (gE kv2R kvB s b)))) ((((gF kv2R kvB s b) || numB (gE kv2R kvB s b)) || numB (numR (gE kv2R kvB s b))) || numB (numR (numR (gE kv2R kvB s b))))
theorem re2B_eq (s : ByteArray) (b : Bool) : re2B s b = gF kv2R kvB (numR (numR (numR (gE kv2R kvB s b)))) ((((gF kv2R kvB s b) || numB (gE kv2R kvB s b)) || numB (numR (gE kv2R kvB s b))) || numB (numR (numR (gE kv2R kvB s b)))) := by unfold re2B; rw [hide_eq]
theorem kvB_true (s : ByteArray) : kvB s true = true := by rw [kvB_eq]; simp only [Bool.true_or]
theorem gB_bad {R2 : ByteArray → Bool → ByteArray} {B2 : ByteArray → Bool → Bool} (hB : ∀ s, B2 s true = true) (s : ByteArray) (b : Bool) (h : (b || numB s) = true) : ∀ i, gB R2 B2 s b i = true
 | 0 => by rw [gB_0]; exact h
 | i + 1 => by rw [gB_succ, gB_bad hB s b h i]; exact hB _
theorem kvF_or {s : ByteArray} {b : Bool} (h : gF kv2R kvB s b = false) : b = false ∧ numB s = false := by
 have : (b || numB s) = false := by
  cases q : (b || numB s) with
  | false => rfl
  | true => rw [gF_eq, gB_bad kvB_true s b q] at h; cases h
 exact Bool.or_eq_false_iff.1 this
theorem re2_hR (s : ByteArray) (b : Bool) : (re2R s b).size ≤ s.size := by
 have h1 := gE_size kv2R kvB kv2_hR s b
 have h2 := gE_size kv2R kvB kv2_hR (numR (numR (numR (gE kv2R kvB s b)))) ((((gF kv2R kvB s b) || numB (gE kv2R kvB s b)) || numB (numR (gE kv2R kvB s b))) || numB (numR (numR (gE kv2R kvB s b))))
 have z1 := numR_size (gE kv2R kvB s b)
 have z2 := numR_size (numR (gE kv2R kvB s b))
 have z3 := numR_size (numR (numR (gE kv2R kvB s b)))
 rw [re2R_eq]; omega
theorem kvE_lt {s : ByteArray} {b : Bool} (h : gF kv2R kvB s b = false) : (gE kv2R kvB s b).size + 1 ≤ s.size := by
 have h1 := (kvF_or h).2
 have h2 := num_less h1
 rw [gE_eq]
 rcases Nat.eq_zero_or_pos (gM kv2R kvB s b) with e | e
 ·rw [e, gS_0]; exact h2
 ·have h3 := gS_less kv2R kvB kv2_hR kv2_hL s b (gM kv2R kvB s b - 1) (by omega)
  have h4 : gM kv2R kvB s b = gM kv2R kvB s b - 1 + 1 := by omega
  have h5 := h
  rw [gF_eq, h4, gB_succ] at h5
  have h6 := kv2_hL _ _ h5
  rw [h4, gS_succ]; omega
theorem re2_hL (s : ByteArray) (b : Bool) (h : re2B s b = false) : (re2R s b).size + 1 ≤ s.size := by
 rw [re2B_eq] at h
 have h0 := (kvF_or h).1
 simp only [Bool.or_eq_false_iff] at h0
 have h1 := kvE_lt h0.1.1.1
 have h2 := gE_size kv2R kvB kv2_hR (numR (numR (numR (gE kv2R kvB s b)))) ((((gF kv2R kvB s b) || numB (gE kv2R kvB s b)) || numB (numR (gE kv2R kvB s b))) || numB (numR (numR (gE kv2R kvB s b))))
 have z1 := numR_size (gE kv2R kvB s b)
 have z2 := numR_size (numR (gE kv2R kvB s b))
 have z3 := numR_size (numR (numR (gE kv2R kvB s b)))
 rw [re2R_eq]; omega
theorem re2_back {r : ReQ} (h : reg r) (t : ByteArray) : re2V (reY r ++ t) false = r ∧ re2R (reY r ++ t) false = t ∧ re2B (reY r ++ t) false = false := by
 obtain ⟨K, m, c, d, P⟩ := r
 obtain ⟨⟨hK, gK⟩, h_c, h_d, hP, gP⟩ := h
 have kl := fun t => g_back kv2V kv2R kvB hK (fun i hi t => kv2_back (gK i hi) t) t
 have pl := fun t => g_back kv2V kv2R kvB hP (fun i hi t => kv2_back (gP i hi) t) t
 have k1 := fun t => (kl t).1
 have k2 := fun t => (kl t).2.1
 have k3 := fun t => (kl t).2.2
 have p1 := fun t => (pl t).1
 have p2 := fun t => (pl t).2.1
 have p3 := fun t => (pl t).2.2
 have b_m := nb (tI_u6 m)
 have b_c := nb (sm_u6 h_c)
 have b_d := nb (sm_u6 h_d)
 have e_c := sm_mod h_c
 have e_d := sm_mod h_d
 have i_c := m31_sm h_c
 have i_d := m31_sm h_d
 have m0 := b_m.1
 have m1 := b_m.2.1
 have m2 := b_m.2.2
 have c0 := b_c.1
 have c1 := b_c.2.1
 have c2 := b_c.2.2
 have d0 := b_d.1
 have d1 := b_d.2.1
 have d2 := b_d.2.2
 dsimp only [m31] at k1 k2 k3 p1 p2 p3 m0 m1 m2 c0 c1 c2 d0 d1 d2 e_c e_d i_c i_d
 have ey := reY_eq (K, m, c, d, P)
 dsimp only at ey
 rw [ey, re2V_eq, re2R_eq, re2B_eq]
 simp only [ByteArray.append_assoc, e_c, e_d, i_c, i_d, k1, k2, k3, p1, p2, p3, m0, m1, m2, c0, c1, c2, d0, d1, d2, tI1, Bool.or_false, and_self]
theorem kv2_W {s : ByteArray} (b : Bool) (hs : s.size ≤ 100000) : kvW (gL kv2V kv2R kvB s b) = true := by
 have hm := gM_size kv2R kvB kv2_hR kv2_hL s b
 rw [kvW_iff, gL_eq, gN_len]
 refine ⟨by omega, fun i hi => ?_⟩
 rw [g_row _ _ _ _ _ _ _ hi]
 have hz := gS_size kv2R kvB kv2_hR s b i
 unfold kv2V
 rw [kvV_eq]
 generalize gS kv2R kvB s b i = u at hz
 have x1 := txV_size u
 have y1 := txR_size u
 have x2 := txV_size (txR u)
 exact ⟨by show (txV _).size ≤ _; omega, by show (txV _).size ≤ _; omega, numV_in _, numV_in _, numV_in _⟩
theorem re2_W {s : ByteArray} (b : Bool) (hs : s.size ≤ 100000) : reW (gL re2V re2R re2B s b) = true := by
 have hm := gM_size re2R re2B re2_hR re2_hL s b
 rw [reW_iff, gL_eq, gN_len]
 refine ⟨by omega, fun i hi => ?_⟩
 rw [g_row _ _ _ _ _ _ _ hi]
 have hz := gS_size re2R re2B re2_hR s b i
 rw [re2V_eq]
 generalize gS re2R re2B s b i = s at hz
 generalize gB re2R re2B _ b i = b
 have h1 := gE_size kv2R kvB kv2_hR s b
 have z1 := numR_size (gE kv2R kvB s b)
 have z2 := numR_size (numR (gE kv2R kvB s b))
 have z3 := numR_size (numR (numR (gE kv2R kvB s b)))
 exact ⟨kv2_W _ (by omega), kv2_W _ (by omega)⟩
abbrev pS8 (s : ByteArray) : ByteArray := (numR (numR (numR (numR (numR (numR (numR (numR s))))))))
abbrev pB8 (s : ByteArray) : Bool := ((((((((false || numB s) || numB (numR s)) || numB (numR (numR s))) || numB (numR (numR (numR s)))) || numB (numR (numR (numR (numR s))))) || numB (numR (numR (numR (numR (numR s)))))) || numB (numR (numR (numR (numR (numR (numR s))))))) || numB (numR (numR (numR (numR (numR (numR (numR s))))))))
abbrev pL9 (s : ByteArray) : List ReQ := gL re2V re2R re2B (pS8 s) (pB8 s)
abbrev pS9 (s : ByteArray) : ByteArray := gE re2R re2B (pS8 s) (pB8 s)
abbrev pB9 (s : ByteArray) : Bool := gF re2R re2B (pS8 s) (pB8 s)
def ddp (s : ByteArray) : RpT := (min (numV s) 2147483648, numV (numR s), numV (numR (numR s)), decide (numV (numR (numR (numR s))) = 1), pL9 s, numV (numR (numR (numR (numR s)))) % 4294967296, numV (numR (numR (numR (numR (numR s))))), numV (numR (numR (numR (numR (numR (numR s)))))), min (numV (numR (numR (numR (numR (numR (numR (numR s)))))))) 2147483648 - 1)
def d3K : ByteArray → Bool := hide fun s => maB (min (numV s) 2147483648) (min (numV (numR (numR (numR (numR (numR (numR (numR s)))))))) 2147483648 - 1) (pL9 s) && sEq (rpE (min (numV s) 2147483648) (numV (numR s)) (numV (numR (numR s))) (decide (numV (numR (numR (numR s))) = 1)) (pL9 s) (numV (numR (numR (numR (numR s)))) % 4294967296) (numV (numR (numR (numR (numR (numR s)))))) (numV (numR (numR (numR (numR (numR (numR s))))))) (min (numV (numR (numR (numR (numR (numR (numR (numR s)))))))) 2147483648 - 1)) s && !(pB9 s) && sEq (pS9 s) ⟨#[]⟩
theorem d3K_eq (s : ByteArray) : d3K s = (maB (min (numV s) 2147483648) (min (numV (numR (numR (numR (numR (numR (numR (numR s)))))))) 2147483648 - 1) (pL9 s) && sEq (rpE (min (numV s) 2147483648) (numV (numR s)) (numV (numR (numR s))) (decide (numV (numR (numR (numR s))) = 1)) (pL9 s) (numV (numR (numR (numR (numR s)))) % 4294967296) (numV (numR (numR (numR (numR (numR s)))))) (numV (numR (numR (numR (numR (numR (numR s))))))) (min (numV (numR (numR (numR (numR (numR (numR (numR s)))))))) 2147483648 - 1)) s && !(pB9 s) && sEq (pS9 s) ⟨#[]⟩) := by unfold d3K; rw [hide_eq]
def d3V : ByteArray → RpT := hide fun s => bif d3K s then ddp s else (0, 0, 0, false, [], 0, 0, 0, 0)
theorem d3V_eq (s : ByteArray) : d3V s = bif d3K s then ddp s else (0, 0, 0, false, [], 0, 0, 0, 0) := by unfold d3V; rw [hide_eq]
def d3E : ByteArray → Int := hide fun s => bif d3K s then 0 else 4
theorem d3E_eq (s : ByteArray) : d3E s = bif d3K s then 0 else 4 := by unfold d3E; rw [hide_eq]
def tabD3 : Tab := oneTab 18 (rpF erqF) noTab
theorem tabD3_ok : TabOK Try.prog tabD3 := oneTab_ok (rpF_ok fun er rv cm tk R ha ap te ld h => by
    obtain ⟨c0, a1, b1, a2, b2, a3, b3, a4, b4, a5, b5, _⟩ := h
    exact rencResp_at er rv cm ha ap te ld tk R c0 ⟨of_leI a1, of_ltI b1⟩ ⟨of_leI a2, of_ltI b2⟩ ⟨of_leI a3, of_ltI b3⟩ ⟨of_leI a4, of_ltI b4⟩ ⟨of_leI a5, of_ltI b5⟩) noTab_ok
section
variable (s u : ByteArray) (b : Bool) (er rv cm ha ap te ld : Int) (tk : Bool)
def d3C (n : Int) (i : Nat) : CD := ⟨94, [(0, .str s), (2, .ptr 0 0), (3, .int .i64 0), (4, .ptr 1 0), (5, .ptr 2 0), (6, .int .i64 n), (7, .int .i64 (i : Int))], [], [(0, .cells [.int .i64 0, .int .u64 0, .int .u64 0, .bool false, .nils, .int .u32 0, .int .u64 0, .int .u64 0, .int .i64 0] 0 false), (1, .cells [.str (gS re2R re2B u b i), .bool (gB re2R re2B u b i)] 0 false), (2, .cells [.int .i64 er, .int .u64 rv, .int .u64 cm, .bool tk, .rs 3 0 (gN re2V re2R re2B u b i).length (gN re2V re2R re2B u b i).length false 5, .int .u32 ha, .int .u64 ap, .int .u64 te, .int .i64 ld] 0 false), (3, .rows reT (gN re2V re2R re2B u b i) 0 false)], 4⟩
def d3O : CD := ⟨94, [(0, .str s), (2, .ptr 0 0), (3, .int .i64 0), (4, .ptr 1 0), (5, .ptr 2 0)], [], [(0, .cells [.int .i64 0, .int .u64 0, .int .u64 0, .bool false, .nils, .int .u32 0, .int .u64 0, .int .u64 0, .int .i64 0] 0 false), (1, .cells [.str (gE re2R re2B u b), .bool (gF re2R re2B u b)] 0 false), (2, .cells [.int .i64 er, .int .u64 rv, .int .u64 cm, .bool tk, .rs 3 0 (gL re2V re2R re2B u b).length (gL re2V re2R re2B u b).length false 5, .int .u32 ha, .int .u64 ap, .int .u64 te, .int .i64 ld] 0 false), (3, .rows reT (gL re2V re2R re2B u b) 0 false)], 4⟩
theorem d3_lp (N : Nat) (hu : u.size ≤ 100000) : LpD.ok Try.prog N 0 (bodyOf Try.prog 22) ⟨12, [(0, 0), (1, 1), (2, 2)], d3C s u b er rv cm ha ap te ld tk (min (numV u) 2147483648) 0, .leaf (.exit 0) (d3O s u b er rv cm ha ap te ld tk)⟩ := by
 obtain ⟨m, em⟩ : ∃ m : Nat, gM re2R re2B u b = m := ⟨_, rfl⟩
 obtain ⟨n, en⟩ : ∃ n : Int, min (numV u) 2147483648 = n := ⟨_, rfl⟩
 have h1 := numV_in u
 have hm := gM_le re2R re2B u b
 have hmz := gM_size re2R re2B re2_hR re2_hL u b
 have hend := gM_end re2R re2B u b
 rw [em] at hm hmz hend
 rw [en] at hm hend
 have hlt := fun i (h : i < m) => gM_lt re2R re2B (s := u) (b := b) (i := i) (by rw [em]; exact h)
 have eL := gL_eq re2V re2R re2B u b
 have eE := gE_eq re2R re2B u b
 have eF := gF_eq re2R re2B u b
 rw [em] at eL eE eF
 rw [en]
 refine LpD.ok_one (b := bodyAt Try.prog 22 12) rfl (loop_H htG_ok noTab_ok (fuel := 4) (d := 6) (X := { i : Nat // i ≤ m }) (fun x => d3C s u b er rv cm ha ap te ld tk n x.1) (fun x => m - x.1)
   (fun _ => .leaf (.exit 0) (d3O s u b er rv cm ha ap te ld tk)) (fun _ => []) (fun _ _ h => by cases h) ?_ ⟨0, Nat.zero_le _⟩)
 rintro ⟨i, hi⟩
 dsimp only
 have hz := gS_size re2R re2B re2_hR u b i
 have hl := gN_len re2V re2R re2B u b i
 have hl2 := gN_len re2V re2R re2B u b (i + 1)
 rcases Nat.lt_or_ge i m with hlt2 | hge
 rotate_left
 have he : i = m := Nat.le_antisymm hi hge
 subst he
 rcases hend with hend | hend
 rotate_left 2
 have hb := hlt i hlt2
 have e1 := (gS_succ re2R re2B u b i).trans (re2R_eq _ _)
 have e3 := (gB_succ re2R re2B u b i).trans (re2B_eq _ _)
 have e2 := gN_succ re2V re2R re2B u b i
 rw [re2V_eq] at e2
 have zz0 := gE_size kv2R kvB kv2_hR (gS re2R re2B u b i) (gB re2R re2B u b i)
 have zz1 := numR_size (gE kv2R kvB (gS re2R re2B u b i) (gB re2R re2B u b i))
 have zz2 := numV_in (gE kv2R kvB (gS re2R re2B u b i) (gB re2R re2B u b i))
 have zz3 := numR_size (numR (gE kv2R kvB (gS re2R re2B u b i) (gB re2R re2B u b i)))
 have zz4 := numV_in (numR (gE kv2R kvB (gS re2R re2B u b i) (gB re2R re2B u b i)))
 have zz5 := numR_size (numR (numR (gE kv2R kvB (gS re2R re2B u b i) (gB re2R re2B u b i))))
 have zz6 := numV_in (numR (numR (gE kv2R kvB (gS re2R re2B u b i) (gB re2R re2B u b i))))
 all_goals
  repeat' ((conv => whnf); first | (with_reducible first | (refine W1.o ?_; constructor) | rfl | exact castL_self _ _) | ((with_reducible refine V.same_t ?_); exact rfl) | ((with_reducible refine andB_room ?_ ?_ ?_); (· kernel_rfl); (· (first | omega | (simp only [lens] <;> omega)))) | ((with_reducible refine W2.o ?_; constructor); · (first | with_reducible assumption | omega | (simp only [lens] <;> omega))) | ((with_reducible refine W3.o ?_; constructor); · (first | with_reducible assumption | omega | (simp only [lens] <;> omega))) | ((with_reducible refine W4.o ?_; constructor); · (first | (with_reducible first | assumption | exact decide_eq_true rfl | exact sEq_self _) | ((with_reducible refine eqOK_i ?_); kernel_rfl) | (first | (first | exact hb | (rw [hb]; exact rfl) | exact hend | (rw [hend]; exact rfl))))) | ((with_reducible refine iteB_f ?_ ?_); · (first | (with_reducible first | assumption | exact decide_eq_true rfl | exact sEq_self _) | ((with_reducible refine eqOK_i ?_); kernel_rfl) | (first | (first | exact hb | (rw [hb]; exact rfl) | exact hend | (rw [hend]; exact rfl))))) | (refine ⟨⟨i + 1, hlt2⟩, ?_, rfl, ?_⟩) | (with_reducible refine CD.wk_au ?_) | (with_reducible refine W5.o ?_; constructor) | ((with_reducible refine W6.o ?_; constructor) <;> intro hB))
  all_goals ((conv => whnf); (try dsimp only); (try simp only [Nat.succ_eq_add_one, Nat.le_eq, castL_self]); (try omega))
  all_goals (try (first | omega | (simp only [lens] <;> omega)))
  all_goals first
   | exact rfl
   | omega
   | exact e1.symm
   | exact e3.symm
   | exact eE.symm
   | exact eF.symm
   | exact eL.symm
   | (rw [e3]; done)
   | (rw [e2]; done)
   | (rw [hl2, hl]; exact rfl)
   | (rw [hl2, hl]; exact Nat.le_refl _)
   | (rw [eL]; done)
   | (rw [eL]; exact rfl)
   | (rw [eL]; exact Nat.le_refl _)
   | (simp (disch := (simp only [hl, lens] <;> omega)) only [seg_all, castL_self]; exact e2.symm)
end
theorem rdecResp_at (s : ByteArray) (hs : s.size ≤ 100000) : PureAt Try.prog 22 [.str s] (.tup [rpG (d3V s), .int .i64 (d3E s)]) := by
 have z0 := numR_size s
 have z1 := numR_size (numR s)
 have z2 := numR_size (numR (numR s))
 have z3 := numR_size (numR (numR (numR s)))
 have z4 := numR_size (numR (numR (numR (numR s))))
 have z5 := numR_size (numR (numR (numR (numR (numR s)))))
 have z6 := numR_size (numR (numR (numR (numR (numR (numR s))))))
 have z7 := numR_size (numR (numR (numR (numR (numR (numR (numR s)))))))
 have y0 := numV_in s
 have y1 := numV_in (numR s)
 have y2 := numV_in (numR (numR s))
 have y3 := numV_in (numR (numR (numR s)))
 have y4 := numV_in (numR (numR (numR (numR s))))
 have y5 := numV_in (numR (numR (numR (numR (numR s)))))
 have y6 := numV_in (numR (numR (numR (numR (numR (numR s))))))
 have y7 := numV_in (numR (numR (numR (numR (numR (numR (numR s)))))))
 have y8 := numV_in (numR (numR (numR (numR (numR (numR (numR (numR s))))))))
 have q0 := gS_0 re2R re2B (numR (numR (numR (numR (numR (numR (numR (numR s)))))))) ((((((((false || numB s) || numB (numR s)) || numB (numR (numR s))) || numB (numR (numR (numR s)))) || numB (numR (numR (numR (numR s))))) || numB (numR (numR (numR (numR (numR s)))))) || numB (numR (numR (numR (numR (numR (numR s))))))) || numB (numR (numR (numR (numR (numR (numR (numR s))))))))
 have q1 := gN_0 re2V re2R re2B (numR (numR (numR (numR (numR (numR (numR (numR s)))))))) ((((((((false || numB s) || numB (numR s)) || numB (numR (numR s))) || numB (numR (numR (numR s)))) || numB (numR (numR (numR (numR s))))) || numB (numR (numR (numR (numR (numR s)))))) || numB (numR (numR (numR (numR (numR (numR s))))))) || numB (numR (numR (numR (numR (numR (numR (numR s))))))))
 have q2 := gB_0 re2R re2B (numR (numR (numR (numR (numR (numR (numR (numR s)))))))) ((((((((false || numB s) || numB (numR s)) || numB (numR (numR s))) || numB (numR (numR (numR s)))) || numB (numR (numR (numR (numR s))))) || numB (numR (numR (numR (numR (numR s)))))) || numB (numR (numR (numR (numR (numR (numR s))))))) || numB (numR (numR (numR (numR (numR (numR (numR s))))))))
 have zc := gE_size re2R re2B re2_hR (numR (numR (numR (numR (numR (numR (numR (numR s)))))))) ((((((((false || numB s) || numB (numR s)) || numB (numR (numR s))) || numB (numR (numR (numR s)))) || numB (numR (numR (numR (numR s))))) || numB (numR (numR (numR (numR (numR s)))))) || numB (numR (numR (numR (numR (numR (numR s))))))) || numB (numR (numR (numR (numR (numR (numR (numR s))))))))
 have hsg : seg (pL9 s) 0 (List.length (pL9 s)) = pL9 s := seg_all _ rfl
 have wR : reW (seg (pL9 s) 0 (List.length (pL9 s))) = true := by rw [hsg]; exact re2_W (s := (numR (numR (numR (numR (numR (numR (numR (numR s))))))))) _ (by omega)
 have ec := maE_of (min (numV s) 2147483648) (min (numV (numR (numR (numR (numR (numR (numR (numR s)))))))) 2147483648 - 1) (seg (gL re2V re2R re2B (numR (numR (numR (numR (numR (numR (numR (numR s)))))))) ((((((((false || numB s) || numB (numR s)) || numB (numR (numR s))) || numB (numR (numR (numR s)))) || numB (numR (numR (numR (numR s))))) || numB (numR (numR (numR (numR (numR s)))))) || numB (numR (numR (numR (numR (numR (numR s))))))) || numB (numR (numR (numR (numR (numR (numR (numR s))))))))) 0 (List.length (gL re2V re2R re2B (numR (numR (numR (numR (numR (numR (numR (numR s)))))))) ((((((((false || numB s) || numB (numR s)) || numB (numR (numR s))) || numB (numR (numR (numR s)))) || numB (numR (numR (numR (numR s))))) || numB (numR (numR (numR (numR (numR s)))))) || numB (numR (numR (numR (numR (numR (numR s))))))) || numB (numR (numR (numR (numR (numR (numR (numR s)))))))))))
 cases m0 : maB (min (numV s) 2147483648) (min (numV (numR (numR (numR (numR (numR (numR (numR s)))))))) 2147483648 - 1) (pL9 s)
 case' false =>
  have q : d3K s = false := by simp only [d3K_eq, Bool.and_false, Bool.false_and, Bool.true_and, Bool.and_true, Bool.not_true, Bool.not_false, m0]
  have e1 := d3V_eq s
  have e2 := d3E_eq s
  rw [q, cond_false] at e1 e2
  rw [e1, e2]
  refine zero_rp ?_
  rw [← hsg] at m0
  rw [m0, cond_false] at ec
 case' true =>
  cases m1 : sEq (rpE (min (numV s) 2147483648) (numV (numR s)) (numV (numR (numR s))) (decide (numV (numR (numR (numR s))) = 1)) (pL9 s) (numV (numR (numR (numR (numR s)))) % 4294967296) (numV (numR (numR (numR (numR (numR s)))))) (numV (numR (numR (numR (numR (numR (numR s))))))) (min (numV (numR (numR (numR (numR (numR (numR (numR s)))))))) 2147483648 - 1)) s
  case' false =>
   have q : d3K s = false := by simp only [d3K_eq, Bool.and_false, Bool.false_and, Bool.true_and, Bool.and_true, Bool.not_true, Bool.not_false, m0, m1]
   have e1 := d3V_eq s
   have e2 := d3E_eq s
   rw [q, cond_false] at e1 e2
   rw [e1, e2]
   refine zero_rp ?_
   rw [← hsg] at m1
  case' true =>
   cases m2 : pB9 s
   case' true =>
    have q : d3K s = false := by simp only [d3K_eq, Bool.and_false, Bool.false_and, Bool.true_and, Bool.and_true, Bool.not_true, Bool.not_false, m0, m1, m2]
    have e1 := d3V_eq s
    have e2 := d3E_eq s
    rw [q, cond_false] at e1 e2
    rw [e1, e2]
    refine zero_rp ?_
    rw [← hsg] at m1
   case' false =>
    cases m3 : sEq (pS9 s) ⟨#[]⟩
    case' false =>
     have q : d3K s = false := by simp only [d3K_eq, Bool.and_false, Bool.false_and, Bool.true_and, Bool.and_true, Bool.not_true, Bool.not_false, m0, m1, m2, m3]
     have e1 := d3V_eq s
     have e2 := d3E_eq s
     rw [q, cond_false] at e1 e2
     rw [e1, e2]
     refine zero_rp ?_
     rw [← hsg] at m1
    case' true =>
     have q : d3K s = true := by simp only [d3K_eq, Bool.and_true, Bool.not_false, m0, m1, m2, m3]
     have e1 := d3V_eq s
     have e2 := d3E_eq s
     rw [q, cond_true] at e1 e2
     rw [← hsg] at m1
 all_goals
  try (rw [← hsg] at m0; rw [m0, cond_true] at ec)
  refine pure_of_H htG_ok tabD3_ok (fuel := 5) (d := 7) [⟨12, [(0, 0), (1, 1), (2, 2)], d3C s (numR (numR (numR (numR (numR (numR (numR (numR s)))))))) ((((((((false || numB s) || numB (numR s)) || numB (numR (numR s))) || numB (numR (numR (numR s)))) || numB (numR (numR (numR (numR s))))) || numB (numR (numR (numR (numR (numR s)))))) || numB (numR (numR (numR (numR (numR (numR s))))))) || numB (numR (numR (numR (numR (numR (numR (numR s)))))))) (min (numV s) 2147483648) (numV (numR s)) (numV (numR (numR s))) (numV (numR (numR (numR (numR s)))) % 4294967296) (numV (numR (numR (numR (numR (numR s)))))) (numV (numR (numR (numR (numR (numR (numR s))))))) (min (numV (numR (numR (numR (numR (numR (numR (numR s)))))))) 2147483648 - 1) (decide (numV (numR (numR (numR s))) = 1)) (min (numV (numR (numR (numR (numR (numR (numR (numR (numR s))))))))) 2147483648) 0, .leaf (.exit 0) (d3O s (numR (numR (numR (numR (numR (numR (numR (numR s)))))))) ((((((((false || numB s) || numB (numR s)) || numB (numR (numR s))) || numB (numR (numR (numR s)))) || numB (numR (numR (numR (numR s))))) || numB (numR (numR (numR (numR (numR s)))))) || numB (numR (numR (numR (numR (numR (numR s))))))) || numB (numR (numR (numR (numR (numR (numR (numR s)))))))) (min (numV s) 2147483648) (numV (numR s)) (numV (numR (numR s))) (numV (numR (numR (numR (numR s)))) % 4294967296) (numV (numR (numR (numR (numR (numR s)))))) (numV (numR (numR (numR (numR (numR (numR s))))))) (min (numV (numR (numR (numR (numR (numR (numR (numR s)))))))) 2147483648 - 1) (decide (numV (numR (numR (numR s))) = 1)))⟩] (fun N y hy => by rw [List.mem_singleton.1 hy]; exact d3_lp s (numR (numR (numR (numR (numR (numR (numR (numR s)))))))) ((((((((false || numB s) || numB (numR s)) || numB (numR (numR s))) || numB (numR (numR (numR s)))) || numB (numR (numR (numR (numR s))))) || numB (numR (numR (numR (numR (numR s)))))) || numB (numR (numR (numR (numR (numR (numR s))))))) || numB (numR (numR (numR (numR (numR (numR (numR s)))))))) (min (numV s) 2147483648) (numV (numR s)) (numV (numR (numR s))) (numV (numR (numR (numR (numR s)))) % 4294967296) (numV (numR (numR (numR (numR (numR s)))))) (numV (numR (numR (numR (numR (numR (numR s))))))) (min (numV (numR (numR (numR (numR (numR (numR (numR s)))))))) 2147483648 - 1) (decide (numV (numR (numR (numR s))) = 1)) N (by omega)) ?_
  repeat' ((conv => whnf); first | (with_reducible first | (refine W1.o ?_; constructor) | rfl | exact castL_self _ _) | ((with_reducible refine V.same_t ?_); exact rfl) | ((with_reducible refine andB_room ?_ ?_ ?_); (· kernel_rfl); (· (first | omega | (simp only [lens] <;> omega)))) | ((with_reducible refine W2.o ?_; constructor); · (first | with_reducible assumption | omega | (simp only [lens] <;> omega))) | ((with_reducible refine W3.o ?_; constructor); · (first | with_reducible assumption | omega | (simp only [lens] <;> omega))) | ((with_reducible refine W4.o ?_; constructor); · (first | (with_reducible first | assumption | exact decide_eq_true rfl | exact sEq_self _) | ((with_reducible refine eqOK_i ?_); kernel_rfl) | exact rfl | exact wR | exact m0 | exact m1 | exact m2 | exact m3)) | ((with_reducible refine iteB_f ?_ ?_); · (first | (with_reducible first | assumption | exact decide_eq_true rfl | exact sEq_self _) | ((with_reducible refine eqOK_i ?_); kernel_rfl) | exact rfl | exact wR | exact m0 | exact m1 | exact m2 | exact m3)) | (with_reducible refine CD.wk_au ?_) | (with_reducible refine W5.o ?_; constructor) | ((with_reducible refine W6.o ?_; constructor) <;> intro hB))
  all_goals ((conv => whnf); (try dsimp only); (try simp only [Nat.succ_eq_add_one, Nat.le_eq, castL_self]); (try omega))
  all_goals (try (first | omega | (simp only [lens] <;> omega)))
  all_goals first
   | exact rfl
   | omega
   | exact q0.symm
   | exact q1.symm
   | exact q2.symm
   | (rw [q1]; exact rfl)
   | (rw [e1, e2, hsg]; done)
   | (rw [hsg, e1, e2]; exact rfl)
   | (rw [e1, e2]; exact rfl)
   | exact e2.symm
end Go.Proofs.Ytaloolcabmfjbaa
end

noncomputable section
namespace Go.Proofs.Ytaloolcabmfjbaa
open Go.Sym
set_option maxRecDepth 100000
set_option maxHeartbeats 4000000
def rqYq (q : RqT) : ByteArray := rqY (q.1) (q.2.1) (q.2.2.1) (q.2.2.2.1) (q.2.2.2.2.1) (q.2.2.2.2.2.1) (q.2.2.2.2.2.2.1) (q.2.2.2.2.2.2.2)
def chBq (q : RqT) : Bool := chB (q.1) (q.2.1) (q.2.2.1) (q.2.2.2.1) (q.2.2.2.2.1) (q.2.2.2.2.2.1) (q.2.2.2.2.2.2.1) (q.2.2.2.2.2.2.2)
def dqP (s : ByteArray) : Bool := leI (numV s) 1073741824 && leI (numV (numR (numR (numR s)))) 1 && cmS (numR (numR (numR (numR (numR s))))) (((((false || numB s) || numB (numR s)) || numB (numR (numR s))) || numB (numR (numR (numR s)))) || numB (numR (numR (numR (numR s))))) && opS (cmE (numR (numR (numR (numR (numR s)))))) ((((((false || numB s) || numB (numR s)) || numB (numR (numR s))) || numB (numR (numR (numR s)))) || numB (numR (numR (numR (numR s))))) || numB (numR (numR (numR (numR (numR s)))))) && opS (opE (cmE (numR (numR (numR (numR (numR s))))))) (((((((false || numB s) || numB (numR s)) || numB (numR (numR s))) || numB (numR (numR (numR s)))) || numB (numR (numR (numR (numR s))))) || numB (numR (numR (numR (numR (numR s)))))) || numB (cmE (numR (numR (numR (numR (numR s))))))) && !((((((((false || numB s) || numB (numR s)) || numB (numR (numR s))) || numB (numR (numR (numR s)))) || numB (numR (numR (numR (numR s))))) || numB (numR (numR (numR (numR (numR s)))))) || numB (cmE (numR (numR (numR (numR (numR s))))))) || numB (opE (cmE (numR (numR (numR (numR (numR s))))))))
def dqX (s : ByteArray) : ByteArray := (opE (opE (cmE (numR (numR (numR (numR (numR s))))))))
theorem dqK_is (s : ByteArray) : dqK s = (dqP s && sEq (dqX s) ⟨#[]⟩ && chBq (dq0 s) && sEq (bif chBq (dq0 s) then rqYq (dq0 s) else ⟨#[]⟩) s) := by
 rw [dqK_eq, rqE_eq]; rfl
def rowsG {e : List Ty} (g : rowDen e → Prop) (L : List (rowDen e)) : Prop := L.length ≤ 1073741824 ∧ ∀ i, i < L.length → g (Sym.rowAt e L i)
def goodQ (q : RqT) : Prop := smP q.1 ∧ u6P q.2.1 ∧ u6P q.2.2.1 ∧ rowsG cmg q.2.2.2.2.1 ∧ rowsG opg q.2.2.2.2.2.1 ∧ rowsG opg q.2.2.2.2.2.2.1 ∧ u6P q.2.2.2.2.2.2.2
theorem rq_back {q : RqT} (h : goodQ q) (t : ByteArray) : dqP (rqYq q ++ t) = true ∧ dqX (rqYq q ++ t) = t ∧ dq0 (rqYq q ++ t) = q := by
 obtain ⟨k, cl, nm, sr, C, A, B, rv⟩ := q
 obtain ⟨h_k, h_c, h_n, ⟨lC, gC⟩, ⟨lA, gA⟩, ⟨lB, gB⟩, h_r⟩ := h
 dsimp only at h_k h_c h_n lC gC lA gA lB gB h_r
 have cb := fun t => cm_lst lC gC t
 have ab := fun t => op_lst lA gA t
 have bb := fun t => op_lst lB gB t
 have a0 := fun t => (ab t).1
 have a1 := fun t => (ab t).2.1
 have a2 := fun t => (ab t).2.2
 have a3 := fun t => (lst_num opY A lA t).2
 have b0 := fun t => (bb t).1
 have b1 := fun t => (bb t).2.1
 have b2 := fun t => (bb t).2.2
 have b3 := fun t => (lst_num opY B lB t).2
 have c0 := fun t => (cb t).1
 have c1 := fun t => (cb t).2.1
 have c2 := fun t => (cb t).2.2
 have c3 := fun t => (lst_num cmY C lC t).2
 have e_k := sm_mod h_k
 have n_k := nb (sm_u6 h_k)
 have n0_k := n_k.1
 have n1_k := n_k.2.1
 have n2_k := n_k.2.2
 have n_cl := nb (h_c)
 have n0_cl := n_cl.1
 have n1_cl := n_cl.2.1
 have n2_cl := n_cl.2.2
 have n_nm := nb (h_n)
 have n0_nm := n_nm.1
 have n1_nm := n_nm.2.1
 have n2_nm := n_nm.2.2
 have n_sr := nb (tI_u6 sr)
 have n0_sr := n_sr.1
 have n1_sr := n_sr.2.1
 have n2_sr := n_sr.2.2
 have n_rv := nb (h_r)
 have n0_rv := n_rv.1
 have n1_rv := n_rv.2.1
 have n2_rv := n_rv.2.2
 unfold rqYq dqP dqX dq0
 dsimp only
 rw [rqY_eq, rqh_eq]
 simp only [xS5, xS6, xS7, ByteArray.append_assoc, e_k, n0_k, n1_k, n2_k, n0_cl, n1_cl, n2_cl, n0_nm, n1_nm, n2_nm, n0_sr, n1_sr, n2_sr, n0_rv, n1_rv, n2_rv, a0, a1, a2, a3, b0, b1, b2, b3, c0, c1, c2, c3, tI1, tI_le, sm_le h_k, Bool.or_false, Bool.not_false, Bool.and_self, and_self]
theorem any_good {e : List Ty} {p : rowDen e → Bool} {L : List (rowDen e)} {g : rowDen e → Prop} (hl : L.length ≤ 1073741824) (ha : anyB p L = false) (hg : ∀ i, i < L.length → p (Sym.rowAt e L i) = false → g (Sym.rowAt e L i)) : rowsG g L := ⟨hl, fun i hi => hg i hi (any_not ha hi)⟩
theorem cmg_of {r : CmQ} (h1 : badC r = false) (h2 : u6P r.2.2.2.1) : cmg r := by
 obtain ⟨key, w, h, n, val⟩ := r
 rw [badC_eq, mayC_eq, Bool.not_eq_false'] at h1
 have h1 := of_decide_eq_true h1
 dsimp only at h2
 refine ⟨?_, ⟨?_, ?_⟩, ⟨?_, ?_⟩, h2, ?_⟩
 all_goals (dsimp only [s6P]; omega)
theorem opg_of {r : OpQ} (h1 : badO r = false) (h2 : u6P r.2.2.2.2.1) : opg r := by
 obtain ⟨k, key, en, val, rev, lim, cnt, ks, pv⟩ := r
 rw [badO_eq, mayO_eq, Bool.not_eq_false'] at h1
 have h1 := of_decide_eq_true h1
 dsimp only at h2
 refine ⟨⟨?_, ?_⟩, ?_, ?_, ?_, h2, ⟨?_, ?_⟩⟩
 all_goals (dsimp only [s6P]; omega)
theorem rowsG_nil {e : List Ty} {g : rowDen e → Prop} {L : List (rowDen e)} (h : L.length = 0) : rowsG g L := ⟨by omega, fun i hi => by omega⟩
theorem good_of {q : RqT} (h : chBq q = true) (h1 : u6P q.2.1) (h2 : u6P q.2.2.1) (h3 : u6P q.2.2.2.2.2.2.2) (wC : cmW q.2.2.2.2.1 = true) (wA : opW q.2.2.2.2.2.1 = true) (wB : opW q.2.2.2.2.2.2.1 = true) : goodQ q := by
 obtain ⟨k, cl, nm, sr, C, A, B, rv⟩ := q
 unfold chBq at h
 rw [chB_eq] at h
 have h := (of_decide_eq_true h).1
 dsimp only at h h1 h2 h3 wC wA wB
 have uC := fun i hi => ((cmW_iff C).1 wC).2 i hi
 have uA := fun i hi => ((opW_iff A).1 wA).2 i hi
 have uB := fun i hi => ((opW_iff B).1 wB).2 i hi
 have hk : smP k := by rcases h with h | h | h | h <;> exact ⟨by omega, by omega⟩
 have hr : rowsG cmg C ∧ rowsG opg A ∧ rowsG opg B := by
  rcases h with h | h | h | h
  ·have hs := h.2.1
   rw [stB_eq, hcE_eq] at hs
   obtain ⟨_, hc, lA, lB, nA, nB⟩ := of_decide_eq_true hs
   have hc : ¬ 4 < C.length ∧ anyB badC C = false := by
    by_cases x : 4 < C.length
    ·rw [if_pos x] at hc; cases hc
    ·rw [if_neg x] at hc
     refine ⟨x, ?_⟩
     cases z : anyB badC C with
     | true => rw [z, if_pos rfl] at hc; cases hc
     | false => rfl
   refine ⟨any_good (by omega) hc.2 fun i hi hb => cmg_of hb (uC i hi).2.1, any_good (by omega) nA fun i hi hb => opg_of hb (uA i hi).2.2.2, any_good (by omega) nB fun i hi hb => opg_of hb (uB i hi).2.2.2⟩
  all_goals exact ⟨rowsG_nil (by omega), rowsG_nil (by omega), rowsG_nil (by omega)⟩
 exact ⟨hk, h1, h2, hr.1, hr.2.1, hr.2.2, h3⟩
theorem sEq_of {a b : ByteArray} (h : sEq a b = true) : a = b := of_decide_eq_true h
theorem sEq_is {a b : ByteArray} (h : a = b) : sEq a b = true := decide_eq_true h
theorem dq_back {q : RqT} (h : goodQ q) (hc : chBq q = true) : dqK (rqYq q) = true ∧ dqV (rqYq q) = q ∧ dqE (rqYq q) = 0 := by
 have hb := rq_back h ⟨#[]⟩
 rw [cat_nil] at hb
 have hk : dqK (rqYq q) = true := by
  rw [dqK_is, hb.1, hb.2.1, hb.2.2, hc, cond_true, sEq_is rfl, sEq_is rfl]; rfl
 refine ⟨hk, ?_, ?_⟩
 ·rw [dqV_eq, hk, cond_true, hb.2.2]
 ·rw [dqE_eq, hk, cond_true]
theorem dq_taken {s : ByteArray} (h : dqK s = true) : chBq (dq0 s) = true ∧ rqYq (dq0 s) = s ∧ dqP s = true ∧ dqX s = ⟨#[]⟩ := by
 rw [dqK_is] at h
 simp only [Bool.and_eq_true] at h
 obtain ⟨⟨⟨h1, h2⟩, h3⟩, h4⟩ := h
 rw [h3, cond_true] at h4
 exact ⟨h3, sEq_of h4, h1, sEq_of h2⟩
theorem dqP_W {s : ByteArray} (hs : s.size ≤ 1000000) (h : dqP s = true) : cmW (dq0 s).2.2.2.2.1 = true ∧ opW (dq0 s).2.2.2.2.2.1 = true ∧ opW (dq0 s).2.2.2.2.2.2.1 = true := by
 unfold dqP at h
 simp only [Bool.and_eq_true] at h
 obtain ⟨⟨⟨⟨⟨m0, m1⟩, m2⟩, m3⟩, m4⟩, m5⟩ := h
 have z0 := numR_size s
 have z1 := numR_size (numR s)
 have z2 := numR_size (numR (numR s))
 have z3 := numR_size (numR (numR (numR s)))
 have z4 := numR_size (numR (numR (numR (numR s))))
 have x2 := cmE_size _ _ m2
 have x3 := opE_size _ _ m3
 have w2 := cmL_W (by omega) m2
 have w3 := opL_W (by omega) m3
 have w4 := opL_W (by omega) m4
 exact ⟨w2, w3, w4⟩
theorem dq_good {s : ByteArray} (hs : s.size ≤ 1000000) (h : dqK s = true) : goodQ (dq0 s) := by
 obtain ⟨h1, h2, h3, h4⟩ := dq_taken h
 obtain ⟨wC, wA, wB⟩ := dqP_W hs h3
 exact good_of h1 (numV_in _) (numV_in _) (numV_in _) wC wA wB
def maBq (q : RpT) : Bool := maB q.1 q.2.2.2.2.2.2.2.2 q.2.2.2.2.1
def rpYq (q : RpT) : ByteArray := rph q.1 q.2.1 q.2.2.1 q.2.2.2.1 q.2.2.2.2.2.1 q.2.2.2.2.2.2.1 q.2.2.2.2.2.2.2.1 q.2.2.2.2.2.2.2.2 ++ catZ reY q.2.2.2.2.1
def dpP (s : ByteArray) : Bool := leI (numV s) 1073741824 && leI (numV (numR (numR (numR s)))) 1 && leI (numV (numR (numR (numR (numR (numR (numR (numR s)))))))) 1073741824 && reS (numR (numR (numR (numR (numR (numR (numR (numR s)))))))) ((((((((false || numB s) || numB (numR s)) || numB (numR (numR s))) || numB (numR (numR (numR s)))) || numB (numR (numR (numR (numR s))))) || numB (numR (numR (numR (numR (numR s)))))) || numB (numR (numR (numR (numR (numR (numR s))))))) || numB (numR (numR (numR (numR (numR (numR (numR s)))))))) && !(((((((((false || numB s) || numB (numR s)) || numB (numR (numR s))) || numB (numR (numR (numR s)))) || numB (numR (numR (numR (numR s))))) || numB (numR (numR (numR (numR (numR s)))))) || numB (numR (numR (numR (numR (numR (numR s))))))) || numB (numR (numR (numR (numR (numR (numR (numR s)))))))) || numB (numR (numR (numR (numR (numR (numR (numR (numR s)))))))))
def dpX (s : ByteArray) : ByteArray := (reE (numR (numR (numR (numR (numR (numR (numR (numR s)))))))))
theorem dpK_is (s : ByteArray) : dpK s = (dpP s && sEq (dpX s) ⟨#[]⟩ && maBq (dp0 s) && sEq (bif maBq (dp0 s) then rpYq (dp0 s) else ⟨#[]⟩) s) := by
 rw [dpK_eq, rpE_eq]; rfl
def goodP (q : RpT) : Prop := smP q.1 ∧ u6P q.2.1 ∧ u6P q.2.2.1 ∧ rowsG reg q.2.2.2.2.1 ∧ (0 ≤ q.2.2.2.2.2.1 ∧ q.2.2.2.2.2.1 < 4294967296) ∧ u6P q.2.2.2.2.2.2.1 ∧ u6P q.2.2.2.2.2.2.2.1 ∧ smP (q.2.2.2.2.2.2.2.2 + 1)
theorem rp_back {q : RpT} (h : goodP q) (t : ByteArray) : dpP (rpYq q ++ t) = true ∧ dpX (rpYq q ++ t) = t ∧ dp0 (rpYq q ++ t) = q := by
 obtain ⟨er, rv, cm, tk, R, ha, ap, te, ld⟩ := q
 obtain ⟨h_e, h_r, h_c, ⟨lR, gR⟩, h_h, h_a, h_t, h_l⟩ := h
 dsimp only at h_e h_r h_c lR gR h_h h_a h_t h_l
 have rb := fun t => re_lst lR gR t
 have r0 := fun t => (rb t).1
 have r1 := fun t => (rb t).2.1
 have r2 := fun t => (rb t).2.2
 have r3 := fun t => (lst_num reY R lR t).2
 have e_e := sm_mod h_e
 have e_l := sm_mod h_l
 have e_h : ha % 18446744073709551616 = ha := Int.emod_eq_of_lt h_h.1 (by omega)
 have e_h2 : ha % 4294967296 = ha := Int.emod_eq_of_lt h_h.1 h_h.2
 have n_er := nb (sm_u6 h_e)
 have n0_er := n_er.1
 have n1_er := n_er.2.1
 have n2_er := n_er.2.2
 have n_rv := nb (h_r)
 have n0_rv := n_rv.1
 have n1_rv := n_rv.2.1
 have n2_rv := n_rv.2.2
 have n_cm := nb (h_c)
 have n0_cm := n_cm.1
 have n1_cm := n_cm.2.1
 have n2_cm := n_cm.2.2
 have n_tk := nb (tI_u6 tk)
 have n0_tk := n_tk.1
 have n1_tk := n_tk.2.1
 have n2_tk := n_tk.2.2
 have n_ha := nb (⟨h_h.1, by omega⟩ : u6P ha)
 have n0_ha := n_ha.1
 have n1_ha := n_ha.2.1
 have n2_ha := n_ha.2.2
 have n_ap := nb (h_a)
 have n0_ap := n_ap.1
 have n1_ap := n_ap.2.1
 have n2_ap := n_ap.2.2
 have n_te := nb (h_t)
 have n0_te := n_te.1
 have n1_te := n_te.2.1
 have n2_te := n_te.2.2
 have n_ld := nb (sm_u6 h_l)
 have n0_ld := n_ld.1
 have n1_ld := n_ld.2.1
 have n2_ld := n_ld.2.2
 unfold rpYq dpP dpX dp0
 dsimp only
 rw [rph_eq]
 simp only [yS8, ByteArray.append_assoc, e_e, e_l, e_h, e_h2, n0_er, n1_er, n2_er, n0_rv, n1_rv, n2_rv, n0_cm, n1_cm, n2_cm, n0_tk, n1_tk, n2_tk, n0_ha, n1_ha, n2_ha, n0_ap, n1_ap, n2_ap, n0_te, n1_te, n2_te, n0_ld, n1_ld, n2_ld, r0, r1, r2, r3, tI1, tI_le, sm_le h_e, sm_le h_l, Bool.or_false, Bool.not_false, Bool.and_self, and_self, Int.add_sub_cancel]
theorem kvg_of {L : List KvQ} (hl : L.length ≤ 2000) (hw : kvW L = true) : L.length ≤ 1073741824 ∧ ∀ i, i < L.length → kvg (Sym.rowAt kvT L i) := by
 refine ⟨by omega, fun i hi => ?_⟩
 obtain ⟨x0, x1, x2, x3, x4⟩ := ((kvW_iff L).1 hw).2 i hi
 refine ⟨?_, ?_, x2, x3, x4⟩
 all_goals (dsimp only [s6P, szP] at *; omega)
theorem goodP_of {q : RpT} (h : maBq q = true) (h1 : u6P q.2.1) (h2 : u6P q.2.2.1) (h3 : 0 ≤ q.2.2.2.2.2.1 ∧ q.2.2.2.2.2.1 < 4294967296) (h4 : u6P q.2.2.2.2.2.2.1) (h5 : u6P q.2.2.2.2.2.2.2.1) (wR : reW q.2.2.2.2.1 = true) : goodP q := by
 unfold maBq at h
 rw [maB_eq] at h
 obtain ⟨a1, a2, a3, a4, a5, a6⟩ := of_decide_eq_true h
 refine ⟨⟨a1, by omega⟩, h1, h2, any_good (by omega) a6 fun i hi hb => ?_, h3, h4, h5, ⟨by omega, by omega⟩⟩
 have hw := ((reW_iff _).1 wR).2 i hi
 generalize Sym.rowAt reT q.2.2.2.2.1 i = r at hb hw
 obtain ⟨K, m, c, d, P⟩ := r
 rw [badR_eq, Bool.not_eq_false'] at hb
 obtain ⟨b1, b2, b3, b4⟩ := of_decide_eq_true hb
 exact ⟨kvg_of b1 hw.1, b3, b4, kvg_of b2 hw.2⟩
theorem dp_back {q : RpT} (h : goodP q) (hc : maBq q = true) : dpK (rpYq q) = true ∧ dpV (rpYq q) = q ∧ dpE (rpYq q) = 0 := by
 have hb := rp_back h ⟨#[]⟩
 rw [cat_nil] at hb
 have hk : dpK (rpYq q) = true := by
  rw [dpK_is, hb.1, hb.2.1, hb.2.2, hc, cond_true, sEq_is rfl, sEq_is rfl]; rfl
 refine ⟨hk, ?_, ?_⟩
 ·rw [dpV_eq, hk, cond_true, hb.2.2]
 ·rw [dpE_eq, hk, cond_true]
theorem dp_taken {s : ByteArray} (h : dpK s = true) : maBq (dp0 s) = true ∧ rpYq (dp0 s) = s ∧ dpP s = true ∧ dpX s = ⟨#[]⟩ := by
 rw [dpK_is] at h
 simp only [Bool.and_eq_true] at h
 obtain ⟨⟨⟨h1, h2⟩, h3⟩, h4⟩ := h
 rw [h3, cond_true] at h4
 exact ⟨h3, sEq_of h4, h1, sEq_of h2⟩
theorem dpP_W {s : ByteArray} (hs : s.size ≤ 1000000) (h : dpP s = true) : reW (dp0 s).2.2.2.2.1 = true := by
 unfold dpP at h
 simp only [Bool.and_eq_true] at h
 obtain ⟨⟨⟨⟨m0, m1⟩, m2⟩, m3⟩, m4⟩ := h
 have z0 := numR_size s
 have z1 := numR_size (numR s)
 have z2 := numR_size (numR (numR s))
 have z3 := numR_size (numR (numR (numR s)))
 have z4 := numR_size (numR (numR (numR (numR s))))
 have z5 := numR_size (numR (numR (numR (numR (numR s)))))
 have z6 := numR_size (numR (numR (numR (numR (numR (numR s))))))
 have z7 := numR_size (numR (numR (numR (numR (numR (numR (numR s)))))))
 have w3 := reL_W (by omega) m3
 exact w3
theorem dp_good {s : ByteArray} (hs : s.size ≤ 1000000) (h : dpK s = true) : goodP (dp0 s) := by
 obtain ⟨h1, h2, h3, h4⟩ := dp_taken h
 refine goodP_of h1 (numV_in _) (numV_in _) ⟨?_, ?_⟩ (numV_in _) (numV_in _) (dpP_W hs h3)
 ·exact Int.emod_nonneg _ (by omega)
 ·exact Int.emod_lt_of_pos _ (by omega)
end Go.Proofs.Ytaloolcabmfjbaa
end

noncomputable section
namespace Go.Proofs.Ytaloolcabmfjbaa
open Go.Sym
set_option maxRecDepth 100000
set_option maxHeartbeats 4000000
def d2X (s : ByteArray) : ByteArray := (gE op2R opB (gE op2R opB (gE cm2R cmB (numR (numR (numR (numR (numR s))))) (((((false || numB s) || numB (numR s)) || numB (numR (numR s))) || numB (numR (numR (numR s)))) || numB (numR (numR (numR (numR s)))))) (gF cm2R cmB (numR (numR (numR (numR (numR s))))) (((((false || numB s) || numB (numR s)) || numB (numR (numR s))) || numB (numR (numR (numR s)))) || numB (numR (numR (numR (numR s))))))) (gF op2R opB (gE cm2R cmB (numR (numR (numR (numR (numR s))))) (((((false || numB s) || numB (numR s)) || numB (numR (numR s))) || numB (numR (numR (numR s)))) || numB (numR (numR (numR (numR s)))))) (gF cm2R cmB (numR (numR (numR (numR (numR s))))) (((((false || numB s) || numB (numR s)) || numB (numR (numR s))) || numB (numR (numR (numR s)))) || numB (numR (numR (numR (numR s))))))))
def d2F (s : ByteArray) : Bool := (gF op2R opB (gE op2R opB (gE cm2R cmB (numR (numR (numR (numR (numR s))))) (((((false || numB s) || numB (numR s)) || numB (numR (numR s))) || numB (numR (numR (numR s)))) || numB (numR (numR (numR (numR s)))))) (gF cm2R cmB (numR (numR (numR (numR (numR s))))) (((((false || numB s) || numB (numR s)) || numB (numR (numR s))) || numB (numR (numR (numR s)))) || numB (numR (numR (numR (numR s))))))) (gF op2R opB (gE cm2R cmB (numR (numR (numR (numR (numR s))))) (((((false || numB s) || numB (numR s)) || numB (numR (numR s))) || numB (numR (numR (numR s)))) || numB (numR (numR (numR (numR s)))))) (gF cm2R cmB (numR (numR (numR (numR (numR s))))) (((((false || numB s) || numB (numR s)) || numB (numR (numR s))) || numB (numR (numR (numR s)))) || numB (numR (numR (numR (numR s))))))))
theorem d2K_is (s : ByteArray) : d2K s = (chBq (ddq s) && sEq (bif chBq (ddq s) then rqYq (ddq s) else ⟨#[]⟩) s && !d2F s && sEq (d2X s) ⟨#[]⟩) := by
 rw [d2K_eq, rqE_eq]; rfl
theorem d2_back {q : RqT} (h : goodQ q) (t : ByteArray) : ddq (rqYq q ++ t) = q ∧ d2X (rqYq q ++ t) = t ∧ d2F (rqYq q ++ t) = false := by
 obtain ⟨k, cl, nm, sr, C, A, B, rv⟩ := q
 obtain ⟨h_k, h_c, h_n, ⟨lC, gC⟩, ⟨lA, gA⟩, ⟨lB, gB⟩, h_r⟩ := h
 dsimp only at h_k h_c h_n lC gC lA gA lB gB h_r
 have cb := fun t => g_back cm2V cm2R cmB lC (fun i hi t => cm2_back (gC i hi) t) t
 have c0 := fun t => (cb t).1
 have c1 := fun t => (cb t).2.1
 have c2 := fun t => (cb t).2.2
 have ab := fun t => g_back op2V op2R opB lA (fun i hi t => op2_back (gA i hi) t) t
 have a0 := fun t => (ab t).1
 have a1 := fun t => (ab t).2.1
 have a2 := fun t => (ab t).2.2
 have bb := fun t => g_back op2V op2R opB lB (fun i hi t => op2_back (gB i hi) t) t
 have b0 := fun t => (bb t).1
 have b1 := fun t => (bb t).2.1
 have b2 := fun t => (bb t).2.2
 have n_k := nb (sm_u6 h_k)
 have n0_k := n_k.1
 have n1_k := n_k.2.1
 have n2_k := n_k.2.2
 have n_cl := nb (h_c)
 have n0_cl := n_cl.1
 have n1_cl := n_cl.2.1
 have n2_cl := n_cl.2.2
 have n_nm := nb (h_n)
 have n0_nm := n_nm.1
 have n1_nm := n_nm.2.1
 have n2_nm := n_nm.2.2
 have n_sr := nb (tI_u6 sr)
 have n0_sr := n_sr.1
 have n1_sr := n_sr.2.1
 have n2_sr := n_sr.2.2
 have n_rv := nb (h_r)
 have n0_rv := n_rv.1
 have n1_rv := n_rv.2.1
 have n2_rv := n_rv.2.2
 have e_k := sm_mod h_k
 have i_k : min k 2147483648 = k := m31_sm h_k
 unfold rqYq ddq d2X d2F
 dsimp only
 rw [rqY_eq, rqh_eq]
 simp only [qL6, qL7, qL8, qS5, qB5, qS6, qB6, qS7, qB7, ByteArray.append_assoc, e_k, i_k, n0_k, n1_k, n2_k, n0_cl, n1_cl, n2_cl, n0_nm, n1_nm, n2_nm, n0_sr, n1_sr, n2_sr, n0_rv, n1_rv, n2_rv, a0, a1, a2, b0, b1, b2, c0, c1, c2, tI1, Bool.or_false, and_self]
theorem d2_one {s : ByteArray} (hs : s.size ≤ 100000) : d2V s = dqV s ∧ d2E s = dqE s := by
 have key : d2K s = dqK s ∧ (dqK s = true → ddq s = dq0 s) := by
  cases hk : dqK s with
  | true =>
   obtain ⟨h1, h2, h3, h4⟩ := dq_taken hk
   obtain ⟨b1, b2, b3⟩ := d2_back (dq_good (by omega) hk) ⟨#[]⟩
   rw [cat_nil, h2] at b1 b2 b3
   refine ⟨?_, fun _ => b1⟩
   rw [d2K_is, b1, b2, b3, h1, cond_true, h2, sEq_is rfl, sEq_is rfl]; rfl
  | false =>
   refine ⟨?_, fun h => by cases h⟩
   cases h2 : d2K s with
   | false => rfl
   | true =>
    rw [d2K_is] at h2
    simp only [Bool.and_eq_true, Bool.not_eq_true'] at h2
    obtain ⟨⟨⟨m0, m1⟩, m2⟩, m3⟩ := h2
    rw [m0, cond_true] at m1
    have e := sEq_of m1
    have z0 := numR_size s
    have z1 := numR_size (numR s)
    have z2 := numR_size (numR (numR s))
    have z3 := numR_size (numR (numR (numR s)))
    have z4 := numR_size (numR (numR (numR (numR s))))
    have zc := gE_size cm2R cmB cm2_hR (numR (numR (numR (numR (numR s))))) (((((false || numB s) || numB (numR s)) || numB (numR (numR s))) || numB (numR (numR (numR s)))) || numB (numR (numR (numR (numR s)))))
    have za := gE_size op2R opB op2_hR (gE cm2R cmB (numR (numR (numR (numR (numR s))))) (((((false || numB s) || numB (numR s)) || numB (numR (numR s))) || numB (numR (numR (numR s)))) || numB (numR (numR (numR (numR s)))))) (gF cm2R cmB (numR (numR (numR (numR (numR s))))) (((((false || numB s) || numB (numR s)) || numB (numR (numR s))) || numB (numR (numR (numR s)))) || numB (numR (numR (numR (numR s))))))
    have w1 := cm2_W (s := (numR (numR (numR (numR (numR s)))))) (((((false || numB s) || numB (numR s)) || numB (numR (numR s))) || numB (numR (numR (numR s)))) || numB (numR (numR (numR (numR s))))) (by omega)
    have w2 := op2_W (s := (gE cm2R cmB (numR (numR (numR (numR (numR s))))) (((((false || numB s) || numB (numR s)) || numB (numR (numR s))) || numB (numR (numR (numR s)))) || numB (numR (numR (numR (numR s))))))) (gF cm2R cmB (numR (numR (numR (numR (numR s))))) (((((false || numB s) || numB (numR s)) || numB (numR (numR s))) || numB (numR (numR (numR s)))) || numB (numR (numR (numR (numR s)))))) (by omega)
    have w3 := op2_W (s := (gE op2R opB (gE cm2R cmB (numR (numR (numR (numR (numR s))))) (((((false || numB s) || numB (numR s)) || numB (numR (numR s))) || numB (numR (numR (numR s)))) || numB (numR (numR (numR (numR s)))))) (gF cm2R cmB (numR (numR (numR (numR (numR s))))) (((((false || numB s) || numB (numR s)) || numB (numR (numR s))) || numB (numR (numR (numR s)))) || numB (numR (numR (numR (numR s)))))))) (gF op2R opB (gE cm2R cmB (numR (numR (numR (numR (numR s))))) (((((false || numB s) || numB (numR s)) || numB (numR (numR s))) || numB (numR (numR (numR s)))) || numB (numR (numR (numR (numR s)))))) (gF cm2R cmB (numR (numR (numR (numR (numR s))))) (((((false || numB s) || numB (numR s)) || numB (numR (numR s))) || numB (numR (numR (numR s)))) || numB (numR (numR (numR (numR s))))))) (by omega)
    have hg : goodQ (ddq s) := good_of m0 (numV_in _) (numV_in _) (numV_in _) w1 w2 w3
    have := (dq_back hg m0).1
    rw [e, hk] at this
    cases this
 rw [d2V_eq, d2E_eq, dqV_eq, dqE_eq, key.1]
 cases hk : dqK s with
 | true => rw [cond_true, cond_true, key.2 hk]; exact ⟨rfl, rfl⟩
 | false => exact ⟨rfl, rfl⟩
def d3X (s : ByteArray) : ByteArray := (gE re2R re2B (numR (numR (numR (numR (numR (numR (numR (numR s)))))))) ((((((((false || numB s) || numB (numR s)) || numB (numR (numR s))) || numB (numR (numR (numR s)))) || numB (numR (numR (numR (numR s))))) || numB (numR (numR (numR (numR (numR s)))))) || numB (numR (numR (numR (numR (numR (numR s))))))) || numB (numR (numR (numR (numR (numR (numR (numR s)))))))))
def d3F (s : ByteArray) : Bool := (gF re2R re2B (numR (numR (numR (numR (numR (numR (numR (numR s)))))))) ((((((((false || numB s) || numB (numR s)) || numB (numR (numR s))) || numB (numR (numR (numR s)))) || numB (numR (numR (numR (numR s))))) || numB (numR (numR (numR (numR (numR s)))))) || numB (numR (numR (numR (numR (numR (numR s))))))) || numB (numR (numR (numR (numR (numR (numR (numR s)))))))))
theorem d3K_is (s : ByteArray) : d3K s = (maBq (ddp s) && sEq (bif maBq (ddp s) then rpYq (ddp s) else ⟨#[]⟩) s && !d3F s && sEq (d3X s) ⟨#[]⟩) := by
 rw [d3K_eq, rpE_eq]; rfl
theorem d3_back {q : RpT} (h : goodP q) (t : ByteArray) : ddp (rpYq q ++ t) = q ∧ d3X (rpYq q ++ t) = t ∧ d3F (rpYq q ++ t) = false := by
 obtain ⟨er, rv, cm, tk, R, ha, ap, te, ld⟩ := q
 obtain ⟨h_e, h_r, h_c, ⟨lR, gR⟩, h_h, h_a, h_t, h_l⟩ := h
 dsimp only at h_e h_r h_c lR gR h_h h_a h_t h_l
 have rb := fun t => g_back re2V re2R re2B lR (fun i hi t => re2_back (gR i hi) t) t
 have r0 := fun t => (rb t).1
 have r1 := fun t => (rb t).2.1
 have r2 := fun t => (rb t).2.2
 have n_er := nb (sm_u6 h_e)
 have n0_er := n_er.1
 have n1_er := n_er.2.1
 have n2_er := n_er.2.2
 have n_rv := nb (h_r)
 have n0_rv := n_rv.1
 have n1_rv := n_rv.2.1
 have n2_rv := n_rv.2.2
 have n_cm := nb (h_c)
 have n0_cm := n_cm.1
 have n1_cm := n_cm.2.1
 have n2_cm := n_cm.2.2
 have n_tk := nb (tI_u6 tk)
 have n0_tk := n_tk.1
 have n1_tk := n_tk.2.1
 have n2_tk := n_tk.2.2
 have n_ha := nb (⟨h_h.1, by omega⟩ : u6P ha)
 have n0_ha := n_ha.1
 have n1_ha := n_ha.2.1
 have n2_ha := n_ha.2.2
 have n_ap := nb (h_a)
 have n0_ap := n_ap.1
 have n1_ap := n_ap.2.1
 have n2_ap := n_ap.2.2
 have n_te := nb (h_t)
 have n0_te := n_te.1
 have n1_te := n_te.2.1
 have n2_te := n_te.2.2
 have n_ld := nb (sm_u6 h_l)
 have n0_ld := n_ld.1
 have n1_ld := n_ld.2.1
 have n2_ld := n_ld.2.2
 have e_e := sm_mod h_e
 have e_l := sm_mod h_l
 have i_e : min er 2147483648 = er := m31_sm h_e
 have i_l : min (ld + 1) 2147483648 = ld + 1 := m31_sm h_l
 have e_h : ha % 18446744073709551616 = ha := Int.emod_eq_of_lt h_h.1 (by omega)
 have e_h2 : ha % 4294967296 = ha := Int.emod_eq_of_lt h_h.1 h_h.2
 unfold rpYq ddp d3X d3F
 dsimp only
 rw [rph_eq]
 simp only [pL9, pS8, pB8, ByteArray.append_assoc, e_e, e_l, i_e, i_l, e_h, e_h2, n0_er, n1_er, n2_er, n0_rv, n1_rv, n2_rv, n0_cm, n1_cm, n2_cm, n0_tk, n1_tk, n2_tk, n0_ha, n1_ha, n2_ha, n0_ap, n1_ap, n2_ap, n0_te, n1_te, n2_te, n0_ld, n1_ld, n2_ld, r0, r1, r2, tI1, Bool.or_false, and_self, Int.add_sub_cancel]
theorem d3_one {s : ByteArray} (hs : s.size ≤ 100000) : d3V s = dpV s ∧ d3E s = dpE s := by
 have key : d3K s = dpK s ∧ (dpK s = true → ddp s = dp0 s) := by
  cases hk : dpK s with
  | true =>
   obtain ⟨h1, h2, h3, h4⟩ := dp_taken hk
   obtain ⟨b1, b2, b3⟩ := d3_back (dp_good (by omega) hk) ⟨#[]⟩
   rw [cat_nil, h2] at b1 b2 b3
   refine ⟨?_, fun _ => b1⟩
   rw [d3K_is, b1, b2, b3, h1, cond_true, h2, sEq_is rfl, sEq_is rfl]; rfl
  | false =>
   refine ⟨?_, fun h => by cases h⟩
   cases h2 : d3K s with
   | false => rfl
   | true =>
    rw [d3K_is] at h2
    simp only [Bool.and_eq_true, Bool.not_eq_true'] at h2
    obtain ⟨⟨⟨m0, m1⟩, m2⟩, m3⟩ := h2
    rw [m0, cond_true] at m1
    have e := sEq_of m1
    have z0 := numR_size s
    have z1 := numR_size (numR s)
    have z2 := numR_size (numR (numR s))
    have z3 := numR_size (numR (numR (numR s)))
    have z4 := numR_size (numR (numR (numR (numR s))))
    have z5 := numR_size (numR (numR (numR (numR (numR s)))))
    have z6 := numR_size (numR (numR (numR (numR (numR (numR s))))))
    have z7 := numR_size (numR (numR (numR (numR (numR (numR (numR s)))))))
    have w1 := re2_W (s := (numR (numR (numR (numR (numR (numR (numR (numR s))))))))) ((((((((false || numB s) || numB (numR s)) || numB (numR (numR s))) || numB (numR (numR (numR s)))) || numB (numR (numR (numR (numR s))))) || numB (numR (numR (numR (numR (numR s)))))) || numB (numR (numR (numR (numR (numR (numR s))))))) || numB (numR (numR (numR (numR (numR (numR (numR s)))))))) (by omega)
    have hg : goodP (ddp s) := goodP_of m0 (numV_in _) (numV_in _) ⟨Int.emod_nonneg _ (by omega), Int.emod_lt_of_pos _ (by omega)⟩ (numV_in _) (numV_in _) w1
    have := (dp_back hg m0).1
    rw [e, hk] at this
    cases this
 rw [d3V_eq, d3E_eq, dpV_eq, dpE_eq, key.1]
 cases hk : dpK s with
 | true => rw [cond_true, cond_true, key.2 hk]; exact ⟨rfl, rfl⟩
 | false => exact ⟨rfl, rfl⟩
end Go.Proofs.Ytaloolcabmfjbaa
end

noncomputable section
namespace Go.Proofs.Ytaloolcabmfjbaa
open Go.Sym
set_option maxRecDepth 100000
set_option maxHeartbeats 4000000
abbrev ba1 (n : UInt8) : ByteArray := ⟨#[n]⟩
def zOp : OpQ := (1, ba1 97, ⟨#[]⟩, ba1 120, 0, 0, false, false, false)
abbrev rqX : RqT := (0, 7, 1, false, [], [zOp], [], 0)
abbrev byY : ByteArray := ⟨#[0, 3, 0, 0, 0, 0, 0, 3, 1, 1, 1, 97, 1, 120, 2, 3, 2, 0, 1, 0, 0]⟩
abbrev byX : ByteArray := ⟨#[0, 7, 1, 0, 0, 0, 1, 1, 1, 97, 0, 1, 120, 0, 0, 0, 0, 0, 0]⟩
def zKv : KvQ := (ba1 97, ba1 120, 2, 3, 2)
def zRe : ReQ := ([zKv], false, 1, 0, [])
abbrev rpX : RpT := (0, 3, 0, false, [zRe], 0, 0, 0, 2)
theorem zO_may : mayO zOp = true := by
 show mayO (1, ba1 97, ⟨#[]⟩, ba1 120, 0, 0, false, false, false) = true
 rw [mayO_eq]; decide
theorem zO_chg : chgO zOp = true := by rw [chgO_eq]; decide
theorem zR_bad : badR zRe = false := by
 show badR ([zKv], false, 1, 0, []) = false
 rw [badR_eq]; decide
theorem rqX_ch : chBq rqX = true := by
 unfold chBq
 rw [chB_eq, stB_eq, hcE_eq, wrB_eq]
 simp only [anyB_eq, List.any_cons, List.any_nil, badO_eq, zO_may, zO_chg]
 decide
theorem catZ1 {e : List Ty} (y : rowDen e → ByteArray) (r : rowDen e) : catZ y [r] = numT 1 ++ y r := by rw [catZ_tl]; show numT 1 ++ (y r ++ ⟨#[]⟩) = _; rw [cat_nil]
theorem catZ0 {e : List Ty} (y : rowDen e → ByteArray) : catZ y [] = numT 0 := by rw [catZ_tl]; exact cat_nil _
theorem rqX_by : rqYq rqX = byX := by
 have e1 : rqYq rqX = rqh 0 7 1 false 0 ++ (catZ cmY [] ++ (catZ opY [zOp] ++ catZ opY [])) := rqY_eq _ _ _ _ _ _ _ _
 have e2 : opY zOp = _ := opY_eq _ _ _ _ _ _ _ _ _
 have e3 : tI false = 0 := tI_eq false
 rw [e1, catZ0, catZ0, catZ1, e2, rqh_eq, e3, txtT_eq, txtT_eq, txtT_eq]
 simp only [numT_eq0]
 decide +kernel
theorem rpX_ma : maBq rpX = true := by
 unfold maBq
 rw [maB_eq]
 simp only [anyB_eq, List.any_cons, List.any_nil, zR_bad]
 decide
theorem opX_W : opW [zOp] = true := by
 rw [opW_iff]
 refine ⟨by decide, fun i hi => ?_⟩
 have : i = 0 := by have : i < 1 := hi; omega
 subst this
 exact ⟨by decide, by decide, by decide, by decide, by decide⟩
theorem nil_cW : cmW [] = true := (cmW_iff _).2 ⟨by decide, fun i hi => by cases hi⟩
theorem nil_oW : opW [] = true := (opW_iff _).2 ⟨by decide, fun i hi => by cases hi⟩
theorem nil_kW : kvW [] = true := (kvW_iff _).2 ⟨by decide, fun i hi => by cases hi⟩
theorem nil_rW : reW [] = true := (reW_iff _).2 ⟨by decide, fun i hi => by cases hi⟩
theorem kvX_W : kvW [zKv] = true := by
 rw [kvW_iff]
 refine ⟨by decide, fun i hi => ?_⟩
 have : i = 0 := by have : i < 1 := hi; omega
 subst this
 exact ⟨by decide, by decide, by decide, by decide, by decide⟩
theorem reX_W : reW [zRe] = true := by
 rw [reW_iff]
 refine ⟨by decide, fun i hi => ?_⟩
 have : i = 0 := by have : i < 1 := hi; omega
 subst this
 exact ⟨kvX_W, nil_kW⟩
theorem zput_at : PureAt Try.prog 45 [] (rqG rqX) := by
 have h : PureAt Try.prog 45 [] (.agg [.int .i64 0, .int .u64 7, .int .u64 1, .bool false, .nils, .lst opT [zOp] false, .nils, .int .u64 0]) := by
  refine pure_of_W0 (tab := noTab) (fuel := 4) (d := 5) noTab_ok ?_
  repeat' ((conv => whnf); first | (with_reducible first | (refine W1.o ?_; constructor) | rfl | exact castL_self _ _) | ((with_reducible refine V.same_t ?_); exact rfl) | ((with_reducible refine andB_room ?_ ?_ ?_); (· kernel_rfl); (· (first | omega | (simp only [lens] <;> omega) | (decide +kernel) | (simp only [pms] <;> decide +kernel)))) | ((with_reducible refine W2.o ?_; constructor); · (first | (with_reducible assumption) | (first | omega | (simp only [lens] <;> omega) | (decide +kernel) | (simp only [pms] <;> decide +kernel)))) | ((with_reducible refine W3.o ?_; constructor); · (first | (with_reducible assumption) | (first | omega | (simp only [lens] <;> omega) | (decide +kernel) | (simp only [pms] <;> decide +kernel)))) | ((with_reducible refine W4.o ?_; constructor); · (first | (with_reducible first | assumption | exact decide_eq_true rfl | exact sEq_self _) | ((with_reducible refine eqOK_i ?_); kernel_rfl) | (simp only [pms] <;> decide +kernel))) | ((with_reducible refine iteB_f ?_ ?_); · (first | (with_reducible first | assumption | exact decide_eq_true rfl | exact sEq_self _) | ((with_reducible refine eqOK_i ?_); kernel_rfl) | (simp only [pms] <;> decide +kernel))) | (with_reducible refine W5.o ?_; constructor) | ((with_reducible refine W6.o ?_; constructor) <;> intro hB))
  all_goals ((conv => whnf); (try dsimp only); (try simp only [Nat.succ_eq_add_one, Nat.le_eq, castL_self]); (try omega))
  all_goals (try (first | omega | (simp only [lens] <;> omega) | (decide +kernel) | (simp only [pms] <;> decide +kernel)))
  all_goals first
   | exact rfl
 exact PureAt.val h fun φ => agg_of (LRel.cons_of (fun _ h => h) (LRel.cons_of (fun _ h => h) (LRel.cons_of (fun _ h => h) (LRel.cons_of (fun _ h => h) (LRel.cons_of (fun _ h => ofLst_rel (e := cmT) (a := .nils) rfl h) (LRel.cons_of (fun _ h => h) (LRel.cons_of (fun _ h => ofLst_rel (e := opT) (a := .nils) rfl h) fun _ h => h)))))))
def zputF (args : List V) : Option (List Bool × V) := match args with
 | [] => some ([], rqG rqX)
 | _ => none
theorem zputF_ok (args : List V) (c : List Bool) (v : V) (h : zputF args = some (c, v)) (_ : allB c) : PureAt Try.prog 45 args v := by
 unfold zputF at h
 split at h
 ·cases h; exact zput_at
 ·cases h
def atF (s : ByteArray) (v : V) (args : List V) : Option (List Bool × V) := match args with
 | [.str t] => some ([sEq t s], v)
 | _ => none
theorem atF_ok {P : Program} {g : FuncId} {s : ByteArray} {v : V} (hg : PureAt P g [.str s] v) (args : List V) (c : List Bool) (w : V) (h : atF s v args = some (c, w)) (hc : allB c) : PureAt P g args w := by
 unfold atF at h
 split at h
 ·cases h
  rw [sEq_of hc.1]; exact hg
 ·cases h
theorem decX_at : PureAt Try.prog 19 [.str byX] (.tup [rqG rqX, .int .i64 0]) := by
 have hg : goodQ rqX := good_of rqX_ch ⟨by decide, by decide⟩ ⟨by decide, by decide⟩ ⟨by decide, by decide⟩ nil_cW opX_W nil_oW
 obtain ⟨h1, h2, h3⟩ := dq_back hg rqX_ch
 have := decReq_at (rqYq rqX) (by rw [rqX_by]; decide)
 rw [h2, h3, rqX_by] at this
 exact this
theorem rpX_by : rpYq rpX = byY := by
 have e1 : rpYq rpX = rph 0 3 0 false 0 0 0 2 ++ catZ reY [zRe] := rfl
 have e2 : reY zRe = catZ kvY [zKv] ++ (numT (tI false) ++ (numT (1 % 18446744073709551616) ++ (numT (0 % 18446744073709551616) ++ catZ kvY []))) := reY_eq zRe
 have e4 : kvY zKv = _ := kvY_eq _ _ _ _ _
 have e3 : tI false = 0 := tI_eq false
 rw [e1, rph_eq, catZ1, e2, catZ1, catZ0, e4, e3, txtT_eq, txtT_eq]
 simp only [numT_eq0]
 decide +kernel
theorem decY_at : PureAt Try.prog 21 [.str byY] (.tup [rpG rpX, .int .i64 0]) := by
 have hg : goodP rpX := goodP_of rpX_ma ⟨by decide, by decide⟩ ⟨by decide, by decide⟩ ⟨by decide, by decide⟩ ⟨by decide, by decide⟩ ⟨by decide, by decide⟩ reX_W
 obtain ⟨h1, h2, h3⟩ := dp_back hg rpX_ma
 have := decResp_at (rpYq rpX) (by rw [rpX_by]; decide)
 rw [h2, h3, rpX_by] at this
 exact this
def tabWs : Tab := oneTab 45 zputF (oneTab 19 (atF byX (.tup [rqG rqX, .int .i64 0])) (oneTab 21 (atF byY (.tup [rpG rpX, .int .i64 0])) (oneTab 13 (rqF wrF) (oneTab 9 (rqF enqF) noTab))))
theorem tabWs_ok : TabOK Try.prog tabWs := oneTab_ok zputF_ok (oneTab_ok (atF_ok decX_at) (oneTab_ok (atF_ok decY_at) (oneTab_ok (rqF_ok fun k cl nm sr C A B rv h => writes_at k cl nm rv sr C A B h.1 h.2.1) (oneTab_ok (rqF_ok fun k cl nm sr C A B rv h => encReq_at k cl nm rv sr C A B h.1 h.2.1 h.2.2.1 ⟨of_leI h.2.2.2.1, of_ltI h.2.2.2.2.1⟩ ⟨of_leI h.2.2.2.2.2.1, of_ltI h.2.2.2.2.2.2.1⟩ ⟨of_leI h.2.2.2.2.2.2.2.1, of_ltI h.2.2.2.2.2.2.2.2.1⟩) noTab_ok))))
theorem rqX_eq : rqE 0 7 1 false [] [zOp] [] 0 = rqYq rqX := by
 have := rqX_ch
 unfold chBq at this
 rw [rqE_eq, this, cond_true]; rfl
theorem rqX_ce : chE 0 7 1 false [] [zOp] [] 0 = 0 := by
 have := rqX_ch
 unfold chBq at this
 rw [chE_of, this, cond_true]
theorem rqX_wr : wrB 0 [zOp] [] = true := by
 rw [wrB_eq]
 simp only [anyB_eq, List.any_cons, List.any_nil, chgO_eq]
 decide
theorem works25_at : PureAt Try.prog 15 [] (.bool true) := by
 have f3 : sEq (rqE 0 7 1 false [] [zOp] [] 0) byX = true := sEq_is (rqX_eq.trans rqX_by)
 have f4 := rqX_ce
 have f6 := rqX_wr
 have w1 := opX_W
 have w2 := reX_W
 have w3 := nil_cW
 have w4 := nil_oW
 refine pure_of_H noHT_ok tabWs_ok (fuel := 20) (d := 14) [] (fun _ _ h => by cases h) ?_
 repeat' ((conv => whnf); first | (with_reducible first | (refine W1.o ?_; constructor) | rfl | exact castL_self _ _) | ((with_reducible refine V.same_t ?_); exact rfl) | ((with_reducible refine andB_room ?_ ?_ ?_); (· kernel_rfl); (· (first | omega | (simp only [lens] <;> omega) | (decide +kernel) | (simp only [pms] <;> decide +kernel)))) | ((with_reducible refine W2.o ?_; constructor); · (first | (with_reducible assumption) | (first | omega | (simp only [lens] <;> omega) | (decide +kernel) | (simp only [pms] <;> decide +kernel)))) | ((with_reducible refine W3.o ?_; constructor); · (first | (with_reducible assumption) | (first | omega | (simp only [lens] <;> omega) | (decide +kernel) | (simp only [pms] <;> decide +kernel)))) | ((with_reducible refine W4.o ?_; constructor); · (first | (with_reducible first | assumption | exact decide_eq_true rfl | exact sEq_self _) | ((with_reducible refine eqOK_i ?_); kernel_rfl) | (first | (first | exact f3 | exact w1 | exact w2 | exact w3 | exact w4 | exact f6) | (simp only [pms] <;> decide +kernel)))) | ((with_reducible refine iteB_f ?_ ?_); · (first | (with_reducible first | assumption | exact decide_eq_true rfl | exact sEq_self _) | ((with_reducible refine eqOK_i ?_); kernel_rfl) | (first | (first | exact f3 | exact w1 | exact w2 | exact w3 | exact w4 | exact f6) | (simp only [pms] <;> decide +kernel)))) | (with_reducible refine W5.o ?_; constructor) | ((with_reducible refine W6.o ?_; constructor) <;> intro hB))
 all_goals ((conv => whnf); (try dsimp only); (try simp only [Nat.succ_eq_add_one, Nat.le_eq, castL_self]); (try omega))
 all_goals (try (first | omega | (simp only [lens] <;> omega) | (decide +kernel) | (simp only [pms] <;> decide +kernel)))
 all_goals first
  | exact rfl
  | (rw [f6]; exact rfl)
def worksF (args : List V) : Option (List Bool × V) := match args with
 | [] => some ([], .bool true)
 | _ => none
theorem worksF_ok (args : List V) (c : List Bool) (v : V) (h : worksF args = some (c, v)) (_ : allB c) : PureAt Try.prog 15 args v := by
 unfold worksF at h
 split at h
 ·cases h; exact works25_at
 ·cases h
end Go.Proofs.Ytaloolcabmfjbaa
end

noncomputable section
namespace Go.Proofs.Ytaloolcabmfjbaa
open Go.Sym
set_option maxRecDepth 100000
set_option maxHeartbeats 4000000
theorem dq_facts {t : ByteArray} (ht : t.size ≤ 1000000) : cmW (dqV t).2.2.2.2.1 = true ∧ opW (dqV t).2.2.2.2.2.1 = true ∧ opW (dqV t).2.2.2.2.2.2.1 = true ∧ u6P (dqV t).2.1 ∧ u6P (dqV t).2.2.1 ∧ u6P (dqV t).2.2.2.2.2.2.2 ∧ (dqE t = 11 ∨ (dqE t = 0 ∧ sEq (rqE (dqV t).1 (dqV t).2.1 (dqV t).2.2.1 (dqV t).2.2.2.1 (dqV t).2.2.2.2.1 (dqV t).2.2.2.2.2.1 (dqV t).2.2.2.2.2.2.1 (dqV t).2.2.2.2.2.2.2) t = true ∧ chE (dqV t).1 (dqV t).2.1 (dqV t).2.2.1 (dqV t).2.2.2.1 (dqV t).2.2.2.2.1 (dqV t).2.2.2.2.2.1 (dqV t).2.2.2.2.2.2.1 (dqV t).2.2.2.2.2.2.2 = 0)) := by
 have e1 := dqV_eq t
 have e2 := dqE_eq t
 cases hk : dqK t with
 | false =>
  rw [hk, cond_false] at e1 e2
  rw [e1]
  exact ⟨nil_cW, nil_oW, nil_oW, ⟨by decide, by decide⟩, ⟨by decide, by decide⟩, ⟨by decide, by decide⟩, .inl e2⟩
 | true =>
  rw [hk, cond_true] at e1 e2
  obtain ⟨h1, h2, h3, h4⟩ := dq_taken hk
  obtain ⟨wC, wA, wB⟩ := dqP_W ht h3
  rw [e1]
  refine ⟨wC, wA, wB, numV_in _, numV_in _, numV_in _, .inr ⟨e2, ?_, ?_⟩⟩
  ·have := rqE_eq (dq0 t).1 (dq0 t).2.1 (dq0 t).2.2.1 (dq0 t).2.2.2.2.2.2.2 (dq0 t).2.2.2.1 (dq0 t).2.2.2.2.1 (dq0 t).2.2.2.2.2.1 (dq0 t).2.2.2.2.2.2.1
   unfold chBq at h1
   rw [h1, cond_true] at this
   exact sEq_is (this.trans h2)
  ·have := chE_of (dq0 t).1 (dq0 t).2.1 (dq0 t).2.2.1 (dq0 t).2.2.2.2.2.2.2 (dq0 t).2.2.2.1 (dq0 t).2.2.2.2.1 (dq0 t).2.2.2.2.2.1 (dq0 t).2.2.2.2.2.2.1
   unfold chBq at h1
   rw [h1, cond_true] at this
   exact this
theorem dp_facts {t : ByteArray} (ht : t.size ≤ 1000000) : reW (dpV t).2.2.2.2.1 = true ∧ u6P (dpV t).2.1 ∧ u6P (dpV t).2.2.1 ∧ (0 ≤ (dpV t).2.2.2.2.2.1 ∧ (dpV t).2.2.2.2.2.1 < 4294967296) ∧ u6P (dpV t).2.2.2.2.2.2.1 ∧ u6P (dpV t).2.2.2.2.2.2.2.1 ∧ (dpE t = 4 ∨ (dpE t = 0 ∧ sEq (rpE (dpV t).1 (dpV t).2.1 (dpV t).2.2.1 (dpV t).2.2.2.1 (dpV t).2.2.2.2.1 (dpV t).2.2.2.2.2.1 (dpV t).2.2.2.2.2.2.1 (dpV t).2.2.2.2.2.2.2.1 (dpV t).2.2.2.2.2.2.2.2) t = true ∧ maE (dpV t).1 (dpV t).2.2.2.2.2.2.2.2 (dpV t).2.2.2.2.1 = 0)) := by
 have e1 := dpV_eq t
 have e2 := dpE_eq t
 cases hk : dpK t with
 | false =>
  rw [hk, cond_false] at e1 e2
  rw [e1]
  exact ⟨nil_rW, ⟨by decide, by decide⟩, ⟨by decide, by decide⟩, ⟨by decide, by decide⟩, ⟨by decide, by decide⟩, ⟨by decide, by decide⟩, .inl e2⟩
 | true =>
  rw [hk, cond_true] at e1 e2
  obtain ⟨h1, h2, h3, h4⟩ := dp_taken hk
  obtain ⟨_, g1, g2, _, g3, g4, g5, _⟩ := dp_good ht hk
  rw [e1]
  refine ⟨dpP_W ht h3, g1, g2, g3, g4, g5, .inr ⟨e2, ?_, ?_⟩⟩
  ·have := rpE_eq (dp0 t).1 (dp0 t).2.1 (dp0 t).2.2.1 (dp0 t).2.2.2.2.2.1 (dp0 t).2.2.2.2.2.2.1 (dp0 t).2.2.2.2.2.2.2.1 (dp0 t).2.2.2.2.2.2.2.2 (dp0 t).2.2.2.1 (dp0 t).2.2.2.2.1
   unfold maBq at h1
   rw [h1, cond_true] at this
   exact sEq_is (this.trans h2)
  ·have := maE_of (dp0 t).1 (dp0 t).2.2.2.2.2.2.2.2 (dp0 t).2.2.2.2.1
   unfold maBq at h1
   rw [h1, cond_true] at this
   exact this
def dqF (args : List V) : Option (List Bool × V) := match args with
 | [.str s] => some ([decide (s.size ≤ 1000000)], .tup [rqG (dqV s), .int .i64 (dqE s)])
 | _ => none
theorem dqF_ok (args : List V) (c : List Bool) (v : V) (h : dqF args = some (c, v)) (hc : allB c) : PureAt Try.prog 19 args v := by
 unfold dqF at h
 split at h
 ·cases h; exact decReq_at _ (of_decide_eq_true hc.1)
 ·cases h
def dpF (args : List V) : Option (List Bool × V) := match args with
 | [.str s] => some ([decide (s.size ≤ 1000000)], .tup [rpG (dpV s), .int .i64 (dpE s)])
 | _ => none
theorem dpF_ok (args : List V) (c : List Bool) (v : V) (h : dpF args = some (c, v)) (hc : allB c) : PureAt Try.prog 21 args v := by
 unfold dpF at h
 split at h
 ·cases h; exact decResp_at _ (of_decide_eq_true hc.1)
 ·cases h
end Go.Proofs.Ytaloolcabmfjbaa
end

noncomputable section
namespace Go.Proofs.Ytaloolcabmfjbaa
open Go.Sym
set_option maxRecDepth 100000
set_option maxHeartbeats 4000000
theorem sEq_self (x : ByteArray) : sEq x x = true := decide_eq_true rfl
theorem bEq_self (x : Bool) : (x == x) = true := by cases x <;> rfl
section
variable (k cl nm rv : Int) (sr : Bool) (C : List CmQ) (A B : List OpQ)
def sqC (t i : Nat) : CD := ⟨122, [(2, .ptr 0 0), (3, .ptr 1 0), (t, .int .i64 (i : Int))], [], [(0, .cells [.int .i64 k, .int .u64 cl, .int .u64 nm, .bool sr, .lst cmT C false, .lst opT A false, .lst opT B false, .int .u64 rv] 0 false), (1, .cells [.int .i64 k, .int .u64 cl, .int .u64 nm, .bool sr, .lst cmT C false, .lst opT A false, .lst opT B false, .int .u64 rv] 0 false)], 2⟩
theorem sq_l1 (N : Nat) (hl : C.length ≤ 9223372036854775807) : LpD.ok Try.prog N 0 (bodyOf Try.prog 23) ⟨4, [(0, 0), (1, 1)], sqC k cl nm rv sr C A B 5 (0), .leaf (.exit 0) (sqC k cl nm rv sr C A B 5 (C.length))⟩ := by
 refine LpD.ok_one (b := bodyAt Try.prog 23 4) rfl (loop_W noTab_ok (fuel := 4) (d := 5) (X := { i : Nat // i ≤ C.length }) (fun x => sqC k cl nm rv sr C A B 5 (x.1)) (fun x => C.length - x.1)
   (fun _ => .leaf (.exit 0) (sqC k cl nm rv sr C A B 5 (C.length))) (fun _ => noLpW) (fun _ => noLp) (fun _ => noLp_ad) (fun _ => noLp_ok _) ?_ ⟨0, Nat.zero_le _⟩)
 rintro ⟨i, hi⟩
 dsimp only
 rcases Nat.lt_or_ge i C.length with hlt | hge
 case' inr =>
  have he : i = C.length := Nat.le_antisymm hi hge
  subst he
 all_goals
  repeat' ((conv => whnf); first | (with_reducible first | (refine W1.o ?_; constructor) | rfl | exact castL_self _ _) | ((with_reducible refine V.same_t ?_); exact rfl) | ((with_reducible refine andB_room ?_ ?_ ?_); (· kernel_rfl); (· (first | omega | (simp only [lens] <;> omega)))) | ((with_reducible refine W2.o ?_; constructor); · (first | with_reducible assumption | omega | (simp only [lens] <;> omega))) | ((with_reducible refine W3.o ?_; constructor); · (first | with_reducible assumption | omega | (simp only [lens] <;> omega))) | ((with_reducible refine W4.o ?_; constructor); · (first | (with_reducible first | assumption | exact decide_eq_true rfl | exact sEq_self _) | ((with_reducible refine eqOK_i ?_); kernel_rfl) | (first | (first | (simp only [sEq_self, bEq_self, eq_self, decide_true, Bool.and_true, Bool.and_self]; done))))) | ((with_reducible refine iteB_f ?_ ?_); · (first | (with_reducible first | assumption | exact decide_eq_true rfl | exact sEq_self _) | ((with_reducible refine eqOK_i ?_); kernel_rfl) | (first | (first | (simp only [sEq_self, bEq_self, eq_self, decide_true, Bool.and_true, Bool.and_self]; done))))) | (refine ⟨⟨i + 1, hlt⟩, ?_, rfl, ?_⟩) | (with_reducible refine CD.wk_au ?_) | (with_reducible refine W5.o ?_; constructor) | ((with_reducible refine W6.o ?_; constructor) <;> intro hB))
  all_goals ((conv => whnf); (try dsimp only); (try simp only [Nat.succ_eq_add_one, Nat.le_eq, castL_self]); (try omega))
  all_goals (try (first | omega | (simp only [lens] <;> omega)))
  all_goals first
   | exact rfl
   | omega
theorem sq_l2 (N : Nat) (hl : A.length ≤ 9223372036854775807) : LpD.ok Try.prog N 0 (bodyOf Try.prog 23) ⟨9, [(0, 0), (1, 1)], sqC k cl nm rv sr C A B 6 (0), .leaf (.exit 2) (sqC k cl nm rv sr C A B 6 (A.length))⟩ := by
 refine LpD.ok_one (b := bodyAt Try.prog 23 9) rfl (loop_W noTab_ok (fuel := 4) (d := 5) (X := { i : Nat // i ≤ A.length }) (fun x => sqC k cl nm rv sr C A B 6 (x.1)) (fun x => A.length - x.1)
   (fun _ => .leaf (.exit 2) (sqC k cl nm rv sr C A B 6 (A.length))) (fun _ => noLpW) (fun _ => noLp) (fun _ => noLp_ad) (fun _ => noLp_ok _) ?_ ⟨0, Nat.zero_le _⟩)
 rintro ⟨i, hi⟩
 dsimp only
 rcases Nat.lt_or_ge i A.length with hlt | hge
 case' inr =>
  have he : i = A.length := Nat.le_antisymm hi hge
  subst he
 all_goals
  repeat' ((conv => whnf); first | (with_reducible first | (refine W1.o ?_; constructor) | rfl | exact castL_self _ _) | ((with_reducible refine V.same_t ?_); exact rfl) | ((with_reducible refine andB_room ?_ ?_ ?_); (· kernel_rfl); (· (first | omega | (simp only [lens] <;> omega)))) | ((with_reducible refine W2.o ?_; constructor); · (first | with_reducible assumption | omega | (simp only [lens] <;> omega))) | ((with_reducible refine W3.o ?_; constructor); · (first | with_reducible assumption | omega | (simp only [lens] <;> omega))) | ((with_reducible refine W4.o ?_; constructor); · (first | (with_reducible first | assumption | exact decide_eq_true rfl | exact sEq_self _) | ((with_reducible refine eqOK_i ?_); kernel_rfl) | (first | (first | (simp only [sEq_self, bEq_self, eq_self, decide_true, Bool.and_true, Bool.and_self]; done))))) | ((with_reducible refine iteB_f ?_ ?_); · (first | (with_reducible first | assumption | exact decide_eq_true rfl | exact sEq_self _) | ((with_reducible refine eqOK_i ?_); kernel_rfl) | (first | (first | (simp only [sEq_self, bEq_self, eq_self, decide_true, Bool.and_true, Bool.and_self]; done))))) | (refine ⟨⟨i + 1, hlt⟩, ?_, rfl, ?_⟩) | (with_reducible refine CD.wk_au ?_) | (with_reducible refine W5.o ?_; constructor) | ((with_reducible refine W6.o ?_; constructor) <;> intro hB))
  all_goals ((conv => whnf); (try dsimp only); (try simp only [Nat.succ_eq_add_one, Nat.le_eq, castL_self]); (try omega))
  all_goals (try (first | omega | (simp only [lens] <;> omega)))
  all_goals first
   | exact rfl
   | omega
theorem sq_l3 (N : Nat) (hl : B.length ≤ 9223372036854775807) : LpD.ok Try.prog N 0 (bodyOf Try.prog 23) ⟨14, [(0, 0), (1, 1)], sqC k cl nm rv sr C A B 7 (0), .leaf (.exit 4) (sqC k cl nm rv sr C A B 7 (B.length))⟩ := by
 refine LpD.ok_one (b := bodyAt Try.prog 23 14) rfl (loop_W noTab_ok (fuel := 4) (d := 5) (X := { i : Nat // i ≤ B.length }) (fun x => sqC k cl nm rv sr C A B 7 (x.1)) (fun x => B.length - x.1)
   (fun _ => .leaf (.exit 4) (sqC k cl nm rv sr C A B 7 (B.length))) (fun _ => noLpW) (fun _ => noLp) (fun _ => noLp_ad) (fun _ => noLp_ok _) ?_ ⟨0, Nat.zero_le _⟩)
 rintro ⟨i, hi⟩
 dsimp only
 rcases Nat.lt_or_ge i B.length with hlt | hge
 case' inr =>
  have he : i = B.length := Nat.le_antisymm hi hge
  subst he
 all_goals
  repeat' ((conv => whnf); first | (with_reducible first | (refine W1.o ?_; constructor) | rfl | exact castL_self _ _) | ((with_reducible refine V.same_t ?_); exact rfl) | ((with_reducible refine andB_room ?_ ?_ ?_); (· kernel_rfl); (· (first | omega | (simp only [lens] <;> omega)))) | ((with_reducible refine W2.o ?_; constructor); · (first | with_reducible assumption | omega | (simp only [lens] <;> omega))) | ((with_reducible refine W3.o ?_; constructor); · (first | with_reducible assumption | omega | (simp only [lens] <;> omega))) | ((with_reducible refine W4.o ?_; constructor); · (first | (with_reducible first | assumption | exact decide_eq_true rfl | exact sEq_self _) | ((with_reducible refine eqOK_i ?_); kernel_rfl) | (first | (first | (simp only [sEq_self, bEq_self, eq_self, decide_true, Bool.and_true, Bool.and_self]; done))))) | ((with_reducible refine iteB_f ?_ ?_); · (first | (with_reducible first | assumption | exact decide_eq_true rfl | exact sEq_self _) | ((with_reducible refine eqOK_i ?_); kernel_rfl) | (first | (first | (simp only [sEq_self, bEq_self, eq_self, decide_true, Bool.and_true, Bool.and_self]; done))))) | (refine ⟨⟨i + 1, hlt⟩, ?_, rfl, ?_⟩) | (with_reducible refine CD.wk_au ?_) | (with_reducible refine W5.o ?_; constructor) | ((with_reducible refine W6.o ?_; constructor) <;> intro hB))
  all_goals ((conv => whnf); (try dsimp only); (try simp only [Nat.succ_eq_add_one, Nat.le_eq, castL_self]); (try omega))
  all_goals (try (first | omega | (simp only [lens] <;> omega)))
  all_goals first
   | exact rfl
   | omega
theorem sameReq_at (lC : C.length ≤ 9223372036854775807) (lA : A.length ≤ 9223372036854775807) (lB : B.length ≤ 9223372036854775807) : PureAt Try.prog 23 [(.agg [.int .i64 k, .int .u64 cl, .int .u64 nm, .bool sr, .lst cmT C false, .lst opT A false, .lst opT B false, .int .u64 rv]), (.agg [.int .i64 k, .int .u64 cl, .int .u64 nm, .bool sr, .lst cmT C false, .lst opT A false, .lst opT B false, .int .u64 rv])] (.bool true) := by
 refine pure_of_loops noTab_ok (fuel := 4) (d := 5) [⟨4, [(0, 0), (1, 1)], sqC k cl nm rv sr C A B 5 0, .leaf (.exit 0) (sqC k cl nm rv sr C A B 5 C.length)⟩, ⟨9, [(0, 0), (1, 1)], sqC k cl nm rv sr C A B 6 0, .leaf (.exit 2) (sqC k cl nm rv sr C A B 6 A.length)⟩, ⟨14, [(0, 0), (1, 1)], sqC k cl nm rv sr C A B 7 0, .leaf (.exit 4) (sqC k cl nm rv sr C A B 7 B.length)⟩] (fun N y hy => ?_) ?_
 ·rcases List.mem_cons.1 hy with e | hy
  ·rw [e]; exact sq_l1 k cl nm rv sr C A B N lC
  ·rcases List.mem_cons.1 hy with e | hy
   ·rw [e]; exact sq_l2 k cl nm rv sr C A B N lA
   ·rw [List.mem_singleton.1 hy]; exact sq_l3 k cl nm rv sr C A B N lB
 ·repeat' ((conv => whnf); first | (with_reducible first | (refine W1.o ?_; constructor) | rfl | exact castL_self _ _) | ((with_reducible refine V.same_t ?_); exact rfl) | ((with_reducible refine andB_room ?_ ?_ ?_); (· kernel_rfl); (· (first | omega | (simp only [lens] <;> omega)))) | ((with_reducible refine W2.o ?_; constructor); · (first | with_reducible assumption | omega | (simp only [lens] <;> omega))) | ((with_reducible refine W3.o ?_; constructor); · (first | with_reducible assumption | omega | (simp only [lens] <;> omega))) | ((with_reducible refine W4.o ?_; constructor); · (first | (with_reducible first | assumption | exact decide_eq_true rfl | exact sEq_self _) | ((with_reducible refine eqOK_i ?_); kernel_rfl) | (first | (first | (simp only [sEq_self, bEq_self, eq_self, decide_true, Bool.and_true, Bool.and_self]; done))))) | ((with_reducible refine iteB_f ?_ ?_); · (first | (with_reducible first | assumption | exact decide_eq_true rfl | exact sEq_self _) | ((with_reducible refine eqOK_i ?_); kernel_rfl) | (first | (first | (simp only [sEq_self, bEq_self, eq_self, decide_true, Bool.and_true, Bool.and_self]; done))))) | (with_reducible refine CD.wk_au ?_) | (with_reducible refine W5.o ?_; constructor) | ((with_reducible refine W6.o ?_; constructor) <;> intro hB))
  all_goals ((conv => whnf); (try dsimp only); (try simp only [Nat.succ_eq_add_one, Nat.le_eq, castL_self]); (try omega))
  all_goals (try (first | omega | (simp only [lens] <;> omega)))
  all_goals first
   | exact rfl
end
def rqO (v : V) : Option RqT := match v with
 | .agg [.int .i64 k, .int .u64 cl, .int .u64 nm, .bool sr, c, a, b, .int .u64 rv] => (match ofLst cmT c, ofLst opT a, ofLst opT b with
   | some C, some A, some B => some (k, cl, nm, sr, C, A, B, rv)
   | _, _, _ => none)
 | _ => none
theorem rqO_rel {v : V} {q : RqT} (h : rqO v = some q) (ρ : Env) : ∀ X, VRel ρ v X → VRel ρ (rqG q) X := by
 unfold rqO at h
 split at h
 ·split at h
  ·rename_i h1 h2 h3
   cases h
   exact agg_of (LRel.cons_of (fun _ h => h) (LRel.cons_of (fun _ h => h) (LRel.cons_of (fun _ h => h) (LRel.cons_of (fun _ h => h) (LRel.cons_of (fun _ h => ofLst_rel h1 h) (LRel.cons_of (fun _ h => ofLst_rel h2 h) (LRel.cons_of (fun _ h => ofLst_rel h3 h) fun _ h => h)))))))
  ·cases h
 ·cases h
open Classical in
def sameQ : RqT → RqT → Bool := hide fun p q => decide (p = q ∧ p.2.2.2.2.1.length ≤ 9223372036854775807 ∧ p.2.2.2.2.2.1.length ≤ 9223372036854775807 ∧ p.2.2.2.2.2.2.1.length ≤ 9223372036854775807)
open Classical in
theorem sameQ_iff (p q : RqT) : sameQ p q = true ↔ (p = q ∧ p.2.2.2.2.1.length ≤ 9223372036854775807 ∧ p.2.2.2.2.2.1.length ≤ 9223372036854775807 ∧ p.2.2.2.2.2.2.1.length ≤ 9223372036854775807) := by unfold sameQ; rw [hide_eq]; exact ⟨fun h => of_decide_eq_true h, fun h => decide_eq_true h⟩
def sqF (args : List V) : Option (List Bool × V) := match args with
 | [x, y] => (match rqO x, rqO y with
   | some p, some q => some ([sameQ p q], .bool true)
   | _, _ => none)
 | _ => none
theorem sqF_ok (args : List V) (c : List Bool) (v : V) (h : sqF args = some (c, v)) (hc : allB c) : PureAt Try.prog 23 args v := by
 unfold sqF at h
 split at h
 ·split at h
  ·rename_i x y p q h1 h2
   cases h
   obtain ⟨rfl, l1, l2, l3⟩ := (sameQ_iff p q).1 hc.1
   exact (sameReq_at p.1 p.2.1 p.2.2.1 p.2.2.2.2.2.2.2 p.2.2.2.1 p.2.2.2.2.1 p.2.2.2.2.2.1 p.2.2.2.2.2.2.1 l1 l2 l3).weak fun φ X hX => LRel.cons_of (rqO_rel h1 _) (LRel.cons_of (rqO_rel h2 _) fun _ h => h) X hX
  ·cases h
 ·cases h
section
variable (K : List KvQ)
def skC (i : Nat) : CD := ⟨26, [(0, .lst kvT K false), (1, .lst kvT K false), (5, .int .i64 (i : Int))], [], [], 0⟩
theorem sk_l (N : Nat) (hl : K.length ≤ 9223372036854775807) : LpD.ok Try.prog N 0 (bodyOf Try.prog 96) ⟨4, [], skC K (0), .leaf (.exit 0) (skC K (K.length))⟩ := by
 refine LpD.ok_one (b := bodyAt Try.prog 96 4) rfl (loop_W noTab_ok (fuel := 4) (d := 5) (X := { i : Nat // i ≤ K.length }) (fun x => skC K (x.1)) (fun x => K.length - x.1)
   (fun _ => .leaf (.exit 0) (skC K (K.length))) (fun _ => noLpW) (fun _ => noLp) (fun _ => noLp_ad) (fun _ => noLp_ok _) ?_ ⟨0, Nat.zero_le _⟩)
 rintro ⟨i, hi⟩
 dsimp only
 rcases Nat.lt_or_ge i K.length with hlt | hge
 case' inr =>
  have he : i = K.length := Nat.le_antisymm hi hge
  subst he
 all_goals
  repeat' ((conv => whnf); first | (with_reducible first | (refine W1.o ?_; constructor) | rfl | exact castL_self _ _) | ((with_reducible refine V.same_t ?_); exact rfl) | ((with_reducible refine andB_room ?_ ?_ ?_); (· kernel_rfl); (· (first | omega | (simp only [lens] <;> omega)))) | ((with_reducible refine W2.o ?_; constructor); · (first | with_reducible assumption | omega | (simp only [lens] <;> omega))) | ((with_reducible refine W3.o ?_; constructor); · (first | with_reducible assumption | omega | (simp only [lens] <;> omega))) | ((with_reducible refine W4.o ?_; constructor); · (first | (with_reducible first | assumption | exact decide_eq_true rfl | exact sEq_self _) | ((with_reducible refine eqOK_i ?_); kernel_rfl) | (first | (first | (simp only [sEq_self, bEq_self, eq_self, decide_true, Bool.and_true, Bool.and_self]; done))))) | ((with_reducible refine iteB_f ?_ ?_); · (first | (with_reducible first | assumption | exact decide_eq_true rfl | exact sEq_self _) | ((with_reducible refine eqOK_i ?_); kernel_rfl) | (first | (first | (simp only [sEq_self, bEq_self, eq_self, decide_true, Bool.and_true, Bool.and_self]; done))))) | (refine ⟨⟨i + 1, hlt⟩, ?_, rfl, ?_⟩) | (with_reducible refine CD.wk_au ?_) | (with_reducible refine W5.o ?_; constructor) | ((with_reducible refine W6.o ?_; constructor) <;> intro hB))
  all_goals ((conv => whnf); (try dsimp only); (try simp only [Nat.succ_eq_add_one, Nat.le_eq, castL_self]); (try omega))
  all_goals (try (first | omega | (simp only [lens] <;> omega)))
  all_goals first
   | exact rfl
   | omega
theorem sameKVs_at (lK : K.length ≤ 9223372036854775807) : PureAt Try.prog 96 [.lst kvT K false, .lst kvT K false] (.bool true) := by
 refine pure_of_loops noTab_ok (fuel := 4) (d := 5) [⟨4, [], skC K 0, .leaf (.exit 0) (skC K K.length)⟩] (fun N y hy => by rw [List.mem_singleton.1 hy]; exact sk_l K N lK) ?_
 repeat' ((conv => whnf); first | (with_reducible first | (refine W1.o ?_; constructor) | rfl | exact castL_self _ _) | ((with_reducible refine V.same_t ?_); exact rfl) | ((with_reducible refine andB_room ?_ ?_ ?_); (· kernel_rfl); (· (first | omega | (simp only [lens] <;> omega)))) | ((with_reducible refine W2.o ?_; constructor); · (first | with_reducible assumption | omega | (simp only [lens] <;> omega))) | ((with_reducible refine W3.o ?_; constructor); · (first | with_reducible assumption | omega | (simp only [lens] <;> omega))) | ((with_reducible refine W4.o ?_; constructor); · (first | (with_reducible first | assumption | exact decide_eq_true rfl | exact sEq_self _) | ((with_reducible refine eqOK_i ?_); kernel_rfl) | (first | (first | (simp only [sEq_self, bEq_self, eq_self, decide_true, Bool.and_true, Bool.and_self]; done))))) | ((with_reducible refine iteB_f ?_ ?_); · (first | (with_reducible first | assumption | exact decide_eq_true rfl | exact sEq_self _) | ((with_reducible refine eqOK_i ?_); kernel_rfl) | (first | (first | (simp only [sEq_self, bEq_self, eq_self, decide_true, Bool.and_true, Bool.and_self]; done))))) | (with_reducible refine CD.wk_au ?_) | (with_reducible refine W5.o ?_; constructor) | ((with_reducible refine W6.o ?_; constructor) <;> intro hB))
 all_goals ((conv => whnf); (try dsimp only); (try simp only [Nat.succ_eq_add_one, Nat.le_eq, castL_self]); (try omega))
 all_goals (try (first | omega | (simp only [lens] <;> omega)))
 all_goals first
  | exact rfl
end
open Classical in
def sameK : List KvQ → List KvQ → Bool := hide fun p q => decide (p = q ∧ p.length ≤ 9223372036854775807)
open Classical in
theorem sameK_iff (p q : List KvQ) : sameK p q = true ↔ (p = q ∧ p.length ≤ 9223372036854775807) := by unfold sameK; rw [hide_eq]; exact ⟨fun h => of_decide_eq_true h, fun h => decide_eq_true h⟩
theorem sameK_of {p : List KvQ} (h : p.length ≤ 9223372036854775807) : sameK p p = true := (sameK_iff p p).2 ⟨rfl, h⟩
def skF (args : List V) : Option (List Bool × V) := match args with
 | [x, y] => (match ofLst kvT x, ofLst kvT y with
   | some p, some q => some ([sameK p q], .bool true)
   | _, _ => none)
 | _ => none
theorem skF_ok (args : List V) (c : List Bool) (v : V) (h : skF args = some (c, v)) (hc : allB c) : PureAt Try.prog 96 args v := by
 unfold skF at h
 split at h
 ·split at h
  ·rename_i x y p q h1 h2
   cases h
   obtain ⟨rfl, l1⟩ := (sameK_iff p q).1 hc.1
   exact (sameKVs_at p l1).weak fun φ X hX => LRel.cons_of (fun _ h => ofLst_rel h1 h) (LRel.cons_of (fun _ h => ofLst_rel h2 h) fun _ h => h) X hX
  ·cases h
 ·cases h
def tabSk : Tab := oneTab 96 skF noTab
theorem tabSk_ok : TabOK Try.prog tabSk := oneTab_ok skF_ok noTab_ok
section
variable (er rv cm ha ap te ld : Int) (tk : Bool) (R : List ReQ)
def srC (i : Nat) : CD := ⟨88, [(2, .ptr 0 0), (3, .ptr 1 0), (5, .int .i64 (i : Int))], [], [(0, .cells [.int .i64 er, .int .u64 rv, .int .u64 cm, .bool tk, .lst reT R false, .int .u32 ha, .int .u64 ap, .int .u64 te, .int .i64 ld] 0 false), (1, .cells [.int .i64 er, .int .u64 rv, .int .u64 cm, .bool tk, .lst reT R false, .int .u32 ha, .int .u64 ap, .int .u64 te, .int .i64 ld] 0 false)], 2⟩
theorem sr_l (N : Nat) (hl : R.length ≤ 9223372036854775807) (hk : ∀ i, i < R.length → sameK (Sym.rowAt reT R i).1 (Sym.rowAt reT R i).1 = true ∧ sameK (Sym.rowAt reT R i).2.2.2.2 (Sym.rowAt reT R i).2.2.2.2 = true) : LpD.ok Try.prog N 0 (bodyOf Try.prog 24) ⟨4, [(0, 0), (1, 1)], srC er rv cm ha ap te ld tk R (0), .leaf (.exit 0) (srC er rv cm ha ap te ld tk R (R.length))⟩ := by
 refine LpD.ok_one (b := bodyAt Try.prog 24 4) rfl (loop_W tabSk_ok (fuel := 4) (d := 5) (X := { i : Nat // i ≤ R.length }) (fun x => srC er rv cm ha ap te ld tk R (x.1)) (fun x => R.length - x.1)
   (fun _ => .leaf (.exit 0) (srC er rv cm ha ap te ld tk R (R.length))) (fun _ => noLpW) (fun _ => noLp) (fun _ => noLp_ad) (fun _ => noLp_ok _) ?_ ⟨0, Nat.zero_le _⟩)
 rintro ⟨i, hi⟩
 dsimp only
 rcases Nat.lt_or_ge i R.length with hlt | hge
 case' inl =>
  have hk1 : sameK (Sym.rowAt reT R (Int.toNat (i : Int))).1 (Sym.rowAt reT R (Int.toNat (i : Int))).1 = true := (hk i hlt).1
  have hk2 : sameK (Sym.rowAt reT R (Int.toNat (i : Int))).2.2.2.2 (Sym.rowAt reT R (Int.toNat (i : Int))).2.2.2.2 = true := (hk i hlt).2
 case' inr =>
  have he : i = R.length := Nat.le_antisymm hi hge
  subst he
 all_goals
  repeat' ((conv => whnf); first | (with_reducible first | (refine W1.o ?_; constructor) | rfl | exact castL_self _ _) | ((with_reducible refine V.same_t ?_); exact rfl) | ((with_reducible refine andB_room ?_ ?_ ?_); (· kernel_rfl); (· (first | omega | (simp only [lens] <;> omega)))) | ((with_reducible refine W2.o ?_; constructor); · (first | with_reducible assumption | omega | (simp only [lens] <;> omega))) | ((with_reducible refine W3.o ?_; constructor); · (first | with_reducible assumption | omega | (simp only [lens] <;> omega))) | ((with_reducible refine W4.o ?_; constructor); · (first | (with_reducible first | assumption | exact decide_eq_true rfl | exact sEq_self _) | ((with_reducible refine eqOK_i ?_); kernel_rfl) | (first | (first | exact hk1 | exact hk2 | (simp only [sEq_self, bEq_self, eq_self, decide_true, Bool.and_true, Bool.and_self]; done))))) | ((with_reducible refine iteB_f ?_ ?_); · (first | (with_reducible first | assumption | exact decide_eq_true rfl | exact sEq_self _) | ((with_reducible refine eqOK_i ?_); kernel_rfl) | (first | (first | exact hk1 | exact hk2 | (simp only [sEq_self, bEq_self, eq_self, decide_true, Bool.and_true, Bool.and_self]; done))))) | (refine ⟨⟨i + 1, hlt⟩, ?_, rfl, ?_⟩) | (with_reducible refine CD.wk_au ?_) | (with_reducible refine W5.o ?_; constructor) | ((with_reducible refine W6.o ?_; constructor) <;> intro hB))
  all_goals ((conv => whnf); (try dsimp only); (try simp only [Nat.succ_eq_add_one, Nat.le_eq, castL_self]); (try omega))
  all_goals (try (first | omega | (simp only [lens] <;> omega)))
  all_goals first
   | exact rfl
   | omega
theorem same_at (lR : R.length ≤ 9223372036854775807) (hk : ∀ i, i < R.length → sameK (Sym.rowAt reT R i).1 (Sym.rowAt reT R i).1 = true ∧ sameK (Sym.rowAt reT R i).2.2.2.2 (Sym.rowAt reT R i).2.2.2.2 = true) : PureAt Try.prog 24 [(.agg [.int .i64 er, .int .u64 rv, .int .u64 cm, .bool tk, .lst reT R false, .int .u32 ha, .int .u64 ap, .int .u64 te, .int .i64 ld]), (.agg [.int .i64 er, .int .u64 rv, .int .u64 cm, .bool tk, .lst reT R false, .int .u32 ha, .int .u64 ap, .int .u64 te, .int .i64 ld])] (.bool true) := by
 refine pure_of_loops tabSk_ok (fuel := 4) (d := 5) [⟨4, [(0, 0), (1, 1)], srC er rv cm ha ap te ld tk R 0, .leaf (.exit 0) (srC er rv cm ha ap te ld tk R R.length)⟩] (fun N y hy => by rw [List.mem_singleton.1 hy]; exact sr_l er rv cm ha ap te ld tk R N lR hk) ?_
 repeat' ((conv => whnf); first | (with_reducible first | (refine W1.o ?_; constructor) | rfl | exact castL_self _ _) | ((with_reducible refine V.same_t ?_); exact rfl) | ((with_reducible refine andB_room ?_ ?_ ?_); (· kernel_rfl); (· (first | omega | (simp only [lens] <;> omega)))) | ((with_reducible refine W2.o ?_; constructor); · (first | with_reducible assumption | omega | (simp only [lens] <;> omega))) | ((with_reducible refine W3.o ?_; constructor); · (first | with_reducible assumption | omega | (simp only [lens] <;> omega))) | ((with_reducible refine W4.o ?_; constructor); · (first | (with_reducible first | assumption | exact decide_eq_true rfl | exact sEq_self _) | ((with_reducible refine eqOK_i ?_); kernel_rfl) | (first | (first | (simp only [sEq_self, bEq_self, eq_self, decide_true, Bool.and_true, Bool.and_self]; done))))) | ((with_reducible refine iteB_f ?_ ?_); · (first | (with_reducible first | assumption | exact decide_eq_true rfl | exact sEq_self _) | ((with_reducible refine eqOK_i ?_); kernel_rfl) | (first | (first | (simp only [sEq_self, bEq_self, eq_self, decide_true, Bool.and_true, Bool.and_self]; done))))) | (with_reducible refine CD.wk_au ?_) | (with_reducible refine W5.o ?_; constructor) | ((with_reducible refine W6.o ?_; constructor) <;> intro hB))
 all_goals ((conv => whnf); (try dsimp only); (try simp only [Nat.succ_eq_add_one, Nat.le_eq, castL_self]); (try omega))
 all_goals (try (first | omega | (simp only [lens] <;> omega)))
 all_goals first
  | exact rfl
end
def rpO (v : V) : Option RpT := match v with
 | .agg [.int .i64 er, .int .u64 rv, .int .u64 cm, .bool tk, r, .int .u32 ha, .int .u64 ap, .int .u64 te, .int .i64 ld] => (match ofLst reT r with
   | some R => some (er, rv, cm, tk, R, ha, ap, te, ld)
   | none => none)
 | _ => none
theorem rpO_rel {v : V} {q : RpT} (h : rpO v = some q) (ρ : Env) : ∀ X, VRel ρ v X → VRel ρ (rpG q) X := by
 unfold rpO at h
 split at h
 ·split at h
  ·rename_i h1
   cases h
   exact agg_of (LRel.cons_of (fun _ h => h) (LRel.cons_of (fun _ h => h) (LRel.cons_of (fun _ h => h) (LRel.cons_of (fun _ h => h) (LRel.cons_of (fun _ h => ofLst_rel h1 h) fun _ h => h)))))
  ·cases h
 ·cases h
open Classical in
def sameP : RpT → RpT → Bool := hide fun p q => decide (p = q ∧ p.2.2.2.2.1.length ≤ 9223372036854775807 ∧ ∀ i, i < p.2.2.2.2.1.length → sameK (Sym.rowAt reT p.2.2.2.2.1 i).1 (Sym.rowAt reT p.2.2.2.2.1 i).1 = true ∧ sameK (Sym.rowAt reT p.2.2.2.2.1 i).2.2.2.2 (Sym.rowAt reT p.2.2.2.2.1 i).2.2.2.2 = true)
open Classical in
theorem sameP_iff (p q : RpT) : sameP p q = true ↔ (p = q ∧ p.2.2.2.2.1.length ≤ 9223372036854775807 ∧ ∀ i, i < p.2.2.2.2.1.length → sameK (Sym.rowAt reT p.2.2.2.2.1 i).1 (Sym.rowAt reT p.2.2.2.2.1 i).1 = true ∧ sameK (Sym.rowAt reT p.2.2.2.2.1 i).2.2.2.2 (Sym.rowAt reT p.2.2.2.2.1 i).2.2.2.2 = true) := by unfold sameP; rw [hide_eq]; exact ⟨fun h => of_decide_eq_true h, fun h => decide_eq_true h⟩
def spF (args : List V) : Option (List Bool × V) := match args with
 | [x, y] => (match rpO x, rpO y with
   | some p, some q => some ([sameP p q], .bool true)
   | _, _ => none)
 | _ => none
theorem spF_ok (args : List V) (c : List Bool) (v : V) (h : spF args = some (c, v)) (hc : allB c) : PureAt Try.prog 24 args v := by
 unfold spF at h
 split at h
 ·split at h
  ·rename_i x y p q h1 h2
   cases h
   obtain ⟨rfl, l1, l2⟩ := (sameP_iff p q).1 hc.1
   exact (same_at p.1 p.2.1 p.2.2.1 p.2.2.2.2.2.1 p.2.2.2.2.2.2.1 p.2.2.2.2.2.2.2.1 p.2.2.2.2.2.2.2.2 p.2.2.2.1 p.2.2.2.2.1 l1 l2).weak fun φ X hX => LRel.cons_of (rpO_rel h1 _) (LRel.cons_of (rpO_rel h2 _) fun _ h => h) X hX
  ·cases h
 ·cases h
theorem sameQ_W {p : RqT} (wC : cmW p.2.2.2.2.1 = true) (wA : opW p.2.2.2.2.2.1 = true) (wB : opW p.2.2.2.2.2.2.1 = true) : sameQ p p = true :=
 (sameQ_iff p p).2 ⟨rfl, Nat.le_trans ((cmW_iff _).1 wC).1 (by decide), Nat.le_trans ((opW_iff _).1 wA).1 (by decide), Nat.le_trans ((opW_iff _).1 wB).1 (by decide)⟩
theorem sameP_W {p : RpT} (wR : reW p.2.2.2.2.1 = true) : sameP p p = true :=
 (sameP_iff p p).2 ⟨rfl, Nat.le_trans ((reW_iff _).1 wR).1 (by decide), fun i hi => ⟨sameK_of (Nat.le_trans ((kvW_iff _).1 (((reW_iff _).1 wR).2 i hi).1).1 (by decide)), sameK_of (Nat.le_trans ((kvW_iff _).1 (((reW_iff _).1 wR).2 i hi).2).1 (by decide))⟩⟩
end Go.Proofs.Ytaloolcabmfjbaa
end

noncomputable section
namespace Go.Proofs.Ytaloolcabmfjbaa
open Go.Sym
set_option maxRecDepth 100000
set_option maxHeartbeats 4000000
def d2vF (args : List V) : Option (List Bool × V) := match args with
 | [.str s] => some ([decide (s.size ≤ 100000)], .tup [rqG (d2V s), .int .i64 (d2E s)])
 | _ => none
theorem d2vF_ok (args : List V) (c : List Bool) (v : V) (h : d2vF args = some (c, v)) (hc : allB c) : PureAt Try.prog 20 args v := by
 unfold d2vF at h
 split at h
 ·cases h; exact rdecReq_at _ (of_decide_eq_true hc.1)
 ·cases h
def d3vF (args : List V) : Option (List Bool × V) := match args with
 | [.str s] => some ([decide (s.size ≤ 100000)], .tup [rpG (d3V s), .int .i64 (d3E s)])
 | _ => none
theorem d3vF_ok (args : List V) (c : List Bool) (v : V) (h : d3vF args = some (c, v)) (hc : allB c) : PureAt Try.prog 22 args v := by
 unfold d3vF at h
 split at h
 ·cases h; exact rdecResp_at _ (of_decide_eq_true hc.1)
 ·cases h
def tabRds : Tab := oneTab 19 dqF (oneTab 21 dpF (oneTab 20 d2vF (oneTab 22 d3vF (oneTab 23 sqF (oneTab 24 spF (oneTab 15 worksF noTab))))))
theorem tabRds_ok : TabOK Try.prog tabRds := oneTab_ok dqF_ok (oneTab_ok dpF_ok (oneTab_ok d2vF_ok (oneTab_ok d3vF_ok (oneTab_ok sqF_ok (oneTab_ok spF_ok (oneTab_ok worksF_ok noTab_ok))))))
theorem codecReads_at (s : ByteArray) (hs : s.size ≤ 9223372036854775807) : PureAt Try.prog 5 [.str s] (.bool true) := by
 obtain ⟨t, et⟩ : ∃ t, (cutS s 0 (Int.toNat (min (s.size : Int) 3000))) = t := ⟨_, rfl⟩
 have ht : t.size ≤ 3000 := by rw [← et, cutS_size]; omega
 obtain ⟨wC, wA, wB, _⟩ := dq_facts (t := t) (by omega)
 obtain ⟨wR, _⟩ := dp_facts (t := t) (by omega)
 obtain ⟨a1, a2⟩ := d2_one (s := t) (by omega)
 obtain ⟨b1, b2⟩ := d3_one (s := t) (by omega)
 have s1 : sameQ (dqV t) (d2V t) = true := by rw [a1]; exact sameQ_W wC wA wB
 have s2 : sameP (dpV t) (d3V t) = true := by rw [b1]; exact sameP_W wR
 subst et
 refine pure_of_W0 (tab := tabRds) (fuel := 4) (d := 6) tabRds_ok ?_
 repeat' ((conv => whnf); first | (with_reducible first | (refine W1.o ?_; constructor) | rfl | exact castL_self _ _) | ((with_reducible refine V.same_t ?_); exact rfl) | ((with_reducible refine andB_room ?_ ?_ ?_); (· kernel_rfl); (· (first | omega | (simp only [lens] <;> omega)))) | ((with_reducible refine W2.o ?_; constructor); · (first | with_reducible assumption | omega | (simp only [lens] <;> omega))) | ((with_reducible refine W3.o ?_; constructor); · (first | with_reducible assumption | omega | (simp only [lens] <;> omega))) | ((with_reducible refine W4.o ?_; constructor); · (first | (with_reducible first | assumption | exact decide_eq_true rfl | exact sEq_self _) | ((with_reducible refine eqOK_i ?_); kernel_rfl) | exact s1 | exact s2)) | ((with_reducible refine iteB_f ?_ ?_); · (first | (with_reducible first | assumption | exact decide_eq_true rfl | exact sEq_self _) | ((with_reducible refine eqOK_i ?_); kernel_rfl) | exact s1 | exact s2)) | (with_reducible refine W5.o ?_; constructor) | ((with_reducible refine W6.o ?_; constructor) <;> intro hB))
 all_goals ((conv => whnf); (try dsimp only); (try simp only [Nat.succ_eq_add_one, Nat.le_eq, castL_self]); (try omega))
 all_goals (try (first | omega | (simp only [lens] <;> omega)))
 all_goals first
  | exact rfl
end Go.Proofs.Ytaloolcabmfjbaa
end
