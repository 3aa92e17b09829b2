/-
  Texts of this claim, one behind the other: CdItm CdMay CdSvL CdReL CdAnyL CdEnL CdBkL CdGnL CdDecL. Each says its own conditions.
-/
import Derived.Test.YtaloolcabmfjbaaCdrM7
import Derived.Test.YtaloolcabmfjbaaCdrM6

set_option linter.unusedVariables false
set_option linter.unusedSimpArgs false
set_option linter.unusedSectionVars false
noncomputable section
namespace Go.Proofs.Ytaloolcabmfjbaa
open Go.Sym
set_option maxRecDepth 100000
set_option maxHeartbeats 4000000
abbrev cmT : List Ty := [.str, .int .i64, .int .i64, .int .u64, .str]
abbrev CmQ : Type := rowDen cmT
def cmV : ByteArray → CmQ := hide fun s => (txV s, numV (txR s), numV (numR (txR s)), numV (numR (numR (txR s))), txV (numR (numR (numR (txR s)))))
theorem cmV_eq (s : ByteArray) : cmV s = (txV s, numV (txR s), numV (numR (txR s)), numV (numR (numR (txR s))), txV (numR (numR (numR (txR s))))) := by unfold cmV; rw [hide_eq]
def cmR : ByteArray → ByteArray := hide fun s => txR (numR (numR (numR (txR s))))
theorem cmR_eq (s : ByteArray) : cmR s = txR (numR (numR (numR (txR s)))) := by unfold cmR; rw [hide_eq]
def cmB : ByteArray → Bool → Bool := hide fun s bad => (((((bad || txB s) || numB (txR s)) || numB (numR (txR s))) || numB (numR (numR (txR s)))) || txB (numR (numR (numR (txR s)))))
theorem cmB_eq (s : ByteArray) (bad : Bool) : cmB s bad = (((((bad || txB s) || numB (txR s)) || numB (numR (txR s))) || numB (numR (numR (txR s)))) || txB (numR (numR (numR (txR s))))) := by unfold cmB; rw [hide_eq]
def cmK : ByteArray → Bool := hide fun s => leI (numV (txR s)) 1073741824 && leI (numV (numR (txR s))) 1073741824
theorem cmK_eq (s : ByteArray) : cmK s = (leI (numV (txR s)) 1073741824 && leI (numV (numR (txR s))) 1073741824) := by unfold cmK; rw [hide_eq]
abbrev cmG (r : CmQ) : V := .agg [.str r.1, .int .i64 r.2.1, .int .i64 r.2.2.1, .int .u64 r.2.2.2.1, .str r.2.2.2.2]
theorem cm_ret (s : ByteArray) (bad : Bool) (t : TypeId) (hs : s.size ≤ 1000000) (h : cmK s = true) : HeapAt Try.prog 1 59 [.agg [.ptr 0 0]] (rdO s bad t) (cmG (cmV s)) (rdR (cmR s) (cmB s bad)) 1 := by
 have z1 := txR_size s
 have z2 := numR_size (txR s)
 have y2 := numV_in (txR s)
 have z3 := numR_size (numR (txR s))
 have y3 := numV_in (numR (txR s))
 have z4 := numR_size (numR (numR (txR s)))
 have y4 := numV_in (numR (numR (txR s)))
 have z5 := txR_size (numR (numR (numR (txR s))))
 rw [cmK_eq] at h
 simp only [Bool.and_eq_true, leI_eq, decide_eq_true_eq] at h
 obtain ⟨m0, m1⟩ := h
 have e1 := cmV_eq s
 have e2 := cmR_eq s
 have e3 := cmB_eq s bad
 refine heap_of_H htS_ok noTab_ok (fuel := 4) (d := 6) (N := 1) rfl rfl [] (fun _ _ h => by cases h) ?_
 repeat' ((conv => whnf); first | (with_reducible first | (refine W1.o ?_; constructor) | rfl | exact castL_self _ _) | ((with_reducible refine V.same_t ?_); exact rfl) | ((with_reducible refine andB_room ?_ ?_ ?_); (· kernel_rfl); (· (first | omega | (simp only [lens] <;> omega)))) | ((with_reducible refine W2.o ?_; constructor); · (first | with_reducible assumption | omega | (simp only [lens] <;> omega))) | ((with_reducible refine W3.o ?_; constructor); · (first | with_reducible assumption | omega | (simp only [lens] <;> omega))) | ((with_reducible refine W4.o ?_; constructor); · (first | (with_reducible first | assumption | exact decide_eq_true rfl | exact sEq_self _) | ((with_reducible refine eqOK_i ?_); kernel_rfl))) | ((with_reducible refine iteB_f ?_ ?_); · (first | (with_reducible first | assumption | exact decide_eq_true rfl | exact sEq_self _) | ((with_reducible refine eqOK_i ?_); kernel_rfl))) | (with_reducible refine CD.wk_au ?_) | (with_reducible refine W5.o ?_; constructor) | ((with_reducible refine W6.o ?_; constructor) <;> intro hB))
 all_goals ((conv => whnf); (try dsimp only); (try simp only [Nat.succ_eq_add_one, Nat.le_eq, castL_self]); (try omega))
 all_goals (try (first | omega | (simp only [lens] <;> omega)))
 all_goals first
  | exact rfl
  | exact e2.symm
  | exact e3.symm
  | (rw [e1]; done)
  | (rw [e1]; exact rfl)
theorem cm_pan (s : ByteArray) (bad : Bool) (t : TypeId) (hs : s.size ≤ 1000000) (h : cmK s = false) : HeapX Try.prog 1 59 [.agg [.ptr 0 0]] (rdO s bad t) (.pan wrongV) anyR 1 := by
 have z1 := txR_size s
 have z2 := numR_size (txR s)
 have y2 := numV_in (txR s)
 have z3 := numR_size (numR (txR s))
 have y3 := numV_in (numR (txR s))
 have z4 := numR_size (numR (numR (txR s)))
 have y4 := numV_in (numR (numR (txR s)))
 have z5 := txR_size (numR (numR (numR (txR s))))
 rw [cmK_eq] at h
 simp only [Bool.and_eq_false_iff, leI_eq, decide_eq_false_iff_not] at h
 refine heapP_of_H htS_ok noTab_ok (fuel := 4) (d := 6) (N := 1) rfl rfl [] (fun _ _ h => by cases h) ?_
 repeat' ((conv => whnf); first | (with_reducible first | (refine W1.o ?_; constructor) | rfl | exact castL_self _ _) | ((with_reducible refine V.same_t ?_); exact rfl) | ((with_reducible refine andB_room ?_ ?_ ?_); (· kernel_rfl); (· (first | omega | (simp only [lens] <;> omega)))) | ((with_reducible refine W2.o ?_; constructor); · (first | with_reducible assumption | omega | (simp only [lens] <;> omega))) | ((with_reducible refine W3.o ?_; constructor); · (first | with_reducible assumption | omega | (simp only [lens] <;> omega))) | ((with_reducible refine W4.o ?_; constructor); · (first | (with_reducible first | assumption | exact decide_eq_true rfl | exact sEq_self _) | ((with_reducible refine eqOK_i ?_); kernel_rfl))) | ((with_reducible refine iteB_f ?_ ?_); · (first | (with_reducible first | assumption | exact decide_eq_true rfl | exact sEq_self _) | ((with_reducible refine eqOK_i ?_); kernel_rfl))) | (with_reducible refine CD.wk_au ?_) | (with_reducible refine W5.o ?_; constructor) | ((with_reducible refine W6.o ?_; constructor) <;> intro hB))
 all_goals ((conv => whnf); (try dsimp only); (try simp only [Nat.succ_eq_add_one, Nat.le_eq, castL_self]); (try omega))
 all_goals (try (first | omega | (simp only [lens] <;> omega)))
 all_goals first
  | exact rfl
abbrev opT : List Ty := [.int .i64, .str, .str, .str, .int .u64, .int .i64, .bool, .bool, .bool]
abbrev OpQ : Type := rowDen opT
def opV : ByteArray → OpQ := hide fun s => (numV s, txV (numR s), txV (txR (numR s)), txV (txR (txR (numR s))), numV (txR (txR (txR (numR s)))), numV (numR (txR (txR (txR (numR s))))), decide (numV (numR (numR (txR (txR (txR (numR s)))))) = 1), decide (numV (numR (numR (numR (txR (txR (txR (numR s))))))) = 1), decide (numV (numR (numR (numR (numR (txR (txR (txR (numR s)))))))) = 1))
theorem opV_eq (s : ByteArray) : opV s = (numV s, txV (numR s), txV (txR (numR s)), txV (txR (txR (numR s))), numV (txR (txR (txR (numR s)))), numV (numR (txR (txR (txR (numR s))))), decide (numV (numR (numR (txR (txR (txR (numR s)))))) = 1), decide (numV (numR (numR (numR (txR (txR (txR (numR s))))))) = 1), decide (numV (numR (numR (numR (numR (txR (txR (txR (numR s)))))))) = 1)) := by unfold opV; rw [hide_eq]
def opR : ByteArray → ByteArray := hide fun s => numR (numR (numR (numR (numR (txR (txR (txR (numR s))))))))
theorem opR_eq (s : ByteArray) : opR s = numR (numR (numR (numR (numR (txR (txR (txR (numR s)))))))) := by unfold opR; rw [hide_eq]
def opB : ByteArray → Bool → Bool := hide fun s bad => (((((((((bad || numB s) || txB (numR s)) || txB (txR (numR s))) || txB (txR (txR (numR s)))) || numB (txR (txR (txR (numR s))))) || numB (numR (txR (txR (txR (numR s)))))) || numB (numR (numR (txR (txR (txR (numR s))))))) || numB (numR (numR (numR (txR (txR (txR (numR s)))))))) || numB (numR (numR (numR (numR (txR (txR (txR (numR s)))))))))
theorem opB_eq (s : ByteArray) (bad : Bool) : opB s bad = (((((((((bad || numB s) || txB (numR s)) || txB (txR (numR s))) || txB (txR (txR (numR s)))) || numB (txR (txR (txR (numR s))))) || numB (numR (txR (txR (txR (numR s)))))) || numB (numR (numR (txR (txR (txR (numR s))))))) || numB (numR (numR (numR (txR (txR (txR (numR s)))))))) || numB (numR (numR (numR (numR (txR (txR (txR (numR s))))))))) := by unfold opB; rw [hide_eq]
def opK : ByteArray → Bool := hide fun s => leI (numV s) 1073741824 && leI (numV (numR (txR (txR (txR (numR s)))))) 1073741824 && leI (numV (numR (numR (txR (txR (txR (numR s))))))) 1 && leI (numV (numR (numR (numR (txR (txR (txR (numR s)))))))) 1 && leI (numV (numR (numR (numR (numR (txR (txR (txR (numR s))))))))) 1
theorem opK_eq (s : ByteArray) : opK s = (leI (numV s) 1073741824 && leI (numV (numR (txR (txR (txR (numR s)))))) 1073741824 && leI (numV (numR (numR (txR (txR (txR (numR s))))))) 1 && leI (numV (numR (numR (numR (txR (txR (txR (numR s)))))))) 1 && leI (numV (numR (numR (numR (numR (txR (txR (txR (numR s))))))))) 1) := by unfold opK; rw [hide_eq]
abbrev opG (r : OpQ) : V := .agg [.int .i64 r.1, .str r.2.1, .str r.2.2.1, .str r.2.2.2.1, .int .u64 r.2.2.2.2.1, .int .i64 r.2.2.2.2.2.1, .bool r.2.2.2.2.2.2.1, .bool r.2.2.2.2.2.2.2.1, .bool r.2.2.2.2.2.2.2.2]
theorem op_ret (s : ByteArray) (bad : Bool) (t : TypeId) (hs : s.size ≤ 1000000) (h : opK s = true) : HeapAt Try.prog 1 61 [.agg [.ptr 0 0]] (rdO s bad t) (opG (opV s)) (rdR (opR s) (opB s bad)) 1 := by
 have z1 := numR_size s
 have y1 := numV_in s
 have z2 := txR_size (numR s)
 have z3 := txR_size (txR (numR s))
 have z4 := txR_size (txR (txR (numR s)))
 have z5 := numR_size (txR (txR (txR (numR s))))
 have y5 := numV_in (txR (txR (txR (numR s))))
 have z6 := numR_size (numR (txR (txR (txR (numR s)))))
 have y6 := numV_in (numR (txR (txR (txR (numR s)))))
 have z7 := numR_size (numR (numR (txR (txR (txR (numR s))))))
 have y7 := numV_in (numR (numR (txR (txR (txR (numR s))))))
 have z8 := numR_size (numR (numR (numR (txR (txR (txR (numR s)))))))
 have y8 := numV_in (numR (numR (numR (txR (txR (txR (numR s)))))))
 have z9 := numR_size (numR (numR (numR (numR (txR (txR (txR (numR s))))))))
 have y9 := numV_in (numR (numR (numR (numR (txR (txR (txR (numR s))))))))
 rw [opK_eq] at h
 simp only [Bool.and_eq_true, leI_eq, decide_eq_true_eq] at h
 obtain ⟨⟨⟨⟨m0, m1⟩, m2⟩, m3⟩, m4⟩ := h
 have e1 := opV_eq s
 have e2 := opR_eq s
 have e3 := opB_eq s bad
 refine heap_of_H htS_ok noTab_ok (fuel := 4) (d := 6) (N := 1) rfl rfl [] (fun _ _ h => by cases h) ?_
 repeat' ((conv => whnf); first | (with_reducible first | (refine W1.o ?_; constructor) | rfl | exact castL_self _ _) | ((with_reducible refine V.same_t ?_); exact rfl) | ((with_reducible refine andB_room ?_ ?_ ?_); (· kernel_rfl); (· (first | omega | (simp only [lens] <;> omega)))) | ((with_reducible refine W2.o ?_; constructor); · (first | with_reducible assumption | omega | (simp only [lens] <;> omega))) | ((with_reducible refine W3.o ?_; constructor); · (first | with_reducible assumption | omega | (simp only [lens] <;> omega))) | ((with_reducible refine W4.o ?_; constructor); · (first | (with_reducible first | assumption | exact decide_eq_true rfl | exact sEq_self _) | ((with_reducible refine eqOK_i ?_); kernel_rfl))) | ((with_reducible refine iteB_f ?_ ?_); · (first | (with_reducible first | assumption | exact decide_eq_true rfl | exact sEq_self _) | ((with_reducible refine eqOK_i ?_); kernel_rfl))) | (with_reducible refine CD.wk_au ?_) | (with_reducible refine W5.o ?_; constructor) | ((with_reducible refine W6.o ?_; constructor) <;> intro hB))
 all_goals ((conv => whnf); (try dsimp only); (try simp only [Nat.succ_eq_add_one, Nat.le_eq, castL_self]); (try omega))
 all_goals (try (first | omega | (simp only [lens] <;> omega)))
 all_goals first
  | exact rfl
  | exact e2.symm
  | exact e3.symm
  | (rw [e1]; done)
  | (rw [e1]; exact rfl)
theorem op_pan (s : ByteArray) (bad : Bool) (t : TypeId) (hs : s.size ≤ 1000000) (h : opK s = false) : HeapX Try.prog 1 61 [.agg [.ptr 0 0]] (rdO s bad t) (.pan wrongV) anyR 1 := by
 have z1 := numR_size s
 have y1 := numV_in s
 have z2 := txR_size (numR s)
 have z3 := txR_size (txR (numR s))
 have z4 := txR_size (txR (txR (numR s)))
 have z5 := numR_size (txR (txR (txR (numR s))))
 have y5 := numV_in (txR (txR (txR (numR s))))
 have z6 := numR_size (numR (txR (txR (txR (numR s)))))
 have y6 := numV_in (numR (txR (txR (txR (numR s)))))
 have z7 := numR_size (numR (numR (txR (txR (txR (numR s))))))
 have y7 := numV_in (numR (numR (txR (txR (txR (numR s))))))
 have z8 := numR_size (numR (numR (numR (txR (txR (txR (numR s)))))))
 have y8 := numV_in (numR (numR (numR (txR (txR (txR (numR s)))))))
 have z9 := numR_size (numR (numR (numR (numR (txR (txR (txR (numR s))))))))
 have y9 := numV_in (numR (numR (numR (numR (txR (txR (txR (numR s))))))))
 rw [opK_eq] at h
 simp only [Bool.and_eq_false_iff, leI_eq, decide_eq_false_iff_not] at h
 refine heapP_of_H htS_ok noTab_ok (fuel := 4) (d := 6) (N := 1) rfl rfl [] (fun _ _ h => by cases h) ?_
 repeat' ((conv => whnf); first | (with_reducible first | (refine W1.o ?_; constructor) | rfl | exact castL_self _ _) | ((with_reducible refine V.same_t ?_); exact rfl) | ((with_reducible refine andB_room ?_ ?_ ?_); (· kernel_rfl); (· (first | omega | (simp only [lens] <;> omega)))) | ((with_reducible refine W2.o ?_; constructor); · (first | with_reducible assumption | omega | (simp only [lens] <;> omega))) | ((with_reducible refine W3.o ?_; constructor); · (first | with_reducible assumption | omega | (simp only [lens] <;> omega))) | ((with_reducible refine W4.o ?_; constructor); · (first | (with_reducible first | assumption | exact decide_eq_true rfl | exact sEq_self _) | ((with_reducible refine eqOK_i ?_); kernel_rfl))) | ((with_reducible refine iteB_f ?_ ?_); · (first | (with_reducible first | assumption | exact decide_eq_true rfl | exact sEq_self _) | ((with_reducible refine eqOK_i ?_); kernel_rfl))) | (with_reducible refine CD.wk_au ?_) | (with_reducible refine W5.o ?_; constructor) | ((with_reducible refine W6.o ?_; constructor) <;> intro hB))
 all_goals ((conv => whnf); (try dsimp only); (try simp only [Nat.succ_eq_add_one, Nat.le_eq, castL_self]); (try omega))
 all_goals (try (first | omega | (simp only [lens] <;> omega)))
 all_goals first
  | exact rfl
abbrev kvT : List Ty := [.str, .str, .int .u64, .int .u64, .int .u64]
abbrev KvQ : Type := rowDen kvT
def kvV : ByteArray → KvQ := hide fun s => (txV s, txV (txR s), numV (txR (txR s)), numV (numR (txR (txR s))), numV (numR (numR (txR (txR s)))))
theorem kvV_eq (s : ByteArray) : kvV s = (txV s, txV (txR s), numV (txR (txR s)), numV (numR (txR (txR s))), numV (numR (numR (txR (txR s))))) := by unfold kvV; rw [hide_eq]
def kvR : ByteArray → ByteArray := hide fun s => numR (numR (numR (txR (txR s))))
theorem kvR_eq (s : ByteArray) : kvR s = numR (numR (numR (txR (txR s)))) := by unfold kvR; rw [hide_eq]
def kvB : ByteArray → Bool → Bool := hide fun s bad => (((((bad || txB s) || txB (txR s)) || numB (txR (txR s))) || numB (numR (txR (txR s)))) || numB (numR (numR (txR (txR s)))))
theorem kvB_eq (s : ByteArray) (bad : Bool) : kvB s bad = (((((bad || txB s) || txB (txR s)) || numB (txR (txR s))) || numB (numR (txR (txR s)))) || numB (numR (numR (txR (txR s))))) := by unfold kvB; rw [hide_eq]
def kvK : ByteArray → Bool := hide fun s => true
theorem kvK_eq (s : ByteArray) : kvK s = (true) := by unfold kvK; rw [hide_eq]
abbrev kvG (r : KvQ) : V := .agg [.str r.1, .str r.2.1, .int .u64 r.2.2.1, .int .u64 r.2.2.2.1, .int .u64 r.2.2.2.2]
theorem kv_ret (s : ByteArray) (bad : Bool) (t : TypeId) (hs : s.size ≤ 1000000) (h : kvK s = true) : HeapAt Try.prog 1 95 [.agg [.ptr 0 0]] (rdO s bad t) (kvG (kvV s)) (rdR (kvR s) (kvB s bad)) 1 := by
 have z1 := txR_size s
 have z2 := txR_size (txR s)
 have z3 := numR_size (txR (txR s))
 have y3 := numV_in (txR (txR s))
 have z4 := numR_size (numR (txR (txR s)))
 have y4 := numV_in (numR (txR (txR s)))
 have z5 := numR_size (numR (numR (txR (txR s))))
 have y5 := numV_in (numR (numR (txR (txR s))))
 have e1 := kvV_eq s
 have e2 := kvR_eq s
 have e3 := kvB_eq s bad
 refine heap_of_H htS_ok noTab_ok (fuel := 4) (d := 6) (N := 1) rfl rfl [] (fun _ _ h => by cases h) ?_
 repeat' ((conv => whnf); first | (with_reducible first | (refine W1.o ?_; constructor) | rfl | exact castL_self _ _) | ((with_reducible refine V.same_t ?_); exact rfl) | ((with_reducible refine andB_room ?_ ?_ ?_); (· kernel_rfl); (· (first | omega | (simp only [lens] <;> omega)))) | ((with_reducible refine W2.o ?_; constructor); · (first | with_reducible assumption | omega | (simp only [lens] <;> omega))) | ((with_reducible refine W3.o ?_; constructor); · (first | with_reducible assumption | omega | (simp only [lens] <;> omega))) | ((with_reducible refine W4.o ?_; constructor); · (first | (with_reducible first | assumption | exact decide_eq_true rfl | exact sEq_self _) | ((with_reducible refine eqOK_i ?_); kernel_rfl))) | ((with_reducible refine iteB_f ?_ ?_); · (first | (with_reducible first | assumption | exact decide_eq_true rfl | exact sEq_self _) | ((with_reducible refine eqOK_i ?_); kernel_rfl))) | (with_reducible refine CD.wk_au ?_) | (with_reducible refine W5.o ?_; constructor) | ((with_reducible refine W6.o ?_; constructor) <;> intro hB))
 all_goals ((conv => whnf); (try dsimp only); (try simp only [Nat.succ_eq_add_one, Nat.le_eq, castL_self]); (try omega))
 all_goals (try (first | omega | (simp only [lens] <;> omega)))
 all_goals first
  | exact rfl
  | exact e2.symm
  | exact e3.symm
  | (rw [e1]; done)
  | (rw [e1]; exact rfl)
theorem kv_pan (s : ByteArray) (bad : Bool) (t : TypeId) (hs : s.size ≤ 1000000) (h : kvK s = false) : HeapX Try.prog 1 95 [.agg [.ptr 0 0]] (rdO s bad t) (.pan wrongV) anyR 1 := by
 rw [kvK_eq] at h; cases h
def htI : HTab := oneXT 59 1 false (rdXF (fun s _ => cmK s) (fun s _ => cmG (cmV s)) cmR cmB) (oneXT 61 1 false (rdXF (fun s _ => opK s) (fun s _ => opG (opV s)) opR opB) (oneXT 95 1 false (rdXF (fun s _ => kvK s) (fun s _ => kvG (kvV s)) kvR kvB) (htS)))
theorem htI_ok : HTabOK Try.prog htI := oneXT_ok (rdXF_ok (fun s bad t hs h => cm_ret s bad t hs h) fun s bad t hs h => cm_pan s bad t hs h) (oneXT_ok (rdXF_ok (fun s bad t hs h => op_ret s bad t hs h) fun s bad t hs h => op_pan s bad t hs h) (oneXT_ok (rdXF_ok (fun s bad t hs h => kv_ret s bad t hs h) fun s bad t hs h => kv_pan s bad t hs h) (htS_ok)))
end Go.Proofs.Ytaloolcabmfjbaa
end

noncomputable section
namespace Go.Proofs.Ytaloolcabmfjbaa
open Go.Sym
set_option maxRecDepth 100000
set_option maxHeartbeats 4000000
theorem size0 {x : ByteArray} : x.size = 0 ↔ x = ⟨#[]⟩ := ⟨fun h => ba_ext (show x.data.toList = [] from List.length_eq_zero_iff.1 (by rw [Array.length_toList]; exact h)), fun h => by rw [h]; rfl⟩
theorem sEq_d {x : ByteArray} : sEq x ⟨#[]⟩ = decide (x.size = 0) := decide_eq_decide.2 size0.symm
def mayO : OpQ → Bool := hide fun r => decide ((0 ≤ r.1 ∧ r.1 ≤ 2) ∧ (1 ≤ r.2.1.size ∧ r.2.1.size ≤ 16) ∧ r.2.2.1.size ≤ 16 ∧ ((r.1 = 0 ∧ r.2.2.2.1.size = 0 ∧ r.2.2.2.2.2.2.2.2 = false ∧ r.2.2.2.2.1 ≤ 1099511627776 ∧ 0 ≤ r.2.2.2.2.2.1 ∧ r.2.2.2.2.2.1 ≤ 1000) ∨ (r.2.2.2.2.1 = 0 ∧ r.2.2.2.2.2.1 = 0 ∧ r.2.2.2.2.2.2.1 = false ∧ r.2.2.2.2.2.2.2.1 = false ∧ r.2.2.2.1.size ≤ 32 ∧ (r.1 = 1 ∧ r.2.2.1.size = 0 ∨ r.1 = 2 ∧ r.2.2.2.1.size = 0))))
theorem mayO_eq (k : Int) (key en val : ByteArray) (rev lim : Int) (cnt ks pv : Bool) : mayO (k, key, en, val, rev, lim, cnt, ks, pv) = decide ((0 ≤ k ∧ k ≤ 2) ∧ (1 ≤ key.size ∧ key.size ≤ 16) ∧ en.size ≤ 16 ∧ ((k = 0 ∧ val.size = 0 ∧ pv = false ∧ rev ≤ 1099511627776 ∧ 0 ≤ lim ∧ lim ≤ 1000) ∨ (rev = 0 ∧ lim = 0 ∧ cnt = false ∧ ks = false ∧ val.size ≤ 32 ∧ (k = 1 ∧ en.size = 0 ∨ k = 2 ∧ val.size = 0)))) := by unfold mayO; rw [hide_eq]
def mayC : CmQ → Bool := hide fun r => decide ((1 ≤ r.1.size ∧ r.1.size ≤ 16) ∧ (0 ≤ r.2.1 ∧ r.2.1 ≤ 3) ∧ (0 ≤ r.2.2.1 ∧ r.2.2.1 ≤ 3) ∧ ((¬ r.2.1 = 3 ∧ r.2.2.2.2.size = 0) ∨ (r.2.1 = 3 ∧ r.2.2.2.1 = 0 ∧ r.2.2.2.2.size ≤ 32)))
theorem mayC_eq (key : ByteArray) (w h n : Int) (val : ByteArray) : mayC (key, w, h, n, val) = decide ((1 ≤ key.size ∧ key.size ≤ 16) ∧ (0 ≤ w ∧ w ≤ 3) ∧ (0 ≤ h ∧ h ≤ 3) ∧ ((¬ w = 3 ∧ val.size = 0) ∨ (w = 3 ∧ n = 0 ∧ val.size ≤ 32))) := by unfold mayC; rw [hide_eq]
def chgO : OpQ → Bool := hide fun r => decide (r.1 = 1 ∨ r.1 = 2)
theorem chgO_eq (r : OpQ) : chgO r = decide (r.1 = 1 ∨ r.1 = 2) := by unfold chgO; rw [hide_eq]
theorem chg_at (k : Int) (key en val : ByteArray) (rev lim : Int) (cnt ks pv : Bool) : PureAt Try.prog 42 [opG (k, key, en, val, rev, lim, cnt, ks, pv)] (.bool (chgO (k, key, en, val, rev, lim, cnt, ks, pv))) := by
 have e : chgO (k, key, en, val, rev, lim, cnt, ks, pv) = decide (k = 1 ∨ k = 2) := chgO_eq _
 refine pure_of_W0 (tab := noTab) (fuel := 4) (d := 4) noTab_ok ?_
 repeat' ((conv => whnf); first | (with_reducible first | (refine W1.o ?_; constructor) | rfl | exact castL_self _ _) | ((with_reducible refine V.same_t ?_); exact rfl) | ((with_reducible refine andB_room ?_ ?_ ?_); (· kernel_rfl); (· (first | omega | (simp only [lens] <;> omega)))) | ((with_reducible refine W2.o ?_; constructor); · (first | with_reducible assumption | omega | (simp only [lens] <;> omega))) | ((with_reducible refine W3.o ?_; constructor); · (first | with_reducible assumption | omega | (simp only [lens] <;> omega))) | ((with_reducible refine W4.o ?_; constructor); · (first | (with_reducible first | assumption | exact decide_eq_true rfl | exact sEq_self _) | ((with_reducible refine eqOK_i ?_); kernel_rfl))) | ((with_reducible refine iteB_f ?_ ?_); · (first | (with_reducible first | assumption | exact decide_eq_true rfl | exact sEq_self _) | ((with_reducible refine eqOK_i ?_); kernel_rfl))) | (with_reducible refine W5.o ?_; constructor) | ((with_reducible refine W6.o ?_; constructor) <;> intro hB))
 all_goals ((conv => whnf); (try dsimp only); (try simp only [Nat.succ_eq_add_one, Nat.le_eq, castL_self]); (try omega))
 all_goals (try (first | omega | (simp only [lens] <;> omega)))
 all_goals (rw [e])
 all_goals refine congrArg V.bool ?_
 all_goals (try simp only [cond_true, cond_false, leI_eq, ltI_eq, Bool.not_true, Bool.not_false, Bool.not_eq_true', sEq_d, decide_eq_true_eq, decide_eq_false_iff_not] at *)
 all_goals first
  | ((refine (decide_eq_true ?_).symm); (try cases pv) <;> (try cases cnt) <;> (try cases ks) <;> (try simp only [reduceCtorEq, true_and, and_true, false_and, and_false, false_or, or_false, not_true_eq_false, not_false_eq_true] at *) <;> omega)
  | ((refine (decide_eq_false ?_).symm); (try cases pv) <;> (try cases cnt) <;> (try cases ks) <;> (try simp only [reduceCtorEq, true_and, and_true, false_and, and_false, false_or, or_false, not_true_eq_false, not_false_eq_true] at *) <;> omega)
  | ((refine decide_eq_decide.2 ?_); (try cases pv) <;> (try cases cnt) <;> (try cases ks) <;> (try simp only [reduceCtorEq, true_and, and_true, false_and, and_false, false_or, or_false, not_true_eq_false, not_false_eq_true] at *) <;> omega)
theorem mayO_at (k : Int) (key en val : ByteArray) (rev lim : Int) (cnt ks pv : Bool) (hr : 0 ≤ rev) (z1 : key.size ≤ 1000000000) (z2 : en.size ≤ 1000000000) (z3 : val.size ≤ 1000000000) : PureAt Try.prog 80 [opG (k, key, en, val, rev, lim, cnt, ks, pv)] (.bool (mayO (k, key, en, val, rev, lim, cnt, ks, pv))) := by
 refine pure_of_W0 (tab := noTab) (fuel := 4) (d := 4) noTab_ok ?_
 repeat' ((conv => whnf); first | (with_reducible first | (refine W1.o ?_; constructor) | rfl | exact castL_self _ _) | ((with_reducible refine V.same_t ?_); exact rfl) | ((with_reducible refine andB_room ?_ ?_ ?_); (· kernel_rfl); (· (first | omega | (simp only [lens] <;> omega)))) | ((with_reducible refine W2.o ?_; constructor); · (first | with_reducible assumption | omega | (simp only [lens] <;> omega))) | ((with_reducible refine W3.o ?_; constructor); · (first | with_reducible assumption | omega | (simp only [lens] <;> omega))) | ((with_reducible refine W4.o ?_; constructor); · (first | (with_reducible first | assumption | exact decide_eq_true rfl | exact sEq_self _) | ((with_reducible refine eqOK_i ?_); kernel_rfl))) | ((with_reducible refine iteB_f ?_ ?_); · (first | (with_reducible first | assumption | exact decide_eq_true rfl | exact sEq_self _) | ((with_reducible refine eqOK_i ?_); kernel_rfl))) | (with_reducible refine W5.o ?_; constructor) | ((with_reducible refine W6.o ?_; constructor) <;> intro hB))
 all_goals ((conv => whnf); (try dsimp only); (try simp only [Nat.succ_eq_add_one, Nat.le_eq, castL_self]); (try omega))
 all_goals (try (first | omega | (simp only [lens] <;> omega)))
 all_goals rw [mayO_eq]
 all_goals refine congrArg V.bool ?_
 all_goals (try simp only [cond_true, cond_false, leI_eq, ltI_eq, Bool.not_true, Bool.not_false, Bool.not_eq_true', sEq_d, decide_eq_true_eq, decide_eq_false_iff_not] at *)
 all_goals first
  | ((refine (decide_eq_true ?_).symm); (try cases pv) <;> (try cases cnt) <;> (try cases ks) <;> (try simp only [reduceCtorEq, true_and, and_true, false_and, and_false, false_or, or_false, not_true_eq_false, not_false_eq_true] at *) <;> omega)
  | ((refine (decide_eq_false ?_).symm); (try cases pv) <;> (try cases cnt) <;> (try cases ks) <;> (try simp only [reduceCtorEq, true_and, and_true, false_and, and_false, false_or, or_false, not_true_eq_false, not_false_eq_true] at *) <;> omega)
  | ((refine decide_eq_decide.2 ?_); (try cases pv) <;> (try cases cnt) <;> (try cases ks) <;> (try simp only [reduceCtorEq, true_and, and_true, false_and, and_false, false_or, or_false, not_true_eq_false, not_false_eq_true] at *) <;> omega)
theorem rmayO_at (k : Int) (key en val : ByteArray) (rev lim : Int) (cnt ks pv : Bool) (hr : 0 ≤ rev) (z1 : key.size ≤ 1000000000) (z2 : en.size ≤ 1000000000) (z3 : val.size ≤ 1000000000) : PureAt Try.prog 83 [opG (k, key, en, val, rev, lim, cnt, ks, pv)] (.bool (mayO (k, key, en, val, rev, lim, cnt, ks, pv))) := by
 refine pure_of_W0 (tab := noTab) (fuel := 4) (d := 4) noTab_ok ?_
 repeat' ((conv => whnf); first | (with_reducible first | (refine W1.o ?_; constructor) | rfl | exact castL_self _ _) | ((with_reducible refine V.same_t ?_); exact rfl) | ((with_reducible refine andB_room ?_ ?_ ?_); (· kernel_rfl); (· (first | omega | (simp only [lens] <;> omega)))) | ((with_reducible refine W2.o ?_; constructor); · (first | with_reducible assumption | omega | (simp only [lens] <;> omega))) | ((with_reducible refine W3.o ?_; constructor); · (first | with_reducible assumption | omega | (simp only [lens] <;> omega))) | ((with_reducible refine W4.o ?_; constructor); · (first | (with_reducible first | assumption | exact decide_eq_true rfl | exact sEq_self _) | ((with_reducible refine eqOK_i ?_); kernel_rfl))) | ((with_reducible refine iteB_f ?_ ?_); · (first | (with_reducible first | assumption | exact decide_eq_true rfl | exact sEq_self _) | ((with_reducible refine eqOK_i ?_); kernel_rfl))) | (with_reducible refine W5.o ?_; constructor) | ((with_reducible refine W6.o ?_; constructor) <;> intro hB))
 all_goals ((conv => whnf); (try dsimp only); (try simp only [Nat.succ_eq_add_one, Nat.le_eq, castL_self]); (try omega))
 all_goals (try (first | omega | (simp only [lens] <;> omega)))
 all_goals rw [mayO_eq]
 all_goals refine congrArg V.bool ?_
 all_goals (try simp only [cond_true, cond_false, leI_eq, ltI_eq, Bool.not_true, Bool.not_false, Bool.not_eq_true', sEq_d, decide_eq_true_eq, decide_eq_false_iff_not] at *)
 all_goals first
  | ((refine (decide_eq_true ?_).symm); (try cases pv) <;> (try cases cnt) <;> (try cases ks) <;> (try simp only [reduceCtorEq, true_and, and_true, false_and, and_false, false_or, or_false, not_true_eq_false, not_false_eq_true] at *) <;> omega)
  | ((refine (decide_eq_false ?_).symm); (try cases pv) <;> (try cases cnt) <;> (try cases ks) <;> (try simp only [reduceCtorEq, true_and, and_true, false_and, and_false, false_or, or_false, not_true_eq_false, not_false_eq_true] at *) <;> omega)
  | ((refine decide_eq_decide.2 ?_); (try cases pv) <;> (try cases cnt) <;> (try cases ks) <;> (try simp only [reduceCtorEq, true_and, and_true, false_and, and_false, false_or, or_false, not_true_eq_false, not_false_eq_true] at *) <;> omega)
theorem mayC_at (key : ByteArray) (w h n : Int) (val : ByteArray) (hn : 0 ≤ n) (z1 : key.size ≤ 1000000000) (z3 : val.size ≤ 1000000000) : PureAt Try.prog 104 [cmG (key, w, h, n, val)] (.bool (mayC (key, w, h, n, val))) := by
 refine pure_of_W0 (tab := noTab) (fuel := 4) (d := 4) noTab_ok ?_
 repeat' ((conv => whnf); first | (with_reducible first | (refine W1.o ?_; constructor) | rfl | exact castL_self _ _) | ((with_reducible refine V.same_t ?_); exact rfl) | ((with_reducible refine andB_room ?_ ?_ ?_); (· kernel_rfl); (· (first | omega | (simp only [lens] <;> omega)))) | ((with_reducible refine W2.o ?_; constructor); · (first | with_reducible assumption | omega | (simp only [lens] <;> omega))) | ((with_reducible refine W3.o ?_; constructor); · (first | with_reducible assumption | omega | (simp only [lens] <;> omega))) | ((with_reducible refine W4.o ?_; constructor); · (first | (with_reducible first | assumption | exact decide_eq_true rfl | exact sEq_self _) | ((with_reducible refine eqOK_i ?_); kernel_rfl))) | ((with_reducible refine iteB_f ?_ ?_); · (first | (with_reducible first | assumption | exact decide_eq_true rfl | exact sEq_self _) | ((with_reducible refine eqOK_i ?_); kernel_rfl))) | (with_reducible refine W5.o ?_; constructor) | ((with_reducible refine W6.o ?_; constructor) <;> intro hB))
 all_goals ((conv => whnf); (try dsimp only); (try simp only [Nat.succ_eq_add_one, Nat.le_eq, castL_self]); (try omega))
 all_goals (try (first | omega | (simp only [lens] <;> omega)))
 all_goals rw [mayC_eq]
 all_goals refine congrArg V.bool ?_
 all_goals (try simp only [cond_true, cond_false, leI_eq, ltI_eq, Bool.not_true, Bool.not_false, Bool.not_eq_true', sEq_d, decide_eq_true_eq, decide_eq_false_iff_not] at *)
 all_goals first
  | ((refine (decide_eq_true ?_).symm); (try cases pv) <;> (try cases cnt) <;> (try cases ks) <;> (try simp only [reduceCtorEq, true_and, and_true, false_and, and_false, false_or, or_false, not_true_eq_false, not_false_eq_true] at *) <;> omega)
  | ((refine (decide_eq_false ?_).symm); (try cases pv) <;> (try cases cnt) <;> (try cases ks) <;> (try simp only [reduceCtorEq, true_and, and_true, false_and, and_false, false_or, or_false, not_true_eq_false, not_false_eq_true] at *) <;> omega)
  | ((refine decide_eq_decide.2 ?_); (try cases pv) <;> (try cases cnt) <;> (try cases ks) <;> (try simp only [reduceCtorEq, true_and, and_true, false_and, and_false, false_or, or_false, not_true_eq_false, not_false_eq_true] at *) <;> omega)
theorem rmayC_at (key : ByteArray) (w h n : Int) (val : ByteArray) (hn : 0 ≤ n) (z1 : key.size ≤ 1000000000) (z3 : val.size ≤ 1000000000) : PureAt Try.prog 101 [cmG (key, w, h, n, val)] (.bool (mayC (key, w, h, n, val))) := by
 refine pure_of_W0 (tab := noTab) (fuel := 4) (d := 4) noTab_ok ?_
 repeat' ((conv => whnf); first | (with_reducible first | (refine W1.o ?_; constructor) | rfl | exact castL_self _ _) | ((with_reducible refine V.same_t ?_); exact rfl) | ((with_reducible refine andB_room ?_ ?_ ?_); (· kernel_rfl); (· (first | omega | (simp only [lens] <;> omega)))) | ((with_reducible refine W2.o ?_; constructor); · (first | with_reducible assumption | omega | (simp only [lens] <;> omega))) | ((with_reducible refine W3.o ?_; constructor); · (first | with_reducible assumption | omega | (simp only [lens] <;> omega))) | ((with_reducible refine W4.o ?_; constructor); · (first | (with_reducible first | assumption | exact decide_eq_true rfl | exact sEq_self _) | ((with_reducible refine eqOK_i ?_); kernel_rfl))) | ((with_reducible refine iteB_f ?_ ?_); · (first | (with_reducible first | assumption | exact decide_eq_true rfl | exact sEq_self _) | ((with_reducible refine eqOK_i ?_); kernel_rfl))) | (with_reducible refine W5.o ?_; constructor) | ((with_reducible refine W6.o ?_; constructor) <;> intro hB))
 all_goals ((conv => whnf); (try dsimp only); (try simp only [Nat.succ_eq_add_one, Nat.le_eq, castL_self]); (try omega))
 all_goals (try (first | omega | (simp only [lens] <;> omega)))
 all_goals rw [mayC_eq]
 all_goals refine congrArg V.bool ?_
 all_goals (try simp only [cond_true, cond_false, leI_eq, ltI_eq, Bool.not_true, Bool.not_false, Bool.not_eq_true', sEq_d, decide_eq_true_eq, decide_eq_false_iff_not] at *)
 all_goals first
  | ((refine (decide_eq_true ?_).symm); (try cases pv) <;> (try cases cnt) <;> (try cases ks) <;> (try simp only [reduceCtorEq, true_and, and_true, false_and, and_false, false_or, or_false, not_true_eq_false, not_false_eq_true] at *) <;> omega)
  | ((refine (decide_eq_false ?_).symm); (try cases pv) <;> (try cases cnt) <;> (try cases ks) <;> (try simp only [reduceCtorEq, true_and, and_true, false_and, and_false, false_or, or_false, not_true_eq_false, not_false_eq_true] at *) <;> omega)
  | ((refine decide_eq_decide.2 ?_); (try cases pv) <;> (try cases cnt) <;> (try cases ks) <;> (try simp only [reduceCtorEq, true_and, and_true, false_and, and_false, false_or, or_false, not_true_eq_false, not_false_eq_true] at *) <;> omega)
end Go.Proofs.Ytaloolcabmfjbaa
end

noncomputable section
namespace Go.Proofs.Ytaloolcabmfjbaa
open Go.Sym
set_option maxRecDepth 100000
set_option maxHeartbeats 4000000
theorem first_bad {n : Int} {f : Nat → Bool} (h : (List.range n.toNat).all f = false) : ∃ m : Nat, (m : Int) < n ∧ (∀ j, j < m → f j = true) ∧ f m = false := by
 have key : ∀ k : Nat, (List.range k).all f = false → ∃ m : Nat, m < k ∧ (∀ j, j < m → f j = true) ∧ f m = false := by
  intro k
  induction k with
  | zero => intro h; cases h
  | succ k ih =>
   intro h
   rw [List.range_succ, List.all_append, Bool.and_eq_false_iff] at h
   cases hk : (List.range k).all f with
   | false => obtain ⟨m, h1, h2, h3⟩ := ih hk; exact ⟨m, by omega, h2, h3⟩
   | true =>
    rw [hk] at h
    rcases h with h | h
    ·cases h
    ·rw [List.all_eq_true] at hk
     exact ⟨k, Nat.lt_succ_self k, fun j hj => hk j (List.mem_range.2 hj), by simpa using h⟩
 obtain ⟨m, h1, h2, h3⟩ := key _ h
 exact ⟨m, by omega, h2, h3⟩
theorem cmR_less {s : ByteArray} {bad : Bool} (h : cmB s bad = false) : (cmR s).size + 1 ≤ s.size := by
 rw [cmB_eq] at h
 simp only [Bool.or_eq_false_iff] at h
 have h0 : txB s = false := h.1.1.1.1.2
 have z0 := txt_less h0
 have z1 := numR_size (txR s)
 have z2 := numR_size (numR (txR s))
 have z3 := numR_size (numR (numR (txR s)))
 have z4 := txR_size (numR (numR (numR (txR s))))
 rw [cmR_eq]; omega
theorem cmB_bad {s : ByteArray} {bad : Bool} (h : cmB s bad = false) : bad = false := by
 rw [cmB_eq] at h
 simp only [Bool.or_eq_false_iff] at h
 exact h.1.1.1.1.1
theorem cmR_size (s : ByteArray) : (cmR s).size ≤ s.size := by
 have z1 := txR_size s
 have z2 := numR_size (txR s)
 have z3 := numR_size (numR (txR s))
 have z4 := numR_size (numR (numR (txR s)))
 have z5 := txR_size (numR (numR (numR (txR s))))
 rw [cmR_eq]; omega
def cmI0 (s : ByteArray) : Nat → ByteArray
 | 0 => numR s
 | i + 1 => cmR (cmI0 s i)
def cmI : ByteArray → Nat → ByteArray := hide cmI0
theorem cmI_0 (s : ByteArray) : cmI s 0 = numR s := by unfold cmI; rw [hide_eq]; rfl
theorem cmI_succ (s : ByteArray) (i : Nat) : cmI s (i + 1) = cmR (cmI s i) := by unfold cmI; rw [hide_eq]; rfl
def cmN : ByteArray → Nat → List CmQ := hide fun s i => (List.range i).map fun j => cmV (cmI s j)
theorem cmN_eq (s : ByteArray) (i : Nat) : cmN s i = (List.range i).map fun j => cmV (cmI s j) := by unfold cmN; rw [hide_eq]
theorem cmN_0 (s : ByteArray) : cmN s 0 = [] := by rw [cmN_eq]; rfl
theorem cmN_succ (s : ByteArray) (i : Nat) : cmN s (i + 1) = cmN s i ++ [cmV (cmI s i)] := by rw [cmN_eq, cmN_eq, List.range_succ, List.map_append]; rfl
theorem cmN_len (s : ByteArray) (i : Nat) : (cmN s i).length = i := by rw [cmN_eq, List.length_map, List.length_range]
def cmD (s : ByteArray) (b : Bool) (i : Nat) : Bool := cmK (cmI s i) && !cmB (cmI s i) b
def cmS : ByteArray → Bool → Bool := hide fun s bad => leI (numV s) 1073741824 && (List.range (numV s).toNat).all (cmD s (bad || numB s))
theorem cmS_eq (s : ByteArray) (bad : Bool) : cmS s bad = (leI (numV s) 1073741824 && (List.range (numV s).toNat).all (cmD s (bad || numB s))) := by unfold cmS; rw [hide_eq]
def cmL : ByteArray → List CmQ := hide fun s => cmN s (numV s).toNat
theorem cmL_eq (s : ByteArray) : cmL s = cmN s (numV s).toNat := by unfold cmL; rw [hide_eq]
def cmE : ByteArray → ByteArray := hide fun s => cmI s (numV s).toNat
theorem cmE_eq (s : ByteArray) : cmE s = cmI s (numV s).toNat := by unfold cmE; rw [hide_eq]
theorem cmI_size (s : ByteArray) (b : Bool) : ∀ i, (∀ j, j < i → cmD s b j = true) → (cmI s i).size + i ≤ s.size
 | 0, _ => by rw [cmI_0]; exact numR_size s
 | i + 1, h => by
  have ih := cmI_size s b i fun j hj => h j (by omega)
  have hd := h i (Nat.lt_succ_self i)
  unfold cmD at hd
  rw [Bool.and_eq_true, Bool.not_eq_true'] at hd
  have := cmR_less hd.2
  rw [cmI_succ]; omega
theorem cmE_size (s : ByteArray) (bad : Bool) (h : cmS s bad = true) : (cmE s).size ≤ s.size := by
 rw [cmS_eq, Bool.and_eq_true, List.all_eq_true] at h
 have := cmI_size s (bad || numB s) (numV s).toNat fun j hj => h.2 j (List.mem_range.2 hj)
 rw [cmE_eq]; omega
theorem cmS_not (s : ByteArray) (bad : Bool) (h : cmS s bad = false) (hn : numV s ≤ 1073741824) : ∃ m : Nat, (m : Int) < numV s ∧ (∀ j, j < m → cmD s (bad || numB s) j = true) ∧ cmD s (bad || numB s) m = false :=
 first_bad (by
   rw [cmS_eq, Bool.and_eq_false_iff, leI_eq, decide_eq_true hn] at h
   rcases h with h | h
   · cases h
   · exact h)
theorem opR_less {s : ByteArray} {bad : Bool} (h : opB s bad = false) : (opR s).size + 1 ≤ s.size := by
 rw [opB_eq] at h
 simp only [Bool.or_eq_false_iff] at h
 have h0 : numB s = false := h.1.1.1.1.1.1.1.1.2
 have z0 := num_less h0
 have z1 := txR_size (numR s)
 have z2 := txR_size (txR (numR s))
 have z3 := txR_size (txR (txR (numR s)))
 have z4 := numR_size (txR (txR (txR (numR s))))
 have z5 := numR_size (numR (txR (txR (txR (numR s)))))
 have z6 := numR_size (numR (numR (txR (txR (txR (numR s))))))
 have z7 := numR_size (numR (numR (numR (txR (txR (txR (numR s)))))))
 have z8 := numR_size (numR (numR (numR (numR (txR (txR (txR (numR s))))))))
 rw [opR_eq]; omega
theorem opB_bad {s : ByteArray} {bad : Bool} (h : opB s bad = false) : bad = false := by
 rw [opB_eq] at h
 simp only [Bool.or_eq_false_iff] at h
 exact h.1.1.1.1.1.1.1.1.1
theorem opR_size (s : ByteArray) : (opR s).size ≤ s.size := by
 have z1 := numR_size s
 have z2 := txR_size (numR s)
 have z3 := txR_size (txR (numR s))
 have z4 := txR_size (txR (txR (numR s)))
 have z5 := numR_size (txR (txR (txR (numR s))))
 have z6 := numR_size (numR (txR (txR (txR (numR s)))))
 have z7 := numR_size (numR (numR (txR (txR (txR (numR s))))))
 have z8 := numR_size (numR (numR (numR (txR (txR (txR (numR s)))))))
 have z9 := numR_size (numR (numR (numR (numR (txR (txR (txR (numR s))))))))
 rw [opR_eq]; omega
def opI0 (s : ByteArray) : Nat → ByteArray
 | 0 => numR s
 | i + 1 => opR (opI0 s i)
def opI : ByteArray → Nat → ByteArray := hide opI0
theorem opI_0 (s : ByteArray) : opI s 0 = numR s := by unfold opI; rw [hide_eq]; rfl
theorem opI_succ (s : ByteArray) (i : Nat) : opI s (i + 1) = opR (opI s i) := by unfold opI; rw [hide_eq]; rfl
def opN : ByteArray → Nat → List OpQ := hide fun s i => (List.range i).map fun j => opV (opI s j)
theorem opN_eq (s : ByteArray) (i : Nat) : opN s i = (List.range i).map fun j => opV (opI s j) := by unfold opN; rw [hide_eq]
theorem opN_0 (s : ByteArray) : opN s 0 = [] := by rw [opN_eq]; rfl
theorem opN_succ (s : ByteArray) (i : Nat) : opN s (i + 1) = opN s i ++ [opV (opI s i)] := by rw [opN_eq, opN_eq, List.range_succ, List.map_append]; rfl
theorem opN_len (s : ByteArray) (i : Nat) : (opN s i).length = i := by rw [opN_eq, List.length_map, List.length_range]
def opD (s : ByteArray) (b : Bool) (i : Nat) : Bool := opK (opI s i) && !opB (opI s i) b
def opS : ByteArray → Bool → Bool := hide fun s bad => leI (numV s) 1073741824 && (List.range (numV s).toNat).all (opD s (bad || numB s))
theorem opS_eq (s : ByteArray) (bad : Bool) : opS s bad = (leI (numV s) 1073741824 && (List.range (numV s).toNat).all (opD s (bad || numB s))) := by unfold opS; rw [hide_eq]
def opL : ByteArray → List OpQ := hide fun s => opN s (numV s).toNat
theorem opL_eq (s : ByteArray) : opL s = opN s (numV s).toNat := by unfold opL; rw [hide_eq]
def opE : ByteArray → ByteArray := hide fun s => opI s (numV s).toNat
theorem opE_eq (s : ByteArray) : opE s = opI s (numV s).toNat := by unfold opE; rw [hide_eq]
theorem opI_size (s : ByteArray) (b : Bool) : ∀ i, (∀ j, j < i → opD s b j = true) → (opI s i).size + i ≤ s.size
 | 0, _ => by rw [opI_0]; exact numR_size s
 | i + 1, h => by
  have ih := opI_size s b i fun j hj => h j (by omega)
  have hd := h i (Nat.lt_succ_self i)
  unfold opD at hd
  rw [Bool.and_eq_true, Bool.not_eq_true'] at hd
  have := opR_less hd.2
  rw [opI_succ]; omega
theorem opE_size (s : ByteArray) (bad : Bool) (h : opS s bad = true) : (opE s).size ≤ s.size := by
 rw [opS_eq, Bool.and_eq_true, List.all_eq_true] at h
 have := opI_size s (bad || numB s) (numV s).toNat fun j hj => h.2 j (List.mem_range.2 hj)
 rw [opE_eq]; omega
theorem opS_not (s : ByteArray) (bad : Bool) (h : opS s bad = false) (hn : numV s ≤ 1073741824) : ∃ m : Nat, (m : Int) < numV s ∧ (∀ j, j < m → opD s (bad || numB s) j = true) ∧ opD s (bad || numB s) m = false :=
 first_bad (by
   rw [opS_eq, Bool.and_eq_false_iff, leI_eq, decide_eq_true hn] at h
   rcases h with h | h
   · cases h
   · exact h)
theorem kvR_less {s : ByteArray} {bad : Bool} (h : kvB s bad = false) : (kvR s).size + 1 ≤ s.size := by
 rw [kvB_eq] at h
 simp only [Bool.or_eq_false_iff] at h
 have h0 : txB s = false := h.1.1.1.1.2
 have z0 := txt_less h0
 have z1 := txR_size (txR s)
 have z2 := numR_size (txR (txR s))
 have z3 := numR_size (numR (txR (txR s)))
 have z4 := numR_size (numR (numR (txR (txR s))))
 rw [kvR_eq]; omega
theorem kvB_bad {s : ByteArray} {bad : Bool} (h : kvB s bad = false) : bad = false := by
 rw [kvB_eq] at h
 simp only [Bool.or_eq_false_iff] at h
 exact h.1.1.1.1.1
theorem kvR_size (s : ByteArray) : (kvR s).size ≤ s.size := by
 have z1 := txR_size s
 have z2 := txR_size (txR s)
 have z3 := numR_size (txR (txR s))
 have z4 := numR_size (numR (txR (txR s)))
 have z5 := numR_size (numR (numR (txR (txR s))))
 rw [kvR_eq]; omega
def kvI0 (s : ByteArray) : Nat → ByteArray
 | 0 => numR s
 | i + 1 => kvR (kvI0 s i)
def kvI : ByteArray → Nat → ByteArray := hide kvI0
theorem kvI_0 (s : ByteArray) : kvI s 0 = numR s := by unfold kvI; rw [hide_eq]; rfl
theorem kvI_succ (s : ByteArray) (i : Nat) : kvI s (i + 1) = kvR (kvI s i) := by unfold kvI; rw [hide_eq]; rfl
def kvN : ByteArray → Nat → List KvQ := hide fun s i => (List.range i).map fun j => kvV (kvI s j)
theorem kvN_eq (s : ByteArray) (i : Nat) : kvN s i = (List.range i).map fun j => kvV (kvI s j) := by unfold kvN; rw [hide_eq]
theorem kvN_0 (s : ByteArray) : kvN s 0 = [] := by rw [kvN_eq]; rfl
theorem kvN_succ (s : ByteArray) (i : Nat) : kvN s (i + 1) = kvN s i ++ [kvV (kvI s i)] := by rw [kvN_eq, kvN_eq, List.range_succ, List.map_append]; rfl
theorem kvN_len (s : ByteArray) (i : Nat) : (kvN s i).length = i := by rw [kvN_eq, List.length_map, List.length_range]
def kvD (s : ByteArray) (b : Bool) (i : Nat) : Bool := kvK (kvI s i) && !kvB (kvI s i) b
def kvS : ByteArray → Bool → Bool := hide fun s bad => leI (numV s) 1073741824 && (List.range (numV s).toNat).all (kvD s (bad || numB s))
theorem kvS_eq (s : ByteArray) (bad : Bool) : kvS s bad = (leI (numV s) 1073741824 && (List.range (numV s).toNat).all (kvD s (bad || numB s))) := by unfold kvS; rw [hide_eq]
def kvL : ByteArray → List KvQ := hide fun s => kvN s (numV s).toNat
theorem kvL_eq (s : ByteArray) : kvL s = kvN s (numV s).toNat := by unfold kvL; rw [hide_eq]
def kvE : ByteArray → ByteArray := hide fun s => kvI s (numV s).toNat
theorem kvE_eq (s : ByteArray) : kvE s = kvI s (numV s).toNat := by unfold kvE; rw [hide_eq]
theorem kvI_size (s : ByteArray) (b : Bool) : ∀ i, (∀ j, j < i → kvD s b j = true) → (kvI s i).size + i ≤ s.size
 | 0, _ => by rw [kvI_0]; exact numR_size s
 | i + 1, h => by
  have ih := kvI_size s b i fun j hj => h j (by omega)
  have hd := h i (Nat.lt_succ_self i)
  unfold kvD at hd
  rw [Bool.and_eq_true, Bool.not_eq_true'] at hd
  have := kvR_less hd.2
  rw [kvI_succ]; omega
theorem kvE_size (s : ByteArray) (bad : Bool) (h : kvS s bad = true) : (kvE s).size ≤ s.size := by
 rw [kvS_eq, Bool.and_eq_true, List.all_eq_true] at h
 have := kvI_size s (bad || numB s) (numV s).toNat fun j hj => h.2 j (List.mem_range.2 hj)
 rw [kvE_eq]; omega
theorem kvS_not (s : ByteArray) (bad : Bool) (h : kvS s bad = false) (hn : numV s ≤ 1073741824) : ∃ m : Nat, (m : Int) < numV s ∧ (∀ j, j < m → kvD s (bad || numB s) j = true) ∧ kvD s (bad || numB s) m = false :=
 first_bad (by
   rw [kvS_eq, Bool.and_eq_false_iff, leI_eq, decide_eq_true hn] at h
   rcases h with h | h
   · cases h
   · exact h)
end Go.Proofs.Ytaloolcabmfjbaa
end

noncomputable section
namespace Go.Proofs.Ytaloolcabmfjbaa
open Go.Sym
set_option maxRecDepth 100000
set_option maxHeartbeats 4000000
abbrev reT : List Ty := [.lst kvT, .bool, .int .i64, .int .i64, .lst kvT]
abbrev ReQ : Type := rowDen reT
def reV : ByteArray → ReQ := hide fun s => (kvL s, decide (numV (kvE s) = 1), numV (numR (kvE s)), numV (numR (numR (kvE s))), kvL (numR (numR (numR (kvE s)))))
theorem reV_eq (s : ByteArray) : reV s = (kvL s, decide (numV (kvE s) = 1), numV (numR (kvE s)), numV (numR (numR (kvE s))), kvL (numR (numR (numR (kvE s))))) := by unfold reV; rw [hide_eq]
def reR : ByteArray → ByteArray := hide fun s => kvE (numR (numR (numR (kvE s))))
theorem reR_eq (s : ByteArray) : reR s = kvE (numR (numR (numR (kvE s)))) := by unfold reR; rw [hide_eq]
def reB : ByteArray → Bool → Bool := hide fun s bad => (((((bad || numB s) || numB (kvE s)) || numB (numR (kvE s))) || numB (numR (numR (kvE s)))) || numB (numR (numR (numR (kvE s)))))
theorem reB_eq (s : ByteArray) (bad : Bool) : reB s bad = (((((bad || numB s) || numB (kvE s)) || numB (numR (kvE s))) || numB (numR (numR (kvE s)))) || numB (numR (numR (numR (kvE s))))) := by unfold reB; rw [hide_eq]
def reK : ByteArray → Bool → Bool := hide fun s bad => kvS s bad && leI (numV (kvE s)) 1 && leI (numV (numR (kvE s))) 1073741824 && leI (numV (numR (numR (kvE s)))) 1073741824 && kvS (numR (numR (numR (kvE s)))) ((((bad || numB s) || numB (kvE s)) || numB (numR (kvE s))) || numB (numR (numR (kvE s))))
theorem reK_eq (s : ByteArray) (bad : Bool) : reK s bad = (kvS s bad && leI (numV (kvE s)) 1 && leI (numV (numR (kvE s))) 1073741824 && leI (numV (numR (numR (kvE s)))) 1073741824 && kvS (numR (numR (numR (kvE s)))) ((((bad || numB s) || numB (kvE s)) || numB (numR (kvE s))) || numB (numR (numR (kvE s))))) := by unfold reK; rw [hide_eq]
abbrev reG (r : ReQ) : V := .agg [.lst kvT r.1 false, .bool r.2.1, .int .i64 r.2.2.1, .int .i64 r.2.2.2.1, .lst kvT r.2.2.2.2 false]
theorem kvE_less (s : ByteArray) (bad : Bool) (h : kvS s bad = true) (h2 : numB s = false) : (kvE s).size + 1 ≤ s.size := by
 have h1 := num_less h2
 rw [kvS_eq, Bool.and_eq_true, List.all_eq_true] at h
 rw [kvE_eq]
 rcases Nat.eq_zero_or_pos (numV s).toNat with e | e
 ·rw [e, kvI_0]; exact h1
 ·have := kvI_size s (bad || numB s) (numV s).toNat fun j hj => h.2 j (List.mem_range.2 hj)
  omega
theorem reR_less {s : ByteArray} {bad : Bool} (h : reK s bad = true) (h2 : reB s bad = false) : (reR s).size + 1 ≤ s.size := by
 rw [reK_eq] at h
 simp only [Bool.and_eq_true, leI_eq, decide_eq_true_eq] at h
 obtain ⟨⟨⟨⟨m0, m1⟩, m2⟩, m3⟩, m4⟩ := h
 have z0 := kvE_size s bad m0
 have z1 := numR_size (kvE s)
 have z2 := numR_size (numR (kvE s))
 have z3 := numR_size (numR (numR (kvE s)))
 have z4 := kvE_size (numR (numR (numR (kvE s)))) ((((bad || numB s) || numB (kvE s)) || numB (numR (kvE s))) || numB (numR (numR (kvE s)))) m4
 rw [reB_eq] at h2
 simp only [Bool.or_eq_false_iff] at h2
 have z5 := kvE_less s bad m0 h2.1.1.1.1.2
 rw [reR_eq]; omega
theorem reB_bad {s : ByteArray} {bad : Bool} (h : reB s bad = false) : bad = false := by
 rw [reB_eq] at h
 simp only [Bool.or_eq_false_iff] at h
 exact h.1.1.1.1.1
def reI0 (s : ByteArray) : Nat → ByteArray
 | 0 => numR s
 | i + 1 => reR (reI0 s i)
def reI : ByteArray → Nat → ByteArray := hide reI0
theorem reI_0 (s : ByteArray) : reI s 0 = numR s := by unfold reI; rw [hide_eq]; rfl
theorem reI_succ (s : ByteArray) (i : Nat) : reI s (i + 1) = reR (reI s i) := by unfold reI; rw [hide_eq]; rfl
def reN : ByteArray → Nat → List ReQ := hide fun s i => (List.range i).map fun j => reV (reI s j)
theorem reN_eq (s : ByteArray) (i : Nat) : reN s i = (List.range i).map fun j => reV (reI s j) := by unfold reN; rw [hide_eq]
theorem reN_0 (s : ByteArray) : reN s 0 = [] := by rw [reN_eq]; rfl
theorem reN_succ (s : ByteArray) (i : Nat) : reN s (i + 1) = reN s i ++ [reV (reI s i)] := by rw [reN_eq, reN_eq, List.range_succ, List.map_append]; rfl
theorem reN_len (s : ByteArray) (i : Nat) : (reN s i).length = i := by rw [reN_eq, List.length_map, List.length_range]
def reD (s : ByteArray) (b : Bool) (i : Nat) : Bool := reK (reI s i) b && !reB (reI s i) b
def reS : ByteArray → Bool → Bool := hide fun s bad => leI (numV s) 1073741824 && (List.range (numV s).toNat).all (reD s (bad || numB s))
theorem reS_eq (s : ByteArray) (bad : Bool) : reS s bad = (leI (numV s) 1073741824 && (List.range (numV s).toNat).all (reD s (bad || numB s))) := by unfold reS; rw [hide_eq]
def reL : ByteArray → List ReQ := hide fun s => reN s (numV s).toNat
theorem reL_eq (s : ByteArray) : reL s = reN s (numV s).toNat := by unfold reL; rw [hide_eq]
def reE : ByteArray → ByteArray := hide fun s => reI s (numV s).toNat
theorem reE_eq (s : ByteArray) : reE s = reI s (numV s).toNat := by unfold reE; rw [hide_eq]
theorem reI_size (s : ByteArray) (b : Bool) : ∀ i, (∀ j, j < i → reD s b j = true) → (reI s i).size + i ≤ s.size
 | 0, _ => by rw [reI_0]; exact numR_size s
 | i + 1, h => by
  have ih := reI_size s b i fun j hj => h j (by omega)
  have hd := h i (Nat.lt_succ_self i)
  unfold reD at hd
  rw [Bool.and_eq_true, Bool.not_eq_true'] at hd
  have := reR_less hd.1 hd.2
  rw [reI_succ]; omega
theorem reE_size (s : ByteArray) (bad : Bool) (h : reS s bad = true) : (reE s).size ≤ s.size := by
 rw [reS_eq, Bool.and_eq_true, List.all_eq_true] at h
 have := reI_size s (bad || numB s) (numV s).toNat fun j hj => h.2 j (List.mem_range.2 hj)
 rw [reE_eq]; omega
theorem reS_not (s : ByteArray) (bad : Bool) (h : reS s bad = false) (hn : numV s ≤ 1073741824) : ∃ m : Nat, (m : Int) < numV s ∧ (∀ j, j < m → reD s (bad || numB s) j = true) ∧ reD s (bad || numB s) m = false :=
 first_bad (by
   rw [reS_eq, Bool.and_eq_false_iff, leI_eq, decide_eq_true hn] at h
   rcases h with h | h
   · cases h
   · exact h)
end Go.Proofs.Ytaloolcabmfjbaa
end

noncomputable section
namespace Go.Proofs.Ytaloolcabmfjbaa
open Go.Sym
section
variable {e : List Ty}
def fst0 (p : rowDen e → Bool) (L : List (rowDen e)) : Nat := List.findIdx p L
def anyB (p : rowDen e → Bool) : List (rowDen e) → Bool := hide fun L => L.any p
def ixI (p : rowDen e → Bool) : List (rowDen e) → Int := hide fun L => if fst0 p L < L.length then (fst0 p L : Int) else -1
theorem anyB_eq (p : rowDen e → Bool) (L : List (rowDen e)) : anyB p L = L.any p := by unfold anyB; rw [hide_eq]
theorem ixI_eq (p : rowDen e → Bool) (L : List (rowDen e)) : ixI p L = if fst0 p L < L.length then (fst0 p L : Int) else -1 := by unfold ixI; rw [hide_eq]
theorem fst0_le (p : rowDen e → Bool) (L : List (rowDen e)) : fst0 p L ≤ L.length := List.findIdx_le_length
theorem fst0_not (p : rowDen e → Bool) (L : List (rowDen e)) {i : Nat} (h : i < fst0 p L) : p (Sym.rowAt e L i) = false := by
 have hl : i < L.length := Nat.lt_of_lt_of_le h (fst0_le p L)
 rw [rowAt_lt hl]
 exact List.not_of_lt_findIdx h
theorem fst0_is (p : rowDen e → Bool) (L : List (rowDen e)) (h : fst0 p L < L.length) : p (Sym.rowAt e L (fst0 p L)) = true := by
 rw [rowAt_lt h]
 exact List.findIdx_getElem (w := h)
theorem ix_in (p : rowDen e → Bool) (L : List (rowDen e)) : (ixI p L = -1 ∧ anyB p L = false ∧ fst0 p L = L.length) ∨ (ixI p L = (fst0 p L : Int) ∧ anyB p L = true ∧ fst0 p L < L.length) := by
 rw [ixI_eq, anyB_eq]
 by_cases h : fst0 p L < L.length
 ·refine .inr ⟨if_pos h, ?_, h⟩
  rw [List.any_eq_true]
  exact ⟨L[fst0 p L], List.getElem_mem h, List.findIdx_getElem (w := h)⟩
 ·refine .inl ⟨if_neg h, ?_, Nat.le_antisymm (fst0_le p L) (Nat.not_lt.1 h)⟩
  rw [List.any_eq_false]
  intro x hx
  exact fun q => h (List.findIdx_lt_length.2 ⟨x, hx, q⟩)
theorem any_not {p : rowDen e → Bool} {L : List (rowDen e)} (h : anyB p L = false) {i : Nat} (hi : i < L.length) : p (Sym.rowAt e L i) = false := by
 rcases ix_in p L with ⟨_, _, h3⟩ | ⟨_, h2, _⟩
 ·exact fst0_not p L (by omega)
 ·rw [h] at h2; cases h2
end
abbrev szP (x : ByteArray) : Prop := x.size ≤ 1000000
abbrev u6P (n : Int) : Prop := 0 ≤ n ∧ n < 18446744073709551616
def wfO (r : OpQ) : Prop := szP r.2.1 ∧ szP r.2.2.1 ∧ szP r.2.2.2.1 ∧ u6P r.2.2.2.2.1
def wfC (r : CmQ) : Prop := szP r.1 ∧ u6P r.2.2.2.1 ∧ szP r.2.2.2.2
def wfK (r : KvQ) : Prop := szP r.1 ∧ szP r.2.1 ∧ u6P r.2.2.1 ∧ u6P r.2.2.2.1 ∧ u6P r.2.2.2.2
open Classical in
def opW : List OpQ → Bool := hide fun L => decide (L.length ≤ 1000000 ∧ ∀ i, i < L.length → wfO (Sym.rowAt opT L i))
open Classical in
def cmW : List CmQ → Bool := hide fun L => decide (L.length ≤ 1000000 ∧ ∀ i, i < L.length → wfC (Sym.rowAt cmT L i))
open Classical in
def kvW : List KvQ → Bool := hide fun L => decide (L.length ≤ 1000000 ∧ ∀ i, i < L.length → wfK (Sym.rowAt kvT L i))
open Classical in
def reW : List ReQ → Bool := hide fun L => decide (L.length ≤ 1000000 ∧ ∀ i, i < L.length → kvW (Sym.rowAt reT L i).1 = true ∧ kvW (Sym.rowAt reT L i).2.2.2.2 = true)
open Classical in
theorem opW_iff (L : List OpQ) : opW L = true ↔ (L.length ≤ 1000000 ∧ ∀ i, i < L.length → wfO (Sym.rowAt opT L i)) := by unfold opW; rw [hide_eq]; exact ⟨fun h => of_decide_eq_true h, fun h => decide_eq_true h⟩
open Classical in
theorem cmW_iff (L : List CmQ) : cmW L = true ↔ (L.length ≤ 1000000 ∧ ∀ i, i < L.length → wfC (Sym.rowAt cmT L i)) := by unfold cmW; rw [hide_eq]; exact ⟨fun h => of_decide_eq_true h, fun h => decide_eq_true h⟩
open Classical in
theorem kvW_iff (L : List KvQ) : kvW L = true ↔ (L.length ≤ 1000000 ∧ ∀ i, i < L.length → wfK (Sym.rowAt kvT L i)) := by unfold kvW; rw [hide_eq]; exact ⟨fun h => of_decide_eq_true h, fun h => decide_eq_true h⟩
open Classical in
theorem reW_iff (L : List ReQ) : reW L = true ↔ (L.length ≤ 1000000 ∧ ∀ i, i < L.length → kvW (Sym.rowAt reT L i).1 = true ∧ kvW (Sym.rowAt reT L i).2.2.2.2 = true) := by unfold reW; rw [hide_eq]; exact ⟨fun h => of_decide_eq_true h, fun h => decide_eq_true h⟩
def badO : OpQ → Bool := hide fun r => !mayO r
def badC : CmQ → Bool := hide fun r => !mayC r
theorem badO_eq (r : OpQ) : badO r = !mayO r := by unfold badO; rw [hide_eq]
theorem badC_eq (r : CmQ) : badC r = !mayC r := by unfold badC; rw [hide_eq]
def badR : ReQ → Bool := hide fun r => !decide (r.1.length ≤ 2000 ∧ r.2.2.2.2.length ≤ 2000 ∧ (0 ≤ r.2.2.1 ∧ r.2.2.1 ≤ 1073741824) ∧ 0 ≤ r.2.2.2.1 ∧ r.2.2.2.1 ≤ 1073741824)
theorem badR_eq (K : List KvQ) (m : Bool) (c d : Int) (P : List KvQ) : badR (K, m, c, d, P) = !decide (K.length ≤ 2000 ∧ P.length ≤ 2000 ∧ (0 ≤ c ∧ c ≤ 1073741824) ∧ 0 ≤ d ∧ d ≤ 1073741824) := by unfold badR; rw [hide_eq]
end Go.Proofs.Ytaloolcabmfjbaa
end

noncomputable section
namespace Go.Proofs.Ytaloolcabmfjbaa
open Go.Sym
set_option maxRecDepth 100000
set_option maxHeartbeats 4000000
def tI : Bool → Int := hide fun b => bif b then 1 else 0
theorem tI_eq (b : Bool) : tI b = bif b then 1 else 0 := by unfold tI; rw [hide_eq]
theorem tI_in (b : Bool) : 0 ≤ tI b ∧ tI b ≤ 1 := by rw [tI_eq]; cases b <;> decide
section
variable {e : List Ty} (y : rowDen e → ByteArray)
def cat0 (L : List (rowDen e)) : Nat → ByteArray
 | 0 => numT L.length
 | i + 1 => cat0 L i ++ y (Sym.rowAt e L i)
def catA : List (rowDen e) → Nat → ByteArray := hide (cat0 y)
theorem catA_0 (L : List (rowDen e)) : catA y L 0 = numT L.length := by unfold catA; rw [hide_eq]; rfl
theorem catA_succ (L : List (rowDen e)) (i : Nat) : catA y L (i + 1) = catA y L i ++ y (Sym.rowAt e L i) := by unfold catA; rw [hide_eq]; rfl
def catZ : List (rowDen e) → ByteArray := hide fun L => catA y L L.length
theorem catZ_eq (L : List (rowDen e)) : catZ y L = catA y L L.length := by unfold catZ; rw [hide_eq]
theorem catA_le (L : List (rowDen e)) (b : Nat) (h : ∀ i, i < L.length → (y (Sym.rowAt e L i)).size ≤ b) : ∀ i, i ≤ L.length → (catA y L i).size ≤ 9 + i * b
 | 0, _ => by rw [catA_0]; have := numT_le (L.length : Int); omega
 | i + 1, hi => by
  have ih := catA_le L b h i (by omega)
  have h1 := h i (by omega)
  rw [catA_succ, ByteArray.size_append, Nat.add_mul]; omega
end
def cmY : CmQ → ByteArray := hide fun r => match r with
 | (key, w, h, n, val) => txtT key ++ (numT (w % 18446744073709551616) ++ (numT (h % 18446744073709551616) ++ (numT n ++ (txtT val))))
theorem cmY_eq (key : ByteArray) (w : Int) (h : Int) (n : Int) (val : ByteArray) : cmY (key, w, h, n, val) = txtT key ++ (numT (w % 18446744073709551616) ++ (numT (h % 18446744073709551616) ++ (numT n ++ (txtT val)))) := by unfold cmY; rw [hide_eq]
theorem cmY_le (r : CmQ) (h : wfC r) : (cmY r).size ≤ 2000100 := by
 obtain ⟨key, w, h, n, val⟩ := r
 obtain ⟨x0, x3, x4⟩ := h
 have z0 := txtT_le key
 have x0 : key.size ≤ 1000000 := x0
 have z1 := numT_le (w % 18446744073709551616)
 have z2 := numT_le (h % 18446744073709551616)
 have z3 := numT_le n
 have z4 := txtT_le val
 have x4 : val.size ≤ 1000000 := x4
 rw [cmY_eq]
 simp only [ByteArray.size_append]
 omega
def opY : OpQ → ByteArray := hide fun r => match r with
 | (k, key, en, val, rev, lim, cnt, ks, pv) => numT (k % 18446744073709551616) ++ (txtT key ++ (txtT en ++ (txtT val ++ (numT rev ++ (numT (lim % 18446744073709551616) ++ (numT (tI cnt) ++ (numT (tI ks) ++ (numT (tI pv)))))))))
theorem opY_eq (k : Int) (key : ByteArray) (en : ByteArray) (val : ByteArray) (rev : Int) (lim : Int) (cnt : Bool) (ks : Bool) (pv : Bool) : opY (k, key, en, val, rev, lim, cnt, ks, pv) = numT (k % 18446744073709551616) ++ (txtT key ++ (txtT en ++ (txtT val ++ (numT rev ++ (numT (lim % 18446744073709551616) ++ (numT (tI cnt) ++ (numT (tI ks) ++ (numT (tI pv))))))))) := by unfold opY; rw [hide_eq]
theorem opY_le (r : OpQ) (h : wfO r) : (opY r).size ≤ 3000200 := by
 obtain ⟨k, key, en, val, rev, lim, cnt, ks, pv⟩ := r
 obtain ⟨x1, x2, x3, x4⟩ := h
 have z0 := numT_le (k % 18446744073709551616)
 have z1 := txtT_le key
 have x1 : key.size ≤ 1000000 := x1
 have z2 := txtT_le en
 have x2 : en.size ≤ 1000000 := x2
 have z3 := txtT_le val
 have x3 : val.size ≤ 1000000 := x3
 have z4 := numT_le rev
 have z5 := numT_le (lim % 18446744073709551616)
 have z6 := numT_le (tI cnt)
 have z7 := numT_le (tI ks)
 have z8 := numT_le (tI pv)
 rw [opY_eq]
 simp only [ByteArray.size_append]
 omega
def kvY : KvQ → ByteArray := hide fun r => match r with
 | (key, val, cr, md, ver) => txtT key ++ (txtT val ++ (numT cr ++ (numT md ++ (numT ver))))
theorem kvY_eq (key : ByteArray) (val : ByteArray) (cr : Int) (md : Int) (ver : Int) : kvY (key, val, cr, md, ver) = txtT key ++ (txtT val ++ (numT cr ++ (numT md ++ (numT ver)))) := by unfold kvY; rw [hide_eq]
theorem kvY_le (r : KvQ) (h : wfK r) : (kvY r).size ≤ 2000100 := by
 obtain ⟨key, val, cr, md, ver⟩ := r
 obtain ⟨x0, x1, x2, x3, x4⟩ := h
 have z0 := txtT_le key
 have x0 : key.size ≤ 1000000 := x0
 have z1 := txtT_le val
 have x1 : val.size ≤ 1000000 := x1
 have z2 := numT_le cr
 have z3 := numT_le md
 have z4 := numT_le ver
 rw [kvY_eq]
 simp only [ByteArray.size_append]
 omega
def reY : ReQ → ByteArray := hide fun r => catZ kvY r.1 ++ (numT (tI r.2.1) ++ (numT (r.2.2.1 % 18446744073709551616) ++ (numT (r.2.2.2.1 % 18446744073709551616) ++ catZ kvY r.2.2.2.2)))
theorem reY_eq (r : ReQ) : reY r = catZ kvY r.1 ++ (numT (tI r.2.1) ++ (numT (r.2.2.1 % 18446744073709551616) ++ (numT (r.2.2.2.1 % 18446744073709551616) ++ catZ kvY r.2.2.2.2))) := by unfold reY; rw [hide_eq]
theorem opZ_le (L : List OpQ) (h : opW L = true) (i : Nat) (hi : i ≤ L.length) : (catA opY L i).size ≤ 4000000000000 := by
 obtain ⟨h1, h2⟩ := (opW_iff L).1 h
 have := catA_le opY L 3000200 (fun j hj => opY_le _ (h2 j hj)) i hi
 omega
theorem cmZ_le (L : List CmQ) (h : cmW L = true) (i : Nat) (hi : i ≤ L.length) : (catA cmY L i).size ≤ 4000000000000 := by
 obtain ⟨h1, h2⟩ := (cmW_iff L).1 h
 have := catA_le cmY L 2000100 (fun j hj => cmY_le _ (h2 j hj)) i hi
 omega
theorem kvZ_le (L : List KvQ) (h : kvW L = true) (i : Nat) (hi : i ≤ L.length) : (catA kvY L i).size ≤ 4000000000000 := by
 obtain ⟨h1, h2⟩ := (kvW_iff L).1 h
 have := catA_le kvY L 2000100 (fun j hj => kvY_le _ (h2 j hj)) i hi
 omega
theorem reY_le (r : ReQ) (h1 : kvW r.1 = true) (h2 : kvW r.2.2.2.2 = true) : (reY r).size ≤ 10000000000000 := by
 have z1 := kvZ_le _ h1 _ (Nat.le_refl _)
 have z2 := kvZ_le _ h2 _ (Nat.le_refl _)
 have z3 := numT_le (tI r.2.1)
 have z4 := numT_le (r.2.2.1 % 18446744073709551616)
 have z5 := numT_le (r.2.2.2.1 % 18446744073709551616)
 rw [reY_eq, catZ_eq, catZ_eq]
 simp only [ByteArray.size_append]
 omega
end Go.Proofs.Ytaloolcabmfjbaa
end

noncomputable section
namespace Go.Proofs.Ytaloolcabmfjbaa
open Go.Sym
set_option maxRecDepth 100000
set_option maxHeartbeats 4000000
theorem cat_nil (x : ByteArray) : x ++ (⟨#[]⟩ : ByteArray) = x := by
 refine ba_ext ?_
 rw [ByteArray.data_append, Array.toList_append]
 exact List.append_nil _
abbrev smP (n : Int) : Prop := 0 ≤ n ∧ n ≤ 1073741824
abbrev s6P (x : ByteArray) : Prop := x.size < 18446744073709551616
theorem sm_mod {n : Int} (h : smP n) : n % 18446744073709551616 = n := Int.emod_eq_of_lt h.1 (by omega)
theorem nb {n : Int} (h : u6P n) : (∀ t, numV (numT n ++ t) = n) ∧ (∀ t, numB (numT n ++ t) = false) ∧ ∀ t, numR (numT n ++ t) = t :=
 ⟨fun t => (num_back h.1 h.2 t).1, fun t => (num_back h.1 h.2 t).2.1, fun t => (num_back h.1 h.2 t).2.2⟩
theorem tb {x : ByteArray} (h : s6P x) : (∀ t, txV (txtT x ++ t) = x) ∧ (∀ t, txB (txtT x ++ t) = false) ∧ ∀ t, txR (txtT x ++ t) = t :=
 ⟨fun t => (txt_back h t).1, fun t => (txt_back h t).2.1, fun t => (txt_back h t).2.2⟩
theorem tI1 (b : Bool) : decide (tI b = 1) = b := by rw [tI_eq]; cases b <;> rfl
theorem sm_u6 {n : Int} (h : smP n) : u6P n := ⟨h.1, by omega⟩
theorem tI_u6 (b : Bool) : u6P (tI b) := ⟨(tI_in b).1, by have := (tI_in b).2; omega⟩
theorem tI_le (b : Bool) : leI (tI b) 1 = true := by rw [leI_eq]; exact decide_eq_true (tI_in b).2
theorem sm_le {n : Int} (h : smP n) : leI n 1073741824 = true := by rw [leI_eq]; exact decide_eq_true h.2
section
variable {e : List Ty} (y : rowDen e → ByteArray)
def tl0 : List (rowDen e) → ByteArray
 | [] => ⟨#[]⟩
 | r :: L => y r ++ tl0 L
theorem tl0_drop (L : List (rowDen e)) (i : Nat) (h : i < L.length) : tl0 y (L.drop i) = y (Sym.rowAt e L i) ++ tl0 y (L.drop (i + 1)) := by
 rw [List.drop_eq_getElem_cons h, rowAt_lt h]; rfl
theorem catA_tl (L : List (rowDen e)) : ∀ i, i ≤ L.length → catA y L i ++ tl0 y (L.drop i) = numT L.length ++ tl0 y L
 | 0, _ => by rw [catA_0]; rfl
 | i + 1, h => by
  have ih := catA_tl L i (by omega)
  rw [tl0_drop y L i (by omega)] at ih
  rw [catA_succ, ByteArray.append_assoc]; exact ih
theorem catZ_tl (L : List (rowDen e)) : catZ y L = numT L.length ++ tl0 y L := by
 have h := catA_tl y L L.length (Nat.le_refl _)
 rw [List.drop_length] at h
 rw [catZ_eq]
 exact (cat_nil _).symm.trans h
variable {R : ByteArray → ByteArray} {I : ByteArray → Nat → ByteArray} (I0 : ∀ s, I s 0 = numR s) (I1 : ∀ s i, I s (i + 1) = R (I s i))
include I0 I1
theorem lst_at (L : List (rowDen e)) (hl : L.length ≤ 1073741824) (hy : ∀ i, i < L.length → ∀ t, R (y (Sym.rowAt e L i) ++ t) = t) (t : ByteArray) : ∀ i, i ≤ L.length → I (catZ y L ++ t) i = tl0 y (L.drop i) ++ t
 | 0, _ => by
  have hn := nb (n := (L.length : Int)) ⟨by omega, by omega⟩
  rw [I0, catZ_tl, ByteArray.append_assoc, hn.2.2]; rfl
 | i + 1, h => by
  have ih := lst_at L hl hy t i (by omega)
  rw [I1, ih, tl0_drop y L i (by omega), ByteArray.append_assoc, hy i (by omega)]
theorem lst_row (L : List (rowDen e)) (hl : L.length ≤ 1073741824) (hy : ∀ i, i < L.length → ∀ t, R (y (Sym.rowAt e L i) ++ t) = t) (t : ByteArray) (i : Nat) (h : i < L.length) : ∃ t', I (catZ y L ++ t) i = y (Sym.rowAt e L i) ++ t' :=
 ⟨tl0 y (L.drop (i + 1)) ++ t, by rw [lst_at y I0 I1 L hl hy t i (by omega), tl0_drop y L i h, ByteArray.append_assoc]⟩
theorem lst_end (L : List (rowDen e)) (hl : L.length ≤ 1073741824) (hy : ∀ i, i < L.length → ∀ t, R (y (Sym.rowAt e L i) ++ t) = t) (t : ByteArray) : I (catZ y L ++ t) L.length = t := by
 rw [lst_at y I0 I1 L hl hy t _ (Nat.le_refl _), List.drop_length]
 show (⟨#[]⟩ : ByteArray) ++ t = t
 refine ba_ext ?_
 rw [ByteArray.data_append, Array.toList_append]; rfl
omit I0 I1 in
theorem lst_is (L : List (rowDen e)) (f : Nat → rowDen e) (h : ∀ i, i < L.length → f i = Sym.rowAt e L i) : (List.range L.length).map f = L := by
 refine List.ext_getElem (by rw [List.length_map, List.length_range]) fun i h1 h2 => ?_
 rw [List.getElem_map, List.getElem_range, h i h2, rowAt_lt h2]
omit I0 I1 in
theorem lst_num (L : List (rowDen e)) (hl : L.length ≤ 1073741824) (t : ByteArray) : numV (catZ y L ++ t) = L.length ∧ numB (catZ y L ++ t) = false := by
 have hn := nb (n := (L.length : Int)) ⟨by omega, by omega⟩
 rw [catZ_tl, ByteArray.append_assoc]
 exact ⟨hn.1 _, hn.2.1 _⟩
end
def cmg (r : CmQ) : Prop := s6P r.1 ∧ smP r.2.1 ∧ smP r.2.2.1 ∧ u6P r.2.2.2.1 ∧ s6P r.2.2.2.2
theorem cm_back {r : CmQ} (h : cmg r) (t : ByteArray) : cmV (cmY r ++ t) = r ∧ cmR (cmY r ++ t) = t ∧ cmK (cmY r ++ t) = true ∧ ∀ b, cmB (cmY r ++ t) b = b := by
 obtain ⟨key, w, h, n, val⟩ := r
 obtain ⟨h_key, h_w, h_h, h_n, h_val⟩ := h
 have b_key := tb h_key
 have e_w := sm_mod h_w
 have b_w := nb (sm_u6 h_w)
 have e_h := sm_mod h_h
 have b_h := nb (sm_u6 h_h)
 have b_n := nb h_n
 have b_val := tb h_val
 have c0_key := b_key.1
 have c1_key := b_key.2.1
 have c2_key := b_key.2.2
 have c0_w := b_w.1
 have c1_w := b_w.2.1
 have c2_w := b_w.2.2
 have c0_h := b_h.1
 have c1_h := b_h.2.1
 have c2_h := b_h.2.2
 have c0_n := b_n.1
 have c1_n := b_n.2.1
 have c2_n := b_n.2.2
 have c0_val := b_val.1
 have c1_val := b_val.2.1
 have c2_val := b_val.2.2
 have ey := cmY_eq key w h n val
 rw [ey, cmV_eq, cmR_eq, cmK_eq]
 simp only [cmB_eq, ByteArray.append_assoc, e_w, sm_le h_w, e_h, sm_le h_h, c0_key, c1_key, c2_key, c0_w, c1_w, c2_w, c0_h, c1_h, c2_h, c0_n, c1_n, c2_n, c0_val, c1_val, c2_val, Bool.or_false, Bool.and_self, and_self, true_and, implies_true]
theorem cm_lst {L : List CmQ} (hl : L.length ≤ 1073741824) (hg : ∀ i, i < L.length → cmg (Sym.rowAt cmT L i)) (t : ByteArray) : cmL (catZ cmY L ++ t) = L ∧ cmE (catZ cmY L ++ t) = t ∧ cmS (catZ cmY L ++ t) false = true := by
 have hn := lst_num cmY L hl t
 have hy : ∀ i, i < L.length → ∀ t, cmR (cmY (Sym.rowAt cmT L i) ++ t) = t := fun i h t => (cm_back (hg i h) t).2.1
 have hr := fun i h => lst_row cmY cmI_0 cmI_succ L hl hy t i h
 have en : (numV (catZ cmY L ++ t)).toNat = L.length := by rw [hn.1, Int.toNat_natCast]
 refine ⟨?_, ?_, ?_⟩
 ·rw [cmL_eq, cmN_eq, en]
  exact lst_is L _ fun i h => by obtain ⟨t', e'⟩ := hr i h; rw [e']; exact (cm_back (hg i h) t').1
 ·rw [cmE_eq, en]
  exact lst_end cmY cmI_0 cmI_succ L hl hy t
 ·rw [cmS_eq, en, hn.1, hn.2, Bool.and_eq_true, leI_eq, List.all_eq_true]
  refine ⟨decide_eq_true (by omega), fun i h => ?_⟩
  obtain ⟨t', e'⟩ := hr i (List.mem_range.1 h)
  have hb := cm_back (hg i (List.mem_range.1 h)) t'
  unfold cmD
  rw [e', hb.2.2.1, hb.2.2.2]; rfl
def opg (r : OpQ) : Prop := smP r.1 ∧ s6P r.2.1 ∧ s6P r.2.2.1 ∧ s6P r.2.2.2.1 ∧ u6P r.2.2.2.2.1 ∧ smP r.2.2.2.2.2.1
theorem op_back {r : OpQ} (h : opg r) (t : ByteArray) : opV (opY r ++ t) = r ∧ opR (opY r ++ t) = t ∧ opK (opY r ++ t) = true ∧ ∀ b, opB (opY r ++ t) b = b := by
 obtain ⟨k, key, en, val, rev, lim, cnt, ks, pv⟩ := r
 obtain ⟨h_k, h_key, h_en, h_val, h_rev, h_lim⟩ := h
 have e_k := sm_mod h_k
 have b_k := nb (sm_u6 h_k)
 have b_key := tb h_key
 have b_en := tb h_en
 have b_val := tb h_val
 have b_rev := nb h_rev
 have e_lim := sm_mod h_lim
 have b_lim := nb (sm_u6 h_lim)
 have b_cnt := nb (tI_u6 cnt)
 have b_ks := nb (tI_u6 ks)
 have b_pv := nb (tI_u6 pv)
 have c0_k := b_k.1
 have c1_k := b_k.2.1
 have c2_k := b_k.2.2
 have c0_key := b_key.1
 have c1_key := b_key.2.1
 have c2_key := b_key.2.2
 have c0_en := b_en.1
 have c1_en := b_en.2.1
 have c2_en := b_en.2.2
 have c0_val := b_val.1
 have c1_val := b_val.2.1
 have c2_val := b_val.2.2
 have c0_rev := b_rev.1
 have c1_rev := b_rev.2.1
 have c2_rev := b_rev.2.2
 have c0_lim := b_lim.1
 have c1_lim := b_lim.2.1
 have c2_lim := b_lim.2.2
 have c0_cnt := b_cnt.1
 have c1_cnt := b_cnt.2.1
 have c2_cnt := b_cnt.2.2
 have c0_ks := b_ks.1
 have c1_ks := b_ks.2.1
 have c2_ks := b_ks.2.2
 have c0_pv := b_pv.1
 have c1_pv := b_pv.2.1
 have c2_pv := b_pv.2.2
 have ey := opY_eq k key en val rev lim cnt ks pv
 rw [ey, opV_eq, opR_eq, opK_eq]
 simp only [opB_eq, ByteArray.append_assoc, e_k, sm_le h_k, e_lim, sm_le h_lim, tI1, tI_le, c0_k, c1_k, c2_k, c0_key, c1_key, c2_key, c0_en, c1_en, c2_en, c0_val, c1_val, c2_val, c0_rev, c1_rev, c2_rev, c0_lim, c1_lim, c2_lim, c0_cnt, c1_cnt, c2_cnt, c0_ks, c1_ks, c2_ks, c0_pv, c1_pv, c2_pv, Bool.or_false, Bool.and_self, and_self, true_and, implies_true]
theorem op_lst {L : List OpQ} (hl : L.length ≤ 1073741824) (hg : ∀ i, i < L.length → opg (Sym.rowAt opT L i)) (t : ByteArray) : opL (catZ opY L ++ t) = L ∧ opE (catZ opY L ++ t) = t ∧ opS (catZ opY L ++ t) false = true := by
 have hn := lst_num opY L hl t
 have hy : ∀ i, i < L.length → ∀ t, opR (opY (Sym.rowAt opT L i) ++ t) = t := fun i h t => (op_back (hg i h) t).2.1
 have hr := fun i h => lst_row opY opI_0 opI_succ L hl hy t i h
 have en : (numV (catZ opY L ++ t)).toNat = L.length := by rw [hn.1, Int.toNat_natCast]
 refine ⟨?_, ?_, ?_⟩
 ·rw [opL_eq, opN_eq, en]
  exact lst_is L _ fun i h => by obtain ⟨t', e'⟩ := hr i h; rw [e']; exact (op_back (hg i h) t').1
 ·rw [opE_eq, en]
  exact lst_end opY opI_0 opI_succ L hl hy t
 ·rw [opS_eq, en, hn.1, hn.2, Bool.and_eq_true, leI_eq, List.all_eq_true]
  refine ⟨decide_eq_true (by omega), fun i h => ?_⟩
  obtain ⟨t', e'⟩ := hr i (List.mem_range.1 h)
  have hb := op_back (hg i (List.mem_range.1 h)) t'
  unfold opD
  rw [e', hb.2.2.1, hb.2.2.2]; rfl
def kvg (r : KvQ) : Prop := s6P r.1 ∧ s6P r.2.1 ∧ u6P r.2.2.1 ∧ u6P r.2.2.2.1 ∧ u6P r.2.2.2.2
theorem kv_back {r : KvQ} (h : kvg r) (t : ByteArray) : kvV (kvY r ++ t) = r ∧ kvR (kvY r ++ t) = t ∧ kvK (kvY r ++ t) = true ∧ ∀ b, kvB (kvY r ++ t) b = b := by
 obtain ⟨key, val, cr, md, ver⟩ := r
 obtain ⟨h_key, h_val, h_cr, h_md, h_ver⟩ := h
 have b_key := tb h_key
 have b_val := tb h_val
 have b_cr := nb h_cr
 have b_md := nb h_md
 have b_ver := nb h_ver
 have c0_key := b_key.1
 have c1_key := b_key.2.1
 have c2_key := b_key.2.2
 have c0_val := b_val.1
 have c1_val := b_val.2.1
 have c2_val := b_val.2.2
 have c0_cr := b_cr.1
 have c1_cr := b_cr.2.1
 have c2_cr := b_cr.2.2
 have c0_md := b_md.1
 have c1_md := b_md.2.1
 have c2_md := b_md.2.2
 have c0_ver := b_ver.1
 have c1_ver := b_ver.2.1
 have c2_ver := b_ver.2.2
 have ey := kvY_eq key val cr md ver
 rw [ey, kvV_eq, kvR_eq, kvK_eq]
 simp only [kvB_eq, ByteArray.append_assoc, c0_key, c1_key, c2_key, c0_val, c1_val, c2_val, c0_cr, c1_cr, c2_cr, c0_md, c1_md, c2_md, c0_ver, c1_ver, c2_ver, Bool.or_false, Bool.and_self, and_self, true_and, implies_true]
theorem kv_lst {L : List KvQ} (hl : L.length ≤ 1073741824) (hg : ∀ i, i < L.length → kvg (Sym.rowAt kvT L i)) (t : ByteArray) : kvL (catZ kvY L ++ t) = L ∧ kvE (catZ kvY L ++ t) = t ∧ kvS (catZ kvY L ++ t) false = true := by
 have hn := lst_num kvY L hl t
 have hy : ∀ i, i < L.length → ∀ t, kvR (kvY (Sym.rowAt kvT L i) ++ t) = t := fun i h t => (kv_back (hg i h) t).2.1
 have hr := fun i h => lst_row kvY kvI_0 kvI_succ L hl hy t i h
 have en : (numV (catZ kvY L ++ t)).toNat = L.length := by rw [hn.1, Int.toNat_natCast]
 refine ⟨?_, ?_, ?_⟩
 ·rw [kvL_eq, kvN_eq, en]
  exact lst_is L _ fun i h => by obtain ⟨t', e'⟩ := hr i h; rw [e']; exact (kv_back (hg i h) t').1
 ·rw [kvE_eq, en]
  exact lst_end kvY kvI_0 kvI_succ L hl hy t
 ·rw [kvS_eq, en, hn.1, hn.2, Bool.and_eq_true, leI_eq, List.all_eq_true]
  refine ⟨decide_eq_true (by omega), fun i h => ?_⟩
  obtain ⟨t', e'⟩ := hr i (List.mem_range.1 h)
  have hb := kv_back (hg i (List.mem_range.1 h)) t'
  unfold kvD
  rw [e', hb.2.2.1, hb.2.2.2]; rfl
def reg (r : ReQ) : Prop := (r.1.length ≤ 1073741824 ∧ ∀ i, i < r.1.length → kvg (Sym.rowAt kvT r.1 i)) ∧ smP r.2.2.1 ∧ smP r.2.2.2.1 ∧ (r.2.2.2.2.length ≤ 1073741824 ∧ ∀ i, i < r.2.2.2.2.length → kvg (Sym.rowAt kvT r.2.2.2.2 i))
theorem re_back {r : ReQ} (h : reg r) (t : ByteArray) : reV (reY r ++ t) = r ∧ reR (reY r ++ t) = t ∧ reK (reY r ++ t) false = true ∧ reB (reY r ++ t) false = false := by
 obtain ⟨K, m, c, d, P⟩ := r
 obtain ⟨⟨hK, gK⟩, h_c, h_d, hP, gP⟩ := h
 have kl := fun t => kv_lst hK gK t
 have pl := fun t => kv_lst hP gP t
 have k1 := fun t => (kl t).1
 have k2 := fun t => (kl t).2.1
 have k3 := fun t => (kl t).2.2
 have k4 := fun t => (lst_num kvY K hK t).2
 have p1 := fun t => (pl t).1
 have p2 := fun t => (pl t).2.1
 have p3 := fun t => (pl t).2.2
 have p4 := fun t => (lst_num kvY P hP t).2
 have b_m := nb (tI_u6 m)
 have b_c := nb (sm_u6 h_c)
 have b_d := nb (sm_u6 h_d)
 have e_c := sm_mod h_c
 have e_d := sm_mod h_d
 have m0 := b_m.1
 have m1 := b_m.2.1
 have m2 := b_m.2.2
 have c0 := b_c.1
 have c1 := b_c.2.1
 have c2 := b_c.2.2
 have d0 := b_d.1
 have d1 := b_d.2.1
 have d2 := b_d.2.2
 dsimp only at k1 k2 k3 k4 p1 p2 p3 p4 m0 m1 m2 c0 c1 c2 d0 d1 d2 e_c e_d
 have ey := reY_eq (K, m, c, d, P)
 dsimp only at ey
 rw [ey, reV_eq, reR_eq, reK_eq, reB_eq]
 simp only [ByteArray.append_assoc, e_c, e_d, k1, k2, k3, k4, p1, p2, p3, p4, m0, m1, m2, c0, c1, c2, d0, d1, d2, tI1, tI_le, sm_le h_c, sm_le h_d, Bool.or_false, Bool.and_self, and_self]
theorem re_lst {L : List ReQ} (hl : L.length ≤ 1073741824) (hg : ∀ i, i < L.length → reg (Sym.rowAt reT L i)) (t : ByteArray) : reL (catZ reY L ++ t) = L ∧ reE (catZ reY L ++ t) = t ∧ reS (catZ reY L ++ t) false = true := by
 have hn := lst_num reY L hl t
 have hy : ∀ i, i < L.length → ∀ t, reR (reY (Sym.rowAt reT L i) ++ t) = t := fun i h t => (re_back (hg i h) t).2.1
 have hr := fun i h => lst_row reY reI_0 reI_succ L hl hy t i h
 have en : (numV (catZ reY L ++ t)).toNat = L.length := by rw [hn.1, Int.toNat_natCast]
 refine ⟨?_, ?_, ?_⟩
 ·rw [reL_eq, reN_eq, en]
  exact lst_is L _ fun i h => by obtain ⟨t', e'⟩ := hr i h; rw [e']; exact (re_back (hg i h) t').1
 ·rw [reE_eq, en]
  exact lst_end reY reI_0 reI_succ L hl hy t
 ·rw [reS_eq, en, hn.1, hn.2, Bool.and_eq_true, leI_eq, List.all_eq_true]
  refine ⟨decide_eq_true (by omega), fun i h => ?_⟩
  obtain ⟨t', e'⟩ := hr i (List.mem_range.1 h)
  have hb := re_back (hg i (List.mem_range.1 h)) t'
  unfold reD
  rw [e', Bool.false_or, hb.2.2.1, hb.2.2.2]; rfl
end Go.Proofs.Ytaloolcabmfjbaa
end

noncomputable section
namespace Go.Proofs.Ytaloolcabmfjbaa
open Go.Sym
set_option maxRecDepth 100000
section
variable {e : List Ty} (V2 : ByteArray → Bool → rowDen e) (R2 : ByteArray → Bool → ByteArray) (B2 : ByteArray → Bool → Bool)
def gs0 (s : ByteArray) (b : Bool) : Nat → ByteArray × Bool
 | 0 => (numR s, b || numB s)
 | i + 1 => (R2 (gs0 s b i).1 (gs0 s b i).2, B2 (gs0 s b i).1 (gs0 s b i).2)
def gS : ByteArray → Bool → Nat → ByteArray := hide fun s b i => (gs0 R2 B2 s b i).1
def gB : ByteArray → Bool → Nat → Bool := hide fun s b i => (gs0 R2 B2 s b i).2
theorem gS_0 (s : ByteArray) (b : Bool) : gS R2 B2 s b 0 = numR s := by unfold gS; rw [hide_eq]; rfl
theorem gB_0 (s : ByteArray) (b : Bool) : gB R2 B2 s b 0 = (b || numB s) := by unfold gB; rw [hide_eq]; rfl
theorem gS_succ (s : ByteArray) (b : Bool) (i : Nat) : gS R2 B2 s b (i + 1) = R2 (gS R2 B2 s b i) (gB R2 B2 s b i) := by unfold gS gB; rw [hide_eq, hide_eq]; rfl
theorem gB_succ (s : ByteArray) (b : Bool) (i : Nat) : gB R2 B2 s b (i + 1) = B2 (gS R2 B2 s b i) (gB R2 B2 s b i) := by unfold gS gB; rw [hide_eq, hide_eq]; rfl
def gM : ByteArray → Bool → Nat := hide fun s b => (List.range (min (numV s) 2147483648).toNat).findIdx fun i => gB R2 B2 s b i
theorem gM_eq (s : ByteArray) (b : Bool) : gM R2 B2 s b = (List.range (min (numV s) 2147483648).toNat).findIdx fun i => gB R2 B2 s b i := by unfold gM; rw [hide_eq]
theorem gM_le (s : ByteArray) (b : Bool) : gM R2 B2 s b ≤ (min (numV s) 2147483648).toNat := by
 have := List.findIdx_le_length (xs := List.range (min (numV s) 2147483648).toNat) (p := fun i => gB R2 B2 s b i)
 rw [List.length_range] at this
 rw [gM_eq]; exact this
theorem gM_lt {s : ByteArray} {b : Bool} {i : Nat} (h : i < gM R2 B2 s b) : gB R2 B2 s b i = false := by
 have hl := gM_le R2 B2 s b
 rw [gM_eq] at h
 have := List.not_of_lt_findIdx h
 rw [List.getElem_range] at this
 exact this
theorem gM_end (s : ByteArray) (b : Bool) : gM R2 B2 s b = (min (numV s) 2147483648).toNat ∨ gB R2 B2 s b (gM R2 B2 s b) = true := by
 rcases Nat.lt_or_ge (gM R2 B2 s b) (min (numV s) 2147483648).toNat with h | h
 ·right
  rw [gM_eq] at h
  have h2 := h
  rw [← List.length_range (n := (min (numV s) 2147483648).toNat)] at h2
  have := List.findIdx_getElem (w := by rw [List.length_range] at h2 ⊢; exact h2) (xs := List.range (min (numV s) 2147483648).toNat) (p := fun i => gB R2 B2 s b i)
  rw [List.getElem_range, ← gM_eq] at this
  exact this
 ·left; exact Nat.le_antisymm (gM_le R2 B2 s b) h
def gN : ByteArray → Bool → Nat → List (rowDen e) := hide fun s b i => (List.range i).map fun j => V2 (gS R2 B2 s b j) (gB R2 B2 s b j)
theorem gN_eq (s : ByteArray) (b : Bool) (i : Nat) : gN V2 R2 B2 s b i = (List.range i).map fun j => V2 (gS R2 B2 s b j) (gB R2 B2 s b j) := by unfold gN; rw [hide_eq]
theorem gN_0 (s : ByteArray) (b : Bool) : gN V2 R2 B2 s b 0 = [] := by rw [gN_eq]; rfl
theorem gN_succ (s : ByteArray) (b : Bool) (i : Nat) : gN V2 R2 B2 s b (i + 1) = gN V2 R2 B2 s b i ++ [V2 (gS R2 B2 s b i) (gB R2 B2 s b i)] := by rw [gN_eq, gN_eq, List.range_succ, List.map_append]; rfl
theorem gN_len (s : ByteArray) (b : Bool) (i : Nat) : (gN V2 R2 B2 s b i).length = i := by rw [gN_eq, List.length_map, List.length_range]
def gL : ByteArray → Bool → List (rowDen e) := hide fun s b => gN V2 R2 B2 s b (gM R2 B2 s b)
def gE : ByteArray → Bool → ByteArray := hide fun s b => gS R2 B2 s b (gM R2 B2 s b)
def gF : ByteArray → Bool → Bool := hide fun s b => gB R2 B2 s b (gM R2 B2 s b)
theorem gL_eq (s : ByteArray) (b : Bool) : gL V2 R2 B2 s b = gN V2 R2 B2 s b (gM R2 B2 s b) := by unfold gL; rw [hide_eq]
theorem gE_eq (s : ByteArray) (b : Bool) : gE R2 B2 s b = gS R2 B2 s b (gM R2 B2 s b) := by unfold gE; rw [hide_eq]
theorem gF_eq (s : ByteArray) (b : Bool) : gF R2 B2 s b = gB R2 B2 s b (gM R2 B2 s b) := by unfold gF; rw [hide_eq]
section
variable (hR : ∀ s b, (R2 s b).size ≤ s.size) (hL : ∀ s b, B2 s b = false → (R2 s b).size + 1 ≤ s.size)
include hR
theorem gS_size (s : ByteArray) (b : Bool) : ∀ i, (gS R2 B2 s b i).size ≤ s.size
 | 0 => by rw [gS_0]; exact numR_size s
 | i + 1 => by rw [gS_succ]; exact Nat.le_trans (hR _ _) (gS_size s b i)
theorem gE_size (s : ByteArray) (b : Bool) : (gE R2 B2 s b).size ≤ s.size := by rw [gE_eq]; exact gS_size R2 B2 hR s b _
include hL
theorem gS_less (s : ByteArray) (b : Bool) : ∀ j, j < gM R2 B2 s b → (gS R2 B2 s b j).size + j ≤ s.size
 | 0, _ => by rw [gS_0]; exact numR_size s
 | j + 1, h => by
  have ih := gS_less s b j (by omega)
  have h1 := gM_lt R2 B2 h
  rw [gB_succ] at h1
  have := hL _ _ h1
  rw [gS_succ]; omega
theorem gM_size (s : ByteArray) (b : Bool) : gM R2 B2 s b ≤ s.size + 1 := by
 rcases Nat.eq_zero_or_pos (gM R2 B2 s b) with h | h
 ·omega
 ·have := gS_less R2 B2 hR hL s b (gM R2 B2 s b - 1) (by omega)
  omega
end
section
variable {y : rowDen e → ByteArray} {L : List (rowDen e)} (hl : L.length ≤ 1073741824) (hy : ∀ i, i < L.length → ∀ t, V2 (y (Sym.rowAt e L i) ++ t) false = Sym.rowAt e L i ∧ R2 (y (Sym.rowAt e L i) ++ t) false = t ∧ B2 (y (Sym.rowAt e L i) ++ t) false = false)
include hl hy
theorem g_at (t : ByteArray) : ∀ i, i ≤ L.length → gS R2 B2 (catZ y L ++ t) false i = tl0 y (L.drop i) ++ t ∧ gB R2 B2 (catZ y L ++ t) false i = false
 | 0, _ => by
  have hn := nb (n := (L.length : Int)) ⟨by omega, by omega⟩
  rw [gS_0, gB_0, catZ_tl, ByteArray.append_assoc, hn.2.2, hn.2.1]; exact ⟨rfl, rfl⟩
 | i + 1, h => by
  obtain ⟨h1, h2⟩ := g_at t i (by omega)
  obtain ⟨_, h3, h4⟩ := hy i (by omega) (tl0 y (L.drop (i + 1)) ++ t)
  rw [gS_succ, gB_succ, h1, h2, tl0_drop y L i (by omega), ByteArray.append_assoc, h3, h4]
  exact ⟨rfl, rfl⟩
theorem g_back (t : ByteArray) : gL V2 R2 B2 (catZ y L ++ t) false = L ∧ gE R2 B2 (catZ y L ++ t) false = t ∧ gF R2 B2 (catZ y L ++ t) false = false := by
 have hn := lst_num y L hl t
 have en : (min (numV (catZ y L ++ t)) 2147483648).toNat = L.length := by rw [hn.1]; omega
 have hM : gM R2 B2 (catZ y L ++ t) false = L.length := by
  have h1 := gM_le R2 B2 (catZ y L ++ t) false
  rw [en] at h1
  rcases gM_end R2 B2 (catZ y L ++ t) false with h | h
  ·rw [h, en]
  ·have := (g_at V2 R2 B2 hl hy t _ h1).2
   rw [this] at h; cases h
 refine ⟨?_, ?_, ?_⟩
 ·rw [gL_eq, gN_eq, hM]
  refine lst_is L _ fun i h => ?_
  obtain ⟨h1, h2⟩ := g_at V2 R2 B2 hl hy t i (by omega)
  rw [h1, h2, tl0_drop y L i h, ByteArray.append_assoc]
  exact (hy i h _).1
 ·rw [gE_eq, hM, (g_at V2 R2 B2 hl hy t _ (Nat.le_refl _)).1, List.drop_length]
  show (⟨#[]⟩ : ByteArray) ++ t = t
  refine ba_ext ?_
  rw [ByteArray.data_append, Array.toList_append]; rfl
 ·rw [gF_eq, hM, (g_at V2 R2 B2 hl hy t _ (Nat.le_refl _)).2]
end
end
abbrev m31 (n : Int) : Int := min n 2147483648
def cm2V (s : ByteArray) (_ : Bool) : CmQ := ((cmV s).1, m31 (cmV s).2.1, m31 (cmV s).2.2.1, (cmV s).2.2.2.1, (cmV s).2.2.2.2)
def op2V (s : ByteArray) (_ : Bool) : OpQ := (m31 (opV s).1, (opV s).2.1, (opV s).2.2.1, (opV s).2.2.2.1, (opV s).2.2.2.2.1, m31 (opV s).2.2.2.2.2.1, (opV s).2.2.2.2.2.2.1, (opV s).2.2.2.2.2.2.2.1, (opV s).2.2.2.2.2.2.2.2)
def kv2V (s : ByteArray) (_ : Bool) : KvQ := kvV s
def cm2R (s : ByteArray) (_ : Bool) : ByteArray := cmR s
def op2R (s : ByteArray) (_ : Bool) : ByteArray := opR s
def kv2R (s : ByteArray) (_ : Bool) : ByteArray := kvR s
theorem m31_sm {n : Int} (h : smP n) : m31 n = n := by show min n 2147483648 = n; have := h.2; omega
theorem cm2_back {r : CmQ} (h : cmg r) (t : ByteArray) : cm2V (cmY r ++ t) false = r ∧ cm2R (cmY r ++ t) false = t ∧ cmB (cmY r ++ t) false = false := by
 obtain ⟨h1, h2, h3, h4⟩ := cm_back h t
 refine ⟨?_, h2, h4 false⟩
 unfold cm2V
 rw [h1, m31_sm h.2.1, m31_sm h.2.2.1]
theorem op2_back {r : OpQ} (h : opg r) (t : ByteArray) : op2V (opY r ++ t) false = r ∧ op2R (opY r ++ t) false = t ∧ opB (opY r ++ t) false = false := by
 obtain ⟨h1, h2, h3, h4⟩ := op_back h t
 refine ⟨?_, h2, h4 false⟩
 unfold op2V
 rw [h1, m31_sm h.1, m31_sm h.2.2.2.2.2]
theorem kv2_back {r : KvQ} (h : kvg r) (t : ByteArray) : kv2V (kvY r ++ t) false = r ∧ kv2R (kvY r ++ t) false = t ∧ kvB (kvY r ++ t) false = false := by
 obtain ⟨h1, h2, h3, h4⟩ := kv_back h t
 exact ⟨h1, h2, h4 false⟩
end Go.Proofs.Ytaloolcabmfjbaa
end

noncomputable section
namespace Go.Proofs.Ytaloolcabmfjbaa
open Go.Sym
theorem cm_row (s : ByteArray) (n i : Nat) (h : i < n) : Sym.rowAt cmT (cmN s n) i = cmV (cmI s i) := by
 rw [rowAt_lt (by rw [cmN_len]; exact h)]
 simp only [cmN_eq, List.getElem_map, List.getElem_range]
theorem op_row (s : ByteArray) (n i : Nat) (h : i < n) : Sym.rowAt opT (opN s n) i = opV (opI s i) := by
 rw [rowAt_lt (by rw [opN_len]; exact h)]
 simp only [opN_eq, List.getElem_map, List.getElem_range]
theorem kv_row (s : ByteArray) (n i : Nat) (h : i < n) : Sym.rowAt kvT (kvN s n) i = kvV (kvI s i) := by
 rw [rowAt_lt (by rw [kvN_len]; exact h)]
 simp only [kvN_eq, List.getElem_map, List.getElem_range]
theorem cmL_W {s : ByteArray} {b : Bool} (hs : s.size ≤ 1000000) (h : cmS s b = true) : cmW (cmL s) = true := by
 rw [cmS_eq, Bool.and_eq_true, List.all_eq_true] at h
 have hg := fun j (hj : j < (numV s).toNat) => h.2 j (List.mem_range.2 hj)
 have hn := cmI_size s (b || numB s) (numV s).toNat hg
 rw [cmW_iff, cmL_eq, cmN_len]
 refine ⟨by omega, fun i hi => ?_⟩
 rw [cm_row s _ i hi, cmV_eq]
 have hz := cmI_size s (b || numB s) i fun j hj => hg j (by omega)
 have x1 := txV_size (cmI s i)
 have y1 := txR_size (cmI s i)
 have y2 := numR_size (txR (cmI s i))
 have y3 := numR_size (numR (txR (cmI s i)))
 have y4 := numR_size (numR (numR (txR (cmI s i))))
 have x2 := txV_size (numR (numR (numR (txR (cmI s i)))))
 exact ⟨by show (txV _).size ≤ _; omega, numV_in _, by show (txV _).size ≤ _; omega⟩
theorem opL_W {s : ByteArray} {b : Bool} (hs : s.size ≤ 1000000) (h : opS s b = true) : opW (opL s) = true := by
 rw [opS_eq, Bool.and_eq_true, List.all_eq_true] at h
 have hg := fun j (hj : j < (numV s).toNat) => h.2 j (List.mem_range.2 hj)
 have hn := opI_size s (b || numB s) (numV s).toNat hg
 rw [opW_iff, opL_eq, opN_len]
 refine ⟨by omega, fun i hi => ?_⟩
 rw [op_row s _ i hi, opV_eq]
 have hz := opI_size s (b || numB s) i fun j hj => hg j (by omega)
 have y0 := numR_size (opI s i)
 have x1 := txV_size (numR (opI s i))
 have y1 := txR_size (numR (opI s i))
 have x2 := txV_size (txR (numR (opI s i)))
 have y2 := txR_size (txR (numR (opI s i)))
 have x3 := txV_size (txR (txR (numR (opI s i))))
 exact ⟨by show (txV _).size ≤ _; omega, by show (txV _).size ≤ _; omega, by show (txV _).size ≤ _; omega, numV_in _⟩
theorem kvL_W {s : ByteArray} {b : Bool} (hs : s.size ≤ 1000000) (h : kvS s b = true) : kvW (kvL s) = true := by
 rw [kvS_eq, Bool.and_eq_true, List.all_eq_true] at h
 have hg := fun j (hj : j < (numV s).toNat) => h.2 j (List.mem_range.2 hj)
 have hn := kvI_size s (b || numB s) (numV s).toNat hg
 rw [kvW_iff, kvL_eq, kvN_len]
 refine ⟨by omega, fun i hi => ?_⟩
 rw [kv_row s _ i hi, kvV_eq]
 have hz := kvI_size s (b || numB s) i fun j hj => hg j (by omega)
 have x1 := txV_size (kvI s i)
 have y1 := txR_size (kvI s i)
 have x2 := txV_size (txR (kvI s i))
 exact ⟨by show (txV _).size ≤ _; omega, by show (txV _).size ≤ _; omega, numV_in _, numV_in _, numV_in _⟩
end Go.Proofs.Ytaloolcabmfjbaa
end
