/-
  Which name of a description is which name of a state: found along the slots and the objects. No condition.
-/
import Derived.Test.YtlkbmjdgfbciaaaSymT
namespace Go.Sym
set_option linter.unusedVariables false

noncomputable section
mutual
/-- names that stand at the same places -/
def pairV : V → V → List (Nat × Nat)
  | .ptr b _, w => (match w with
    | .ptr c _ => [(b, c)]
    | _ => [])
  | .rptr b _ _ _, w => (match w with
    | .rptr c _ _ _ => [(b, c)]
    | _ => [])
  | .sl b _ _ _ _ _, w => (match w with
    | .sl c _ _ _ _ _ => [(b, c)]
    | _ => [])
  | .rs b _ _ _ _ _, w => (match w with
    | .rs c _ _ _ _ _ => [(b, c)]
    | _ => [])
  | .map b, w => (match w with
    | .map c => [(b, c)]
    | _ => [])
  | .yld b, w => (match w with
    | .yld c => [(b, c)]
    | _ => [])
  | .iface _ v, w => (match w with
    | .iface _ u => pairV v u
    | _ => [])
  | .agg l, w => (match w with
    | .agg m => pairL l m
    | _ => [])
  | .tup l, w => (match w with
    | .tup m => pairL l m
    | _ => [])
  | .fn _ a c, w => (match w with
    | .fn _ a' c' => pairL a a' ++ pairL c c'
    | _ => [])
  | _, _ => []
def pairL : List V → List V → List (Nat × Nat)
  | [], _ => []
  | v :: l, m => (match m with
    | w :: m => pairV v w ++ pairL l m
    | [] => [])
end
def pairS (f : Frm) : List (Nat × V) → List (Nat × Nat)
  | [] => []
  | e :: l => pairV e.2 (f.get e.1) ++ pairS f l
def objN (b : Nat) : List (Nat × EObj) → Option EObj
  | [] => none
  | e :: l => bif Nat.beq e.1 b then some e.2 else objN b l
def pairOb : Option EObj → Option EObj → List (Nat × Nat)
  | some (.cells cs _ _), o => (match o with
    | some (.cells ds _ _) => pairL cs ds
    | _ => [])
  | some (.loop r), o => (match o with
    | some (.loop q) => [(r.defers, q.defers)]
    | _ => [])
  | _, _ => []
def seenN (b : Nat) : List (Nat × Nat) → Bool
  | [] => false
  | e :: l => bif Nat.beq e.1 b then true else seenN b l
/-- by and by -/
def growM (h : List (Nat × EObj)) (h1 : T EObj) : Nat → List (Nat × Nat) → List (Nat × Nat) → List (Nat × Nat)
  | 0, _, acc => acc
  | n + 1, pend, acc => (match pend with
    | [] => acc
    | e :: l => bif seenN e.1 acc then growM h h1 n l acc else (match h1.get e.2 with
      | some o => growM h h1 n (pairOb (objN e.1 h) (some o) ++ l) (acc ++ [e])
      | none => growM h h1 n l acc))
def autoM (c : CD) (c1 : Cfg) : List (Nat × Nat) := growM c.h c1.st.heap 60 (pairS c1.tmps c.l) []
/-- .. names below k stand for themselves -/
def keepM (k : Nat) : List (Nat × Nat) → List (Nat × Nat)
  | [] => []
  | e :: l => bif Nat.blt e.1 k then keepM k l else e :: keepM k l
end
theorem seg_len {α : Type} (L : List α) (lo len : Nat) : (seg L lo len).length = min (lo + len) L.length - lo := by
  unfold seg
  rw [List.length_drop, List.length_take]
theorem bs_app (a b : ByteArray) : (a ++ b).size = a.size + b.size := ByteArray.size_append
theorem andB_room {n b : Nat} {q : Prop} (hb : Nat.ble b 65536 = true) (hn : n ≤ 1000000000) (k : q) : @Bool.rec (fun _ => Prop) False q (decide ((2 * n + 768) * b ≤ 281474976710656)) := by
  refine andB_d ?_ k
  have h1 : b ≤ 65536 := Nat.le_of_ble_eq_true hb
  have h2 := Nat.mul_le_mul (show 2 * n + 768 ≤ 2000000768 by omega) h1
  omega
theorem iteB_ct {b c : Bool} {p q : Prop} (k : @Bool.rec (fun _ => Prop) q p b) : @Bool.rec (fun _ => Prop) q p (bif true then b else c) := k
theorem iteB_cf {b c : Bool} {p q : Prop} (k : @Bool.rec (fun _ => Prop) q p c) : @Bool.rec (fun _ => Prop) q p (bif false then b else c) := k
theorem CD.wk_au {k : Nat} {c : CD} {c1 : Cfg} (h : forceM (keepM k (autoM c c1)) fun m => c.wk k m c1) : ∃ m, c.wk k m c1 := ⟨_, (forceM_iff _ _).1 h⟩
end Go.Sym
