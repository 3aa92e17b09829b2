/-
  A contract for the evaluator: slices.Insert of one element ahead of the last, at a slice of elements of one cell whose capacity is not known (there is room, or a new block), wherever the program is known to have it. Nothing here speaks of one program.
-/
import Derived.Test.YtdpcenieeogekaaGreatEngO
import Derived.Laws.IdiomCopy
namespace Go.Eng
open Go.RowKit (Below)

theorem setA_get : ∀ (l : List Value) (C : Array Value) (p k : Nat), p + l.length ≤ C.size → (setA C p l)[k]? = if p ≤ k ∧ k < p + l.length then l[k - p]? else C[k]? := by
  intro l
  induction l with
  | nil => intro C p k _; simp [setA]; omega
  | cons c l ih =>
    intro C p k hp
    simp only [List.length_cons] at hp ⊢
    simp only [setA]
    rw [ih _ _ _ (by simp; omega)]
    by_cases hk : k = p
    · subst hk
      rw [if_neg (by omega), if_pos (by omega), Array.getElem?_setIfInBounds_self_of_lt (by omega)]
      simp
    · by_cases hk2 : p + 1 ≤ k ∧ k < p + 1 + l.length
      · rw [if_pos hk2, if_pos (by omega)]
        obtain ⟨d, rfl⟩ : ∃ d, k = p + 1 + d := ⟨k - (p + 1), by omega⟩
        rw [show p + 1 + d - (p + 1) = d from by omega, show p + 1 + d - p = d + 1 from by omega]
        simp
      · rw [if_neg hk2, if_neg (by omega), Array.getElem?_setIfInBounds_ne (by omega)]
/-- cells that are set, of a block -/
theorem heap_setCells {B : Nat} {t : TypeId} {fr : Nat × Nat} : ∀ (vs : List Value) (o : Nat) (C : Array Value) (w : World), w.heap[B]? = some (.cells C t fr) → (w.setCells B o vs).heap = w.heap.setIfInBounds B (.cells (setA C o vs) t fr)
  | [], o, C, w, h => by
    rw [World.setCells]
    apply Array.ext_getElem?
    intro i
    rw [Array.getElem?_setIfInBounds]
    split
    · rename_i e; subst e
      split
      · exact h
      · rename_i hh; rw [Array.getElem?_eq_none (by omega)] at h; cases h
    · rfl
  | v :: r, o, C, w, h => by
    have hB : B < w.heap.size := by
      rcases Nat.lt_or_ge B w.heap.size with hh | hh
      · exact hh
      · rw [Array.getElem?_eq_none hh] at h; cases h
    have h2 := heap_setCells r (o + 1) (C.setIfInBounds o v) { w with heap := w.heap.setIfInBounds B (.cells (C.setIfInBounds o v) t fr) } (Array.getElem?_setIfInBounds_self_of_lt hB)
    rw [World.setCells, set_at h, h2]
    show (w.heap.setIfInBounds B _).setIfInBounds B _ = w.heap.setIfInBounds B _
    apply Array.ext_getElem?
    intro i
    simp only [Array.getElem?_setIfInBounds, Array.size_setIfInBounds]
    split <;> rfl
theorem keeps_setCells (b : Nat) : ∀ (vs : List Value) (o : Nat) (w : World), (w.setCells b o vs).os = w.os ∧ (w.setCells b o vs).tape = w.tape ∧ (w.setCells b o vs).output = w.output
  | [], _, _ => ⟨rfl, rfl, rfl⟩
  | v :: r, o, w => by
    have := keeps_setCells b r (o + 1) (w.setCell ⟨b, o, none⟩ v)
    rw [World.setCells]; exact this
theorem below_of_set {base : Nat} {w w' : World} {B : Nat} {X : Obj} (h : base ≤ B) (hw : w'.heap = w.heap.setIfInBounds B X) (hk : w'.os = w.os ∧ w'.tape = w.tape ∧ w'.output = w.output) : Below base w w' :=
  ⟨hk.1, hk.2.1, hk.2.2, by rw [hw]; simp, fun k hk => by rw [hw, Array.getElem?_setIfInBounds_ne (by omega)]⟩
theorem CP.row {ρ : Env} {O : Nat} {cs : List V} {C : Array Value} (h : CP ρ O cs C) (hs : O + cs.length ≤ C.size) (o n : Nat) (hn : o + n ≤ cs.length) : LRel ρ ((cs.drop o).take n) ((C.toList.drop (O + o)).take n) := by
  refine LRel.of_get (by simp; omega) fun i v hi => ?_
  have hi' : i < n := by
    have := (List.getElem?_eq_some_iff.1 hi).1
    simp at this; omega
  rw [List.getElem?_take_of_lt hi', List.getElem?_drop] at hi ⊢
  obtain ⟨W, h6, h7⟩ := h _ _ hi
  exact ⟨W, by simpa [Nat.add_assoc] using h6, h7⟩
/-- elements are shifted up in place, others put between; the elder name is struck -/
theorem SRel.insert_in {base : Nat} {ρ : Env} {s : St} {w : World} (h : SRel base ρ s w) {b : Nat} {cs : List V} {t : TypeId} (hg : s.heap.get b = some (.cells cs t false)) {B O S : Nat} (hx : ρ b = some ⟨B, O, S⟩)
    {o len i m : Nat} (hlen : o + len ≤ cs.length) (hi : i ≤ len) {new : List V} {N : List Value} (hnew : LRel ρ new N) (hm : new.length = m) (hfit : O + o + (len + m) ≤ S) {C : Array Value} {t' : TypeId} {fr : Nat × Nat} (hC : w.heap[B]? = some (.cells C t' fr)) :
    SRel base (ρ.put s.next ⟨B, O + o, S⟩) (s.move b (.cells (((cs.drop o).take len).take i ++ (new ++ ((cs.drop o).take len).drop i)) t false)) ((w.drew.setCells B (O + o + (i + m)) (((C.toList.drop (O + o)).take len).drop i)).setCells B (O + o + i) N) ∧
      Below base w ((w.drew.setCells B (O + o + (i + m)) (((C.toList.drop (O + o)).take len).drop i)).setCells B (O + o + i) N) := by
  obtain ⟨C0, t0, fr0, e1, e2, e3, e4, e5, e6, e7⟩ := h.cellsObj hg hx
  simp only at e1 e2 e3 e4 e5 e7
  rw [hC] at e1
  cases e1
  have hB : B < w.heap.size := by
    rcases Nat.lt_or_ge B w.heap.size with hh | hh
    · exact hh
    · rw [Array.getElem?_eq_none hh] at hC; cases hC
  have hrow := CP.row e4 (by rw [e2]; exact e3) o len hlen
  have hrl := hrow.length
  have hnl := hnew.length
  generalize hR : (C.toList.drop (O + o)).take len = R at hrow hrl
  have hRl : R.length = len := by rw [← hR]; simp; omega
  have hRj : ∀ j, j < len → R[j]? = C[O + o + j]? := fun j hj => by rw [← hR, List.getElem?_take_of_lt hj, List.getElem?_drop]; simp
  have q1 := heap_setCells (R.drop i) (O + o + (i + m)) C w.drew hC
  have q2 := heap_setCells N (O + o + i) (setA C (O + o + (i + m)) (R.drop i)) (w.drew.setCells B (O + o + (i + m)) (R.drop i)) (t := t') (fr := fr) (by rw [q1]; exact Array.getElem?_setIfInBounds_self_of_lt hB)
  have q3 : ((w.drew.setCells B (O + o + (i + m)) (R.drop i)).setCells B (O + o + i) N).heap = w.heap.setIfInBounds B (.cells (setA (setA C (O + o + (i + m)) (R.drop i)) (O + o + i) N) t' fr) := by
    rw [q2, q1]
    show (w.heap.setIfInBounds B _).setIfInBounds B _ = w.heap.setIfInBounds B _
    apply Array.ext_getElem?
    intro i
    simp only [Array.getElem?_setIfInBounds, Array.size_setIfInBounds]
    split <;> rfl
  have hfull : LRel ρ (((cs.drop o).take len).take i ++ (new ++ ((cs.drop o).take len).drop i)) (R.take i ++ (N ++ R.drop i)) := (hrow.take i).append (hnew.append (hrow.drop i))
  have hle := Env.le_put ⟨B, O + o, S⟩ h.fresh
  refine ⟨h.move hg hx _ (.cells (setA (setA C (O + o + (i + m)) (R.drop i)) (O + o + i) N) t' fr) (O + o) q3 ⟨_, t', fr, rfl, by rw [setA_size, setA_size]; exact e2, ?_, fun j v hj => ?_, e5, e6⟩, below_of_set e7 q3 ?_⟩
  rotate_left 2
  · obtain ⟨a1, a2, a3⟩ := keeps_setCells B N (O + o + i) (w.drew.setCells B (O + o + (i + m)) (R.drop i))
    obtain ⟨b1, b2, b3⟩ := keeps_setCells B (R.drop i) (O + o + (i + m)) w.drew
    exact ⟨a1.trans b1, a2.trans b2, a3.trans b3⟩
  · have := hfull.length
    simp only [List.length_append, List.length_take, List.length_drop] at this ⊢
    show O + o + _ ≤ S
    omega
  · obtain ⟨X, x1, x2⟩ := hfull.get hj
    refine ⟨X, ?_, VRel.mono hle _ _ x2⟩
    rw [← x1, setA_get _ _ _ _ (by rw [setA_size]; omega), setA_get _ _ _ _ (by simp only [List.length_drop]; omega)]
    simp only [List.length_drop]
    rcases Nat.lt_or_ge j i with h1 | h1
    · rw [if_neg (by omega), if_neg (by omega), List.getElem?_append_left (by simp; omega), List.getElem?_take_of_lt h1, hRj j (by omega)]
    · rw [List.getElem?_append_right (by simp; omega)]
      simp only [List.length_take]
      rcases Nat.lt_or_ge j (i + m) with h2 | h2
      · rw [if_pos (by omega), List.getElem?_append_left (by omega)]
        congr 1; omega
      · rw [if_neg (by omega), List.getElem?_append_right (by omega), List.getElem?_drop]
        by_cases h3 : O + o + j < O + o + (i + m) + (R.length - i)
        · rw [if_pos (by omega), List.getElem?_drop]
          congr 1; omega
        · have := (List.getElem?_eq_some_iff.1 x1).1
          simp only [List.length_append, List.length_take, List.length_drop] at this
          omega
/-- what is struck is asked for no more -/
theorem SRel.strike {base : Nat} {ρ : Env} {s : St} {w : World} {o1 : EObj} (g : SRel base ρ (s.new o1) w) (b : Nat) : SRel base ρ (s.move b o1) w := by
  have sub : ∀ k u, (s.move b o1).heap.get k = some u → (s.new o1).heap.get k = some u := by
    intro k u hk
    simp only [St.move, St.new, T.get_set] at hk ⊢
    split at hk
    · rename_i ee; rw [if_pos ee]; exact hk
    · rename_i ee
      rw [if_neg ee]
      split at hk
      · cases hk
      · exact hk
  exact ⟨g.le, fun k u z hk hz => g.obj k u z (sub k u hk) hz, fun k k' u u' y y' hk hk' hy hy' hne => g.inj k k' u u' y y' (sub k u hk) (sub k' u' hk') hy hy' hne, g.dom, g.top⟩
/-- elements in a new block, others between -/
theorem insert_arr {R N : List Value} {i m : Nat} {Z : Value} {r : Nat} (hi : i ≤ R.length) (hm : N.length = m) :
    setA (setA ((R.take i).toArray ++ (List.replicate (R.length + m - i) Z).toArray ++ (List.replicate r Z).toArray) i N) (i + m) (R.drop i) = (R.take i ++ (N ++ R.drop i)).toArray ++ (List.replicate r Z).toArray := by
  apply Array.ext_getElem?
  intro j
  have hsz : ((R.take i).toArray ++ (List.replicate (R.length + m - i) Z).toArray ++ (List.replicate r Z).toArray).size = R.length + m + r := by simp; omega
  rw [setA_get _ _ _ _ (by rw [setA_size, hsz]; simp; omega), setA_get _ _ _ _ (by rw [hsz]; omega)]
  simp only [List.length_drop, List.append_toArray, List.getElem?_toArray]
  rcases Nat.lt_or_ge j i with h1 | h1
  · rw [if_neg (by omega), if_neg (by omega), List.append_assoc, List.getElem?_append_left (by simp; omega), List.append_assoc, List.getElem?_append_left (by simp; omega)]
  · rcases Nat.lt_or_ge j (i + m) with h2 | h2
    · rw [if_neg (by omega), if_pos (by omega), List.append_assoc, List.getElem?_append_right (by simp; omega), List.append_assoc, List.getElem?_append_left (by simp; omega)]
      congr 1; simp; omega
    · rcases Nat.lt_or_ge j (R.length + m) with h3 | h3
      · rw [if_pos (by omega), List.append_assoc, List.getElem?_append_right (by simp; omega), List.append_assoc, List.getElem?_append_right (by simp; omega), List.getElem?_append_left (by simp; omega)]
        congr 1; simp; omega
      · rw [if_neg (by omega), if_neg (by omega), List.getElem?_append_right (by simp; omega), List.getElem?_append_right (by simp; omega)]
        congr 1; simp; omega
theorem SRel.insert_grow {base : Nat} {ρ : Env} {s : St} {w : World} (h : SRel base ρ s w) (b : Nat) {R N : List Value} {row new : List V} (hrow : LRel ρ row R) (hnew : LRel ρ new N) {i m k : Nat} (hi : i ≤ R.length) (hm : N.length = m) (hk : R.length + m ≤ k) (E t : TypeId) (Z : Value) {w' : World}
    (hw : w' = (((w.alloc (.cells ((R.take i).toArray ++ (List.replicate (R.length + m - i) Z).toArray ++ (List.replicate (k - (R.length + m)) Z).toArray) E)).drew.setCells w.heap.size i N).drew).setCells w.heap.size (i + m) (R.drop i)) :
    ρ.le (ρ.put s.next ⟨w.heap.size, 0, k⟩) ∧ SRel base (ρ.put s.next ⟨w.heap.size, 0, k⟩) (s.move b (.cells (row.take i ++ (new ++ row.drop i)) t false)) w' ∧ Below base w w' := by
  have hfull : LRel ρ (row.take i ++ (new ++ row.drop i)) (R.take i ++ (N ++ R.drop i)) := (hrow.take i).append (hnew.append (hrow.drop i))
  obtain ⟨a1, a2, a3⟩ := h.newLong hfull (List.replicate (k - (R.length + m)) Z).toArray t E w.drawn
  have hsz : ((R.take i ++ (N ++ R.drop i)).toArray ++ (List.replicate (k - (R.length + m)) Z).toArray).size = k := by simp; omega
  rw [hsz] at a1 a2
  generalize hC : (R.take i).toArray ++ (List.replicate (R.length + m - i) Z).toArray ++ (List.replicate (k - (R.length + m)) Z).toArray = C at hw
  have hC2 := insert_arr (R := R) (N := N) (i := i) (m := m) (Z := Z) (r := k - (R.length + m)) hi hm
  rw [hC] at hC2
  have p0 : (w.alloc (.cells C E)).drew.heap = w.heap.push (.cells C E (0, 0)) := rfl
  have q1 := heap_setCells N i C (w.alloc (.cells C E)).drew (B := w.heap.size) (t := E) (fr := (0, 0)) (by rw [p0]; simp)
  have q2 := heap_setCells (R.drop i) (i + m) (setA C i N) (((w.alloc (.cells C E)).drew.setCells w.heap.size i N).drew) (B := w.heap.size) (t := E) (fr := (0, 0)) (by
    show ((w.alloc (.cells C E)).drew.setCells w.heap.size i N).heap[w.heap.size]? = _
    rw [q1, p0]
    exact Array.getElem?_setIfInBounds_self_of_lt (by simp))
  have q3 : w'.heap = w.heap.push (.cells ((R.take i ++ (N ++ R.drop i)).toArray ++ (List.replicate (k - (R.length + m)) Z).toArray) E (0, 0)) := by
    rw [hw, q2]
    show ((w.alloc (.cells C E)).drew.setCells w.heap.size i N).heap.setIfInBounds _ _ = _
    rw [q1, p0, hC2]
    apply Array.ext_getElem?
    intro j
    simp only [Array.getElem?_setIfInBounds, Array.size_setIfInBounds, Array.size_push, Array.getElem?_push]
    split
    · rename_i e; subst e; simp
    · split
      · rename_i e1 e2; exact absurd e2.symm e1
      · rfl
  refine ⟨a1, (a2.strike b).same q3, ?_⟩
  obtain ⟨c1, c2, c3⟩ := keeps_setCells w.heap.size N i (w.alloc (.cells C E)).drew
  obtain ⟨d1, d2, d3⟩ := keeps_setCells w.heap.size (R.drop i) (i + m) (((w.alloc (.cells C E)).drew.setCells w.heap.size i N).drew)
  refine ⟨?_, ?_, ?_, by rw [q3]; simp, fun j hj => ?_⟩
  · rw [hw]; exact d1.trans c1
  · rw [hw]; exact d2.trans c2
  · rw [hw]; exact d3.trans c3
  · rw [q3, Array.getElem?_push, if_neg (by have := h.le; omega)]
/-- what is known of slices.Insert (g) at a slice whose elements have one cell (their type E) -/
structure InsHyp (P : Program) (g : FuncId) (E : TypeId) (Z : Value) : Prop where
  shift : ∀ (b off n c i vb voff m vc : Nat) (cs vs : List Value) (w : World), i < n → 0 < m → n + m ≤ c → c ≤ 9223372036854775807 → vb ≠ b → cs.length = n → vs.length = m →
    (∀ j v, cs[j]? = some v → w.cell? ⟨b, off + j, none⟩ = some v) → (∀ j, j < n + m → (w.cell? ⟨b, off + j, none⟩).isSome = true) → (∀ j, j < n + m → w.frozen? ⟨b, off + j, none⟩ = false) →
    (∀ j v, vs[j]? = some v → w.cell? ⟨vb, voff + j, none⟩ = some v) → (∀ v ∈ cs, v.oneCell' = true) → (∀ v ∈ vs, v.oneCell' = true) →
    ∀ (tA tB : TypeId) (kA kB : Nat), w.shape? vb = some (tA, kA) → w.shape? b = some (tB, kB) → kB ≠ 0 → w.frozen? ⟨vb, voff, none⟩ = false → w.frozen? ⟨vb, kA, none⟩ = false →
    Calls P g #[.slice (some ⟨b, off, none⟩) n c, .int .i64 i, .slice (some ⟨vb, voff, none⟩) m vc] w fun e w' =>
      e = .returned (.slice (some ⟨b, off, none⟩) (n + m) c) ∧ w' = (w.drew.setCells b (off + (i + m)) (cs.drop i)).setCells b (off + i) vs
  grow : ∀ (b off n c i vb voff m vc : Nat) (cs vs : List Value) (w : World), i < n → 0 < m → n ≤ c → c < n + m → (n + m) * 16 ≤ 140737488355328 → cs.length = n → vs.length = m →
    (∀ j v, cs[j]? = some v → w.cell? ⟨b, off + j, none⟩ = some v) → (∀ j v, vs[j]? = some v → w.cell? ⟨vb, voff + j, none⟩ = some v) → (∀ v ∈ cs, v.oneCell' = true) → (∀ v ∈ vs, v.oneCell' = true) →
    Calls P g #[.slice (some ⟨b, off, none⟩) n c, .int .i64 i, .slice (some ⟨vb, voff, none⟩) m vc] w fun e w' => ∃ k, n + m ≤ k ∧ k ≤ 9223372036854775807 ∧
      e = .returned (.slice (some ⟨w.heap.size, 0, none⟩) (n + m) k) ∧
      w' = (((w.alloc (.cells ((cs.take i).toArray ++ (List.replicate (n + m - i) Z).toArray ++ (List.replicate (k - (n + m)) Z).toArray) E)).drew.setCells w.heap.size i vs).drew).setCells w.heap.size (i + m) (cs.drop i)

noncomputable def knownIns (gN : FuncId) : ESelf := fun t s => match t with
  | .fn f [.sl b o len _ _ es, .int .i64 (.ofNat i), .sl vb vo m _ _ ves] =>
    bif Nat.beq f gN && (Nat.beq es 1 && (Nat.beq ves 1 && (Nat.blt i len && (Nat.ble 1 m && (!Nat.beq b vb && Nat.ble (len + m) 1099511627776))))) then
      (match s.heap.get b, s.heap.get vb with
      | some (.cells cs t' false), some (.cells vs _ false) =>
        bif Nat.ble (o + len) (llen cs) && (Nat.ble (vo + m) (llen vs) && (lall oneV cs && lall oneV vs)) then
          some (.ret (.sl s.next 0 (len + m) (len + m) false 1), s.move b (.cells (lapp (ltake (ltake (ldrop cs o) len) i) (lapp (ltake (ldrop vs vo) m) (ldrop (ltake (ldrop cs o) len) i))) t' false)) else none
      | _, _ => none) else none
  | _ => none
theorem knownIns_ok {P : Program} {g : FuncId} {E : TypeId} {Z : Value} (H : InsHyp P g E Z) : SelfOK P (knownIns g) := by
  intro t s e s' hk base ρ w hS n
  cases t with
  | round l args => cases hk
  | fn f args =>
    intro A hA
    simp only [knownIns] at hk
    split at hk
    · rename_i f2 b o len cp x es i vb vo m cp2 x2 ves heq
      cases heq
      cases hb : (Nat.beq f g && (Nat.beq es 1 && (Nat.beq ves 1 && (Nat.blt i len && (Nat.ble 1 m && (!Nat.beq b vb && Nat.ble (len + m) 1099511627776)))))) with
      | false => rw [hb] at hk; cases hk
      | true =>
      rw [hb, cond_true] at hk
      simp only [Bool.and_eq_true, Nat.beq_eq, Nat.ble_eq, Bool.not_eq_true', blt_iff, decide_eq_true_eq] at hb
      obtain ⟨rfl, rfl, rfl, b1, b2, b3, b4⟩ := hb
      split at hk
      · rename_i cs t' vs tv hgb hgv
        cases hc : (Nat.ble (o + len) (llen cs) && (Nat.ble (vo + m) (llen vs) && (lall oneV cs && lall oneV vs))) with
        | false => rw [hc] at hk; cases hk
        | true =>
        rw [hc, cond_true] at hk
        simp only [Bool.and_eq_true, Nat.ble_eq, llen_eq, lall_eq] at hc
        obtain ⟨c1, c2, c3, c4⟩ := hc
        simp only [lapp_eq, ltake_eq, ldrop_eq, Option.some.injEq, Prod.mk.injEq] at hk
        obtain ⟨rfl, rfl⟩ := hk
        obtain ⟨X1, Y1, e1, h1, X2, Y2, e2, h2, X3, Y3, e3, h3, e4⟩ := hA
        have e4 : Y3 = [] := e4
        have hA3 : A = #[X1, X2, X3] := by
          apply Array.ext'
          rw [e1, e2, e3, e4]
        subst hA3
        simp only [VRel] at h1 h2 h3
        obtain ⟨B, O, S, cap', hB, rfl, k1, k2, k3, k4, k5⟩ := h1
        subst h2
        obtain ⟨VB, VO, VS, vcap, hVB, rfl, v1, v2, v3, v4, v5⟩ := h3
        obtain ⟨C, tC, fr, p1, p2, p3, p4, p5, p6, p7⟩ := hS.cellsObj hgb hB
        obtain ⟨D, tD, fd, r1, r2, r3, r4, r5, r6, r7⟩ := hS.cellsObj hgv hVB
        have p6 := p6 rfl
        subst p6
        have r6 := r6 rfl
        subst r6
        simp only at p1 p2 p3 p4 p7 r1 r2 r3 r4 r7
        have hne : VB ≠ B := fun e => by
          have hbv : b ≠ vb := fun e => by rw [e, Nat.beq_refl] at b3; cases b3
          exact hS.inj b vb _ _ _ _ hgb hgv hB hVB hbv e.symm
        have hrow := CP.row p4 (by rw [p2]; exact p3) o len c1
        have hnew := CP.row r4 (by rw [r2]; exact r3) vo m c2
        have hRl : ((C.toList.drop (O + o)).take len).length = len := by simp; omega
        have hNl : ((D.toList.drop (VO + vo)).take m).length = m := by simp; omega
        have hRc : ∀ j v, ((C.toList.drop (O + o)).take len)[j]? = some v → w.cell? ⟨B, O + o + j, none⟩ = some v := fun j v hj => by
          have hj' : j < len := by have := (List.getElem?_eq_some_iff.1 hj).1; omega
          rw [List.getElem?_take_of_lt hj', List.getElem?_drop] at hj
          simp only [Array.getElem?_toList] at hj
          simp [World.cell?, p1, hj]
        have hNc : ∀ j v, ((D.toList.drop (VO + vo)).take m)[j]? = some v → w.cell? ⟨VB, VO + vo + j, none⟩ = some v := fun j v hj => by
          have hj' : j < m := by have := (List.getElem?_eq_some_iff.1 hj).1; omega
          rw [List.getElem?_take_of_lt hj', List.getElem?_drop] at hj
          simp only [Array.getElem?_toList] at hj
          simp [World.cell?, r1, hj]
        have all_sub : ∀ (l : List V) (a k : Nat), l.all oneV = true → ((l.drop a).take k).all oneV = true := fun l a k h => by
          rw [List.all_eq_true] at h ⊢
          exact fun x hx => h x (List.mem_of_mem_drop (List.mem_of_mem_take hx))
        have hR1 := allOne_rel hrow (all_sub _ _ _ c3)
        have hN1 := allOne_rel hnew (all_sub _ _ _ c4)
        rcases Nat.lt_or_ge cap' (len + m) with hgt | hle
        · refine callsIn_wide.2 ((H.grow B (O + o) len cap' i VB (VO + vo) m vcap _ _ w b1 (by omega) (by omega) hgt (by omega) hRl hNl hRc hNc hR1 hN1).mono ?_)
          rintro En w' ⟨k, q1, q2, rfl, hw⟩
          obtain ⟨a1, a2, a3⟩ := hS.insert_grow b hrow hnew (i := i) (m := m) (k := k) (by omega) hNl (by omega) E t' Z (w' := w') (by rw [hRl]; exact hw)
          refine ⟨_, a1, ⟨_, rfl, ?_⟩, a2, a3⟩
          simp only [VRel]
          exact ⟨w.heap.size, 0, k, k, Env.put_same, rfl, Nat.le_refl _, q1, by simp, by omega, q2⟩
        · refine callsIn_wide.2 ((H.shift B (O + o) len cap' i VB (VO + vo) m vcap _ _ w b1 (by omega) hle k5 hne hRl hNl hRc (fun j hj => ?_) (fun j hj => ?_) hNc hR1 hN1 tD tC D.size C.size ?_ ?_ ?_ ?_ ?_).mono ?_)
          · have : O + o + j < C.size := by omega
            simp [World.cell?, p1, this]
          · simp [World.frozen?, p1]
          · simp [World.shape?, r1]
          · simp [World.shape?, p1]
          · omega
          · simp [World.frozen?, r1]
          · simp [World.frozen?, r1]
          · rintro En w' ⟨rfl, hw⟩
            obtain ⟨a1, a2⟩ := hS.insert_in hgb hB (o := o) (len := len) (i := i) (m := m) c1 (by omega) hnew (by rw [hnew.length]; exact hNl) (by omega) p1
            rw [← hw] at a1 a2
            refine ⟨_, Env.le_put _ hS.fresh, ⟨_, rfl, ?_⟩, a1, a2⟩
            simp only [VRel]
            exact ⟨B, O + o, S, cap', Env.put_same, rfl, Nat.le_refl _, hle, by simp, by omega, k5⟩
      · cases hk
    · cases hk
end Go.Eng
