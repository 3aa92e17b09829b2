/-
  Texts of this claim, one behind the other: SymKs FlList FlSt FlAtL FlAtA. Each says its own conditions.
-/
import Derived.Test.YtechbadkbiognaaFlaM16
import Derived.Sort.KeysCollected
import Derived.Sort.Walk0
import Derived.Laws.AppendOwn
import Derived.Test.YtechbadkbiognaaFlaM6
import Derived.Test.YtechbadkbiognaaProg
import Derived.Test.YtechbadkbiognaaRows
import Derived.WalkKit
import Derived.Below

set_option linter.unusedVariables false
set_option linter.unusedSimpArgs false
set_option linter.unusedSectionVars false
section
namespace Go.Sym
open Go.RowKit (Below)
open Go.Proofs (encStr)
set_option linter.unusedSimpArgs false
set_option linter.unusedVariables false

noncomputable def ltT : ByteArray → ByteArray → Bool := hide fun a b => decide (a.data.toList < b.data.toList)
theorem ltT_eq : ltT = fun a b => decide (a.data.toList < b.data.toList) := hide_eq _
def ascB : List ByteArray → Bool
  | x :: l => (match l with
    | y :: _ => decide (x.data.toList < y.data.toList)
    | [] => true) && (decide (x.size ≤ 1099511627776) && ascB l)
  | [] => true
noncomputable def keysOK : List ByteArray → Bool := hide ascB
theorem keysOK_eq : keysOK = ascB := hide_eq _
theorem ascB_pairwise : ∀ {l : List ByteArray}, ascB l = true → (l.map fun x => x.data.toList).Pairwise (· < ·) ∧ ∀ x ∈ l, x.size ≤ 1099511627776
  | [], _ => ⟨.nil, fun _ h => by cases h⟩
  | [x], h => by
    simp only [ascB, Bool.and_eq_true, decide_eq_true_eq] at h
    exact ⟨by simp, fun y hy => by simp at hy; subst hy; exact h.2.1⟩
  | x :: y :: l, h => by
    rw [ascB] at h
    simp only [Bool.and_eq_true, decide_eq_true_eq] at h
    obtain ⟨i1, i2⟩ := ascB_pairwise (l := y :: l) h.2.2
    rw [List.map_cons, List.pairwise_cons]
    refine ⟨⟨fun z hz => ?_, i1⟩, fun z hz => ?_⟩
    · rw [List.map_cons] at hz i1
      rcases List.mem_cons.1 hz with rfl | hz
      · exact h.1
      · exact List.lt_trans h.1 ((List.pairwise_cons.1 i1).1 z hz)
    · rcases List.mem_cons.1 hz with rfl | hz
      · exact h.2.1
      · exact i2 z hz

noncomputable section
def keysE : List (V × V × Nat) → Option (List ByteArray)
  | [] => some []
  | e :: l => match e.1 with
    | .str x => (match keysE l with
      | some r => some (x :: r)
      | none => none)
    | _ => none
def bornT (clock : Nat) : List (V × V × Nat) → Bool
  | e :: l => (match l with
    | e' :: _ => Nat.blt e.2.2 e'.2.2
    | [] => Nat.blt e.2.2 clock) && bornT clock l
  | [] => true
def insH (x : ByteArray) (K : List ByteArray → HR) (l : List ByteArray) : List ByteArray → HR :=
  @List.rec ByteArray (fun _ => List ByteArray → HR) (fun acc => K (lapp acc [x])) (fun y l ih acc => .ite (ltT x y) (K (lapp acc (x :: y :: l))) (ih (lapp acc [y]))) l
def sortH (l : List ByteArray) : (List ByteArray → HR) → HR :=
  @List.rec ByteArray (fun _ => (List ByteArray → HR) → HR) (fun K => K []) (fun x _ ih K => ih fun r => insH x K r []) l
def sortRes (K : TypeId) (os : List EObj) (r : List ByteArray) : HR := match r with
  | [] => .res [] (.ret .nils) (idxO 0 os) (llen os)
  | x :: l => .res [keysOK (x :: l)] (.ret (.sl (llen os) 0 (Nat.succ (llen l)) (Nat.succ (llen l)) false 1)) (idxO 0 (lapp os [.cells (.str x :: l.map V.str) K false])) (Nat.succ (llen os))
def srtF (K : TypeId) (args : List V) (os : List EObj) : Option HR := match args with
  | [.ptr 0 0] => (match os with
    | .cells (.map 1 :: _ :: _ :: .bool true :: _) _ _ :: .map es clock :: _ => (match keysE es with
      | some ks => bif bornT clock es && Nat.ble (llen ks) 1099511627776 then some (sortH ks (sortRes K os)) else none
      | none => none)
    | _ => none)
  | _ => none
end

section
variable {P : Program} {k : Nat} {g : FuncId} {args : List V} {os : List EObj}
theorem insH_ok {x : ByteArray} {K : List ByteArray → HR} : ∀ (l acc : List ByteArray), (∀ r, r.Perm (x :: (acc ++ l)) → HRAt P k g args os (K r)) → HRAt P k g args os (insH x K l acc)
  | [], acc, h => by
    show HRAt P k g args os (K (lapp acc [x]))
    rw [lapp_eq]
    exact h _ (by rw [List.append_nil]; exact List.perm_append_singleton x acc)
  | y :: l, acc, h => by
    show (ltT x y = true → HRAt P k g args os (K (lapp acc (x :: y :: l)))) ∧ (ltT x y = false → HRAt P k g args os (insH x K l (lapp acc [y])))
    rw [lapp_eq, lapp_eq]
    refine ⟨fun _ => h _ List.perm_middle, fun _ => insH_ok l _ fun r hr => h r ?_⟩
    rw [List.append_assoc] at hr
    exact hr
theorem sortH_ok : ∀ (l : List ByteArray) (K : List ByteArray → HR), (∀ r, r.Perm l → HRAt P k g args os (K r)) → HRAt P k g args os (sortH l K)
  | [], K, h => h [] (.refl _)
  | x :: l, K, h => sortH_ok l (fun r => insH x K r []) fun r hr => insH_ok r [] fun r' hr' => h r' (hr'.trans (hr.cons x))

theorem keysE_rel {ρ : Env} : ∀ {es : List (V × V × Nat)} {ks : List ByteArray} {E : List MapEntry}, keysE es = some ks → MRel ρ es E → E.map (·.key) = (ks.map fun x => x.data.toList).map encStr
  | [], ks, E, h, r => by
    simp only [keysE] at h; cases h
    have r : E = [] := r
    subst r; rfl
  | e :: l, ks, E, h, r => by
    obtain ⟨x, y, rfl, h1, _, _, h5⟩ := r
    simp only [keysE] at h
    split at h
    · rename_i z hz
      split at h
      · rename_i r hr
        cases h
        have g1 := keysE_rel hr h5
        rw [hz] at h1
        simp only [VRel] at h1
        simp only [List.map_cons, g1, h1]
      · cases h
    · cases h
theorem bornT_rel {ρ : Env} {clock : Nat} : ∀ {es : List (V × V × Nat)} {E : List MapEntry}, bornT clock es = true → MRel ρ es E → (E.map (·.born)).Pairwise (· < ·) ∧ ∀ x ∈ E, x.born < clock
  | [], E, _, r => by have r : E = [] := r; subst r; exact ⟨.nil, fun x hx => by cases hx⟩
  | [e], E, h, r => by
    obtain ⟨x, y, rfl, _, _, h3, h5⟩ := r
    have h5 : y = [] := h5
    subst h5
    simp only [bornT, Bool.and_true, blt_iff, decide_eq_true_eq] at h
    exact ⟨by simp, fun z hz => by simp at hz; subst hz; omega⟩
  | e :: e' :: l, E, h, r => by
    obtain ⟨x, y, rfl, _, _, h3, h5⟩ := r
    rw [bornT, Bool.and_eq_true] at h
    obtain ⟨h, hh⟩ := h
    simp only [blt_iff, decide_eq_true_eq] at h
    obtain ⟨g1, g2⟩ := bornT_rel (es := e' :: l) hh h5
    obtain ⟨x', y', rfl, _, _, h3', _⟩ := h5
    rw [List.map_cons] at g1 ⊢
    have hx : x.born < x'.born := by omega
    refine ⟨List.pairwise_cons.2 ⟨fun z hz => ?_, by rw [List.map_cons]; exact g1⟩, fun z hz => ?_⟩
    · rw [List.map_cons] at hz
      rcases List.mem_cons.1 hz with rfl | hz
      · exact hx
      · exact Nat.lt_trans hx ((List.pairwise_cons.1 g1).1 z hz)
    · rcases List.mem_cons.1 hz with rfl | hz
      · exact Nat.lt_trans hx (g2 x' List.mem_cons_self)
      · exact g2 z hz
end

structure ListHyp (P : Program) (gS : FuncId) (K : TypeId) : Prop where
  sorted : ∀ (B O b : Nat) (es : Array MapEntry) (clock : Nat) (ks : List (List UInt8)) (w : World), w.cell? ⟨B, O, none⟩ = some (.map (some b)) → w.cell? ⟨B, O + 3, none⟩ = some (.bool true) → w.heap[b]? = some (.map es clock) → es.toList.map (·.key) = ks.map encStr →
    (∀ k ∈ ks, k.length ≤ 1099511627776) → MapKept.Stamped es clock → ks.length ≤ 1099511627776 →
    Calls P gS #[.pointer (some ⟨B, O, none⟩)] w fun e w' => ∃ (v : Value) (ss : List (List UInt8)), e = .returned v ∧ ss.Perm ks ∧
      w'.ownsRow w.heap.size K 1 v ss.length ((ss.mergeSort (fun x y => decide (x ≤ y))).map encStr) ∧ (v = .slice none 0 0 ↔ ss = []) ∧ Below w.heap.size w w'

theorem SRel.attach {own : Own} {ρ : Env} {s : St} {w : World} (h : SRel own ρ s w) (o : EObj) {B S : Nat} (hown : own B) (hφ : ∀ k, ρ.φ B k = none) (hlt : B < w.heap.size) (hf : ∀ b o x, s.heap.get b = some o → ρ b = some x → x.B ≠ B)
    (ho : ORel (ρ.put s.next ⟨B, 0, S⟩) 0 S w.heap[B]? o) : ρ.le (ρ.put s.next ⟨B, 0, S⟩) ∧ SRel own (ρ.put s.next ⟨B, 0, S⟩) (s.new o) w := by
  have hle := Env.le_put ⟨B, 0, S⟩ h.fresh
  refine ⟨hle, h.le, ?_, ?_, ?_, by simp only [Env.put, St.new]; have := h.top; omega, h.fz, h.old⟩
  · intro b o' y hb hy
    simp only [St.new, T.get_set] at hb
    split at hb
    · rename_i e; subst e; cases hb
      rw [Env.put_same] at hy; cases hy
      exact ⟨⟨hown, hφ⟩, ho⟩
    · rename_i e
      rw [Env.put_ne e] at hy
      obtain ⟨h2, h3⟩ := h.obj b o' y hb hy
      exact ⟨h2, h3.mono hle⟩
  · intro b b' o1 o2 x x' hb hb' hx hx' hne
    simp only [St.new, T.get_set] at hb hb'
    simp only [Env.put] at hx hx'
    by_cases e : b = s.next
    · subst e
      have e' : b' ≠ s.next := fun e => hne e.symm
      simp only [e', if_false] at hb' hx'
      simp only [if_true] at hx
      cases hx
      exact fun q => hf b' o2 x' hb' hx' q.symm
    · simp only [e, if_false] at hb hx
      by_cases e' : b' = s.next
      · subst e'
        simp only [if_true] at hx'
        cases hx'
        exact hf b o1 x hb hx
      · simp only [e', if_false] at hb' hx'
        exact h.inj b b' o1 o2 x x' hb hb' hx hx' hne
  · intro b x hx
    simp only [Env.put] at hx
    show b < s.next + 1
    split at hx
    · omega
    · have := h.dom b x hx; omega

theorem idxO_get0 : ∀ (l : List EObj) (j b : Nat), (heapOf (idxO j l)).get b = if b < j then none else l[b - j]?
  | [], j, b => by rw [idxO, heapOf, T.get_leaf]; simp
  | a :: l, j, b => by
    rw [idxO, heapOf, T.get_set, idxO_get0 l (j + 1) b]
    show (if b = j then some a else _) = _
    by_cases e : b = j
    · subst e; simp
    · rw [if_neg e]
      rcases Nat.lt_or_ge b j with hb | hb
      · rw [if_pos (by omega), if_pos hb]
      · rw [if_neg (by omega), if_neg (by omega), show b - j = (b - (j + 1)) + 1 by omega, List.getElem?_cons_succ]

theorem arr1'' {A : Array Value} {X : Value} (h : A.toList = [X]) : A = #[X] := by cases A; simp at h; simp [h]

theorem srtF_ok {P : Program} {gS : FuncId} {K : TypeId} (H : ListHyp P gS K) (k : Nat) (args : List V) (os : List EObj) (r : HR) (h : srtF K args os = some r) : HRAt P k gS args os r := by
  unfold srtF at h
  split at h
  · split at h
    · rename_i c1 c2 cs t ish es clock rest
      split at h
      · rename_i ks hks
        simp only [llen_eq] at h
        cases hb : (bornT clock es && Nat.ble ks.length 1099511627776) with
        | false => rw [hb] at h; cases h
        | true =>
        rw [hb, cond_true] at h
        simp only [Bool.and_eq_true, Nat.ble_eq] at hb
        obtain ⟨b2, b3⟩ := hb
        cases h
        generalize hos : (EObj.cells (.map 1 :: c1 :: c2 :: .bool true :: cs) t ish :: .map es clock :: rest) = os
        refine sortH_ok ks _ fun r hr => ?_
        have main : ascB r = true → ∀ (own : Own) (ρ : Env) (w : World) (A : Array Value), SRel own ρ ⟨heapOf (idxO 0 os), os.length⟩ w → LRel ρ [.ptr 0 0] A.toList →
            Calls P gS A w fun E w' => ∃ v, E = .returned v ∧ Below w.heap.size w w' ∧ (r = [] → v = .slice none 0 0) ∧ (r ≠ [] → ∃ g cap cur, v = .slice (some ⟨g, 0, none⟩) r.length cap ∧ r.length ≤ cap ∧ w.heap.size ≤ g ∧ g < w'.heap.size ∧ w'.heap[g]? = some (.cells cur K (0, 0)) ∧ cur.size = cap * 1 ∧ cur.toList.take (r.length * 1) = (r.map fun x => x.data.toList).map encStr) := by
          intro hasc0 own ρ w A hS hA
          obtain ⟨hasc, hsz⟩ := ascB_pairwise hasc0
          obtain ⟨X1, Y1, e4, h4, e5⟩ := hA
          have e5 : Y1 = [] := e5
          subst e5
          obtain rfl := arr1'' e4
          simp only [VRel] at h4
          obtain ⟨B, O, S, hB, rfl⟩ := h4
          have q0 : (heapOf (idxO 0 os)).get 0 = some (.cells (.map 1 :: c1 :: c2 :: .bool true :: cs) t ish) := by rw [idxO_get0, ← hos]; rfl
          have q1 : (heapOf (idxO 0 os)).get 1 = some (.map es clock) := by rw [idxO_get0, ← hos]; rfl
          obtain ⟨C, t', fr, g1, g2, g3, g4, _⟩ := (hS.obj _ _ _ q0 hB).2
          obtain ⟨W, c1', c2'⟩ := g4 0 (.map 1) rfl
          simp only [VRel] at c2'
          obtain ⟨Bm, Om, Sm, hBm, rfl⟩ := c2'
          obtain ⟨W3, d1, d2⟩ := g4 3 (.bool true) rfl
          simp only [VRel] at d2
          subst d2
          obtain ⟨E, hE, hrel⟩ := (hS.obj _ _ _ q1 hBm).2
          have k1 := keysE_rel hks hrel
          obtain ⟨k3, k4⟩ := bornT_rel b2 hrel
          have hperm : (r.map fun x : ByteArray => x.data.toList).Perm (ks.map fun x => x.data.toList) := hr.map _
          have hnd : (ks.map fun x : ByteArray => x.data.toList).Nodup := by
            rw [← hperm.nodup_iff]
            exact hasc.imp fun h e => by subst e; exact List.lt_irrefl _ h
          have hst : MapKept.Stamped E clock := by
            refine ⟨k4, k3.imp fun h => Nat.ne_of_lt h, ?_⟩
            rw [k1]
            exact List.pairwise_map.2 (List.Pairwise.imp (fun hne e => hne (by simpa [encStr] using e)) hnd)
          have hkl : ∀ k ∈ ks.map (fun x : ByteArray => x.data.toList), k.length ≤ 1099511627776 := fun k hk => by
            obtain ⟨x, hx, rfl⟩ := List.mem_map.1 hk
            exact hsz x (hr.mem_iff.2 hx)
          refine (H.sorted B O Bm E clock (ks.map fun x => x.data.toList) w (by simp only [World.cell?, g1]; simpa using c1') (by simp only [World.cell?, g1]; exact d1) hE k1 hkl hst (by simpa using b3)).mono ?_
          rintro En w' ⟨v, ss, rfl, hp, hrow, hnil, hbel⟩
          have hsort : ss.mergeSort (fun x y => decide (x ≤ y)) = r.map fun x : ByteArray => x.data.toList := by
            have tr : ∀ a b c : List UInt8, decide (a ≤ b) = true → decide (b ≤ c) = true → decide (a ≤ c) = true := fun a b c h1 h2 => by
              simp only [decide_eq_true_eq] at *; exact List.le_trans h1 h2
            have to : ∀ a b : List UInt8, (decide (a ≤ b) || decide (b ≤ a)) = true := fun a b => by simp only [Bool.or_eq_true, decide_eq_true_eq]; exact List.le_total a b
            refine List.Perm.eq_of_pairwise (le := fun a b => decide (a ≤ b) = true) (fun a b _ _ h1 h2 => ?_) (List.pairwise_mergeSort tr to ss) (hasc.imp fun h => by simp only [decide_eq_true_eq]; exact List.le_of_lt h) (((List.mergeSort_perm ss _).trans hp).trans hperm.symm)
            simp only [decide_eq_true_eq] at h1 h2
            exact List.le_antisymm h1 h2
          rw [hsort] at hrow
          have hlen : ss.length = r.length := by rw [hp.length_eq, List.length_map, hr.length_eq]
          refine ⟨v, rfl, hbel, fun hr0 => hnil.2 (List.length_eq_zero_iff.1 (by rw [hlen, hr0]; rfl)), fun hr0 => ?_⟩
          have hne : ss ≠ [] := fun e => hr0 (List.length_eq_zero_iff.1 (by rw [← hlen, e]; rfl))
          rw [hlen] at hrow
          rcases hrow.2 with ⟨hv, _⟩ | ⟨g, cap, cur, rfl, q1, q2, q3, q4, q5, q6⟩
          · exact absurd (hnil.1 hv) hne
          · refine ⟨g, cap, cur, rfl, q3, q1, ?_, q2, q5, q6⟩
            rcases Nat.lt_or_ge g w'.heap.size with hh | hh
            · exact hh
            · rw [Array.getElem?_eq_none hh] at q2; cases q2
        have grow : ∀ (own : Own) (ρ : Env) (w w' : World), SRel own ρ ⟨heapOf (idxO 0 os), os.length⟩ w → Below w.heap.size w w' → SRel own ρ ⟨heapOf (idxO 0 os), os.length⟩ w' ∧ Fr own w w' := fun own ρ w w' hS hbel => by
          obtain ⟨_, g2, g3⟩ := hS.grow hbel (φ' := ρ.φ) (fun _ _ _ h => h) (fun _ _ _ => rfl) (fun B k u hu => by
            have hc := hS.fz B k u hu
            have hlt : B < w.heap.size := Nat.lt_of_not_le fun hh => by simp [World.cell?, Array.getElem?_eq_none hh] at hc
            rw [cell_of_block (h := hbel.block B hlt)]
            exact hc)
          exact ⟨g2, g3⟩
        cases r with
        | nil =>
          intro _ own ρ w A hS hA
          refine (main rfl own ρ w A hS hA).mono ?_
          rintro E w' ⟨v, rfl, hbel, h1, _⟩
          obtain ⟨g2, g3⟩ := grow own ρ w w' hS hbel
          refine ⟨ρ, Env.cut_le ρ k, ⟨v, rfl, by rw [h1 rfl]; simp only [VRel]⟩, by rw [llen_eq]; exact g2, g3⟩
        | cons x l =>
          intro hc own ρ w A hS hA
          have hok : ascB (x :: l) = true := by rw [← keysOK_eq]; exact hc.1
          refine (main hok own ρ w A hS hA).mono ?_
          rintro E w' ⟨v, rfl, hbel, _, h1⟩
          obtain ⟨g2, g3⟩ := grow own ρ w w' hS hbel
          obtain ⟨g, cap, cur, rfl, p1, p2, p3, p4, p5, p6⟩ := h1 (by simp)
          have hφ : ∀ j, ρ.φ g j = none := fun j => by
            cases e : ρ.φ g j with
            | none => rfl
            | some u =>
              have := hS.fz _ _ _ e
              simp [World.cell?, Array.getElem?_eq_none p2] at this
          have hlr : LRel (ρ.put os.length ⟨g, 0, cur.size⟩) (.str x :: l.map V.str) (cur.toList.take ((x :: l).length * 1)) := by
            rw [p6]
            show LRel _ ((x :: l).map V.str) _
            generalize x :: l = m
            induction m with
            | nil => exact LRel.nil
            | cons a m ih => exact LRel.cons (by simp only [VRel, encStr]) ih
          obtain ⟨a1, a2⟩ := g2.attach (.cells (.str x :: l.map V.str) K false) (B := g) (S := cur.size) (hS.le g p2) hφ p3 (fun b o y h1 h2 e => by
              have := hS.lt h1 h2
              omega) (by
            refine ⟨cur, K, (0, 0), p4, rfl, ?_, fun i v hi => ?_, by simp, fun _ => rfl⟩
            · have h1 := hlr.length
              have h2 : (cur.toList.take ((x :: l).length * 1)).length ≤ cur.size := by simp; omega
              rw [Nat.zero_add, h1]; exact h2
            · obtain ⟨Z, z1, z2⟩ := hlr.get hi
              rw [List.getElem?_take] at z1
              split at z1
              · exact ⟨Z, by simpa using z1, z2⟩
              · cases z1)
          have a3 := a2.congr (T' := heapOf (idxO 0 (lapp os [.cells (.str x :: l.map V.str) K false]))) fun j => by
            show _ = ((heapOf (idxO 0 os)).set os.length (some _)).get j
            rw [T.get_set, idxO_get0, idxO_get0, lapp_eq]
            simp only [Nat.not_lt_zero, if_false, Nat.sub_zero]
            split
            · rename_i e; subst e; simp
            · rename_i e
              rcases Nat.lt_or_ge j os.length with hj | hj
              · rw [List.getElem?_append_left hj]
              · rw [List.getElem?_append_right hj, List.getElem?_eq_none (by simp; omega), List.getElem?_eq_none (by omega)]
          refine ⟨_, Env.le_trans (Env.cut_le ρ k) a1, ⟨_, rfl, ?_⟩, by rw [llen_eq]; exact a3, g3⟩
          simp only [VRel, llen_eq]
          exact ⟨g, 0, cur.size, cap, Env.put_same, rfl, Nat.le_refl _, p1, by simp, by rw [p5]; simp⟩
      · cases h
    · cases h
  · cases h
end Go.Sym
end

section
namespace Go.Proofs.Ytechbadkbiognaa
open Go.RowKit Go.ChangeShapes Go.WideShapes

theorem owns_base {w : World} {a b : Nat} {e : TypeId} {m n : Nat} {v : Value} {xs : List Value} (h : w.ownsRow b e m v n xs) (hab : a ≤ b) : w.ownsRow a e m v n xs := by
  refine ⟨h.1, ?_⟩
  rcases h.2 with h | ⟨g, cap, cur, h1, h2, h3⟩
  · exact .inl h
  · exact .inr ⟨g, cap, cur, h1, Nat.le_trans hab h2, h3⟩
theorem cell_box (w : World) (C : Array Value) (t : TypeId) (i : Nat) : (w.alloc (.cells C t)).cell? ⟨w.heap.size, i, none⟩ = C[i]? := by
  have h : (w.alloc (.cells C t)).heap[w.heap.size]? = some (.cells C t (0, 0)) := by
    show (w.heap.push _)[w.heap.size]? = _
    simp
  unfold World.cell?
  rw [h]
  rfl
theorem heap_old (w : World) (o : Obj) (b : Nat) (x : Obj) (h : w.heap[b]? = some x) : (w.alloc o).heap[b]? = some x := by
  show (w.heap.push _)[b]? = _
  have hlt : b < w.heap.size := by
    rcases Nat.lt_or_ge b w.heap.size with hh | hh
    · exact hh
    · rw [Array.getElem?_eq_none hh] at h; cases h
  rw [Array.getElem?_push, if_neg (by omega)]
  exact h

set_option maxRecDepth 100000 in
theorem filesList : Go.Sym.ListHyp Try.prog 34 9 where
  sorted := fun B O b es clock ks w h0 h3 hb hk hl hst hn => by
    have c0 := cell_box w #[.map (some b)] 51 0
    have hbx := heap_old w (.cells #[.map (some b)] 51) b _ hb
    have hS := filesKeys.sorted w.heap.size b es clock ks (w.alloc (.cells #[.map (some b)] 51)) (by show w.heap.size < (w.heap.push _).size; simp) (by rw [c0]; rfl) hbx hk hl hst hn
    have hK := filesKeys.keys b w
    clear hbx c0
    go_enter Try.func34, Try.ntmps34
    go_wp2_with (first | (go_at_call 55; refine hK.mono ?_; rintro e w1 ⟨rfl, rfl⟩) | (go_at_call 54; refine hS.mono ?_; rintro e w2 ⟨v, ss, rfl, hp, hr, hn', hB⟩))
    go_ret
    exact ⟨v, ss, rfl, hp, owns_base hr (by show w.heap.size ≤ (w.heap.push _).size; simp), hn', ((Below.refl _ w).alloc (Nat.le_refl _) _).trans (hB.mono (by show w.heap.size ≤ (w.heap.push _).size; simp))⟩
end Go.Proofs.Ytechbadkbiognaa
end

section
namespace Go.Proofs.Ytechbadkbiognaa
open Go.Sym
set_option linter.unusedVariables false
set_option linter.unusedSimpArgs false
set_option maxRecDepth 100000
set_option maxHeartbeats 4000000
theorem strOf_byL (s : ByteArray) : Sym.strOf (bytesL s) = s := by
  apply ByteArray.ext
  unfold Sym.strOf bytesL
  rw [List.map_map]
  have e : (s.data.toList.map ((fun n : Int => UInt8.ofNat n.toNat) ∘ fun b : UInt8 => (b.toNat : Int))) = s.data.toList := by
    rw [List.map_congr_left (g := id)]
    · simp
    · intro x _
      simp
  rw [e]
theorem strOf_all {L : List Int} {n : Nat} (h : n = L.length) : Sym.strOf (List.take n (List.drop 0 L)) = Sym.strOf L := by
  subst h; rw [List.drop_zero, List.take_length]
theorem lay_nil0 (s : ByteArray) : layL [] 0 s = bytesL s := by rw [layL_eq]; simp
theorem bytesL_mt : bytesL ⟨#[]⟩ = [] := rfl
noncomputable def keepT : ByteArray → Int → ByteArray := hide fun s fate => cutS s 0 (min (s.size : Int) (fate * (0 + (s.size : Int)) / 255)).toNat
theorem keepT_eq (s : ByteArray) (fate : Int) : cutS s 0 (min (s.size : Int) (fate * (0 + (s.size : Int)) / 255)).toNat = keepT s fate := by unfold keepT; rw [hide_eq]
theorem keepT_size (s : ByteArray) (fate : Int) : (keepT s fate).size ≤ s.size := by
  rw [← keepT_eq, cutS_size]; omega
theorem keepT_mt (s : ByteArray) (fate : Int) (h : (min (s.size : Int) (fate * (0 + (s.size : Int)) / 255)).toNat = 0) : keepT s fate = ⟨#[]⟩ := by
  rw [← keepT_eq, h, cutS_eq]
  apply ByteArray.ext
  simp
theorem lay_mt (s : ByteArray) : layL (bytesL ⟨#[]⟩) 0 s = bytesL s := by rw [bytesL_mt, lay_nil0]
theorem strOf_len (s : ByteArray) : Sym.strOf (List.take s.size (List.drop 0 (bytesL s))) = s := by
  rw [strOf_all (bytesL_len s).symm, strOf_byL]
theorem stays0 (b : ByteArray) (N : List Int) (c : Nat) (fate : Int) (t t2 : TypeId) (i2 : Bool) (hb : b.size ≤ 1000000000) (hf : 0 ≤ fate ∧ fate ≤ 255) : HeapAt Try.prog 1 35 [.ptr 0 0, .int .i64 fate]
    [.cells [.str b, .nils, .rs 1 0 N.length c false 1] t false, .rows byE N t2 i2] .undef
    [(0, .cells [.str b, .nils, .rs 1 0 b.size b.size false 1] 0 false), (1, .rows byE (bytesL b) 0 true)] 2 := by
  have h1 := bytesL_len b
  have h2 := strOf_byL b
  have h3 : Sym.strOf (List.take b.size (List.drop 0 (bytesL b))) = b := by rw [strOf_all h1.symm, h2]
  refine heap_of_H htL_ok tabN_ok (fuel := 4) (d := 5) (N := 2) rfl rfl [] (fun _ _ h => by cases h) ?_
  repeat' ((conv => whnf); first | (with_reducible first | (refine W1.o ?_; constructor) | rfl | exact castL_self _ _) | ((with_reducible refine V.same_t ?_); exact rfl) | ((with_reducible refine andB_room ?_ ?_ ?_); (· kernel_rfl); (· (first | omega | (simp only [lens] <;> omega) | (decide +kernel) | (simp only [pms] <;> decide +kernel)))) | ((with_reducible refine W2.o ?_; constructor); · (first | (with_reducible assumption) | (first | omega | (simp only [lens] <;> omega) | (decide +kernel) | (simp only [pms] <;> decide +kernel)))) | ((with_reducible refine W3.o ?_; constructor); · (first | (with_reducible assumption) | (first | omega | (simp only [lens] <;> omega) | (decide +kernel) | (simp only [pms] <;> decide +kernel)))) | ((with_reducible refine W4.o ?_; constructor); · (first | (with_reducible first | assumption | exact decide_eq_true rfl | exact sEq_self _) | ((with_reducible refine eqOK_i ?_); kernel_rfl) | (simp only [pms] <;> decide +kernel))) | ((with_reducible refine iteB_f ?_ ?_); · (first | (with_reducible first | assumption | exact decide_eq_true rfl | exact sEq_self _) | ((with_reducible refine eqOK_i ?_); kernel_rfl) | (simp only [pms] <;> decide +kernel))) | (with_reducible refine CD.wk_au ?_) | (with_reducible refine W5.o ?_; constructor) | ((with_reducible refine W6.o ?_; constructor) <;> intro hB))
  all_goals ((conv => whnf); (try dsimp only); (try simp only [Nat.succ_eq_add_one, Nat.le_eq, castL_self]); (try omega))
  all_goals (try (first | omega | (simp only [lens] <;> omega) | (decide +kernel) | (simp only [pms] <;> decide +kernel)))
  all_goals first
    | omega
    | exact rfl
    | exact h3
    | trace_state
theorem stays1 (s : ByteArray) (N : List Int) (c : Nat) (fate : Int) (t t1 t2 : TypeId) (i1 i2 : Bool) (hs : s.size ≤ 1000000) (hf : 0 ≤ fate ∧ fate ≤ 255) : HeapAt Try.prog 1 35 [.ptr 0 0, .int .i64 fate]
    [.cells [.str ⟨#[]⟩, .rs 1 0 1 1 false 2, .rs 2 0 N.length c false 1] t false, .rows putE [((0 : Int), s)] t1 i1, .rows byE N t2 i2] .undef
    [(0, .cells [.str (keepT s fate), .nils, .rs 1 0 (keepT s fate).size (keepT s fate).size false 1] 0 false), (1, .rows byE (bytesL (keepT s fate)) 0 true)] 2 := by
  have hz : ((ByteArray.size (Sym.rowAt putE [((0 : Int), s)] (0 + Int.toNat 0)).2 : Nat) : Int) = (s.size : Int) := rfl
  have eT : cutS (Sym.rowAt putE [((0 : Int), s)] (0 + Int.toNat 0)).2 0 (min ((ByteArray.size (Sym.rowAt putE [((0 : Int), s)] (0 + Int.toNat 0)).2 : Nat) : Int) (fate * (0 + ((ByteArray.size (Sym.rowAt putE [((0 : Int), s)] (0 + Int.toNat 0)).2 : Nat) : Int)) / 255)).toNat = keepT s fate := keepT_eq s fate
  have e0 : Int.toNat (Sym.rowAt putE [((0 : Int), s)] (0 + Int.toNat 0)).1 = 0 := rfl
  have hK := keepT_size s fate
  have m1 : 0 ≤ fate * (0 + ((ByteArray.size (Sym.rowAt putE [((0 : Int), s)] (0 + Int.toNat 0)).2 : Nat) : Int)) := Int.mul_nonneg hf.1 (by omega)
  have m2 : fate * (0 + ((ByteArray.size (Sym.rowAt putE [((0 : Int), s)] (0 + Int.toNat 0)).2 : Nat) : Int)) ≤ 255 * (0 + ((ByteArray.size (Sym.rowAt putE [((0 : Int), s)] (0 + Int.toNat 0)).2 : Nat) : Int)) := Int.mul_le_mul_of_nonneg_right hf.2 (by omega)
  refine heap_of_H htL_ok tabN_ok (fuel := 4) (d := 5) (N := 3) rfl rfl [] (fun _ _ h => by cases h) ?_
  repeat' ((conv => whnf); first | (with_reducible first | (refine W1.o ?_; constructor) | rfl | exact castL_self _ _) | ((with_reducible refine V.same_t ?_); exact rfl) | ((with_reducible refine andB_room ?_ ?_ ?_); (· kernel_rfl); (· (first | omega | (simp only [lens] <;> omega) | (decide +kernel) | (simp only [pms] <;> decide +kernel)))) | ((with_reducible refine W2.o ?_; constructor); · (first | (with_reducible assumption) | (first | omega | (simp only [lens] <;> omega) | (decide +kernel) | (simp only [pms] <;> decide +kernel)))) | ((with_reducible refine W3.o ?_; constructor); · (first | (with_reducible assumption) | (first | omega | (simp only [lens] <;> omega) | (decide +kernel) | (simp only [pms] <;> decide +kernel)))) | ((with_reducible refine W4.o ?_; constructor); · (first | (with_reducible first | assumption | exact decide_eq_true rfl | exact sEq_self _) | ((with_reducible refine eqOK_i ?_); kernel_rfl) | (simp only [pms] <;> decide +kernel))) | ((with_reducible refine iteB_f ?_ ?_); · (first | (with_reducible first | assumption | exact decide_eq_true rfl | exact sEq_self _) | ((with_reducible refine eqOK_i ?_); kernel_rfl) | (simp only [pms] <;> decide +kernel))) | (with_reducible refine CD.wk_au ?_) | (with_reducible refine W5.o ?_; constructor) | ((with_reducible refine W6.o ?_; constructor) <;> intro hB))
  all_goals ((conv => whnf); (try dsimp only); (try simp only [Nat.succ_eq_add_one, Nat.le_eq, castL_self]); (try omega))
  all_goals (try (first | omega | (simp only [lens] <;> omega) | (decide +kernel) | (simp only [pms] <;> decide +kernel)))
  all_goals first
    | omega
    | exact rfl
    | (simp only [eT, e0, lay_mt, bytesL_len, strOf_len, Nat.le_refl]; done)
    | (simp only [eT, e0]; omega)
    | (have ek := keepT_mt s fate (by
         show (min ((ByteArray.size (Sym.rowAt putE [((0 : Int), s)] (0 + Int.toNat 0)).2 : Nat) : Int) (fate * (0 + ((ByteArray.size (Sym.rowAt putE [((0 : Int), s)] (0 + Int.toNat 0)).2 : Nat) : Int)) / 255)).toNat = 0
         omega)
       first | (rw [ek]; done) | (rw [ek]; exact Nat.le_refl _) | (rw [ek]; exact strOf_len _))
    | trace_state
noncomputable def stF (args : List V) (os : List EObj) : Option HRes := match args with
  | [.ptr p q, .int .i64 fate] => (match os with
    | [.cells [.str b, .nils, .rs nb lo n c x es] t ish, .rows e L t2 i2] => (match asL byE e L with
      | some N => some ([Nat.beq p 0, Nat.beq q 0, Nat.beq nb 1, Nat.beq lo 0, Nat.beq es 1, !x, !ish, decide (n = List.length (α := Int) N), decide (b.size ≤ 1000000000), decide (0 ≤ fate), decide (fate ≤ 255)], .undef, [(0, .cells [.str b, .nils, .rs 1 0 b.size b.size false 1] 0 false), (1, .rows byE (bytesL b) 0 true)], 2)
      | none => none)
    | [.cells [.str b, .rs pb plo pn pc px pes, .rs nb lo n c x es] t ish, .rows pe P t1 i1, .rows e L t2 i2] => (match asL putE pe P, asL byE e L with
      | some [(a, s)], some N => some ([Nat.beq p 0, Nat.beq q 0, Nat.beq pb 1, Nat.beq plo 0, Nat.beq pn 1, Nat.beq pc 1, Nat.beq pes 2, !px, Nat.beq nb 2, Nat.beq lo 0, Nat.beq es 1, !x, !ish, decide (n = List.length (α := Int) N), Nat.beq b.size 0, decide (a = 0), decide (s.size ≤ 1000000), decide (0 ≤ fate), decide (fate ≤ 255)], .undef, [(0, .cells [.str (keepT s fate), .nils, .rs 1 0 (keepT s fate).size (keepT s fate).size false 1] 0 false), (1, .rows byE (bytesL (keepT s fate)) 0 true)], 2)
      | _, _ => none)
    | _ => none)
  | _ => none
theorem mt_of {b : ByteArray} (h : b.size = 0) : b = ⟨#[]⟩ := by
  apply ByteArray.ext
  exact Array.eq_empty_of_size_eq_zero h
theorem stF_ok (args : List V) (os : List EObj) (c : List Bool) (v : V) (h' : List (Nat × EObj)) (n' : Nat) (h : stF args os = some (c, v, h', n')) (hc : allB c) : HeapAt Try.prog 1 35 args os v h' n' := by
  unfold stF at h
  split at h
  · split at h
    · split at h
      · rename_i N hN
        cases h
        obtain ⟨q, e1⟩ := asL_eq hN
        subst q
        have e1 := e1.symm
        subst e1
        simp only [allB, Nat.beq_eq, decide_eq_true_eq, Bool.not_eq_true'] at hc
        obtain ⟨rfl, rfl, rfl, rfl, rfl, rfl, rfl, rfl, c8, c9, c10, _⟩ := hc
        exact stays0 _ _ _ _ _ _ _ c8 ⟨c9, c10⟩
      · cases h
    · split at h
      · rename_i a s N hP hN
        cases h
        obtain ⟨q, e1⟩ := asL_eq hN
        subst q
        have e1 := e1.symm
        subst e1
        obtain ⟨q, e2⟩ := asL_eq hP
        subst q
        have e2 := e2.symm
        simp only [allB, Nat.beq_eq, decide_eq_true_eq, Bool.not_eq_true'] at hc
        obtain ⟨rfl, rfl, rfl, rfl, rfl, rfl, rfl, rfl, rfl, rfl, rfl, rfl, rfl, rfl, c15, rfl, c17, c18, c19, _⟩ := hc
        rw [mt_of c15, castL_self] at *
        subst e2
        exact stays1 _ _ _ _ _ _ _ _ _ c17 ⟨c18, c19⟩
      · cases h
    · cases h
  · cases h
noncomputable def htA : HTab := oneXT 34 2 false (srtF 9) (oneHT 35 1 false stF htL)
theorem htA_ok : HTabOK Try.prog htA := oneXT_ok (fun args os r h => srtF_ok filesList 2 args os r h) (oneHT_ok stF_ok htL_ok)
end Go.Proofs.Ytechbadkbiognaa
end

section
namespace Go.Proofs.Ytechbadkbiognaa
open Go.Sym
set_option linter.unusedVariables false
set_option linter.unusedSimpArgs false
set_option maxRecDepth 100000
set_option maxHeartbeats 4000000
theorem nm_f : nmB { data := #[102] } = true := by rw [nmB_eq]; rfl
theorem nm_t : nmB { data := #[116] } = true := by rw [nmB_eq]; rfl
theorem ks_f : keysOK [{ data := #[102] }] = true := by rw [keysOK_eq]; rfl
theorem ks_ft : keysOK [{ data := #[102] }, { data := #[116] }] = true := by rw [keysOK_eq]; rfl
theorem lt_ft : ltT { data := #[102] } { data := #[116] } = true := by rw [ltT_eq]; rfl
theorem lt_tf : ltT { data := #[116] } { data := #[102] } = false := by rw [ltT_eq]; rfl
theorem layz_len (s : ByteArray) : (layL [] 0 s).length = s.size := by rw [lay_nil0, bytesL_len]
theorem strOf_lay (s : ByteArray) : Sym.strOf (List.take (layL [] 0 s).length (List.drop 0 (layL [] 0 s))) = s := by rw [strOf_all rfl, lay_nil0, strOf_byL]
end Go.Proofs.Ytechbadkbiognaa
end

section
namespace Go.Proofs.Ytechbadkbiognaa
open Go.Sym
set_option linter.unusedVariables false
set_option linter.unusedSimpArgs false
set_option maxRecDepth 100000
set_option maxHeartbeats 4000000
theorem at_0 (x y : ByteArray) (fuse : Int) (F : List Int) (hf : 0 ≤ fuse ∧ fuse ≤ 255) (hk : fuse % 6 = 0) (hF : ∀ i, @LE.le Int _ 0 (Sym.rowAt byE F i) ∧ @LE.le Int _ (Sym.rowAt byE F i) 255) (hFl : F.length ≤ 9223372036854775807) : PureAt Try.prog 4 [.agg [.str x, .str y], .int .u8 fuse, .lst byE F false] (.bool true) := by
  have h1 := nm_f
  have h2 := nm_t
  have h3 := ks_f
  have h4 := ks_ft
  have h5 := lt_ft
  have h6 := lt_tf
  have o1 : (cutS x 0 (min (x.size : Int) 60).toNat).size ≤ 60 := by rw [cutS_size]; omega
  have o2 := layz_len (cutS x 0 (min (x.size : Int) 60).toNat)
  have o3 : (Sym.strOf (List.take (layL [] 0 (cutS x 0 (min (x.size : Int) 60).toNat)).length (List.drop 0 (layL [] 0 (cutS x 0 (min (x.size : Int) 60).toNat))))).size = (cutS x 0 (min (x.size : Int) 60).toNat).size := congrArg ByteArray.size (strOf_lay (cutS x 0 (min (x.size : Int) 60).toNat))
  have n1 : (cutS y 0 (min (y.size : Int) 60).toNat).size ≤ 60 := by rw [cutS_size]; omega
  have n2 := layz_len (cutS y 0 (min (y.size : Int) 60).toNat)
  have n3 : (Sym.strOf (List.take (layL [] 0 (cutS y 0 (min (y.size : Int) 60).toNat)).length (List.drop 0 (layL [] 0 (cutS y 0 (min (y.size : Int) 60).toNat))))).size = (cutS y 0 (min (y.size : Int) 60).toNat).size := congrArg ByteArray.size (strOf_lay (cutS y 0 (min (y.size : Int) 60).toNat))
  have f0 := hF (Int.toNat 0)
  have f1 := hF (0 + 1 : Int).toNat
  have k1 := keepT_size (cutS y 0 (min (y.size : Int) 60).toNat) 0
  have k2 := keepT_size (cutS y 0 (min (y.size : Int) 60).toNat) (Sym.rowAt byE F (Int.toNat 0))
  have k3 := keepT_size (cutS y 0 (min (y.size : Int) 60).toNat) (Sym.rowAt byE F (0 + 1 : Int).toNat)
  refine pure_of_H htA_ok tabN_ok (fuel := 10) (d := 16) [] (fun _ _ h => by cases h) ?_
  repeat' ((conv => whnf); first | (with_reducible first | (refine W1.o ?_; constructor) | rfl | exact castL_self _ _) | ((with_reducible refine V.same_t ?_); exact rfl) | ((with_reducible refine andB_room ?_ ?_ ?_); (· kernel_rfl); (· (first | omega | (simp only [lens] <;> omega) | (decide +kernel) | (simp only [pms] <;> decide +kernel)))) | ((with_reducible refine W2.o ?_; constructor); · (first | (with_reducible assumption) | (first | omega | (simp only [lens] <;> omega) | (decide +kernel) | (simp only [pms] <;> decide +kernel)))) | ((with_reducible refine W3.o ?_; constructor); · (first | (with_reducible assumption) | (first | omega | (simp only [lens] <;> omega) | (decide +kernel) | (simp only [pms] <;> decide +kernel)))) | ((with_reducible refine W4.o ?_; constructor); · (first | (with_reducible first | assumption | exact decide_eq_true rfl | exact sEq_self _) | ((with_reducible refine eqOK_i ?_); kernel_rfl) | (first | (first | exact h1 | exact h2 | exact h3 | exact h4 | exact h5 | exact h6) | (simp only [pms] <;> decide +kernel)))) | ((with_reducible refine iteB_f ?_ ?_); · (first | (with_reducible first | assumption | exact decide_eq_true rfl | exact sEq_self _) | ((with_reducible refine eqOK_i ?_); kernel_rfl) | (first | (first | exact h1 | exact h2 | exact h3 | exact h4 | exact h5 | exact h6) | (simp only [pms] <;> decide +kernel)))) | (with_reducible refine W5.o ?_; constructor) | ((with_reducible refine W6.o ?_; constructor) <;> intro hB))
  all_goals ((conv => whnf); (try dsimp only); (try simp only [Nat.succ_eq_add_one, Nat.le_eq, castL_self]); (try omega))
  all_goals (try (first | omega | (simp only [lens] <;> omega) | (decide +kernel) | (simp only [pms] <;> decide +kernel)))
  all_goals first
    | omega
    | exact rfl
    | (exfalso; simp only [castL_self, strOf_lay, strOf_len, sEq_self, Bool.true_eq_false, reduceCtorEq] at *; done)
    | trace_state
theorem at_1 (x y : ByteArray) (fuse : Int) (F : List Int) (hf : 0 ≤ fuse ∧ fuse ≤ 255) (hk : fuse % 6 = 1) (hF : ∀ i, @LE.le Int _ 0 (Sym.rowAt byE F i) ∧ @LE.le Int _ (Sym.rowAt byE F i) 255) (hFl : F.length ≤ 9223372036854775807) : PureAt Try.prog 4 [.agg [.str x, .str y], .int .u8 fuse, .lst byE F false] (.bool true) := by
  have h1 := nm_f
  have h2 := nm_t
  have h3 := ks_f
  have h4 := ks_ft
  have h5 := lt_ft
  have h6 := lt_tf
  have o1 : (cutS x 0 (min (x.size : Int) 60).toNat).size ≤ 60 := by rw [cutS_size]; omega
  have o2 := layz_len (cutS x 0 (min (x.size : Int) 60).toNat)
  have o3 : (Sym.strOf (List.take (layL [] 0 (cutS x 0 (min (x.size : Int) 60).toNat)).length (List.drop 0 (layL [] 0 (cutS x 0 (min (x.size : Int) 60).toNat))))).size = (cutS x 0 (min (x.size : Int) 60).toNat).size := congrArg ByteArray.size (strOf_lay (cutS x 0 (min (x.size : Int) 60).toNat))
  have n1 : (cutS y 0 (min (y.size : Int) 60).toNat).size ≤ 60 := by rw [cutS_size]; omega
  have n2 := layz_len (cutS y 0 (min (y.size : Int) 60).toNat)
  have n3 : (Sym.strOf (List.take (layL [] 0 (cutS y 0 (min (y.size : Int) 60).toNat)).length (List.drop 0 (layL [] 0 (cutS y 0 (min (y.size : Int) 60).toNat))))).size = (cutS y 0 (min (y.size : Int) 60).toNat).size := congrArg ByteArray.size (strOf_lay (cutS y 0 (min (y.size : Int) 60).toNat))
  have f0 := hF (Int.toNat 0)
  have f1 := hF (0 + 1 : Int).toNat
  have k1 := keepT_size (cutS y 0 (min (y.size : Int) 60).toNat) 0
  have k2 := keepT_size (cutS y 0 (min (y.size : Int) 60).toNat) (Sym.rowAt byE F (Int.toNat 0))
  have k3 := keepT_size (cutS y 0 (min (y.size : Int) 60).toNat) (Sym.rowAt byE F (0 + 1 : Int).toNat)
  refine pure_of_H htA_ok tabN_ok (fuel := 10) (d := 16) [] (fun _ _ h => by cases h) ?_
  repeat' ((conv => whnf); first | (with_reducible first | (refine W1.o ?_; constructor) | rfl | exact castL_self _ _) | ((with_reducible refine V.same_t ?_); exact rfl) | ((with_reducible refine andB_room ?_ ?_ ?_); (· kernel_rfl); (· (first | omega | (simp only [lens] <;> omega) | (decide +kernel) | (simp only [pms] <;> decide +kernel)))) | ((with_reducible refine W2.o ?_; constructor); · (first | (with_reducible assumption) | (first | omega | (simp only [lens] <;> omega) | (decide +kernel) | (simp only [pms] <;> decide +kernel)))) | ((with_reducible refine W3.o ?_; constructor); · (first | (with_reducible assumption) | (first | omega | (simp only [lens] <;> omega) | (decide +kernel) | (simp only [pms] <;> decide +kernel)))) | ((with_reducible refine W4.o ?_; constructor); · (first | (with_reducible first | assumption | exact decide_eq_true rfl | exact sEq_self _) | ((with_reducible refine eqOK_i ?_); kernel_rfl) | (first | (first | exact h1 | exact h2 | exact h3 | exact h4 | exact h5 | exact h6) | (simp only [pms] <;> decide +kernel)))) | ((with_reducible refine iteB_f ?_ ?_); · (first | (with_reducible first | assumption | exact decide_eq_true rfl | exact sEq_self _) | ((with_reducible refine eqOK_i ?_); kernel_rfl) | (first | (first | exact h1 | exact h2 | exact h3 | exact h4 | exact h5 | exact h6) | (simp only [pms] <;> decide +kernel)))) | (with_reducible refine W5.o ?_; constructor) | ((with_reducible refine W6.o ?_; constructor) <;> intro hB))
  all_goals ((conv => whnf); (try dsimp only); (try simp only [Nat.succ_eq_add_one, Nat.le_eq, castL_self]); (try omega))
  all_goals (try (first | omega | (simp only [lens] <;> omega) | (decide +kernel) | (simp only [pms] <;> decide +kernel)))
  all_goals first
    | omega
    | exact rfl
    | (exfalso; simp only [castL_self, strOf_lay, strOf_len, sEq_self, Bool.true_eq_false, reduceCtorEq] at *; done)
    | trace_state
theorem at_2 (x y : ByteArray) (fuse : Int) (F : List Int) (hf : 0 ≤ fuse ∧ fuse ≤ 255) (hk : fuse % 6 = 2) (hF : ∀ i, @LE.le Int _ 0 (Sym.rowAt byE F i) ∧ @LE.le Int _ (Sym.rowAt byE F i) 255) (hFl : F.length ≤ 9223372036854775807) : PureAt Try.prog 4 [.agg [.str x, .str y], .int .u8 fuse, .lst byE F false] (.bool true) := by
  have h1 := nm_f
  have h2 := nm_t
  have h3 := ks_f
  have h4 := ks_ft
  have h5 := lt_ft
  have h6 := lt_tf
  have o1 : (cutS x 0 (min (x.size : Int) 60).toNat).size ≤ 60 := by rw [cutS_size]; omega
  have o2 := layz_len (cutS x 0 (min (x.size : Int) 60).toNat)
  have o3 : (Sym.strOf (List.take (layL [] 0 (cutS x 0 (min (x.size : Int) 60).toNat)).length (List.drop 0 (layL [] 0 (cutS x 0 (min (x.size : Int) 60).toNat))))).size = (cutS x 0 (min (x.size : Int) 60).toNat).size := congrArg ByteArray.size (strOf_lay (cutS x 0 (min (x.size : Int) 60).toNat))
  have n1 : (cutS y 0 (min (y.size : Int) 60).toNat).size ≤ 60 := by rw [cutS_size]; omega
  have n2 := layz_len (cutS y 0 (min (y.size : Int) 60).toNat)
  have n3 : (Sym.strOf (List.take (layL [] 0 (cutS y 0 (min (y.size : Int) 60).toNat)).length (List.drop 0 (layL [] 0 (cutS y 0 (min (y.size : Int) 60).toNat))))).size = (cutS y 0 (min (y.size : Int) 60).toNat).size := congrArg ByteArray.size (strOf_lay (cutS y 0 (min (y.size : Int) 60).toNat))
  have f0 := hF (Int.toNat 0)
  have f1 := hF (0 + 1 : Int).toNat
  have k1 := keepT_size (cutS y 0 (min (y.size : Int) 60).toNat) 0
  have k2 := keepT_size (cutS y 0 (min (y.size : Int) 60).toNat) (Sym.rowAt byE F (Int.toNat 0))
  have k3 := keepT_size (cutS y 0 (min (y.size : Int) 60).toNat) (Sym.rowAt byE F (0 + 1 : Int).toNat)
  refine pure_of_H htA_ok tabN_ok (fuel := 10) (d := 16) [] (fun _ _ h => by cases h) ?_
  repeat' ((conv => whnf); first | (with_reducible first | (refine W1.o ?_; constructor) | rfl | exact castL_self _ _) | ((with_reducible refine V.same_t ?_); exact rfl) | ((with_reducible refine andB_room ?_ ?_ ?_); (· kernel_rfl); (· (first | omega | (simp only [lens] <;> omega) | (decide +kernel) | (simp only [pms] <;> decide +kernel)))) | ((with_reducible refine W2.o ?_; constructor); · (first | (with_reducible assumption) | (first | omega | (simp only [lens] <;> omega) | (decide +kernel) | (simp only [pms] <;> decide +kernel)))) | ((with_reducible refine W3.o ?_; constructor); · (first | (with_reducible assumption) | (first | omega | (simp only [lens] <;> omega) | (decide +kernel) | (simp only [pms] <;> decide +kernel)))) | ((with_reducible refine W4.o ?_; constructor); · (first | (with_reducible first | assumption | exact decide_eq_true rfl | exact sEq_self _) | ((with_reducible refine eqOK_i ?_); kernel_rfl) | (first | (first | exact h1 | exact h2 | exact h3 | exact h4 | exact h5 | exact h6) | (simp only [pms] <;> decide +kernel)))) | ((with_reducible refine iteB_f ?_ ?_); · (first | (with_reducible first | assumption | exact decide_eq_true rfl | exact sEq_self _) | ((with_reducible refine eqOK_i ?_); kernel_rfl) | (first | (first | exact h1 | exact h2 | exact h3 | exact h4 | exact h5 | exact h6) | (simp only [pms] <;> decide +kernel)))) | (with_reducible refine W5.o ?_; constructor) | ((with_reducible refine W6.o ?_; constructor) <;> intro hB))
  all_goals ((conv => whnf); (try dsimp only); (try simp only [Nat.succ_eq_add_one, Nat.le_eq, castL_self]); (try omega))
  all_goals (try (first | omega | (simp only [lens] <;> omega) | (decide +kernel) | (simp only [pms] <;> decide +kernel)))
  all_goals first
    | omega
    | exact rfl
    | (exfalso; simp only [castL_self, strOf_lay, strOf_len, sEq_self, Bool.true_eq_false, reduceCtorEq] at *; done)
    | trace_state
end Go.Proofs.Ytechbadkbiognaa
end
