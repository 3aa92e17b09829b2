/-
  Texts of this claim, one behind the other: SymHp SymHq FlWk FlLay. Each says its own conditions.
-/
import Derived.Test.YtechbadkbiognaaFlaM15
import Derived.Test.YtechbadkbiognaaFlaM6
import Derived.Test.YtechbadkbiognaaProg
import Derived.KernelRfl

set_option linter.unusedVariables false
set_option linter.unusedSimpArgs false
set_option linter.unusedSectionVars false
section
namespace Go.Sym
open Go.RowKit (Below)
set_option linter.unusedSimpArgs false
set_option linter.unusedVariables false

noncomputable section
mutual
def renV (f : Nat → Option Nat) : V → Option V
  | .ptr b o => (match f b with
    | some b' => some (.ptr b' o)
    | none => none)
  | .rptr b i j es => (match f b with
    | some b' => some (.rptr b' i j es)
    | none => none)
  | .sl b o len cap x es => (match f b with
    | some b' => some (.sl b' o len cap x es)
    | none => none)
  | .rs b lo len cap x es => (match f b with
    | some b' => some (.rs b' lo len cap x es)
    | none => none)
  | .map b => (match f b with
    | some b' => some (.map b')
    | none => none)
  | .yld b => (match f b with
    | some b' => some (.yld b')
    | none => none)
  | .fn g a c => (match renL f a, renL f c with
    | some a', some c' => some (.fn g a' c')
    | _, _ => none)
  | .iface t v => (match renV f v with
    | some v' => some (.iface t v')
    | none => none)
  | .agg l => (match renL f l with
    | some l' => some (.agg l')
    | none => none)
  | .tup l => (match renL f l with
    | some l' => some (.tup l')
    | none => none)
  | .undef => some .undef
  | .any => some .any
  | .bool b => some (.bool b)
  | .int k n => some (.int k n)
  | .str s => some (.str s)
  | .nilp => some .nilp
  | .nils => some .nils
  | .nilm => some .nilm
  | .nilf => some .nilf
  | .nili => some .nili
  | .lptr e L i j => some (.lptr e L i j)
  | .lst e L cl => some (.lst e L cl)
  | .arr e L => some (.arr e L)
def renL (f : Nat → Option Nat) : List V → Option (List V)
  | [] => some []
  | v :: l => (match renV f v, renL f l with
    | some v', some l' => some (v' :: l')
    | _, _ => none)
end
def renM (f : Nat → Option Nat) : List (V × V × Nat) → Option (List (V × V × Nat))
  | [] => some []
  | e :: l => (match renV f e.1, renV f e.2.1, renM f l with
    | some a, some b, some l' => some ((a, b, e.2.2) :: l')
    | _, _, _ => none)
def renO (f : Nat → Option Nat) : EObj → Option EObj
  | .cells cs t h => (match renL f cs with
    | some cs' => some (.cells cs' t h)
    | none => none)
  | .map es c => (match renM f es with
    | some es' => some (.map es' c)
    | none => none)
  | .rows e L t h => some (.rows e L t h)
  | .pm k t M c => some (.pm k t M c)
  | .mit m a s c => (match f m with
    | some m' => some (.mit m' a s c)
    | none => none)
  | .dfr s => some (.dfr s)
  | .loop _ => none
end
def RenOK (f : Nat → Option Nat) (ρ ρ' : Env) : Prop := (∀ b b', f b = some b' → ∀ x, ρ b = some x → ρ' b' = some x) ∧ subφ ρ.φ ρ'.φ
section
variable {f : Nat → Option Nat} {ρ ρ' : Env}
mutual
theorem renV_rel (h : RenOK f ρ ρ') : ∀ (v v' : V) (X : Value), renV f v = some v' → VRel ρ v X → VRel ρ' v' X
  | .ptr b o, v', X, hr, r => by
    rw [renV.eq_def] at hr; simp only at hr
    split at hr
    · rename_i b' hb
      cases hr
      simp only [VRel] at r ⊢
      obtain ⟨B, O, S, h1, h2⟩ := r
      exact ⟨B, O, S, h.1 _ _ hb _ h1, h2⟩
    · cases hr
  | .rptr b i j es, v', X, hr, r => by
    rw [renV.eq_def] at hr; simp only at hr
    split at hr
    · rename_i b' hb
      cases hr
      simp only [VRel] at r ⊢
      obtain ⟨B, O, S, h1, h2⟩ := r
      exact ⟨B, O, S, h.1 _ _ hb _ h1, h2⟩
    · cases hr
  | .sl b o len cap x es, v', X, hr, r => by
    rw [renV.eq_def] at hr; simp only at hr
    split at hr
    · rename_i b' hb
      cases hr
      simp only [VRel] at r ⊢
      obtain ⟨B, O, S, c, h1, h2⟩ := r
      exact ⟨B, O, S, c, h.1 _ _ hb _ h1, h2⟩
    · cases hr
  | .rs b lo len cap x es, v', X, hr, r => by
    rw [renV.eq_def] at hr; simp only at hr
    split at hr
    · rename_i b' hb
      cases hr
      simp only [VRel] at r ⊢
      obtain ⟨a, c, h1, h2, h3, h4, h6, h5⟩ := r
      exact ⟨a, c, h1, h2, h3, h4, h6, fun hp => let ⟨B, O, S, g1, g2⟩ := h5 hp; ⟨B, O, S, h.1 _ _ hb _ g1, g2⟩⟩
    · cases hr
  | .map b, v', X, hr, r => by
    rw [renV.eq_def] at hr; simp only at hr
    split at hr
    · rename_i b' hb
      cases hr
      simp only [VRel] at r ⊢
      obtain ⟨B, O, S, h1, h2⟩ := r
      exact ⟨B, O, S, h.1 _ _ hb _ h1, h2⟩
    · cases hr
  | .yld b, v', X, hr, r => by
    rw [renV.eq_def] at hr; simp only at hr
    split at hr
    · rename_i b' hb
      cases hr
      simp only [VRel] at r ⊢
      obtain ⟨B, O, S, h1, h2⟩ := r
      exact ⟨B, O, S, h.1 _ _ hb _ h1, h2⟩
    · cases hr
  | .fn g a c, v', X, hr, r => by
    rw [renV.eq_def] at hr; simp only at hr
    split at hr
    · rename_i a' c' ha hc
      cases hr
      simp only [VRel] at r ⊢
      obtain ⟨A, C, h1, h2, h3⟩ := r
      exact ⟨A, C, h1, renL_rel h a _ _ ha h2, renL_rel h c _ _ hc h3⟩
    · cases hr
  | .iface t v, v', X, hr, r => by
    rw [renV.eq_def] at hr; simp only at hr
    split at hr
    · rename_i u hu
      cases hr
      simp only [VRel] at r ⊢
      obtain ⟨Y, h1, h2⟩ := r
      exact ⟨Y, h1, renV_rel h v _ _ hu h2⟩
    · cases hr
  | .agg l, v', X, hr, r => by
    rw [renV.eq_def] at hr; simp only at hr
    split at hr
    · rename_i u hu
      cases hr
      simp only [VRel] at r ⊢
      obtain ⟨Y, h1, h2⟩ := r
      exact ⟨Y, h1, renL_rel h l _ _ hu h2⟩
    · cases hr
  | .tup l, v', X, hr, r => by
    rw [renV.eq_def] at hr; simp only at hr
    split at hr
    · rename_i u hu
      cases hr
      simp only [VRel] at r ⊢
      obtain ⟨Y, h1, h2⟩ := r
      exact ⟨Y, h1, renL_rel h l _ _ hu h2⟩
    · cases hr
  | .undef, v', X, hr, r => by rw [renV.eq_def] at hr; cases hr; simpa only [VRel] using r
  | .any, v', X, hr, r => by rw [renV.eq_def] at hr; cases hr; simp only [VRel]
  | .bool b, v', X, hr, r => by rw [renV.eq_def] at hr; cases hr; simpa only [VRel] using r
  | .int k n, v', X, hr, r => by rw [renV.eq_def] at hr; cases hr; simpa only [VRel] using r
  | .str s, v', X, hr, r => by rw [renV.eq_def] at hr; cases hr; simpa only [VRel] using r
  | .nilp, v', X, hr, r => by rw [renV.eq_def] at hr; cases hr; simpa only [VRel] using r
  | .nils, v', X, hr, r => by rw [renV.eq_def] at hr; cases hr; simpa only [VRel] using r
  | .nilm, v', X, hr, r => by rw [renV.eq_def] at hr; cases hr; simpa only [VRel] using r
  | .nilf, v', X, hr, r => by rw [renV.eq_def] at hr; cases hr; simpa only [VRel] using r
  | .nili, v', X, hr, r => by rw [renV.eq_def] at hr; cases hr; simpa only [VRel] using r
  | .lptr e L i j, v', X, hr, r => by
    rw [renV.eq_def] at hr; cases hr
    exact VRel.bare h.2 (.lptr e L i j) X rfl r
  | .lst e L cl, v', X, hr, r => by
    rw [renV.eq_def] at hr; cases hr
    exact VRel.bare h.2 (.lst e L cl) X rfl r
  | .arr e L, v', X, hr, r => by
    rw [renV.eq_def] at hr; cases hr
    exact VRel.bare h.2 (.arr e L) X rfl r
theorem renL_rel (h : RenOK f ρ ρ') : ∀ (l l' : List V) (X : List Value), renL f l = some l' → LRel ρ l X → LRel ρ' l' X
  | [], l', X, hr, r => by rw [renL.eq_def] at hr; cases hr; exact r
  | v :: l, l', X, hr, r => by
    rw [renL.eq_def] at hr; simp only at hr
    split at hr
    · rename_i v1 l1 h1 h2
      cases hr
      obtain ⟨Y, Z, g1, g2, g3⟩ := r
      exact ⟨Y, Z, g1, renV_rel h v _ _ h1 g2, renL_rel h l _ _ h2 g3⟩
    · cases hr
end
theorem renL_length : ∀ (l l' : List V), renL f l = some l' → l'.length = l.length
  | [], l', h => by rw [renL.eq_def] at h; cases h; rfl
  | v :: l, l', h => by
    rw [renL.eq_def] at h; simp only at h
    split at h
    · rename_i v1 l1 h1 h2
      cases h
      simp [renL_length l _ h2]
    · cases h
theorem renL_get : ∀ (l l' : List V), renL f l = some l' → ∀ (i : Nat) v', l'[i]? = some v' → ∃ v, l[i]? = some v ∧ renV f v = some v'
  | [], l', h, i, v', hi => by rw [renL.eq_def] at h; cases h; simp at hi
  | v :: l, l', h, i, v', hi => by
    rw [renL.eq_def] at h; simp only at h
    split at h
    · rename_i v1 l1 h1 h2
      cases h
      cases i with
      | zero => simp at hi; subst hi; exact ⟨v, rfl, h1⟩
      | succ i =>
        obtain ⟨u, g1, g2⟩ := renL_get l _ h2 i v' (by simpa using hi)
        exact ⟨u, by simpa using g1, g2⟩
    · cases h
theorem renM_rel (h : RenOK f ρ ρ') : ∀ (l l' : List (V × V × Nat)) (E : List MapEntry), renM f l = some l' → MRel ρ l E → MRel ρ' l' E
  | [], l', E, hr, r => by rw [renM] at hr; cases hr; exact r
  | e :: l, l', E, hr, r => by
    rw [renM] at hr
    split at hr
    · rename_i a b l1 h1 h2 h3
      cases hr
      obtain ⟨x, y, g1, g2, g3, g4, g5⟩ := r
      exact ⟨x, y, g1, renV_rel h _ _ _ h1 g2, renV_rel h _ _ _ h2 g3, g4, renM_rel h l _ _ h3 g5⟩
    · cases hr
theorem renO_rel (h : RenOK f ρ ρ') {o o' : EObj} {O S : Nat} {X : Option Obj} (hr : renO f o = some o') (r : ORel ρ O S X o) : ORel ρ' O S X o' := by
  cases o with
  | cells cs t ish =>
    rw [renO] at hr
    split at hr
    · rename_i cs' hcs
      cases hr
      obtain ⟨C, t', fr, q1, q2, q3, q4, q5, q6⟩ := r
      refine ⟨C, t', fr, q1, q2, by rw [renL_length _ _ hcs]; exact q3, fun i v' hi => ?_, q5, q6⟩
      obtain ⟨v, g1, g2⟩ := renL_get _ _ hcs i v' hi
      obtain ⟨W, g3, g4⟩ := q4 i v g1
      exact ⟨W, g3, renV_rel h _ _ _ g2 g4⟩
    · cases hr
  | map es c =>
    rw [renO] at hr
    split at hr
    · rename_i es' hes
      cases hr
      obtain ⟨E, h1, h2⟩ := r
      exact ⟨E, h1, renM_rel h _ _ _ hes h2⟩
    · cases hr
  | rows e L t ish =>
    rw [renO] at hr; cases hr
    obtain ⟨C, t', fr, q1, q2, q3, q4, q5, q6⟩ := r
    exact ⟨C, t', fr, q1, q2, q3, q4.mono h.2 fun _ _ hv => hv, q5, q6⟩
  | pm k t M c =>
    rw [renO] at hr; cases hr
    obtain ⟨E, h1, h2⟩ := r
    exact ⟨E, h1, MRel.plain h.2 h2⟩
  | dfr s => rw [renO] at hr; cases hr; exact r
  | mit m a s c =>
    rw [renO] at hr
    split at hr
    · rename_i m' hm
      cases hr
      obtain ⟨h0, y, h1, h2⟩ := r
      exact ⟨h0, y, h.1 _ _ hm _ h1, h2⟩
    · cases hr
  | loop r => rw [renO] at hr; cases hr
end

noncomputable section
def putsT (t : T EObj) : List (Nat × EObj) → T EObj
  | [] => t
  | e :: l => (putsT t l).set e.1 (some e.2)
def delsT (t : T EObj) : List Nat → T EObj
  | [] => t
  | b :: l => (delsT t l).set b none
def renH (f : Nat → Option Nat) : List (Nat × EObj) → Option (List (Nat × EObj))
  | [] => some []
  | e :: l => (match f e.1, renO f e.2, renH f l with
    | some b, some o, some l' => some ((b, o) :: l')
    | _, _, _ => none)
def idxO : Nat → List EObj → List (Nat × EObj)
  | _, [] => []
  | i, o :: l => (i, o) :: idxO (i + 1) l
end
theorem delsT_get {t : T EObj} : ∀ {l : List Nat} {b : Nat} {o : EObj}, (delsT t l).get b = some o → t.get b = some o ∧ b ∉ l
  | [], b, o, h => ⟨h, by simp⟩
  | c :: l, b, o, h => by
    rw [delsT, T.get_set] at h
    split at h
    · cases h
    · rename_i hne
      obtain ⟨h1, h2⟩ := delsT_get h
      refine ⟨h1, fun hm => ?_⟩
      rcases List.mem_cons.1 hm with e | e
      · exact hne e
      · exact h2 e
theorem putsT_get {f : Nat → Option Nat} {t : T EObj} : ∀ {l l' : List (Nat × EObj)}, renH f l = some l' → ∀ {a : Nat} {o : EObj}, (putsT t l').get a = some o →
    (∃ b o', f b = some a ∧ (heapOf l).get b = some o' ∧ renO f o' = some o) ∨ t.get a = some o
  | [], l', hr, a, o, h => by rw [renH] at hr; cases hr; exact .inr h
  | e :: l, l', hr, a, o, h => by
    rw [renH] at hr
    split at hr
    · rename_i b o1 l1 h1 h2 h3
      cases hr
      rw [putsT, T.get_set] at h
      split at h
      · rename_i he
        have he : a = b := he
        cases h
        refine .inl ⟨e.1, e.2, by rw [he]; exact h1, ?_, h2⟩
        rw [heapOf, T.get_set, if_pos rfl]
      · rename_i hne
        rcases putsT_get h3 h with ⟨b', o', g1, g2, g3⟩ | g
        · refine .inl ⟨b', o', g1, ?_, g3⟩
          rw [heapOf, T.get_set, if_neg]
          · exact g2
          · rintro rfl
            rw [h1] at g1; cases g1
            exact hne rfl
        · exact .inr g
    · cases hr
theorem idxO_get : ∀ {l : List EObj} {j b : Nat} {o : EObj}, (heapOf (idxO j l)).get b = some o → j ≤ b ∧ l[b - j]? = some o
  | [], j, b, o, h => by rw [idxO, heapOf, T.get_leaf] at h; cases h
  | a :: l, j, b, o, h => by
    rw [idxO, heapOf, T.get_set] at h
    split at h
    · rename_i e
      have e : b = j := e
      cases h
      subst e
      exact ⟨Nat.le_refl _, by rw [Nat.sub_self]; rfl⟩
    · obtain ⟨h1, h2⟩ := idxO_get h
      refine ⟨by omega, ?_⟩
      rw [show b - j = (b - (j + 1)) + 1 by omega, List.getElem?_cons_succ]
      exact h2

noncomputable section
section
variable (b : Nat) (e : List Ty) (L : List (rowDen e))
mutual
def fzV : V → V
  | .rs b' lo len cap x es => bif Nat.beq b' b && Nat.beq es (llen e) then .lst e (seg L lo len) false else .rs b' lo len cap x es
  | .iface t v => .iface t (fzV v)
  | .agg l => .agg (fzL l)
  | .tup l => .tup (fzL l)
  | .fn g a c => .fn g (fzL a) (fzL c)
  | .ptr b' o => .ptr b' o
  | .rptr b' i j es => .rptr b' i j es
  | .sl b' o len cap x es => .sl b' o len cap x es
  | .map b' => .map b'
  | .yld b' => .yld b'
  | .undef => .undef
  | .any => .any
  | .bool x => .bool x
  | .int k n => .int k n
  | .str s => .str s
  | .nilp => .nilp
  | .nils => .nils
  | .nilm => .nilm
  | .nilf => .nilf
  | .nili => .nili
  | .lptr e L i j => .lptr e L i j
  | .lst e L cl => .lst e L cl
  | .arr e L => .arr e L
def fzL : List V → List V
  | [] => []
  | v :: l => fzV v :: fzL l
end
mutual
def fzKV : V → List Bool
  | .rs b' lo len cap x es => bif Nat.beq b' b && Nat.beq es (llen e) then [decide (lo + len ≤ L.length)] else []
  | .iface t v => fzKV v
  | .agg l => fzKL l
  | .tup l => fzKL l
  | .fn g a c => lapp (fzKL a) (fzKL c)
  | _ => []
def fzKL : List V → List Bool
  | [] => []
  | v :: l => lapp (fzKV v) (fzKL l)
end
def fzM : List (V × V × Nat) → List (V × V × Nat)
  | [] => []
  | m :: l => (fzV b e L m.1, fzV b e L m.2.1, m.2.2) :: fzM l
def fzKM : List (V × V × Nat) → List Bool
  | [] => []
  | m :: l => lapp (fzKV b e L m.1) (lapp (fzKV b e L m.2.1) (fzKM l))
def fzO : EObj → EObj
  | .cells cs t h => .cells (fzL b e L cs) t h
  | .map es c => .map (fzM b e L es) c
  | .rows e' L' t h => .rows e' L' t h
  | .pm k t M c => .pm k t M c
  | .dfr s => .dfr s
  | .mit m a s c => .mit m a s c
  | .loop r => .loop r
def fzKO : EObj → List Bool
  | .cells cs t h => fzKL b e L cs
  | .map es c => fzKM b e L es
  | _ => []
def fzOo : Option EObj → Option EObj
  | some o => some (fzO b e L o)
  | none => none
def fzKOo : Option EObj → List Bool
  | some o => fzKO b e L o
  | none => []
def fzT : T EObj → T EObj
  | .leaf => .leaf
  | .node v l r => .node (fzOo b e L v) (fzT l) (fzT r)
def fzKT : T EObj → List Bool
  | .leaf => []
  | .node v l r => lapp (fzKOo b e L v) (lapp (fzKT l) (fzKT r))
end
end

section
variable {own : Own} {ρ ρ' : Env} {b : Nat} {e : List Ty} {L : List (rowDen e)}
def FzOK (ρ ρ' : Env) (b : Nat) (e : List Ty) (L : List (rowDen e)) : Prop := ρ.sub ρ' ∧ ∀ x, ρ b = some x → RowsAt ρ'.φ e L (fun k => ρ'.φ x.B (x.O + k))
mutual
theorem fzV_rel (h : FzOK ρ ρ' b e L) : ∀ (v : V) (X : Value), allB (fzKV b e L v) → VRel ρ v X → VRel ρ' (fzV b e L v) X
  | .rs b' lo len cap x es, X, hk, r => by
    rw [fzV.eq_def]
    rw [fzKV.eq_def] at hk
    simp only at hk ⊢
    cases hb : (Nat.beq b' b && Nat.beq es (llen e)) with
    | false => rw [cond_false]; exact VRel.up h.1 _ _ r
    | true =>
      rw [hb, cond_true] at hk
      rw [cond_true]
      rw [Bool.and_eq_true] at hb
      have h1 := Nat.eq_of_beq_eq_true hb.1
      have h2 := Nat.eq_of_beq_eq_true hb.2
      rw [llen_eq] at h2
      subst h1; subst h2
      have hle : lo + len ≤ L.length := of_decide_eq_true hk.1
      have hl := seg_length hle
      simp only [VRel] at r ⊢
      obtain ⟨a, c', h1, h2, h3, h4, h5, h6⟩ := r
      refine ⟨a, c', by rw [hl]; exact h1, by rw [hl]; omega, fun hh => (by cases hh), h5, fun hp => ?_⟩
      rw [hl] at hp
      obtain ⟨B, O, S, g1, g2, g3⟩ := h6 (by omega)
      have hr := rows_seg hle (h.2 _ g1)
      refine ⟨B, _, g2, hr.mono (fun _ _ _ hv => hv) fun j u hu => ?_⟩
      rw [Nat.add_assoc]
      exact hu
  | .iface t v, X, hk, r => by
    rw [fzV.eq_def]
    rw [fzKV.eq_def] at hk
    simp only [VRel] at hk r ⊢
    obtain ⟨Y, h1, h2⟩ := r
    exact ⟨Y, h1, fzV_rel h v Y hk h2⟩
  | .agg l, X, hk, r => by
    rw [fzV.eq_def]
    rw [fzKV.eq_def] at hk
    simp only [VRel] at hk r ⊢
    obtain ⟨Y, h1, h2⟩ := r
    exact ⟨Y, h1, fzL_rel h l _ hk h2⟩
  | .tup l, X, hk, r => by
    rw [fzV.eq_def]
    rw [fzKV.eq_def] at hk
    simp only [VRel] at hk r ⊢
    obtain ⟨Y, h1, h2⟩ := r
    exact ⟨Y, h1, fzL_rel h l _ hk h2⟩
  | .fn g a c, X, hk, r => by
    rw [fzV.eq_def]
    rw [fzKV.eq_def] at hk
    simp only [VRel, lapp_eq, allB_append] at hk r ⊢
    obtain ⟨A, C, h1, h2, h3⟩ := r
    exact ⟨A, C, h1, fzL_rel h a _ hk.1 h2, fzL_rel h c _ hk.2 h3⟩
  | .ptr b' o, X, _, r => by rw [fzV.eq_def]; exact VRel.up h.1 _ _ r
  | .rptr b' i j es, X, _, r => by rw [fzV.eq_def]; exact VRel.up h.1 _ _ r
  | .sl b' o len cap x es, X, _, r => by rw [fzV.eq_def]; exact VRel.up h.1 _ _ r
  | .map b', X, _, r => by rw [fzV.eq_def]; exact VRel.up h.1 _ _ r
  | .yld b', X, _, r => by rw [fzV.eq_def]; exact VRel.up h.1 _ _ r
  | .undef, X, _, r => by rw [fzV.eq_def]; exact VRel.up h.1 _ _ r
  | .any, X, _, r => by rw [fzV.eq_def]; exact VRel.up h.1 _ _ r
  | .bool x, X, _, r => by rw [fzV.eq_def]; exact VRel.up h.1 _ _ r
  | .int k n, X, _, r => by rw [fzV.eq_def]; exact VRel.up h.1 _ _ r
  | .str s, X, _, r => by rw [fzV.eq_def]; exact VRel.up h.1 _ _ r
  | .nilp, X, _, r => by rw [fzV.eq_def]; exact VRel.up h.1 _ _ r
  | .nils, X, _, r => by rw [fzV.eq_def]; exact VRel.up h.1 _ _ r
  | .nilm, X, _, r => by rw [fzV.eq_def]; exact VRel.up h.1 _ _ r
  | .nilf, X, _, r => by rw [fzV.eq_def]; exact VRel.up h.1 _ _ r
  | .nili, X, _, r => by rw [fzV.eq_def]; exact VRel.up h.1 _ _ r
  | .lptr e' L' i j, X, _, r => by rw [fzV.eq_def]; exact VRel.up h.1 _ _ r
  | .lst e' L' cl, X, _, r => by rw [fzV.eq_def]; exact VRel.up h.1 _ _ r
  | .arr e' L', X, _, r => by rw [fzV.eq_def]; exact VRel.up h.1 _ _ r
theorem fzL_rel (h : FzOK ρ ρ' b e L) : ∀ (l : List V) (X : List Value), allB (fzKL b e L l) → LRel ρ l X → LRel ρ' (fzL b e L l) X
  | [], X, _, r => by rw [fzL.eq_def]; exact r
  | v :: l, X, hk, r => by
    rw [fzL.eq_def]
    rw [fzKL.eq_def] at hk
    simp only [lapp_eq, allB_append] at hk ⊢
    obtain ⟨Y, Z, g1, g2, g3⟩ := r
    exact ⟨Y, Z, g1, fzV_rel h v _ hk.1 g2, fzL_rel h l _ hk.2 g3⟩
end
theorem fzL_get : ∀ (l : List V) (i : Nat) (v' : V), (fzL b e L l)[i]? = some v' → ∃ v, l[i]? = some v ∧ v' = fzV b e L v
  | [], i, v', h => by rw [fzL.eq_def] at h; simp at h
  | v :: l, i, v', h => by
    rw [fzL.eq_def] at h
    cases i with
    | zero => simp at h; exact ⟨v, rfl, h.symm⟩
    | succ i => exact (fzL_get l i v' (by simpa using h)).imp fun u hu => by simpa using hu
theorem fzL_len : ∀ l : List V, (fzL b e L l).length = l.length
  | [] => by rw [fzL.eq_def]
  | v :: l => by rw [fzL.eq_def]; simp [fzL_len l]
theorem fzKL_get : ∀ (l : List V), allB (fzKL b e L l) → ∀ (i : Nat) (v : V), l[i]? = some v → allB (fzKV b e L v)
  | [], _, i, v, h => by simp at h
  | u :: l, hk, i, v, h => by
    rw [fzKL.eq_def] at hk
    simp only [lapp_eq, allB_append] at hk
    cases i with
    | zero => simp at h; subst h; exact hk.1
    | succ i => exact fzKL_get l hk.2 i v (by simpa using h)
theorem fzM_rel (h : FzOK ρ ρ' b e L) : ∀ (l : List (V × V × Nat)) (E : List MapEntry), allB (fzKM b e L l) → MRel ρ l E → MRel ρ' (fzM b e L l) E
  | [], E, _, r => by rw [fzM]; exact r
  | m :: l, E, hk, r => by
    rw [fzM]
    rw [fzKM, lapp_eq, lapp_eq, allB_append, allB_append] at hk
    obtain ⟨x, y, g1, g2, g3, g4, g5⟩ := r
    exact ⟨x, y, g1, fzV_rel h _ _ hk.1 g2, fzV_rel h _ _ hk.2.1 g3, g4, fzM_rel h l _ hk.2.2 g5⟩
theorem fzO_rel (h : FzOK ρ ρ' b e L) {o : EObj} {O S : Nat} {X : Option Obj} (hk : allB (fzKO b e L o)) (r : ORel ρ O S X o) : ORel ρ' O S X (fzO b e L o) := by
  cases o with
  | cells cs t ish =>
    obtain ⟨C, t', fr, q1, q2, q3, q4, q5, q6⟩ := r
    refine ⟨C, t', fr, q1, q2, by rw [fzL_len]; exact q3, fun i v' hi => ?_, q5, q6⟩
    obtain ⟨v, g1, rfl⟩ := fzL_get _ _ _ hi
    obtain ⟨W, g3, g4⟩ := q4 i v g1
    exact ⟨W, g3, fzV_rel h _ _ (fzKL_get cs hk i v g1) g4⟩
  | map es c =>
    obtain ⟨E, h1, h2⟩ := r
    exact ⟨E, h1, fzM_rel h _ _ hk h2⟩
  | rows e' L' t ish => exact r.up h.1
  | pm k t M c => exact r.up h.1
  | dfr s => exact r
  | mit m a s c => exact r.up h.1
  | loop r' => exact r.up h.1
theorem fzT_get : ∀ (t : T EObj) (a : Nat), (fzT b e L t).get a = fzOo b e L (t.get a)
  | .leaf, a => by rw [fzT, T.get_leaf]; rfl
  | .node v l r, 0 => by rw [fzT, T.get_zero, T.get_zero]
  | .node v l r, a + 1 => by
    rw [fzT, T.get_succ, T.get_succ]
    cases Nat.beq (a % 2) 0
    · exact fzT_get r _
    · exact fzT_get l _
theorem fzKT_get : ∀ (t : T EObj) (a : Nat), allB (fzKT b e L t) → allB (fzKOo b e L (t.get a))
  | .leaf, a, _ => by rw [T.get_leaf]; trivial
  | .node v l r, 0, h => by
    rw [fzKT, lapp_eq, allB_append] at h
    rw [T.get_zero]; exact h.1
  | .node v l r, a + 1, h => by
    rw [fzKT, lapp_eq, allB_append, lapp_eq, allB_append] at h
    rw [T.get_succ]
    cases Nat.beq (a % 2) 0
    · exact fzKT_get r _ h.2.2
    · exact fzKT_get l _ h.2.1
end
noncomputable def fzS (b : Nat) (e : List Ty) (L : List (rowDen e)) (s : St) : St := ⟨(fzT b e L s.heap).set b none, s.next⟩
theorem fz_ok {own : Own} {ρ : Env} {s : St} {w : World} {b : Nat} {e : List Ty} {L : List (rowDen e)} {t : TypeId} {ish : Bool} (hS : SRel own ρ s w) (hb : s.heap.get b = some (.rows e L t ish)) (hk : allB (fzKT b e L s.heap)) :
    ∃ ρ', ρ.le ρ' ∧ SRel own ρ' (fzS b e L s) w ∧ FzOK ρ ρ' b e L := by
  have hget : ∀ a o', (fzS b e L s).heap.get a = some o' → a ≠ b ∧ ∃ o, s.heap.get a = some o ∧ fzO b e L o = o' ∧ allB (fzKO b e L o) := by
    intro a o' h
    simp only [fzS, T.get_set] at h
    split at h
    · cases h
    · rename_i hne
      rw [fzT_get] at h
      have h2 := fzKT_get s.heap a hk
      cases ho : s.heap.get a with
      | none => rw [ho] at h; cases h
      | some o => rw [ho] at h h2; exact ⟨hne, o, rfl, Option.some.inj h, h2⟩
  cases hρ : ρ b with
  | none =>
    have hfz : FzOK ρ ρ b e L := ⟨ρ.sub_refl, fun x hx => by rw [hρ] at hx; cases hx⟩
    refine ⟨ρ, ρ.le_refl, ⟨hS.le, fun a o' x ha hx => ?_, fun a a' o1 o2 x x' ha ha' hx hx' hne => ?_, hS.dom, hS.top, hS.fz, hS.old⟩, hfz⟩
    · obtain ⟨_, o, g1, rfl, g3⟩ := hget a o' ha
      obtain ⟨q1, q2⟩ := hS.obj a o x g1 hx
      exact ⟨q1, fzO_rel hfz g3 q2⟩
    · obtain ⟨_, o, g1, _⟩ := hget a o1 ha
      obtain ⟨_, o', g1', _⟩ := hget a' o2 ha'
      exact hS.inj a a' o o' x x' g1 g1' hx hx' hne
  | some x =>
    let φ' : Nat → Nat → Option Value := fun B k => if B = x.B then w.cell? ⟨B, k, none⟩ else ρ.φ B k
    obtain ⟨⟨hown, hnone⟩, hobj⟩ := hS.obj b _ x hb hρ
    have hφ : subφ ρ.φ φ' := fun B k v hv => by
      show (if B = x.B then w.cell? ⟨B, k, none⟩ else ρ.φ B k) = some v
      by_cases e : B = x.B
      · subst e; rw [hnone k] at hv; cases hv
      · rw [if_neg e]; exact hv
    have hne : ∀ B, B ≠ x.B → ∀ k, φ' B k = ρ.φ B k := fun B hB k => if_neg hB
    have hle : ρ.le ⟨ρ.f, ρ.n, φ'⟩ := ⟨⟨fun _ _ h => h, hφ⟩, Nat.le_refl _, fun _ _ h => h⟩
    have hfz : FzOK ρ ⟨ρ.f, ρ.n, φ'⟩ b e L := by
      refine ⟨hle.sub, fun y hy => ?_⟩
      rw [hρ] at hy; cases hy
      obtain ⟨C, t', fr, q1, q2, q3, q4, q5, q6⟩ := hobj
      refine q4.mono hφ fun j v hv => ?_
      show (if x.B = x.B then w.cell? ⟨x.B, x.O + j, none⟩ else ρ.φ x.B (x.O + j)) = some v
      rw [if_pos rfl]
      simp [World.cell?, q1, hv]
    refine ⟨_, hle, ⟨hS.le, fun a o' y ha hy => ?_, fun a a' o1 o2 y y' ha ha' hy hy' hn => ?_, hS.dom, hS.top, fun B k v hv => ?_, fun B k hB => ?_⟩, hfz⟩
    · obtain ⟨hab, o, g1, rfl, g3⟩ := hget a o' ha
      obtain ⟨⟨q1, q2⟩, q3⟩ := hS.obj a o y g1 hy
      refine ⟨⟨q1, fun k => ?_⟩, fzO_rel hfz g3 q3⟩
      exact (hne _ (hS.inj a b o _ y x g1 hb hy hρ hab) k).trans (q2 k)
    · obtain ⟨_, o, g1, _⟩ := hget a o1 ha
      obtain ⟨_, o', g1', _⟩ := hget a' o2 ha'
      exact hS.inj a a' o o' y y' g1 g1' hy hy' hn
    · have hv : (if B = x.B then w.cell? ⟨B, k, none⟩ else ρ.φ B k) = some v := hv
      split at hv
      · exact hv
      · exact hS.fz B k v hv
    · exact (hne B (fun e => hB (by rw [e]; exact hown)) k).trans (hS.old B k hB)

noncomputable def fzSteps : List Nat → List Bool → List V → St → List Bool × List V × St
  | [], c, a, s => (c, a, s)
  | b :: bs, c, a, s => match s.heap.get b with
    | some (.rows e L t ish) => fzSteps bs (lapp c (lapp (fzKL b e L a) (fzKT b e L s.heap))) (fzL b e L a) (fzS b e L s)
    | _ => fzSteps bs c a s
theorem fzSteps_ok {own : Own} {w : World} {A : List Value} : ∀ (bs : List Nat) (c : List Bool) (a : List V) (s : St) (ρ : Env), allB (fzSteps bs c a s).1 → SRel own ρ s w → LRel ρ a A →
    allB c ∧ ∃ ρ', ρ.le ρ' ∧ SRel own ρ' (fzSteps bs c a s).2.2 w ∧ LRel ρ' (fzSteps bs c a s).2.1 A
  | [], c, a, s, ρ, h, hS, hA => ⟨h, ρ, ρ.le_refl, hS, hA⟩
  | b :: bs, c, a, s, ρ, h, hS, hA => by
    rw [fzSteps.eq_def] at h ⊢
    simp only at h ⊢
    split at h
    · rename_i e L t ish hb
      have hc : allB (lapp c (lapp (fzKL b e L a) (fzKT b e L s.heap))) := by
        have : ∀ (bs : List Nat) (c : List Bool) (a : List V) (s : St), allB (fzSteps bs c a s).1 → allB c := by
          intro bs
          induction bs with
          | nil => intro c a s h; exact h
          | cons b bs ih =>
            intro c a s h
            rw [fzSteps.eq_def] at h
            simp only at h
            split at h
            · have := ih _ _ _ h
              rw [lapp_eq, allB_append] at this
              exact this.1
            · exact ih _ _ _ h
        exact this _ _ _ _ h
      rw [lapp_eq, lapp_eq, allB_append, allB_append] at hc
      obtain ⟨ρ1, g1, g2, g3⟩ := fz_ok hS hb hc.2.2
      obtain ⟨_, ρ2, q1, q2, q3⟩ := fzSteps_ok bs _ _ _ ρ1 h g2 (fzL_rel g3 a A hc.2.1 hA)
      exact ⟨hc.1, ρ2, Env.le_trans g1 q1, q2, q3⟩
    · exact fzSteps_ok bs c a s ρ h hS hA
end Go.Sym
end

section
namespace Go.Sym
open Go.RowKit (Below)
set_option linter.unusedSimpArgs false
set_option linter.unusedVariables false

def Env.cut (ρ : Env) (k : Nat) : Env := ⟨fun b => bif Nat.blt b k then ρ b else none, min ρ.n k, ρ.φ⟩
theorem Env.cut_below (ρ : Env) (k : Nat) : (ρ.cut k).below k := by
  refine ⟨Nat.min_le_right _ _, fun b x h => ?_⟩
  simp only [Env.cut] at h
  cases hb : Nat.blt b k with
  | true => rw [blt_iff] at hb; exact of_decide_eq_true hb
  | false => rw [hb] at h; cases h
theorem Env.cut_le (ρ : Env) (k : Nat) : (ρ.cut k).le ρ := by
  refine ⟨⟨fun b x h => ?_, fun _ _ _ h => h⟩, Nat.min_le_left _ _, fun b hb h => ?_⟩
  · simp only [Env.cut] at h
    cases hb : Nat.blt b k with
    | true => rw [hb] at h; exact h
    | false => rw [hb] at h; cases h
  · simp only [Env.cut] at h hb
    have hk : Nat.blt b k = true := by rw [blt_iff]; exact decide_eq_true (by omega)
    rw [hk, cond_true] at h
    exact h
def HeapAt (P : Program) (k : Nat) (g : FuncId) (args : List V) (os : List EObj) (v : V) (h' : List (Nat × EObj)) (n' : Nat) : Prop :=
  ∀ (own : Own) (ρ : Env) (w : World) (A : Array Value), SRel own ρ ⟨heapOf (idxO 0 os), os.length⟩ w → LRel ρ args A.toList →
    Calls P g A w fun E w' => ∃ ρ' X, (ρ.cut k).le ρ' ∧ E = .returned X ∧ VRel ρ' v X ∧ SRel own ρ' ⟨heapOf h', n'⟩ w' ∧ Fr own w w'

def HeapX (P : Program) (k : Nat) (g : FuncId) (args : List V) (os : List EObj) (e : EEnd) (h' : List (Nat × EObj)) (n' : Nat) : Prop :=
  ∀ (own : Own) (ρ : Env) (w : World) (A : Array Value), SRel own ρ ⟨heapOf (idxO 0 os), os.length⟩ w → LRel ρ args A.toList →
    Calls P g A w fun E w' => ∃ ρ', (ρ.cut k).le ρ' ∧ NRel ρ' e E ∧ SRel own ρ' ⟨heapOf h', n'⟩ w' ∧ Fr own w w'
theorem HeapAt.x {P : Program} {k : Nat} {g : FuncId} {args : List V} {os : List EObj} {v : V} {h' : List (Nat × EObj)} {n' : Nat} (h : HeapAt P k g args os v h' n') : HeapX P k g args os (.ret v) h' n' :=
  fun own ρ w A hS hA => (h own ρ w A hS hA).mono fun _ _ ⟨ρ', X, a, b, c, d, f⟩ => ⟨ρ', a, ⟨X, b, c⟩, d, f⟩
theorem HeapX.r {P : Program} {k : Nat} {g : FuncId} {args : List V} {os : List EObj} {v : V} {h' : List (Nat × EObj)} {n' : Nat} (h : HeapX P k g args os (.ret v) h' n') : HeapAt P k g args os v h' n' :=
  fun own ρ w A hS hA => (h own ρ w A hS hA).mono fun _ _ ⟨ρ', a, ⟨X, b, c⟩, d, f⟩ => ⟨ρ', X, a, b, c, d, f⟩

abbrev HRes := List Bool × V × List (Nat × EObj) × Nat
inductive HR where
  | res (c : List Bool) (e : EEnd) (h' : List (Nat × EObj)) (n' : Nat)
  | ite (b : Bool) (p q : HR)
def HRAt (P : Program) (k : Nat) (g : FuncId) (args : List V) (os : List EObj) : HR → Prop
  | .res c e h' n' => allB c → HeapX P k g args os e h' n'
  | .ite b p q => (b = true → HRAt P k g args os p) ∧ (b = false → HRAt P k g args os q)
abbrev HTab := FuncId → Option (Nat × Bool × (List V → List EObj → Option HR))
def HTabOK (P : Program) (ht : HTab) : Prop := ∀ g k fr F, ht g = some (k, fr, F) → ∀ args os r, F args os = some r → HRAt P k g args os r
noncomputable section
mutual
def nmV : V → List Nat
  | .ptr b _ => [b]
  | .rptr b _ _ _ => [b]
  | .sl b _ _ _ _ _ => [b]
  | .rs b _ _ _ _ _ => [b]
  | .map b => [b]
  | .yld b => [b]
  | .fn _ a c => lapp (nmL a) (nmL c)
  | .iface _ v => nmV v
  | .agg l => nmL l
  | .tup l => nmL l
  | _ => []
def nmL : List V → List Nat
  | [] => []
  | v :: l => lapp (nmV v) (nmL l)
end
def nmM : List (V × V × Nat) → List Nat
  | [] => []
  | e :: l => lapp (nmV e.1) (lapp (nmV e.2.1) (nmM l))
def nmO : Option EObj → List Nat
  | some (.cells cs _ _) => nmL cs
  | some (.map es _) => nmM es
  | _ => []
def memN (b : Nat) : List Nat → Bool
  | [] => false
  | c :: l => bif Nat.beq b c then true else memN b l
def reach (h : T EObj) : Nat → List Nat → List Nat → List Nat
  | 0, _, acc => acc
  | _ + 1, [], acc => acc
  | n + 1, b :: l, acc => bif memN b acc then reach h n l acc else reach h n (lapp l (nmO (h.get b))) (lapp acc [b])
def posN (b : Nat) : List Nat → Nat → Option Nat
  | [], _ => none
  | c :: l, i => bif Nat.beq b c then some i else posN b l (i + 1)
def objsAt (f : Nat → Option Nat) (h : T EObj) : List Nat → Option (List EObj)
  | [] => some []
  | b :: l => (match h.get b with
    | some o => (match renO f o, objsAt f h l with
      | some o', some l' => some (o' :: l')
      | _, _ => none)
    | none => none)
def rangeN : Nat → Nat → List Nat
  | _, 0 => []
  | b, n + 1 => b :: rangeN (b + 1) n
def backN (acc : List Nat) (k next : Nat) (b : Nat) : Option Nat := bif Nat.blt b k then lget acc b else some (next + (b - k))
def renE (f : Nat → Option Nat) : EEnd → Option EEnd
  | .ret v => (match renV f v with
    | some v' => some (.ret v')
    | none => none)
  | .pan v => (match renV f v with
    | some v' => some (.pan v')
    | none => none)
inductive HS where
  | res (c : List Bool) (e : EEnd) (s' : St)
  | ite (b : Bool) (p q : HS)
  | bad
def backR (k : Nat) (s : St) (acc : List Nat) (n0 : Nat) : HR → HS
  | .res c e h' n' => bif Nat.ble k n' then (match renE (backN acc k n0) e, renH (backN acc k n0) h' with
    | some e', some h'' => .res c e' ⟨putsT (delsT s.heap (lapp acc (rangeN n0 (n' - k)))) h'', n0 + (n' - k)⟩
    | _, _ => .bad) else .bad
  | .ite b p q => .ite b (backR k s acc n0 p) (backR k s acc n0 q)
def hpCore (k : Nat) (F : List V → List EObj → Option HR) (args : List V) (s : St) (acc : List Nat) : Option HS :=
  match renL (fun b => posN b acc 0) args, objsAt (fun b => posN b acc 0) s.heap acc with
  | some args', some os => (match F args' os with
    | some r => bif Nat.ble k (llen os) && lall (fun b => Nat.blt b s.next) acc then strictN s.next (fun n0 => some (backR k s acc n0 r)) else none
    | none => none)
  | _, _ => none
def hpFz (fr : Bool) (k : Nat) (args : List V) (s : St) : List Bool × List V × St :=
  bif fr then fzSteps (ldrop (reach s.heap 60 (nmL args) []) k) [] args s else ([], args, s)
def hpAt (ht : HTab) (t : ETgt) (s : St) : Option (List Bool × HS) :=
  match t with
  | .fn g args => (match ht g with
    | some (k, fr, F) => (match hpFz fr k args s with
      | (c0, args, s) => (match hpCore k F args s (reach s.heap 60 (nmL args) []) with
        | some r => some (c0, r)
        | none => none))
    | none => none)
  | .round _ _ => none
def endW (e : EEnd) (s' : St) (k : KS) : Prop := match e with
  | .ret v => forceV 4 v fun v => forceS s' fun s => k (.ret v) s
  | .pan v => forceV 4 v fun v => forceS s' fun s => k (.pan v) s
def walkR (r : HS) (k : KS) : Prop := @HS.rec (fun _ => Prop) (fun c e s' => needsR c (endW e s' k)) (fun b _ _ p q => iteB b p q) False r
def evalR : HS → Option (EEnd × St)
  | .res c e s' => bif allb c then some (e, s') else none
  | .ite b p q => bif b then evalR p else evalR q
  | .bad => none
def knHW (ht : HTab) (kw : KnW) : KnW := fun t s => match hpAt ht t s with
  | some (c0, r) => some fun k => needsR c0 (walkR r k)
  | none => kw t s
def knHE (ht : HTab) (known : ESelf) : ESelf := fun t s => match hpAt ht t s with
  | some (c0, r) => bif allb c0 then evalR r else none
  | none => known t s
end
theorem walkR_ad {k : KS} : ∀ {r : HS}, walkR r k → ∃ e s', evalR r = some (e, s') ∧ k e s'
  | .res c e s', h => by
    have h : needsR c (endW e s' k) := h
    obtain ⟨h1, h2⟩ := needs_b h
    refine ⟨e, s', by rw [evalR, h1, cond_true], ?_⟩
    cases e with
    | ret v =>
      have h2 : forceV 4 v fun v => forceS s' fun s => k (.ret v) s := h2
      rw [forceV_iff, forceS_iff] at h2; exact h2
    | pan v =>
      have h2 : forceV 4 v fun v => forceS s' fun s => k (.pan v) s := h2
      rw [forceV_iff, forceS_iff] at h2; exact h2
  | .ite b p q, h => by
    have h : iteB b (walkR p k) (walkR q k) := h
    cases b with
    | true => obtain ⟨e, s', h1, h2⟩ := walkR_ad (r := p) h; exact ⟨e, s', by rw [evalR, cond_true]; exact h1, h2⟩
    | false => obtain ⟨e, s', h1, h2⟩ := walkR_ad (r := q) h; exact ⟨e, s', by rw [evalR, cond_false]; exact h1, h2⟩
  | .bad, h => h.elim
theorem renE_rel {f : Nat → Option Nat} {ρ ρ' : Env} (h : RenOK f ρ ρ') {e e' : EEnd} {E : Ending} (he : renE f e = some e') (hn : NRel ρ e E) : NRel ρ' e' E := by
  cases e with
  | ret v =>
    rw [renE] at he
    split at he
    · rename_i v' hv
      cases he
      obtain ⟨X, h1, h2⟩ := hn
      exact ⟨X, h1, renV_rel h v _ X hv h2⟩
    · cases he
  | pan v =>
    rw [renE] at he
    split at he
    · rename_i v' hv
      cases he
      obtain ⟨X, h1, h2⟩ := hn
      exact ⟨X, h1, renV_rel h v _ X hv h2⟩
    · cases he
theorem knH_ad (ht : HTab) {kw : KnW} {known : ESelf} (ha : AdK kw known) : AdK (knHW ht kw) (knHE ht known) := by
  intro t s r hr k hk
  unfold knHW at hr
  unfold knHE
  split at hr
  · rename_i c r hc
    cases hr
    obtain ⟨h1, h2⟩ := needs_b hk
    obtain ⟨e, s', h3, h4⟩ := walkR_ad h2
    exact ⟨e, s', by simp only [h1, cond_true, h3], h4⟩
  · exact ha t s r hr k hk
theorem knH_no (ht : HTab) {kw : KnW} {known : ESelf} (hn : NoK kw known) : NoK (knHW ht kw) (knHE ht known) := by
  intro t s h
  unfold knHW at h
  unfold knHE
  split at h
  · cases h
  · exact hn t s h

theorem posN_get : ∀ {l : List Nat} {b j i : Nat}, posN b l j = some i → j ≤ i ∧ l[i - j]? = some b
  | [], b, j, i, h => by cases h
  | c :: l, b, j, i, h => by
    rw [posN] at h
    cases hb : Nat.beq b c with
    | true =>
      rw [hb, cond_true] at h; cases h
      have := Nat.eq_of_beq_eq_true hb
      subst this
      exact ⟨Nat.le_refl _, by rw [Nat.sub_self]; rfl⟩
    | false =>
      rw [hb, cond_false] at h
      obtain ⟨h1, h2⟩ := posN_get h
      exact ⟨by omega, by rw [show i - j = (i - (j + 1)) + 1 by omega, List.getElem?_cons_succ]; exact h2⟩
theorem objsAt_get {f : Nat → Option Nat} {h : T EObj} : ∀ {l : List Nat} {os : List EObj}, objsAt f h l = some os → os.length = l.length ∧ ∀ (i : Nat) (o' : EObj), os[i]? = some o' → ∃ (b : Nat) (o : EObj), l[i]? = some b ∧ h.get b = some o ∧ renO f o = some o'
  | [], os, hr => by rw [objsAt] at hr; cases hr; exact ⟨rfl, fun i o' hi => by simp at hi⟩
  | b :: l, os, hr => by
    rw [objsAt] at hr
    split at hr
    · rename_i o ho
      split at hr
      · rename_i o1 l1 h1 h2
        cases hr
        obtain ⟨g1, g2⟩ := objsAt_get h2
        refine ⟨by simp [g1], fun i o' hi => ?_⟩
        cases i with
        | zero => simp at hi; subst hi; exact ⟨b, o, rfl, ho, h1⟩
        | succ i => exact (g2 i o' (by simpa using hi)).imp fun b' h => by simpa using h
      · cases hr
    · cases hr
theorem rangeN_mem : ∀ {n b a : Nat}, b ≤ a → a < b + n → a ∈ rangeN b n
  | 0, b, a, h1, h2 => by omega
  | n + 1, b, a, h1, h2 => by
    rw [rangeN]
    by_cases e : a = b
    · rw [e]; exact List.mem_cons_self
    · exact List.mem_cons_of_mem _ (rangeN_mem (by omega) (by omega))
theorem memN_of : ∀ {l : List Nat} {b : Nat}, memN b l = false → b ∉ l
  | [], b, _ => by simp
  | c :: l, b, h => by
    rw [memN] at h
    cases hb : Nat.beq b c with
    | true => rw [hb, cond_true] at h; cases h
    | false =>
      rw [hb, cond_false] at h
      intro hm
      rcases List.mem_cons.1 hm with e | e
      · subst e; rw [Nat.beq_refl] at hb; cases hb
      · exact memN_of h e
theorem reach_nodup (h : T EObj) : ∀ (n : Nat) (l acc : List Nat), acc.Nodup → (reach h n l acc).Nodup
  | 0, l, acc, hn => hn
  | n + 1, [], acc, hn => hn
  | n + 1, b :: l, acc, hn => by
    rw [reach]
    cases hb : memN b acc with
    | true => exact reach_nodup h n l acc hn
    | false =>
      refine reach_nodup h n _ _ ?_
      rw [lapp_eq]
      refine List.nodup_append.2 ⟨hn, by simp, fun a ha b' hb' e => ?_⟩
      rw [List.mem_singleton.1 hb'] at e
      exact memN_of hb (e ▸ ha)

theorem hpLeaf_ok {P : Program} {k : Nat} {g : FuncId} {args args' : List V} {s : St} {acc : List Nat} {os : List EObj} {e e2 : EEnd} {h1 h2 : List (Nat × EObj)} {n1 : Nat} (hF : HeapX P k g args' os e h1 n1)
    (hnd : acc.Nodup) (hargs : renL (fun b => posN b acc 0) args = some args') (hos : objsAt (fun b => posN b acc 0) s.heap acc = some os) (hkn1 : k ≤ n1) (hkos : k ≤ os.length) (hall : ∀ x ∈ acc, Nat.blt x s.next = true)
    (hv2 : renE (backN acc k s.next) e = some e2) (hh2 : renH (backN acc k s.next) h1 = some h2) {own : Own} {ρ : Env} {w : World} {A : Array Value} (hS : SRel own ρ s w) (hA : LRel ρ args A.toList) (n : Nat) :
    CallsIn Fence.wide n P g A w (Post own ρ w e2 ⟨putsT (delsT s.heap (lapp acc (rangeN s.next (n1 - k)))) h2, s.next + (n1 - k)⟩) := by
  obtain ⟨hlen, hget⟩ := objsAt_get hos
  let ρ1 : Env := ⟨fun b => match acc[b]? with
    | some b1 => ρ b1
    | none => none, os.length, ρ.φ⟩
  have hρ1 : ∀ b b1, acc[b]? = some b1 → ρ1 b = ρ b1 := fun b b1 h => by show (match acc[b]? with | some b1 => ρ b1 | none => none) = _; rw [h]
  let own1 : Own := ⟨fun B => (∃ b o x, b ∈ acc ∧ s.heap.get b = some o ∧ ρ b = some x ∧ x.B = B) ∨ w.heap.size ≤ B, ρ.φ⟩
  have hren : RenOK (fun b => posN b acc 0) ρ ρ1 := ⟨fun b b' hb x hx => by
    obtain ⟨_, g⟩ := posN_get hb
    rw [Nat.sub_zero] at g
    rw [hρ1 _ _ g]; exact hx, fun _ _ _ h => h⟩
  have hobj : ∀ b o x, (heapOf (idxO 0 os)).get b = some o → ρ1 b = some x → ∃ b1 o1, acc[b]? = some b1 ∧ s.heap.get b1 = some o1 ∧ ρ b1 = some x ∧ renO (fun b => posN b acc 0) o1 = some o := by
    intro b o x hb hx
    obtain ⟨_, g1⟩ := idxO_get hb
    rw [Nat.sub_zero] at g1
    obtain ⟨b1, o1, g2, g3, g4⟩ := hget b o g1
    rw [hρ1 _ _ g2] at hx
    exact ⟨b1, o1, g2, g3, hx, g4⟩
  have hS1 : SRel own1 ρ1 ⟨heapOf (idxO 0 os), os.length⟩ w := by
    refine ⟨fun B hB => .inr hB, fun b o x hb hx => ?_, fun b b' o o' x x' hb hb' hx hx' hne => ?_, fun b x hx => ?_, Nat.le_refl _, hS.fz, fun _ _ _ => rfl⟩
    · obtain ⟨b1, o1, g1, g2, g3, g4⟩ := hobj b o x hb hx
      obtain ⟨⟨q1, q2⟩, q3⟩ := hS.obj b1 o1 x g2 g3
      exact ⟨⟨.inl ⟨b1, o1, x, List.mem_of_getElem? g1, g2, g3, rfl⟩, q2⟩, renO_rel hren g4 q3⟩
    · obtain ⟨b1, o1, g1, g2, g3, g4⟩ := hobj b o x hb hx
      obtain ⟨b1', o1', g1', g2', g3', g4'⟩ := hobj b' o' x' hb' hx'
      refine hS.inj b1 b1' o1 o1' x x' g2 g2' g3 g3' fun e => hne ?_
      subst e
      obtain ⟨l1, e1⟩ := List.getElem?_eq_some_iff.1 g1
      obtain ⟨l2, e2⟩ := List.getElem?_eq_some_iff.1 g1'
      exact (List.getElem_inj hnd).1 (e1.trans e2.symm)
    · have : ∃ b1, acc[b]? = some b1 := by
        cases ha : acc[b]? with
        | some b1 => exact ⟨b1, rfl⟩
        | none =>
          have hx : (match acc[b]? with | some b1 => ρ b1 | none => none) = some x := hx
          rw [ha] at hx; cases hx
      obtain ⟨b1, ha⟩ := this
      show b < os.length
      rw [hlen]
      exact (List.getElem?_eq_some_iff.1 ha).1
  have hp := hF own1 ρ1 w A hS1 (renL_rel hren _ _ _ hargs hA)
  refine callsIn_wide.2 (hp.mono ?_)
  rintro E w' ⟨ρ', hle, hX, hS', hfr⟩
  have hown1 : ∀ B, own1 B → own B := fun B hB => by
    rcases hB with ⟨b, o, x, _, h2, h3, rfl⟩ | hB
    · exact (hS.obj b o x h2 h3).1.1
    · exact hS.le B hB
  let ρ2 : Env := ⟨fun a => bif Nat.blt a s.next then ρ a else ρ' (k + (a - s.next)), ρ.n, ρ'.φ⟩
  have hlo : ∀ a, a < s.next → ρ2 a = ρ a := fun a ha => by
    show (bif Nat.blt a s.next then ρ a else ρ' (k + (a - s.next))) = _
    rw [blt_iff, decide_eq_true ha, cond_true]
  have hhi : ∀ a, s.next ≤ a → ρ2 a = ρ' (k + (a - s.next)) := fun a ha => by
    show (bif Nat.blt a s.next then ρ a else ρ' (k + (a - s.next))) = _
    rw [blt_iff, decide_eq_false (by omega), cond_false]
  have hsub : ρ.sub ρ2 := ⟨fun b x hb => by rw [hlo b (hS.dom b x hb)]; exact hb, hle.sub.2⟩
  have hcutn : ∀ b, b < k → b < (ρ1.cut k).n := fun b hb => by show b < min os.length k; omega
  have hkeep : ∀ b x, b < k → ρ' b = some x → ρ1 b = some x := fun b x hb hx => by
    have hcb : (ρ1.cut k) b = ρ1 b := by show (bif Nat.blt b k then ρ1 b else none) = _; rw [blt_iff, decide_eq_true hb, cond_true]
    cases h1 : ρ1 b with
    | none => rw [hle.keep b (hcutn b hb) (by rw [hcb]; exact h1)] at hx; cases hx
    | some y =>
      have := hle.sub.1 b y (by rw [hcb]; exact h1)
      rw [this] at hx; exact hx
  have hback : RenOK (backN acc k s.next) ρ' ρ2 := by
    refine ⟨fun b a hb x hx => ?_, fun _ _ _ h => h⟩
    unfold backN at hb
    by_cases hbk : b < k
    · rw [blt_iff, decide_eq_true hbk, cond_true, lget_eq] at hb
      have h1 := hkeep b x hbk hx
      rw [hρ1 _ _ hb] at h1
      rw [hlo a (hS.dom a x h1)]; exact h1
    · rw [blt_iff, decide_eq_false hbk, cond_false] at hb
      cases hb
      rw [hhi _ (Nat.le_add_right _ _), show k + (s.next + (b - k) - s.next) = b by omega]
      exact hx
  have hbinj : ∀ b a, backN acc k s.next b = some a → ∀ x, ρ2 a = some x → (∃ y, ρ' b = some y) → ρ' b = some x := by
    intro b a hb x hx ⟨y, hy⟩
    have := hback.1 b a hb y hy
    rw [this] at hx; cases hx; exact hy
  have hobj2 : ∀ a o x, (putsT (delsT s.heap (lapp acc (rangeN s.next (n1 - k)))) h2).get a = some o → ρ2 a = some x →
      (∃ b o', backN acc k s.next b = some a ∧ (heapOf h1).get b = some o' ∧ renO (backN acc k s.next) o' = some o ∧ ρ' b = some x) ∨ (s.heap.get a = some o ∧ a ∉ acc ∧ ρ a = some x) := by
    intro a o x ha hx
    rcases putsT_get hh2 ha with ⟨b, o', g1, g2, g3⟩ | g
    · refine .inl ⟨b, o', g1, g2, g3, ?_⟩
      unfold backN at g1
      by_cases hbk : b < k
      · rw [blt_iff, decide_eq_true hbk, cond_true, lget_eq] at g1
        by_cases han : a < s.next
        · rw [hlo a han] at hx
          refine hle.sub.1 b x ?_
          show (bif Nat.blt b k then ρ1 b else none) = _
          rw [blt_iff, decide_eq_true hbk, cond_true, hρ1 _ _ g1]; exact hx
        · exfalso
          have := hall a (List.mem_of_getElem? g1)
          rw [Nat.blt_eq] at this
          omega
      · rw [blt_iff, decide_eq_false hbk, cond_false] at g1
        cases g1
        rw [hhi _ (Nat.le_add_right _ _), show k + (s.next + (b - k) - s.next) = b by omega] at hx
        exact hx
    · obtain ⟨g1, g2⟩ := delsT_get g
      rw [lapp_eq, List.mem_append, not_or] at g2
      refine .inr ⟨g1, g2.1, ?_⟩
      by_cases han : a < s.next
      · rw [hlo a han] at hx; exact hx
      · exfalso
        rw [hhi a (by omega)] at hx
        have hd : k + (a - s.next) < n1 := hS'.dom _ _ hx
        exact g2.2 (rangeN_mem (by omega) (by omega))
  have hout : ∀ a o x, s.heap.get a = some o → a ∉ acc → ρ a = some x → ¬ own1 x.B := by
    intro a o x h1 h2 h3 hB
    rcases hB with ⟨b, o', x', g1, g2, g3, g4⟩ | hB
    · refine hS.inj b a o' o x' x g2 h1 g3 h3 (fun e => h2 (e ▸ g1)) g4
    · exact absurd (hS.lt h1 h3) (by omega)
  refine ⟨ρ2, ⟨hsub, Nat.le_refl _, fun b hb hn => ?_⟩, renE_rel hback hv2 hX, ⟨fun B hB => hS.le B (Nat.le_trans hfr.size hB), fun a o x ha hx => ?_, fun a a' o o' x x' ha ha' hx hx' hne => ?_, fun a x hx => ?_, ?_, hS'.fz, fun B j hB => ?_⟩, ⟨hfr.os, hfr.tape, hfr.output, hfr.size, fun B hB => hfr.block B fun h => hB (hown1 B h)⟩⟩
  · rw [hlo b (Nat.lt_of_lt_of_le hb hS.top)]; exact hn
  · rcases hobj2 a o x ha hx with ⟨b, o', g1, g2, g3, g4⟩ | ⟨g1, g2, g3⟩
    · obtain ⟨⟨q1, q2⟩, q3⟩ := hS'.obj b o' x g2 g4
      exact ⟨⟨hown1 _ q1, q2⟩, renO_rel hback g3 q3⟩
    · obtain ⟨⟨q1, q2⟩, q3⟩ := hS.obj a o x g1 g3
      have hno := hout a o x g1 g2 g3
      refine ⟨⟨q1, fun j => ?_⟩, ?_⟩
      · show ρ'.φ x.B j = none
        rw [hS'.old _ _ hno]
        exact q2 j
      · rw [hfr.block _ hno]
        exact q3.up hsub
  · rcases hobj2 a o x ha hx with ⟨b, p, g1, g2, g3, g4⟩ | ⟨g1, g2, g3⟩ <;> rcases hobj2 a' o' x' ha' hx' with ⟨b', p', g1', g2', g3', g4'⟩ | ⟨g1', g2', g3'⟩
    · refine hS'.inj b b' p p' x x' g2 g2' g4 g4' fun e => hne ?_
      subst e
      rw [g1] at g1'; cases g1'; rfl
    · intro e
      exact hout a' o' x' g1' g2' g3' (e ▸ (hS'.obj b p x g2 g4).1.1)
    · intro e
      exact hout a o x g1 g2 g3 (e ▸ (hS'.obj b' p' x' g2' g4').1.1)
    · exact hS.inj a a' o o' x x' g1 g1' g3 g3' hne
  · show a < s.next + (n1 - k)
    by_cases han : a < s.next
    · omega
    · rw [hhi a (by omega)] at hx
      have hd : k + (a - s.next) < n1 := hS'.dom _ _ hx
      omega
  · show ρ.n ≤ s.next + (n1 - k)
    have := hS.top
    omega
  · show ρ'.φ B j = own.φ B j
    rw [hS'.old B j fun h => hB (hown1 B h)]
    exact hS.old B j hB
theorem back_ok {P : Program} {k : Nat} {g : FuncId} {args args' : List V} {s : St} {acc : List Nat} {os : List EObj}
    (hnd : acc.Nodup) (hargs : renL (fun b => posN b acc 0) args = some args') (hos : objsAt (fun b => posN b acc 0) s.heap acc = some os) (hkos : k ≤ os.length) (hall : ∀ x ∈ acc, Nat.blt x s.next = true)
    {own : Own} {ρ : Env} {w : World} {A : Array Value} (hS : SRel own ρ s w) (hA : LRel ρ args A.toList) (n : Nat) : ∀ {r : HR} {e : EEnd} {s' : St}, HRAt P k g args' os r → evalR (backR k s acc s.next r) = some (e, s') → CallsIn Fence.wide n P g A w (Post own ρ w e s')
  | .res c e h1 n1, e', s', hr, he => by
    rw [backR] at he
    cases hk : Nat.ble k n1 with
    | false => rw [hk, cond_false] at he; cases he
    | true =>
      rw [hk, cond_true] at he
      split at he
      · rename_i e2 h2 he2 hh2
        rw [evalR] at he
        cases hc : allb c with
        | false => rw [hc] at he; cases he
        | true =>
          rw [hc, cond_true] at he
          cases he
          exact hpLeaf_ok (hr ((allb_iff c).1 hc)) hnd hargs hos (Nat.le_of_ble_eq_true hk) hkos hall he2 hh2 hS hA n
      · cases he
  | .ite b p q, e', s', hr, he => by
    rw [backR, evalR] at he
    cases b with
    | true => rw [cond_true] at he; exact back_ok hnd hargs hos hkos hall hS hA n (hr.1 rfl) he
    | false => rw [cond_false] at he; exact back_ok hnd hargs hos hkos hall hS hA n (hr.2 rfl) he
theorem hpCore_ok {P : Program} {k : Nat} {g : FuncId} {F : List V → List EObj → Option HR} (hF : ∀ args os r, F args os = some r → HRAt P k g args os r)
    {args : List V} {s : St} {acc : List Nat} (hnd : acc.Nodup) {r : HS} (hc : hpCore k F args s acc = some r) {e : EEnd} {s' : St} (he : evalR r = some (e, s')) {own : Own} {ρ : Env} {w : World} {A : Array Value} (hS : SRel own ρ s w) (hA : LRel ρ args A.toList) (n : Nat) :
    CallsIn Fence.wide n P g A w (Post own ρ w e s') := by
  unfold hpCore at hc
  simp only [strictN_eq] at hc
  split at hc
  · rename_i args' os hargs hos
    split at hc
    · rename_i r1 hres
      cases hkb : (Nat.ble k (llen os) && lall (fun b => Nat.blt b s.next) acc) with
      | false => rw [hkb] at hc; cases hc
      | true =>
      rw [hkb, cond_true] at hc
      rw [Bool.and_eq_true, Nat.ble_eq, llen_eq, lall_eq, List.all_eq_true] at hkb
      cases hc
      exact back_ok hnd hargs hos hkb.1 hkb.2 hS hA n (hF _ _ _ hres) he
    · cases hc
  · cases hc
theorem Post.le {own : Own} {ρ ρ' : Env} {w : World} {e : EEnd} {s' : St} (h : ρ.le ρ') {E : Ending} {w' : World} (r : Post own ρ' w e s' E w') : Post own ρ w e s' E w' := by
  obtain ⟨ρ2, h1, h2⟩ := r
  exact ⟨ρ2, Env.le_trans h h1, h2⟩
theorem knH_ok {P : Program} {ht : HTab} {known : ESelf} (hh : HTabOK P ht) (hk : SelfOK P known) : SelfOK P (knHE ht known) := by
  intro t s e s' hkn own ρ w hS n
  unfold knHE at hkn
  split at hkn
  · rename_i c r hc
    cases hcc : allb c with
    | false => rw [hcc] at hkn; cases hkn
    | true =>
    rw [hcc, cond_true] at hkn
    have hcc := (allb_iff c).1 hcc
    cases t with
    | round l args => cases hc
    | fn g args =>
    intro A hA
    unfold hpAt at hc
    split at hc
    · rename_i g0 args0 heq
      cases heq
      split at hc
      · rename_i k fr F hF
        split at hc
        rename_i c0 args1 s2 hfz
        split at hc
        · rename_i r1 hcore
          cases hc
          have hpre : ∃ ρ', ρ.le ρ' ∧ SRel own ρ' s2 w ∧ LRel ρ' args1 A.toList := by
            unfold hpFz at hfz
            cases fr with
            | false => rw [cond_false] at hfz; cases hfz; exact ⟨ρ, ρ.le_refl, hS, hA⟩
            | true =>
              rw [cond_true] at hfz
              have := fzSteps_ok (ldrop (reach s.heap 60 (nmL args) []) k) [] args s ρ (by rw [hfz]; exact hcc) hS hA
              rw [hfz] at this
              exact this.2
          obtain ⟨ρ1, g1, g2, g3⟩ := hpre
          exact (hpCore_ok (fun args os r h1 => hh g k fr F hF args os r h1) (reach_nodup s2.heap 60 (nmL args1) [] List.nodup_nil) hcore hkn g2 g3 n).mono fun E w' r => Post.le g1 r
        · cases hc
      · cases hc
    · cases hc
  · exact hk t s e s' hkn own ρ w hS n
noncomputable section
mutual
def fpV : V → V → List Nat
  | .lst _ _ _, w => (match w with
    | .rs b _ _ _ _ _ => [b]
    | _ => [])
  | .iface _ v, w => (match w with
    | .iface _ u => fpV v u
    | _ => [])
  | .agg l, w => (match w with
    | .agg m => fpL l m
    | _ => [])
  | .tup l, w => (match w with
    | .tup m => fpL l m
    | _ => [])
  | .fn _ a c, w => (match w with
    | .fn _ a' c' => lapp (fpL a a') (fpL c c')
    | _ => [])
  | _, _ => []
def fpL : List V → List V → List Nat
  | [], _ => []
  | v :: l, m => (match m with
    | w :: m => lapp (fpV v w) (fpL l m)
    | [] => [])
end
def fpO (o : EObj) (o1 : Option EObj) : List Nat := match o with
  | .cells cs _ _ => (match o1 with
    | some (.cells ds _ _) => fpL cs ds
    | _ => [])
  | _ => []
def fpH (k : Nat) (m : List (Nat × Nat)) (h1 : T EObj) : List (Nat × EObj) → List Nat
  | [] => []
  | e :: l => lapp (match renN k m e.1 with
    | some b1 => fpO e.2 (h1.get b1)
    | none => []) (fpH k m h1 l)
def uniqN : List Nat → List Nat
  | [] => []
  | b :: l => bif memN b (uniqN l) then uniqN l else b :: uniqN l
def cfg1 (v : V) (s : St) : Cfg := ⟨⟨1, .leaf v⟩, [], s⟩
def cd1 (v : V) (h : List (Nat × EObj)) (n : Nat) : CD := ⟨1, [(0, v)], [], h, n⟩
def autoF (k : Nat) (v0 : V) (h0 : List (Nat × EObj)) (n0 : Nat) (v : V) (s : St) : List Nat :=
  uniqN (lapp (fpV v0 v) (fpH k (keepM k (autoM k (cd1 v0 h0 n0) (cfg1 v s))) s.heap h0))
def fzAll : List Nat → V → St → (V → St → Prop) → Prop
  | [], v, s, K => K v s
  | b :: bs, v, s, K => match s.heap.get b with
    | some (.rows e L t ish) => needsR (lapp (fzKV b e L v) (fzKT b e L s.heap)) (forceV 4 (fzV b e L v) fun v => forceS (fzS b e L s) fun s => fzAll bs v s K)
    | _ => False
def RetH (k : Nat) (v0 : V) (h0 : List (Nat × EObj)) (n0 : Nat) : KS := fun e s' => match e with
  | .ret v' => forceV 4 v' fun v' => forceL (autoF k v0 h0 n0 v' s') fun bs => fzAll bs v' s' fun v s => ∃ m, (cd1 v0 h0 n0).wk k m (cfg1 v s)
  | .pan _ => False
end
theorem fzAll_ok {own : Own} {w : World} {K : V → St → Prop} {X : Value} : ∀ (bs : List Nat) (v : V) (s : St) (ρ : Env), fzAll bs v s K → SRel own ρ s w → VRel ρ v X →
    ∃ ρ' v' s', ρ.le ρ' ∧ SRel own ρ' s' w ∧ VRel ρ' v' X ∧ K v' s'
  | [], v, s, ρ, h, hS, hv => ⟨ρ, v, s, ρ.le_refl, hS, hv, h⟩
  | b :: bs, v, s, ρ, h, hS, hv => by
    rw [fzAll] at h
    split at h
    · rename_i e L t ish hb
      rw [needsR_iff, forceV_iff, forceS_iff, lapp_eq, allB_append] at h
      obtain ⟨⟨h1, h2⟩, h3⟩ := h
      obtain ⟨ρ1, g1, g2, g3⟩ := fz_ok hS hb h2
      obtain ⟨ρ2, v', s', q1, q2, q3, q4⟩ := fzAll_ok bs _ _ ρ1 h3 g2 (fzV_rel g3 v X h1 hv)
      exact ⟨ρ2, v', s', Env.le_trans g1 q1, q2, q3, q4⟩
    · exact h.elim

section
variable {P : Program}
theorem heap_of_S {ws : SW} {self : ESelf} (hs : SelfOK P self) (ha : AdS ws self) {fuel N k : Nat} {g : FuncId} {args : List V} {os : List EObj} {v : V} {h' : List (Nat × EObj)} {n' : Nat} (hN : os.length = N) (hk : Nat.ble k N = true) (ls : List LpD) (hls : ∀ n, ∀ l ∈ ls, l.ok P n N (bodyOf P g))
    (h : forceS ⟨heapOf (idxO 0 os), N⟩ fun s => fnLW P ws fuel (lpsW N ls) g args s (RetH k v h' n')) : HeapAt P k g args os v h' n' := by
  intro own ρ w A hS hA
  subst hN
  rw [forceS_iff] at h
  obtain ⟨e, s', h1, h2⟩ := fnLW_ad ha fuel (lps_ad os.length ls) g args _ _ h
  have := fnL_sound hs fuel (lpsF os.length ls) g args _ (fun fn c n hf hc => by
    have hb : bodyOf P g = c := by simp only [bodyOf, hf, hc]
    rw [← hb]
    exact lps_ok (hls n)) e s' h1 own ρ w hS 0 A hA
  refine (callsIn_wide.1 this).mono ?_
  rintro E w' ⟨ρ1, g1, g2, g3, g4⟩
  cases e with
  | pan v' => exact h2.elim
  | ret v' =>
    obtain ⟨X, rfl, hX⟩ := g2
    have h2 : forceV 4 v' fun v' => forceL (autoF k v h' n' v' s') fun bs => fzAll bs v' s' fun v1 s => ∃ m, (cd1 v h' n').wk k m (cfg1 v1 s) := h2
    rw [forceV_iff, forceL_iff] at h2
    obtain ⟨ρ2, v2, s2, q1, q2, q3, m, q4⟩ := fzAll_ok _ v' s' ρ1 h2 g3 hX
    have hrel : Rel own ρ2 (cfg1 v2 s2) { tmps := #[X], defers := [] } w' := by
      refine ⟨⟨rfl, 0, rfl, Nat.le_refl _, fun i Y hi => ?_⟩, rfl, q2⟩
      cases i with
      | zero => simp at hi; subst hi; exact q3
      | succ i => simp at hi
    obtain ⟨ρ3, t1, t2⟩ := CD.wk_ok q4 own (ρ.cut k) ρ2 _ w' (Env.cut_below ρ k) (Env.le_trans (Env.cut_le ρ k) (Env.le_trans g1 q1)) hrel
    refine ⟨ρ3, X, t1, rfl, ?_, t2.s, g4⟩
    obtain ⟨_, d, _, _, f4⟩ := t2.f
    exact f4 0 X rfl
theorem heap_of_K {kw : KnW} {known : ESelf} (hs : SelfOK P known) (ha : AdK kw known) (hn : NoK kw known) {fuel d N k : Nat} {g : FuncId} {args : List V} {os : List EObj} {v : V} {h' : List (Nat × EObj)} {n' : Nat} (hN : os.length = N) (hk : Nat.ble k N = true) (ls : List LpD) (hls : ∀ n, ∀ l ∈ ls, l.ok P n N (bodyOf P g))
    (h : forceS ⟨heapOf (idxO 0 os), N⟩ fun s => fnLW P (callW P kw fuel d) fuel (lpsW N ls) g args s (RetH k v h' n')) : HeapAt P k g args os v h' n' :=
  heap_of_S (call_sound hs fuel d) (callW_ad ha hn fuel d) hN hk ls hls h
theorem heap_of_W {tab : Tab} (ht : TabOK P tab) {fuel d N k : Nat} {g : FuncId} {args : List V} {os : List EObj} {v : V} {h' : List (Nat × EObj)} {n' : Nat} (hN : os.length = N) (hk : Nat.ble k N = true) (ls : List LpD) (hls : ∀ n, ∀ l ∈ ls, l.ok P n N (bodyOf P g))
    (h : forceS ⟨heapOf (idxO 0 os), N⟩ fun s => fnLW P (callW P (knW tab) fuel d) fuel (lpsW N ls) g args s (RetH k v h' n')) : HeapAt P k g args os v h' n' :=
  heap_of_K (kn_ok ht) (kn_ad tab) (kn_no tab) hN hk ls hls h
theorem heap_of_H {ht : HTab} {tab : Tab} (hh : HTabOK P ht) (h0 : TabOK P tab) {fuel d N k : Nat} {g : FuncId} {args : List V} {os : List EObj} {v : V} {h' : List (Nat × EObj)} {n' : Nat} (hN : os.length = N) (hk : Nat.ble k N = true) (ls : List LpD) (hls : ∀ n, ∀ l ∈ ls, l.ok P n N (bodyOf P g))
    (h : forceS ⟨heapOf (idxO 0 os), N⟩ fun s => fnLW P (callW P (knHW ht (knW tab)) fuel d) fuel (lpsW N ls) g args s (RetH k v h' n')) : HeapAt P k g args os v h' n' :=
  heap_of_K (knH_ok hh (kn_ok h0)) (knH_ad ht (kn_ad tab)) (knH_no ht (kn_no tab)) hN hk ls hls h
theorem pure_of_H {ht : HTab} {tab : Tab} (hh : HTabOK P ht) (h0 : TabOK P tab) {fuel d : Nat} {g : FuncId} {args : List V} {v : V} (ls : List LpD) (hls : ∀ n, ∀ l ∈ ls, l.ok P n 0 (bodyOf P g))
    (h : fnLW P (callW P (knHW ht (knW tab)) fuel d) fuel (lpsW 0 ls) g args s0 (RetW v)) : PureAt P g args v :=
  pure_of_K (knH_ok hh (kn_ok h0)) (knH_ad ht (kn_ad tab)) (knH_no ht (kn_no tab)) ls hls h
def noHT : HTab := fun _ => none
theorem noHT_ok : HTabOK P noHT := fun _ _ _ _ h => by cases h
def oneXT (f : FuncId) (k : Nat) (fr : Bool) (F : List V → List EObj → Option HR) (b : HTab) : HTab := fun g => bif Nat.beq g f then some (k, fr, F) else b g
theorem oneXT_ok {f : FuncId} {k : Nat} {fr : Bool} {F : List V → List EObj → Option HR} {b : HTab} (hF : ∀ args os r, F args os = some r → HRAt P k f args os r) (hb : HTabOK P b) : HTabOK P (oneXT f k fr F b) := by
  intro g k' fr' F' h
  unfold oneXT at h
  cases hg : Nat.beq g f with
  | true => rw [hg, cond_true] at h; cases h; rw [Nat.eq_of_beq_eq_true hg]; exact hF
  | false => rw [hg, cond_false] at h; exact hb g k' fr' F' h
def retF (F : List V → List EObj → Option HRes) (args : List V) (os : List EObj) : Option HR := match F args os with
  | some (c, v, h', n') => some (.res c (.ret v) h' n')
  | none => none
def oneHT (f : FuncId) (k : Nat) (fr : Bool) (F : List V → List EObj → Option HRes) (b : HTab) : HTab := oneXT f k fr (retF F) b
theorem oneHT_ok {f : FuncId} {k : Nat} {fr : Bool} {F : List V → List EObj → Option HRes} {b : HTab} (hF : ∀ args os c v h' n', F args os = some (c, v, h', n') → allB c → HeapAt P k f args os v h' n') (hb : HTabOK P b) : HTabOK P (oneHT f k fr F b) := by
  refine oneXT_ok (fun args os r h => ?_) hb
  unfold retF at h
  split at h
  · rename_i c v h' n' hq
    cases h
    exact fun hc => (hF _ _ _ _ _ _ hq hc).x
  · cases h
theorem HeapAt.lst {k : Nat} {g : FuncId} {e : List Ty} {a : V} {L : List (rowDen e)} {pre rest : List V} {os : List EObj} {v : V} {h' : List (Nat × EObj)} {n' : Nat} (h : HeapAt P k g (pre ++ .lst e L false :: rest) os v h' n') (ha : ofLst e a = some L) : HeapAt P k g (pre ++ a :: rest) os v h' n' := by
  intro own ρ w A hS hA
  refine h own ρ w A hS ?_
  clear h hS
  generalize A.toList = B at hA
  induction pre generalizing B with
  | nil =>
    obtain ⟨x, Y, rfl, h1, h2⟩ := hA
    exact ⟨x, Y, rfl, ofLst_rel ha h1, h2⟩
  | cons b pre ih =>
    obtain ⟨x, Y, rfl, h1, h2⟩ := hA
    exact ⟨x, Y, rfl, h1, ih Y h2⟩
end
end Go.Sym
end

section
namespace Go.Proofs.Ytechbadkbiognaa
open Go.Eng
open Go.RowKit (Below)

theorem works03_run : isTrue (callE Try.prog knownFiles 3000 40 (.fn 13 []) st0) = true := by kernel_rfl
theorem works03_calls (w : World) : Calls Try.prog 13 #[] w fun E w' => E = .returned (.bool true) ∧ Below w.heap.size w w' :=
  calls_true knownFiles_ok works03_run w
theorem works03_at : Go.Sym.PureAt Try.prog 13 [] (.bool true) :=
  Go.Sym.pure_of_calls (A := #[]) (X := .bool true) (fun φ Y h => h) (fun φ => rfl) works03_calls

theorem calls_true1 {P : Program} {known : ESelf} (hk : SelfOK P known) {fuel d : Nat} {g : FuncId} {x : BS} (h : isTrue (callE P known fuel d (.fn g [.str x]) st0) = true) (w : World) :
    Calls P g #[.string x.den] w fun E w' => E = .returned (.bool true) ∧ Below w.heap.size w w' := by
  cases hr : callE P known fuel d (.fn g [.str x]) st0 with
  | none => rw [hr] at h; cases h
  | some r =>
    obtain ⟨e, s'⟩ := r
    rw [hr] at h
    cases e with
    | pan v => cases h
    | ret v =>
      cases v with
      | bool b =>
        have hb : b = true := h
        subst hb
        refine (calls_of_eval hk hr w (A := #[.string x.den]) (LRel.cons (by simp only [VRel]) LRel.nil)).mono ?_
        rintro E w' ⟨ρ, X, rfl, h1, _, h3⟩
        have h1 : X = .bool true := by simpa only [VRel] using h1
        exact ⟨by rw [h1], h3⟩
      | _ => cases h
theorem isName_of (l : List UInt8) (h : isTrue (callE Try.prog knownFiles 300 40 (.fn 50 [.str (BS.ofList l)]) st0) = true) : Go.Sym.PureAt Try.prog 50 [.str ⟨l.toArray⟩] (.bool true) :=
  Go.Sym.pure_of_calls (A := #[.string ⟨l.toArray⟩]) (X := .bool true) (fun φ Y h => by
    obtain ⟨X, Z, rfl, h1, h2⟩ := h
    have h2 : Z = [] := h2
    simp only [Go.Sym.VRel] at h1
    rw [h1, h2]) (fun φ => by simp only [Go.Sym.VRel]) fun w => by
    have := calls_true1 knownFiles_ok h w
    rw [BS.den_ofList] at this
    exact this
def nmL : List (List UInt8) := [[102], [116], [102, 48], [102, 49], [102, 50], [120], [121], [122]]
theorem nm_run : ∀ l ∈ nmL, isTrue (callE Try.prog knownFiles 300 40 (.fn 50 [.str (BS.ofList l)]) st0) = true := by
  intro l hl
  simp only [nmL, List.mem_cons, List.not_mem_nil, or_false] at hl
  rcases hl with rfl | rfl | rfl | rfl | rfl | rfl | rfl | rfl <;> kernel_rfl
noncomputable def nmB : ByteArray → Bool := Go.Sym.hide fun s => decide (s.data.toList ∈ nmL)
theorem nmB_eq : nmB = fun s => decide (s.data.toList ∈ nmL) := Go.Sym.hide_eq _
noncomputable def isnF (args : List Go.Sym.V) : Option (List Bool × Go.Sym.V) := match args with
  | [.str s] => some ([nmB s], .bool true)
  | _ => none
theorem isnF_ok (args : List Go.Sym.V) (c : List Bool) (v : Go.Sym.V) (h : isnF args = some (c, v)) (hc : Go.Sym.allB c) : Go.Sym.PureAt Try.prog 50 args v := by
  unfold isnF at h
  split at h
  · rename_i s
    cases h
    have hs : s.data.toList ∈ nmL := by
      have := hc.1
      rw [nmB_eq] at this
      exact of_decide_eq_true this
    have := isName_of s.data.toList (nm_run _ hs)
    have e : (⟨s.data.toList.toArray⟩ : ByteArray) = s := by simp
    rwa [e] at this
  · cases h
noncomputable def true03F (args : List Go.Sym.V) : Option (List Bool × Go.Sym.V) := match args with
  | [] => some ([], .bool true)
  | _ => none
theorem true03F_ok (args : List Go.Sym.V) (c : List Bool) (v : Go.Sym.V) (h : true03F args = some (c, v)) (_ : Go.Sym.allB c) : Go.Sym.PureAt Try.prog 13 args v := by
  unfold true03F at h
  split at h
  · cases h; exact works03_at
  · cases h
noncomputable def tabN : Go.Sym.Tab := Go.Sym.oneTab 50 isnF (Go.Sym.oneTab 13 true03F Go.Sym.noTab)
theorem tabN_ok : Go.Sym.TabOK Try.prog tabN := Go.Sym.oneTab_ok isnF_ok (Go.Sym.oneTab_ok true03F_ok Go.Sym.noTab_ok)
end Go.Proofs.Ytechbadkbiognaa
end

section
namespace Go.Proofs.Ytechbadkbiognaa
open Go.Sym
set_option linter.unusedVariables false
set_option linter.unusedSimpArgs false
set_option maxRecDepth 100000
set_option maxHeartbeats 4000000
abbrev putE : List Ty := [.int .i64, .str]
abbrev byE : List Ty := [.int .u8]
noncomputable def layL : List Int → Nat → ByteArray → List Int := hide fun N a s => (N ++ List.replicate (a - N.length) 0).take a ++ bytesL s ++ N.drop (a + s.size)
theorem layL_eq (N : List Int) (a : Nat) (s : ByteArray) : layL N a s = (N ++ List.replicate (a - N.length) 0).take a ++ bytesL s ++ N.drop (a + s.size) := by unfold layL; rw [hide_eq]
theorem layL_le {N : List Int} {a : Nat} (h : a ≤ N.length) (s : ByteArray) : layL N a s = N.take a ++ bytesL s ++ N.drop (a + s.size) := by
  rw [layL_eq, show a - N.length = 0 by omega, List.replicate_zero, List.append_nil]
theorem layL_len (N : List Int) (a : Nat) (s : ByteArray) : (layL N a s).length = max N.length (a + s.size) := by
  rw [layL_eq]; simp only [List.length_append, List.length_take, List.length_drop, List.length_replicate, bytesL_len]; omega
theorem lay_over {N : List Int} {a : Nat} {s : ByteArray} (h : a + s.size ≤ N.length) : N.take a ++ ((bytesL s).take s.size ++ N.drop (a + s.size)) = layL N a s := by
  rw [layL_le (by omega), List.append_assoc, List.take_of_length_le (Nat.le_of_eq (bytesL_len s))]
theorem lay_on {N : List Int} {a k : Nat} {s : ByteArray} (hk : N.length + k = a + s.size) :
    (N ++ List.replicate k (0 : Int)).take a ++ ((bytesL s).take s.size ++ (N ++ List.replicate k (0 : Int)).drop (a + s.size)) = layL N a s := by
  have h1 : N.drop (a + s.size) = [] := List.drop_eq_nil_of_le (by omega)
  have h2 : (N ++ List.replicate k (0 : Int)).drop (a + s.size) = [] := List.drop_eq_nil_of_le (by simp; omega)
  rw [layL_eq, List.append_assoc, List.take_of_length_le (Nat.le_of_eq (bytesL_len s)), h1, h2]
  congr 1
  rw [List.take_append, List.take_append, List.take_replicate, List.take_replicate]
  congr 2
  omega
theorem lay_at (N : List Int) (a : Nat) (s : ByteArray) (c : Nat) (t : TypeId) (ish : Bool) (hc : N.length ≤ c ∧ c ≤ 1000000000) (hm : a + s.size ≤ 1000000000) : HeapAt Try.prog 0 53 [.rs 0 0 N.length c false 1, .agg [.int .i64 (a : Int), .str s]] [.rows byE N t ish]
    (.rs 0 0 (layL N a s).length (layL N a s).length false 1) [(0, .rows byE (layL N a s) 0 ish)] 1 := by
  have hl := layL_len N a s
  have hb := bytesL_len s
  obtain ⟨m, em⟩ : ∃ m, m = (layL N a s).length := ⟨_, rfl⟩
  rw [← em] at hl ⊢
  cases ish
  all_goals refine heap_of_W noTab_ok (fuel := 3) (d := 4) (N := 1) rfl rfl [] (fun _ _ h => by cases h) ?_
  repeat' ((conv => whnf); first | (with_reducible first | (refine W1.o ?_; constructor) | rfl | exact castL_self _ _) | ((with_reducible refine V.same_t ?_); exact rfl) | ((with_reducible refine andB_room ?_ ?_ ?_); (· kernel_rfl); (· (first | omega | (simp only [lens] <;> omega) | (decide +kernel) | (simp only [pms] <;> decide +kernel)))) | ((with_reducible refine W2.o ?_; constructor); · (first | (with_reducible assumption) | (first | omega | (simp only [lens] <;> omega) | (decide +kernel) | (simp only [pms] <;> decide +kernel)))) | ((with_reducible refine W3.o ?_; constructor); · (first | (with_reducible assumption) | (first | omega | (simp only [lens] <;> omega) | (decide +kernel) | (simp only [pms] <;> decide +kernel)))) | ((with_reducible refine W4.o ?_; constructor); · (first | (with_reducible first | assumption | exact decide_eq_true rfl | exact sEq_self _) | ((with_reducible refine eqOK_i ?_); kernel_rfl) | (simp only [pms] <;> decide +kernel))) | ((with_reducible refine iteB_f ?_ ?_); · (first | (with_reducible first | assumption | exact decide_eq_true rfl | exact sEq_self _) | ((with_reducible refine eqOK_i ?_); kernel_rfl) | (simp only [pms] <;> decide +kernel))) | (with_reducible refine CD.wk_au ?_) | (with_reducible refine W5.o ?_; constructor) | ((with_reducible refine W6.o ?_; constructor) <;> intro hB))
  all_goals ((conv => whnf); (try dsimp only); (try simp only [Nat.succ_eq_add_one, Nat.le_eq, castL_self]); (try omega))
  all_goals (try (first | omega | (simp only [lens] <;> omega) | (decide +kernel) | (simp only [pms] <;> decide +kernel)))
  all_goals first
    | exact rfl
    | (have e1 : seg N 0 N.length = N := seg_all N rfl
       have e2 : (bytesL s).length.min (N.length + ((a : Int) + (s.size : Int) - (N.length : Int)).toNat - a) = s.size := by rw [hb]; exact Nat.min_eq_left (by omega)
       simp only [Int.toNat_natCast, Nat.zero_add, e1, e2]
       exact lay_on (by omega))
    | (have e2 : (bytesL s).length.min (N.length - a) = s.size := by rw [hb]; exact Nat.min_eq_left (by omega)
       simp only [Int.toNat_natCast, Nat.zero_add, e2]
       exact lay_over (by omega))
    | trace_state
theorem lay_nil (s : ByteArray) (hm : s.size ≤ 1000000000) : HeapAt Try.prog 0 53 [.nils, .agg [.int .i64 0, .str s]] []
    (.rs 0 0 (layL [] 0 s).length (layL [] 0 s).length false 1) [(0, .rows byE (layL [] 0 s) 0 false)] 1 := by
  have hl := layL_len [] 0 s
  have hb := bytesL_len s
  rw [List.length_nil] at hl
  obtain ⟨m, em⟩ : ∃ m, m = (layL [] 0 s).length := ⟨_, rfl⟩
  rw [← em] at hl ⊢
  refine heap_of_W noTab_ok (fuel := 3) (d := 4) (N := 0) rfl rfl [] (fun _ _ h => by cases h) ?_
  repeat' ((conv => whnf); first | (with_reducible first | (refine W1.o ?_; constructor) | rfl | exact castL_self _ _) | ((with_reducible refine V.same_t ?_); exact rfl) | ((with_reducible refine andB_room ?_ ?_ ?_); (· kernel_rfl); (· (first | omega | (simp only [lens] <;> omega) | (decide +kernel) | (simp only [pms] <;> decide +kernel)))) | ((with_reducible refine W2.o ?_; constructor); · (first | (with_reducible assumption) | (first | omega | (simp only [lens] <;> omega) | (decide +kernel) | (simp only [pms] <;> decide +kernel)))) | ((with_reducible refine W3.o ?_; constructor); · (first | (with_reducible assumption) | (first | omega | (simp only [lens] <;> omega) | (decide +kernel) | (simp only [pms] <;> decide +kernel)))) | ((with_reducible refine W4.o ?_; constructor); · (first | (with_reducible first | assumption | exact decide_eq_true rfl | exact sEq_self _) | ((with_reducible refine eqOK_i ?_); kernel_rfl) | (simp only [pms] <;> decide +kernel))) | ((with_reducible refine iteB_f ?_ ?_); · (first | (with_reducible first | assumption | exact decide_eq_true rfl | exact sEq_self _) | ((with_reducible refine eqOK_i ?_); kernel_rfl) | (simp only [pms] <;> decide +kernel))) | (with_reducible refine CD.wk_au ?_) | (with_reducible refine W5.o ?_; constructor) | ((with_reducible refine W6.o ?_; constructor) <;> intro hB))
  all_goals ((conv => whnf); (try dsimp only); (try simp only [Nat.succ_eq_add_one, Nat.le_eq, castL_self]); (try omega))
  all_goals (try (first | omega | (simp only [lens] <;> omega) | (decide +kernel) | (simp only [pms] <;> decide +kernel)))
  all_goals first
    | exact rfl
    | (have ek : (0 + (s.size : Int) - 0).toNat = s.size := by omega
       have e3 : Int.toNat 0 = 0 := rfl
       have e2 : (bytesL s).length.min s.size = s.size := by rw [hb]; exact Nat.min_eq_left (by omega)
       rw [e3, ek, Nat.sub_zero, e2, Nat.zero_add]
       exact lay_on (N := []) (a := 0) (k := s.size) (s := s) (by simp))
    | trace_state
noncomputable def layF (args : List V) (os : List EObj) : Option HRes := match args with
  | [.rs b lo n c x es, .agg [.int .i64 A, .str s]] => (match os with
    | [.rows e L t ish] => (match asL byE e L with
      | some N => some ([Nat.beq b 0, Nat.beq lo 0, Nat.beq es 1, !x, decide (n = List.length (α := Int) N), decide (0 ≤ A), decide (List.length (α := Int) N ≤ c), decide (c ≤ 1000000000), decide (A.toNat + s.size ≤ 1000000000)], .rs 0 0 (layL N A.toNat s).length (layL N A.toNat s).length false 1, [(0, .rows byE (layL N A.toNat s) 0 ish)], 1)
      | none => none)
    | _ => none)
  | [.nils, .agg [.int .i64 A, .str s]] => (match os with
    | [] => some ([decide (A = 0), decide (s.size ≤ 1000000000)], .rs 0 0 (layL [] 0 s).length (layL [] 0 s).length false 1, [(0, .rows byE (layL [] 0 s) 0 false)], 1)
    | _ => none)
  | _ => none
theorem layF_ok (args : List V) (os : List EObj) (c : List Bool) (v : V) (h' : List (Nat × EObj)) (n' : Nat) (h : layF args os = some (c, v, h', n')) (hc : allB c) : HeapAt Try.prog 0 53 args os v h' n' := by
  unfold layF at h
  split at h
  · split at h
    · split at h
      · rename_i N hN
        cases h
        obtain ⟨q, e1⟩ := asL_eq hN
        subst q
        have e1 := e1.symm
        subst e1
        obtain ⟨c1, c2, c3, c4, c5, c6, c8, c9, c10, _⟩ := hc
        have c1 := Nat.eq_of_beq_eq_true c1
        have c2 := Nat.eq_of_beq_eq_true c2
        have c3 := Nat.eq_of_beq_eq_true c3
        have c5 := of_decide_eq_true c5
        have c6 := of_decide_eq_true c6
        have c8 := of_decide_eq_true c8
        have c9 := of_decide_eq_true c9
        have c10 := of_decide_eq_true c10
        rw [Bool.not_eq_true'] at c4
        subst c1 c2 c3 c4 c5
        have := fun t i => lay_at _ _ _ _ t i ⟨c8, c9⟩ c10
        rw [Int.toNat_of_nonneg c6] at this
        exact this _ _
      · cases h
    · cases h
  · split at h
    · cases h
      obtain ⟨c1, c2, _⟩ := hc
      have c1 := of_decide_eq_true c1
      have c2 := of_decide_eq_true c2
      subst c1
      exact lay_nil _ c2
    · cases h
  · cases h
noncomputable def htL : HTab := oneHT 53 0 false layF noHT
theorem htL_ok : HTabOK Try.prog htL := oneHT_ok layF_ok noHT_ok
end Go.Proofs.Ytechbadkbiognaa
end
