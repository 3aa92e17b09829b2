/-
  Texts of this claim, one behind the other: SymX. Each says its own conditions.
-/
import Derived.Test.YtlfhiophojahbaaCloM19

set_option linter.unusedVariables false
set_option linter.unusedSimpArgs false
set_option linter.unusedSectionVars false
section
namespace Go.Sym
set_option linter.unusedSimpArgs false
set_option linter.unusedVariables false

def AdC (wf : CW) (f : Cfg → Option (EExit × Cfg)) : Prop := ∀ c k, wf c k → ∃ e c', f c = some (e, c') ∧ k e c'
def AdS (ws : SW) (self : ESelf) : Prop := ∀ t s k, ws t s k → ∃ e s', self t s = some (e, s') ∧ k e s'

theorem needs_b {c : List Bool} {q : Prop} (h : needsR c q) : allb c = true ∧ q := by
  obtain ⟨h1, h2⟩ := (needsR_iff c q).1 h
  exact ⟨(allb_iff c).2 h1, h2⟩
theorem guardB_b {b : Bool} {q : Prop} (h : guardB b q) : b = true ∧ q := by cases b <;> simp [guardB] at h ⊢; exact h

section
variable {P : Program} {ws : SW} {self : ESelf}

theorem effW_ad {s : St} {ev : Operand → Option V} {op : Op} {k : EOut → St → Prop} (h : effW P s ev op k) : ∃ o s', eop P s ev op = some (o, s') ∧ k o s' := by
  unfold effW at h
  unfold eop
  split at h
  · rename_i c v s' hr
    obtain ⟨h1, h2⟩ := needs_b h
    exact ⟨_, _, by simp [hr, outR, outV, h1], (forceS_iff _ _).1 h2⟩
  · exact h.elim
  · rename_i c s' hr
    obtain ⟨h1, h2⟩ := needs_b h
    exact ⟨_, _, by simp [hr, outR, outS, h1], (forceS_iff _ _).1 h2⟩
  · exact h.elim
  · rename_i hr
    split at h
    · rename_i o s' hc
      exact ⟨_, _, by simp [hr, hc], (forceS_iff _ _).1 h⟩
    · exact h.elim
theorem B.set_get {α : Type} : ∀ (t : B α) (n : Nat), B.set (t.get n) t n = t
  | .leaf _, _ => rfl
  | .node l r, n => by
    rw [B.get_node, B.set_node]
    cases Nat.beq (n % 2) 1
    · simp only [cond_false]; rw [B.set_get l]
    · simp only [cond_true]; rw [B.set_get r]
theorem putE_get {f : Frm} {d : Tmp} {b : Bool} (h : f.get d = .bool b) : putE f (some d) (.bool b) = f := by
  rw [putE_some]
  rw [Frm.get_eq] at h
  cases hb : Nat.blt d f.n with
  | false => rfl
  | true =>
    rw [hb, cond_true] at h
    rw [cond_true, ← h, B.set_get]
theorem forceV_u {d : Nat} {v : V} {f : Frm} {o : Option Tmp} {k : V → Frm → Prop} (h : forceV d v fun v => putK f o v fun f' => k v f') : k v (putE f o v) := (putK_iff _ _ _ _).1 ((forceV_iff _ _ _).1 h)
theorem splitF_ad {d : Option Tmp} {f : Frm} {k : Frm → Prop} (h : splitF d f k) : k f := by
  unfold splitF at h
  split at h
  · exact h
  · split at h
    · rename_i b hb
      cases b
      · have h : putK f (some _) (.bool false) k := h
        rwa [putK_iff, putE_get hb] at h
      · have h : putK f (some _) (.bool true) k := h
        rwa [putK_iff, putE_get hb] at h
    · exact h
theorem opW_ad {s : St} {ev : Operand → Option V} {op : Op} {k : EOut → St → Prop} (h : opW P s ev op k) : ∃ o s', opE P s ev op = some (o, s') ∧ k o s' := by
  unfold opW at h
  unfold opE
  split at h
  · rename_i c v hq
    obtain ⟨h1, h2⟩ := needs_b h
    have := structEq_ok P (s := s) hq ((allb_iff c).1 h1)
    exact ⟨_, _, by simp [this, chkQ, allb], h2⟩
  split at h
  · rename_i c v hq
    obtain ⟨h1, h2⟩ := needs_b h
    exact ⟨_, _, by simp [hq, chkQ, h1], h2⟩
  · rename_i hq
    obtain ⟨o, s', h1, h2⟩ := effW_ad h
    exact ⟨o, s', by simp [hq, h1], h2⟩
theorem guardW_ad {g : Option (Option Tmp × Bool)} {f : Frm} {yes no : Prop} (h : guardW g f yes no) : wantOK g f = true ∧ ((wantedE g f = true ∧ yes) ∨ (wantedE g f = false ∧ no)) := by
  unfold guardW at h
  split at h
  · exact ⟨rfl, .inl ⟨rfl, h⟩⟩
  · exact ⟨rfl, .inr ⟨rfl, h⟩⟩
  · rename_i d want
    split at h
    · exact h.elim
    · rename_i b hb
      refine ⟨by simp [wantOK, hb, isAny], ?_⟩
      cases want <;> cases b <;> simp only [iteB] at h
      · exact .inl ⟨by simp [wantedE, hb], h⟩
      · exact .inr ⟨by simp [wantedE, hb], h⟩
      · exact .inr ⟨by simp [wantedE, hb], h⟩
      · exact .inl ⟨by simp [wantedE, hb], h⟩
    · rename_i h1 h2
      refine ⟨?_, .inr ⟨?_, h⟩⟩
      · simp only [wantOK, Bool.not_eq_true']
        cases hv : f.get d <;> first | rfl | exact absurd hv h1
      · unfold wantedE
        split <;> first | rfl | skip
        all_goals (rename_i hh; cases hh)
        all_goals (first | rfl | (split <;> first | rfl | (rename_i hv; exact absurd hv (h2 _))))

theorem opsW_ad (hs : AdS ws self) (ops : Array Oper) : ∀ l : List Oper, AdC (opsW P ws ops l) (runOps P self ops l)
  | [] => fun c k h => ⟨.normal, c, rfl, h⟩
  | o :: l => fun c k h => by
    have ih := opsW_ad hs ops l
    have h : stepW P ws ops (opsW P ws ops l) o c k := h
    have e : runOps P self ops (o :: l) c = stepE P self ops (runOps P self ops l) o c := rfl
    rw [e]
    obtain ⟨fr, ds, s⟩ := c
    simp only [stepW] at h
    obtain ⟨h1, h2⟩ := guardW_ad (splitF_ad h)
    simp only [stepE, h1, Bool.not_true, cond_false]
    rcases h2 with ⟨h2, h3⟩ | ⟨h2, h3⟩
    · rw [h2, cond_true]
      obtain ⟨out, s', h4, h5⟩ := opW_ad (splitF_ad h3)
      rw [h4]
      cases out with
      | val v => exact ih _ _ (forceV_u (k := fun _ f' => opsW P ws ops l ⟨f', ds, s'⟩ k) h5)
      | skip =>
        have h5 : putK fr o.dst .undef fun f' => opsW P ws ops l ⟨f', ds, s'⟩ k := h5
        exact ih _ _ ((putK_iff _ _ _ _).1 h5)
      | pan v => exact ⟨_, _, rfl, h5⟩
      | enter t =>
        simp only [nextW, forceG_iff] at h5
        obtain ⟨ee, s2, h6, h7⟩ := hs t s' _ h5
        cases ee with
        | ret v =>
          obtain ⟨e', c', h8, h9⟩ := ih _ _ (forceV_u (k := fun _ f' => opsW P ws ops l ⟨f', ds, s2⟩ k) h7)
          exact ⟨e', c', by simp only [nextE, h6]; exact h8, h9⟩
        | pan v => exact ⟨_, _, by simp only [nextE, h6], h7⟩
    · rw [h2, cond_false]
      exact ih _ _ ((putK_iff _ _ _ _).1 h3)

theorem quietW_ad {mb : Option Nat} {s : St} {ev : Operand → Option V} {op : Op} {k : V → Prop} (h : quietW P mb s ev op k) : ∃ v, qopM P mb s ev op = some v ∧ k v := by
  unfold quietW at h
  split at h
  · split at h
    · rename_i c v hq
      obtain ⟨h1, h2⟩ := needs_b h
      have := structEq_ok P (s := s) hq ((allb_iff c).1 h1)
      exact ⟨v, by simp [qopM, qopO, this, chkQ, allb], h2⟩
    split at h
    · rename_i c v hq
      obtain ⟨h1, h2⟩ := needs_b h
      exact ⟨v, by simp [qopM, qopO, hq, chkQ, h1], h2⟩
    · exact h.elim
  · split at h
    · rename_i b c m hm
      obtain ⟨h1, h2, h3⟩ := needs_b h
      exact ⟨_, by simp [qopM, mkQ, hm, h1, Mk.isAt, h2], h3⟩
    · exact h.elim

theorem drawStep_no {ops : Array Oper} {mb : Option Nat} {i : Nat} {o : Oper} {f : Frm} {s : St} (h1 : wantOK (guardOf ops o) f = true) (h2 : wantedE (guardOf ops o) f = false) : drawStep P self ops mb i o f s = some ⟨i, o, f, s, .undef, false, none, mb⟩ := by
  simp [drawStep, h1, h2]
theorem drawStep_quiet {ops : Array Oper} {mb : Option Nat} {i : Nat} {o : Oper} {f : Frm} {s : St} {v : V} (h1 : wantOK (guardOf ops o) f = true) (h2 : wantedE (guardOf ops o) f = true) (h3 : qopM P mb s (evL (o.looksAt ops) f) o.op = some v) :
    drawStep P self ops mb i o f s = some ⟨i, o, f, s, v, true, none, mb⟩ := by
  simp [drawStep, h1, h2, h3]
theorem drawStep_eff {ops : Array Oper} {mb : Option Nat} {i : Nat} {o : Oper} {f : Frm} {s s' : St} {v : V} (h1 : wantOK (guardOf ops o) f = true) (h2 : wantedE (guardOf ops o) f = true) (hm : mb = none) (h3 : qop P s (evL (o.looksAt ops) f) o.op = none) (h4 : opOut self (eop P s (evL (o.looksAt ops) f) o.op) = some (v, s')) :
    drawStep P self ops mb i o f s = some ⟨i, o, f, s, v, false, some s', none⟩ := by
  subst hm
  simp [drawStep, h1, h2, qopM, qopO, h3, chkQ, h4]
theorem drawStep_pan {ops : Array Oper} {mb : Option Nat} {i : Nat} {o : Oper} {f : Frm} {s : St} (h1 : wantOK (guardOf ops o) f = true) (h2 : wantedE (guardOf ops o) f = true) (hm : mb = none) (h3 : qop P s (evL (o.looksAt ops) f) o.op = none) (h4 : opOut self (eop P s (evL (o.looksAt ops) f) o.op) = none) :
    drawStep P self ops mb i o f s = none := by
  subst hm
  simp [drawStep, h1, h2, qopM, qopO, h3, chkQ, h4]

theorem panTailW_ad {ops : Array Oper} {M : List (Nat × Nat)} {A : List Nat} {ip : Nat} : ∀ (l : List Oper) (i : Nat) (f : Frm) (s : St) (k : List DRec → Prop), panTailW P ops M A ip l i f s k → ∃ R, panTail P ops M A ip l i f s = some R ∧ k R
  | [], i, f, s, k, h => ⟨[], rfl, h⟩
  | o :: l, i, f, s, k, h => by
    rw [panTailW_cons] at h
    simp only [putK_iff, forceV_iff] at h
    simp only [panTail]
    cases hd : tbQ (ogetN (lget A i)) ip with
    | true =>
      rw [hd, cond_true] at h
      rw [cond_true]
      obtain ⟨R, h1, h2⟩ := panTailW_ad l _ _ _ _ h
      exact ⟨_, by rw [h1], h2⟩
    | false =>
      rw [hd, cond_false] at h
      rw [cond_false]
      obtain ⟨h1, h2⟩ := guardW_ad (splitF_ad h)
      rcases h2 with ⟨h2, h3⟩ | ⟨h2, h3⟩
      · obtain ⟨v, h4, h5⟩ := quietW_ad (splitF_ad h3)
        obtain ⟨R, h6, h7⟩ := panTailW_ad l _ _ _ _ h5
        rw [drawStep_quiet h1 h2 h4]
        exact ⟨_, by simp only [h6], h7⟩
      · obtain ⟨R, h6, h7⟩ := panTailW_ad l _ _ _ _ h3
        rw [drawStep_no h1 h2]
        exact ⟨_, by simp only [h6], h7⟩

theorem drawW_ad (hs : AdS ws self) {ops : Array Oper} {M : List (Nat × Nat)} {A : List Nat} : ∀ (l : List Oper) (i : Nat) (f : Frm) (s : St) (kR : List DRec → Prop) (kP : List DRec → Nat → V → St → Prop), drawW P ws ops M A l i f s kR kP →
    (∃ R, drawRun P self ops M l i f s = some R ∧ kR R) ∨ (drawRun P self ops M l i f s = none ∧ ∃ R ip v s', panRun P self ops M A l i f s = some (R, ip, v, s') ∧ kP R ip v s')
  | [], i, f, s, kR, kP, h => .inl ⟨[], rfl, h⟩
  | o :: l, i, f, s, kR, kP, h => by
    have next : ∀ (r : DRec) (kR' : List DRec → Prop) (kP' : List DRec → Nat → V → St → Prop), drawStep P self ops (findM i M) i o f s = some r → (∀ R, kR' R → kR (r :: R)) → (∀ R ip v s', kP' R ip v s' → kP (r :: R) ip v s') →
        drawW P ws ops M A l (Nat.succ i) (putE f o.dst r.v) (orS s r.eff) kR' kP' →
        (∃ R, drawRun P self ops M (o :: l) i f s = some R ∧ kR R) ∨ (drawRun P self ops M (o :: l) i f s = none ∧ ∃ R ip v s', panRun P self ops M A (o :: l) i f s = some (R, ip, v, s') ∧ kP R ip v s') := by
      intro r kR' kP' hr h1 h2 hd
      simp only [drawRun, panRun, hr]
      rcases drawW_ad hs l _ _ _ _ _ hd with ⟨R, g1, g2⟩ | ⟨g0, R, ip, v, s', g1, g2⟩
      · exact .inl ⟨r :: R, by rw [g1], h1 R g2⟩
      · exact .inr ⟨by rw [g0], r :: R, ip, v, s', by rw [g1], h2 R ip v s' g2⟩
    have panic : ∀ (v : V) (s1 : St) (R : List DRec), wantOK (guardOf ops o) f = true → wantedE (guardOf ops o) f = true → findM i M = none → drawStep P self ops (findM i M) i o f s = none → opPan self (eop P s (evL (o.looksAt ops) f) o.op) = some (v, s1) →
        panTail P ops M A i l (Nat.succ i) (putE f o.dst .undef) s = some R → kP (⟨i, o, f, s, .undef, false, none, none⟩ :: R) i v s1 →
        (∃ R, drawRun P self ops M (o :: l) i f s = some R ∧ kR R) ∨ (drawRun P self ops M (o :: l) i f s = none ∧ ∃ R ip v s', panRun P self ops M A (o :: l) i f s = some (R, ip, v, s') ∧ kP R ip v s') := by
      intro v s1 R h1 h2 hm hd hp ht hk
      refine .inr ⟨by simp only [drawRun, hd], _, i, v, s1, ?_, hk⟩
      simp only [panRun, hd, h1, h2, Bool.and_self, cond_true, hp, ht]
      rw [hm]
    rw [drawW_cons] at h
    simp only [drawOneW, putK_iff, forceV_iff, forceG_iff] at h
    obtain ⟨h1, h2⟩ := guardW_ad (splitF_ad h)
    rcases h2 with ⟨h2, h3⟩ | ⟨h2, h3⟩
    · have h3 := splitF_ad h3
      split at h3
      · obtain ⟨v, h4, h5⟩ := quietW_ad h3
        exact next _ _ _ (drawStep_quiet h1 h2 h4) (fun _ h => h) (fun _ _ _ _ h => h) h5
      · rename_i hq
        have hmb : findM i M = none ∧ qop P s (evL (o.looksAt ops) f) o.op = none := by
          cases hm : findM i M with
          | none => rw [hm] at hq; exact ⟨rfl, by
              simp only [isQuiet] at hq
              split at hq
              · cases hq
              · simpa using hq⟩
          | some b => rw [hm] at hq; cases hq
        obtain ⟨hm, hqn⟩ := hmb
        obtain ⟨out, s1, h4, h5⟩ := effW_ad h3
        cases out with
        | val v => exact next _ _ _ (drawStep_eff (v := v) (s' := s1) h1 h2 hm hqn (by rw [h4]; rfl)) (fun _ h => h) (fun _ _ _ _ h => h) h5
        | skip => exact next _ _ _ (drawStep_eff (v := .undef) (s' := s1) h1 h2 hm hqn (by rw [h4]; rfl)) (fun _ h => h) (fun _ _ _ _ h => h) h5
        | pan v =>
          obtain ⟨R, h6, h7⟩ := panTailW_ad l _ _ _ _ h5
          exact panic v s1 R h1 h2 hm (drawStep_pan h1 h2 hm hqn (by rw [h4]; rfl)) (by rw [h4]; rfl) h6 h7
        | enter t =>
          obtain ⟨ee, s2, h6, h7⟩ := hs t s1 _ h5
          cases ee with
          | ret v => exact next _ _ _ (drawStep_eff (v := v) (s' := s2) h1 h2 hm hqn (by rw [h4]; simp only [opOut, h6])) (fun _ h => h) (fun _ _ _ _ h => h) h7
          | pan v =>
            obtain ⟨R, h8, h9⟩ := panTailW_ad l _ _ _ _ h7
            exact panic v s2 R h1 h2 hm (drawStep_pan h1 h2 hm hqn (by rw [h4]; simp only [opOut, h6])) (by rw [h4]; simp only [opPan, h6]) h8 h9
    · exact next _ _ _ (drawStep_no h1 h2) (fun _ h => h) (fun _ _ _ _ h => h) h3

theorem eqE_mem {s s' : St} {t : TypeId} {a b : V} (h : (match P.underlying t with
    | some (.int _) => true
    | some .bool => true
    | some .string => true
    | _ => false) = true) : eqAny P s t a b = eqAny P s' t a b := by
  have : eqE P s t a b = eqE P s' t a b := by
    unfold eqE
    split at h <;> rename_i hd
    · rw [hd]
    · rw [hd]
    · rw [hd]
    · cases h
  unfold eqAny
  rw [this]
theorem noMem_same {s s' : St} {ev : Operand → Option V} {op : Op} (h : noMem P op = true) : qop P s ev op = qop P s' ev op := by
  unfold noMem at h
  unfold qop
  split at h
  all_goals (try rfl)
  · rename_i op t _ _ _
    have : ∀ a b, qBin P s op t a b = qBin P s' op t a b := fun a b => by
      unfold qBin
      have he := eqE_mem (P := P) (s := s) (s' := s') (t := t) (a := a) (b := b) h
      split <;> (try rfl)
      simp only [he]
    simp only [this]
  · rename_i t _ _ _ _
    have : ∀ a l h' m, qSlice P s t a l h' m = qSlice P s' t a l h' m := fun a l h' m => by
      unfold qSlice
      split at h <;> rename_i hd
      · rw [hd]
      · rw [hd]
      · cases h
    simp only [this]
  · cases h

theorem askW_ad {ops : Array Oper} {r : DRec} {s : St} {k : Prop} (h : askW P ops r s k) : (match qopM P r.mb s (evL (r.o.looksAt ops) r.f) r.o.op with
      | some v => v.same r.v
      | none => false) = true ∧ k := by
  obtain ⟨v, h1, h2, h3⟩ := quietW_ad h
  exact ⟨by rw [h1]; exact h2, h3⟩
theorem anyN_eq (m : Nat) : ∀ E : List (Nat × St), anyN m (idxsE E) = anyB m E
  | [] => rfl
  | e :: l => by simp only [idxsE, anyN, anyB, anyN_eq m l]
theorem allN_eq (m : Nat) : ∀ E : List (Nat × St), allN m (idxsE E) = allAfter m E
  | [] => rfl
  | e :: l => by simp only [idxsE, allN, allAfter, allN_eq m l]
theorem beforeN_eq (A : List Nat) (i : Nat) : ∀ E : List (Nat × St), beforeN A i (idxsE E) = chainE.beforeE A i E
  | [] => rfl
  | e :: l => by simp only [idxsE, beforeN, chainE.beforeE, beforeN_eq A i l]
theorem chainN_eq (A : List Nat) : ∀ E : List (Nat × St), chainN A (idxsE E) = chainE A E
  | [] => rfl
  | e :: l => by simp only [idxsE, chainN, chainE, chainN_eq A l, beforeN_eq]
theorem chkEW_ad {ops : Array Oper} {A : List Nat} {r : DRec} : ∀ (E : List (Nat × St)) (s : St) (k : Prop), chkEW P ops A r r.i s (idxsE E) E k → chkE P ops A r s E = true ∧ k
  | [], s, k, h => askW_ad h
  | e :: l, s, k, h => by
    have tail : ∀ {k' : Prop}, k' → (k' → (bif tbQ (ogetN (lget A e.1)) r.i then k else chkEW P ops A r r.i e.2 (idxsE l) l k)) → (bif tbQ (ogetN (lget A e.1)) r.i then true else chkE P ops A r e.2 l) = true ∧ k := by
      intro k' hk' hh
      have hh := hh hk'
      cases ht : tbQ (ogetN (lget A e.1)) r.i with
      | true => rw [ht, cond_true] at hh; exact ⟨rfl, hh⟩
      | false => rw [ht, cond_false] at hh; exact chkEW_ad l _ _ hh
    have ea : anyN (ogetN (lget A r.i)) (e.1 :: idxsE l) = anyB (ogetN (lget A r.i)) (e :: l) := anyN_eq _ (e :: l)
    simp only [idxsE, chkEW_cons, ea] at h
    simp only [chkE, Bool.and_eq_true]
    split at h
    · rename_i ha
      obtain ⟨g1, g2⟩ := tail h id
      exact ⟨⟨by rw [ha]; rfl, g1⟩, g2⟩
    · rename_i ha
      obtain ⟨h1, h2⟩ := askW_ad h
      obtain ⟨g1, g2⟩ := tail h2 id
      exact ⟨⟨by rw [ha, cond_false]; exact h1, g1⟩, g2⟩
theorem chkE_noMem {ops : Array Oper} {A : List Nat} {r : DRec} (hm : r.mb = none) (hn : noMem P r.o.op = true) (hq : qopM P r.mb r.s (evL (r.o.looksAt ops) r.f) r.o.op = some r.v) : ∀ (E : List (Nat × St)) (s : St), chkE P ops A r s E = true := by
  have key : ∀ s, (match qopM P r.mb s (evL (r.o.looksAt ops) r.f) r.o.op with
      | some v => v.same r.v
      | none => false) = true := fun s => by
    have : qopM P r.mb s (evL (r.o.looksAt ops) r.f) r.o.op = some r.v := by
      rw [← hq, hm]
      simp only [qopM, qopO]
      rw [noMem_same (s := s) (s' := r.s) hn]
    rw [this]; exact V.same_self _
  intro E
  induction E with
  | nil => intro s; exact key s
  | cons e l ih =>
    intro s
    simp only [chkE, Bool.and_eq_true]
    refine ⟨?_, ?_⟩
    · cases anyB (ogetN (lget A r.i)) (e :: l)
      · exact key s
      · rfl
    · cases tbQ (ogetN (lget A e.1)) r.i
      · exact ih _
      · rfl
theorem chkAllW_ad {ops : Array Oper} {A : List Nat} {s : St} {E : List (Nat × St)} : ∀ (R : List DRec) (k : Prop), (∀ r ∈ R, r.q = true → r.mb = none → qopM P r.mb r.s (evL (r.o.looksAt ops) r.f) r.o.op = some r.v) → chkAllW P ops A s (idxsE E) E R k → chkAll P ops A s E R = true ∧ k
  | [], k, _, h => ⟨rfl, h⟩
  | r :: l, k, hr, h => by
    rw [chkAllW_cons] at h
    simp only [chkAll, Bool.and_eq_true]
    have hl := fun r' hr' => hr r' (List.mem_cons_of_mem _ hr')
    split at h
    · rename_i hq
      simp only [Bool.and_eq_true] at hq
      obtain ⟨h1, h2⟩ := chkEW_ad E s _ ((forceN_iff _ _).1 h)
      obtain ⟨h3, h4⟩ := chkAllW_ad l k hl h2
      exact ⟨⟨by rw [hq.1]; exact h1, h3⟩, h4⟩
    · rename_i hq
      obtain ⟨h3, h4⟩ := chkAllW_ad l k hl h
      refine ⟨⟨?_, h3⟩, h4⟩
      cases hrq : r.q with
      | false => rfl
      | true =>
        rw [cond_true]
        rw [hrq, Bool.true_and, Bool.not_eq_false', Bool.and_eq_true] at hq
        have hm : r.mb = none := by
          cases hmb : r.mb with
          | none => rfl
          | some b => rw [hmb] at hq; cases hq.1
        exact chkE_noMem hm hq.2 (hr r List.mem_cons_self hrq hm) E s

theorem drawStep_q {ops : Array Oper} {mb : Option Nat} {i : Nat} {o : Oper} {f : Frm} {s : St} {r : DRec} (h : drawStep P self ops mb i o f s = some r) (hq : r.q = true) : qopM P r.mb r.s (evL (r.o.looksAt ops) r.f) r.o.op = some r.v := by
  unfold drawStep at h
  cases hk : wantOK (guardOf ops o) f with
  | false => rw [hk] at h; cases h
  | true =>
  rw [hk, Bool.not_true, cond_false] at h
  cases hw : wantedE (guardOf ops o) f with
  | false => rw [hw, cond_false] at h; cases h; cases hq
  | true =>
    rw [hw, cond_true] at h
    split at h
    · rename_i hv; cases h; exact hv
    · split at h
      · cases h
      · split at h
        · cases h; cases hq
        · cases h
theorem drawRun_q {ops : Array Oper} {M : List (Nat × Nat)} {l : List Oper} {i : Nat} {f : Frm} {s : St} {R : List DRec} (h : drawRun P self ops M l i f s = some R) : ∀ r ∈ R, r.q = true → r.mb = none → qopM P r.mb r.s (evL (r.o.looksAt ops) r.f) r.o.op = some r.v := by
  intro r hr hq _
  obtain ⟨k, hk⟩ := List.getElem?_of_mem hr
  exact drawStep_q ((drawRun_spec h).2 k r hk).2.2.1 hq
theorem panRun_q {ops : Array Oper} {M : List (Nat × Nat)} {A : List Nat} {l : List Oper} {i : Nat} {f : Frm} {s : St} {R : List DRec} {ip : Nat} {v : V} {s' : St} (h : panRun P self ops M A l i f s = some (R, ip, v, s')) : ∀ r ∈ R, r.q = true → r.mb = none → qopM P r.mb r.s (evL (r.o.looksAt ops) r.f) r.o.op = some r.v := by
  intro r hr hq _
  obtain ⟨k, hk⟩ := List.getElem?_of_mem hr
  rcases ((panRun_spec h).2.2.2 k r hk).2.2.1 with ⟨_, h1⟩ | ⟨_, h1⟩ | h1
  · rw [h1] at hq; cases hq
  · rw [h1] at hq; cases hq
  · exact drawStep_q h1 hq

theorem drawRW_ad (hs : AdS ws self) (ops : Array Oper) : AdC (drawRW P ws ops) (drawE P self ops) := by
  intro c k h
  unfold drawRW at h
  obtain ⟨h1, h2⟩ := guardB_b h
  unfold drawE
  rw [h1, cond_true]
  rcases hpre : preM P ops c.tmps c.st with ⟨s0, M⟩
  rw [hpre] at h2
  simp only [forceS_iff, forceM_iff, forceL_iff, chainN_eq, allN_eq, finK_iff] at h2 ⊢
  rcases drawW_ad hs _ _ _ _ _ _ h2 with ⟨R, g1, g2⟩ | ⟨g0, R, ip, v, s', g1, g2⟩
  · obtain ⟨g3, g4⟩ := guardB_b g2
    obtain ⟨g5, g6⟩ := chkAllW_ad R _ (drawRun_q g1) g4
    exact ⟨_, _, by simp only [g1, g3, g5, Bool.and_self, cond_true], g6⟩
  · obtain ⟨g3, g4⟩ := guardB_b g2
    obtain ⟨g5, g6⟩ := chkAllW_ad R _ (panRun_q g1) g4
    rw [Bool.and_eq_true] at g3
    refine ⟨_, _, ?_, g6⟩
    simp only [g0, drawP, g1, g3.1, g3.2, g5, Bool.and_self, cond_true]

theorem dferW_ad : ∀ l : List Oper, AdC (dferW P l) (dferE P l)
  | [] => fun c k h => ⟨.normal, c, rfl, h⟩
  | o :: l => fun c k h => by
    have ih := dferW_ad l
    simp only [dferW] at h
    simp only [dferE]
    cases hg : o.guard with
    | some x => rw [hg] at h; exact h.elim
    | none =>
    rw [hg] at h
    simp only at h ⊢
    split at h
    · split at h
      · split at h
        · rename_i cl hop _ f hcal _ _ g first cap vs hf hvs
          obtain ⟨h1, h2⟩ := guardB_b h
          obtain ⟨e, c', h3, h4⟩ := ih _ _ h2
          exact ⟨e, c', by simp only [hop, hcal, hf, hvs, h1, cond_true, h3], h4⟩
        · exact h.elim
      · exact h.elim
    · split at h
      · rename_i cs v hq
        obtain ⟨h1, h2⟩ := needs_b h
        obtain ⟨e, c', h3, h4⟩ := ih _ _ h2
        refine ⟨e, c', ?_, h4⟩
        simp only [qopO, hq, chkQ, h1, cond_true]
        exact h3
      · exact h.elim

theorem regionW_ad (hs : AdS ws self) (round : Option Nat) (ops : Array Oper) (draw : Bool) : AdC (regionW P ws round ops draw) (regionE P self round ops draw) := by
  intro c k h
  cases draw with
  | true => exact drawRW_ad hs ops c k h
  | false =>
    simp only [regionW] at h
    simp only [regionE]
    cases hd : hasDefer ops.toList with
    | true =>
      rw [hd] at h
      cases round with
      | none => exact dferW_ad _ c k h
      | some l => exact h.elim
    | false =>
      rw [hd] at h
      exact opsW_ad hs ops ops.toList c k h

theorem seqW_ad {a b : CW} {fa fb : Cfg → Option (EExit × Cfg)} (ha : AdC a fa) (hb : AdC b fb) : AdC (seqW a b) (seqE fa fb) := by
  intro c k h
  obtain ⟨e, c1, h1, h2⟩ := ha c _ h
  unfold seqE
  cases e with
  | normal =>
    obtain ⟨e', c', h3, h4⟩ := hb c1 k h2
    exact ⟨e', c', by simp only [h1, h3], h4⟩
  | exit id => exact ⟨_, _, by simp only [h1], h2⟩
  | ret => exact ⟨_, _, by simp only [h1], h2⟩
  | pan v => exact ⟨_, _, by simp only [h1], h2⟩
theorem condW_ad {x : Operand} {a b : CW} {fa fb : Cfg → Option (EExit × Cfg)} (ha : AdC a fa) (hb : AdC b fb) : AdC (condW x a b) (condE x fa fb) := by
  intro c k h
  unfold condW at h
  unfold condE
  have h := splitF_ad h
  split at h
  · rename_i q hq
    cases q with
    | true => obtain ⟨e, c', h1, h2⟩ := ha c k h; exact ⟨e, c', by simp only [hq]; exact h1, h2⟩
    | false => obtain ⟨e, c', h1, h2⟩ := hb c k h; exact ⟨e, c', by simp only [hq]; exact h1, h2⟩
  · exact h.elim
theorem blockW_ad {id : Nat} {b : CW} {fb : Cfg → Option (EExit × Cfg)} (hb : AdC b fb) : AdC (blockW id b) (blockE id fb) := by
  intro c k h
  obtain ⟨e, c1, h1, h2⟩ := hb c _ h
  unfold blockE
  cases e with
  | exit id' =>
    simp only at h2
    cases hi : Nat.beq id' id with
    | true => rw [hi, cond_true] at h2; exact ⟨_, _, by simp only [h1, hi, cond_true], h2⟩
    | false => rw [hi, cond_false] at h2; exact ⟨_, _, by simp only [h1, hi, cond_false], h2⟩
  | normal => exact ⟨_, _, by simp only [h1], h2⟩
  | ret => exact ⟨_, _, by simp only [h1], h2⟩
  | pan v => exact ⟨_, _, by simp only [h1], h2⟩
theorem iterW_ad {b : CW} {fb : Cfg → Option (EExit × Cfg)} (hb : AdC b fb) : ∀ n, AdC (iterW b n) (iterE fb n)
  | 0 => fun c k h => h.elim
  | n + 1 => fun c k h => by
    obtain ⟨e, c1, h1, h2⟩ := hb c _ h
    have he : iterE fb (n + 1) c = (match fb c with
      | some (.normal, c') => iterE fb n c'
      | r => r) := rfl
    rw [he, h1]
    cases e with
    | normal => exact iterW_ad hb n c1 k h2
    | exit id => exact ⟨_, _, rfl, h2⟩
    | ret => exact ⟨_, _, rfl, h2⟩
    | pan v => exact ⟨_, _, rfl, h2⟩
noncomputable def openR (round : Option Nat) (c : Cfg) : Option (St × Nat × List EDef) :=
  match round with
    | none => some ((c.st.new (.dfr false)), c.st.next, [EDef.mark c.st.next])
    | some l0 => match c.st.heap.get l0 with
      | some (.loop r) => some (c.st, r.defers, [])
      | _ => none
theorem rangeE_open (round : Option Nat) (f : Operand) (ps : Array Tmp) (assign body : Code) (c : Cfg) : rangeE P self round f ps assign body c = (match openR round c with
    | none => none
    | some (s1, d, marks) =>
    match evF c.tmps f with
    | some (.fn g first cap) =>
      bif bodyOK P g then
        match self (.fn g (lapp (lapp first [.yld s1.next]) cap)) (s1.new (.loop ⟨.ready, none, c.tmps, ps.toList, assign, body, d⟩)) with
        | some (.ret _, s2) => match s2.heap.get s1.next with
          | some (.loop r) => match r.state with
            | .busy => none
            | _ => match jumpE r.pending with
              | some e => some (e, ⟨c.tmps, marks ++ c.defers, s2.upd s1.next (.loop { r with state := .exhausted })⟩)
              | none => none
          | _ => none
        | some (.pan v, s2) => some (.pan v, ⟨c.tmps, marks ++ c.defers, s2⟩)
        | none => none
      else none
    | _ => none) := rfl
theorem rangeW_open (round : Option Nat) (f : Operand) (ps : Array Tmp) (assign body : Code) (c : Cfg) (k : KC) : rangeW P ws round f ps assign body c k = (match openR round c with
  | none => False
  | some (s0, d, marks) => forceS s0 fun s1 =>
    match evF c.tmps f with
    | some (.fn g first cap) =>
      guardB (bodyOK P g) (forceS (s1.new (.loop ⟨.ready, none, c.tmps, ps.toList, assign, body, d⟩)) fun s2 => ws (.fn g (lapp (lapp first [.yld s1.next]) cap)) s2 fun e s2 => match e with
        | .ret _ => (match s2.heap.get s1.next with
          | some (.loop r) => (match r.state with
            | .busy => False
            | _ => match jumpE r.pending with
              | some e => k e ⟨c.tmps, marks ++ c.defers, s2.upd s1.next (.loop { r with state := .exhausted })⟩
              | none => False)
          | _ => False)
        | .pan v => k (.pan v) ⟨c.tmps, marks ++ c.defers, s2⟩)
    | _ => False) := rfl
theorem rangeW_ad (hs : AdS ws self) (round : Option Nat) (f : Operand) (ps : Array Tmp) (assign body : Code) : AdC (rangeW P ws round f ps assign body) (rangeE P self round f ps assign body) := by
  intro c k h
  rw [rangeW_open] at h
  rw [rangeE_open]
  cases hopen : openR round c with
  | none => rw [hopen] at h; exact h.elim
  | some p =>
  obtain ⟨s1, d, marks⟩ := p
  rw [hopen] at h
  simp only [forceS_iff] at h ⊢
  split at h
  · rename_i g first cap hf
    obtain ⟨h1, h2⟩ := guardB_b h
    obtain ⟨ee, s2, h3, h4⟩ := hs _ _ _ h2
    simp only [hf, h1, cond_true, h3]
    cases ee with
    | pan v => exact ⟨_, _, rfl, h4⟩
    | ret v =>
      simp only at h4 ⊢
      split at h4
      · rename_i r hr
        split at h4
        · exact h4.elim
        · rename_i hnb
          split at h4
          · rename_i e he
            refine ⟨e, _, ?_, h4⟩
            cases hst : r.state with
            | busy => exact absurd hst hnb
            | ready => simp only [he]
            | done => simp only [he]
            | exhausted => simp only [he]
          · exact h4.elim
      · exact h4.elim
  · exact h.elim

def AdL (lw : LpW) (lp : LpF) : Prop := ∀ id, match lw id with
  | some w => ∃ F, lp id = some F ∧ AdC w F
  | none => lp id = none
theorem noLp_ad : AdL noLpW noLp := fun _ => rfl
theorem loopW_ad {lw : LpW} {lp : LpF} (hl : AdL lw lp) {b : Code} {w : CW} {f : Cfg → Option (EExit × Cfg)} (h : AdC w f) : AdC (loopW lw b w) (loopF lp b f) := by
  unfold loopW loopF
  cases firstR b with
  | none => exact h
  | some id =>
    have := hl id
    simp only
    cases hw : lw id with
    | none => rw [hw] at this; simp only at this; rw [this]; exact h
    | some w' =>
      rw [hw] at this
      obtain ⟨F, h1, h2⟩ := this
      rw [h1]; exact h2
theorem compW_ad (hs : AdS ws self) (fuel : Nat) (round : Option Nat) {lw : LpW} {lp : LpF} (hl : AdL lw lp) : ∀ x : Code, AdC (compW P ws fuel round lw x) (runF (compC P self fuel round lp x))
  | .skip => fun c k h => ⟨_, _, rfl, h⟩
  | .label _ => fun c k h => ⟨_, _, rfl, h⟩
  | .ret => fun c k h => ⟨_, _, rfl, h⟩
  | .exit _ => fun c k h => ⟨_, _, rfl, h⟩
  | .goto _ => fun c k h => h.elim
  | .refuse _ => fun c k h => h.elim
  | .scope b => compW_ad hs fuel round hl b
  | .region id ops draw => regionW_ad hs round ops draw
  | .seq a b => seqW_ad (compW_ad hs fuel round hl a) (compW_ad hs fuel round hl b)
  | .cond x a b => condW_ad (compW_ad hs fuel round hl a) (compW_ad hs fuel round hl b)
  | .block id b => blockW_ad (compW_ad hs fuel round hl b)
  | .loop b => loopW_ad hl (iterW_ad (compW_ad hs fuel round hl b) fuel)
  | .rangeFunc f ps assign body => rangeW_ad hs round f ps assign body
theorem codeW_ad (hs : AdS ws self) (fuel : Nat) (round : Option Nat) (x : Code) : AdC (compW P ws fuel round noLpW x) (runCode P self fuel round x) := compW_ad hs fuel round noLp_ad x

theorem roundW_ad (hs : AdS ws self) (fuel l : Nat) (args : List V) (s : St) (k : KS) (h : roundW P ws fuel l args s k) : ∃ e s', runRound P self fuel l args s = some (e, s') ∧ k e s' := by
  unfold roundW at h
  simp only [forceF_iff, forceS_iff] at h
  unfold runRound
  split at h
  · rename_i r hr
    obtain ⟨e, c1, h1, h2⟩ := codeW_ad hs fuel (some l) _ _ _ h
    simp only [hr, h1]
    cases e with
    | normal =>
      simp only at h2 ⊢
      split at h2
      · rename_i r1 hr1
        split at h2
        · rename_i hst
          obtain ⟨e2, c2, h3, h4⟩ := codeW_ad hs fuel (some l) _ _ _ h2
          simp only [hr1, hst, h3]
          split at h4
          · rename_i r2 hr2
            simp only [hr2]
            cases e2 with
            | normal => exact ⟨_, _, rfl, h4⟩
            | ret => exact ⟨_, _, rfl, h4⟩
            | exit id => exact ⟨_, _, rfl, h4⟩
            | pan v => exact h4.elim
          · exact h4.elim
        · exact h2.elim
      · exact h2.elim
    | exit id => exact h2.elim
    | ret => exact h2.elim
    | pan v => exact h2.elim
  · exact h.elim

theorem resultsW_ad {s : St} {f : Frm} : ∀ (rs : List ResultVar) (k : List V → Prop), resultsW P s f rs k → ∃ l, resultsE P s f rs = some l ∧ k l
  | [], k, h => ⟨[], rfl, h⟩
  | .tmp t :: l, k, h => by
    have h : resultsW P s f l (fun r => match f.get t with
      | .any => False
      | v => k (v :: r)) := h
    obtain ⟨r, h1, h2⟩ := resultsW_ad l _ h
    simp only [resultsE, h1]
    split at h2
    · exact h2.elim
    · rename_i hne
      refine ⟨_, ?_, h2⟩
      split
      · rename_i he; exact absurd he hne
      · rfl
  | .cell a t :: l, k, h => by
    have h : (match qLoad P s t (f.get a) with
      | some (c, v) => needsR c (resultsW P s f l fun r => k (v :: r))
      | none => False) := h
    simp only [resultsE]
    split at h
    · rename_i c v hq
      obtain ⟨h1, h2⟩ := needs_b h
      obtain ⟨r, h3, h4⟩ := resultsW_ad l _ h2
      exact ⟨_, by simp only [hq, chkQ, h1, cond_true, h3], h4⟩
    · exact h.elim
theorem resultW_ad {s : St} {f : Frm} {rs : List ResultVar} {k : V → Prop} (h : resultW P s f rs k) : ∃ v, resultE P s f rs = some v ∧ k v := by
  obtain ⟨l, h1, h2⟩ := resultsW_ad rs _ h
  unfold resultE
  rw [h1]
  split at h2
  · exact ⟨_, rfl, h2⟩
  · rename_i hne
    refine ⟨_, ?_, h2⟩
    cases l with
    | nil => rfl
    | cons a l =>
      cases l with
      | nil => exact absurd rfl (hne a)
      | cons b l => rfl

def AdD (w : DW) (f : Cfg → DM → Option (EExit × Cfg × DM)) : Prop := ∀ c m k, w c m k → ∃ e c' m', f c m = some (e, c', m') ∧ k e c' m'
theorem withDW_ad {w : CW} {f : Cfg → Option (EExit × Cfg)} (h : AdC w f) : AdD (withDW w) (fun c m => withD m (f c)) := by
  intro c m k hk
  obtain ⟨e, c', h1, h2⟩ := h c _ hk
  cases e with
  | pan v => exact h2.elim
  | normal => exact ⟨_, _, _, by simp only [h1, withD], h2⟩
  | ret => exact ⟨_, _, _, by simp only [h1, withD], h2⟩
  | exit id => exact ⟨_, _, _, by simp only [h1, withD], h2⟩
theorem recW_ad : ∀ l : List Oper, AdD (recW P l) (recE P l)
  | [] => fun c m k h => ⟨_, _, _, rfl, h⟩
  | o :: l => fun c m k h => by
    have ih := recW_ad l
    simp only [recW] at h
    simp only [recE]
    split at h
    · exact h.elim
    · rename_i hg
      simp only [hg]
      split at h
      · rename_i hr
        rw [hr, cond_true]
        split at h
        · exact ih _ _ _ h
        · rename_i hne
          cases m with
          | none => exact ih _ _ _ h
          | some p =>
            obtain ⟨v, b⟩ := p
            cases b with
            | false => exact absurd rfl (hne v)
            | true => exact ih _ _ _ h
      · rename_i hr
        rw [hr, cond_false]
        split at h
        · rename_i cs v hq
          obtain ⟨h1, h2⟩ := needs_b h
          simp only [qopO, hq, chkQ, h1, cond_true]
          exact ih _ _ _ h2
        · exact h.elim
theorem seqDW_ad {a b : DW} {fa fb : Cfg → DM → Option (EExit × Cfg × DM)} (ha : AdD a fa) (hb : AdD b fb) : AdD (seqDW a b) (seqD fa fb) := by
  intro c m k h
  obtain ⟨e, c1, m1, h1, h2⟩ := ha c m _ h
  unfold seqD
  cases e with
  | normal =>
    obtain ⟨e', c', m', h3, h4⟩ := hb c1 m1 k h2
    exact ⟨e', c', m', by simp only [h1, h3], h4⟩
  | exit id => exact ⟨_, _, _, by simp only [h1], h2⟩
  | ret => exact ⟨_, _, _, by simp only [h1], h2⟩
  | pan v => exact ⟨_, _, _, by simp only [h1], h2⟩
theorem condDW_ad {x : Operand} {a b : DW} {fa fb : Cfg → DM → Option (EExit × Cfg × DM)} (ha : AdD a fa) (hb : AdD b fb) : AdD (condDW x a b) (condD x fa fb) := by
  intro c m k h
  unfold condDW at h
  unfold condD
  split at h
  · rename_i q hq
    cases q with
    | true => obtain ⟨e, c', m', h1, h2⟩ := ha c m k h; exact ⟨e, c', m', by simp only [hq]; exact h1, h2⟩
    | false => obtain ⟨e, c', m', h1, h2⟩ := hb c m k h; exact ⟨e, c', m', by simp only [hq]; exact h1, h2⟩
  · exact h.elim
theorem compDW_ad (hs : AdS ws self) (fuel : Nat) : ∀ x : Code, AdD (compDW P ws fuel x) (runD (compD P self fuel x))
  | .skip => withDW_ad (codeW_ad hs fuel none .skip)
  | .label l => withDW_ad (codeW_ad hs fuel none (.label l))
  | .ret => withDW_ad (codeW_ad hs fuel none .ret)
  | .exit id => withDW_ad (codeW_ad hs fuel none (.exit id))
  | .goto l => withDW_ad (codeW_ad hs fuel none (.goto l))
  | .scope b => withDW_ad (codeW_ad hs fuel none (.scope b))
  | .refuse why => withDW_ad (codeW_ad hs fuel none (.refuse why))
  | .region id ops true => withDW_ad (codeW_ad hs fuel none (.region id ops true))
  | .region id ops false => by
    intro c m k h
    have h : (match hasRec ops.toList with
        | true => recW P ops.toList
        | false => withDW (compW P ws fuel none noLpW (.region id ops false))) c m k := h
    have e : runD (compD P self fuel (.region id ops false)) c m = (bif hasRec ops.toList then recE P ops.toList c m else withD m (runCode P self fuel none (.region id ops false) c)) := rfl
    rw [e]
    cases hr : hasRec ops.toList with
    | true => rw [hr] at h; rw [cond_true]; exact recW_ad _ c m k h
    | false => rw [hr] at h; rw [cond_false]; exact withDW_ad (codeW_ad hs fuel none (.region id ops false)) c m k h
  | .seq a b => seqDW_ad (compDW_ad hs fuel a) (compDW_ad hs fuel b)
  | .cond x a b => condDW_ad (compDW_ad hs fuel a) (compDW_ad hs fuel b)
  | .block id b => withDW_ad (codeW_ad hs fuel none (.block id b))
  | .loop b => withDW_ad (codeW_ad hs fuel none (.loop b))
  | .rangeFunc f ps assign body => withDW_ad (codeW_ad hs fuel none (.rangeFunc f ps assign body))

theorem runDefW_ad (hs : AdS ws self) (fuel : Nat) (g : FuncId) (args : List V) (m : DM) (s : St) (k : DM → St → Prop) (h : runDefW P ws fuel g args m s k) : ∃ m' s', runDef P self fuel g args m s = some (m', s') ∧ k m' s' := by
  unfold runDefW at h
  unfold runDef
  split at h
  · rename_i fn hfn
    split at h
    · rename_i c hc
      obtain ⟨h1, h2⟩ := guardB_b h
      obtain ⟨e, c', m', h3, h4⟩ := compDW_ad hs fuel c _ _ _ (frmK_args (k := fun f => compDW P ws fuel c ⟨f, [], s⟩ m _) h1 h2)
      simp only [hfn, hc, h1, Bool.not_true, cond_false, h3]
      have key : (match c'.defers with
        | [] => resultW P c'.st c'.tmps fn.results.toList fun _ => k m' c'.st
        | _ :: _ => False) → ∃ m1 s1, (match c'.defers with
          | [] => match resultE P c'.st c'.tmps fn.results.toList with
            | some _ => some (m', c'.st)
            | none => none
          | _ :: _ => none : Option (DM × St)) = some (m1, s1) ∧ k m1 s1 := by
        intro hh
        split at hh
        · rename_i hd
          obtain ⟨v, h5, h6⟩ := resultW_ad hh
          exact ⟨_, _, by simp only [h5], h6⟩
        · exact hh.elim
      cases e with
      | normal => exact key h4
      | ret => exact key h4
      | exit id => exact h4.elim
      | pan v => exact h4.elim
    · exact h.elim
  · exact h.elim

theorem leaveW_ad (hs : AdS ws self) (fuel : Nat) (fn : Func) (tmps : Frm) (k : KS) : ∀ (ds : List EDef) (m : DM) (s : St), leaveW P ws fuel fn tmps m ds s k → ∃ e s', leaveE P self fuel fn tmps m ds s = some (e, s') ∧ k e s'
  | [], m, s, h => by
    simp only [leaveW] at h
    simp only [leaveE]
    split at h
    · exact ⟨_, _, rfl, h⟩
    · exact h.elim
    · obtain ⟨v, h1, h2⟩ := resultW_ad h
      exact ⟨_, _, by simp only [h1], h2⟩
  | .mark r :: ds, m, s, h => by
    simp only [leaveW] at h
    simp only [leaveE]
    split at h
    · rename_i hr
      obtain ⟨e, s', h1, h2⟩ := leaveW_ad hs fuel fn tmps k ds m _ h
      exact ⟨e, s', by simp only [hr]; exact h1, h2⟩
    · exact h.elim
  | .call g args cap :: ds, m, s, h => by
    simp only [leaveW] at h
    simp only [leaveE]
    obtain ⟨h1, h2⟩ := guardB_b h
    obtain ⟨m', s', h3, h4⟩ := runDefW_ad hs fuel g _ m s _ h2
    obtain ⟨e, s2, h5, h6⟩ := leaveW_ad hs fuel fn tmps k ds _ _ h4
    exact ⟨e, s2, by simp only [h1, cond_true, h3]; exact h5, h6⟩

theorem fnLW_ad (hs : AdS ws self) (fuel : Nat) {lw : LpW} {lp : LpF} (hl : AdL lw lp) (f : FuncId) (args : List V) (s : St) (k : KS) (h : fnLW P ws fuel lw f args s k) : ∃ e s', runFnL P self fuel lp f args s = some (e, s') ∧ k e s' := by
  unfold fnLW at h
  unfold runFnL
  split at h
  · rename_i fn hfn
    split at h
    · rename_i c hc
      obtain ⟨h1, h2⟩ := guardB_b h
      obtain ⟨e, c', h3, h4⟩ := compW_ad hs fuel none hl c _ _ (frmK_args (k := fun f => compW P ws fuel none lw c ⟨f, [], s⟩ _) h1 h2)
      simp only [hfn, hc, h1, Bool.not_true, cond_false, h3]
      cases e with
      | normal => exact leaveW_ad hs fuel fn _ k _ _ _ h4
      | ret => exact leaveW_ad hs fuel fn _ k _ _ _ h4
      | pan v => exact leaveW_ad hs fuel fn _ k _ _ _ h4
      | exit id => exact h4.elim
    · exact h.elim
  · exact h.elim
theorem tgtW_ad (hs : AdS ws self) (fuel : Nat) : AdS (tgtW P ws fuel) (runT P self fuel) := by
  intro t s k h
  cases t with
  | fn f args => exact fnLW_ad hs fuel noLp_ad f args s k h
  | round l args => exact roundW_ad hs fuel l args s k h

def AdK (kw : KnW) (known : ESelf) : Prop := ∀ t s r, kw t s = some r → ∀ k, r k → ∃ e s', known t s = some (e, s') ∧ k e s'
def NoK (kw : KnW) (known : ESelf) : Prop := ∀ t s, kw t s = none → known t s = none
theorem callW_ad {kw : KnW} {known : ESelf} (hk : AdK kw known) (hn : NoK kw known) (fuel : Nat) : ∀ d, AdS (callW P kw fuel d) (callE P known fuel d)
  | 0 => fun t s k h => h.elim
  | d + 1 => fun t s k h => by
    have h : (match kw t s with
      | some r => r k
      | none => tgtW P (callW P kw fuel d) fuel t s k) := h
    have e : callE P known fuel (d + 1) t s = (match known t s with
      | some r => some r
      | none => runT P (callE P known fuel d) fuel t s) := rfl
    rw [e]
    split at h
    · rename_i r hr
      obtain ⟨e, s', h1, h2⟩ := hk t s r hr k h
      exact ⟨e, s', by rw [h1], h2⟩
    · rename_i hr
      rw [hn t s hr]
      exact tgtW_ad (callW_ad hk hn fuel d) fuel t s k h
end
end Go.Sym
end
