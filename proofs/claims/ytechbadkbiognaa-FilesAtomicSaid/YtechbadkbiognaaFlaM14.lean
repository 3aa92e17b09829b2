/-
  Texts of this claim, one behind the other: SymX SymY. Each says its own conditions.
-/
import Derived.Test.YtechbadkbiognaaFlaM13

set_option linter.unusedVariables false
set_option linter.unusedSimpArgs false
set_option linter.unusedSectionVars false
section
namespace Go.Sym
set_option linter.unusedSimpArgs false
set_option linter.unusedVariables false

def AdC (wf : CW) (f : Cfg → Option (EExit × Cfg)) : Prop := ∀ c k, wf c k → ∃ e c', f c = some (e, c') ∧ k e c'
def AdS (ws : SW) (self : ESelf) : Prop := ∀ t s k, ws t s k → ∃ e s', self t s = some (e, s') ∧ k e s'

theorem needs_b {c : List Bool} {q : Prop} (h : needsR c q) : allb c = true ∧ q := by
  obtain ⟨h1, h2⟩ := (needsR_iff c q).1 h
  exact ⟨(allb_iff c).2 h1, h2⟩
theorem guardB_b {b : Bool} {q : Prop} (h : guardB b q) : b = true ∧ q := by cases b <;> simp [guardB] at h ⊢; exact h

section
variable {P : Program} {ws : SW} {self : ESelf}

theorem effW_ad {s : St} {ev : Operand → Option V} {op : Op} {k : EOut → St → Prop} (h : effW P s ev op k) : ∃ o s', eop P s ev op = some (o, s') ∧ k o s' := by
  unfold effW at h
  unfold eop
  split at h
  · rename_i c v s' hr
    obtain ⟨h1, h2⟩ := needs_b h
    exact ⟨_, _, by simp [hr, outR, outV, h1], (forceS_iff _ _).1 h2⟩
  · exact h.elim
  · rename_i c s' hr
    obtain ⟨h1, h2⟩ := needs_b h
    exact ⟨_, _, by simp [hr, outR, outS, h1], (forceS_iff _ _).1 h2⟩
  · exact h.elim
  · rename_i hr
    split at h
    · rename_i o s' hc
      exact ⟨_, _, by simp [hr, hc], (forceS_iff _ _).1 h⟩
    · exact h.elim
theorem B.set_get {α : Type} : ∀ (t : B α) (n : Nat), B.set (t.get n) t n = t
  | .leaf _, _ => rfl
  | .node l r, n => by
    rw [B.get_node, B.set_node]
    cases Nat.beq (n % 2) 1
    · simp only [cond_false]; rw [B.set_get l]
    · simp only [cond_true]; rw [B.set_get r]
theorem putE_get {f : Frm} {d : Tmp} {b : Bool} (h : f.get d = .bool b) : putE f (some d) (.bool b) = f := by
  rw [putE_some]
  rw [Frm.get_eq] at h
  cases hb : Nat.blt d f.n with
  | false => rfl
  | true =>
    rw [hb, cond_true] at h
    rw [cond_true, ← h, B.set_get]
theorem forceV_u {d : Nat} {v : V} {f : Frm} {o : Option Tmp} {k : V → Frm → Prop} (h : forceV d v fun v => putK f o v fun f' => k v f') : k v (putE f o v) := (putK_iff _ _ _ _).1 ((forceV_iff _ _ _).1 h)
theorem splitF_ad {d : Option Tmp} {f : Frm} {k : Frm → Prop} (h : splitF d f k) : k f := by
  unfold splitF at h
  split at h
  · exact h
  · split at h
    · rename_i b hb
      cases b
      · have h : putK f (some _) (.bool false) k := h
        rwa [putK_iff, putE_get hb] at h
      · have h : putK f (some _) (.bool true) k := h
        rwa [putK_iff, putE_get hb] at h
    · exact h
theorem opW_ad {s : St} {ev : Operand → Option V} {op : Op} {k : EOut → St → Prop} (h : opW P s ev op k) : ∃ o s', opE P s ev op = some (o, s') ∧ k o s' := by
  unfold opW at h
  unfold opE
  split at h
  · rename_i c v hq
    obtain ⟨h1, h2⟩ := needs_b h
    have := structEq_ok P (s := s) hq ((allb_iff c).1 h1)
    exact ⟨_, _, by simp [this, chkQ, allb], h2⟩
  split at h
  · rename_i c v hq
    obtain ⟨h1, h2⟩ := needs_b h
    exact ⟨_, _, by simp [hq, chkQ, h1], h2⟩
  · rename_i hq
    obtain ⟨o, s', h1, h2⟩ := effW_ad h
    exact ⟨o, s', by simp [hq, h1], h2⟩
theorem guardW_ad {g : Option (Option Tmp × Bool)} {f : Frm} {yes no : Prop} (h : guardW g f yes no) : wantOK g f = true ∧ ((wantedE g f = true ∧ yes) ∨ (wantedE g f = false ∧ no)) := by
  unfold guardW at h
  split at h
  · exact ⟨rfl, .inl ⟨rfl, h⟩⟩
  · exact ⟨rfl, .inr ⟨rfl, h⟩⟩
  · rename_i d want
    split at h
    · exact h.elim
    · rename_i b hb
      refine ⟨by simp [wantOK, hb, isAny], ?_⟩
      cases want <;> cases b <;> simp only [iteB] at h
      · exact .inl ⟨by simp [wantedE, hb], h⟩
      · exact .inr ⟨by simp [wantedE, hb], h⟩
      · exact .inr ⟨by simp [wantedE, hb], h⟩
      · exact .inl ⟨by simp [wantedE, hb], h⟩
    · rename_i h1 h2
      refine ⟨?_, .inr ⟨?_, h⟩⟩
      · simp only [wantOK, Bool.not_eq_true']
        cases hv : f.get d <;> first | rfl | exact absurd hv h1
      · unfold wantedE
        split <;> first | rfl | skip
        all_goals (rename_i hh; cases hh)
        all_goals (first | rfl | (split <;> first | rfl | (rename_i hv; exact absurd hv (h2 _))))

theorem opsW_ad (hs : AdS ws self) (ops : Array Oper) : ∀ l : List Oper, AdC (opsW P ws ops l) (runOps P self ops l)
  | [] => fun c k h => ⟨.normal, c, rfl, h⟩
  | o :: l => fun c k h => by
    have ih := opsW_ad hs ops l
    have h : stepW P ws ops (opsW P ws ops l) o c k := h
    have e : runOps P self ops (o :: l) c = stepE P self ops (runOps P self ops l) o c := rfl
    rw [e]
    obtain ⟨fr, ds, s⟩ := c
    simp only [stepW] at h
    obtain ⟨h1, h2⟩ := guardW_ad (splitF_ad h)
    simp only [stepE, h1, Bool.not_true, cond_false]
    rcases h2 with ⟨h2, h3⟩ | ⟨h2, h3⟩
    · rw [h2, cond_true]
      obtain ⟨out, s', h4, h5⟩ := opW_ad (splitF_ad h3)
      rw [h4]
      cases out with
      | val v => exact ih _ _ (forceV_u (k := fun _ f' => opsW P ws ops l ⟨f', ds, s'⟩ k) h5)
      | skip =>
        have h5 : putK fr o.dst .undef fun f' => opsW P ws ops l ⟨f', ds, s'⟩ k := h5
        exact ih _ _ ((putK_iff _ _ _ _).1 h5)
      | pan v => exact ⟨_, _, rfl, h5⟩
      | enter t =>
        simp only [nextW, forceG_iff] at h5
        obtain ⟨ee, s2, h6, h7⟩ := hs t s' _ h5
        cases ee with
        | ret v =>
          obtain ⟨e', c', h8, h9⟩ := ih _ _ (forceV_u (k := fun _ f' => opsW P ws ops l ⟨f', ds, s2⟩ k) h7)
          exact ⟨e', c', by simp only [nextE, h6]; exact h8, h9⟩
        | pan v => exact ⟨_, _, by simp only [nextE, h6], h7⟩
    · rw [h2, cond_false]
      exact ih _ _ ((putK_iff _ _ _ _).1 h3)

theorem quietW_ad {mb : Option Nat} {s : St} {ev : Operand → Option V} {op : Op} {k : V → Prop} (h : quietW P mb s ev op k) : ∃ v, qopM P mb s ev op = some v ∧ k v := by
  unfold quietW at h
  split at h
  · split at h
    · rename_i c v hq
      obtain ⟨h1, h2⟩ := needs_b h
      have := structEq_ok P (s := s) hq ((allb_iff c).1 h1)
      exact ⟨v, by simp [qopM, qopO, this, chkQ, allb], h2⟩
    split at h
    · rename_i c v hq
      obtain ⟨h1, h2⟩ := needs_b h
      exact ⟨v, by simp [qopM, qopO, hq, chkQ, h1], h2⟩
    · exact h.elim
  · split at h
    · rename_i b c m hm
      obtain ⟨h1, h2, h3⟩ := needs_b h
      exact ⟨_, by simp [qopM, mkQ, hm, h1, Mk.isAt, h2], h3⟩
    · exact h.elim

theorem drawStep_no {ops : Array Oper} {mb : Option Nat} {i : Nat} {o : Oper} {f : Frm} {s : St} (h1 : wantOK (guardOf ops o) f = true) (h2 : wantedE (guardOf ops o) f = false) : drawStep P self ops mb i o f s = some ⟨i, o, f, s, .undef, false, none, mb⟩ := by
  simp [drawStep, h1, h2]
theorem drawStep_quiet {ops : Array Oper} {mb : Option Nat} {i : Nat} {o : Oper} {f : Frm} {s : St} {v : V} (h1 : wantOK (guardOf ops o) f = true) (h2 : wantedE (guardOf ops o) f = true) (h3 : qopM P mb s (evL (o.looksAt ops) f) o.op = some v) :
    drawStep P self ops mb i o f s = some ⟨i, o, f, s, v, true, none, mb⟩ := by
  simp [drawStep, h1, h2, h3]
theorem drawStep_eff {ops : Array Oper} {mb : Option Nat} {i : Nat} {o : Oper} {f : Frm} {s s' : St} {v : V} (h1 : wantOK (guardOf ops o) f = true) (h2 : wantedE (guardOf ops o) f = true) (hm : mb = none) (h3 : qop P s (evL (o.looksAt ops) f) o.op = none) (h4 : opOut self (eop P s (evL (o.looksAt ops) f) o.op) = some (v, s')) :
    drawStep P self ops mb i o f s = some ⟨i, o, f, s, v, false, some s', none⟩ := by
  subst hm
  simp [drawStep, h1, h2, qopM, qopO, h3, chkQ, h4]
theorem drawStep_pan {ops : Array Oper} {mb : Option Nat} {i : Nat} {o : Oper} {f : Frm} {s : St} (h1 : wantOK (guardOf ops o) f = true) (h2 : wantedE (guardOf ops o) f = true) (hm : mb = none) (h3 : qop P s (evL (o.looksAt ops) f) o.op = none) (h4 : opOut self (eop P s (evL (o.looksAt ops) f) o.op) = none) :
    drawStep P self ops mb i o f s = none := by
  subst hm
  simp [drawStep, h1, h2, qopM, qopO, h3, chkQ, h4]

theorem panTailW_ad {ops : Array Oper} {M : List (Nat × Nat)} {A : List Nat} {ip : Nat} : ∀ (l : List Oper) (i : Nat) (f : Frm) (s : St) (k : List DRec → Prop), panTailW P ops M A ip l i f s k → ∃ R, panTail P ops M A ip l i f s = some R ∧ k R
  | [], i, f, s, k, h => ⟨[], rfl, h⟩
  | o :: l, i, f, s, k, h => by
    rw [panTailW_cons] at h
    simp only [putK_iff, forceV_iff] at h
    simp only [panTail]
    cases hd : tbQ (ogetN (lget A i)) ip with
    | true =>
      rw [hd, cond_true] at h
      rw [cond_true]
      obtain ⟨R, h1, h2⟩ := panTailW_ad l _ _ _ _ h
      exact ⟨_, by rw [h1], h2⟩
    | false =>
      rw [hd, cond_false] at h
      rw [cond_false]
      obtain ⟨h1, h2⟩ := guardW_ad (splitF_ad h)
      rcases h2 with ⟨h2, h3⟩ | ⟨h2, h3⟩
      · obtain ⟨v, h4, h5⟩ := quietW_ad (splitF_ad h3)
        obtain ⟨R, h6, h7⟩ := panTailW_ad l _ _ _ _ h5
        rw [drawStep_quiet h1 h2 h4]
        exact ⟨_, by simp only [h6], h7⟩
      · obtain ⟨R, h6, h7⟩ := panTailW_ad l _ _ _ _ h3
        rw [drawStep_no h1 h2]
        exact ⟨_, by simp only [h6], h7⟩

theorem drawW_ad (hs : AdS ws self) {ops : Array Oper} {M : List (Nat × Nat)} {A : List Nat} : ∀ (l : List Oper) (i : Nat) (f : Frm) (s : St) (kR : List DRec → Prop) (kP : List DRec → Nat → V → St → Prop), drawW P ws ops M A l i f s kR kP →
    (∃ R, drawRun P self ops M l i f s = some R ∧ kR R) ∨ (drawRun P self ops M l i f s = none ∧ ∃ R ip v s', panRun P self ops M A l i f s = some (R, ip, v, s') ∧ kP R ip v s')
  | [], i, f, s, kR, kP, h => .inl ⟨[], rfl, h⟩
  | o :: l, i, f, s, kR, kP, h => by
    have next : ∀ (r : DRec) (kR' : List DRec → Prop) (kP' : List DRec → Nat → V → St → Prop), drawStep P self ops (findM i M) i o f s = some r → (∀ R, kR' R → kR (r :: R)) → (∀ R ip v s', kP' R ip v s' → kP (r :: R) ip v s') →
        drawW P ws ops M A l (Nat.succ i) (putE f o.dst r.v) (orS s r.eff) kR' kP' →
        (∃ R, drawRun P self ops M (o :: l) i f s = some R ∧ kR R) ∨ (drawRun P self ops M (o :: l) i f s = none ∧ ∃ R ip v s', panRun P self ops M A (o :: l) i f s = some (R, ip, v, s') ∧ kP R ip v s') := by
      intro r kR' kP' hr h1 h2 hd
      simp only [drawRun, panRun, hr]
      rcases drawW_ad hs l _ _ _ _ _ hd with ⟨R, g1, g2⟩ | ⟨g0, R, ip, v, s', g1, g2⟩
      · exact .inl ⟨r :: R, by rw [g1], h1 R g2⟩
      · exact .inr ⟨by rw [g0], r :: R, ip, v, s', by rw [g1], h2 R ip v s' g2⟩
    have panic : ∀ (v : V) (s1 : St) (R : List DRec), wantOK (guardOf ops o) f = true → wantedE (guardOf ops o) f = true → findM i M = none → drawStep P self ops (findM i M) i o f s = none → opPan self (eop P s (evL (o.looksAt ops) f) o.op) = some (v, s1) →
        panTail P ops M A i l (Nat.succ i) (putE f o.dst .undef) s = some R → kP (⟨i, o, f, s, .undef, false, none, none⟩ :: R) i v s1 →
        (∃ R, drawRun P self ops M (o :: l) i f s = some R ∧ kR R) ∨ (drawRun P self ops M (o :: l) i f s = none ∧ ∃ R ip v s', panRun P self ops M A (o :: l) i f s = some (R, ip, v, s') ∧ kP R ip v s') := by
      intro v s1 R h1 h2 hm hd hp ht hk
      refine .inr ⟨by simp only [drawRun, hd], _, i, v, s1, ?_, hk⟩
      simp only [panRun, hd, h1, h2, Bool.and_self, cond_true, hp, ht]
      rw [hm]
    rw [drawW_cons] at h
    simp only [drawOneW, putK_iff, forceV_iff, forceG_iff] at h
    obtain ⟨h1, h2⟩ := guardW_ad (splitF_ad h)
    rcases h2 with ⟨h2, h3⟩ | ⟨h2, h3⟩
    · have h3 := splitF_ad h3
      split at h3
      · obtain ⟨v, h4, h5⟩ := quietW_ad h3
        exact next _ _ _ (drawStep_quiet h1 h2 h4) (fun _ h => h) (fun _ _ _ _ h => h) h5
      · rename_i hq
        have hmb : findM i M = none ∧ qop P s (evL (o.looksAt ops) f) o.op = none := by
          cases hm : findM i M with
          | none => rw [hm] at hq; exact ⟨rfl, by
              simp only [isQuiet] at hq
              split at hq
              · cases hq
              · simpa using hq⟩
          | some b => rw [hm] at hq; cases hq
        obtain ⟨hm, hqn⟩ := hmb
        obtain ⟨out, s1, h4, h5⟩ := effW_ad h3
        cases out with
        | val v => exact next _ _ _ (drawStep_eff (v := v) (s' := s1) h1 h2 hm hqn (by rw [h4]; rfl)) (fun _ h => h) (fun _ _ _ _ h => h) h5
        | skip => exact next _ _ _ (drawStep_eff (v := .undef) (s' := s1) h1 h2 hm hqn (by rw [h4]; rfl)) (fun _ h => h) (fun _ _ _ _ h => h) h5
        | pan v =>
          obtain ⟨R, h6, h7⟩ := panTailW_ad l _ _ _ _ h5
          exact panic v s1 R h1 h2 hm (drawStep_pan h1 h2 hm hqn (by rw [h4]; rfl)) (by rw [h4]; rfl) h6 h7
        | enter t =>
          obtain ⟨ee, s2, h6, h7⟩ := hs t s1 _ h5
          cases ee with
          | ret v => exact next _ _ _ (drawStep_eff (v := v) (s' := s2) h1 h2 hm hqn (by rw [h4]; simp only [opOut, h6])) (fun _ h => h) (fun _ _ _ _ h => h) h7
          | pan v =>
            obtain ⟨R, h8, h9⟩ := panTailW_ad l _ _ _ _ h7
            exact panic v s2 R h1 h2 hm (drawStep_pan h1 h2 hm hqn (by rw [h4]; simp only [opOut, h6])) (by rw [h4]; simp only [opPan, h6]) h8 h9
    · exact next _ _ _ (drawStep_no h1 h2) (fun _ h => h) (fun _ _ _ _ h => h) h3

theorem eqE_mem {s s' : St} {t : TypeId} {a b : V} (h : (match P.underlying t with
    | some (.int _) => true
    | some .bool => true
    | some .string => true
    | _ => false) = true) : eqAny P s t a b = eqAny P s' t a b := by
  have : eqE P s t a b = eqE P s' t a b := by
    unfold eqE
    split at h <;> rename_i hd
    · rw [hd]
    · rw [hd]
    · rw [hd]
    · cases h
  unfold eqAny
  rw [this]
theorem noMem_same {s s' : St} {ev : Operand → Option V} {op : Op} (h : noMem P op = true) : qop P s ev op = qop P s' ev op := by
  unfold noMem at h
  unfold qop
  split at h
  all_goals (try rfl)
  · rename_i op t _ _ _
    have : ∀ a b, qBin P s op t a b = qBin P s' op t a b := fun a b => by
      unfold qBin
      have he := eqE_mem (P := P) (s := s) (s' := s') (t := t) (a := a) (b := b) h
      split <;> (try rfl)
      simp only [he]
    simp only [this]
  · rename_i t _ _ _ _
    have : ∀ a l h' m, qSlice P s t a l h' m = qSlice P s' t a l h' m := fun a l h' m => by
      unfold qSlice
      split at h <;> rename_i hd
      · rw [hd]
      · rw [hd]
      · cases h
    simp only [this]
  · cases h

theorem askW_ad {ops : Array Oper} {r : DRec} {s : St} {k : Prop} (h : askW P ops r s k) : (match qopM P r.mb s (evL (r.o.looksAt ops) r.f) r.o.op with
      | some v => v.same r.v
      | none => false) = true ∧ k := by
  obtain ⟨v, h1, h2, h3⟩ := quietW_ad h
  exact ⟨by rw [h1]; exact h2, h3⟩
theorem anyN_eq (m : Nat) : ∀ E : List (Nat × St), anyN m (idxsE E) = anyB m E
  | [] => rfl
  | e :: l => by simp only [idxsE, anyN, anyB, anyN_eq m l]
theorem allN_eq (m : Nat) : ∀ E : List (Nat × St), allN m (idxsE E) = allAfter m E
  | [] => rfl
  | e :: l => by simp only [idxsE, allN, allAfter, allN_eq m l]
theorem beforeN_eq (A : List Nat) (i : Nat) : ∀ E : List (Nat × St), beforeN A i (idxsE E) = chainE.beforeE A i E
  | [] => rfl
  | e :: l => by simp only [idxsE, beforeN, chainE.beforeE, beforeN_eq A i l]
theorem chainN_eq (A : List Nat) : ∀ E : List (Nat × St), chainN A (idxsE E) = chainE A E
  | [] => rfl
  | e :: l => by simp only [idxsE, chainN, chainE, chainN_eq A l, beforeN_eq]
theorem chkEW_ad {ops : Array Oper} {A : List Nat} {r : DRec} : ∀ (E : List (Nat × St)) (s : St) (k : Prop), chkEW P ops A r r.i s (idxsE E) E k → chkE P ops A r s E = true ∧ k
  | [], s, k, h => askW_ad h
  | e :: l, s, k, h => by
    have tail : ∀ {k' : Prop}, k' → (k' → (bif tbQ (ogetN (lget A e.1)) r.i then k else chkEW P ops A r r.i e.2 (idxsE l) l k)) → (bif tbQ (ogetN (lget A e.1)) r.i then true else chkE P ops A r e.2 l) = true ∧ k := by
      intro k' hk' hh
      have hh := hh hk'
      cases ht : tbQ (ogetN (lget A e.1)) r.i with
      | true => rw [ht, cond_true] at hh; exact ⟨rfl, hh⟩
      | false => rw [ht, cond_false] at hh; exact chkEW_ad l _ _ hh
    have ea : anyN (ogetN (lget A r.i)) (e.1 :: idxsE l) = anyB (ogetN (lget A r.i)) (e :: l) := anyN_eq _ (e :: l)
    simp only [idxsE, chkEW_cons, ea] at h
    simp only [chkE, Bool.and_eq_true]
    split at h
    · rename_i ha
      obtain ⟨g1, g2⟩ := tail h id
      exact ⟨⟨by rw [ha]; rfl, g1⟩, g2⟩
    · rename_i ha
      obtain ⟨h1, h2⟩ := askW_ad h
      obtain ⟨g1, g2⟩ := tail h2 id
      exact ⟨⟨by rw [ha, cond_false]; exact h1, g1⟩, g2⟩
theorem chkE_noMem {ops : Array Oper} {A : List Nat} {r : DRec} (hm : r.mb = none) (hn : noMem P r.o.op = true) (hq : qopM P r.mb r.s (evL (r.o.looksAt ops) r.f) r.o.op = some r.v) : ∀ (E : List (Nat × St)) (s : St), chkE P ops A r s E = true := by
  have key : ∀ s, (match qopM P r.mb s (evL (r.o.looksAt ops) r.f) r.o.op with
      | some v => v.same r.v
      | none => false) = true := fun s => by
    have : qopM P r.mb s (evL (r.o.looksAt ops) r.f) r.o.op = some r.v := by
      rw [← hq, hm]
      simp only [qopM, qopO]
      rw [noMem_same (s := s) (s' := r.s) hn]
    rw [this]; exact V.same_self _
  intro E
  induction E with
  | nil => intro s; exact key s
  | cons e l ih =>
    intro s
    simp only [chkE, Bool.and_eq_true]
    refine ⟨?_, ?_⟩
    · cases anyB (ogetN (lget A r.i)) (e :: l)
      · exact key s
      · rfl
    · cases tbQ (ogetN (lget A e.1)) r.i
      · exact ih _
      · rfl
theorem chkAllW_ad {ops : Array Oper} {A : List Nat} {s : St} {E : List (Nat × St)} : ∀ (R : List DRec) (k : Prop), (∀ r ∈ R, r.q = true → r.mb = none → qopM P r.mb r.s (evL (r.o.looksAt ops) r.f) r.o.op = some r.v) → chkAllW P ops A s (idxsE E) E R k → chkAll P ops A s E R = true ∧ k
  | [], k, _, h => ⟨rfl, h⟩
  | r :: l, k, hr, h => by
    rw [chkAllW_cons] at h
    simp only [chkAll, Bool.and_eq_true]
    have hl := fun r' hr' => hr r' (List.mem_cons_of_mem _ hr')
    split at h
    · rename_i hq
      simp only [Bool.and_eq_true] at hq
      obtain ⟨h1, h2⟩ := chkEW_ad E s _ ((forceN_iff _ _).1 h)
      obtain ⟨h3, h4⟩ := chkAllW_ad l k hl h2
      exact ⟨⟨by rw [hq.1]; exact h1, h3⟩, h4⟩
    · rename_i hq
      obtain ⟨h3, h4⟩ := chkAllW_ad l k hl h
      refine ⟨⟨?_, h3⟩, h4⟩
      cases hrq : r.q with
      | false => rfl
      | true =>
        rw [cond_true]
        rw [hrq, Bool.true_and, Bool.not_eq_false', Bool.and_eq_true] at hq
        have hm : r.mb = none := by
          cases hmb : r.mb with
          | none => rfl
          | some b => rw [hmb] at hq; cases hq.1
        exact chkE_noMem hm hq.2 (hr r List.mem_cons_self hrq hm) E s

theorem drawStep_q {ops : Array Oper} {mb : Option Nat} {i : Nat} {o : Oper} {f : Frm} {s : St} {r : DRec} (h : drawStep P self ops mb i o f s = some r) (hq : r.q = true) : qopM P r.mb r.s (evL (r.o.looksAt ops) r.f) r.o.op = some r.v := by
  unfold drawStep at h
  cases hk : wantOK (guardOf ops o) f with
  | false => rw [hk] at h; cases h
  | true =>
  rw [hk, Bool.not_true, cond_false] at h
  cases hw : wantedE (guardOf ops o) f with
  | false => rw [hw, cond_false] at h; cases h; cases hq
  | true =>
    rw [hw, cond_true] at h
    split at h
    · rename_i hv; cases h; exact hv
    · split at h
      · cases h
      · split at h
        · cases h; cases hq
        · cases h
theorem drawRun_q {ops : Array Oper} {M : List (Nat × Nat)} {l : List Oper} {i : Nat} {f : Frm} {s : St} {R : List DRec} (h : drawRun P self ops M l i f s = some R) : ∀ r ∈ R, r.q = true → r.mb = none → qopM P r.mb r.s (evL (r.o.looksAt ops) r.f) r.o.op = some r.v := by
  intro r hr hq _
  obtain ⟨k, hk⟩ := List.getElem?_of_mem hr
  exact drawStep_q ((drawRun_spec h).2 k r hk).2.2.1 hq
theorem panRun_q {ops : Array Oper} {M : List (Nat × Nat)} {A : List Nat} {l : List Oper} {i : Nat} {f : Frm} {s : St} {R : List DRec} {ip : Nat} {v : V} {s' : St} (h : panRun P self ops M A l i f s = some (R, ip, v, s')) : ∀ r ∈ R, r.q = true → r.mb = none → qopM P r.mb r.s (evL (r.o.looksAt ops) r.f) r.o.op = some r.v := by
  intro r hr hq _
  obtain ⟨k, hk⟩ := List.getElem?_of_mem hr
  rcases ((panRun_spec h).2.2.2 k r hk).2.2.1 with ⟨_, h1⟩ | ⟨_, h1⟩ | h1
  · rw [h1] at hq; cases hq
  · rw [h1] at hq; cases hq
  · exact drawStep_q h1 hq

theorem drawRW_ad (hs : AdS ws self) (ops : Array Oper) : AdC (drawRW P ws ops) (drawE P self ops) := by
  intro c k h
  unfold drawRW at h
  obtain ⟨h1, h2⟩ := guardB_b h
  unfold drawE
  rw [h1, cond_true]
  rcases hpre : preM P ops c.tmps c.st with ⟨s0, M⟩
  rw [hpre] at h2
  simp only [forceS_iff, forceM_iff, forceL_iff, chainN_eq, allN_eq, finK_iff] at h2 ⊢
  rcases drawW_ad hs _ _ _ _ _ _ h2 with ⟨R, g1, g2⟩ | ⟨g0, R, ip, v, s', g1, g2⟩
  · obtain ⟨g3, g4⟩ := guardB_b g2
    obtain ⟨g5, g6⟩ := chkAllW_ad R _ (drawRun_q g1) g4
    exact ⟨_, _, by simp only [g1, g3, g5, Bool.and_self, cond_true], g6⟩
  · obtain ⟨g3, g4⟩ := guardB_b g2
    obtain ⟨g5, g6⟩ := chkAllW_ad R _ (panRun_q g1) g4
    rw [Bool.and_eq_true] at g3
    refine ⟨_, _, ?_, g6⟩
    simp only [g0, drawP, g1, g3.1, g3.2, g5, Bool.and_self, cond_true]

theorem dferW_ad : ∀ l : List Oper, AdC (dferW P l) (dferE P l)
  | [] => fun c k h => ⟨.normal, c, rfl, h⟩
  | o :: l => fun c k h => by
    have ih := dferW_ad l
    simp only [dferW] at h
    simp only [dferE]
    cases hg : o.guard with
    | some x => rw [hg] at h; exact h.elim
    | none =>
    rw [hg] at h
    simp only at h ⊢
    split at h
    · split at h
      · split at h
        · rename_i cl hop _ f hcal _ _ g first cap vs hf hvs
          obtain ⟨h1, h2⟩ := guardB_b h
          obtain ⟨e, c', h3, h4⟩ := ih _ _ h2
          exact ⟨e, c', by simp only [hop, hcal, hf, hvs, h1, cond_true, h3], h4⟩
        · exact h.elim
      · exact h.elim
    · split at h
      · rename_i cs v hq
        obtain ⟨h1, h2⟩ := needs_b h
        obtain ⟨e, c', h3, h4⟩ := ih _ _ h2
        refine ⟨e, c', ?_, h4⟩
        simp only [qopO, hq, chkQ, h1, cond_true]
        exact h3
      · exact h.elim

theorem regionW_ad (hs : AdS ws self) (round : Option Nat) (ops : Array Oper) (draw : Bool) : AdC (regionW P ws round ops draw) (regionE P self round ops draw) := by
  intro c k h
  cases draw with
  | true => exact drawRW_ad hs ops c k h
  | false =>
    simp only [regionW] at h
    simp only [regionE]
    cases hd : hasDefer ops.toList with
    | true =>
      rw [hd] at h
      cases round with
      | none => exact dferW_ad _ c k h
      | some l => exact h.elim
    | false =>
      rw [hd] at h
      exact opsW_ad hs ops ops.toList c k h

theorem seqW_ad {a b : CW} {fa fb : Cfg → Option (EExit × Cfg)} (ha : AdC a fa) (hb : AdC b fb) : AdC (seqW a b) (seqE fa fb) := by
  intro c k h
  obtain ⟨e, c1, h1, h2⟩ := ha c _ h
  unfold seqE
  cases e with
  | normal =>
    obtain ⟨e', c', h3, h4⟩ := hb c1 k h2
    exact ⟨e', c', by simp only [h1, h3], h4⟩
  | exit id => exact ⟨_, _, by simp only [h1], h2⟩
  | ret => exact ⟨_, _, by simp only [h1], h2⟩
  | pan v => exact ⟨_, _, by simp only [h1], h2⟩
theorem condW_ad {x : Operand} {a b : CW} {fa fb : Cfg → Option (EExit × Cfg)} (ha : AdC a fa) (hb : AdC b fb) : AdC (condW x a b) (condE x fa fb) := by
  intro c k h
  unfold condW at h
  unfold condE
  have h := splitF_ad h
  split at h
  · rename_i q hq
    cases q with
    | true => obtain ⟨e, c', h1, h2⟩ := ha c k h; exact ⟨e, c', by simp only [hq]; exact h1, h2⟩
    | false => obtain ⟨e, c', h1, h2⟩ := hb c k h; exact ⟨e, c', by simp only [hq]; exact h1, h2⟩
  · exact h.elim
theorem blockW_ad {id : Nat} {b : CW} {fb : Cfg → Option (EExit × Cfg)} (hb : AdC b fb) : AdC (blockW id b) (blockE id fb) := by
  intro c k h
  obtain ⟨e, c1, h1, h2⟩ := hb c _ h
  unfold blockE
  cases e with
  | exit id' =>
    simp only at h2
    cases hi : Nat.beq id' id with
    | true => rw [hi, cond_true] at h2; exact ⟨_, _, by simp only [h1, hi, cond_true], h2⟩
    | false => rw [hi, cond_false] at h2; exact ⟨_, _, by simp only [h1, hi, cond_false], h2⟩
  | normal => exact ⟨_, _, by simp only [h1], h2⟩
  | ret => exact ⟨_, _, by simp only [h1], h2⟩
  | pan v => exact ⟨_, _, by simp only [h1], h2⟩
theorem iterW_ad {b : CW} {fb : Cfg → Option (EExit × Cfg)} (hb : AdC b fb) : ∀ n, AdC (iterW b n) (iterE fb n)
  | 0 => fun c k h => h.elim
  | n + 1 => fun c k h => by
    obtain ⟨e, c1, h1, h2⟩ := hb c _ h
    have he : iterE fb (n + 1) c = (match fb c with
      | some (.normal, c') => iterE fb n c'
      | r => r) := rfl
    rw [he, h1]
    cases e with
    | normal => exact iterW_ad hb n c1 k h2
    | exit id => exact ⟨_, _, rfl, h2⟩
    | ret => exact ⟨_, _, rfl, h2⟩
    | pan v => exact ⟨_, _, rfl, h2⟩
noncomputable def openR (round : Option Nat) (c : Cfg) : Option (St × Nat × List EDef) :=
  match round with
    | none => some ((c.st.new (.dfr false)), c.st.next, [EDef.mark c.st.next])
    | some l0 => match c.st.heap.get l0 with
      | some (.loop r) => some (c.st, r.defers, [])
      | _ => none
theorem rangeE_open (round : Option Nat) (f : Operand) (ps : Array Tmp) (assign body : Code) (c : Cfg) : rangeE P self round f ps assign body c = (match openR round c with
    | none => none
    | some (s1, d, marks) =>
    match evF c.tmps f with
    | some (.fn g first cap) =>
      bif bodyOK P g then
        match self (.fn g (lapp (lapp first [.yld s1.next]) cap)) (s1.new (.loop ⟨.ready, none, c.tmps, ps.toList, assign, body, d⟩)) with
        | some (.ret _, s2) => match s2.heap.get s1.next with
          | some (.loop r) => match r.state with
            | .busy => none
            | _ => match jumpE r.pending with
              | some e => some (e, ⟨c.tmps, marks ++ c.defers, s2.upd s1.next (.loop { r with state := .exhausted })⟩)
              | none => none
          | _ => none
        | some (.pan v, s2) => some (.pan v, ⟨c.tmps, marks ++ c.defers, s2⟩)
        | none => none
      else none
    | _ => none) := rfl
theorem rangeW_open (round : Option Nat) (f : Operand) (ps : Array Tmp) (assign body : Code) (c : Cfg) (k : KC) : rangeW P ws round f ps assign body c k = (match openR round c with
  | none => False
  | some (s0, d, marks) => forceS s0 fun s1 =>
    match evF c.tmps f with
    | some (.fn g first cap) =>
      guardB (bodyOK P g) (forceS (s1.new (.loop ⟨.ready, none, c.tmps, ps.toList, assign, body, d⟩)) fun s2 => ws (.fn g (lapp (lapp first [.yld s1.next]) cap)) s2 fun e s2 => match e with
        | .ret _ => (match s2.heap.get s1.next with
          | some (.loop r) => (match r.state with
            | .busy => False
            | _ => match jumpE r.pending with
              | some e => k e ⟨c.tmps, marks ++ c.defers, s2.upd s1.next (.loop { r with state := .exhausted })⟩
              | none => False)
          | _ => False)
        | .pan v => k (.pan v) ⟨c.tmps, marks ++ c.defers, s2⟩)
    | _ => False) := rfl
theorem rangeW_ad (hs : AdS ws self) (round : Option Nat) (f : Operand) (ps : Array Tmp) (assign body : Code) : AdC (rangeW P ws round f ps assign body) (rangeE P self round f ps assign body) := by
  intro c k h
  rw [rangeW_open] at h
  rw [rangeE_open]
  cases hopen : openR round c with
  | none => rw [hopen] at h; exact h.elim
  | some p =>
  obtain ⟨s1, d, marks⟩ := p
  rw [hopen] at h
  simp only [forceS_iff] at h ⊢
  split at h
  · rename_i g first cap hf
    obtain ⟨h1, h2⟩ := guardB_b h
    obtain ⟨ee, s2, h3, h4⟩ := hs _ _ _ h2
    simp only [hf, h1, cond_true, h3]
    cases ee with
    | pan v => exact ⟨_, _, rfl, h4⟩
    | ret v =>
      simp only at h4 ⊢
      split at h4
      · rename_i r hr
        split at h4
        · exact h4.elim
        · rename_i hnb
          split at h4
          · rename_i e he
            refine ⟨e, _, ?_, h4⟩
            cases hst : r.state with
            | busy => exact absurd hst hnb
            | ready => simp only [he]
            | done => simp only [he]
            | exhausted => simp only [he]
          · exact h4.elim
      · exact h4.elim
  · exact h.elim

def AdL (lw : LpW) (lp : LpF) : Prop := ∀ id, match lw id with
  | some w => ∃ F, lp id = some F ∧ AdC w F
  | none => lp id = none
theorem noLp_ad : AdL noLpW noLp := fun _ => rfl
theorem loopW_ad {lw : LpW} {lp : LpF} (hl : AdL lw lp) {b : Code} {w : CW} {f : Cfg → Option (EExit × Cfg)} (h : AdC w f) : AdC (loopW lw b w) (loopF lp b f) := by
  unfold loopW loopF
  cases firstR b with
  | none => exact h
  | some id =>
    have := hl id
    simp only
    cases hw : lw id with
    | none => rw [hw] at this; simp only at this; rw [this]; exact h
    | some w' =>
      rw [hw] at this
      obtain ⟨F, h1, h2⟩ := this
      rw [h1]; exact h2
theorem compW_ad (hs : AdS ws self) (fuel : Nat) (round : Option Nat) {lw : LpW} {lp : LpF} (hl : AdL lw lp) : ∀ x : Code, AdC (compW P ws fuel round lw x) (runF (compC P self fuel round lp x))
  | .skip => fun c k h => ⟨_, _, rfl, h⟩
  | .label _ => fun c k h => ⟨_, _, rfl, h⟩
  | .ret => fun c k h => ⟨_, _, rfl, h⟩
  | .exit _ => fun c k h => ⟨_, _, rfl, h⟩
  | .goto _ => fun c k h => h.elim
  | .refuse _ => fun c k h => h.elim
  | .scope b => compW_ad hs fuel round hl b
  | .region id ops draw => regionW_ad hs round ops draw
  | .seq a b => seqW_ad (compW_ad hs fuel round hl a) (compW_ad hs fuel round hl b)
  | .cond x a b => condW_ad (compW_ad hs fuel round hl a) (compW_ad hs fuel round hl b)
  | .block id b => blockW_ad (compW_ad hs fuel round hl b)
  | .loop b => loopW_ad hl (iterW_ad (compW_ad hs fuel round hl b) fuel)
  | .rangeFunc f ps assign body => rangeW_ad hs round f ps assign body
theorem codeW_ad (hs : AdS ws self) (fuel : Nat) (round : Option Nat) (x : Code) : AdC (compW P ws fuel round noLpW x) (runCode P self fuel round x) := compW_ad hs fuel round noLp_ad x

theorem roundW_ad (hs : AdS ws self) (fuel l : Nat) (args : List V) (s : St) (k : KS) (h : roundW P ws fuel l args s k) : ∃ e s', runRound P self fuel l args s = some (e, s') ∧ k e s' := by
  unfold roundW at h
  simp only [forceF_iff, forceS_iff] at h
  unfold runRound
  split at h
  · rename_i r hr
    obtain ⟨e, c1, h1, h2⟩ := codeW_ad hs fuel (some l) _ _ _ h
    simp only [hr, h1]
    cases e with
    | normal =>
      simp only at h2 ⊢
      split at h2
      · rename_i r1 hr1
        split at h2
        · rename_i hst
          obtain ⟨e2, c2, h3, h4⟩ := codeW_ad hs fuel (some l) _ _ _ h2
          simp only [hr1, hst, h3]
          split at h4
          · rename_i r2 hr2
            simp only [hr2]
            cases e2 with
            | normal => exact ⟨_, _, rfl, h4⟩
            | ret => exact ⟨_, _, rfl, h4⟩
            | exit id => exact ⟨_, _, rfl, h4⟩
            | pan v => exact h4.elim
          · exact h4.elim
        · exact h2.elim
      · exact h2.elim
    | exit id => exact h2.elim
    | ret => exact h2.elim
    | pan v => exact h2.elim
  · exact h.elim

theorem resultsW_ad {s : St} {f : Frm} : ∀ (rs : List ResultVar) (k : List V → Prop), resultsW P s f rs k → ∃ l, resultsE P s f rs = some l ∧ k l
  | [], k, h => ⟨[], rfl, h⟩
  | .tmp t :: l, k, h => by
    have h : resultsW P s f l (fun r => match f.get t with
      | .any => False
      | v => k (v :: r)) := h
    obtain ⟨r, h1, h2⟩ := resultsW_ad l _ h
    simp only [resultsE, h1]
    split at h2
    · exact h2.elim
    · rename_i hne
      refine ⟨_, ?_, h2⟩
      split
      · rename_i he; exact absurd he hne
      · rfl
  | .cell a t :: l, k, h => by
    have h : (match qLoad P s t (f.get a) with
      | some (c, v) => needsR c (resultsW P s f l fun r => k (v :: r))
      | none => False) := h
    simp only [resultsE]
    split at h
    · rename_i c v hq
      obtain ⟨h1, h2⟩ := needs_b h
      obtain ⟨r, h3, h4⟩ := resultsW_ad l _ h2
      exact ⟨_, by simp only [hq, chkQ, h1, cond_true, h3], h4⟩
    · exact h.elim
theorem resultW_ad {s : St} {f : Frm} {rs : List ResultVar} {k : V → Prop} (h : resultW P s f rs k) : ∃ v, resultE P s f rs = some v ∧ k v := by
  obtain ⟨l, h1, h2⟩ := resultsW_ad rs _ h
  unfold resultE
  rw [h1]
  split at h2
  · exact ⟨_, rfl, h2⟩
  · rename_i hne
    refine ⟨_, ?_, h2⟩
    cases l with
    | nil => rfl
    | cons a l =>
      cases l with
      | nil => exact absurd rfl (hne a)
      | cons b l => rfl

def AdD (w : DW) (f : Cfg → DM → Option (EExit × Cfg × DM)) : Prop := ∀ c m k, w c m k → ∃ e c' m', f c m = some (e, c', m') ∧ k e c' m'
theorem withDW_ad {w : CW} {f : Cfg → Option (EExit × Cfg)} (h : AdC w f) : AdD (withDW w) (fun c m => withD m (f c)) := by
  intro c m k hk
  obtain ⟨e, c', h1, h2⟩ := h c _ hk
  cases e with
  | pan v => exact h2.elim
  | normal => exact ⟨_, _, _, by simp only [h1, withD], h2⟩
  | ret => exact ⟨_, _, _, by simp only [h1, withD], h2⟩
  | exit id => exact ⟨_, _, _, by simp only [h1, withD], h2⟩
theorem recW_ad : ∀ l : List Oper, AdD (recW P l) (recE P l)
  | [] => fun c m k h => ⟨_, _, _, rfl, h⟩
  | o :: l => fun c m k h => by
    have ih := recW_ad l
    simp only [recW] at h
    simp only [recE]
    split at h
    · exact h.elim
    · rename_i hg
      simp only [hg]
      split at h
      · rename_i hr
        rw [hr, cond_true]
        split at h
        · exact ih _ _ _ h
        · rename_i hne
          cases m with
          | none => exact ih _ _ _ h
          | some p =>
            obtain ⟨v, b⟩ := p
            cases b with
            | false => exact absurd rfl (hne v)
            | true => exact ih _ _ _ h
      · rename_i hr
        rw [hr, cond_false]
        split at h
        · rename_i cs v hq
          obtain ⟨h1, h2⟩ := needs_b h
          simp only [qopO, hq, chkQ, h1, cond_true]
          exact ih _ _ _ h2
        · exact h.elim
theorem seqDW_ad {a b : DW} {fa fb : Cfg → DM → Option (EExit × Cfg × DM)} (ha : AdD a fa) (hb : AdD b fb) : AdD (seqDW a b) (seqD fa fb) := by
  intro c m k h
  obtain ⟨e, c1, m1, h1, h2⟩ := ha c m _ h
  unfold seqD
  cases e with
  | normal =>
    obtain ⟨e', c', m', h3, h4⟩ := hb c1 m1 k h2
    exact ⟨e', c', m', by simp only [h1, h3], h4⟩
  | exit id => exact ⟨_, _, _, by simp only [h1], h2⟩
  | ret => exact ⟨_, _, _, by simp only [h1], h2⟩
  | pan v => exact ⟨_, _, _, by simp only [h1], h2⟩
theorem condDW_ad {x : Operand} {a b : DW} {fa fb : Cfg → DM → Option (EExit × Cfg × DM)} (ha : AdD a fa) (hb : AdD b fb) : AdD (condDW x a b) (condD x fa fb) := by
  intro c m k h
  unfold condDW at h
  unfold condD
  split at h
  · rename_i q hq
    cases q with
    | true => obtain ⟨e, c', m', h1, h2⟩ := ha c m k h; exact ⟨e, c', m', by simp only [hq]; exact h1, h2⟩
    | false => obtain ⟨e, c', m', h1, h2⟩ := hb c m k h; exact ⟨e, c', m', by simp only [hq]; exact h1, h2⟩
  · exact h.elim
theorem compDW_ad (hs : AdS ws self) (fuel : Nat) : ∀ x : Code, AdD (compDW P ws fuel x) (runD (compD P self fuel x))
  | .skip => withDW_ad (codeW_ad hs fuel none .skip)
  | .label l => withDW_ad (codeW_ad hs fuel none (.label l))
  | .ret => withDW_ad (codeW_ad hs fuel none .ret)
  | .exit id => withDW_ad (codeW_ad hs fuel none (.exit id))
  | .goto l => withDW_ad (codeW_ad hs fuel none (.goto l))
  | .scope b => withDW_ad (codeW_ad hs fuel none (.scope b))
  | .refuse why => withDW_ad (codeW_ad hs fuel none (.refuse why))
  | .region id ops true => withDW_ad (codeW_ad hs fuel none (.region id ops true))
  | .region id ops false => by
    intro c m k h
    have h : (match hasRec ops.toList with
        | true => recW P ops.toList
        | false => withDW (compW P ws fuel none noLpW (.region id ops false))) c m k := h
    have e : runD (compD P self fuel (.region id ops false)) c m = (bif hasRec ops.toList then recE P ops.toList c m else withD m (runCode P self fuel none (.region id ops false) c)) := rfl
    rw [e]
    cases hr : hasRec ops.toList with
    | true => rw [hr] at h; rw [cond_true]; exact recW_ad _ c m k h
    | false => rw [hr] at h; rw [cond_false]; exact withDW_ad (codeW_ad hs fuel none (.region id ops false)) c m k h
  | .seq a b => seqDW_ad (compDW_ad hs fuel a) (compDW_ad hs fuel b)
  | .cond x a b => condDW_ad (compDW_ad hs fuel a) (compDW_ad hs fuel b)
  | .block id b => withDW_ad (codeW_ad hs fuel none (.block id b))
  | .loop b => withDW_ad (codeW_ad hs fuel none (.loop b))
  | .rangeFunc f ps assign body => withDW_ad (codeW_ad hs fuel none (.rangeFunc f ps assign body))

theorem runDefW_ad (hs : AdS ws self) (fuel : Nat) (g : FuncId) (args : List V) (m : DM) (s : St) (k : DM → St → Prop) (h : runDefW P ws fuel g args m s k) : ∃ m' s', runDef P self fuel g args m s = some (m', s') ∧ k m' s' := by
  unfold runDefW at h
  unfold runDef
  split at h
  · rename_i fn hfn
    split at h
    · rename_i c hc
      obtain ⟨h1, h2⟩ := guardB_b h
      obtain ⟨e, c', m', h3, h4⟩ := compDW_ad hs fuel c _ _ _ (frmK_args (k := fun f => compDW P ws fuel c ⟨f, [], s⟩ m _) h1 h2)
      simp only [hfn, hc, h1, Bool.not_true, cond_false, h3]
      have key : (match c'.defers with
        | [] => resultW P c'.st c'.tmps fn.results.toList fun _ => k m' c'.st
        | _ :: _ => False) → ∃ m1 s1, (match c'.defers with
          | [] => match resultE P c'.st c'.tmps fn.results.toList with
            | some _ => some (m', c'.st)
            | none => none
          | _ :: _ => none : Option (DM × St)) = some (m1, s1) ∧ k m1 s1 := by
        intro hh
        split at hh
        · rename_i hd
          obtain ⟨v, h5, h6⟩ := resultW_ad hh
          exact ⟨_, _, by simp only [h5], h6⟩
        · exact hh.elim
      cases e with
      | normal => exact key h4
      | ret => exact key h4
      | exit id => exact h4.elim
      | pan v => exact h4.elim
    · exact h.elim
  · exact h.elim

theorem leaveW_ad (hs : AdS ws self) (fuel : Nat) (fn : Func) (tmps : Frm) (k : KS) : ∀ (ds : List EDef) (m : DM) (s : St), leaveW P ws fuel fn tmps m ds s k → ∃ e s', leaveE P self fuel fn tmps m ds s = some (e, s') ∧ k e s'
  | [], m, s, h => by
    simp only [leaveW] at h
    simp only [leaveE]
    split at h
    · exact ⟨_, _, rfl, h⟩
    · exact h.elim
    · obtain ⟨v, h1, h2⟩ := resultW_ad h
      exact ⟨_, _, by simp only [h1], h2⟩
  | .mark r :: ds, m, s, h => by
    simp only [leaveW] at h
    simp only [leaveE]
    split at h
    · rename_i hr
      obtain ⟨e, s', h1, h2⟩ := leaveW_ad hs fuel fn tmps k ds m _ h
      exact ⟨e, s', by simp only [hr]; exact h1, h2⟩
    · exact h.elim
  | .call g args cap :: ds, m, s, h => by
    simp only [leaveW] at h
    simp only [leaveE]
    obtain ⟨h1, h2⟩ := guardB_b h
    obtain ⟨m', s', h3, h4⟩ := runDefW_ad hs fuel g _ m s _ h2
    obtain ⟨e, s2, h5, h6⟩ := leaveW_ad hs fuel fn tmps k ds _ _ h4
    exact ⟨e, s2, by simp only [h1, cond_true, h3]; exact h5, h6⟩

theorem fnLW_ad (hs : AdS ws self) (fuel : Nat) {lw : LpW} {lp : LpF} (hl : AdL lw lp) (f : FuncId) (args : List V) (s : St) (k : KS) (h : fnLW P ws fuel lw f args s k) : ∃ e s', runFnL P self fuel lp f args s = some (e, s') ∧ k e s' := by
  unfold fnLW at h
  unfold runFnL
  split at h
  · rename_i fn hfn
    split at h
    · rename_i c hc
      obtain ⟨h1, h2⟩ := guardB_b h
      obtain ⟨e, c', h3, h4⟩ := compW_ad hs fuel none hl c _ _ (frmK_args (k := fun f => compW P ws fuel none lw c ⟨f, [], s⟩ _) h1 h2)
      simp only [hfn, hc, h1, Bool.not_true, cond_false, h3]
      cases e with
      | normal => exact leaveW_ad hs fuel fn _ k _ _ _ h4
      | ret => exact leaveW_ad hs fuel fn _ k _ _ _ h4
      | pan v => exact leaveW_ad hs fuel fn _ k _ _ _ h4
      | exit id => exact h4.elim
    · exact h.elim
  · exact h.elim
theorem tgtW_ad (hs : AdS ws self) (fuel : Nat) : AdS (tgtW P ws fuel) (runT P self fuel) := by
  intro t s k h
  cases t with
  | fn f args => exact fnLW_ad hs fuel noLp_ad f args s k h
  | round l args => exact roundW_ad hs fuel l args s k h

def AdK (kw : KnW) (known : ESelf) : Prop := ∀ t s r, kw t s = some r → ∀ k, r k → ∃ e s', known t s = some (e, s') ∧ k e s'
def NoK (kw : KnW) (known : ESelf) : Prop := ∀ t s, kw t s = none → known t s = none
theorem callW_ad {kw : KnW} {known : ESelf} (hk : AdK kw known) (hn : NoK kw known) (fuel : Nat) : ∀ d, AdS (callW P kw fuel d) (callE P known fuel d)
  | 0 => fun t s k h => h.elim
  | d + 1 => fun t s k h => by
    have h : (match kw t s with
      | some r => r k
      | none => tgtW P (callW P kw fuel d) fuel t s k) := h
    have e : callE P known fuel (d + 1) t s = (match known t s with
      | some r => some r
      | none => runT P (callE P known fuel d) fuel t s) := rfl
    rw [e]
    split at h
    · rename_i r hr
      obtain ⟨e, s', h1, h2⟩ := hk t s r hr k h
      exact ⟨e, s', by rw [h1], h2⟩
    · rename_i hr
      rw [hn t s hr]
      exact tgtW_ad (callW_ad hk hn fuel d) fuel t s k h
end
end Go.Sym
end

section
namespace Go.Sym
set_option linter.unusedSimpArgs false
set_option linter.unusedVariables false

def Wk (k : Nat) (c1 c0 : Cfg) : Prop := ∀ (own : Own) (ρ0 ρ : Env) (A : Act) (w : World), ρ0.below k → ρ0.le ρ → Rel own ρ c1 A w → ∃ ρ', ρ0.le ρ' ∧ Rel own ρ' c0 A w
theorem Wk.refl (k : Nat) (c : Cfg) : Wk k c c := fun _ _ ρ _ _ _ h r => ⟨ρ, h, r⟩

noncomputable def heapOf : List (Nat × EObj) → T EObj
  | [] => .leaf
  | e :: l => (heapOf l).set e.1 (some e.2)
theorem heapOf_mem : ∀ {l : List (Nat × EObj)} {b : Nat} {o : EObj}, (heapOf l).get b = some o → (b, o) ∈ l
  | [], b, o, h => by rw [heapOf, T.get_leaf] at h; cases h
  | e :: l, b, o, h => by
    rw [heapOf, T.get_set] at h
    split at h
    · rename_i hb; cases h; subst hb; exact List.mem_cons_self
    · exact List.mem_cons_of_mem _ (heapOf_mem h)
noncomputable def mkCfg (n : Nat) (sl : List V) (ds : List EDef) (h : List (Nat × EObj)) (next : Nat) : Cfg := ⟨mkFrm n sl, ds, ⟨heapOf h, next⟩⟩

section
variable (k : Nat) (m : List (Nat × Nat))
def look (b : Nat) : List (Nat × Nat) → Option Nat
  | [] => none
  | e :: l => bif Nat.beq e.1 b then some e.2 else look b l
def renN (b : Nat) : Option Nat := bif Nat.blt b k then some b else look b m
def isN (b b0 : Nat) : Bool := match renN k m b0 with
  | some b1 => Nat.beq b b1
  | none => false
def isGone (b0 : Nat) : Bool := match renN k m b0 with
  | some _ => false
  | none => true
def sameLst (e e0 : List Ty) (L : List (rowDen e)) (L0 : List (rowDen e0)) : Prop := match asL e0 e L with
  | some L' => L' = L0
  | none => False
def capW (x0 : Bool) (len0 cap0 cap : Nat) : Prop := match x0 with
  | true => cap = cap0
  | false => len0 ≤ cap0 ∧ cap0 ≤ cap
mutual
def weakV : V → V → Prop
  | v, .any => True
  | v, .undef => (match v with
    | .undef => True
    | _ => False)
  | v, .bool b => (match v with
    | .bool a => a = b
    | _ => False)
  | v, .int k0 b => (match v with
    | .int k a => guardB (kEq k k0) (a = b)
    | _ => False)
  | v, .str b => (match v with
    | .str a => a = b
    | _ => False)
  | v, .nilp => (match v with
    | .nilp => True
    | _ => False)
  | v, .nils => (match v with
    | .nils => True
    | _ => False)
  | v, .nilm => (match v with
    | .nilm => True
    | _ => False)
  | v, .nilf => (match v with
    | .nilf => True
    | _ => False)
  | v, .nili => (match v with
    | .nili => True
    | _ => False)
  | v, .ptr b0 o0 => (match v with
    | .ptr b o => guardB (isN k m b b0 && Nat.beq o o0) True
    | _ => False)
  | v, .rptr b0 i0 j0 es0 => (match v with
    | .rptr b i j es => guardB (isN k m b b0 && (Nat.beq j j0 && Nat.beq es es0)) (i = i0)
    | _ => False)
  | v, .lptr e0 L0 i0 j0 => (match v with
    | .lptr e L i j => sameLst e e0 L L0 ∧ (i = i0 ∧ j = j0)
    | _ => False)
  | v, .sl b0 o0 len0 cap0 x0 es0 => (match v with
    | .sl b o len cap x es => guardB (isN k m b b0 && (Nat.beq o o0 && (Nat.beq len len0 && (Nat.beq cap cap0 && ((x == x0) && Nat.beq es es0))))) True
    | _ => False)
  | v, .rs b0 lo0 len0 cap0 x0 es0 => (match v with
    | .rs b lo len cap x es => guardB (isN k m b b0 && (Nat.beq es es0 && (!x0 || x))) (lo = lo0 ∧ (len = len0 ∧ capW x0 len0 cap0 cap))
    | .nils => guardB (isGone k m b0) (len0 = 0 ∧ cap0 = 0)
    | _ => False)
  | v, .lst e0 L0 cl0 => (match v with
    | .lst e L cl => guardB (!cl0 || cl) (sameLst e e0 L L0)
    | .nils => L0 = []
    | _ => False)
  | v, .arr e0 L0 => (match v with
    | .arr e L => sameLst e e0 L L0
    | _ => False)
  | v, .map b0 => (match v with
    | .map b => guardB (isN k m b b0) True
    | _ => False)
  | v, .fn f0 a0 c0 => (match v with
    | .fn f a c => guardB (Nat.beq f f0) (weakL a a0 ∧ weakL c c0)
    | _ => False)
  | v, .yld l0 => (match v with
    | .yld l => guardB (isN k m l l0) True
    | _ => False)
  | v, .iface t0 v0 => (match v with
    | .iface t v => guardB (Nat.beq t t0) (weakV v v0)
    | _ => False)
  | v, .agg l0 => (match v with
    | .agg l => weakL l l0
    | _ => False)
  | v, .tup l0 => (match v with
    | .tup l => weakL l l0
    | _ => False)
def weakL : List V → List V → Prop
  | l, [] => (match l with
    | [] => True
    | _ :: _ => False)
  | l, v0 :: l0 => (match l with
    | [] => False
    | v :: l => weakV v v0 ∧ weakL l l0)
end
end

section
variable {k : Nat} {m : List (Nat × Nat)}
def Env.ren (ρ : Env) (k : Nat) (m : List (Nat × Nat)) : Env := ⟨fun b => match renN k m b with
  | some b1 => ρ b1
  | none => none, k, ρ.φ⟩
theorem isN_spec {b b0 : Nat} (h : isN k m b b0 = true) : renN k m b0 = some b := by
  unfold isN at h
  split at h
  · rename_i b1 hb; rw [hb, Nat.eq_of_beq_eq_true h]
  · cases h
theorem ren_get {ρ : Env} {b b0 : Nat} (h : isN k m b b0 = true) : ρ.ren k m b0 = ρ b := by
  simp only [Env.ren, isN_spec h]
theorem sameLst_spec {e e0 : List Ty} {L : List (rowDen e)} {L0 : List (rowDen e0)} (h : sameLst e e0 L L0) : ∃ q : e = e0, L0 = castL q L := by
  unfold sameLst at h
  split at h
  · rename_i L' hL
    obtain ⟨q, rfl⟩ := asL_some hL
    exact ⟨q, h.symm⟩
  · exact h.elim

mutual
theorem weakV_rel {ρ : Env} : ∀ (v0 v : V) (X : Value), weakV k m v v0 → VRel ρ v X → VRel (ρ.ren k m) v0 X
  | .any, v, X, h, hv => by simp only [VRel]
  | .undef, v, X, h, hv => by
    rw [weakV.eq_def] at h
    simp only at h
    split at h
    · simpa only [VRel] using hv
    · exact h.elim
  | .bool b, v, X, h, hv => by
    rw [weakV.eq_def] at h
    simp only at h
    split at h
    · subst h; simpa only [VRel] using hv
    · exact h.elim
  | .int k0 b, v, X, h, hv => by
    rw [weakV.eq_def] at h
    simp only at h
    split at h
    · obtain ⟨h1, rfl⟩ := guardB_b h
      rw [kEq_iff] at h1
      have h1 := of_decide_eq_true h1
      subst h1
      simpa only [VRel] using hv
    · exact h.elim
  | .str b, v, X, h, hv => by
    rw [weakV.eq_def] at h
    simp only at h
    split at h
    · subst h; simpa only [VRel] using hv
    · exact h.elim
  | .nilp, v, X, h, hv => by
    rw [weakV.eq_def] at h
    simp only at h
    split at h
    · simpa only [VRel] using hv
    · exact h.elim
  | .nils, v, X, h, hv => by
    rw [weakV.eq_def] at h
    simp only at h
    split at h
    · simpa only [VRel] using hv
    · exact h.elim
  | .nilm, v, X, h, hv => by
    rw [weakV.eq_def] at h
    simp only at h
    split at h
    · simpa only [VRel] using hv
    · exact h.elim
  | .nilf, v, X, h, hv => by
    rw [weakV.eq_def] at h
    simp only at h
    split at h
    · simpa only [VRel] using hv
    · exact h.elim
  | .nili, v, X, h, hv => by
    rw [weakV.eq_def] at h
    simp only at h
    split at h
    · simpa only [VRel] using hv
    · exact h.elim
  | .ptr b0 o0, v, X, h, hv => by
    rw [weakV.eq_def] at h
    simp only at h
    split at h
    · obtain ⟨h1, _⟩ := guardB_b h
      rw [Bool.and_eq_true] at h1
      have h2 := Nat.eq_of_beq_eq_true h1.2
      subst h2
      simp only [VRel] at hv ⊢
      rw [ren_get h1.1]; exact hv
    · exact h.elim
  | .rptr b0 i0 j0 es0, v, X, h, hv => by
    rw [weakV.eq_def] at h
    simp only at h
    split at h
    · obtain ⟨h1, rfl⟩ := guardB_b h
      simp only [Bool.and_eq_true] at h1
      have h2 := Nat.eq_of_beq_eq_true h1.2.1
      have h3 := Nat.eq_of_beq_eq_true h1.2.2
      subst h2; subst h3
      simp only [VRel] at hv ⊢
      rw [ren_get h1.1]; exact hv
    · exact h.elim
  | .lptr e0 L0 i0 j0, v, X, h, hv => by
    rw [weakV.eq_def] at h
    simp only at h
    split at h
    · obtain ⟨h1, rfl, rfl⟩ := h
      obtain ⟨q, rfl⟩ := sameLst_spec h1
      subst q
      simp only [VRel] at hv ⊢
      exact hv
    · exact h.elim
  | .sl b0 o0 len0 cap0 x0 es0, v, X, h, hv => by
    rw [weakV.eq_def] at h
    simp only at h
    split at h
    · obtain ⟨h1, _⟩ := guardB_b h
      simp only [Bool.and_eq_true] at h1
      obtain ⟨g1, g2, g3, g4, g5, g6⟩ := h1
      have g2 := Nat.eq_of_beq_eq_true g2
      have g3 := Nat.eq_of_beq_eq_true g3
      have g4 := Nat.eq_of_beq_eq_true g4
      have g5 := eq_of_beq g5
      have g6 := Nat.eq_of_beq_eq_true g6
      subst g2; subst g3; subst g4; subst g5; subst g6
      simp only [VRel] at hv ⊢
      rw [ren_get g1]; exact hv
    · exact h.elim
  | .rs b0 lo0 len0 cap0 x0 es0, v, X, h, hv => by
    rw [weakV.eq_def] at h
    simp only at h
    split at h
    · obtain ⟨h1, rfl, rfl, hcap⟩ := guardB_b h
      simp only [Bool.and_eq_true, Bool.or_eq_true, Bool.not_eq_true'] at h1
      obtain ⟨g1, g2, g3⟩ := h1
      have g2 := Nat.eq_of_beq_eq_true g2
      subst g2
      simp only [VRel] at hv ⊢
      rw [ren_get g1]
      obtain ⟨a, c, q1, q2, q3, q4, q5⟩ := hv
      cases x0 with
      | true =>
        have hcap : _ = _ := hcap
        subst hcap
        refine ⟨a, c, q1, q2, q3, fun hx => q4 ?_, q5⟩
        rcases g3 with g3 | g3
        · cases g3
        · exact g3
      | false =>
        obtain ⟨c1, c2⟩ : _ ≤ _ ∧ _ ≤ _ := hcap
        exact ⟨a, c, q1, c1, by omega, fun hx => (by cases hx), q5⟩
    · obtain ⟨h1, rfl, rfl⟩ := guardB_b h
      simp only [VRel] at hv ⊢
      exact ⟨none, 0, hv, Nat.le_refl _, Nat.le_refl _, fun _ => rfl, fun _ => rfl, fun hp => absurd hp (Nat.lt_irrefl _)⟩
    · exact h.elim
  | .lst e0 L0 cl0, v, X, h, hv => by
    rw [weakV.eq_def] at h
    simp only at h
    split at h
    · obtain ⟨h1, h2⟩ := guardB_b h
      obtain ⟨q, rfl⟩ := sameLst_spec h2
      subst q
      simp only [VRel] at hv ⊢
      obtain ⟨a, c, q1, q2, q3, q4⟩ := hv
      refine ⟨a, c, q1, q2, fun hx => q3 ?_, q4⟩
      rw [Bool.or_eq_true, Bool.not_eq_true'] at h1
      rcases h1 with h1 | h1
      · rw [h1] at hx; cases hx
      · exact h1
    · subst h
      simp only [VRel] at hv ⊢
      exact ⟨none, 0, hv, Nat.le_refl _, fun _ => rfl, fun _ => rfl, fun hp => absurd hp (Nat.lt_irrefl _)⟩
    · exact h.elim
  | .arr e0 L0, v, X, h, hv => by
    rw [weakV.eq_def] at h
    simp only at h
    split at h
    · obtain ⟨q, rfl⟩ := sameLst_spec h
      subst q
      simp only [VRel] at hv ⊢
      exact hv
    · exact h.elim
  | .map b0, v, X, h, hv => by
    rw [weakV.eq_def] at h
    simp only at h
    split at h
    · obtain ⟨h1, _⟩ := guardB_b h
      simp only [VRel] at hv ⊢
      rw [ren_get h1]; exact hv
    · exact h.elim
  | .fn f0 a0 c0, v, X, h, hv => by
    rw [weakV.eq_def] at h
    simp only at h
    split at h
    · obtain ⟨h1, h2, h3⟩ := guardB_b h
      have h1 := Nat.eq_of_beq_eq_true h1
      subst h1
      simp only [VRel] at hv ⊢
      obtain ⟨A, C, q1, q2, q3⟩ := hv
      exact ⟨A, C, q1, weakL_rel a0 _ _ h2 q2, weakL_rel c0 _ _ h3 q3⟩
    · exact h.elim
  | .yld l0, v, X, h, hv => by
    rw [weakV.eq_def] at h
    simp only at h
    split at h
    · obtain ⟨h1, _⟩ := guardB_b h
      simp only [VRel] at hv ⊢
      rw [ren_get h1]; exact hv
    · exact h.elim
  | .iface t0 v0, v, X, h, hv => by
    rw [weakV.eq_def] at h
    simp only at h
    split at h
    · obtain ⟨h1, h2⟩ := guardB_b h
      have h1 := Nat.eq_of_beq_eq_true h1
      subst h1
      simp only [VRel] at hv ⊢
      obtain ⟨Y, q1, q2⟩ := hv
      exact ⟨Y, q1, weakV_rel v0 _ _ h2 q2⟩
    · exact h.elim
  | .agg l0, v, X, h, hv => by
    rw [weakV.eq_def] at h
    simp only at h
    split at h
    · simp only [VRel] at hv ⊢
      obtain ⟨A, q1, q2⟩ := hv
      exact ⟨A, q1, weakL_rel l0 _ _ h q2⟩
    · exact h.elim
  | .tup l0, v, X, h, hv => by
    rw [weakV.eq_def] at h
    simp only at h
    split at h
    · simp only [VRel] at hv ⊢
      obtain ⟨A, q1, q2⟩ := hv
      exact ⟨A, q1, weakL_rel l0 _ _ h q2⟩
    · exact h.elim
theorem weakL_rel {ρ : Env} : ∀ (l0 l : List V) (X : List Value), weakL k m l l0 → LRel ρ l X → LRel (ρ.ren k m) l0 X
  | [], l, X, h, hv => by
    rw [weakL.eq_def] at h
    simp only at h
    split at h
    · exact hv
    · exact h.elim
  | v0 :: l0, l, X, h, hv => by
    rw [weakL.eq_def] at h
    simp only at h
    split at h
    · exact h.elim
    · obtain ⟨Y, Z, q1, q2, q3⟩ := hv
      exact ⟨Y, Z, q1, weakV_rel v0 _ _ h.1 q2, weakL_rel l0 _ _ h.2 q3⟩
end

def weakF (k : Nat) (m : List (Nat × Nat)) (f : Frm) : Nat → List V → Prop
  | _, [] => True
  | i, v0 :: l => weakV k m (f.get i) v0 ∧ weakF k m f (i + 1) l
theorem weakF_get {f : Frm} : ∀ {l : List V} {i : Nat}, weakF k m f i l → ∀ (j : Nat) v0, l[j]? = some v0 → weakV k m (f.get (i + j)) v0
  | [], _, _, j, v0, h => by simp at h
  | v :: l, i, h, j, v0, hj => by
    cases j with
    | zero => simp at hj; subst hj; exact h.1
    | succ j =>
      have := weakF_get (l := l) h.2 j v0 (by simpa using hj)
      rwa [Nat.add_assoc, Nat.add_comm 1 j] at this
def weakD (k : Nat) (m : List (Nat × Nat)) : List EDef → List EDef → Prop
  | l, [] => (match l with
    | [] => True
    | _ :: _ => False)
  | l, .mark r0 :: l0 => (match l with
    | .mark r :: l => guardB (isN k m r r0) (weakD k m l l0)
    | _ => False)
  | l, .call g0 a0 c0 :: l0 => (match l with
    | .call g a c :: l => guardB (Nat.beq g g0) (weakL k m a a0 ∧ (weakL k m c c0 ∧ weakD k m l l0))
    | _ => False)
theorem weakD_rel {ρ : Env} : ∀ (l0 l : List EDef) (D : List Deferred), weakD k m l l0 → DRel ρ l D → DRel (ρ.ren k m) l0 D
  | [], l, D, h, hd => by
    rw [weakD.eq_def] at h
    simp only at h
    split at h
    · exact hd
    · exact h.elim
  | .mark r0 :: l0, l, D, h, hd => by
    rw [weakD.eq_def] at h
    simp only at h
    split at h
    · obtain ⟨h1, h2⟩ := guardB_b h
      obtain ⟨x, Y, q1, q2, q3⟩ := hd
      exact ⟨x, Y, by rw [ren_get h1]; exact q1, q2, weakD_rel l0 _ _ h2 q3⟩
    · exact h.elim
  | .call g0 a0 c0 :: l0, l, D, h, hd => by
    rw [weakD.eq_def] at h
    simp only at h
    split at h
    · obtain ⟨h1, h2, h3, h4⟩ := guardB_b h
      have h1 := Nat.eq_of_beq_eq_true h1
      subst h1
      obtain ⟨A, C, Y, q1, q2, q3, q4⟩ := hd
      exact ⟨A, C, Y, q1, weakL_rel a0 _ _ h2 q2, weakL_rel c0 _ _ h3 q3, weakD_rel l0 _ _ h4 q4⟩
    · exact h.elim
theorem mkFrm_ok {n : Nat} {sl : List V} (hm : n ≤ 4096) : (mkFrm n sl).ok := ⟨hOf n, B.ofList_full _ _ _, hOf_le hm⟩
theorem mkFrm_get {n : Nat} {sl : List V} (hm : n ≤ 4096) (i : Nat) (hi : i < n) : (mkFrm n sl).get i = sl.getD i .undef := by
  rw [Frm.get_eq, blt_iff]
  have : i < (mkFrm n sl).n := hi
  rw [decide_eq_true this, cond_true]
  exact B.ofList_get _ _ _ _ (Nat.lt_of_lt_of_le hi (hOf_le hm))
theorem toV_plain {ρ ρ' : Env} (h : subφ ρ.φ ρ'.φ) : ∀ (t : Ty) (x : t.den) {X : Value}, VRel ρ (toV t x) X → VRel ρ' (toV t x) X
  | .int _, _, _, r => by simp only [toV, VRel] at r ⊢; exact r
  | .bool, _, _, r => by simp only [toV, VRel] at r ⊢; exact r
  | .str, _, _, r => by simp only [toV, VRel] at r ⊢; exact r
  | .lst e, _, _, r => by
    simp only [toV, VRel] at r ⊢
    obtain ⟨a, c, h1, h2, h3, h5, h4⟩ := r
    exact ⟨a, c, h1, h2, h3, h5, fun hp => let ⟨B, o, g1, g2⟩ := h4 hp; ⟨B, o, g1, g2.mono h fun _ _ hv => h _ _ _ hv⟩⟩
theorem MRel.plain {ρ ρ' : Env} (h : subφ ρ.φ ρ'.φ) {k t : Ty} : ∀ {M : List (k.den × t.den × Nat)} {E : List MapEntry}, MRel ρ (pmV k t M) E → MRel ρ' (pmV k t M) E
  | [], _, r => r
  | _ :: _, _, r => by
    obtain ⟨x, y, e, h1, h2, h3, h4⟩ := r
    exact ⟨x, y, e, toV_plain h _ _ h1, toV_plain h _ _ h2, h3, MRel.plain h h4⟩
def castM {k k0 t t0 : Ty} (hk : k = k0) (ht : t = t0) (M : List (k.den × t.den × Nat)) : List (k0.den × t0.den × Nat) := by subst hk; subst ht; exact M
theorem castM_self {k t : Ty} (hk : k = k) (ht : t = t) (M : List (k.den × t.den × Nat)) : castM hk ht M = M := rfl
def sameM (k k0 t t0 : Ty) (M : List (k.den × t.den × Nat)) (M0 : List (k0.den × t0.den × Nat)) : Prop :=
  if h : Ty.beq k k0 = true then (if h' : Ty.beq t t0 = true then castM (Ty.beq_eq k k0 h) (Ty.beq_eq t t0 h') M = M0 else False) else False
theorem sameM_spec {k k0 t t0 : Ty} {M : List (k.den × t.den × Nat)} {M0 : List (k0.den × t0.den × Nat)} (h : sameM k k0 t t0 M M0) : ∃ (q : k = k0) (q' : t = t0), castM q q' M = M0 := by
  unfold sameM at h
  split at h
  · split at h
    · exact ⟨_, _, h⟩
    · exact h.elim
  · exact h.elim
def weakM (k : Nat) (m : List (Nat × Nat)) : List (V × V × Nat) → List (V × V × Nat) → Prop
  | l, [] => (match l with
    | [] => True
    | _ :: _ => False)
  | l, e0 :: l0 => (match l with
    | [] => False
    | e :: l => weakV k m e.1 e0.1 ∧ (weakV k m e.2.1 e0.2.1 ∧ (e.2.2 = e0.2.2 ∧ weakM k m l l0)))
theorem weakM_rel {ρ : Env} : ∀ (l0 l : List (V × V × Nat)) (E : List MapEntry), weakM k m l l0 → MRel ρ l E → MRel (ρ.ren k m) l0 E
  | [], l, E, h, r => by
    rw [weakM.eq_def] at h
    simp only at h
    split at h
    · exact r
    · exact h.elim
  | e0 :: l0, l, E, h, r => by
    rw [weakM.eq_def] at h
    simp only at h
    split at h
    · exact h.elim
    · obtain ⟨h1, h2, h3, h4⟩ := h
      obtain ⟨x, y, rfl, g1, g2, g3, g4⟩ := r
      exact ⟨x, y, rfl, weakV_rel _ _ _ h1 g1, weakV_rel _ _ _ h2 g2, h3 ▸ g3, weakM_rel l0 _ y h4 g4⟩
def weakO (k : Nat) (m : List (Nat × Nat)) (o o0 : EObj) : Prop :=
  match o0 with
  | .cells cs0 t0 ish0 => (match o with
    | .cells cs t ish => guardB (!ish || ish0) (weakL k m cs cs0)
    | _ => False)
  | .rows e0 L0 t0 ish0 => (match o with
    | .rows e L t ish => guardB (!ish || ish0) (sameLst e e0 L L0)
    | _ => False)
  | .dfr s0 => (match o with
    | .dfr s => guardB (s == s0) True
    | _ => False)
  | .loop r0 => (match o with
    | .loop r => r.state = r0.state ∧ (r.pending = r0.pending ∧ (r.params = r0.params ∧ (r.assign = r0.assign ∧ (r.body = r0.body ∧ guardB (isN k m r.defers r0.defers) (∃ n sl, r0.tmps = mkFrm n sl ∧ guardB (Nat.beq r.tmps.n n && (Nat.beq (llen sl) n && Nat.ble n 4096)) (weakF k m r.tmps 0 sl))))))
    | _ => False)
  | .map es0 c0 => (match o with
    | .map es c => weakM k m es es0 ∧ c = c0
    | _ => False)
  | .pm k0 t0 M0 c0 => (match o with
    | .pm k t M c => sameM k k0 t t0 M M0 ∧ c = c0
    | _ => False)
  | .mit m0 a0 s0 c0 => (match o with
    | .mit m1 a s c => guardB (isN k m m1 m0) (a = a0 ∧ (s = s0 ∧ c = c0))
    | _ => False)
theorem weakL_length : ∀ (l0 l : List V), weakL k m l l0 → l.length = l0.length
  | [], l, h => by
    rw [weakL.eq_def] at h
    simp only at h
    split at h
    · rfl
    · exact h.elim
  | v0 :: l0, l, h => by
    rw [weakL.eq_def] at h
    simp only at h
    split at h
    · exact h.elim
    · simp [weakL_length l0 _ h.2]
theorem weakL_get : ∀ (l0 l : List V), weakL k m l l0 → ∀ (i : Nat) v0, l0[i]? = some v0 → ∃ v, l[i]? = some v ∧ weakV k m v v0
  | [], l, h, i, v0, hi => by simp at hi
  | u0 :: l0, l, h, i, v0, hi => by
    rw [weakL.eq_def] at h
    simp only at h
    split at h
    · exact h.elim
    · cases i with
      | zero => simp at hi; subst hi; exact ⟨_, rfl, h.1⟩
      | succ i =>
        obtain ⟨v, h1, h2⟩ := weakL_get l0 _ h.2 i v0 (by simpa using hi)
        exact ⟨v, by simpa using h1, h2⟩
theorem frel_weak {ρ : Env} {f f0 : Frm} {A : Array Value} (h : FRel ρ f A) (hn : f.n = f0.n) (hok : f0.ok) (hw : ∀ i, i < f0.n → weakV k m (f.get i) (f0.get i)) : FRel (ρ.ren k m) f0 A := by
  obtain ⟨h1, d, h2, h3, h4⟩ := h
  obtain ⟨d', g2, g3⟩ := hok
  refine ⟨by rw [← hn]; exact h1, d', g2, g3, fun i X hi => ?_⟩
  have hlt : i < f0.n := by rw [← hn, h1]; exact (Array.getElem?_eq_some_iff.1 hi).1
  have := hw i hlt
  rw [Frm.get_eq, Frm.get_eq, blt_iff, blt_iff, decide_eq_true (by omega), decide_eq_true hlt, cond_true, cond_true] at this
  exact weakV_rel _ _ _ this (h4 i X hi)
theorem weakO_rel {ρ : Env} {o o0 : EObj} {O S : Nat} {X : Option Obj} (h : weakO k m o o0) (ho : ORel ρ O S X o) : ORel (ρ.ren k m) O S X o0 := by
  unfold weakO at h
  split at h
  · split at h
    · obtain ⟨h1, h2⟩ := guardB_b h
      rw [Bool.or_eq_true, Bool.not_eq_true'] at h1
      obtain ⟨C, t, fr, q1, q2, q3, q4, q5, q6⟩ := ho
      refine ⟨C, t, fr, q1, q2, by rw [← weakL_length _ _ h2]; exact q3, fun i v0 hi => ?_, q5, fun hx => q6 ?_⟩
      · obtain ⟨v, g1, g2⟩ := weakL_get _ _ h2 i v0 hi
        obtain ⟨W, g3, g4⟩ := q4 i v g1
        exact ⟨W, g3, weakV_rel _ _ _ g2 g4⟩
      · rcases h1 with h1 | h1
        · exact h1
        · rw [h1] at hx; cases hx
    · exact h.elim
  · split at h
    · obtain ⟨h1, h2⟩ := guardB_b h
      rw [Bool.or_eq_true, Bool.not_eq_true'] at h1
      obtain ⟨q, rfl⟩ := sameLst_spec h2
      subst q
      obtain ⟨C, t, fr, q1, q2, q3, q4, q5, q6⟩ := ho
      refine ⟨C, t, fr, q1, q2, q3, q4, q5, fun hx => q6 ?_⟩
      rcases h1 with h1 | h1
      · exact h1
      · rw [h1] at hx; cases hx
    · exact h.elim
  · split at h
    · obtain ⟨h1, _⟩ := guardB_b h
      have h1 := eq_of_beq h1
      subst h1
      exact ho
    · exact h.elim
  · split at h
    · obtain ⟨h1, h2, h3, h4, h5, h6⟩ := h
      obtain ⟨h6, n, sl, h7, h8⟩ := guardB_b h6
      obtain ⟨h8, h9⟩ := guardB_b h8
      simp only [Bool.and_eq_true, Nat.ble_eq, Nat.beq_eq, llen_eq] at h8
      obtain ⟨hn, hlen, h4096⟩ := h8
      obtain ⟨L, D, q1, q2, q3, q4, q5, q6, q7, q8, q9⟩ := ho
      refine ⟨L, D, q1, by rw [← h1]; exact q2, by rw [← h2]; exact q3, ?_, by rw [← h3]; exact q5, by rw [← h4]; exact q6, by rw [← h5]; exact q7, by rw [ren_get h6]; exact q8, q9⟩
      rw [h7]
      refine frel_weak q4 hn (mkFrm_ok h4096) fun i hi => ?_
      have hi : i < n := hi
      have hsl : sl[i]? = some (sl.getD i .undef) := by
        rw [List.getD_eq_getElem?_getD, List.getElem?_eq_getElem (by omega)]; rfl
      have := weakF_get h9 i _ hsl
      rw [Nat.zero_add] at this
      rw [mkFrm_get h4096 i hi]
      exact this
    · exact h.elim
  · split at h
    · obtain ⟨h1, rfl⟩ := h
      obtain ⟨E, e1, e2⟩ := ho
      exact ⟨E, e1, weakM_rel _ _ _ h1 e2⟩
    · exact h.elim
  · split at h
    · obtain ⟨h1, rfl⟩ := h
      obtain ⟨q, q', rfl⟩ := sameM_spec h1
      subst q; subst q'
      obtain ⟨E, e1, e2⟩ := ho
      exact ⟨E, e1, by rw [castM_self]; exact MRel.plain (ρ := ρ) (ρ' := ρ.ren k m) (fun _ _ _ h => h) e2⟩
    · exact h.elim
  · split at h
    · obtain ⟨h1, rfl, rfl, rfl⟩ := guardB_b h
      obtain ⟨h0, y, e1, e2⟩ := ho
      exact ⟨h0, y, by rw [ren_get h1]; exact e1, e2⟩
    · exact h.elim

def weakH (k : Nat) (m : List (Nat × Nat)) (h1 : T EObj) : List (Nat × EObj) → Prop
  | [] => True
  | e :: l => (match renN k m e.1 with
    | none => True
    | some b1 => (match h1.get b1 with
      | some o1 => weakO k m o1 e.2
      | none => False)) ∧ weakH k m h1 l
theorem weakH_mem {h1 : T EObj} : ∀ {l : List (Nat × EObj)}, weakH k m h1 l → ∀ b o b1, (b, o) ∈ l → renN k m b = some b1 → ∃ o1, h1.get b1 = some o1 ∧ weakO k m o1 o
  | [], _, b, o, b1, h, _ => by cases h
  | e :: l, hw, b, o, b1, h, hr => by
    rcases List.mem_cons.1 h with h | h
    · subst h
      have := hw.1
      simp only [hr] at this
      split at this
      · exact ⟨_, ‹_›, this⟩
      · exact this.elim
    · exact weakH_mem hw.2 b o b1 h hr
def mapOK (k next : Nat) : List (Nat × Nat) → Bool
  | [] => true
  | e :: l => (Nat.ble k e.1 && (Nat.blt e.1 next && Nat.ble k e.2)) && (l.all (fun e' => !Nat.beq e.2 e'.2) && mapOK k next l)
theorem mapOK_look {k next : Nat} : ∀ {m : List (Nat × Nat)}, mapOK k next m = true → ∀ b b1, look b m = some b1 → k ≤ b ∧ b < next ∧ k ≤ b1
  | [], _, b, b1, h => by cases h
  | e :: l, hm, b, b1, h => by
    simp only [mapOK, Bool.and_eq_true, Nat.ble_eq, Nat.blt_eq] at hm
    simp only [look] at h
    cases hb : Nat.beq e.1 b with
    | true =>
      rw [hb, cond_true] at h; cases h
      have := Nat.eq_of_beq_eq_true hb
      subst this
      exact ⟨hm.1.1, hm.1.2.1, hm.1.2.2⟩
    | false => rw [hb, cond_false] at h; exact mapOK_look hm.2.2 b b1 h
theorem look_mem : ∀ {m : List (Nat × Nat)} {b b1 : Nat}, look b m = some b1 → (b, b1) ∈ m
  | [], b, b1, h => by cases h
  | e :: l, b, b1, h => by
    simp only [look] at h
    cases hb : Nat.beq e.1 b with
    | true =>
      rw [hb, cond_true] at h; cases h
      have := Nat.eq_of_beq_eq_true hb
      subst this
      exact List.mem_cons_self
    | false => rw [hb, cond_false] at h; exact List.mem_cons_of_mem _ (look_mem h)
theorem mapOK_inj {k next : Nat} : ∀ {m : List (Nat × Nat)}, mapOK k next m = true → ∀ b b' b1, look b m = some b1 → look b' m = some b1 → b = b'
  | [], _, b, b', b1, h, _ => by cases h
  | e :: l, hm, b, b', b1, h, h' => by
    simp only [mapOK, Bool.and_eq_true, List.all_eq_true, Bool.not_eq_true'] at hm
    simp only [look] at h h'
    cases hb : Nat.beq e.1 b with
    | true =>
      rw [hb, cond_true] at h; cases h
      cases hb' : Nat.beq e.1 b' with
      | true => rw [← Nat.eq_of_beq_eq_true hb, ← Nat.eq_of_beq_eq_true hb']
      | false =>
        rw [hb', cond_false] at h'
        have := hm.2.1 _ (look_mem h')
        simp at this
    | false =>
      rw [hb, cond_false] at h
      cases hb' : Nat.beq e.1 b' with
      | true =>
        rw [hb', cond_true] at h'; cases h'
        have := hm.2.1 _ (look_mem h)
        simp at this
      | false =>
        rw [hb', cond_false] at h'
        exact mapOK_inj hm.2.2 b b' b1 h h'
theorem renN_cases {b b1 : Nat} (h : renN k m b = some b1) : (b < k ∧ b1 = b) ∨ (k ≤ b ∧ look b m = some b1) := by
  unfold renN at h
  rw [blt_iff] at h
  by_cases hb : b < k
  · rw [decide_eq_true hb, cond_true] at h; cases h; exact .inl ⟨hb, rfl⟩
  · rw [decide_eq_false hb, cond_false] at h; exact .inr ⟨by omega, h⟩

def wkP (k : Nat) (m : List (Nat × Nat)) (c1 : Cfg) (n : Nat) (sl : List V) (ds : List EDef) (h : List (Nat × EObj)) (next : Nat) : Prop :=
  guardB (mapOK k next m && (Nat.ble k next && (Nat.beq c1.tmps.n n && (Nat.beq (llen sl) n && Nat.ble n 4096))))
    (weakF k m c1.tmps 0 sl ∧ (weakD k m c1.defers ds ∧ weakH k m c1.st.heap h))


theorem wkP_ok {c1 : Cfg} {n : Nat} {sl : List V} {ds : List EDef} {h : List (Nat × EObj)} {next : Nat} (hw : wkP k m c1 n sl ds h next) : Wk k c1 (mkCfg n sl ds h next) := by
  obtain ⟨h1, h2, h3, h4⟩ := guardB_b hw
  simp only [Bool.and_eq_true, Nat.ble_eq, Nat.beq_eq, llen_eq] at h1
  obtain ⟨hmap, hkn, hn, hlen, h4096⟩ := h1
  intro own ρ0 ρ A w hk hle hr
  have hlt : ∀ b, b < k → (ρ.ren k m) b = ρ b := fun b hb => by simp only [Env.ren, renN, blt_iff, decide_eq_true hb, cond_true]
  have hle' : ρ0.le (ρ.ren k m) := by
    refine ⟨⟨fun b x hb => ?_, hle.sub.2⟩, hk.1, fun b hb hn => ?_⟩
    · rw [hlt b (hk.2 b x hb)]; exact hle.sub.1 b x hb
    · rw [hlt b (Nat.lt_of_lt_of_le hb hk.1)]; exact hle.keep b hb hn
  refine ⟨ρ.ren k m, hle', ?_, weakD_rel _ _ _ h3 hr.d, ?_⟩
  · refine frel_weak hr.f hn (mkFrm_ok h4096) fun i hi => ?_
    have hi : i < n := hi
    have hsl : sl[i]? = some (sl.getD i .undef) := by
      rw [List.getD_eq_getElem?_getD, List.getElem?_eq_getElem (by omega)]; rfl
    have := weakF_get h2 i _ hsl
    rw [Nat.zero_add] at this
    rw [show (mkCfg n sl ds h next).tmps.get i = sl.getD i .undef from mkFrm_get h4096 i hi]
    exact this
  · have key : ∀ b o x, (heapOf h).get b = some o → (ρ.ren k m) b = some x → ∃ b1 o1, renN k m b = some b1 ∧ c1.st.heap.get b1 = some o1 ∧ ρ b1 = some x ∧ weakO k m o1 o := by
      intro b o x hb hx
      have hmem := heapOf_mem hb
      simp only [Env.ren] at hx
      cases hr1 : renN k m b with
      | none => rw [hr1] at hx; cases hx
      | some b1 =>
        rw [hr1] at hx
        obtain ⟨o1, g1, g2⟩ := weakH_mem h4 b o b1 hmem hr1
        exact ⟨b1, o1, rfl, g1, hx, g2⟩
    refine ⟨hr.s.le, ?_, ?_, ?_, hkn, hr.s.fz, hr.s.old⟩
    · intro b o x hb hx
      obtain ⟨b1, o1, g1, g2, g3, g4⟩ := key b o x hb hx
      obtain ⟨q1, q2⟩ := hr.s.obj b1 o1 x g2 g3
      exact ⟨q1, weakO_rel g4 q2⟩
    · intro b b' o o' x x' hb hb' hx hx' hne
      obtain ⟨b1, o1, g1, g2, g3, g4⟩ := key b o x hb hx
      obtain ⟨b1', o1', g1', g2', g3', g4'⟩ := key b' o' x' hb' hx'
      refine hr.s.inj b1 b1' o1 o1' x x' g2 g2' g3 g3' fun e => hne ?_
      subst e
      rcases renN_cases g1 with ⟨a1, rfl⟩ | ⟨a1, a2⟩ <;> rcases renN_cases g1' with ⟨a1', e⟩ | ⟨a1', a2'⟩
      · exact e
      · have := (mapOK_look hmap _ _ a2').2.2; omega
      · have := (mapOK_look hmap _ _ a2).2.2; omega
      · exact mapOK_inj hmap _ _ _ a2 a2'
    · intro b x hx
      simp only [Env.ren] at hx
      show b < next
      cases hr1 : renN k m b with
      | none => rw [hr1] at hx; cases hx
      | some b1 =>
        rcases renN_cases hr1 with ⟨a1, _⟩ | ⟨a1, a2⟩
        · omega
        · exact (mapOK_look hmap _ _ a2).2.1

inductive OT where
  | leaf (e : EExit) (c : Cfg)
  | ite (b : Bool) (l r : OT)
def OT.den : OT → EExit × Cfg
  | .leaf e c => (e, c)
  | .ite b l r => bif b then l.den else r.den
def OT.w (K : KC) : OT → Prop
  | .leaf e c => forceC c fun c => K e c
  | .ite b l r => iteB b (l.w K) (r.w K)
theorem OT.w_den {K : KC} : ∀ {o : OT}, o.w K → K o.den.1 o.den.2
  | .leaf e c, h => (forceC_iff _ _).1 h
  | .ite b l r, h => by
    cases b
    · exact OT.w_den (o := r) h
    · exact OT.w_den (o := l) h
open Classical in
noncomputable def cutF (k : Nat) (c0 : Cfg) (o : OT) : Cfg → Option (EExit × Cfg) := fun c => if Wk k c c0 then some o.den else none
theorem cutF_ok {P : Program} {ro r : Option Nat} {n : Nat} {x : Code} {c0 : Cfg} {o : OT} (h : CodeAt P ro r n k x c0 o.den.1 o.den.2) : CodeOK P ro r n k x (cutF k c0 o) := by
  intro c e c' hq own ρ0 w0 ρ A w hk hro hle hfr hr
  unfold cutF at hq
  split at hq
  · rename_i hw
    have hq : o.den = (e, c') := Option.some.inj hq
    rw [hq] at h
    obtain ⟨ρ', g1, g2⟩ := hw own ρ0 ρ A w hk hle hr
    exact h own ρ0 w0 ρ' A w hk hro g1 hfr g2
  · cases hq

mutual
def V.flat : V → Bool
  | .undef | .bool _ | .int .. | .str _ | .nilp | .nils | .nilm | .nilf | .nili => true
  | .iface _ v => v.flat
  | .agg l => flatL l
  | .tup l => flatL l
  | .fn _ a c => flatL a && flatL c
  | _ => false
def flatL : List V → Bool
  | [] => true
  | v :: l => v.flat && flatL l
end
mutual
theorem VRel.flat {ρ ρ' : Env} : ∀ (v : V) (X : Value), v.flat = true → VRel ρ v X → VRel ρ' v X
  | .undef, X, _, h => by simpa only [VRel] using h
  | .bool _, X, _, h => by simpa only [VRel] using h
  | .int .., X, _, h => by simpa only [VRel] using h
  | .str _, X, _, h => by simpa only [VRel] using h
  | .nilp, X, _, h => by simpa only [VRel] using h
  | .nils, X, _, h => by simpa only [VRel] using h
  | .nilm, X, _, h => by simpa only [VRel] using h
  | .nilf, X, _, h => by simpa only [VRel] using h
  | .nili, X, _, h => by simpa only [VRel] using h
  | .iface t v, X, hf, h => by
    simp only [VRel] at h ⊢
    obtain ⟨Y, h1, h2⟩ := h
    exact ⟨Y, h1, VRel.flat v Y (by simpa only [V.flat] using hf) h2⟩
  | .agg l, X, hf, h => by
    simp only [VRel] at h ⊢
    obtain ⟨Y, h1, h2⟩ := h
    exact ⟨Y, h1, LRel.flat l _ (by simpa only [V.flat] using hf) h2⟩
  | .tup l, X, hf, h => by
    simp only [VRel] at h ⊢
    obtain ⟨Y, h1, h2⟩ := h
    exact ⟨Y, h1, LRel.flat l _ (by simpa only [V.flat] using hf) h2⟩
  | .fn f a c, X, hf, h => by
    simp only [VRel] at h ⊢
    simp only [V.flat, Bool.and_eq_true] at hf
    obtain ⟨A, C, h1, h2, h3⟩ := h
    exact ⟨A, C, h1, LRel.flat a _ hf.1 h2, LRel.flat c _ hf.2 h3⟩
  | .any, _, hf, _ => by simp [V.flat] at hf
  | .ptr .., _, hf, _ => by simp [V.flat] at hf
  | .rptr .., _, hf, _ => by simp [V.flat] at hf
  | .lptr .., _, hf, _ => by simp [V.flat] at hf
  | .sl .., _, hf, _ => by simp [V.flat] at hf
  | .rs .., _, hf, _ => by simp [V.flat] at hf
  | .lst .., _, hf, _ => by simp [V.flat] at hf
  | .arr .., _, hf, _ => by simp [V.flat] at hf
  | .map _, _, hf, _ => by simp [V.flat] at hf
  | .yld _, _, hf, _ => by simp [V.flat] at hf
theorem LRel.flat {ρ ρ' : Env} : ∀ (l : List V) (X : List Value), flatL l = true → LRel ρ l X → LRel ρ' l X
  | [], X, _, h => h
  | v :: l, X, hf, h => by
    simp only [flatL, Bool.and_eq_true] at hf
    obtain ⟨Y, Z, h1, h2, h3⟩ := h
    exact ⟨Y, Z, h1, VRel.flat v Y hf.1 h2, LRel.flat l Z hf.2 h3⟩
end

end
end Go.Sym
end
