/-
  A region that draws its order: in whatever order its operations come, they come to what the evaluator says. No condition.
-/
import Derived.Test.YtmnjgdnmlopigaaGreatEngQ
namespace Go.Eng
open Go.RowKit (Below)
set_option linter.unusedSimpArgs false
set_option linter.unusedVariables false

section
variable {P : Program} {self : ESelf} {n : Nat} {r : Option Nat} {M : List (Nat × Nat)} {dead : Nat → Prop}

/-- an operation that makes or writes memory, or calls, and gives a value -/
theorem opOut_sound (hs : SelfOK P self) {base : Nat} {ρ : Env} {s s' : St} {w : World} (h : SRel base ρ s w) {ev : Operand → Option V} {A : Act} (hA : EvRel ρ ev A) {o : Oper} {v : V}
    (hq : opOut self (eop P s ev o.op) = some (v, s')) {Q : Exit → Act → World → Prop} {K : Act → World → Prop}
    (hK : ∀ ρ' X w', ρ.le ρ' → VRel ρ' v X → SRel base ρ' s' w' → Below base w w' → K (A.put o.dst X) w') : o.wpIn (RF r) n P A w K Q := by
  have hru := fun ρ : Env => (VRel.eq_1 ρ (.tuple #[])).mpr rfl
  cases ho : eop P s ev o.op with
  | none => rw [ho] at hq; cases hq
  | some x =>
    obtain ⟨out, s1⟩ := x
    rw [ho] at hq
    have hrel := eop_rel h hA ho
    have hnd : ∀ cc, o.op ≠ .defer cc := fun cc ec => by rw [ec] at ho; cases ho
    refine ⟨fun f' _ => RF_fn _ _, ?_⟩
    rw [Oper.semAt_eq _ _ _ hnd]
    cases out with
    | val v1 =>
      cases hq
      obtain ⟨ρ', X, w', g1, g2, g3, g4, g5⟩ := hrel
      rw [g2, Oper.uponIn_value]
      exact hK ρ' X w' g1 g3 g4 g5
    | skip =>
      cases hq
      obtain ⟨w', g2, g4, g5⟩ := hrel
      rw [g2, Oper.uponIn_skip]
      exact hK ρ _ w' ρ.le_refl (hru ρ) g4 g5
    | pan v1 => cases hq
    | enter t =>
      have hs1 : s1 = s := by
        cases t with
        | fn f' a' => exact hrel.1
        | round l' a' => exact hrel.1
      subst hs1
      simp only [opOut] at hq
      cases hself : self t s1 with
      | none => rw [hself] at hq; cases hq
      | some p =>
        obtain ⟨ee, s2⟩ := p
        rw [hself] at hq
        cases ee with
        | pan v1 => cases hq
        | ret v1 =>
          cases hq
          have hcon := hs t s1 _ _ hself base ρ w h (n - 1)
          have tail : ∀ (E : Ending) (w' : World), Post base ρ w (.ret v) s' E w' →
              (match E, w' with
                | .returned v, w'' => K (A.put o.dst v) w''
                | .panicked chain, w'' => Q (.panic chain) A w''
                | .outgrown, _ => LetsOut Q) := by
            rintro E w' ⟨ρ', g1, ⟨X, rfl, g6⟩, g4, g5⟩
            exact hK ρ' X w' g1 g6 g4 g5
          cases t with
          | fn f' a' =>
            obtain ⟨_, A', g2, g3⟩ := hrel
            rw [g2, Oper.uponIn_enter]
            refine ⟨fun hh => by simp [RF_depth] at hh, (show CallsIn (RF r) _ P _ _ _ _ from (hcon A' g3).mono fun E w' hp => ?_)⟩
            have := tail E w' hp
            cases E <;> exact this
          | round l' a' =>
            obtain ⟨_, x, L, A', g1, g2, g3, g4, g5⟩ := hrel
            rw [g5, Oper.uponIn_round]
            refine ⟨fun hh => by simp [RF_depth] at hh, (show RoundIn (RF r) _ P _ _ _ _ _ _ _ from (hcon x L A' g1 g2 g3 g4).mono fun E w' hp => ?_)⟩
            have := tail E w' hp
            cases E <;> exact this

theorem qop_sound {base : Nat} {ρ : Env} {s : St} {w : World} (h : SRel base ρ s w) {ev : Operand → Option V} {A : Act} (hA : EvRel ρ ev A) {o : Oper} {v : V}
    (hq : qop P s ev o.op = some v) {Q : Exit → Act → World → Prop} {K : Act → World → Prop} (hK : ∀ X, VRel ρ v X → K (A.put o.dst X) w) : o.wpIn (RF r) n P A w K Q := by
  have hnd : ∀ cc, o.op ≠ .defer cc := fun cc ec => by rw [ec] at hq; cases hq
  refine ⟨fun f' _ => RF_fn _ _, ?_⟩
  rw [Oper.semAt_eq _ _ _ hnd]
  obtain ⟨X, h1, h2⟩ := qop_rel h hA hq
  rw [h1, Oper.uponIn_value]
  exact hK X h2

/-- an operation whose block was named ahead: now it lies somewhere -/
theorem mk_sound {base : Nat} {ρ : Env} {s : St} {w : World} (h : SRel base ρ s w) {ev : Operand → Option V} {A : Act} (hA : EvRel ρ ev A) {o : Oper} {b : Nat} {v : V} (hq : qopM P (some b) s ev o.op = some v)
    (hn : ρ b = none) (hlt : b < s.next) {Q : Exit → Act → World → Prop} {K : Act → World → Prop}
    (hK : ∀ x X w', VRel (ρ.put b x) v X → SRel base (ρ.put b x) s w' → Below base w w' → K (A.put o.dst X) w') : o.wpIn (RF r) n P A w K Q := by
  simp only [qopM] at hq
  split at hq
  · rename_i m hm
    cases hat : m.isAt (s.heap.get b) with
    | false => rw [hat] at hq; cases hq
    | true =>
      rw [hat, cond_true] at hq
      cases hq
      have hnd : ∀ cc, o.op ≠ .defer cc := fun cc ec => by rw [ec] at hm; cases hm
      refine ⟨fun f' _ => RF_fn _ _, ?_⟩
      rw [Oper.semAt_eq _ _ _ hnd]
      obtain ⟨cs, t, sl⟩ := m
      obtain ⟨x, h1, X, C, t', h2, h3, h4⟩ := mkQ_rel (w := w) hA hm
      rw [h1 X _ h2, Oper.uponIn_value]
      have hob : s.heap.get b = some (.cells cs t false) := by
        simp only [Mk.isAt] at hat
        split at hat
        · rename_i cs' t2 hg
          cases hb : Nat.beq t t2 with
          | false => rw [hb] at hat; cases hat
          | true =>
            rw [hb, cond_true] at hat
            rw [hg, sameL_eq _ _ hat, Nat.eq_of_beq_eq_true hb]
        · cases hat
      have hsub := Env.sub_put (⟨w.heap.size, 0, C.size⟩ : Blk) hn
      refine hK ⟨w.heap.size, 0, C.size⟩ X _ (h4 _ _ Env.put_same) (h.fill hob hn hlt (.cells C t') C.size rfl ⟨C, t', (0, 0), rfl, rfl, ?_, ?_, by simp, fun _ => rfl⟩) (below_new h.le rfl)
      · have := h3.length; simp at this; omega
      · intro i v hi
        obtain ⟨Y, e1, e2⟩ := h3.get hi
        exact ⟨Y, by simpa using e1, VRel.up hsub _ _ e2⟩
  · cases hq

/-- what holds while a region runs in an order of its own: f, of the listed ones' values; p, the effects so far -/
structure DInv (ops : Array Oper) (R : List DRec) (F0 : Frm) (listed : Array Bool) (f : Frm) (p : Nat) : Prop where
  size : listed.size = ops.size
  down : ∀ (i : Nat) o, ops[i]? = some o → listed.getD i false = true → ∀ e ∈ o.after, Region.binds .any e = true → listed.getD e.on false = true
  ok : f.ok
  n : f.n = F0.n
  did : ∀ (k : Nat) rk t, R[k]? = some rk → rk.o.dst = some t → listed.getD k false = true → f.get t = gv F0.n t rk.v
  not : ∀ t, (∀ (k : Nat) rk, R[k]? = some rk → rk.o.dst = some t → listed.getD k false = false) → f.get t = F0.get t
  le : p ≤ (effs R).length
  ph : ∀ (q : Nat) e, (effs R)[q]? = some e → (listed.getD e.1 false = true ↔ q < p)

/-- the run, as the walk wants it -/
structure DRun (P : Program) (sf : ESelf) (ops : Array Oper) (M : List (Nat × Nat)) (dead : Nat → Prop) (F0 : Frm) (s0 : St) (R : List DRec) : Prop where
  st : StOK ops
  len : R.length = ops.size
  row : ∀ (k : Nat) rk, R[k]? = some rk → rk.i = k ∧ ops[k]? = some rk.o ∧ (dead k ∨ drawStep P sf ops (findM k M) k rk.o rk.f rk.s = some rk) ∧ rk.f = finF F0 (R.take k) ∧ rk.s = lastS s0 (effs (R.take k))
  chain : ∀ (q q' : Nat) e e', q < q' → (effs R)[q]? = some e → (effs R)[q']? = some e' → Reach ops e'.1 e.1
  quiet : ∀ (k : Nat) rk, R[k]? = some rk → rk.q = true → ∀ p, p ≤ (effs R).length → (∀ q e, q < p → (effs R)[q]? = some e → ¬ Reach ops e.1 k) → (∀ q e, p ≤ q → (effs R)[q]? = some e → ¬ Reach ops k e.1) →
    qopM P rk.mb (lastS s0 ((effs R).take p)) (evL (rk.o.looksAt ops) rk.f) rk.o.op = some rk.v
  ok : F0.ok

theorem DInv.reach {ops : Array Oper} {R : List DRec} {F0 f : Frm} {listed : Array Bool} {p : Nat} (h : DInv ops R F0 listed f p) {i j : Nat} (hr : Reach ops i j) : listed.getD i false = true → listed.getD j false = true := by
  induction hr with
  | step ho he hb => exact fun hi => h.down _ _ ho hi _ he hb
  | trans _ _ h1 h2 => exact fun hi => h2 (h1 hi)
theorem DInv.reach_ready {ops : Array Oper} {R : List DRec} {F0 f : Frm} {listed : Array Bool} {p : Nat} (h : DInv ops R F0 listed f p) {i j : Nat} (hr : Reach ops i j) :
    (∀ o, ops[i]? = some o → ∀ e ∈ o.after, Region.binds .any e = true → listed.getD e.on false = true) → listed.getD j false = true := by
  induction hr with
  | step ho he hb => exact fun hi => hi _ ho _ he hb
  | trans h1 h2 ih1 ih2 => exact fun hi => h.reach h2 (ih1 hi)

/-- what an operation that is ready looks at is what it looked at in the text's order -/
theorem DInv.looks {ops : Array Oper} {R : List DRec} {F0 f : Frm} {s0 : St} {listed : Array Bool} {p : Nat} (h : DInv ops R F0 listed f p) (D : DRun P self ops M dead F0 s0 R) {i : Nat} {ri : DRec}
    (hi : R[i]? = some ri) (hun : listed.getD i false = false) (hrd : ∀ o, ops[i]? = some o → ∀ e ∈ o.after, Region.binds .any e = true → listed.getD e.on false = true) {t : Tmp} (ht : t ∈ ri.o.looksAt ops) :
    f.get t = ri.f.get t := by
  obtain ⟨_, ho, _, hf, _⟩ := D.row i ri hi
  rw [hf]
  have uniq : ∀ (k k' : Nat) rk rk', R[k]? = some rk → R[k']? = some rk' → rk.o.dst = some t → rk'.o.dst = some t → k' = k := fun k k' rk rk' a b c d =>
    D.st.once _ _ _ _ t (D.row k' rk' b).2.1 (D.row k rk a).2.1 d c
  by_cases hw : ∃ (k : Nat) (rk : DRec), R[k]? = some rk ∧ rk.o.dst = some t
  · obtain ⟨k, rk, hk, hd⟩ := hw
    have hF0 : ∀ {m : Nat}, m ≤ k → (finF F0 (R.take m)).get t = F0.get t := fun {m} hm => finF_none D.ok fun r' hr' e' => by
      obtain ⟨q, hq⟩ := List.getElem?_of_mem hr'
      rw [List.getElem?_take] at hq
      split at hq
      · have := uniq k q rk r' hk hq hd e'
        omega
      · cases hq
    have hfF0 : listed.getD k false = false → f.get t = F0.get t := fun hl => h.not t fun k' rk' hk' hd' => by rw [uniq k k' rk rk' hk hk' hd hd']; exact hl
    by_cases hki : k = i
    · subst hki
      rw [hfF0 hun, hF0 (Nat.le_refl _)]
    · rcases D.st.read k i _ _ t (D.row k rk hk).2.1 ho hd ht hki with hr | hr
      · have hlt := D.st.lt hr
        rw [hF0 (by omega), hfF0]
        cases hl : listed.getD k false with
        | false => rfl
        | true => rw [h.reach hr hl] at hun; cases hun
      · have hlt := D.st.lt hr
        have hl := h.reach_ready hr hrd
        rw [h.did k rk t hk hd hl]
        rw [finF_some D.ok (k := k) (r := rk) (by rw [List.getElem?_take, if_pos hlt]; exact hk) hd fun k' r' h1 h2 => ?_]
        rw [List.getElem?_take] at h1
        split at h1
        · exact uniq k k' rk r' hk h1 hd h2
        · cases h1
  · rw [h.not t fun k rk hk hd => absurd ⟨k, rk, hk, hd⟩ hw]
    rw [finF_none D.ok fun r' hr' e' => by
      obtain ⟨q, hq⟩ := List.getElem?_of_mem (List.mem_of_mem_take hr')
      exact hw ⟨q, r', hq, e'⟩]

theorem getD_set_self {listed : Array Bool} {i : Nat} (d : Bool) (h : i < listed.size) : (listed.setIfInBounds i true).getD i d = true := by
  simp [h]
theorem getD_any {listed : Array Bool} {i : Nat} (h : i < listed.size) (d d' : Bool) : listed.getD i d = listed.getD i d' := by
  simp [h]

/-- the next operation is listed -/
theorem DInv.step {ops : Array Oper} {R : List DRec} {F0 f : Frm} {s0 : St} {listed : Array Bool} {p : Nat} (h : DInv ops R F0 listed f p) (D : DRun P self ops M dead F0 s0 R) {i : Nat} {ri : DRec}
    (hi : R[i]? = some ri) (hun : listed.getD i false = false) (hrd : ∀ o, ops[i]? = some o → ∀ e ∈ o.after, Region.binds .any e = true → listed.getD e.on false = true) {p' : Nat}
    (hp' : p' ≤ (effs R).length) (hph : ∀ (q : Nat) e, (effs R)[q]? = some e → (q < p' ↔ (q < p ∨ e.1 = i))) :
    DInv ops R F0 (listed.setIfInBounds i true) (putE f ri.o.dst ri.v) p' := by
  obtain ⟨_, ho, _, _, _⟩ := D.row i ri hi
  have hlt : i < listed.size := by rw [h.size]; exact (Array.getElem?_eq_some_iff.1 ho).1
  have hset : ∀ k, (listed.setIfInBounds i true).getD k false = true ↔ (k = i ∨ listed.getD k false = true) := fun k => by
    by_cases e : k = i
    · subst e; simp [getD_set_self false hlt]
    · rw [getD_set_ne false (fun e' => e e'.symm)]; simp [e]
  refine ⟨by simpa using h.size, ?_, putE_ok h.ok _ _, by rw [putE_n, h.n], ?_, ?_, hp', ?_⟩
  · intro k o hk hl e he hb
    rw [hset]
    rcases (hset k).1 hl with rfl | hl
    · exact .inr (hrd o hk e he hb)
    · exact .inr (h.down k o hk hl e he hb)
  · intro k rk t hk hd hl
    rcases (hset k).1 hl with rfl | hl1
    · rw [hi] at hk; cases hk
      rw [hd, get_putE h.ok, if_pos rfl, h.n]
    · rw [get_putE_ne h.ok]
      · exact h.did k rk t hk hd hl1
      · intro e
        have := D.st.once _ _ _ _ t (D.row k rk hk).2.1 ho hd e
        subst this
        rw [hun] at hl1; cases hl1
  · intro t hn
    have e1 : ri.o.dst ≠ some t := fun e => by
      have := hn i ri hi e
      rw [getD_set_self false hlt] at this; cases this
    rw [get_putE_ne h.ok _ e1]
    refine h.not t fun k rk hk hd => ?_
    have := hn k rk hk hd
    cases hl : listed.getD k false with
    | false => rfl
    | true => rw [(hset k).2 (.inr hl)] at this; cases this
  · intro q e he
    rw [hset, hph q e he, h.ph q e he]
    exact Or.comm

theorem evL_sub {f g : Frm} {L : List Tmp} (h : ∀ t ∈ L, f.get t = g.get t) {ρ : Env} {A : Act} (hf : FRel ρ f A.tmps) : EvRel ρ (evL L g) A := by
  intro x v hv
  cases x with
  | tmp t =>
    simp only [evL] at hv
    cases ht : hasN t L with
    | false => rw [ht] at hv; cases hv
    | true =>
      rw [ht] at hv
      cases hv
      rw [← h t ((hasN_eq t L).1 ht)]
      exact hf.get t
  | const c => exact evF_rel hf _ _ (show evF f (.const c) = some v from hv)
  | global g => cases hv
  | func g => exact evF_rel hf _ _ (show evF f (.func g) = some v from hv)

theorem wantedE_sub {f g : Frm} {ops : Array Oper} {o : Oper} (h : ∀ t ∈ o.looksAt ops, f.get t = g.get t) : wantedE (guardOf ops o) f = wantedE (guardOf ops o) g := by
  unfold guardOf
  cases hg : o.guard with
  | none => rfl
  | some x =>
    obtain ⟨j, want⟩ := x
    simp only
    cases ho : ops[j]? with
    | none => rfl
    | some o' =>
      simp only
      cases hd : o'.dst with
      | none => rfl
      | some d =>
        simp only [wantedE]
        rw [h d (by unfold Oper.looksAt; rw [hg]; simp [ho, hd])]

theorem draw_end {ops : Array Oper} {R : List DRec} {F0 f : Frm} {s0 : St} (D : DRun P self ops M dead F0 s0 R) {listed : Array Bool} {p : Nat} (h : DInv ops R F0 listed f p) (all : ∀ i, i < listed.size → listed.getD i false = true)
    {base : Nat} {ρ0 ρ : Env} {w0 w : World} {ds : List EDef} {A : Act} (h1 : ρ0.le ρ) (h2 : Below base w0 w) (hf : FRel ρ f A.tmps) (hd : DRel ρ ds A.defers) (hS : SRel base ρ (lastS s0 ((effs R).take p)) w) :
    CPost base ρ0 w0 .normal ⟨finF F0 R, ds, lastS s0 (effs R)⟩ .normal A w := by
  have allR : ∀ (k : Nat) rk, R[k]? = some rk → listed.getD k false = true := fun k rk hk => all k (by
    rw [h.size, ← D.len]; exact (List.getElem?_eq_some_iff.1 hk).1)
  have hp : p = (effs R).length := by
    rcases Nat.lt_or_ge p (effs R).length with hlt | hge
    · obtain ⟨k, rk, a1, a2, a3, _⟩ := effs_get (List.getElem?_eq_getElem hlt)
      have := (h.ph p _ (List.getElem?_eq_getElem hlt)).1 (by rw [← a3, (D.row k rk a1).1]; exact allR k rk a1)
      omega
    · have := h.le; omega
  subst hp
  rw [List.take_length] at hS
  have hget : ∀ t, f.get t = (finF F0 R).get t := fun t => by
    by_cases hw : ∃ (k : Nat) (rk : DRec), R[k]? = some rk ∧ rk.o.dst = some t
    · obtain ⟨k, rk, hk, hdd⟩ := hw
      rw [h.did k rk t hk hdd (allR k rk hk), finF_some D.ok hk hdd fun k' rk' hk' hd' => D.st.once _ _ _ _ t (D.row k' rk' hk').2.1 (D.row k rk hk).2.1 hd' hdd]
    · rw [h.not t fun k rk hk hdd => absurd ⟨k, rk, hk, hdd⟩ hw, finF_none D.ok fun r' hr' e' => by
        obtain ⟨q, hq⟩ := List.getElem?_of_mem hr'
        exact hw ⟨q, r', hq, e'⟩]
  refine ⟨ρ, h1, rfl, ?_, hd, hS, h2⟩
  obtain ⟨a1, d, a2, a3, a4⟩ := hf
  obtain ⟨d', b2, b3⟩ := finF_ok R D.ok
  have hn : (finF F0 R).n = f.n := by rw [finF_n, h.n]
  refine ⟨by rw [hn]; exact a1, d', b2, b3, fun i X hX => ?_⟩
  have hlt : i < f.n := by rw [a1]; exact (Array.getElem?_eq_some_iff.1 hX).1
  have := hget i
  rw [Frm.get_eq, Frm.get_eq, blt_iff, blt_iff, hn, decide_eq_true hlt, cond_true, cond_true] at this
  rw [← this]
  exact a4 i X hX

/-- what becomes of a drawing region in the end, or where it panics -/
structure DFin (P : Program) (sf : ESelf) (ops : Array Oper) (dead : Nat → Prop) (F0 : Frm) (s0 : St) (R : List DRec) (ds : List EDef) (e : EExit) (c' : Cfg) : Prop where
  fin : (∀ k, ¬ dead k) → e = .normal ∧ c' = ⟨finF F0 R, ds, lastS s0 (effs R)⟩
  pan : ∀ k, dead k → ∃ ip, dead ip ∧ (∀ j, dead j → j = ip ∨ Reach ops j ip) ∧ ∃ rp v s', R[ip]? = some rp ∧ rp.s = lastS s0 (effs R) ∧ wantedE (guardOf ops rp.o) rp.f = true ∧ opPan sf (eop P rp.s (evL (rp.o.looksAt ops) rp.f) rp.o.op) = some (v, s') ∧
    (∀ (q : Nat) e, (effs R)[q]? = some e → Reach ops ip e.1) ∧ e = .pan v ∧ c' = ⟨anyF F0 ops.toList, ds, s'⟩

/-- an operation that panics -/
theorem opPan_sound (hs : SelfOK P self) {base : Nat} {ρ : Env} {s s' : St} {w : World} (h : SRel base ρ s w) {ev : Operand → Option V} {A : Act} (hA : EvRel ρ ev A) {o : Oper} {v : V}
    (hq : opPan self (eop P s ev o.op) = some (v, s')) {Q : Exit → Act → World → Prop} {K : Act → World → Prop}
    (hQ : ∀ ρ' X w', ρ.le ρ' → VRel ρ' v X → SRel base ρ' s' w' → Below base w w' → Q (.panic [{ v := X, recovered := false }]) A w') : o.wpIn (RF r) n P A w K Q := by
  cases ho : eop P s ev o.op with
  | none => rw [ho] at hq; cases hq
  | some x =>
    obtain ⟨out, s1⟩ := x
    rw [ho] at hq
    have hrel := eop_rel h hA ho
    have hnd : ∀ cc, o.op ≠ .defer cc := fun cc ec => by rw [ec] at ho; cases ho
    refine ⟨fun f' _ => RF_fn _ _, ?_⟩
    rw [Oper.semAt_eq _ _ _ hnd]
    cases out with
    | val v1 => cases hq
    | skip => cases hq
    | pan v1 =>
      cases hq
      obtain ⟨rfl, X, g1, g2⟩ := hrel
      rw [g1, Oper.uponIn_panic]
      exact hQ ρ X w ρ.le_refl g2 h (Below.refl _ _)
    | enter t =>
      have hs1 : s1 = s := by
        cases t with
        | fn f' a' => exact hrel.1
        | round l' a' => exact hrel.1
      subst hs1
      simp only [opPan] at hq
      cases hself : self t s1 with
      | none => rw [hself] at hq; cases hq
      | some p =>
        obtain ⟨ee, s2⟩ := p
        rw [hself] at hq
        cases ee with
        | ret v1 => cases hq
        | pan v1 =>
          cases hq
          have hcon := hs t s1 _ _ hself base ρ w h (n - 1)
          have tail : ∀ (E : Ending) (w' : World), Post base ρ w (.pan v) s' E w' →
              (match E, w' with
                | .returned v, w'' => K (A.put o.dst v) w''
                | .panicked chain, w'' => Q (.panic chain) A w''
                | .outgrown, _ => LetsOut Q) := by
            rintro E w' ⟨ρ', g1, ⟨X, rfl, g6⟩, g4, g5⟩
            exact hQ ρ' X w' g1 g6 g4 g5
          cases t with
          | fn f' a' =>
            obtain ⟨_, A', g2, g3⟩ := hrel
            rw [g2, Oper.uponIn_enter]
            refine ⟨fun hh => by simp [RF_depth] at hh, (show CallsIn (RF r) _ P _ _ _ _ from (hcon A' g3).mono fun E w' hp => ?_)⟩
            have := tail E w' hp
            cases E <;> exact this
          | round l' a' =>
            obtain ⟨_, x, L, A', g1, g2, g3, g4, g5⟩ := hrel
            rw [g5, Oper.uponIn_round]
            refine ⟨fun hh => by simp [RF_depth] at hh, (show RoundIn (RF r) _ P _ _ _ _ _ _ _ from (hcon x L A' g1 g2 g3 g4).mono fun E w' hp => ?_)⟩
            have := tail E w' hp
            cases E <;> exact this

theorem drawE_spec {ops : Array Oper} {c c' : Cfg} {e : EExit} (hf : c.tmps.ok) (h : drawE P self ops c = some (e, c')) :
    P.follows .mixedOrders = true ∧ ∃ s0 M R dead, PreOK c.st s0 M ∧ DRun P self ops M dead c.tmps s0 R ∧ DFin P self ops dead c.tmps s0 R c.defers e c' := by
  unfold drawE at h
  cases h1 : P.follows .mixedOrders with
  | false => simp [h1] at h
  | true =>
  cases h2 : stOK ops with
  | false => simp [h1, h2] at h
  | true =>
  simp only [h1, h2, Bool.and_self, cond_true] at h
  rcases hpre : preM P ops c.tmps c.st with ⟨s0, M⟩
  rw [hpre] at h
  simp only at h
  split at h
  · rename_i R hR
    cases h3 : chainE (ancsE ops.toList []) (effs R) with
    | false => simp [h3] at h
    | true =>
    cases h4 : chkAll P ops (ancsE ops.toList []) s0 (effs R) R with
    | false => simp [h3, h4] at h
    | true =>
    simp only [h3, h4, Bool.and_self, cond_true, Option.some.injEq, Prod.mk.injEq] at h
    obtain ⟨rfl, rfl⟩ := h
    obtain ⟨g1, g2⟩ := drawRun_spec hR
    have hi : ∀ (k : Nat) rk, R[k]? = some rk → rk.i = k := fun k rk hk => by simpa using (g2 k rk hk).1
    refine ⟨rfl, s0, M, R, fun _ => False, preM_ok hpre, ⟨stOK_spec h2, by simpa using g1, fun k rk hk => ?_, fun q q' e e' hq he he' => reach_of (chainE_spec h3 q q' e e' hq he he'), fun k rk hk hq p hp a b => ?_, hf⟩, ⟨fun _ => ⟨rfl, rfl⟩, fun k hk => hk.elim⟩⟩
    · obtain ⟨b1, b2, b3, b4, b5⟩ := g2 k rk hk
      refine ⟨hi k rk hk, by simpa using b2, .inr ?_, b4, b5⟩
      rw [hi k rk hk] at b3
      exact b3
    · have := chkAll_spec h4 rk (List.mem_of_getElem? hk) hq
      refine chkE_spec this p hp (fun q e hqp he => ?_) (fun q e hqp he => ?_)
      · rw [hi k rk hk, Bool.eq_false_iff]
        exact fun hh => a q e hqp he (reach_of hh)
      · rw [hi k rk hk, Bool.eq_false_iff]
        exact fun hh => b q e hqp he (reach_of hh)
  · unfold drawP at h
    split at h
    · rename_i R ip v s' hR
      cases h3 : chainE (ancsE ops.toList []) (effs R) with
      | false => simp [h3] at h
      | true =>
      cases h5 : allAfter (ogetN (lget (ancsE ops.toList []) ip)) (effs R) with
      | false => simp [h3, h5] at h
      | true =>
      cases h4 : chkAll P ops (ancsE ops.toList []) s0 (effs R) R with
      | false => simp [h3, h5, h4] at h
      | true =>
      simp only [h3, h4, h5, Bool.and_self, cond_true, Option.some.injEq, Prod.mk.injEq] at h
      obtain ⟨rfl, rfl⟩ := h
      obtain ⟨g1, _, ⟨rp, a1, a2, a3, a4, a5⟩, g2⟩ := panRun_spec hR
      rw [Nat.sub_zero] at a1
      have hi : ∀ (k : Nat) rk, R[k]? = some rk → rk.i = k := fun k rk hk => by simpa using (g2 k rk hk).1
      refine ⟨rfl, s0, M, R, fun k => k = ip ∨ Reach ops k ip, preM_ok hpre, ⟨stOK_spec h2, by simpa using g1, fun k rk hk => ?_, fun q q' e e' hq he he' => reach_of (chainE_spec h3 q q' e e' hq he he'), fun k rk hk hq p hp a b => ?_, hf⟩,
        ⟨fun hn => absurd (Or.inl rfl) (hn ip), fun k _ => ⟨ip, .inl rfl, fun j hj => hj, rp, v, s', a1, a3, a4, a5, fun q e he => reach_of (allAfter_spec h5 q e he), rfl, rfl⟩⟩⟩
      · obtain ⟨b1, b2, b3, b4, b5⟩ := g2 k rk hk
        refine ⟨hi k rk hk, by simpa using b2, ?_, b4, b5⟩
        rw [hi k rk hk] at b3
        rcases b3 with ⟨e, _⟩ | ⟨e, _⟩ | e
        · exact .inl (.inl e)
        · exact .inl (.inr (reach_of e))
        · exact .inr e
      · have := chkAll_spec h4 rk (List.mem_of_getElem? hk) hq
        refine chkE_spec this p hp (fun q e hqp he => ?_) (fun q e hqp he => ?_)
        · rw [hi k rk hk, Bool.eq_false_iff]
          exact fun hh => a q e hqp he (reach_of hh)
        · rw [hi k rk hk, Bool.eq_false_iff]
          exact fun hh => b q e hqp he (reach_of hh)
    · cases h

theorem count_set {l : List Bool} {i : Nat} (h : l[i]? = some false) : (l.set i true).countP (! ·) + 1 = l.countP (! ·) := by
  induction l generalizing i with
  | nil => simp at h
  | cons a l ih =>
    cases i with
    | zero => simp at h; subst h; simp
    | succ i =>
      have := ih (by simpa using h)
      simp only [List.set_cons_succ, List.countP_cons]
      omega

theorem draw_any (hs : SelfOK P self) {ops : Array Oper} {R : List DRec} {F0 : Frm} {s0 : St} (D : DRun P self ops M dead F0 s0 R) {base : Nat} {ρ0 : Env} {w0 : World} {ds : List EDef} {e : EExit} {c' : Cfg} (hF : DFin P self ops dead F0 s0 R ds e c') :
    (∀ i b, findM i M = some b → ρ0.n ≤ b) → (∀ i j b, findM i M = some b → findM j M = some b → i = j) →
    ∀ (fuel : Nat) (listed : Array Bool) (f : Frm) (p : Nat) (ρ : Env) (A : Act) (w : World), DInv ops R F0 listed f p → listed.toList.countP (! ·) ≤ fuel → (∀ k, dead k → listed.getD k false = false) → (∀ i b, findM i M = some b → listed.getD i false = false → ρ b = none ∧ b < ρ.n) → ρ0.le ρ → Below base w0 w → FRel ρ f A.tmps → DRel ρ ds A.defers →
      SRel base ρ (lastS s0 ((effs R).take p)) w →
      wpAnyIn (RF r) n P .any ops (CPost base ρ0 w0 e c') fuel listed A w := by
  intro hM0 hM1 fuel
  have nodead : ∀ {listed : Array Bool} {f : Frm} {p : Nat}, DInv ops R F0 listed f p → (∀ i, i < listed.size → listed.getD i false = true) → (∀ k, dead k → listed.getD k false = false) → ∀ k, ¬ dead k := fun h all hdd k hk => by
    obtain ⟨ip, h1, _, rp, v, s', h2, _⟩ := hF.pan k hk
    have hlt : ip < ops.size := by rw [← D.len]; exact (List.getElem?_eq_some_iff.1 h2).1
    have := all ip (by rw [h.size]; exact hlt)
    rw [hdd ip h1] at this; cases this
  induction fuel with
  | zero =>
    intro listed f p ρ A w h hc hdd hM h1 h2 hf hd hS
    have all : ∀ i, i < listed.size → listed.getD i false = true := fun i hi => by
      have h0 : listed.toList.countP (! ·) = 0 := by omega
      rw [List.countP_eq_zero] at h0
      have := h0 listed[i] (by simp)
      simpa [hi] using this
    refine ⟨?_, ?_⟩
    · cases hr : Region.ready .any ops listed with
      | nil => rfl
      | cons x l =>
        have := mem_ready.1 (hr ▸ List.mem_cons_self : x ∈ Region.ready .any ops listed)
        obtain ⟨a, o, b, _⟩ := this
        have hx : x < listed.size := by rw [h.size]; exact (Array.getElem?_eq_some_iff.1 b).1
        rw [getD_any hx true false, all x hx] at a
        cases a
    · obtain ⟨rfl, rfl⟩ := hF.fin (nodead h all hdd)
      exact draw_end D h all h1 h2 hf hd hS
  | succ fuel ih =>
    intro listed f p ρ A w h hc hdd hM h1 h2 hf hd hS
    refine ⟨fun hnil => ?_, fun i hi => ?_⟩
    · have all : ∀ i, i < listed.size → listed.getD i false = true := by
        intro i
        induction i using Nat.strongRecOn with
        | ind i ih =>
          intro hi
          cases hl : listed.getD i false with
          | true => rfl
          | false =>
            have hio : i < ops.size := by rw [← h.size]; exact hi
            have : i ∈ Region.ready .any ops listed := mem_ready.2 ⟨by rw [getD_any hi true false]; exact hl, ops[i], Array.getElem?_eq_getElem hio, fun e he hb => by
              have := D.st.back i ops[i] (Array.getElem?_eq_getElem hio) e he hb
              exact ih e.on this (by omega)⟩
            rw [hnil] at this; cases this
      obtain ⟨rfl, rfl⟩ := hF.fin (nodead h all hdd)
      exact draw_end D h all h1 h2 hf hd hS
    · obtain ⟨hun, o, ho, hrd⟩ := mem_ready.1 hi
      have hio : i < ops.size := (Array.getElem?_eq_some_iff.1 ho).1
      have hil : i < listed.size := by rw [h.size]; exact hio
      rw [getD_any hil true false] at hun
      have hri : R[i]? = some (R[i]'(by rw [D.len]; exact hio)) := List.getElem?_eq_getElem _
      generalize R[i]'(by rw [D.len]; exact hio) = ri at hri
      obtain ⟨ei, ho', hstep, _, hs'⟩ := D.row i ri hri
      have : o = ri.o := by rw [ho] at ho'; exact Option.some.inj ho'
      subst this
      have hrd : ∀ o, ops[i]? = some o → ∀ e ∈ o.after, Region.binds .any e = true → listed.getD e.on false = true := fun o2 h2 => by rw [ho] at h2; cases h2; exact hrd
      have hlk := fun t => h.looks D hri hun hrd (t := t)
      rcases Classical.em (dead i) with hdi | hdi
      · have hrd2 := hrd
        clear hrd
        obtain ⟨ip, q1, q2, rp, v, s', q3, q4, q5, q6, q7, rfl, rfl⟩ := hF.pan i hdi
        rcases q2 i hdi with rfl | hr
        · have hrp : rp = ri := by rw [hri] at q3; exact (Option.some.inj q3).symm
          subst hrp
          have hp : p = (effs R).length := by
            rcases Nat.lt_or_ge p (effs R).length with hlt | hge
            · have := (h.ph p _ (List.getElem?_eq_getElem hlt)).1 (h.reach_ready (q7 p _ (List.getElem?_eq_getElem hlt)) hrd2)
              omega
            · have := h.le; omega
          rw [hp, List.take_length, ← q4] at hS
          have hwant := wanted_rel hf ops rp.o
          rw [wantedE_sub hlk, q5] at hwant
          unfold wpOpIn
          simp only [ho]
          rw [← hwant]
          simp only [if_true]
          refine opPan_sound hs hS (evL_sub hlk hf) q6 fun ρ' X w' b1 b2 b3 b4 => ?_
          refine ⟨ρ', Env.le_trans h1 b1, ⟨X, rfl, b2⟩, ?_, hd.mono b1, b3, h2.trans b4⟩
          obtain ⟨a1, d, a2, a3, a4⟩ := hf.mono b1
          obtain ⟨d', e2, e3⟩ := anyF_ok ops.toList D.ok
          have hn : (anyF F0 ops.toList).n = f.n := by rw [anyF_n, h.n]
          refine ⟨by rw [hn]; exact a1, d', e2, e3, fun t Y hY => ?_⟩
          have hlt : t < f.n := by rw [a1]; exact (Array.getElem?_eq_some_iff.1 hY).1
          have hraw : ∀ g : Frm, g.n = f.n → g.get t = g.t.get t := fun g hg => by rw [Frm.get_eq, blt_iff, hg, decide_eq_true hlt, cond_true]
          obtain ⟨i1, _, i3⟩ := anyF_get (t := t) ops.toList D.ok (by rw [← h.n]; exact hlt)
          by_cases hdst : ∃ o ∈ ops.toList, o.dst = some t
          · exact .inl (by rw [← hraw _ hn]; exact i1 hdst)
          · refine .inr ?_
            rw [← hraw _ hn, i3 (fun o ho he => hdst ⟨o, ho, he⟩), ← h.not t fun k rk hk hdk => absurd ⟨rk.o, by
              have := (D.row k rk hk).2.1
              exact Array.mem_toList_iff.2 (Array.mem_of_getElem? this), hdk⟩ hdst, hraw f rfl]
            exact a4 t Y hY
        · have := h.reach_ready hr hrd2
          rw [hdd ip q1] at this; cases this
      have hstep := hstep.resolve_left hdi
      have hdd' : ∀ k, dead k → (listed.setIfInBounds i true).getD k false = false := fun k hk => by
        rw [getD_set_ne false (fun e' : i = k => hdi (by rw [e']; exact hk))]; exact hdd k hk
      have hcnt : (listed.setIfInBounds i true).toList.countP (! ·) ≤ fuel := by
        have : listed.toList[i]? = some false := by
          rw [Array.getElem?_toList, Array.getElem?_eq_getElem hil]
          simpa [hil] using hun
        have := count_set this
        rw [Array.toList_setIfInBounds]
        omega
      have hMs : ∀ ρ' : Env, (∀ j b, findM j M = some b → j ≠ i → listed.getD j false = false → ρ' b = none ∧ b < ρ'.n) → ∀ j b, findM j M = some b → (listed.setIfInBounds i true).getD j false = false → ρ' b = none ∧ b < ρ'.n := fun ρ' hh j b hj hl => by
        by_cases e : j = i
        · subst e; rw [getD_set_self false hil] at hl; cases hl
        · rw [getD_set_ne false (fun e' => e e'.symm)] at hl
          exact hh j b hj e hl
      have hwant := wanted_rel hf ops ri.o
      rw [wantedE_sub hlk] at hwant
      unfold wpOpIn
      simp only [ho]
      unfold drawStep at hstep
      cases hw : wantedE (guardOf ops ri.o) ri.f with
      | false =>
        rw [hw, cond_false] at hstep
        have hrv : ri.v = .undef ∧ ri.eff = none := by rw [← Option.some.inj hstep]; exact ⟨rfl, rfl⟩
        rw [hw] at hwant
        rw [← hwant]
        simp only [Bool.false_eq_true, if_false]
        refine ⟨fun f' _ => RF_fn _ _, ?_⟩
        have hinv := h.step D hri hun hrd h.le fun q e he => by
          obtain ⟨k, rk, a1, a2, a3, _⟩ := effs_get he
          constructor
          · exact .inl
          · rintro (b | b)
            · exact b
            · have : k = i := by rw [← b, ← a3]; exact ((D.row k rk a1).1).symm
              subst this
              rw [hri] at a1; cases a1
              rw [hrv.2] at a2; cases a2
        rw [hrv.1] at hinv
        exact ih _ _ p ρ _ w hinv hcnt hdd' (hMs ρ fun j b hj _ hl => hM j b hj hl) h1 h2 (putE_rel hf ((VRel.eq_1 ρ (.tuple #[])).mpr rfl) _) (by rw [put_defers]; exact hd) hS
      | true =>
        rw [hw, cond_true] at hstep
        rw [hw] at hwant
        rw [← hwant]
        simp only [if_true]
        split at hstep
        · rename_i v0 hv0
          have hrv : ri.q = true ∧ ri.eff = none ∧ ri.mb = findM i M := by rw [← Option.some.inj hstep]; exact ⟨rfl, rfl, rfl⟩
          have hq := D.quiet i ri hri hrv.1 p h.le (fun q e hq he hr => by
              have := h.reach hr ((h.ph q e he).2 hq)
              rw [hun] at this; cases this) (fun q e hq he hr => by
              have := (h.ph q e he).1 (h.reach_ready hr hrd)
              omega)
          have hinv := h.step D hri hun hrd h.le fun q e he => by
            obtain ⟨k, rk, a1, a2, a3, _⟩ := effs_get he
            constructor
            · exact .inl
            · rintro (b | b)
              · exact b
              · have : k = i := by rw [← b, ← a3]; exact ((D.row k rk a1).1).symm
                subst this
                rw [hri] at a1; cases a1
                rw [hrv.2.1] at a2; cases a2
          rw [hrv.2.2] at hq
          cases hmb : findM i M with
          | none =>
            rw [hmb] at hq
            exact qop_sound hS (evL_sub hlk hf) hq fun X hX => ih _ _ p ρ _ w hinv hcnt hdd' (hMs ρ fun j b hj _ hl => hM j b hj hl) h1 h2 (putE_rel hf hX _) (by rw [put_defers]; exact hd) hS
          | some b =>
            rw [hmb] at hq
            obtain ⟨hn1, hn2⟩ := hM i b hmb hun
            refine mk_sound hS (evL_sub hlk hf) hq hn1 (Nat.lt_of_lt_of_le hn2 hS.top) fun x X w' g1 g2 g3 => ?_
            have hsub := Env.sub_put x hn1
            have hle : ρ0.le (ρ.put b x) := ⟨fun k y e => hsub k y (h1.sub k y e), Nat.le_trans h1.top (Nat.le_max_left _ _), fun k hk e => by
              have := hM0 i b hmb
              rw [Env.put_ne (by omega)]
              exact h1.keep k hk e⟩
            refine ih _ _ p (ρ.put b x) _ w' hinv hcnt hdd' (hMs _ fun j b' hj hne hl => ?_) hle (h2.trans g3) (putE_rel (hf.up hsub) g1 _) (by rw [put_defers]; exact hd.up hsub) g2
            obtain ⟨k1, k2⟩ := hM j b' hj hl
            have hbb : b' ≠ b := fun e => hne (hM1 j i b (e ▸ hj) hmb)
            rw [Env.put_ne hbb]
            exact ⟨k1, Nat.lt_of_lt_of_le k2 (Nat.le_max_left _ _)⟩
        · split at hstep
          · cases hstep
          split at hstep
          · rename_i v0 s1 hv0
            have hrv : ri.v = v0 ∧ ri.eff = some s1 := by rw [← Option.some.inj hstep]; exact ⟨rfl, rfl⟩
            obtain ⟨q0, g1, g2⟩ := effs_of hri hrv.2
            rw [ei] at g1
            have hq0 : q0 = p := by
              have a1 : ¬ q0 < p := fun hh => by
                have := (h.ph q0 _ g1).2 hh
                rw [show ((i, s1) : Nat × St).1 = i from rfl, hun] at this; cases this
              rcases Nat.lt_or_ge p q0 with a2 | a2
              · have hp : p < (effs R).length := Nat.lt_trans a2 (List.getElem?_eq_some_iff.1 g1).1
                have := D.chain p q0 _ _ a2 (List.getElem?_eq_getElem hp) g1
                have := (h.ph p _ (List.getElem?_eq_getElem hp)).1 (h.reach_ready this hrd)
                omega
              · omega
            subst hq0
            have hlt : q0 < (effs R).length := (List.getElem?_eq_some_iff.1 g1).1
            rw [hs', g2] at hv0
            have hinv := h.step D hri hun hrd (p' := q0 + 1) hlt fun q e he => by
              obtain ⟨k, rk, a1, a2, a3, _⟩ := effs_get he
              constructor
              · intro b
                rcases Nat.lt_or_ge q q0 with b' | b'
                · exact .inl b'
                · have : q = q0 := by omega
                  subst this
                  rw [g1] at he; cases he
                  exact .inr rfl
              · rintro (b | b)
                · omega
                · rcases Nat.lt_trichotomy q q0 with c | c | c
                  · omega
                  · omega
                  · have := D.st.lt (D.chain q0 q _ _ c g1 he)
                    rw [b] at this
                    exact absurd this (Nat.lt_irrefl _)
            have htake : lastS s0 ((effs R).take (q0 + 1)) = s1 := by
              have hlast : ∀ (E : List (Nat × St)) (s : St) (e : Nat × St), lastS s (E ++ [e]) = e.2 := by
                intro E
                induction E with
                | nil => intro s e; rfl
                | cons a E ih => intro s e; exact ih a.2 e
              rw [List.take_add_one, g1]
              exact hlast _ _ _
            refine opOut_sound hs hS (evL_sub hlk hf) hv0 fun ρ' X w' b1 b2 b3 b4 => ?_
            rw [hrv.1] at hinv
            exact ih _ _ (q0 + 1) ρ' _ w' hinv hcnt hdd' (hMs ρ' fun j b hj _ hl => by obtain ⟨k1, k2⟩ := hM j b hj hl; exact ⟨b1.keep b k2 k1, Nat.lt_of_lt_of_le k2 b1.top⟩) (Env.le_trans h1 b1) (h2.trans b4) (putE_rel (hf.mono b1) b2 _) (by rw [put_defers]; exact hd.mono b1) (by rw [htake]; exact b3)
          · cases hstep
end
end Go.Eng
