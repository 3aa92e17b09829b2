/-
  Texts of this claim, one behind the other: EngR EngM EngN. Each says its own conditions.
-/
import Derived.Test.YtechbadkbiognaaFlaM4
import Derived.LoopNIn
import Derived.RangeFuncNested
import Derived.RecoverIn

set_option linter.unusedVariables false
set_option linter.unusedSimpArgs false
set_option linter.unusedSectionVars false
section
namespace Go.Eng
open Go.RowKit (Below)
set_option linter.unusedSimpArgs false
set_option linter.unusedVariables false

section
variable {P : Program} {self : ESelf} {n : Nat} {r : Option Nat} {M : List (Nat × Nat)} {dead : Nat → Prop}

theorem opOut_sound (hs : SelfOK P self) {base : Nat} {ρ : Env} {s s' : St} {w : World} (h : SRel base ρ s w) {ev : Operand → Option V} {A : Act} (hA : EvRel ρ ev A) {o : Oper} {v : V}
    (hq : opOut self (eop P s ev o.op) = some (v, s')) {Q : Exit → Act → World → Prop} {K : Act → World → Prop}
    (hK : ∀ ρ' X w', ρ.le ρ' → VRel ρ' v X → SRel base ρ' s' w' → Below base w w' → K (A.put o.dst X) w') : o.wpIn (RF r) n P A w K Q := by
  have hru := fun ρ : Env => (VRel.eq_1 ρ (.tuple #[])).mpr rfl
  cases ho : eop P s ev o.op with
  | none => rw [ho] at hq; cases hq
  | some x =>
    obtain ⟨out, s1⟩ := x
    rw [ho] at hq
    have hrel := eop_rel h hA ho
    have hnd : ∀ cc, o.op ≠ .defer cc := fun cc ec => by rw [ec] at ho; cases ho
    refine ⟨fun f' _ => RF_fn _ _, ?_⟩
    rw [Oper.semAt_eq _ _ _ hnd]
    cases out with
    | val v1 =>
      cases hq
      obtain ⟨ρ', X, w', g1, g2, g3, g4, g5⟩ := hrel
      rw [g2, Oper.uponIn_value]
      exact hK ρ' X w' g1 g3 g4 g5
    | skip =>
      cases hq
      obtain ⟨w', g2, g4, g5⟩ := hrel
      rw [g2, Oper.uponIn_skip]
      exact hK ρ _ w' ρ.le_refl (hru ρ) g4 g5
    | pan v1 => cases hq
    | enter t =>
      have hs1 : s1 = s := by
        cases t with
        | fn f' a' => exact hrel.1
        | round l' a' => exact hrel.1
      subst hs1
      simp only [opOut] at hq
      cases hself : self t s1 with
      | none => rw [hself] at hq; cases hq
      | some p =>
        obtain ⟨ee, s2⟩ := p
        rw [hself] at hq
        cases ee with
        | pan v1 => cases hq
        | ret v1 =>
          cases hq
          have hcon := hs t s1 _ _ hself base ρ w h (n - 1)
          have tail : ∀ (E : Ending) (w' : World), Post base ρ w (.ret v) s' E w' →
              (match E, w' with
                | .returned v, w'' => K (A.put o.dst v) w''
                | .panicked chain, w'' => Q (.panic chain) A w''
                | .outgrown, _ => LetsOut Q) := by
            rintro E w' ⟨ρ', g1, ⟨X, rfl, g6⟩, g4, g5⟩
            exact hK ρ' X w' g1 g6 g4 g5
          cases t with
          | fn f' a' =>
            obtain ⟨_, A', g2, g3⟩ := hrel
            rw [g2, Oper.uponIn_enter]
            refine ⟨fun hh => by simp [RF_depth] at hh, (show CallsIn (RF r) _ P _ _ _ _ from (hcon A' g3).mono fun E w' hp => ?_)⟩
            have := tail E w' hp
            cases E <;> exact this
          | round l' a' =>
            obtain ⟨_, x, L, A', g1, g2, g3, g4, g5⟩ := hrel
            rw [g5, Oper.uponIn_round]
            refine ⟨fun hh => by simp [RF_depth] at hh, (show RoundIn (RF r) _ P _ _ _ _ _ _ _ from (hcon x L A' g1 g2 g3 g4).mono fun E w' hp => ?_)⟩
            have := tail E w' hp
            cases E <;> exact this

theorem qop_sound {base : Nat} {ρ : Env} {s : St} {w : World} (h : SRel base ρ s w) {ev : Operand → Option V} {A : Act} (hA : EvRel ρ ev A) {o : Oper} {v : V}
    (hq : qop P s ev o.op = some v) {Q : Exit → Act → World → Prop} {K : Act → World → Prop} (hK : ∀ X, VRel ρ v X → K (A.put o.dst X) w) : o.wpIn (RF r) n P A w K Q := by
  have hnd : ∀ cc, o.op ≠ .defer cc := fun cc ec => by rw [ec] at hq; cases hq
  refine ⟨fun f' _ => RF_fn _ _, ?_⟩
  rw [Oper.semAt_eq _ _ _ hnd]
  obtain ⟨X, h1, h2⟩ := qop_rel h hA hq
  rw [h1, Oper.uponIn_value]
  exact hK X h2

theorem mk_sound {base : Nat} {ρ : Env} {s : St} {w : World} (h : SRel base ρ s w) {ev : Operand → Option V} {A : Act} (hA : EvRel ρ ev A) {o : Oper} {b : Nat} {v : V} (hq : qopM P (some b) s ev o.op = some v)
    (hn : ρ b = none) (hlt : b < s.next) {Q : Exit → Act → World → Prop} {K : Act → World → Prop}
    (hK : ∀ x X w', VRel (ρ.put b x) v X → SRel base (ρ.put b x) s w' → Below base w w' → K (A.put o.dst X) w') : o.wpIn (RF r) n P A w K Q := by
  simp only [qopM] at hq
  split at hq
  · rename_i m hm
    cases hat : m.isAt (s.heap.get b) with
    | false => rw [hat] at hq; cases hq
    | true =>
      rw [hat, cond_true] at hq
      cases hq
      have hnd : ∀ cc, o.op ≠ .defer cc := fun cc ec => by rw [ec] at hm; cases hm
      refine ⟨fun f' _ => RF_fn _ _, ?_⟩
      rw [Oper.semAt_eq _ _ _ hnd]
      obtain ⟨cs, t, sl⟩ := m
      obtain ⟨x, h1, X, C, t', h2, h3, h4⟩ := mkQ_rel (w := w) hA hm
      rw [h1 X _ h2, Oper.uponIn_value]
      have hob : s.heap.get b = some (.cells cs t false) := by
        simp only [Mk.isAt] at hat
        split at hat
        · rename_i cs' t2 hg
          cases hb : Nat.beq t t2 with
          | false => rw [hb] at hat; cases hat
          | true =>
            rw [hb, cond_true] at hat
            rw [hg, sameL_eq _ _ hat, Nat.eq_of_beq_eq_true hb]
        · cases hat
      have hsub := Env.sub_put (⟨w.heap.size, 0, C.size⟩ : Blk) hn
      refine hK ⟨w.heap.size, 0, C.size⟩ X _ (h4 _ _ Env.put_same) (h.fill hob hn hlt (.cells C t') C.size rfl ⟨C, t', (0, 0), rfl, rfl, ?_, ?_, by simp, fun _ => rfl⟩) (below_new h.le rfl)
      · have := h3.length; simp at this; omega
      · intro i v hi
        obtain ⟨Y, e1, e2⟩ := h3.get hi
        exact ⟨Y, by simpa using e1, VRel.up hsub _ _ e2⟩
  · cases hq

structure DInv (ops : Array Oper) (R : List DRec) (F0 : Frm) (listed : Array Bool) (f : Frm) (p : Nat) : Prop where
  size : listed.size = ops.size
  down : ∀ (i : Nat) o, ops[i]? = some o → listed.getD i false = true → ∀ e ∈ o.after, Region.binds .any e = true → listed.getD e.on false = true
  ok : f.ok
  n : f.n = F0.n
  did : ∀ (k : Nat) rk t, R[k]? = some rk → rk.o.dst = some t → listed.getD k false = true → f.get t = gv F0.n t rk.v
  not : ∀ t, (∀ (k : Nat) rk, R[k]? = some rk → rk.o.dst = some t → listed.getD k false = false) → f.get t = F0.get t
  le : p ≤ (effs R).length
  ph : ∀ (q : Nat) e, (effs R)[q]? = some e → (listed.getD e.1 false = true ↔ q < p)

structure DRun (P : Program) (sf : ESelf) (ops : Array Oper) (M : List (Nat × Nat)) (dead : Nat → Prop) (F0 : Frm) (s0 : St) (R : List DRec) : Prop where
  st : StOK ops
  len : R.length = ops.size
  row : ∀ (k : Nat) rk, R[k]? = some rk → rk.i = k ∧ ops[k]? = some rk.o ∧ (dead k ∨ drawStep P sf ops (findM k M) k rk.o rk.f rk.s = some rk) ∧ rk.f = finF F0 (R.take k) ∧ rk.s = lastS s0 (effs (R.take k))
  chain : ∀ (q q' : Nat) e e', q < q' → (effs R)[q]? = some e → (effs R)[q']? = some e' → Reach ops e'.1 e.1
  quiet : ∀ (k : Nat) rk, R[k]? = some rk → rk.q = true → ∀ p, p ≤ (effs R).length → (∀ q e, q < p → (effs R)[q]? = some e → ¬ Reach ops e.1 k) → (∀ q e, p ≤ q → (effs R)[q]? = some e → ¬ Reach ops k e.1) →
    qopM P rk.mb (lastS s0 ((effs R).take p)) (evL (rk.o.looksAt ops) rk.f) rk.o.op = some rk.v
  ok : F0.ok

theorem DInv.reach {ops : Array Oper} {R : List DRec} {F0 f : Frm} {listed : Array Bool} {p : Nat} (h : DInv ops R F0 listed f p) {i j : Nat} (hr : Reach ops i j) : listed.getD i false = true → listed.getD j false = true := by
  induction hr with
  | step ho he hb => exact fun hi => h.down _ _ ho hi _ he hb
  | trans _ _ h1 h2 => exact fun hi => h2 (h1 hi)
theorem DInv.reach_ready {ops : Array Oper} {R : List DRec} {F0 f : Frm} {listed : Array Bool} {p : Nat} (h : DInv ops R F0 listed f p) {i j : Nat} (hr : Reach ops i j) :
    (∀ o, ops[i]? = some o → ∀ e ∈ o.after, Region.binds .any e = true → listed.getD e.on false = true) → listed.getD j false = true := by
  induction hr with
  | step ho he hb => exact fun hi => hi _ ho _ he hb
  | trans h1 h2 ih1 ih2 => exact fun hi => h.reach h2 (ih1 hi)

theorem DInv.looks {ops : Array Oper} {R : List DRec} {F0 f : Frm} {s0 : St} {listed : Array Bool} {p : Nat} (h : DInv ops R F0 listed f p) (D : DRun P self ops M dead F0 s0 R) {i : Nat} {ri : DRec}
    (hi : R[i]? = some ri) (hun : listed.getD i false = false) (hrd : ∀ o, ops[i]? = some o → ∀ e ∈ o.after, Region.binds .any e = true → listed.getD e.on false = true) {t : Tmp} (ht : t ∈ ri.o.looksAt ops) :
    f.get t = ri.f.get t := by
  obtain ⟨_, ho, _, hf, _⟩ := D.row i ri hi
  rw [hf]
  have uniq : ∀ (k k' : Nat) rk rk', R[k]? = some rk → R[k']? = some rk' → rk.o.dst = some t → rk'.o.dst = some t → k' = k := fun k k' rk rk' a b c d =>
    D.st.once _ _ _ _ t (D.row k' rk' b).2.1 (D.row k rk a).2.1 d c
  by_cases hw : ∃ (k : Nat) (rk : DRec), R[k]? = some rk ∧ rk.o.dst = some t
  · obtain ⟨k, rk, hk, hd⟩ := hw
    have hF0 : ∀ {m : Nat}, m ≤ k → (finF F0 (R.take m)).get t = F0.get t := fun {m} hm => finF_none D.ok fun r' hr' e' => by
      obtain ⟨q, hq⟩ := List.getElem?_of_mem hr'
      rw [List.getElem?_take] at hq
      split at hq
      · have := uniq k q rk r' hk hq hd e'
        omega
      · cases hq
    have hfF0 : listed.getD k false = false → f.get t = F0.get t := fun hl => h.not t fun k' rk' hk' hd' => by rw [uniq k k' rk rk' hk hk' hd hd']; exact hl
    by_cases hki : k = i
    · subst hki
      rw [hfF0 hun, hF0 (Nat.le_refl _)]
    · rcases D.st.read k i _ _ t (D.row k rk hk).2.1 ho hd ht hki with hr | hr
      · have hlt := D.st.lt hr
        rw [hF0 (by omega), hfF0]
        cases hl : listed.getD k false with
        | false => rfl
        | true => rw [h.reach hr hl] at hun; cases hun
      · have hlt := D.st.lt hr
        have hl := h.reach_ready hr hrd
        rw [h.did k rk t hk hd hl]
        rw [finF_some D.ok (k := k) (r := rk) (by rw [List.getElem?_take, if_pos hlt]; exact hk) hd fun k' r' h1 h2 => ?_]
        rw [List.getElem?_take] at h1
        split at h1
        · exact uniq k k' rk r' hk h1 hd h2
        · cases h1
  · rw [h.not t fun k rk hk hd => absurd ⟨k, rk, hk, hd⟩ hw]
    rw [finF_none D.ok fun r' hr' e' => by
      obtain ⟨q, hq⟩ := List.getElem?_of_mem (List.mem_of_mem_take hr')
      exact hw ⟨q, r', hq, e'⟩]

theorem getD_set_self {listed : Array Bool} {i : Nat} (d : Bool) (h : i < listed.size) : (listed.setIfInBounds i true).getD i d = true := by
  simp [h]
theorem getD_any {listed : Array Bool} {i : Nat} (h : i < listed.size) (d d' : Bool) : listed.getD i d = listed.getD i d' := by
  simp [h]

theorem DInv.step {ops : Array Oper} {R : List DRec} {F0 f : Frm} {s0 : St} {listed : Array Bool} {p : Nat} (h : DInv ops R F0 listed f p) (D : DRun P self ops M dead F0 s0 R) {i : Nat} {ri : DRec}
    (hi : R[i]? = some ri) (hun : listed.getD i false = false) (hrd : ∀ o, ops[i]? = some o → ∀ e ∈ o.after, Region.binds .any e = true → listed.getD e.on false = true) {p' : Nat}
    (hp' : p' ≤ (effs R).length) (hph : ∀ (q : Nat) e, (effs R)[q]? = some e → (q < p' ↔ (q < p ∨ e.1 = i))) :
    DInv ops R F0 (listed.setIfInBounds i true) (putE f ri.o.dst ri.v) p' := by
  obtain ⟨_, ho, _, _, _⟩ := D.row i ri hi
  have hlt : i < listed.size := by rw [h.size]; exact (Array.getElem?_eq_some_iff.1 ho).1
  have hset : ∀ k, (listed.setIfInBounds i true).getD k false = true ↔ (k = i ∨ listed.getD k false = true) := fun k => by
    by_cases e : k = i
    · subst e; simp [getD_set_self false hlt]
    · rw [getD_set_ne false (fun e' => e e'.symm)]; simp [e]
  refine ⟨by simpa using h.size, ?_, putE_ok h.ok _ _, by rw [putE_n, h.n], ?_, ?_, hp', ?_⟩
  · intro k o hk hl e he hb
    rw [hset]
    rcases (hset k).1 hl with rfl | hl
    · exact .inr (hrd o hk e he hb)
    · exact .inr (h.down k o hk hl e he hb)
  · intro k rk t hk hd hl
    rcases (hset k).1 hl with rfl | hl1
    · rw [hi] at hk; cases hk
      rw [hd, get_putE h.ok, if_pos rfl, h.n]
    · rw [get_putE_ne h.ok]
      · exact h.did k rk t hk hd hl1
      · intro e
        have := D.st.once _ _ _ _ t (D.row k rk hk).2.1 ho hd e
        subst this
        rw [hun] at hl1; cases hl1
  · intro t hn
    have e1 : ri.o.dst ≠ some t := fun e => by
      have := hn i ri hi e
      rw [getD_set_self false hlt] at this; cases this
    rw [get_putE_ne h.ok _ e1]
    refine h.not t fun k rk hk hd => ?_
    have := hn k rk hk hd
    cases hl : listed.getD k false with
    | false => rfl
    | true => rw [(hset k).2 (.inr hl)] at this; cases this
  · intro q e he
    rw [hset, hph q e he, h.ph q e he]
    exact Or.comm

theorem evL_sub {f g : Frm} {L : List Tmp} (h : ∀ t ∈ L, f.get t = g.get t) {ρ : Env} {A : Act} (hf : FRel ρ f A.tmps) : EvRel ρ (evL L g) A := by
  intro x v hv
  cases x with
  | tmp t =>
    simp only [evL] at hv
    cases ht : hasN t L with
    | false => rw [ht] at hv; cases hv
    | true =>
      rw [ht] at hv
      cases hv
      rw [← h t ((hasN_eq t L).1 ht)]
      exact hf.get t
  | const c => exact evF_rel hf _ _ (show evF f (.const c) = some v from hv)
  | global g => cases hv
  | func g => exact evF_rel hf _ _ (show evF f (.func g) = some v from hv)

theorem wantedE_sub {f g : Frm} {ops : Array Oper} {o : Oper} (h : ∀ t ∈ o.looksAt ops, f.get t = g.get t) : wantedE (guardOf ops o) f = wantedE (guardOf ops o) g := by
  unfold guardOf
  cases hg : o.guard with
  | none => rfl
  | some x =>
    obtain ⟨j, want⟩ := x
    simp only
    cases ho : ops[j]? with
    | none => rfl
    | some o' =>
      simp only
      cases hd : o'.dst with
      | none => rfl
      | some d =>
        simp only [wantedE]
        rw [h d (by unfold Oper.looksAt; rw [hg]; simp [ho, hd])]

theorem draw_end {ops : Array Oper} {R : List DRec} {F0 f : Frm} {s0 : St} (D : DRun P self ops M dead F0 s0 R) {listed : Array Bool} {p : Nat} (h : DInv ops R F0 listed f p) (all : ∀ i, i < listed.size → listed.getD i false = true)
    {base : Nat} {ρ0 ρ : Env} {w0 w : World} {ds : List EDef} {A : Act} (h1 : ρ0.le ρ) (h2 : Below base w0 w) (hf : FRel ρ f A.tmps) (hd : DRel ρ ds A.defers) (hS : SRel base ρ (lastS s0 ((effs R).take p)) w) :
    CPost base ρ0 w0 .normal ⟨finF F0 R, ds, lastS s0 (effs R)⟩ .normal A w := by
  have allR : ∀ (k : Nat) rk, R[k]? = some rk → listed.getD k false = true := fun k rk hk => all k (by
    rw [h.size, ← D.len]; exact (List.getElem?_eq_some_iff.1 hk).1)
  have hp : p = (effs R).length := by
    rcases Nat.lt_or_ge p (effs R).length with hlt | hge
    · obtain ⟨k, rk, a1, a2, a3, _⟩ := effs_get (List.getElem?_eq_getElem hlt)
      have := (h.ph p _ (List.getElem?_eq_getElem hlt)).1 (by rw [← a3, (D.row k rk a1).1]; exact allR k rk a1)
      omega
    · have := h.le; omega
  subst hp
  rw [List.take_length] at hS
  have hget : ∀ t, f.get t = (finF F0 R).get t := fun t => by
    by_cases hw : ∃ (k : Nat) (rk : DRec), R[k]? = some rk ∧ rk.o.dst = some t
    · obtain ⟨k, rk, hk, hdd⟩ := hw
      rw [h.did k rk t hk hdd (allR k rk hk), finF_some D.ok hk hdd fun k' rk' hk' hd' => D.st.once _ _ _ _ t (D.row k' rk' hk').2.1 (D.row k rk hk).2.1 hd' hdd]
    · rw [h.not t fun k rk hk hdd => absurd ⟨k, rk, hk, hdd⟩ hw, finF_none D.ok fun r' hr' e' => by
        obtain ⟨q, hq⟩ := List.getElem?_of_mem hr'
        exact hw ⟨q, r', hq, e'⟩]
  refine ⟨ρ, h1, rfl, ?_, hd, hS, h2⟩
  obtain ⟨a1, d, a2, a3, a4⟩ := hf
  obtain ⟨d', b2, b3⟩ := finF_ok R D.ok
  have hn : (finF F0 R).n = f.n := by rw [finF_n, h.n]
  refine ⟨by rw [hn]; exact a1, d', b2, b3, fun i X hX => ?_⟩
  have hlt : i < f.n := by rw [a1]; exact (Array.getElem?_eq_some_iff.1 hX).1
  have := hget i
  rw [Frm.get_eq, Frm.get_eq, blt_iff, blt_iff, hn, decide_eq_true hlt, cond_true, cond_true] at this
  rw [← this]
  exact a4 i X hX

structure DFin (P : Program) (sf : ESelf) (ops : Array Oper) (dead : Nat → Prop) (F0 : Frm) (s0 : St) (R : List DRec) (ds : List EDef) (e : EExit) (c' : Cfg) : Prop where
  fin : (∀ k, ¬ dead k) → e = .normal ∧ c' = ⟨finF F0 R, ds, lastS s0 (effs R)⟩
  pan : ∀ k, dead k → ∃ ip, dead ip ∧ (∀ j, dead j → j = ip ∨ Reach ops j ip) ∧ ∃ rp v s', R[ip]? = some rp ∧ rp.s = lastS s0 (effs R) ∧ wantedE (guardOf ops rp.o) rp.f = true ∧ opPan sf (eop P rp.s (evL (rp.o.looksAt ops) rp.f) rp.o.op) = some (v, s') ∧
    (∀ (q : Nat) e, (effs R)[q]? = some e → Reach ops ip e.1) ∧ e = .pan v ∧ c' = ⟨anyF F0 ops.toList, ds, s'⟩

theorem opPan_sound (hs : SelfOK P self) {base : Nat} {ρ : Env} {s s' : St} {w : World} (h : SRel base ρ s w) {ev : Operand → Option V} {A : Act} (hA : EvRel ρ ev A) {o : Oper} {v : V}
    (hq : opPan self (eop P s ev o.op) = some (v, s')) {Q : Exit → Act → World → Prop} {K : Act → World → Prop}
    (hQ : ∀ ρ' X w', ρ.le ρ' → VRel ρ' v X → SRel base ρ' s' w' → Below base w w' → Q (.panic [{ v := X, recovered := false }]) A w') : o.wpIn (RF r) n P A w K Q := by
  cases ho : eop P s ev o.op with
  | none => rw [ho] at hq; cases hq
  | some x =>
    obtain ⟨out, s1⟩ := x
    rw [ho] at hq
    have hrel := eop_rel h hA ho
    have hnd : ∀ cc, o.op ≠ .defer cc := fun cc ec => by rw [ec] at ho; cases ho
    refine ⟨fun f' _ => RF_fn _ _, ?_⟩
    rw [Oper.semAt_eq _ _ _ hnd]
    cases out with
    | val v1 => cases hq
    | skip => cases hq
    | pan v1 =>
      cases hq
      obtain ⟨rfl, X, g1, g2⟩ := hrel
      rw [g1, Oper.uponIn_panic]
      exact hQ ρ X w ρ.le_refl g2 h (Below.refl _ _)
    | enter t =>
      have hs1 : s1 = s := by
        cases t with
        | fn f' a' => exact hrel.1
        | round l' a' => exact hrel.1
      subst hs1
      simp only [opPan] at hq
      cases hself : self t s1 with
      | none => rw [hself] at hq; cases hq
      | some p =>
        obtain ⟨ee, s2⟩ := p
        rw [hself] at hq
        cases ee with
        | ret v1 => cases hq
        | pan v1 =>
          cases hq
          have hcon := hs t s1 _ _ hself base ρ w h (n - 1)
          have tail : ∀ (E : Ending) (w' : World), Post base ρ w (.pan v) s' E w' →
              (match E, w' with
                | .returned v, w'' => K (A.put o.dst v) w''
                | .panicked chain, w'' => Q (.panic chain) A w''
                | .outgrown, _ => LetsOut Q) := by
            rintro E w' ⟨ρ', g1, ⟨X, rfl, g6⟩, g4, g5⟩
            exact hQ ρ' X w' g1 g6 g4 g5
          cases t with
          | fn f' a' =>
            obtain ⟨_, A', g2, g3⟩ := hrel
            rw [g2, Oper.uponIn_enter]
            refine ⟨fun hh => by simp [RF_depth] at hh, (show CallsIn (RF r) _ P _ _ _ _ from (hcon A' g3).mono fun E w' hp => ?_)⟩
            have := tail E w' hp
            cases E <;> exact this
          | round l' a' =>
            obtain ⟨_, x, L, A', g1, g2, g3, g4, g5⟩ := hrel
            rw [g5, Oper.uponIn_round]
            refine ⟨fun hh => by simp [RF_depth] at hh, (show RoundIn (RF r) _ P _ _ _ _ _ _ _ from (hcon x L A' g1 g2 g3 g4).mono fun E w' hp => ?_)⟩
            have := tail E w' hp
            cases E <;> exact this

theorem drawE_spec {ops : Array Oper} {c c' : Cfg} {e : EExit} (hf : c.tmps.ok) (h : drawE P self ops c = some (e, c')) :
    P.follows .mixedOrders = true ∧ ∃ s0 M R dead, PreOK c.st s0 M ∧ DRun P self ops M dead c.tmps s0 R ∧ DFin P self ops dead c.tmps s0 R c.defers e c' := by
  unfold drawE at h
  cases h1 : P.follows .mixedOrders with
  | false => simp [h1] at h
  | true =>
  cases h2 : stOK ops with
  | false => simp [h1, h2] at h
  | true =>
  simp only [h1, h2, Bool.and_self, cond_true] at h
  rcases hpre : preM P ops c.tmps c.st with ⟨s0, M⟩
  rw [hpre] at h
  simp only at h
  split at h
  · rename_i R hR
    cases h3 : chainE (ancsE ops.toList []) (effs R) with
    | false => simp [h3] at h
    | true =>
    cases h4 : chkAll P ops (ancsE ops.toList []) s0 (effs R) R with
    | false => simp [h3, h4] at h
    | true =>
    simp only [h3, h4, Bool.and_self, cond_true, Option.some.injEq, Prod.mk.injEq] at h
    obtain ⟨rfl, rfl⟩ := h
    obtain ⟨g1, g2⟩ := drawRun_spec hR
    have hi : ∀ (k : Nat) rk, R[k]? = some rk → rk.i = k := fun k rk hk => by simpa using (g2 k rk hk).1
    refine ⟨rfl, s0, M, R, fun _ => False, preM_ok hpre, ⟨stOK_spec h2, by simpa using g1, fun k rk hk => ?_, fun q q' e e' hq he he' => reach_of (chainE_spec h3 q q' e e' hq he he'), fun k rk hk hq p hp a b => ?_, hf⟩, ⟨fun _ => ⟨rfl, rfl⟩, fun k hk => hk.elim⟩⟩
    · obtain ⟨b1, b2, b3, b4, b5⟩ := g2 k rk hk
      refine ⟨hi k rk hk, by simpa using b2, .inr ?_, b4, b5⟩
      rw [hi k rk hk] at b3
      exact b3
    · have := chkAll_spec h4 rk (List.mem_of_getElem? hk) hq
      refine chkE_spec this p hp (fun q e hqp he => ?_) (fun q e hqp he => ?_)
      · rw [hi k rk hk, Bool.eq_false_iff]
        exact fun hh => a q e hqp he (reach_of hh)
      · rw [hi k rk hk, Bool.eq_false_iff]
        exact fun hh => b q e hqp he (reach_of hh)
  · unfold drawP at h
    split at h
    · rename_i R ip v s' hR
      cases h3 : chainE (ancsE ops.toList []) (effs R) with
      | false => simp [h3] at h
      | true =>
      cases h5 : allAfter (ogetN (lget (ancsE ops.toList []) ip)) (effs R) with
      | false => simp [h3, h5] at h
      | true =>
      cases h4 : chkAll P ops (ancsE ops.toList []) s0 (effs R) R with
      | false => simp [h3, h5, h4] at h
      | true =>
      simp only [h3, h4, h5, Bool.and_self, cond_true, Option.some.injEq, Prod.mk.injEq] at h
      obtain ⟨rfl, rfl⟩ := h
      obtain ⟨g1, _, ⟨rp, a1, a2, a3, a4, a5⟩, g2⟩ := panRun_spec hR
      rw [Nat.sub_zero] at a1
      have hi : ∀ (k : Nat) rk, R[k]? = some rk → rk.i = k := fun k rk hk => by simpa using (g2 k rk hk).1
      refine ⟨rfl, s0, M, R, fun k => k = ip ∨ Reach ops k ip, preM_ok hpre, ⟨stOK_spec h2, by simpa using g1, fun k rk hk => ?_, fun q q' e e' hq he he' => reach_of (chainE_spec h3 q q' e e' hq he he'), fun k rk hk hq p hp a b => ?_, hf⟩,
        ⟨fun hn => absurd (Or.inl rfl) (hn ip), fun k _ => ⟨ip, .inl rfl, fun j hj => hj, rp, v, s', a1, a3, a4, a5, fun q e he => reach_of (allAfter_spec h5 q e he), rfl, rfl⟩⟩⟩
      · obtain ⟨b1, b2, b3, b4, b5⟩ := g2 k rk hk
        refine ⟨hi k rk hk, by simpa using b2, ?_, b4, b5⟩
        rw [hi k rk hk] at b3
        rcases b3 with ⟨e, _⟩ | ⟨e, _⟩ | e
        · exact .inl (.inl e)
        · exact .inl (.inr (reach_of e))
        · exact .inr e
      · have := chkAll_spec h4 rk (List.mem_of_getElem? hk) hq
        refine chkE_spec this p hp (fun q e hqp he => ?_) (fun q e hqp he => ?_)
        · rw [hi k rk hk, Bool.eq_false_iff]
          exact fun hh => a q e hqp he (reach_of hh)
        · rw [hi k rk hk, Bool.eq_false_iff]
          exact fun hh => b q e hqp he (reach_of hh)
    · cases h

theorem count_set {l : List Bool} {i : Nat} (h : l[i]? = some false) : (l.set i true).countP (! ·) + 1 = l.countP (! ·) := by
  induction l generalizing i with
  | nil => simp at h
  | cons a l ih =>
    cases i with
    | zero => simp at h; subst h; simp
    | succ i =>
      have := ih (by simpa using h)
      simp only [List.set_cons_succ, List.countP_cons]
      omega

theorem draw_any (hs : SelfOK P self) {ops : Array Oper} {R : List DRec} {F0 : Frm} {s0 : St} (D : DRun P self ops M dead F0 s0 R) {base : Nat} {ρ0 : Env} {w0 : World} {ds : List EDef} {e : EExit} {c' : Cfg} (hF : DFin P self ops dead F0 s0 R ds e c') :
    (∀ i b, findM i M = some b → ρ0.n ≤ b) → (∀ i j b, findM i M = some b → findM j M = some b → i = j) →
    ∀ (fuel : Nat) (listed : Array Bool) (f : Frm) (p : Nat) (ρ : Env) (A : Act) (w : World), DInv ops R F0 listed f p → listed.toList.countP (! ·) ≤ fuel → (∀ k, dead k → listed.getD k false = false) → (∀ i b, findM i M = some b → listed.getD i false = false → ρ b = none ∧ b < ρ.n) → ρ0.le ρ → Below base w0 w → FRel ρ f A.tmps → DRel ρ ds A.defers →
      SRel base ρ (lastS s0 ((effs R).take p)) w →
      wpAnyIn (RF r) n P .any ops (CPost base ρ0 w0 e c') fuel listed A w := by
  intro hM0 hM1 fuel
  have nodead : ∀ {listed : Array Bool} {f : Frm} {p : Nat}, DInv ops R F0 listed f p → (∀ i, i < listed.size → listed.getD i false = true) → (∀ k, dead k → listed.getD k false = false) → ∀ k, ¬ dead k := fun h all hdd k hk => by
    obtain ⟨ip, h1, _, rp, v, s', h2, _⟩ := hF.pan k hk
    have hlt : ip < ops.size := by rw [← D.len]; exact (List.getElem?_eq_some_iff.1 h2).1
    have := all ip (by rw [h.size]; exact hlt)
    rw [hdd ip h1] at this; cases this
  induction fuel with
  | zero =>
    intro listed f p ρ A w h hc hdd hM h1 h2 hf hd hS
    have all : ∀ i, i < listed.size → listed.getD i false = true := fun i hi => by
      have h0 : listed.toList.countP (! ·) = 0 := by omega
      rw [List.countP_eq_zero] at h0
      have := h0 listed[i] (by simp)
      simpa [hi] using this
    refine ⟨?_, ?_⟩
    · cases hr : Region.ready .any ops listed with
      | nil => rfl
      | cons x l =>
        have := mem_ready.1 (hr ▸ List.mem_cons_self : x ∈ Region.ready .any ops listed)
        obtain ⟨a, o, b, _⟩ := this
        have hx : x < listed.size := by rw [h.size]; exact (Array.getElem?_eq_some_iff.1 b).1
        rw [getD_any hx true false, all x hx] at a
        cases a
    · obtain ⟨rfl, rfl⟩ := hF.fin (nodead h all hdd)
      exact draw_end D h all h1 h2 hf hd hS
  | succ fuel ih =>
    intro listed f p ρ A w h hc hdd hM h1 h2 hf hd hS
    refine ⟨fun hnil => ?_, fun i hi => ?_⟩
    · have all : ∀ i, i < listed.size → listed.getD i false = true := by
        intro i
        induction i using Nat.strongRecOn with
        | ind i ih =>
          intro hi
          cases hl : listed.getD i false with
          | true => rfl
          | false =>
            have hio : i < ops.size := by rw [← h.size]; exact hi
            have : i ∈ Region.ready .any ops listed := mem_ready.2 ⟨by rw [getD_any hi true false]; exact hl, ops[i], Array.getElem?_eq_getElem hio, fun e he hb => by
              have := D.st.back i ops[i] (Array.getElem?_eq_getElem hio) e he hb
              exact ih e.on this (by omega)⟩
            rw [hnil] at this; cases this
      obtain ⟨rfl, rfl⟩ := hF.fin (nodead h all hdd)
      exact draw_end D h all h1 h2 hf hd hS
    · obtain ⟨hun, o, ho, hrd⟩ := mem_ready.1 hi
      have hio : i < ops.size := (Array.getElem?_eq_some_iff.1 ho).1
      have hil : i < listed.size := by rw [h.size]; exact hio
      rw [getD_any hil true false] at hun
      have hri : R[i]? = some (R[i]'(by rw [D.len]; exact hio)) := List.getElem?_eq_getElem _
      generalize R[i]'(by rw [D.len]; exact hio) = ri at hri
      obtain ⟨ei, ho', hstep, _, hs'⟩ := D.row i ri hri
      have : o = ri.o := by rw [ho] at ho'; exact Option.some.inj ho'
      subst this
      have hrd : ∀ o, ops[i]? = some o → ∀ e ∈ o.after, Region.binds .any e = true → listed.getD e.on false = true := fun o2 h2 => by rw [ho] at h2; cases h2; exact hrd
      have hlk := fun t => h.looks D hri hun hrd (t := t)
      rcases Classical.em (dead i) with hdi | hdi
      · have hrd2 := hrd
        clear hrd
        obtain ⟨ip, q1, q2, rp, v, s', q3, q4, q5, q6, q7, rfl, rfl⟩ := hF.pan i hdi
        rcases q2 i hdi with rfl | hr
        · have hrp : rp = ri := by rw [hri] at q3; exact (Option.some.inj q3).symm
          subst hrp
          have hp : p = (effs R).length := by
            rcases Nat.lt_or_ge p (effs R).length with hlt | hge
            · have := (h.ph p _ (List.getElem?_eq_getElem hlt)).1 (h.reach_ready (q7 p _ (List.getElem?_eq_getElem hlt)) hrd2)
              omega
            · have := h.le; omega
          rw [hp, List.take_length, ← q4] at hS
          have hwant := wanted_rel hf ops rp.o
          rw [wantedE_sub hlk, q5] at hwant
          unfold wpOpIn
          simp only [ho]
          rw [← hwant]
          simp only [if_true]
          refine opPan_sound hs hS (evL_sub hlk hf) q6 fun ρ' X w' b1 b2 b3 b4 => ?_
          refine ⟨ρ', Env.le_trans h1 b1, ⟨X, rfl, b2⟩, ?_, hd.mono b1, b3, h2.trans b4⟩
          obtain ⟨a1, d, a2, a3, a4⟩ := hf.mono b1
          obtain ⟨d', e2, e3⟩ := anyF_ok ops.toList D.ok
          have hn : (anyF F0 ops.toList).n = f.n := by rw [anyF_n, h.n]
          refine ⟨by rw [hn]; exact a1, d', e2, e3, fun t Y hY => ?_⟩
          have hlt : t < f.n := by rw [a1]; exact (Array.getElem?_eq_some_iff.1 hY).1
          have hraw : ∀ g : Frm, g.n = f.n → g.get t = g.t.get t := fun g hg => by rw [Frm.get_eq, blt_iff, hg, decide_eq_true hlt, cond_true]
          obtain ⟨i1, _, i3⟩ := anyF_get (t := t) ops.toList D.ok (by rw [← h.n]; exact hlt)
          by_cases hdst : ∃ o ∈ ops.toList, o.dst = some t
          · exact .inl (by rw [← hraw _ hn]; exact i1 hdst)
          · refine .inr ?_
            rw [← hraw _ hn, i3 (fun o ho he => hdst ⟨o, ho, he⟩), ← h.not t fun k rk hk hdk => absurd ⟨rk.o, by
              have := (D.row k rk hk).2.1
              exact Array.mem_toList_iff.2 (Array.mem_of_getElem? this), hdk⟩ hdst, hraw f rfl]
            exact a4 t Y hY
        · have := h.reach_ready hr hrd2
          rw [hdd ip q1] at this; cases this
      have hstep := hstep.resolve_left hdi
      have hdd' : ∀ k, dead k → (listed.setIfInBounds i true).getD k false = false := fun k hk => by
        rw [getD_set_ne false (fun e' : i = k => hdi (by rw [e']; exact hk))]; exact hdd k hk
      have hcnt : (listed.setIfInBounds i true).toList.countP (! ·) ≤ fuel := by
        have : listed.toList[i]? = some false := by
          rw [Array.getElem?_toList, Array.getElem?_eq_getElem hil]
          simpa [hil] using hun
        have := count_set this
        rw [Array.toList_setIfInBounds]
        omega
      have hMs : ∀ ρ' : Env, (∀ j b, findM j M = some b → j ≠ i → listed.getD j false = false → ρ' b = none ∧ b < ρ'.n) → ∀ j b, findM j M = some b → (listed.setIfInBounds i true).getD j false = false → ρ' b = none ∧ b < ρ'.n := fun ρ' hh j b hj hl => by
        by_cases e : j = i
        · subst e; rw [getD_set_self false hil] at hl; cases hl
        · rw [getD_set_ne false (fun e' => e e'.symm)] at hl
          exact hh j b hj e hl
      have hwant := wanted_rel hf ops ri.o
      rw [wantedE_sub hlk] at hwant
      unfold wpOpIn
      simp only [ho]
      unfold drawStep at hstep
      cases hw : wantedE (guardOf ops ri.o) ri.f with
      | false =>
        rw [hw, cond_false] at hstep
        have hrv : ri.v = .undef ∧ ri.eff = none := by rw [← Option.some.inj hstep]; exact ⟨rfl, rfl⟩
        rw [hw] at hwant
        rw [← hwant]
        simp only [Bool.false_eq_true, if_false]
        refine ⟨fun f' _ => RF_fn _ _, ?_⟩
        have hinv := h.step D hri hun hrd h.le fun q e he => by
          obtain ⟨k, rk, a1, a2, a3, _⟩ := effs_get he
          constructor
          · exact .inl
          · rintro (b | b)
            · exact b
            · have : k = i := by rw [← b, ← a3]; exact ((D.row k rk a1).1).symm
              subst this
              rw [hri] at a1; cases a1
              rw [hrv.2] at a2; cases a2
        rw [hrv.1] at hinv
        exact ih _ _ p ρ _ w hinv hcnt hdd' (hMs ρ fun j b hj _ hl => hM j b hj hl) h1 h2 (putE_rel hf ((VRel.eq_1 ρ (.tuple #[])).mpr rfl) _) (by rw [put_defers]; exact hd) hS
      | true =>
        rw [hw, cond_true] at hstep
        rw [hw] at hwant
        rw [← hwant]
        simp only [if_true]
        split at hstep
        · rename_i v0 hv0
          have hrv : ri.q = true ∧ ri.eff = none ∧ ri.mb = findM i M := by rw [← Option.some.inj hstep]; exact ⟨rfl, rfl, rfl⟩
          have hq := D.quiet i ri hri hrv.1 p h.le (fun q e hq he hr => by
              have := h.reach hr ((h.ph q e he).2 hq)
              rw [hun] at this; cases this) (fun q e hq he hr => by
              have := (h.ph q e he).1 (h.reach_ready hr hrd)
              omega)
          have hinv := h.step D hri hun hrd h.le fun q e he => by
            obtain ⟨k, rk, a1, a2, a3, _⟩ := effs_get he
            constructor
            · exact .inl
            · rintro (b | b)
              · exact b
              · have : k = i := by rw [← b, ← a3]; exact ((D.row k rk a1).1).symm
                subst this
                rw [hri] at a1; cases a1
                rw [hrv.2.1] at a2; cases a2
          rw [hrv.2.2] at hq
          cases hmb : findM i M with
          | none =>
            rw [hmb] at hq
            exact qop_sound hS (evL_sub hlk hf) hq fun X hX => ih _ _ p ρ _ w hinv hcnt hdd' (hMs ρ fun j b hj _ hl => hM j b hj hl) h1 h2 (putE_rel hf hX _) (by rw [put_defers]; exact hd) hS
          | some b =>
            rw [hmb] at hq
            obtain ⟨hn1, hn2⟩ := hM i b hmb hun
            refine mk_sound hS (evL_sub hlk hf) hq hn1 (Nat.lt_of_lt_of_le hn2 hS.top) fun x X w' g1 g2 g3 => ?_
            have hsub := Env.sub_put x hn1
            have hle : ρ0.le (ρ.put b x) := ⟨fun k y e => hsub k y (h1.sub k y e), Nat.le_trans h1.top (Nat.le_max_left _ _), fun k hk e => by
              have := hM0 i b hmb
              rw [Env.put_ne (by omega)]
              exact h1.keep k hk e⟩
            refine ih _ _ p (ρ.put b x) _ w' hinv hcnt hdd' (hMs _ fun j b' hj hne hl => ?_) hle (h2.trans g3) (putE_rel (hf.up hsub) g1 _) (by rw [put_defers]; exact hd.up hsub) g2
            obtain ⟨k1, k2⟩ := hM j b' hj hl
            have hbb : b' ≠ b := fun e => hne (hM1 j i b (e ▸ hj) hmb)
            rw [Env.put_ne hbb]
            exact ⟨k1, Nat.lt_of_lt_of_le k2 (Nat.le_max_left _ _)⟩
        · split at hstep
          · cases hstep
          split at hstep
          · rename_i v0 s1 hv0
            have hrv : ri.v = v0 ∧ ri.eff = some s1 := by rw [← Option.some.inj hstep]; exact ⟨rfl, rfl⟩
            obtain ⟨q0, g1, g2⟩ := effs_of hri hrv.2
            rw [ei] at g1
            have hq0 : q0 = p := by
              have a1 : ¬ q0 < p := fun hh => by
                have := (h.ph q0 _ g1).2 hh
                rw [show ((i, s1) : Nat × St).1 = i from rfl, hun] at this; cases this
              rcases Nat.lt_or_ge p q0 with a2 | a2
              · have hp : p < (effs R).length := Nat.lt_trans a2 (List.getElem?_eq_some_iff.1 g1).1
                have := D.chain p q0 _ _ a2 (List.getElem?_eq_getElem hp) g1
                have := (h.ph p _ (List.getElem?_eq_getElem hp)).1 (h.reach_ready this hrd)
                omega
              · omega
            subst hq0
            have hlt : q0 < (effs R).length := (List.getElem?_eq_some_iff.1 g1).1
            rw [hs', g2] at hv0
            have hinv := h.step D hri hun hrd (p' := q0 + 1) hlt fun q e he => by
              obtain ⟨k, rk, a1, a2, a3, _⟩ := effs_get he
              constructor
              · intro b
                rcases Nat.lt_or_ge q q0 with b' | b'
                · exact .inl b'
                · have : q = q0 := by omega
                  subst this
                  rw [g1] at he; cases he
                  exact .inr rfl
              · rintro (b | b)
                · omega
                · rcases Nat.lt_trichotomy q q0 with c | c | c
                  · omega
                  · omega
                  · have := D.st.lt (D.chain q0 q _ _ c g1 he)
                    rw [b] at this
                    exact absurd this (Nat.lt_irrefl _)
            have htake : lastS s0 ((effs R).take (q0 + 1)) = s1 := by
              have hlast : ∀ (E : List (Nat × St)) (s : St) (e : Nat × St), lastS s (E ++ [e]) = e.2 := by
                intro E
                induction E with
                | nil => intro s e; rfl
                | cons a E ih => intro s e; exact ih a.2 e
              rw [List.take_add_one, g1]
              exact hlast _ _ _
            refine opOut_sound hs hS (evL_sub hlk hf) hv0 fun ρ' X w' b1 b2 b3 b4 => ?_
            rw [hrv.1] at hinv
            exact ih _ _ (q0 + 1) ρ' _ w' hinv hcnt hdd' (hMs ρ' fun j b hj _ hl => by obtain ⟨k1, k2⟩ := hM j b hj hl; exact ⟨b1.keep b k2 k1, Nat.lt_of_lt_of_le k2 b1.top⟩) (Env.le_trans h1 b1) (h2.trans b4) (putE_rel (hf.mono b1) b2 _) (by rw [put_defers]; exact hd.mono b1) (by rw [htake]; exact b3)
          · cases hstep
end
end Go.Eng
end

section
namespace Go.Eng
open Go.RowKit (Below)
set_option linter.unusedSimpArgs false
set_option linter.unusedVariables false

structure Rel (base : Nat) (ρ : Env) (c : Cfg) (A : Act) (w : World) : Prop where
  f : FRel ρ c.tmps A.tmps
  d : DRel ρ c.defers A.defers
  s : SRel base ρ c.st w

def RR (ρ : Env) : Option Nat → Option Nat → Prop
  | none, r => r = none
  | some l, r => ∃ x, ρ l = some x ∧ r = some x.B
theorem RR.mono {ρ ρ' : Env} (h : ρ.le ρ') : ∀ {a b : Option Nat}, RR ρ a b → RR ρ' a b
  | none, _, r => r
  | some _, _, ⟨x, h1, h2⟩ => ⟨x, h.sub _ _ h1, h2⟩

def CodeOK (P : Program) (ro r : Option Nat) (n : Nat) (x : Code) (f : Cfg → Option (EExit × Cfg)) : Prop :=
  ∀ c e c', f c = some (e, c') → ∀ base ρ0 w0 ρ A w, RR ρ0 ro r → ρ0.le ρ → Below base w0 w → Rel base ρ c A w → x.wpIn (RF r) n P (CPost base ρ0 w0 e c') A w

section
variable {P : Program} {self : ESelf} {ro r : Option Nat} {n : Nat}

theorem CPost.mk {base : Nat} {ρ0 ρ : Env} {w0 w : World} {e : EExit} {c : Cfg} {A : Act} {E : Exit} (h1 : ρ0.le ρ) (h2 : Below base w0 w) (h : Rel base ρ c A w) (hx : XRel ρ e E) : CPost base ρ0 w0 e c E A w :=
  ⟨ρ, h1, hx, h.f.toX e, h.d, h.s, h2⟩

theorem callsIn_RF {m : Nat} {f : FuncId} {args : Array Value} {w : World} {R : Ending → World → Prop} (h : CallsIn Fence.wide m P f args w R) : CallsIn (RF r) m P f args w R := h
theorem roundIn_RF {m l : Nat} {f : FuncId} {tmps : Array Value} {a b : Code} {w : World} {R : Ending → World → Prop} (h : RoundIn Fence.wide m P l f tmps a b w R) : RoundIn (RF r) m P l f tmps a b w R := h

theorem ops_sound (hs : SelfOK P self) (ops : Array Oper) : ∀ (l : List Oper) (idx : List Nat), idx.map (ops[·]?) = l.map some → ∀ c e c', runOps self (compOps P ops l) c = some (e, c') →
    ∀ base ρ0 w0 ρ A w, ρ0.le ρ → Below base w0 w → Rel base ρ c A w → wpOpsIn (RF r) n P ops (CPost base ρ0 w0 e c') idx A w := by
  intro l
  induction l with
  | nil =>
    intro idx hi c e c' h base ρ0 w0 ρ A w h1 h2 hr
    have hi : idx = [] := by simpa using hi
    subst hi
    have h : some (EExit.normal, c) = some (e, c') := h
    cases h
    exact CPost.mk h1 h2 hr rfl
  | cons o l ih =>
    intro idx hi c e c' h base ρ0 w0 ρ A w h1 h2 hr
    cases idx with
    | nil => simp at hi
    | cons i idx =>
    simp only [List.map_cons, List.cons.injEq] at hi
    obtain ⟨hio, hi⟩ := hi
    have ih := fun {c e c'} hh => ih idx hi c e c' hh base ρ0 w0
    replace h : stepE self (runOps self (compOps P ops l)) (compStep P ops o) c = some (e, c') := h
    obtain ⟨fr, ds, s⟩ := c
    have hop := compOp_eq (P := P) o.op s (evF fr)
    unfold compStep at h
    cases hc : compOp P o.op with
    | mk f =>
    rw [hc] at h hop
    simp only [runOpF] at hop
    simp only [stepE] at h
    rw [hop] at h
    have hw := wanted_rel hr.f ops o
    simp only at hw
    simp only [wpOpsIn, hio]
    have hru := (VRel.eq_1 ρ (.tuple #[])).mpr rfl
    cases hwt : wantedE (guardOf ops o) fr with
    | false =>
      rw [hwt] at h
      rw [hwt] at hw
      simp only [cond_false] at h
      rw [← hw]
      simp only [Bool.false_eq_true, if_false]
      refine ⟨fun f' _ => RF_fn _ _, ih h ρ _ w h1 h2 ⟨putE_rel hr.f hru o.dst, ?_, hr.s⟩⟩
      rw [put_defers]; exact hr.d
    | true =>
      rw [hwt] at h
      rw [hwt] at hw
      simp only [cond_true] at h
      rw [← hw]
      simp only [if_true]
      unfold nextE at h
      split at h
      all_goals try rename_i hopv
      case h_5 => cases h
      all_goals
        have hnd : ∀ cc, o.op ≠ .defer cc := fun cc ec => by rw [ec, opE_defer] at hopv; cases hopv
        have hrel := opE_rel hr.s (evF_rel hr.f) hopv
        refine ⟨fun f' _ => RF_fn _ _, ?_⟩
        rw [Oper.semAt_eq _ _ _ hnd]
      · rename_i v s1
        obtain ⟨ρ', X, w', g1, g2, g3, g4, g5⟩ := hrel
        rw [g2, Oper.uponIn_value]
        refine ih h ρ' _ w' (Env.le_trans h1 g1) (h2.trans g5) ⟨putE_rel (hr.f.mono g1) g3 o.dst, ?_, g4⟩
        rw [put_defers]; exact hr.d.mono g1
      · rename_i s1
        obtain ⟨w', g2, g4, g5⟩ := hrel
        rw [g2, Oper.uponIn_skip]
        refine ih h ρ _ w' h1 (h2.trans g5) ⟨putE_rel hr.f hru o.dst, ?_, g4⟩
        rw [put_defers]; exact hr.d
      · rename_i v s1
        cases h
        obtain ⟨rfl, X, g2, g3⟩ := hrel
        rw [g2, Oper.uponIn_panic]
        exact CPost.mk h1 h2 ⟨hr.f, hr.d, hr.s⟩ ⟨X, rfl, g3⟩
      · rename_i t s1
        have tail : ∀ (E : Ending) (w' : World) (ee : EEnd) (s2 : St), self t s = some (ee, s2) → Post base ρ w ee s2 E w' →
            (match E, w' with
              | .returned v, w'' => wpOpsIn (RF r) n P ops (CPost base ρ0 w0 e c') idx (A.put o.dst v) w''
              | .panicked chain, w'' => CPost base ρ0 w0 e c' (.panic chain) A w''
              | .outgrown, _ => LetsOut (CPost base ρ0 w0 e c')) := by
          intro E w' ee s2 hself hpost
          have hs1 : s1 = s := by
            cases t with
            | fn f' a' => exact hrel.1
            | round l' a' => exact hrel.1
          subst hs1
          rw [hself] at h
          obtain ⟨ρ', g1, g3, g4, g5⟩ := hpost
          cases ee with
          | ret v =>
            obtain ⟨X, rfl, g6⟩ := g3
            simp only at h ⊢
            refine ih h ρ' _ w' (Env.le_trans h1 g1) (h2.trans g5) ⟨putE_rel (hr.f.mono g1) g6 o.dst, ?_, g4⟩
            rw [put_defers]; exact hr.d.mono g1
          | pan v =>
            obtain ⟨X, rfl, g6⟩ := g3
            simp only at h ⊢
            cases h
            exact CPost.mk (Env.le_trans h1 g1) (h2.trans g5) ⟨hr.f.mono g1, hr.d.mono g1, g4⟩ ⟨X, rfl, g6⟩
        have hsome : ∃ ee s2, self t s = some (ee, s2) := by
          have hs1 : s1 = s := by
            cases t with
            | fn f' a' => exact hrel.1
            | round l' a' => exact hrel.1
          subst hs1
          cases hself : self t s1 with
          | none => rw [hself] at h; cases h
          | some p => exact ⟨p.1, p.2, rfl⟩
        obtain ⟨ee, s2, hself⟩ := hsome
        have hcon := hs t s ee s2 hself base ρ w hr.s (n - 1)
        cases t with
        | fn f' a' =>
          obtain ⟨rfl, A', g2, g3⟩ := hrel
          rw [g2, Oper.uponIn_enter]
          refine ⟨fun hh => by simp [RF_depth] at hh, callsIn_RF ((hcon A' g3).mono fun E w' hp => ?_)⟩
          have := tail E w' ee s2 hself hp
          cases E <;> exact this
        | round l' a' =>
          obtain ⟨rfl, x, L, A', g1, g2, g3, g4, g5⟩ := hrel
          rw [g5, Oper.uponIn_round]
          refine ⟨fun hh => by simp [RF_depth] at hh, roundIn_RF ((hcon x L A' g1 g2 g3 g4).mono fun E w' hp => ?_)⟩
          have := tail E w' ee s2 hself hp
          cases E <;> exact this

theorem range_map {α : Type} (ops : Array α) : (List.range ops.size).map (ops[·]?) = ops.toList.map some := by
  apply List.ext_getElem?
  intro i
  rw [List.getElem?_map, List.getElem?_map]
  by_cases hi : i < ops.size
  · rw [List.getElem?_range hi]
    simp [hi]
  · rw [List.getElem?_eq_none (by simpa using hi), List.getElem?_eq_none (by simpa using hi)]
    rfl

theorem resolve_fn {A : Act} {cl : Call} {f : Operand} {fv : FuncId} {A1 C1 : Array Value} (hc : cl.callee = .value f) (e1 : A.eval f = .func (.func fv) A1 C1) (ty : TypeId) {w : World} :
    (resolve A.eval cl ty).run P w = .ok { target := .fn (.func fv) C1, args := A1 ++ cl.args.map A.eval } w := by
  simp only [resolve, hc, Sem.run_bind, e1, Deferred.ofValue, Sem.run_pure, Result.andThen_ok]

theorem dfer_sound (ops : Array Oper) : ∀ (l : List Oper) (idx : List Nat), idx.map (ops[·]?) = l.map some → ∀ c e c', dferE P l c = some (e, c') →
    ∀ base ρ0 w0 ρ A w, ρ0.le ρ → Below base w0 w → Rel base ρ c A w → wpOpsIn (RF none) n P ops (CPost base ρ0 w0 e c') idx A w := by
  intro l
  induction l with
  | nil =>
    intro idx hi c e c' h base ρ0 w0 ρ A w h1 h2 hr
    have hi : idx = [] := by simpa using hi
    subst hi
    simp only [dferE] at h
    cases h
    exact CPost.mk h1 h2 hr rfl
  | cons o l ih =>
    intro idx hi c e c' h base ρ0 w0 ρ A w h1 h2 hr
    cases idx with
    | nil => simp at hi
    | cons i idx =>
    simp only [List.map_cons, List.cons.injEq] at hi
    obtain ⟨hio, hi⟩ := hi
    have ih := fun {c e c'} hh => ih idx hi c e c' hh base ρ0 w0
    simp only [dferE] at h
    split at h
    · cases h
    rename_i hg
    have hw : Region.wanted o (yielded ops A.tmps) = true := by unfold Region.wanted; rw [hg]
    have hru := (VRel.eq_1 ρ (.tuple #[])).mpr rfl
    simp only [wpOpsIn, hio, hw, if_true]
    split at h
    · rename_i cl hop
      split at h
      · rename_i f hc
        split at h
        · rename_i g first cap vs hf hvs
          cases hb : bodyOK P g with
          | false => rw [hb] at h; cases h
          | true =>
            rw [hb, cond_true] at h
            refine ⟨fun f' _ => RF_fn _ _, ?_⟩
            have e1 := evF_rel hr.f _ _ hf
            simp only [VRel] at e1
            obtain ⟨A1, C1, e1, e2, e3⟩ := e1
            have e4 := evalOs_rel (evF_rel hr.f) hvs
            rw [← map_toList] at e4
            have hrun : (o.semAt (RF none).round A.eval).run P w = .ok (.defer { target := .fn (.func g) C1, args := A1 ++ cl.args.map A.eval }) w := by
              show (o.semAt none A.eval).run P w = _
              rw [Oper.semAt_none]
              unfold execOp
              simp only [hop, Sem.run_bind, resolve_fn hc e1, Result.andThen_ok, Sem.run_pure]
            rw [hrun, Oper.uponIn_defer]
            refine ih h ρ _ w h1 h2 ⟨putE_rel (A := { A with defers := _ :: A.defers }) hr.f hru o.dst, ?_, hr.s⟩
            rw [put_defers]
            refine ⟨A1 ++ cl.args.map A.eval, C1, A.defers, rfl, ?_, e3, hr.d⟩
            rw [lapp_eq, Array.toList_append]
            exact e2.append e4
        · cases h
      · cases h
    · split at h
      · rename_i v hv
        exact qop_sound hr.s (evF_rel hr.f) hv fun X hX => ih h ρ _ w h1 h2 ⟨putE_rel hr.f hX o.dst, by rw [put_defers]; exact hr.d, hr.s⟩
      · cases h

theorem region_sound (hs : SelfOK P self) (id : Nat) (ops : Array Oper) (draw : Bool) : CodeOK P ro r n (.region id ops draw) (regionE P self ro ops draw) := by
  intro c e c' h base ρ0 w0 ρ A w h0 h1 h2 hr
  cases draw with
  | false =>
    simp only [regionE] at h
    cases hd : hasDefer ops.toList with
    | true =>
      rw [hd, cond_true] at h
      cases ro with
      | some l => cases h
      | none =>
        have h0 : r = none := h0
        subst h0
        exact wpIn_region (dfer_sound ops ops.toList _ (range_map ops) c e c' h base ρ0 w0 ρ A w h1 h2 hr)
    | false =>
      rw [hd, cond_false] at h
      exact wpIn_region (ops_sound hs ops ops.toList _ (range_map ops) c e c' h base ρ0 w0 ρ A w h1 h2 hr)
  | true =>
    obtain ⟨hm, s0, M, R, dead, hpre, D, hfin⟩ := drawE_spec hr.f.ok h
    have hS0 := hr.s.ahead hpre.old hpre.le
    have hle0 : ρ.le ⟨ρ.f, s0.next⟩ := ⟨fun _ _ e => e, Nat.le_trans hr.s.top hpre.le, fun _ _ e => e⟩
    refine wpIn_region_any hm ?_
    have hw : Below base w0 { w with drawn := w.drawn + 1 } := h2.trans ⟨rfl, rfl, rfl, Nat.le_refl _, fun _ _ => rfl⟩
    refine draw_any hs D hfin (fun i b hb => Nat.le_trans h1.top (Nat.le_trans hr.s.top (hpre.new i b hb).1)) hpre.one ops.size _ c.tmps 0 ⟨ρ.f, s0.next⟩ A _ ⟨by simp, ?_, hr.f.ok, rfl, ?_, fun _ _ => rfl, Nat.zero_le _, ?_⟩ ?_ (fun k _ => ?_) (fun i b hb _ => ⟨?_, (hpre.new i b hb).2⟩) (Env.le_trans h1 hle0) hw (hr.f.mono hle0) (hr.d.mono hle0) ⟨hS0.le, hS0.obj, hS0.inj, hS0.dom, hS0.top⟩
    · intro i o ho hl
      by_cases hi : i < ops.size <;> simp [hi] at hl
    · intro k rk t _ _ hl
      by_cases hi : k < ops.size <;> simp [hi] at hl
    · intro q e he
      constructor
      · intro hl
        by_cases hi : e.1 < ops.size <;> simp [hi] at hl
      · omega
    · refine Nat.le_trans List.countP_le_length ?_
      simp
    · by_cases hi : k < ops.size <;> simp [hi]
    · cases e : ρ b with
      | none => rfl
      | some x => have := hr.s.dom b x e; have := (hpre.new i b hb).1; omega

section
variable {F : Fence} {b : Frame} {a : Act} {k : List Item} {cs : List Frame} {w : World} {Q : Exit → Act → World → Prop}
theorem stepR_scope {c : Code} : step P (lone (b.atR a (.code (.scope c) :: k)) cs w) = .next (lone (b.atR a (.code c :: .inScope c :: k)) cs w) := step_lone_go (by simp [stepG, stepG.exec, Frame.atR])
theorem stepR_inScope {c : Code} : step P (lone (b.atR a (.inScope c :: k)) cs w) = .next (lone (b.atR a k) cs w) := step_lone_go (by simp [stepG, stepG.exec, Frame.atR])
theorem wpIn_scope {c : Code} (h : c.wpIn F n P (fun e a' w' => (∀ l, e ≠ .goto l) ∧ Q e a' w') a w) : (Code.scope c).wpIn F n P Q a w := by
  intro b k cs hro hb hr
  have h0 : (lone (b.atR a (.code (.scope c) :: k)) cs w).fenced P F := fenced_calm hb hr rfl
  obtain ⟨e, a₁, w₁, hq, harr⟩ := h b (.inScope c :: k) cs hro hb hr
  cases e with
  | normal => exact ⟨.normal, a₁, w₁, hq.2, .head h0 stepR_scope (StepsIn.trans harr (.one (fenced_calm hb hr rfl) stepR_inScope))⟩
  | exit id =>
    have hx : exitTo id (.inScope c :: k) = exitTo id k := by simp [exitTo]
    exact ⟨.exit id, a₁, w₁, hq.2, fun k' hk => .head h0 stepR_scope (harr.1 k' (by rw [hx]; exact hk)),
      fun hr' hk => let ⟨k₁, h1, h2⟩ := harr.2 hr' (by rw [hx]; exact hk); ⟨k₁, h1, .head h0 stepR_scope h2⟩⟩
  | goto l => exact absurd rfl (hq.1 l)
  | ret => exact ⟨_, a₁, w₁, hq.2, .of_steps (.one h0 stepR_scope) harr⟩
  | panic ch => exact ⟨_, a₁, w₁, hq.2, .of_steps (.one h0 stepR_scope) harr⟩
  | outgrown => exact ⟨_, a₁, w₁, hq.2, .of_steps (.one h0 stepR_scope) harr⟩
end
theorem scope_sound {a : Code} {fa : Cfg → Option (EExit × Cfg)} (ha : CodeOK P ro r n a fa) : CodeOK P ro r n (.scope a) fa := by
  intro c e c' h base ρ0 w0 ρ A w h0 h1 h2 hr
  refine wpIn_scope (wpIn_mono (ha c _ _ h base ρ0 w0 ρ A w h0 h1 h2 hr) ?_)
  rintro E A1 w1 hp
  refine ⟨fun l hl => ?_, hp⟩
  obtain ⟨ρ', _, g, _⟩ := hp
  subst hl
  cases e with
  | normal => cases g
  | exit id => cases g
  | ret => cases g
  | pan v => obtain ⟨X, g, _⟩ := g; cases g

theorem seq_sound {a b : Code} {fa fb : Cfg → Option (EExit × Cfg)} (ha : CodeOK P ro r n a fa) (hb : CodeOK P ro r n b fb) : CodeOK P ro r n (.seq a b) (seqE fa fb) := by
  intro c e c' h base ρ0 w0 ρ A w h0 h1 h2 hr
  refine wpIn_seq ?_
  unfold seqE at h
  split at h
  · rename_i c1 hc1
    refine wpIn_mono (ha c _ _ hc1 base ρ0 w0 ρ A w h0 h1 h2 hr) ?_
    rintro E A1 w1 ⟨ρ', g1, g2, g3, g4, g5, g6⟩
    have g2 : E = .normal := g2
    subst g2
    exact hb c1 e c' h base ρ0 w0 ρ' A1 w1 h0 g1 g6 ⟨g3, g4, g5⟩
  · rename_i hne
    refine wpIn_mono (ha c e c' h base ρ0 w0 ρ A w h0 h1 h2 hr) ?_
    intro E A1 w1 hq
    cases e with
    | normal => exact absurd h (hne c')
    | exit id => obtain ⟨ρ', g1, g2, g3⟩ := hq; have g2 : E = .exit id := g2; subst g2; exact ⟨ρ', g1, rfl, g3⟩
    | ret => obtain ⟨ρ', g1, g2, g3⟩ := hq; have g2 : E = .ret := g2; subst g2; exact ⟨ρ', g1, rfl, g3⟩
    | pan v => obtain ⟨ρ', g1, ⟨X, rfl, g2⟩, g3⟩ := hq; exact ⟨ρ', g1, ⟨X, rfl, g2⟩, g3⟩

theorem cond_sound {x : Operand} {a b : Code} {fa fb : Cfg → Option (EExit × Cfg)} (ha : CodeOK P ro r n a fa) (hb : CodeOK P ro r n b fb) : CodeOK P ro r n (.cond x a b) (condE x fa fb) := by
  intro c e c' h base ρ0 w0 ρ A w h0 h1 h2 hr
  unfold condE at h
  split at h
  · rename_i hx
    have := evF_rel hr.f x _ hx
    simp only [VRel] at this
    exact wpIn_cond_true this (ha c e c' h base ρ0 w0 ρ A w h0 h1 h2 hr)
  · rename_i hx
    have := evF_rel hr.f x _ hx
    simp only [VRel] at this
    exact wpIn_cond_false this (hb c e c' h base ρ0 w0 ρ A w h0 h1 h2 hr)
  · cases h

theorem block_sound {id : Nat} {b : Code} {fb : Cfg → Option (EExit × Cfg)} (hb : CodeOK P ro r n b fb) : CodeOK P ro r n (.block id b) (blockE id fb) := by
  intro c e c' h base ρ0 w0 ρ A w h0 h1 h2 hr
  refine wpIn_block ?_
  unfold blockE at h
  split at h
  · rename_i id' c1 hc1
    refine wpIn_mono (hb c _ _ hc1 base ρ0 w0 ρ A w h0 h1 h2 hr) ?_
    rintro E A1 w1 ⟨ρ', g1, g2, g3⟩
    have g2 : E = .exit id' := g2
    subst g2
    cases hid : Nat.beq id' id with
    | true =>
      have e1 : id' = id := by simpa using hid
      rw [hid] at h; cases h
      simp only [Exit.inBlock, e1, if_true]
      exact ⟨ρ', g1, rfl, g3⟩
    | false =>
      have e1 : id' ≠ id := by intro e; subst e; simp at hid
      rw [hid] at h; cases h
      simp only [Exit.inBlock, e1, if_false]
      exact ⟨ρ', g1, rfl, g3⟩
  · rename_i hne
    refine wpIn_mono (hb c e c' h base ρ0 w0 ρ A w h0 h1 h2 hr) ?_
    intro E A1 w1 hq
    cases e with
    | exit id => exact absurd h (hne id c')
    | normal => obtain ⟨ρ', g1, g2, g3⟩ := hq; have g2 : E = .normal := g2; subst g2; exact ⟨ρ', g1, rfl, g3⟩
    | ret => obtain ⟨ρ', g1, g2, g3⟩ := hq; have g2 : E = .ret := g2; subst g2; exact ⟨ρ', g1, rfl, g3⟩
    | pan v => obtain ⟨ρ', g1, ⟨X, rfl, g2⟩, g3⟩ := hq; exact ⟨ρ', g1, ⟨X, rfl, g2⟩, g3⟩

theorem loop_sound {b : Code} {fb : Cfg → Option (EExit × Cfg)} (hb : CodeOK P ro r n b fb) (fuel : Nat) : CodeOK P ro r n (.loop b) (iterE fb fuel) := by
  intro c e c' h base ρ0 w0 ρ A w h0 h1 h2 hr
  refine wpIn_loop_rounds fuel ?_
  induction fuel generalizing c ρ A w with
  | zero => cases h
  | succ m ih =>
    rw [roundsIn_succ]
    have h : (match fb c with | some (.normal, c') => iterE fb m c' | r => r) = some (e, c') := h
    split at h
    · rename_i c1 hc1
      refine wpIn_mono (hb c _ _ hc1 base ρ0 w0 ρ A w h0 h1 h2 hr) ?_
      rintro E A1 w1 ⟨ρ', g1, g2, g3, g4, g5, g6⟩
      have g2 : E = .normal := g2
      subst g2
      exact ih c1 h ρ' A1 w1 g1 g6 ⟨g3, g4, g5⟩
    · rename_i hne
      refine wpIn_mono (hb c e c' h base ρ0 w0 ρ A w h0 h1 h2 hr) ?_
      intro E A1 w1 hq
      cases e with
      | normal => exact absurd h (hne c')
      | exit id => obtain ⟨ρ', g1, g2, g3⟩ := hq; have g2 : E = .exit id := g2; subst g2; exact ⟨ρ', g1, rfl, g3⟩
      | ret => obtain ⟨ρ', g1, g2, g3⟩ := hq; have g2 : E = .ret := g2; subst g2; exact ⟨ρ', g1, rfl, g3⟩
      | pan v => obtain ⟨ρ', g1, ⟨X, rfl, g2⟩, g3⟩ := hq; exact ⟨ρ', g1, ⟨X, rfl, g2⟩, g3⟩
end
end Go.Eng
end

section
namespace Go.Eng
open Go.RowKit (Below)
set_option linter.unusedSimpArgs false
set_option linter.unusedVariables false

section
variable {P : Program} {self : ESelf} {ro r : Option Nat} {n : Nat}

theorem range_sound (hs : SelfOK P self) (f : Operand) (ps : Array Tmp) (assign body : Code) : CodeOK P ro r n (.rangeFunc f ps assign body) (rangeE P self ro f ps assign body) := by
  intro c e c' h base ρ0 w0 ρ A w h0 h1 h2 hr
  unfold rangeE at h
  split at h
  · cases h
  rename_i s1 d marks hopen
  -- the statement is entered
  have hent : ∃ ρ1 w1 MARKS D, ρ.le ρ1 ∧ SRel base ρ1 s1 w1 ∧ Below base w w1 ∧ ρ1 d = some D ∧ DRel ρ1 marks MARKS ∧
      (∀ fn, (Instr.enterLoop fn A.tmps ps assign body r).run P w = .ok (w1.heap.size, MARKS) (w1.alloc (.loop { state := .ready, pending := none, fn, tmps := A.tmps, params := ps, assign, body, defers := D.B }))) := by
    cases ro with
    | none =>
      have h0 : r = none := h0
      subst h0
      cases hopen
      have hle := Env.le_put ⟨w.heap.size, 0, 0⟩ hr.s.fresh
      refine ⟨_, w.alloc (.deferred (some [])), [{ target := .collected w.heap.size, args := #[] }], ⟨w.heap.size, 0, 0⟩, hle, hr.s.new (.dfr false) (.deferred (some [])) 0 rfl rfl, below_new hr.s.le rfl, Env.put_same, ⟨_, _, Env.put_same, rfl, rfl⟩, fun fn => ?_⟩
      have := run_enterLoop_outer (P := P) (w := w) fn A.tmps ps assign body
      rw [World.size_alloc]
      exact this
    | some l0 =>
      obtain ⟨x, hx, rfl⟩ := h0
      have hopen : (match c.st.heap.get l0 with
        | some (.loop r) => some (c.st, r.defers, [])
        | _ => none : Option (St × Nat × List EDef)) = some (s1, d, marks) := hopen
      split at hopen
      · rename_i rl hg
        cases hopen
        obtain ⟨y, hy, _, L, D, l1, l2, l3, l4, l5, l6, l7, l8, l9⟩ := hr.s.obj' hg (h1.sub _ _ hx)
        rw [h1.sub _ _ hx] at hy; cases hy
        refine ⟨ρ, w, [], D, ρ.le_refl, hr.s, Below.refl _ _, l8, rfl, fun fn => ?_⟩
        rw [← l9]
        exact run_enterLoop_inner l1 fn A.tmps ps assign body
      · cases hopen
  obtain ⟨ρ1, w1, MARKS, D, g1, g2, g3, g4, g5, g6⟩ := hent
  split at h
  · rename_i g first cap hf
    cases hbo : bodyOK P g with
    | false => simp [hbo] at h
    | true =>
    simp only [hbo, cond_true] at h
    -- the record
    have hle2 := Env.le_put ⟨w1.heap.size, 0, 0⟩ g2.fresh
    have hf' := evF_rel hr.f f _ hf
    have hf2 := VRel.mono (Env.le_trans g1 hle2) _ _ hf'
    simp only [VRel] at hf2
    obtain ⟨A1, C1, e1, e2, e3⟩ := hf2
    refine wpIn_rangeFunc fun fn _ => ?_
    let L : Loop := { state := .ready, pending := none, fn, tmps := A.tmps, params := ps, assign, body, defers := D.B }
    let w2 : World := w1.alloc (.loop L)
    have hS2 : SRel base (ρ1.put s1.next ⟨w1.heap.size, 0, 0⟩) (s1.new (.loop ⟨.ready, none, c.tmps, ps.toList, assign, body, d⟩)) w2 :=
      g2.new _ (.loop L) 0 rfl ⟨L, D, rfl, rfl, rfl, (hr.f.mono g1).mono hle2, rfl, rfl, rfl, hle2.sub _ _ g4, rfl⟩
    have hB2 : Below base w1 w2 := below_new g2.le rfl
    have hargs : LRel (ρ1.put s1.next ⟨w1.heap.size, 0, 0⟩) (lapp (lapp first [.yld s1.next]) cap) (A1 ++ #[Value.func (.yield w1.heap.size) #[] #[]] ++ C1).toList := by
      rw [lapp_eq, lapp_eq]
      simp only [Array.toList_append]
      exact (e2.append (LRel.cons (by simp only [VRel]; exact ⟨_, _, _, Env.put_same, rfl⟩) LRel.nil)).append e3
    have hself : ∃ ee s2, self (.fn g (lapp (lapp first [.yld s1.next]) cap)) (s1.new (.loop ⟨.ready, none, c.tmps, ps.toList, assign, body, d⟩)) = some (ee, s2) := by
      cases hh : self (.fn g (lapp (lapp first [.yld s1.next]) cap)) (s1.new (.loop ⟨.ready, none, c.tmps, ps.toList, assign, body, d⟩)) with
      | none => rw [hh] at h; cases h
      | some p => exact ⟨p.1, p.2, rfl⟩
    obtain ⟨ee, s2, hself⟩ := hself
    rw [hself] at h
    refine ⟨w1.heap.size, MARKS, w2, { target := .fn (.func g) C1, args := A1 ++ #[Value.func (.yield w1.heap.size) #[] #[]] }, w2, g, _, w2, g6 fn, ?_, fun _ _ => RF_fn _ _, ?_, fun hh => by simp [RF_depth] at hh, callsIn_RF ((hs _ _ _ _ hself base _ w2 hS2 (n - 1) _ hargs).mono ?_)⟩
    · have em : Array.map A.eval #[Operand.const (Value.func (.yield w1.heap.size) #[] #[])] = #[Value.func (.yield w1.heap.size) #[] #[]] := by simp [Act.eval]
      simp only [resolve, rangeCall, e1, Deferred.ofValue, Sem.run_pure, em]
    · simp only [invoke]
      exact run_callFunc hbo _
    · rintro E w3 ⟨ρ3, k1, k2, k3, k4⟩
      have hle3 : ρ.le ρ3 := Env.le_trans g1 (Env.le_trans hle2 k1)
      have hB3 : Below base w w3 := (g3.trans hB2).trans k4
      have hmarks : DRel ρ3 (marks ++ c.defers) (MARKS ++ A.defers) := by
        have m1 := g5.mono (Env.le_trans hle2 k1)
        have m2 := hr.d.mono hle3
        clear h hopen
        revert m1
        generalize marks = ms
        generalize MARKS = MS
        induction ms generalizing MS with
        | nil => intro m1; have m1 : MS = [] := m1; subst m1; exact m2
        | cons a ms ih =>
          intro m1
          cases a with
          | mark k => obtain ⟨x, Y, q1, rfl, q2⟩ := m1; exact ⟨x, Y ++ A.defers, q1, rfl, ih Y q2⟩
          | call k a b => obtain ⟨A', C', Y, rfl, q1, q2, q3⟩ := m1; exact ⟨A', C', Y ++ A.defers, rfl, q1, q2, ih Y q3⟩
      cases ee with
      | pan v =>
        obtain ⟨X, rfl, k5⟩ := k2
        simp only at h
        cases h
        exact CPost.mk (Env.le_trans h1 hle3) (h2.trans hB3) ⟨hr.f.mono hle3, hmarks, k3⟩ ⟨X, rfl, k5⟩
      | ret v =>
        obtain ⟨X, rfl, k5⟩ := k2
        simp only at h
        split at h
        · rename_i rl hg
          have hnb : rl.state ≠ .busy := by intro e; rw [e] at h; cases h
          have h : (match jumpE rl.pending with
              | some e => some (e, (⟨c.tmps, marks ++ c.defers, s2.upd s1.next (.loop { rl with state := .exhausted })⟩ : Cfg))
              | none => none) = some (e, c') := by
            cases hst : rl.state <;> rw [hst] at h <;> first | exact absurd hst hnb | exact h
          have hy2 : ρ3 s1.next = some ⟨w1.heap.size, 0, 0⟩ := k1.sub _ _ Env.put_same
          obtain ⟨y, hy, _, L3, D3, l1, l2, l3, l4, l5, l6, l7, l8, l9⟩ := k3.obj' hg hy2
          rw [hy2] at hy; cases hy
          simp only at l1
          have hend := run_endLoop (P := P) l1 (by rw [l2]; exact hnb)
          have hS4 : SRel base ρ3 (s2.upd s1.next (.loop { rl with state := .exhausted })) (w3.putObj w1.heap.size (.loop { L3 with state := .exhausted })) :=
            k3.upd hg hy2 _ (.loop { L3 with state := .exhausted }) rfl ⟨_, D3, rfl, rfl, l3, l4, l5, l6, l7, l8, l9⟩
          have hB4 : Below base w (w3.putObj w1.heap.size (.loop { L3 with state := .exhausted })) := hB3.trans (below_set g2.le rfl)
          have hrel : Rel base ρ3 ⟨c.tmps, marks ++ c.defers, s2.upd s1.next (.loop { rl with state := .exhausted })⟩ { A with defers := MARKS ++ A.defers } (w3.putObj w1.heap.size (.loop { L3 with state := .exhausted })) :=
            ⟨hr.f.mono hle3, hmarks, hS4⟩
          generalize (⟨c.tmps, marks ++ c.defers, s2.upd s1.next (.loop { rl with state := .exhausted })⟩ : Cfg) = c4 at h hrel
          refine ⟨_, _, hend, ?_⟩
          split
          · rename_i hj
            rw [← l3, hj] at h
            simp only [jumpE] at h
            cases h
            exact CPost.mk (Env.le_trans h1 hle3) (h2.trans hB4) hrel rfl
          · rename_i j hj
            rw [← l3, hj] at h
            cases j <;> simp only [jumpE, reduceCtorEq] at h
            · cases h
              exact wpIn_exit (CPost.mk (Env.le_trans h1 hle3) (h2.trans hB4) hrel rfl)
            · cases h
              exact wpIn_ret (CPost.mk (Env.le_trans h1 hle3) (h2.trans hB4) hrel rfl)
        · cases h
  · cases h

theorem code_sound (hs : SelfOK P self) (fuel : Nat) : ∀ x : Code, CodeOK P ro r n x (runF (compC P self fuel ro x))
  | .skip => fun c e c' h base ρ0 w0 ρ A w h0 h1 h2 hr => by
    have h : some (EExit.normal, c) = some (e, c') := h
    cases h
    exact wpIn_skip (CPost.mk h1 h2 hr rfl)
  | .label l => fun c e c' h base ρ0 w0 ρ A w h0 h1 h2 hr => by
    have h : some (EExit.normal, c) = some (e, c') := h
    cases h
    exact wpIn_label (CPost.mk h1 h2 hr rfl)
  | .ret => fun c e c' h base ρ0 w0 ρ A w h0 h1 h2 hr => by
    have h : some (EExit.ret, c) = some (e, c') := h
    cases h
    exact wpIn_ret (CPost.mk h1 h2 hr rfl)
  | .exit id => fun c e c' h base ρ0 w0 ρ A w h0 h1 h2 hr => by
    have h : some (EExit.exit id, c) = some (e, c') := h
    cases h
    exact wpIn_exit (CPost.mk h1 h2 hr rfl)
  | .goto l => fun c e c' h base ρ0 w0 ρ A w h0 h1 h2 hr => by
    have h : none = some (e, c') := h
    cases h
  | .scope b => scope_sound (code_sound hs fuel b)
  | .refuse why => fun c e c' h base ρ0 w0 ρ A w h0 h1 h2 hr => by
    have h : none = some (e, c') := h
    cases h
  | .region id ops draw => region_sound hs id ops draw
  | .seq a b => seq_sound (code_sound hs fuel a) (code_sound hs fuel b)
  | .cond x a b => cond_sound (code_sound hs fuel a) (code_sound hs fuel b)
  | .block id b => block_sound (code_sound hs fuel b)
  | .loop b => loop_sound (code_sound hs fuel b) fuel
  | .rangeFunc f ps assign body => range_sound hs f ps assign body

theorem params_rel {ρ : Env} : ∀ (ps : List Tmp) {vs : List V} {As : List Value}, LRel ρ vs As → ∀ {f : Frm} {T : Array Value}, FRel ρ f T →
    FRel ρ (setParams f ps vs) ((ps.zip As).foldl (fun (tmps : Array Value) (x : Tmp × Value) => tmps.setIfInBounds x.1 x.2) T)
  | [], vs, As, h, f, T, hf => by simpa [setParams] using hf
  | p :: ps, [], As, h, f, T, hf => by have h : As = [] := h; subst h; simpa [setParams] using hf
  | p :: ps, v :: vs, As, h, f, T, hf => by
    obtain ⟨X, Y, rfl, h1, h2⟩ := h
    simp only [setParams, List.zip_cons_cons, List.foldl_cons]
    exact params_rel ps h2 (hf.set h1 p)

theorem round_sound (hs : SelfOK P self) (fuel l : Nat) (args : List V) (s : St) (e : EEnd) (s' : St) (h : runRound P self fuel l args s = some (e, s')) (base : Nat) (ρ : Env) (w : World) (hS : SRel base ρ s w) (n : Nat)
    (x : Blk) (L : Loop) (A : Array Value) (hx : ρ l = some x) (hL : w.heap[x.B]? = some (.loop L)) (hA : LRel ρ args A.toList) :
    RoundIn Fence.wide n P x.B L.fn ((L.params.zip A).foldl (fun tmps (t, a) => tmps.setIfInBounds t a) L.tmps) L.assign L.body w (Post base ρ w e s') := by
  unfold runRound at h
  split at h
  · rename_i rl hg
    obtain ⟨y, hy, hbase, L', D, l1, l2, l3, l4, l5, l6, l7, l8, l9⟩ := hS.obj' hg hx
    rw [hx] at hy; cases hy
    rw [hL] at l1
    cases l1
    have hfr : FRel ρ (setParams rl.tmps rl.params args) ((L.params.zip A).foldl (fun tmps (t, a) => tmps.setIfInBounds t a) L.tmps) := by
      have := params_rel rl.params hA l4
      rw [← l5] at this ⊢
      rw [← Array.foldl_toList, Array.toList_zip]
      exact this
    split at h
    · rename_i c1 hc1
      split at h
      · rename_i r1 hg1
        split at h
        · rename_i hst
          refine roundIn_of_wpIn trivial ?_
          have hrr : RR ρ (some l) (some x.B) := ⟨x, hx, rfl⟩
          rw [l6, l7]
          refine wpIn_mono (F := RF (some x.B)) (code_sound hs fuel rl.assign _ _ _ hc1 base ρ w ρ { tmps := _, defers := [] } w hrr ρ.le_refl (Below.refl _ _) ⟨hfr, rfl, hS⟩) ?_
          rintro E A1 w1 ⟨ρ1, g1, g2, g3, g4, g5, g6⟩
          have g2 : E = .normal := g2
          subst g2
          have hx1 : ρ1 l = some x := g1.sub _ _ hx
          obtain ⟨y1, hy1, hb1, L1, D1, q1, q2, q3, q4, q5, q6, q7, q8, q9⟩ := g5.obj' hg1 hx1
          rw [hx1] at hy1; cases hy1
          refine ⟨_, run_beginRound q1 (by rw [q2]; exact hst), ?_⟩
          have hS2 : SRel base ρ1 (c1.st.upd l (.loop { r1 with state := .busy })) (w1.putObj x.B (.loop { L1 with state := .busy })) :=
            g5.upd hg1 hx1 _ (.loop { L1 with state := .busy }) rfl ⟨_, D1, rfl, rfl, q3, q4, q5, q6, q7, q8, q9⟩
          have hB2 : Below base w (w1.putObj x.B (.loop { L1 with state := .busy })) := g6.trans (below_set hbase rfl)
          split at h
          · rename_i e2 c2 hc2
            refine wpIn_mono (F := RF (some x.B)) (code_sound hs fuel rl.body _ _ _ hc2 base ρ w ρ1 A1 _ hrr g1 hB2 ⟨g3, g4, hS2⟩) ?_
            rintro E2 A2 w2 ⟨ρ2, k1, k2, k3, k4, k5, k6⟩
            split at h
            · rename_i r2 hg2
              have hx2 : ρ2 l = some x := k1.sub _ _ hx
              obtain ⟨y2, hy2, hb2, L2, D2, t1, t2, t3, t4, t5, t6, t7, t8, t9⟩ := k5.obj' hg2 hx2
              rw [hx2] at hy2; cases hy2
              cases e2 with
              | normal =>
                have k2 : E2 = .normal := k2
                subst k2
                simp only at h
                cases h
                refine ⟨_, _, run_endRound none t1, ρ2, k1, ⟨_, rfl, by simp only [VRel]; rfl⟩, ?_, k6.trans (below_set hbase rfl)⟩
                exact k5.upd hg2 hx2 _ (.loop _) rfl ⟨_, D2, rfl, rfl, rfl, t4, t5, t6, t7, t8, t9⟩
              | ret =>
                have k2 : E2 = .ret := k2
                subst k2
                simp only at h
                cases h
                refine ⟨_, _, run_endRound (some .ret) t1, ρ2, k1, ⟨_, rfl, by simp only [VRel]; rfl⟩, ?_, k6.trans (below_set hbase rfl)⟩
                exact k5.upd hg2 hx2 _ (.loop _) rfl ⟨_, D2, rfl, rfl, rfl, t4, t5, t6, t7, t8, t9⟩
              | exit id =>
                have k2 : E2 = .exit id := k2
                subst k2
                simp only at h
                cases h
                refine ⟨_, _, run_endRound (some (.exit id)) t1, ρ2, k1, ⟨_, rfl, by simp only [VRel]; rfl⟩, ?_, k6.trans (below_set hbase rfl)⟩
                exact k5.upd hg2 hx2 _ (.loop _) rfl ⟨_, D2, rfl, rfl, rfl, t4, t5, t6, t7, t8, t9⟩
              | pan v => simp only at h; cases h
            · cases h
          · cases h
        · cases h
      · cases h
    · cases h
  · cases h


def resVar (T : Array Value) : ResultVar → Sem Value
  | .tmp t => pure (T.getD t undef)
  | .cell a t => do loadVar t (← asAddr (T.getD a undef))
theorem FRelA.get {ρ : Env} {f : Frm} {A : Array Value} (h : FRelA ρ f A) (k : Nat) (hk : f.get k ≠ .any) : VRel ρ (f.get k) (A.getD k undef) := by
  obtain ⟨h1, d, h2, h3, h4⟩ := h
  rw [Frm.get_eq, blt_iff] at hk ⊢
  rw [Array.getD_eq_getD_getElem?]
  by_cases hl : k < f.n
  · rw [decide_eq_true hl] at hk ⊢
    have hk' : k < A.size := by omega
    have := h4 k A[k] (Array.getElem?_eq_getElem hk')
    rw [Array.getElem?_eq_getElem hk']
    exact this.resolve_left hk
  · rw [decide_eq_false hl]
    have hk' : A.size ≤ k := by omega
    rw [Array.getElem?_eq_none hk']
    show VRel ρ .undef (.tuple #[])
    simp only [VRel]
theorem results_rel {base : Nat} {ρ : Env} {s : St} {w : World} (h : SRel base ρ s w) {f : Frm} {T : Array Value} (hf : FRelA ρ f T) : ∀ {rs : List ResultVar} {l : List V}, resultsE P s f rs = some l →
    ∃ L : List Value, (rs.mapM (resVar T)).run P w = .ok L w ∧ LRel ρ l L
  | [], l, hq => by simp only [resultsE] at hq; cases hq; exact ⟨[], by simp, LRel.nil⟩
  | .tmp t :: rs, l, hq => by
    simp only [resultsE] at hq
    split at hq
    · rename_i l' hl
      split at hq
      · cases hq
      rename_i hne
      cases hq
      obtain ⟨L, h1, h2⟩ := results_rel h hf hl
      exact ⟨T.getD t undef :: L, by simp only [List.mapM_cons, resVar, Sem.run_bind, Sem.run_pure, Result.andThen_ok, h1], LRel.cons (hf.get t hne) h2⟩
    · cases hq
  | .cell a t :: rs, l, hq => by
    simp only [resultsE] at hq
    split at hq
    · rename_i v hv
      split at hq
      · rename_i l' hl
        cases hq
        obtain ⟨L, h1, h2⟩ := results_rel h hf hl
        have ha := hf.get a (fun e => by rw [e] at hv; cases hv)
        obtain ⟨X, h3, h4⟩ := qLoad_rel (P := P) h hv ha
        have hp : ∃ ad, T.getD a undef = .pointer (some ad) := by
          unfold qLoad at hv
          split at hv
          · rename_i e
            rw [e] at ha
            simp only [VRel] at ha
            obtain ⟨B, O, S, _, e2⟩ := ha
            exact ⟨_, e2⟩
          · cases hv
        obtain ⟨ad, hp⟩ := hp
        rw [hp] at h3
        have h5 : (loadVar t ad).run P w = .ok X w := h3
        refine ⟨X :: L, ?_, LRel.cons h4 h2⟩
        simp only [List.mapM_cons, resVar, Sem.run_bind, Sem.run_pure, Result.andThen_ok, h1, hp, asAddr, h5]
      · cases hq
    · cases hq

theorem result_rel {base : Nat} {ρ : Env} {s : St} {w : World} (h : SRel base ρ s w) {f : Frm} {T : Array Value} (hf : FRelA ρ f T) {fn : Func} {v : V} (hq : resultE P s f fn.results.toList = some v) :
    ∃ X, (results fn T).run P w = .ok X w ∧ VRel ρ v X := by
  unfold resultE at hq
  have key : ∀ l, resultsE P s f fn.results.toList = some l → ∃ L : List Value, LRel ρ l L ∧ (results fn T).run P w = .ok (if h : L.toArray.size = 1 then L.toArray[0] else .tuple L.toArray) w := by
    intro l hl
    obtain ⟨L, h1, h2⟩ := results_rel (P := P) h hf hl
    refine ⟨L, h2, ?_⟩
    have e : results fn T = (do
        let vs ← fn.results.mapM (resVar T)
        pure (if h : vs.size = 1 then vs[0] else .tuple vs)) := by
      unfold results
      congr 1
    rw [e]
    simp only [Sem.run_bind, Array.mapM_eq_mapM_toList, Sem.run_map, h1, Result.andThen_ok, Sem.run_pure]
  split at hq
  · rename_i v' hl
    cases hq
    obtain ⟨L, h1, h2⟩ := key _ hl
    obtain ⟨X, Y, rfl, h3, h4⟩ := h1
    have h4 : Y = [] := h4
    subst h4
    exact ⟨X, by simpa using h2, h3⟩
  · rename_i l hne hl
    cases hq
    obtain ⟨L, h1, h2⟩ := key _ hl
    have hlen := h1.length
    have hne1 : ¬ L.toArray.size = 1 := by
      intro e
      simp only [List.size_toArray] at e
      rw [e] at hlen
      obtain ⟨a, rfl⟩ := List.length_eq_one_iff.1 hlen
      exact hne a rfl
    refine ⟨.tuple L.toArray, by rw [h2, dif_neg hne1], ?_⟩
    cases l with
    | nil =>
      have h1 : L = [] := h1
      subst h1
      simp only [VRel]
    | cons a l => simp only [VRel]; exact ⟨_, rfl, by simpa using h1⟩
  · cases hq

def DMRel (ρ : Env) : DM → FrameMode → Prop
  | none, u => u = .returning
  | some (v, b), u => ∃ X, u = .panicking [{ v := X, recovered := b }] ∧ VRel ρ v X
theorem DMRel.mono {ρ ρ' : Env} (h : ρ.le ρ') : ∀ {m : DM} {u : FrameMode}, DMRel ρ m u → DMRel ρ' m u
  | none, _, r => r
  | some _, _, ⟨X, h1, h2⟩ => ⟨X, h1, VRel.mono h _ _ h2⟩
theorem DMRel.settle {ρ : Env} : ∀ {m : DM} {u : FrameMode}, DMRel ρ m u → DMRel ρ (settleE m) (settle u)
  | none, _, r => by have r : _ = _ := r; subst r; rfl
  | some (v, false), _, ⟨X, h1, h2⟩ => by subst h1; exact ⟨X, rfl, h2⟩
  | some (v, true), _, ⟨X, h1, h2⟩ => by subst h1; rfl
theorem DMRel.run {ρ : Env} : ∀ {m : DM} {u : FrameMode}, DMRel ρ m u → u ≠ .run
  | none, _, r => by have r : _ = _ := r; subst r; simp
  | some (v, b), _, ⟨X, h1, h2⟩ => by subst h1; simp
def DPost (base : Nat) (ρ : Env) (w : World) (e : EExit) (c' : Cfg) (m' : DM) (c₀ : Frame) (cs : List Frame) : Exit → Act → List Frame → World → Prop :=
  fun E A' cs' w' => ∃ ρ' u', ρ.le ρ' ∧ XRel ρ' e E ∧ Rel base ρ' c' A' w' ∧ Below base w w' ∧ cs' = { c₀ with mode := u' } :: cs ∧ DMRel ρ' m' u'
def CodeDOK (P : Program) (n : Nat) (x : Code) (f : Cfg → DM → Option (EExit × Cfg × DM)) : Prop :=
  ∀ c m e c' m', f c m = some (e, c', m') → ∀ base ρ0 w0 ρ A w (c₀ : Frame) (cs : List Frame), ρ0.le ρ → Below base w0 w → Rel base ρ c A w → DMRel ρ m c₀.mode →
    x.wpSIn Fence.wide n P (DPost base ρ0 w0 e c' m' c₀ cs) A (c₀ :: cs) w
theorem wpSIn_mono {F : Fence} {c : Code} {Q Q' : Exit → Act → List Frame → World → Prop} {a : Act} {cs : List Frame} {w : World} (h : c.wpSIn F n P Q a cs w) (hq : ∀ e a cs w, Q e a cs w → Q' e a cs w) : c.wpSIn F n P Q' a cs w :=
  fun b k hb hr hF hroom => let ⟨e, a', cs', w', l, q, r⟩ := h b k hb hr hF hroom; ⟨e, a', cs', w', l, hq _ _ _ _ q, r⟩
theorem plain_sound {x : Code} {f : Cfg → Option (EExit × Cfg)} (hx : CodeOK P none none n x f) : CodeDOK P n x fun c m => withD m (f c) := by
  intro c m e c' m' h base ρ0 w0 ρ A w c₀ cs h1 h2 hr hm
  cases hf : f c with
  | none => simp [hf, withD] at h
  | some p =>
    obtain ⟨e1, c1⟩ := p
    have hnp : ∀ v, e1 ≠ .pan v := fun v ev => by subst ev; simp [hf, withD] at h
    have h : some (e1, c1, m) = some (e, c', m') := by
      cases e1 with
      | pan v => exact absurd rfl (hnp v)
      | _ => simpa [hf, withD] using h
    simp only [Option.some.injEq, Prod.mk.injEq] at h
    obtain ⟨rfl, rfl, rfl⟩ := h
    refine wpSIn_of_wpIn rfl (wpIn_mono (F := RF none) (hx c _ _ hf base ρ w ρ A w rfl ρ.le_refl (Below.refl _ _) hr) ?_)
    rintro E A1 w1 ⟨ρ', g1, g2, g3, g4, g5, g6⟩
    have g3 : FRel ρ' c1.tmps A1.tmps := by
      cases e1 with
      | pan v => exact absurd rfl (hnp v)
      | _ => exact g3
    exact ⟨ρ', c₀.mode, Env.le_trans h1 g1, g2, ⟨g3, g4, g5⟩, h2.trans g6, rfl, hm.mono g1⟩

theorem run_rec {A : Act} {o : Oper} (h : isRec o.op = true) {w : World} : (execOp A.eval o).run P w = .ok .recover w := by
  unfold isRec at h
  split at h
  · rename_i cl ho
    split at h
    · rename_i hc
      have ha : cl.args = #[] := by simpa using h
      unfold execOp
      simp [ho, resolve, hc, invoke, Go.builtin, ha]
    · cases h
  · cases h
theorem rec_sound (ops : Array Oper) : ∀ (l : List Oper) (idx : List Nat), idx.map (ops[·]?) = l.map some → ∀ c m e c' m', recE P l c m = some (e, c', m') →
    ∀ base ρ0 w0 ρ A w (c₀ : Frame) (cs : List Frame), ρ0.le ρ → Below base w0 w → Rel base ρ c A w → DMRel ρ m c₀.mode → wpOpsSIn Fence.wide n P ops (DPost base ρ0 w0 e c' m' c₀ cs) idx A (c₀ :: cs) w := by
  intro l
  induction l with
  | nil =>
    intro idx hi c m e c' m' h base ρ0 w0 ρ A w c₀ cs h1 h2 hr hm
    have hi : idx = [] := by simpa using hi
    subst hi
    simp only [recE] at h
    cases h
    exact ⟨ρ, c₀.mode, h1, rfl, hr, h2, rfl, hm⟩
  | cons o l ih =>
    intro idx hi c m e c' m' h base ρ0 w0 ρ A w c₀ cs h1 h2 hr hm
    cases idx with
    | nil => simp at hi
    | cons i idx =>
    simp only [List.map_cons, List.cons.injEq] at hi
    obtain ⟨hio, hi⟩ := hi
    simp only [recE] at h
    split at h
    · cases h
    rename_i hg
    have hw : Region.wanted o (yielded ops A.tmps) = true := by unfold Region.wanted; rw [hg]
    simp only [wpOpsSIn, hio, hw, if_true]
    refine ⟨fun f' _ => trivial, ?_⟩
    cases hrec : isRec o.op with
    | true =>
      rw [hrec, cond_true] at h
      rw [run_rec hrec]
      simp only
      split at h
      · rename_i v
        obtain ⟨X, hu, hX⟩ := hm
        have e1 : recoverD (c₀ :: cs) = some (X, { c₀ with mode := .panicking [{ v := X, recovered := true }] } :: cs) := by simp [recoverD, hu]
        rw [e1]
        exact ih idx hi _ _ e c' m' h base ρ0 w0 ρ _ w { c₀ with mode := .panicking [{ v := X, recovered := true }] } cs h1 h2 ⟨putE_rel hr.f hX o.dst, by rw [put_defers]; exact hr.d, hr.s⟩ ⟨X, rfl, hX⟩
      · rename_i m1 hne
        have e1 : recoverD (c₀ :: cs) = none := by
          cases m with
          | none => have hm : _ = _ := hm; simp [recoverD, hm]
          | some p =>
            obtain ⟨v, b⟩ := p
            cases b with
            | false => exact absurd rfl (hne v)
            | true => obtain ⟨X, hu, hX⟩ := hm; simp [recoverD, hu]
        rw [e1]
        exact ih idx hi _ _ e c' m' h base ρ0 w0 ρ _ w c₀ cs h1 h2 ⟨putE_rel hr.f (by simp only [VRel]) o.dst, by rw [put_defers]; exact hr.d, hr.s⟩ hm
    | false =>
      rw [hrec, cond_false] at h
      split at h
      · rename_i v hv
        obtain ⟨X, g1, g2⟩ := qop_rel hr.s (evF_rel hr.f) hv
        rw [g1]
        exact ih idx hi _ _ e c' m' h base ρ0 w0 ρ _ w c₀ cs h1 h2 ⟨putE_rel hr.f g2 o.dst, by rw [put_defers]; exact hr.d, hr.s⟩ hm
      · cases h

theorem seqD_sound {a b : Code} {fa fb : Cfg → DM → Option (EExit × Cfg × DM)} (ha : CodeDOK P n a fa) (hb : CodeDOK P n b fb) : CodeDOK P n (.seq a b) (seqD fa fb) := by
  intro c m e c' m' h base ρ0 w0 ρ A w c₀ cs h1 h2 hr hm
  refine wpSIn_seq ?_
  unfold seqD at h
  split at h
  · rename_i c1 m1 hc1
    refine wpSIn_mono (ha c m _ _ _ hc1 base ρ0 w0 ρ A w c₀ cs h1 h2 hr hm) ?_
    rintro E A1 cs1 w1 ⟨ρ', u', g1, g2, g3, g4, rfl, g5⟩
    have g2 : E = .normal := g2
    subst g2
    exact hb c1 m1 e c' m' h base ρ0 w0 ρ' A1 w1 { c₀ with mode := u' } cs g1 g4 g3 g5
  · rename_i hne
    refine wpSIn_mono (ha c m e c' m' h base ρ0 w0 ρ A w c₀ cs h1 h2 hr hm) ?_
    rintro E A1 cs1 w1 hp
    cases E with
    | normal =>
      obtain ⟨ρ', u', g1, g2, g3, g4, rfl, g5⟩ := hp
      cases e with
      | normal => exact absurd h (hne c' m')
      | exit id => cases g2
      | ret => cases g2
      | pan v => obtain ⟨X, g2, _⟩ := g2; cases g2
    | _ => exact hp

theorem condD_sound {x : Operand} {a b : Code} {fa fb : Cfg → DM → Option (EExit × Cfg × DM)} (ha : CodeDOK P n a fa) (hb : CodeDOK P n b fb) : CodeDOK P n (.cond x a b) (condD x fa fb) := by
  intro c m e c' m' h base ρ0 w0 ρ A w c₀ cs h1 h2 hr hm
  unfold condD at h
  split at h
  · rename_i hx
    have := evF_rel hr.f _ _ hx
    simp only [VRel] at this
    exact wpSIn_cond this (ha c m e c' m' h base ρ0 w0 ρ A w c₀ cs h1 h2 hr hm)
  · rename_i hx
    have := evF_rel hr.f _ _ hx
    simp only [VRel] at this
    exact wpSIn_cond this (hb c m e c' m' h base ρ0 w0 ρ A w c₀ cs h1 h2 hr hm)
  · cases h

theorem codeD_sound (hs : SelfOK P self) (fuel : Nat) : ∀ x : Code, CodeDOK P n x (runD (compD P self fuel x))
  | .skip => plain_sound (code_sound hs fuel .skip)
  | .label l => plain_sound (code_sound hs fuel (.label l))
  | .ret => plain_sound (code_sound hs fuel .ret)
  | .exit id => plain_sound (code_sound hs fuel (.exit id))
  | .goto l => plain_sound (code_sound hs fuel (.goto l))
  | .scope b => plain_sound (code_sound hs fuel (.scope b))
  | .refuse why => plain_sound (code_sound hs fuel (.refuse why))
  | .region id ops true => plain_sound (code_sound hs fuel (.region id ops true))
  | .region id ops false => by
    intro c m e c' m' h base ρ0 w0 ρ A w c₀ cs h1 h2 hr hm
    have h : (bif hasRec ops.toList then recE P ops.toList c m else withD m (runCode P self fuel none (.region id ops false) c)) = some (e, c', m') := h
    cases hd : hasRec ops.toList with
    | true =>
      rw [hd, cond_true] at h
      exact wpSIn_region (rec_sound ops ops.toList _ (range_map ops) c m e c' m' h base ρ0 w0 ρ A w c₀ cs h1 h2 hr hm)
    | false =>
      rw [hd, cond_false] at h
      exact plain_sound (code_sound hs fuel (.region id ops false)) c m e c' m' h base ρ0 w0 ρ A w c₀ cs h1 h2 hr hm
  | .seq a b => seqD_sound (codeD_sound hs fuel a) (codeD_sound hs fuel b)
  | .cond x a b => condD_sound (codeD_sound hs fuel a) (codeD_sound hs fuel b)
  | .block id b => plain_sound (code_sound hs fuel (.block id b))
  | .loop b => plain_sound (code_sound hs fuel (.loop b))
  | .rangeFunc f ps assign body => plain_sound (code_sound hs fuel (.rangeFunc f ps assign body))

theorem hOf_le {n : Nat} (h : n ≤ 4096) : n ≤ 2 ^ hOf n := by
  unfold hOf
  have bl : ∀ a b : Nat, Nat.ble a b = decide (a ≤ b) := by intro a b; rw [Bool.eq_iff_iff]; simp
  simp only [bl]
  by_cases h1 : n ≤ 1
  · simp [h1]
  by_cases h2 : n ≤ 2
  · simp [h1, h2]
  by_cases h4 : n ≤ 4
  · simp [h1, h2, h4]
  by_cases h8 : n ≤ 8
  · simp [h1, h2, h4, h8]
  by_cases h16 : n ≤ 16
  · simp [h1, h2, h4, h8, h16]
  by_cases h32 : n ≤ 32
  · simp [h1, h2, h4, h8, h16, h32]
  by_cases h64 : n ≤ 64
  · simp [h1, h2, h4, h8, h16, h32, h64]
  by_cases h128 : n ≤ 128
  · simp [h1, h2, h4, h8, h16, h32, h64, h128]
  by_cases h256 : n ≤ 256
  · simp [h1, h2, h4, h8, h16, h32, h64, h128, h256]
  by_cases h512 : n ≤ 512
  · simp [h1, h2, h4, h8, h16, h32, h64, h128, h256, h512]
  by_cases h1024 : n ≤ 1024
  · simp [h1, h2, h4, h8, h16, h32, h64, h128, h256, h512, h1024]
  · simp [h1, h2, h4, h8, h16, h32, h64, h128, h256, h512, h1024]; omega

theorem mkFrm_rel {ρ : Env} {args : List V} {A : Array Value} (h : LRel ρ args A.toList) {n : Nat} (hn : args.length ≤ n) (hm : n ≤ 4096) : FRel ρ (mkFrm n args) (A ++ Array.replicate (n - A.size) undef) := by
  have hl := h.length
  simp only [Array.length_toList] at hl
  refine ⟨by simp [mkFrm]; omega, hOf n, B.ofList_full _ _ _, hOf_le hm, fun i X hi => ?_⟩
  have hi2 : i < n := by
    have := (Array.getElem?_eq_some_iff.1 hi).1
    simp at this; omega
  have hle := hOf_le hm
  show VRel ρ ((B.ofList .undef (hOf n) args).get i) X
  rw [B.ofList_get _ _ _ _ (by omega), List.getD_eq_getElem?_getD]
  rw [Array.getElem?_append] at hi
  by_cases hia : i < A.size
  · rw [if_pos hia] at hi
    have e : args[i]? = some args[i] := List.getElem?_eq_getElem (by omega)
    obtain ⟨Y, h1, h2⟩ := h.get e
    simp only [Array.getElem?_toList] at h1
    rw [hi] at h1; cases h1
    rw [e]; exact h2
  · rw [if_neg hia] at hi
    rw [List.getElem?_eq_none (by omega)]
    rw [Array.getElem?_replicate] at hi
    split at hi
    · cases hi
      show VRel ρ .undef (.tuple #[])
      simp only [VRel]
    · cases hi

theorem def_sound (hs : SelfOK P self) (fuel : Nat) {g : FuncId} {args : List V} {m m' : DM} {s s' : St} (h : runDef P self fuel g args m s = some (m', s')) {base : Nat} {ρ : Env} {w : World} (hS : SRel base ρ s w) {A : Array Value}
    (hA : LRel ρ args A.toList) {u : FrameMode} (hm : DMRel ρ m u) {R : Ending → FrameMode → World → Prop}
    (hR : ∀ X u' w' ρ', ρ.le ρ' → SRel base ρ' s' w' → Below base w w' → DMRel ρ' m' u' → R (.returned X) u' w') : CallsDIn Fence.wide n P g A u w R := by
  unfold runDef at h
  split at h
  · rename_i fn hfn
    split at h
    · rename_i c hc
      simp only [llen_eq] at h
      cases hb : (Nat.ble args.length fn.ntmps && Nat.ble fn.ntmps 4096) with
      | false => simp [hb] at h
      | true =>
      simp only [hb, Bool.not_true, cond_false] at h
      simp only [Bool.and_eq_true, Nat.ble_eq] at hb
      have hfr := mkFrm_rel hA hb.1 hb.2
      refine callsDIn_of_wpSIn hfn hc trivial fun c₀ cs hu => ?_
      subst hu
      split at h
      · rename_i e c' m1 hc1
        have hw := codeD_sound (n := n) hs fuel c _ _ _ _ _ hc1 base ρ w ρ { tmps := _, defers := [] } w c₀ cs ρ.le_refl (Below.refl _ _) ⟨hfr, rfl, hS⟩ hm
        have fin : (match c'.defers with
          | [] => match resultE P c'.st c'.tmps fn.results.toList with
            | some _ => some (m1, c'.st)
            | none => none
          | _ :: _ => none) = some (m', s') → ∀ (A1 : Act) (cs1 : List Frame) (w1 : World) (ρ' : Env) (u' : FrameMode), ρ.le ρ' → Rel base ρ' c' A1 w1 → Below base w w1 → cs1 = { c₀ with mode := u' } :: cs → DMRel ρ' m1 u' →
            A1.defers = [] ∧ ∃ u', cs1 = { c₀ with mode := u' } :: cs ∧ ∃ v, (results fn A1.tmps).run P w1 = .ok v w1 ∧ R (.returned v) u' w1 := by
          intro hh A1 cs1 w1 ρ' u' g1 g3 g4 g5 g6
          split at hh
          · rename_i hd
            split at hh
            · rename_i v hv
              cases hh
              obtain ⟨X, q1, q2⟩ := result_rel (P := P) g3.s g3.f.toA hv
              have hdd := g3.d
              rw [hd] at hdd
              exact ⟨hdd, u', g5, X, q1, hR X u' w1 ρ' g1 g3.s g4 g6⟩
            · cases hh
          · cases hh
        refine wpSIn_mono hw ?_
        rintro E A1 cs1 w1 ⟨ρ', u', g1, g2, g3, g4, g5, g6⟩
        split at h
        · have g2 : E = .normal := g2
          subst g2
          exact fin h A1 cs1 w1 ρ' u' g1 g3 g4 g5 g6
        · have g2 : E = .ret := g2
          subst g2
          exact fin h A1 cs1 w1 ρ' u' g1 g3 g4 g5 g6
        · cases h
      · cases h
    · cases h
  · cases h

theorem leave_sound (hs : SelfOK P self) (fuel : Nat) (fn : Func) {f : Frm} {T : Array Value} {base : Nat} {ρ0 : Env} {w0 : World} {e : EEnd} {s' : St} : ∀ (ds : List EDef) (D : List Deferred) (s : St) (w : World) (ρ : Env) (m : DM) (u : FrameMode),
    leaveE P self fuel fn f m ds s = some (e, s') → ρ0.le ρ → Below base w0 w → FRelA ρ f T → SRel base ρ s w → DRel ρ ds D → DMRel ρ m u → LeavesInM Fence.wide n P fn T (Post base ρ0 w0 e s') D u w
  | [], D, s, w, ρ, m, u, h, h1, h2, hf, hS, hD, hm => by
    have hD : D = [] := hD
    subst hD
    simp only [leaveE] at h
    split at h
    · rename_i v
      cases h
      obtain ⟨X, rfl, hX⟩ := hm
      exact ⟨ρ, h1, ⟨X, rfl, hX⟩, hS, h2⟩
    · cases h
    · split at h
      · rename_i v hv
        cases h
        have hm : u = .returning := hm
        subst hm
        obtain ⟨X, g1, g2⟩ := result_rel (P := P) hS hf hv
        exact ⟨X, g1, ρ, h1, ⟨X, rfl, g2⟩, hS, h2⟩
      · cases h
  | .mark k :: ds, D, s, w, ρ, m, u, h, h1, h2, hf, hS, hD, hm => by
    obtain ⟨x, Y, g1, rfl, g2⟩ := hD
    simp only [leaveE] at h
    split at h
    · rename_i hg
      obtain ⟨y, hy, hb, hO⟩ := hS.obj' hg g1
      rw [g1] at hy; cases hy
      have hO : w.heap[x.B]? = some (.deferred (some [])) := hO
      refine ⟨hm.run, .inl ⟨_, _, rfl, run_takeDeferred hO, ?_⟩⟩
      exact leave_sound hs fuel fn ds Y _ _ ρ m u h h1 (h2.trans (below_set hb rfl)) hf (hS.upd hg g1 (.dfr true) (.deferred none) rfl rfl) g2 hm
    · cases h
  | .call g a c :: ds, D, s, w, ρ, m, u, h, h1, h2, hf, hS, hD, hm => by
    obtain ⟨A1, C1, Y, rfl, q1, q2, q3⟩ := hD
    simp only [leaveE] at h
    cases hb : bodyOK P g with
    | false => rw [hb] at h; cases h
    | true =>
      rw [hb, cond_true] at h
      split at h
      · rename_i m1 s1 hd
        have hrun : (invoke (.fn (.func g) C1) A1).run P w = .ok (.enter g (A1 ++ C1)) w := by
          simp only [invoke]
          exact run_callFunc hb _
        refine ⟨hm.run, .inr ⟨fun hh => by simp [Fence.wide] at hh, .func g, C1, g, A1 ++ C1, rfl, hrun, fun _ _ => trivial, ?_⟩⟩
        refine def_sound hs fuel hd hS (by rw [lapp_eq, Array.toList_append]; exact q1.append q2) hm fun X u' w' ρ' g1 g2 g3 g4 => ?_
        exact leave_sound hs fuel fn ds Y s1 w' ρ' _ _ h (Env.le_trans h1 g1) (h2.trans g3) (hf.mono g1) g2 (q3.mono g1) g4.settle
      · cases h

theorem fn_sound (hs : SelfOK P self) (fuel : Nat) (g : FuncId) (args : List V) (s : St) (e : EEnd) (s' : St) (h : runFn P self fuel g args s = some (e, s')) (base : Nat) (ρ : Env) (w : World) (hS : SRel base ρ s w) (n : Nat)
    (A : Array Value) (hA : LRel ρ args A.toList) : CallsIn Fence.wide n P g A w (Post base ρ w e s') := by
  unfold runFn at h
  split at h
  · rename_i fn hfn
    split at h
    · rename_i c hc
      simp only [llen_eq] at h
      cases hb : (Nat.ble args.length fn.ntmps && Nat.ble fn.ntmps 4096) with
      | false => simp [hb] at h
      | true =>
      simp only [hb, Bool.not_true, cond_false] at h
      simp only [Bool.and_eq_true, Nat.ble_eq] at hb
      have hfr := mkFrm_rel hA hb.1 hb.2
      refine callsIn_of_wp_marks hfn hc trivial ?_
      have run : ∀ (e1 : EExit) (c1 : Cfg), runCode P self fuel none c ⟨mkFrm fn.ntmps args, [], s⟩ = some (e1, c1) →
          (∀ (E : Exit) (A1 : Act) (w1 : World), CPost base ρ w e1 c1 E A1 w1 → bodyPostM Fence.wide n P fn (Post base ρ w e s') E A1 w1) →
          c.wpIn Fence.wide n P (bodyPostM Fence.wide n P fn (Post base ρ w e s')) { tmps := A ++ Array.replicate (fn.ntmps - A.size) undef, defers := [] } w := by
        intro e1 c1 h1 h2
        exact wpIn_mono (F := RF none) (code_sound (r := none) (ro := none) hs fuel c _ _ _ h1 base ρ w ρ { tmps := _, defers := [] } w rfl ρ.le_refl (Below.refl _ _) ⟨hfr, rfl, hS⟩) h2
      split at h
      · rename_i c1 h1
        refine run _ _ h1 ?_
        rintro E A1 w1 ⟨ρ1, g1, g2, g3, g4, g5, g6⟩
        have g2 : E = .normal := g2
        subst g2
        exact leave_sound hs fuel fn _ _ _ _ ρ1 none .returning h g1 g6 (FRel.toA g3) g5 g4 rfl
      · rename_i c1 h1
        refine run _ _ h1 ?_
        rintro E A1 w1 ⟨ρ1, g1, g2, g3, g4, g5, g6⟩
        have g2 : E = .ret := g2
        subst g2
        exact leave_sound hs fuel fn _ _ _ _ ρ1 none .returning h g1 g6 (FRel.toA g3) g5 g4 rfl
      · rename_i v c1 h1
        refine run _ _ h1 ?_
        rintro E A1 w1 ⟨ρ1, g1, ⟨X, rfl, g2⟩, g3, g4, g5, g6⟩
        exact leave_sound hs fuel fn _ _ _ _ ρ1 (some (v, false)) _ h g1 g6 g3 g5 g4 ⟨X, rfl, g2⟩
      · cases h
    · cases h
  · cases h

theorem call_sound {known : ESelf} (hk : SelfOK P known) (fuel : Nat) : ∀ d, SelfOK P (callE P known fuel d)
  | 0 => fun t s e s' h => by
    have h : none = some (e, s') := h
    cases h
  | d + 1 => fun t s e s' h base ρ w hS n => by
    have h : (match known t s with
      | some r => some r
      | none => runT P (callE P known fuel d) fuel t s) = some (e, s') := h
    split at h
    · rename_i r hr
      cases h
      exact hk t s e s' hr base ρ w hS n
    · cases t with
      | fn g args => exact fun A hA => fn_sound (call_sound hk fuel d) fuel g args s e s' h base ρ w hS n A hA
      | round l args => exact fun x L A hx hL hA _ => round_sound (call_sound hk fuel d) fuel l args s e s' h base ρ w hS n x L A hx hL hA

def st0 : St := ⟨.leaf, 0⟩
theorem st0_get (b : Nat) (o : EObj) (h : st0.heap.get b = some o) : False := by
  have e : st0.heap.get b = none := T.get_leaf b
  rw [e] at h; cases h
def env0 : Env := ⟨fun _ => none, 0⟩
theorem st0_rel (w : World) : SRel w.heap.size env0 st0 w where
  le := Nat.le_refl _
  obj := fun b o x h => (st0_get b o h).elim
  inj := fun b b' o o' x x' h => (st0_get b o h).elim
  dom := fun b x h => by cases h
  top := Nat.le_refl _

theorem calls_of_eval {known : ESelf} (hk : SelfOK P known) {fuel d : Nat} {g : FuncId} {args : List V} {v : V} {s' : St} (h : callE P known fuel d (.fn g args) st0 = some (.ret v, s')) (w : World) {A : Array Value}
    (hA : LRel env0 args A.toList) : Calls P g A w fun E w' => ∃ ρ' X, E = .returned X ∧ VRel ρ' v X ∧ SRel w.heap.size ρ' s' w' ∧ Below w.heap.size w w' := by
  have := call_sound hk fuel d (.fn g args) st0 (.ret v) s' h w.heap.size _ w (st0_rel w) 0 A hA
  refine (callsIn_wide.1 this).mono ?_
  rintro E w' ⟨ρ', _, ⟨X, rfl, h1⟩, h2, h3⟩
  exact ⟨ρ', X, rfl, h1, h2, h3⟩
end
end Go.Eng
end
