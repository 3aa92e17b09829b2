/-
  Texts of this claim, one behind the other: SymR SymM SymN SymW SymX. Each says its own conditions.
-/
import Derived.Test.YtaloolcabmfjbaaCdrM3
import Derived.LoopNIn
import Derived.RangeFuncNested
import Derived.RecoverIn

set_option linter.unusedVariables false
set_option linter.unusedSimpArgs false
set_option linter.unusedSectionVars false
noncomputable section
namespace Go.Sym

section
variable {P : Program} {self : ESelf} {n : Nat} {r : Option Nat} {M : List (Nat × Nat)} {dead : Nat → Prop}

theorem opOut_sound (hs : SelfOK P self) {own : Own} {ρ : Env} {s s' : St} {w : World} (h : SRel own ρ s w) {ev : Operand → Option V} {A : Act} (hA : EvRel ρ ev A) {o : Oper} {v : V}
  (hq : opOut self (eop P s ev o.op) = some (v, s')) {Q : Exit → Act → World → Prop} {K : Act → World → Prop}
  (hK : ∀ ρ' X w', ρ.le ρ' → VRel ρ' v X → SRel own ρ' s' w' → Fr own w w' → K (A.put o.dst X) w') : o.wpIn (RF r) n P A w K Q := by
 have hru := fun ρ : Env => (VRel.eq_1 ρ (.tuple #[])).mpr rfl
 cases ho : eop P s ev o.op with
 | none => rw [ho] at hq; cases hq
 | some x =>
  obtain ⟨out, s1⟩ := x
  rw [ho] at hq
  have hrel := eop_rel h hA ho
  have hnd : ∀ cc, o.op ≠ .defer cc := fun cc ec => by rw [ec] at ho; cases ho
  refine ⟨fun f' _ => RF_fn _ _, ?_⟩
  rw [Oper.semAt_eq _ _ _ hnd]
  cases out with
  | val v1 =>
   cases hq
   obtain ⟨ρ', X, w', g1, g2, g3, g4, g5⟩ := hrel
   rw [g2, Oper.uponIn_value]
   exact hK ρ' X w' g1 g3 g4 g5
  | skip =>
   cases hq
   obtain ⟨w', g2, g4, g5⟩ := hrel
   rw [g2, Oper.uponIn_skip]
   exact hK ρ _ w' ρ.le_refl (hru ρ) g4 g5
  | pan v1 => cases hq
  | enter t =>
   have hs1 : s1 = s := by
    cases t with
    | fn f' a' => exact hrel.1
    | round l' a' => exact hrel.1
   subst hs1
   simp only [opOut] at hq
   cases hself : self t s1 with
   | none => rw [hself] at hq; cases hq
   | some p =>
    obtain ⟨ee, s2⟩ := p
    rw [hself] at hq
    cases ee with
    | pan v1 => cases hq
    | ret v1 =>
     cases hq
     have hcon := hs t s1 _ _ hself own ρ w h (n - 1)
     have tail : ∀ (E : Ending) (w' : World), Post own ρ w (.ret v) s' E w' →
       (match E, w' with
         | .returned v, w'' => K (A.put o.dst v) w''
         | .panicked chain, w'' => Q (.panic chain) A w''
         | .outgrown, _ => LetsOut Q) := by
      rintro E w' ⟨ρ', g1, ⟨X, rfl, g6⟩, g4, g5⟩
      exact hK ρ' X w' g1 g6 g4 g5
     cases t with
     | fn f' a' =>
      obtain ⟨_, A', g2, g3⟩ := hrel
      rw [g2, Oper.uponIn_enter]
      refine ⟨fun hh => by simp [RF_depth] at hh, (show CallsIn (RF r) _ P _ _ _ _ from (hcon A' g3).mono fun E w' hp => ?_)⟩
      have := tail E w' hp
      cases E <;> exact this
     | round l' a' =>
      obtain ⟨_, x, L, A', g1, g2, g3, g4, g5⟩ := hrel
      rw [g5, Oper.uponIn_round]
      refine ⟨fun hh => by simp [RF_depth] at hh, (show RoundIn (RF r) _ P _ _ _ _ _ _ _ from (hcon x L A' g1 g2 g3 g4).mono fun E w' hp => ?_)⟩
      have := tail E w' hp
      cases E <;> exact this

theorem qop_sound {own : Own} {ρ : Env} {s : St} {w : World} (h : SRel own ρ s w) {ev : Operand → Option V} {A : Act} (hA : EvRel ρ ev A) {o : Oper} {v : V}
  (hq : qopO P s ev o.op = some v) {Q : Exit → Act → World → Prop} {K : Act → World → Prop} (hK : ∀ X, VRel ρ v X → K (A.put o.dst X) w) : o.wpIn (RF r) n P A w K Q := by
 obtain ⟨c, hq, hc⟩ := chkQ_some hq
 have hnd : ∀ cc, o.op ≠ .defer cc := fun cc ec => by rw [ec] at hq; cases hq
 refine ⟨fun f' _ => RF_fn _ _, ?_⟩
 rw [Oper.semAt_eq _ _ _ hnd]
 obtain ⟨X, h1, h2⟩ := qop_rel h hA hq hc
 rw [h1, Oper.uponIn_value]
 exact hK X h2

theorem mk_sound {own : Own} {ρ : Env} {s : St} {w : World} (h : SRel own ρ s w) {ev : Operand → Option V} {A : Act} (hA : EvRel ρ ev A) {o : Oper} {b : Nat} {v : V} (hq : qopM P (some b) s ev o.op = some v)
  (hn : ρ b = none) (hlt : b < s.next) {Q : Exit → Act → World → Prop} {K : Act → World → Prop}
  (hK : ∀ x X w', VRel (ρ.put b x) v X → SRel own (ρ.put b x) s w' → Fr own w w' → K (A.put o.dst X) w') : o.wpIn (RF r) n P A w K Q := by
 simp only [qopM] at hq
 split at hq
 ·rename_i m hm
  cases hat : m.isAt (s.heap.get b) with
  | false => rw [hat] at hq; cases hq
  | true =>
   rw [hat, cond_true] at hq
   cases hq
   have hnd : ∀ cc, o.op ≠ .defer cc := fun cc ec => by rw [ec] at hm; cases hm
   refine ⟨fun f' _ => RF_fn _ _, ?_⟩
   rw [Oper.semAt_eq _ _ _ hnd]
   have hob : s.heap.get b = some m.obj := by simpa [Mk.isAt] using hat
   have hsub := fun S => Env.sub_put (⟨w.heap.size, 0, S⟩ : Blk) hn
   cases m with
   | cells cs t sl =>
    obtain ⟨x, h1, X, C, t', h2, h3, h4⟩ := mkQ_rel (w := w) hA hm
    rw [h1 X _ h2, Oper.uponIn_value]
    refine hK ⟨w.heap.size, 0, C.size⟩ X _ (h4 _ _ Env.put_same) (h.fill hob hn hlt (.cells C t') C.size rfl ⟨C, t', (0, 0), rfl, rfl, ?_, ?_, by simp, fun _ => rfl⟩) (fr_new h.le rfl)
    ·have := h3.length; simp at this; omega
    ·intro i v hi
     obtain ⟨Y, e1, e2⟩ := h3.get hi
     exact ⟨Y, by simpa using e1, VRel.up (hsub _) _ _ e2⟩
   | rows e L t sl =>
    obtain ⟨x, h1, X, C, t', h2, h5, h3, h4⟩ := mkQ_rel (w := w) hA hm
    rw [h1 X _ h2, Oper.uponIn_value]
    refine hK ⟨w.heap.size, 0, C.size⟩ X _ (h4 _ _ Env.put_same) (h.fill hob hn hlt (.cells C t') C.size rfl ⟨C, t', (0, 0), rfl, rfl, ?_, ?_, by simp, fun _ => rfl⟩) (fr_new h.le rfl)
    ·omega
    ·show RowsAt ρ.φ e L (fun k => C[0 + k]?)
     simpa using h3
 ·cases hq

structure DInv (ops : Array Oper) (R : List DRec) (F0 : Frm) (listed : Array Bool) (f : Frm) (p : Nat) : Prop where
 size : listed.size = ops.size
 down : ∀ (i : Nat) o, ops[i]? = some o → listed.getD i false = true → ∀ e ∈ o.after, Region.binds .any e = true → listed.getD e.on false = true
 ok : f.ok
 n : f.n = F0.n
 did : ∀ (k : Nat) rk t, R[k]? = some rk → rk.o.dst = some t → listed.getD k false = true → f.get t = gv F0.n t rk.v
 not : ∀ t, (∀ (k : Nat) rk, R[k]? = some rk → rk.o.dst = some t → listed.getD k false = false) → f.get t = F0.get t
 le : p ≤ (effs R).length
 ph : ∀ (q : Nat) e, (effs R)[q]? = some e → (listed.getD e.1 false = true ↔ q < p)

structure DRun (P : Program) (sf : ESelf) (ops : Array Oper) (M : List (Nat × Nat)) (dead : Nat → Prop) (F0 : Frm) (s0 : St) (R : List DRec) : Prop where
 st : StOK ops
 len : R.length = ops.size
 row : ∀ (k : Nat) rk, R[k]? = some rk → rk.i = k ∧ ops[k]? = some rk.o ∧ (dead k ∨ drawStep P sf ops (findM k M) k rk.o rk.f rk.s = some rk) ∧ rk.f = finF F0 (R.take k) ∧ rk.s = lastS s0 (effs (R.take k))
 chain : ∀ (q q' : Nat) e e', q < q' → (effs R)[q]? = some e → (effs R)[q']? = some e' → Reach ops e'.1 e.1
 quiet : ∀ (k : Nat) rk, R[k]? = some rk → rk.q = true → ∀ p, p ≤ (effs R).length → (∀ q e, q < p → (effs R)[q]? = some e → ¬ Reach ops e.1 k) → (∀ q e, p ≤ q → (effs R)[q]? = some e → ¬ Reach ops k e.1) →
  qopM P rk.mb (lastS s0 ((effs R).take p)) (evL (rk.o.looksAt ops) rk.f) rk.o.op = some rk.v
 ok : F0.ok

theorem DInv.reach {ops : Array Oper} {R : List DRec} {F0 f : Frm} {listed : Array Bool} {p : Nat} (h : DInv ops R F0 listed f p) {i j : Nat} (hr : Reach ops i j) : listed.getD i false = true → listed.getD j false = true := by
 induction hr with
 | step ho he hb => exact fun hi => h.down _ _ ho hi _ he hb
 | trans _ _ h1 h2 => exact fun hi => h2 (h1 hi)
theorem DInv.reach_ready {ops : Array Oper} {R : List DRec} {F0 f : Frm} {listed : Array Bool} {p : Nat} (h : DInv ops R F0 listed f p) {i j : Nat} (hr : Reach ops i j) :
  (∀ o, ops[i]? = some o → ∀ e ∈ o.after, Region.binds .any e = true → listed.getD e.on false = true) → listed.getD j false = true := by
 induction hr with
 | step ho he hb => exact fun hi => hi _ ho _ he hb
 | trans h1 h2 ih1 ih2 => exact fun hi => h.reach h2 (ih1 hi)

theorem DInv.looks {ops : Array Oper} {R : List DRec} {F0 f : Frm} {s0 : St} {listed : Array Bool} {p : Nat} (h : DInv ops R F0 listed f p) (D : DRun P self ops M dead F0 s0 R) {i : Nat} {ri : DRec}
  (hi : R[i]? = some ri) (hun : listed.getD i false = false) (hrd : ∀ o, ops[i]? = some o → ∀ e ∈ o.after, Region.binds .any e = true → listed.getD e.on false = true) {t : Tmp} (ht : t ∈ ri.o.looksAt ops) :
  f.get t = ri.f.get t := by
 obtain ⟨_, ho, _, hf, _⟩ := D.row i ri hi
 rw [hf]
 have uniq : ∀ (k k' : Nat) rk rk', R[k]? = some rk → R[k']? = some rk' → rk.o.dst = some t → rk'.o.dst = some t → k' = k := fun k k' rk rk' a b c d =>
  D.st.once _ _ _ _ t (D.row k' rk' b).2.1 (D.row k rk a).2.1 d c
 by_cases hw : ∃ (k : Nat) (rk : DRec), R[k]? = some rk ∧ rk.o.dst = some t
 ·obtain ⟨k, rk, hk, hd⟩ := hw
  have hF0 : ∀ {m : Nat}, m ≤ k → (finF F0 (R.take m)).get t = F0.get t := fun {m} hm => finF_none D.ok fun r' hr' e' => by
   obtain ⟨q, hq⟩ := List.getElem?_of_mem hr'
   rw [List.getElem?_take] at hq
   split at hq
   ·have := uniq k q rk r' hk hq hd e'
    omega
   ·cases hq
  have hfF0 : listed.getD k false = false → f.get t = F0.get t := fun hl => h.not t fun k' rk' hk' hd' => by rw [uniq k k' rk rk' hk hk' hd hd']; exact hl
  by_cases hki : k = i
  ·subst hki
   rw [hfF0 hun, hF0 (Nat.le_refl _)]
  ·rcases D.st.read k i _ _ t (D.row k rk hk).2.1 ho hd ht hki with hr | hr
   ·have hlt := D.st.lt hr
    rw [hF0 (by omega), hfF0]
    cases hl : listed.getD k false with
    | false => rfl
    | true => rw [h.reach hr hl] at hun; cases hun
   ·have hlt := D.st.lt hr
    have hl := h.reach_ready hr hrd
    rw [h.did k rk t hk hd hl]
    rw [finF_some D.ok (k := k) (r := rk) (by rw [List.getElem?_take, if_pos hlt]; exact hk) hd fun k' r' h1 h2 => ?_]
    rw [List.getElem?_take] at h1
    split at h1
    ·exact uniq k k' rk r' hk h1 hd h2
    ·cases h1
 ·rw [h.not t fun k rk hk hd => absurd ⟨k, rk, hk, hd⟩ hw]
  rw [finF_none D.ok fun r' hr' e' => by
    obtain ⟨q, hq⟩ := List.getElem?_of_mem (List.mem_of_mem_take hr')
    exact hw ⟨q, r', hq, e'⟩]

theorem getD_set_self {listed : Array Bool} {i : Nat} (d : Bool) (h : i < listed.size) : (listed.setIfInBounds i true).getD i d = true := by
 simp [h]
theorem getD_any {listed : Array Bool} {i : Nat} (h : i < listed.size) (d d' : Bool) : listed.getD i d = listed.getD i d' := by
 simp [h]

theorem DInv.step {ops : Array Oper} {R : List DRec} {F0 f : Frm} {s0 : St} {listed : Array Bool} {p : Nat} (h : DInv ops R F0 listed f p) (D : DRun P self ops M dead F0 s0 R) {i : Nat} {ri : DRec}
  (hi : R[i]? = some ri) (hun : listed.getD i false = false) (hrd : ∀ o, ops[i]? = some o → ∀ e ∈ o.after, Region.binds .any e = true → listed.getD e.on false = true) {p' : Nat}
  (hp' : p' ≤ (effs R).length) (hph : ∀ (q : Nat) e, (effs R)[q]? = some e → (q < p' ↔ (q < p ∨ e.1 = i))) :
  DInv ops R F0 (listed.setIfInBounds i true) (putE f ri.o.dst ri.v) p' := by
 obtain ⟨_, ho, _, _, _⟩ := D.row i ri hi
 have hlt : i < listed.size := by rw [h.size]; exact (Array.getElem?_eq_some_iff.1 ho).1
 have hset : ∀ k, (listed.setIfInBounds i true).getD k false = true ↔ (k = i ∨ listed.getD k false = true) := fun k => by
  by_cases e : k = i
  ·subst e; simp [getD_set_self false hlt]
  ·rw [getD_set_ne false (fun e' => e e'.symm)]; simp [e]
 refine ⟨by simpa using h.size, ?_, putE_ok h.ok _ _, by rw [putE_n, h.n], ?_, ?_, hp', ?_⟩
 ·intro k o hk hl e he hb
  rw [hset]
  rcases (hset k).1 hl with rfl | hl
  ·exact .inr (hrd o hk e he hb)
  ·exact .inr (h.down k o hk hl e he hb)
 ·intro k rk t hk hd hl
  rcases (hset k).1 hl with rfl | hl1
  ·rw [hi] at hk; cases hk
   rw [hd, get_putE h.ok, if_pos rfl, h.n]
  ·rw [get_putE_ne h.ok]
   ·exact h.did k rk t hk hd hl1
   ·intro e
    have := D.st.once _ _ _ _ t (D.row k rk hk).2.1 ho hd e
    subst this
    rw [hun] at hl1; cases hl1
 ·intro t hn
  have e1 : ri.o.dst ≠ some t := fun e => by
   have := hn i ri hi e
   rw [getD_set_self false hlt] at this; cases this
  rw [get_putE_ne h.ok _ e1]
  refine h.not t fun k rk hk hd => ?_
  have := hn k rk hk hd
  cases hl : listed.getD k false with
  | false => rfl
  | true => rw [(hset k).2 (.inr hl)] at this; cases this
 ·intro q e he
  rw [hset, hph q e he, h.ph q e he]
  exact Or.comm

theorem evL_sub {f g : Frm} {L : List Tmp} (h : ∀ t ∈ L, f.get t = g.get t) {ρ : Env} {A : Act} (hf : FRel ρ f A.tmps) : EvRel ρ (evL L g) A := by
 intro x v hv
 cases x with
 | tmp t =>
  simp only [evL] at hv
  cases ht : hasN t L with
  | false => rw [ht] at hv; cases hv
  | true =>
   rw [ht] at hv
   cases hv
   rw [← h t ((hasN_eq t L).1 ht)]
   exact hf.get t
 | const c => exact evF_rel hf _ _ (show evF f (.const c) = some v from hv)
 | global g => cases hv
 | func g => exact evF_rel hf _ _ (show evF f (.func g) = some v from hv)

theorem wantedE_sub {f g : Frm} {ops : Array Oper} {o : Oper} (h : ∀ t ∈ o.looksAt ops, f.get t = g.get t) : wantedE (guardOf ops o) f = wantedE (guardOf ops o) g := by
 unfold guardOf
 cases hg : o.guard with
 | none => rfl
 | some x =>
  obtain ⟨j, want⟩ := x
  simp only
  cases ho : ops[j]? with
  | none => rfl
  | some o' =>
   simp only
   cases hd : o'.dst with
   | none => rfl
   | some d =>
    simp only [wantedE]
    rw [h d (by unfold Oper.looksAt; rw [hg]; simp [ho, hd])]

theorem wantOK_sub {f g : Frm} {ops : Array Oper} {o : Oper} (h : ∀ t ∈ o.looksAt ops, f.get t = g.get t) : wantOK (guardOf ops o) f = wantOK (guardOf ops o) g := by
 unfold guardOf
 cases hg : o.guard with
 | none => rfl
 | some x =>
  obtain ⟨j, want⟩ := x
  simp only
  cases ho : ops[j]? with
  | none => rfl
  | some o' =>
   simp only
   cases hd : o'.dst with
   | none => rfl
   | some d =>
    simp only [wantOK]
    rw [h d (by unfold Oper.looksAt; rw [hg]; simp [ho, hd])]

theorem draw_end {ops : Array Oper} {R : List DRec} {F0 f : Frm} {s0 : St} (D : DRun P self ops M dead F0 s0 R) {listed : Array Bool} {p : Nat} (h : DInv ops R F0 listed f p) (all : ∀ i, i < listed.size → listed.getD i false = true)
  {own : Own} {ρ0 ρ : Env} {w0 w : World} {ds : List EDef} {A : Act} (h1 : ρ0.le ρ) (h2 : Fr own w0 w) (hf : FRel ρ f A.tmps) (hd : DRel ρ ds A.defers) (hS : SRel own ρ (lastS s0 ((effs R).take p)) w) :
  CPost own ρ0 w0 .normal ⟨finF F0 R, ds, lastS s0 (effs R)⟩ .normal A w := by
 have allR : ∀ (k : Nat) rk, R[k]? = some rk → listed.getD k false = true := fun k rk hk => all k (by
   rw [h.size, ← D.len]; exact (List.getElem?_eq_some_iff.1 hk).1)
 have hp : p = (effs R).length := by
  rcases Nat.lt_or_ge p (effs R).length with hlt | hge
  ·obtain ⟨k, rk, a1, a2, a3, _⟩ := effs_get (List.getElem?_eq_getElem hlt)
   have := (h.ph p _ (List.getElem?_eq_getElem hlt)).1 (by rw [← a3, (D.row k rk a1).1]; exact allR k rk a1)
   omega
  ·have := h.le; omega
 subst hp
 rw [List.take_length] at hS
 have hget : ∀ t, f.get t = (finF F0 R).get t := fun t => by
  by_cases hw : ∃ (k : Nat) (rk : DRec), R[k]? = some rk ∧ rk.o.dst = some t
  ·obtain ⟨k, rk, hk, hdd⟩ := hw
   rw [h.did k rk t hk hdd (allR k rk hk), finF_some D.ok hk hdd fun k' rk' hk' hd' => D.st.once _ _ _ _ t (D.row k' rk' hk').2.1 (D.row k rk hk).2.1 hd' hdd]
  ·rw [h.not t fun k rk hk hdd => absurd ⟨k, rk, hk, hdd⟩ hw, finF_none D.ok fun r' hr' e' => by
     obtain ⟨q, hq⟩ := List.getElem?_of_mem hr'
     exact hw ⟨q, r', hq, e'⟩]
 refine ⟨ρ, h1, rfl, ?_, hd, hS, h2⟩
 obtain ⟨a1, d, a2, a3, a4⟩ := hf
 obtain ⟨d', b2, b3⟩ := finF_ok R D.ok
 have hn : (finF F0 R).n = f.n := by rw [finF_n, h.n]
 refine ⟨by rw [hn]; exact a1, d', b2, b3, fun i X hX => ?_⟩
 have hlt : i < f.n := by rw [a1]; exact (Array.getElem?_eq_some_iff.1 hX).1
 have := hget i
 rw [Frm.get_eq, Frm.get_eq, blt_iff, blt_iff, hn, decide_eq_true hlt, cond_true, cond_true] at this
 rw [← this]
 exact a4 i X hX

structure DFin (P : Program) (sf : ESelf) (ops : Array Oper) (dead : Nat → Prop) (F0 : Frm) (s0 : St) (R : List DRec) (ds : List EDef) (e : EExit) (c' : Cfg) : Prop where
 fin : (∀ k, ¬ dead k) → e = .normal ∧ c' = ⟨finF F0 R, ds, lastS s0 (effs R)⟩
 pan : ∀ k, dead k → ∃ ip, dead ip ∧ (∀ j, dead j → j = ip ∨ Reach ops j ip) ∧ ∃ rp v s', R[ip]? = some rp ∧ rp.s = lastS s0 (effs R) ∧ (wantOK (guardOf ops rp.o) rp.f = true ∧ wantedE (guardOf ops rp.o) rp.f = true) ∧ opPan sf (eop P rp.s (evL (rp.o.looksAt ops) rp.f) rp.o.op) = some (v, s') ∧
  (∀ (q : Nat) e, (effs R)[q]? = some e → Reach ops ip e.1) ∧ e = .pan v ∧ c' = ⟨anyF F0 ops.toList, ds, s'⟩

theorem opPan_sound (hs : SelfOK P self) {own : Own} {ρ : Env} {s s' : St} {w : World} (h : SRel own ρ s w) {ev : Operand → Option V} {A : Act} (hA : EvRel ρ ev A) {o : Oper} {v : V}
  (hq : opPan self (eop P s ev o.op) = some (v, s')) {Q : Exit → Act → World → Prop} {K : Act → World → Prop}
  (hQ : ∀ ρ' X w', ρ.le ρ' → VRel ρ' v X → SRel own ρ' s' w' → Fr own w w' → Q (.panic [{ v := X, recovered := false }]) A w') : o.wpIn (RF r) n P A w K Q := by
 cases ho : eop P s ev o.op with
 | none => rw [ho] at hq; cases hq
 | some x =>
  obtain ⟨out, s1⟩ := x
  rw [ho] at hq
  have hrel := eop_rel h hA ho
  have hnd : ∀ cc, o.op ≠ .defer cc := fun cc ec => by rw [ec] at ho; cases ho
  refine ⟨fun f' _ => RF_fn _ _, ?_⟩
  rw [Oper.semAt_eq _ _ _ hnd]
  cases out with
  | val v1 => cases hq
  | skip => cases hq
  | pan v1 =>
   cases hq
   obtain ⟨rfl, X, g1, g2⟩ := hrel
   rw [g1, Oper.uponIn_panic]
   exact hQ ρ X w ρ.le_refl g2 h (Fr.refl _ _)
  | enter t =>
   have hs1 : s1 = s := by
    cases t with
    | fn f' a' => exact hrel.1
    | round l' a' => exact hrel.1
   subst hs1
   simp only [opPan] at hq
   cases hself : self t s1 with
   | none => rw [hself] at hq; cases hq
   | some p =>
    obtain ⟨ee, s2⟩ := p
    rw [hself] at hq
    cases ee with
    | ret v1 => cases hq
    | pan v1 =>
     cases hq
     have hcon := hs t s1 _ _ hself own ρ w h (n - 1)
     have tail : ∀ (E : Ending) (w' : World), Post own ρ w (.pan v) s' E w' →
       (match E, w' with
         | .returned v, w'' => K (A.put o.dst v) w''
         | .panicked chain, w'' => Q (.panic chain) A w''
         | .outgrown, _ => LetsOut Q) := by
      rintro E w' ⟨ρ', g1, ⟨X, rfl, g6⟩, g4, g5⟩
      exact hQ ρ' X w' g1 g6 g4 g5
     cases t with
     | fn f' a' =>
      obtain ⟨_, A', g2, g3⟩ := hrel
      rw [g2, Oper.uponIn_enter]
      refine ⟨fun hh => by simp [RF_depth] at hh, (show CallsIn (RF r) _ P _ _ _ _ from (hcon A' g3).mono fun E w' hp => ?_)⟩
      have := tail E w' hp
      cases E <;> exact this
     | round l' a' =>
      obtain ⟨_, x, L, A', g1, g2, g3, g4, g5⟩ := hrel
      rw [g5, Oper.uponIn_round]
      refine ⟨fun hh => by simp [RF_depth] at hh, (show RoundIn (RF r) _ P _ _ _ _ _ _ _ from (hcon x L A' g1 g2 g3 g4).mono fun E w' hp => ?_)⟩
      have := tail E w' hp
      cases E <;> exact this

theorem drawE_spec {ops : Array Oper} {c c' : Cfg} {e : EExit} (hf : c.tmps.ok) (h : drawE P self ops c = some (e, c')) :
  P.follows .mixedOrders = true ∧ ∃ s0 M R dead, PreOK c.st s0 M ∧ DRun P self ops M dead c.tmps s0 R ∧ DFin P self ops dead c.tmps s0 R c.defers e c' := by
 unfold drawE at h
 cases h1 : P.follows .mixedOrders with
 | false => simp [h1] at h
 | true =>
 cases h2 : stOK ops with
 | false => simp [h1, h2] at h
 | true =>
 simp only [h1, h2, Bool.and_self, cond_true] at h
 rcases hpre : preM P ops c.tmps c.st with ⟨s0, M⟩
 rw [hpre] at h
 simp only at h
 split at h
 ·rename_i R hR
  cases h3 : chainE (ancsE ops.toList []) (effs R) with
  | false => simp [h3] at h
  | true =>
  cases h4 : chkAll P ops (ancsE ops.toList []) s0 (effs R) R with
  | false => simp [h3, h4] at h
  | true =>
  simp only [h3, h4, Bool.and_self, cond_true, Option.some.injEq, Prod.mk.injEq] at h
  obtain ⟨rfl, rfl⟩ := h
  obtain ⟨g1, g2⟩ := drawRun_spec hR
  have hi : ∀ (k : Nat) rk, R[k]? = some rk → rk.i = k := fun k rk hk => by simpa using (g2 k rk hk).1
  refine ⟨rfl, s0, M, R, fun _ => False, preM_ok hpre, ⟨stOK_spec h2, by simpa using g1, fun k rk hk => ?_, fun q q' e e' hq he he' => reach_of (chainE_spec h3 q q' e e' hq he he'), fun k rk hk hq p hp a b => ?_, hf⟩, ⟨fun _ => ⟨rfl, rfl⟩, fun k hk => hk.elim⟩⟩
  ·obtain ⟨b1, b2, b3, b4, b5⟩ := g2 k rk hk
   refine ⟨hi k rk hk, by simpa using b2, .inr ?_, b4, b5⟩
   rw [hi k rk hk] at b3
   exact b3
  ·have := chkAll_spec h4 rk (List.mem_of_getElem? hk) hq
   refine chkE_spec this p hp (fun q e hqp he => ?_) (fun q e hqp he => ?_)
   ·rw [hi k rk hk, Bool.eq_false_iff]
    exact fun hh => a q e hqp he (reach_of hh)
   ·rw [hi k rk hk, Bool.eq_false_iff]
    exact fun hh => b q e hqp he (reach_of hh)
 ·unfold drawP at h
  split at h
  ·rename_i R ip v s' hR
   cases h3 : chainE (ancsE ops.toList []) (effs R) with
   | false => simp [h3] at h
   | true =>
   cases h5 : allAfter (ogetN (lget (ancsE ops.toList []) ip)) (effs R) with
   | false => simp [h3, h5] at h
   | true =>
   cases h4 : chkAll P ops (ancsE ops.toList []) s0 (effs R) R with
   | false => simp [h3, h5, h4] at h
   | true =>
   simp only [h3, h4, h5, Bool.and_self, cond_true, Option.some.injEq, Prod.mk.injEq] at h
   obtain ⟨rfl, rfl⟩ := h
   obtain ⟨g1, _, ⟨rp, a1, a2, a3, a4, a5⟩, g2⟩ := panRun_spec hR
   rw [Nat.sub_zero] at a1
   have hi : ∀ (k : Nat) rk, R[k]? = some rk → rk.i = k := fun k rk hk => by simpa using (g2 k rk hk).1
   refine ⟨rfl, s0, M, R, fun k => k = ip ∨ Reach ops k ip, preM_ok hpre, ⟨stOK_spec h2, by simpa using g1, fun k rk hk => ?_, fun q q' e e' hq he he' => reach_of (chainE_spec h3 q q' e e' hq he he'), fun k rk hk hq p hp a b => ?_, hf⟩,
     ⟨fun hn => absurd (Or.inl rfl) (hn ip), fun k _ => ⟨ip, .inl rfl, fun j hj => hj, rp, v, s', a1, a3, a4, a5, fun q e he => reach_of (allAfter_spec h5 q e he), rfl, rfl⟩⟩⟩
   ·obtain ⟨b1, b2, b3, b4, b5⟩ := g2 k rk hk
    refine ⟨hi k rk hk, by simpa using b2, ?_, b4, b5⟩
    rw [hi k rk hk] at b3
    rcases b3 with ⟨e, _⟩ | ⟨e, _⟩ | e
    ·exact .inl (.inl e)
    ·exact .inl (.inr (reach_of e))
    ·exact .inr e
   ·have := chkAll_spec h4 rk (List.mem_of_getElem? hk) hq
    refine chkE_spec this p hp (fun q e hqp he => ?_) (fun q e hqp he => ?_)
    ·rw [hi k rk hk, Bool.eq_false_iff]
     exact fun hh => a q e hqp he (reach_of hh)
    ·rw [hi k rk hk, Bool.eq_false_iff]
     exact fun hh => b q e hqp he (reach_of hh)
  ·cases h

theorem count_set {l : List Bool} {i : Nat} (h : l[i]? = some false) : (l.set i true).countP (! ·) + 1 = l.countP (! ·) := by
 induction l generalizing i with
 | nil => simp at h
 | cons a l ih =>
  cases i with
  | zero => simp at h; subst h; simp
  | succ i =>
   have := ih (by simpa using h)
   simp only [List.set_cons_succ, List.countP_cons]
   omega

theorem draw_any (hs : SelfOK P self) {ops : Array Oper} {R : List DRec} {F0 : Frm} {s0 : St} (D : DRun P self ops M dead F0 s0 R) {own : Own} {ρ0 : Env} {w0 : World} {ds : List EDef} {e : EExit} {c' : Cfg} (hF : DFin P self ops dead F0 s0 R ds e c') :
  (∀ i b, findM i M = some b → ρ0.n ≤ b) → (∀ i j b, findM i M = some b → findM j M = some b → i = j) →
  ∀ (fuel : Nat) (listed : Array Bool) (f : Frm) (p : Nat) (ρ : Env) (A : Act) (w : World), DInv ops R F0 listed f p → listed.toList.countP (! ·) ≤ fuel → (∀ k, dead k → listed.getD k false = false) → (∀ i b, findM i M = some b → listed.getD i false = false → ρ b = none ∧ b < ρ.n) → ρ0.le ρ → Fr own w0 w → FRel ρ f A.tmps → DRel ρ ds A.defers →
   SRel own ρ (lastS s0 ((effs R).take p)) w →
   wpAnyIn (RF r) n P .any ops (CPost own ρ0 w0 e c') fuel listed A w := by
 intro hM0 hM1 fuel
 have nodead : ∀ {listed : Array Bool} {f : Frm} {p : Nat}, DInv ops R F0 listed f p → (∀ i, i < listed.size → listed.getD i false = true) → (∀ k, dead k → listed.getD k false = false) → ∀ k, ¬ dead k := fun h all hdd k hk => by
  obtain ⟨ip, h1, _, rp, v, s', h2, _⟩ := hF.pan k hk
  have hlt : ip < ops.size := by rw [← D.len]; exact (List.getElem?_eq_some_iff.1 h2).1
  have := all ip (by rw [h.size]; exact hlt)
  rw [hdd ip h1] at this; cases this
 induction fuel with
 | zero =>
  intro listed f p ρ A w h hc hdd hM h1 h2 hf hd hS
  have all : ∀ i, i < listed.size → listed.getD i false = true := fun i hi => by
   have h0 : listed.toList.countP (! ·) = 0 := by omega
   rw [List.countP_eq_zero] at h0
   have := h0 listed[i] (by simp)
   simpa [hi] using this
  refine ⟨?_, ?_⟩
  ·cases hr : Region.ready .any ops listed with
   | nil => rfl
   | cons x l =>
    have := mem_ready.1 (hr ▸ List.mem_cons_self : x ∈ Region.ready .any ops listed)
    obtain ⟨a, o, b, _⟩ := this
    have hx : x < listed.size := by rw [h.size]; exact (Array.getElem?_eq_some_iff.1 b).1
    rw [getD_any hx true false, all x hx] at a
    cases a
  ·obtain ⟨rfl, rfl⟩ := hF.fin (nodead h all hdd)
   exact draw_end D h all h1 h2 hf hd hS
 | succ fuel ih =>
  intro listed f p ρ A w h hc hdd hM h1 h2 hf hd hS
  refine ⟨fun hnil => ?_, fun i hi => ?_⟩
  ·have all : ∀ i, i < listed.size → listed.getD i false = true := by
    intro i
    induction i using Nat.strongRecOn with
    | ind i ih =>
     intro hi
     cases hl : listed.getD i false with
     | true => rfl
     | false =>
      have hio : i < ops.size := by rw [← h.size]; exact hi
      have : i ∈ Region.ready .any ops listed := mem_ready.2 ⟨by rw [getD_any hi true false]; exact hl, ops[i], Array.getElem?_eq_getElem hio, fun e he hb => by
        have := D.st.back i ops[i] (Array.getElem?_eq_getElem hio) e he hb
        exact ih e.on this (by omega)⟩
      rw [hnil] at this; cases this
   obtain ⟨rfl, rfl⟩ := hF.fin (nodead h all hdd)
   exact draw_end D h all h1 h2 hf hd hS
  ·obtain ⟨hun, o, ho, hrd⟩ := mem_ready.1 hi
   have hio : i < ops.size := (Array.getElem?_eq_some_iff.1 ho).1
   have hil : i < listed.size := by rw [h.size]; exact hio
   rw [getD_any hil true false] at hun
   have hri : R[i]? = some (R[i]'(by rw [D.len]; exact hio)) := List.getElem?_eq_getElem _
   generalize R[i]'(by rw [D.len]; exact hio) = ri at hri
   obtain ⟨ei, ho', hstep, _, hs'⟩ := D.row i ri hri
   have : o = ri.o := by rw [ho] at ho'; exact Option.some.inj ho'
   subst this
   have hrd : ∀ o, ops[i]? = some o → ∀ e ∈ o.after, Region.binds .any e = true → listed.getD e.on false = true := fun o2 h2 => by rw [ho] at h2; cases h2; exact hrd
   have hlk := fun t => h.looks D hri hun hrd (t := t)
   rcases Classical.em (dead i) with hdi | hdi
   ·have hrd2 := hrd
    clear hrd
    obtain ⟨ip, q1, q2, rp, v, s', q3, q4, q5, q6, q7, rfl, rfl⟩ := hF.pan i hdi
    rcases q2 i hdi with rfl | hr
    ·have hrp : rp = ri := by rw [hri] at q3; exact (Option.some.inj q3).symm
     subst hrp
     have hp : p = (effs R).length := by
      rcases Nat.lt_or_ge p (effs R).length with hlt | hge
      ·have := (h.ph p _ (List.getElem?_eq_getElem hlt)).1 (h.reach_ready (q7 p _ (List.getElem?_eq_getElem hlt)) hrd2)
       omega
      ·have := h.le; omega
     rw [hp, List.take_length, ← q4] at hS
     have hwant := wanted_rel hf ops rp.o (by rw [wantOK_sub hlk]; exact q5.1)
     rw [wantedE_sub hlk, q5.2] at hwant
     unfold wpOpIn
     simp only [ho]
     rw [← hwant]
     simp only [if_true]
     refine opPan_sound hs hS (evL_sub hlk hf) q6 fun ρ' X w' b1 b2 b3 b4 => ?_
     refine ⟨ρ', Env.le_trans h1 b1, ⟨X, rfl, b2⟩, ?_, hd.mono b1, b3, h2.trans b4⟩
     obtain ⟨a1, d, a2, a3, a4⟩ := hf.mono b1
     obtain ⟨d', e2, e3⟩ := anyF_ok ops.toList D.ok
     have hn : (anyF F0 ops.toList).n = f.n := by rw [anyF_n, h.n]
     refine ⟨by rw [hn]; exact a1, d', e2, e3, fun t Y hY => ?_⟩
     have hlt : t < f.n := by rw [a1]; exact (Array.getElem?_eq_some_iff.1 hY).1
     have hraw : ∀ g : Frm, g.n = f.n → g.get t = g.t.get t := fun g hg => by rw [Frm.get_eq, blt_iff, hg, decide_eq_true hlt, cond_true]
     obtain ⟨i1, _, i3⟩ := anyF_get (t := t) ops.toList D.ok (by rw [← h.n]; exact hlt)
     by_cases hdst : ∃ o ∈ ops.toList, o.dst = some t
     ·show VRel ρ' ((anyF F0 ops.toList).t.get t) Y
      rw [← hraw _ hn, i1 hdst]
      simp only [VRel]
     ·show VRel ρ' ((anyF F0 ops.toList).t.get t) Y
      rw [← hraw _ hn, i3 (fun o ho he => hdst ⟨o, ho, he⟩), ← h.not t fun k rk hk hdk => absurd ⟨rk.o, by
        have := (D.row k rk hk).2.1
        exact Array.mem_toList_iff.2 (Array.mem_of_getElem? this), hdk⟩ hdst, hraw f rfl]
      exact a4 t Y hY
    ·have := h.reach_ready hr hrd2
     rw [hdd ip q1] at this; cases this
   have hstep := hstep.resolve_left hdi
   have hdd' : ∀ k, dead k → (listed.setIfInBounds i true).getD k false = false := fun k hk => by
    rw [getD_set_ne false (fun e' : i = k => hdi (by rw [e']; exact hk))]; exact hdd k hk
   have hcnt : (listed.setIfInBounds i true).toList.countP (! ·) ≤ fuel := by
    have : listed.toList[i]? = some false := by
     rw [Array.getElem?_toList, Array.getElem?_eq_getElem hil]
     simpa [hil] using hun
    have := count_set this
    rw [Array.toList_setIfInBounds]
    omega
   have hMs : ∀ ρ' : Env, (∀ j b, findM j M = some b → j ≠ i → listed.getD j false = false → ρ' b = none ∧ b < ρ'.n) → ∀ j b, findM j M = some b → (listed.setIfInBounds i true).getD j false = false → ρ' b = none ∧ b < ρ'.n := fun ρ' hh j b hj hl => by
    by_cases e : j = i
    ·subst e; rw [getD_set_self false hil] at hl; cases hl
    ·rw [getD_set_ne false (fun e' => e e'.symm)] at hl
     exact hh j b hj e hl
   have hwok : wantOK (guardOf ops ri.o) ri.f = true := (drawStep_fields hstep).2.2.2.2
   have hwant := wanted_rel hf ops ri.o (by rw [wantOK_sub hlk]; exact hwok)
   rw [wantedE_sub hlk] at hwant
   unfold wpOpIn
   simp only [ho]
   unfold drawStep at hstep
   rw [hwok, Bool.not_true, cond_false] at hstep
   cases hw : wantedE (guardOf ops ri.o) ri.f with
   | false =>
    rw [hw, cond_false] at hstep
    have hrv : ri.v = .undef ∧ ri.eff = none := by rw [← Option.some.inj hstep]; exact ⟨rfl, rfl⟩
    rw [hw] at hwant
    rw [← hwant]
    simp only [Bool.false_eq_true, if_false]
    refine ⟨fun f' _ => RF_fn _ _, ?_⟩
    have hinv := h.step D hri hun hrd h.le fun q e he => by
     obtain ⟨k, rk, a1, a2, a3, _⟩ := effs_get he
     constructor
     ·exact .inl
     ·rintro (b | b)
      ·exact b
      ·have : k = i := by rw [← b, ← a3]; exact ((D.row k rk a1).1).symm
       subst this
       rw [hri] at a1; cases a1
       rw [hrv.2] at a2; cases a2
    rw [hrv.1] at hinv
    exact ih _ _ p ρ _ w hinv hcnt hdd' (hMs ρ fun j b hj _ hl => hM j b hj hl) h1 h2 (putE_rel hf ((VRel.eq_1 ρ (.tuple #[])).mpr rfl) _) (by rw [put_defers]; exact hd) hS
   | true =>
    rw [hw, cond_true] at hstep
    rw [hw] at hwant
    rw [← hwant]
    simp only [if_true]
    split at hstep
    ·rename_i v0 hv0
     have hrv : ri.q = true ∧ ri.eff = none ∧ ri.mb = findM i M := by rw [← Option.some.inj hstep]; exact ⟨rfl, rfl, rfl⟩
     have hq := D.quiet i ri hri hrv.1 p h.le (fun q e hq he hr => by
         have := h.reach hr ((h.ph q e he).2 hq)
         rw [hun] at this; cases this) (fun q e hq he hr => by
         have := (h.ph q e he).1 (h.reach_ready hr hrd)
         omega)
     have hinv := h.step D hri hun hrd h.le fun q e he => by
      obtain ⟨k, rk, a1, a2, a3, _⟩ := effs_get he
      constructor
      ·exact .inl
      ·rintro (b | b)
       ·exact b
       ·have : k = i := by rw [← b, ← a3]; exact ((D.row k rk a1).1).symm
        subst this
        rw [hri] at a1; cases a1
        rw [hrv.2.1] at a2; cases a2
     rw [hrv.2.2] at hq
     cases hmb : findM i M with
     | none =>
      rw [hmb] at hq
      exact qop_sound hS (evL_sub hlk hf) hq fun X hX => ih _ _ p ρ _ w hinv hcnt hdd' (hMs ρ fun j b hj _ hl => hM j b hj hl) h1 h2 (putE_rel hf hX _) (by rw [put_defers]; exact hd) hS
     | some b =>
      rw [hmb] at hq
      obtain ⟨hn1, hn2⟩ := hM i b hmb hun
      refine mk_sound hS (evL_sub hlk hf) hq hn1 (Nat.lt_of_lt_of_le hn2 hS.top) fun x X w' g1 g2 g3 => ?_
      have hsub := Env.sub_put x hn1
      have hle : ρ0.le (ρ.put b x) := ⟨Env.sub_trans h1.sub hsub, Nat.le_trans h1.top (Nat.le_max_left _ _), fun k hk e => by
        have := hM0 i b hmb
        rw [Env.put_ne (by omega)]
        exact h1.keep k hk e⟩
      refine ih _ _ p (ρ.put b x) _ w' hinv hcnt hdd' (hMs _ fun j b' hj hne hl => ?_) hle (h2.trans g3) (putE_rel (hf.up hsub) g1 _) (by rw [put_defers]; exact hd.up hsub) g2
      obtain ⟨k1, k2⟩ := hM j b' hj hl
      have hbb : b' ≠ b := fun e => hne (hM1 j i b (e ▸ hj) hmb)
      rw [Env.put_ne hbb]
      exact ⟨k1, Nat.lt_of_lt_of_le k2 (Nat.le_max_left _ _)⟩
    ·split at hstep
     ·cases hstep
     split at hstep
     ·rename_i v0 s1 hv0
      have hrv : ri.v = v0 ∧ ri.eff = some s1 := by rw [← Option.some.inj hstep]; exact ⟨rfl, rfl⟩
      obtain ⟨q0, g1, g2⟩ := effs_of hri hrv.2
      rw [ei] at g1
      have hq0 : q0 = p := by
       have a1 : ¬ q0 < p := fun hh => by
        have := (h.ph q0 _ g1).2 hh
        rw [show ((i, s1) : Nat × St).1 = i from rfl, hun] at this; cases this
       rcases Nat.lt_or_ge p q0 with a2 | a2
       ·have hp : p < (effs R).length := Nat.lt_trans a2 (List.getElem?_eq_some_iff.1 g1).1
        have := D.chain p q0 _ _ a2 (List.getElem?_eq_getElem hp) g1
        have := (h.ph p _ (List.getElem?_eq_getElem hp)).1 (h.reach_ready this hrd)
        omega
       ·omega
      subst hq0
      have hlt : q0 < (effs R).length := (List.getElem?_eq_some_iff.1 g1).1
      rw [hs', g2] at hv0
      have hinv := h.step D hri hun hrd (p' := q0 + 1) hlt fun q e he => by
       obtain ⟨k, rk, a1, a2, a3, _⟩ := effs_get he
       constructor
       ·intro b
        rcases Nat.lt_or_ge q q0 with b' | b'
        ·exact .inl b'
        ·have : q = q0 := by omega
         subst this
         rw [g1] at he; cases he
         exact .inr rfl
       ·rintro (b | b)
        ·omega
        ·rcases Nat.lt_trichotomy q q0 with c | c | c
         ·omega
         ·omega
         ·have := D.st.lt (D.chain q0 q _ _ c g1 he)
          rw [b] at this
          exact absurd this (Nat.lt_irrefl _)
      have htake : lastS s0 ((effs R).take (q0 + 1)) = s1 := by
       have hlast : ∀ (E : List (Nat × St)) (s : St) (e : Nat × St), lastS s (E ++ [e]) = e.2 := by
        intro E
        induction E with
        | nil => intro s e; rfl
        | cons a E ih => intro s e; exact ih a.2 e
       rw [List.take_add_one, g1]
       exact hlast _ _ _
      refine opOut_sound hs hS (evL_sub hlk hf) hv0 fun ρ' X w' b1 b2 b3 b4 => ?_
      rw [hrv.1] at hinv
      exact ih _ _ (q0 + 1) ρ' _ w' hinv hcnt hdd' (hMs ρ' fun j b hj _ hl => by obtain ⟨k1, k2⟩ := hM j b hj hl; exact ⟨b1.keep b k2 k1, Nat.lt_of_lt_of_le k2 b1.top⟩) (Env.le_trans h1 b1) (h2.trans b4) (putE_rel (hf.mono b1) b2 _) (by rw [put_defers]; exact hd.mono b1) (by rw [htake]; exact b3)
     ·cases hstep
end
end Go.Sym
end

noncomputable section
namespace Go.Sym

structure Rel (own : Own) (ρ : Env) (c : Cfg) (A : Act) (w : World) : Prop where
 f : FRel ρ c.tmps A.tmps
 d : DRel ρ c.defers A.defers
 s : SRel own ρ c.st w

def RR (ρ : Env) : Option Nat → Option Nat → Prop
 | none, r => r = none
 | some l, r => ∃ x, ρ l = some x ∧ r = some x.B
theorem RR.mono {ρ ρ' : Env} (h : ρ.le ρ') : ∀ {a b : Option Nat}, RR ρ a b → RR ρ' a b
 | none, _, r => r
 | some _, _, ⟨x, h1, h2⟩ => ⟨x, h.sub.1 _ _ h1, h2⟩

def Env.below (ρ : Env) (k : Nat) : Prop := ρ.n ≤ k ∧ ∀ b x, ρ b = some x → b < k
def CodeAt (P : Program) (ro r : Option Nat) (n k : Nat) (x : Code) (c : Cfg) (e : EExit) (c' : Cfg) : Prop :=
 ∀ own ρ0 w0 ρ A w, ρ0.below k → RR ρ0 ro r → ρ0.le ρ → Fr own w0 w → Rel own ρ c A w → x.wpIn (RF r) n P (CPost own ρ0 w0 e c') A w
def CodeOK (P : Program) (ro r : Option Nat) (n k : Nat) (x : Code) (f : Cfg → Option (EExit × Cfg)) : Prop :=
 ∀ c e c', f c = some (e, c') → CodeAt P ro r n k x c e c'

section
variable {P : Program} {self : ESelf} {ro r : Option Nat} {n k : Nat}

theorem CPost.mk {own : Own} {ρ0 ρ : Env} {w0 w : World} {e : EExit} {c : Cfg} {A : Act} {E : Exit} (h1 : ρ0.le ρ) (h2 : Fr own w0 w) (h : Rel own ρ c A w) (hx : XRel ρ e E) : CPost own ρ0 w0 e c E A w :=
 ⟨ρ, h1, hx, h.f.toX e, h.d, h.s, h2⟩

theorem callsIn_RF {m : Nat} {f : FuncId} {args : Array Value} {w : World} {R : Ending → World → Prop} (h : CallsIn Fence.wide m P f args w R) : CallsIn (RF r) m P f args w R := h
theorem roundIn_RF {m l : Nat} {f : FuncId} {tmps : Array Value} {a b : Code} {w : World} {R : Ending → World → Prop} (h : RoundIn Fence.wide m P l f tmps a b w R) : RoundIn (RF r) m P l f tmps a b w R := h

theorem ops_sound (hs : SelfOK P self) (ops : Array Oper) : ∀ (l : List Oper) (idx : List Nat), idx.map (ops[·]?) = l.map some → ∀ c e c', runOps P self ops l c = some (e, c') →
  ∀ own ρ0 w0 ρ A w, ρ0.le ρ → Fr own w0 w → Rel own ρ c A w → wpOpsIn (RF r) n P ops (CPost own ρ0 w0 e c') idx A w := by
 intro l
 induction l with
 | nil =>
  intro idx hi c e c' h own ρ0 w0 ρ A w h1 h2 hr
  have hi : idx = [] := by simpa using hi
  subst hi
  have h : some (EExit.normal, c) = some (e, c') := h
  cases h
  exact CPost.mk h1 h2 hr rfl
 | cons o l ih =>
  intro idx hi c e c' h own ρ0 w0 ρ A w h1 h2 hr
  cases idx with
  | nil => simp at hi
  | cons i idx =>
  simp only [List.map_cons, List.cons.injEq] at hi
  obtain ⟨hio, hi⟩ := hi
  have ih := fun {c e c'} hh => ih idx hi c e c' hh own ρ0 w0
  replace h : stepE P self ops (runOps P self ops l) o c = some (e, c') := h
  obtain ⟨fr, ds, s⟩ := c
  simp only [stepE] at h
  cases hwk : wantOK (guardOf ops o) fr with
  | false => rw [hwk] at h; cases h
  | true =>
  rw [hwk, Bool.not_true, cond_false] at h
  have hw := wanted_rel hr.f ops o hwk
  simp only at hw
  simp only [wpOpsIn, hio]
  have hru := (VRel.eq_1 ρ (.tuple #[])).mpr rfl
  cases hwt : wantedE (guardOf ops o) fr with
  | false =>
   rw [hwt] at h
   rw [hwt] at hw
   simp only [cond_false] at h
   rw [← hw]
   simp only [Bool.false_eq_true, if_false]
   refine ⟨fun f' _ => RF_fn _ _, ih h ρ _ w h1 h2 ⟨putE_rel hr.f hru o.dst, ?_, hr.s⟩⟩
   rw [put_defers]; exact hr.d
  | true =>
   rw [hwt] at h
   rw [hwt] at hw
   simp only [cond_true] at h
   rw [← hw]
   simp only [if_true]
   unfold nextE at h
   split at h
   all_goals try rename_i hopv
   case h_5 => cases h
   all_goals
    have hnd : ∀ cc, o.op ≠ .defer cc := fun cc ec => by rw [ec, opE_defer] at hopv; cases hopv
    have hrel := opE_rel hr.s (evF_rel hr.f) hopv
    refine ⟨fun f' _ => RF_fn _ _, ?_⟩
    rw [Oper.semAt_eq _ _ _ hnd]
   ·rename_i v s1
    obtain ⟨ρ', X, w', g1, g2, g3, g4, g5⟩ := hrel
    rw [g2, Oper.uponIn_value]
    refine ih h ρ' _ w' (Env.le_trans h1 g1) (h2.trans g5) ⟨putE_rel (hr.f.mono g1) g3 o.dst, ?_, g4⟩
    rw [put_defers]; exact hr.d.mono g1
   ·rename_i s1
    obtain ⟨w', g2, g4, g5⟩ := hrel
    rw [g2, Oper.uponIn_skip]
    refine ih h ρ _ w' h1 (h2.trans g5) ⟨putE_rel hr.f hru o.dst, ?_, g4⟩
    rw [put_defers]; exact hr.d
   ·rename_i v s1
    cases h
    obtain ⟨rfl, X, g2, g3⟩ := hrel
    rw [g2, Oper.uponIn_panic]
    exact CPost.mk h1 h2 ⟨hr.f, hr.d, hr.s⟩ ⟨X, rfl, g3⟩
   ·rename_i t s1
    have tail : ∀ (E : Ending) (w' : World) (ee : EEnd) (s2 : St), self t s = some (ee, s2) → Post own ρ w ee s2 E w' →
      (match E, w' with
        | .returned v, w'' => wpOpsIn (RF r) n P ops (CPost own ρ0 w0 e c') idx (A.put o.dst v) w''
        | .panicked chain, w'' => CPost own ρ0 w0 e c' (.panic chain) A w''
        | .outgrown, _ => LetsOut (CPost own ρ0 w0 e c')) := by
     intro E w' ee s2 hself hpost
     have hs1 : s1 = s := by
      cases t with
      | fn f' a' => exact hrel.1
      | round l' a' => exact hrel.1
     subst hs1
     rw [hself] at h
     obtain ⟨ρ', g1, g3, g4, g5⟩ := hpost
     cases ee with
     | ret v =>
      obtain ⟨X, rfl, g6⟩ := g3
      simp only at h ⊢
      refine ih h ρ' _ w' (Env.le_trans h1 g1) (h2.trans g5) ⟨putE_rel (hr.f.mono g1) g6 o.dst, ?_, g4⟩
      rw [put_defers]; exact hr.d.mono g1
     | pan v =>
      obtain ⟨X, rfl, g6⟩ := g3
      simp only at h ⊢
      cases h
      exact CPost.mk (Env.le_trans h1 g1) (h2.trans g5) ⟨hr.f.mono g1, hr.d.mono g1, g4⟩ ⟨X, rfl, g6⟩
    have hsome : ∃ ee s2, self t s = some (ee, s2) := by
     have hs1 : s1 = s := by
      cases t with
      | fn f' a' => exact hrel.1
      | round l' a' => exact hrel.1
     subst hs1
     cases hself : self t s1 with
     | none => rw [hself] at h; cases h
     | some p => exact ⟨p.1, p.2, rfl⟩
    obtain ⟨ee, s2, hself⟩ := hsome
    have hcon := hs t s ee s2 hself own ρ w hr.s (n - 1)
    cases t with
    | fn f' a' =>
     obtain ⟨rfl, A', g2, g3⟩ := hrel
     rw [g2, Oper.uponIn_enter]
     refine ⟨fun hh => by simp [RF_depth] at hh, callsIn_RF ((hcon A' g3).mono fun E w' hp => ?_)⟩
     have := tail E w' ee s2 hself hp
     cases E <;> exact this
    | round l' a' =>
     obtain ⟨rfl, x, L, A', g1, g2, g3, g4, g5⟩ := hrel
     rw [g5, Oper.uponIn_round]
     refine ⟨fun hh => by simp [RF_depth] at hh, roundIn_RF ((hcon x L A' g1 g2 g3 g4).mono fun E w' hp => ?_)⟩
     have := tail E w' ee s2 hself hp
     cases E <;> exact this

theorem range_map {α : Type} (ops : Array α) : (List.range ops.size).map (ops[·]?) = ops.toList.map some := by
 apply List.ext_getElem?
 intro i
 rw [List.getElem?_map, List.getElem?_map]
 by_cases hi : i < ops.size
 ·rw [List.getElem?_range hi]
  simp [hi]
 ·rw [List.getElem?_eq_none (by simpa using hi), List.getElem?_eq_none (by simpa using hi)]
  rfl

theorem resolve_fn {A : Act} {cl : Call} {f : Operand} {fv : FuncId} {A1 C1 : Array Value} (hc : cl.callee = .value f) (e1 : A.eval f = .func (.func fv) A1 C1) (ty : TypeId) {w : World} :
  (resolve A.eval cl ty).run P w = .ok { target := .fn (.func fv) C1, args := A1 ++ cl.args.map A.eval } w := by
 simp only [resolve, hc, Sem.run_bind, e1, Deferred.ofValue, Sem.run_pure, Result.andThen_ok]

theorem dfer_sound (ops : Array Oper) : ∀ (l : List Oper) (idx : List Nat), idx.map (ops[·]?) = l.map some → ∀ c e c', dferE P l c = some (e, c') →
  ∀ own ρ0 w0 ρ A w, ρ0.le ρ → Fr own w0 w → Rel own ρ c A w → wpOpsIn (RF none) n P ops (CPost own ρ0 w0 e c') idx A w := by
 intro l
 induction l with
 | nil =>
  intro idx hi c e c' h own ρ0 w0 ρ A w h1 h2 hr
  have hi : idx = [] := by simpa using hi
  subst hi
  simp only [dferE] at h
  cases h
  exact CPost.mk h1 h2 hr rfl
 | cons o l ih =>
  intro idx hi c e c' h own ρ0 w0 ρ A w h1 h2 hr
  cases idx with
  | nil => simp at hi
  | cons i idx =>
  simp only [List.map_cons, List.cons.injEq] at hi
  obtain ⟨hio, hi⟩ := hi
  have ih := fun {c e c'} hh => ih idx hi c e c' hh own ρ0 w0
  simp only [dferE] at h
  split at h
  ·cases h
  rename_i hg
  have hw : Region.wanted o (yielded ops A.tmps) = true := by unfold Region.wanted; rw [hg]
  have hru := (VRel.eq_1 ρ (.tuple #[])).mpr rfl
  simp only [wpOpsIn, hio, hw, if_true]
  split at h
  ·rename_i cl hop
   split at h
   ·rename_i f hc
    split at h
    ·rename_i g first cap vs hf hvs
     cases hb : bodyOK P g with
     | false => rw [hb] at h; cases h
     | true =>
      rw [hb, cond_true] at h
      refine ⟨fun f' _ => RF_fn _ _, ?_⟩
      have e1 := evF_rel hr.f _ _ hf
      simp only [VRel] at e1
      obtain ⟨A1, C1, e1, e2, e3⟩ := e1
      have e4 := evalOs_rel (evF_rel hr.f) hvs
      rw [← map_toList] at e4
      have hrun : (o.semAt (RF none).round A.eval).run P w = .ok (.defer { target := .fn (.func g) C1, args := A1 ++ cl.args.map A.eval }) w := by
       show (o.semAt none A.eval).run P w = _
       rw [Oper.semAt_none]
       unfold execOp
       simp only [hop, Sem.run_bind, resolve_fn hc e1, Result.andThen_ok, Sem.run_pure]
      rw [hrun, Oper.uponIn_defer]
      refine ih h ρ _ w h1 h2 ⟨putE_rel (A := { A with defers := _ :: A.defers }) hr.f hru o.dst, ?_, hr.s⟩
      rw [put_defers]
      refine ⟨A1 ++ cl.args.map A.eval, C1, A.defers, rfl, ?_, e3, hr.d⟩
      rw [lapp_eq, Array.toList_append]
      exact e2.append e4
    ·cases h
   ·cases h
  ·split at h
   ·rename_i v hv
    exact qop_sound hr.s (evF_rel hr.f) hv fun X hX => ih h ρ _ w h1 h2 ⟨putE_rel hr.f hX o.dst, by rw [put_defers]; exact hr.d, hr.s⟩
   ·cases h

theorem region_sound (hs : SelfOK P self) (id : Nat) (ops : Array Oper) (draw : Bool) : CodeOK P ro r n k (.region id ops draw) (regionE P self ro ops draw) := by
 intro c e c' h own ρ0 w0 ρ A w hk h0 h1 h2 hr
 cases draw with
 | false =>
  simp only [regionE] at h
  cases hd : hasDefer ops.toList with
  | true =>
   rw [hd, cond_true] at h
   cases ro with
   | some l => cases h
   | none =>
    have h0 : r = none := h0
    subst h0
    exact wpIn_region (dfer_sound ops ops.toList _ (range_map ops) c e c' h own ρ0 w0 ρ A w h1 h2 hr)
  | false =>
   rw [hd, cond_false] at h
   exact wpIn_region (ops_sound hs ops ops.toList _ (range_map ops) c e c' h own ρ0 w0 ρ A w h1 h2 hr)
 | true =>
  obtain ⟨hm, s0, M, R, dead, hpre, D, hfin⟩ := drawE_spec hr.f.ok h
  have hS0 := hr.s.ahead hpre.old hpre.le
  have hle0 : ρ.le ⟨ρ.f, s0.next, ρ.φ⟩ := ⟨⟨fun _ _ e => e, fun _ _ _ e => e⟩, Nat.le_trans hr.s.top hpre.le, fun _ _ e => e⟩
  refine wpIn_region_any hm ?_
  have hw : Fr own w0 { w with drawn := w.drawn + 1 } := h2.trans ⟨rfl, rfl, rfl, Nat.le_refl _, fun _ _ => rfl⟩
  refine draw_any hs D hfin (fun i b hb => Nat.le_trans h1.top (Nat.le_trans hr.s.top (hpre.new i b hb).1)) hpre.one ops.size _ c.tmps 0 ⟨ρ.f, s0.next, ρ.φ⟩ A _ ⟨by simp, ?_, hr.f.ok, rfl, ?_, fun _ _ => rfl, Nat.zero_le _, ?_⟩ ?_ (fun k _ => ?_) (fun i b hb _ => ⟨?_, (hpre.new i b hb).2⟩) (Env.le_trans h1 hle0) hw (hr.f.mono hle0) (hr.d.mono hle0) ⟨hS0.le, hS0.obj, hS0.inj, hS0.dom, hS0.top, hS0.fz, hS0.old⟩
  ·intro i o ho hl
   by_cases hi : i < ops.size <;> simp [hi] at hl
  ·intro k rk t _ _ hl
   by_cases hi : k < ops.size <;> simp [hi] at hl
  ·intro q e he
   constructor
   ·intro hl
    by_cases hi : e.1 < ops.size <;> simp [hi] at hl
   ·omega
  ·refine Nat.le_trans List.countP_le_length ?_
   simp
  ·by_cases hi : k < ops.size <;> simp [hi]
  ·cases e : ρ b with
   | none => rfl
   | some x => have := hr.s.dom b x e; have := (hpre.new i b hb).1; omega

section
variable {F : Fence} {b : Frame} {a : Act} {k : List Item} {cs : List Frame} {w : World} {Q : Exit → Act → World → Prop}
theorem stepR_scope {c : Code} : step P (lone (b.atR a (.code (.scope c) :: k)) cs w) = .next (lone (b.atR a (.code c :: .inScope c :: k)) cs w) := step_lone_go (by simp [stepG, stepG.exec, Frame.atR])
theorem stepR_inScope {c : Code} : step P (lone (b.atR a (.inScope c :: k)) cs w) = .next (lone (b.atR a k) cs w) := step_lone_go (by simp [stepG, stepG.exec, Frame.atR])
theorem wpIn_scope {c : Code} (h : c.wpIn F n P (fun e a' w' => (∀ l, e ≠ .goto l) ∧ Q e a' w') a w) : (Code.scope c).wpIn F n P Q a w := by
 intro b k cs hro hb hr
 have h0 : (lone (b.atR a (.code (.scope c) :: k)) cs w).fenced P F := fenced_calm hb hr rfl
 obtain ⟨e, a₁, w₁, hq, harr⟩ := h b (.inScope c :: k) cs hro hb hr
 cases e with
 | normal => exact ⟨.normal, a₁, w₁, hq.2, .head h0 stepR_scope (StepsIn.trans harr (.one (fenced_calm hb hr rfl) stepR_inScope))⟩
 | exit id =>
  have hx : exitTo id (.inScope c :: k) = exitTo id k := by simp [exitTo]
  exact ⟨.exit id, a₁, w₁, hq.2, fun k' hk => .head h0 stepR_scope (harr.1 k' (by rw [hx]; exact hk)),
    fun hr' hk => let ⟨k₁, h1, h2⟩ := harr.2 hr' (by rw [hx]; exact hk); ⟨k₁, h1, .head h0 stepR_scope h2⟩⟩
 | goto l => exact absurd rfl (hq.1 l)
 | ret => exact ⟨_, a₁, w₁, hq.2, .of_steps (.one h0 stepR_scope) harr⟩
 | panic ch => exact ⟨_, a₁, w₁, hq.2, .of_steps (.one h0 stepR_scope) harr⟩
 | outgrown => exact ⟨_, a₁, w₁, hq.2, .of_steps (.one h0 stepR_scope) harr⟩
end
theorem scope_sound {a : Code} {fa : Cfg → Option (EExit × Cfg)} (ha : CodeOK P ro r n k a fa) : CodeOK P ro r n k (.scope a) fa := by
 intro c e c' h own ρ0 w0 ρ A w hk h0 h1 h2 hr
 refine wpIn_scope (wpIn_mono (ha c _ _ h own ρ0 w0 ρ A w hk h0 h1 h2 hr) ?_)
 rintro E A1 w1 hp
 refine ⟨fun l hl => ?_, hp⟩
 obtain ⟨ρ', _, g, _⟩ := hp
 subst hl
 cases e with
 | normal => cases g
 | exit id => cases g
 | ret => cases g
 | pan v => obtain ⟨X, g, _⟩ := g; cases g

theorem seq_sound {a b : Code} {fa fb : Cfg → Option (EExit × Cfg)} (ha : CodeOK P ro r n k a fa) (hb : CodeOK P ro r n k b fb) : CodeOK P ro r n k (.seq a b) (seqE fa fb) := by
 intro c e c' h own ρ0 w0 ρ A w hk h0 h1 h2 hr
 refine wpIn_seq ?_
 unfold seqE at h
 split at h
 ·rename_i c1 hc1
  refine wpIn_mono (ha c _ _ hc1 own ρ0 w0 ρ A w hk h0 h1 h2 hr) ?_
  rintro E A1 w1 ⟨ρ', g1, g2, g3, g4, g5, g6⟩
  have g2 : E = .normal := g2
  subst g2
  exact hb c1 e c' h own ρ0 w0 ρ' A1 w1 hk h0 g1 g6 ⟨g3, g4, g5⟩
 ·rename_i hne
  refine wpIn_mono (ha c e c' h own ρ0 w0 ρ A w hk h0 h1 h2 hr) ?_
  intro E A1 w1 hq
  cases e with
  | normal => exact absurd h (hne c')
  | exit id => obtain ⟨ρ', g1, g2, g3⟩ := hq; have g2 : E = .exit id := g2; subst g2; exact ⟨ρ', g1, rfl, g3⟩
  | ret => obtain ⟨ρ', g1, g2, g3⟩ := hq; have g2 : E = .ret := g2; subst g2; exact ⟨ρ', g1, rfl, g3⟩
  | pan v => obtain ⟨ρ', g1, ⟨X, rfl, g2⟩, g3⟩ := hq; exact ⟨ρ', g1, ⟨X, rfl, g2⟩, g3⟩

theorem cond_sound {x : Operand} {a b : Code} {fa fb : Cfg → Option (EExit × Cfg)} (ha : CodeOK P ro r n k a fa) (hb : CodeOK P ro r n k b fb) : CodeOK P ro r n k (.cond x a b) (condE x fa fb) := by
 intro c e c' h own ρ0 w0 ρ A w hk h0 h1 h2 hr
 unfold condE at h
 split at h
 ·rename_i hx
  have := evF_rel hr.f x _ hx
  simp only [VRel] at this
  exact wpIn_cond_true this (ha c e c' h own ρ0 w0 ρ A w hk h0 h1 h2 hr)
 ·rename_i hx
  have := evF_rel hr.f x _ hx
  simp only [VRel] at this
  exact wpIn_cond_false this (hb c e c' h own ρ0 w0 ρ A w hk h0 h1 h2 hr)
 ·cases h

theorem block_sound {id : Nat} {b : Code} {fb : Cfg → Option (EExit × Cfg)} (hb : CodeOK P ro r n k b fb) : CodeOK P ro r n k (.block id b) (blockE id fb) := by
 intro c e c' h own ρ0 w0 ρ A w hk h0 h1 h2 hr
 refine wpIn_block ?_
 unfold blockE at h
 split at h
 ·rename_i id' c1 hc1
  refine wpIn_mono (hb c _ _ hc1 own ρ0 w0 ρ A w hk h0 h1 h2 hr) ?_
  rintro E A1 w1 ⟨ρ', g1, g2, g3⟩
  have g2 : E = .exit id' := g2
  subst g2
  cases hid : Nat.beq id' id with
  | true =>
   have e1 : id' = id := by simpa using hid
   rw [hid] at h; cases h
   simp only [Exit.inBlock, e1, if_true]
   exact ⟨ρ', g1, rfl, g3⟩
  | false =>
   have e1 : id' ≠ id := by intro e; subst e; simp at hid
   rw [hid] at h; cases h
   simp only [Exit.inBlock, e1, if_false]
   exact ⟨ρ', g1, rfl, g3⟩
 ·rename_i hne
  refine wpIn_mono (hb c e c' h own ρ0 w0 ρ A w hk h0 h1 h2 hr) ?_
  intro E A1 w1 hq
  cases e with
  | exit id => exact absurd h (hne id c')
  | normal => obtain ⟨ρ', g1, g2, g3⟩ := hq; have g2 : E = .normal := g2; subst g2; exact ⟨ρ', g1, rfl, g3⟩
  | ret => obtain ⟨ρ', g1, g2, g3⟩ := hq; have g2 : E = .ret := g2; subst g2; exact ⟨ρ', g1, rfl, g3⟩
  | pan v => obtain ⟨ρ', g1, ⟨X, rfl, g2⟩, g3⟩ := hq; exact ⟨ρ', g1, ⟨X, rfl, g2⟩, g3⟩

theorem loop_sound {b : Code} {fb : Cfg → Option (EExit × Cfg)} (hb : CodeOK P ro r n k b fb) (fuel : Nat) : CodeOK P ro r n k (.loop b) (iterE fb fuel) := by
 intro c e c' h own ρ0 w0 ρ A w hk h0 h1 h2 hr
 refine wpIn_loop_rounds fuel ?_
 induction fuel generalizing c ρ A w with
 | zero => cases h
 | succ m ih =>
  rw [roundsIn_succ]
  have h : (match fb c with | some (.normal, c') => iterE fb m c' | r => r) = some (e, c') := h
  split at h
  ·rename_i c1 hc1
   refine wpIn_mono (hb c _ _ hc1 own ρ0 w0 ρ A w hk h0 h1 h2 hr) ?_
   rintro E A1 w1 ⟨ρ', g1, g2, g3, g4, g5, g6⟩
   have g2 : E = .normal := g2
   subst g2
   exact ih c1 h ρ' A1 w1 g1 g6 ⟨g3, g4, g5⟩
  ·rename_i hne
   refine wpIn_mono (hb c e c' h own ρ0 w0 ρ A w hk h0 h1 h2 hr) ?_
   intro E A1 w1 hq
   cases e with
   | normal => exact absurd h (hne c')
   | exit id => obtain ⟨ρ', g1, g2, g3⟩ := hq; have g2 : E = .exit id := g2; subst g2; exact ⟨ρ', g1, rfl, g3⟩
   | ret => obtain ⟨ρ', g1, g2, g3⟩ := hq; have g2 : E = .ret := g2; subst g2; exact ⟨ρ', g1, rfl, g3⟩
   | pan v => obtain ⟨ρ', g1, ⟨X, rfl, g2⟩, g3⟩ := hq; exact ⟨ρ', g1, ⟨X, rfl, g2⟩, g3⟩
end
end Go.Sym
end

noncomputable section
namespace Go.Sym

section
variable {P : Program} {self : ESelf} {ro r : Option Nat} {n k : Nat}

theorem range_sound (hs : SelfOK P self) (f : Operand) (ps : Array Tmp) (assign body : Code) : CodeOK P ro r n k (.rangeFunc f ps assign body) (rangeE P self ro f ps assign body) := by
 intro c e c' h own ρ0 w0 ρ A w hk h0 h1 h2 hr
 unfold rangeE at h
 split at h
 ·cases h
 rename_i s1 d marks hopen
 -- the statement is entered
 have hent : ∃ ρ1 w1 MARKS D, ρ.le ρ1 ∧ SRel own ρ1 s1 w1 ∧ Fr own w w1 ∧ ρ1 d = some D ∧ DRel ρ1 marks MARKS ∧
   (∀ fn, (Instr.enterLoop fn A.tmps ps assign body r).run P w = .ok (w1.heap.size, MARKS) (w1.alloc (.loop { state := .ready, pending := none, fn, tmps := A.tmps, params := ps, assign, body, defers := D.B }))) := by
  cases ro with
  | none =>
   have h0 : r = none := h0
   subst h0
   cases hopen
   have hle := Env.le_put ⟨w.heap.size, 0, 0⟩ hr.s.fresh
   refine ⟨_, w.alloc (.deferred (some [])), [{ target := .collected w.heap.size, args := #[] }], ⟨w.heap.size, 0, 0⟩, hle, hr.s.new (.dfr false) (.deferred (some [])) 0 rfl rfl, fr_new hr.s.le rfl, Env.put_same, ⟨_, _, Env.put_same, rfl, rfl⟩, fun fn => ?_⟩
   have := run_enterLoop_outer (P := P) (w := w) fn A.tmps ps assign body
   rw [World.size_alloc]
   exact this
  | some l0 =>
   obtain ⟨x, hx, rfl⟩ := h0
   have hopen : (match c.st.heap.get l0 with
     | some (.loop r) => some (c.st, r.defers, [])
     | _ => none : Option (St × Nat × List EDef)) = some (s1, d, marks) := hopen
   split at hopen
   ·rename_i rl hg
    cases hopen
    obtain ⟨y, hy, _, L, D, l1, l2, l3, l4, l5, l6, l7, l8, l9⟩ := hr.s.obj' hg (h1.sub.1 _ _ hx)
    rw [h1.sub.1 _ _ hx] at hy; cases hy
    refine ⟨ρ, w, [], D, ρ.le_refl, hr.s, Fr.refl _ _, l8, rfl, fun fn => ?_⟩
    rw [← l9]
    exact run_enterLoop_inner l1 fn A.tmps ps assign body
   ·cases hopen
 obtain ⟨ρ1, w1, MARKS, D, g1, g2, g3, g4, g5, g6⟩ := hent
 split at h
 ·rename_i g first cap hf
  cases hbo : bodyOK P g with
  | false => simp [hbo] at h
  | true =>
  simp only [hbo, cond_true] at h
  -- the record
  have hle2 := Env.le_put ⟨w1.heap.size, 0, 0⟩ g2.fresh
  have hf' := evF_rel hr.f f _ hf
  have hf2 := VRel.mono (Env.le_trans g1 hle2) _ _ hf'
  simp only [VRel] at hf2
  obtain ⟨A1, C1, e1, e2, e3⟩ := hf2
  refine wpIn_rangeFunc fun fn _ => ?_
  let L : Loop := { state := .ready, pending := none, fn, tmps := A.tmps, params := ps, assign, body, defers := D.B }
  let w2 : World := w1.alloc (.loop L)
  have hS2 : SRel own (ρ1.put s1.next ⟨w1.heap.size, 0, 0⟩) (s1.new (.loop ⟨.ready, none, c.tmps, ps.toList, assign, body, d⟩)) w2 :=
   g2.new _ (.loop L) 0 rfl ⟨L, D, rfl, rfl, rfl, (hr.f.mono g1).mono hle2, rfl, rfl, rfl, hle2.sub.1 _ _ g4, rfl⟩
  have hB2 : Fr own w1 w2 := fr_new g2.le rfl
  have hargs : LRel (ρ1.put s1.next ⟨w1.heap.size, 0, 0⟩) (lapp (lapp first [.yld s1.next]) cap) (A1 ++ #[Value.func (.yield w1.heap.size) #[] #[]] ++ C1).toList := by
   rw [lapp_eq, lapp_eq]
   simp only [Array.toList_append]
   exact (e2.append (LRel.cons (by simp only [VRel]; exact ⟨_, _, _, Env.put_same, rfl⟩) LRel.nil)).append e3
  have hself : ∃ ee s2, self (.fn g (lapp (lapp first [.yld s1.next]) cap)) (s1.new (.loop ⟨.ready, none, c.tmps, ps.toList, assign, body, d⟩)) = some (ee, s2) := by
   cases hh : self (.fn g (lapp (lapp first [.yld s1.next]) cap)) (s1.new (.loop ⟨.ready, none, c.tmps, ps.toList, assign, body, d⟩)) with
   | none => rw [hh] at h; cases h
   | some p => exact ⟨p.1, p.2, rfl⟩
  obtain ⟨ee, s2, hself⟩ := hself
  rw [hself] at h
  refine ⟨w1.heap.size, MARKS, w2, { target := .fn (.func g) C1, args := A1 ++ #[Value.func (.yield w1.heap.size) #[] #[]] }, w2, g, _, w2, g6 fn, ?_, fun _ _ => RF_fn _ _, ?_, fun hh => by simp [RF_depth] at hh, callsIn_RF ((hs _ _ _ _ hself own _ w2 hS2 (n - 1) _ hargs).mono ?_)⟩
  ·have em : Array.map A.eval #[Operand.const (Value.func (.yield w1.heap.size) #[] #[])] = #[Value.func (.yield w1.heap.size) #[] #[]] := by simp [Act.eval]
   simp only [resolve, rangeCall, e1, Deferred.ofValue, Sem.run_pure, em]
  ·simp only [invoke]
   exact run_callFunc hbo _
  ·rintro E w3 ⟨ρ3, k1, k2, k3, k4⟩
   have hle3 : ρ.le ρ3 := Env.le_trans g1 (Env.le_trans hle2 k1)
   have hB3 : Fr own w w3 := (g3.trans hB2).trans k4
   have hmarks : DRel ρ3 (marks ++ c.defers) (MARKS ++ A.defers) := by
    have m1 := g5.mono (Env.le_trans hle2 k1)
    have m2 := hr.d.mono hle3
    clear h hopen
    revert m1
    generalize marks = ms
    generalize MARKS = MS
    induction ms generalizing MS with
    | nil => intro m1; have m1 : MS = [] := m1; subst m1; exact m2
    | cons a ms ih =>
     intro m1
     cases a with
     | mark k => obtain ⟨x, Y, q1, rfl, q2⟩ := m1; exact ⟨x, Y ++ A.defers, q1, rfl, ih Y q2⟩
     | call k a b => obtain ⟨A', C', Y, rfl, q1, q2, q3⟩ := m1; exact ⟨A', C', Y ++ A.defers, rfl, q1, q2, ih Y q3⟩
   cases ee with
   | pan v =>
    obtain ⟨X, rfl, k5⟩ := k2
    simp only at h
    cases h
    exact CPost.mk (Env.le_trans h1 hle3) (h2.trans hB3) ⟨hr.f.mono hle3, hmarks, k3⟩ ⟨X, rfl, k5⟩
   | ret v =>
    obtain ⟨X, rfl, k5⟩ := k2
    simp only at h
    split at h
    ·rename_i rl hg
     have hnb : rl.state ≠ .busy := by intro e; rw [e] at h; cases h
     have h : (match jumpE rl.pending with
         | some e => some (e, (⟨c.tmps, marks ++ c.defers, s2.upd s1.next (.loop { rl with state := .exhausted })⟩ : Cfg))
         | none => none) = some (e, c') := by
      cases hst : rl.state <;> rw [hst] at h <;> first | exact absurd hst hnb | exact h
     have hy2 : ρ3 s1.next = some ⟨w1.heap.size, 0, 0⟩ := k1.sub.1 _ _ Env.put_same
     obtain ⟨y, hy, _, L3, D3, l1, l2, l3, l4, l5, l6, l7, l8, l9⟩ := k3.obj' hg hy2
     rw [hy2] at hy; cases hy
     simp only at l1
     have hend := run_endLoop (P := P) l1 (by rw [l2]; exact hnb)
     have hS4 : SRel own ρ3 (s2.upd s1.next (.loop { rl with state := .exhausted })) (w3.putObj w1.heap.size (.loop { L3 with state := .exhausted })) :=
      k3.upd hg hy2 _ (.loop { L3 with state := .exhausted }) rfl ⟨_, D3, rfl, rfl, l3, l4, l5, l6, l7, l8, l9⟩
     have hB4 : Fr own w (w3.putObj w1.heap.size (.loop { L3 with state := .exhausted })) := hB3.trans (fr_set (g2.le _ (Nat.le_refl _)) rfl)
     have hrel : Rel own ρ3 ⟨c.tmps, marks ++ c.defers, s2.upd s1.next (.loop { rl with state := .exhausted })⟩ { A with defers := MARKS ++ A.defers } (w3.putObj w1.heap.size (.loop { L3 with state := .exhausted })) :=
      ⟨hr.f.mono hle3, hmarks, hS4⟩
     generalize (⟨c.tmps, marks ++ c.defers, s2.upd s1.next (.loop { rl with state := .exhausted })⟩ : Cfg) = c4 at h hrel
     refine ⟨_, _, hend, ?_⟩
     split
     ·rename_i hj
      rw [← l3, hj] at h
      simp only [jumpE] at h
      cases h
      exact CPost.mk (Env.le_trans h1 hle3) (h2.trans hB4) hrel rfl
     ·rename_i j hj
      rw [← l3, hj] at h
      cases j <;> simp only [jumpE, reduceCtorEq] at h
      ·cases h
       exact wpIn_exit (CPost.mk (Env.le_trans h1 hle3) (h2.trans hB4) hrel rfl)
      ·cases h
       exact wpIn_ret (CPost.mk (Env.le_trans h1 hle3) (h2.trans hB4) hrel rfl)
    ·cases h
 ·cases h

theorem loopF_sound {lp : LpF} {b : Code} {f : Cfg → Option (EExit × Cfg)} (hf : CodeOK P ro r n k (.loop b) f) (hl : ∀ id F, firstR b = some id → lp id = some F → CodeOK P ro r n k (.loop b) F) : CodeOK P ro r n k (.loop b) (loopF lp b f) := by
 unfold loopF
 split
 ·split
  ·exact hl _ _ ‹_› ‹_›
  ·exact hf
 ·exact hf
def LpOK (P : Program) (ro r : Option Nat) (n k : Nat) (lp : LpF) : Code → Prop
 | .loop b => (∀ id F, firstR b = some id → lp id = some F → CodeOK P ro r n k (.loop b) F) ∧ LpOK P ro r n k lp b
 | .seq a b => LpOK P ro r n k lp a ∧ LpOK P ro r n k lp b
 | .cond _ a b => LpOK P ro r n k lp a ∧ LpOK P ro r n k lp b
 | .block _ b => LpOK P ro r n k lp b
 | .scope b => LpOK P ro r n k lp b
 | _ => True
theorem noLp_ok : ∀ x : Code, LpOK P ro r n k noLp x
 | .loop b => ⟨fun id F _ h => (by cases h), noLp_ok b⟩
 | .seq a b => ⟨noLp_ok a, noLp_ok b⟩
 | .cond _ a b => ⟨noLp_ok a, noLp_ok b⟩
 | .block _ b => noLp_ok b
 | .scope b => noLp_ok b
 | .skip => trivial
 | .label _ => trivial
 | .ret => trivial
 | .exit _ => trivial
 | .goto _ => trivial
 | .refuse _ => trivial
 | .region .. => trivial
 | .rangeFunc .. => trivial

theorem codeL_sound (hs : SelfOK P self) (fuel : Nat) (lp : LpF) : ∀ x : Code, LpOK P ro r n k lp x → CodeOK P ro r n k x (runF (compC P self fuel ro lp x))
 | .skip, _ => fun c e c' h own ρ0 w0 ρ A w hk h0 h1 h2 hr => by
  have h : some (EExit.normal, c) = some (e, c') := h
  cases h
  exact wpIn_skip (CPost.mk h1 h2 hr rfl)
 | .label l, _ => fun c e c' h own ρ0 w0 ρ A w hk h0 h1 h2 hr => by
  have h : some (EExit.normal, c) = some (e, c') := h
  cases h
  exact wpIn_label (CPost.mk h1 h2 hr rfl)
 | .ret, _ => fun c e c' h own ρ0 w0 ρ A w hk h0 h1 h2 hr => by
  have h : some (EExit.ret, c) = some (e, c') := h
  cases h
  exact wpIn_ret (CPost.mk h1 h2 hr rfl)
 | .exit id, _ => fun c e c' h own ρ0 w0 ρ A w hk h0 h1 h2 hr => by
  have h : some (EExit.exit id, c) = some (e, c') := h
  cases h
  exact wpIn_exit (CPost.mk h1 h2 hr rfl)
 | .goto l, _ => fun c e c' h own ρ0 w0 ρ A w hk h0 h1 h2 hr => by
  have h : none = some (e, c') := h
  cases h
 | .scope b, hl => scope_sound (codeL_sound hs fuel lp b hl)
 | .refuse why, _ => fun c e c' h own ρ0 w0 ρ A w hk h0 h1 h2 hr => by
  have h : none = some (e, c') := h
  cases h
 | .region id ops draw, _ => region_sound hs id ops draw
 | .seq a b, hl => seq_sound (codeL_sound hs fuel lp a hl.1) (codeL_sound hs fuel lp b hl.2)
 | .cond x a b, hl => cond_sound (codeL_sound hs fuel lp a hl.1) (codeL_sound hs fuel lp b hl.2)
 | .block id b, hl => block_sound (codeL_sound hs fuel lp b hl)
 | .loop b, hl => loopF_sound (loop_sound (codeL_sound hs fuel lp b hl.2) fuel) hl.1
 | .rangeFunc f ps assign body, _ => range_sound hs f ps assign body
theorem code_sound (hs : SelfOK P self) (fuel : Nat) (x : Code) : CodeOK P ro r n k x (runF (compC P self fuel ro noLp x)) := codeL_sound hs fuel noLp x (noLp_ok x)

theorem params_rel {ρ : Env} : ∀ (ps : List Tmp) {vs : List V} {As : List Value}, LRel ρ vs As → ∀ {f : Frm} {T : Array Value}, FRel ρ f T →
  FRel ρ (setParams f ps vs) ((ps.zip As).foldl (fun (tmps : Array Value) (x : Tmp × Value) => tmps.setIfInBounds x.1 x.2) T)
 | [], vs, As, h, f, T, hf => by simpa [setParams] using hf
 | p :: ps, [], As, h, f, T, hf => by have h : As = [] := h; subst h; simpa [setParams] using hf
 | p :: ps, v :: vs, As, h, f, T, hf => by
  obtain ⟨X, Y, rfl, h1, h2⟩ := h
  simp only [setParams, List.zip_cons_cons, List.foldl_cons]
  exact params_rel ps h2 (hf.set h1 p)

theorem round_sound (hs : SelfOK P self) (fuel l : Nat) (args : List V) (s : St) (e : EEnd) (s' : St) (h : runRound P self fuel l args s = some (e, s')) (own : Own) (ρ : Env) (w : World) (hS : SRel own ρ s w) (n : Nat)
  (x : Blk) (L : Loop) (A : Array Value) (hx : ρ l = some x) (hL : w.heap[x.B]? = some (.loop L)) (hA : LRel ρ args A.toList) :
  RoundIn Fence.wide n P x.B L.fn ((L.params.zip A).foldl (fun tmps (t, a) => tmps.setIfInBounds t a) L.tmps) L.assign L.body w (Post own ρ w e s') := by
 unfold runRound at h
 split at h
 ·rename_i rl hg
  obtain ⟨y, hy, hbase, L', D, l1, l2, l3, l4, l5, l6, l7, l8, l9⟩ := hS.obj' hg hx
  rw [hx] at hy; cases hy
  rw [hL] at l1
  cases l1
  have hfr : FRel ρ (setParams rl.tmps rl.params args) ((L.params.zip A).foldl (fun tmps (t, a) => tmps.setIfInBounds t a) L.tmps) := by
   have := params_rel rl.params hA l4
   rw [← l5] at this ⊢
   rw [← Array.foldl_toList, Array.toList_zip]
   exact this
  split at h
  ·rename_i c1 hc1
   split at h
   ·rename_i r1 hg1
    split at h
    ·rename_i hst
     refine roundIn_of_wpIn trivial ?_
     have hrr : RR ρ (some l) (some x.B) := ⟨x, hx, rfl⟩
     rw [l6, l7]
     refine wpIn_mono (F := RF (some x.B)) (code_sound (k := s.next) hs fuel rl.assign _ _ _ hc1 own ρ w ρ { tmps := _, defers := [] } w ⟨hS.top, hS.dom⟩ hrr ρ.le_refl (Fr.refl _ _) ⟨hfr, rfl, hS⟩) ?_
     rintro E A1 w1 ⟨ρ1, g1, g2, g3, g4, g5, g6⟩
     have g2 : E = .normal := g2
     subst g2
     have hx1 : ρ1 l = some x := g1.sub.1 _ _ hx
     obtain ⟨y1, hy1, hb1, L1, D1, q1, q2, q3, q4, q5, q6, q7, q8, q9⟩ := g5.obj' hg1 hx1
     rw [hx1] at hy1; cases hy1
     refine ⟨_, run_beginRound q1 (by rw [q2]; exact hst), ?_⟩
     have hS2 : SRel own ρ1 (c1.st.upd l (.loop { r1 with state := .busy })) (w1.putObj x.B (.loop { L1 with state := .busy })) :=
      g5.upd hg1 hx1 _ (.loop { L1 with state := .busy }) rfl ⟨_, D1, rfl, rfl, q3, q4, q5, q6, q7, q8, q9⟩
     have hB2 : Fr own w (w1.putObj x.B (.loop { L1 with state := .busy })) := g6.trans (fr_set hbase.1 rfl)
     split at h
     ·rename_i e2 c2 hc2
      refine wpIn_mono (F := RF (some x.B)) (code_sound (k := s.next) hs fuel rl.body _ _ _ hc2 own ρ w ρ1 A1 _ ⟨hS.top, hS.dom⟩ hrr g1 hB2 ⟨g3, g4, hS2⟩) ?_
      rintro E2 A2 w2 ⟨ρ2, k1, k2, k3, k4, k5, k6⟩
      split at h
      ·rename_i r2 hg2
       have hx2 : ρ2 l = some x := k1.sub.1 _ _ hx
       obtain ⟨y2, hy2, hb2, L2, D2, t1, t2, t3, t4, t5, t6, t7, t8, t9⟩ := k5.obj' hg2 hx2
       rw [hx2] at hy2; cases hy2
       cases e2 with
       | normal =>
        have k2 : E2 = .normal := k2
        subst k2
        simp only at h
        cases h
        refine ⟨_, _, run_endRound none t1, ρ2, k1, ⟨_, rfl, by simp only [VRel]; rfl⟩, ?_, k6.trans (fr_set hbase.1 rfl)⟩
        exact k5.upd hg2 hx2 _ (.loop _) rfl ⟨_, D2, rfl, rfl, rfl, t4, t5, t6, t7, t8, t9⟩
       | ret =>
        have k2 : E2 = .ret := k2
        subst k2
        simp only at h
        cases h
        refine ⟨_, _, run_endRound (some .ret) t1, ρ2, k1, ⟨_, rfl, by simp only [VRel]; rfl⟩, ?_, k6.trans (fr_set hbase.1 rfl)⟩
        exact k5.upd hg2 hx2 _ (.loop _) rfl ⟨_, D2, rfl, rfl, rfl, t4, t5, t6, t7, t8, t9⟩
       | exit id =>
        have k2 : E2 = .exit id := k2
        subst k2
        simp only at h
        cases h
        refine ⟨_, _, run_endRound (some (.exit id)) t1, ρ2, k1, ⟨_, rfl, by simp only [VRel]; rfl⟩, ?_, k6.trans (fr_set hbase.1 rfl)⟩
        exact k5.upd hg2 hx2 _ (.loop _) rfl ⟨_, D2, rfl, rfl, rfl, t4, t5, t6, t7, t8, t9⟩
       | pan v => simp only at h; cases h
      ·cases h
     ·cases h
    ·cases h
   ·cases h
  ·cases h
 ·cases h


def resVar (T : Array Value) : ResultVar → Sem Value
 | .tmp t => pure (T.getD t undef)
 | .cell a t => do loadVar t (← asAddr (T.getD a undef))
theorem results_rel {own : Own} {ρ : Env} {s : St} {w : World} (h : SRel own ρ s w) {f : Frm} {T : Array Value} (hf : FRelA ρ f T) : ∀ {rs : List ResultVar} {l : List V}, resultsE P s f rs = some l →
  ∃ L : List Value, (rs.mapM (resVar T)).run P w = .ok L w ∧ LRel ρ l L
 | [], l, hq => by simp only [resultsE] at hq; cases hq; exact ⟨[], by simp, LRel.nil⟩
 | .tmp t :: rs, l, hq => by
  simp only [resultsE] at hq
  split at hq
  ·rename_i l' hl
   split at hq
   ·cases hq
   rename_i hne
   cases hq
   obtain ⟨L, h1, h2⟩ := results_rel h hf hl
   exact ⟨T.getD t undef :: L, by simp only [List.mapM_cons, resVar, Sem.run_bind, Sem.run_pure, Result.andThen_ok, h1], LRel.cons (hf.get t) h2⟩
  ·cases hq
 | .cell a t :: rs, l, hq => by
  simp only [resultsE] at hq
  split at hq
  ·rename_i v hv
   split at hq
   ·rename_i l' hl
    cases hq
    obtain ⟨L, h1, h2⟩ := results_rel h hf hl
    obtain ⟨cc, hv, hcc⟩ := chkQ_some hv
    have ha := hf.get a
    obtain ⟨X, h3, h4⟩ := qLoad_rel (P := P) h hv hcc ha
    have hp : ∃ ad, T.getD a undef = .pointer (some ad) := by
     unfold qLoad at hv
     split at hv
     ·rename_i e
      rw [e] at ha
      simp only [VRel] at ha
      obtain ⟨B, O, S, _, e2⟩ := ha
      exact ⟨_, e2⟩
     ·rename_i e
      rw [e] at ha
      simp only [VRel] at ha
      obtain ⟨B, O, S, _, e2⟩ := ha
      exact ⟨_, e2⟩
     ·rename_i e
      rw [e] at ha
      simp only [VRel] at ha
      obtain ⟨B, o, e2, _⟩ := ha
      exact ⟨_, e2⟩
     ·cases hv
    obtain ⟨ad, hp⟩ := hp
    rw [hp] at h3
    have h5 : (loadVar t ad).run P w = .ok X w := h3
    refine ⟨X :: L, ?_, LRel.cons h4 h2⟩
    simp only [List.mapM_cons, resVar, Sem.run_bind, Sem.run_pure, Result.andThen_ok, h1, hp, asAddr, h5]
   ·cases hq
  ·cases hq

theorem result_rel {own : Own} {ρ : Env} {s : St} {w : World} (h : SRel own ρ s w) {f : Frm} {T : Array Value} (hf : FRelA ρ f T) {fn : Func} {v : V} (hq : resultE P s f fn.results.toList = some v) :
  ∃ X, (results fn T).run P w = .ok X w ∧ VRel ρ v X := by
 unfold resultE at hq
 have key : ∀ l, resultsE P s f fn.results.toList = some l → ∃ L : List Value, LRel ρ l L ∧ (results fn T).run P w = .ok (if h : L.toArray.size = 1 then L.toArray[0] else .tuple L.toArray) w := by
  intro l hl
  obtain ⟨L, h1, h2⟩ := results_rel (P := P) h hf hl
  refine ⟨L, h2, ?_⟩
  have e : results fn T = (do
      let vs ← fn.results.mapM (resVar T)
      pure (if h : vs.size = 1 then vs[0] else .tuple vs)) := by
   unfold results
   congr 1
  rw [e]
  simp only [Sem.run_bind, Array.mapM_eq_mapM_toList, Sem.run_map, h1, Result.andThen_ok, Sem.run_pure]
 split at hq
 ·rename_i v' hl
  cases hq
  obtain ⟨L, h1, h2⟩ := key _ hl
  obtain ⟨X, Y, rfl, h3, h4⟩ := h1
  have h4 : Y = [] := h4
  subst h4
  exact ⟨X, by simpa using h2, h3⟩
 ·rename_i l hne hl
  cases hq
  obtain ⟨L, h1, h2⟩ := key _ hl
  have hlen := h1.length
  have hne1 : ¬ L.toArray.size = 1 := by
   intro e
   simp only [List.size_toArray] at e
   rw [e] at hlen
   obtain ⟨a, rfl⟩ := List.length_eq_one_iff.1 hlen
   exact hne a rfl
  refine ⟨.tuple L.toArray, by rw [h2, dif_neg hne1], ?_⟩
  cases l with
  | nil =>
   have h1 : L = [] := h1
   subst h1
   simp only [VRel]
  | cons a l => simp only [VRel]; exact ⟨_, rfl, by simpa using h1⟩
 ·cases hq

def DMRel (ρ : Env) : DM → FrameMode → Prop
 | none, u => u = .returning
 | some (v, b), u => ∃ X, u = .panicking [{ v := X, recovered := b }] ∧ VRel ρ v X
theorem DMRel.mono {ρ ρ' : Env} (h : ρ.le ρ') : ∀ {m : DM} {u : FrameMode}, DMRel ρ m u → DMRel ρ' m u
 | none, _, r => r
 | some _, _, ⟨X, h1, h2⟩ => ⟨X, h1, VRel.mono h _ _ h2⟩
theorem DMRel.settle {ρ : Env} : ∀ {m : DM} {u : FrameMode}, DMRel ρ m u → DMRel ρ (settleE m) (settle u)
 | none, _, r => by have r : _ = _ := r; subst r; rfl
 | some (v, false), _, ⟨X, h1, h2⟩ => by subst h1; exact ⟨X, rfl, h2⟩
 | some (v, true), _, ⟨X, h1, h2⟩ => by subst h1; rfl
theorem DMRel.run {ρ : Env} : ∀ {m : DM} {u : FrameMode}, DMRel ρ m u → u ≠ .run
 | none, _, r => by have r : _ = _ := r; subst r; simp
 | some (v, b), _, ⟨X, h1, h2⟩ => by subst h1; simp
def DPost (own : Own) (ρ : Env) (w : World) (e : EExit) (c' : Cfg) (m' : DM) (c₀ : Frame) (cs : List Frame) : Exit → Act → List Frame → World → Prop :=
 fun E A' cs' w' => ∃ ρ' u', ρ.le ρ' ∧ XRel ρ' e E ∧ Rel own ρ' c' A' w' ∧ Fr own w w' ∧ cs' = { c₀ with mode := u' } :: cs ∧ DMRel ρ' m' u'
def CodeDOK (P : Program) (n : Nat) (x : Code) (f : Cfg → DM → Option (EExit × Cfg × DM)) : Prop :=
 ∀ c m e c' m', f c m = some (e, c', m') → ∀ own ρ0 w0 ρ A w (c₀ : Frame) (cs : List Frame), ρ0.le ρ → Fr own w0 w → Rel own ρ c A w → DMRel ρ m c₀.mode →
  x.wpSIn Fence.wide n P (DPost own ρ0 w0 e c' m' c₀ cs) A (c₀ :: cs) w
theorem wpSIn_mono {F : Fence} {c : Code} {Q Q' : Exit → Act → List Frame → World → Prop} {a : Act} {cs : List Frame} {w : World} (h : c.wpSIn F n P Q a cs w) (hq : ∀ e a cs w, Q e a cs w → Q' e a cs w) : c.wpSIn F n P Q' a cs w :=
 fun b k hb hr hF hroom => let ⟨e, a', cs', w', l, q, r⟩ := h b k hb hr hF hroom; ⟨e, a', cs', w', l, hq _ _ _ _ q, r⟩
theorem plain_sound {x : Code} {f : Cfg → Option (EExit × Cfg)} (hx : ∀ k, CodeOK P none none n k x f) : CodeDOK P n x fun c m => withD m (f c) := by
 intro c m e c' m' h own ρ0 w0 ρ A w c₀ cs h1 h2 hr hm
 cases hf : f c with
 | none => simp [hf, withD] at h
 | some p =>
  obtain ⟨e1, c1⟩ := p
  have hnp : ∀ v, e1 ≠ .pan v := fun v ev => by subst ev; simp [hf, withD] at h
  have h : some (e1, c1, m) = some (e, c', m') := by
   cases e1 with
   | pan v => exact absurd rfl (hnp v)
   | _ => simpa [hf, withD] using h
  simp only [Option.some.injEq, Prod.mk.injEq] at h
  obtain ⟨rfl, rfl, rfl⟩ := h
  refine wpSIn_of_wpIn rfl (wpIn_mono (F := RF none) (hx c.st.next c _ _ hf own ρ w ρ A w ⟨hr.s.top, hr.s.dom⟩ rfl ρ.le_refl (Fr.refl _ _) hr) ?_)
  rintro E A1 w1 ⟨ρ', g1, g2, g3, g4, g5, g6⟩
  have g3 : FRel ρ' c1.tmps A1.tmps := by
   cases e1 with
   | pan v => exact absurd rfl (hnp v)
   | _ => exact g3
  exact ⟨ρ', c₀.mode, Env.le_trans h1 g1, g2, ⟨g3, g4, g5⟩, h2.trans g6, rfl, hm.mono g1⟩

theorem run_rec {A : Act} {o : Oper} (h : isRec o.op = true) {w : World} : (execOp A.eval o).run P w = .ok .recover w := by
 unfold isRec at h
 split at h
 ·rename_i cl ho
  split at h
  ·rename_i hc
   have ha : cl.args = #[] := by simpa using h
   unfold execOp
   simp [ho, resolve, hc, invoke, Go.builtin, ha]
  ·cases h
 ·cases h
theorem rec_sound (ops : Array Oper) : ∀ (l : List Oper) (idx : List Nat), idx.map (ops[·]?) = l.map some → ∀ c m e c' m', recE P l c m = some (e, c', m') →
  ∀ own ρ0 w0 ρ A w (c₀ : Frame) (cs : List Frame), ρ0.le ρ → Fr own w0 w → Rel own ρ c A w → DMRel ρ m c₀.mode → wpOpsSIn Fence.wide n P ops (DPost own ρ0 w0 e c' m' c₀ cs) idx A (c₀ :: cs) w := by
 intro l
 induction l with
 | nil =>
  intro idx hi c m e c' m' h own ρ0 w0 ρ A w c₀ cs h1 h2 hr hm
  have hi : idx = [] := by simpa using hi
  subst hi
  simp only [recE] at h
  cases h
  exact ⟨ρ, c₀.mode, h1, rfl, hr, h2, rfl, hm⟩
 | cons o l ih =>
  intro idx hi c m e c' m' h own ρ0 w0 ρ A w c₀ cs h1 h2 hr hm
  cases idx with
  | nil => simp at hi
  | cons i idx =>
  simp only [List.map_cons, List.cons.injEq] at hi
  obtain ⟨hio, hi⟩ := hi
  simp only [recE] at h
  split at h
  ·cases h
  rename_i hg
  have hw : Region.wanted o (yielded ops A.tmps) = true := by unfold Region.wanted; rw [hg]
  simp only [wpOpsSIn, hio, hw, if_true]
  refine ⟨fun f' _ => trivial, ?_⟩
  cases hrec : isRec o.op with
  | true =>
   rw [hrec, cond_true] at h
   rw [run_rec hrec]
   simp only
   split at h
   ·rename_i v
    obtain ⟨X, hu, hX⟩ := hm
    have e1 : recoverD (c₀ :: cs) = some (X, { c₀ with mode := .panicking [{ v := X, recovered := true }] } :: cs) := by simp [recoverD, hu]
    rw [e1]
    exact ih idx hi _ _ e c' m' h own ρ0 w0 ρ _ w { c₀ with mode := .panicking [{ v := X, recovered := true }] } cs h1 h2 ⟨putE_rel hr.f hX o.dst, by rw [put_defers]; exact hr.d, hr.s⟩ ⟨X, rfl, hX⟩
   ·rename_i m1 hne
    have e1 : recoverD (c₀ :: cs) = none := by
     cases m with
     | none => have hm : _ = _ := hm; simp [recoverD, hm]
     | some p =>
      obtain ⟨v, b⟩ := p
      cases b with
      | false => exact absurd rfl (hne v)
      | true => obtain ⟨X, hu, hX⟩ := hm; simp [recoverD, hu]
    rw [e1]
    exact ih idx hi _ _ e c' m' h own ρ0 w0 ρ _ w c₀ cs h1 h2 ⟨putE_rel hr.f (by simp only [VRel]) o.dst, by rw [put_defers]; exact hr.d, hr.s⟩ hm
  | false =>
   rw [hrec, cond_false] at h
   split at h
   ·rename_i v hv
    obtain ⟨cq, hvq, hcq⟩ := chkQ_some hv
    obtain ⟨X, g1, g2⟩ := qop_rel hr.s (evF_rel hr.f) hvq hcq
    rw [g1]
    exact ih idx hi _ _ e c' m' h own ρ0 w0 ρ _ w c₀ cs h1 h2 ⟨putE_rel hr.f g2 o.dst, by rw [put_defers]; exact hr.d, hr.s⟩ hm
   ·cases h

theorem seqD_sound {a b : Code} {fa fb : Cfg → DM → Option (EExit × Cfg × DM)} (ha : CodeDOK P n a fa) (hb : CodeDOK P n b fb) : CodeDOK P n (.seq a b) (seqD fa fb) := by
 intro c m e c' m' h own ρ0 w0 ρ A w c₀ cs h1 h2 hr hm
 refine wpSIn_seq ?_
 unfold seqD at h
 split at h
 ·rename_i c1 m1 hc1
  refine wpSIn_mono (ha c m _ _ _ hc1 own ρ0 w0 ρ A w c₀ cs h1 h2 hr hm) ?_
  rintro E A1 cs1 w1 ⟨ρ', u', g1, g2, g3, g4, rfl, g5⟩
  have g2 : E = .normal := g2
  subst g2
  exact hb c1 m1 e c' m' h own ρ0 w0 ρ' A1 w1 { c₀ with mode := u' } cs g1 g4 g3 g5
 ·rename_i hne
  refine wpSIn_mono (ha c m e c' m' h own ρ0 w0 ρ A w c₀ cs h1 h2 hr hm) ?_
  rintro E A1 cs1 w1 hp
  cases E with
  | normal =>
   obtain ⟨ρ', u', g1, g2, g3, g4, rfl, g5⟩ := hp
   cases e with
   | normal => exact absurd h (hne c' m')
   | exit id => cases g2
   | ret => cases g2
   | pan v => obtain ⟨X, g2, _⟩ := g2; cases g2
  | _ => exact hp

theorem condD_sound {x : Operand} {a b : Code} {fa fb : Cfg → DM → Option (EExit × Cfg × DM)} (ha : CodeDOK P n a fa) (hb : CodeDOK P n b fb) : CodeDOK P n (.cond x a b) (condD x fa fb) := by
 intro c m e c' m' h own ρ0 w0 ρ A w c₀ cs h1 h2 hr hm
 unfold condD at h
 split at h
 ·rename_i hx
  have := evF_rel hr.f _ _ hx
  simp only [VRel] at this
  exact wpSIn_cond this (ha c m e c' m' h own ρ0 w0 ρ A w c₀ cs h1 h2 hr hm)
 ·rename_i hx
  have := evF_rel hr.f _ _ hx
  simp only [VRel] at this
  exact wpSIn_cond this (hb c m e c' m' h own ρ0 w0 ρ A w c₀ cs h1 h2 hr hm)
 ·cases h

theorem codeD_sound (hs : SelfOK P self) (fuel : Nat) : ∀ x : Code, CodeDOK P n x (runD (compD P self fuel x))
 | .skip => plain_sound (fun k => code_sound hs fuel .skip)
 | .label l => plain_sound (fun k => code_sound hs fuel (.label l))
 | .ret => plain_sound (fun k => code_sound hs fuel .ret)
 | .exit id => plain_sound (fun k => code_sound hs fuel (.exit id))
 | .goto l => plain_sound (fun k => code_sound hs fuel (.goto l))
 | .scope b => plain_sound (fun k => code_sound hs fuel (.scope b))
 | .refuse why => plain_sound (fun k => code_sound hs fuel (.refuse why))
 | .region id ops true => plain_sound (fun k => code_sound hs fuel (.region id ops true))
 | .region id ops false => by
  intro c m e c' m' h own ρ0 w0 ρ A w c₀ cs h1 h2 hr hm
  have h : (bif hasRec ops.toList then recE P ops.toList c m else withD m (runCode P self fuel none (.region id ops false) c)) = some (e, c', m') := h
  cases hd : hasRec ops.toList with
  | true =>
   rw [hd, cond_true] at h
   exact wpSIn_region (rec_sound ops ops.toList _ (range_map ops) c m e c' m' h own ρ0 w0 ρ A w c₀ cs h1 h2 hr hm)
  | false =>
   rw [hd, cond_false] at h
   exact plain_sound (fun k => code_sound hs fuel (.region id ops false)) c m e c' m' h own ρ0 w0 ρ A w c₀ cs h1 h2 hr hm
 | .seq a b => seqD_sound (codeD_sound hs fuel a) (codeD_sound hs fuel b)
 | .cond x a b => condD_sound (codeD_sound hs fuel a) (codeD_sound hs fuel b)
 | .block id b => plain_sound (fun k => code_sound hs fuel (.block id b))
 | .loop b => plain_sound (fun k => code_sound hs fuel (.loop b))
 | .rangeFunc f ps assign body => plain_sound (fun k => code_sound hs fuel (.rangeFunc f ps assign body))

theorem hOf_le {n : Nat} (h : n ≤ 4096) : n ≤ 2 ^ hOf n := by
 unfold hOf
 have bl : ∀ a b : Nat, Nat.ble a b = decide (a ≤ b) := by intro a b; rw [Bool.eq_iff_iff]; simp
 simp only [bl]
 by_cases h1 : n ≤ 1
 ·simp [h1]
 by_cases h2 : n ≤ 2
 ·simp [h1, h2]
 by_cases h4 : n ≤ 4
 ·simp [h1, h2, h4]
 by_cases h8 : n ≤ 8
 ·simp [h1, h2, h4, h8]
 by_cases h16 : n ≤ 16
 ·simp [h1, h2, h4, h8, h16]
 by_cases h32 : n ≤ 32
 ·simp [h1, h2, h4, h8, h16, h32]
 by_cases h64 : n ≤ 64
 ·simp [h1, h2, h4, h8, h16, h32, h64]
 by_cases h128 : n ≤ 128
 ·simp [h1, h2, h4, h8, h16, h32, h64, h128]
 by_cases h256 : n ≤ 256
 ·simp [h1, h2, h4, h8, h16, h32, h64, h128, h256]
 by_cases h512 : n ≤ 512
 ·simp [h1, h2, h4, h8, h16, h32, h64, h128, h256, h512]
 by_cases h1024 : n ≤ 1024
 ·simp [h1, h2, h4, h8, h16, h32, h64, h128, h256, h512, h1024]
 ·simp [h1, h2, h4, h8, h16, h32, h64, h128, h256, h512, h1024]; omega

theorem mkFrm_rel {ρ : Env} {args : List V} {A : Array Value} (h : LRel ρ args A.toList) {n : Nat} (hn : args.length ≤ n) (hm : n ≤ 4096) : FRel ρ (mkFrm n args) (A ++ Array.replicate (n - A.size) undef) := by
 have hl := h.length
 simp only [Array.length_toList] at hl
 refine ⟨by simp [mkFrm]; omega, hOf n, B.ofList_full _ _ _, hOf_le hm, fun i X hi => ?_⟩
 have hi2 : i < n := by
  have := (Array.getElem?_eq_some_iff.1 hi).1
  simp at this; omega
 have hle := hOf_le hm
 show VRel ρ ((B.ofList .undef (hOf n) args).get i) X
 rw [B.ofList_get _ _ _ _ (by omega), List.getD_eq_getElem?_getD]
 rw [Array.getElem?_append] at hi
 by_cases hia : i < A.size
 ·rw [if_pos hia] at hi
  have e : args[i]? = some args[i] := List.getElem?_eq_getElem (by omega)
  obtain ⟨Y, h1, h2⟩ := h.get e
  simp only [Array.getElem?_toList] at h1
  rw [hi] at h1; cases h1
  rw [e]; exact h2
 ·rw [if_neg hia] at hi
  rw [List.getElem?_eq_none (by omega)]
  rw [Array.getElem?_replicate] at hi
  split at hi
  ·cases hi
   show VRel ρ .undef (.tuple #[])
   simp only [VRel]
  ·cases hi

theorem def_sound (hs : SelfOK P self) (fuel : Nat) {g : FuncId} {args : List V} {m m' : DM} {s s' : St} (h : runDef P self fuel g args m s = some (m', s')) {own : Own} {ρ : Env} {w : World} (hS : SRel own ρ s w) {A : Array Value}
  (hA : LRel ρ args A.toList) {u : FrameMode} (hm : DMRel ρ m u) {R : Ending → FrameMode → World → Prop}
  (hR : ∀ X u' w' ρ', ρ.le ρ' → SRel own ρ' s' w' → Fr own w w' → DMRel ρ' m' u' → R (.returned X) u' w') : CallsDIn Fence.wide n P g A u w R := by
 unfold runDef at h
 split at h
 ·rename_i fn hfn
  split at h
  ·rename_i c hc
   simp only [llen_eq] at h
   cases hb : (Nat.ble args.length fn.ntmps && Nat.ble fn.ntmps 4096) with
   | false => simp [hb] at h
   | true =>
   simp only [hb, Bool.not_true, cond_false] at h
   simp only [Bool.and_eq_true, Nat.ble_eq] at hb
   have hfr := mkFrm_rel hA hb.1 hb.2
   refine callsDIn_of_wpSIn hfn hc trivial fun c₀ cs hu => ?_
   subst hu
   split at h
   ·rename_i e c' m1 hc1
    have hw := codeD_sound (n := n) hs fuel c _ _ _ _ _ hc1 own ρ w ρ { tmps := _, defers := [] } w c₀ cs ρ.le_refl (Fr.refl _ _) ⟨hfr, rfl, hS⟩ hm
    have fin : (match c'.defers with
      | [] => match resultE P c'.st c'.tmps fn.results.toList with
        | some _ => some (m1, c'.st)
        | none => none
      | _ :: _ => none) = some (m', s') → ∀ (A1 : Act) (cs1 : List Frame) (w1 : World) (ρ' : Env) (u' : FrameMode), ρ.le ρ' → Rel own ρ' c' A1 w1 → Fr own w w1 → cs1 = { c₀ with mode := u' } :: cs → DMRel ρ' m1 u' →
      A1.defers = [] ∧ ∃ u', cs1 = { c₀ with mode := u' } :: cs ∧ ∃ v, (results fn A1.tmps).run P w1 = .ok v w1 ∧ R (.returned v) u' w1 := by
     intro hh A1 cs1 w1 ρ' u' g1 g3 g4 g5 g6
     split at hh
     ·rename_i hd
      split at hh
      ·rename_i v hv
       cases hh
       obtain ⟨X, q1, q2⟩ := result_rel (P := P) g3.s g3.f.toA hv
       have hdd := g3.d
       rw [hd] at hdd
       exact ⟨hdd, u', g5, X, q1, hR X u' w1 ρ' g1 g3.s g4 g6⟩
      ·cases hh
     ·cases hh
    refine wpSIn_mono hw ?_
    rintro E A1 cs1 w1 ⟨ρ', u', g1, g2, g3, g4, g5, g6⟩
    split at h
    ·have g2 : E = .normal := g2
     subst g2
     exact fin h A1 cs1 w1 ρ' u' g1 g3 g4 g5 g6
    ·have g2 : E = .ret := g2
     subst g2
     exact fin h A1 cs1 w1 ρ' u' g1 g3 g4 g5 g6
    ·cases h
   ·cases h
  ·cases h
 ·cases h

theorem leave_sound (hs : SelfOK P self) (fuel : Nat) (fn : Func) {f : Frm} {T : Array Value} {own : Own} {ρ0 : Env} {w0 : World} {e : EEnd} {s' : St} : ∀ (ds : List EDef) (D : List Deferred) (s : St) (w : World) (ρ : Env) (m : DM) (u : FrameMode),
  leaveE P self fuel fn f m ds s = some (e, s') → ρ0.le ρ → Fr own w0 w → FRelA ρ f T → SRel own ρ s w → DRel ρ ds D → DMRel ρ m u → LeavesInM Fence.wide n P fn T (Post own ρ0 w0 e s') D u w
 | [], D, s, w, ρ, m, u, h, h1, h2, hf, hS, hD, hm => by
  have hD : D = [] := hD
  subst hD
  simp only [leaveE] at h
  split at h
  ·rename_i v
   cases h
   obtain ⟨X, rfl, hX⟩ := hm
   exact ⟨ρ, h1, ⟨X, rfl, hX⟩, hS, h2⟩
  ·cases h
  ·split at h
   ·rename_i v hv
    cases h
    have hm : u = .returning := hm
    subst hm
    obtain ⟨X, g1, g2⟩ := result_rel (P := P) hS hf hv
    exact ⟨X, g1, ρ, h1, ⟨X, rfl, g2⟩, hS, h2⟩
   ·cases h
 | .mark k :: ds, D, s, w, ρ, m, u, h, h1, h2, hf, hS, hD, hm => by
  obtain ⟨x, Y, g1, rfl, g2⟩ := hD
  simp only [leaveE] at h
  split at h
  ·rename_i hg
   obtain ⟨y, hy, hb, hO⟩ := hS.obj' hg g1
   rw [g1] at hy; cases hy
   have hO : w.heap[x.B]? = some (.deferred (some [])) := hO
   refine ⟨hm.run, .inl ⟨_, _, rfl, run_takeDeferred hO, ?_⟩⟩
   exact leave_sound hs fuel fn ds Y _ _ ρ m u h h1 (h2.trans (fr_set hb.1 rfl)) hf (hS.upd hg g1 (.dfr true) (.deferred none) rfl rfl) g2 hm
  ·cases h
 | .call g a c :: ds, D, s, w, ρ, m, u, h, h1, h2, hf, hS, hD, hm => by
  obtain ⟨A1, C1, Y, rfl, q1, q2, q3⟩ := hD
  simp only [leaveE] at h
  cases hb : bodyOK P g with
  | false => rw [hb] at h; cases h
  | true =>
   rw [hb, cond_true] at h
   split at h
   ·rename_i m1 s1 hd
    have hrun : (invoke (.fn (.func g) C1) A1).run P w = .ok (.enter g (A1 ++ C1)) w := by
     simp only [invoke]
     exact run_callFunc hb _
    refine ⟨hm.run, .inr ⟨fun hh => by simp [Fence.wide] at hh, .func g, C1, g, A1 ++ C1, rfl, hrun, fun _ _ => trivial, ?_⟩⟩
    refine def_sound hs fuel hd hS (by rw [lapp_eq, Array.toList_append]; exact q1.append q2) hm fun X u' w' ρ' g1 g2 g3 g4 => ?_
    exact leave_sound hs fuel fn ds Y s1 w' ρ' _ _ h (Env.le_trans h1 g1) (h2.trans g3) (hf.mono g1) g2 (q3.mono g1) g4.settle
   ·cases h

theorem fnL_sound (hs : SelfOK P self) (fuel : Nat) (lp : LpF) (g : FuncId) (args : List V) (s : St) (hlp : ∀ fn c n, P.funcs[g]? = some fn → fn.body = some c → LpOK P none none n s.next lp c) (e : EEnd) (s' : St) (h : runFnL P self fuel lp g args s = some (e, s')) (own : Own) (ρ : Env) (w : World) (hS : SRel own ρ s w) (n : Nat)
  (A : Array Value) (hA : LRel ρ args A.toList) : CallsIn Fence.wide n P g A w (Post own ρ w e s') := by
 unfold runFnL at h
 split at h
 ·rename_i fn hfn
  split at h
  ·rename_i c hc
   simp only [llen_eq] at h
   cases hb : (Nat.ble args.length fn.ntmps && Nat.ble fn.ntmps 4096) with
   | false => simp [hb] at h
   | true =>
   simp only [hb, Bool.not_true, cond_false] at h
   simp only [Bool.and_eq_true, Nat.ble_eq] at hb
   have hfr := mkFrm_rel hA hb.1 hb.2
   refine callsIn_of_wp_marks hfn hc trivial ?_
   have run : ∀ (e1 : EExit) (c1 : Cfg), runF (compC P self fuel none lp c) ⟨mkFrm fn.ntmps args, [], s⟩ = some (e1, c1) →
     (∀ (E : Exit) (A1 : Act) (w1 : World), CPost own ρ w e1 c1 E A1 w1 → bodyPostM Fence.wide n P fn (Post own ρ w e s') E A1 w1) →
     c.wpIn Fence.wide n P (bodyPostM Fence.wide n P fn (Post own ρ w e s')) { tmps := A ++ Array.replicate (fn.ntmps - A.size) undef, defers := [] } w := by
    intro e1 c1 h1 h2
    exact wpIn_mono (F := RF none) (codeL_sound (r := none) (ro := none) (k := s.next) hs fuel lp c (hlp fn c n hfn hc) _ _ _ h1 own ρ w ρ { tmps := _, defers := [] } w ⟨hS.top, hS.dom⟩ rfl ρ.le_refl (Fr.refl _ _) ⟨hfr, rfl, hS⟩) h2
   split at h
   ·rename_i c1 h1
    refine run _ _ h1 ?_
    rintro E A1 w1 ⟨ρ1, g1, g2, g3, g4, g5, g6⟩
    have g2 : E = .normal := g2
    subst g2
    exact leave_sound hs fuel fn _ _ _ _ ρ1 none .returning h g1 g6 (FRel.toA g3) g5 g4 rfl
   ·rename_i c1 h1
    refine run _ _ h1 ?_
    rintro E A1 w1 ⟨ρ1, g1, g2, g3, g4, g5, g6⟩
    have g2 : E = .ret := g2
    subst g2
    exact leave_sound hs fuel fn _ _ _ _ ρ1 none .returning h g1 g6 (FRel.toA g3) g5 g4 rfl
   ·rename_i v c1 h1
    refine run _ _ h1 ?_
    rintro E A1 w1 ⟨ρ1, g1, ⟨X, rfl, g2⟩, g3, g4, g5, g6⟩
    exact leave_sound hs fuel fn _ _ _ _ ρ1 (some (v, false)) _ h g1 g6 g3 g5 g4 ⟨X, rfl, g2⟩
   ·cases h
  ·cases h
 ·cases h

theorem fn_sound (hs : SelfOK P self) (fuel : Nat) (g : FuncId) (args : List V) (s : St) (e : EEnd) (s' : St) (h : runFn P self fuel g args s = some (e, s')) (own : Own) (ρ : Env) (w : World) (hS : SRel own ρ s w) (n : Nat)
  (A : Array Value) (hA : LRel ρ args A.toList) : CallsIn Fence.wide n P g A w (Post own ρ w e s') :=
 fnL_sound hs fuel noLp g args s (fun _ c _ _ _ => noLp_ok c) e s' h own ρ w hS n A hA

theorem call_sound {known : ESelf} (hk : SelfOK P known) (fuel : Nat) : ∀ d, SelfOK P (callE P known fuel d)
 | 0 => fun t s e s' h => by
  have h : none = some (e, s') := h
  cases h
 | d + 1 => fun t s e s' h own ρ w hS n => by
  have h : (match known t s with
    | some r => some r
    | none => runT P (callE P known fuel d) fuel t s) = some (e, s') := h
  split at h
  ·rename_i r hr
   cases h
   exact hk t s e s' hr own ρ w hS n
  ·cases t with
   | fn g args => exact fun A hA => fn_sound (call_sound hk fuel d) fuel g args s e s' h own ρ w hS n A hA
   | round l args => exact fun x L A hx hL hA _ => round_sound (call_sound hk fuel d) fuel l args s e s' h own ρ w hS n x L A hx hL hA

end
end Go.Sym
end

noncomputable section
namespace Go.Sym

abbrev KC := EExit → Cfg → Prop
abbrev KS := EEnd → St → Prop
abbrev CW := Cfg → KC → Prop
abbrev SW := ETgt → St → KS → Prop

def needsR (l : List Bool) (q : Prop) : Prop := @List.rec Bool (fun _ => Prop) q (fun b _ ih => andB b ih) l
theorem needsR_iff : ∀ (l : List Bool) (q : Prop), needsR l q ↔ allB l ∧ q
 | [], q => by show q ↔ _; simp [allB]
 | b :: l, q => by
  show andB b (needsR l q) ↔ _
  rw [andB_iff, needsR_iff l q, allB, and_assoc]
def forceN : Nat → (Nat → Prop) → Prop
 | 0, k => k 0
 | n + 1, k => forceN n fun m => k (m + 1)
theorem forceN_iff : ∀ (n : Nat) (k : Nat → Prop), forceN n k ↔ k n
 | 0, k => Iff.rfl
 | n + 1, k => forceN_iff n fun m => k (m + 1)
def forceM : List (Nat × Nat) → (List (Nat × Nat) → Prop) → Prop
 | [], k => k []
 | e :: l, k => forceN e.2 fun b => forceM l fun l' => k ((e.1, b) :: l')
theorem forceM_iff : ∀ (l : List (Nat × Nat)) (k : List (Nat × Nat) → Prop), forceM l k ↔ k l
 | [], k => Iff.rfl
 | e :: l, k => by rw [forceM, forceN_iff]; exact forceM_iff l fun l' => k ((e.1, e.2) :: l')
def forceVL (f : V → (V → Prop) → Prop) : List V → (List V → Prop) → Prop
 | [], k => k []
 | v :: l, k => f v fun v => forceVL f l fun l => k (v :: l)
theorem forceVL_iff {f : V → (V → Prop) → Prop} (hf : ∀ v k, f v k ↔ k v) : ∀ (l : List V) (k : List V → Prop), forceVL f l k ↔ k l
 | [], k => Iff.rfl
 | v :: l, k => by rw [forceVL, hf]; exact forceVL_iff hf l fun l => k (v :: l)
def forceV : Nat → V → (V → Prop) → Prop
 | 0, v, k => k v
 | d + 1, v, k => match v with
  | .agg l => forceVL (forceV d) l fun l => k (.agg l)
  | .tup l => forceVL (forceV d) l fun l => k (.tup l)
  | .iface t v => forceV d v fun v => k (.iface t v)
  | .fn f a c => forceVL (forceV d) a fun a => forceVL (forceV d) c fun c => k (.fn f a c)
  | .ptr b o => forceN b fun b => forceN o fun o => k (.ptr b o)
  | .rptr b i j es => forceN b fun b => forceN j fun j => k (.rptr b i j es)
  | .sl b o len cap x es => forceN b fun b => forceN o fun o => forceN len fun len => forceN cap fun cap => k (.sl b o len cap x es)
  | .rs b lo len cap x es => forceN b fun b => k (.rs b lo len cap x es)
  | .map b => forceN b fun b => k (.map b)
  | .yld l => forceN l fun l => k (.yld l)
  | .undef => k .undef
  | .any => k .any
  | .bool b => k (.bool b)
  | .int kd n => k (.int kd n)
  | .str s => k (.str s)
  | .nilp => k .nilp
  | .nils => k .nils
  | .nilm => k .nilm
  | .nilf => k .nilf
  | .nili => k .nili
  | .lptr e L i j => k (.lptr e L i j)
  | .lst e L cl => k (.lst e L cl)
  | .arr e L => k (.arr e L)
theorem forceV_iff : ∀ (d : Nat) (v : V) (k : V → Prop), forceV d v k ↔ k v
 | 0, v, k => Iff.rfl
 | d + 1, v, k => by
  unfold forceV
  split <;> simp only [forceVL_iff (forceV_iff d), forceV_iff d, forceN_iff]
def forceB : B V → (B V → Prop) → Prop
 | .leaf v, k => forceV 4 v fun v => k (.leaf v)
 | .node l r, k => forceB l fun l => forceB r fun r => k (.node l r)
theorem forceB_iff : ∀ (t : B V) (k : B V → Prop), forceB t k ↔ k t
 | .leaf v, k => forceV_iff _ _ _
 | .node l r, k => by rw [forceB, forceB_iff l, forceB_iff r]
def forceF (f : Frm) (k : Frm → Prop) : Prop := match f with
 | ⟨n, t⟩ => forceB t fun t => k ⟨n, t⟩
theorem forceF_iff (f : Frm) (k : Frm → Prop) : forceF f k ↔ k f := by cases f; exact forceB_iff _ _
def setK (x : V) : B V → Nat → (B V → Prop) → Prop
 | .leaf _, _, k => k (.leaf x)
 | .node l r, n, k => match Nat.beq (n % 2) 1 with
  | true => setK x r (n / 2) fun r => k (.node l r)
  | false => setK x l (n / 2) fun l => k (.node l r)
theorem setK_iff (x : V) : ∀ (t : B V) (n : Nat) (k : B V → Prop), setK x t n k ↔ k (B.set x t n)
 | .leaf _, _, k => Iff.rfl
 | .node l r, n, k => by
  rw [setK, B.set_node]
  cases Nat.beq (n % 2) 1
  ·exact setK_iff x l _ _
  ·exact setK_iff x r _ _
def putK (f : Frm) (d : Option Tmp) (v : V) (k : Frm → Prop) : Prop := match d with
 | none => k f
 | some d => match f with
  | ⟨n, t⟩ => match Nat.blt d n with
   | true => setK v t d fun t => k ⟨n, t⟩
   | false => k ⟨n, t⟩
theorem putK_iff (f : Frm) (d : Option Tmp) (v : V) (k : Frm → Prop) : putK f d v k ↔ k (putE f d v) := by
 cases d with
 | none => exact Iff.rfl
 | some d =>
  rw [putE_some]
  cases f with
  | mk n t =>
   simp only [putK]
   cases Nat.blt d n
   ·exact Iff.rfl
   ·exact setK_iff _ _ _ _
theorem B.ext {α : Type} : ∀ (t t' : B α) (d : Nat), t.full d → t'.full d → (∀ i, i < 2 ^ d → t.get i = t'.get i) → t = t'
 | .leaf v, .leaf v', d, _, _, hg => by
  have : v = v' := hg 0 (Nat.two_pow_pos d)
  rw [this]
 | .leaf _, .node _ _, d, h, h', _ => by
  have h : d = 0 := h
  obtain ⟨e, he, _, _⟩ := h'
  omega
 | .node _ _, .leaf _, d, h, h', _ => by
  have h' : d = 0 := h'
  obtain ⟨e, he, _, _⟩ := h
  omega
 | .node l r, .node l' r', d, h, h', hg => by
  obtain ⟨e, rfl, h1, h2⟩ := h
  obtain ⟨e', he, h3, h4⟩ := h'
  have he : e = e' := by omega
  subst he
  rw [Nat.pow_succ] at hg
  have hl : l = l' := B.ext l l' e h1 h3 fun i hi => by
   have := hg (2 * i) (by omega)
   rw [B.get_node, B.get_node, show (2 * i) % 2 = 0 by omega, show (2 * i) / 2 = i by omega] at this
   exact this
  have hr : r = r' := B.ext r r' e h2 h4 fun i hi => by
   have := hg (2 * i + 1) (by omega)
   rw [B.get_node, B.get_node, show (2 * i + 1) % 2 = 1 by omega, show (2 * i + 1) / 2 = i by omega] at this
   exact this
  rw [hl, hr]
def repB (z : V) : Nat → B V
 | 0 => .leaf z
 | d + 1 => .node (repB z d) (repB z d)
theorem repB_full (z : V) : ∀ d, (repB z d).full d
 | 0 => rfl
 | d + 1 => ⟨d, rfl, repB_full z d, repB_full z d⟩
theorem repB_get (z : V) : ∀ (d i : Nat), (repB z d).get i = z
 | 0, _ => rfl
 | d + 1, i => by
  rw [repB, B.get_node]
  cases Nat.beq (i % 2) 1
  ·exact repB_get z d _
  ·exact repB_get z d _
def slotD (z : V) (i : Nat) : List (Nat × V) → V
 | [] => z
 | e :: l => bif Nat.beq e.1 i then e.2 else slotD z i l
def setsB (n : Nat) (t : B V) : List (Nat × V) → B V
 | [] => t
 | e :: l => bif Nat.blt e.1 n then B.set e.2 (setsB n t l) e.1 else setsB n t l
theorem setsB_full {n d : Nat} {t : B V} (h : t.full d) : ∀ l, (setsB n t l).full d
 | [] => h
 | e :: l => by
  rw [setsB]
  cases Nat.blt e.1 n
  ·exact setsB_full h l
  ·exact B.set_full _ _ _ _ (setsB_full h l)
theorem setsB_get {n d : Nat} {z : V} (hn : n ≤ 2 ^ d) : ∀ (l : List (Nat × V)) (i : Nat), i < n → (setsB n (repB z d) l).get i = slotD z i l
 | [], i, _ => repB_get z d i
 | e :: l, i, hi => by
  have ih := setsB_get (z := z) hn l i hi
  rw [setsB, slotD]
  cases hb : Nat.blt e.1 n with
  | true =>
   rw [blt_iff] at hb
   have hb := of_decide_eq_true hb
   rw [cond_true, B.get_set _ _ d _ _ (setsB_full (repB_full z d) l) (by omega) (by omega), ih]
   by_cases h : i = e.1
   ·subst h; rw [if_pos rfl, Nat.beq_refl, cond_true]
   ·rw [if_neg h]
    cases hq : Nat.beq e.1 i with
    | true => exact absurd (Nat.eq_of_beq_eq_true hq).symm h
    | false => rfl
  | false =>
   rw [cond_false, ih]
   cases hq : Nat.beq e.1 i with
   | true =>
    have := Nat.eq_of_beq_eq_true hq
    rw [blt_iff] at hb
    have := of_decide_eq_false hb
    omega
   | false => rfl
theorem setsB_get' {n d : Nat} {z : V} (hn : n ≤ 2 ^ d) : ∀ (l : List (Nat × V)) (i : Nat), n ≤ i → i < 2 ^ d → (setsB n (repB z d) l).get i = z
 | [], i, _, _ => repB_get z d i
 | e :: l, i, hi, hd => by
  have ih := setsB_get' (z := z) hn l i hi hd
  rw [setsB]
  cases hb : Nat.blt e.1 n with
  | true =>
   rw [blt_iff] at hb
   have hb := of_decide_eq_true hb
   rw [cond_true, B.get_set _ _ d _ _ (setsB_full (repB_full z d) l) (by omega) hd, ih, if_neg (by omega)]
  | false => exact ih
def argsL : Nat → List V → List (Nat × V)
 | _, [] => []
 | i, v :: l => (i, v) :: argsL (i + 1) l
theorem argsL_slot (z : V) : ∀ (l : List V) (j i : Nat), j ≤ i → slotD z i (argsL j l) = l.getD (i - j) z
 | [], _, _, _ => rfl
 | v :: l, j, i, h => by
  rw [argsL, slotD]
  cases hq : Nat.beq j i with
  | true =>
   have := Nat.eq_of_beq_eq_true hq
   subst this
   rw [cond_true, Nat.sub_self]; rfl
  | false =>
   have hne : j ≠ i := fun e => by rw [e, Nat.beq_refl] at hq; cases hq
   rw [cond_false, argsL_slot z l (j + 1) i (by omega), show i - j = (i - (j + 1)) + 1 by omega]
   rfl
theorem mkFrm_sets {n : Nat} {args : List V} (h1 : args.length ≤ n) (h2 : n ≤ 4096) : mkFrm n args = ⟨n, setsB n (repB .undef (hOf n)) (argsL 0 args)⟩ := by
 have hd := hOf_le h2
 unfold mkFrm
 rw [B.ext (B.ofList .undef (hOf n) args) (setsB n (repB .undef (hOf n)) (argsL 0 args)) (hOf n) (B.ofList_full _ _ _) (setsB_full (repB_full _ _) _) fun i hi => ?_]
 rw [B.ofList_get _ _ _ _ hi]
 rcases Nat.lt_or_ge i n with h | h
 ·rw [setsB_get hd _ _ h, argsL_slot _ _ _ _ (Nat.zero_le _), Nat.sub_zero]
 ·rw [setsB_get' hd _ _ h hi, List.getD_eq_getElem?_getD, List.getElem?_eq_none (by omega)]
  rfl
def repK (z : V) : Nat → (B V → Prop) → Prop
 | 0, k => k (.leaf z)
 | d + 1, k => repK z d fun t => k (.node t t)
theorem repK_iff (z : V) : ∀ (d : Nat) (k : B V → Prop), repK z d k ↔ k (repB z d)
 | 0, k => Iff.rfl
 | d + 1, k => by rw [repK, repK_iff z d]; exact Iff.rfl
def setsK (n : Nat) (t : B V) : List (Nat × V) → (B V → Prop) → Prop
 | [], k => k t
 | (i, v) :: l, k => setsK n t l fun t => match Nat.blt i n with
  | true => forceV 4 v fun v => setK v t i k
  | false => k t
theorem setsK_iff (n : Nat) (t : B V) : ∀ (l : List (Nat × V)) (k : B V → Prop), setsK n t l k ↔ k (setsB n t l)
 | [], k => Iff.rfl
 | (i, v) :: l, k => by
  rw [setsK, setsK_iff n t l, setsB]
  cases Nat.blt i n
  ·exact Iff.rfl
  ·simp only [forceV_iff, setK_iff, cond_true]
def frmK (n : Nat) (z : V) (l : List (Nat × V)) (k : Frm → Prop) : Prop := repK z (hOf n) fun t => setsK n t l fun t => k ⟨n, t⟩
theorem frmK_iff (n : Nat) (z : V) (l : List (Nat × V)) (k : Frm → Prop) : frmK n z l k ↔ k ⟨n, setsB n (repB z (hOf n)) l⟩ := by rw [frmK, repK_iff, setsK_iff]
theorem frmK_args {n : Nat} {args : List V} {k : Frm → Prop} (hg : (Nat.ble (llen args) n && Nat.ble n 4096) = true) (h : frmK n .undef (argsL 0 args) k) : k (mkFrm n args) := by
 rw [Bool.and_eq_true, Nat.ble_eq, Nat.ble_eq, llen_eq] at hg
 rw [mkFrm_sets hg.1 hg.2]
 exact (frmK_iff _ _ _ _).1 h
def forceE (r : ELoop) (k : ELoop → Prop) : Prop := match r with
 | ⟨st, p, f, ps, a, b, d⟩ => forceN d fun d => k ⟨st, p, f, ps, a, b, d⟩
theorem forceE_iff (r : ELoop) (k : ELoop → Prop) : forceE r k ↔ k r := by cases r; exact forceN_iff _ _
def forceO : Option EObj → (Option EObj → Prop) → Prop
 | some (.cells cs t h), k => forceVL (forceV 4) cs fun cs => k (some (.cells cs t h))
 | some (.loop r), k => forceE r fun r => k (some (.loop r))
 | some (.rows e L t h), k => k (some (.rows e L t h))
 | some (.dfr b), k => k (some (.dfr b))
 | some (.map es c), k => k (some (.map es c))
 | some (.pm kk tt M c), k => k (some (.pm kk tt M c))
 | some (.mit m a s c), k => forceN m fun m => k (some (.mit m a s c))
 | none, k => k none
theorem forceO_iff (o : Option EObj) (k : Option EObj → Prop) : forceO o k ↔ k o := by
 unfold forceO
 split <;> first | exact Iff.rfl | exact forceVL_iff (forceV_iff 4) _ _ | exact forceE_iff _ _ | exact forceN_iff _ _
def forceT : T EObj → (T EObj → Prop) → Prop
 | .leaf, k => k .leaf
 | .node v l r, k => forceO v fun v => forceT l fun l => forceT r fun r => k (.node v l r)
theorem forceT_iff : ∀ (t : T EObj) (k : T EObj → Prop), forceT t k ↔ k t
 | .leaf, k => Iff.rfl
 | .node v l r, k => by rw [forceT, forceO_iff, forceT_iff l, forceT_iff r]
def forceS (s : St) (k : St → Prop) : Prop := match s with
 | ⟨h, n⟩ => forceT h fun h => forceN n fun n => k ⟨h, n⟩
theorem forceS_iff (s : St) (k : St → Prop) : forceS s k ↔ k s := by cases s; simp only [forceS, forceT_iff, forceN_iff]
def forceC (c : Cfg) (k : Cfg → Prop) : Prop := match c with
 | ⟨f, ds, s⟩ => forceF f fun f => forceS s fun s => k ⟨f, ds, s⟩
theorem forceC_iff (c : Cfg) (k : Cfg → Prop) : forceC c k ↔ k c := by cases c; simp only [forceC, forceF_iff, forceS_iff]
def forceG (t : ETgt) (k : ETgt → Prop) : Prop := match t with
 | .fn f args => forceVL (forceV 4) args fun args => k (.fn f args)
 | .round l args => forceVL (forceV 4) args fun args => k (.round l args)
theorem forceG_iff (t : ETgt) (k : ETgt → Prop) : forceG t k ↔ k t := by cases t <;> exact forceVL_iff (forceV_iff 4) _ _
def finK (f : Frm) : List DRec → (Frm → Prop) → Prop
 | [], k => k f
 | r :: l, k => putK f r.o.dst r.v fun f => finK f l k
theorem finK_iff (f : Frm) : ∀ (l : List DRec) (k : Frm → Prop), finK f l k ↔ k (finF f l) := by
 intro l
 induction l generalizing f with
 | nil => intro k; exact Iff.rfl
 | cons r l ih => intro k; rw [finK, putK_iff, ih]; exact Iff.rfl
noncomputable section
variable (P : Program)

def eqFields2 (nest : TypeId → V → V → Option Bool) (d : List Field) (l m : List V) : Option Bool :=
 match d with
 | [] => some true
 | f :: rest =>
  match P.underlying f.type with
  | some (.int _) => match lget l f.offset, lget m f.offset with
   | some (.int k x), some (.int k' y) => bif kEq k k' then (match eqFields2 nest rest l m with
     | some r => some (decide (x = y) && r)
     | none => none) else none
   | _, _ => none
  | some .bool => match lget l f.offset, lget m f.offset with
   | some (.bool x), some (.bool y) => match eqFields2 nest rest l m with
    | some r => some ((x == y) && r)
    | none => none
   | _, _ => none
  | some .string => match lget l f.offset, lget m f.offset with
   | some (.str x), some (.str y) => match eqFields2 nest rest l m with
    | some r => some (sEq x y && r)
    | none => none
   | _, _ => none
  | some (.struct _) => match partE P f.type l f.offset, partE P f.type m f.offset with
   | some x, some y => match nest f.type x y, eqFields2 nest rest l m with
    | some q, some r => some (q && r)
    | _, _ => none
   | _, _ => none
  | _ => none
def eqNest2 : Nat → TypeId → V → V → Option Bool
 | 0, _, _, _ => none
 | n + 1, t, a, b => match P.underlying t with
  | some (.struct fs) => match a, b with
   | .agg l, .agg m => eqFields2 P (eqNest2 n) fs.toList l m
   | _, _ => none
  | _ => none
def okFs (n : Nat) (f : Nat → TypeId → Bool) : List Field → Bool
 | [] => true
 | fd :: l => (!(fd.name == "_") && (match P.underlying fd.type with
   | some (.struct _) => f n fd.type
   | _ => true)) && okFs n f l
def okF : Nat → TypeId → Bool
 | 0, _ => false
 | n + 1, t => match P.underlying t with
  | some (.struct fs) => !(P.stoodInHeld t) && okFs P n (fun _ => okF n) fs.toList
  | _ => false
def eqOK0 (t : TypeId) : Bool := okF P 7 t && !(P.eqGuardType P.depth t)
def eqOK (t : TypeId) : Bool := Classical.choose (⟨eqOK0 P t, rfl⟩ : ∃ y, y = eqOK0 P t)
theorem eqOK_eq (t : TypeId) : eqOK P t = eqOK0 P t := Classical.choose_spec (⟨eqOK0 P t, rfl⟩ : ∃ y, y = eqOK0 P t)
def structEq (ev : Operand → Option V) (op : Op) : Option (List Bool × V) :=
 match op with
 | .binOp o t x y _ => (match P.underlying t with
   | some (.struct fs) => (match o with
     | .eql => (match ev x, ev y with
       | some (.agg l), some (.agg m) => (match eqFields2 P (eqNest2 P 6) fs.toList l m with
         | some r => some ([eqOK P t], .bool r)
         | none => none)
       | _, _ => none)
     | .neq => (match ev x, ev y with
       | some (.agg l), some (.agg m) => (match eqFields2 P (eqNest2 P 6) fs.toList l m with
         | some r => some ([eqOK P t], .bool (!r))
         | none => none)
       | _, _ => none)
     | _ => none)
   | _ => none)
 | _ => none
theorem okFs_eq {n : Nat} (hn : ∀ t a b, okF P n t = true → eqNest P n t a b = eqNest2 P n t a b) : ∀ (d : List Field) (l m : List V), okFs P n (fun _ => okF P n) d = true → eqFields P (eqNest P n) d l m = eqFields2 P (eqNest2 P n) d l m
 | [], _, _, _ => rfl
 | f :: d, l, m, h => by
  rw [okFs, Bool.and_eq_true, Bool.and_eq_true] at h
  obtain ⟨⟨h1, h2⟩, h3⟩ := h
  have ih := okFs_eq hn d l m h3
  have hf : (f.name == "_") = false := by simpa using h1
  rw [eqFields, eqFields2, hf, cond_false]
  cases hu : P.underlying f.type with
  | none => rfl
  | some u =>
   rw [hu] at h2
   cases u with
   | struct fs =>
    simp only at h2 ⊢
    cases partE P f.type l f.offset with
    | none => rfl
    | some x =>
     cases partE P f.type m f.offset with
     | none => rfl
     | some y =>
      simp only [hn _ x y h2, ih]
      rfl
   | _ => first | rfl | (simp only [ih]; done) | (simp only [ih]; rfl)
theorem okNest_eq : ∀ (n : Nat) (t : TypeId) (a b : V), okF P n t = true → eqNest P n t a b = eqNest2 P n t a b
 | 0, _, _, _, h => by cases h
 | n + 1, t, a, b, h => by
  rw [okF] at h
  rw [eqNest, eqNest2]
  cases hu : P.underlying t with
  | none => rfl
  | some u =>
   rw [hu] at h
   cases u with
   | struct fs =>
    simp only [Bool.and_eq_true, Bool.not_eq_true'] at h
    cases a <;> cases b <;> first
     | rfl
     | (simp only [h.1, cond_false]; exact okFs_eq P (okNest_eq n) _ _ _ h.2)
   | _ => first | rfl | cases h
theorem structEq_ok {s : St} {ev : Operand → Option V} {op : Op} {c : List Bool} {v : V} (h : structEq P ev op = some (c, v)) (hc : allB c) : qop P s ev op = some ([], v) := by
 unfold structEq at h
 split at h
 ·rename_i o t x y z
  split at h
  ·rename_i fs hu
   have key : ∀ l m r, eqFields2 P (eqNest2 P 6) fs.toList l m = some r → eqOK P t = true → eqAny P s t (.agg l) (.agg m) = some r := by
    intro l m r hr hk
    rw [eqOK_eq] at hk
    unfold eqOK0 at hk
    rw [Bool.and_eq_true, Bool.not_eq_true'] at hk
    obtain ⟨k1, k2⟩ := hk
    rw [okF, hu] at k1
    simp only [Bool.and_eq_true, Bool.not_eq_true'] at k1
    unfold eqAny
    have e1 : eqE P s t (.agg l) (.agg m) = none := by unfold eqE; rw [hu]
    have e2 : eqNil2 P t (.agg l) (.agg m) = none := by unfold eqNil2; rw [hu]
    have e3 : eqStruct P t (.agg l) (.agg m) = some r := by
     unfold eqStruct
     rw [hu]
     simp only [k1.1, k2, Bool.or_self, cond_false]
     rw [okFs_eq P (okNest_eq P 6) _ _ _ k1.2]
     exact hr
    rw [e1, e2, e3]
   split at h
   ·split at h
    ·rename_i l m hx hy
     split at h
     ·rename_i r hr
      cases h
      simp only [qop, hx, hy, qBin, key l m r hr hc.1, ok0]
     ·cases h
    ·cases h
   ·split at h
    ·rename_i l m hx hy
     split at h
     ·rename_i r hr
      cases h
      simp only [qop, hx, hy, qBin, key l m r hr hc.1, ok0]
     ·cases h
    ·cases h
   ·cases h
  ·cases h
 ·cases h

def effW (s : St) (ev : Operand → Option V) (op : Op) (k : EOut → St → Prop) : Prop :=
 match eopR P s ev op with
 | some (.inl (some (c, v, s'))) => needsR c (forceS s' (k (.val v)))
 | some (.inl none) => False
 | some (.inr (some (c, s'))) => needsR c (forceS s' (k .skip))
 | some (.inr none) => False
 | none => match eopC P s ev op with
  | some (o, s') => forceS s' (k o)
  | none => False
def splitF (d : Option Tmp) (f : Frm) (k : Frm → Prop) : Prop :=
 match d with
 | none => k f
 | some d => match f.get d with
  | .bool b => iteB b (putK f (some d) (.bool true) k) (putK f (some d) (.bool false) k)
  | _ => k f
def slotG (g : Option (Option Tmp × Bool)) : Option Tmp :=
 match g with
 | some (some d, _) => some d
 | _ => none
def slotP (op : Op) : Option Tmp :=
 match op with
 | .pick (.tmp c) _ _ => some c
 | _ => none
def slotO (x : Operand) : Option Tmp :=
 match x with
 | .tmp c => some c
 | _ => none
def opW (s : St) (ev : Operand → Option V) (op : Op) (k : EOut → St → Prop) : Prop :=
 match structEq P ev op with
 | some (c, v) => needsR c (k (.val v) s)
 | none => match qop P s ev op with
  | some (c, v) => needsR c (k (.val v) s)
  | none => effW P s ev op k
def guardW (g : Option (Option Tmp × Bool)) (f : Frm) (yes no : Prop) : Prop :=
 match g with
 | none => yes
 | some (none, _) => no
 | some (some d, want) => match f.get d with
  | .any => False
  | .bool b => (match want with
    | true => iteB b yes no
    | false => iteB b no yes)
  | _ => no
def nextW (self : SW) (d : Option Tmp) (rest : CW) (f : Frm) (ds : List EDef) (k : KC) (o : EOut) (s : St) : Prop :=
 match o with
 | .val v => forceV 4 v fun v => putK f d v fun f => rest ⟨f, ds, s⟩ k
 | .skip => putK f d .undef fun f => rest ⟨f, ds, s⟩ k
 | .pan v => k (.pan v) ⟨f, ds, s⟩
 | .enter t => forceG t fun t => self t s fun e s' => match e with
  | .ret v => forceV 4 v fun v => putK f d v fun f => rest ⟨f, ds, s'⟩ k
  | .pan v => k (.pan v) ⟨f, ds, s'⟩
def stepW (self : SW) (ops : Array Oper) (rest : CW) (o : Oper) (c : Cfg) (k : KC) : Prop :=
 match c with
 | ⟨fr, ds, s⟩ => splitF (slotG (guardOf ops o)) fr fun fr => guardW (guardOf ops o) fr (splitF (slotP o.op) fr fun fr => opW P s (evF fr) o.op (nextW self o.dst rest fr ds k)) (putK fr o.dst .undef fun fr => rest ⟨fr, ds, s⟩ k)
def opsW (self : SW) (ops : Array Oper) (l : List Oper) : CW :=
 @List.rec Oper (fun _ => CW) (fun c k => k .normal c) (fun x _ ih => stepW P self ops ih x) l

def noMem (op : Op) : Bool :=
 match op with
 | .move _ | .assign _ | .pick .. | .unOp .. | .makeInterface .. | .makeFunc .. | .fieldAddr .. | .field .. | .indexAddr .. | .index .. | .build .. | .extract .. | .typeAssert .. | .nilCheck _ => true
 | .binOp _ t _ _ _ => (match P.underlying t with
   | some (.int _) => true
   | some .bool => true
   | some .string => true
   | _ => false)
 | .slice t _ _ _ _ => (match P.underlying t with
   | some .string => true
   | some (.slice _) => true
   | _ => false)
 | _ => false
def quietW (mb : Option Nat) (s : St) (ev : Operand → Option V) (op : Op) (k : V → Prop) : Prop :=
 match mb with
 | none => (match structEq P ev op with
   | some (c, v) => needsR c (k v)
   | none => (match qop P s ev op with
     | some (c, v) => needsR c (k v)
     | none => False))
 | some b => (match mkR P ev op with
   | some (c, m) => needsR c (s.heap.get b = some m.obj ∧ k (m.val b))
   | none => False)
def isQuiet (mb : Option Nat) (s : St) (ev : Operand → Option V) (op : Op) : Bool :=
 match mb with
 | none => (match structEq P ev op with
   | some _ => true
   | none => (qop P s ev op).isSome)
 | some _ => true
def panTailW (ops : Array Oper) (M : List (Nat × Nat)) (A : List Nat) (ip : Nat) (l : List Oper) : Nat → Frm → St → (List DRec → Prop) → Prop :=
 @List.rec Oper (fun _ => Nat → Frm → St → (List DRec → Prop) → Prop) (fun _ _ _ k => k [])
  (fun o _ ih i f s k => bif tbQ (ogetN (lget A i)) ip then putK f o.dst .undef fun f' => ih (Nat.succ i) f' s (fun R => k (⟨i, o, f, s, .undef, false, none, none⟩ :: R))
  else splitF (slotG (guardOf ops o)) f fun f => guardW (guardOf ops o) f
    (splitF (slotP o.op) f fun f => quietW P (findM i M) s (evL (o.looksAt ops) f) o.op fun v => forceV 4 v fun v => putK f o.dst v fun f' => ih (Nat.succ i) f' s (fun R => k (⟨i, o, f, s, v, true, none, findM i M⟩ :: R)))
    (putK f o.dst .undef fun f' => ih (Nat.succ i) f' s (fun R => k (⟨i, o, f, s, .undef, false, none, findM i M⟩ :: R)))) l
theorem panTailW_cons (ops : Array Oper) (M : List (Nat × Nat)) (A : List Nat) (ip : Nat) (o : Oper) (l : List Oper) (i : Nat) (f : Frm) (s : St) (k : List DRec → Prop) : panTailW P ops M A ip (o :: l) i f s k =
  (bif tbQ (ogetN (lget A i)) ip then putK f o.dst .undef fun f' => panTailW P ops M A ip l (Nat.succ i) f' s (fun R => k (⟨i, o, f, s, .undef, false, none, none⟩ :: R))
  else splitF (slotG (guardOf ops o)) f fun f => guardW (guardOf ops o) f
    (splitF (slotP o.op) f fun f => quietW P (findM i M) s (evL (o.looksAt ops) f) o.op fun v => forceV 4 v fun v => putK f o.dst v fun f' => panTailW P ops M A ip l (Nat.succ i) f' s (fun R => k (⟨i, o, f, s, v, true, none, findM i M⟩ :: R)))
    (putK f o.dst .undef fun f' => panTailW P ops M A ip l (Nat.succ i) f' s (fun R => k (⟨i, o, f, s, .undef, false, none, findM i M⟩ :: R)))) := rfl
def drawOneW (self : SW) (ops : Array Oper) (M : List (Nat × Nat)) (o : Oper) (ih : Nat → Frm → St → (List DRec → Prop) → (List DRec → Nat → V → St → Prop) → Prop) (pt : Nat → Nat → Frm → St → (List DRec → Prop) → Prop) (i : Nat) (f : Frm) (s : St) (kR : List DRec → Prop) (kP : List DRec → Nat → V → St → Prop) : Prop :=
  splitF (slotG (guardOf ops o)) f fun f => guardW (guardOf ops o) f
   (splitF (slotP o.op) f fun f => match isQuiet P (findM i M) s (evL (o.looksAt ops) f) o.op with
   | true => quietW P (findM i M) s (evL (o.looksAt ops) f) o.op fun v => forceV 4 v fun v => putK f o.dst v fun f' => ih (Nat.succ i) f' s (fun R => kR (⟨i, o, f, s, v, true, none, findM i M⟩ :: R)) (fun R => kP (⟨i, o, f, s, v, true, none, findM i M⟩ :: R))
   | false => effW P s (evL (o.looksAt ops) f) o.op fun out s1 => match out with
     | .val v => forceV 4 v fun v => putK f o.dst v fun f' => ih (Nat.succ i) f' s1 (fun R => kR (⟨i, o, f, s, v, false, some s1, none⟩ :: R)) (fun R => kP (⟨i, o, f, s, v, false, some s1, none⟩ :: R))
     | .skip => putK f o.dst .undef fun f' => ih (Nat.succ i) f' s1 (fun R => kR (⟨i, o, f, s, .undef, false, some s1, none⟩ :: R)) (fun R => kP (⟨i, o, f, s, .undef, false, some s1, none⟩ :: R))
     | .pan v => putK f o.dst .undef fun f' => pt i (Nat.succ i) f' s (fun R => kP (⟨i, o, f, s, .undef, false, none, none⟩ :: R) i v s1)
     | .enter t => forceG t fun t => self t s1 fun e s2 => match e with
       | .ret v => forceV 4 v fun v => putK f o.dst v fun f' => ih (Nat.succ i) f' s2 (fun R => kR (⟨i, o, f, s, v, false, some s2, none⟩ :: R)) (fun R => kP (⟨i, o, f, s, v, false, some s2, none⟩ :: R))
       | .pan v => putK f o.dst .undef fun f' => pt i (Nat.succ i) f' s (fun R => kP (⟨i, o, f, s, .undef, false, none, none⟩ :: R) i v s2))
   (putK f o.dst .undef fun f' => ih (Nat.succ i) f' s (fun R => kR (⟨i, o, f, s, .undef, false, none, findM i M⟩ :: R)) (fun R => kP (⟨i, o, f, s, .undef, false, none, findM i M⟩ :: R)))
def drawW (self : SW) (ops : Array Oper) (M : List (Nat × Nat)) (A : List Nat) (l : List Oper) : Nat → Frm → St → (List DRec → Prop) → (List DRec → Nat → V → St → Prop) → Prop :=
 @List.rec Oper (fun _ => Nat → Frm → St → (List DRec → Prop) → (List DRec → Nat → V → St → Prop) → Prop) (fun _ _ _ kR _ => kR [])
  (fun o l ih => drawOneW P self ops M o ih (fun ip => panTailW P ops M A ip l)) l
theorem drawW_cons (self : SW) (ops : Array Oper) (M : List (Nat × Nat)) (A : List Nat) (o : Oper) (l : List Oper) : drawW P self ops M A (o :: l) = drawOneW P self ops M o (drawW P self ops M A l) (fun ip => panTailW P ops M A ip l) := rfl
def askW (ops : Array Oper) (r : DRec) (s : St) (k : Prop) : Prop :=
 quietW P r.mb s (evL (r.o.looksAt ops) r.f) r.o.op fun v => v.same r.v = true ∧ k
def anyN (m : Nat) : List Nat → Bool
 | [] => false
 | n :: l => bif tbQ m n then true else anyN m l
def allN (m : Nat) : List Nat → Bool
 | [] => true
 | n :: l => tbQ m n && allN m l
def beforeN (A : List Nat) (i : Nat) : List Nat → Bool
 | [] => true
 | n :: l => tbQ (ogetN (lget A n)) i && beforeN A i l
def chainN (A : List Nat) : List Nat → Bool
 | [] => true
 | n :: l => beforeN A n l && chainN A l
def idxsE : List (Nat × St) → List Nat
 | [] => []
 | e :: l => e.1 :: idxsE l
def forceL : List Nat → (List Nat → Prop) → Prop
 | [], k => k []
 | n :: l, k => forceN n fun m => forceL l fun l' => k (m :: l')
theorem forceL_iff : ∀ (l : List Nat) (k : List Nat → Prop), forceL l k ↔ k l
 | [], k => Iff.rfl
 | n :: l, k => by rw [forceL, forceN_iff]; exact forceL_iff l fun l' => k (n :: l')
def chkEW (ops : Array Oper) (A : List Nat) (r : DRec) (i : Nat) (s : St) (I : List Nat) (E : List (Nat × St)) (k : Prop) : Prop :=
 @List.rec Nat (fun _ => St → List (Nat × St) → Prop → Prop) (fun s E k => match E with
   | [] => askW P ops r s k
   | _ :: _ => False)
  (fun n I ih s E k => match E with
  | [] => askW P ops r s k
  | e :: l => (match anyN (ogetN (lget A i)) (n :: I) with
    | true => (bif tbQ (ogetN (lget A n)) i then k else ih e.2 l k)
    | false => askW P ops r s (bif tbQ (ogetN (lget A n)) i then k else ih e.2 l k))) I s E k
theorem chkEW_cons (ops : Array Oper) (A : List Nat) (r : DRec) (i : Nat) (s : St) (n : Nat) (I : List Nat) (e : Nat × St) (l : List (Nat × St)) (k : Prop) : chkEW P ops A r i s (n :: I) (e :: l) k = (match anyN (ogetN (lget A i)) (n :: I) with
      | true => (bif tbQ (ogetN (lget A n)) i then k else chkEW P ops A r i e.2 I l k)
      | false => askW P ops r s (bif tbQ (ogetN (lget A n)) i then k else chkEW P ops A r i e.2 I l k)) := rfl
def isNo : Option Nat → Bool
 | none => true
 | some _ => false
def chkAllW (ops : Array Oper) (A : List Nat) (s : St) (I : List Nat) (E : List (Nat × St)) (R : List DRec) (k : Prop) : Prop :=
 @List.rec DRec (fun _ => Prop → Prop) (fun k => k) (fun r _ ih k => match r.q && !(isNo r.mb && noMem P r.o.op) with
   | true => forceN r.i fun i => chkEW P ops A r i s I E (ih k)
   | false => ih k) R k
theorem chkAllW_cons (ops : Array Oper) (A : List Nat) (s : St) (I : List Nat) (E : List (Nat × St)) (r : DRec) (l : List DRec) (k : Prop) : chkAllW P ops A s I E (r :: l) k = (match r.q && !(isNo r.mb && noMem P r.o.op) with
    | true => forceN r.i fun i => chkEW P ops A r i s I E (chkAllW P ops A s I E l k)
    | false => chkAllW P ops A s I E l k) := rfl
def guardB (b : Bool) (k : Prop) : Prop := match b with
 | true => k
 | false => False
def drawRW (self : SW) (ops : Array Oper) (c : Cfg) (k : KC) : Prop :=
 guardB (P.follows .mixedOrders && stOK ops) (match preM P ops c.tmps c.st with
   | (s0, M) => forceS s0 fun s0 => forceM M fun M => drawW P self ops M (ancsE ops.toList []) ops.toList 0 c.tmps s0
     (fun R => forceL (idxsE (effs R)) fun I => guardB (chainN (ancsE ops.toList []) I) (chkAllW P ops (ancsE ops.toList []) s0 I (effs R) R (finK c.tmps R fun f => forceS (lastS s0 (effs R)) fun s => k .normal ⟨f, c.defers, s⟩)))
     (fun R ip v s' => forceL (idxsE (effs R)) fun I => guardB (chainN (ancsE ops.toList []) I && allN (ogetN (lget (ancsE ops.toList []) ip)) I) (chkAllW P ops (ancsE ops.toList []) s0 I (effs R) R (k (.pan v) ⟨anyF c.tmps ops.toList, c.defers, s'⟩))))

def dferW : List Oper → CW
 | [], c, k => k .normal c
 | o :: l, c, k => match o.guard with
  | some _ => False
  | none => match o.op with
   | .defer cl => match cl.callee with
    | .value f => match evF c.tmps f, evalOs (evF c.tmps) cl.args.toList with
     | some (.fn g first cap), some vs => guardB (bodyOK P g) (dferW l ⟨putE c.tmps o.dst .undef, .call g (lapp first vs) cap :: c.defers, c.st⟩ k)
     | _, _ => False
    | _ => False
   | op => match qop P c.st (evF c.tmps) op with
    | some (cs, v) => needsR cs (dferW l ⟨putE c.tmps o.dst v, c.defers, c.st⟩ k)
    | none => False
def regionW (self : SW) (round : Option Nat) (ops : Array Oper) (draw : Bool) : CW :=
 match draw with
 | false => (match hasDefer ops.toList with
   | true => (match round with
     | none => dferW P ops.toList
     | some _ => fun _ _ => False)
   | false => opsW P self ops ops.toList)
 | true => drawRW P self ops
def seqW (a b : CW) (c : Cfg) (k : KC) : Prop := a c fun e c' => match e with
 | .normal => b c' k
 | e => k e c'
def condW (x : Operand) (a b : CW) (c : Cfg) (k : KC) : Prop :=
 splitF (slotO x) c.tmps fun f => match evF f x with
 | some (.bool q) => iteB q (a ⟨f, c.defers, c.st⟩ k) (b ⟨f, c.defers, c.st⟩ k)
 | _ => False
def blockW (id : Nat) (b : CW) (c : Cfg) (k : KC) : Prop := b c fun e c' => match e with
 | .exit id' => (bif Nat.beq id' id then k .normal c' else k (.exit id') c')
 | e => k e c'
def iterW (body : CW) (n : Nat) : CW :=
 @Nat.rec (fun _ => CW) (fun _ _ => False) (fun _ ih c k => body c fun e c' => match e with
   | .normal => ih c' k
   | e => k e c') n
def rangeW (self : SW) (round : Option Nat) (f : Operand) (ps : Array Tmp) (assign body : Code) (c : Cfg) (k : KC) : Prop :=
 match (match round with
   | none => some ((c.st.new (.dfr false)), c.st.next, [EDef.mark c.st.next])
   | some l0 => match c.st.heap.get l0 with
     | some (.loop r) => some (c.st, r.defers, [])
     | _ => none : Option (St × Nat × List EDef)) with
 | none => False
 | some (s0, d, marks) => forceS s0 fun s1 =>
  match evF c.tmps f with
  | some (.fn g first cap) =>
   guardB (bodyOK P g) (forceS (s1.new (.loop ⟨.ready, none, c.tmps, ps.toList, assign, body, d⟩)) fun s2 => self (.fn g (lapp (lapp first [.yld s1.next]) cap)) s2 fun e s2 => match e with
     | .ret _ => (match s2.heap.get s1.next with
       | some (.loop r) => (match r.state with
         | .busy => False
         | _ => match jumpE r.pending with
           | some e => k e ⟨c.tmps, marks ++ c.defers, s2.upd s1.next (.loop { r with state := .exhausted })⟩
           | none => False)
       | _ => False)
     | .pan v => k (.pan v) ⟨c.tmps, marks ++ c.defers, s2⟩)
  | _ => False
abbrev LpW := Nat → Option CW
def noLpW : LpW := fun _ => none
def loopW (lp : LpW) (b : Code) (f : CW) : CW :=
 match firstR b with
 | some id => (match lp id with
   | some F => F
   | none => f)
 | none => f
def compW (self : SW) (fuel : Nat) (round : Option Nat) (lp : LpW) (x : Code) : CW :=
 @Code.rec (fun _ => CW)
  (fun c k => k .normal c)
  (fun _ ops draw => regionW P self round ops draw)
  (fun _ _ ia ib => seqW ia ib)
  (fun x _ _ ia ib => condW x ia ib)
  (fun id _ ib => blockW id ib)
  (fun b ib => loopW lp b (iterW ib fuel))
  (fun f ps assign body _ _ => rangeW P self round f ps assign body)
  (fun id c k => k (.exit id) c)
  (fun _ ib => ib)
  (fun _ c k => k .normal c)
  (fun _ _ _ => False)
  (fun c k => k .ret c)
  (fun _ _ _ => False) x
def roundW (self : SW) (fuel : Nat) (l : Nat) (args : List V) (s : St) (k : KS) : Prop :=
 match s.heap.get l with
 | some (.loop r) =>
  forceF (setParams r.tmps r.params args) fun f => compW P self fuel (some l) noLpW r.assign ⟨f, [], s⟩ fun e c1 => match e with
  | .normal => (match c1.st.heap.get l with
    | some (.loop r1) => (match r1.state with
      | .ready =>
        forceS (c1.st.upd l (.loop { r1 with state := .busy })) fun s => compW P self fuel (some l) noLpW r.body ⟨c1.tmps, c1.defers, s⟩ fun e c2 => match c2.st.heap.get l with
          | some (.loop r2) => (match e with
            | .normal => forceS (c2.st.upd l (.loop { r2 with state := .ready, pending := none })) (k (.ret (.bool true)))
            | .ret => forceS (c2.st.upd l (.loop { r2 with state := .done, pending := some .ret })) (k (.ret (.bool false)))
            | .exit id => forceS (c2.st.upd l (.loop { r2 with state := .done, pending := some (.exit id) })) (k (.ret (.bool false)))
            | .pan _ => False)
          | _ => False
      | _ => False)
    | _ => False)
  | _ => False
 | _ => False
def resultsW (s : St) (f : Frm) (rs : List ResultVar) : (List V → Prop) → Prop :=
 @List.rec ResultVar (fun _ => (List V → Prop) → Prop) (fun k => k []) (fun x _ ih k => match x with
   | .tmp t => ih fun r => match f.get t with
     | .any => False
     | v => k (v :: r)
   | .cell a t => match qLoad P s t (f.get a) with
     | some (c, v) => needsR c (ih fun r => k (v :: r))
     | none => False) rs
def resultW (s : St) (f : Frm) (rs : List ResultVar) (k : V → Prop) : Prop :=
 resultsW P s f rs fun r => match r with
 | [v] => k v
 | l => k (match l with | [] => .undef | _ => .tup l)

abbrev DW := Cfg → DM → (EExit → Cfg → DM → Prop) → Prop
def withDW (f : CW) (c : Cfg) (m : DM) (k : EExit → Cfg → DM → Prop) : Prop := f c fun e c' => match e with
 | .pan _ => False
 | e => k e c' m
def recW : List Oper → DW
 | [], c, m, k => k .normal c m
 | o :: l, c, m, k => match o.guard with
  | some _ => False
  | none => match isRec o.op with
   | true => (match m with
     | some (v, false) => recW l ⟨putE c.tmps o.dst v, c.defers, c.st⟩ (some (v, true)) k
     | m => recW l ⟨putE c.tmps o.dst .nili, c.defers, c.st⟩ m k)
   | false => match qop P c.st (evF c.tmps) o.op with
    | some (cs, v) => needsR cs (recW l ⟨putE c.tmps o.dst v, c.defers, c.st⟩ m k)
    | none => False
def seqDW (a b : DW) (c : Cfg) (m : DM) (k : EExit → Cfg → DM → Prop) : Prop := a c m fun e c' m' => match e with
 | .normal => b c' m' k
 | e => k e c' m'
def condDW (x : Operand) (a b : DW) (c : Cfg) (m : DM) (k : EExit → Cfg → DM → Prop) : Prop :=
 match evF c.tmps x with
 | some (.bool q) => iteB q (a c m k) (b c m k)
 | _ => False
def compDW (self : SW) (fuel : Nat) (x : Code) : DW :=
 @Code.rec (fun _ => DW)
  (withDW (compW P self fuel none noLpW .skip))
  (fun id ops draw => match draw with
    | false => (match hasRec ops.toList with
      | true => recW P ops.toList
      | false => withDW (compW P self fuel none noLpW (.region id ops false)))
    | true => withDW (compW P self fuel none noLpW (.region id ops true)))
  (fun _ _ ia ib => seqDW ia ib)
  (fun x _ _ ia ib => condDW x ia ib)
  (fun id b _ => withDW (compW P self fuel none noLpW (.block id b)))
  (fun b _ => withDW (compW P self fuel none noLpW (.loop b)))
  (fun f ps assign body _ _ => withDW (compW P self fuel none noLpW (.rangeFunc f ps assign body)))
  (fun id => withDW (compW P self fuel none noLpW (.exit id)))
  (fun b _ => withDW (compW P self fuel none noLpW (.scope b)))
  (fun l => withDW (compW P self fuel none noLpW (.label l)))
  (fun l => withDW (compW P self fuel none noLpW (.goto l)))
  (withDW (compW P self fuel none noLpW .ret))
  (fun why => withDW (compW P self fuel none noLpW (.refuse why))) x
def runDefW (self : SW) (fuel : Nat) (g : FuncId) (args : List V) (m : DM) (s : St) (k : DM → St → Prop) : Prop :=
 match P.funcs[g]? with
 | some fn => (match fn.body with
   | some c => guardB (Nat.ble (llen args) fn.ntmps && Nat.ble fn.ntmps 4096) (frmK fn.ntmps .undef (argsL 0 args) fun f => compDW P self fuel c ⟨f, [], s⟩ m fun e c' m' =>
     (match (match e with
       | .normal => true
       | .ret => true
       | _ => false) with
     | true => (match c'.defers with
       | [] => resultW P c'.st c'.tmps fn.results.toList fun _ => k m' c'.st
       | _ :: _ => False)
     | false => False))
   | none => False)
 | none => False
def leaveW (self : SW) (fuel : Nat) (fn : Func) (tmps : Frm) : DM → List EDef → St → KS → Prop
 | pan, [], s, k => (match pan with
   | some (v, false) => k (.pan v) s
   | some (_, true) => False
   | none => resultW P s tmps fn.results.toList fun v => k (.ret v) s)
 | pan, .mark r :: ds, s, k => (match s.heap.get r with
   | some (.dfr false) => leaveW self fuel fn tmps pan ds (s.upd r (.dfr true)) k
   | _ => False)
 | pan, .call g args cap :: ds, s, k => guardB (bodyOK P g) (runDefW P self fuel g (lapp args cap) pan s fun m s' => leaveW self fuel fn tmps (settleE m) ds s' k)
def fnLW (self : SW) (fuel : Nat) (lp : LpW) (f : FuncId) (args : List V) (s : St) (k : KS) : Prop :=
 match P.funcs[f]? with
 | some fn => (match fn.body with
   | some c => guardB (Nat.ble (llen args) fn.ntmps && Nat.ble fn.ntmps 4096) (frmK fn.ntmps .undef (argsL 0 args) fun f => compW P self fuel none lp c ⟨f, [], s⟩ fun e c' => match e with
     | .normal => leaveW P self fuel fn c'.tmps none c'.defers c'.st k
     | .ret => leaveW P self fuel fn c'.tmps none c'.defers c'.st k
     | .pan v => leaveW P self fuel fn c'.tmps (some (v, false)) c'.defers c'.st k
     | _ => False)
   | none => False)
 | none => False
def fnW (self : SW) (fuel : Nat) (f : FuncId) (args : List V) (s : St) (k : KS) : Prop := fnLW P self fuel noLpW f args s k
def tgtW (self : SW) (fuel : Nat) (t : ETgt) (s : St) (k : KS) : Prop :=
 match t with
 | .fn f args => fnW P self fuel f args s k
 | .round l args => roundW P self fuel l args s k
abbrev KnW := ETgt → St → Option (KS → Prop)
def callW (known : KnW) (fuel : Nat) (d : Nat) : SW :=
 @Nat.rec (fun _ => SW) (fun _ _ _ => False) (fun _ ih t s k => match known t s with
   | some r => r k
   | none => tgtW P ih fuel t s k) d
end
end Go.Sym
end

noncomputable section
namespace Go.Sym

def AdC (wf : CW) (f : Cfg → Option (EExit × Cfg)) : Prop := ∀ c k, wf c k → ∃ e c', f c = some (e, c') ∧ k e c'
def AdS (ws : SW) (self : ESelf) : Prop := ∀ t s k, ws t s k → ∃ e s', self t s = some (e, s') ∧ k e s'

theorem needs_b {c : List Bool} {q : Prop} (h : needsR c q) : allb c = true ∧ q := by
 obtain ⟨h1, h2⟩ := (needsR_iff c q).1 h
 exact ⟨(allb_iff c).2 h1, h2⟩
theorem guardB_b {b : Bool} {q : Prop} (h : guardB b q) : b = true ∧ q := by cases b <;> simp [guardB] at h ⊢; exact h

section
variable {P : Program} {ws : SW} {self : ESelf}

theorem effW_ad {s : St} {ev : Operand → Option V} {op : Op} {k : EOut → St → Prop} (h : effW P s ev op k) : ∃ o s', eop P s ev op = some (o, s') ∧ k o s' := by
 unfold effW at h
 unfold eop
 split at h
 ·rename_i c v s' hr
  obtain ⟨h1, h2⟩ := needs_b h
  exact ⟨_, _, by simp [hr, outR, outV, h1], (forceS_iff _ _).1 h2⟩
 ·exact h.elim
 ·rename_i c s' hr
  obtain ⟨h1, h2⟩ := needs_b h
  exact ⟨_, _, by simp [hr, outR, outS, h1], (forceS_iff _ _).1 h2⟩
 ·exact h.elim
 ·rename_i hr
  split at h
  ·rename_i o s' hc
   exact ⟨_, _, by simp [hr, hc], (forceS_iff _ _).1 h⟩
  ·exact h.elim
theorem B.set_get {α : Type} : ∀ (t : B α) (n : Nat), B.set (t.get n) t n = t
 | .leaf _, _ => rfl
 | .node l r, n => by
  rw [B.get_node, B.set_node]
  cases Nat.beq (n % 2) 1
  ·simp only [cond_false]; rw [B.set_get l]
  ·simp only [cond_true]; rw [B.set_get r]
theorem putE_get {f : Frm} {d : Tmp} {b : Bool} (h : f.get d = .bool b) : putE f (some d) (.bool b) = f := by
 rw [putE_some]
 rw [Frm.get_eq] at h
 cases hb : Nat.blt d f.n with
 | false => rfl
 | true =>
  rw [hb, cond_true] at h
  rw [cond_true, ← h, B.set_get]
theorem forceV_u {d : Nat} {v : V} {f : Frm} {o : Option Tmp} {k : V → Frm → Prop} (h : forceV d v fun v => putK f o v fun f' => k v f') : k v (putE f o v) := (putK_iff _ _ _ _).1 ((forceV_iff _ _ _).1 h)
theorem splitF_ad {d : Option Tmp} {f : Frm} {k : Frm → Prop} (h : splitF d f k) : k f := by
 unfold splitF at h
 split at h
 ·exact h
 ·split at h
  ·rename_i b hb
   cases b
   ·have h : putK f (some _) (.bool false) k := h
    rwa [putK_iff, putE_get hb] at h
   ·have h : putK f (some _) (.bool true) k := h
    rwa [putK_iff, putE_get hb] at h
  ·exact h
theorem opW_ad {s : St} {ev : Operand → Option V} {op : Op} {k : EOut → St → Prop} (h : opW P s ev op k) : ∃ o s', opE P s ev op = some (o, s') ∧ k o s' := by
 unfold opW at h
 unfold opE
 split at h
 ·rename_i c v hq
  obtain ⟨h1, h2⟩ := needs_b h
  have := structEq_ok P (s := s) hq ((allb_iff c).1 h1)
  exact ⟨_, _, by simp [this, chkQ, allb], h2⟩
 split at h
 ·rename_i c v hq
  obtain ⟨h1, h2⟩ := needs_b h
  exact ⟨_, _, by simp [hq, chkQ, h1], h2⟩
 ·rename_i hq
  obtain ⟨o, s', h1, h2⟩ := effW_ad h
  exact ⟨o, s', by simp [hq, h1], h2⟩
theorem guardW_ad {g : Option (Option Tmp × Bool)} {f : Frm} {yes no : Prop} (h : guardW g f yes no) : wantOK g f = true ∧ ((wantedE g f = true ∧ yes) ∨ (wantedE g f = false ∧ no)) := by
 unfold guardW at h
 split at h
 ·exact ⟨rfl, .inl ⟨rfl, h⟩⟩
 ·exact ⟨rfl, .inr ⟨rfl, h⟩⟩
 ·rename_i d want
  split at h
  ·exact h.elim
  ·rename_i b hb
   refine ⟨by simp [wantOK, hb, isAny], ?_⟩
   cases want <;> cases b <;> simp only [iteB] at h
   ·exact .inl ⟨by simp [wantedE, hb], h⟩
   ·exact .inr ⟨by simp [wantedE, hb], h⟩
   ·exact .inr ⟨by simp [wantedE, hb], h⟩
   ·exact .inl ⟨by simp [wantedE, hb], h⟩
  ·rename_i h1 h2
   refine ⟨?_, .inr ⟨?_, h⟩⟩
   ·simp only [wantOK, Bool.not_eq_true']
    cases hv : f.get d <;> first | rfl | exact absurd hv h1
   ·unfold wantedE
    split <;> first | rfl | skip
    all_goals (rename_i hh; cases hh)
    all_goals (first | rfl | (split <;> first | rfl | (rename_i hv; exact absurd hv (h2 _))))

theorem opsW_ad (hs : AdS ws self) (ops : Array Oper) : ∀ l : List Oper, AdC (opsW P ws ops l) (runOps P self ops l)
 | [] => fun c k h => ⟨.normal, c, rfl, h⟩
 | o :: l => fun c k h => by
  have ih := opsW_ad hs ops l
  have h : stepW P ws ops (opsW P ws ops l) o c k := h
  have e : runOps P self ops (o :: l) c = stepE P self ops (runOps P self ops l) o c := rfl
  rw [e]
  obtain ⟨fr, ds, s⟩ := c
  simp only [stepW] at h
  obtain ⟨h1, h2⟩ := guardW_ad (splitF_ad h)
  simp only [stepE, h1, Bool.not_true, cond_false]
  rcases h2 with ⟨h2, h3⟩ | ⟨h2, h3⟩
  ·rw [h2, cond_true]
   obtain ⟨out, s', h4, h5⟩ := opW_ad (splitF_ad h3)
   rw [h4]
   cases out with
   | val v => exact ih _ _ (forceV_u (k := fun _ f' => opsW P ws ops l ⟨f', ds, s'⟩ k) h5)
   | skip =>
    have h5 : putK fr o.dst .undef fun f' => opsW P ws ops l ⟨f', ds, s'⟩ k := h5
    exact ih _ _ ((putK_iff _ _ _ _).1 h5)
   | pan v => exact ⟨_, _, rfl, h5⟩
   | enter t =>
    simp only [nextW, forceG_iff] at h5
    obtain ⟨ee, s2, h6, h7⟩ := hs t s' _ h5
    cases ee with
    | ret v =>
     obtain ⟨e', c', h8, h9⟩ := ih _ _ (forceV_u (k := fun _ f' => opsW P ws ops l ⟨f', ds, s2⟩ k) h7)
     exact ⟨e', c', by simp only [nextE, h6]; exact h8, h9⟩
    | pan v => exact ⟨_, _, by simp only [nextE, h6], h7⟩
  ·rw [h2, cond_false]
   exact ih _ _ ((putK_iff _ _ _ _).1 h3)

theorem quietW_ad {mb : Option Nat} {s : St} {ev : Operand → Option V} {op : Op} {k : V → Prop} (h : quietW P mb s ev op k) : ∃ v, qopM P mb s ev op = some v ∧ k v := by
 unfold quietW at h
 split at h
 ·split at h
  ·rename_i c v hq
   obtain ⟨h1, h2⟩ := needs_b h
   have := structEq_ok P (s := s) hq ((allb_iff c).1 h1)
   exact ⟨v, by simp [qopM, qopO, this, chkQ, allb], h2⟩
  split at h
  ·rename_i c v hq
   obtain ⟨h1, h2⟩ := needs_b h
   exact ⟨v, by simp [qopM, qopO, hq, chkQ, h1], h2⟩
  ·exact h.elim
 ·split at h
  ·rename_i b c m hm
   obtain ⟨h1, h2, h3⟩ := needs_b h
   exact ⟨_, by simp [qopM, mkQ, hm, h1, Mk.isAt, h2], h3⟩
  ·exact h.elim

theorem drawStep_no {ops : Array Oper} {mb : Option Nat} {i : Nat} {o : Oper} {f : Frm} {s : St} (h1 : wantOK (guardOf ops o) f = true) (h2 : wantedE (guardOf ops o) f = false) : drawStep P self ops mb i o f s = some ⟨i, o, f, s, .undef, false, none, mb⟩ := by
 simp [drawStep, h1, h2]
theorem drawStep_quiet {ops : Array Oper} {mb : Option Nat} {i : Nat} {o : Oper} {f : Frm} {s : St} {v : V} (h1 : wantOK (guardOf ops o) f = true) (h2 : wantedE (guardOf ops o) f = true) (h3 : qopM P mb s (evL (o.looksAt ops) f) o.op = some v) :
  drawStep P self ops mb i o f s = some ⟨i, o, f, s, v, true, none, mb⟩ := by
 simp [drawStep, h1, h2, h3]
theorem drawStep_eff {ops : Array Oper} {mb : Option Nat} {i : Nat} {o : Oper} {f : Frm} {s s' : St} {v : V} (h1 : wantOK (guardOf ops o) f = true) (h2 : wantedE (guardOf ops o) f = true) (hm : mb = none) (h3 : qop P s (evL (o.looksAt ops) f) o.op = none) (h4 : opOut self (eop P s (evL (o.looksAt ops) f) o.op) = some (v, s')) :
  drawStep P self ops mb i o f s = some ⟨i, o, f, s, v, false, some s', none⟩ := by
 subst hm
 simp [drawStep, h1, h2, qopM, qopO, h3, chkQ, h4]
theorem drawStep_pan {ops : Array Oper} {mb : Option Nat} {i : Nat} {o : Oper} {f : Frm} {s : St} (h1 : wantOK (guardOf ops o) f = true) (h2 : wantedE (guardOf ops o) f = true) (hm : mb = none) (h3 : qop P s (evL (o.looksAt ops) f) o.op = none) (h4 : opOut self (eop P s (evL (o.looksAt ops) f) o.op) = none) :
  drawStep P self ops mb i o f s = none := by
 subst hm
 simp [drawStep, h1, h2, qopM, qopO, h3, chkQ, h4]

theorem panTailW_ad {ops : Array Oper} {M : List (Nat × Nat)} {A : List Nat} {ip : Nat} : ∀ (l : List Oper) (i : Nat) (f : Frm) (s : St) (k : List DRec → Prop), panTailW P ops M A ip l i f s k → ∃ R, panTail P ops M A ip l i f s = some R ∧ k R
 | [], i, f, s, k, h => ⟨[], rfl, h⟩
 | o :: l, i, f, s, k, h => by
  rw [panTailW_cons] at h
  simp only [putK_iff, forceV_iff] at h
  simp only [panTail]
  cases hd : tbQ (ogetN (lget A i)) ip with
  | true =>
   rw [hd, cond_true] at h
   rw [cond_true]
   obtain ⟨R, h1, h2⟩ := panTailW_ad l _ _ _ _ h
   exact ⟨_, by rw [h1], h2⟩
  | false =>
   rw [hd, cond_false] at h
   rw [cond_false]
   obtain ⟨h1, h2⟩ := guardW_ad (splitF_ad h)
   rcases h2 with ⟨h2, h3⟩ | ⟨h2, h3⟩
   ·obtain ⟨v, h4, h5⟩ := quietW_ad (splitF_ad h3)
    obtain ⟨R, h6, h7⟩ := panTailW_ad l _ _ _ _ h5
    rw [drawStep_quiet h1 h2 h4]
    exact ⟨_, by simp only [h6], h7⟩
   ·obtain ⟨R, h6, h7⟩ := panTailW_ad l _ _ _ _ h3
    rw [drawStep_no h1 h2]
    exact ⟨_, by simp only [h6], h7⟩

theorem drawW_ad (hs : AdS ws self) {ops : Array Oper} {M : List (Nat × Nat)} {A : List Nat} : ∀ (l : List Oper) (i : Nat) (f : Frm) (s : St) (kR : List DRec → Prop) (kP : List DRec → Nat → V → St → Prop), drawW P ws ops M A l i f s kR kP →
  (∃ R, drawRun P self ops M l i f s = some R ∧ kR R) ∨ (drawRun P self ops M l i f s = none ∧ ∃ R ip v s', panRun P self ops M A l i f s = some (R, ip, v, s') ∧ kP R ip v s')
 | [], i, f, s, kR, kP, h => .inl ⟨[], rfl, h⟩
 | o :: l, i, f, s, kR, kP, h => by
  have next : ∀ (r : DRec) (kR' : List DRec → Prop) (kP' : List DRec → Nat → V → St → Prop), drawStep P self ops (findM i M) i o f s = some r → (∀ R, kR' R → kR (r :: R)) → (∀ R ip v s', kP' R ip v s' → kP (r :: R) ip v s') →
    drawW P ws ops M A l (Nat.succ i) (putE f o.dst r.v) (orS s r.eff) kR' kP' →
    (∃ R, drawRun P self ops M (o :: l) i f s = some R ∧ kR R) ∨ (drawRun P self ops M (o :: l) i f s = none ∧ ∃ R ip v s', panRun P self ops M A (o :: l) i f s = some (R, ip, v, s') ∧ kP R ip v s') := by
   intro r kR' kP' hr h1 h2 hd
   simp only [drawRun, panRun, hr]
   rcases drawW_ad hs l _ _ _ _ _ hd with ⟨R, g1, g2⟩ | ⟨g0, R, ip, v, s', g1, g2⟩
   ·exact .inl ⟨r :: R, by rw [g1], h1 R g2⟩
   ·exact .inr ⟨by rw [g0], r :: R, ip, v, s', by rw [g1], h2 R ip v s' g2⟩
  have panic : ∀ (v : V) (s1 : St) (R : List DRec), wantOK (guardOf ops o) f = true → wantedE (guardOf ops o) f = true → findM i M = none → drawStep P self ops (findM i M) i o f s = none → opPan self (eop P s (evL (o.looksAt ops) f) o.op) = some (v, s1) →
    panTail P ops M A i l (Nat.succ i) (putE f o.dst .undef) s = some R → kP (⟨i, o, f, s, .undef, false, none, none⟩ :: R) i v s1 →
    (∃ R, drawRun P self ops M (o :: l) i f s = some R ∧ kR R) ∨ (drawRun P self ops M (o :: l) i f s = none ∧ ∃ R ip v s', panRun P self ops M A (o :: l) i f s = some (R, ip, v, s') ∧ kP R ip v s') := by
   intro v s1 R h1 h2 hm hd hp ht hk
   refine .inr ⟨by simp only [drawRun, hd], _, i, v, s1, ?_, hk⟩
   simp only [panRun, hd, h1, h2, Bool.and_self, cond_true, hp, ht]
   rw [hm]
  rw [drawW_cons] at h
  simp only [drawOneW, putK_iff, forceV_iff, forceG_iff] at h
  obtain ⟨h1, h2⟩ := guardW_ad (splitF_ad h)
  rcases h2 with ⟨h2, h3⟩ | ⟨h2, h3⟩
  ·have h3 := splitF_ad h3
   split at h3
   ·obtain ⟨v, h4, h5⟩ := quietW_ad h3
    exact next _ _ _ (drawStep_quiet h1 h2 h4) (fun _ h => h) (fun _ _ _ _ h => h) h5
   ·rename_i hq
    have hmb : findM i M = none ∧ qop P s (evL (o.looksAt ops) f) o.op = none := by
     cases hm : findM i M with
     | none => rw [hm] at hq; exact ⟨rfl, by
         simp only [isQuiet] at hq
         split at hq
         · cases hq
         · simpa using hq⟩
     | some b => rw [hm] at hq; cases hq
    obtain ⟨hm, hqn⟩ := hmb
    obtain ⟨out, s1, h4, h5⟩ := effW_ad h3
    cases out with
    | val v => exact next _ _ _ (drawStep_eff (v := v) (s' := s1) h1 h2 hm hqn (by rw [h4]; rfl)) (fun _ h => h) (fun _ _ _ _ h => h) h5
    | skip => exact next _ _ _ (drawStep_eff (v := .undef) (s' := s1) h1 h2 hm hqn (by rw [h4]; rfl)) (fun _ h => h) (fun _ _ _ _ h => h) h5
    | pan v =>
     obtain ⟨R, h6, h7⟩ := panTailW_ad l _ _ _ _ h5
     exact panic v s1 R h1 h2 hm (drawStep_pan h1 h2 hm hqn (by rw [h4]; rfl)) (by rw [h4]; rfl) h6 h7
    | enter t =>
     obtain ⟨ee, s2, h6, h7⟩ := hs t s1 _ h5
     cases ee with
     | ret v => exact next _ _ _ (drawStep_eff (v := v) (s' := s2) h1 h2 hm hqn (by rw [h4]; simp only [opOut, h6])) (fun _ h => h) (fun _ _ _ _ h => h) h7
     | pan v =>
      obtain ⟨R, h8, h9⟩ := panTailW_ad l _ _ _ _ h7
      exact panic v s2 R h1 h2 hm (drawStep_pan h1 h2 hm hqn (by rw [h4]; simp only [opOut, h6])) (by rw [h4]; simp only [opPan, h6]) h8 h9
  ·exact next _ _ _ (drawStep_no h1 h2) (fun _ h => h) (fun _ _ _ _ h => h) h3

theorem eqE_mem {s s' : St} {t : TypeId} {a b : V} (h : (match P.underlying t with
    | some (.int _) => true
    | some .bool => true
    | some .string => true
    | _ => false) = true) : eqAny P s t a b = eqAny P s' t a b := by
 have : eqE P s t a b = eqE P s' t a b := by
  unfold eqE
  split at h <;> rename_i hd
  ·rw [hd]
  ·rw [hd]
  ·rw [hd]
  ·cases h
 unfold eqAny
 rw [this]
theorem noMem_same {s s' : St} {ev : Operand → Option V} {op : Op} (h : noMem P op = true) : qop P s ev op = qop P s' ev op := by
 unfold noMem at h
 unfold qop
 split at h
 all_goals (try rfl)
 ·rename_i op t _ _ _
  have : ∀ a b, qBin P s op t a b = qBin P s' op t a b := fun a b => by
   unfold qBin
   have he := eqE_mem (P := P) (s := s) (s' := s') (t := t) (a := a) (b := b) h
   split <;> (try rfl)
   simp only [he]
  simp only [this]
 ·rename_i t _ _ _ _
  have : ∀ a l h' m, qSlice P s t a l h' m = qSlice P s' t a l h' m := fun a l h' m => by
   unfold qSlice
   split at h <;> rename_i hd
   ·rw [hd]
   ·rw [hd]
   ·cases h
  simp only [this]
 ·cases h

theorem askW_ad {ops : Array Oper} {r : DRec} {s : St} {k : Prop} (h : askW P ops r s k) : (match qopM P r.mb s (evL (r.o.looksAt ops) r.f) r.o.op with
      | some v => v.same r.v
      | none => false) = true ∧ k := by
 obtain ⟨v, h1, h2, h3⟩ := quietW_ad h
 exact ⟨by rw [h1]; exact h2, h3⟩
theorem anyN_eq (m : Nat) : ∀ E : List (Nat × St), anyN m (idxsE E) = anyB m E
 | [] => rfl
 | e :: l => by simp only [idxsE, anyN, anyB, anyN_eq m l]
theorem allN_eq (m : Nat) : ∀ E : List (Nat × St), allN m (idxsE E) = allAfter m E
 | [] => rfl
 | e :: l => by simp only [idxsE, allN, allAfter, allN_eq m l]
theorem beforeN_eq (A : List Nat) (i : Nat) : ∀ E : List (Nat × St), beforeN A i (idxsE E) = chainE.beforeE A i E
 | [] => rfl
 | e :: l => by simp only [idxsE, beforeN, chainE.beforeE, beforeN_eq A i l]
theorem chainN_eq (A : List Nat) : ∀ E : List (Nat × St), chainN A (idxsE E) = chainE A E
 | [] => rfl
 | e :: l => by simp only [idxsE, chainN, chainE, chainN_eq A l, beforeN_eq]
theorem chkEW_ad {ops : Array Oper} {A : List Nat} {r : DRec} : ∀ (E : List (Nat × St)) (s : St) (k : Prop), chkEW P ops A r r.i s (idxsE E) E k → chkE P ops A r s E = true ∧ k
 | [], s, k, h => askW_ad h
 | e :: l, s, k, h => by
  have tail : ∀ {k' : Prop}, k' → (k' → (bif tbQ (ogetN (lget A e.1)) r.i then k else chkEW P ops A r r.i e.2 (idxsE l) l k)) → (bif tbQ (ogetN (lget A e.1)) r.i then true else chkE P ops A r e.2 l) = true ∧ k := by
   intro k' hk' hh
   have hh := hh hk'
   cases ht : tbQ (ogetN (lget A e.1)) r.i with
   | true => rw [ht, cond_true] at hh; exact ⟨rfl, hh⟩
   | false => rw [ht, cond_false] at hh; exact chkEW_ad l _ _ hh
  have ea : anyN (ogetN (lget A r.i)) (e.1 :: idxsE l) = anyB (ogetN (lget A r.i)) (e :: l) := anyN_eq _ (e :: l)
  simp only [idxsE, chkEW_cons, ea] at h
  simp only [chkE, Bool.and_eq_true]
  split at h
  ·rename_i ha
   obtain ⟨g1, g2⟩ := tail h id
   exact ⟨⟨by rw [ha]; rfl, g1⟩, g2⟩
  ·rename_i ha
   obtain ⟨h1, h2⟩ := askW_ad h
   obtain ⟨g1, g2⟩ := tail h2 id
   exact ⟨⟨by rw [ha, cond_false]; exact h1, g1⟩, g2⟩
theorem chkE_noMem {ops : Array Oper} {A : List Nat} {r : DRec} (hm : r.mb = none) (hn : noMem P r.o.op = true) (hq : qopM P r.mb r.s (evL (r.o.looksAt ops) r.f) r.o.op = some r.v) : ∀ (E : List (Nat × St)) (s : St), chkE P ops A r s E = true := by
 have key : ∀ s, (match qopM P r.mb s (evL (r.o.looksAt ops) r.f) r.o.op with
     | some v => v.same r.v
     | none => false) = true := fun s => by
  have : qopM P r.mb s (evL (r.o.looksAt ops) r.f) r.o.op = some r.v := by
   rw [← hq, hm]
   simp only [qopM, qopO]
   rw [noMem_same (s := s) (s' := r.s) hn]
  rw [this]; exact V.same_self _
 intro E
 induction E with
 | nil => intro s; exact key s
 | cons e l ih =>
  intro s
  simp only [chkE, Bool.and_eq_true]
  refine ⟨?_, ?_⟩
  ·cases anyB (ogetN (lget A r.i)) (e :: l)
   ·exact key s
   ·rfl
  ·cases tbQ (ogetN (lget A e.1)) r.i
   ·exact ih _
   ·rfl
theorem chkAllW_ad {ops : Array Oper} {A : List Nat} {s : St} {E : List (Nat × St)} : ∀ (R : List DRec) (k : Prop), (∀ r ∈ R, r.q = true → r.mb = none → qopM P r.mb r.s (evL (r.o.looksAt ops) r.f) r.o.op = some r.v) → chkAllW P ops A s (idxsE E) E R k → chkAll P ops A s E R = true ∧ k
 | [], k, _, h => ⟨rfl, h⟩
 | r :: l, k, hr, h => by
  rw [chkAllW_cons] at h
  simp only [chkAll, Bool.and_eq_true]
  have hl := fun r' hr' => hr r' (List.mem_cons_of_mem _ hr')
  split at h
  ·rename_i hq
   simp only [Bool.and_eq_true] at hq
   obtain ⟨h1, h2⟩ := chkEW_ad E s _ ((forceN_iff _ _).1 h)
   obtain ⟨h3, h4⟩ := chkAllW_ad l k hl h2
   exact ⟨⟨by rw [hq.1]; exact h1, h3⟩, h4⟩
  ·rename_i hq
   obtain ⟨h3, h4⟩ := chkAllW_ad l k hl h
   refine ⟨⟨?_, h3⟩, h4⟩
   cases hrq : r.q with
   | false => rfl
   | true =>
    rw [cond_true]
    rw [hrq, Bool.true_and, Bool.not_eq_false', Bool.and_eq_true] at hq
    have hm : r.mb = none := by
     cases hmb : r.mb with
     | none => rfl
     | some b => rw [hmb] at hq; cases hq.1
    exact chkE_noMem hm hq.2 (hr r List.mem_cons_self hrq hm) E s

theorem drawStep_q {ops : Array Oper} {mb : Option Nat} {i : Nat} {o : Oper} {f : Frm} {s : St} {r : DRec} (h : drawStep P self ops mb i o f s = some r) (hq : r.q = true) : qopM P r.mb r.s (evL (r.o.looksAt ops) r.f) r.o.op = some r.v := by
 unfold drawStep at h
 cases hk : wantOK (guardOf ops o) f with
 | false => rw [hk] at h; cases h
 | true =>
 rw [hk, Bool.not_true, cond_false] at h
 cases hw : wantedE (guardOf ops o) f with
 | false => rw [hw, cond_false] at h; cases h; cases hq
 | true =>
  rw [hw, cond_true] at h
  split at h
  ·rename_i hv; cases h; exact hv
  ·split at h
   ·cases h
   ·split at h
    ·cases h; cases hq
    ·cases h
theorem drawRun_q {ops : Array Oper} {M : List (Nat × Nat)} {l : List Oper} {i : Nat} {f : Frm} {s : St} {R : List DRec} (h : drawRun P self ops M l i f s = some R) : ∀ r ∈ R, r.q = true → r.mb = none → qopM P r.mb r.s (evL (r.o.looksAt ops) r.f) r.o.op = some r.v := by
 intro r hr hq _
 obtain ⟨k, hk⟩ := List.getElem?_of_mem hr
 exact drawStep_q ((drawRun_spec h).2 k r hk).2.2.1 hq
theorem panRun_q {ops : Array Oper} {M : List (Nat × Nat)} {A : List Nat} {l : List Oper} {i : Nat} {f : Frm} {s : St} {R : List DRec} {ip : Nat} {v : V} {s' : St} (h : panRun P self ops M A l i f s = some (R, ip, v, s')) : ∀ r ∈ R, r.q = true → r.mb = none → qopM P r.mb r.s (evL (r.o.looksAt ops) r.f) r.o.op = some r.v := by
 intro r hr hq _
 obtain ⟨k, hk⟩ := List.getElem?_of_mem hr
 rcases ((panRun_spec h).2.2.2 k r hk).2.2.1 with ⟨_, h1⟩ | ⟨_, h1⟩ | h1
 ·rw [h1] at hq; cases hq
 ·rw [h1] at hq; cases hq
 ·exact drawStep_q h1 hq

theorem drawRW_ad (hs : AdS ws self) (ops : Array Oper) : AdC (drawRW P ws ops) (drawE P self ops) := by
 intro c k h
 unfold drawRW at h
 obtain ⟨h1, h2⟩ := guardB_b h
 unfold drawE
 rw [h1, cond_true]
 rcases hpre : preM P ops c.tmps c.st with ⟨s0, M⟩
 rw [hpre] at h2
 simp only [forceS_iff, forceM_iff, forceL_iff, chainN_eq, allN_eq, finK_iff] at h2 ⊢
 rcases drawW_ad hs _ _ _ _ _ _ h2 with ⟨R, g1, g2⟩ | ⟨g0, R, ip, v, s', g1, g2⟩
 ·obtain ⟨g3, g4⟩ := guardB_b g2
  obtain ⟨g5, g6⟩ := chkAllW_ad R _ (drawRun_q g1) g4
  exact ⟨_, _, by simp only [g1, g3, g5, Bool.and_self, cond_true], g6⟩
 ·obtain ⟨g3, g4⟩ := guardB_b g2
  obtain ⟨g5, g6⟩ := chkAllW_ad R _ (panRun_q g1) g4
  rw [Bool.and_eq_true] at g3
  refine ⟨_, _, ?_, g6⟩
  simp only [g0, drawP, g1, g3.1, g3.2, g5, Bool.and_self, cond_true]

theorem dferW_ad : ∀ l : List Oper, AdC (dferW P l) (dferE P l)
 | [] => fun c k h => ⟨.normal, c, rfl, h⟩
 | o :: l => fun c k h => by
  have ih := dferW_ad l
  simp only [dferW] at h
  simp only [dferE]
  cases hg : o.guard with
  | some x => rw [hg] at h; exact h.elim
  | none =>
  rw [hg] at h
  simp only at h ⊢
  split at h
  ·split at h
   ·split at h
    ·rename_i cl hop _ f hcal _ _ g first cap vs hf hvs
     obtain ⟨h1, h2⟩ := guardB_b h
     obtain ⟨e, c', h3, h4⟩ := ih _ _ h2
     exact ⟨e, c', by simp only [hop, hcal, hf, hvs, h1, cond_true, h3], h4⟩
    ·exact h.elim
   ·exact h.elim
  ·split at h
   ·rename_i cs v hq
    obtain ⟨h1, h2⟩ := needs_b h
    obtain ⟨e, c', h3, h4⟩ := ih _ _ h2
    refine ⟨e, c', ?_, h4⟩
    simp only [qopO, hq, chkQ, h1, cond_true]
    exact h3
   ·exact h.elim

theorem regionW_ad (hs : AdS ws self) (round : Option Nat) (ops : Array Oper) (draw : Bool) : AdC (regionW P ws round ops draw) (regionE P self round ops draw) := by
 intro c k h
 cases draw with
 | true => exact drawRW_ad hs ops c k h
 | false =>
  simp only [regionW] at h
  simp only [regionE]
  cases hd : hasDefer ops.toList with
  | true =>
   rw [hd] at h
   cases round with
   | none => exact dferW_ad _ c k h
   | some l => exact h.elim
  | false =>
   rw [hd] at h
   exact opsW_ad hs ops ops.toList c k h

theorem seqW_ad {a b : CW} {fa fb : Cfg → Option (EExit × Cfg)} (ha : AdC a fa) (hb : AdC b fb) : AdC (seqW a b) (seqE fa fb) := by
 intro c k h
 obtain ⟨e, c1, h1, h2⟩ := ha c _ h
 unfold seqE
 cases e with
 | normal =>
  obtain ⟨e', c', h3, h4⟩ := hb c1 k h2
  exact ⟨e', c', by simp only [h1, h3], h4⟩
 | exit id => exact ⟨_, _, by simp only [h1], h2⟩
 | ret => exact ⟨_, _, by simp only [h1], h2⟩
 | pan v => exact ⟨_, _, by simp only [h1], h2⟩
theorem condW_ad {x : Operand} {a b : CW} {fa fb : Cfg → Option (EExit × Cfg)} (ha : AdC a fa) (hb : AdC b fb) : AdC (condW x a b) (condE x fa fb) := by
 intro c k h
 unfold condW at h
 unfold condE
 have h := splitF_ad h
 split at h
 ·rename_i q hq
  cases q with
  | true => obtain ⟨e, c', h1, h2⟩ := ha c k h; exact ⟨e, c', by simp only [hq]; exact h1, h2⟩
  | false => obtain ⟨e, c', h1, h2⟩ := hb c k h; exact ⟨e, c', by simp only [hq]; exact h1, h2⟩
 ·exact h.elim
theorem blockW_ad {id : Nat} {b : CW} {fb : Cfg → Option (EExit × Cfg)} (hb : AdC b fb) : AdC (blockW id b) (blockE id fb) := by
 intro c k h
 obtain ⟨e, c1, h1, h2⟩ := hb c _ h
 unfold blockE
 cases e with
 | exit id' =>
  simp only at h2
  cases hi : Nat.beq id' id with
  | true => rw [hi, cond_true] at h2; exact ⟨_, _, by simp only [h1, hi, cond_true], h2⟩
  | false => rw [hi, cond_false] at h2; exact ⟨_, _, by simp only [h1, hi, cond_false], h2⟩
 | normal => exact ⟨_, _, by simp only [h1], h2⟩
 | ret => exact ⟨_, _, by simp only [h1], h2⟩
 | pan v => exact ⟨_, _, by simp only [h1], h2⟩
theorem iterW_ad {b : CW} {fb : Cfg → Option (EExit × Cfg)} (hb : AdC b fb) : ∀ n, AdC (iterW b n) (iterE fb n)
 | 0 => fun c k h => h.elim
 | n + 1 => fun c k h => by
  obtain ⟨e, c1, h1, h2⟩ := hb c _ h
  have he : iterE fb (n + 1) c = (match fb c with
    | some (.normal, c') => iterE fb n c'
    | r => r) := rfl
  rw [he, h1]
  cases e with
  | normal => exact iterW_ad hb n c1 k h2
  | exit id => exact ⟨_, _, rfl, h2⟩
  | ret => exact ⟨_, _, rfl, h2⟩
  | pan v => exact ⟨_, _, rfl, h2⟩
def openR (round : Option Nat) (c : Cfg) : Option (St × Nat × List EDef) :=
 match round with
  | none => some ((c.st.new (.dfr false)), c.st.next, [EDef.mark c.st.next])
  | some l0 => match c.st.heap.get l0 with
   | some (.loop r) => some (c.st, r.defers, [])
   | _ => none
theorem rangeE_open (round : Option Nat) (f : Operand) (ps : Array Tmp) (assign body : Code) (c : Cfg) : rangeE P self round f ps assign body c = (match openR round c with
    | none => none
    | some (s1, d, marks) =>
    match evF c.tmps f with
    | some (.fn g first cap) =>
      bif bodyOK P g then
        match self (.fn g (lapp (lapp first [.yld s1.next]) cap)) (s1.new (.loop ⟨.ready, none, c.tmps, ps.toList, assign, body, d⟩)) with
        | some (.ret _, s2) => match s2.heap.get s1.next with
          | some (.loop r) => match r.state with
            | .busy => none
            | _ => match jumpE r.pending with
              | some e => some (e, ⟨c.tmps, marks ++ c.defers, s2.upd s1.next (.loop { r with state := .exhausted })⟩)
              | none => none
          | _ => none
        | some (.pan v, s2) => some (.pan v, ⟨c.tmps, marks ++ c.defers, s2⟩)
        | none => none
      else none
    | _ => none) := rfl
theorem rangeW_open (round : Option Nat) (f : Operand) (ps : Array Tmp) (assign body : Code) (c : Cfg) (k : KC) : rangeW P ws round f ps assign body c k = (match openR round c with
  | none => False
  | some (s0, d, marks) => forceS s0 fun s1 =>
    match evF c.tmps f with
    | some (.fn g first cap) =>
      guardB (bodyOK P g) (forceS (s1.new (.loop ⟨.ready, none, c.tmps, ps.toList, assign, body, d⟩)) fun s2 => ws (.fn g (lapp (lapp first [.yld s1.next]) cap)) s2 fun e s2 => match e with
        | .ret _ => (match s2.heap.get s1.next with
          | some (.loop r) => (match r.state with
            | .busy => False
            | _ => match jumpE r.pending with
              | some e => k e ⟨c.tmps, marks ++ c.defers, s2.upd s1.next (.loop { r with state := .exhausted })⟩
              | none => False)
          | _ => False)
        | .pan v => k (.pan v) ⟨c.tmps, marks ++ c.defers, s2⟩)
    | _ => False) := rfl
theorem rangeW_ad (hs : AdS ws self) (round : Option Nat) (f : Operand) (ps : Array Tmp) (assign body : Code) : AdC (rangeW P ws round f ps assign body) (rangeE P self round f ps assign body) := by
 intro c k h
 rw [rangeW_open] at h
 rw [rangeE_open]
 cases hopen : openR round c with
 | none => rw [hopen] at h; exact h.elim
 | some p =>
 obtain ⟨s1, d, marks⟩ := p
 rw [hopen] at h
 simp only [forceS_iff] at h ⊢
 split at h
 ·rename_i g first cap hf
  obtain ⟨h1, h2⟩ := guardB_b h
  obtain ⟨ee, s2, h3, h4⟩ := hs _ _ _ h2
  simp only [hf, h1, cond_true, h3]
  cases ee with
  | pan v => exact ⟨_, _, rfl, h4⟩
  | ret v =>
   simp only at h4 ⊢
   split at h4
   ·rename_i r hr
    split at h4
    ·exact h4.elim
    ·rename_i hnb
     split at h4
     ·rename_i e he
      refine ⟨e, _, ?_, h4⟩
      cases hst : r.state with
      | busy => exact absurd hst hnb
      | ready => simp only [he]
      | done => simp only [he]
      | exhausted => simp only [he]
     ·exact h4.elim
   ·exact h4.elim
 ·exact h.elim

def AdL (lw : LpW) (lp : LpF) : Prop := ∀ id, match lw id with
 | some w => ∃ F, lp id = some F ∧ AdC w F
 | none => lp id = none
theorem noLp_ad : AdL noLpW noLp := fun _ => rfl
theorem loopW_ad {lw : LpW} {lp : LpF} (hl : AdL lw lp) {b : Code} {w : CW} {f : Cfg → Option (EExit × Cfg)} (h : AdC w f) : AdC (loopW lw b w) (loopF lp b f) := by
 unfold loopW loopF
 cases firstR b with
 | none => exact h
 | some id =>
  have := hl id
  simp only
  cases hw : lw id with
  | none => rw [hw] at this; simp only at this; rw [this]; exact h
  | some w' =>
   rw [hw] at this
   obtain ⟨F, h1, h2⟩ := this
   rw [h1]; exact h2
theorem compW_ad (hs : AdS ws self) (fuel : Nat) (round : Option Nat) {lw : LpW} {lp : LpF} (hl : AdL lw lp) : ∀ x : Code, AdC (compW P ws fuel round lw x) (runF (compC P self fuel round lp x))
 | .skip => fun c k h => ⟨_, _, rfl, h⟩
 | .label _ => fun c k h => ⟨_, _, rfl, h⟩
 | .ret => fun c k h => ⟨_, _, rfl, h⟩
 | .exit _ => fun c k h => ⟨_, _, rfl, h⟩
 | .goto _ => fun c k h => h.elim
 | .refuse _ => fun c k h => h.elim
 | .scope b => compW_ad hs fuel round hl b
 | .region id ops draw => regionW_ad hs round ops draw
 | .seq a b => seqW_ad (compW_ad hs fuel round hl a) (compW_ad hs fuel round hl b)
 | .cond x a b => condW_ad (compW_ad hs fuel round hl a) (compW_ad hs fuel round hl b)
 | .block id b => blockW_ad (compW_ad hs fuel round hl b)
 | .loop b => loopW_ad hl (iterW_ad (compW_ad hs fuel round hl b) fuel)
 | .rangeFunc f ps assign body => rangeW_ad hs round f ps assign body
theorem codeW_ad (hs : AdS ws self) (fuel : Nat) (round : Option Nat) (x : Code) : AdC (compW P ws fuel round noLpW x) (runCode P self fuel round x) := compW_ad hs fuel round noLp_ad x

theorem roundW_ad (hs : AdS ws self) (fuel l : Nat) (args : List V) (s : St) (k : KS) (h : roundW P ws fuel l args s k) : ∃ e s', runRound P self fuel l args s = some (e, s') ∧ k e s' := by
 unfold roundW at h
 simp only [forceF_iff, forceS_iff] at h
 unfold runRound
 split at h
 ·rename_i r hr
  obtain ⟨e, c1, h1, h2⟩ := codeW_ad hs fuel (some l) _ _ _ h
  simp only [hr, h1]
  cases e with
  | normal =>
   simp only at h2 ⊢
   split at h2
   ·rename_i r1 hr1
    split at h2
    ·rename_i hst
     obtain ⟨e2, c2, h3, h4⟩ := codeW_ad hs fuel (some l) _ _ _ h2
     simp only [hr1, hst, h3]
     split at h4
     ·rename_i r2 hr2
      simp only [hr2]
      cases e2 with
      | normal => exact ⟨_, _, rfl, h4⟩
      | ret => exact ⟨_, _, rfl, h4⟩
      | exit id => exact ⟨_, _, rfl, h4⟩
      | pan v => exact h4.elim
     ·exact h4.elim
    ·exact h2.elim
   ·exact h2.elim
  | exit id => exact h2.elim
  | ret => exact h2.elim
  | pan v => exact h2.elim
 ·exact h.elim

theorem resultsW_ad {s : St} {f : Frm} : ∀ (rs : List ResultVar) (k : List V → Prop), resultsW P s f rs k → ∃ l, resultsE P s f rs = some l ∧ k l
 | [], k, h => ⟨[], rfl, h⟩
 | .tmp t :: l, k, h => by
  have h : resultsW P s f l (fun r => match f.get t with
    | .any => False
    | v => k (v :: r)) := h
  obtain ⟨r, h1, h2⟩ := resultsW_ad l _ h
  simp only [resultsE, h1]
  split at h2
  ·exact h2.elim
  ·rename_i hne
   refine ⟨_, ?_, h2⟩
   split
   ·rename_i he; exact absurd he hne
   ·rfl
 | .cell a t :: l, k, h => by
  have h : (match qLoad P s t (f.get a) with
    | some (c, v) => needsR c (resultsW P s f l fun r => k (v :: r))
    | none => False) := h
  simp only [resultsE]
  split at h
  ·rename_i c v hq
   obtain ⟨h1, h2⟩ := needs_b h
   obtain ⟨r, h3, h4⟩ := resultsW_ad l _ h2
   exact ⟨_, by simp only [hq, chkQ, h1, cond_true, h3], h4⟩
  ·exact h.elim
theorem resultW_ad {s : St} {f : Frm} {rs : List ResultVar} {k : V → Prop} (h : resultW P s f rs k) : ∃ v, resultE P s f rs = some v ∧ k v := by
 obtain ⟨l, h1, h2⟩ := resultsW_ad rs _ h
 unfold resultE
 rw [h1]
 split at h2
 ·exact ⟨_, rfl, h2⟩
 ·rename_i hne
  refine ⟨_, ?_, h2⟩
  cases l with
  | nil => rfl
  | cons a l =>
   cases l with
   | nil => exact absurd rfl (hne a)
   | cons b l => rfl

def AdD (w : DW) (f : Cfg → DM → Option (EExit × Cfg × DM)) : Prop := ∀ c m k, w c m k → ∃ e c' m', f c m = some (e, c', m') ∧ k e c' m'
theorem withDW_ad {w : CW} {f : Cfg → Option (EExit × Cfg)} (h : AdC w f) : AdD (withDW w) (fun c m => withD m (f c)) := by
 intro c m k hk
 obtain ⟨e, c', h1, h2⟩ := h c _ hk
 cases e with
 | pan v => exact h2.elim
 | normal => exact ⟨_, _, _, by simp only [h1, withD], h2⟩
 | ret => exact ⟨_, _, _, by simp only [h1, withD], h2⟩
 | exit id => exact ⟨_, _, _, by simp only [h1, withD], h2⟩
theorem recW_ad : ∀ l : List Oper, AdD (recW P l) (recE P l)
 | [] => fun c m k h => ⟨_, _, _, rfl, h⟩
 | o :: l => fun c m k h => by
  have ih := recW_ad l
  simp only [recW] at h
  simp only [recE]
  split at h
  ·exact h.elim
  ·rename_i hg
   simp only [hg]
   split at h
   ·rename_i hr
    rw [hr, cond_true]
    split at h
    ·exact ih _ _ _ h
    ·rename_i hne
     cases m with
     | none => exact ih _ _ _ h
     | some p =>
      obtain ⟨v, b⟩ := p
      cases b with
      | false => exact absurd rfl (hne v)
      | true => exact ih _ _ _ h
   ·rename_i hr
    rw [hr, cond_false]
    split at h
    ·rename_i cs v hq
     obtain ⟨h1, h2⟩ := needs_b h
     simp only [qopO, hq, chkQ, h1, cond_true]
     exact ih _ _ _ h2
    ·exact h.elim
theorem seqDW_ad {a b : DW} {fa fb : Cfg → DM → Option (EExit × Cfg × DM)} (ha : AdD a fa) (hb : AdD b fb) : AdD (seqDW a b) (seqD fa fb) := by
 intro c m k h
 obtain ⟨e, c1, m1, h1, h2⟩ := ha c m _ h
 unfold seqD
 cases e with
 | normal =>
  obtain ⟨e', c', m', h3, h4⟩ := hb c1 m1 k h2
  exact ⟨e', c', m', by simp only [h1, h3], h4⟩
 | exit id => exact ⟨_, _, _, by simp only [h1], h2⟩
 | ret => exact ⟨_, _, _, by simp only [h1], h2⟩
 | pan v => exact ⟨_, _, _, by simp only [h1], h2⟩
theorem condDW_ad {x : Operand} {a b : DW} {fa fb : Cfg → DM → Option (EExit × Cfg × DM)} (ha : AdD a fa) (hb : AdD b fb) : AdD (condDW x a b) (condD x fa fb) := by
 intro c m k h
 unfold condDW at h
 unfold condD
 split at h
 ·rename_i q hq
  cases q with
  | true => obtain ⟨e, c', m', h1, h2⟩ := ha c m k h; exact ⟨e, c', m', by simp only [hq]; exact h1, h2⟩
  | false => obtain ⟨e, c', m', h1, h2⟩ := hb c m k h; exact ⟨e, c', m', by simp only [hq]; exact h1, h2⟩
 ·exact h.elim
theorem compDW_ad (hs : AdS ws self) (fuel : Nat) : ∀ x : Code, AdD (compDW P ws fuel x) (runD (compD P self fuel x))
 | .skip => withDW_ad (codeW_ad hs fuel none .skip)
 | .label l => withDW_ad (codeW_ad hs fuel none (.label l))
 | .ret => withDW_ad (codeW_ad hs fuel none .ret)
 | .exit id => withDW_ad (codeW_ad hs fuel none (.exit id))
 | .goto l => withDW_ad (codeW_ad hs fuel none (.goto l))
 | .scope b => withDW_ad (codeW_ad hs fuel none (.scope b))
 | .refuse why => withDW_ad (codeW_ad hs fuel none (.refuse why))
 | .region id ops true => withDW_ad (codeW_ad hs fuel none (.region id ops true))
 | .region id ops false => by
  intro c m k h
  have h : (match hasRec ops.toList with
      | true => recW P ops.toList
      | false => withDW (compW P ws fuel none noLpW (.region id ops false))) c m k := h
  have e : runD (compD P self fuel (.region id ops false)) c m = (bif hasRec ops.toList then recE P ops.toList c m else withD m (runCode P self fuel none (.region id ops false) c)) := rfl
  rw [e]
  cases hr : hasRec ops.toList with
  | true => rw [hr] at h; rw [cond_true]; exact recW_ad _ c m k h
  | false => rw [hr] at h; rw [cond_false]; exact withDW_ad (codeW_ad hs fuel none (.region id ops false)) c m k h
 | .seq a b => seqDW_ad (compDW_ad hs fuel a) (compDW_ad hs fuel b)
 | .cond x a b => condDW_ad (compDW_ad hs fuel a) (compDW_ad hs fuel b)
 | .block id b => withDW_ad (codeW_ad hs fuel none (.block id b))
 | .loop b => withDW_ad (codeW_ad hs fuel none (.loop b))
 | .rangeFunc f ps assign body => withDW_ad (codeW_ad hs fuel none (.rangeFunc f ps assign body))

theorem runDefW_ad (hs : AdS ws self) (fuel : Nat) (g : FuncId) (args : List V) (m : DM) (s : St) (k : DM → St → Prop) (h : runDefW P ws fuel g args m s k) : ∃ m' s', runDef P self fuel g args m s = some (m', s') ∧ k m' s' := by
 unfold runDefW at h
 unfold runDef
 split at h
 ·rename_i fn hfn
  split at h
  ·rename_i c hc
   obtain ⟨h1, h2⟩ := guardB_b h
   obtain ⟨e, c', m', h3, h4⟩ := compDW_ad hs fuel c _ _ _ (frmK_args (k := fun f => compDW P ws fuel c ⟨f, [], s⟩ m _) h1 h2)
   simp only [hfn, hc, h1, Bool.not_true, cond_false, h3]
   have key : (match c'.defers with
     | [] => resultW P c'.st c'.tmps fn.results.toList fun _ => k m' c'.st
     | _ :: _ => False) → ∃ m1 s1, (match c'.defers with
       | [] => match resultE P c'.st c'.tmps fn.results.toList with
         | some _ => some (m', c'.st)
         | none => none
       | _ :: _ => none : Option (DM × St)) = some (m1, s1) ∧ k m1 s1 := by
    intro hh
    split at hh
    ·rename_i hd
     obtain ⟨v, h5, h6⟩ := resultW_ad hh
     exact ⟨_, _, by simp only [h5], h6⟩
    ·exact hh.elim
   cases e with
   | normal => exact key h4
   | ret => exact key h4
   | exit id => exact h4.elim
   | pan v => exact h4.elim
  ·exact h.elim
 ·exact h.elim

theorem leaveW_ad (hs : AdS ws self) (fuel : Nat) (fn : Func) (tmps : Frm) (k : KS) : ∀ (ds : List EDef) (m : DM) (s : St), leaveW P ws fuel fn tmps m ds s k → ∃ e s', leaveE P self fuel fn tmps m ds s = some (e, s') ∧ k e s'
 | [], m, s, h => by
  simp only [leaveW] at h
  simp only [leaveE]
  split at h
  ·exact ⟨_, _, rfl, h⟩
  ·exact h.elim
  ·obtain ⟨v, h1, h2⟩ := resultW_ad h
   exact ⟨_, _, by simp only [h1], h2⟩
 | .mark r :: ds, m, s, h => by
  simp only [leaveW] at h
  simp only [leaveE]
  split at h
  ·rename_i hr
   obtain ⟨e, s', h1, h2⟩ := leaveW_ad hs fuel fn tmps k ds m _ h
   exact ⟨e, s', by simp only [hr]; exact h1, h2⟩
  ·exact h.elim
 | .call g args cap :: ds, m, s, h => by
  simp only [leaveW] at h
  simp only [leaveE]
  obtain ⟨h1, h2⟩ := guardB_b h
  obtain ⟨m', s', h3, h4⟩ := runDefW_ad hs fuel g _ m s _ h2
  obtain ⟨e, s2, h5, h6⟩ := leaveW_ad hs fuel fn tmps k ds _ _ h4
  exact ⟨e, s2, by simp only [h1, cond_true, h3]; exact h5, h6⟩

theorem fnLW_ad (hs : AdS ws self) (fuel : Nat) {lw : LpW} {lp : LpF} (hl : AdL lw lp) (f : FuncId) (args : List V) (s : St) (k : KS) (h : fnLW P ws fuel lw f args s k) : ∃ e s', runFnL P self fuel lp f args s = some (e, s') ∧ k e s' := by
 unfold fnLW at h
 unfold runFnL
 split at h
 ·rename_i fn hfn
  split at h
  ·rename_i c hc
   obtain ⟨h1, h2⟩ := guardB_b h
   obtain ⟨e, c', h3, h4⟩ := compW_ad hs fuel none hl c _ _ (frmK_args (k := fun f => compW P ws fuel none lw c ⟨f, [], s⟩ _) h1 h2)
   simp only [hfn, hc, h1, Bool.not_true, cond_false, h3]
   cases e with
   | normal => exact leaveW_ad hs fuel fn _ k _ _ _ h4
   | ret => exact leaveW_ad hs fuel fn _ k _ _ _ h4
   | pan v => exact leaveW_ad hs fuel fn _ k _ _ _ h4
   | exit id => exact h4.elim
  ·exact h.elim
 ·exact h.elim
theorem tgtW_ad (hs : AdS ws self) (fuel : Nat) : AdS (tgtW P ws fuel) (runT P self fuel) := by
 intro t s k h
 cases t with
 | fn f args => exact fnLW_ad hs fuel noLp_ad f args s k h
 | round l args => exact roundW_ad hs fuel l args s k h

def AdK (kw : KnW) (known : ESelf) : Prop := ∀ t s r, kw t s = some r → ∀ k, r k → ∃ e s', known t s = some (e, s') ∧ k e s'
def NoK (kw : KnW) (known : ESelf) : Prop := ∀ t s, kw t s = none → known t s = none
theorem callW_ad {kw : KnW} {known : ESelf} (hk : AdK kw known) (hn : NoK kw known) (fuel : Nat) : ∀ d, AdS (callW P kw fuel d) (callE P known fuel d)
 | 0 => fun t s k h => h.elim
 | d + 1 => fun t s k h => by
  have h : (match kw t s with
    | some r => r k
    | none => tgtW P (callW P kw fuel d) fuel t s k) := h
  have e : callE P known fuel (d + 1) t s = (match known t s with
    | some r => some r
    | none => runT P (callE P known fuel d) fuel t s) := rfl
  rw [e]
  split at h
  ·rename_i r hr
   obtain ⟨e, s', h1, h2⟩ := hk t s r hr k h
   exact ⟨e, s', by rw [h1], h2⟩
  ·rename_i hr
   rw [hn t s hr]
   exact tgtW_ad (callW_ad hk hn fuel d) fuel t s k h
end
end Go.Sym
end
