/-
  The evaluator's code is the model's: regions, blocks, loops, ranges over functions.
-/
import Derived.Test.YtmnjgdnmlopigaaGreatEngR
import Derived.LoopNIn
import Derived.RangeFuncNested
namespace Go.Eng
open Go.RowKit (Below)
set_option linter.unusedSimpArgs false
set_option linter.unusedVariables false

structure Rel (base : Nat) (ρ : Env) (c : Cfg) (A : Act) (w : World) : Prop where
  f : FRel ρ c.tmps A.tmps
  d : DRel ρ c.defers A.defers
  s : SRel base ρ c.st w

/-- the round in which the evaluator is, and the world's -/
def RR (ρ : Env) : Option Nat → Option Nat → Prop
  | none, r => r = none
  | some l, r => ∃ x, ρ l = some x ∧ r = some x.B
theorem RR.mono {ρ ρ' : Env} (h : ρ.le ρ') : ∀ {a b : Option Nat}, RR ρ a b → RR ρ' a b
  | none, _, r => r
  | some _, _, ⟨x, h1, h2⟩ => ⟨x, h.sub _ _ h1, h2⟩

def CodeOK (P : Program) (ro r : Option Nat) (n : Nat) (x : Code) (f : Cfg → Option (EExit × Cfg)) : Prop :=
  ∀ c e c', f c = some (e, c') → ∀ base ρ0 w0 ρ A w, RR ρ0 ro r → ρ0.le ρ → Below base w0 w → Rel base ρ c A w → x.wpIn (RF r) n P (CPost base ρ0 w0 e c') A w

section
variable {P : Program} {self : ESelf} {ro r : Option Nat} {n : Nat}

theorem CPost.mk {base : Nat} {ρ0 ρ : Env} {w0 w : World} {e : EExit} {c : Cfg} {A : Act} {E : Exit} (h1 : ρ0.le ρ) (h2 : Below base w0 w) (h : Rel base ρ c A w) (hx : XRel ρ e E) : CPost base ρ0 w0 e c E A w :=
  ⟨ρ, h1, hx, h.f.toX e, h.d, h.s, h2⟩

theorem callsIn_RF {m : Nat} {f : FuncId} {args : Array Value} {w : World} {R : Ending → World → Prop} (h : CallsIn Fence.wide m P f args w R) : CallsIn (RF r) m P f args w R := h
theorem roundIn_RF {m l : Nat} {f : FuncId} {tmps : Array Value} {a b : Code} {w : World} {R : Ending → World → Prop} (h : RoundIn Fence.wide m P l f tmps a b w R) : RoundIn (RF r) m P l f tmps a b w R := h

theorem ops_sound (hs : SelfOK P self) (ops : Array Oper) : ∀ (l : List Oper) (idx : List Nat), idx.map (ops[·]?) = l.map some → ∀ c e c', runOps self (compOps P ops l) c = some (e, c') →
    ∀ base ρ0 w0 ρ A w, ρ0.le ρ → Below base w0 w → Rel base ρ c A w → wpOpsIn (RF r) n P ops (CPost base ρ0 w0 e c') idx A w := by
  intro l
  induction l with
  | nil =>
    intro idx hi c e c' h base ρ0 w0 ρ A w h1 h2 hr
    have hi : idx = [] := by simpa using hi
    subst hi
    have h : some (EExit.normal, c) = some (e, c') := h
    cases h
    exact CPost.mk h1 h2 hr rfl
  | cons o l ih =>
    intro idx hi c e c' h base ρ0 w0 ρ A w h1 h2 hr
    cases idx with
    | nil => simp at hi
    | cons i idx =>
    simp only [List.map_cons, List.cons.injEq] at hi
    obtain ⟨hio, hi⟩ := hi
    have ih := fun {c e c'} hh => ih idx hi c e c' hh base ρ0 w0
    replace h : stepE self (runOps self (compOps P ops l)) (compStep P ops o) c = some (e, c') := h
    obtain ⟨fr, ds, s⟩ := c
    have hop := compOp_eq (P := P) o.op s (evF fr)
    unfold compStep at h
    cases hc : compOp P o.op with
    | mk f =>
    rw [hc] at h hop
    simp only [runOpF] at hop
    simp only [stepE] at h
    rw [hop] at h
    have hw := wanted_rel hr.f ops o
    simp only at hw
    simp only [wpOpsIn, hio]
    have hru := (VRel.eq_1 ρ (.tuple #[])).mpr rfl
    cases hwt : wantedE (guardOf ops o) fr with
    | false =>
      rw [hwt] at h
      rw [hwt] at hw
      simp only [cond_false] at h
      rw [← hw]
      simp only [Bool.false_eq_true, if_false]
      refine ⟨fun f' _ => RF_fn _ _, ih h ρ _ w h1 h2 ⟨putE_rel hr.f hru o.dst, ?_, hr.s⟩⟩
      rw [put_defers]; exact hr.d
    | true =>
      rw [hwt] at h
      rw [hwt] at hw
      simp only [cond_true] at h
      rw [← hw]
      simp only [if_true]
      unfold nextE at h
      split at h
      all_goals try rename_i hopv
      case h_5 => cases h
      all_goals
        have hnd : ∀ cc, o.op ≠ .defer cc := fun cc ec => by rw [ec, opE_defer] at hopv; cases hopv
        have hrel := opE_rel hr.s (evF_rel hr.f) hopv
        refine ⟨fun f' _ => RF_fn _ _, ?_⟩
        rw [Oper.semAt_eq _ _ _ hnd]
      · rename_i v s1
        obtain ⟨ρ', X, w', g1, g2, g3, g4, g5⟩ := hrel
        rw [g2, Oper.uponIn_value]
        refine ih h ρ' _ w' (Env.le_trans h1 g1) (h2.trans g5) ⟨putE_rel (hr.f.mono g1) g3 o.dst, ?_, g4⟩
        rw [put_defers]; exact hr.d.mono g1
      · rename_i s1
        obtain ⟨w', g2, g4, g5⟩ := hrel
        rw [g2, Oper.uponIn_skip]
        refine ih h ρ _ w' h1 (h2.trans g5) ⟨putE_rel hr.f hru o.dst, ?_, g4⟩
        rw [put_defers]; exact hr.d
      · rename_i v s1
        cases h
        obtain ⟨rfl, X, g2, g3⟩ := hrel
        rw [g2, Oper.uponIn_panic]
        exact CPost.mk h1 h2 ⟨hr.f, hr.d, hr.s⟩ ⟨X, rfl, g3⟩
      · rename_i t s1
        have tail : ∀ (E : Ending) (w' : World) (ee : EEnd) (s2 : St), self t s = some (ee, s2) → Post base ρ w ee s2 E w' →
            (match E, w' with
              | .returned v, w'' => wpOpsIn (RF r) n P ops (CPost base ρ0 w0 e c') idx (A.put o.dst v) w''
              | .panicked chain, w'' => CPost base ρ0 w0 e c' (.panic chain) A w''
              | .outgrown, _ => LetsOut (CPost base ρ0 w0 e c')) := by
          intro E w' ee s2 hself hpost
          have hs1 : s1 = s := by
            cases t with
            | fn f' a' => exact hrel.1
            | round l' a' => exact hrel.1
          subst hs1
          rw [hself] at h
          obtain ⟨ρ', g1, g3, g4, g5⟩ := hpost
          cases ee with
          | ret v =>
            obtain ⟨X, rfl, g6⟩ := g3
            simp only at h ⊢
            refine ih h ρ' _ w' (Env.le_trans h1 g1) (h2.trans g5) ⟨putE_rel (hr.f.mono g1) g6 o.dst, ?_, g4⟩
            rw [put_defers]; exact hr.d.mono g1
          | pan v =>
            obtain ⟨X, rfl, g6⟩ := g3
            simp only at h ⊢
            cases h
            exact CPost.mk (Env.le_trans h1 g1) (h2.trans g5) ⟨hr.f.mono g1, hr.d.mono g1, g4⟩ ⟨X, rfl, g6⟩
        have hsome : ∃ ee s2, self t s = some (ee, s2) := by
          have hs1 : s1 = s := by
            cases t with
            | fn f' a' => exact hrel.1
            | round l' a' => exact hrel.1
          subst hs1
          cases hself : self t s1 with
          | none => rw [hself] at h; cases h
          | some p => exact ⟨p.1, p.2, rfl⟩
        obtain ⟨ee, s2, hself⟩ := hsome
        have hcon := hs t s ee s2 hself base ρ w hr.s (n - 1)
        cases t with
        | fn f' a' =>
          obtain ⟨rfl, A', g2, g3⟩ := hrel
          rw [g2, Oper.uponIn_enter]
          refine ⟨fun hh => by simp [RF_depth] at hh, callsIn_RF ((hcon A' g3).mono fun E w' hp => ?_)⟩
          have := tail E w' ee s2 hself hp
          cases E <;> exact this
        | round l' a' =>
          obtain ⟨rfl, x, L, A', g1, g2, g3, g4, g5⟩ := hrel
          rw [g5, Oper.uponIn_round]
          refine ⟨fun hh => by simp [RF_depth] at hh, roundIn_RF ((hcon x L A' g1 g2 g3 g4).mono fun E w' hp => ?_)⟩
          have := tail E w' ee s2 hself hp
          cases E <;> exact this

theorem range_map {α : Type} (ops : Array α) : (List.range ops.size).map (ops[·]?) = ops.toList.map some := by
  apply List.ext_getElem?
  intro i
  rw [List.getElem?_map, List.getElem?_map]
  by_cases hi : i < ops.size
  · rw [List.getElem?_range hi]
    simp [hi]
  · rw [List.getElem?_eq_none (by simpa using hi), List.getElem?_eq_none (by simpa using hi)]
    rfl

theorem resolve_fn {A : Act} {cl : Call} {f : Operand} {fv : FuncId} {A1 C1 : Array Value} (hc : cl.callee = .value f) (e1 : A.eval f = .func (.func fv) A1 C1) (ty : TypeId) {w : World} :
    (resolve A.eval cl ty).run P w = .ok { target := .fn (.func fv) C1, args := A1 ++ cl.args.map A.eval } w := by
  simp only [resolve, hc, Sem.run_bind, e1, Deferred.ofValue, Sem.run_pure, Result.andThen_ok]

theorem dfer_sound (ops : Array Oper) : ∀ (l : List Oper) (idx : List Nat), idx.map (ops[·]?) = l.map some → ∀ c e c', dferE P l c = some (e, c') →
    ∀ base ρ0 w0 ρ A w, ρ0.le ρ → Below base w0 w → Rel base ρ c A w → wpOpsIn (RF none) n P ops (CPost base ρ0 w0 e c') idx A w := by
  intro l
  induction l with
  | nil =>
    intro idx hi c e c' h base ρ0 w0 ρ A w h1 h2 hr
    have hi : idx = [] := by simpa using hi
    subst hi
    simp only [dferE] at h
    cases h
    exact CPost.mk h1 h2 hr rfl
  | cons o l ih =>
    intro idx hi c e c' h base ρ0 w0 ρ A w h1 h2 hr
    cases idx with
    | nil => simp at hi
    | cons i idx =>
    simp only [List.map_cons, List.cons.injEq] at hi
    obtain ⟨hio, hi⟩ := hi
    have ih := fun {c e c'} hh => ih idx hi c e c' hh base ρ0 w0
    simp only [dferE] at h
    split at h
    · cases h
    rename_i hg
    have hw : Region.wanted o (yielded ops A.tmps) = true := by unfold Region.wanted; rw [hg]
    have hru := (VRel.eq_1 ρ (.tuple #[])).mpr rfl
    simp only [wpOpsIn, hio, hw, if_true]
    split at h
    · rename_i cl hop
      split at h
      · rename_i f hc
        split at h
        · rename_i g first cap vs hf hvs
          cases hb : bodyOK P g with
          | false => rw [hb] at h; cases h
          | true =>
            rw [hb, cond_true] at h
            refine ⟨fun f' _ => RF_fn _ _, ?_⟩
            have e1 := evF_rel hr.f _ _ hf
            simp only [VRel] at e1
            obtain ⟨A1, C1, e1, e2, e3⟩ := e1
            have e4 := evalOs_rel (evF_rel hr.f) hvs
            rw [← map_toList] at e4
            have hrun : (o.semAt (RF none).round A.eval).run P w = .ok (.defer { target := .fn (.func g) C1, args := A1 ++ cl.args.map A.eval }) w := by
              show (o.semAt none A.eval).run P w = _
              rw [Oper.semAt_none]
              unfold execOp
              simp only [hop, Sem.run_bind, resolve_fn hc e1, Result.andThen_ok, Sem.run_pure]
            rw [hrun, Oper.uponIn_defer]
            refine ih h ρ _ w h1 h2 ⟨putE_rel (A := { A with defers := _ :: A.defers }) hr.f hru o.dst, ?_, hr.s⟩
            rw [put_defers]
            refine ⟨A1 ++ cl.args.map A.eval, C1, A.defers, rfl, ?_, e3, hr.d⟩
            rw [lapp_eq, Array.toList_append]
            exact e2.append e4
        · cases h
      · cases h
    · split at h
      · rename_i v hv
        exact qop_sound hr.s (evF_rel hr.f) hv fun X hX => ih h ρ _ w h1 h2 ⟨putE_rel hr.f hX o.dst, by rw [put_defers]; exact hr.d, hr.s⟩
      · cases h

theorem region_sound (hs : SelfOK P self) (id : Nat) (ops : Array Oper) (draw : Bool) : CodeOK P ro r n (.region id ops draw) (regionE P self ro ops draw) := by
  intro c e c' h base ρ0 w0 ρ A w h0 h1 h2 hr
  cases draw with
  | false =>
    simp only [regionE] at h
    cases hd : hasDefer ops.toList with
    | true =>
      rw [hd, cond_true] at h
      cases ro with
      | some l => cases h
      | none =>
        have h0 : r = none := h0
        subst h0
        exact wpIn_region (dfer_sound ops ops.toList _ (range_map ops) c e c' h base ρ0 w0 ρ A w h1 h2 hr)
    | false =>
      rw [hd, cond_false] at h
      exact wpIn_region (ops_sound hs ops ops.toList _ (range_map ops) c e c' h base ρ0 w0 ρ A w h1 h2 hr)
  | true =>
    obtain ⟨hm, s0, M, R, dead, hpre, D, hfin⟩ := drawE_spec hr.f.ok h
    have hS0 := hr.s.ahead hpre.old hpre.le
    have hle0 : ρ.le ⟨ρ.f, s0.next⟩ := ⟨fun _ _ e => e, Nat.le_trans hr.s.top hpre.le, fun _ _ e => e⟩
    refine wpIn_region_any hm ?_
    have hw : Below base w0 { w with drawn := w.drawn + 1 } := h2.trans ⟨rfl, rfl, rfl, Nat.le_refl _, fun _ _ => rfl⟩
    refine draw_any hs D hfin (fun i b hb => Nat.le_trans h1.top (Nat.le_trans hr.s.top (hpre.new i b hb).1)) hpre.one ops.size _ c.tmps 0 ⟨ρ.f, s0.next⟩ A _ ⟨by simp, ?_, hr.f.ok, rfl, ?_, fun _ _ => rfl, Nat.zero_le _, ?_⟩ ?_ (fun k _ => ?_) (fun i b hb _ => ⟨?_, (hpre.new i b hb).2⟩) (Env.le_trans h1 hle0) hw (hr.f.mono hle0) (hr.d.mono hle0) ⟨hS0.le, hS0.obj, hS0.inj, hS0.dom, hS0.top⟩
    · intro i o ho hl
      by_cases hi : i < ops.size <;> simp [hi] at hl
    · intro k rk t _ _ hl
      by_cases hi : k < ops.size <;> simp [hi] at hl
    · intro q e he
      constructor
      · intro hl
        by_cases hi : e.1 < ops.size <;> simp [hi] at hl
      · omega
    · refine Nat.le_trans List.countP_le_length ?_
      simp
    · by_cases hi : k < ops.size <;> simp [hi]
    · cases e : ρ b with
      | none => rfl
      | some x => have := hr.s.dom b x e; have := (hpre.new i b hb).1; omega

section
variable {F : Fence} {b : Frame} {a : Act} {k : List Item} {cs : List Frame} {w : World} {Q : Exit → Act → World → Prop}
theorem stepR_scope {c : Code} : step P (lone (b.atR a (.code (.scope c) :: k)) cs w) = .next (lone (b.atR a (.code c :: .inScope c :: k)) cs w) := step_lone_go (by simp [stepG, stepG.exec, Frame.atR])
theorem stepR_inScope {c : Code} : step P (lone (b.atR a (.inScope c :: k)) cs w) = .next (lone (b.atR a k) cs w) := step_lone_go (by simp [stepG, stepG.exec, Frame.atR])
theorem wpIn_scope {c : Code} (h : c.wpIn F n P (fun e a' w' => (∀ l, e ≠ .goto l) ∧ Q e a' w') a w) : (Code.scope c).wpIn F n P Q a w := by
  intro b k cs hro hb hr
  have h0 : (lone (b.atR a (.code (.scope c) :: k)) cs w).fenced P F := fenced_calm hb hr rfl
  obtain ⟨e, a₁, w₁, hq, harr⟩ := h b (.inScope c :: k) cs hro hb hr
  cases e with
  | normal => exact ⟨.normal, a₁, w₁, hq.2, .head h0 stepR_scope (StepsIn.trans harr (.one (fenced_calm hb hr rfl) stepR_inScope))⟩
  | exit id =>
    have hx : exitTo id (.inScope c :: k) = exitTo id k := by simp [exitTo]
    exact ⟨.exit id, a₁, w₁, hq.2, fun k' hk => .head h0 stepR_scope (harr.1 k' (by rw [hx]; exact hk)),
      fun hr' hk => let ⟨k₁, h1, h2⟩ := harr.2 hr' (by rw [hx]; exact hk); ⟨k₁, h1, .head h0 stepR_scope h2⟩⟩
  | goto l => exact absurd rfl (hq.1 l)
  | ret => exact ⟨_, a₁, w₁, hq.2, .of_steps (.one h0 stepR_scope) harr⟩
  | panic ch => exact ⟨_, a₁, w₁, hq.2, .of_steps (.one h0 stepR_scope) harr⟩
  | outgrown => exact ⟨_, a₁, w₁, hq.2, .of_steps (.one h0 stepR_scope) harr⟩
end
theorem scope_sound {a : Code} {fa : Cfg → Option (EExit × Cfg)} (ha : CodeOK P ro r n a fa) : CodeOK P ro r n (.scope a) fa := by
  intro c e c' h base ρ0 w0 ρ A w h0 h1 h2 hr
  refine wpIn_scope (wpIn_mono (ha c _ _ h base ρ0 w0 ρ A w h0 h1 h2 hr) ?_)
  rintro E A1 w1 hp
  refine ⟨fun l hl => ?_, hp⟩
  obtain ⟨ρ', _, g, _⟩ := hp
  subst hl
  cases e with
  | normal => cases g
  | exit id => cases g
  | ret => cases g
  | pan v => obtain ⟨X, g, _⟩ := g; cases g

theorem seq_sound {a b : Code} {fa fb : Cfg → Option (EExit × Cfg)} (ha : CodeOK P ro r n a fa) (hb : CodeOK P ro r n b fb) : CodeOK P ro r n (.seq a b) (seqE fa fb) := by
  intro c e c' h base ρ0 w0 ρ A w h0 h1 h2 hr
  refine wpIn_seq ?_
  unfold seqE at h
  split at h
  · rename_i c1 hc1
    refine wpIn_mono (ha c _ _ hc1 base ρ0 w0 ρ A w h0 h1 h2 hr) ?_
    rintro E A1 w1 ⟨ρ', g1, g2, g3, g4, g5, g6⟩
    have g2 : E = .normal := g2
    subst g2
    exact hb c1 e c' h base ρ0 w0 ρ' A1 w1 h0 g1 g6 ⟨g3, g4, g5⟩
  · rename_i hne
    refine wpIn_mono (ha c e c' h base ρ0 w0 ρ A w h0 h1 h2 hr) ?_
    intro E A1 w1 hq
    cases e with
    | normal => exact absurd h (hne c')
    | exit id => obtain ⟨ρ', g1, g2, g3⟩ := hq; have g2 : E = .exit id := g2; subst g2; exact ⟨ρ', g1, rfl, g3⟩
    | ret => obtain ⟨ρ', g1, g2, g3⟩ := hq; have g2 : E = .ret := g2; subst g2; exact ⟨ρ', g1, rfl, g3⟩
    | pan v => obtain ⟨ρ', g1, ⟨X, rfl, g2⟩, g3⟩ := hq; exact ⟨ρ', g1, ⟨X, rfl, g2⟩, g3⟩

theorem cond_sound {x : Operand} {a b : Code} {fa fb : Cfg → Option (EExit × Cfg)} (ha : CodeOK P ro r n a fa) (hb : CodeOK P ro r n b fb) : CodeOK P ro r n (.cond x a b) (condE x fa fb) := by
  intro c e c' h base ρ0 w0 ρ A w h0 h1 h2 hr
  unfold condE at h
  split at h
  · rename_i hx
    have := evF_rel hr.f x _ hx
    simp only [VRel] at this
    exact wpIn_cond_true this (ha c e c' h base ρ0 w0 ρ A w h0 h1 h2 hr)
  · rename_i hx
    have := evF_rel hr.f x _ hx
    simp only [VRel] at this
    exact wpIn_cond_false this (hb c e c' h base ρ0 w0 ρ A w h0 h1 h2 hr)
  · cases h

theorem block_sound {id : Nat} {b : Code} {fb : Cfg → Option (EExit × Cfg)} (hb : CodeOK P ro r n b fb) : CodeOK P ro r n (.block id b) (blockE id fb) := by
  intro c e c' h base ρ0 w0 ρ A w h0 h1 h2 hr
  refine wpIn_block ?_
  unfold blockE at h
  split at h
  · rename_i id' c1 hc1
    refine wpIn_mono (hb c _ _ hc1 base ρ0 w0 ρ A w h0 h1 h2 hr) ?_
    rintro E A1 w1 ⟨ρ', g1, g2, g3⟩
    have g2 : E = .exit id' := g2
    subst g2
    cases hid : Nat.beq id' id with
    | true =>
      have e1 : id' = id := by simpa using hid
      rw [hid] at h; cases h
      simp only [Exit.inBlock, e1, if_true]
      exact ⟨ρ', g1, rfl, g3⟩
    | false =>
      have e1 : id' ≠ id := by intro e; subst e; simp at hid
      rw [hid] at h; cases h
      simp only [Exit.inBlock, e1, if_false]
      exact ⟨ρ', g1, rfl, g3⟩
  · rename_i hne
    refine wpIn_mono (hb c e c' h base ρ0 w0 ρ A w h0 h1 h2 hr) ?_
    intro E A1 w1 hq
    cases e with
    | exit id => exact absurd h (hne id c')
    | normal => obtain ⟨ρ', g1, g2, g3⟩ := hq; have g2 : E = .normal := g2; subst g2; exact ⟨ρ', g1, rfl, g3⟩
    | ret => obtain ⟨ρ', g1, g2, g3⟩ := hq; have g2 : E = .ret := g2; subst g2; exact ⟨ρ', g1, rfl, g3⟩
    | pan v => obtain ⟨ρ', g1, ⟨X, rfl, g2⟩, g3⟩ := hq; exact ⟨ρ', g1, ⟨X, rfl, g2⟩, g3⟩

theorem loop_sound {b : Code} {fb : Cfg → Option (EExit × Cfg)} (hb : CodeOK P ro r n b fb) (fuel : Nat) : CodeOK P ro r n (.loop b) (iterE fb fuel) := by
  intro c e c' h base ρ0 w0 ρ A w h0 h1 h2 hr
  refine wpIn_loop_rounds fuel ?_
  induction fuel generalizing c ρ A w with
  | zero => cases h
  | succ m ih =>
    rw [roundsIn_succ]
    have h : (match fb c with | some (.normal, c') => iterE fb m c' | r => r) = some (e, c') := h
    split at h
    · rename_i c1 hc1
      refine wpIn_mono (hb c _ _ hc1 base ρ0 w0 ρ A w h0 h1 h2 hr) ?_
      rintro E A1 w1 ⟨ρ', g1, g2, g3, g4, g5, g6⟩
      have g2 : E = .normal := g2
      subst g2
      exact ih c1 h ρ' A1 w1 g1 g6 ⟨g3, g4, g5⟩
    · rename_i hne
      refine wpIn_mono (hb c e c' h base ρ0 w0 ρ A w h0 h1 h2 hr) ?_
      intro E A1 w1 hq
      cases e with
      | normal => exact absurd h (hne c')
      | exit id => obtain ⟨ρ', g1, g2, g3⟩ := hq; have g2 : E = .exit id := g2; subst g2; exact ⟨ρ', g1, rfl, g3⟩
      | ret => obtain ⟨ρ', g1, g2, g3⟩ := hq; have g2 : E = .ret := g2; subst g2; exact ⟨ρ', g1, rfl, g3⟩
      | pan v => obtain ⟨ρ', g1, ⟨X, rfl, g2⟩, g3⟩ := hq; exact ⟨ρ', g1, ⟨X, rfl, g2⟩, g3⟩
end
end Go.Eng
