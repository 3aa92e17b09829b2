/-
  The evaluator's operations are the model's: one operation, operations in a row.
-/
import Derived.Test.YtlkbmjdgfbciaaaSymK
namespace Go.Sym
set_option linter.unusedSimpArgs false
set_option linter.unusedVariables false

def DRel (ρ : Env) : List EDef → List Deferred → Prop
  | [], D => D = []
  | .mark r :: l, D => ∃ x Y, ρ r = some x ∧ D = { target := .collected x.B, args := #[] } :: Y ∧ DRel ρ l Y
  | .call f a c :: l, D => ∃ (A C : Array Value) (Y : List Deferred), D = { target := .fn (.func f) C, args := A } :: Y ∧ LRel ρ a A.toList ∧ LRel ρ c C.toList ∧ DRel ρ l Y
theorem DRel.up {ρ ρ' : Env} (h : ρ.sub ρ') : ∀ {l : List EDef} {D : List Deferred}, DRel ρ l D → DRel ρ' l D
  | [], _, r => r
  | .mark _ :: _, _, r => by obtain ⟨x, Y, h1, h2, h3⟩ := r; exact ⟨x, Y, h.1 _ _ h1, h2, h3.up h⟩
  | .call .. :: _, _, r => by obtain ⟨A, C, Y, h1, h2, h3, h4⟩ := r; exact ⟨A, C, Y, h1, LRel.up h _ _ h2, LRel.up h _ _ h3, h4.up h⟩
theorem DRel.mono {ρ ρ' : Env} (h : ρ.le ρ') {l : List EDef} {D : List Deferred} (r : DRel ρ l D) : DRel ρ' l D := DRel.up h.sub r

def XRel (ρ : Env) : EExit → Exit → Prop
  | .normal, E => E = .normal
  | .exit id, E => E = .exit id
  | .ret, E => E = .ret
  | .pan v, E => ∃ X, E = .panic [{ v := X, recovered := false }] ∧ VRel ρ v X
def NRel (ρ : Env) : EEnd → Ending → Prop
  | .ret v, E => ∃ X, E = .returned X ∧ VRel ρ v X
  | .pan v, E => ∃ X, E = .panicked [{ v := X, recovered := false }] ∧ VRel ρ v X

def RF (round : Option Nat) : Fence := { Fence.wide with round := round }
theorem RF_fn (r : Option Nat) (f : FuncId) : (RF r).fn f := trivial
theorem RF_depth (r : Option Nat) : (RF r).depth = none := rfl

def Post (own : Own) (ρ : Env) (w : World) (e : EEnd) (s' : St) : Ending → World → Prop :=
  fun E w' => ∃ ρ', ρ.le ρ' ∧ NRel ρ' e E ∧ SRel own ρ' s' w' ∧ Fr own w w'
abbrev FRelA := FRel
theorem FRel.toA {ρ : Env} {f : Frm} {A : Array Value} (r : FRel ρ f A) : FRelA ρ f A := r
abbrev FX (ρ : Env) (_ : EExit) (f : Frm) (A : Array Value) : Prop := FRel ρ f A
theorem FRel.toX {ρ : Env} {f : Frm} {A : Array Value} (r : FRel ρ f A) : ∀ e, FX ρ e f A := fun _ => r
def CPost (own : Own) (ρ : Env) (w : World) (e : EExit) (c' : Cfg) : Exit → Act → World → Prop :=
  fun E A' w' => ∃ ρ', ρ.le ρ' ∧ XRel ρ' e E ∧ FX ρ' e c'.tmps A'.tmps ∧ DRel ρ' c'.defers A'.defers ∧ SRel own ρ' c'.st w' ∧ Fr own w w'

/-- what the calls that an operation makes come to -/
def SelfOK (P : Program) (self : ESelf) : Prop := ∀ t s e s', self t s = some (e, s') → ∀ own ρ w, SRel own ρ s w → ∀ n : Nat,
  match t with
  | .fn f args => ∀ A : Array Value, LRel ρ args A.toList → CallsIn Fence.wide n P f A w (Post own ρ w e s')
  | .round l args => ∀ (x : Blk) (L : Loop) (A : Array Value), ρ l = some x → w.heap[x.B]? = some (.loop L) → LRel ρ args A.toList → A.size = L.params.size →
      RoundIn Fence.wide n P x.B L.fn ((L.params.zip A).foldl (fun tmps (t, a) => tmps.setIfInBounds t a) L.tmps) L.assign L.body w (Post own ρ w e s')

def NextRel (own : Own) (ρ : Env) (s : St) (w : World) (s' : St) (r : Result Next) : EOut → Prop
  | .val v => ∃ ρ' X w', ρ.le ρ' ∧ r = .ok (.value X) w' ∧ VRel ρ' v X ∧ SRel own ρ' s' w' ∧ Fr own w w'
  | .skip => ∃ w', r = .ok .skip w' ∧ SRel own ρ s' w' ∧ Fr own w w'
  | .pan v => s' = s ∧ ∃ X, r = .halt (.panic X) w ∧ VRel ρ v X
  | .enter (.fn f args) => s' = s ∧ ∃ A, r = .ok (.enter f A) w ∧ LRel ρ args A.toList
  | .enter (.round l args) => s' = s ∧ ∃ (x : Blk) (L : Loop) (A : Array Value), ρ l = some x ∧ w.heap[x.B]? = some (.loop L) ∧ LRel ρ args A.toList ∧ A.size = L.params.size ∧
      r = .ok (.round x.B L.fn ((L.params.zip A).foldl (fun tmps (t, a) => tmps.setIfInBounds t a) L.tmps) L.assign L.body) w

section
variable {P : Program} {own : Own} {ρ : Env} {s : St} {w : World}

theorem FRel.get {f : Frm} {A : Array Value} (h : FRel ρ f A) (k : Nat) : VRel ρ (f.get k) (A.getD k undef) := by
  obtain ⟨h1, d, h2, h3, h4⟩ := h
  rw [Frm.get_eq, blt_iff, Array.getD_eq_getD_getElem?]
  by_cases hk : k < f.n
  · rw [decide_eq_true hk]
    have hk' : k < A.size := by omega
    have := h4 k A[k] (Array.getElem?_eq_getElem hk')
    rw [Array.getElem?_eq_getElem hk']
    exact this
  · rw [decide_eq_false hk]
    have hk' : A.size ≤ k := by omega
    rw [Array.getElem?_eq_none hk']
    show VRel ρ .undef (.tuple #[])
    simp only [VRel]

theorem evF_rel {f : Frm} {A : Act} (h : FRel ρ f A.tmps) : EvRel ρ (evF f) A := by
  intro x v hv
  cases x with
  | tmp t =>
    have hv : some (f.get t) = some v := hv
    cases hv
    exact h.get t
  | const c => exact ofVal_rel hv
  | global g => cases hv
  | func g =>
    have hv : some (V.fn g [] []) = some v := hv
    cases hv
    simp only [VRel, Act.eval]
    exact ⟨#[], #[], rfl, rfl, rfl⟩

theorem FRel.set {f : Frm} {A : Array Value} (h : FRel ρ f A) {v : V} {X : Value} (hv : VRel ρ v X) (k : Nat) : FRel ρ (putE f (some k) v) (A.setIfInBounds k X) := by
  obtain ⟨h1, d, h2, h3, h4⟩ := h
  rw [putE_some, blt_iff]
  by_cases hk : k < f.n
  · rw [decide_eq_true hk]
    refine ⟨by simpa using h1, d, B.set_full _ _ _ _ h2, h3, fun i Y hi => ?_⟩
    show VRel ρ ((B.set v f.t k).get i) Y
    have hi' : i < A.size := by
      have := (Array.getElem?_eq_some_iff.1 hi).1
      simpa using this
    rw [B.get_set v f.t d k i h2 (by omega) (by omega)]
    rw [Array.getElem?_setIfInBounds] at hi
    by_cases e : k = i
    · subst e
      simp only [if_true, hi'] at hi
      cases hi
      simpa using hv
    · rw [if_neg e] at hi
      rw [if_neg (fun e' => e e'.symm)]
      exact h4 i Y hi
  · rw [decide_eq_false hk]
    have : A.setIfInBounds k X = A := by
      apply Array.ext_getElem?
      intro i
      rw [Array.getElem?_setIfInBounds]
      split
      · rename_i e; subst e
        rw [if_neg (by omega), Array.getElem?_eq_none (by omega)]
      · rfl
    rw [this]
    exact ⟨h1, d, h2, h3, h4⟩
theorem putE_rel {f : Frm} {A : Act} (h : FRel ρ f A.tmps) {v : V} {X : Value} (hv : VRel ρ v X) (d : Option Tmp) : FRel ρ (putE f d v) (A.put d X).tmps := by
  cases d with
  | none => exact h
  | some k => exact h.set hv k
theorem put_defers (A : Act) (d : Option Tmp) (X : Value) : (A.put d X).defers = A.defers := by cases d <;> rfl

theorem isAny_ne {v : V} (h : isAny v = false) : v ≠ .any := fun e => by subst e; cases h
theorem wanted_rel {f : Frm} {A : Act} (h : FRel ρ f A.tmps) (ops : Array Oper) (o : Oper) (hok : wantOK (guardOf ops o) f = true) : wantedE (guardOf ops o) f = Region.wanted o (yielded ops A.tmps) := by
  unfold guardOf at hok ⊢
  unfold Region.wanted
  cases hg : o.guard with
  | none => rfl
  | some p =>
    obtain ⟨j, want⟩ := p
    simp only [hg] at hok ⊢
    cases ho : ops[j]? with
    | none => simp [wantedE, yielded, ho]
    | some o' =>
      simp only [ho] at hok ⊢
      cases hd : o'.dst with
      | none => simp [wantedE, yielded, ho, hd]
      | some d =>
        rw [hd] at hok
        have hna : f.get d ≠ .any := isAny_ne (by simpa [wantOK] using hok)
        obtain ⟨h1, dd, h2, h3, h4⟩ := h
        simp only [wantedE, yielded, ho, hd, Option.bind_some, Frm.get_eq, blt_iff]
        rw [Frm.get_eq, blt_iff] at hna
        by_cases hk : d < f.n
        · rw [decide_eq_true hk] at hna ⊢
          have hk' : d < A.tmps.size := h1 ▸ hk
          have hv := h4 d A.tmps[d] (Array.getElem?_eq_getElem hk')
          rw [Array.getElem?_eq_getElem hk']
          simp only [cond_true] at hna ⊢
          generalize A.tmps[d] = X at hv
          generalize f.t.get d = v at hv hna
          cases v <;> simp only [VRel] at hv
          case bool b => subst hv; cases want <;> cases b <;> rfl
          case any => exact absurd rfl hna
          all_goals first
            | (subst hv; rfl)
            | (obtain ⟨_, _, _, _, rfl⟩ := hv; rfl)
            | (obtain ⟨_, _, _, _, _, rfl, _⟩ := hv; rfl)
            | (obtain ⟨_, _, rfl⟩ := hv; rfl)
            | (obtain ⟨_, _, rfl, _⟩ := hv; rfl)
            | (obtain ⟨_, rfl, _⟩ := hv; rfl)
        · rw [decide_eq_false hk]
          have hk' : A.tmps.size ≤ d := Nat.le_of_not_lt (h1 ▸ hk)
          rw [Array.getElem?_eq_none hk']
          rfl

theorem outV_some {x : Er} {o : EOut} {s' : St} (h : outV x = some (o, s')) : ∃ c v, x = some (c, v, s') ∧ allB c ∧ o = .val v := by
  cases x with
  | none => cases h
  | some p =>
    obtain ⟨c, v, t⟩ := p
    simp only [outV] at h
    cases hc : allb c with
    | false => rw [hc] at h; cases h
    | true => rw [hc] at h; cases h; exact ⟨c, v, rfl, (allb_iff c).1 hc, rfl⟩
theorem outS_some {x : Es} {o : EOut} {s' : St} (h : outS x = some (o, s')) : ∃ c, x = some (c, s') ∧ allB c ∧ o = .skip := by
  cases x with
  | none => cases h
  | some p =>
    obtain ⟨c, t⟩ := p
    simp only [outS] at h
    cases hc : allb c with
    | false => rw [hc] at h; cases h
    | true => rw [hc] at h; cases h; exact ⟨c, rfl, (allb_iff c).1 hc, rfl⟩
theorem chkQ_some {x : Qr} {v : V} (h : chkQ x = some v) : ∃ c, x = some (c, v) ∧ allB c := by
  cases x with
  | none => cases h
  | some p =>
    obtain ⟨c, t⟩ := p
    simp only [chkQ] at h
    cases hc : allb c with
    | false => rw [hc] at h; cases h
    | true => rw [hc] at h; cases h; exact ⟨c, rfl, (allb_iff c).1 hc⟩

theorem NextRel.ofV {m : Sem Value} {v : V} {s' : St} (h : OKv P own ρ m w v s') : NextRel own ρ s w s' ((do pure (.value (← m)) : Sem Next).run P w) (.val v) := by
  obtain ⟨ρ', X, w', h1, h2, h3⟩ := h
  exact ⟨ρ', X, w', h1, by simp [h2], h3⟩
theorem NextRel.ofU {m : Sem Unit} {s' : St} (h : ∃ w', m.run P w = .ok () w' ∧ SRel own ρ s' w' ∧ Fr own w w') : NextRel own ρ s w s' ((do m; pure .skip : Sem Next).run P w) .skip := by
  obtain ⟨w', h1, h2, h3⟩ := h
  exact ⟨w', by simp [h1], h2, h3⟩

theorem bodyOK_spec {f : FuncId} (h : bodyOK P f = true) : ∃ fn, P.funcs[f]? = some fn ∧ (fn.name == "runtime.NumGoroutine") = false ∧ fn.body.isNone = false := by
  unfold bodyOK at h
  split at h
  · rename_i fn hf
    simp only [Bool.and_eq_true, Bool.not_eq_true'] at h
    refine ⟨fn, hf, h.1, ?_⟩
    cases hb : fn.body with
    | none => rw [hb] at h; cases h.2
    | some c => rfl
  · cases h

theorem run_callFunc {f : FuncId} (h : bodyOK P f = true) (A : Array Value) : (callFunc f A).run P w = .ok (.enter f A) w := by
  obtain ⟨fn, h1, h2, h3⟩ := bodyOK_spec h
  simp only [callFunc, Sem.run_bind, run_program, Result.andThen_ok, h1, h2, h3, Bool.false_eq_true, if_false, Sem.run_pure]

theorem arr2 {A : Array Value} {X Y : Value} (h : A.toList = [X, Y]) : A = #[X, Y] := by cases A; simp at h; simp [h]

theorem eBuiltin_rel (h : SRel own ρ s w) {b : Builtin} {ts : Array TypeId} {vs : List V} {v : V} {s' : St} {c : List Bool} (hq : eBuiltin P s b ts vs = some (c, v, s')) (hc : allB c) {A : Array Value} (ha : LRel ρ vs A.toList) (ty : TypeId) (cs : Array Bool) :
    NextRel own ρ s w s' ((Go.builtin b ts ty cs A).run P w) (.val v) := by
  unfold eBuiltin at hq
  split at hq
  · obtain ⟨X, _, e, h1, Y, _, rfl, h2, h3⟩ := ha
    have h3 : _ = [] := h3
    subst h3
    obtain rfl := arr2 e
    exact NextRel.ofV (eAppend_rel h hq hc h1 h2)
  · obtain ⟨X, _, e, h1, Y, _, rfl, h2, h3⟩ := ha
    have h3 : _ = [] := h3
    subst h3
    obtain rfl := arr2 e
    exact NextRel.ofV (eCopy_rel h hq hc h1 h2)
  · obtain ⟨X, _, e, h1, h3⟩ := ha
    have h3 : _ = [] := h3
    subst h3
    have e1 : A = #[X] := by cases A; simp at e; simp [e]
    subst e1
    exact NextRel.ofV (eClear_rel h hq hc h1)
  · obtain ⟨X, _, e, h1, Y, _, rfl, h2, h3⟩ := ha
    have h3 : _ = [] := h3
    subst h3
    obtain rfl := arr2 e
    exact NextRel.ofV (eDel_rel h hq h1 h2)
  · cases hq

/-- an operation that makes one block: how it runs -/
theorem mkQ_run {m : Sem Value} {k : Mk} (h : MkOK P ρ m w k) {o : Oper} {A : Act} (he : ∀ X w', m.run P w = .ok X w' → (execOp A.eval o).run P w = .ok (.value X) w') : ∃ m : Sem Value, (∀ X w', m.run P w = .ok X w' → (execOp A.eval o).run P w = .ok (.value X) w') ∧ MkOK P ρ m w k := ⟨m, he, h⟩
theorem mkQ_rel {ev : Operand → Option V} {A : Act} (hA : EvRel ρ ev A) {o : Oper} {k : Mk} (hq : mkQ P ev o.op = some k) :
    ∃ m : Sem Value, (∀ X w', m.run P w = .ok X w' → (execOp A.eval o).run P w = .ok (.value X) w') ∧ MkOK P ρ m w k := by
  unfold mkQ at hq
  split at hq
  · rename_i c m hr
    cases hc : allb c with
    | false => rw [hc] at hq; cases hq
    | true =>
    rw [hc, cond_true] at hq
    cases hq
    have hc := (allb_iff c).1 hc
    unfold mkR at hr
    split at hr <;> rename_i heq
    · exact mkQ_run (mAlloc_rel (ρ := ρ) (w := w) hr) fun X w' e => by unfold execOp; simp only [heq]; simp [e]
    · split at hr
      · rename_i hx
        exact mkQ_run (mBox_rel (P := P) (w := w) hr (hA _ _ hx)) fun X w' e => by unfold execOp; simp only [heq]; simp [e]
      · cases hr
    · split at hr
      · rename_i hx
        exact mkQ_run (mBuildSlice_rel (w := w) hr (by rw [map_toList]; exact evalParts_rel hA hx)) fun X w' e => by unfold execOp; simp only [heq]; simp [e]
      · cases hr
    · split at hr
      · rename_i h1 h2
        exact mkQ_run (mMakeSlice_rel (w := w) hr hc (hA _ _ h1) (hA _ _ h2)) fun X w' e => by unfold execOp; simp only [heq]; simp [e]
      · cases hr
    · cases hr
  · cases hq

theorem optO_rel' {ev : Operand → Option V} {A : Act} (hA : EvRel ρ ev A) {x : Option Operand} {v : Option V} (h : optO ev x = some v) : OptRel ρ v (x.map A.eval) := by
  unfold optO at h
  split at h
  · cases h; rfl
  · split at h
    · rename_i hv; cases h; exact ⟨_, rfl, hA _ _ hv⟩
    · cases h
theorem eopR_rel (h : SRel own ρ s w) {ev : Operand → Option V} {A : Act} (hA : EvRel ρ ev A) {o : Oper} {out : EOut} {s' : St} {x : Er ⊕ Es} (hx : eopR P s ev o.op = some x) (hq : outR x = some (out, s')) :
    NextRel own ρ s w s' ((execOp A.eval o).run P w) out := by
  unfold eopR at hx
  unfold execOp
  split at hx <;> rename_i heq <;> simp only [heq]
  · cases hx
    obtain ⟨c, v, h1, hc, rfl⟩ := outV_some hq
    exact NextRel.ofV (eAlloc_rel h h1 hc)
  · split at hx
    · rename_i hv
      cases hx
      obtain ⟨c, v, h1, hc, rfl⟩ := outV_some hq
      exact NextRel.ofV (eBox_rel h h1 hc (hA _ _ hv))
    · cases hx
  · split at hx
    · rename_i hv
      cases hx
      obtain ⟨c, v, h1, hc, rfl⟩ := outV_some hq
      exact NextRel.ofV (eBuildSlice_rel h h1 hc (by rw [map_toList]; exact evalParts_rel hA hv))
    · cases hx
  · split at hx
    · rename_i h1 h2
      cases hx
      obtain ⟨c, h3, hc, rfl⟩ := outS_some hq
      exact NextRel.ofU (eStore_rel h h3 hc (hA _ _ h1) (hA _ _ h2))
    · cases hx
  · split at hx
    · rename_i hv
      cases hx
      obtain ⟨c, v, h1, hc, rfl⟩ := outV_some hq
      exact NextRel.ofV (eBytes_rel h h1 (hA _ _ hv))
    · cases hx
  · split at hx
    · rename_i h1 h2
      cases hx
      obtain ⟨c, v, h3, hc, rfl⟩ := outV_some hq
      exact NextRel.ofV (eMakeSlice_rel h h3 hc (hA _ _ h1) (hA _ _ h2))
    · cases hx
  · split at hx
    · rename_i h1
      cases hx
      obtain ⟨c, v, h3, hc, rfl⟩ := outV_some hq
      exact NextRel.ofV (eMakeMap_rel h h3 hc (optO_rel' hA h1))
    · cases hx
  · split at hx
    · rename_i h1 h2 h3
      cases hx
      obtain ⟨c, h4, hc, rfl⟩ := outS_some hq
      exact NextRel.ofU (eMapSet_rel h h4 (hA _ _ h1) (hA _ _ h2) (hA _ _ h3))
    · cases hx
  · split at hx
    · rename_i h1 h2
      cases hx
      obtain ⟨c, v, h3, hc, rfl⟩ := outV_some hq
      exact NextRel.ofV (eMapAt_rel h h3 (hA _ _ h1) (hA _ _ h2))
    · cases hx
  · split at hx
    · rename_i h1 h2 h3
      cases hx
      obtain ⟨c, h4, hc, rfl⟩ := outS_some hq
      exact NextRel.ofU (eStamp_rel h h4 hc (hA _ _ h1) (hA _ _ h2) (hA _ _ h3))
    · cases hx
  · split at hx
    · rename_i hc
      split at hx
      · rename_i vs hvs
        cases hx
        obtain ⟨c, v, h3, hcc, rfl⟩ := outV_some hq
        have := evalOs_rel hA hvs
        rw [← map_toList] at this
        simp only [resolve, hc, Sem.run_bind, Sem.run_pure, Result.andThen_ok, invoke]
        exact eBuiltin_rel h h3 hcc this o.type _
      · cases hx
    · cases hx
  · cases hx

theorem eopC_rel (h : SRel own ρ s w) {ev : Operand → Option V} {A : Act} (hA : EvRel ρ ev A) {o : Oper} {out : EOut} {s' : St} (hq : eopC P s ev o.op = some (out, s')) :
    NextRel own ρ s w s' ((execOp A.eval o).run P w) out := by
  unfold eopC at hq
  unfold execOp
  split at hq <;> rename_i heq <;> simp only [heq]
  · split at hq
    · rename_i hx
      cases hq
      have := hA _ _ hx
      have hv := this
      simp only [VRel] at this
      obtain ⟨X, e, _⟩ := this
      refine ⟨rfl, .iface _ X, ?_, by rw [← e]; exact hv⟩
      simp [Instr.panic, e]
    · cases hq
  · rename_i c
    split at hq
    · rename_i f hc
      split at hq
      · rename_i g first cap vs hf hvs
        cases hb : bodyOK P g with
        | false => simp [hb] at hq
        | true =>
        simp only [hb, cond_true, Option.some.injEq, Prod.mk.injEq] at hq
        obtain ⟨rfl, rfl⟩ := hq
        have e1 := hA _ _ hf
        simp only [VRel] at e1
        obtain ⟨A1, C1, e1, e2, e3⟩ := e1
        have e4 := evalOs_rel hA hvs
        rw [← map_toList] at e4
        refine ⟨rfl, A1 ++ (c.args.map A.eval) ++ C1, ?_, ?_⟩
        · simp only [resolve, hc, Sem.run_bind, e1, Deferred.ofValue, Sem.run_pure, Result.andThen_ok, invoke]
          exact run_callFunc hb _
        · rw [lapp_eq, lapp_eq]
          simp only [Array.toList_append]
          exact (e2.append e4).append e3
      · rename_i l vs hf hvs
        split at hq
        · rename_i r hg
          simp only [llen_eq] at hq
          cases hb : Nat.beq vs.length r.params.length with
          | false => simp [hb] at hq
          | true =>
          simp only [hb, cond_true, Option.some.injEq, Prod.mk.injEq] at hq
          obtain ⟨rfl, rfl⟩ := hq
          have e1 := hA _ _ hf
          simp only [VRel] at e1
          obtain ⟨B, O, S, hB, e1⟩ := e1
          have e4 := evalOs_rel hA hvs
          rw [← map_toList] at e4
          obtain ⟨x, hx, _, L, D, l1, l2, l3, l4, l5, l6⟩ := h.obj' hg hB
          rw [hB] at hx; cases hx
          have hsz : (c.args.map A.eval).size = L.params.size := by
            have a1 := e4.length
            have a2 : vs.length = r.params.length := by simpa using hb
            have a3 : L.params.toList.length = r.params.length := by rw [l5]
            simp only [Array.length_toList] at a1 a3
            omega
          refine ⟨rfl, ⟨B, O, S⟩, L, c.args.map A.eval, hB, l1, e4, hsz, ?_⟩
          simp only [resolve, hc, Sem.run_bind, e1, Deferred.ofValue, Sem.run_pure, Result.andThen_ok, invoke]
          have hy := run_yield (P := P) (w := w) l1 hsz
          simpa using hy
        · cases hq
      · cases hq
    · cases hq
  · cases hq
theorem eop_rel (h : SRel own ρ s w) {ev : Operand → Option V} {A : Act} (hA : EvRel ρ ev A) {o : Oper} {out : EOut} {s' : St} (hq : eop P s ev o.op = some (out, s')) :
    NextRel own ρ s w s' ((execOp A.eval o).run P w) out := by
  unfold eop at hq
  split at hq
  · rename_i x hx
    exact eopR_rel h hA hx hq
  · exact eopC_rel h hA hq

theorem opE_rel (h : SRel own ρ s w) {ev : Operand → Option V} {A : Act} (hA : EvRel ρ ev A) {o : Oper} {out : EOut} {s' : St} (hq : opE P s ev o.op = some (out, s')) :
    NextRel own ρ s w s' ((execOp A.eval o).run P w) out := by
  unfold opE at hq
  split at hq
  · rename_i r hr
    split at hq
    · rename_i v hv
      cases hq
      obtain ⟨c, e, hc⟩ := chkQ_some hv
      cases e
      obtain ⟨X, h1, h2⟩ := qop_rel h hA hr hc
      exact ⟨ρ, X, w, ρ.le_refl, h1, h2, h, Fr.refl _ _⟩
    · cases hq
  · exact eop_rel h hA hq

theorem opE_defer {ev : Operand → Option V} {c : Call} : opE P s ev (.defer c) = none := rfl
end
end Go.Sym
