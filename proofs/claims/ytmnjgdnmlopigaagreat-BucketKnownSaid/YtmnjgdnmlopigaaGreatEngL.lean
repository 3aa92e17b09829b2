/-
  The evaluator's operations are the model's: one operation, operations in a row.
-/
import Derived.Test.YtmnjgdnmlopigaaGreatEngK
namespace Go.Eng
open Go.RowKit (Below)
set_option linter.unusedSimpArgs false
set_option linter.unusedVariables false

def DRel (ρ : Env) : List EDef → List Deferred → Prop
  | [], D => D = []
  | .mark r :: l, D => ∃ x Y, ρ r = some x ∧ D = { target := .collected x.B, args := #[] } :: Y ∧ DRel ρ l Y
  | .call f a c :: l, D => ∃ (A C : Array Value) (Y : List Deferred), D = { target := .fn (.func f) C, args := A } :: Y ∧ LRel ρ a A.toList ∧ LRel ρ c C.toList ∧ DRel ρ l Y
theorem DRel.up {ρ ρ' : Env} (h : ρ.sub ρ') : ∀ {l : List EDef} {D : List Deferred}, DRel ρ l D → DRel ρ' l D
  | [], _, r => r
  | .mark _ :: _, _, r => by obtain ⟨x, Y, h1, h2, h3⟩ := r; exact ⟨x, Y, h _ _ h1, h2, h3.up h⟩
  | .call .. :: _, _, r => by obtain ⟨A, C, Y, h1, h2, h3, h4⟩ := r; exact ⟨A, C, Y, h1, LRel.up h _ _ h2, LRel.up h _ _ h3, h4.up h⟩
theorem DRel.mono {ρ ρ' : Env} (h : ρ.le ρ') {l : List EDef} {D : List Deferred} (r : DRel ρ l D) : DRel ρ' l D := DRel.up h.sub r

def XRel (ρ : Env) : EExit → Exit → Prop
  | .normal, E => E = .normal
  | .exit id, E => E = .exit id
  | .ret, E => E = .ret
  | .pan v, E => ∃ X, E = .panic [{ v := X, recovered := false }] ∧ VRel ρ v X
def NRel (ρ : Env) : EEnd → Ending → Prop
  | .ret v, E => ∃ X, E = .returned X ∧ VRel ρ v X
  | .pan v, E => ∃ X, E = .panicked [{ v := X, recovered := false }] ∧ VRel ρ v X

def RF (round : Option Nat) : Fence := { Fence.wide with round := round }
theorem RF_fn (r : Option Nat) (f : FuncId) : (RF r).fn f := trivial
theorem RF_depth (r : Option Nat) : (RF r).depth = none := rfl

def Post (base : Nat) (ρ : Env) (w : World) (e : EEnd) (s' : St) : Ending → World → Prop :=
  fun E w' => ∃ ρ', ρ.le ρ' ∧ NRel ρ' e E ∧ SRel base ρ' s' w' ∧ Below base w w'
/-- the frame behind: of one that panics some slots may not be known -/
def FX (ρ : Env) (e : EExit) (f : Frm) (A : Array Value) : Prop :=
  match e with
  | .pan _ => FRelA ρ f A
  | _ => FRel ρ f A
theorem FRel.toX {ρ : Env} {f : Frm} {A : Array Value} (r : FRel ρ f A) : ∀ e, FX ρ e f A
  | .pan _ => r.toA
  | .normal => r
  | .exit _ => r
  | .ret => r
def CPost (base : Nat) (ρ : Env) (w : World) (e : EExit) (c' : Cfg) : Exit → Act → World → Prop :=
  fun E A' w' => ∃ ρ', ρ.le ρ' ∧ XRel ρ' e E ∧ FX ρ' e c'.tmps A'.tmps ∧ DRel ρ' c'.defers A'.defers ∧ SRel base ρ' c'.st w' ∧ Below base w w'

/-- what the calls that an operation makes come to -/
def SelfOK (P : Program) (self : ESelf) : Prop := ∀ t s e s', self t s = some (e, s') → ∀ base ρ w, SRel base ρ s w → ∀ n : Nat,
  match t with
  | .fn f args => ∀ A : Array Value, LRel ρ args A.toList → CallsIn Fence.wide n P f A w (Post base ρ w e s')
  | .round l args => ∀ (x : Blk) (L : Loop) (A : Array Value), ρ l = some x → w.heap[x.B]? = some (.loop L) → LRel ρ args A.toList → A.size = L.params.size →
      RoundIn Fence.wide n P x.B L.fn ((L.params.zip A).foldl (fun tmps (t, a) => tmps.setIfInBounds t a) L.tmps) L.assign L.body w (Post base ρ w e s')

def NextRel (base : Nat) (ρ : Env) (s : St) (w : World) (s' : St) (r : Result Next) : EOut → Prop
  | .val v => ∃ ρ' X w', ρ.le ρ' ∧ r = .ok (.value X) w' ∧ VRel ρ' v X ∧ SRel base ρ' s' w' ∧ Below base w w'
  | .skip => ∃ w', r = .ok .skip w' ∧ SRel base ρ s' w' ∧ Below base w w'
  | .pan v => s' = s ∧ ∃ X, r = .halt (.panic X) w ∧ VRel ρ v X
  | .enter (.fn f args) => s' = s ∧ ∃ A, r = .ok (.enter f A) w ∧ LRel ρ args A.toList
  | .enter (.round l args) => s' = s ∧ ∃ (x : Blk) (L : Loop) (A : Array Value), ρ l = some x ∧ w.heap[x.B]? = some (.loop L) ∧ LRel ρ args A.toList ∧ A.size = L.params.size ∧
      r = .ok (.round x.B L.fn ((L.params.zip A).foldl (fun tmps (t, a) => tmps.setIfInBounds t a) L.tmps) L.assign L.body) w

section
variable {P : Program} {base : Nat} {ρ : Env} {s : St} {w : World}

theorem FRel.get {f : Frm} {A : Array Value} (h : FRel ρ f A) (k : Nat) : VRel ρ (f.get k) (A.getD k undef) := by
  obtain ⟨h1, d, h2, h3, h4⟩ := h
  rw [Frm.get_eq, blt_iff, Array.getD_eq_getD_getElem?]
  by_cases hk : k < f.n
  · rw [decide_eq_true hk]
    have hk' : k < A.size := by omega
    have := h4 k A[k] (Array.getElem?_eq_getElem hk')
    rw [Array.getElem?_eq_getElem hk']
    exact this
  · rw [decide_eq_false hk]
    have hk' : A.size ≤ k := by omega
    rw [Array.getElem?_eq_none hk']
    show VRel ρ .undef (.tuple #[])
    simp only [VRel]

theorem evF_rel {f : Frm} {A : Act} (h : FRel ρ f A.tmps) : EvRel ρ (evF f) A := by
  intro x v hv
  cases x with
  | tmp t =>
    have hv : some (f.get t) = some v := hv
    cases hv
    exact h.get t
  | const c => exact ofVal_rel hv
  | global g => cases hv
  | func g =>
    have hv : some (V.fn g [] []) = some v := hv
    cases hv
    simp only [VRel, Act.eval]
    exact ⟨#[], #[], rfl, rfl, rfl⟩

theorem FRel.set {f : Frm} {A : Array Value} (h : FRel ρ f A) {v : V} {X : Value} (hv : VRel ρ v X) (k : Nat) : FRel ρ (putE f (some k) v) (A.setIfInBounds k X) := by
  obtain ⟨h1, d, h2, h3, h4⟩ := h
  rw [putE_some, blt_iff]
  by_cases hk : k < f.n
  · rw [decide_eq_true hk]
    refine ⟨by simpa using h1, d, B.set_full _ _ _ _ h2, h3, fun i Y hi => ?_⟩
    show VRel ρ ((B.set v f.t k).get i) Y
    have hi' : i < A.size := by
      have := (Array.getElem?_eq_some_iff.1 hi).1
      simpa using this
    rw [B.get_set v f.t d k i h2 (by omega) (by omega)]
    rw [Array.getElem?_setIfInBounds] at hi
    by_cases e : k = i
    · subst e
      simp only [if_true, hi'] at hi
      cases hi
      simpa using hv
    · rw [if_neg e] at hi
      rw [if_neg (fun e' => e e'.symm)]
      exact h4 i Y hi
  · rw [decide_eq_false hk]
    have : A.setIfInBounds k X = A := by
      apply Array.ext_getElem?
      intro i
      rw [Array.getElem?_setIfInBounds]
      split
      · rename_i e; subst e
        rw [if_neg (by omega), Array.getElem?_eq_none (by omega)]
      · rfl
    rw [this]
    exact ⟨h1, d, h2, h3, h4⟩
theorem putE_rel {f : Frm} {A : Act} (h : FRel ρ f A.tmps) {v : V} {X : Value} (hv : VRel ρ v X) (d : Option Tmp) : FRel ρ (putE f d v) (A.put d X).tmps := by
  cases d with
  | none => exact h
  | some k => exact h.set hv k
theorem put_defers (A : Act) (d : Option Tmp) (X : Value) : (A.put d X).defers = A.defers := by cases d <;> rfl

theorem wanted_rel {f : Frm} {A : Act} (h : FRel ρ f A.tmps) (ops : Array Oper) (o : Oper) : wantedE (guardOf ops o) f = Region.wanted o (yielded ops A.tmps) := by
  unfold guardOf Region.wanted
  cases hg : o.guard with
  | none => rfl
  | some p =>
    obtain ⟨j, want⟩ := p
    simp only
    cases ho : ops[j]? with
    | none => simp [wantedE, yielded, ho]
    | some o' =>
      simp only
      cases hd : o'.dst with
      | none => simp [wantedE, yielded, ho, hd]
      | some d =>
        obtain ⟨h1, dd, h2, h3, h4⟩ := h
        simp only [wantedE, yielded, ho, hd, Option.bind_some, Frm.get_eq, blt_iff]
        by_cases hk : d < f.n
        · rw [decide_eq_true hk]
          have hk' : d < A.tmps.size := h1 ▸ hk
          have hv := h4 d A.tmps[d] (Array.getElem?_eq_getElem hk')
          rw [Array.getElem?_eq_getElem hk']
          simp only [cond_true]
          generalize A.tmps[d] = X at hv
          generalize f.t.get d = v at hv
          cases v <;> simp only [VRel] at hv
          case bool b => subst hv; cases want <;> cases b <;> rfl
          all_goals first
            | (subst hv; rfl)
            | (obtain ⟨_, _, _, _, rfl⟩ := hv; rfl)
            | (obtain ⟨_, _, _, _, _, rfl, _⟩ := hv; rfl)
            | (obtain ⟨_, _, rfl⟩ := hv; rfl)
            | (obtain ⟨_, _, rfl, _⟩ := hv; rfl)
            | (obtain ⟨_, rfl, _⟩ := hv; rfl)
        · rw [decide_eq_false hk]
          have hk' : A.tmps.size ≤ d := Nat.le_of_not_lt (h1 ▸ hk)
          rw [Array.getElem?_eq_none hk']
          rfl

theorem outV_some {x : Option (V × St)} {o : EOut} {s' : St} (h : outV x = some (o, s')) : ∃ v, x = some (v, s') ∧ o = .val v := by
  cases x with
  | none => cases h
  | some p => obtain ⟨v, t⟩ := p; cases h; exact ⟨v, rfl, rfl⟩
theorem outS_some {x : Option St} {o : EOut} {s' : St} (h : outS x = some (o, s')) : x = some s' ∧ o = .skip := by
  cases x with
  | none => cases h
  | some p => cases h; exact ⟨rfl, rfl⟩

theorem NextRel.ofV {m : Sem Value} {v : V} {s' : St} (h : OKv P base ρ m w v s') : NextRel base ρ s w s' ((do pure (.value (← m)) : Sem Next).run P w) (.val v) := by
  obtain ⟨ρ', X, w', h1, h2, h3⟩ := h
  exact ⟨ρ', X, w', h1, by simp [h2], h3⟩
theorem NextRel.ofU {m : Sem Unit} {s' : St} (h : ∃ w', m.run P w = .ok () w' ∧ SRel base ρ s' w' ∧ Below base w w') : NextRel base ρ s w s' ((do m; pure .skip : Sem Next).run P w) .skip := by
  obtain ⟨w', h1, h2, h3⟩ := h
  exact ⟨w', by simp [h1], h2, h3⟩

theorem bodyOK_spec {f : FuncId} (h : bodyOK P f = true) : ∃ fn, P.funcs[f]? = some fn ∧ (fn.name == "runtime.NumGoroutine") = false ∧ fn.body.isNone = false := by
  unfold bodyOK at h
  split at h
  · rename_i fn hf
    simp only [Bool.and_eq_true, Bool.not_eq_true'] at h
    refine ⟨fn, hf, h.1, ?_⟩
    cases hb : fn.body with
    | none => rw [hb] at h; cases h.2
    | some c => rfl
  · cases h

theorem run_callFunc {f : FuncId} (h : bodyOK P f = true) (A : Array Value) : (callFunc f A).run P w = .ok (.enter f A) w := by
  obtain ⟨fn, h1, h2, h3⟩ := bodyOK_spec h
  simp only [callFunc, Sem.run_bind, run_program, Result.andThen_ok, h1, h2, h3, Bool.false_eq_true, if_false, Sem.run_pure]

theorem arr2 {A : Array Value} {X Y : Value} (h : A.toList = [X, Y]) : A = #[X, Y] := by cases A; simp at h; simp [h]

theorem eBuiltin_rel (h : SRel base ρ s w) {b : Builtin} {ts : Array TypeId} {vs : List V} {v : V} {s' : St} (hq : eBuiltin P s b ts vs = some (v, s')) {A : Array Value} (ha : LRel ρ vs A.toList) (ty : TypeId) (cs : Array Bool) :
    NextRel base ρ s w s' ((Go.builtin b ts ty cs A).run P w) (.val v) := by
  unfold eBuiltin at hq
  split at hq
  · obtain ⟨X, _, e, h1, Y, _, rfl, h2, h3⟩ := ha
    have h3 : _ = [] := h3
    subst h3
    obtain rfl := arr2 e
    exact NextRel.ofV (eAppend_rel h hq h1 h2)
  · obtain ⟨X, _, e, h1, Y, _, rfl, h2, h3⟩ := ha
    have h3 : _ = [] := h3
    subst h3
    obtain rfl := arr2 e
    exact NextRel.ofV (eCopy_rel h hq h1 h2)
  · obtain ⟨X, _, e, h1, Y, _, rfl, h2, h3⟩ := ha
    have h3 : _ = [] := h3
    subst h3
    obtain rfl := arr2 e
    exact NextRel.ofV (eDelete_rel h hq h1 h2)
  · obtain ⟨X, _, e, h1, h3⟩ := ha
    have h3 : _ = [] := h3
    subst h3
    obtain rfl := arr1 e
    exact NextRel.ofV (eClear_rel h hq h1)
  · cases hq

/-- an operation that makes one block: how it runs -/
theorem MkOK.next {m : Sem Value} {k : Mk} (h : MkOK P ρ m w k) : MkOK P ρ m w k ∧ ∀ X w', m.run P w = .ok X w' → (do pure (.value (← m)) : Sem Next).run P w = .ok (.value X) w' :=
  ⟨h, fun X w' e => by simp [e]⟩
theorem mkQ_rel {ev : Operand → Option V} {A : Act} (hA : EvRel ρ ev A) {o : Oper} {k : Mk} (hq : mkQ P ev o.op = some k) :
    ∃ m : Sem Value, (∀ X w', m.run P w = .ok X w' → (execOp A.eval o).run P w = .ok (.value X) w') ∧ MkOK P ρ m w k := by
  unfold mkQ at hq
  unfold execOp
  split at hq <;> rename_i heq <;> simp only [heq]
  · have := (mAlloc_rel (ρ := ρ) (w := w) hq).next; exact ⟨_, this.2, this.1⟩
  · split at hq
    · rename_i hx
      have := (mBox_rel (P := P) (w := w) hq (hA _ _ hx)).next; exact ⟨_, this.2, this.1⟩
    · cases hq
  · split at hq
    · rename_i hx
      have := (mBuildSlice_rel (w := w) hq (by rw [map_toList]; exact evalParts_rel hA hx)).next; exact ⟨_, this.2, this.1⟩
    · cases hq
  · split at hq
    · rename_i h1 h2
      have := (mMakeSlice_rel (w := w) hq (hA _ _ h1) (hA _ _ h2)).next; exact ⟨_, this.2, this.1⟩
    · cases hq
  · cases hq

theorem eop_rel (h : SRel base ρ s w) {ev : Operand → Option V} {A : Act} (hA : EvRel ρ ev A) {o : Oper} {out : EOut} {s' : St} (hq : eop P s ev o.op = some (out, s')) :
    NextRel base ρ s w s' ((execOp A.eval o).run P w) out := by
  unfold eop at hq
  unfold execOp
  split at hq <;> rename_i heq <;> simp only [heq]
  · obtain ⟨v, h1, rfl⟩ := outV_some hq
    exact NextRel.ofV (eAlloc_rel h h1)
  · split at hq
    · rename_i hx
      obtain ⟨v, h1, rfl⟩ := outV_some hq
      exact NextRel.ofV (eBox_rel h h1 (hA _ _ hx))
    · cases hq
  · split at hq
    · rename_i hx
      obtain ⟨v, h1, rfl⟩ := outV_some hq
      exact NextRel.ofV (eBuildSlice_rel h h1 (by rw [map_toList]; exact evalParts_rel hA hx))
    · cases hq
  · split at hq
    · rename_i h1 h2
      obtain ⟨h3, rfl⟩ := outS_some hq
      exact NextRel.ofU (eStore_rel h h3 (hA _ _ h1) (hA _ _ h2))
    · cases hq
  · split at hq
    · rename_i hx
      obtain ⟨v, h1, rfl⟩ := outV_some hq
      exact NextRel.ofV (eBytes_rel h h1 (hA _ _ hx))
    · cases hq
  · split at hq
    · rename_i hx
      obtain ⟨v, h1, rfl⟩ := outV_some hq
      exact NextRel.ofV (eMakeMap_rel h h1 (optO_rel hA hx))
    · cases hq
  · split at hq
    · rename_i h1 h2
      obtain ⟨v, h3, rfl⟩ := outV_some hq
      exact NextRel.ofV (eMakeSlice_rel h h3 (hA _ _ h1) (hA _ _ h2))
    · cases hq
  · split at hq
    · rename_i h1 h2 h3
      obtain ⟨h4, rfl⟩ := outS_some hq
      exact NextRel.ofU (eMapUpdate_rel h h4 (hA _ _ h1) (hA _ _ h2) (hA _ _ h3))
    · cases hq
  · split at hq
    · rename_i h1 h2 h3
      obtain ⟨h4, rfl⟩ := outS_some hq
      exact NextRel.ofU (eMapUpdate_rel h h4 (hA _ _ h1) (hA _ _ h2) (hA _ _ h3))
    · cases hq
  · split at hq
    · rename_i h1 h2
      obtain ⟨v, h3, rfl⟩ := outV_some hq
      exact NextRel.ofV (eMapEntry_rel h h3 (hA _ _ h1) (hA _ _ h2))
    · cases hq
  · split at hq
    · rename_i h1 h2 h3
      obtain ⟨h4, rfl⟩ := outS_some hq
      exact NextRel.ofU (eEntryStore_rel h h4 (hA _ _ h1) (hA _ _ h2) (hA _ _ h3))
    · cases hq
  · split at hq
    · rename_i hx
      cases hq
      have := hA _ _ hx
      have hv := this
      simp only [VRel] at this
      obtain ⟨X, e, _⟩ := this
      refine ⟨rfl, .iface _ X, ?_, by rw [← e]; exact hv⟩
      simp [Instr.panic, e]
    · cases hq
  · split at hq
    · rename_i hx
      obtain ⟨v, h1, rfl⟩ := outV_some hq
      exact NextRel.ofV (eRange_rel h h1 (hA _ _ hx))
    · cases hq
  · split at hq
    · rename_i hx
      obtain ⟨v, h1, rfl⟩ := outV_some hq
      exact NextRel.ofV (eNext_rel h h1 (hA _ _ hx) _)
    · cases hq
  · rename_i c
    split at hq
    · rename_i hc
      split at hq
      · rename_i vs hvs
        obtain ⟨v, h3, rfl⟩ := outV_some hq
        have := evalOs_rel hA hvs
        rw [← map_toList] at this
        simp only [resolve, hc, Sem.run_bind, Sem.run_pure, Result.andThen_ok, invoke]
        exact eBuiltin_rel h h3 this o.type _
      · cases hq
    · rename_i f hc
      split at hq
      · rename_i g first cap vs hf hvs
        cases hb : bodyOK P g with
        | false => simp [hb] at hq
        | true =>
        simp only [hb, cond_true, Option.some.injEq, Prod.mk.injEq] at hq
        obtain ⟨rfl, rfl⟩ := hq
        have e1 := hA _ _ hf
        simp only [VRel] at e1
        obtain ⟨A1, C1, e1, e2, e3⟩ := e1
        have e4 := evalOs_rel hA hvs
        rw [← map_toList] at e4
        refine ⟨rfl, A1 ++ (c.args.map A.eval) ++ C1, ?_, ?_⟩
        · simp only [resolve, hc, Sem.run_bind, e1, Deferred.ofValue, Sem.run_pure, Result.andThen_ok, invoke]
          exact run_callFunc hb _
        · rw [lapp_eq, lapp_eq]
          simp only [Array.toList_append]
          exact (e2.append e4).append e3
      · rename_i l vs hf hvs
        split at hq
        · rename_i r hg
          simp only [llen_eq] at hq
          cases hb : Nat.beq vs.length r.params.length with
          | false => simp [hb] at hq
          | true =>
          simp only [hb, cond_true, Option.some.injEq, Prod.mk.injEq] at hq
          obtain ⟨rfl, rfl⟩ := hq
          have e1 := hA _ _ hf
          simp only [VRel] at e1
          obtain ⟨B, O, S, hB, e1⟩ := e1
          have e4 := evalOs_rel hA hvs
          rw [← map_toList] at e4
          obtain ⟨x, hx, _, L, D, l1, l2, l3, l4, l5, l6⟩ := h.obj' hg hB
          rw [hB] at hx; cases hx
          have hsz : (c.args.map A.eval).size = L.params.size := by
            have a1 := e4.length
            have a2 : vs.length = r.params.length := by simpa using hb
            have a3 : L.params.toList.length = r.params.length := by rw [l5]
            simp only [Array.length_toList] at a1 a3
            omega
          refine ⟨rfl, ⟨B, O, S⟩, L, c.args.map A.eval, hB, l1, e4, hsz, ?_⟩
          simp only [resolve, hc, Sem.run_bind, e1, Deferred.ofValue, Sem.run_pure, Result.andThen_ok, invoke]
          have hy := run_yield (P := P) (w := w) l1 hsz
          simpa using hy
        · cases hq
      · cases hq
    · cases hq
  · cases hq

theorem opE_rel (h : SRel base ρ s w) {ev : Operand → Option V} {A : Act} (hA : EvRel ρ ev A) {o : Oper} {out : EOut} {s' : St} (hq : opE P s ev o.op = some (out, s')) :
    NextRel base ρ s w s' ((execOp A.eval o).run P w) out := by
  unfold opE at hq
  split at hq
  · rename_i v hv
    cases hq
    obtain ⟨X, h1, h2⟩ := qop_rel h hA hv
    exact ⟨ρ, X, w, ρ.le_refl, h1, h2, h, Below.refl _ _⟩
  · exact eop_rel h hA hq

theorem opE_defer {ev : Operand → Option V} {c : Call} : opE P s ev (.defer c) = none := rfl

/-- the compiled operation is the operation -/
theorem compOp_eq (op : Op) (s : St) (ev : Operand → Option V) : runOpF (compOp P op) s ev = opE P s ev op := by
  cases op
  case move x => simp only [compOp, runOpF, opE, qop, eop]; cases ev x <;> rfl
  case assign x => simp only [compOp, runOpF, opE, qop, eop]; cases ev x <;> rfl
  case pick c a b =>
    simp only [compOp, runOpF, opE, qop, eop, cPick]
    cases ev c with
    | none => rfl
    | some x =>
      cases x <;> first | rfl | skip
      rename_i bb
      cases bb
      · simp only; cases ev b <;> rfl
      · simp only; cases ev a <;> rfl
  case load t x =>
    simp only [compOp, runOpF, opE, qop, eop, cLoad]
    cases ev x with
    | none => rfl
    | some a => simp only; cases qLoad P s t a <;> rfl
  case store t x y =>
    simp only [compOp, runOpF, opE, qop, eop, cStore]
    cases ev x with
    | none => rfl
    | some a => cases ev y <;> rfl
  case binOp op t x y yt =>
    have key : (match ev x, ev y with | some a, some b => toOut s (qBin P s op t a b) | _, _ => none) = opE P s ev (.binOp op t x y yt) := by
      simp only [opE, qop, eop]
      cases ev x with
      | none => rfl
      | some a => cases ev y with
        | none => rfl
        | some b => simp only; cases qBin P s op t a b <;> rfl
    rw [← key]
    simp only [compOp]
    cases hs : isShift op with
    | true =>
      simp only [cond_true, runOpF, cShift]
      cases ev x with
      | none => rfl
      | some a => cases ev y <;> rfl
    | false =>
      simp only [cond_false, runOpF, cBin]
      cases ev x with
      | none => rfl
      | some a => cases ev y with
        | none => rfl
        | some b =>
          simp only
          congr 1
          unfold cBinI
          split
          · split
            · rename_i k x1 k' y1
              rw [binG_eq]
              cases op <;> first | rfl | cases hs
            · rfl
          · rfl
  case unOp op t x =>
    simp only [compOp, runOpF, opE, qop, eop, cUn]
    cases ev x with
    | none => rfl
    | some a => simp only; cases qUn op a <;> rfl
  case convert src dst x =>
    simp only [compOp, runOpF, opE, qop, eop, cConv]
    cases ev x with
    | none => rfl
    | some a => simp only
  case fieldAddr t x f =>
    simp only [compOp, runOpF, opE, qop, eop, cFieldAddr]
    cases ev x with
    | none => rfl
    | some a => simp only; cases qFieldAddr P t a f <;> rfl
  case indexAddr t x y =>
    simp only [compOp, runOpF, opE, qop, eop, cIndexAddr]
    cases ev x with
    | none => rfl
    | some a => cases ev y with
      | none => rfl
      | some b => simp only; cases qIndexAddr P t a b <;> rfl
  case index t x y =>
    simp only [compOp, runOpF, opE, qop, eop, cIndex]
    cases ev x with
    | none => rfl
    | some a => cases ev y with
      | none => rfl
      | some b => simp only; cases qIndex P t a b <;> rfl
  all_goals rfl
end
end Go.Eng
