/-
  All quiet operations in one statement.
-/
import Derived.Test.YtmnjgdnmlopigaaGreatEngF
namespace Go.Eng
set_option linter.unusedSimpArgs false
set_option linter.unusedVariables false

section
variable {P : Program} {base : Nat} {ρ : Env} {s : St} {w : World}

theorem arr1 {A : Array Value} {X : Value} (h : A.toList = [X]) : A = #[X] := by cases A; simp at h; simp [h]

theorem qBuiltin_rel (h : SRel base ρ s w) {b : Builtin} {ts : Array TypeId} {vs : List V} {v : V} (hq : qBuiltin P s b ts vs = some v) {A : Array Value} (ha : LRel ρ vs A.toList) (ty : TypeId) (cs : Array Bool) :
    ∃ X, (Go.builtin b ts ty cs A).run P w = .ok (.value X) w ∧ VRel ρ v X := by
  unfold qBuiltin at hq
  split at hq
  · split at hq
    · rename_i t a ht
      obtain ⟨X, Y, e, h1, h2⟩ := ha
      have h2 : Y = [] := h2
      subst h2
      obtain rfl := arr1 e
      obtain ⟨Z, e1, e2⟩ := qLen_rel h (ty := ty) hq h1 ht
      exact ⟨Z, by simp [Go.builtin, e1], e2⟩
    · cases hq
  · split at hq
    · rename_i t a ht
      obtain ⟨X, Y, e, h1, h2⟩ := ha
      have h2 : Y = [] := h2
      subst h2
      obtain rfl := arr1 e
      obtain ⟨Z, e1, e2⟩ := qCap_rel (w := w) (ty := ty) hq h1 ht
      exact ⟨Z, by simp [Go.builtin, e1], e2⟩
    · cases hq
  · split at hq
    · rename_i k x l
      obtain ⟨X, Y, e, h1, h2⟩ := ha
      simp only [VRel] at h1; subst h1
      obtain ⟨Z, e1, e2⟩ := minMax_rel (P := P) (w := w) l _ _ v hq h2
      exact ⟨Z, by simp [Go.builtin, Builtin.min_, e, e1], e2⟩
    · cases hq
  · split at hq
    · rename_i k x l
      obtain ⟨X, Y, e, h1, h2⟩ := ha
      simp only [VRel] at h1; subst h1
      obtain ⟨Z, e1, e2⟩ := maxMin_rel (P := P) (w := w) l _ _ v hq h2
      exact ⟨Z, by simp [Go.builtin, Builtin.max_, e, e1], e2⟩
    · cases hq
  · cases hq

theorem map_toList {α β : Type} (a : Array α) (f : α → β) : (a.map f).toList = a.toList.map f := by simp

/-- what the evaluator answers at a quiet operation the model answers, the world as it was -/
theorem qop_rel (h : SRel base ρ s w) {ev : Operand → Option V} {A : Act} (hA : EvRel ρ ev A) {o : Oper} {v : V} (hq : qop P s ev o.op = some v) :
    ∃ X, (execOp A.eval o).run P w = .ok (.value X) w ∧ VRel ρ v X := by
  unfold qop at hq
  unfold execOp
  split at hq <;> rename_i heq <;> simp only [heq]
  · exact ⟨_, rfl, evalO_rel hA hq⟩
  · exact ⟨_, rfl, evalO_rel hA hq⟩
  · split at hq
    · rename_i hc
      have := evalO_rel hA hc
      simp only [VRel] at this
      exact ⟨_, by simp [this, asBool], evalO_rel hA hq⟩
    · rename_i hc
      have := evalO_rel hA hc
      simp only [VRel] at this
      exact ⟨_, by simp [this, asBool], evalO_rel hA hq⟩
    · cases hq
  · split at hq
    · rename_i hv
      obtain ⟨X, h1, h2⟩ := qLoad_rel h hq (evalO_rel hA hv)
      exact ⟨X, by simp [h1], h2⟩
    · cases hq
  · split at hq
    · rename_i hv
      cases hq
      have := evalO_rel hA hv
      refine ⟨_, ?_, this⟩
      simp only [VRel] at this
      obtain ⟨B, O, S, _, e⟩ := this
      simp [e]
    · rename_i hv
      cases hq
      have := evalO_rel hA hv
      refine ⟨_, ?_, this⟩
      simp only [VRel] at this
      obtain ⟨B, O, e, _⟩ := this
      simp [e]
    · rename_i hv
      cases hq
      have := evalO_rel hA hv
      refine ⟨_, ?_, this⟩
      simp only [VRel] at this
      obtain ⟨B, O, S, _, e⟩ := this
      simp [e]
    · cases hq
  · split at hq
    · rename_i x y _ _ _ a b hx hy
      obtain ⟨X, h1, h2⟩ := qBin_rel h hq (evalO_rel hA hx) (evalO_rel hA hy) x y
      refine ⟨X, ?_, h2⟩
      rw [Sem.run_bind, h1]
      rfl
    · cases hq
  · split at hq
    · rename_i hv
      obtain ⟨X, h1, h2⟩ := qUn_rel (P := P) (w := w) hq (evalO_rel hA hv)
      exact ⟨X, by simp [h1], h2⟩
    · cases hq
  · split at hq
    · rename_i hv
      obtain ⟨X, h1, h2⟩ := qConv_rel h hq (evalO_rel hA hv)
      exact ⟨X, by simp [h1], h2⟩
    · cases hq
  · split at hq
    · cases hq
    · rename_i t x _ d hne hd
      split at hq
      · rename_i hv
        cases hq
        refine ⟨.iface _ _, ?_, by simp only [VRel]; exact ⟨_, rfl, evalO_rel hA hv⟩⟩
        have : (Instr.makeInterface t (A.eval x)).run P w = .ok (.iface t (A.eval x)) w := by
          simp only [Instr.makeInterface, Sem.run_bind, run_und hd, Result.andThen_ok]
          cases d <;> first | rfl | exact absurd rfl (hne _)
        simp [this]
      · cases hq
    · cases hq
  · split at hq
    · split at hq
      · rename_i h1 h2
        cases hq
        refine ⟨_, by simp [Instr.makeFunc]; rfl, ?_⟩
        simp only [VRel]
        exact ⟨_, _, rfl, by rw [map_toList]; exact evalOs_rel hA h1, by rw [map_toList]; exact evalOs_rel hA h2⟩
      · cases hq
    · cases hq
  · split at hq
    · rename_i h1 h2 h3 h4
      obtain ⟨X, e1, e2⟩ := qSlice_rel h hq (evalO_rel hA h1) (optO_rel hA h2) (optO_rel hA h3) (optO_rel hA h4)
      exact ⟨X, by simp [e1], e2⟩
    · cases hq
  · split at hq
    · rename_i hv
      obtain ⟨X, h1, h2⟩ := qFieldAddr_rel (w := w) hq (evalO_rel hA hv)
      exact ⟨X, by simp [h1], h2⟩
    · cases hq
  · split at hq
    · rename_i hv
      obtain ⟨X, h1, h2⟩ := qField_rel (w := w) hq (evalO_rel hA hv)
      exact ⟨X, by simp [h1], h2⟩
    · cases hq
  · split at hq
    · rename_i hx hy
      obtain ⟨X, h1, h2⟩ := qIndexAddr_rel (w := w) hq (evalO_rel hA hx) (evalO_rel hA hy)
      exact ⟨X, by simp [h1], h2⟩
    · cases hq
  · split at hq
    · rename_i hx hy
      obtain ⟨X, h1, h2⟩ := qIndex_rel (w := w) hq (evalO_rel hA hx) (evalO_rel hA hy)
      exact ⟨X, by simp [h1], h2⟩
    · cases hq
  · split at hq
    · rename_i hx hy
      obtain ⟨X, h1, h2⟩ := qLookup_rel h hq (evalO_rel hA hx) (evalO_rel hA hy)
      exact ⟨X, by simp [h1], h2⟩
    · cases hq
  · split at hq
    · rename_i hv
      have := evalParts_rel hA hv
      obtain ⟨X, h1, h2⟩ := qBuild_rel (w := w) hq (Ps := _) (by rw [map_toList]; exact this)
      refine ⟨X, ?_, h2⟩
      simp [h1]
    · cases hq
  · split at hq
    · rename_i hv
      have := evalO_rel hA hv
      simp only [VRel] at this
      obtain ⟨cs, e, hl⟩ := this
      rw [lget_eq] at hq
      obtain ⟨X, h1, h2⟩ := hl.get hq
      simp only [Array.getElem?_toList] at h1
      exact ⟨X, by simp [Instr.extract, e, h1], h2⟩
    · cases hq
  · split at hq
    · rename_i hv
      have hk := fun xt => qAssert_rel (w := w) xt hq (evalO_rel hA hv)
      rename_i xt _ _ _ _
      obtain ⟨X, h1, h2⟩ := hk xt
      exact ⟨X, by simp [h1], h2⟩
    · cases hq
  · split at hq
    · rename_i hc
      split at hq
      · rename_i vs hvs
        have := evalOs_rel hA hvs
        rw [← map_toList] at this
        obtain ⟨X, h1, h2⟩ := qBuiltin_rel h hq this o.type _
        exact ⟨X, by simp only [resolve, hc, Sem.run_bind, Sem.run_pure, Result.andThen_ok, invoke]; exact h1, h2⟩
      · cases hq
    · cases hq
  · cases hq

/-- a quiet operation makes no call of a function -/
theorem qop_about {ev : Operand → Option V} {A : Act} {o : Oper} {v : V} (hq : qop P s ev o.op = some v) : o.about P w A.eval = none := by
  unfold qop at hq
  unfold Oper.about
  split at hq <;> rename_i heq <;> simp only [heq]
  · split at hq
    · rename_i hc
      simp [resolve, hc, Target.leads]
    · cases hq
end
end Go.Eng
