/-
  The last step of a row's proof, when of the world behind the call it is known that everything below the call's own blocks is as it was. No condition; nothing here speaks of one program.
-/
import Derived.Below
import Derived.ChangeSame
import Derived.WalkKit
import Derived.ProofKit
import Derived.OpenShut
namespace Go.Eng
open Go.RowKit Go.ChangeShapes Go.WideShapes

section
variable {H : Type} {enc : TypeId × Value → H} {P : Program} {f : Func} {s : ChangeSpec} {apart fresh handsOn again : Bool} {W W' : World} {args : Array Value} {v : Value} {ds gs : List (DataW H)} {before : List MemPlace}

/-- A law that answers and leaves its arguments: the world may have grown, and below it is as it was. -/
theorem post_low (hW : DataW.Whole enc P f.params.toList s.vars apart W args.toList ds gs before) (hb : Below W.heap.size W W')
    (pa pv : List MemPlace) (hp : before = pa ++ pv)
    (hr : ∀ (b : Nat) (sp : Nat → Bool) (hd : Bool), DataW.TrodAll enc P W' b sp hd f.resultTypes.toList (v.resultList f.resultTypes.size) (s.fn H (ds ++ gs)).results [])
    (ha : ∀ sp : Nat → Bool, (∀ p ∈ before, sp p.block = true) → DataW.TrodAll enc P W' 0 sp true f.params.toList args.toList (s.fn H (ds ++ gs)).args pa)
    (hv : ∀ sp : Nat → Bool, (∀ p ∈ before, sp p.block = true) → DataW.TrodVars enc P W' sp s.vars (s.fn H (ds ++ gs)).vars pv)
    (hok : ∀ (j : Nat) (t : TypeId) (r : Value), f.resultTypes[j]? = some t → (v.resultList f.resultTypes.size)[j]? = some r → Value.okWide P W' .any 0 t r) :
    s.post enc P f apart fresh handsOn again W args v W' := by
  have low : ∀ p ∈ before, p.block < W.heap.size := fun p h => hW.lt p h
  have seen : ∀ p ∈ before, decide (p.block < W.heap.size) = true := fun p h => decide_eq_true (low p h)
  have kept : W.keptBut W' fun p => p ∈ before ∧ (p ∈ pa ∨ p ∈ pv) :=
    World.keptBut_mono (fun p h => ⟨h, by rw [hp] at h; exact List.mem_append.1 h⟩) (hb.frame (· ∈ before))
  subst hp
  refine ⟨ds, gs, pa ++ pv, [], pa, pv, hW, hr _ _ _, ha (fun b => decide (b < W.heap.size)) seen, hv (fun b => decide (b < W.heap.size)) seen, ?_, fun _ => ⟨hok, ?_⟩⟩
  · exact World.keptBut_mono (fun p h => ⟨h.1, h.2.elim (fun h => .inr (.inl h)) fun h => .inr (.inr h)⟩) kept
  · obtain ⟨_, _, _, _, _, hz, hn⟩ := hW
    have hA := trodAll_append (ha (fun _ => true) fun _ _ => rfl) (hr 0 (fun _ => true) true)
    refine ⟨_, _, pa ++ pv, ⟨pa, pv, by simpa using hA, hv (fun _ => true) fun _ _ => rfl, rfl, fun b off h => ?_, hn⟩, fun p h _ => by simpa using h⟩
    rw [hb.frozen (low _ h)]
    exact hz b off h
end
end Go.Eng
