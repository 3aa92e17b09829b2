/-
  slices.Collect(maps.Keys(m)) at the program's pool: the kit's contracts, as the evaluator wants them. Conditions: one key at most, from 0 to 2^31.
-/
import Derived.Test.YtmnjgdnmlopigaaGreatEngY
import Derived.Test.YtmnjgdnmlopigaaGreatIterc
namespace Go.Proofs.YtmnjgdnmlopigaaGreat
open Go.RowKit Go.Maps Go.Sort Go.Shelf Go.Proofs Go

theorem keys_fitI {P : Program} {K : TypeId} (hK : P.underlying K = some (.int .i64)) {es : Array MapEntry} {clock : Nat} {ks : List Int} (hk : es.toList.map (·.key) = ks.map encZ) (hl : ∀ k ∈ ks, 0 ≤ k ∧ k ≤ 2147483648) (hst : MapKept.Stamped es clock) (hn : ks.length ≤ 1) :
    WideElems.Fit (H := Unit) P K (fun _ => some (.nil, [])) es clock ∧ (intKeys (H := Unit) (.map ((es.toList.map (WideElems.rg P K fun _ => some (.nil, []))).foldr DataW.insert []))).Perm ks := by
  have hlen : es.size = ks.length := by simpa using congrArg List.length hk
  have hrd : ∀ x ∈ es.toList, ∃ k ∈ ks, x.key = encZ k ∧ WideElems.rd (H := Unit) P K (fun _ => some (.nil, [])) x = some (.int .i64 k, .nil) := fun x hx => by
    have h1 : x.key ∈ ks.map encZ := by rw [← hk]; exact List.mem_map.2 ⟨x, hx, rfl⟩
    obtain ⟨k, h2, h3⟩ := List.mem_map.1 h1
    refine ⟨k, h2, h3.symm, ?_⟩
    have h4 := hl k h2
    have h5 : (Lit.int .i64 k).wf = true := by
      have hmin : IntKind.i64.min = -9223372036854775808 := by decide
      have hmax : IntKind.i64.max = 9223372036854775807 := by decide
      simp only [Lit.wf, Bool.and_eq_true, decide_eq_true_eq]
      rw [hmin, hmax]
      omega
    unfold WideElems.rd
    rw [← h3]
    simp [keyOf, mapKey, hK, h5]
  refine ⟨⟨by rw [hlen]; unfold maxLen; omega, hst, fun x hx => by obtain ⟨k, _, _, h⟩ := hrd x hx; exact ⟨_, h⟩⟩, ?_⟩
  have e : (es.toList.map (WideElems.rg (H := Unit) P K fun _ => some (.nil, []))).map (fun p => Go.intOf p.1) = ks := by
    have h1 : ks = (es.toList.map (·.key)).map (fun v => match v with | .int _ a => a | _ => 0) := by
      rw [hk, List.map_map]
      conv => lhs; rw [← List.map_id ks]
      apply List.map_congr_left
      intro k _
      rfl
    conv => rhs; rw [h1]
    rw [List.map_map, List.map_map]
    apply List.map_congr_left
    intro x hx
    obtain ⟨k, _, h2, h3⟩ := hrd x hx
    simp only [Function.comp, WideElems.rg, h3, h2, Option.getD_some, Go.intOf]
  have := (WideShapes.sorted_perm (es.toList.map (WideElems.rg (H := Unit) P K fun _ => some (.nil, [])))).map (fun p => Go.intOf p.1)
  rw [e] at this
  exact this

set_option maxHeartbeats 1000000 in
theorem poolKeys : Go.Eng.KeysHypI Tryz.prog 145 144 185 126 3 where
  keys := fun b w => callsIn_wide.1 (AnyZI.keys_in Tryz.keys145 Fence.wide 5 trivial rfl (some b) w)
  coll := fun pb b es clock ks w hpb hc hb hk hl hst hn => by
    obtain ⟨F, hp⟩ := keys_fitI (P := Tryz.prog) (K := 3) Tryz.underlying3 hk hl hst hn
    have hown : w.ownsMap Tryz.prog 3 (fun _ => some (.nil, [])) b es.size (.map ((es.toList.map (WideElems.rg (H := Unit) Tryz.prog 3 fun _ => some (.nil, []))).foldr DataW.insert [])) := ⟨es, clock, hb, F, Nat.le_refl _, rfl⟩
    have hsz : Maps.size (H := Unit) (.map ((es.toList.map (WideElems.rg (H := Unit) Tryz.prog 3 fun _ => some (.nil, []))).foldr DataW.insert [])) = ks.length := by
      have := hp.length_eq
      simpa [intKeys, Maps.size] using this
    have hseq := AnyZI.keys_gives (ρ := Tryz.keys145_ren) { Tryz.keys145 with } Fence.wide 3 trivial rfl (by omega) pb b es.size _ w hpb hc hown
    refine callsIn_wide.1 ((AnyZI.collect_in Tryz.coll144 Fence.wide 5 trivial trivial rfl (by omega) 185 #[.pointer (some ⟨pb, 0, none⟩)] trivial (enters_of Tryz.func185 (by kernel_rfl) rfl) _ _ (by rw [hsz]; unfold maxLen; omega) (by rw [hsz]; omega) w hseq).mono ?_)
    rintro e w' ⟨v, ss, rfl, h1, h2, h3, h4⟩
    exact ⟨v, ss, rfl, h1.trans hp, h2, h3, h4⟩

noncomputable def knownPool : Go.Eng.ESelf := Go.Eng.knownColl 145 144 185 126 3
theorem knownPool_ok : Go.Eng.SelfOK Tryz.prog knownPool := Go.Eng.knownColl_ok poolKeys
end Go.Proofs.YtmnjgdnmlopigaaGreat
