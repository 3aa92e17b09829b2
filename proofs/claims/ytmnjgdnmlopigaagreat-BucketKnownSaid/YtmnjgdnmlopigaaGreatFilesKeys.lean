/-
  slices.Sorted(maps.Keys(m)) at the program's files: the kit's contracts, as the evaluator wants them. Conditions: as many keys, and keys as long, as 2^40 at most.
-/
import Derived.Test.YtmnjgdnmlopigaaGreatEngT
import Derived.Test.YtmnjgdnmlopigaaGreatIter
namespace Go.Proofs.YtmnjgdnmlopigaaGreat
open Go.RowKit Go.Maps Go.Sort Go.Shelf Go.Proofs

theorem sortsStr (m : Nat) : AnyZ.SortsIn Tryz.prog Tryz.sorted42_ren Fence.wide m :=
  ⟨fun blk off cap ss W hH hblk hsz => callsIn_wide.2 (AnyM.slices_Sort_string Tryz.sort96 blk off cap ss W hH hblk hsz),
   fun p cap W => callsIn_wide.2 (AnyM.slices_Sort_string_none Tryz.sort96 p cap W)⟩

theorem keys_fit {P : Program} {K : TypeId} (hK : P.underlying K = some .string) {es : Array MapEntry} {clock : Nat} {ks : List (List UInt8)} (hk : es.toList.map (·.key) = ks.map encStr) (hl : ∀ k ∈ ks, k.length ≤ 1099511627776) (hst : MapKept.Stamped es clock) (hn : ks.length ≤ 1099511627776) :
    WideElems.Fit (H := Unit) P K (fun _ => some (.nil, [])) es clock ∧ (strKeys (H := Unit) (.map ((es.toList.map (WideElems.rg P K fun _ => some (.nil, []))).foldr DataW.insert []))).Perm ks := by
  have hlen : es.size = ks.length := by simpa using congrArg List.length hk
  have hrd : ∀ x ∈ es.toList, ∃ k ∈ ks, x.key = encStr k ∧ WideElems.rd (H := Unit) P K (fun _ => some (.nil, [])) x = some (.string k, .nil) := fun x hx => by
    have h1 : x.key ∈ ks.map encStr := by rw [← hk]; exact List.mem_map.2 ⟨x, hx, rfl⟩
    obtain ⟨k, h2, h3⟩ := List.mem_map.1 h1
    refine ⟨k, h2, h3.symm, ?_⟩
    have h4 := hl k h2
    have h5 : k.length ≤ maxLen := by unfold maxLen; omega
    have h6 : (⟨k.toArray⟩ : ByteArray).size ≤ maxLen := by show k.toArray.size ≤ _; simpa using h5
    unfold WideElems.rd
    rw [← h3]
    simp [keyOf, mapKey, hK, encStr, h6]
  refine ⟨⟨by rw [hlen]; unfold maxLen; omega, hst, fun x hx => by obtain ⟨k, _, _, h⟩ := hrd x hx; exact ⟨_, h⟩⟩, ?_⟩
  have e : (es.toList.map (WideElems.rg (H := Unit) P K fun _ => some (.nil, []))).map (fun p => strOf p.1) = ks := by
    have h1 : ks = (es.toList.map (·.key)).map (fun v => match v with | .string s => s.data.toList | _ => []) := by
      rw [hk, List.map_map]
      conv => lhs; rw [← List.map_id ks]
      apply List.map_congr_left
      intro k _
      simp [encStr]
    conv => rhs; rw [h1]
    rw [List.map_map, List.map_map]
    apply List.map_congr_left
    intro x hx
    obtain ⟨k, _, h2, h3⟩ := hrd x hx
    simp only [Function.comp, WideElems.rg, h3, h2, Option.getD_some, strOf, encStr]
  have := (WideShapes.sorted_perm (es.toList.map (WideElems.rg (H := Unit) P K fun _ => some (.nil, [])))).map (fun p => strOf p.1)
  rw [e] at this
  exact this

set_option maxHeartbeats 1000000 in
theorem filesKeys : Go.Eng.KeysHyp Tryz.prog 43 42 97 75 9 where
  keys := fun b w => callsIn_wide.1 (AnyZ.keys_in Tryz.keys43 Fence.wide 5 trivial rfl (some b) w)
  sorted := fun pb b es clock ks w hpb hc hb hk hl hst hn => by
    obtain ⟨F, hp⟩ := keys_fit (P := Tryz.prog) (K := 9) Tryz.underlying9 hk hl hst hn
    have hown : w.ownsMap Tryz.prog 9 (fun _ => some (.nil, [])) b es.size (.map ((es.toList.map (WideElems.rg (H := Unit) Tryz.prog 9 fun _ => some (.nil, []))).foldr DataW.insert [])) := ⟨es, clock, hb, F, Nat.le_refl _, rfl⟩
    have hsz : Maps.size (H := Unit) (.map ((es.toList.map (WideElems.rg (H := Unit) Tryz.prog 9 fun _ => some (.nil, []))).foldr DataW.insert [])) = ks.length := by
      have := hp.length_eq
      simpa [strKeys, Maps.size] using this
    have hseq := AnyZ.keys_gives (ρ := Tryz.keys43_ren) { Tryz.keys43 with } Fence.wide 2 trivial rfl (by omega) pb b es.size _ w hpb hc hown
    refine callsIn_wide.1 ((AnyZ.sorted_in Tryz.sorted42 Fence.wide 5 trivial trivial trivial trivial rfl (by omega) (sortsStr _) (enters_of Tryz.func96 (by kernel_rfl) rfl) 97 #[.pointer (some ⟨pb, 0, none⟩)] trivial (enters_of Tryz.func97 (by kernel_rfl) rfl) _ _ (by rw [hsz]; unfold maxLen; omega) (by rw [hsz]; omega) w hseq).mono ?_)
    rintro e w' ⟨v, ss, rfl, h1, h2, h3, h4⟩
    exact ⟨v, ss, rfl, h1.trans hp, h2, h3, h4⟩

noncomputable def knownFiles : Go.Eng.ESelf := Go.Eng.knownKeys 43 42 97 75 9
theorem knownFiles_ok : Go.Eng.SelfOK Tryz.prog knownFiles := Go.Eng.knownKeys_ok filesKeys
end Go.Proofs.YtmnjgdnmlopigaaGreat
