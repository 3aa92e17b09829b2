/-
  A net's frames, plain: what each act leaves. No program in sight.
-/
import Derived.Test.YtlkbmjdgfbciaaaSymP
namespace Go.Proofs.Ytlkbmjdgfbciaaa
open Go.Sym
set_option linter.unusedVariables false

abbrev frE : List Ty := [.int .i64, .int .i64, .str]
abbrev FrR : Type := Int × Int × ByteArray
abbrev actE : List Ty := [.int .u8, .int .i64, .int .i64, .str, .int .i64]
abbrev ActR : Type := Int × Int × Int × ByteArray × Int
/-- a frame that may be put -/
def okF (f : FrR) : Prop := 0 ≤ f.1 ∧ f.1 < 7 ∧ 0 ≤ f.2.1 ∧ f.2.1 < 7 ∧ f.1 ≠ f.2.1 ∧ f.2.2.size ≤ 65535
instance (f : FrR) : Decidable (okF f) := by unfold okF; infer_instance
def cut2 (s : ByteArray) : ByteArray := s.extract 0 (min (s.size : Int) 200).toNat
theorem cut2_size (s : ByteArray) : (cut2 s).size ≤ 200 := by unfold cut2; rw [ByteArray.size_extract]; omega
/-- the place is in the list -/
def inL (F : List FrR) (at' : Int) : Prop := 0 ≤ at' ∧ at' < (F.length : Int)
instance (F : List FrR) (a : Int) : Decidable (inL F a) := by unfold inL; infer_instance
abbrev rowF (F : List FrR) (i : Nat) : FrR := Sym.rowAt frE F i
abbrev rowAct (L : List ActR) (i : Nat) : ActR := Sym.rowAt actE L i
noncomputable def stepN (most : Int) (F : List FrR) (a : ActR) : List FrR :=
  if a.1 % 7 = 3 ∨ a.1 % 7 = 4 then (if inL F a.2.2.2.2 then F.eraseIdx a.2.2.2.2.toNat else F)
  else if a.1 % 7 = 5 then (if inL F a.2.2.2.2 ∧ (F.length : Int) < most then F ++ [rowF F a.2.2.2.2.toNat] else F)
  else if a.1 % 7 = 6 then F
  else if okF (a.2.1, a.2.2.1, cut2 a.2.2.2.1) ∧ (F.length : Int) < most then F ++ [(a.2.1, a.2.2.1, cut2 a.2.2.2.1)] else F
noncomputable def runN0 (most : Int) (acts : List ActR) : Nat → List FrR
  | 0 => []
  | i + 1 => stepN most (runN0 most acts i) (rowAct acts i)
noncomputable def runN : Int → List ActR → Nat → List FrR := hide runN0
theorem runN_0 (most : Int) (acts : List ActR) : runN most acts 0 = [] := by unfold runN; rw [hide_eq]; rfl
theorem runN_succ (most : Int) (acts : List ActR) (i : Nat) : runN most acts (i + 1) = stepN most (runN most acts i) (rowAct acts i) := by unfold runN; rw [hide_eq]; rfl
def goodN (most : Int) (F : List FrR) : Prop := (∀ f ∈ F, okF f) ∧ (F.length : Int) ≤ most
theorem rowF_mem {F : List FrR} {i : Nat} (h : i < F.length) : rowF F i ∈ F := by
  unfold rowF
  rw [rowAt_lt (e := frE) (L := F) h]
  exact List.getElem_mem h
theorem goodN_step {most : Int} {F : List FrR} {a : ActR} (h : goodN most F) : goodN most (stepN most F a) := by
  obtain ⟨h1, h2⟩ := h
  unfold stepN
  split
  · split
    · refine ⟨fun f hf => h1 f (List.mem_of_mem_eraseIdx hf), ?_⟩
      have := List.length_eraseIdx_le F a.2.2.2.2.toNat
      omega
    · exact ⟨h1, h2⟩
  · split
    · split
      · rename_i h3
        unfold inL at h3
        refine ⟨fun f hf => ?_, by rw [List.length_append]; simp; omega⟩
        rcases List.mem_append.1 hf with hf | hf
        · exact h1 f hf
        · rw [List.mem_singleton.1 hf]
          exact h1 _ (rowF_mem (by omega))
      · exact ⟨h1, h2⟩
    · split
      · exact ⟨h1, h2⟩
      · split
        · rename_i h3
          refine ⟨fun f hf => ?_, by rw [List.length_append]; simp; omega⟩
          rcases List.mem_append.1 hf with hf | hf
          · exact h1 f hf
          · rw [List.mem_singleton.1 hf]
            exact h3.1
        · exact ⟨h1, h2⟩
theorem goodN_run {most : Int} (h : 0 ≤ most) (acts : List ActR) : ∀ i, goodN most (runN most acts i)
  | 0 => by rw [runN_0]; exact ⟨fun f hf => (by cases hf), by simpa using h⟩
  | i + 1 => by rw [runN_succ]; exact goodN_step (goodN_run h acts i)
/-- a row is taken out: as the program's in place, and as the document's -/
theorem erase_in (F : List FrR) (i : Nat) (h : i < F.length) : (F.take i ++ (seg F (i + 1) (F.length - (i + 1)) ++ F.drop (i + (F.length - (i + 1))))).take (i + (F.length - (i + 1))) = F.eraseIdx i := by
  have h1 : seg F (i + 1) (F.length - (i + 1)) = F.drop (i + 1) := by
    unfold seg
    rw [List.take_of_length_le (by omega)]
  rw [h1, ← List.append_assoc, List.take_append_of_le_length (by rw [List.length_append, List.length_take, List.length_drop]; omega), List.take_of_length_le (by rw [List.length_append, List.length_take, List.length_drop]; omega), List.eraseIdx_eq_take_drop_succ]
theorem erase_two (F : List FrR) (i : Nat) (h : i < F.length) : seg F 0 i ++ seg F (i + 1) (F.length - (i + 1)) = F.eraseIdx i := by
  have h1 : seg F (i + 1) (F.length - (i + 1)) = F.drop (i + 1) := by
    unfold seg
    rw [List.take_of_length_le (by omega)]
  rw [h1, List.eraseIdx_eq_take_drop_succ]
  unfold seg
  rw [List.drop_zero, Nat.zero_add]
end Go.Proofs.Ytlkbmjdgfbciaaa
