/-
  Loops, told by a family of descriptions; functions with such loops.
-/
import Derived.Test.YtlkbmjdgfbciaaaSymZ
namespace Go.Sym
set_option linter.unusedSimpArgs false
set_option linter.unusedVariables false

/-- a frame, deferred calls and a heap, written down -/
structure CD where
  n : Nat
  l : List (Nat × V)
  ds : List EDef
  h : List (Nat × EObj)
  next : Nat
noncomputable def CD.cfg (c : CD) : Cfg := ⟨⟨c.n, setsB c.n (repB .any (hOf c.n)) c.l⟩, c.ds, ⟨heapOf c.h, c.next⟩⟩
def slotsF (l : List (Nat × V)) : Nat → Nat → List V
  | 0, _ => []
  | n + 1, i => slotD .any i l :: slotsF l n (i + 1)
def slots (n : Nat) (l : List (Nat × V)) : List V := slotsF l n 0
theorem slotsF_get (l : List (Nat × V)) : ∀ (n j i : Nat), i < n → (slotsF l n j).getD i .undef = slotD .any (j + i) l
  | 0, _, _, h => by omega
  | n + 1, j, 0, _ => rfl
  | n + 1, j, i + 1, h => by
    have := slotsF_get l n (j + 1) i (by omega)
    rw [show j + (i + 1) = j + 1 + i by omega, ← this]
    rfl
def CD.wk (k : Nat) (m : List (Nat × Nat)) (c : CD) (c1 : Cfg) : Prop := wkP k m c1 c.n (slots c.n c.l) c.ds c.h c.next
theorem CD.wk_ok {k : Nat} {m : List (Nat × Nat)} {c : CD} {c1 : Cfg} (h : c.wk k m c1) : Wk k c1 c.cfg := by
  have hw := wkP_ok h
  obtain ⟨h1, _⟩ := guardB_b h
  simp only [Bool.and_eq_true, Nat.ble_eq] at h1
  have h4096 : c.n ≤ 4096 := h1.2.2.2.2
  have hd := hOf_le h4096
  intro own ρ0 ρ A w hk hle hr
  obtain ⟨ρ', g1, g2⟩ := hw own ρ0 ρ A w hk hle hr
  refine ⟨ρ', g1, ⟨?_, g2.d, g2.s⟩⟩
  obtain ⟨f1, d, f2, f3, f4⟩ := g2.f
  refine ⟨f1, hOf c.n, setsB_full (repB_full _ _) _, hd, fun i X hi => ?_⟩
  have hlt : i < c.n := by
    have : c.n = A.tmps.size := f1
    have := (Array.getElem?_eq_some_iff.1 hi).1
    omega
  have := f4 i X hi
  have e : (mkFrm c.n (slots c.n c.l)).t.get i = slotD .any i c.l := by
    show (B.ofList .undef (hOf c.n) (slots c.n c.l)).get i = _
    rw [B.ofList_get _ _ _ _ (by omega), slots, slotsF_get _ _ _ _ hlt, Nat.zero_add]
  show VRel ρ' ((setsB c.n (repB .any (hOf c.n)) c.l).get i) X
  rw [setsB_get hd _ _ hlt, ← e]
  exact this
def cfgK (c : CD) (k : Cfg → Prop) : Prop := frmK c.n .any c.l fun f => forceS ⟨heapOf c.h, c.next⟩ fun s => k ⟨f, c.ds, s⟩
theorem cfgK_iff (c : CD) (k : Cfg → Prop) : cfgK c k ↔ k c.cfg := by rw [cfgK, frmK_iff, forceS_iff]; exact Iff.rfl
/-- names as they are -/
def idm : List (Nat × EObj) → List (Nat × Nat)
  | [] => []
  | e :: l => (e.1, e.1) :: idm l

/-- what a loop comes to -/
inductive OD where
  | leaf (e : EExit) (c : CD)
  | ite (b : Bool) (l r : OD)
noncomputable def OD.ot : OD → OT
  | .leaf e c => .leaf e c.cfg
  | .ite b l r => .ite b l.ot r.ot
def OD.w (K : KC) : OD → Prop
  | .leaf e c => cfgK c fun c => K e c
  | .ite b l r => iteB b (l.w K) (r.w K)
theorem OD.w_den {K : KC} : ∀ {o : OD}, o.w K → K o.ot.den.1 o.ot.den.2
  | .leaf e c, h => (cfgK_iff _ _).1 h
  | .ite b l r, h => by
    cases b
    · exact OD.w_den (o := r) h
    · exact OD.w_den (o := l) h
theorem CD.wk_as {k : Nat} {c : CD} {c1 : Cfg} (h : c.wk k (idm c.h) c1) : ∃ m, c.wk k m c1 := ⟨_, h⟩
def exitIs (e e0 : EExit) : Prop :=
  match e0 with
  | .exit i0 => (match e with
    | .exit i => guardB (Nat.beq i i0) True
    | _ => False)
  | .ret => (match e with
    | .ret => True
    | _ => False)
  | .pan v0 => (match e with
    | .pan v => v = v0 ∧ guardB v0.flat True
    | _ => False)
  | .normal => False
def OD.hit (k : Nat) (e : EExit) (c1 : Cfg) : OD → Prop
  | .leaf e0 c0 => exitIs e e0 ∧ ∃ m, c0.wk k m c1
  | .ite b l r => iteB b (l.hit k e c1) (r.hit k e c1)
def notNormal : EExit → Bool
  | .normal => false
  | _ => true
def RoundW {X : Type} (k : Nat) (cd : X → CD) (μ : X → Nat) (out : X → OD) (x : X) : KC := fun e c1 => match notNormal e with
  | false => ∃ x', μ x' < μ x ∧ out x' = out x ∧ ∃ m, (cd x').wk k m c1
  | true => (out x).hit k e c1
theorem OD.hit_den {k : Nat} {e : EExit} {c1 : Cfg} : ∀ {o : OD}, notNormal e = true → o.hit k e c1 → match e with
    | .normal => False
    | .exit id => o.ot.den.1 = .exit id ∧ Wk k c1 o.ot.den.2
    | .ret => o.ot.den.1 = .ret ∧ Wk k c1 o.ot.den.2
    | .pan v => o.ot.den.1 = .pan v ∧ v.flat = true ∧ Wk k c1 o.ot.den.2
  | .leaf e0 c0, hn, h => by
    obtain ⟨h1, m, h2⟩ := h
    have hw := CD.wk_ok h2
    cases e0 <;> cases e <;> simp only [exitIs] at h1 <;> simp only [OD.ot, OT.den]
    · obtain ⟨a, _⟩ := guardB_b h1
      have := Nat.eq_of_beq_eq_true a
      subst this
      exact ⟨rfl, hw⟩
    · exact ⟨trivial, hw⟩
    · obtain ⟨a, b⟩ := h1
      subst a
      exact ⟨rfl, (guardB_b b).1, hw⟩
  | .ite b l r, hn, h => by
    simp only [OD.hit] at h
    have h := (iteB_iff _ _ _).1 h
    cases b
    · exact OD.hit_den (o := r) hn (h.2 rfl)
    · exact OD.hit_den (o := l) hn (h.1 rfl)

section
variable {P : Program} {tab : Tab}
theorem loop_W (ht : TabOK P tab) {fuel d n k : Nat} {b : Code} {X : Type} (cd : X → CD) (μ : X → Nat) (out : X → OD) (lw : X → LpW) (lp : X → LpF) (hl : ∀ x, AdL (lw x) (lp x)) (hlb : ∀ x, LpOK P none none n k (lp x) b)
    (h : ∀ x, cfgK (cd x) fun c => compW P (callW P (knW tab) fuel d) fuel none (lw x) b c (RoundW k cd μ out x)) (x : X) : CodeAt P none none n k (.loop b) (cd x).cfg (out x).ot.den.1 (out x).ot.den.2 :=
  loop_at (fun x => (cd x).cfg) μ (fun x => (out x).ot.den) (fun x => codeL_sound (call_sound (kn_ok ht) fuel d) fuel (lp x) b (hlb x)) (fun x => by
    obtain ⟨e, c1, h1, h2⟩ := compW_ad (callW_ad (kn_ad tab) (kn_no tab) fuel d) fuel none (hl x) b _ _ ((cfgK_iff _ _).1 (h x))
    refine ⟨e, c1, h1, ?_⟩
    unfold RoundW at h2
    cases hn : notNormal e with
    | false =>
      rw [hn] at h2
      cases e <;> simp [notNormal] at hn
      obtain ⟨x', g1, g2, m, g3⟩ := h2
      exact ⟨x', g1, CD.wk_ok g3, congrArg (fun o => o.ot.den) g2⟩
    | true =>
      rw [hn] at h2
      have := OD.hit_den hn h2
      cases e with
      | normal => exact this.elim
      | exit id => exact this
      | ret => exact this
      | pan v => exact this) x

/-! ### the loops of a code -/
def sameR (r : Nat) : Option Nat → Bool
  | some i => Nat.beq i r
  | none => false
noncomputable def loopsIn (r : Nat) : Code → List Code
  | .loop b => bif sameR r (firstR b) then b :: loopsIn r b else loopsIn r b
  | .seq a b => loopsIn r a ++ loopsIn r b
  | .cond _ a b => loopsIn r a ++ loopsIn r b
  | .block _ b => loopsIn r b
  | .scope b => loopsIn r b
  | _ => []
noncomputable def bodyOf (P : Program) (g : FuncId) : Code := match P.funcs[g]? with
  | some fn => (match fn.body with
    | some c => c
    | none => .skip)
  | none => .skip
def headC : List Code → Code
  | [] => .skip
  | b :: _ => b
/-- the body of a function's loop, by the number of its first region -/
noncomputable def bodyAt (P : Program) (g : FuncId) (r : Nat) : Code := headC (loopsIn r (bodyOf P g))

/-- a loop that is told: from here, to there -/
structure LpD where
  r : Nat
  m : List (Nat × Nat)
  c : CD
  o : OD
noncomputable def LpD.w (k : Nat) (l : LpD) : CW := fun c K => l.c.wk k l.m c ∧ l.o.w K
noncomputable def LpD.f (k : Nat) (l : LpD) : Cfg → Option (EExit × Cfg) := cutF k l.c.cfg l.o.ot
noncomputable def lpsW (k : Nat) : List LpD → LpW
  | [] => fun _ => none
  | l :: ls => fun id => bif Nat.beq l.r id then some (l.w k) else lpsW k ls id
noncomputable def lpsF (k : Nat) : List LpD → LpF
  | [] => fun _ => none
  | l :: ls => fun id => bif Nat.beq l.r id then some (l.f k) else lpsF k ls id
theorem lps_ad (k : Nat) : ∀ ls : List LpD, AdL (lpsW k ls) (lpsF k ls)
  | [] => fun _ => rfl
  | l :: ls => fun id => by
    simp only [lpsW, lpsF]
    cases Nat.beq l.r id with
    | true => exact ⟨_, rfl, fun c K hk => ⟨_, _, by unfold LpD.f cutF; rw [if_pos (CD.wk_ok hk.1)], OD.w_den hk.2⟩⟩
    | false => exact lps_ad k ls id
theorem lpsF_mem {k : Nat} : ∀ {ls : List LpD} {id : Nat} {F : Cfg → Option (EExit × Cfg)}, lpsF k ls id = some F → ∃ l ∈ ls, l.r = id ∧ F = l.f k
  | [], id, F, h => by cases h
  | l :: ls, id, F, h => by
    simp only [lpsF] at h
    cases hb : Nat.beq l.r id with
    | true => rw [hb, cond_true] at h; cases h; exact ⟨l, List.mem_cons_self, Nat.eq_of_beq_eq_true hb, rfl⟩
    | false =>
      rw [hb, cond_false] at h
      obtain ⟨l', h1, h2⟩ := lpsF_mem h
      exact ⟨l', List.mem_cons_of_mem _ h1, h2⟩
theorem loopsIn_sub : ∀ {c : Code} {ro rr : Option Nat} {n k : Nat} {lp : LpF}, (∀ id F, lp id = some F → ∀ b ∈ loopsIn id c, CodeOK P ro rr n k (.loop b) F) → LpOK P ro rr n k lp c
  | .loop b, ro, rr, n, k, lp, h => by
    refine ⟨fun id F h1 h2 => h id F h2 b ?_, loopsIn_sub fun id F h2 b' hb' => h id F h2 b' ?_⟩
    · simp [loopsIn, h1, sameR]
    · simp only [loopsIn]
      cases sameR id (firstR b)
      · exact hb'
      · exact List.mem_cons_of_mem _ hb'
  | .seq a b, ro, rr, n, k, lp, h => ⟨loopsIn_sub fun id F h2 b' hb' => h id F h2 b' (List.mem_append_left _ hb'), loopsIn_sub fun id F h2 b' hb' => h id F h2 b' (List.mem_append_right _ hb')⟩
  | .cond _ a b, ro, rr, n, k, lp, h => ⟨loopsIn_sub fun id F h2 b' hb' => h id F h2 b' (List.mem_append_left _ hb'), loopsIn_sub fun id F h2 b' hb' => h id F h2 b' (List.mem_append_right _ hb')⟩
  | .block _ b, ro, rr, n, k, lp, h => loopsIn_sub (c := b) fun id F h2 b' hb' => h id F h2 b' (by simpa only [loopsIn] using hb')
  | .scope b, ro, rr, n, k, lp, h => loopsIn_sub (c := b) fun id F h2 b' hb' => h id F h2 b' (by simpa only [loopsIn] using hb')
  | .skip, _, _, _, _, _, _ => trivial
  | .label _, _, _, _, _, _, _ => trivial
  | .ret, _, _, _, _, _, _ => trivial
  | .exit _, _, _, _, _, _, _ => trivial
  | .goto _, _, _, _, _, _, _ => trivial
  | .refuse _, _, _, _, _, _, _ => trivial
  | .region .., _, _, _, _, _, _ => trivial
  | .rangeFunc .., _, _, _, _, _, _ => trivial
/-- a loop of a code goes as it is told -/
def LpD.ok (P : Program) (n k : Nat) (c : Code) (l : LpD) : Prop := ∀ b ∈ loopsIn l.r c, CodeAt P none none n k (.loop b) l.c.cfg l.o.ot.den.1 l.o.ot.den.2
theorem lps_ok {n k : Nat} {c : Code} {ls : List LpD} (h : ∀ l ∈ ls, l.ok P n k c) : LpOK P none none n k (lpsF k ls) c :=
  loopsIn_sub fun id F hF b hb => by
    obtain ⟨l, h1, rfl, rfl⟩ := lpsF_mem hF
    exact cutF_ok (h l h1 b hb)
theorem LpD.ok_one {n k : Nat} {c b : Code} {l : LpD} (hb : loopsIn l.r c = [b]) (h : CodeAt P none none n k (.loop b) l.c.cfg l.o.ot.den.1 l.o.ot.den.2) : l.ok P n k c := by
  intro b' hb'
  rw [hb] at hb'
  rw [List.mem_singleton.1 hb']
  exact h
theorem pure_of_loops (ht : TabOK P tab) {fuel d : Nat} {g : FuncId} {args : List V} {v : V} (ls : List LpD) (hls : ∀ n, ∀ l ∈ ls, l.ok P n 0 (bodyOf P g))
    (h : fnLW P (callW P (knW tab) fuel d) fuel (lpsW 0 ls) g args s0 (RetW v)) : PureAt P g args v :=
  pure_of_W ht (lps_ad 0 ls) (fun fn c n hf hc => by
    have hb : bodyOf P g = c := by simp only [bodyOf, hf, hc]
    rw [← hb]
    exact lps_ok (hls n)) h
/-- a function with one loop, and none in it -/
theorem pure_of_loop (ht : TabOK P tab) {fuel d : Nat} {g : FuncId} {args : List V} {v : V} (r : Nat) {X : Type} (cd : X → CD) (μ : X → Nat) (out : X → OD) (x0 : X) (m : List (Nat × Nat)) (hr : loopsIn r (bodyOf P g) = [bodyAt P g r])
    (hround : ∀ x, cfgK (cd x) fun c => compW P (callW P (knW tab) fuel d) fuel none noLpW (bodyAt P g r) c (RoundW 0 cd μ out x))
    (h : fnLW P (callW P (knW tab) fuel d) fuel (lpsW 0 [⟨r, m, cd x0, out x0⟩]) g args s0 (RetW v)) : PureAt P g args v :=
  pure_of_loops ht _ (fun n l hl => by
    rw [List.mem_singleton.1 hl]
    exact LpD.ok_one hr (loop_W ht cd μ out (fun _ => noLpW) (fun _ => noLp) (fun _ => noLp_ad) (fun _ => noLp_ok _) hround x0)) h
end
end Go.Sym
