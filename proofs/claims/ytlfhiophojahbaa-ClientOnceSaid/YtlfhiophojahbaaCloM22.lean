/-
  Texts of this claim, one behind the other: SymO SymP SymV SymT SymAu. Each says its own conditions.
-/
import Derived.Test.YtlfhiophojahbaaCloM21

set_option linter.unusedVariables false
set_option linter.unusedSimpArgs false
set_option linter.unusedSectionVars false
section
namespace Go.Sym
set_option linter.unusedSimpArgs false
set_option linter.unusedVariables false

structure CD where
  n : Nat
  l : List (Nat × V)
  ds : List EDef
  h : List (Nat × EObj)
  next : Nat
noncomputable def CD.cfg (c : CD) : Cfg := ⟨⟨c.n, setsB c.n (repB .any (hOf c.n)) c.l⟩, c.ds, ⟨heapOf c.h, c.next⟩⟩
def slotsF (l : List (Nat × V)) : Nat → Nat → List V
  | 0, _ => []
  | n + 1, i => slotD .any i l :: slotsF l n (i + 1)
def slots (n : Nat) (l : List (Nat × V)) : List V := slotsF l n 0
theorem slotsF_get (l : List (Nat × V)) : ∀ (n j i : Nat), i < n → (slotsF l n j).getD i .undef = slotD .any (j + i) l
  | 0, _, _, h => by omega
  | n + 1, j, 0, _ => rfl
  | n + 1, j, i + 1, h => by
    have := slotsF_get l n (j + 1) i (by omega)
    rw [show j + (i + 1) = j + 1 + i by omega, ← this]
    rfl
def CD.wk (k : Nat) (m : List (Nat × Nat)) (c : CD) (c1 : Cfg) : Prop := wkP k m c1 c.n (slots c.n c.l) c.ds c.h c.next
theorem CD.wk_ok {k : Nat} {m : List (Nat × Nat)} {c : CD} {c1 : Cfg} (h : c.wk k m c1) : Wk k c1 c.cfg := by
  have hw := wkP_ok h
  obtain ⟨h1, _⟩ := guardB_b h
  simp only [Bool.and_eq_true, Nat.ble_eq] at h1
  have h4096 : c.n ≤ 4096 := h1.2.2.2.2
  have hd := hOf_le h4096
  intro own ρ0 ρ A w hk hle hr
  obtain ⟨ρ', g1, g2⟩ := hw own ρ0 ρ A w hk hle hr
  refine ⟨ρ', g1, ⟨?_, g2.d, g2.s⟩⟩
  obtain ⟨f1, d, f2, f3, f4⟩ := g2.f
  refine ⟨f1, hOf c.n, setsB_full (repB_full _ _) _, hd, fun i X hi => ?_⟩
  have hlt : i < c.n := by
    have : c.n = A.tmps.size := f1
    have := (Array.getElem?_eq_some_iff.1 hi).1
    omega
  have := f4 i X hi
  have e : (mkFrm c.n (slots c.n c.l)).t.get i = slotD .any i c.l := by
    show (B.ofList .undef (hOf c.n) (slots c.n c.l)).get i = _
    rw [B.ofList_get _ _ _ _ (by omega), slots, slotsF_get _ _ _ _ hlt, Nat.zero_add]
  show VRel ρ' ((setsB c.n (repB .any (hOf c.n)) c.l).get i) X
  rw [setsB_get hd _ _ hlt, ← e]
  exact this
def cfgK (c : CD) (k : Cfg → Prop) : Prop := frmK c.n .any c.l fun f => forceS ⟨heapOf c.h, c.next⟩ fun s => k ⟨f, c.ds, s⟩
theorem cfgK_iff (c : CD) (k : Cfg → Prop) : cfgK c k ↔ k c.cfg := by rw [cfgK, frmK_iff, forceS_iff]; exact Iff.rfl
def idm : List (Nat × EObj) → List (Nat × Nat)
  | [] => []
  | e :: l => (e.1, e.1) :: idm l

inductive OD where
  | leaf (e : EExit) (c : CD)
  | ite (b : Bool) (l r : OD)
noncomputable def OD.ot : OD → OT
  | .leaf e c => .leaf e c.cfg
  | .ite b l r => .ite b l.ot r.ot
def OD.w (K : KC) : OD → Prop
  | .leaf e c => cfgK c fun c => K e c
  | .ite b l r => iteB b (l.w K) (r.w K)
theorem OD.w_den {K : KC} : ∀ {o : OD}, o.w K → K o.ot.den.1 o.ot.den.2
  | .leaf e c, h => (cfgK_iff _ _).1 h
  | .ite b l r, h => by
    cases b
    · exact OD.w_den (o := r) h
    · exact OD.w_den (o := l) h
theorem CD.wk_as {k : Nat} {c : CD} {c1 : Cfg} (h : c.wk k (idm c.h) c1) : ∃ m, c.wk k m c1 := ⟨_, h⟩
def exitIs (e e0 : EExit) : Prop :=
  match e0 with
  | .exit i0 => (match e with
    | .exit i => guardB (Nat.beq i i0) True
    | _ => False)
  | .ret => (match e with
    | .ret => True
    | _ => False)
  | .pan v0 => (match e with
    | .pan v => v = v0 ∧ guardB v0.flat True
    | _ => False)
  | .normal => False
def OD.hit (k : Nat) (e : EExit) (c1 : Cfg) : OD → Prop
  | .leaf e0 c0 => exitIs e e0 ∧ ∃ m, c0.wk k m c1
  | .ite b l r => iteB b (l.hit k e c1) (r.hit k e c1)
def notNormal : EExit → Bool
  | .normal => false
  | _ => true
def RoundW {X : Type} (k : Nat) (cd : X → CD) (μ : X → Nat) (out : X → OD) (x : X) : KC := fun e c1 => match notNormal e with
  | false => ∃ x', μ x' < μ x ∧ out x' = out x ∧ ∃ m, (cd x').wk k m c1
  | true => (out x).hit k e c1
theorem OD.hit_den {k : Nat} {e : EExit} {c1 : Cfg} : ∀ {o : OD}, notNormal e = true → o.hit k e c1 → match e with
    | .normal => False
    | .exit id => o.ot.den.1 = .exit id ∧ Wk k c1 o.ot.den.2
    | .ret => o.ot.den.1 = .ret ∧ Wk k c1 o.ot.den.2
    | .pan v => o.ot.den.1 = .pan v ∧ v.flat = true ∧ Wk k c1 o.ot.den.2
  | .leaf e0 c0, hn, h => by
    obtain ⟨h1, m, h2⟩ := h
    have hw := CD.wk_ok h2
    cases e0 <;> cases e <;> simp only [exitIs] at h1 <;> simp only [OD.ot, OT.den]
    · obtain ⟨a, _⟩ := guardB_b h1
      have := Nat.eq_of_beq_eq_true a
      subst this
      exact ⟨rfl, hw⟩
    · exact ⟨trivial, hw⟩
    · obtain ⟨a, b⟩ := h1
      subst a
      exact ⟨rfl, (guardB_b b).1, hw⟩
  | .ite b l r, hn, h => by
    simp only [OD.hit] at h
    have h := (iteB_iff _ _ _).1 h
    cases b
    · exact OD.hit_den (o := r) hn (h.2 rfl)
    · exact OD.hit_den (o := l) hn (h.1 rfl)

section
variable {P : Program} {tab : Tab}
theorem loop_W (ht : TabOK P tab) {fuel d n k : Nat} {b : Code} {X : Type} (cd : X → CD) (μ : X → Nat) (out : X → OD) (lw : X → LpW) (lp : X → LpF) (hl : ∀ x, AdL (lw x) (lp x)) (hlb : ∀ x, LpOK P none none n k (lp x) b)
    (h : ∀ x, cfgK (cd x) fun c => compW P (callW P (knW tab) fuel d) fuel none (lw x) b c (RoundW k cd μ out x)) (x : X) : CodeAt P none none n k (.loop b) (cd x).cfg (out x).ot.den.1 (out x).ot.den.2 :=
  loop_at (fun x => (cd x).cfg) μ (fun x => (out x).ot.den) (fun x => codeL_sound (call_sound (kn_ok ht) fuel d) fuel (lp x) b (hlb x)) (fun x => by
    obtain ⟨e, c1, h1, h2⟩ := compW_ad (callW_ad (kn_ad tab) (kn_no tab) fuel d) fuel none (hl x) b _ _ ((cfgK_iff _ _).1 (h x))
    refine ⟨e, c1, h1, ?_⟩
    unfold RoundW at h2
    cases hn : notNormal e with
    | false =>
      rw [hn] at h2
      cases e <;> simp [notNormal] at hn
      obtain ⟨x', g1, g2, m, g3⟩ := h2
      exact ⟨x', g1, CD.wk_ok g3, congrArg (fun o => o.ot.den) g2⟩
    | true =>
      rw [hn] at h2
      have := OD.hit_den hn h2
      cases e with
      | normal => exact this.elim
      | exit id => exact this
      | ret => exact this
      | pan v => exact this) x

def sameR (r : Nat) : Option Nat → Bool
  | some i => Nat.beq i r
  | none => false
noncomputable def loopsIn (r : Nat) : Code → List Code
  | .loop b => bif sameR r (firstR b) then b :: loopsIn r b else loopsIn r b
  | .seq a b => loopsIn r a ++ loopsIn r b
  | .cond _ a b => loopsIn r a ++ loopsIn r b
  | .block _ b => loopsIn r b
  | .scope b => loopsIn r b
  | _ => []
noncomputable def bodyOf (P : Program) (g : FuncId) : Code := match P.funcs[g]? with
  | some fn => (match fn.body with
    | some c => c
    | none => .skip)
  | none => .skip
def headC : List Code → Code
  | [] => .skip
  | b :: _ => b
noncomputable def bodyAt (P : Program) (g : FuncId) (r : Nat) : Code := headC (loopsIn r (bodyOf P g))

structure LpD where
  r : Nat
  m : List (Nat × Nat)
  c : CD
  o : OD
noncomputable def LpD.w (k : Nat) (l : LpD) : CW := fun c K => l.c.wk k l.m c ∧ l.o.w K
noncomputable def LpD.f (k : Nat) (l : LpD) : Cfg → Option (EExit × Cfg) := cutF k l.c.cfg l.o.ot
noncomputable def lpsW (k : Nat) : List LpD → LpW
  | [] => fun _ => none
  | l :: ls => fun id => bif Nat.beq l.r id then some (l.w k) else lpsW k ls id
noncomputable def lpsF (k : Nat) : List LpD → LpF
  | [] => fun _ => none
  | l :: ls => fun id => bif Nat.beq l.r id then some (l.f k) else lpsF k ls id
theorem lps_ad (k : Nat) : ∀ ls : List LpD, AdL (lpsW k ls) (lpsF k ls)
  | [] => fun _ => rfl
  | l :: ls => fun id => by
    simp only [lpsW, lpsF]
    cases Nat.beq l.r id with
    | true => exact ⟨_, rfl, fun c K hk => ⟨_, _, by unfold LpD.f cutF; rw [if_pos (CD.wk_ok hk.1)], OD.w_den hk.2⟩⟩
    | false => exact lps_ad k ls id
theorem lpsF_mem {k : Nat} : ∀ {ls : List LpD} {id : Nat} {F : Cfg → Option (EExit × Cfg)}, lpsF k ls id = some F → ∃ l ∈ ls, l.r = id ∧ F = l.f k
  | [], id, F, h => by cases h
  | l :: ls, id, F, h => by
    simp only [lpsF] at h
    cases hb : Nat.beq l.r id with
    | true => rw [hb, cond_true] at h; cases h; exact ⟨l, List.mem_cons_self, Nat.eq_of_beq_eq_true hb, rfl⟩
    | false =>
      rw [hb, cond_false] at h
      obtain ⟨l', h1, h2⟩ := lpsF_mem h
      exact ⟨l', List.mem_cons_of_mem _ h1, h2⟩
theorem loopsIn_sub : ∀ {c : Code} {ro rr : Option Nat} {n k : Nat} {lp : LpF}, (∀ id F, lp id = some F → ∀ b ∈ loopsIn id c, CodeOK P ro rr n k (.loop b) F) → LpOK P ro rr n k lp c
  | .loop b, ro, rr, n, k, lp, h => by
    refine ⟨fun id F h1 h2 => h id F h2 b ?_, loopsIn_sub fun id F h2 b' hb' => h id F h2 b' ?_⟩
    · simp [loopsIn, h1, sameR]
    · simp only [loopsIn]
      cases sameR id (firstR b)
      · exact hb'
      · exact List.mem_cons_of_mem _ hb'
  | .seq a b, ro, rr, n, k, lp, h => ⟨loopsIn_sub fun id F h2 b' hb' => h id F h2 b' (List.mem_append_left _ hb'), loopsIn_sub fun id F h2 b' hb' => h id F h2 b' (List.mem_append_right _ hb')⟩
  | .cond _ a b, ro, rr, n, k, lp, h => ⟨loopsIn_sub fun id F h2 b' hb' => h id F h2 b' (List.mem_append_left _ hb'), loopsIn_sub fun id F h2 b' hb' => h id F h2 b' (List.mem_append_right _ hb')⟩
  | .block _ b, ro, rr, n, k, lp, h => loopsIn_sub (c := b) fun id F h2 b' hb' => h id F h2 b' (by simpa only [loopsIn] using hb')
  | .scope b, ro, rr, n, k, lp, h => loopsIn_sub (c := b) fun id F h2 b' hb' => h id F h2 b' (by simpa only [loopsIn] using hb')
  | .skip, _, _, _, _, _, _ => trivial
  | .label _, _, _, _, _, _, _ => trivial
  | .ret, _, _, _, _, _, _ => trivial
  | .exit _, _, _, _, _, _, _ => trivial
  | .goto _, _, _, _, _, _, _ => trivial
  | .refuse _, _, _, _, _, _, _ => trivial
  | .region .., _, _, _, _, _, _ => trivial
  | .rangeFunc .., _, _, _, _, _, _ => trivial
def LpD.ok (P : Program) (n k : Nat) (c : Code) (l : LpD) : Prop := ∀ b ∈ loopsIn l.r c, CodeAt P none none n k (.loop b) l.c.cfg l.o.ot.den.1 l.o.ot.den.2
theorem lps_ok {n k : Nat} {c : Code} {ls : List LpD} (h : ∀ l ∈ ls, l.ok P n k c) : LpOK P none none n k (lpsF k ls) c :=
  loopsIn_sub fun id F hF b hb => by
    obtain ⟨l, h1, rfl, rfl⟩ := lpsF_mem hF
    exact cutF_ok (h l h1 b hb)
theorem LpD.ok_one {n k : Nat} {c b : Code} {l : LpD} (hb : loopsIn l.r c = [b]) (h : CodeAt P none none n k (.loop b) l.c.cfg l.o.ot.den.1 l.o.ot.den.2) : l.ok P n k c := by
  intro b' hb'
  rw [hb] at hb'
  rw [List.mem_singleton.1 hb']
  exact h
end
end Go.Sym
end

section
namespace Go.Sym

theorem rowAt_lt {e : List Ty} {L : List (rowDen e)} {i : Nat} (h : i < L.length) : rowAt e L i = L[i] := by
  unfold rowAt
  rw [List.getD_eq_getElem?_getD, List.getElem?_eq_getElem h]
  rfl
theorem PureAt.weak {P : Program} {g : FuncId} {args args' : List V} {v : V} (h : PureAt P g args v) (hw : ∀ (φ : Nat → Nat → Option Value) (X : List Value), LRel (envφ φ) args' X → LRel (envφ φ) args X) : PureAt P g args' v :=
  fun φ w A hφ hA => h φ w A hφ (hw φ _ hA)
theorem asL_eq {e e' : List Ty} {L : List (rowDen e')} {M : List (rowDen e)} (h : asL e e' L = some M) : ∃ q : e' = e, M = castL q L := by
  unfold asL at h
  split at h
  · exact ⟨_, (Option.some.inj h).symm⟩
  · cases h
theorem ofLst_rel {ρ : Env} {e : List Ty} {a : V} {L : List (rowDen e)} (h : ofLst e a = some L) {X : Value} (hX : VRel ρ a X) : VRel ρ (.lst e L false) X := by
  unfold ofLst at h
  split at h
  · obtain ⟨q, rfl⟩ := asL_eq h
    subst q
    simp only [VRel] at hX ⊢
    obtain ⟨a, c, h1, h2, h3, h4, h5⟩ := hX
    exact ⟨a, c, h1, h2, fun h => (by cases h), h4, h5⟩
  · cases h
    simp only [VRel] at hX ⊢
    exact ⟨none, 0, hX, Nat.le_refl _, fun h => (by cases h), fun _ => rfl, fun h => absurd h (Nat.lt_irrefl _)⟩
  · cases h
theorem PureAt.lst {P : Program} {g : FuncId} {e : List Ty} {a : V} {L : List (rowDen e)} {pre rest : List V} {v : V} (h : PureAt P g (pre ++ .lst e L false :: rest) v) (ha : ofLst e a = some L) : PureAt P g (pre ++ a :: rest) v := by
  refine h.weak fun φ => ?_
  clear h
  induction pre with
  | nil =>
    rintro X ⟨x, Y, rfl, h1, h2⟩
    exact ⟨x, Y, rfl, ofLst_rel ha h1, h2⟩
  | cons b pre ih =>
    rintro X ⟨x, Y, rfl, h1, h2⟩
    exact ⟨x, Y, rfl, h1, ih Y h2⟩
theorem seg_all {α : Type} (L : List α) {n : Nat} (h : L.length = n) : seg L 0 n = L := by subst h; simp [seg]
theorem castL_self {e : List Ty} (h : e = e) (L : List (rowDen e)) : castL h L = L := rfl
end Go.Sym
end

section
namespace Go.Sym
set_option linter.unusedSimpArgs false
set_option linter.unusedVariables false

noncomputable section
variable (P : Program)
end
section
variable {P : Program}
structure GL where
  f : FuncId
  k : Nat
  l : LpD
variable {tab : Tab}
theorem pure_of_calls {g : FuncId} {args : List V} {v : V} {A : Array Value} {X : Value} (ha : ∀ φ Y, LRel (envφ φ) args Y → Y = A.toList) (hv : ∀ φ, VRel (envφ φ) v X)
    (h : ∀ w, Calls P g A w fun e w' => e = .returned X ∧ Go.RowKit.Below w.heap.size w w') : PureAt P g args v := by
  intro φ w A' hφ hA
  have e : A' = A := Array.ext' (ha φ _ hA)
  subst e
  refine (h w).mono ?_
  rintro E w' ⟨rfl, hB⟩
  refine ⟨φ, X, rfl, fun _ _ _ h => h, fun _ _ _ => rfl, fun B k u hu => ?_, hv φ, hB⟩
  have hc := hφ B k u hu
  have hlt : B < w.heap.size := Nat.lt_of_not_le fun hh => by simp [World.cell?, Array.getElem?_eq_none hh] at hc
  rw [cell_of_block (h := hB.block B hlt)]
  exact hc
end
end Go.Sym
end

section
namespace Go.Sym
open Go.RowKit (Below)
set_option linter.unusedSimpArgs false
set_option linter.unusedVariables false

noncomputable section
end
section
variable {P : Program}
theorem pure_of_K {kw : KnW} {known : ESelf} (hk : SelfOK P known) (ha : AdK kw known) (hn : NoK kw known) {fuel d : Nat} {g : FuncId} {args : List V} {v : V} (ls : List LpD) (hls : ∀ n, ∀ l ∈ ls, l.ok P n 0 (bodyOf P g))
    (h : fnLW P (callW P kw fuel d) fuel (lpsW 0 ls) g args s0 (RetW v)) : PureAt P g args v := by
  obtain ⟨e, s', h1, h2⟩ := fnLW_ad (callW_ad ha hn fuel d) fuel (lps_ad 0 ls) g args s0 _ h
  exact pure_of_run (tab := noTab) noTab_ok (call_sound hk fuel d) (fun fn c n hf hc => by
    have hb : bodyOf P g = c := by simp only [bodyOf, hf, hc]
    rw [← hb]
    exact lps_ok (hls n)) h1 h2
theorem loop_K {kw : KnW} {known : ESelf} (hk : SelfOK P known) (ha : AdK kw known) (hn : NoK kw known) {fuel d n k : Nat} {b : Code} {X : Type} (cd : X → CD) (μ : X → Nat) (out : X → OD) (ls : X → List LpD) (hls : ∀ x, ∀ l ∈ ls x, l.ok P n k b)
    (h : ∀ x, cfgK (cd x) fun c => compW P (callW P kw fuel d) fuel none (lpsW k (ls x)) b c (RoundW k cd μ out x)) (x : X) : CodeAt P none none n k (.loop b) (cd x).cfg (out x).ot.den.1 (out x).ot.den.2 :=
  loop_at (fun x => (cd x).cfg) μ (fun x => (out x).ot.den) (fun x => codeL_sound (call_sound hk fuel d) fuel (lpsF k (ls x)) b (lps_ok (hls x))) (fun x => by
    obtain ⟨e, c1, h1, h2⟩ := compW_ad (callW_ad ha hn fuel d) fuel none (lps_ad k (ls x)) b _ _ ((cfgK_iff _ _).1 (h x))
    refine ⟨e, c1, h1, ?_⟩
    unfold RoundW at h2
    cases hn : notNormal e with
    | false =>
      rw [hn] at h2
      cases e <;> simp [notNormal] at hn
      obtain ⟨x', g1, g2, m, g3⟩ := h2
      exact ⟨x', g1, CD.wk_ok g3, congrArg (fun o => o.ot.den) g2⟩
    | true =>
      rw [hn] at h2
      have := OD.hit_den hn h2
      cases e with
      | normal => exact this.elim
      | exit id => exact this
      | ret => exact this
      | pan v => exact this) x

end
end Go.Sym
end

section
namespace Go.Sym
set_option linter.unusedVariables false

noncomputable section
mutual
@[reducible] def pairV : V → V → List (Nat × Nat)
  | .ptr b _, w => (match w with
    | .ptr c _ => [(b, c)]
    | _ => [])
  | .rptr b _ _ _, w => (match w with
    | .rptr c _ _ _ => [(b, c)]
    | _ => [])
  | .sl b _ _ _ _ _, w => (match w with
    | .sl c _ _ _ _ _ => [(b, c)]
    | _ => [])
  | .rs b _ _ _ _ _, w => (match w with
    | .rs c _ _ _ _ _ => [(b, c)]
    | _ => [])
  | .map b, w => (match w with
    | .map c => [(b, c)]
    | _ => [])
  | .yld b, w => (match w with
    | .yld c => [(b, c)]
    | _ => [])
  | .iface _ v, w => (match w with
    | .iface _ u => pairV v u
    | _ => [])
  | .agg l, w => (match w with
    | .agg m => pairL l m
    | _ => [])
  | .tup l, w => (match w with
    | .tup m => pairL l m
    | _ => [])
  | .fn _ a c, w => (match w with
    | .fn _ a' c' => pairL a a' ++ pairL c c'
    | _ => [])
  | _, _ => []
@[reducible] def pairL : List V → List V → List (Nat × Nat)
  | [], _ => []
  | v :: l, m => (match m with
    | w :: m => pairV v w ++ pairL l m
    | [] => [])
end
@[reducible] def pairS (f : Frm) (l : List (Nat × V)) : List (Nat × Nat) := @List.rec (Nat × V) (fun _ => List (Nat × Nat)) [] (fun e _ ih => @Prod.rec Nat V (fun _ => List (Nat × Nat)) (fun k v => lapp (pairV v (f.get k)) ih) e) l
@[reducible] def objN (b : Nat) : List (Nat × EObj) → Option EObj
  | [] => none
  | (k, x) :: l => bif Nat.beq k b then some x else objN b l
@[reducible] def pairOb : Option EObj → Option EObj → List (Nat × Nat)
  | some (.cells cs _ _), o => (match o with
    | some (.cells ds _ _) => pairL cs ds
    | _ => [])
  | some (.mit m _ _ _), o => (match o with
    | some (.mit m1 _ _ _) => [(m, m1)]
    | _ => [])
  | some (.loop r), o => (match o with
    | some (.loop q) => [(r.defers, q.defers)]
    | _ => [])
  | _, _ => []
@[reducible] def seenN (b : Nat) : List (Nat × Nat) → Bool
  | [] => false
  | e :: l => bif Nat.beq e.1 b then true else seenN b l
@[reducible] def growM (h : List (Nat × EObj)) (h1 : T EObj) (n : Nat) : List (Nat × Nat) → List (Nat × Nat) → List (Nat × Nat) :=
  @Nat.rec (fun _ => List (Nat × Nat) → List (Nat × Nat) → List (Nat × Nat)) (fun _ acc => acc)
    (fun _ ih pend acc => @List.rec (Nat × Nat) (fun _ => List (Nat × Nat)) acc (fun e l _ => @Bool.rec (fun _ => List (Nat × Nat))
      (@Option.rec EObj (fun _ => List (Nat × Nat)) (ih l acc) (fun o => ih (lapp (pairOb (objN e.1 h) (some o)) l) (lapp acc [e])) (h1.get e.2)) (ih l acc) (seenN e.1 acc)) pend) n
@[reducible] def idK (k : Nat) (l : List (Nat × EObj)) : List (Nat × Nat) := @List.rec (Nat × EObj) (fun _ => List (Nat × Nat)) [] (fun e _ ih => @Prod.rec Nat EObj (fun _ => List (Nat × Nat)) (fun b _ => @Bool.rec (fun _ => List (Nat × Nat)) ih ((b, b) :: ih) (Nat.blt b k)) e) l
@[reducible] def autoM (k : Nat) (c : CD) (c1 : Cfg) : List (Nat × Nat) := growM c.h c1.st.heap 60 (lapp (idK k c.h) (pairS c1.tmps c.l)) []
@[reducible] def keepM (k : Nat) (l : List (Nat × Nat)) : List (Nat × Nat) := @List.rec (Nat × Nat) (fun _ => List (Nat × Nat)) [] (fun e _ ih => @Bool.rec (fun _ => List (Nat × Nat)) (e :: ih) ih (Nat.blt e.1 k)) l
end
theorem seg_len {α : Type} (L : List α) (lo len : Nat) : (seg L lo len).length = min (lo + len) L.length - lo := by
  unfold seg
  rw [List.length_drop, List.length_take]
theorem rowAt_one (k : IntKind) (x : Int) : @Eq Int (rowAt [.int k] ([x] : List Int) 0) x := rfl
theorem rowAt_oneS (x : ByteArray) : @Eq ByteArray (rowAt [.str] ([x] : List ByteArray) 0) x := rfl
theorem bs_app (a b : ByteArray) : (a ++ b).size = a.size + b.size := ByteArray.size_append
theorem strOf_size (l : List Int) : (strOf l).size = l.length := by
  unfold strOf
  show (l.map fun n => UInt8.ofNat n.toNat).toArray.size = _
  rw [List.size_toArray, List.length_map]
theorem bytesL_len (s : ByteArray) : (bytesL s).length = s.size := by
  unfold bytesL
  rw [List.length_map, Array.length_toList]; rfl
theorem lens : (∀ {e : List Ty} (h : e = e) (L : List (rowDen e)), castL h L = L) ∧ (∀ {α : Type} (L : List α) (lo len : Nat), (seg L lo len).length = min (lo + len) L.length - lo) ∧
    (∀ (k : IntKind) (x : Int), @Eq Int (rowAt [.int k] ([x] : List Int) 0) x) ∧ (∀ x : ByteArray, @Eq ByteArray (rowAt [.str] ([x] : List ByteArray) 0) x) ∧
    (∀ {α : Type} {a b : List α}, (a ++ b).length = a.length + b.length) ∧ (∀ {α : Type} {a : α} {l : List α}, (a :: l).length = l.length + 1) ∧ (∀ {α : Type}, ([] : List α).length = 0) ∧
    (∀ {α : Type} {i : Nat} {l : List α}, (l.drop i).length = l.length - i) ∧ (∀ {α : Type} {i : Nat} {l : List α}, (l.take i).length = min i l.length) ∧ (∀ {α : Type} {l : List α} {i : Nat}, (l.eraseIdx i).length = if i < l.length then l.length - 1 else l.length) ∧
    (∀ {α : Type} {n : Nat} {a : α}, (List.replicate n a).length = n) ∧ (∀ {s : ByteArray} {i j : Nat}, (s.extract i j).size = min j s.size - i) ∧ (∀ (s : ByteArray) (i j : Nat), (cutS s i j).size = min j s.size - i) ∧ (∀ a b : ByteArray, (a ++ b).size = a.size + b.size) ∧
    (∀ l : List Int, (strOf l).size = l.length) ∧ (∀ s : ByteArray, (bytesL s).length = s.size) ∧ (∀ a b : Int, maxI a b = max a b) :=
  ⟨castL_self, seg_len, rowAt_one, rowAt_oneS, List.length_append, List.length_cons, List.length_nil, List.length_drop, List.length_take, List.length_eraseIdx, List.length_replicate, ByteArray.size_extract, cutS_size, bs_app, strOf_size, bytesL_len, maxI_eq⟩
theorem andB_room {n b : Nat} {q : Prop} (hb : Nat.ble b 65536 = true) (hn : n ≤ 1000000000) (k : q) : @Bool.rec (fun _ => Prop) False q (roomB n b) := by
  refine andB_i ((roomB_iff n b).2 ?_) k
  have h1 : b ≤ 65536 := Nat.le_of_ble_eq_true hb
  have h2 := Nat.mul_le_mul (show 2 * n + 768 ≤ 2000000768 by omega) h1
  omega
theorem iteB_bt {b : Bool} {p q : Prop} (k : @Bool.rec (fun _ => Prop) q p b) : @Bool.rec (fun _ => Prop) q p (true == b) := by cases b <;> exact k
theorem iteB_bf {b : Bool} {p q : Prop} (k : @Bool.rec (fun _ => Prop) p q b) : @Bool.rec (fun _ => Prop) q p (false == b) := by cases b <;> exact k
theorem iteB_tb {b : Bool} {p q : Prop} (k : @Bool.rec (fun _ => Prop) q p b) : @Bool.rec (fun _ => Prop) q p (b == true) := by cases b <;> exact k
theorem iteB_fb {b : Bool} {p q : Prop} (k : @Bool.rec (fun _ => Prop) p q b) : @Bool.rec (fun _ => Prop) q p (b == false) := by cases b <;> exact k
theorem CD.wk_au {k : Nat} {c : CD} {c1 : Cfg} (h : forceM (keepM k (autoM k c c1)) fun m => c.wk k m c1) : ∃ m, c.wk k m c1 := ⟨_, (forceM_iff _ _).1 h⟩
inductive W1 : Prop → Prop
  | t : W1 True
  | n {b : Bool} {p q : Prop} (k : @Bool.rec (fun _ => Prop) p q b) : W1 (@Bool.rec (fun _ => Prop) q p (!b))
  | ct {b c : Bool} {p q : Prop} (k : @Bool.rec (fun _ => Prop) q p b) : W1 (@Bool.rec (fun _ => Prop) q p (bif true then b else c))
  | cf {b c : Bool} {p q : Prop} (k : @Bool.rec (fun _ => Prop) q p c) : W1 (@Bool.rec (fun _ => Prop) q p (bif false then b else c))
  | bt {b : Bool} {p q : Prop} (k : @Bool.rec (fun _ => Prop) q p b) : W1 (@Bool.rec (fun _ => Prop) q p (true == b))
  | bf {b : Bool} {p q : Prop} (k : @Bool.rec (fun _ => Prop) p q b) : W1 (@Bool.rec (fun _ => Prop) q p (false == b))
  | tb {b : Bool} {p q : Prop} (k : @Bool.rec (fun _ => Prop) q p b) : W1 (@Bool.rec (fun _ => Prop) q p (b == true))
  | fb {b : Bool} {p q : Prop} (k : @Bool.rec (fun _ => Prop) p q b) : W1 (@Bool.rec (fun _ => Prop) q p (b == false))
theorem W1.o {p : Prop} (h : W1 p) : p := by
  cases h with
  | t => exact True.intro
  | n k => exact iteB_n k
  | ct k => exact k
  | cf k => exact k
  | bt k => exact iteB_bt k
  | bf k => exact iteB_bf k
  | tb k => exact iteB_tb k
  | fb k => exact iteB_fb k
inductive W2 : Prop → Prop
  | a {n : Int} {q : Prop} (h : -9223372036854775808 ≤ n ∧ n ≤ 9223372036854775807) (k : q) : W2 (@Bool.rec (fun _ => Prop) False q (inI n))
  | b {p : Prop} [Decidable p] {q : Prop} (h : p) (k : q) : W2 (@Bool.rec (fun _ => Prop) False q (decide p))
  | c {a b : Int} {q : Prop} (h : a < b) (k : q) : W2 (@Bool.rec (fun _ => Prop) False q (ltI a b))
  | d {a b : Int} {q : Prop} (h : a ≤ b) (k : q) : W2 (@Bool.rec (fun _ => Prop) False q (leI a b))
  | e {a b : Int} {p q : Prop} (h : a < b) (k : p) : W2 (@Bool.rec (fun _ => Prop) q p (ltI a b))
  | f {a b : Int} {p q : Prop} (h : a ≤ b) (k : p) : W2 (@Bool.rec (fun _ => Prop) q p (leI a b))
  | g {c : Prop} [Decidable c] {p q : Prop} (h : c) (k : p) : W2 (@Bool.rec (fun _ => Prop) q p (decide c))
theorem W2.o {p : Prop} (h : W2 p) : p := by
  cases h with
  | a h k => exact andB_in h k
  | b h k => exact andB_d h k
  | c h k => exact andB_lt h k
  | d h k => exact andB_le h k
  | e h k => exact iteB_ltt h k
  | f h k => exact iteB_let h k
  | g h k => exact iteB_dt h k
inductive W3 : Prop → Prop
  | a {a b : Int} {p q : Prop} (h : ¬ a < b) (k : q) : W3 (@Bool.rec (fun _ => Prop) q p (ltI a b))
  | b {a b : Int} {p q : Prop} (h : ¬ a ≤ b) (k : q) : W3 (@Bool.rec (fun _ => Prop) q p (leI a b))
  | c {c : Prop} [Decidable c] {p q : Prop} (h : ¬ c) (k : q) : W3 (@Bool.rec (fun _ => Prop) q p (decide c))
theorem W3.o {p : Prop} (h : W3 p) : p := by
  cases h with
  | a h k => exact iteB_ltf h k
  | b h k => exact iteB_lef h k
  | c h k => exact iteB_df h k
inductive W4 : Prop → Prop
  | a {b : Bool} {q : Prop} (h : b = true) (k : q) : W4 (@Bool.rec (fun _ => Prop) False q b)
  | b {b : Bool} {p q : Prop} (h : b = true) (k : p) : W4 (@Bool.rec (fun _ => Prop) q p b)
theorem W4.o {p : Prop} (h : W4 p) : p := by
  cases h with
  | a h k => exact andB_i h k
  | b h k => exact iteB_t h k
inductive W5 : Prop → Prop
  | a {n : Int} {q : Prop} (h : -9223372036854775808 ≤ n ∧ n ≤ 9223372036854775807) (k : q) : W5 (@Bool.rec (fun _ => Prop) False q (inI n))
  | b {a b : Int} {q : Prop} (h : a < b) (k : q) : W5 (@Bool.rec (fun _ => Prop) False q (ltI a b))
  | c {a b : Int} {q : Prop} (h : a ≤ b) (k : q) : W5 (@Bool.rec (fun _ => Prop) False q (leI a b))
  | d {p : Prop} [Decidable p] {q : Prop} (h : p) (k : q) : W5 (@Bool.rec (fun _ => Prop) False q (decide p))
  | e {b : Bool} {q : Prop} (h : b = true) (k : q) : W5 (@Bool.rec (fun _ => Prop) False q b)
  | f {k : Nat} {c : CD} {c1 : Cfg} (h : c.wk k (idm c.h) c1) : W5 (∃ m, c.wk k m c1)
  | g {a b : Prop} (h : a) (k : b) : W5 (a ∧ b)
theorem W5.o {p : Prop} (h : W5 p) : p := by
  cases h with
  | a h k => exact andB_in h k
  | b h k => exact andB_lt h k
  | c h k => exact andB_le h k
  | d h k => exact andB_d h k
  | e h k => exact andB_i h k
  | f h => exact CD.wk_as h
  | g h k => exact ⟨h, k⟩
inductive W6 : Prop → Prop
  | a {a b : Int} {p q : Prop} (h : a < b → p) (k : ¬ a < b → q) : W6 (@Bool.rec (fun _ => Prop) q p (ltI a b))
  | b {a b : Int} {p q : Prop} (h : a ≤ b → p) (k : ¬ a ≤ b → q) : W6 (@Bool.rec (fun _ => Prop) q p (leI a b))
  | c {c : Prop} [Decidable c] {p q : Prop} (h : c → p) (k : ¬ c → q) : W6 (@Bool.rec (fun _ => Prop) q p (decide c))
  | d {b : Bool} {p q : Prop} (h : b = true → p) (k : b = false → q) : W6 (@Bool.rec (fun _ => Prop) q p b)
theorem W6.o {p : Prop} (h : W6 p) : p := by
  cases h with
  | a h k => exact iteB_lts h k
  | b h k => exact iteB_les h k
  | c h k => exact iteB_ds h k
  | d h k => exact iteB_s h k
end Go.Sym
end
