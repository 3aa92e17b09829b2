/-
  Methods: calls with a pointer to an object of plain cells, that return a value and leave the cells anew. No condition.
-/
import Derived.Test.YtlkbmjdgfbciaaaSymV
namespace Go.Sym
open Go.RowKit (Below)
set_option linter.unusedSimpArgs false
set_option linter.unusedVariables false

noncomputable def sOne (cs : List V) (t : TypeId) (ish : Bool) : St := ⟨T.set T.leaf 0 (some (.cells cs t ish)), 1⟩
/-- a call with a pointer to just these cells returns that, leaves those cells, and changes nothing else that was there -/
def MethAt (P : Program) (g : FuncId) (cs args : List V) (v : V) (cs' : List V) : Prop := ∀ (t : TypeId) (ish : Bool) (own : Own) (ρ : Env) (w : World) (A : Array Value) (x : Blk), SRel own ρ (sOne cs t ish) w → ρ 0 = some x → LRel ρ (.ptr 0 0 :: args) A.toList →
  Calls P g A w fun E w' => ∃ X, E = .returned X ∧ VRel ρ v X ∧ Fr own w w' ∧ ORel ρ x.O x.S w'.heap[x.B]? (.cells cs' t ish)

theorem ORel.cells_flat {ρ ρ' : Env} {O S : Nat} {X : Option Obj} {cs : List V} {t : TypeId} {ish : Bool} (hf : flatL cs = true) (h : ORel ρ O S X (.cells cs t ish)) : ORel ρ' O S X (.cells cs t ish) := by
  obtain ⟨C, t', fr, h1, h2, h3, h4, h5⟩ := h
  refine ⟨C, t', fr, h1, h2, h3, fun i v hi => ?_, h5⟩
  obtain ⟨W, g1, g2⟩ := h4 i v hi
  refine ⟨W, g1, VRel.flat v W ?_ g2⟩
  have : ∀ (l : List V) (i : Nat), flatL l = true → l[i]? = some v → v.flat = true := by
    intro l
    induction l with
    | nil => intro i _ h; simp at h
    | cons a l ih =>
      intro i hl h
      simp only [flatL, Bool.and_eq_true] at hl
      cases i with
      | zero => simp at h; subst h; exact hl.1
      | succ i => simp at h; exact ih i hl.2 h
  exact this cs i hf hi
theorem ORel.cells_bare {ρ ρ' : Env} (hφ : subφ ρ.φ ρ'.φ) {O S : Nat} {X : Option Obj} {cs : List V} {t : TypeId} {ish : Bool} (hf : bareL cs = true) (h : ORel ρ O S X (.cells cs t ish)) : ORel ρ' O S X (.cells cs t ish) := by
  obtain ⟨C, t', fr, h1, h2, h3, h4, h5⟩ := h
  refine ⟨C, t', fr, h1, h2, h3, fun i v hi => ?_, h5⟩
  obtain ⟨W, g1, g2⟩ := h4 i v hi
  refine ⟨W, g1, VRel.bare hφ v W ?_ g2⟩
  have : ∀ (l : List V) (i : Nat), bareL l = true → l[i]? = some v → v.bare = true := by
    intro l
    induction l with
    | nil => intro i _ h; simp at h
    | cons a l ih =>
      intro i hl h
      simp only [bareL, Bool.and_eq_true] at hl
      cases i with
      | zero => simp at h; subst h; exact hl.1
      | succ i => simp at h; exact ih i hl.2 h
  exact this cs i hf hi

abbrev MTab := FuncId → List V → List V → Option (List Bool × V × List V)
def MTabOK (P : Program) (mt : MTab) : Prop := ∀ g cs args c v cs', mt g cs args = some (c, v, cs') → allB c → MethAt P g cs args v cs'
noncomputable section
def mtAt (mt : MTab) (t : ETgt) (s : St) : Option (List Bool × V × Nat × EObj) :=
  match t with
  | .fn g (.ptr b o :: args) => (match Nat.beq o 0 && bareL args with
    | true => (match s.heap.get b with
      | some (.cells cs ty ish) => (match bareL cs with
        | true => (match mt g cs args with
          | some (c, v, cs') => bif v.flat && flatL cs' then some (c, v, b, .cells cs' ty ish) else none
          | none => none)
        | false => none)
      | _ => none)
    | false => none)
  | _ => none
def knMW (mt : MTab) (tab : Tab) : KnW := fun t s => match mtAt mt t s with
  | some (c, v, b, o) => some fun k => needsR c (forceS (s.upd b o) fun s => k (.ret v) s)
  | none => knW tab t s
def knME (mt : MTab) (tab : Tab) : ESelf := fun t s => match mtAt mt t s with
  | some (c, v, b, o) => bif allb c then some (.ret v, s.upd b o) else none
  | none => knE tab t s
end
theorem knM_ad (mt : MTab) (tab : Tab) : AdK (knMW mt tab) (knME mt tab) := by
  intro t s r hr k hk
  unfold knMW at hr
  unfold knME
  split at hr
  · rename_i c v b o hc
    cases hr
    obtain ⟨h1, h2⟩ := needs_b hk
    rw [forceS_iff] at h2
    exact ⟨_, _, by simp only [h1, cond_true], h2⟩
  · exact kn_ad tab t s r hr k hk
theorem knM_no (mt : MTab) (tab : Tab) : NoK (knMW mt tab) (knME mt tab) := by
  intro t s h
  unfold knMW at h
  unfold knME
  split at h
  · cases h
  · exact kn_no tab t s h

section
variable {P : Program}
theorem sOne_get {cs : List V} {t : TypeId} {ish : Bool} {b : Nat} {o : EObj} (h : (sOne cs t ish).heap.get b = some o) : b = 0 ∧ o = .cells cs t ish := by
  have h : T.get (T.set T.leaf 0 (some (.cells cs t ish))) b = some o := h
  rw [T.get_set] at h
  split at h
  · rename_i e; cases h; exact ⟨e, rfl⟩
  · rw [T.get_leaf] at h; cases h
theorem knM_ok {mt : MTab} {tab : Tab} (hm : MTabOK P mt) (ht : TabOK P tab) : SelfOK P (knME mt tab) := by
  intro t s e s' hk own ρ w hS n
  unfold knME at hk
  split at hk
  · rename_i c v b o hc
    cases hcc : allb c with
    | false => rw [hcc] at hk; cases hk
    | true =>
    rw [hcc, cond_true] at hk
    cases hk
    have hcc := (allb_iff c).1 hcc
    cases t with
    | round l args => cases hc
    | fn g args =>
      intro A hA
      unfold mtAt at hc
      split at hc
      · rename_i g' b' o' args' heq
        cases heq
        split at hc
        · rename_i hb
          rw [Bool.and_eq_true] at hb
          obtain ⟨hb1, hb2⟩ := hb
          have hb1 := Nat.eq_of_beq_eq_true hb1
          subst hb1
          split at hc
          · rename_i cs ty ish hg
            split at hc
            · rename_i hbc
              split at hc
              · rename_i c1 v1 cs1 hmt
                cases hfl : (v1.flat && flatL cs1) with
                | false => rw [hfl] at hc; cases hc
                | true =>
                rw [hfl, cond_true] at hc
                cases hc
                rw [Bool.and_eq_true] at hfl
                obtain ⟨X0, Y0, hAe, hp, hrest⟩ := hA
                simp only [VRel] at hp
                obtain ⟨B, O, S, hρ, rfl⟩ := hp
                obtain ⟨⟨hown, hφ0⟩, hobj⟩ := hS.obj b _ _ hg hρ
                have hlt := hS.lt hg hρ
                let ρ1 : Env := ⟨fun k => if k = 0 then some ⟨B, O, S⟩ else none, 1, ρ.φ⟩
                let own1 : Own := ⟨fun k => k = B ∨ w.heap.size ≤ k, ρ.φ⟩
                have hS1 : SRel own1 ρ1 (sOne cs ty ish) w := by
                  refine ⟨fun k hk => .inr hk, fun b' o' x' hb' hx' => ?_, fun b1 b2 o1 o2 x1 x2 h1 h2 _ _ hne => ?_, fun b' x' hx' => ?_, Nat.le_refl _, hS.fz, fun _ _ _ => rfl⟩
                  · obtain ⟨rfl, rfl⟩ := sOne_get hb'
                    have : (some ⟨B, O, S⟩ : Option Blk) = some x' := hx'
                    cases this
                    exact ⟨⟨.inl rfl, hφ0⟩, ORel.cells_bare (ρ := ρ) (ρ' := ρ1) (fun _ _ _ h => h) hbc hobj⟩
                  · obtain ⟨rfl, _⟩ := sOne_get h1
                    obtain ⟨rfl, _⟩ := sOne_get h2
                    exact absurd rfl hne
                  · have hx' : (if b' = 0 then some (⟨B, O, S⟩ : Blk) else none) = some x' := hx'
                    split at hx'
                    · rename_i e; subst e; exact Nat.zero_lt_one
                    · cases hx'
                have hA1 : LRel ρ1 (.ptr 0 0 :: args') A.toList := ⟨_, _, hAe, ⟨B, O, S, rfl, rfl⟩, LRel.bare (ρ := ρ) (ρ' := ρ1) (fun _ _ _ h => h) args' _ hb2 hrest⟩
                have hp := hm g cs args' c v cs1 hmt hcc ty ish own1 ρ1 w A ⟨B, O, S⟩ hS1 rfl hA1
                refine callsIn_wide.2 (hp.mono ?_)
                rintro E w' ⟨X, rfl, h2, h3, h4⟩
                have hblk : ∀ k, k ≠ B → k < w.heap.size → w'.heap[k]? = w.heap[k]? := fun k h1 h2 => h3.block k fun h => by
                  have h : k = B ∨ w.heap.size ≤ k := h
                  omega
                refine ⟨ρ, Env.le_refl ρ, ⟨X, rfl, VRel.flat v X hfl.1 h2⟩, ⟨fun k hk => hS.le k (Nat.le_trans h3.size hk), fun b' o' x' hb' hx' => ?_, fun b1 b2 o1 o2 x1 x2 g1 g2 y1 y2 hne => ?_, hS.dom, hS.top, fun B' k u hu => ?_, hS.old⟩, ⟨h3.os, h3.tape, h3.output, h3.size, fun k hk => ?_⟩⟩
                · simp only [St.upd, T.get_set] at hb'
                  split at hb'
                  · rename_i e; subst e
                    cases hb'
                    have hx' : ρ b' = some x' := hx'
                    rw [hρ] at hx'
                    cases hx'
                    exact ⟨⟨hown, hφ0⟩, ORel.cells_flat hfl.2 h4⟩
                  · rename_i hne
                    obtain ⟨q1, q2⟩ := hS.obj b' o' x' hb' hx'
                    refine ⟨q1, ?_⟩
                    rw [hblk _ (hS.inj b' b _ _ _ _ hb' hg hx' hρ hne) (hS.lt hb' hx')]
                    exact q2
                · have hget : ∀ b' o', (s.upd b (.cells cs1 ty ish)).heap.get b' = some o' → ∃ o'', s.heap.get b' = some o'' := fun b' o' hb' => by
                    simp only [St.upd, T.get_set] at hb'
                    split at hb'
                    · rename_i e; subst e; exact ⟨_, hg⟩
                    · exact ⟨_, hb'⟩
                  obtain ⟨_, q1⟩ := hget _ _ g1
                  obtain ⟨_, q2⟩ := hget _ _ g2
                  exact hS.inj b1 b2 _ _ x1 x2 q1 q2 y1 y2 hne
                · have hc := hS.fz B' k u hu
                  have hlt : B' < w.heap.size := Nat.lt_of_not_le fun hh => by simp [World.cell?, Array.getElem?_eq_none hh] at hc
                  have hne : B' ≠ B := fun e => by subst e; rw [hφ0] at hu; cases hu
                  rw [cell_of_block (hblk _ hne hlt)]
                  exact hc
                · exact hblk k (fun e => hk (by subst e; exact hown)) (Nat.lt_of_not_le fun h => hk (hS.le k h))
              · cases hc
            · cases hc
          · cases hc
        · cases hc
      · cases hc
  · exact kn_ok ht t s e s' hk own ρ w hS n

/-! ### contracts, from the evaluator, by whatever is known -/
theorem pure_of_K {kw : KnW} {known : ESelf} (hk : SelfOK P known) (ha : AdK kw known) (hn : NoK kw known) {fuel d : Nat} {g : FuncId} {args : List V} {v : V} (ls : List LpD) (hls : ∀ n, ∀ l ∈ ls, l.ok P n 0 (bodyOf P g))
    (h : fnLW P (callW P kw fuel d) fuel (lpsW 0 ls) g args s0 (RetW v)) : PureAt P g args v := by
  obtain ⟨e, s', h1, h2⟩ := fnLW_ad (callW_ad ha hn fuel d) fuel (lps_ad 0 ls) g args s0 _ h
  exact pure_of_run (tab := noTab) noTab_ok (call_sound hk fuel d) (fun fn c n hf hc => by
    have hb : bodyOf P g = c := by simp only [bodyOf, hf, hc]
    rw [← hb]
    exact lps_ok (hls n)) h1 h2
/-- a function that calls methods -/
theorem pure_of_M {mt : MTab} {tab : Tab} (hm : MTabOK P mt) (ht : TabOK P tab) {fuel d : Nat} {g : FuncId} {args : List V} {v : V} (h : fnLW P (callW P (knMW mt tab) fuel d) fuel noLpW g args s0 (RetW v)) : PureAt P g args v := by
  obtain ⟨e, s', h1, h2⟩ := fnLW_ad (callW_ad (knM_ad mt tab) (knM_no mt tab) fuel d) fuel noLp_ad g args s0 _ h
  exact pure_of_run (tab := noTab) noTab_ok (call_sound (knM_ok hm ht) fuel d) (fun _ c _ _ _ => noLp_ok c) h1 h2
theorem loop_K {kw : KnW} {known : ESelf} (hk : SelfOK P known) (ha : AdK kw known) (hn : NoK kw known) {fuel d n k : Nat} {b : Code} {X : Type} (cd : X → CD) (μ : X → Nat) (out : X → OD) (ls : X → List LpD) (hls : ∀ x, ∀ l ∈ ls x, l.ok P n k b)
    (h : ∀ x, cfgK (cd x) fun c => compW P (callW P kw fuel d) fuel none (lpsW k (ls x)) b c (RoundW k cd μ out x)) (x : X) : CodeAt P none none n k (.loop b) (cd x).cfg (out x).ot.den.1 (out x).ot.den.2 :=
  loop_at (fun x => (cd x).cfg) μ (fun x => (out x).ot.den) (fun x => codeL_sound (call_sound hk fuel d) fuel (lpsF k (ls x)) b (lps_ok (hls x))) (fun x => by
    obtain ⟨e, c1, h1, h2⟩ := compW_ad (callW_ad ha hn fuel d) fuel none (lps_ad k (ls x)) b _ _ ((cfgK_iff _ _).1 (h x))
    refine ⟨e, c1, h1, ?_⟩
    unfold RoundW at h2
    cases hn : notNormal e with
    | false =>
      rw [hn] at h2
      cases e <;> simp [notNormal] at hn
      obtain ⟨x', g1, g2, m, g3⟩ := h2
      exact ⟨x', g1, CD.wk_ok g3, congrArg (fun o => o.ot.den) g2⟩
    | true =>
      rw [hn] at h2
      have := OD.hit_den hn h2
      cases e with
      | normal => exact this.elim
      | exit id => exact this
      | ret => exact this
      | pan v => exact this) x

/-- what a method returns and leaves -/
def RetM (v : V) (cs' : List V) (t : TypeId) (ish : Bool) : KS := fun e s' => match e with
  | .ret v' => (match s'.heap.get 0 with
    | some (.cells cs t' ish') => guardB (v.flat && flatL cs') (forceV 4 v' fun v' => v' = v ∧ cs = cs' ∧ t' = t ∧ ish' = ish)
    | _ => False)
  | .pan _ => False
theorem meth_of_K {kw : KnW} {known : ESelf} (hk : SelfOK P known) (ha : AdK kw known) (hn : NoK kw known) {fuel d : Nat} {g : FuncId} {cs args : List V} {v : V} {cs' : List V} (ls : TypeId → Bool → List LpD) (hls : ∀ t ish n, ∀ l ∈ ls t ish, l.ok P n 1 (bodyOf P g))
    (h : ∀ t ish, fnLW P (callW P kw fuel d) fuel (lpsW 1 (ls t ish)) g (.ptr 0 0 :: args) (sOne cs t ish) (RetM v cs' t ish)) : MethAt P g cs args v cs' := by
  intro t ish own ρ w A x hS hx hA
  obtain ⟨e, s', h1, h2⟩ := fnLW_ad (callW_ad ha hn fuel d) fuel (lps_ad 1 (ls t ish)) g _ _ _ (h t ish)
  have := fnL_sound (call_sound hk fuel d) fuel (lpsF 1 (ls t ish)) g (.ptr 0 0 :: args) (sOne cs t ish) (fun fn c n hf hc => by
    have hb : bodyOf P g = c := by simp only [bodyOf, hf, hc]
    rw [← hb]
    exact lps_ok (hls t ish n)) e s' h1 own ρ w hS 0 A hA
  refine (callsIn_wide.1 this).mono ?_
  rintro E w' ⟨ρ', g1, g2, g3, g4⟩
  cases e with
  | pan v' => exact h2.elim
  | ret v' =>
    obtain ⟨X, rfl, hX⟩ := g2
    simp only [RetM] at h2
    split at h2
    · rename_i cs1 t1 ish1 hg
      obtain ⟨hf, h3⟩ := guardB_b h2
      rw [forceV_iff] at h3
      obtain ⟨rfl, rfl, rfl, rfl⟩ := h3
      rw [Bool.and_eq_true] at hf
      exact ⟨X, rfl, VRel.flat _ X hf.1 hX, g4, ORel.cells_flat hf.2 (g3.obj 0 _ x hg (g1.sub.1 _ _ hx)).2⟩
    · exact h2.elim
theorem meth_of_W0 {tab : Tab} (ht : TabOK P tab) {fuel d : Nat} {g : FuncId} {cs args : List V} {v : V} {cs' : List V}
    (h : ∀ t ish, fnLW P (callW P (knW tab) fuel d) fuel (lpsW 1 []) g (.ptr 0 0 :: args) (sOne cs t ish) (RetM v cs' t ish)) : MethAt P g cs args v cs' :=
  meth_of_K (kn_ok ht) (kn_ad tab) (kn_no tab) (fun _ _ => []) (fun _ _ _ _ h => by cases h) h
/-- a method that calls methods -/
theorem meth_of_M {mt : MTab} {tab : Tab} (hm : MTabOK P mt) (ht : TabOK P tab) {fuel d : Nat} {g : FuncId} {cs args : List V} {v : V} {cs' : List V}
    (h : ∀ t ish, fnLW P (callW P (knMW mt tab) fuel d) fuel (lpsW 1 []) g (.ptr 0 0 :: args) (sOne cs t ish) (RetM v cs' t ish)) : MethAt P g cs args v cs' :=
  meth_of_K (knM_ok hm ht) (knM_ad mt tab) (knM_no mt tab) (fun _ _ => []) (fun _ _ _ _ h => by cases h) h
/-- a method with one loop, and none in it -/
theorem meth_of_loop {tab : Tab} (ht : TabOK P tab) {fuel d : Nat} {g : FuncId} {cs args : List V} {v : V} {cs' : List V} (r : Nat) {X : Type} (cd : TypeId → Bool → X → CD) (μ : X → Nat) (out : TypeId → Bool → X → OD) (x0 : X) (m : List (Nat × Nat)) (hr : loopsIn r (bodyOf P g) = [bodyAt P g r])
    (hround : ∀ t ish x, cfgK (cd t ish x) fun c => compW P (callW P (knW tab) fuel d) fuel none noLpW (bodyAt P g r) c (RoundW 1 (cd t ish) μ (out t ish) x))
    (h : ∀ t ish, fnLW P (callW P (knW tab) fuel d) fuel (lpsW 1 [⟨r, m, cd t ish x0, out t ish x0⟩]) g (.ptr 0 0 :: args) (sOne cs t ish) (RetM v cs' t ish)) : MethAt P g cs args v cs' :=
  meth_of_K (kn_ok ht) (kn_ad tab) (kn_no tab) (fun t ish => [⟨r, m, cd t ish x0, out t ish x0⟩]) (fun t ish n l hl => by
    rw [List.mem_singleton.1 hl]
    exact LpD.ok_one hr (loop_W ht (cd t ish) μ (out t ish) (fun _ => noLpW) (fun _ => noLp) (fun _ => noLp_ad) (fun _ => noLp_ok _) (hround t ish) x0)) h
/-- names above k as they are -/
def idmk (k : Nat) : List (Nat × EObj) → List (Nat × Nat)
  | [] => []
  | e :: l => bif Nat.blt e.1 k then idmk k l else (e.1, e.1) :: idmk k l
theorem CD.wk_ask {k : Nat} {c : CD} {c1 : Cfg} (h : c.wk k (idmk k c.h) c1) : ∃ m, c.wk k m c1 := ⟨_, h⟩
def noMT : MTab := fun _ _ _ => none
theorem noMT_ok : MTabOK P noMT := fun _ _ _ _ _ _ h => by cases h
def oneMT (f : FuncId) (F : List V → List V → Option (List Bool × V × List V)) (b : MTab) : MTab := fun g cs args => bif Nat.beq g f then F cs args else b g cs args
theorem oneMT_ok {f : FuncId} {F : List V → List V → Option (List Bool × V × List V)} {b : MTab} (hF : ∀ cs args c v cs', F cs args = some (c, v, cs') → allB c → MethAt P f cs args v cs') (hb : MTabOK P b) : MTabOK P (oneMT f F b) := by
  intro g cs args c v cs' h
  unfold oneMT at h
  cases hg : Nat.beq g f with
  | true => rw [hg, cond_true] at h; rw [Nat.eq_of_beq_eq_true hg]; exact hF cs args c v cs' h
  | false => rw [hg, cond_false] at h; exact hb g cs args c v cs' h
end
end Go.Sym
