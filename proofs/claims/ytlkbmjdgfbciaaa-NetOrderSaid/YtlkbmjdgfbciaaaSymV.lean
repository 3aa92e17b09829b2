/-
  Loops that are told inside functions that are walked on the way. No condition.
-/
import Derived.Test.YtlkbmjdgfbciaaaSymP
namespace Go.Sym
set_option linter.unusedSimpArgs false
set_option linter.unusedVariables false

abbrev LpsF := FuncId → Nat → LpF
abbrev LpsW := FuncId → Nat → LpW
noncomputable section
variable (P : Program)
def runTL (self : ESelf) (fuel : Nat) (lpf : LpsF) : ESelf := fun t s => match t with
  | .fn f args => runFnL P self fuel (lpf f s.next) f args s
  | .round l args => runRound P self fuel l args s
def tgtLW (self : SW) (fuel : Nat) (lpw : LpsW) : SW := fun t s k => match t with
  | .fn f args => fnLW P self fuel (lpw f s.next) f args s k
  | .round l args => roundW P self fuel l args s k
def callLE (known : ESelf) (fuel : Nat) (lpf : LpsF) (d : Nat) : ESelf :=
  @Nat.rec (fun _ => ESelf) (fun _ _ => none) (fun _ ih t s => match known t s with
    | some r => some r
    | none => runTL P ih fuel lpf t s) d
def callLW (known : KnW) (fuel : Nat) (lpw : LpsW) (d : Nat) : SW :=
  @Nat.rec (fun _ => SW) (fun _ _ _ => False) (fun _ ih t s k => match known t s with
    | some r => r k
    | none => tgtLW P ih fuel lpw t s k) d
end
section
variable {P : Program}
theorem callL_sound {known : ESelf} (hk : SelfOK P known) (fuel : Nat) {lpf : LpsF} (hl : ∀ g k fn c n, P.funcs[g]? = some fn → fn.body = some c → LpOK P none none n k (lpf g k) c) : ∀ d, SelfOK P (callLE P known fuel lpf d)
  | 0 => fun t s e s' h => by
    have h : none = some (e, s') := h
    cases h
  | d + 1 => fun t s e s' h own ρ w hS n => by
    have h : (match known t s with
      | some r => some r
      | none => runTL P (callLE P known fuel lpf d) fuel lpf t s) = some (e, s') := h
    split at h
    · rename_i r hr
      cases h
      exact hk t s e s' hr own ρ w hS n
    · cases t with
      | fn g args => exact fun A hA => fnL_sound (callL_sound hk fuel hl d) fuel (lpf g s.next) g args s (fun fn c n hf hc => hl g s.next fn c n hf hc) e s' h own ρ w hS n A hA
      | round l args => exact fun x L A hx hL hA _ => round_sound (callL_sound hk fuel hl d) fuel l args s e s' h own ρ w hS n x L A hx hL hA
theorem callLW_ad {kw : KnW} {known : ESelf} (hk : AdK kw known) (hn : NoK kw known) (fuel : Nat) {lpw : LpsW} {lpf : LpsF} (hl : ∀ g k, AdL (lpw g k) (lpf g k)) : ∀ d, AdS (callLW P kw fuel lpw d) (callLE P known fuel lpf d)
  | 0 => fun t s k h => h.elim
  | d + 1 => fun t s k h => by
    have h : (match kw t s with
      | some r => r k
      | none => tgtLW P (callLW P kw fuel lpw d) fuel lpw t s k) := h
    have e : callLE P known fuel lpf (d + 1) t s = (match known t s with
      | some r => some r
      | none => runTL P (callLE P known fuel lpf d) fuel lpf t s) := rfl
    rw [e]
    split at h
    · rename_i r hr
      obtain ⟨e, s', h1, h2⟩ := hk t s r hr k h
      exact ⟨e, s', by rw [h1], h2⟩
    · rename_i hr
      rw [hn t s hr]
      cases t with
      | fn f args => exact fnLW_ad (callLW_ad hk hn fuel hl d) fuel (hl f s.next) f args s k h
      | round l args => exact roundW_ad (callLW_ad hk hn fuel hl d) fuel l args s k h

/-- a told loop of a function that is entered when so many names are taken -/
structure GL where
  f : FuncId
  k : Nat
  l : LpD
def selG (f k : Nat) : List GL → List LpD
  | [] => []
  | g :: gs => bif Nat.beq g.f f && Nat.beq g.k k then g.l :: selG f k gs else selG f k gs
theorem selG_mem {f k : Nat} {l : LpD} : ∀ {gs : List GL}, l ∈ selG f k gs → ∃ g ∈ gs, g.f = f ∧ g.k = k ∧ g.l = l
  | [], h => by cases h
  | g :: gs, h => by
    rw [selG] at h
    cases hb : (Nat.beq g.f f && Nat.beq g.k k) with
    | true =>
      rw [hb, cond_true] at h
      rw [Bool.and_eq_true, Nat.beq_eq, Nat.beq_eq] at hb
      rcases List.mem_cons.1 h with h | h
      · exact ⟨g, List.mem_cons_self, hb.1, hb.2, h.symm⟩
      · obtain ⟨g', h1, h2⟩ := selG_mem h
        exact ⟨g', List.mem_cons_of_mem _ h1, h2⟩
    | false =>
      rw [hb, cond_false] at h
      obtain ⟨g', h1, h2⟩ := selG_mem h
      exact ⟨g', List.mem_cons_of_mem _ h1, h2⟩
noncomputable def glW (gs : List GL) : LpsW := fun f k => lpsW k (selG f k gs)
noncomputable def glF (gs : List GL) : LpsF := fun f k => lpsF k (selG f k gs)
def GLok (P : Program) (gs : List GL) : Prop := ∀ g ∈ gs, ∀ n, g.l.ok P n g.k (bodyOf P g.f)
theorem gl_ok {gs : List GL} (h : GLok P gs) : ∀ g k fn c n, P.funcs[g]? = some fn → fn.body = some c → LpOK P none none n k (glF gs g k) c := by
  intro g k fn c n hf hc
  have hb : bodyOf P g = c := by simp only [bodyOf, hf, hc]
  rw [← hb]
  refine lps_ok fun l hl => ?_
  obtain ⟨g', h1, rfl, rfl, rfl⟩ := selG_mem hl
  exact h g' h1 n
theorem glW_ad (gs : List GL) : ∀ g k, AdL (glW gs g k) (glF gs g k) := fun g k => lps_ad k _

variable {tab : Tab}
/-- a loop, in whose rounds told loops are met -/
theorem loop_G (ht : TabOK P tab) {fuel d n k : Nat} {b : Code} {X : Type} (cd : X → CD) (μ : X → Nat) (out : X → OD) (gs : X → List GL) (hg : ∀ x, GLok P (gs x)) (ls : X → List LpD) (hls : ∀ x, ∀ l ∈ ls x, l.ok P n k b)
    (h : ∀ x, cfgK (cd x) fun c => compW P (callLW P (knW tab) fuel (glW (gs x)) d) fuel none (lpsW k (ls x)) b c (RoundW k cd μ out x)) (x : X) : CodeAt P none none n k (.loop b) (cd x).cfg (out x).ot.den.1 (out x).ot.den.2 :=
  loop_at (fun x => (cd x).cfg) μ (fun x => (out x).ot.den) (fun x => codeL_sound (callL_sound (kn_ok ht) fuel (gl_ok (hg x)) d) fuel (lpsF k (ls x)) b (lps_ok (hls x))) (fun x => by
    obtain ⟨e, c1, h1, h2⟩ := compW_ad (callLW_ad (kn_ad tab) (kn_no tab) fuel (glW_ad (gs x)) d) fuel none (lps_ad k (ls x)) b _ _ ((cfgK_iff _ _).1 (h x))
    refine ⟨e, c1, h1, ?_⟩
    unfold RoundW at h2
    cases hn : notNormal e with
    | false =>
      rw [hn] at h2
      cases e <;> simp [notNormal] at hn
      obtain ⟨x', g1, g2, m, g3⟩ := h2
      exact ⟨x', g1, CD.wk_ok g3, congrArg (fun o => o.ot.den) g2⟩
    | true =>
      rw [hn] at h2
      have := OD.hit_den hn h2
      cases e with
      | normal => exact this.elim
      | exit id => exact this
      | ret => exact this
      | pan v => exact this) x
theorem pure_of_G (ht : TabOK P tab) {fuel d : Nat} {g : FuncId} {args : List V} {v : V} (gs : List GL) (hg : GLok P gs) (ls : List LpD) (hls : ∀ n, ∀ l ∈ ls, l.ok P n 0 (bodyOf P g))
    (h : fnLW P (callLW P (knW tab) fuel (glW gs) d) fuel (lpsW 0 ls) g args s0 (RetW v)) : PureAt P g args v := by
  obtain ⟨e, s', h1, h2⟩ := fnLW_ad (callLW_ad (kn_ad tab) (kn_no tab) fuel (glW_ad gs) d) fuel (lps_ad 0 ls) g args s0 _ h
  exact pure_of_run ht (callL_sound (kn_ok ht) fuel (gl_ok hg) d) (fun fn c n hf hc => by
    have hb : bodyOf P g = c := by simp only [bodyOf, hf, hc]
    rw [← hb]
    exact lps_ok (hls n)) h1 h2
/-- a contract that was walked by hand, of arguments that name no memory -/
theorem pure_of_calls {g : FuncId} {args : List V} {v : V} {A : Array Value} {X : Value} (ha : ∀ φ Y, LRel (envφ φ) args Y → Y = A.toList) (hv : ∀ φ, VRel (envφ φ) v X)
    (h : ∀ w, Calls P g A w fun e w' => e = .returned X ∧ Go.RowKit.Below w.heap.size w w') : PureAt P g args v := by
  intro φ w A' hφ hA
  have e : A' = A := Array.ext' (ha φ _ hA)
  subst e
  refine (h w).mono ?_
  rintro E w' ⟨rfl, hB⟩
  refine ⟨φ, X, rfl, fun _ _ _ h => h, fun _ _ _ => rfl, fun B k u hu => ?_, hv φ, hB⟩
  have hc := hφ B k u hu
  have hlt : B < w.heap.size := Nat.lt_of_not_le fun hh => by simp [World.cell?, Array.getElem?_eq_none hh] at hc
  rw [cell_of_block (h := hB.block B hlt)]
  exact hc
end
end Go.Sym
