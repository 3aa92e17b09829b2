/-
  No cell of these rows narrows 'for every input' (looked for: loops, veiled, ifaces, maps, wideKeys, modest, calm, conditions, laid).
  DERIVED. THE GIVEN ROWS OF THIS SEAT. 6 by the template 'for every input the law returns true; each argument reads behind the call as it read before'; 0 by the template 'total and deterministic' (their statements: YtlkbmjdgfbciaaaTotals.lean).
  GIVEN WITH THE SEED: the statements are not yours to turn. If you find one false, say at which input.
  Laid BY PROGRAM, IN A SANDBOX (cutbox-rows.mjs): the forced cells as the released guide's own fill.sh prints them over the translation c27cf7094b2936a8… (all of the seat's roots in one cut). By AI agents, Wed Nov 11 2026. No macro, syntax, notation, axiom, sorry.
-/
import Derived.Test.YtlkbmjdgfbciaaaChecked
import GoSem.Claim
import GoSem.ClaimJoined
import GoSem.ClaimMapViews
import Derived.JoinedTies
import Derived.KernelRfl
namespace Go.Proofs.Ytlkbmjdgfbciaaa
/- THE CELL 'sum', in the pinned program and in every row, IS THE sha256 OF THE DUMP (.gsa) THAT YtlkbmjdgfbciaaaProg.lean LOADS. Nothing in Lean hashes anything: it is a label: what it is worth is what the hold of that sum in a sandbox is worth. -/
noncomputable def Try.pinned : Pinned := { name := "ytlkbmjdgfbciaaa", sum := "c27cf7094b2936a8cd3c4618745fcbe1eb6b80fdccbc6f0049527c06afa97e6f", checked := Try.checked }
namespace Rows
def none {H : Type} : Left H := { results := [], args := [] }

/-- 'sedimentlaw30.NetPlays': WHATEVER THE INPUT: true; the input reads as it did. -/
def netPlaysSpec : ChangeSpec := { name := "netPlays", fn := fun _ => fun
  | [d1, d2] => { results := [.lit (.bool true)], args := [d1, d2] }
  | _ => none }
def netPlaysRow : OpenClaim := { program := "ytlkbmjdgfbciaaa", sum := "c27cf7094b2936a8cd3c4618745fcbe1eb6b80fdccbc6f0049527c06afa97e6f", func := "sediment/sedimentlaw30.NetPlays", spec := "netPlays", apart := false }
def NetPlaysSaid : Prop := netPlaysRow.holds Try.pinned (OpenSpec.ofChange netPlaysSpec)

/-- ITS FALSE NEIGHBOUR: 'it returns false'. Refute it at one input. -/
def netPlaysWrong : ChangeSpec := { name := "netPlays", fn := fun _ => fun
  | [d1, d2] => { results := [.lit (.bool false)], args := [d1, d2] }
  | _ => none }
def NetPlaysWrongFalsely : Prop := netPlaysRow.holds Try.pinned (OpenSpec.ofChange netPlaysWrong)

/-- 'sedimentlaw30.NetKeeps': WHATEVER THE INPUT: true; the input reads as it did. -/
def netKeepsSpec : ChangeSpec := { name := "netKeeps", fn := fun _ => fun
  | [d] => { results := [.lit (.bool true)], args := [d] }
  | _ => none }
def netKeepsRow : OpenClaim := { program := "ytlkbmjdgfbciaaa", sum := "c27cf7094b2936a8cd3c4618745fcbe1eb6b80fdccbc6f0049527c06afa97e6f", func := "sediment/sedimentlaw30.NetKeeps", spec := "netKeeps", apart := false }
def NetKeepsSaid : Prop := netKeepsRow.holds Try.pinned (OpenSpec.ofChange netKeepsSpec)

/-- ITS FALSE NEIGHBOUR: 'it returns false'. Refute it at one input. -/
def netKeepsWrong : ChangeSpec := { name := "netKeeps", fn := fun _ => fun
  | [d] => { results := [.lit (.bool false)], args := [d] }
  | _ => none }
def NetKeepsWrongFalsely : Prop := netKeepsRow.holds Try.pinned (OpenSpec.ofChange netKeepsWrong)

/-- 'sedimentlaw30.NetOrder': WHATEVER THE INPUT: true; the input reads as it did. -/
def netOrderSpec : ChangeSpec := { name := "netOrder", fn := fun _ => fun
  | [d1, d2] => { results := [.lit (.bool true)], args := [d1, d2] }
  | _ => none }
def netOrderRow : OpenClaim := { program := "ytlkbmjdgfbciaaa", sum := "c27cf7094b2936a8cd3c4618745fcbe1eb6b80fdccbc6f0049527c06afa97e6f", func := "sediment/sedimentlaw30.NetOrder", spec := "netOrder", apart := false }
def NetOrderSaid : Prop := netOrderRow.holds Try.pinned (OpenSpec.ofChange netOrderSpec)

/-- ITS FALSE NEIGHBOUR: 'it returns false'. Refute it at one input. -/
def netOrderWrong : ChangeSpec := { name := "netOrder", fn := fun _ => fun
  | [d1, d2] => { results := [.lit (.bool false)], args := [d1, d2] }
  | _ => none }
def NetOrderWrongFalsely : Prop := netOrderRow.holds Try.pinned (OpenSpec.ofChange netOrderWrong)

/-- 'sedimentlaw20.RlogMatches': WHATEVER THE INPUT: true; the input reads as it did. -/
def rlogMatchesSpec : ChangeSpec := { name := "rlogMatches", fn := fun _ => fun
  | [d1, d2, d3] => { results := [.lit (.bool true)], args := [d1, d2, d3] }
  | _ => none }
def rlogMatchesRow : OpenClaim := { program := "ytlkbmjdgfbciaaa", sum := "c27cf7094b2936a8cd3c4618745fcbe1eb6b80fdccbc6f0049527c06afa97e6f", func := "sediment/sedimentlaw20.RlogMatches", spec := "rlogMatches", unfollowed := true, recurses := true, apart := false }
def RlogMatchesSaid : Prop := rlogMatchesRow.holds Try.pinned (OpenSpec.ofChange rlogMatchesSpec)

/-- ITS FALSE NEIGHBOUR: 'it returns false'. Refute it at one input. -/
def rlogMatchesWrong : ChangeSpec := { name := "rlogMatches", fn := fun _ => fun
  | [d1, d2, d3] => { results := [.lit (.bool false)], args := [d1, d2, d3] }
  | _ => none }
def RlogMatchesWrongFalsely : Prop := rlogMatchesRow.holds Try.pinned (OpenSpec.ofChange rlogMatchesWrong)

/-- 'sedimentlaw20.RlogPlays': WHATEVER THE INPUT: true; the input reads as it did. -/
def rlogPlaysSpec : ChangeSpec := { name := "rlogPlays", fn := fun _ => fun
  | [d1, d2, d3] => { results := [.lit (.bool true)], args := [d1, d2, d3] }
  | _ => none }
def rlogPlaysRow : OpenClaim := { program := "ytlkbmjdgfbciaaa", sum := "c27cf7094b2936a8cd3c4618745fcbe1eb6b80fdccbc6f0049527c06afa97e6f", func := "sediment/sedimentlaw20.RlogPlays", spec := "rlogPlays", unfollowed := true, recurses := true, apart := false }
def RlogPlaysSaid : Prop := rlogPlaysRow.holds Try.pinned (OpenSpec.ofChange rlogPlaysSpec)

/-- ITS FALSE NEIGHBOUR: 'it returns false'. Refute it at one input. -/
def rlogPlaysWrong : ChangeSpec := { name := "rlogPlays", fn := fun _ => fun
  | [d1, d2, d3] => { results := [.lit (.bool false)], args := [d1, d2, d3] }
  | _ => none }
def RlogPlaysWrongFalsely : Prop := rlogPlaysRow.holds Try.pinned (OpenSpec.ofChange rlogPlaysWrong)

/-- 'sedimentlaw20.RlogOnce': WHATEVER THE INPUT: true; the input reads as it did. -/
def rlogOnceSpec : ChangeSpec := { name := "rlogOnce", fn := fun _ => fun
  | [d1, d2] => { results := [.lit (.bool true)], args := [d1, d2] }
  | _ => none }
def rlogOnceRow : OpenClaim := { program := "ytlkbmjdgfbciaaa", sum := "c27cf7094b2936a8cd3c4618745fcbe1eb6b80fdccbc6f0049527c06afa97e6f", func := "sediment/sedimentlaw20.RlogOnce", spec := "rlogOnce", unfollowed := true, recurses := true, apart := false }
def RlogOnceSaid : Prop := rlogOnceRow.holds Try.pinned (OpenSpec.ofChange rlogOnceSpec)

/-- ITS FALSE NEIGHBOUR: 'it returns false'. Refute it at one input. -/
def rlogOnceWrong : ChangeSpec := { name := "rlogOnce", fn := fun _ => fun
  | [d1, d2] => { results := [.lit (.bool false)], args := [d1, d2] }
  | _ => none }
def RlogOnceWrongFalsely : Prop := rlogOnceRow.holds Try.pinned (OpenSpec.ofChange rlogOnceWrong)

/- THE SECOND FORM. 'bulk': how many values and letters a reading holds, each counted each time it is reached (what is shared counts as often as it is met; a slice's spare places count too). A statement '..UptoSaid' is the law's where the arguments, and the package variables that the reading takes, are together of bulk at most 1048576: NARROWER than '..Said'. Prove '..Said' where nothing that the law and all that it calls make is longer than what came in: it says more and counts as full. Else prove '..UptoSaid'. A law counts once. -/
mutual
def uptoBulk {H : Type} : DataW H → Nat
  | .lit (.string bytes) => bytes.length + 1
  | .lit _ => 1
  | .nil => 1
  | .ptr d => uptoBulk d + 1
  | .slice elems spare => uptoBulkAll elems + uptoBulkAll spare + 1
  | .agg parts => uptoBulkAll parts + 1
  | .iface _ d => uptoBulk d + 1
  | .map entries => uptoBulkEntries entries + 1
  | .held _ => 1
def uptoBulkAll {H : Type} : List (DataW H) → Nat
  | [] => 0
  | d :: r => uptoBulk d + uptoBulkAll r
def uptoBulkEntries {H : Type} : List (Lit × DataW H) → Nat
  | [] => 0
  | x :: r => uptoBulkEntry x + uptoBulkEntries r
def uptoBulkEntry {H : Type} : Lit × DataW H → Nat
  | (.string bytes, d) => bytes.length + uptoBulk d + 1
  | (_, d) => uptoBulk d + 1
 end
def uptoSmall : (H : Type) → List (DataW H) → Bool := fun _ ds => decide (uptoBulkAll ds ≤ 1048576)
def OpenSpec.upto (s : _root_.Go.ChangeSpec) : _root_.Go.OpenSpec := { _root_.Go.OpenSpec.ofChange s with cond := some uptoSmall }

/-- 'sedimentlaw30.NetPlays', WHERE WHAT IT READS IS OF BULK AT MOST 1048576: true; the input reads as it did. -/
def netPlaysUptoRow : OpenClaim := { program := "ytlkbmjdgfbciaaa", sum := "c27cf7094b2936a8cd3c4618745fcbe1eb6b80fdccbc6f0049527c06afa97e6f", func := "sediment/sedimentlaw30.NetPlays", spec := "netPlays", apart := false, narrowed := true }
def NetPlaysUptoSaid : Prop := netPlaysUptoRow.holds Try.pinned (OpenSpec.upto netPlaysSpec)

/-- 'sedimentlaw30.NetKeeps', WHERE WHAT IT READS IS OF BULK AT MOST 1048576: true; the input reads as it did. -/
def netKeepsUptoRow : OpenClaim := { program := "ytlkbmjdgfbciaaa", sum := "c27cf7094b2936a8cd3c4618745fcbe1eb6b80fdccbc6f0049527c06afa97e6f", func := "sediment/sedimentlaw30.NetKeeps", spec := "netKeeps", apart := false, narrowed := true }
def NetKeepsUptoSaid : Prop := netKeepsUptoRow.holds Try.pinned (OpenSpec.upto netKeepsSpec)

/-- 'sedimentlaw30.NetOrder', WHERE WHAT IT READS IS OF BULK AT MOST 1048576: true; the input reads as it did. -/
def netOrderUptoRow : OpenClaim := { program := "ytlkbmjdgfbciaaa", sum := "c27cf7094b2936a8cd3c4618745fcbe1eb6b80fdccbc6f0049527c06afa97e6f", func := "sediment/sedimentlaw30.NetOrder", spec := "netOrder", apart := false, narrowed := true }
def NetOrderUptoSaid : Prop := netOrderUptoRow.holds Try.pinned (OpenSpec.upto netOrderSpec)

/-- 'sedimentlaw20.RlogMatches', WHERE WHAT IT READS IS OF BULK AT MOST 1048576: true; the input reads as it did. -/
def rlogMatchesUptoRow : OpenClaim := { program := "ytlkbmjdgfbciaaa", sum := "c27cf7094b2936a8cd3c4618745fcbe1eb6b80fdccbc6f0049527c06afa97e6f", func := "sediment/sedimentlaw20.RlogMatches", spec := "rlogMatches", unfollowed := true, recurses := true, apart := false, narrowed := true }
def RlogMatchesUptoSaid : Prop := rlogMatchesUptoRow.holds Try.pinned (OpenSpec.upto rlogMatchesSpec)

/-- 'sedimentlaw20.RlogPlays', WHERE WHAT IT READS IS OF BULK AT MOST 1048576: true; the input reads as it did. -/
def rlogPlaysUptoRow : OpenClaim := { program := "ytlkbmjdgfbciaaa", sum := "c27cf7094b2936a8cd3c4618745fcbe1eb6b80fdccbc6f0049527c06afa97e6f", func := "sediment/sedimentlaw20.RlogPlays", spec := "rlogPlays", unfollowed := true, recurses := true, apart := false, narrowed := true }
def RlogPlaysUptoSaid : Prop := rlogPlaysUptoRow.holds Try.pinned (OpenSpec.upto rlogPlaysSpec)

/-- 'sedimentlaw20.RlogOnce', WHERE WHAT IT READS IS OF BULK AT MOST 1048576: true; the input reads as it did. -/
def rlogOnceUptoRow : OpenClaim := { program := "ytlkbmjdgfbciaaa", sum := "c27cf7094b2936a8cd3c4618745fcbe1eb6b80fdccbc6f0049527c06afa97e6f", func := "sediment/sedimentlaw20.RlogOnce", spec := "rlogOnce", unfollowed := true, recurses := true, apart := false, narrowed := true }
def RlogOnceUptoSaid : Prop := rlogOnceUptoRow.holds Try.pinned (OpenSpec.upto rlogOnceSpec)

end Rows
end Go.Proofs.Ytlkbmjdgfbciaaa
