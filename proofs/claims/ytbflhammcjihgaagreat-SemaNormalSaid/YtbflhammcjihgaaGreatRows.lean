/-
  No cell of these rows narrows 'for every input' (looked for: loops, veiled, ifaces, maps, wideKeys, modest, calm, conditions, laid).
  DERIVED. THE GIVEN ROWS OF THIS SEAT. 3 by the template 'for every input the law returns true; each argument reads behind the call as it read before'; 0 by the template 'total and deterministic' (their statements: YtbflhammcjihgaaGreatTotals.lean).
  GIVEN WITH THE SEED: the statements are not yours to turn. If you find one false, say at which input.
  Laid BY PROGRAM, IN A SANDBOX (cutbox-rows.mjs): the forced cells as the released guide's own fill.sh prints them over the translation 3f0b2492e37d8fbd… (all of the seat's roots in one cut). By AI agents, Wed Nov 11 2026. No macro, syntax, notation, axiom, sorry.
-/
import Derived.Test.YtbflhammcjihgaaGreatChecked
import GoSem.Claim
import GoSem.ClaimJoined
import GoSem.ClaimMapViews
import Derived.JoinedTies
import Derived.KernelRfl
namespace Go.Proofs.YtbflhammcjihgaaGreat
/- THE CELL 'sum', in the pinned program and in every row, IS THE sha256 OF THE DUMP (.gsa) THAT YtbflhammcjihgaaGreatProg.lean LOADS. Nothing in Lean hashes anything: it is a label: what it is worth is what the hold of that sum in a sandbox is worth. -/
noncomputable def Tryz.pinned : Pinned := { name := "ytbflhammcjihgaagreat", sum := "3f0b2492e37d8fbdc0f5d681ebd8b6d0cc30337355c3c987b04ba12dd7cdf58f", checked := Tryz.checked }
namespace Rows
def none {H : Type} : Left H := { results := [], args := [] }

/-- 'torporlaw10.SemaAnswers': WHATEVER THE INPUT: true; the input reads as it did. -/
def semaAnswersSpec : ChangeSpec := { name := "semaAnswers", fn := fun _ => fun
  | [d1, d2] => { results := [.lit (.bool true)], args := [d1, d2] }
  | _ => none }
def semaAnswersRow : OpenClaim := { program := "ytbflhammcjihgaagreat", sum := "3f0b2492e37d8fbdc0f5d681ebd8b6d0cc30337355c3c987b04ba12dd7cdf58f", func := "torpor/torporlaw10.SemaAnswers", spec := "semaAnswers", unfollowed := true, recurses := true, apart := false }
def SemaAnswersSaid : Prop := semaAnswersRow.holds Tryz.pinned (OpenSpec.ofChange semaAnswersSpec)

/-- ITS FALSE NEIGHBOUR: 'it returns false'. Refute it at one input. -/
def semaAnswersWrong : ChangeSpec := { name := "semaAnswers", fn := fun _ => fun
  | [d1, d2] => { results := [.lit (.bool false)], args := [d1, d2] }
  | _ => none }
def SemaAnswersWrongFalsely : Prop := semaAnswersRow.holds Tryz.pinned (OpenSpec.ofChange semaAnswersWrong)

/-- 'torporlaw10.SemaParks': WHATEVER THE INPUT: true; the input reads as it did. -/
def semaParksSpec : ChangeSpec := { name := "semaParks", fn := fun _ => fun
  | [d1, d2, d3] => { results := [.lit (.bool true)], args := [d1, d2, d3] }
  | _ => none }
def semaParksRow : OpenClaim := { program := "ytbflhammcjihgaagreat", sum := "3f0b2492e37d8fbdc0f5d681ebd8b6d0cc30337355c3c987b04ba12dd7cdf58f", func := "torpor/torporlaw10.SemaParks", spec := "semaParks", unfollowed := true, recurses := true, apart := false }
def SemaParksSaid : Prop := semaParksRow.holds Tryz.pinned (OpenSpec.ofChange semaParksSpec)

/-- ITS FALSE NEIGHBOUR: 'it returns false'. Refute it at one input. -/
def semaParksWrong : ChangeSpec := { name := "semaParks", fn := fun _ => fun
  | [d1, d2, d3] => { results := [.lit (.bool false)], args := [d1, d2, d3] }
  | _ => none }
def SemaParksWrongFalsely : Prop := semaParksRow.holds Tryz.pinned (OpenSpec.ofChange semaParksWrong)

/-- 'torporlaw10.SemaNormal': WHATEVER THE INPUT: true; the input reads as it did. -/
def semaNormalSpec : ChangeSpec := { name := "semaNormal", fn := fun _ => fun
  | [d] => { results := [.lit (.bool true)], args := [d] }
  | _ => none }
def semaNormalRow : OpenClaim := { program := "ytbflhammcjihgaagreat", sum := "3f0b2492e37d8fbdc0f5d681ebd8b6d0cc30337355c3c987b04ba12dd7cdf58f", func := "torpor/torporlaw10.SemaNormal", spec := "semaNormal", unfollowed := true, recurses := true, apart := false }
def SemaNormalSaid : Prop := semaNormalRow.holds Tryz.pinned (OpenSpec.ofChange semaNormalSpec)

/-- ITS FALSE NEIGHBOUR: 'it returns false'. Refute it at one input. -/
def semaNormalWrong : ChangeSpec := { name := "semaNormal", fn := fun _ => fun
  | [d] => { results := [.lit (.bool false)], args := [d] }
  | _ => none }
def SemaNormalWrongFalsely : Prop := semaNormalRow.holds Tryz.pinned (OpenSpec.ofChange semaNormalWrong)

/- THE SECOND FORM. 'bulk': how many values and letters a reading holds, each counted each time it is reached (what is shared counts as often as it is met; a slice's spare places count too). A statement '..UptoSaid' is the law's where the arguments, and the package variables that the reading takes, are together of bulk at most 1048576: NARROWER than '..Said'. Prove '..Said' where nothing that the law and all that it calls make is longer than what came in: it says more and counts as full. Else prove '..UptoSaid'. A law counts once. -/
mutual
def uptoBulk {H : Type} : DataW H → Nat
  | .lit (.string bytes) => bytes.length + 1
  | .lit _ => 1
  | .nil => 1
  | .ptr d => uptoBulk d + 1
  | .slice elems spare => uptoBulkAll elems + uptoBulkAll spare + 1
  | .agg parts => uptoBulkAll parts + 1
  | .iface _ d => uptoBulk d + 1
  | .map entries => uptoBulkEntries entries + 1
  | .held _ => 1
def uptoBulkAll {H : Type} : List (DataW H) → Nat
  | [] => 0
  | d :: r => uptoBulk d + uptoBulkAll r
def uptoBulkEntries {H : Type} : List (Lit × DataW H) → Nat
  | [] => 0
  | x :: r => uptoBulkEntry x + uptoBulkEntries r
def uptoBulkEntry {H : Type} : Lit × DataW H → Nat
  | (.string bytes, d) => bytes.length + uptoBulk d + 1
  | (_, d) => uptoBulk d + 1
 end
def uptoSmall : (H : Type) → List (DataW H) → Bool := fun _ ds => decide (uptoBulkAll ds ≤ 1048576)
def OpenSpec.upto (s : _root_.Go.ChangeSpec) : _root_.Go.OpenSpec := { _root_.Go.OpenSpec.ofChange s with cond := some uptoSmall }

/-- 'torporlaw10.SemaAnswers', WHERE WHAT IT READS IS OF BULK AT MOST 1048576: true; the input reads as it did. -/
def semaAnswersUptoRow : OpenClaim := { program := "ytbflhammcjihgaagreat", sum := "3f0b2492e37d8fbdc0f5d681ebd8b6d0cc30337355c3c987b04ba12dd7cdf58f", func := "torpor/torporlaw10.SemaAnswers", spec := "semaAnswers", unfollowed := true, recurses := true, apart := false, narrowed := true }
def SemaAnswersUptoSaid : Prop := semaAnswersUptoRow.holds Tryz.pinned (OpenSpec.upto semaAnswersSpec)

/-- 'torporlaw10.SemaParks', WHERE WHAT IT READS IS OF BULK AT MOST 1048576: true; the input reads as it did. -/
def semaParksUptoRow : OpenClaim := { program := "ytbflhammcjihgaagreat", sum := "3f0b2492e37d8fbdc0f5d681ebd8b6d0cc30337355c3c987b04ba12dd7cdf58f", func := "torpor/torporlaw10.SemaParks", spec := "semaParks", unfollowed := true, recurses := true, apart := false, narrowed := true }
def SemaParksUptoSaid : Prop := semaParksUptoRow.holds Tryz.pinned (OpenSpec.upto semaParksSpec)

/-- 'torporlaw10.SemaNormal', WHERE WHAT IT READS IS OF BULK AT MOST 1048576: true; the input reads as it did. -/
def semaNormalUptoRow : OpenClaim := { program := "ytbflhammcjihgaagreat", sum := "3f0b2492e37d8fbdc0f5d681ebd8b6d0cc30337355c3c987b04ba12dd7cdf58f", func := "torpor/torporlaw10.SemaNormal", spec := "semaNormal", unfollowed := true, recurses := true, apart := false, narrowed := true }
def SemaNormalUptoSaid : Prop := semaNormalUptoRow.holds Tryz.pinned (OpenSpec.upto semaNormalSpec)

end Rows
end Go.Proofs.YtbflhammcjihgaaGreat
