/-
  No cell of these rows narrows 'for every input' (looked for: loops, veiled, ifaces, maps, wideKeys, modest, calm, conditions, laid).
  DERIVED. THE GIVEN ROWS OF THIS SEAT. 4 by the template 'for every input the law returns true; each argument reads behind the call as it read before'; 0 by the template 'total and deterministic' (their statements: YtjcclccdjeekkaaTotals.lean).
  GIVEN WITH THE SEED: the statements are not yours to turn. If you find one false, say at which input.
  Laid BY PROGRAM, IN A SANDBOX (cutbox-rows.mjs): the forced cells as the released guide's own fill.sh prints them over the translation a9e6187a9e39d1c4… (all of the seat's roots in one cut). By AI agents, Wed Nov 11 2026. No macro, syntax, notation, axiom, sorry.
-/
import Derived.Test.YtjcclccdjeekkaaChecked
import GoSem.Claim
import GoSem.ClaimJoined
import GoSem.ClaimMapViews
import Derived.JoinedTies
import Derived.KernelRfl
namespace Go.Proofs.Ytjcclccdjeekkaa
/- THE CELL 'sum', in the pinned program and in every row, IS THE sha256 OF THE DUMP (.gsa) THAT YtjcclccdjeekkaaProg.lean LOADS. Nothing in Lean hashes anything: it is a label: what it is worth is what the hold of that sum in a sandbox is worth. -/
noncomputable def Try.pinned : Pinned := { name := "ytjcclccdjeekkaa", sum := "a9e6187a9e39d1c431c3cad97ae3cf3c60e2aaf6299c4f5ba4b4355ba182ac28", checked := Try.checked }
namespace Rows
def none {H : Type} : Left H := { results := [], args := [] }

/-- 'torporlaw12.TimerAnswers': WHATEVER THE INPUT: true; the input reads as it did. -/
def timerAnswersSpec : ChangeSpec := { name := "timerAnswers", fn := fun _ => fun
  | [d1, d2, d3] => { results := [.lit (.bool true)], args := [d1, d2, d3] }
  | _ => none }
def timerAnswersRow : OpenClaim := { program := "ytjcclccdjeekkaa", sum := "a9e6187a9e39d1c431c3cad97ae3cf3c60e2aaf6299c4f5ba4b4355ba182ac28", func := "torpor/torporlaw12.TimerAnswers", spec := "timerAnswers", unfollowed := true, recurses := true, apart := false }
def TimerAnswersSaid : Prop := timerAnswersRow.holds Try.pinned (OpenSpec.ofChange timerAnswersSpec)

/-- ITS FALSE NEIGHBOUR: 'it returns false'. Refute it at one input. -/
def timerAnswersWrong : ChangeSpec := { name := "timerAnswers", fn := fun _ => fun
  | [d1, d2, d3] => { results := [.lit (.bool false)], args := [d1, d2, d3] }
  | _ => none }
def TimerAnswersWrongFalsely : Prop := timerAnswersRow.holds Try.pinned (OpenSpec.ofChange timerAnswersWrong)

/-- 'torporlaw12.TimerDues': WHATEVER THE INPUT: true; the input reads as it did. -/
def timerDuesSpec : ChangeSpec := { name := "timerDues", fn := fun _ => fun
  | [d1, d2] => { results := [.lit (.bool true)], args := [d1, d2] }
  | _ => none }
def timerDuesRow : OpenClaim := { program := "ytjcclccdjeekkaa", sum := "a9e6187a9e39d1c431c3cad97ae3cf3c60e2aaf6299c4f5ba4b4355ba182ac28", func := "torpor/torporlaw12.TimerDues", spec := "timerDues", unfollowed := true, recurses := true, apart := false }
def TimerDuesSaid : Prop := timerDuesRow.holds Try.pinned (OpenSpec.ofChange timerDuesSpec)

/-- ITS FALSE NEIGHBOUR: 'it returns false'. Refute it at one input. -/
def timerDuesWrong : ChangeSpec := { name := "timerDues", fn := fun _ => fun
  | [d1, d2] => { results := [.lit (.bool false)], args := [d1, d2] }
  | _ => none }
def TimerDuesWrongFalsely : Prop := timerDuesRow.holds Try.pinned (OpenSpec.ofChange timerDuesWrong)

/-- 'torporlaw12.TimerLeast': WHATEVER THE INPUT: true; the input reads as it did. -/
def timerLeastSpec : ChangeSpec := { name := "timerLeast", fn := fun _ => fun
  | [d] => { results := [.lit (.bool true)], args := [d] }
  | _ => none }
def timerLeastRow : OpenClaim := { program := "ytjcclccdjeekkaa", sum := "a9e6187a9e39d1c431c3cad97ae3cf3c60e2aaf6299c4f5ba4b4355ba182ac28", func := "torpor/torporlaw12.TimerLeast", spec := "timerLeast", unfollowed := true, recurses := true, apart := false }
def TimerLeastSaid : Prop := timerLeastRow.holds Try.pinned (OpenSpec.ofChange timerLeastSpec)

/-- ITS FALSE NEIGHBOUR: 'it returns false'. Refute it at one input. -/
def timerLeastWrong : ChangeSpec := { name := "timerLeast", fn := fun _ => fun
  | [d] => { results := [.lit (.bool false)], args := [d] }
  | _ => none }
def TimerLeastWrongFalsely : Prop := timerLeastRow.holds Try.pinned (OpenSpec.ofChange timerLeastWrong)

/-- 'torporlaw12.TimerBack': WHATEVER THE INPUT: true; the input reads as it did. -/
def timerBackSpec : ChangeSpec := { name := "timerBack", fn := fun _ => fun
  | [d1, d2] => { results := [.lit (.bool true)], args := [d1, d2] }
  | _ => none }
def timerBackRow : OpenClaim := { program := "ytjcclccdjeekkaa", sum := "a9e6187a9e39d1c431c3cad97ae3cf3c60e2aaf6299c4f5ba4b4355ba182ac28", func := "torpor/torporlaw12.TimerBack", spec := "timerBack", unfollowed := true, recurses := true, apart := false }
def TimerBackSaid : Prop := timerBackRow.holds Try.pinned (OpenSpec.ofChange timerBackSpec)

/-- ITS FALSE NEIGHBOUR: 'it returns false'. Refute it at one input. -/
def timerBackWrong : ChangeSpec := { name := "timerBack", fn := fun _ => fun
  | [d1, d2] => { results := [.lit (.bool false)], args := [d1, d2] }
  | _ => none }
def TimerBackWrongFalsely : Prop := timerBackRow.holds Try.pinned (OpenSpec.ofChange timerBackWrong)

/- THE SECOND FORM. 'bulk': how many values and letters a reading holds, each counted each time it is reached (what is shared counts as often as it is met; a slice's spare places count too). A statement '..UptoSaid' is the law's where the arguments, and the package variables that the reading takes, are together of bulk at most 1048576: NARROWER than '..Said'. Prove '..Said' where nothing that the law and all that it calls make is longer than what came in: it says more and counts as full. Else prove '..UptoSaid'. A law counts once. -/
mutual
def uptoBulk {H : Type} : DataW H → Nat
  | .lit (.string bytes) => bytes.length + 1
  | .lit _ => 1
  | .nil => 1
  | .ptr d => uptoBulk d + 1
  | .slice elems spare => uptoBulkAll elems + uptoBulkAll spare + 1
  | .agg parts => uptoBulkAll parts + 1
  | .iface _ d => uptoBulk d + 1
  | .map entries => uptoBulkEntries entries + 1
  | .held _ => 1
def uptoBulkAll {H : Type} : List (DataW H) → Nat
  | [] => 0
  | d :: r => uptoBulk d + uptoBulkAll r
def uptoBulkEntries {H : Type} : List (Lit × DataW H) → Nat
  | [] => 0
  | x :: r => uptoBulkEntry x + uptoBulkEntries r
def uptoBulkEntry {H : Type} : Lit × DataW H → Nat
  | (.string bytes, d) => bytes.length + uptoBulk d + 1
  | (_, d) => uptoBulk d + 1
 end
def uptoSmall : (H : Type) → List (DataW H) → Bool := fun _ ds => decide (uptoBulkAll ds ≤ 1048576)
def OpenSpec.upto (s : _root_.Go.ChangeSpec) : _root_.Go.OpenSpec := { _root_.Go.OpenSpec.ofChange s with cond := some uptoSmall }

/-- 'torporlaw12.TimerAnswers', WHERE WHAT IT READS IS OF BULK AT MOST 1048576: true; the input reads as it did. -/
def timerAnswersUptoRow : OpenClaim := { program := "ytjcclccdjeekkaa", sum := "a9e6187a9e39d1c431c3cad97ae3cf3c60e2aaf6299c4f5ba4b4355ba182ac28", func := "torpor/torporlaw12.TimerAnswers", spec := "timerAnswers", unfollowed := true, recurses := true, apart := false, narrowed := true }
def TimerAnswersUptoSaid : Prop := timerAnswersUptoRow.holds Try.pinned (OpenSpec.upto timerAnswersSpec)

/-- 'torporlaw12.TimerDues', WHERE WHAT IT READS IS OF BULK AT MOST 1048576: true; the input reads as it did. -/
def timerDuesUptoRow : OpenClaim := { program := "ytjcclccdjeekkaa", sum := "a9e6187a9e39d1c431c3cad97ae3cf3c60e2aaf6299c4f5ba4b4355ba182ac28", func := "torpor/torporlaw12.TimerDues", spec := "timerDues", unfollowed := true, recurses := true, apart := false, narrowed := true }
def TimerDuesUptoSaid : Prop := timerDuesUptoRow.holds Try.pinned (OpenSpec.upto timerDuesSpec)

/-- 'torporlaw12.TimerLeast', WHERE WHAT IT READS IS OF BULK AT MOST 1048576: true; the input reads as it did. -/
def timerLeastUptoRow : OpenClaim := { program := "ytjcclccdjeekkaa", sum := "a9e6187a9e39d1c431c3cad97ae3cf3c60e2aaf6299c4f5ba4b4355ba182ac28", func := "torpor/torporlaw12.TimerLeast", spec := "timerLeast", unfollowed := true, recurses := true, apart := false, narrowed := true }
def TimerLeastUptoSaid : Prop := timerLeastUptoRow.holds Try.pinned (OpenSpec.upto timerLeastSpec)

/-- 'torporlaw12.TimerBack', WHERE WHAT IT READS IS OF BULK AT MOST 1048576: true; the input reads as it did. -/
def timerBackUptoRow : OpenClaim := { program := "ytjcclccdjeekkaa", sum := "a9e6187a9e39d1c431c3cad97ae3cf3c60e2aaf6299c4f5ba4b4355ba182ac28", func := "torpor/torporlaw12.TimerBack", spec := "timerBack", unfollowed := true, recurses := true, apart := false, narrowed := true }
def TimerBackUptoSaid : Prop := timerBackUptoRow.holds Try.pinned (OpenSpec.upto timerBackSpec)

end Rows
end Go.Proofs.Ytjcclccdjeekkaa
