/-
  No cell of these rows narrows 'for every input' (looked for: loops, veiled, ifaces, maps, wideKeys, modest, calm, conditions, laid).
  DERIVED. THE GIVEN ROWS OF THIS SEAT. 4 by the template 'for every input the law returns true; each argument reads behind the call as it read before'; 0 by the template 'total and deterministic' (their statements: YtjdpfnccghemeaaTotals.lean).
  GIVEN WITH THE SEED: the statements are not yours to turn. If you find one false, say at which input.
  Laid BY PROGRAM, IN A SANDBOX (cutbox-rows.mjs): the forced cells as the released guide's own fill.sh prints them over the translation b9282793129de0b6… (all of the seat's roots in one cut). By AI agents, Wed Nov 11 2026. No macro, syntax, notation, axiom, sorry.
-/
import Derived.Test.YtjdpfnccghemeaaChecked
import GoSem.Claim
import GoSem.ClaimJoined
import GoSem.ClaimMapViews
import Derived.JoinedTies
import Derived.KernelRfl
namespace Go.Proofs.Ytjdpfnccghemeaa
/- THE CELL 'sum', in the pinned program and in every row, IS THE sha256 OF THE DUMP (.gsa) THAT YtjdpfnccghemeaaProg.lean LOADS. Nothing in Lean hashes anything: it is a label: what it is worth is what the hold of that sum in a sandbox is worth. -/
noncomputable def Try.pinned : Pinned := { name := "ytjdpfnccghemeaa", sum := "b9282793129de0b671385b45ea54d788bb721bae5038ac59dd94f3c62da2e96e", checked := Try.checked }
namespace Rows
def none {H : Type} : Left H := { results := [], args := [] }

/-- 'torporlaw08.QueueAnswers': WHATEVER THE INPUT: true; the input reads as it did. -/
def queueAnswersSpec : ChangeSpec := { name := "queueAnswers", fn := fun _ => fun
  | [d1, d2, d3] => { results := [.lit (.bool true)], args := [d1, d2, d3] }
  | _ => none }
def queueAnswersRow : OpenClaim := { program := "ytjdpfnccghemeaa", sum := "b9282793129de0b671385b45ea54d788bb721bae5038ac59dd94f3c62da2e96e", func := "torpor/torporlaw08.QueueAnswers", spec := "queueAnswers", unfollowed := true, recurses := true, apart := false }
def QueueAnswersSaid : Prop := queueAnswersRow.holds Try.pinned (OpenSpec.ofChange queueAnswersSpec)

/-- ITS FALSE NEIGHBOUR: 'it returns false'. Refute it at one input. -/
def queueAnswersWrong : ChangeSpec := { name := "queueAnswers", fn := fun _ => fun
  | [d1, d2, d3] => { results := [.lit (.bool false)], args := [d1, d2, d3] }
  | _ => none }
def QueueAnswersWrongFalsely : Prop := queueAnswersRow.holds Try.pinned (OpenSpec.ofChange queueAnswersWrong)

/-- 'torporlaw08.QueuePushes': WHATEVER THE INPUT: true; the input reads as it did. -/
def queuePushesSpec : ChangeSpec := { name := "queuePushes", fn := fun _ => fun
  | [d1, d2, d3] => { results := [.lit (.bool true)], args := [d1, d2, d3] }
  | _ => none }
def queuePushesRow : OpenClaim := { program := "ytjdpfnccghemeaa", sum := "b9282793129de0b671385b45ea54d788bb721bae5038ac59dd94f3c62da2e96e", func := "torpor/torporlaw08.QueuePushes", spec := "queuePushes", unfollowed := true, recurses := true, apart := false }
def QueuePushesSaid : Prop := queuePushesRow.holds Try.pinned (OpenSpec.ofChange queuePushesSpec)

/-- ITS FALSE NEIGHBOUR: 'it returns false'. Refute it at one input. -/
def queuePushesWrong : ChangeSpec := { name := "queuePushes", fn := fun _ => fun
  | [d1, d2, d3] => { results := [.lit (.bool false)], args := [d1, d2, d3] }
  | _ => none }
def QueuePushesWrongFalsely : Prop := queuePushesRow.holds Try.pinned (OpenSpec.ofChange queuePushesWrong)

/-- 'torporlaw08.QueueBack': WHATEVER THE INPUT: true; the input reads as it did. -/
def queueBackSpec : ChangeSpec := { name := "queueBack", fn := fun _ => fun
  | [d1, d2, d3] => { results := [.lit (.bool true)], args := [d1, d2, d3] }
  | _ => none }
def queueBackRow : OpenClaim := { program := "ytjdpfnccghemeaa", sum := "b9282793129de0b671385b45ea54d788bb721bae5038ac59dd94f3c62da2e96e", func := "torpor/torporlaw08.QueueBack", spec := "queueBack", unfollowed := true, recurses := true, apart := false }
def QueueBackSaid : Prop := queueBackRow.holds Try.pinned (OpenSpec.ofChange queueBackSpec)

/-- ITS FALSE NEIGHBOUR: 'it returns false'. Refute it at one input. -/
def queueBackWrong : ChangeSpec := { name := "queueBack", fn := fun _ => fun
  | [d1, d2, d3] => { results := [.lit (.bool false)], args := [d1, d2, d3] }
  | _ => none }
def QueueBackWrongFalsely : Prop := queueBackRow.holds Try.pinned (OpenSpec.ofChange queueBackWrong)

/-- 'torporlaw08.QueueTurns': WHATEVER THE INPUT: true; the input reads as it did. -/
def queueTurnsSpec : ChangeSpec := { name := "queueTurns", fn := fun _ => fun
  | [d1, d2] => { results := [.lit (.bool true)], args := [d1, d2] }
  | _ => none }
def queueTurnsRow : OpenClaim := { program := "ytjdpfnccghemeaa", sum := "b9282793129de0b671385b45ea54d788bb721bae5038ac59dd94f3c62da2e96e", func := "torpor/torporlaw08.QueueTurns", spec := "queueTurns", unfollowed := true, recurses := true, apart := false }
def QueueTurnsSaid : Prop := queueTurnsRow.holds Try.pinned (OpenSpec.ofChange queueTurnsSpec)

/-- ITS FALSE NEIGHBOUR: 'it returns false'. Refute it at one input. -/
def queueTurnsWrong : ChangeSpec := { name := "queueTurns", fn := fun _ => fun
  | [d1, d2] => { results := [.lit (.bool false)], args := [d1, d2] }
  | _ => none }
def QueueTurnsWrongFalsely : Prop := queueTurnsRow.holds Try.pinned (OpenSpec.ofChange queueTurnsWrong)

/- THE SECOND FORM. 'bulk': how many values and letters a reading holds, each counted each time it is reached (what is shared counts as often as it is met; a slice's spare places count too). A statement '..UptoSaid' is the law's where the arguments, and the package variables that the reading takes, are together of bulk at most 1048576: NARROWER than '..Said'. Prove '..Said' where nothing that the law and all that it calls make is longer than what came in: it says more and counts as full. Else prove '..UptoSaid'. A law counts once. -/
mutual
def uptoBulk {H : Type} : DataW H → Nat
  | .lit (.string bytes) => bytes.length + 1
  | .lit _ => 1
  | .nil => 1
  | .ptr d => uptoBulk d + 1
  | .slice elems spare => uptoBulkAll elems + uptoBulkAll spare + 1
  | .agg parts => uptoBulkAll parts + 1
  | .iface _ d => uptoBulk d + 1
  | .map entries => uptoBulkEntries entries + 1
  | .held _ => 1
def uptoBulkAll {H : Type} : List (DataW H) → Nat
  | [] => 0
  | d :: r => uptoBulk d + uptoBulkAll r
def uptoBulkEntries {H : Type} : List (Lit × DataW H) → Nat
  | [] => 0
  | x :: r => uptoBulkEntry x + uptoBulkEntries r
def uptoBulkEntry {H : Type} : Lit × DataW H → Nat
  | (.string bytes, d) => bytes.length + uptoBulk d + 1
  | (_, d) => uptoBulk d + 1
 end
def uptoSmall : (H : Type) → List (DataW H) → Bool := fun _ ds => decide (uptoBulkAll ds ≤ 1048576)
def OpenSpec.upto (s : _root_.Go.ChangeSpec) : _root_.Go.OpenSpec := { _root_.Go.OpenSpec.ofChange s with cond := some uptoSmall }

/-- 'torporlaw08.QueueAnswers', WHERE WHAT IT READS IS OF BULK AT MOST 1048576: true; the input reads as it did. -/
def queueAnswersUptoRow : OpenClaim := { program := "ytjdpfnccghemeaa", sum := "b9282793129de0b671385b45ea54d788bb721bae5038ac59dd94f3c62da2e96e", func := "torpor/torporlaw08.QueueAnswers", spec := "queueAnswers", unfollowed := true, recurses := true, apart := false, narrowed := true }
def QueueAnswersUptoSaid : Prop := queueAnswersUptoRow.holds Try.pinned (OpenSpec.upto queueAnswersSpec)

/-- 'torporlaw08.QueuePushes', WHERE WHAT IT READS IS OF BULK AT MOST 1048576: true; the input reads as it did. -/
def queuePushesUptoRow : OpenClaim := { program := "ytjdpfnccghemeaa", sum := "b9282793129de0b671385b45ea54d788bb721bae5038ac59dd94f3c62da2e96e", func := "torpor/torporlaw08.QueuePushes", spec := "queuePushes", unfollowed := true, recurses := true, apart := false, narrowed := true }
def QueuePushesUptoSaid : Prop := queuePushesUptoRow.holds Try.pinned (OpenSpec.upto queuePushesSpec)

/-- 'torporlaw08.QueueBack', WHERE WHAT IT READS IS OF BULK AT MOST 1048576: true; the input reads as it did. -/
def queueBackUptoRow : OpenClaim := { program := "ytjdpfnccghemeaa", sum := "b9282793129de0b671385b45ea54d788bb721bae5038ac59dd94f3c62da2e96e", func := "torpor/torporlaw08.QueueBack", spec := "queueBack", unfollowed := true, recurses := true, apart := false, narrowed := true }
def QueueBackUptoSaid : Prop := queueBackUptoRow.holds Try.pinned (OpenSpec.upto queueBackSpec)

/-- 'torporlaw08.QueueTurns', WHERE WHAT IT READS IS OF BULK AT MOST 1048576: true; the input reads as it did. -/
def queueTurnsUptoRow : OpenClaim := { program := "ytjdpfnccghemeaa", sum := "b9282793129de0b671385b45ea54d788bb721bae5038ac59dd94f3c62da2e96e", func := "torpor/torporlaw08.QueueTurns", spec := "queueTurns", unfollowed := true, recurses := true, apart := false, narrowed := true }
def QueueTurnsUptoSaid : Prop := queueTurnsUptoRow.holds Try.pinned (OpenSpec.upto queueTurnsSpec)

end Rows
end Go.Proofs.Ytjdpfnccghemeaa
