/-
  No cell of these rows narrows 'for every input' (looked for: loops, veiled, ifaces, maps, wideKeys, modest, calm, conditions, laid).
  DERIVED. THE GIVEN ROWS OF THIS SEAT. 5 by the template 'for every input the law returns true; each argument reads behind the call as it read before'; 0 by the template 'total and deterministic' (their statements: YtiplpeekjjhkfaaTotals.lean).
  GIVEN WITH THE SEED: the statements are not yours to turn. If you find one false, say at which input.
  Laid BY PROGRAM, IN A SANDBOX (cutbox-rows.mjs): the forced cells as the released guide's own fill.sh prints them over the translation a74666cf0e4a9489… (all of the seat's roots in one cut). By AI agents, Wed Nov 11 2026. No macro, syntax, notation, axiom, sorry.
-/
import Derived.Test.YtiplpeekjjhkfaaChecked
import GoSem.Claim
import GoSem.ClaimJoined
import GoSem.ClaimMapViews
import Derived.JoinedTies
import Derived.KernelRfl
namespace Go.Proofs.Ytiplpeekjjhkfaa
/- THE CELL 'sum', in the pinned program and in every row, IS THE sha256 OF THE DUMP (.gsa) THAT YtiplpeekjjhkfaaProg.lean LOADS. Nothing in Lean hashes anything: it is a label: what it is worth is what the hold of that sum in a sandbox is worth. -/
noncomputable def Try.pinned : Pinned := { name := "ytiplpeekjjhkfaa", sum := "a74666cf0e4a9489c9f3d75ff2fff204ffe99decc2ba7f5efb368e5042bb551c", checked := Try.checked }
namespace Rows
def none {H : Type} : Left H := { results := [], args := [] }

/-- 'torporlaw04.SectionAnswers': WHATEVER THE INPUT: true; the input reads as it did. -/
def sectionAnswersSpec : ChangeSpec := { name := "sectionAnswers", fn := fun _ => fun
  | [d1, d2] => { results := [.lit (.bool true)], args := [d1, d2] }
  | _ => none }
def sectionAnswersRow : OpenClaim := { program := "ytiplpeekjjhkfaa", sum := "a74666cf0e4a9489c9f3d75ff2fff204ffe99decc2ba7f5efb368e5042bb551c", func := "torpor/torporlaw04.SectionAnswers", spec := "sectionAnswers", unfollowed := true, recurses := true, apart := false }
def SectionAnswersSaid : Prop := sectionAnswersRow.holds Try.pinned (OpenSpec.ofChange sectionAnswersSpec)

/-- ITS FALSE NEIGHBOUR: 'it returns false'. Refute it at one input. -/
def sectionAnswersWrong : ChangeSpec := { name := "sectionAnswers", fn := fun _ => fun
  | [d1, d2] => { results := [.lit (.bool false)], args := [d1, d2] }
  | _ => none }
def SectionAnswersWrongFalsely : Prop := sectionAnswersRow.holds Try.pinned (OpenSpec.ofChange sectionAnswersWrong)

/-- 'torporlaw04.SectionReads': WHATEVER THE INPUT: true; the input reads as it did. -/
def sectionReadsSpec : ChangeSpec := { name := "sectionReads", fn := fun _ => fun
  | [d1, d2] => { results := [.lit (.bool true)], args := [d1, d2] }
  | _ => none }
def sectionReadsRow : OpenClaim := { program := "ytiplpeekjjhkfaa", sum := "a74666cf0e4a9489c9f3d75ff2fff204ffe99decc2ba7f5efb368e5042bb551c", func := "torpor/torporlaw04.SectionReads", spec := "sectionReads", unfollowed := true, recurses := true, apart := false }
def SectionReadsSaid : Prop := sectionReadsRow.holds Try.pinned (OpenSpec.ofChange sectionReadsSpec)

/-- ITS FALSE NEIGHBOUR: 'it returns false'. Refute it at one input. -/
def sectionReadsWrong : ChangeSpec := { name := "sectionReads", fn := fun _ => fun
  | [d1, d2] => { results := [.lit (.bool false)], args := [d1, d2] }
  | _ => none }
def SectionReadsWrongFalsely : Prop := sectionReadsRow.holds Try.pinned (OpenSpec.ofChange sectionReadsWrong)

/-- 'torporlaw04.SectionLists': WHATEVER THE INPUT: true; the input reads as it did. -/
def sectionListsSpec : ChangeSpec := { name := "sectionLists", fn := fun _ => fun
  | [d1, d2] => { results := [.lit (.bool true)], args := [d1, d2] }
  | _ => none }
def sectionListsRow : OpenClaim := { program := "ytiplpeekjjhkfaa", sum := "a74666cf0e4a9489c9f3d75ff2fff204ffe99decc2ba7f5efb368e5042bb551c", func := "torpor/torporlaw04.SectionLists", spec := "sectionLists", unfollowed := true, recurses := true, apart := false }
def SectionListsSaid : Prop := sectionListsRow.holds Try.pinned (OpenSpec.ofChange sectionListsSpec)

/-- ITS FALSE NEIGHBOUR: 'it returns false'. Refute it at one input. -/
def sectionListsWrong : ChangeSpec := { name := "sectionLists", fn := fun _ => fun
  | [d1, d2] => { results := [.lit (.bool false)], args := [d1, d2] }
  | _ => none }
def SectionListsWrongFalsely : Prop := sectionListsRow.holds Try.pinned (OpenSpec.ofChange sectionListsWrong)

/-- 'torporlaw04.SectionBack': WHATEVER THE INPUT: true; the input reads as it did. -/
def sectionBackSpec : ChangeSpec := { name := "sectionBack", fn := fun _ => fun
  | [d1, d2] => { results := [.lit (.bool true)], args := [d1, d2] }
  | _ => none }
def sectionBackRow : OpenClaim := { program := "ytiplpeekjjhkfaa", sum := "a74666cf0e4a9489c9f3d75ff2fff204ffe99decc2ba7f5efb368e5042bb551c", func := "torpor/torporlaw04.SectionBack", spec := "sectionBack", unfollowed := true, recurses := true, apart := false }
def SectionBackSaid : Prop := sectionBackRow.holds Try.pinned (OpenSpec.ofChange sectionBackSpec)

/-- ITS FALSE NEIGHBOUR: 'it returns false'. Refute it at one input. -/
def sectionBackWrong : ChangeSpec := { name := "sectionBack", fn := fun _ => fun
  | [d1, d2] => { results := [.lit (.bool false)], args := [d1, d2] }
  | _ => none }
def SectionBackWrongFalsely : Prop := sectionBackRow.holds Try.pinned (OpenSpec.ofChange sectionBackWrong)

/-- 'torporlaw04.SectionTells': WHATEVER THE INPUT: true; the input reads as it did. -/
def sectionTellsSpec : ChangeSpec := { name := "sectionTells", fn := fun _ => fun
  | [d1, d2, d3] => { results := [.lit (.bool true)], args := [d1, d2, d3] }
  | _ => none }
def sectionTellsRow : OpenClaim := { program := "ytiplpeekjjhkfaa", sum := "a74666cf0e4a9489c9f3d75ff2fff204ffe99decc2ba7f5efb368e5042bb551c", func := "torpor/torporlaw04.SectionTells", spec := "sectionTells", unfollowed := true, recurses := true, apart := false }
def SectionTellsSaid : Prop := sectionTellsRow.holds Try.pinned (OpenSpec.ofChange sectionTellsSpec)

/-- ITS FALSE NEIGHBOUR: 'it returns false'. Refute it at one input. -/
def sectionTellsWrong : ChangeSpec := { name := "sectionTells", fn := fun _ => fun
  | [d1, d2, d3] => { results := [.lit (.bool false)], args := [d1, d2, d3] }
  | _ => none }
def SectionTellsWrongFalsely : Prop := sectionTellsRow.holds Try.pinned (OpenSpec.ofChange sectionTellsWrong)

/- THE SECOND FORM. 'bulk': how many values and letters a reading holds, each counted each time it is reached (what is shared counts as often as it is met; a slice's spare places count too). A statement '..UptoSaid' is the law's where the arguments, and the package variables that the reading takes, are together of bulk at most 1048576: NARROWER than '..Said'. Prove '..Said' where nothing that the law and all that it calls make is longer than what came in: it says more and counts as full. Else prove '..UptoSaid'. A law counts once. -/
mutual
def uptoBulk {H : Type} : DataW H → Nat
  | .lit (.string bytes) => bytes.length + 1
  | .lit _ => 1
  | .nil => 1
  | .ptr d => uptoBulk d + 1
  | .slice elems spare => uptoBulkAll elems + uptoBulkAll spare + 1
  | .agg parts => uptoBulkAll parts + 1
  | .iface _ d => uptoBulk d + 1
  | .map entries => uptoBulkEntries entries + 1
  | .held _ => 1
def uptoBulkAll {H : Type} : List (DataW H) → Nat
  | [] => 0
  | d :: r => uptoBulk d + uptoBulkAll r
def uptoBulkEntries {H : Type} : List (Lit × DataW H) → Nat
  | [] => 0
  | x :: r => uptoBulkEntry x + uptoBulkEntries r
def uptoBulkEntry {H : Type} : Lit × DataW H → Nat
  | (.string bytes, d) => bytes.length + uptoBulk d + 1
  | (_, d) => uptoBulk d + 1
 end
def uptoSmall : (H : Type) → List (DataW H) → Bool := fun _ ds => decide (uptoBulkAll ds ≤ 1048576)
def OpenSpec.upto (s : _root_.Go.ChangeSpec) : _root_.Go.OpenSpec := { _root_.Go.OpenSpec.ofChange s with cond := some uptoSmall }

/-- 'torporlaw04.SectionAnswers', WHERE WHAT IT READS IS OF BULK AT MOST 1048576: true; the input reads as it did. -/
def sectionAnswersUptoRow : OpenClaim := { program := "ytiplpeekjjhkfaa", sum := "a74666cf0e4a9489c9f3d75ff2fff204ffe99decc2ba7f5efb368e5042bb551c", func := "torpor/torporlaw04.SectionAnswers", spec := "sectionAnswers", unfollowed := true, recurses := true, apart := false, narrowed := true }
def SectionAnswersUptoSaid : Prop := sectionAnswersUptoRow.holds Try.pinned (OpenSpec.upto sectionAnswersSpec)

/-- 'torporlaw04.SectionReads', WHERE WHAT IT READS IS OF BULK AT MOST 1048576: true; the input reads as it did. -/
def sectionReadsUptoRow : OpenClaim := { program := "ytiplpeekjjhkfaa", sum := "a74666cf0e4a9489c9f3d75ff2fff204ffe99decc2ba7f5efb368e5042bb551c", func := "torpor/torporlaw04.SectionReads", spec := "sectionReads", unfollowed := true, recurses := true, apart := false, narrowed := true }
def SectionReadsUptoSaid : Prop := sectionReadsUptoRow.holds Try.pinned (OpenSpec.upto sectionReadsSpec)

/-- 'torporlaw04.SectionLists', WHERE WHAT IT READS IS OF BULK AT MOST 1048576: true; the input reads as it did. -/
def sectionListsUptoRow : OpenClaim := { program := "ytiplpeekjjhkfaa", sum := "a74666cf0e4a9489c9f3d75ff2fff204ffe99decc2ba7f5efb368e5042bb551c", func := "torpor/torporlaw04.SectionLists", spec := "sectionLists", unfollowed := true, recurses := true, apart := false, narrowed := true }
def SectionListsUptoSaid : Prop := sectionListsUptoRow.holds Try.pinned (OpenSpec.upto sectionListsSpec)

/-- 'torporlaw04.SectionBack', WHERE WHAT IT READS IS OF BULK AT MOST 1048576: true; the input reads as it did. -/
def sectionBackUptoRow : OpenClaim := { program := "ytiplpeekjjhkfaa", sum := "a74666cf0e4a9489c9f3d75ff2fff204ffe99decc2ba7f5efb368e5042bb551c", func := "torpor/torporlaw04.SectionBack", spec := "sectionBack", unfollowed := true, recurses := true, apart := false, narrowed := true }
def SectionBackUptoSaid : Prop := sectionBackUptoRow.holds Try.pinned (OpenSpec.upto sectionBackSpec)

/-- 'torporlaw04.SectionTells', WHERE WHAT IT READS IS OF BULK AT MOST 1048576: true; the input reads as it did. -/
def sectionTellsUptoRow : OpenClaim := { program := "ytiplpeekjjhkfaa", sum := "a74666cf0e4a9489c9f3d75ff2fff204ffe99decc2ba7f5efb368e5042bb551c", func := "torpor/torporlaw04.SectionTells", spec := "sectionTells", unfollowed := true, recurses := true, apart := false, narrowed := true }
def SectionTellsUptoSaid : Prop := sectionTellsUptoRow.holds Try.pinned (OpenSpec.upto sectionTellsSpec)

end Rows
end Go.Proofs.Ytiplpeekjjhkfaa
