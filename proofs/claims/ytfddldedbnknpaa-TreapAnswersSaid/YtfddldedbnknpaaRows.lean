/-
  No cell of these rows narrows 'for every input' (looked for: loops, veiled, ifaces, maps, wideKeys, modest, calm, conditions, laid).
  DERIVED. THE GIVEN ROWS OF THIS SEAT. 4 by the template 'for every input the law returns true; each argument reads behind the call as it read before'; 0 by the template 'total and deterministic' (their statements: YtfddldedbnknpaaTotals.lean).
  GIVEN WITH THE SEED: the statements are not yours to turn. If you find one false, say at which input.
  Laid BY PROGRAM, IN A SANDBOX (cutbox-rows.mjs): the forced cells as the released guide's own fill.sh prints them over the translation ff7e313346c4f0d3… (all of the seat's roots in one cut). By AI agents, Wed Nov 11 2026. No macro, syntax, notation, axiom, sorry.
-/
import Derived.Test.YtfddldedbnknpaaChecked
import GoSem.Claim
import GoSem.ClaimJoined
import GoSem.ClaimMapViews
import Derived.JoinedTies
import Derived.KernelRfl
namespace Go.Proofs.Ytfddldedbnknpaa
/- THE CELL 'sum', in the pinned program and in every row, IS THE sha256 OF THE DUMP (.gsa) THAT YtfddldedbnknpaaProg.lean LOADS. Nothing in Lean hashes anything: it is a label: what it is worth is what the hold of that sum in a sandbox is worth. -/
noncomputable def Try.pinned : Pinned := { name := "ytfddldedbnknpaa", sum := "ff7e313346c4f0d3ce30bc970a4773e2615b35deba3bb27366b53884dd41fdf4", checked := Try.checked }
namespace Rows
def none {H : Type} : Left H := { results := [], args := [] }

/-- 'torporlaw09.TreapAnswers': WHATEVER THE INPUT: true; the input reads as it did. -/
def treapAnswersSpec : ChangeSpec := { name := "treapAnswers", fn := fun _ => fun
  | [d1, d2, d3] => { results := [.lit (.bool true)], args := [d1, d2, d3] }
  | _ => none }
def treapAnswersRow : OpenClaim := { program := "ytfddldedbnknpaa", sum := "ff7e313346c4f0d3ce30bc970a4773e2615b35deba3bb27366b53884dd41fdf4", func := "torpor/torporlaw09.TreapAnswers", spec := "treapAnswers", recurses := true, apart := false }
def TreapAnswersSaid : Prop := treapAnswersRow.holds Try.pinned (OpenSpec.ofChange treapAnswersSpec)

/-- ITS FALSE NEIGHBOUR: 'it returns false'. Refute it at one input. -/
def treapAnswersWrong : ChangeSpec := { name := "treapAnswers", fn := fun _ => fun
  | [d1, d2, d3] => { results := [.lit (.bool false)], args := [d1, d2, d3] }
  | _ => none }
def TreapAnswersWrongFalsely : Prop := treapAnswersRow.holds Try.pinned (OpenSpec.ofChange treapAnswersWrong)

/-- 'torporlaw09.TreapHangs': WHATEVER THE INPUT: true; the input reads as it did. -/
def treapHangsSpec : ChangeSpec := { name := "treapHangs", fn := fun _ => fun
  | [d1, d2, d3] => { results := [.lit (.bool true)], args := [d1, d2, d3] }
  | _ => none }
def treapHangsRow : OpenClaim := { program := "ytfddldedbnknpaa", sum := "ff7e313346c4f0d3ce30bc970a4773e2615b35deba3bb27366b53884dd41fdf4", func := "torpor/torporlaw09.TreapHangs", spec := "treapHangs", recurses := true, apart := false }
def TreapHangsSaid : Prop := treapHangsRow.holds Try.pinned (OpenSpec.ofChange treapHangsSpec)

/-- ITS FALSE NEIGHBOUR: 'it returns false'. Refute it at one input. -/
def treapHangsWrong : ChangeSpec := { name := "treapHangs", fn := fun _ => fun
  | [d1, d2, d3] => { results := [.lit (.bool false)], args := [d1, d2, d3] }
  | _ => none }
def TreapHangsWrongFalsely : Prop := treapHangsRow.holds Try.pinned (OpenSpec.ofChange treapHangsWrong)

/-- 'torporlaw09.TreapBack': WHATEVER THE INPUT: true; the input reads as it did. -/
def treapBackSpec : ChangeSpec := { name := "treapBack", fn := fun _ => fun
  | [d1, d2, d3] => { results := [.lit (.bool true)], args := [d1, d2, d3] }
  | _ => none }
def treapBackRow : OpenClaim := { program := "ytfddldedbnknpaa", sum := "ff7e313346c4f0d3ce30bc970a4773e2615b35deba3bb27366b53884dd41fdf4", func := "torpor/torporlaw09.TreapBack", spec := "treapBack", recurses := true, apart := false }
def TreapBackSaid : Prop := treapBackRow.holds Try.pinned (OpenSpec.ofChange treapBackSpec)

/-- ITS FALSE NEIGHBOUR: 'it returns false'. Refute it at one input. -/
def treapBackWrong : ChangeSpec := { name := "treapBack", fn := fun _ => fun
  | [d1, d2, d3] => { results := [.lit (.bool false)], args := [d1, d2, d3] }
  | _ => none }
def TreapBackWrongFalsely : Prop := treapBackRow.holds Try.pinned (OpenSpec.ofChange treapBackWrong)

/-- 'torporlaw09.TreapOrder': WHATEVER THE INPUT: true; the input reads as it did. -/
def treapOrderSpec : ChangeSpec := { name := "treapOrder", fn := fun _ => fun
  | [d1, d2, d3] => { results := [.lit (.bool true)], args := [d1, d2, d3] }
  | _ => none }
def treapOrderRow : OpenClaim := { program := "ytfddldedbnknpaa", sum := "ff7e313346c4f0d3ce30bc970a4773e2615b35deba3bb27366b53884dd41fdf4", func := "torpor/torporlaw09.TreapOrder", spec := "treapOrder", recurses := true, apart := false }
def TreapOrderSaid : Prop := treapOrderRow.holds Try.pinned (OpenSpec.ofChange treapOrderSpec)

/-- ITS FALSE NEIGHBOUR: 'it returns false'. Refute it at one input. -/
def treapOrderWrong : ChangeSpec := { name := "treapOrder", fn := fun _ => fun
  | [d1, d2, d3] => { results := [.lit (.bool false)], args := [d1, d2, d3] }
  | _ => none }
def TreapOrderWrongFalsely : Prop := treapOrderRow.holds Try.pinned (OpenSpec.ofChange treapOrderWrong)

/- THE SECOND FORM. 'bulk': how many values and letters a reading holds, each counted each time it is reached (what is shared counts as often as it is met; a slice's spare places count too). A statement '..UptoSaid' is the law's where the arguments, and the package variables that the reading takes, are together of bulk at most 1048576: NARROWER than '..Said'. Prove '..Said' where nothing that the law and all that it calls make is longer than what came in: it says more and counts as full. Else prove '..UptoSaid'. A law counts once. -/
mutual
def uptoBulk {H : Type} : DataW H → Nat
  | .lit (.string bytes) => bytes.length + 1
  | .lit _ => 1
  | .nil => 1
  | .ptr d => uptoBulk d + 1
  | .slice elems spare => uptoBulkAll elems + uptoBulkAll spare + 1
  | .agg parts => uptoBulkAll parts + 1
  | .iface _ d => uptoBulk d + 1
  | .map entries => uptoBulkEntries entries + 1
  | .held _ => 1
def uptoBulkAll {H : Type} : List (DataW H) → Nat
  | [] => 0
  | d :: r => uptoBulk d + uptoBulkAll r
def uptoBulkEntries {H : Type} : List (Lit × DataW H) → Nat
  | [] => 0
  | x :: r => uptoBulkEntry x + uptoBulkEntries r
def uptoBulkEntry {H : Type} : Lit × DataW H → Nat
  | (.string bytes, d) => bytes.length + uptoBulk d + 1
  | (_, d) => uptoBulk d + 1
 end
def uptoSmall : (H : Type) → List (DataW H) → Bool := fun _ ds => decide (uptoBulkAll ds ≤ 1048576)
def OpenSpec.upto (s : _root_.Go.ChangeSpec) : _root_.Go.OpenSpec := { _root_.Go.OpenSpec.ofChange s with cond := some uptoSmall }

/-- 'torporlaw09.TreapAnswers', WHERE WHAT IT READS IS OF BULK AT MOST 1048576: true; the input reads as it did. -/
def treapAnswersUptoRow : OpenClaim := { program := "ytfddldedbnknpaa", sum := "ff7e313346c4f0d3ce30bc970a4773e2615b35deba3bb27366b53884dd41fdf4", func := "torpor/torporlaw09.TreapAnswers", spec := "treapAnswers", recurses := true, apart := false, narrowed := true }
def TreapAnswersUptoSaid : Prop := treapAnswersUptoRow.holds Try.pinned (OpenSpec.upto treapAnswersSpec)

/-- 'torporlaw09.TreapHangs', WHERE WHAT IT READS IS OF BULK AT MOST 1048576: true; the input reads as it did. -/
def treapHangsUptoRow : OpenClaim := { program := "ytfddldedbnknpaa", sum := "ff7e313346c4f0d3ce30bc970a4773e2615b35deba3bb27366b53884dd41fdf4", func := "torpor/torporlaw09.TreapHangs", spec := "treapHangs", recurses := true, apart := false, narrowed := true }
def TreapHangsUptoSaid : Prop := treapHangsUptoRow.holds Try.pinned (OpenSpec.upto treapHangsSpec)

/-- 'torporlaw09.TreapBack', WHERE WHAT IT READS IS OF BULK AT MOST 1048576: true; the input reads as it did. -/
def treapBackUptoRow : OpenClaim := { program := "ytfddldedbnknpaa", sum := "ff7e313346c4f0d3ce30bc970a4773e2615b35deba3bb27366b53884dd41fdf4", func := "torpor/torporlaw09.TreapBack", spec := "treapBack", recurses := true, apart := false, narrowed := true }
def TreapBackUptoSaid : Prop := treapBackUptoRow.holds Try.pinned (OpenSpec.upto treapBackSpec)

/-- 'torporlaw09.TreapOrder', WHERE WHAT IT READS IS OF BULK AT MOST 1048576: true; the input reads as it did. -/
def treapOrderUptoRow : OpenClaim := { program := "ytfddldedbnknpaa", sum := "ff7e313346c4f0d3ce30bc970a4773e2615b35deba3bb27366b53884dd41fdf4", func := "torpor/torporlaw09.TreapOrder", spec := "treapOrder", recurses := true, apart := false, narrowed := true }
def TreapOrderUptoSaid : Prop := treapOrderUptoRow.holds Try.pinned (OpenSpec.upto treapOrderSpec)

end Rows
end Go.Proofs.Ytfddldedbnknpaa
