/- The law TreapAnswers: it is proved for every input. -/
import Derived.Test.YtfddldedbnknpaaRows
import Derived.Test.YtfddldedbnknpaaGyB
import Derived.Test.YtfddldedbnknpaaGpTreapAnswers
set_option linter.unusedSimpArgs false
set_option linter.unusedVariables false
namespace Go.Proofs.Ytfddldedbnknpaa.treapAnswers
open Go Go.AX Go.ChangeShapes Go.WideShapes Go.ChangeAt Go.RowKit

theorem own : ownKnob Go.Proofs.Try.prog.godebug = none := by kernel_rfl
theorem laidOut : laidOutB Go.Proofs.Try.prog = true := by kernel_rfl
theorem u4 : Go.Proofs.Try.prog.underlying 4 = some .bool := by kernel_rfl
set_option maxRecDepth 100000 in
theorem lifted (os : Os) (started : os.Started) (H : Type) (enc : TypeId × Value → H) :
    ReturnsInHanded {} Go.Proofs.Try.checked os 3 .any (Rows.treapAnswersSpec.pre6 enc Go.Proofs.Try.prog Go.Proofs.Try.f3 Rows.treapAnswersRow.domain false) (Rows.treapAnswersSpec.post enc Go.Proofs.Try.prog Go.Proofs.Try.f3 false true false false) := by
  refine lift_law (C := Go.Proofs.Try.checked) (rt := 4) own started (by kernel_rfl) Go.Proofs.Try.func3
    (ChangeSpec.witness6 (enc := enc) (C := Go.Proofs.Try.checked) false ⟨#[], #[.agg #[.slice none 0 0, .int .i64 0, .int .i64 0], .int .i64 0, .int .u32 0], []⟩ 8 (by kernel_rfl) (by kernel_rfl) (by kernel_rfl) (by kernel_rfl))
    laidOut (by kernel_rfl) rfl ?_ (by kernel_rfl) u4 ?_
  · intro ds hl
    have hl : ds.length = 3 := hl
    match ds, hl with
    | [x0, x1, x2], _ => exact ⟨rfl, rfl, rfl⟩
  · intro W base args ds ps hval hA _
    exact calls_of_pu (n := 24) ([(true, [.sl [.i .i64, .i .u32, .i .i64, .i .i64, .i .i64, .i .i64], .i .i64, .i .i64]), (false, [.i .i64]), (false, [.i .u32])]) (by kernel_rfl) (fun j t v h h' => hval j t v (by simpa using h) h') hA (law_of torporlaw09_TreapAnswers_ok (by rfl) TreapAnswers_true)
theorem over : Rows.treapAnswersRow.holds Try.pinned (OpenSpec.ofChange Rows.treapAnswersSpec) :=
  OpenClaim.holds_of_wide 3 Go.Proofs.Try.f3 rfl rfl rfl rfl rfl rfl rfl ⟨rfl, rfl, rfl, rfl, rfl⟩ rfl rfl rfl rfl rfl (by kernel_rfl) Go.Proofs.Try.func3 (by kernel_rfl)
    (of_decide_eq_true (by kernel_rfl)) (by unfold Func.isWrapper; first | (rw [if_pos (by decide +kernel)]; kernel_rfl) | (rw [if_neg (by decide +kernel)]; exact ⟨rfl, rfl⟩))
    (fun os started H enc _ => lifted os started H enc)
theorem proved : Rows.TreapAnswersSaid := over
#print axioms proved
end Go.Proofs.Ytfddldedbnknpaa.treapAnswers
namespace Go.Proofs.Ytfddldedbnknpaa
/-- The row, under a short name, for the claim. -/
theorem treapAnswers_holds : Rows.TreapAnswersSaid := treapAnswers.proved
end Go.Proofs.Ytfddldedbnknpaa
