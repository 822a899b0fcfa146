/- The law SemaRows: it is proved for every input. -/
import Derived.Test.YtbflhammcjihgaaRows
import Derived.Test.YtbflhammcjihgaaGyB
import Derived.Test.YtbflhammcjihgaaGrSemaRows
set_option linter.unusedSimpArgs false
set_option linter.unusedVariables false
namespace Go.Proofs.Ytbflhammcjihgaa.semaRows
open Go Go.AX Go.ChangeShapes Go.WideShapes Go.ChangeAt Go.RowKit

theorem own : ownKnob Go.Proofs.Try.prog.godebug = none := by kernel_rfl
theorem laidOut : laidOutB Go.Proofs.Try.prog = true := by kernel_rfl
theorem u4 : Go.Proofs.Try.prog.underlying 4 = some .bool := by kernel_rfl
set_option maxRecDepth 100000 in
theorem lifted (os : Os) (started : os.Started) (H : Type) (enc : TypeId × Value → H) :
    ReturnsInHanded {} Go.Proofs.Try.checked os 3 .any (Rows.semaRowsSpec.pre6 enc Go.Proofs.Try.prog Go.Proofs.Try.f3 Rows.semaRowsRow.domain false) (Rows.semaRowsSpec.post enc Go.Proofs.Try.prog Go.Proofs.Try.f3 false true false false) := by
  refine lift_law (C := Go.Proofs.Try.checked) (rt := 4) own started (by kernel_rfl) Go.Proofs.Try.func3
    (ChangeSpec.witness6 (enc := enc) (C := Go.Proofs.Try.checked) false ⟨#[], #[.int .u8 0, .slice none 0 0], []⟩ 8 (by kernel_rfl) (by kernel_rfl) (by kernel_rfl) (by kernel_rfl))
    laidOut (by kernel_rfl) rfl ?_ (by kernel_rfl) u4 ?_
  · intro ds hl
    have hl : ds.length = 2 := hl
    match ds, hl with
    | [x0, x1], _ => exact ⟨rfl, rfl, rfl⟩
  · intro W base args ds ps hval hA _
    exact calls_of_pu (n := 24) ([(false, [.i .u8]), (false, [.sl [.i .u8, .i .u8, .i .u8, .b, .i .u32]])]) (by kernel_rfl) (fun j t v h h' => hval j t v (by simpa using h) h') hA (law_of torporlaw10_SemaRows_ok (by rfl) SemaRows_true)
theorem over : Rows.semaRowsRow.holds Try.pinned (OpenSpec.ofChange Rows.semaRowsSpec) :=
  OpenClaim.holds_of_wide 3 Go.Proofs.Try.f3 rfl rfl rfl rfl rfl rfl rfl ⟨rfl, rfl, rfl, rfl, rfl⟩ rfl rfl rfl rfl rfl (by kernel_rfl) Go.Proofs.Try.func3 (by kernel_rfl)
    (of_decide_eq_true (by kernel_rfl)) (by unfold Func.isWrapper; first | (rw [if_pos (by decide +kernel)]; kernel_rfl) | (rw [if_neg (by decide +kernel)]; exact ⟨rfl, rfl⟩))
    (fun os started H enc _ => lifted os started H enc)
theorem proved : Rows.SemaRowsSaid := over
#print axioms proved
end Go.Proofs.Ytbflhammcjihgaa.semaRows
namespace Go.Proofs.Ytbflhammcjihgaa
/-- The row, under a short name, for the claim. -/
theorem semaRows_holds : Rows.SemaRowsSaid := semaRows.proved
end Go.Proofs.Ytbflhammcjihgaa
