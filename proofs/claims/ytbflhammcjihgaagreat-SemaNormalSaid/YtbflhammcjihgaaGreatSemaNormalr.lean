/- The law SemaNormal: it is proved for every input. -/
import Derived.Test.YtbflhammcjihgaaGreatRows
import Derived.Test.YtbflhammcjihgaaGreatGyB
import Derived.Test.YtbflhammcjihgaaGreatGrSemaNormal
set_option linter.unusedSimpArgs false
set_option linter.unusedVariables false
namespace Go.Proofs.YtbflhammcjihgaaGreat.semaNormal
open Go Go.AX Go.ChangeShapes Go.WideShapes Go.ChangeAt Go.RowKit

theorem own : ownKnob Go.Proofs.Tryz.prog.godebug = none := by kernel_rfl
theorem laidOut : laidOutB Go.Proofs.Tryz.prog = true := by kernel_rfl
theorem u4 : Go.Proofs.Tryz.prog.underlying 4 = some .bool := by kernel_rfl
set_option maxRecDepth 100000 in
theorem lifted (os : Os) (started : os.Started) (H : Type) (enc : TypeId × Value → H) :
    ReturnsInHanded {} Go.Proofs.Tryz.checked os 5 .any (Rows.semaNormalSpec.pre6 enc Go.Proofs.Tryz.prog Go.Proofs.Tryz.f5 Rows.semaNormalRow.domain false) (Rows.semaNormalSpec.post enc Go.Proofs.Tryz.prog Go.Proofs.Tryz.f5 false true false false) := by
  refine lift_law (C := Go.Proofs.Tryz.checked) (rt := 4) own started (by kernel_rfl) Go.Proofs.Tryz.func5
    (ChangeSpec.witness6 (enc := enc) (C := Go.Proofs.Tryz.checked) false ⟨#[], #[.agg #[.slice none 0 0, .int .i64 0, .slice none 0 0, .int .i64 0, .int .i64 0]], []⟩ 8 (by kernel_rfl) (by kernel_rfl) (by kernel_rfl) (by kernel_rfl))
    laidOut (by kernel_rfl) rfl ?_ (by kernel_rfl) u4 ?_
  · intro ds hl
    have hl : ds.length = 1 := hl
    match ds, hl with
    | [x0], _ => exact ⟨rfl, rfl, rfl⟩
  · intro W base args ds ps hval hA _
    exact calls_of_pu (n := 24) ([(true, [.sl [.i .i64, .i .i64, .i .i64], .i .i64, .sl [.i .i64, .i .u32, .i .i64, .i .i64, .i .i64, .i .i64], .i .i64, .i .i64])]) (by kernel_rfl) (fun j t v h h' => hval j t v (by simpa using h) h') hA (law_of torporlaw10_SemaNormal_ok (by rfl) SemaNormal_true)
theorem over : Rows.semaNormalRow.holds Tryz.pinned (OpenSpec.ofChange Rows.semaNormalSpec) :=
  OpenClaim.holds_of_wide 5 Go.Proofs.Tryz.f5 rfl rfl rfl rfl rfl rfl rfl ⟨rfl, rfl, rfl, rfl, rfl⟩ rfl rfl rfl rfl rfl (by kernel_rfl) Go.Proofs.Tryz.func5 (by kernel_rfl)
    (of_decide_eq_true (by kernel_rfl)) (by unfold Func.isWrapper; first | (rw [if_pos (by decide +kernel)]; kernel_rfl) | (rw [if_neg (by decide +kernel)]; exact ⟨rfl, rfl⟩))
    (fun os started H enc _ => lifted os started H enc)
theorem proved : Rows.SemaNormalSaid := over
#print axioms proved
end Go.Proofs.YtbflhammcjihgaaGreat.semaNormal
namespace Go.Proofs.YtbflhammcjihgaaGreat
/-- The row, under a short name, for the claim. -/
theorem semaNormal_holds : Rows.SemaNormalSaid := semaNormal.proved
end Go.Proofs.YtbflhammcjihgaaGreat
