/- The law SemaBack: it is proved for every input. -/
import Derived.Test.YtbflhammcjihgaaRows
import Derived.Test.YtbflhammcjihgaaGyB
import Derived.Test.YtbflhammcjihgaaGrSemaBack
set_option linter.unusedSimpArgs false
set_option linter.unusedVariables false
namespace Go.Proofs.Ytbflhammcjihgaa.semaBack
open Go Go.AX Go.ChangeShapes Go.WideShapes Go.ChangeAt Go.RowKit

theorem own : ownKnob Go.Proofs.Try.prog.godebug = none := by kernel_rfl
theorem laidOut : laidOutB Go.Proofs.Try.prog = true := by kernel_rfl
theorem u4 : Go.Proofs.Try.prog.underlying 4 = some .bool := by kernel_rfl
set_option maxRecDepth 100000 in
theorem lifted (os : Os) (started : os.Started) (H : Type) (enc : TypeId × Value → H) :
    ReturnsInHanded {} Go.Proofs.Try.checked os 4 .any (Rows.semaBackSpec.pre6 enc Go.Proofs.Try.prog Go.Proofs.Try.f4 Rows.semaBackRow.domain false) (Rows.semaBackSpec.post enc Go.Proofs.Try.prog Go.Proofs.Try.f4 false true false false) := by
  refine lift_law (C := Go.Proofs.Try.checked) (rt := 4) own started (by kernel_rfl) Go.Proofs.Try.func4
    (ChangeSpec.witness6 (enc := enc) (C := Go.Proofs.Try.checked) false ⟨#[], #[.agg #[.slice none 0 0, .int .i64 0, .slice none 0 0, .int .i64 0, .int .i64 0], .agg #[.int .u8 0, .int .u8 0], .int .u32 0], []⟩ 8 (by kernel_rfl) (by kernel_rfl) (by kernel_rfl) (by kernel_rfl))
    laidOut (by kernel_rfl) rfl ?_ (by kernel_rfl) u4 ?_
  · intro ds hl
    have hl : ds.length = 3 := hl
    match ds, hl with
    | [x0, x1, x2], _ => exact ⟨rfl, rfl, rfl⟩
  · intro W base args ds ps hval hA _
    exact calls_of_pu (n := 24) ([(true, [.sl [.i .i64, .i .i64, .i .i64], .i .i64, .sl [.i .i64, .i .u32, .i .i64, .i .i64, .i .i64, .i .i64], .i .i64, .i .i64]), (true, [.i .u8, .i .u8]), (false, [.i .u32])]) (by kernel_rfl) (fun j t v h h' => hval j t v (by simpa using h) h') hA (law_of torporlaw10_SemaBack_ok (by rfl) SemaBack_true)
theorem over : Rows.semaBackRow.holds Try.pinned (OpenSpec.ofChange Rows.semaBackSpec) :=
  OpenClaim.holds_of_wide 4 Go.Proofs.Try.f4 rfl rfl rfl rfl rfl rfl rfl ⟨rfl, rfl, rfl, rfl, rfl⟩ rfl rfl rfl rfl rfl (by kernel_rfl) Go.Proofs.Try.func4 (by kernel_rfl)
    (of_decide_eq_true (by kernel_rfl)) (by unfold Func.isWrapper; first | (rw [if_pos (by decide +kernel)]; kernel_rfl) | (rw [if_neg (by decide +kernel)]; exact ⟨rfl, rfl⟩))
    (fun os started H enc _ => lifted os started H enc)
theorem proved : Rows.SemaBackSaid := over
#print axioms proved
end Go.Proofs.Ytbflhammcjihgaa.semaBack
namespace Go.Proofs.Ytbflhammcjihgaa
/-- The row, under a short name, for the claim. -/
theorem semaBack_holds : Rows.SemaBackSaid := semaBack.proved
end Go.Proofs.Ytbflhammcjihgaa
