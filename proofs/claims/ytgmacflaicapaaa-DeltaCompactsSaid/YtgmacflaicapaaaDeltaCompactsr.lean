/- The law DeltaCompacts: it is proved for every input. -/
import Derived.Test.YtgmacflaicapaaaRows
import Derived.Test.YtgmacflaicapaaaGyB
import Derived.Test.YtgmacflaicapaaaGpDeltaCompacts
set_option linter.unusedSimpArgs false
set_option linter.unusedVariables false
namespace Go.Proofs.Ytgmacflaicapaaa.deltaCompacts
open Go Go.AX Go.ChangeShapes Go.WideShapes Go.ChangeAt Go.RowKit

theorem own : ownKnob Go.Proofs.Try.prog.godebug = none := by kernel_rfl
theorem laidOut : laidOutB Go.Proofs.Try.prog = true := by kernel_rfl
theorem u4 : Go.Proofs.Try.prog.underlying 4 = some .bool := by kernel_rfl
set_option maxRecDepth 100000 in
theorem lifted (os : Os) (started : os.Started) (H : Type) (enc : TypeId × Value → H) :
    ReturnsInHanded {} Go.Proofs.Try.checked os 8 .any (Rows.deltaCompactsSpec.pre6 enc Go.Proofs.Try.prog Go.Proofs.Try.f8 Rows.deltaCompactsRow.domain false) (Rows.deltaCompactsSpec.post enc Go.Proofs.Try.prog Go.Proofs.Try.f8 false true false false) := by
  refine lift_law (C := Go.Proofs.Try.checked) (rt := 4) own started (by kernel_rfl) Go.Proofs.Try.func8
    (ChangeSpec.witness6 (enc := enc) (C := Go.Proofs.Try.checked) false ⟨#[], #[.slice none 0 0, .agg #[.int .i64 0, .int .u32 0, .int .i64 0, .int .u32 0, .slice none 0 0], .agg #[.int .i64 0, .int .u32 0, .int .i64 0, .int .u32 0, .slice none 0 0]], []⟩ 8 (by kernel_rfl) (by kernel_rfl) (by kernel_rfl) (by kernel_rfl))
    laidOut (by kernel_rfl) rfl ?_ (by kernel_rfl) u4 ?_
  · intro ds hl
    have hl : ds.length = 3 := hl
    match ds, hl with
    | [x0, x1, x2], _ => exact ⟨rfl, rfl, rfl⟩
  · intro W base args ds ps hval hA _
    exact calls_of_pu (n := 12) ([(false, [.sl [.i .u8]]), (true, [.i .i64, .i .u32, .i .i64, .i .u32, .sl [.i .i64, .sl [.i .u8]]]), (true, [.i .i64, .i .u32, .i .i64, .i .u32, .sl [.i .i64, .sl [.i .u8]]])]) (by kernel_rfl) (fun j t v h h' => hval j t v (by simpa using h) h') hA (law_of torporlaw28_DeltaCompacts_ok (by rfl) DeltaCompacts_true)
theorem over : Rows.deltaCompactsRow.holds Try.pinned (OpenSpec.ofChange Rows.deltaCompactsSpec) :=
  OpenClaim.holds_of_wide 8 Go.Proofs.Try.f8 rfl rfl rfl rfl rfl rfl rfl ⟨rfl, rfl, rfl, rfl, rfl⟩ rfl rfl rfl rfl rfl (by kernel_rfl) Go.Proofs.Try.func8 (by kernel_rfl)
    (of_decide_eq_true (by kernel_rfl)) (by unfold Func.isWrapper; first | (rw [if_pos (by decide +kernel)]; kernel_rfl) | (rw [if_neg (by decide +kernel)]; exact ⟨rfl, rfl⟩))
    (fun os started H enc _ => lifted os started H enc)
theorem proved : Rows.DeltaCompactsSaid := over
#print axioms proved
end Go.Proofs.Ytgmacflaicapaaa.deltaCompacts
namespace Go.Proofs.Ytgmacflaicapaaa
/-- The row, under a short name, for the claim. -/
theorem deltaCompacts_holds : Rows.DeltaCompactsSaid := deltaCompacts.proved
end Go.Proofs.Ytgmacflaicapaaa
