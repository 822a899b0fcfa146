/- The law DeltaChains: it is proved for every input. -/
import Derived.Test.YtgmacflaicapaaaRows
import Derived.Test.YtgmacflaicapaaaGyB
import Derived.Test.YtgmacflaicapaaaGpDeltaChains
set_option linter.unusedSimpArgs false
set_option linter.unusedVariables false
namespace Go.Proofs.Ytgmacflaicapaaa.deltaChains
open Go Go.AX Go.ChangeShapes Go.WideShapes Go.ChangeAt Go.RowKit

theorem own : ownKnob Go.Proofs.Try.prog.godebug = none := by kernel_rfl
theorem laidOut : laidOutB Go.Proofs.Try.prog = true := by kernel_rfl
theorem u4 : Go.Proofs.Try.prog.underlying 4 = some .bool := by kernel_rfl
set_option maxRecDepth 100000 in
theorem lifted (os : Os) (started : os.Started) (H : Type) (enc : TypeId × Value → H) :
    ReturnsInHanded {} Go.Proofs.Try.checked os 7 .any (Rows.deltaChainsSpec.pre6 enc Go.Proofs.Try.prog Go.Proofs.Try.f7 Rows.deltaChainsRow.domain false) (Rows.deltaChainsSpec.post enc Go.Proofs.Try.prog Go.Proofs.Try.f7 false true false false) := by
  refine lift_law (C := Go.Proofs.Try.checked) (rt := 4) own started (by kernel_rfl) Go.Proofs.Try.func7
    (ChangeSpec.witness6 (enc := enc) (C := Go.Proofs.Try.checked) false ⟨#[], #[.slice none 0 0, .slice none 0 0, .int .u8 0], []⟩ 8 (by kernel_rfl) (by kernel_rfl) (by kernel_rfl) (by kernel_rfl))
    laidOut (by kernel_rfl) rfl ?_ (by kernel_rfl) u4 ?_
  · intro ds hl
    have hl : ds.length = 3 := hl
    match ds, hl with
    | [x0, x1, x2], _ => exact ⟨rfl, rfl, rfl⟩
  · intro W base args ds ps hval hA _
    exact calls_of_pu (n := 12) ([(false, [.sl [.i .u8]]), (false, [.sl [.sl [.i .u8]]]), (false, [.i .u8])]) (by kernel_rfl) (fun j t v h h' => hval j t v (by simpa using h) h') hA (law_of torporlaw28_DeltaChains_ok (by rfl) DeltaChains_true)
theorem over : Rows.deltaChainsRow.holds Try.pinned (OpenSpec.ofChange Rows.deltaChainsSpec) :=
  OpenClaim.holds_of_wide 7 Go.Proofs.Try.f7 rfl rfl rfl rfl rfl rfl rfl ⟨rfl, rfl, rfl, rfl, rfl⟩ rfl rfl rfl rfl rfl (by kernel_rfl) Go.Proofs.Try.func7 (by kernel_rfl)
    (of_decide_eq_true (by kernel_rfl)) (by unfold Func.isWrapper; first | (rw [if_pos (by decide +kernel)]; kernel_rfl) | (rw [if_neg (by decide +kernel)]; exact ⟨rfl, rfl⟩))
    (fun os started H enc _ => lifted os started H enc)
theorem proved : Rows.DeltaChainsSaid := over
#print axioms proved
end Go.Proofs.Ytgmacflaicapaaa.deltaChains
namespace Go.Proofs.Ytgmacflaicapaaa
/-- The row, under a short name, for the claim. -/
theorem deltaChains_holds : Rows.DeltaChainsSaid := deltaChains.proved
end Go.Proofs.Ytgmacflaicapaaa
