/- The law CrcTables: it is proved for every input. -/
import Derived.Test.YtefcokpicpkddaaRows
import Derived.Test.YtefcokpicpkddaaCrcS
import Derived.Test.YtefcokpicpkddaaCrcR
set_option linter.unusedSimpArgs false
set_option linter.unusedVariables false
namespace Go.Proofs.Ytefcokpicpkddaa.crcTables
open Go Go.AX Go.ChangeShapes Go.WideShapes Go.ChangeAt Go.RowKit

theorem own : ownKnob Go.Proofs.Try.prog.godebug = none := by kernel_rfl
theorem laidOut : laidOutB Go.Proofs.Try.prog = true := by kernel_rfl
theorem u4 : Go.Proofs.Try.prog.underlying 4 = some (.bool) := by kernel_rfl
theorem u5 : Go.Proofs.Try.prog.underlying 5 = some (.int .u8) := by kernel_rfl
set_option maxRecDepth 100000 in
theorem lifted (os : Os) (started : os.Started) (H : Type) (enc : TypeId × Value → H) :
    ReturnsInHanded {} Go.Proofs.Try.checked os 3 .any (Rows.crcTablesSpec.pre6 enc Go.Proofs.Try.prog Go.Proofs.Try.f3 Rows.crcTablesRow.domain false) (Rows.crcTablesSpec.post enc Go.Proofs.Try.prog Go.Proofs.Try.f3 false true false false) := by
  refine lift_law (C := Go.Proofs.Try.checked) (rt := 4) own started (by kernel_rfl) Go.Proofs.Try.func3
    (ChangeSpec.witness6 (enc := enc) (C := Go.Proofs.Try.checked) false ⟨#[], #[.int .u8 0, .int .u8 0], []⟩ 8 (by kernel_rfl) (by kernel_rfl) (by kernel_rfl) (by kernel_rfl))
    laidOut (by kernel_rfl) rfl ?_ (by kernel_rfl) u4 ?_
  · intro ds hl
    have hl : ds.length = 2 := hl
    match ds, hl with
    | [x0, x1], _ => exact ⟨rfl, rfl, rfl⟩
  · intro W base args ds ps hval hA _
    rw [Go.Proofs.Try.params3] at hA hval
    obtain ⟨v0, vs0, d0, ds0, p0, q0, hargs, rfl, rfl, h0, r0⟩ := trodAll_cons hA
    obtain ⟨v1, vs1, d1, ds1, p1, q1, rfl, rfl, rfl, h1, r1⟩ := trodAll_cons r0
    obtain ⟨rfl, rfl, rfl⟩ := trodAll_nil r1
    obtain rfl : args = #[v0, v1] := by cases args; simp_all
    obtain ⟨n0, rfl, _, _, w0⟩ := open_int u5 (hval 0 5 v0 rfl rfl) h0
    obtain ⟨c0, rfl, hc0⟩ := wf_u8 w0
    obtain ⟨n1, rfl, _, _, w1⟩ := open_int u5 (hval 1 5 v1 rfl rfl) h1
    obtain ⟨c1, rfl, hc1⟩ := wf_u8 w1
    have := calls_of_call (W := W) (rows := []) (FlatIn.nil).rows (args := [.it .u8 c0, .it .u8 c1]) ⟨trivial, trivial, trivial⟩ (tables_law _ c0 c1 hc0 hc1)
    exact this
theorem over : Rows.crcTablesRow.holds Try.pinned (OpenSpec.ofChange Rows.crcTablesSpec) :=
  OpenClaim.holds_of_wide 3 Go.Proofs.Try.f3 rfl rfl rfl rfl rfl rfl rfl ⟨rfl, rfl, rfl, rfl, rfl⟩ rfl rfl rfl rfl rfl (by kernel_rfl) Go.Proofs.Try.func3 (by kernel_rfl)
    (of_decide_eq_true (by kernel_rfl)) (by unfold Func.isWrapper; first | (rw [if_pos (by decide +kernel)]; kernel_rfl) | (rw [if_neg (by decide +kernel)]; exact ⟨rfl, rfl⟩))
    (fun os started H enc _ => lifted os started H enc)
theorem proved : Rows.CrcTablesSaid := over
#print axioms proved
end Go.Proofs.Ytefcokpicpkddaa.crcTables
namespace Go.Proofs.Ytefcokpicpkddaa
/-- The row, under a short name, for the claim. -/
theorem crcTables_holds : Rows.CrcTablesSaid := crcTables.proved
end Go.Proofs.Ytefcokpicpkddaa
