/- The law CrcUpdates: it is proved for every input. -/
import Derived.Test.YtefcokpicpkddaaRows
import Derived.Test.YtefcokpicpkddaaCrcU
import Derived.Test.YtefcokpicpkddaaCrcR
set_option linter.unusedSimpArgs false
set_option linter.unusedVariables false
namespace Go.Proofs.Ytefcokpicpkddaa.crcUpdates
open Go Go.AX Go.ChangeShapes Go.WideShapes Go.ChangeAt Go.RowKit

theorem own : ownKnob Go.Proofs.Try.prog.godebug = none := by kernel_rfl
theorem laidOut : laidOutB Go.Proofs.Try.prog = true := by kernel_rfl
theorem u24 : Go.Proofs.Try.prog.underlying 24 = some (.array 256 23) := by kernel_rfl
theorem u23 : Go.Proofs.Try.prog.underlying 23 = some (.int .u32) := by kernel_rfl
theorem u28 : Go.Proofs.Try.prog.underlying 28 = some (.slice 5) := by kernel_rfl
theorem u5 : Go.Proofs.Try.prog.underlying 5 = some (.int .u8) := by kernel_rfl
theorem u4 : Go.Proofs.Try.prog.underlying 4 = some .bool := by kernel_rfl
set_option maxRecDepth 100000 in
theorem lifted (os : Os) (started : os.Started) (H : Type) (enc : TypeId × Value → H) :
    ReturnsInHanded {} Go.Proofs.Try.checked os 4 .any (Rows.crcUpdatesSpec.pre6 enc Go.Proofs.Try.prog Go.Proofs.Try.f4 Rows.crcUpdatesRow.domain false) (Rows.crcUpdatesSpec.post enc Go.Proofs.Try.prog Go.Proofs.Try.f4 false true false false) := by
  refine lift_law (C := Go.Proofs.Try.checked) (rt := 4) own started (by kernel_rfl) Go.Proofs.Try.func4
    (ChangeSpec.witness6 (enc := enc) (C := Go.Proofs.Try.checked) false ⟨#[], #[.agg (Array.replicate 256 (.int .u32 0)), .int .u32 0, .slice none 0 0], []⟩ 8 (by kernel_rfl) (by kernel_rfl) (by kernel_rfl) (by kernel_rfl))
    laidOut (by kernel_rfl) rfl ?_ (by kernel_rfl) u4 ?_
  · intro ds hl
    have hl : ds.length = 3 := hl
    match ds, hl with
    | [a, b, c], _ => exact ⟨rfl, rfl, rfl⟩
  · intro W base args ds ps hval hA _
    rw [Go.Proofs.Try.params4] at hA hval
    obtain ⟨v0, vs0, d0, ds0, p0, q0, hargs, rfl, rfl, h0, r0⟩ := trodAll_cons hA
    obtain ⟨v1, vs1, d1, ds1, p1, q1, rfl, rfl, rfl, h1, r1⟩ := trodAll_cons r0
    obtain ⟨v2, vs2, d2, ds2, p2, q2, rfl, rfl, rfl, h2, r2⟩ := trodAll_cons r1
    obtain ⟨rfl, rfl, rfl⟩ := trodAll_nil r2
    obtain rfl : args = #[v0, v1, v2] := by cases args; simp_all
    obtain ⟨T, hT, e0⟩ := tab_arg u24 u23 (by kernel_rfl) (by kernel_rfl) (hval 0 24 v0 rfl rfl) h0
    obtain ⟨n1, rfl, _, _, w1⟩ := open_int u23 (hval 1 23 v1 rfl rfl) h1
    obtain ⟨c, rfl, hc⟩ := wf_u32 w1
    obtain ⟨rows, x, bs, rfl, ok, hr, hb⟩ := bytes_arg u28 u5 (by kernel_rfl) (hval 2 28 v2 rfl rfl) h2
    have := calls_of_call hr (args := [.ag (tabL T), .it .u32 c, x]) ⟨⟨?_, ?_⟩, trivial, ok, trivial⟩ (updates_law _ T hT c hc x bs hb)
    · rw [e0 (injOf rows)]; exact this
    · exact okL_iff.2 fun v hv => by
        obtain ⟨i, _, rfl⟩ := List.mem_map.1 hv
        trivial
    · exact List.all_eq_true.2 fun v hv => by
        obtain ⟨i, _, rfl⟩ := List.mem_map.1 hv
        rfl
theorem over : Rows.crcUpdatesRow.holds Try.pinned (OpenSpec.ofChange Rows.crcUpdatesSpec) :=
  OpenClaim.holds_of_wide 4 Go.Proofs.Try.f4 rfl rfl rfl rfl rfl rfl rfl ⟨rfl, rfl, rfl, rfl, rfl⟩ rfl rfl rfl rfl rfl (by kernel_rfl) Go.Proofs.Try.func4 (by kernel_rfl)
    (of_decide_eq_true (by kernel_rfl)) (by unfold Func.isWrapper; first | (rw [if_pos (by decide +kernel)]; kernel_rfl) | (rw [if_neg (by decide +kernel)]; exact ⟨rfl, rfl⟩))
    (fun os started H enc _ => lifted os started H enc)
theorem proved : Rows.CrcUpdatesSaid := over
#print axioms proved
end Go.Proofs.Ytefcokpicpkddaa.crcUpdates
namespace Go.Proofs.Ytefcokpicpkddaa
/-- The row, under a short name, for the claim. -/
theorem crcUpdates_holds : Rows.CrcUpdatesSaid := crcUpdates.proved
end Go.Proofs.Ytefcokpicpkddaa
