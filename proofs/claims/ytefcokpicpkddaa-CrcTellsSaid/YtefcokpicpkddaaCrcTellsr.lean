/- The law CrcTells: it is proved for every input. -/
import Derived.Test.YtefcokpicpkddaaRows
import Derived.Test.YtefcokpicpkddaaCrcE
import Derived.Test.YtefcokpicpkddaaCrcR
set_option linter.unusedSimpArgs false
set_option linter.unusedVariables false
namespace Go.Proofs.Ytefcokpicpkddaa.crcTells
open Go Go.AX Go.ChangeShapes Go.WideShapes Go.ChangeAt Go.RowKit

theorem own : ownKnob Go.Proofs.Try.prog.godebug = none := by kernel_rfl
theorem laidOut : laidOutB Go.Proofs.Try.prog = true := by kernel_rfl
theorem u4 : Go.Proofs.Try.prog.underlying 4 = some (.bool) := by kernel_rfl
theorem u5 : Go.Proofs.Try.prog.underlying 5 = some (.int .u8) := by kernel_rfl
theorem u28 : Go.Proofs.Try.prog.underlying 28 = some (.slice 5) := by kernel_rfl
theorem u34 : Go.Proofs.Try.prog.underlying 34 = some (.int .u16) := by kernel_rfl
theorem u35 : Go.Proofs.Try.prog.underlying 35 = some (.array 2 34) := by kernel_rfl
set_option maxRecDepth 100000 in
theorem lifted (os : Os) (started : os.Started) (H : Type) (enc : TypeId × Value → H) :
    ReturnsInHanded {} Go.Proofs.Try.checked os 6 .any (Rows.crcTellsSpec.pre6 enc Go.Proofs.Try.prog Go.Proofs.Try.f6 Rows.crcTellsRow.domain false) (Rows.crcTellsSpec.post enc Go.Proofs.Try.prog Go.Proofs.Try.f6 false true false false) := by
  refine lift_law (C := Go.Proofs.Try.checked) (rt := 4) own started (by kernel_rfl) Go.Proofs.Try.func6
    (ChangeSpec.witness6 (enc := enc) (C := Go.Proofs.Try.checked) false ⟨#[], #[.slice none 0 0, .agg #[.int .u16 0, .int .u16 0], .int .u8 0], []⟩ 8 (by kernel_rfl) (by kernel_rfl) (by kernel_rfl) (by kernel_rfl))
    laidOut (by kernel_rfl) rfl ?_ (by kernel_rfl) u4 ?_
  · intro ds hl
    have hl : ds.length = 3 := hl
    match ds, hl with
    | [x0, x1, x2], _ => exact ⟨rfl, rfl, rfl⟩
  · intro W base args ds ps hval hA _
    rw [Go.Proofs.Try.params6] at hA hval
    obtain ⟨v0, vs0, d0, ds0, p0, q0, hargs, rfl, rfl, h0, r0⟩ := trodAll_cons hA
    obtain ⟨v1, vs1, d1, ds1, p1, q1, rfl, rfl, rfl, h1, r1⟩ := trodAll_cons r0
    obtain ⟨v2, vs2, d2, ds2, p2, q2, rfl, rfl, rfl, h2, r2⟩ := trodAll_cons r1
    obtain ⟨rfl, rfl, rfl⟩ := trodAll_nil r2
    obtain rfl : args = #[v0, v1, v2] := by cases args; simp_all
    obtain ⟨l0, x0, bs0, fl0, b0⟩ := bytes_arg u28 u5 (by kernel_rfl) (hval 0 28 v0 rfl rfl) h0
    obtain ⟨m1, k1, hm1, hk1, rfl⟩ := two_arg u35 u34 (by kernel_rfl) (by kernel_rfl) (hval 1 35 v1 rfl rfl) h1
    obtain ⟨n2, rfl, _, _, w2⟩ := open_int u5 (hval 2 5 v2 rfl rfl) h2
    obtain ⟨c2, rfl, hc2⟩ := wf_u8 w2
    obtain ⟨e0, ok0, hb0⟩ := b0 ([]) ([])
    simp only [List.nil_append, List.append_nil, List.append_assoc] at e0 ok0 hb0
    have := calls_of_call (W := W) (rows := l0) (fl0).rows (args := [x0 ([]).length, .ag [.it .u16 (m1 : Nat), .it .u16 (k1 : Nat)], .it .u8 c2]) ⟨(by simpa only [List.nil_append, List.append_nil, List.append_assoc] using ok0), ⟨⟨trivial, trivial, trivial⟩, rfl⟩, trivial, trivial⟩ (tells_law _ _ bs0 hb0 m1 k1 hm1 c2 hc2)
    rw [e0]; exact this
theorem over : Rows.crcTellsRow.holds Try.pinned (OpenSpec.ofChange Rows.crcTellsSpec) :=
  OpenClaim.holds_of_wide 6 Go.Proofs.Try.f6 rfl rfl rfl rfl rfl rfl rfl ⟨rfl, rfl, rfl, rfl, rfl⟩ rfl rfl rfl rfl rfl (by kernel_rfl) Go.Proofs.Try.func6 (by kernel_rfl)
    (of_decide_eq_true (by kernel_rfl)) (by unfold Func.isWrapper; first | (rw [if_pos (by decide +kernel)]; kernel_rfl) | (rw [if_neg (by decide +kernel)]; exact ⟨rfl, rfl⟩))
    (fun os started H enc _ => lifted os started H enc)
theorem proved : Rows.CrcTellsSaid := over
#print axioms proved
end Go.Proofs.Ytefcokpicpkddaa.crcTells
namespace Go.Proofs.Ytefcokpicpkddaa
/-- The row, under a short name, for the claim. -/
theorem crcTells_holds : Rows.CrcTellsSaid := crcTells.proved
end Go.Proofs.Ytefcokpicpkddaa
