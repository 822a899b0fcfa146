/- The law CrcPuts: it is proved for every input. -/
import Derived.Test.YtefcokpicpkddaaRows
import Derived.Test.YtefcokpicpkddaaCrcE
import Derived.Test.YtefcokpicpkddaaCrcR
set_option linter.unusedSimpArgs false
set_option linter.unusedVariables false
namespace Go.Proofs.Ytefcokpicpkddaa.crcPuts
open Go Go.AX Go.ChangeShapes Go.WideShapes Go.ChangeAt Go.RowKit

theorem own : ownKnob Go.Proofs.Try.prog.godebug = none := by kernel_rfl
theorem laidOut : laidOutB Go.Proofs.Try.prog = true := by kernel_rfl
theorem u4 : Go.Proofs.Try.prog.underlying 4 = some (.bool) := by kernel_rfl
theorem u5 : Go.Proofs.Try.prog.underlying 5 = some (.int .u8) := by kernel_rfl
theorem u28 : Go.Proofs.Try.prog.underlying 28 = some (.slice 5) := by kernel_rfl
set_option maxRecDepth 100000 in
theorem lifted (os : Os) (started : os.Started) (H : Type) (enc : TypeId × Value → H) :
    ReturnsInHanded {} Go.Proofs.Try.checked os 7 .any (Rows.crcPutsSpec.pre6 enc Go.Proofs.Try.prog Go.Proofs.Try.f7 Rows.crcPutsRow.domain false) (Rows.crcPutsSpec.post enc Go.Proofs.Try.prog Go.Proofs.Try.f7 false true false false) := by
  refine lift_law (C := Go.Proofs.Try.checked) (rt := 4) own started (by kernel_rfl) Go.Proofs.Try.func7
    (ChangeSpec.witness6 (enc := enc) (C := Go.Proofs.Try.checked) false ⟨#[], #[.slice none 0 0, .slice none 0 0, .slice none 0 0], []⟩ 8 (by kernel_rfl) (by kernel_rfl) (by kernel_rfl) (by kernel_rfl))
    laidOut (by kernel_rfl) rfl ?_ (by kernel_rfl) u4 ?_
  · intro ds hl
    have hl : ds.length = 3 := hl
    match ds, hl with
    | [x0, x1, x2], _ => exact ⟨rfl, rfl, rfl⟩
  · intro W base args ds ps hval hA _
    rw [Go.Proofs.Try.params7] at hA hval
    obtain ⟨v0, vs0, d0, ds0, p0, q0, hargs, rfl, rfl, h0, r0⟩ := trodAll_cons hA
    obtain ⟨v1, vs1, d1, ds1, p1, q1, rfl, rfl, rfl, h1, r1⟩ := trodAll_cons r0
    obtain ⟨v2, vs2, d2, ds2, p2, q2, rfl, rfl, rfl, h2, r2⟩ := trodAll_cons r1
    obtain ⟨rfl, rfl, rfl⟩ := trodAll_nil r2
    obtain rfl : args = #[v0, v1, v2] := by cases args; simp_all
    obtain ⟨l0, x0, bs0, fl0, b0⟩ := bytes_arg u28 u5 (by kernel_rfl) (hval 0 28 v0 rfl rfl) h0
    obtain ⟨l1, x1, bs1, fl1, b1⟩ := bytes_arg u28 u5 (by kernel_rfl) (hval 1 28 v1 rfl rfl) h1
    obtain ⟨l2, x2, bs2, fl2, b2⟩ := bytes_arg u28 u5 (by kernel_rfl) (hval 2 28 v2 rfl rfl) h2
    obtain ⟨e0, ok0, hb0⟩ := b0 ([]) (l1 ++ (l2))
    try simp only [List.nil_append, List.append_nil, List.append_assoc] at e0 ok0 hb0
    obtain ⟨e1, ok1, hb1⟩ := b1 (l0) (l2)
    try simp only [List.nil_append, List.append_nil, List.append_assoc] at e1 ok1 hb1
    obtain ⟨e2, ok2, hb2⟩ := b2 (l0 ++ l1) ([])
    try simp only [List.nil_append, List.append_nil, List.append_assoc] at e2 ok2 hb2
    have := calls_of_call (W := W) (rows := l0 ++ (l1 ++ (l2))) ((fl0.append (fl1.append fl2))).rows (args := [x0 ([]).length, x1 (l0).length, x2 (l0 ++ l1).length]) ⟨(by simpa only [List.nil_append, List.append_nil, List.append_assoc] using ok0), (by simpa only [List.nil_append, List.append_nil, List.append_assoc] using ok1), (by simpa only [List.nil_append, List.append_nil, List.append_assoc] using ok2), trivial⟩ (puts_law _ _ _ _ bs0 bs1 bs2 hb0 hb1 hb2)
    rw [e0, e1, e2]; exact this
theorem over : Rows.crcPutsRow.holds Try.pinned (OpenSpec.ofChange Rows.crcPutsSpec) :=
  OpenClaim.holds_of_wide 7 Go.Proofs.Try.f7 rfl rfl rfl rfl rfl rfl rfl ⟨rfl, rfl, rfl, rfl, rfl⟩ rfl rfl rfl rfl rfl (by kernel_rfl) Go.Proofs.Try.func7 (by kernel_rfl)
    (of_decide_eq_true (by kernel_rfl)) (by unfold Func.isWrapper; first | (rw [if_pos (by decide +kernel)]; kernel_rfl) | (rw [if_neg (by decide +kernel)]; exact ⟨rfl, rfl⟩))
    (fun os started H enc _ => lifted os started H enc)
theorem proved : Rows.CrcPutsSaid := over
#print axioms proved
end Go.Proofs.Ytefcokpicpkddaa.crcPuts
namespace Go.Proofs.Ytefcokpicpkddaa
/-- The row, under a short name, for the claim. -/
theorem crcPuts_holds : Rows.CrcPutsSaid := crcPuts.proved
end Go.Proofs.Ytefcokpicpkddaa
