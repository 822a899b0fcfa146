/- Arena: its laws' arguments, opened. -/
import Derived.Test.YtjmknbbipadjbaaArE
import Derived.Test.YtjmknbbipadjbaaAyP
set_option linter.unusedSimpArgs false
set_option linter.unusedVariables false
namespace Go.AX
open Go

theorem map_of {α : Type} {f : α → PV} {Q : α → Prop} : ∀ {l : List PV}, (∀ x ∈ l, ∃ r, x = f r ∧ Q r) → ∃ rs : List α, l = rs.map f ∧ ∀ r ∈ rs, Q r
  | [], _ => ⟨[], rfl, by simp⟩
  | x :: l, h => by
    obtain ⟨rs, rfl, h2⟩ := map_of (l := l) fun x hx => h x (by simp [hx])
    obtain ⟨r, rfl, h1⟩ := h x (by simp)
    exact ⟨r :: rs, rfl, by simpa using ⟨h1, h2⟩⟩
abbrev ctInt : CT := .i .i64
abbrev ctArena : List CT := [.sl [ctInt, ctInt, ctInt], ctInt]
theorem has_int {v : PV} (h : hasC ctInt v) : ∃ n : Int, v = .it .i64 n ∧ -9223372036854775808 ≤ n ∧ n ≤ 9223372036854775807 := by
  simp only [hasC] at h
  obtain ⟨n, rfl, hn⟩ := h
  exact ⟨n, rfl, (Lit.wf_int_iff .i64 n).1 hn⟩
theorem has_recs {v : PV} (h : hasC (.sl [ctInt, ctInt, ctInt]) v) : ∃ rs : List Rec, v = .vs 1 3 (rs.map pRec) ∧ rs.length ≤ maxLen := by
  simp only [hasC] at h
  obtain ⟨l, rfl, hl, h⟩ := h
  obtain ⟨rs, rfl, _⟩ := map_of (l := l) (f := pRec) (Q := fun _ => True) fun x hx => by
    obtain ⟨cs, rfl, h1⟩ := h x hx
    simp only [hasL, hasC] at h1
    obtain ⟨_, _, rfl, ⟨a, rfl, _⟩, _, _, rfl, ⟨b, rfl, _⟩, _, _, rfl, ⟨c, rfl, _⟩, rfl⟩ := h1
    exact ⟨⟨a, b, c⟩, rfl, trivial⟩
  exact ⟨rs, rfl, by simpa using hl⟩
theorem has_arena {p : List PV} (h : hasL ctArena p) : ∃ (rs : List Rec) (free : Int), p = [.vs 1 3 (rs.map pRec), .it .i64 free] ∧ rs.length ≤ maxLen ∧ -9223372036854775808 ≤ free ∧ free ≤ 9223372036854775807 := by
  simp only [hasL] at h
  obtain ⟨_, _, rfl, h1, _, _, rfl, h2, rfl⟩ := h
  obtain ⟨rs, rfl, h3⟩ := has_recs h1
  obtain ⟨n, rfl, h4⟩ := has_int h2
  exact ⟨rs, n, rfl, h3, h4⟩
theorem answers_all : ∀ p, hasT [(true, ctArena), (true, [ctInt, ctInt])] p → Pu Go.Proofs.Try.prog fn_torporlaw07_ArenaAnswers p [] (.bo true) := by
  intro p h
  simp only [hasT] at h
  obtain ⟨_, _, rfl, h1, _, _, rfl, h2, rfl⟩ := h
  obtain ⟨rs, free, rfl, _⟩ := has_arena h1
  simp only [hasL] at h2
  obtain ⟨_, _, rfl, h3, _, _, rfl, h4, rfl⟩ := h2
  obtain ⟨a, rfl, _⟩ := has_int h3
  obtain ⟨b, rfl, _⟩ := has_int h4
  exact answers_pu _ _ _ _ _

end Go.AX
