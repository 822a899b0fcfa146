/- Parts: PlA PlB PlC PlD PlE PlF PlG PlH PlI PlJ PlK PlL PlM PlN PlO PlP PlQ. -/
import Derived.Test.YtjdpfnccghemeaaGeB
import Derived.Test.YtjdpfnccghemeaaGqA

section
/- The arena and its document, as functions: plain facts. -/
set_option linter.unusedSimpArgs false
set_option linter.unusedVariables false
namespace Go.AX
open Go

abbrev R3 := Int × Int × Int
theorem big : 1000000000000 < FUEL := by decide
theorem drop_at {T : Ty} {l : List T.den} {i : Nat} (h : i < l.length) : l.drop i = Ty.at T l i :: l.drop (i + 1) := by rw [at_get h]; exact List.drop_eq_getElem_cons h
theorem toN1 {i : Int} (h : 0 ≤ i) : (i + 1).toNat = i.toNat + 1 := by omega
theorem Has_eq (l : List Int) (n : Int) (hl : l.length ≤ 1000000) : torporref07_Has (l, n) = some (decide (n ∈ l)) := by
  unfold torporref07_Has torporref07_Has_g
  refine (LOOP_m (fun s => s.1 = l ∧ s.2.1 = n ∧ 0 ≤ s.2.2 ∧ s.2.2 ≤ (l.length : Int)) (fun s => l.length - s.2.2.toNat) (fun s => decide (n ∈ l.drop s.2.2.toNat)) ?_ ⟨rfl, rfl, by simp, by simp⟩ (by have := big; simp; omega)).trans (by simp)
  rintro ⟨a, b, i⟩ ⟨rfl, rfl, h0, h1⟩
  dsimp only at *
  simp only [cond_b, decide_eq_true_eq, Bool.and_eq_true, Bool.not_eq_true', decide_eq_false_iff_not, Bool.or_eq_true, Bool.not_eq_eq_eq_not, Bool.not_true, Bool.not_false, beq_iff_eq, Option.bind_some, Bool.not_not, decide_eq_true_eq, Decidable.not_not, and_true]
  (repeat' (first | (refine StepOK_ite (fun h => ?_) (fun h => ?_)) | (refine StepOK_inr ?_) | (refine StepOK_inl ⟨?_, ?_, ?_⟩)))
  all_goals try dsimp only
  · rename_i h2 h3
    rw [drop_at (T := (Ty.int IntKind.i64)) (by omega)]; simp [← h]
  · rw [wrap_i64 (by omega)]; omega
  · rw [wrap_i64 (by omega)]; exact ⟨rfl, rfl, by omega, by omega⟩
  · rename_i h2 h3
    rw [wrap_i64 (by omega), toN1 h0, drop_at (T := (Ty.int IntKind.i64)) (l := a) (i := i.toNat) (by omega)]
    have h' : ¬ b = Ty.at (Ty.int IntKind.i64) a i.toNat := fun e => h e.symm
    simp [h']
  · omega
  · rw [List.drop_of_length_le (by omega)]; simp
theorem Ints_eq (a b : List Int) (hl : a.length ≤ 1000000) : torporref01_Ints (a, b) = some (decide (a = b)) := by
  unfold torporref01_Ints torporref01_Ints_g
  simp only [cond_b, decide_eq_true_eq, Bool.and_eq_true, Bool.not_eq_true', decide_eq_false_iff_not, Bool.or_eq_true, Bool.not_eq_eq_eq_not, Bool.not_true, Bool.not_false, beq_iff_eq, Option.bind_some, Bool.not_not, decide_eq_true_eq, Decidable.not_not, and_true]
  by_cases hlen : a.length = b.length
  · rw [if_neg (by simp [hlen])]
    refine (LOOP_m (fun s => s.1 = a ∧ s.2.1 = b ∧ 0 ≤ s.2.2 ∧ s.2.2 ≤ (a.length : Int)) (fun s => a.length - s.2.2.toNat) (fun s => decide (a.drop s.2.2.toNat = b.drop s.2.2.toNat)) ?_ ⟨rfl, rfl, by simp, by simp⟩ (by have := big; simp; omega)).trans (by simp)
    rintro ⟨a', b', i⟩ ⟨rfl, rfl, h0, h1⟩
    dsimp only at *
    (repeat' (first | (refine StepOK_ite (fun h => ?_) (fun h => ?_)) | (refine StepOK_inr ?_) | (refine StepOK_inl ⟨?_, ?_, ?_⟩)))
    all_goals try dsimp only
    · rw [drop_at (T := (Ty.int IntKind.i64)) (l := a') (by omega), drop_at (T := (Ty.int IntKind.i64)) (l := b') (by omega)]; simp only [List.cons.injEq]; rw [eq_comm, decide_eq_false_iff_not]; exact fun e => h e.1
    · rw [wrap_i64 (by omega)]; omega
    · rw [wrap_i64 (by omega)]; exact ⟨rfl, rfl, by omega, by omega⟩
    · rw [wrap_i64 (by omega), toN1 h0, drop_at (T := (Ty.int IntKind.i64)) (l := a') (i := i.toNat) (by omega), drop_at (T := (Ty.int IntKind.i64)) (l := b') (i := i.toNat) (by omega)]
      have h' : Ty.at (Ty.int IntKind.i64) a' i.toNat = Ty.at (Ty.int IntKind.i64) b' i.toNat := Decidable.not_not.1 h
      simp [h']
    · omega
    · omega
    · rw [List.drop_of_length_le (by omega), List.drop_of_length_le (by omega)]; simp
  · rw [if_pos (by omega)]
    have : a ≠ b := fun e => hlen (by rw [e])
    simp [this]
end Go.AX
end

section
/- Rows of records that are linked, by any test of a record. -/
set_option linter.unusedSimpArgs false
set_option linter.unusedVariables false
set_option linter.unusedSectionVars false
namespace Go.AX
open Go

theorem nodup_le : ∀ {m : Nat} {l : List Int}, l.Nodup → (∀ x ∈ l, 0 ≤ x ∧ x < m) → l.length ≤ m
  | 0, l, _, h => by
    cases l with
    | nil => simp
    | cons x r => have := h x (by simp); omega
  | m + 1, l, hn, h => by
    have h1 : (l.erase (m : Int)).length ≤ m := nodup_le (hn.erase _) fun x hx => by
      have h2 := h x (List.mem_of_mem_erase hx)
      have h3 : x ≠ m := ((List.Nodup.mem_erase_iff hn).1 hx).1
      omega
    have := List.length_erase (a := (m : Int)) (l := l)
    split at this <;> omega
/-- Records that are linked, from a place on, each of which stands the test. -/
inductive PCh (p : R3 → Prop) (rs : List R3) : Int → List Int → Prop where
  | nil : PCh p rs (-1) []
  | cons {i : Int} {r : List Int} : 0 ≤ i → i < rs.length → p (Ty.at (Ty.pr (Ty.int IntKind.i64) (Ty.pr (Ty.int IntKind.i64) (Ty.int IntKind.i64))) rs i.toNat) → PCh p rs (Ty.at (Ty.pr (Ty.int IntKind.i64) (Ty.pr (Ty.int IntKind.i64) (Ty.int IntKind.i64))) rs i.toNat).2.2 r → PCh p rs i (i :: r)
section
variable {p : R3 → Prop} {rs : List R3}
theorem PCh.det : ∀ {i : Int} {r r' : List Int}, PCh p rs i r → PCh p rs i r' → r = r'
  | _, [], r', h, h' => by
    cases h
    cases h' with
    | nil => rfl
    | cons h1 => omega
  | i, x :: r, r', h, h' => by
    cases h with
    | cons h1 h2 h3 h4 =>
      cases h' with
      | nil => omega
      | cons g1 g2 g3 g4 => rw [PCh.det h4 g4]
theorem PCh.suffix : ∀ {i : Int} {r : List Int} {x : Int}, PCh p rs i r → x ∈ r → ∃ a b, r = a ++ x :: b ∧ PCh p rs x (x :: b)
  | i, [], x, _, hx => by cases hx
  | i, y :: r, x, h, hx => by
    cases h with
    | cons h1 h2 h3 h4 =>
      rcases List.mem_cons.1 hx with rfl | hx
      · exact ⟨[], r, rfl, .cons h1 h2 h3 h4⟩
      · obtain ⟨a, b, e, hc⟩ := h4.suffix hx
        exact ⟨_ :: a, b, by rw [e]; rfl, hc⟩
theorem PCh.nodup : ∀ {i : Int} {r : List Int}, PCh p rs i r → r.Nodup
  | i, [], _ => List.nodup_nil
  | i, y :: r, h => by
    have hh := h
    cases h with
    | cons h1 h2 h3 h4 =>
      refine List.nodup_cons.2 ⟨fun hm => ?_, h4.nodup⟩
      obtain ⟨a, b, e, hc⟩ := h4.suffix hm
      have := hh.det hc
      simp only [List.cons.injEq, true_and] at this
      have hl := congrArg List.length e
      rw [this] at hl
      simp at hl
      omega
theorem PCh.rng : ∀ {i : Int} {r : List Int}, PCh p rs i r → ∀ x ∈ r, 0 ≤ x ∧ x < rs.length ∧ p ((Ty.at (Ty.pr (Ty.int IntKind.i64) (Ty.pr (Ty.int IntKind.i64) (Ty.int IntKind.i64))) rs x.toNat))
  | i, [], _ => by simp
  | i, y :: r, h => by
    cases h with
    | cons h1 h2 h3 h4 =>
      intro x hx
      rcases List.mem_cons.1 hx with rfl | hx
      · exact ⟨h1, h2, h3⟩
      · exact h4.rng x hx
theorem PCh.len {i : Int} {r : List Int} (h : PCh p rs i r) : r.length ≤ rs.length := nodup_le h.nodup fun x hx => ⟨(h.rng x hx).1, (h.rng x hx).2.1⟩
theorem PCh.imp {p' : R3 → Prop} : ∀ {i : Int} {r : List Int}, PCh p rs i r → (∀ x ∈ r, p ((Ty.at (Ty.pr (Ty.int IntKind.i64) (Ty.pr (Ty.int IntKind.i64) (Ty.int IntKind.i64))) rs x.toNat)) → p' ((Ty.at (Ty.pr (Ty.int IntKind.i64) (Ty.pr (Ty.int IntKind.i64) (Ty.int IntKind.i64))) rs x.toNat))) → PCh p' rs i r
  | _, [], h, _ => by cases h; exact .nil
  | _, _ :: _, h, hi => by
    cases h with
    | cons h1 h2 h3 h4 => exact .cons h1 h2 (hi _ (by simp) h3) (h4.imp fun x hx => hi x (by simp [hx]))
end

def chn (p : R3 → Prop) [DecidablePred p] (rs : List R3) : Nat → Int → Option (List Int)
  | 0, i => if i = -1 then some [] else none
  | n + 1, i => if i = -1 then some [] else if 0 ≤ i ∧ i < rs.length ∧ p (Ty.at (Ty.pr (Ty.int IntKind.i64) (Ty.pr (Ty.int IntKind.i64) (Ty.int IntKind.i64))) rs i.toNat) then (chn p rs n (Ty.at (Ty.pr (Ty.int IntKind.i64) (Ty.pr (Ty.int IntKind.i64) (Ty.int IntKind.i64))) rs i.toNat).2.2).map (i :: ·) else none
/-- The row from a place on; none: it has no end, or goes over what fails the test. -/
def wlk (p : R3 → Prop) [DecidablePred p] (rs : List R3) (i : Int) : Option (List Int) := chn p rs rs.length i
section
variable {p : R3 → Prop} [DecidablePred p] {rs : List R3}
theorem chn_ok : ∀ {n : Nat} {i : Int} {l : List Int}, chn p rs n i = some l → PCh p rs i l
  | 0, i, l, h => by
    simp only [chn] at h
    split at h
    · rename_i hi; cases h; subst hi; exact .nil
    · cases h
  | n + 1, i, l, h => by
    simp only [chn] at h
    split at h
    · rename_i hi; cases h; subst hi; exact .nil
    · split at h
      · rename_i hc
        obtain ⟨m, h1, rfl⟩ := Option.map_eq_some_iff.1 h
        exact .cons hc.1 hc.2.1 hc.2.2 (chn_ok h1)
      · cases h
theorem chn_of : ∀ {n : Nat} {i : Int} {l : List Int}, PCh p rs i l → l.length ≤ n → chn p rs n i = some l
  | 0, i, [], h, _ => by cases h; simp [chn]
  | 0, i, _ :: _, h, hl => by simp at hl
  | n + 1, i, [], h, _ => by cases h; simp [chn]
  | n + 1, i, x :: l, h, hl => by
    cases h with
    | cons h1 h2 h3 h4 =>
      simp only [chn]
      rw [if_neg (by omega), if_pos ⟨h1, h2, h3⟩, chn_of h4 (by simpa using hl)]; rfl
theorem wlk_iff {i : Int} {l : List Int} : wlk p rs i = some l ↔ PCh p rs i l := ⟨chn_ok, fun h => chn_of h h.len⟩
theorem wlk_end : wlk p rs (-1) = some [] := wlk_iff.2 .nil
theorem wlk_step {i : Int} (h1 : 0 ≤ i) (h2 : i < rs.length) (h3 : p (Ty.at (Ty.pr (Ty.int IntKind.i64) (Ty.pr (Ty.int IntKind.i64) (Ty.int IntKind.i64))) rs i.toNat)) : wlk p rs i = (wlk p rs (Ty.at (Ty.pr (Ty.int IntKind.i64) (Ty.pr (Ty.int IntKind.i64) (Ty.int IntKind.i64))) rs i.toNat).2.2).map (i :: ·) := by
  cases h : wlk p rs (Ty.at (Ty.pr (Ty.int IntKind.i64) (Ty.pr (Ty.int IntKind.i64) (Ty.int IntKind.i64))) rs i.toNat).2.2 with
  | some l => rw [wlk_iff.2 (.cons h1 h2 h3 (wlk_iff.1 h))]; rfl
  | none =>
    cases h' : wlk p rs i with
    | none => rfl
    | some l =>
      cases wlk_iff.1 h' with
      | nil => omega
      | cons _ _ _ g => rw [wlk_iff.2 g] at h; cases h
theorem wlk_none {i : Int} (h0 : ¬ i = -1) (h : ¬ (0 ≤ i ∧ i < rs.length ∧ p (Ty.at (Ty.pr (Ty.int IntKind.i64) (Ty.pr (Ty.int IntKind.i64) (Ty.int IntKind.i64))) rs i.toNat))) : wlk p rs i = none := by
  cases h' : wlk p rs i with
  | none => rfl
  | some l =>
    cases wlk_iff.1 h' with
    | nil => exact absurd rfl h0
    | cons h1 h2 h3 _ => exact absurd ⟨h1, h2, h3⟩ h
/-- So far gone, and what is left. -/
structure Gone (p : R3 → Prop) (rs : List R3) (st : Int) (acc : List Int) (i : Int) : Prop where
  c : ∀ s, PCh p rs i s → PCh p rs st (acc ++ s)
  d : acc.Nodup
  r : ∀ x ∈ acc, 0 ≤ x ∧ x < rs.length
theorem Gone.start {i : Int} : Gone p rs i [] i := ⟨fun s h => h, List.nodup_nil, fun x h => by cases h⟩
theorem Gone.le {st i : Int} {acc : List Int} (g : Gone p rs st acc i) : acc.length ≤ rs.length := nodup_le g.d g.r
theorem Gone.next {st i : Int} {acc : List Int} (g : Gone p rs st acc i) (h1 : 0 ≤ i) (h2 : i < rs.length) (h3 : p (Ty.at (Ty.pr (Ty.int IntKind.i64) (Ty.pr (Ty.int IntKind.i64) (Ty.int IntKind.i64))) rs i.toNat)) (h4 : i ∉ acc) : Gone p rs st (acc ++ [i]) (Ty.at (Ty.pr (Ty.int IntKind.i64) (Ty.pr (Ty.int IntKind.i64) (Ty.int IntKind.i64))) rs i.toNat).2.2 := by
  refine ⟨fun s hs => ?_, ?_, fun x hx => ?_⟩
  · rw [List.append_assoc]; exact g.c _ (.cons h1 h2 h3 hs)
  · exact List.nodup_append.2 ⟨g.d, by simp, fun a ha b hb => by simp only [List.mem_cons, List.not_mem_nil, or_false] at hb; rw [hb]; exact fun e => h4 (e ▸ ha)⟩
  · rcases List.mem_append.1 hx with hx | hx
    · exact g.r x hx
    · simp only [List.mem_cons, List.not_mem_nil, or_false] at hx; subst hx; exact ⟨h1, h2⟩
/-- The same, by how many there are alone. -/
structure GoneL (p : R3 → Prop) (rs : List R3) (st : Int) (acc : List Int) (i : Int) : Prop where
  c : ∀ s, PCh p rs i s → PCh p rs st (acc ++ s)
  le : acc.length ≤ rs.length
theorem GoneL.start {i : Int} : GoneL p rs i [] i := ⟨fun s h => h, Nat.zero_le _⟩
theorem GoneL.next {st i : Int} {acc : List Int} (g : GoneL p rs st acc i) (h1 : 0 ≤ i) (h2 : i < rs.length) (h3 : p (Ty.at (Ty.pr (Ty.int IntKind.i64) (Ty.pr (Ty.int IntKind.i64) (Ty.int IntKind.i64))) rs i.toNat)) (h4 : ¬ acc.length = rs.length) : GoneL p rs st (acc ++ [i]) (Ty.at (Ty.pr (Ty.int IntKind.i64) (Ty.pr (Ty.int IntKind.i64) (Ty.int IntKind.i64))) rs i.toNat).2.2 := by
  have := g.le
  refine ⟨fun s hs => ?_, by simp; omega⟩
  rw [List.append_assoc]; exact g.c _ (.cons h1 h2 h3 hs)
theorem GoneL.full {st i : Int} {acc : List Int} (g : GoneL p rs st acc i) (h : acc.length = rs.length) (h0 : ¬ i = -1) : wlk p rs i = none := by
  cases h' : wlk p rs i with
  | none => rfl
  | some l =>
    have hc := wlk_iff.1 h'
    have hn := (g.c _ hc).len
    cases hc with
    | nil => exact absurd rfl h0
    | cons => simp at hn; omega
/-- Who stands there twice goes on for ever. -/
theorem Gone.twice {st i : Int} {acc : List Int} (g : Gone p rs st acc i) (h : i ∈ acc) : wlk p rs i = none := by
  cases h' : wlk p rs i with
  | none => rfl
  | some l =>
    have hc := wlk_iff.1 h'
    have hn := (g.c _ hc).nodup
    cases hc with
    | nil => have := g.r _ h; omega
    | cons => exact absurd rfl ((List.nodup_append.1 hn).2.2 i h i (by simp))
theorem Gone.full {st i : Int} {acc : List Int} (g : Gone p rs st acc i) (h : acc.length = rs.length) (h0 : ¬ i = -1) : wlk p rs i = none := by
  cases h' : wlk p rs i with
  | none => rfl
  | some l =>
    have hc := wlk_iff.1 h'
    have hn := (g.c _ hc).len
    cases hc with
    | nil => exact absurd rfl h0
    | cons => simp at hn; omega
/-- A walk's answer, from where one is. -/
def wres (p : R3 → Prop) [DecidablePred p] (rs : List R3) (acc : List Int) (i : Int) : Bool × List Int := match wlk p rs i with | some s => (true, acc ++ s) | none => (false, [])
theorem wres_end {acc : List Int} : wres p rs acc (-1) = (true, acc) := by simp [wres, wlk_end]
theorem wres_none {acc : List Int} {i : Int} (h : wlk p rs i = none) : wres p rs acc i = (false, []) := by simp [wres, h]
theorem wres_step {acc : List Int} {i : Int} (h1 : 0 ≤ i) (h2 : i < rs.length) (h3 : p (Ty.at (Ty.pr (Ty.int IntKind.i64) (Ty.pr (Ty.int IntKind.i64) (Ty.int IntKind.i64))) rs i.toNat)) : wres p rs (acc ++ [i]) (Ty.at (Ty.pr (Ty.int IntKind.i64) (Ty.pr (Ty.int IntKind.i64) (Ty.int IntKind.i64))) rs i.toNat).2.2 = wres p rs acc i := by
  simp only [wres, wlk_step h1 h2 h3]
  cases wlk p rs (Ty.at (Ty.pr (Ty.int IntKind.i64) (Ty.pr (Ty.int IntKind.i64) (Ty.int IntKind.i64))) rs i.toNat).2.2 <;> simp
end
end Go.AX
end

section
/- The arena and its document: what each function comes to. -/
set_option linter.unusedSimpArgs false
set_option linter.unusedVariables false
namespace Go.AX
open Go

abbrev Emp (r : R3) : Prop := r.1 = -1 ∧ r.2.1 = -1
theorem empty_eq (a b c : Int) : arena_empty (a, b, c) = some (decide (a = -1 ∧ b = -1)) := by
  unfold arena_empty arena_empty_g
  simp only [cond_b, decide_eq_true_eq, Bool.and_eq_true, Bool.not_eq_true', decide_eq_false_iff_not, Bool.or_eq_true, Bool.not_eq_eq_eq_not, Bool.not_true, Bool.not_false, beq_iff_eq, Option.bind_some, Bool.not_not, decide_eq_true_eq, Decidable.not_not, and_true]
  by_cases h : a = -1 <;> simp [h]
theorem list_eq (rs : List R3) (free : Int) (hl : rs.length ≤ 1000000) : arena_list (rs, free) = some (wres Emp rs [] free) := by
  unfold arena_list arena_list_g
  refine LOOP_m (σ := Int × (List R3 × Int) × List Int) (fun s => s.2.1.1 = rs ∧ s.2.1.2 = free ∧ GoneL Emp rs free s.2.2 s.1) (fun s => rs.length + 1 - s.2.2.length) (fun s => wres Emp rs s.2.2 s.1) ?_ ⟨rfl, rfl, .start⟩ (by have := big; simp; omega)
  rintro ⟨i, ⟨a, b⟩, acc⟩ ⟨rfl, rfl, g⟩
  dsimp only at *
  have hle := g.le
  simp only [cond_b, decide_eq_true_eq, Bool.and_eq_true, Bool.not_eq_true', decide_eq_false_iff_not, Bool.or_eq_true, Bool.not_eq_eq_eq_not, Bool.not_true, Bool.not_false, beq_iff_eq, Option.bind_some, Bool.not_not, decide_eq_true_eq, Decidable.not_not, and_true, empty_eq]
  ((repeat' (first | (refine StepOK_ite (fun h => ?_) (fun h => ?_)) | (refine StepOK_inr ?_) | (refine StepOK_inl ⟨?_, ?_, ?_⟩))) <;> (try dsimp only) <;> (first | (exfalso; simp only [List.length_cons, List.length_nil] at *; omega) | grind [StepOK, wrap_i64, wres_none, wlk_none, wres_end, GoneL.full, GoneL.next, wres_step]))
theorem walk_eq (rs : List R3) (free : Int) (hl : rs.length ≤ 1000000) : torporref07_walk (rs, free) = some (wres Emp rs [] free) := by
  unfold torporref07_walk torporref07_walk_g
  refine LOOP_m (σ := Int × (List R3 × Int) × List Int) (fun s => s.2.1.1 = rs ∧ s.2.1.2 = free ∧ Gone Emp rs free s.2.2 s.1) (fun s => rs.length + 1 - s.2.2.length) (fun s => wres Emp rs s.2.2 s.1) ?_ ⟨rfl, rfl, .start⟩ (by have := big; simp; omega)
  rintro ⟨i, ⟨a, b⟩, acc⟩ ⟨rfl, rfl, g⟩
  dsimp only at *
  have hle := g.le
  rw [Has_eq _ _ (by omega)]
  simp only [cond_b, decide_eq_true_eq, Bool.and_eq_true, Bool.not_eq_true', decide_eq_false_iff_not, Bool.or_eq_true, Bool.not_eq_eq_eq_not, Bool.not_true, Bool.not_false, beq_iff_eq, Option.bind_some, Bool.not_not, decide_eq_true_eq, Decidable.not_not, and_true]
  ((repeat' (first | (refine StepOK_ite (fun h => ?_) (fun h => ?_)) | (refine StepOK_inr ?_) | (refine StepOK_inl ⟨?_, ?_, ?_⟩))) <;> (try dsimp only) <;> (first | (exfalso; simp only [List.length_cons, List.length_nil] at *; omega) | grind [StepOK, wrap_i64, wres_none, wlk_none, wres_end, Gone.twice, Gone.next, wres_step, Gone.le]))
/-- The free list's marks. -/
theorem marks_eq (n : Nat) (l : List Int) (hn : n ≤ 1000000) (hl : l.length ≤ 1000000) (hr : ∀ x ∈ l, 0 ≤ x ∧ x < n) : ∃ m : List Bool, arena_marks ((n : Int), l) = some m ∧ m.length = n ∧ ∀ i, i < n → Ty.at .boo m i = decide ((i : Int) ∈ l) := by
  unfold arena_marks arena_marks_g
  simp only [cond_b, decide_eq_true_eq, Bool.and_eq_true, Bool.not_eq_true', decide_eq_false_iff_not, Bool.or_eq_true, Bool.not_eq_eq_eq_not, Bool.not_true, Bool.not_false, beq_iff_eq, Option.bind_some, Bool.not_not, decide_eq_true_eq, Decidable.not_not, and_true]
  rw [if_pos (by omega)]
  refine LOOP_ex (σ := (List Int × Int × Int) × List Bool) (O := List Bool) (fun s => s.1.1 = l ∧ s.1.2.1 = l.length ∧ 0 ≤ s.1.2.2 ∧ s.1.2.2 ≤ l.length ∧ s.2.length = n ∧ ∀ i, i < n → Ty.at .boo s.2 i = decide ((i : Int) ∈ l.take s.1.2.2.toNat)) (fun s => l.length - s.1.2.2.toNat) (fun m => m.length = n ∧ ∀ i, i < n → Ty.at .boo m i = decide ((i : Int) ∈ l)) ?_ ?_ ?_
  · rintro ⟨⟨a, b, i⟩, m⟩ ⟨ha, hb, h0, h1, h2, h3⟩
    dsimp only at *
    subst ha
    subst hb
    by_cases h : i < (a.length : Int)
    · right
      have hlt : i.toNat < a.length := by omega
      have hx := hr _ (at_mem (T := (Ty.int IntKind.i64)) hlt)
      rw [if_pos h, if_pos (by omega), if_pos (by rw [h2]; exact hx), if_pos (by rw [h2]; exact (Int.toNat_lt hx.1).2 hx.2), wrap_i64 (by omega)]
      refine ⟨_, rfl, by dsimp only; omega, rfl, rfl, by dsimp only; omega, by dsimp only; omega, by simp [h2], fun j hj => ?_⟩
      dsimp only
      rw [toN1 h0, List.take_add_one, List.getElem?_eq_getElem hlt, ← at_get (T := (Ty.int IntKind.i64)) hlt]
      generalize Ty.at (Ty.int IntKind.i64) a i.toNat = x at *
      simp only [Ty.at, List.getD_eq_getElem?_getD, List.getElem?_set, Option.toList_some, List.mem_append, List.mem_cons, List.not_mem_nil, or_false]
      have h4 := h3 j hj
      simp only [Ty.at, List.getD_eq_getElem?_getD] at h4
      split
      · rename_i he
        have : (j : Int) = x := by omega
        rw [if_pos (by omega)]
        simp [this]
      · rename_i he
        rw [h4]
        have : ¬ (j : Int) = x := fun e => he (by omega)
        simp [this]
    · left
      rw [if_neg h]
      refine ⟨_, rfl, h2, fun j hj => ?_⟩
      rw [h3 j hj, List.take_of_length_le (by omega)]
  · refine ⟨rfl, rfl, by simp, by simp, by simp, fun i hi => ?_⟩
    simp [Ty.at, List.getD_eq_getElem?_getD, hi]
  · have := big; simp; omega
end Go.AX
end

section
/- The arena is right: what the two tests come to. -/
set_option linter.unusedSimpArgs false
set_option linter.unusedVariables false
namespace Go.AX
open Go

open Classical in
/-- All numbers from a place on. -/
noncomputable def allF (P : Nat → Prop) (n i : Nat) : Bool := decide (∀ j, j < n → i ≤ j → P j)
theorem allF_step {P : Nat → Prop} {n i : Nat} (h : P i) : allF P n (i + 1) = allF P n i := by
  unfold allF
  congr 1
  apply propext
  constructor
  · intro g j h1 h2
    by_cases e : i = j
    · exact e ▸ h
    · exact g j h1 (by omega)
  · exact fun g j h1 h2 => g j h1 (by omega)
theorem allF_end {P : Nat → Prop} {n i : Nat} (h : n ≤ i) : allF P n i = true := by
  simp only [allF, decide_eq_true_eq]
  intro j h1 h2; omega
theorem allF_no {P : Nat → Prop} {n i : Nat} (h : i < n) (g : ¬ P i) : allF P n i = false := by
  simp only [allF, decide_eq_false_iff_not]
  exact fun k => g (k i h (Nat.le_refl i))
/-- A record outside the free list, as the arena wants it. -/
def RLl (rs : List R3) (l : List Int) (i : Nat) : Prop := 0 ≤ (Ty.at (Ty.pr (Ty.int IntKind.i64) (Ty.pr (Ty.int IntKind.i64) (Ty.int IntKind.i64))) rs i).1 ∧ 0 ≤ (Ty.at (Ty.pr (Ty.int IntKind.i64) (Ty.pr (Ty.int IntKind.i64) (Ty.int IntKind.i64))) rs i).2.1 ∧ ((Ty.at (Ty.pr (Ty.int IntKind.i64) (Ty.pr (Ty.int IntKind.i64) (Ty.int IntKind.i64))) rs i).2.2 = -1 ∨ (0 ≤ (Ty.at (Ty.pr (Ty.int IntKind.i64) (Ty.pr (Ty.int IntKind.i64) (Ty.int IntKind.i64))) rs i).2.2 ∧ (Ty.at (Ty.pr (Ty.int IntKind.i64) (Ty.pr (Ty.int IntKind.i64) (Ty.int IntKind.i64))) rs i).2.2 < rs.length ∧ (Ty.at (Ty.pr (Ty.int IntKind.i64) (Ty.pr (Ty.int IntKind.i64) (Ty.int IntKind.i64))) rs i).2.2 ∉ l))
def FitR (rs : List R3) (l : List Int) (i : Nat) : Prop := (i : Int) ∈ l ∨ RLl rs l i
theorem FitR_in {rs : List R3} {l : List Int} {i : Nat} (h : (i : Int) ∈ l) : FitR rs l i := .inl h
theorem FitR_out {rs : List R3} {l : List Int} {i : Nat} (h : (i : Int) ∉ l) : FitR rs l i ↔ RLl rs l i := ⟨fun g => g.resolve_left h, .inr⟩
theorem toN_cast {i : Int} (h : 0 ≤ i) : ((i.toNat : Nat) : Int) = i := Int.toNat_of_nonneg h
theorem mk_at {l : List Int} {m : List Bool} {n : Nat} (hm : ∀ i, i < n → Ty.at .boo m i = decide ((i : Int) ∈ l)) {i : Int} (h0 : 0 ≤ i) (h1 : i < n) : (Ty.at .boo m i.toNat = true) = (i ∈ l) := by
  rw [hm _ (by omega), toN_cast h0]; simp
/-- The arena is right. -/
noncomputable def arOK (rs : List R3) (free : Int) : Bool := match wlk Emp rs free with | some l => decide (rs.length ≤ 64) && allF (FitR rs l) rs.length 0 | none => false
theorem aRight_eq (rs : List R3) (free : Int) (hl : rs.length ≤ 1000000) : arena_Right (rs, free) = some (arOK rs free) := by
  unfold arena_Right arena_Right_g arOK
  dsimp only
  rw [list_eq rs free hl]
  simp only [cond_b, decide_eq_true_eq, Bool.and_eq_true, Bool.not_eq_true', decide_eq_false_iff_not, Bool.or_eq_true, Bool.not_eq_eq_eq_not, Bool.not_true, Bool.not_false, beq_iff_eq, Option.bind_some, Bool.not_not, decide_eq_true_eq, Decidable.not_not, and_true]
  unfold wres
  cases hw : wlk Emp rs free with
  | none => simp
  | some l =>
    have hc := wlk_iff.1 hw
    obtain ⟨m, hm1, hm2, hm3⟩ := marks_eq rs.length l hl (Nat.le_trans hc.len hl) (fun x hx => ⟨(hc.rng x hx).1, (hc.rng x hx).2.1⟩)
    simp only [List.nil_append, if_true]
    by_cases h64 : (64 : Int) < rs.length
    · rw [if_pos h64]
      have : ¬ rs.length ≤ 64 := by omega
      simp [this]
    · rw [if_neg h64, hm1]
      have : rs.length ≤ 64 := by omega
      simp only [Option.bind_some, this, decide_true, Bool.true_and]
      refine (LOOP_m (σ := (List R3 × Int × Int) × List Bool) (fun s => s.1.1 = rs ∧ s.1.2.1 = rs.length ∧ 0 ≤ s.1.2.2 ∧ s.1.2.2 ≤ rs.length ∧ s.2 = m) (fun s => rs.length - s.1.2.2.toNat) (fun s => allF (FitR rs l) rs.length s.1.2.2.toNat) ?_ ⟨rfl, rfl, by simp, by simp, rfl⟩ (by have := big; simp; omega))
      rintro ⟨⟨a, b, i⟩, mm⟩ ⟨ha, hb, h0, h1, h2⟩
      dsimp only at *
      subst ha
      subst h2
      subst hb
      have e1 : i < (a.length : Int) → (Ty.at .boo mm i.toNat = true) = ((i.toNat : Int) ∈ l) := fun h => by rw [toN_cast h0]; exact mk_at hm3 h0 (by omega)
      have e2 : 0 ≤ (Ty.at (Ty.pr (Ty.int IntKind.i64) (Ty.pr (Ty.int IntKind.i64) (Ty.int IntKind.i64))) a i.toNat).2.2 → (Ty.at (Ty.pr (Ty.int IntKind.i64) (Ty.pr (Ty.int IntKind.i64) (Ty.int IntKind.i64))) a i.toNat).2.2 < (a.length : Int) → (Ty.at .boo mm (Ty.at (Ty.pr (Ty.int IntKind.i64) (Ty.pr (Ty.int IntKind.i64) (Ty.int IntKind.i64))) a i.toNat).2.2.toNat = true) = ((Ty.at (Ty.pr (Ty.int IntKind.i64) (Ty.pr (Ty.int IntKind.i64) (Ty.int IntKind.i64))) a i.toNat).2.2 ∈ l) := fun g h => mk_at hm3 g h
      have e3 := toN1 h0
      ((repeat' (first | (refine StepOK_ite (fun h => ?_) (fun h => ?_)) | (refine StepOK_inr ?_) | (refine StepOK_inl ⟨?_, ?_, ?_⟩))) <;> (try dsimp only) <;> (first | (exfalso; simp only [List.length_cons, List.length_nil] at *; omega) | grind [StepOK, wrap_i64, allF_step, allF_end, allF_no, FitR_in, FitR_out, RLl]))
theorem rRight_eq (rs : List R3) (free : Int) (hl : rs.length ≤ 1000000) : torporref07_Right (rs, free) = some (arOK rs free) := by
  unfold torporref07_Right torporref07_Right_g arOK
  dsimp only
  rw [walk_eq rs free hl]
  simp only [cond_b, decide_eq_true_eq, Bool.and_eq_true, Bool.not_eq_true', decide_eq_false_iff_not, Bool.or_eq_true, Bool.not_eq_eq_eq_not, Bool.not_true, Bool.not_false, beq_iff_eq, Option.bind_some, Bool.not_not, decide_eq_true_eq, Decidable.not_not, and_true]
  unfold wres
  by_cases h64 : (64 : Int) < rs.length
  · rw [if_pos h64]
    have : ¬ rs.length ≤ 64 := by omega
    cases wlk Emp rs free <;> simp [this]
  · rw [if_neg h64]
    have : rs.length ≤ 64 := by omega
    cases hw : wlk Emp rs free with
    | none => simp
    | some l =>
      have hc := wlk_iff.1 hw
      have hll := hc.len
      simp only [List.nil_append, Bool.true_eq_false, if_false, this, decide_true, Bool.true_and]
      refine (LOOP_m (σ := Int × (List R3 × Int) × List Int) (fun s => s.2.1.1 = rs ∧ 0 ≤ s.1 ∧ s.1 ≤ rs.length ∧ s.2.2 = l) (fun s => rs.length - s.1.toNat) (fun s => allF (FitR rs l) rs.length s.1.toNat) ?_ ⟨rfl, by simp, by simp, rfl⟩ (by have := big; simp; omega))
      rintro ⟨i, ⟨a, b⟩, mm⟩ ⟨ha, h0, h1, h2⟩
      dsimp only at *
      subst ha
      subst h2
      have e3 := toN1 h0
      have e4 := toN_cast h0
      have e5 : (-1 : Int) ∉ mm := fun h => by have := (hc.rng _ h).1; omega
      rw [Has_eq _ _ (by omega), Has_eq _ _ (by omega)]
      simp only [cond_b, decide_eq_true_eq, Bool.and_eq_true, Bool.not_eq_true', decide_eq_false_iff_not, Bool.or_eq_true, Bool.not_eq_eq_eq_not, Bool.not_true, Bool.not_false, beq_iff_eq, Option.bind_some, Bool.not_not, decide_eq_true_eq, Decidable.not_not, and_true]
      ((repeat' (first | (refine StepOK_ite (fun h => ?_) (fun h => ?_)) | (refine StepOK_inr ?_) | (refine StepOK_inl ⟨?_, ?_, ?_⟩))) <;> (try dsimp only) <;> (first | (exfalso; simp only [List.length_cons, List.length_nil] at *; omega) | grind [StepOK, wrap_i64, allF_step, allF_end, allF_no, FitR_in, FitR_out, RLl]))
end Go.AX
end

section
/- The arena that is right: taking and giving back. -/
set_option linter.unusedSimpArgs false
set_option linter.unusedVariables false
namespace Go.AX
open Go

def ky (rs : List R3) (i : Int) : Int := (Ty.at (Ty.pr (Ty.int IntKind.i64) (Ty.pr (Ty.int IntKind.i64) (Ty.int IntKind.i64))) rs i.toNat).1
def tk (rs : List R3) (i : Int) : Int := (Ty.at (Ty.pr (Ty.int IntKind.i64) (Ty.pr (Ty.int IntKind.i64) (Ty.int IntKind.i64))) rs i.toNat).2.1
def nx (rs : List R3) (i : Int) : Int := (Ty.at (Ty.pr (Ty.int IntKind.i64) (Ty.pr (Ty.int IntKind.i64) (Ty.int IntKind.i64))) rs i.toNat).2.2
/-- The arena is right, and this is its free list. -/
structure AOK (rs : List R3) (free : Int) (f : List Int) : Prop where
  le : rs.length ≤ 64
  ch : PCh Emp rs free f
  fit : ∀ i, i < rs.length → FitR rs f i
theorem AOK.eq {rs : List R3} {free : Int} {f : List Int} (h : AOK rs free f) : arOK rs free = true := by
  unfold arOK
  rw [wlk_iff.2 h.ch]
  simp only [h.le, decide_true, Bool.true_and]
  simp only [allF, decide_eq_true_eq]
  exact fun j h1 _ => h.fit j h1
theorem AOK.of {rs : List R3} {free : Int} (h : arOK rs free = true) : ∃ f, AOK rs free f := by
  unfold arOK at h
  cases hw : wlk Emp rs free with
  | none => rw [hw] at h; cases h
  | some l =>
    rw [hw] at h
    simp only [Bool.and_eq_true, decide_eq_true_eq] at h
    refine ⟨l, h.1, wlk_iff.1 hw, fun i hi => ?_⟩
    have := h.2
    simp only [allF, decide_eq_true_eq] at this
    exact this i hi (Nat.zero_le _)
section
variable {rs : List R3} {free : Int} {f : List Int}
theorem AOK.right (h : AOK rs free f) : arena_Right (rs, free) = some true := by
  rw [aRight_eq _ _ (by have := h.le; omega), h.eq]
theorem AOK.rright (h : AOK rs free f) : torporref07_Right (rs, free) = some true := by
  rw [rRight_eq _ _ (by have := h.le; omega), h.eq]
theorem Right_cases (rs : List R3) (free : Int) (hl : rs.length ≤ 1000000) : (∃ f, AOK rs free f) ∨ (arena_Right (rs, free) = some false ∧ torporref07_Right (rs, free) = some false) := by
  rw [aRight_eq _ _ hl, rRight_eq _ _ hl]
  cases h : arOK rs free with
  | true => exact .inl (AOK.of h)
  | false => exact .inr ⟨rfl, rfl⟩
theorem AOK.mem (h : AOK rs free f) {i : Int} : i ∈ f ↔ 0 ≤ i ∧ i < rs.length ∧ ky rs i < 0 := by
  constructor
  · intro hi
    have := h.ch.rng i hi
    exact ⟨this.1, this.2.1, by rw [ky, this.2.2.1]; decide⟩
  · rintro ⟨h0, h1, h2⟩
    rcases h.fit i.toNat (by omega) with h3 | h3
    · rwa [toN_cast h0] at h3
    · exact absurd h3.1 (Int.not_le.2 h2)
theorem AOK.emp (h : AOK rs free f) {i : Int} (h0 : 0 ≤ i) (h1 : i < rs.length) (h2 : ky rs i < 0) : ky rs i = -1 ∧ tk rs i = -1 := (h.ch.rng i (h.mem.2 ⟨h0, h1, h2⟩)).2.2
theorem AOK.nlive (h : AOK rs free f) {i : Int} (h0 : 0 ≤ i) (h1 : i < rs.length) (h2 : 0 ≤ ky rs i) : 0 ≤ tk rs i ∧ (nx rs i = -1 ∨ (0 ≤ nx rs i ∧ nx rs i < rs.length ∧ 0 ≤ ky rs (nx rs i))) := by
  rcases h.fit i.toNat (by omega) with h3 | h3
  · rw [toN_cast h0, h.mem] at h3; omega
  · refine ⟨h3.2.1, h3.2.2.imp id fun h4 => ⟨h4.1, h4.2.1, ?_⟩⟩
    have h5 := h4.2.2
    rw [h.mem] at h5
    exact Int.not_lt.1 fun h6 => h5 ⟨h4.1, h4.2.1, h6⟩
/-- The arena is right: by keys alone. -/
theorem AOK.mk' (hle : rs.length ≤ 64) (hc : PCh Emp rs free f) (hm : ∀ i : Int, 0 ≤ i → i < rs.length → ky rs i < 0 → i ∈ f) (hn : ∀ i : Int, 0 ≤ i → i < rs.length → 0 ≤ ky rs i → 0 ≤ tk rs i ∧ (nx rs i = -1 ∨ (0 ≤ nx rs i ∧ nx rs i < rs.length ∧ 0 ≤ ky rs (nx rs i)))) : AOK rs free f := by
  refine ⟨hle, hc, fun i hi => ?_⟩
  by_cases h : (i : Int) ∈ f
  · exact .inl h
  · right
    have h1 : 0 ≤ ky rs (i : Int) := by
      have := hm i (by omega) (by omega)
      by_cases hk : ky rs (i : Int) < 0
      · exact absurd (this hk) h
      · omega
    have h2 := hn i (by omega) (by omega) h1
    refine ⟨h1, h2.1, h2.2.imp id fun h3 => ⟨h3.1, h3.2.1, fun h4 => ?_⟩⟩
    have h5 := (hc.rng _ h4).2.2.1
    have h6 := h3.2.2
    simp only [ky, nx, Int.toNat_natCast] at h5 h6
    omega
theorem AOK.free_rng (h : AOK rs free f) : free = -1 ∨ (0 ≤ free ∧ free < rs.length ∧ ky rs free = -1 ∧ tk rs free = -1) := by
  cases h.ch with
  | nil => exact .inl rfl
  | cons h1 h2 h3 h4 => exact .inr ⟨h1, h2, h3⟩
theorem Free_eq (h : AOK rs free f) : torporref07_Free (rs, free) = some f := by
  unfold torporref07_Free torporref07_Free_g
  dsimp only
  rw [h.rright, walk_eq _ _ (by have := h.le; omega)]
  simp [cond_b, decide_eq_true_eq, Bool.and_eq_true, Bool.not_eq_true', decide_eq_false_iff_not, Bool.or_eq_true, Bool.not_eq_eq_eq_not, Bool.not_true, Bool.not_false, beq_iff_eq, Option.bind_some, Bool.not_not, decide_eq_true_eq, Decidable.not_not, and_true, wres, wlk_iff.2 h.ch]
theorem Live_eq (h : AOK rs free f) (i : Int) : torporref07_Live ((rs, free), i) = some (decide (0 ≤ i ∧ i < rs.length ∧ 0 ≤ ky rs i)) := by
  have hf := h.ch.len
  have hle := h.le
  have hm := h.mem (i := i)
  unfold torporref07_Live torporref07_Live_g
  dsimp only
  rw [Free_eq h]
  simp only [cond_b, decide_eq_true_eq, Bool.and_eq_true, Bool.not_eq_true', decide_eq_false_iff_not, Bool.or_eq_true, Bool.not_eq_eq_eq_not, Bool.not_true, Bool.not_false, beq_iff_eq, Option.bind_some, Bool.not_not, decide_eq_true_eq, Decidable.not_not, and_true]
  rw [Has_eq _ _ (by omega)]
  simp only [cond_b, decide_eq_true_eq, Bool.and_eq_true, Bool.not_eq_true', decide_eq_false_iff_not, Bool.or_eq_true, Bool.not_eq_eq_eq_not, Bool.not_true, Bool.not_false, beq_iff_eq, Option.bind_some, Bool.not_not, decide_eq_true_eq, Decidable.not_not, and_true]
  grind
theorem Copy_eq (rs : List R3) (free : Int) (hl : rs.length ≤ 1000000) : torporref07_Copy (rs, free) = some (free, rs) := by
  unfold torporref07_Copy torporref07_Copy_g
  simp only [cond_b, decide_eq_true_eq, Bool.and_eq_true, Bool.not_eq_true', decide_eq_false_iff_not, Bool.or_eq_true, Bool.not_eq_eq_eq_not, Bool.not_true, Bool.not_false, beq_iff_eq, Option.bind_some, Bool.not_not, decide_eq_true_eq, Decidable.not_not, and_true]
  rw [if_pos (by simp; omega)]
  simp
theorem own_eq (rs : List R3) (free : Int) (hl : rs.length ≤ 1000000) : arena_own (rs, free) = some (free, rs) := by
  unfold arena_own arena_own_g Clone_Rec cloneG
  simp only [cond_b, decide_eq_true_eq, Bool.and_eq_true, Bool.not_eq_true', decide_eq_false_iff_not, Bool.or_eq_true, Bool.not_eq_eq_eq_not, Bool.not_true, Bool.not_false, beq_iff_eq, Option.bind_some, Bool.not_not, decide_eq_true_eq, Decidable.not_not, and_true]
  rw [if_pos (by omega)]
  simp
theorem CloneR_eq (rs : List R3) (hl : rs.length ≤ 1000000) : Clone_Rec rs = some rs := by
  unfold Clone_Rec cloneG
  simp only [cond_b, decide_eq_true_eq, Bool.and_eq_true, Bool.not_eq_true', decide_eq_false_iff_not, Bool.or_eq_true, Bool.not_eq_eq_eq_not, Bool.not_true, Bool.not_false, beq_iff_eq, Option.bind_some, Bool.not_not, decide_eq_true_eq, Decidable.not_not, and_true]
  rw [if_pos (by omega)]
theorem Same_eq (a : List R3) (b : Int) (c : List R3) (d : Int) (hl : a.length ≤ 1000000) : torporref07_Same ((a, b), c, d) = some (decide (a = c ∧ b = d)) := by
  unfold torporref07_Same torporref07_Same_g
  simp only [cond_b, decide_eq_true_eq, Bool.and_eq_true, Bool.not_eq_true', decide_eq_false_iff_not, Bool.or_eq_true, Bool.not_eq_eq_eq_not, Bool.not_true, Bool.not_false, beq_iff_eq, Option.bind_some, Bool.not_not, decide_eq_true_eq, Decidable.not_not, and_true]
  by_cases hb : b = d
  · rw [if_pos hb]
    by_cases hlen : a.length = c.length
    · rw [if_neg (by simp [hlen])]
      refine (LOOP_m (σ := Int × (List R3 × Int) × List R3 × Int) (fun s => s.2.1.1 = a ∧ s.2.2.1 = c ∧ 0 ≤ s.1 ∧ s.1 ≤ (a.length : Int)) (fun s => a.length - s.1.toNat) (fun s => decide (a.drop s.1.toNat = c.drop s.1.toNat)) ?_ ⟨rfl, rfl, by simp, by simp⟩ (by have := big; simp; omega)).trans (by simp [hb])
      rintro ⟨i, ⟨a', b'⟩, c', d'⟩ ⟨h2, h3, h0, h1⟩
      dsimp only at *
      subst h2
      subst h3
      have e3 := toN1 h0
      have hd : i.toNat < a'.length → a'.drop i.toNat = Ty.at (Ty.pr (Ty.int IntKind.i64) (Ty.pr (Ty.int IntKind.i64) (Ty.int IntKind.i64))) a' i.toNat :: a'.drop (i.toNat + 1) := fun h => drop_at (T := (Ty.pr (Ty.int IntKind.i64) (Ty.pr (Ty.int IntKind.i64) (Ty.int IntKind.i64)))) h
      have hd' : i.toNat < c'.length → c'.drop i.toNat = Ty.at (Ty.pr (Ty.int IntKind.i64) (Ty.pr (Ty.int IntKind.i64) (Ty.int IntKind.i64))) c' i.toNat :: c'.drop (i.toNat + 1) := fun h => drop_at (T := (Ty.pr (Ty.int IntKind.i64) (Ty.pr (Ty.int IntKind.i64) (Ty.int IntKind.i64)))) h
      have hn : a'.length ≤ i.toNat → a'.drop i.toNat = [] := fun h => List.drop_of_length_le h
      have hn' : c'.length ≤ i.toNat → c'.drop i.toNat = [] := fun h => List.drop_of_length_le h
      ((repeat' (first | (refine StepOK_ite (fun h => ?_) (fun h => ?_)) | (refine StepOK_inr ?_) | (refine StepOK_inl ⟨?_, ?_, ?_⟩))) <;> (try dsimp only) <;> (first | (exfalso; simp only [List.length_cons, List.length_nil] at *; omega) | grind [StepOK, wrap_i64, Prod.ext_iff]))
    · rw [if_pos (by omega)]
      have : a ≠ c := fun e => hlen (by rw [e])
      simp [this]
  · rw [if_neg hb]; simp [hb]
theorem taken_eq (h : AOK rs free f) (i : Int) : arena_taken ((rs, free), i) = some (decide (0 ≤ i ∧ i < rs.length ∧ 0 ≤ ky rs i)) := by
  unfold arena_taken arena_taken_g
  simp only [cond_b, decide_eq_true_eq, Bool.and_eq_true, Bool.not_eq_true', decide_eq_false_iff_not, Bool.or_eq_true, Bool.not_eq_eq_eq_not, Bool.not_true, Bool.not_false, beq_iff_eq, Option.bind_some, Bool.not_not, decide_eq_true_eq, Decidable.not_not, and_true, empty_eq]
  by_cases h0 : 0 ≤ i <;> by_cases h1 : i < rs.length <;> simp only [h0, h1, if_true, if_false, and_self, true_and, false_and, decide_false]
  congr 1
  by_cases h2 : ky rs i < 0
  · have h3 := h.emp h0 h1 h2
    simp only [ky, tk] at h3 h2 ⊢
    simp [h3]
  · have h3 : ¬ ky rs i = -1 := by omega
    have h4 : 0 ≤ ky rs i := by omega
    simp only [ky] at h3 h4 ⊢
    simp [h3, h4]
end
end Go.AX
end

section
/- Arenas that are changed at one place; taking and giving back. -/
set_option linter.unusedSimpArgs false
set_option linter.unusedVariables false
namespace Go.AX
open Go

abbrev Lv (r : R3) : Prop := 0 ≤ r.1
theorem at_upd {rs : List R3} {i j : Int} {v : R3} (h0 : 0 ≤ i) (h1 : i < rs.length) (hj : 0 ≤ j) : Ty.at (Ty.pr (Ty.int IntKind.i64) (Ty.pr (Ty.int IntKind.i64) (Ty.int IntKind.i64))) (rs.set i.toNat v) j.toNat = if j = i then v else Ty.at (Ty.pr (Ty.int IntKind.i64) (Ty.pr (Ty.int IntKind.i64) (Ty.int IntKind.i64))) rs j.toNat := by
  simp only [Ty.at, List.getD_eq_getElem?_getD, List.getElem?_set]
  by_cases h : j = i
  · subst h
    rw [if_pos rfl, if_pos (by omega), if_pos rfl]; rfl
  · rw [if_neg (by omega), if_neg h]
theorem PCh.set {p : R3 → Prop} {rs : List R3} {j : Int} {v : R3} (h0 : 0 ≤ j) (h1 : j < rs.length) : ∀ {i : Int} {l : List Int}, PCh p rs i l → j ∉ l → PCh p (rs.set j.toNat v) i l
  | _, [], h, _ => by cases h; exact .nil
  | x, _ :: r, h, hj => by
    cases h with
    | cons g1 g2 g3 g4 =>
      have hn : ¬ x = j := fun e => hj (by simp [e])
      have e := at_upd (v := v) h0 h1 g1
      rw [if_neg hn] at e
      refine .cons g1 (by simpa using g2) (by rw [e]; exact g3) ?_
      rw [e]
      exact g4.set h0 h1 fun hm => hj (by simp [hm])
theorem ky_upd {rs : List R3} {i j : Int} {v : R3} (h0 : 0 ≤ i) (h1 : i < rs.length) (hj : 0 ≤ j) : ky (rs.set i.toNat v) j = if j = i then v.1 else ky rs j := by
  unfold ky; rw [at_upd h0 h1 hj]; split <;> rfl
theorem tk_upd {rs : List R3} {i j : Int} {v : R3} (h0 : 0 ≤ i) (h1 : i < rs.length) (hj : 0 ≤ j) : tk (rs.set i.toNat v) j = if j = i then v.2.1 else tk rs j := by
  unfold tk; rw [at_upd h0 h1 hj]; split <;> rfl
theorem nx_upd {rs : List R3} {i j : Int} {v : R3} (h0 : 0 ≤ i) (h1 : i < rs.length) (hj : 0 ≤ j) : nx (rs.set i.toNat v) j = if j = i then v.2.2 else nx rs j := by
  unfold nx; rw [at_upd h0 h1 hj]; split <;> rfl
section
variable {rs : List R3} {free : Int} {f : List Int}
theorem AOK.put (h : AOK rs free f) {t w k d : Int} (h0 : 0 ≤ t) (h1 : t < rs.length) (hk : 0 ≤ ky rs t) (h2 : 0 ≤ k) (h3 : 0 ≤ d) (hw : w = -1 ∨ (0 ≤ w ∧ w < rs.length ∧ 0 ≤ ky rs w)) : AOK (rs.set t.toNat (k, d, w)) free f := by
  have ha := fun (j : Int) (hj : 0 ≤ j) => ky_upd (v := (k, d, w)) h0 h1 hj
  have hb := fun (j : Int) (hj : 0 ≤ j) => tk_upd (v := (k, d, w)) h0 h1 hj
  have hc := fun (j : Int) (hj : 0 ≤ j) => nx_upd (v := (k, d, w)) h0 h1 hj
  have hm := @AOK.mem _ _ _ h
  have hn := @AOK.nlive _ _ _ h
  have hle := h.le
  have hch := h.ch.set (v := (k, d, w)) h0 h1 (fun e => by have := (hm.1 e).2.2; omega)
  refine .mk' (by simpa using hle) hch (fun i g0 g1 g2 => ?_) (fun i g0 g1 g2 => ?_)
  · rw [List.length_set] at *
    clear h hch
    grind
  · simp only [List.length_set] at *
    by_cases e : i = t
    · subst e
      rw [hb i g0, hc i g0, if_pos rfl, if_pos rfl]
      refine ⟨h3, hw.imp id fun h4 => ⟨h4.1, h4.2.1, ?_⟩⟩
      rw [ha w h4.1]
      split
      · exact h2
      · exact h4.2.2
    · rw [ha i g0, if_neg e] at g2
      rw [hb i g0, hc i g0, if_neg e, if_neg e]
      refine ⟨(hn g0 g1 g2).1, (hn g0 g1 g2).2.imp id fun h4 => ⟨h4.1, h4.2.1, ?_⟩⟩
      rw [ha _ h4.1]
      split
      · exact h2
      · exact h4.2.2
theorem AOK.take (h : AOK rs free (free :: f)) {k d : Int} (h2 : 0 ≤ k) (h3 : 0 ≤ d) : AOK (rs.set free.toNat (k, d, -1)) (nx rs free) f := by
  have hc := h.ch
  have hnd := hc.nodup
  cases hc with
  | cons h0 h1 h4 hc =>
    have ha := fun (j : Int) (hj : 0 ≤ j) => ky_upd (v := (k, d, (-1 : Int))) h0 h1 hj
    have hb := fun (j : Int) (hj : 0 ≤ j) => tk_upd (v := (k, d, (-1 : Int))) h0 h1 hj
    have hc' := fun (j : Int) (hj : 0 ≤ j) => nx_upd (v := (k, d, (-1 : Int))) h0 h1 hj
    have hm := @AOK.mem _ _ _ h
    have hn := @AOK.nlive _ _ _ h
    have hle := h.le
    have hnf : free ∉ f := (List.nodup_cons.1 hnd).1
    refine .mk' (by simpa using hle) (hc.set h0 h1 hnf) (fun i g0 g1 g2 => ?_) (fun i g0 g1 g2 => ?_)
    · rw [List.length_set] at *
      have := @hm i
      clear h hc h4 hm hn
      grind
    · simp only [List.length_set] at *
      clear h hc h4 hm
      grind
theorem AOK.give (h : AOK rs free f) {m : Int} (h0 : 0 ≤ m) (h1 : m < rs.length) (hk : 0 ≤ ky rs m) (hp : ∀ j : Int, 0 ≤ j → j < rs.length → 0 ≤ ky rs j → j ≠ m → nx rs j ≠ m) : AOK (rs.set m.toNat (-1, -1, free)) m (m :: f) := by
  have ha := fun (j : Int) (hj : 0 ≤ j) => ky_upd (v := ((-1 : Int), (-1 : Int), free)) h0 h1 hj
  have hb := fun (j : Int) (hj : 0 ≤ j) => tk_upd (v := ((-1 : Int), (-1 : Int), free)) h0 h1 hj
  have hc := fun (j : Int) (hj : 0 ≤ j) => nx_upd (v := ((-1 : Int), (-1 : Int), free)) h0 h1 hj
  have hm := @AOK.mem _ _ _ h
  have hn := @AOK.nlive _ _ _ h
  have hle := h.le
  have hnf : m ∉ f := fun e => by have := (hm.1 e).2.2; omega
  have hat := at_upd (v := ((-1 : Int), (-1 : Int), free)) h0 h1 h0
  rw [if_pos rfl] at hat
  refine .mk' (by simpa using h.le) (.cons h0 (by simpa using h1) (by rw [hat]; exact ⟨rfl, rfl⟩) (by rw [hat]; exact h.ch.set h0 h1 hnf)) (fun i g0 g1 g2 => ?_) (fun i g0 g1 g2 => ?_)
  · rw [List.length_set] at *
    have := @hm i
    clear h hat hm hn
    grind
  · simp only [List.length_set] at *
    clear h hat hm
    grind
theorem Take_bad (h : AOK rs free f) {k t : Int} (hb : k < 0 ∨ t < 0) : arena_Take ((rs, free), k, t) = some (.inr ((rs, free), 0, 1)) ∧ torporref07_Take ((rs, free), k, t) = some ((rs, free), 0, 1) := by
  unfold arena_Take arena_Take_g torporref07_Take torporref07_Take_g
  dsimp only
  rw [h.right, h.rright]
  simp only [cond_b, decide_eq_true_eq, Bool.and_eq_true, Bool.not_eq_true', decide_eq_false_iff_not, Bool.or_eq_true, Bool.not_eq_eq_eq_not, Bool.not_true, Bool.not_false, beq_iff_eq, Option.bind_some, Bool.not_not, decide_eq_true_eq, Decidable.not_not, and_true]
  grind
theorem Take_none (h : AOK rs free f) {k t : Int} (hk : 0 ≤ k) (ht : 0 ≤ t) (hf : free = -1) : arena_Take ((rs, free), k, t) = some (.inr ((rs, free), 0, 6)) ∧ torporref07_Take ((rs, free), k, t) = some ((rs, free), 0, 6) := by
  unfold arena_Take arena_Take_g torporref07_Take torporref07_Take_g
  dsimp only
  rw [h.right, h.rright]
  simp only [cond_b, decide_eq_true_eq, Bool.and_eq_true, Bool.not_eq_true', decide_eq_false_iff_not, Bool.or_eq_true, Bool.not_eq_eq_eq_not, Bool.not_true, Bool.not_false, beq_iff_eq, Option.bind_some, Bool.not_not, decide_eq_true_eq, Decidable.not_not, and_true]
  grind
theorem Take_ok (h : AOK rs free f) {k t : Int} (hk : 0 ≤ k) (ht : 0 ≤ t) (hf : free ≠ -1) : arena_Take ((rs, free), k, t) = some (.inl ((nx rs free, free, 0), rs.set free.toNat (k, t, -1))) ∧ torporref07_Take ((rs, free), k, t) = some ((rs.set free.toNat (k, t, -1), nx rs free), free, 0) := by
  have h1 := h.free_rng.resolve_left hf
  have hl := h.le
  unfold arena_Take arena_Take_g torporref07_Take torporref07_Take_g
  dsimp only
  rw [h.right, h.rright, own_eq _ _ (by omega), Copy_eq _ _ (by omega)]
  simp only [cond_b, decide_eq_true_eq, Bool.and_eq_true, Bool.not_eq_true', decide_eq_false_iff_not, Bool.or_eq_true, Bool.not_eq_eq_eq_not, Bool.not_true, Bool.not_false, beq_iff_eq, Option.bind_some, Bool.not_not, decide_eq_true_eq, Decidable.not_not, and_true]
  have e1 : ¬ k < 0 := by omega
  have e2 : ¬ t < 0 := by omega
  have e3 : free.toNat < rs.length := by omega
  simp [hf, h1.1, h1.2.1, e1, e2, e3, nx]
/-- Some record that lives goes on to this one. -/
def Held (rs : List R3) (m : Int) : Prop := ∃ j : Int, 0 ≤ j ∧ j < rs.length ∧ 0 ≤ ky rs j ∧ nx rs j = m
end
end Go.AX
end

section
/- Giving back: the arena and its document alike. -/
set_option linter.unusedSimpArgs false
set_option linter.unusedVariables false
namespace Go.AX
open Go

/-- No record that lives at this place goes on to that one. -/
def NH (rs : List R3) (m : Int) (j : Nat) : Prop := ¬ (0 ≤ ky rs j ∧ nx rs j = m)
theorem allF_iff {P : Nat → Prop} {n i : Nat} : allF P n i = true ↔ ∀ j, j < n → i ≤ j → P j := by simp [allF]
theorem held_iff {rs : List R3} {m : Int} : allF (NH rs m) rs.length 0 = false ↔ Held rs m := by
  rw [← Bool.not_eq_true, allF_iff]
  constructor
  · intro h
    simp only [Classical.not_forall, NH, Classical.not_not] at h
    obtain ⟨j, h1, _, h2⟩ := h
    exact ⟨j, by omega, by omega, h2⟩
  · rintro ⟨j, h0, h1, h2⟩ h
    have := h j.toNat (by omega) (Nat.zero_le _)
    unfold NH at this
    rw [toN_cast h0] at this
    exact this h2
section
variable {rs : List R3} {free : Int} {f : List Int}
theorem AOK.nemp (h : AOK rs free f) {i : Int} (h0 : 0 ≤ i) (h1 : i < rs.length) : ((Ty.at (Ty.pr (Ty.int IntKind.i64) (Ty.pr (Ty.int IntKind.i64) (Ty.int IntKind.i64))) rs i.toNat).1 = -1 ∧ (Ty.at (Ty.pr (Ty.int IntKind.i64) (Ty.pr (Ty.int IntKind.i64) (Ty.int IntKind.i64))) rs i.toNat).2.1 = -1) ↔ ¬ 0 ≤ ky rs i := by
  have h2 := @AOK.emp _ _ _ h i h0 h1
  simp only [ky, tk] at *
  constructor
  · intro g k; rw [g.1] at k; exact absurd k (by decide)
  · intro g; exact h2 (Int.not_le.1 g)
theorem Give1_eq (a b c m : Int) : arena_Give_1 ((a, b, c), m) = some (decide (¬ (a = -1 ∧ b = -1) ∧ c = m)) := by
  unfold arena_Give_1 arena_Give_1_g
  simp only [cond_b, decide_eq_true_eq, Bool.and_eq_true, Bool.not_eq_true', decide_eq_false_iff_not, Bool.or_eq_true, Bool.not_eq_eq_eq_not, Bool.not_true, Bool.not_false, beq_iff_eq, Option.bind_some, Bool.not_not, decide_eq_true_eq, Decidable.not_not, and_true, empty_eq]
  by_cases h : a = -1 ∧ b = -1 <;> simp [h]
theorem IndexFunc_eq (h : AOK rs free f) (m : Int) : ∃ r, IndexFunc_Give (rs, m) = some r ∧ (0 ≤ r ↔ allF (NH rs m) rs.length 0 = false) := by
  unfold IndexFunc_Give IndexFunc_Give_g
  simp only [cond_b, decide_eq_true_eq, Bool.and_eq_true, Bool.not_eq_true', decide_eq_false_iff_not, Bool.or_eq_true, Bool.not_eq_eq_eq_not, Bool.not_true, Bool.not_false, beq_iff_eq, Option.bind_some, Bool.not_not, decide_eq_true_eq, Decidable.not_not, and_true, Give1_eq]
  have hle := h.le
  refine LOOP_ex (σ := List R3 × Int × Int × Int) (fun s => s.1 = rs ∧ s.2.1 = m ∧ s.2.2.1 = rs.length ∧ 0 ≤ s.2.2.2 ∧ s.2.2.2 ≤ rs.length ∧ allF (NH rs m) rs.length s.2.2.2.toNat = allF (NH rs m) rs.length 0) (fun s => rs.length - s.2.2.2.toNat) (fun r => (0 ≤ r ↔ allF (NH rs m) rs.length 0 = false)) ?_ ⟨rfl, rfl, rfl, by simp, by simp, rfl⟩ (by have := big; simp; omega)
  rintro ⟨a, b, c, i⟩ ⟨ha, hb, hc, h0, h1, h2⟩
  dsimp only at *
  subst ha
  subst hb
  subst hc
  by_cases hi : i < a.length
  · have hx := h.nemp h0 hi
    rw [if_pos hi, if_pos ⟨h0, hi⟩]
    simp only [hx, show (Ty.at (Ty.pr (Ty.int IntKind.i64) (Ty.pr (Ty.int IntKind.i64) (Ty.int IntKind.i64))) a i.toNat).2.2 = nx a i from rfl]
    by_cases hh : 0 ≤ ky a i ∧ nx a i = b
    · left
      have hh' : ¬¬ 0 ≤ ky a i ∧ nx a i = b := ⟨fun g => g hh.1, hh.2⟩
      rw [if_pos hh']
      refine ⟨_, rfl, ?_⟩
      rw [← h2, allF_no (by omega) (by unfold NH; rw [toN_cast h0]; exact fun g => g hh)]
      simp [h0]
    · right
      have hh' : ¬ (¬¬ 0 ≤ ky a i ∧ nx a i = b) := fun g => hh ⟨Classical.not_not.1 g.1, g.2⟩
      rw [if_neg hh', wrap_i64 (by omega)]
      refine ⟨_, rfl, by dsimp only; omega, rfl, rfl, rfl, by dsimp only; omega, by dsimp only; omega, ?_⟩
      dsimp only
      rw [toN1 h0, allF_step (by unfold NH; rw [toN_cast h0]; exact hh), h2]
  · left
    rw [if_neg hi]
    refine ⟨_, rfl, ?_⟩
    rw [← h2, allF_end (by omega)]
    simp
theorem Contains_eq (h : AOK rs free f) (m : Int) : ContainsFunc_Give (rs, m) = some (!allF (NH rs m) rs.length 0) := by
  unfold ContainsFunc_Give ContainsFunc_Give_g
  obtain ⟨r, h1, h2⟩ := IndexFunc_eq h m
  simp only [h1, Option.bind_some]
  cases hh : allF (NH rs m) rs.length 0 <;> simp [hh] at h2 ⊢ <;> omega
theorem Give_held (h : AOK rs free f) {m : Int} (h0 : 0 ≤ m) (h1 : m < rs.length) (hk : 0 ≤ ky rs m) (hp : Held rs m) : arena_Give ((rs, free), m) = some ((rs, free), 8) ∧ torporref07_Give ((rs, free), m) = some ((rs, free), 8) := by
  have hle := h.le
  have hh := held_iff.2 hp
  constructor
  · unfold arena_Give arena_Give_g
    simp only [h.right, taken_eq h, Contains_eq h, h0, h1, hk, hh, cond_b, decide_eq_true_eq, Bool.and_eq_true, Bool.not_eq_true', decide_eq_false_iff_not, Bool.or_eq_true, Bool.not_eq_eq_eq_not, Bool.not_true, Bool.not_false, beq_iff_eq, Option.bind_some, Bool.not_not, decide_eq_true_eq, Decidable.not_not, and_true]
    simp
  · unfold torporref07_Give torporref07_Give_g
    simp only [h.rright, Live_eq h, h0, h1, hk, cond_b, decide_eq_true_eq, Bool.and_eq_true, Bool.not_eq_true', decide_eq_false_iff_not, Bool.or_eq_true, Bool.not_eq_eq_eq_not, Bool.not_true, Bool.not_false, beq_iff_eq, Option.bind_some, Bool.not_not, decide_eq_true_eq, Decidable.not_not, and_true]
    simp only [and_self, decide_true, Bool.true_eq_false, if_false]
    rw [LOOP_m (σ := (Int × Int) × (List R3 × Int) × Int) (O := (Int × (List R3 × Int) × Int) ⊕ ((List R3 × Int) × Int)) (s := ((m, 0), (rs, free), 0)) (fun s => s.1.1 = m ∧ s.2.1.1 = rs ∧ s.2.1.2 = free ∧ 0 ≤ s.1.2 ∧ s.1.2 ≤ rs.length ∧ allF (NH rs m) rs.length s.1.2.toNat = false) (fun s => rs.length - s.1.2.toNat) (fun s => .inr ((rs, free), 8)) ?_ ⟨rfl, rfl, rfl, by simp, by simp, hh⟩ (by have := big; simp; omega)]
    · simp
    · rintro ⟨⟨mm, j⟩, ⟨a, b⟩, st⟩ ⟨ha, hb, hc, g0, g1, g2⟩
      dsimp only at *
      subst ha
      subst hb
      subst hc
      simp only [Live_eq h, cond_b, decide_eq_true_eq, Bool.and_eq_true, Bool.not_eq_true', decide_eq_false_iff_not, Bool.or_eq_true, Bool.not_eq_eq_eq_not, Bool.not_true, Bool.not_false, beq_iff_eq, Option.bind_some, Bool.not_not, decide_eq_true_eq, Decidable.not_not, and_true]
      have e3 := toN1 g0
      have e4 := toN_cast g0
      have e5 : NH a mm j.toNat ↔ ¬ (0 ≤ ky a j ∧ nx a j = mm) := by unfold NH; rw [e4]
      have e6 : (Ty.at (Ty.pr (Ty.int IntKind.i64) (Ty.pr (Ty.int IntKind.i64) (Ty.int IntKind.i64))) a j.toNat).2.2 = nx a j := rfl
      ((repeat' (first | (refine StepOK_ite (fun h => ?_) (fun h => ?_)) | (refine StepOK_inr ?_) | (refine StepOK_inl ⟨?_, ?_, ?_⟩))) <;> (try dsimp only) <;> (first | (exfalso; simp only [List.length_cons, List.length_nil] at *; omega) | grind [StepOK, wrap_i64, allF_step, allF_end]))
theorem Give_free (h : AOK rs free f) {m : Int} (h0 : 0 ≤ m) (h1 : m < rs.length) (hk : 0 ≤ ky rs m) (hp : ¬ Held rs m) : arena_Give ((rs, free), m) = some ((rs.set m.toNat (-1, -1, free), m), 0) ∧ torporref07_Give ((rs, free), m) = some ((rs.set m.toNat (-1, -1, free), m), 0) := by
  have hle := h.le
  have hh : allF (NH rs m) rs.length 0 = true := by
    cases hh : allF (NH rs m) rs.length 0 with
    | true => rfl
    | false => exact absurd (held_iff.1 hh) hp
  have hlt : m.toNat < rs.length := by omega
  constructor
  · unfold arena_Give arena_Give_g
    simp only [h.right, taken_eq h, Contains_eq h, h0, h1, hk, hh, own_eq _ _ (show rs.length ≤ 1000000 by omega), cond_b, decide_eq_true_eq, Bool.and_eq_true, Bool.not_eq_true', decide_eq_false_iff_not, Bool.or_eq_true, Bool.not_eq_eq_eq_not, Bool.not_true, Bool.not_false, beq_iff_eq, Option.bind_some, Bool.not_not, decide_eq_true_eq, Decidable.not_not, and_true]
    simp [hlt]
  · unfold torporref07_Give torporref07_Give_g
    simp only [h.rright, Live_eq h, h0, h1, hk, cond_b, decide_eq_true_eq, Bool.and_eq_true, Bool.not_eq_true', decide_eq_false_iff_not, Bool.or_eq_true, Bool.not_eq_eq_eq_not, Bool.not_true, Bool.not_false, beq_iff_eq, Option.bind_some, Bool.not_not, decide_eq_true_eq, Decidable.not_not, and_true]
    simp only [and_self, decide_true, Bool.true_eq_false, if_false]
    rw [LOOP_m (σ := (Int × Int) × (List R3 × Int) × Int) (O := (Int × (List R3 × Int) × Int) ⊕ ((List R3 × Int) × Int)) (s := ((m, 0), (rs, free), 0)) (fun s => s.1.1 = m ∧ s.2.1.1 = rs ∧ s.2.1.2 = free ∧ s.2.2 = 0 ∧ 0 ≤ s.1.2 ∧ s.1.2 ≤ rs.length) (fun s => rs.length - s.1.2.toNat) (fun s => .inl (m, (rs, free), 0)) ?_ ⟨rfl, rfl, rfl, rfl, by simp, by simp⟩ (by have := big; simp; omega)]
    · simp only [Option.bind_some, Copy_eq _ _ (show rs.length ≤ 1000000 by omega)]
      simp [h0, h1, hlt]
    · rintro ⟨⟨mm, j⟩, ⟨a, b⟩, st⟩ ⟨ha, hb, hc, hd, g0, g1⟩
      dsimp only at *
      subst ha
      subst hb
      subst hc
      subst hd
      simp only [Live_eq h, cond_b, decide_eq_true_eq, Bool.and_eq_true, Bool.not_eq_true', decide_eq_false_iff_not, Bool.or_eq_true, Bool.not_eq_eq_eq_not, Bool.not_true, Bool.not_false, beq_iff_eq, Option.bind_some, Bool.not_not, decide_eq_true_eq, Decidable.not_not, and_true]
      have e3 := toN1 g0
      have e4 := toN_cast g0
      have e5 : j < a.length → ¬ (0 ≤ ky a j ∧ nx a j = mm) := fun g => by
        have := allF_iff.1 hh j.toNat (by omega) (Nat.zero_le _)
        unfold NH at this; rwa [e4] at this
      have e6 : (Ty.at (Ty.pr (Ty.int IntKind.i64) (Ty.pr (Ty.int IntKind.i64) (Ty.int IntKind.i64))) a j.toNat).2.2 = nx a j := rfl
      ((repeat' (first | (refine StepOK_ite (fun h => ?_) (fun h => ?_)) | (refine StepOK_inr ?_) | (refine StepOK_inl ⟨?_, ?_, ?_⟩))) <;> (try dsimp only) <;> (first | (exfalso; simp only [List.length_cons, List.length_nil] at *; omega) | grind [StepOK, wrap_i64, Prod]))
end
end Go.AX
end

section
/- The queue and its document: walks, places, tasks. -/
set_option linter.unusedSimpArgs false
set_option linter.unusedVariables false
namespace Go.AX
open Go

/-- A queue's walk's answer, from where one is. -/
def qres (rs : List R3) (t : Int) (acc : List Int) (i : Int) : Bool × List Int := match wlk Lv rs i with | some s => (decide ((acc ++ s).getLastD (-1) = t), acc ++ s) | none => (false, [])
theorem qres_end {rs : List R3} {t : Int} {acc : List Int} : qres rs t acc (-1) = (decide (acc.getLastD (-1) = t), acc) := by simp [qres, wlk_end]
theorem qres_none {rs : List R3} {t : Int} {acc : List Int} {i : Int} (h : wlk Lv rs i = none) : qres rs t acc i = (false, []) := by simp [qres, h]
theorem qres_step {rs : List R3} {t : Int} {acc : List Int} {i : Int} (h1 : 0 ≤ i) (h2 : i < rs.length) (h3 : Lv (Ty.at (Ty.pr (Ty.int IntKind.i64) (Ty.pr (Ty.int IntKind.i64) (Ty.int IntKind.i64))) rs i.toNat)) : qres rs t (acc ++ [i]) (Ty.at (Ty.pr (Ty.int IntKind.i64) (Ty.pr (Ty.int IntKind.i64) (Ty.int IntKind.i64))) rs i.toNat).2.2 = qres rs t acc i := by
  simp only [qres, wlk_step h1 h2 h3]
  cases wlk Lv rs (Ty.at (Ty.pr (Ty.int IntKind.i64) (Ty.pr (Ty.int IntKind.i64) (Ty.int IntKind.i64))) rs i.toNat).2.2 <;> simp
theorem last_app {l : List Int} {x d : Int} : (l ++ [x]).getLastD d = x := by simp
theorem qwalk_eq (rs : List R3) (free h t : Int) (hl : rs.length ≤ 1000000) : queue_walk ((rs, free), h, t) = some (qres rs t [] h) := by
  unfold queue_walk queue_walk_g
  refine LOOP_m (σ := (Int × Int) × (List R3 × Int) × (Int × Int) × List Int) (fun s => s.2.1.1 = rs ∧ s.2.2.1.2 = t ∧ s.1.1 = s.2.2.2.getLastD (-1) ∧ GoneL Lv rs h s.2.2.2 s.1.2) (fun s => rs.length + 1 - s.2.2.2.length) (fun s => qres rs t s.2.2.2 s.1.2) ?_ ⟨rfl, rfl, rfl, .start⟩ (by have := big; simp; omega)
  rintro ⟨⟨pv, i⟩, ⟨a, b⟩, ⟨c, d⟩, acc⟩ ⟨ha, hd, hp, g⟩
  dsimp only at *
  subst ha
  subst hd
  have hle := g.le
  simp only [cond_b, decide_eq_true_eq, Bool.and_eq_true, Bool.not_eq_true', decide_eq_false_iff_not, Bool.or_eq_true, Bool.not_eq_eq_eq_not, Bool.not_true, Bool.not_false, beq_iff_eq, Option.bind_some, Bool.not_not, decide_eq_true_eq, Decidable.not_not, and_true]
  have e1 : (Ty.at (Ty.pr (Ty.int IntKind.i64) (Ty.pr (Ty.int IntKind.i64) (Ty.int IntKind.i64))) a i.toNat).1 < 0 ↔ ¬ Lv (Ty.at (Ty.pr (Ty.int IntKind.i64) (Ty.pr (Ty.int IntKind.i64) (Ty.int IntKind.i64))) a i.toNat) := Int.not_le.symm
  have e2 : (acc ++ [i]).getLastD (-1) = i := last_app
  ((repeat' (first | (refine StepOK_ite (fun h => ?_) (fun h => ?_)) | (refine StepOK_inr ?_) | (refine StepOK_inl ⟨?_, ?_, ?_⟩))) <;> (try dsimp only) <;> (first | (exfalso; simp only [List.length_cons, List.length_nil] at *; omega) | grind [StepOK, wrap_i64, qres_none, wlk_none, qres_end, GoneL.full, GoneL.next, qres_step]))
section
variable {rs : List R3} {free : Int} {f : List Int}
theorem rplaces_eq (h : AOK rs free f) (hd t : Int) : torporref08_places ((rs, free), hd, t) = some (qres rs t [] hd) := by
  unfold torporref08_places torporref08_places_g
  dsimp only
  rw [h.rright]
  simp only [cond_b, decide_eq_true_eq, Bool.and_eq_true, Bool.not_eq_true', decide_eq_false_iff_not, Bool.or_eq_true, Bool.not_eq_eq_eq_not, Bool.not_true, Bool.not_false, beq_iff_eq, Option.bind_some, Bool.not_not, decide_eq_true_eq, Decidable.not_not, and_true]
  simp only [Bool.true_eq_false, if_false]
  have hle := h.le
  refine LOOP_m (σ := (Int × Int) × (List R3 × Int) × (Int × Int) × List Int) (fun s => s.2.1.1 = rs ∧ s.2.1.2 = free ∧ s.2.2.1.2 = t ∧ s.1.2 = s.2.2.2.getLastD (-1) ∧ Gone Lv rs hd s.2.2.2 s.1.1) (fun s => rs.length + 1 - s.2.2.2.length) (fun s => qres rs t s.2.2.2 s.1.1) ?_ ⟨rfl, rfl, rfl, rfl, .start⟩ (by have := big; simp; omega)
  rintro ⟨⟨i, pv⟩, ⟨a, b⟩, ⟨c, d⟩, acc⟩ ⟨ha, hb, hd, hp, g⟩
  dsimp only at *
  subst ha
  subst hb
  subst hd
  have hle' := g.le
  rw [Has_eq _ _ (by omega), Live_eq h]
  simp only [cond_b, decide_eq_true_eq, Bool.and_eq_true, Bool.not_eq_true', decide_eq_false_iff_not, Bool.or_eq_true, Bool.not_eq_eq_eq_not, Bool.not_true, Bool.not_false, beq_iff_eq, Option.bind_some, Bool.not_not, decide_eq_true_eq, Decidable.not_not, and_true]
  have e1 : Lv (Ty.at (Ty.pr (Ty.int IntKind.i64) (Ty.pr (Ty.int IntKind.i64) (Ty.int IntKind.i64))) a i.toNat) = (0 ≤ ky a i) := rfl
  have e2 : (acc ++ [i]).getLastD (-1) = i := last_app
  ((repeat' (first | (refine StepOK_ite (fun h => ?_) (fun h => ?_)) | (refine StepOK_inr ?_) | (refine StepOK_inl ⟨?_, ?_, ?_⟩))) <;> (try dsimp only) <;> (first | (exfalso; simp only [List.length_cons, List.length_nil] at *; omega) | grind [StepOK, wrap_i64, qres_none, wlk_none, qres_end, Gone.twice, Gone.next, qres_step]))
end
/-- A queue in its arena is right: its free list, its places. -/
structure QOK (rs : List R3) (free h t : Int) (f l : List Int) : Prop where
  a : AOK rs free f
  q : PCh Lv rs h l
  t : l.getLastD (-1) = t
section
variable {rs : List R3} {free h t : Int} {f l : List Int}
theorem QOK.res (g : QOK rs free h t f l) : qres rs t [] h = (true, l) := by simp only [qres, wlk_iff.2 g.q, List.nil_append, g.t, decide_true]
theorem QOK.right (g : QOK rs free h t f l) : queue_Right ((rs, free), h, t) = some true := by
  unfold queue_Right queue_Right_g
  dsimp only
  rw [qwalk_eq _ _ _ _ (by have := g.a.le; omega), g.res]
  simp [g.a.right]
theorem QOK.rright (g : QOK rs free h t f l) : torporref08_Right ((rs, free), h, t) = some true := by
  unfold torporref08_Right torporref08_Right_g
  dsimp only
  rw [rplaces_eq g.a, g.res]
  simp
theorem QOK.places (g : QOK rs free h t f l) : queue_Places ((rs, free), h, t) = some l := by
  unfold queue_Places queue_Places_g
  dsimp only
  rw [qwalk_eq _ _ _ _ (by have := g.a.le; omega), g.res]
  simp [g.a.right]
theorem QOK.rplaces (g : QOK rs free h t f l) : torporref08_Places ((rs, free), h, t) = some l := by
  unfold torporref08_Places torporref08_Places_g
  dsimp only
  rw [rplaces_eq g.a, g.res]
  simp
theorem Q_cases (rs : List R3) (free h t : Int) (hl : rs.length ≤ 1000000) : (∃ f l, QOK rs free h t f l) ∨ (queue_Right ((rs, free), h, t) = some false ∧ torporref08_Right ((rs, free), h, t) = some false ∧ queue_Places ((rs, free), h, t) = some [] ∧ torporref08_Places ((rs, free), h, t) = some []) := by
  unfold queue_Right queue_Right_g torporref08_Right torporref08_Right_g queue_Places queue_Places_g torporref08_Places torporref08_Places_g
  dsimp only
  rw [qwalk_eq _ _ _ _ hl]
  rcases Right_cases rs free hl with ⟨f, ha⟩ | ⟨h1, h2⟩
  · rw [rplaces_eq ha, ha.right]
    unfold qres
    cases hw : wlk Lv rs h with
    | none => simp
    | some l =>
      by_cases hg : l.getLastD (-1) = t
      · exact .inl ⟨f, l, ha, wlk_iff.1 hw, hg⟩
      · simp only [List.nil_append, hg, decide_false]
        simp
  · right
    have h3 : torporref08_places ((rs, free), h, t) = some (false, []) := by
      unfold torporref08_places torporref08_places_g
      simp [h2]
    rw [h1, h3]
    cases (qres rs t [] h).1 <;> simp
end
end Go.AX
end

section
/- The queue: tasks, and places that are laid one after the other. -/
set_option linter.unusedSimpArgs false
set_option linter.unusedVariables false
namespace Go.AX
open Go

theorem take_at {T : Ty} {l : List T.den} {i : Nat} (h : i < l.length) : l.take (i + 1) = l.take i ++ [Ty.at T l i] := by
  rw [List.take_add_one, List.getElem?_eq_getElem h, at_get h]; rfl
theorem tstep {l : List Int} {g : Int → Int} {j : Nat} (hj : j < l.length) : ((l.take j).map g ++ l.drop j).set j (g (Ty.at (Ty.int IntKind.i64) l j)) = (l.take (j + 1)).map g ++ l.drop (j + 1) := by
  rw [drop_at (T := (Ty.int IntKind.i64)) hj, take_at (T := (Ty.int IntKind.i64)) hj, List.map_append, List.set_append_right _ _ (by simp; omega)]
  have : j - (List.map g (List.take j l)).length = 0 := by simp; omega
  rw [this]
  simp
theorem tat {l : List Int} {g : Int → Int} {j : Nat} (hj : j < l.length) : Ty.at (Ty.int IntKind.i64) ((l.take j).map g ++ l.drop j) j = Ty.at (Ty.int IntKind.i64) l j := by
  simp only [Ty.at, List.getD_eq_getElem?_getD]
  rw [List.getElem?_append_right (by simp; omega)]
  have : j - (List.map g (List.take j l)).length = 0 := by simp; omega
  rw [this]
  simp
section
variable {rs : List R3} {free h t : Int} {f l : List Int}
theorem QOK.rng (g : QOK rs free h t f l) : ∀ x ∈ l, 0 ≤ x ∧ x < rs.length := fun x hx => ⟨(g.q.rng x hx).1, (g.q.rng x hx).2.1⟩
theorem QOK.len (g : QOK rs free h t f l) : l.length ≤ 64 := Nat.le_trans g.q.len g.a.le
theorem QOK.tasks (g : QOK rs free h t f l) : queue_Tasks ((rs, free), h, t) = some (l.map (tk rs)) := by
  unfold queue_Tasks queue_Tasks_g
  dsimp only
  rw [g.places]
  simp only [cond_b, decide_eq_true_eq, Bool.and_eq_true, Bool.not_eq_true', decide_eq_false_iff_not, Bool.or_eq_true, Bool.not_eq_eq_eq_not, Bool.not_true, Bool.not_false, beq_iff_eq, Option.bind_some, Bool.not_not, decide_eq_true_eq, Decidable.not_not, and_true]
  have hl := g.len
  refine LOOP_m (σ := (Int × Int) × (List R3 × Int) × List Int) (fun s => s.1.1 = l.length ∧ s.2.1.1 = rs ∧ 0 ≤ s.1.2 ∧ s.1.2 ≤ l.length ∧ s.2.2 = (l.take s.1.2.toNat).map (tk rs) ++ l.drop s.1.2.toNat) (fun s => l.length - s.1.2.toNat) (fun s => l.map (tk rs)) ?_ ⟨rfl, rfl, by simp, by simp, by simp⟩ (by have := big; simp; omega)
  rintro ⟨⟨n, j⟩, ⟨a, b⟩, x⟩ ⟨ha, hb, h0, h1, hx⟩
  dsimp only at *
  subst ha
  subst hb
  have hxl : x.length = l.length := by rw [hx]; simp; omega
  by_cases hj : j < l.length
  · have hjn : j.toNat < l.length := by omega
    have e1 : Ty.at (Ty.int IntKind.i64) x j.toNat = Ty.at (Ty.int IntKind.i64) l j.toNat := by rw [hx]; exact tat hjn
    have e2 := g.rng _ (at_mem (T := (Ty.int IntKind.i64)) hjn)
    have e3 : x.set j.toNat (tk a (Ty.at (Ty.int IntKind.i64) l j.toNat)) = (l.take (j.toNat + 1)).map (tk a) ++ l.drop (j.toNat + 1) := by rw [hx]; exact tstep hjn
    have e4 : (Ty.at (Ty.pr (Ty.int IntKind.i64) (Ty.pr (Ty.int IntKind.i64) (Ty.int IntKind.i64))) a (Ty.at (Ty.int IntKind.i64) l j.toNat).toNat).2.1 = tk a (Ty.at (Ty.int IntKind.i64) l j.toNat) := rfl
    have e5 := toN1 h0
    rw [if_pos hj, if_pos (by omega), if_pos (by omega), e1, if_pos e2, if_pos (by omega), if_pos (by omega), wrap_i64 (by omega)]
    refine StepOK_inl ⟨by dsimp only; omega, ⟨rfl, rfl, by dsimp only; omega, by dsimp only; omega, ?_⟩, rfl⟩
    dsimp only
    rw [e5, ← e3, e4]
  · rw [if_neg hj]
    refine StepOK_inr ?_
    try dsimp only
    rw [hx, List.take_of_length_le (by omega), List.drop_of_length_le (by omega), List.append_nil]
theorem QOK.rtasks (g : QOK rs free h t f l) : torporref08_Tasks ((rs, free), h, t) = some (l.map (tk rs)) := by
  unfold torporref08_Tasks torporref08_Tasks_g
  dsimp only
  rw [g.rplaces]
  simp only [cond_b, decide_eq_true_eq, Bool.and_eq_true, Bool.not_eq_true', decide_eq_false_iff_not, Bool.or_eq_true, Bool.not_eq_eq_eq_not, Bool.not_true, Bool.not_false, beq_iff_eq, Option.bind_some, Bool.not_not, decide_eq_true_eq, Decidable.not_not, and_true]
  have hl := g.len
  refine LOOP_m (σ := Int × (List R3 × Int) × List Int × List Int) (fun s => s.2.2.2 = l ∧ s.2.1.1 = rs ∧ 0 ≤ s.1 ∧ s.1 ≤ l.length ∧ s.2.2.1 = (l.take s.1.toNat).map (tk rs)) (fun s => l.length - s.1.toNat) (fun s => l.map (tk rs)) ?_ ⟨rfl, rfl, by simp, by simp, by simp⟩ (by have := big; simp; omega)
  rintro ⟨j, ⟨a, b⟩, x, y⟩ ⟨ha, hb, h0, h1, hx⟩
  dsimp only at *
  subst ha
  subst hb
  have hxl : x.length = j.toNat := by rw [hx]; simp; omega
  by_cases hj : j < y.length
  · have hjn : j.toNat < y.length := by omega
    have e2 := g.rng _ (at_mem (T := (Ty.int IntKind.i64)) hjn)
    have e4 : (Ty.at (Ty.pr (Ty.int IntKind.i64) (Ty.pr (Ty.int IntKind.i64) (Ty.int IntKind.i64))) a (Ty.at (Ty.int IntKind.i64) y j.toNat).toNat).2.1 = tk a (Ty.at (Ty.int IntKind.i64) y j.toNat) := rfl
    have e5 := toN1 h0
    rw [if_pos hj, if_pos (by omega), if_pos (by omega), if_pos e2, if_pos (by simp; omega), wrap_i64 (by omega)]
    refine StepOK_inl ⟨by dsimp only; omega, ⟨rfl, rfl, by dsimp only; omega, by dsimp only; omega, ?_⟩, rfl⟩
    dsimp only
    rw [e5, take_at (T := (Ty.int IntKind.i64)) hjn, List.map_append, hx, e4]
    rfl
  · rw [if_neg hj]
    refine StepOK_inr ?_
    try dsimp only
    rw [hx, List.take_of_length_le (by omega)]
theorem T_cases (hno : queue_Places ((rs, free), h, t) = some []) : queue_Tasks ((rs, free), h, t) = some [] := by
  unfold queue_Tasks queue_Tasks_g
  dsimp only
  rw [hno]
  simp only [cond_b, decide_eq_true_eq, Bool.and_eq_true, Bool.not_eq_true', decide_eq_false_iff_not, Bool.or_eq_true, Bool.not_eq_eq_eq_not, Bool.not_true, Bool.not_false, beq_iff_eq, Option.bind_some, Bool.not_not, decide_eq_true_eq, Decidable.not_not, and_true]
  exact LOOP_m (σ := (Int × Int) × (List R3 × Int) × List Int) (fun s => s = ((0, 0), (rs, free), [])) (fun s => 0) (fun s => []) (by rintro s rfl; exact StepOK_inr rfl) rfl (by have := big; simp; omega)
theorem rT_cases (hno : torporref08_Places ((rs, free), h, t) = some []) : torporref08_Tasks ((rs, free), h, t) = some [] := by
  unfold torporref08_Tasks torporref08_Tasks_g
  dsimp only
  rw [hno]
  simp only [cond_b, decide_eq_true_eq, Bool.and_eq_true, Bool.not_eq_true', decide_eq_false_iff_not, Bool.or_eq_true, Bool.not_eq_eq_eq_not, Bool.not_true, Bool.not_false, beq_iff_eq, Option.bind_some, Bool.not_not, decide_eq_true_eq, Decidable.not_not, and_true]
  exact LOOP_m (σ := Int × (List R3 × Int) × List Int × List Int) (fun s => s = (0, (rs, free), [], [])) (fun s => 0) (fun s => []) (by rintro s rfl; exact StepOK_inr rfl) rfl (by have := big; simp; omega)
end
/-- The record that goes on to this place. -/
def nxt (rs : List R3) (a w : Int) : List R3 := rs.set a.toNat (ky rs a, tk rs a, w)
def lay : List R3 → List Int → List R3
  | rs, [] => rs
  | rs, a :: r => lay (nxt rs a (r.headD (-1))) r
@[simp] theorem nxt_len {rs : List R3} {a w : Int} : (nxt rs a w).length = rs.length := by simp [nxt]
theorem Laid_eq (rs : List R3) (free : Int) (x : List Int) (hl : rs.length ≤ 1000000) (hx : x.length ≤ 1000000) (hr : ∀ i ∈ x, 0 ≤ i ∧ i < rs.length) : torporref08_Laid ((rs, free), x) = some ((free, x.headD (-1), x.getLastD (-1)), lay rs x) := by
  unfold torporref08_Laid torporref08_Laid_g
  dsimp only
  rw [Copy_eq _ _ hl]
  simp only [cond_b, decide_eq_true_eq, Bool.and_eq_true, Bool.not_eq_true', decide_eq_false_iff_not, Bool.or_eq_true, Bool.not_eq_eq_eq_not, Bool.not_true, Bool.not_false, beq_iff_eq, Option.bind_some, Bool.not_not, decide_eq_true_eq, Decidable.not_not, and_true]
  by_cases hn : (x.length : Int) = 0
  · rw [if_pos hn]
    cases x with
    | nil => rfl
    | cons a r => simp at hn; omega
  · rw [if_neg hn]
    rw [LOOP_m (σ := (List Int × Int) × Int × (Int × Int) × Int × List R3) (O := (List Int × Int × (Int × Int) × Int × List R3) ⊕ ((Int × Int × Int) × List R3)) (s := ((x, 0), 0, (0, 0), free, rs)) (fun s => s.1.1 = x ∧ 0 ≤ s.1.2 ∧ s.1.2 ≤ x.length ∧ s.2.1 = 0 ∧ s.2.2.1 = (0, 0) ∧ s.2.2.2.1 = free ∧ s.2.2.2.2.length = rs.length ∧ lay s.2.2.2.2 (x.drop s.1.2.toNat) = lay rs x) (fun s => x.length - s.1.2.toNat) (fun s => .inl (x, 0, (0, 0), free, lay rs x)) ?_ ⟨rfl, by simp, by simp, rfl, rfl, rfl, rfl, rfl⟩ (by have := big; simp; omega)]
    · simp only [Option.bind_some]
      have h1 : 0 < x.length := by omega
      have h2 : x.length - 1 < x.length := by omega
      rw [wrap_i64 (by omega), if_pos (by omega), if_pos (by omega)]
      have e1 : ((x.length : Int) - 1).toNat = x.length - 1 := by omega
      have e2 : Ty.at (Ty.int IntKind.i64) x 0 = x.headD (-1) := by rw [at_get h1]; cases x with | nil => simp at h1 | cons a r => rfl
      have e3 : Ty.at (Ty.int IntKind.i64) x (x.length - 1) = x.getLastD (-1) := by rw [at_get h2]; cases x with | nil => simp at h1 | cons a r => rw [List.getLastD_eq_getLast?, List.getLast?_eq_getElem?, List.getElem?_eq_getElem h2]; rfl
      rw [e1]
      simp only [e3]
      exact congrArg some (by rw [show (0 : Int).toNat = 0 from rfl, e2])
    · rintro ⟨⟨y, j⟩, a, ⟨b, c⟩, d, r⟩ ⟨hy, h0, h1, ha, hb, hd, hrl, hlay⟩
      dsimp only at *
      simp only [Prod.mk.injEq] at hb
      obtain ⟨hb1, hb2⟩ := hb
      subst hy
      subst ha
      subst hb1
      subst hb2
      subst hd
      by_cases hj : j < y.length
      · have hjn : j.toNat < y.length := by omega
        have e2 := hr _ (at_mem (T := (Ty.int IntKind.i64)) hjn)
        have e5 := toN1 h0
        rw [drop_at (T := (Ty.int IntKind.i64)) hjn] at hlay
        have w1 : IntKind.i64.wrap (j + 1) = j + 1 := wrap_i64 (by omega)
        simp only [w1, e5]
        rw [if_pos hj]
        have hrec : ∀ (v : R3), v = (ky r (Ty.at (Ty.int IntKind.i64) y j.toNat), tk r (Ty.at (Ty.int IntKind.i64) y j.toNat), (y.drop (j.toNat + 1)).headD (-1)) → lay (r.set (Ty.at (Ty.int IntKind.i64) y j.toNat).toNat v) (y.drop (j.toNat + 1)) = lay rs y := by
          rintro v rfl; exact hlay
        by_cases hj2 : j + 1 < y.length
        · have hj2n : j.toNat + 1 < y.length := by omega
          have e6 : (y.drop (j.toNat + 1)).headD (-1) = Ty.at (Ty.int IntKind.i64) y (j.toNat + 1) := by rw [drop_at (T := (Ty.int IntKind.i64)) hj2n]; rfl
          rw [if_pos hj2, if_pos (by omega)]
          simp only [Option.bind_some]
          rw [if_pos (by omega), if_pos (by rw [hrl]; exact e2), if_pos (by rw [hrl]; omega)]
          refine StepOK_inl ⟨by dsimp only; omega, ⟨rfl, by dsimp only; omega, by dsimp only; omega, rfl, rfl, rfl, by simpa using hrl, ?_⟩, rfl⟩
          dsimp only
          rw [w1, e5]
          exact hrec _ (by rw [e6]; rfl)
        · have e6 : y.drop (j.toNat + 1) = [] := List.drop_of_length_le (by omega)
          rw [if_neg hj2]
          simp only [Option.bind_some]
          rw [if_pos (by omega), if_pos (by rw [hrl]; exact e2), if_pos (by rw [hrl]; omega)]
          refine StepOK_inl ⟨by dsimp only; omega, ⟨rfl, by dsimp only; omega, by dsimp only; omega, rfl, rfl, rfl, by simpa using hrl, ?_⟩, rfl⟩
          dsimp only
          rw [w1, e5]
          exact hrec _ (by rw [e6]; rfl)
      · rw [if_neg hj]
        refine StepOK_inr ?_
        try dsimp only
        rw [List.drop_of_length_le (by omega)] at hlay
        rw [← hlay]
        rfl
end Go.AX
end

section
/- The queue: what is pushed. -/
set_option linter.unusedSimpArgs false
set_option linter.unusedVariables false
namespace Go.AX
open Go

theorem at_rec {rs : List R3} {a : Int} : Ty.at (Ty.pr (Ty.int IntKind.i64) (Ty.pr (Ty.int IntKind.i64) (Ty.int IntKind.i64))) rs a.toNat = (ky rs a, tk rs a, nx rs a) := rfl
theorem set_self {rs : List R3} {a : Int} (h0 : 0 ≤ a) (h1 : a < rs.length) : rs.set a.toNat (ky rs a, tk rs a, nx rs a) = rs := by
  have hn : a.toNat < rs.length := by omega
  rw [← at_rec, at_get hn]
  exact List.set_getElem_self _
theorem nxt_self {rs : List R3} {a : Int} (h0 : 0 ≤ a) (h1 : a < rs.length) : nxt rs a (nx rs a) = rs := set_self h0 h1
theorem PCh.head {p : R3 → Prop} {rs : List R3} {i : Int} {l : List Int} (h : PCh p rs i l) : l.headD (-1) = i := by
  cases h <;> rfl
theorem lay_id {p : R3 → Prop} {rs : List R3} : ∀ {i : Int} {l : List Int}, PCh p rs i l → lay rs l = rs
  | _, [], _ => rfl
  | _, _ :: r, h => by
    cases h with
    | cons g1 g2 g3 g4 =>
      simp only [lay]
      rw [g4.head, show (Ty.at (Ty.pr (Ty.int IntKind.i64) (Ty.pr (Ty.int IntKind.i64) (Ty.int IntKind.i64))) rs _).2.2 = nx rs _ from rfl, nxt_self g1 g2]
      exact lay_id g4
theorem lay_pre {p : R3 → Prop} {rs : List R3} {t : Int} {s r : List Int} : ∀ {i : Int} {l : List Int}, PCh p rs i (l ++ t :: s) → lay rs (l ++ t :: r) = lay rs (t :: r)
  | _, [], _ => rfl
  | _, a :: l, h => by
    cases h with
    | cons g1 g2 g3 g4 =>
      have e : (l ++ t :: r).headD (-1) = (l ++ t :: s).headD (-1) := by cases l <;> rfl
      simp only [List.cons_append, lay]
      replace g4 : PCh p rs _ (l ++ t :: s) := g4
      rw [e, g4.head, show (Ty.at (Ty.pr (Ty.int IntKind.i64) (Ty.pr (Ty.int IntKind.i64) (Ty.int IntKind.i64))) rs _).2.2 = nx rs _ from rfl, nxt_self g1 g2]
      exact lay_pre g4
theorem PCh.cut {p : R3 → Prop} {rs : List R3} {t : Int} {v : R3} {s r : List Int} (hv : p v) : ∀ {i : Int} {l : List Int}, PCh p rs i (l ++ t :: s) → PCh p (rs.set t.toNat v) v.2.2 r → PCh p (rs.set t.toNat v) i (l ++ t :: r)
  | _, [], h, hr => by
    cases h with
    | cons g1 g2 g3 g4 =>
      have e := at_upd (v := v) g1 g2 g1
      rw [if_pos rfl] at e
      exact .cons g1 (by simpa using g2) (by rw [e]; exact hv) (by rw [e]; exact hr)
  | a, _ :: l, h, hr => by
    have hnd := h.nodup
    have ht := h.rng t (by simp)
    cases h with
    | cons g1 g2 g3 g4 =>
      have hn : ¬ a = t := fun e => (List.nodup_cons.1 hnd).1 (by simp [e])
      have e := at_upd (v := v) ht.1 ht.2.1 g1
      rw [if_neg hn] at e
      exact .cons g1 (by simpa using g2) (by rw [e]; exact g3) (by rw [e]; exact g4.cut hv hr)
theorem snoc_of {l : List Int} {t : Int} (h : l.getLastD (-1) = t) (hn : l ≠ []) : ∃ l', l = l' ++ [t] := by
  refine ⟨l.dropLast, ?_⟩
  rw [← h, List.getLastD_eq_getLast?, List.getLast?_eq_some_getLast hn]
  exact (List.dropLast_concat_getLast hn).symm
theorem set_at {rs : List R3} {i : Int} {v : R3} (h0 : 0 ≤ i) (h1 : i < rs.length) : Ty.at (Ty.pr (Ty.int IntKind.i64) (Ty.pr (Ty.int IntKind.i64) (Ty.int IntKind.i64))) (rs.set i.toNat v) i.toNat = v := by rw [at_upd h0 h1 h0, if_pos rfl]
section
variable {rs : List R3} {free h t : Int} {f l : List Int}
theorem QOK.ends (g : QOK rs free h t f l) : (l = [] ∧ h = -1 ∧ t = -1) ∨ (l ≠ [] ∧ h ≠ -1 ∧ h ∈ l ∧ t ∈ l) := by
  have hq := g.q
  have ht := g.t
  cases hq with
  | nil => exact .inl ⟨rfl, rfl, ht.symm⟩
  | cons g1 g2 g3 g4 =>
    refine .inr ⟨by simp, by omega, by simp, ?_⟩
    obtain ⟨l', e⟩ := snoc_of ht (by simp)
    rw [e]; simp
theorem QOK.live (g : QOK rs free h t f l) {x : Int} (hx : x ∈ l) : 0 ≤ x ∧ x < rs.length ∧ 0 ≤ ky rs x := g.q.rng x hx
/-- What a push is, in short. -/
def pushed (rs : List R3) (free h t k d : Int) (fr : Bool) : (List R3 × Int) × (Int × Int) × Int :=
  let rs1 := rs.set free.toNat (k, d, -1)
  bif decide (h = -1) then ((rs1, nx rs free), (free, free), 0)
  else bif fr then ((rs.set free.toNat (k, d, h), nx rs free), (free, t), 0)
  else ((rs1.set t.toNat (ky rs t, tk rs t, free), nx rs free), (h, free), 0)
theorem QOK.push (g : QOK rs free h t f l) {k d : Int} (hk : 0 ≤ k) (hd : 0 ≤ d) (hf : free ≠ -1) (fr : Bool) : queue_Push ((rs, free), (h, t), k, d, fr) = some (pushed rs free h t k d fr) ∧ torporref08_Push ((rs, free), (h, t), k, d, fr) = some (pushed rs free h t k d fr) := by
  obtain ⟨k1, k2⟩ := Take_ok g.a hk hd hf
  have hfr := g.a.free_rng.resolve_left hf
  have hle := g.a.le
  have hll := g.len
  have hnl : free ∉ l := fun e => by have := (g.live e).2.2; omega
  have hlt : free.toNat < rs.length := by omega
  have hq1 : PCh Lv (rs.set free.toNat (k, d, -1)) h l := g.q.set hfr.1 hfr.2.1 hnl
  have ha1 := set_at (rs := rs) (v := (k, d, -1)) hfr.1 hfr.2.1
  have hset : ∀ v w : R3, (rs.set free.toNat v).set free.toNat w = rs.set free.toNat w := fun v w => by simp
  constructor
  · unfold queue_Push queue_Push_g pushed
    dsimp only
    rw [g.right, k1]
    simp only [cond_b, decide_eq_true_eq, Bool.and_eq_true, Bool.not_eq_true', decide_eq_false_iff_not, Bool.or_eq_true, Bool.not_eq_eq_eq_not, Bool.not_true, Bool.not_false, beq_iff_eq, Option.bind_some, Bool.not_not, decide_eq_true_eq, Decidable.not_not, and_true]
    rcases g.ends with ⟨e1, e2, e3⟩ | ⟨e1, e2, e3, e4⟩
    · simp [e2]
    · have hlv := g.live e4
      have htn : ¬ t = free := fun e => hnl (e ▸ e4)
      have hat : Ty.at (Ty.pr (Ty.int IntKind.i64) (Ty.pr (Ty.int IntKind.i64) (Ty.int IntKind.i64))) (rs.set free.toNat (k, d, -1)) t.toNat = Ty.at (Ty.pr (Ty.int IntKind.i64) (Ty.pr (Ty.int IntKind.i64) (Ty.int IntKind.i64))) rs t.toNat := by rw [at_upd hfr.1 hfr.2.1 hlv.1, if_neg htn]
      have htl : t.toNat < rs.length := by omega
      cases fr
      · simp [e2, hlv.1, hlv.2.1, htl, hat]; rfl
      · simp [e2, hfr.1, hfr.2.1, hlt, ha1]
  · unfold torporref08_Push torporref08_Push_g pushed
    dsimp only
    rw [g.rright, g.rplaces, k2]
    simp only [cond_b, decide_eq_true_eq, Bool.and_eq_true, Bool.not_eq_true', decide_eq_false_iff_not, Bool.or_eq_true, Bool.not_eq_eq_eq_not, Bool.not_true, Bool.not_false, beq_iff_eq, Option.bind_some, Bool.not_not, decide_eq_true_eq, Decidable.not_not, and_true, if_false, not_true_eq_false, Bool.true_eq_false]
    have hr1 : ∀ x : List Int, x = free :: l ∨ x = l ++ [free] → ∀ i ∈ x, 0 ≤ i ∧ i < (rs.set free.toNat (k, d, -1)).length := by
      intro x hx i hi
      have : i = free ∨ i ∈ l := by rcases hx with rfl | rfl <;> simp at hi <;> grind
      rw [List.length_set]
      rcases this with rfl | hm
      · exact ⟨hfr.1, hfr.2.1⟩
      · exact ⟨(g.live hm).1, (g.live hm).2.1⟩
    have hlay1 : lay (rs.set free.toNat (k, d, -1)) (free :: l) = rs.set free.toNat (k, d, h) := by
      simp only [lay]
      have e : nxt (rs.set free.toNat (k, d, -1)) free (l.headD (-1)) = rs.set free.toNat (k, d, h) := by
        unfold nxt
        rw [hset, g.q.head]
        unfold ky tk
        rw [ha1]
      rw [e]
      exact lay_id (g.q.set hfr.1 hfr.2.1 hnl)
    cases fr
    · simp only [Bool.false_eq_true, if_false]
      rw [if_pos (by simp; omega)]
      simp only [Option.bind_some]
      rw [Laid_eq _ _ _ (by simp; omega) (by simp; omega) (hr1 _ (.inr rfl))]
      simp only [Option.bind_some]
      rcases g.ends with ⟨e1, e2, e3⟩ | ⟨e1, e2, e3, e4⟩
      · subst e1
        simp only [List.nil_append, hlay1, e2]
        simp
      · have hlv := g.live e4
        have htn : ¬ t = free := fun e => hnl (e ▸ e4)
        obtain ⟨l', rfl⟩ := snoc_of g.t e1
        have ht1 : t < (rs.set free.toNat (k, d, -1)).length := by simpa using hlv.2.1
        have e5 : lay (rs.set free.toNat (k, d, -1)) (l' ++ [t] ++ [free]) = (rs.set free.toNat (k, d, -1)).set t.toNat (ky rs t, tk rs t, free) := by
          rw [List.append_assoc]
          rw [show [t] ++ [free] = t :: [free] from rfl, lay_pre hq1]
          simp only [lay, List.headD_cons, List.headD_nil]
          have e6 : nxt (rs.set free.toNat (k, d, -1)) t free = (rs.set free.toNat (k, d, -1)).set t.toNat (ky rs t, tk rs t, free) := by
            unfold nxt
            rw [ky_upd hfr.1 hfr.2.1 hlv.1, tk_upd hfr.1 hfr.2.1 hlv.1, if_neg htn, if_neg htn]
          rw [e6]
          have e7 : nx ((rs.set free.toNat (k, d, -1)).set t.toNat (ky rs t, tk rs t, free)) free = -1 := by
            rw [nx_upd hlv.1 ht1 hfr.1, if_neg (fun e => htn e.symm), nx_upd hfr.1 hfr.2.1 hfr.1, if_pos rfl]
          have e8 := nxt_self (rs := (rs.set free.toNat (k, d, -1)).set t.toNat (ky rs t, tk rs t, free)) hfr.1 (by simpa using hfr.2.1)
          rw [e7] at e8
          exact e8
        have e9 : (l' ++ [t] ++ [free]).headD (-1) = h := by
          have := g.q.head
          cases l' <;> simpa using this
        rw [e5, e9]
        simp [e2]
    · simp only [if_true]
      rw [if_pos (by simp; omega)]
      simp only [Option.bind_some, List.cons_append, List.nil_append]
      rw [Laid_eq _ _ _ (by simp; omega) (by simp; omega) (hr1 _ (.inl rfl)), hlay1]
      simp only [Option.bind_some]
      rcases g.ends with ⟨e1, e2, e3⟩ | ⟨e1, e2, e3, e4⟩
      · subst e1
        simp [e2]
      · have : (free :: l).getLastD (-1) = t := by
          obtain ⟨l', rfl⟩ := snoc_of g.t e1
          rw [← List.cons_append]; exact last_app
        rw [this]
        simp [e2]
end
end Go.AX
end

section
/- The queue: what stands after a push; what is taken out. -/
set_option linter.unusedSimpArgs false
set_option linter.unusedVariables false
namespace Go.AX
open Go

theorem PCh.nx_mem {p : R3 → Prop} {rs : List R3} : ∀ {i x : Int} {l : List Int}, PCh p rs i l → x ∈ l → nx rs x = -1 ∨ nx rs x ∈ l
  | _, _, [], _, hx => by cases hx
  | i, x, y :: l, h, hx => by
    cases h with
    | cons g1 g2 g3 g4 =>
      rcases List.mem_cons.1 hx with rfl | hx
      · cases l with
        | nil => left; have := g4.head; exact this.symm
        | cons z l => right; have := g4.head; simp only [List.headD_cons] at this; rw [show nx rs x = z from this.symm]; simp
      · rcases g4.nx_mem hx with e | e
        · exact .inl e
        · exact .inr (List.mem_cons_of_mem _ e)
theorem set_nx {rs : List R3} {free : Int} (h0 : 0 ≤ free) (h1 : free < rs.length) (hk : ky rs free = -1) (ht : tk rs free = -1) (v : R3) : (rs.set free.toNat v).set free.toNat (-1, -1, nx rs free) = rs := by
  rw [List.set_set]
  have := set_self h0 h1
  rwa [hk, ht] at this
section
variable {rs : List R3} {free h t : Int} {f l : List Int}
theorem QOK.after (g : QOK rs free h t (free :: f) l) {k d : Int} (hk : 0 ≤ k) (hd : 0 ≤ d) (fr : Bool) : ∃ rs2 h2 t2, pushed rs free h t k d fr = ((rs2, nx rs free), (h2, t2), 0) ∧ QOK rs2 (nx rs free) h2 t2 f (bif fr then free :: l else l ++ [free]) ∧ (∀ x ∈ l, tk rs2 x = tk rs x) ∧ tk rs2 free = d ∧ (fr = true → rs2.set free.toNat (-1, -1, nx rs free) = rs ∧ nx rs2 free = h ∧ h2 = free ∧ t2 = (free :: l).getLastD (-1) ∧ ¬ Held rs2 free) := by
  have hf : free ≠ -1 := by cases g.a.ch; omega
  have hfr := g.a.free_rng.resolve_left hf
  have hle := g.a.le
  have hnl : free ∉ l := fun e => by have := (g.live e).2.2; omega
  have hlt : free.toNat < rs.length := by omega
  have ht1 := g.a.take hk hd
  have hq1 : ∀ v, PCh Lv (rs.set free.toNat v) h l := fun v => g.q.set hfr.1 hfr.2.1 hnl
  have hheld : ∀ w : Int, w ≠ free → ¬ Held (rs.set free.toNat (k, d, w)) free := by
    rintro w hw ⟨j, j0, j1, j2, j3⟩
    rw [List.length_set] at j1
    rw [nx_upd hfr.1 hfr.2.1 j0] at j3
    rw [ky_upd hfr.1 hfr.2.1 j0] at j2
    split at j3
    · exact hw j3
    · rename_i hne
      rw [if_neg hne] at j2
      have := (g.a.nlive j0 j1 j2).2
      rw [j3] at this
      omega
  have htk : ∀ w : Int, ∀ x ∈ l, tk (rs.set free.toNat (k, d, w)) x = tk rs x := fun w x hx => by
    rw [tk_upd hfr.1 hfr.2.1 (g.live hx).1, if_neg (fun e : x = free => hnl (e ▸ hx))]
  have htf : ∀ w : Int, tk (rs.set free.toNat (k, d, w)) free = d := fun w => by rw [tk_upd hfr.1 hfr.2.1 hfr.1, if_pos rfl]
  have hxf : ∀ w : Int, nx (rs.set free.toNat (k, d, w)) free = w := fun w => by rw [nx_upd hfr.1 hfr.2.1 hfr.1, if_pos rfl]
  unfold pushed
  rcases g.ends with ⟨e1, e2, e3⟩ | ⟨e1, e2, e3, e4⟩
  · subst e1
    refine ⟨_, _, _, by simp only [e2, decide_true, cond_true]; rfl, ⟨ht1, ?_, by cases fr <;> rfl⟩, by simp, htf _, fun e => ⟨set_nx hfr.1 hfr.2.1 hfr.2.2.1 hfr.2.2.2 _, by rw [e2]; exact hxf _, rfl, rfl, hheld _ (by omega)⟩⟩
    have e := set_at (rs := rs) (v := (k, d, -1)) hfr.1 hfr.2.1
    have : PCh Lv (rs.set free.toNat (k, d, -1)) free [free] := .cons hfr.1 (by simpa using hfr.2.1) (by rw [e]; exact hk) (by rw [e]; exact .nil)
    cases fr <;> exact this
  · have hlv := g.live e4
    cases fr
    · refine ⟨_, _, _, by simp only [e2, decide_false, cond_false]; rfl, ⟨?_, ?_, ?_⟩, fun x hx => ?_, ?_, by simp⟩
      · have hn := g.a.nlive hlv.1 hlv.2.1 hlv.2.2
        refine ht1.put hlv.1 (by simpa using hlv.2.1) ?_ hlv.2.2 hn.1 (.inr ⟨hfr.1, by simpa using hfr.2.1, ?_⟩)
        · rw [ky_upd hfr.1 hfr.2.1 hlv.1]; split
          · exact hk
          · exact hlv.2.2
        · rw [ky_upd hfr.1 hfr.2.1 hfr.1, if_pos rfl]; exact hk
      · obtain ⟨l', rfl⟩ := snoc_of g.t e1
        simp only [cond_false, List.append_assoc]
        refine PCh.cut (s := []) (show Lv (ky rs t, tk rs t, free) from hlv.2.2) (hq1 _) ?_
        have htn : ¬ free = t := fun e => hnl (e ▸ e4)
        have e := at_upd (rs := rs.set free.toNat (k, d, -1)) (v := (ky rs t, tk rs t, free)) hlv.1 (by simpa using hlv.2.1) hfr.1
        rw [if_neg htn, set_at hfr.1 hfr.2.1] at e
        exact .cons hfr.1 (by simpa using hfr.2.1) (by rw [e]; exact hk) (by rw [e]; exact .nil)
      · exact last_app
      · rw [tk_upd hlv.1 (by simpa using hlv.2.1) (g.live hx).1]
        split
        · rename_i e; rw [e]
        · exact htk _ x hx
      · have htn : ¬ free = t := fun e => hnl (e ▸ e4)
        rw [tk_upd hlv.1 (by simpa using hlv.2.1) hfr.1, if_neg htn]; exact htf _
    · have hll := g.live e3
      have e := set_at (rs := rs) (v := (k, d, h)) hfr.1 hfr.2.1
      have hnh : h ≠ free := fun e => hnl (e ▸ e3)
      have htt : (free :: l).getLastD (-1) = t := by
        obtain ⟨l', rfl⟩ := snoc_of g.t e1
        rw [← List.cons_append]; exact last_app
      refine ⟨_, _, _, by simp only [e2, decide_false, cond_false, cond_true], ⟨?_, ?_, htt⟩, htk _, htf _, fun _ => ⟨set_nx hfr.1 hfr.2.1 hfr.2.2.1 hfr.2.2.2 _, hxf _, rfl, htt.symm, hheld _ hnh⟩⟩
      · have := ht1.put (t := free) (k := k) (d := d) (w := h) hfr.1 (by simpa using hfr.2.1) (by rw [ky_upd hfr.1 hfr.2.1 hfr.1, if_pos rfl]; exact hk) hk hd (.inr ⟨hll.1, by simpa using hll.2.1, by rw [ky_upd hfr.1 hfr.2.1 hll.1, if_neg hnh]; exact hll.2.2⟩)
        rwa [List.set_set] at this
      · exact .cons hfr.1 (by simpa using hfr.2.1) (by rw [e]; exact hk) (by rw [e]; exact hq1 _)
/-- The arena without the way over a place. -/
def cutR (rs : List R3) (l' : List Int) (m : Int) : List R3 := if l' = [] then rs else nxt rs (l'.getLastD (-1)) (nx rs m)
theorem QOK.mid {m : Int} {l' r : List Int} (g : QOK rs free h t f (l' ++ m :: r)) : PCh Lv rs (nx rs m) r ∧ m ∉ l' ∧ m ∉ r ∧ (∀ x ∈ l', x ∉ r) := by
  obtain ⟨a, b, e, hc⟩ := g.q.suffix (x := m) (by simp)
  have hnd := g.q.nodup
  have hnd' := List.nodup_append.1 hnd
  have h1 : m ∉ l' := fun hm => hnd'.2.2 m hm m (by simp) rfl
  have h2 := (List.nodup_cons.1 hnd'.2.1).1
  refine ⟨?_, h1, h2, fun x hx hr => hnd'.2.2 x hx x (by simp [hr]) rfl⟩
  have : PCh Lv rs m (m :: r) := by
    clear hc e
    have : ∀ {i : Int} {l' : List Int}, PCh Lv rs i (l' ++ m :: r) → PCh Lv rs m (m :: r) := by
      intro i l'
      induction l' generalizing i with
      | nil => intro h; cases h with | cons g1 g2 g3 g4 => exact .cons g1 g2 g3 g4
      | cons a l' ih => intro h; cases h with | cons g1 g2 g3 g4 => exact ih g4
    exact this g.q
  cases this with
  | cons g1 g2 g3 g4 => exact g4
theorem QOK.cut {m : Int} {l' r : List Int} (g : QOK rs free h t f (l' ++ m :: r)) : lay rs (l' ++ r) = cutR rs l' m ∧ AOK (cutR rs l' m) free f ∧ PCh Lv (cutR rs l' m) (if l' = [] then nx rs m else h) (l' ++ r) ∧ (cutR rs l' m).length = rs.length ∧ ky (cutR rs l' m) m = ky rs m ∧ nx (cutR rs l' m) m = nx rs m ∧ (∀ x : Int, 0 ≤ x → ky (cutR rs l' m) x = ky rs x ∧ tk (cutR rs l' m) x = tk rs x) := by
  obtain ⟨h1, h2, h3, h4⟩ := g.mid
  unfold cutR
  by_cases he : l' = []
  · subst he
    rw [if_pos rfl, if_pos rfl]
    exact ⟨lay_id h1, g.a, h1, rfl, rfl, rfl, fun x _ => ⟨rfl, rfl⟩⟩
  · simp only [he, if_false]
    obtain ⟨l'', e⟩ := snoc_of (l := l') rfl he
    generalize l'.getLastD (-1) = p at *
    subst e
    have hp := g.live (x := p) (by simp)
    have hm := g.live (x := m) (by simp)
    have hmp : ¬ m = p := fun e => h2 (by simp [e])
    have hn := g.a.nlive hp.1 hp.2.1 hp.2.2
    have hnm := (g.a.nlive hm.1 hm.2.1 hm.2.2).2
    have hq : PCh Lv rs h (l'' ++ p :: (m :: r)) := by have := g.q; rwa [List.append_assoc] at this
    have hr : PCh Lv (nxt rs p (nx rs m)) (nx rs m) r := h1.set hp.1 hp.2.1 (h4 p (by simp))
    have e1 : r.headD (-1) = nx rs m := h1.head
    refine ⟨?_, g.a.put hp.1 hp.2.1 hp.2.2 hp.2.2 hn.1 hnm, ?_, by simp, ?_, ?_, fun x hx => ⟨?_, ?_⟩⟩
    · rw [List.append_assoc, show [p] ++ r = p :: r from rfl, lay_pre hq]
      simp only [lay]
      rw [e1]
      exact lay_id hr
    · rw [List.append_assoc]
      exact PCh.cut (show Lv (ky rs p, tk rs p, nx rs m) from hp.2.2) hq hr
    · unfold nxt; rw [ky_upd hp.1 hp.2.1 hm.1, if_neg hmp]
    · unfold nxt; rw [nx_upd hp.1 hp.2.1 hm.1, if_neg hmp]
    · unfold nxt; rw [ky_upd hp.1 hp.2.1 hx]; split
      · rename_i e; rw [e]
      · rfl
    · unfold nxt; rw [tk_upd hp.1 hp.2.1 hx]; split
      · rename_i e; rw [e]
      · rfl
/-- What stands when a place is out and given back. -/
theorem QOK.gone {m : Int} {l' r : List Int} (g : QOK rs free h t f (l' ++ m :: r)) (hh : ¬ Held (cutR rs l' m) m) : QOK ((cutR rs l' m).set m.toNat (-1, -1, free)) m ((l' ++ r).headD (-1)) ((l' ++ r).getLastD (-1)) (m :: f) (l' ++ r) ∧ ∀ x ∈ l' ++ r, tk ((cutR rs l' m).set m.toNat (-1, -1, free)) x = tk rs x := by
  obtain ⟨h1, h2, h3, h4⟩ := g.mid
  obtain ⟨c1, c2, c3, c4, c5, c6, c7⟩ := g.cut
  have hm := g.live (x := m) (by simp)
  have hmn : m ∉ l' ++ r := by simp [h2, h3]
  have hm1 : m < (cutR rs l' m).length := by rw [c4]; exact hm.2.1
  refine ⟨⟨c2.give hm.1 hm1 (by rw [c5]; exact hm.2.2) (fun j j0 j1 j2 _ j3 => hh ⟨j, j0, j1, j2, j3⟩), ?_, rfl⟩, fun x hx => ?_⟩
  · have e := c3.head
    rw [e]
    exact c3.set hm.1 hm1 hmn
  · have hx0 := (c3.rng x hx).1
    rw [tk_upd hm.1 hm1 hx0, if_neg (fun e : x = m => hmn (e ▸ hx)), (c7 x hx0).2]
/-- Where all that lives stands in the queue, nothing else goes on to a place in it. -/
theorem QOK.notheld {m : Int} {l' r : List Int} (g : QOK rs free h t f (l' ++ m :: r)) (hall : ∀ x : Int, 0 ≤ x → x < rs.length → 0 ≤ ky rs x → x ∈ l' ++ m :: r) : ¬ Held (cutR rs l' m) m := by
  obtain ⟨h1, h2, h3, h4⟩ := g.mid
  obtain ⟨c1, c2, c3, c4, c5, c6, c7⟩ := g.cut
  have hm := g.live (x := m) (by simp)
  rintro ⟨j, j0, j1, j2, j3⟩
  rw [(c7 j j0).1] at j2
  rw [c4] at j1
  have hj := hall j j0 j1 j2
  have : j = m ∨ j ∈ l' ++ r := by simp at hj ⊢; grind
  rcases this with rfl | hj
  · rw [c6] at j3
    have e := h1.head
    rw [j3] at e
    cases r with
    | nil => simp at e; omega
    | cons z r => simp at e; exact h3 (by simp [e])
  · rcases c3.nx_mem hj with e | e
    · rw [j3] at e; omega
    · rw [j3] at e
      have : m ∉ l' ++ r := by simp [h2, h3]
      exact this e
end
end Go.AX
end

section
/- The queue: taking out, in the queue and its document. -/
set_option linter.unusedSimpArgs false
set_option linter.unusedVariables false
namespace Go.AX
open Go

theorem at_mid {l' r : List Int} {m : Int} : Ty.at (Ty.int IntKind.i64) (l' ++ m :: r) l'.length = m := by
  simp [Ty.at, List.getD_eq_getElem?_getD]
theorem at_mid' {l' r : List Int} {p m : Int} : Ty.at (Ty.int IntKind.i64) (l' ++ [p] ++ m :: r) l'.length = p := by
  simp [Ty.at, List.getD_eq_getElem?_getD]
section
variable {rs : List R3} {free h t : Int} {f l' r : List Int} {m : Int}
theorem QOK.out_pre (g : QOK rs free h t f (l' ++ m :: r)) : queue_out ((rs, free), (h, t), l' ++ m :: r, (l'.length : Int)) = (arena_Give ((cutR rs l' m, free), m)).bind (fun x => bif !decide (x.2 = (0 : Int)) then some ((rs, free), (h, t), x.2) else some (x.1, ((l' ++ r).headD (-1), (l' ++ r).getLastD (-1)), 0)) := by
  obtain ⟨h1, h2, h3, h4⟩ := g.mid
  obtain ⟨c1, c2, c3, c4, c5, c6, c7⟩ := g.cut
  have hm := g.live (x := m) (by simp)
  have hle := g.a.le
  have hll := g.len
  have hjl : (l'.length : Int) < ((l' ++ m :: r).length : Int) := by simp; omega
  have hnx : (Ty.at (Ty.pr (Ty.int IntKind.i64) (Ty.pr (Ty.int IntKind.i64) (Ty.int IntKind.i64))) rs m.toNat).2.2 = nx rs m := rfl
  have hr : nx rs m = -1 ↔ r = [] := by
    have e := h1.head
    constructor
    · intro e2
      cases r with
      | nil => rfl
      | cons z r =>
        have := g.live (x := z) (by simp)
        simp at e; omega
    · rintro rfl; exact e.symm
  have ec : cutR rs l' m = if l' = [] then rs else nxt rs (l'.getLastD (-1)) (nx rs m) := rfl
  unfold queue_out queue_out_g
  dsimp only
  rw [CloneR_eq _ (by omega)]
  simp only [cond_b, decide_eq_true_eq, Bool.and_eq_true, Bool.not_eq_true', decide_eq_false_iff_not, Bool.or_eq_true, Bool.not_eq_eq_eq_not, Bool.not_true, Bool.not_false, beq_iff_eq, Option.bind_some, Bool.not_not, decide_eq_true_eq, Decidable.not_not, and_true]
  rw [if_pos (by omega)]
  simp only [Int.toNat_natCast, at_mid, hnx]
  rw [if_pos ⟨hm.1, hm.2.1⟩]
  by_cases he : l' = []
  · subst he
    rw [if_pos rfl] at ec
    have hd : ([] ++ r).headD (-1) = nx rs m := h1.head
    by_cases hn : nx rs m = -1
    · have hr' := hr.1 hn
      subst hr'
      rw [hd, ec]
      have at0 := at_mid (l' := []) (r := []) (m := m)
      simp [hn] at at0 ⊢
      rw [at0]
    · have hne : r ≠ [] := fun e => hn (hr.2 e)
      have hl : ([] ++ r).getLastD (-1) = t := by
        rw [← g.t]
        cases r with
        | nil => exact absurd rfl hne
        | cons z r => simp
      rw [hd, hl, ec]
      have at0 := at_mid (l' := []) (r := r) (m := m)
      simp [hn] at at0 ⊢
      rw [at0]
  · rw [if_neg he] at ec
    obtain ⟨l'', e⟩ := snoc_of (l := l') rfl he
    generalize hp' : l'.getLastD (-1) = p at *
    subst e
    have hp := g.live (x := p) (by simp)
    have hpl : p.toNat < rs.length := by omega
    have hd : (l'' ++ [p] ++ r).headD (-1) = h := by
      rw [c3.head, if_neg he]
    have w1 : IntKind.i64.wrap (((l'' ++ [p]).length : Int) - 1) = l''.length := by
      rw [wrap_i64 (by simp at *; omega)]; simp
    have hj0 : (0 : Int) < ((l'' ++ [p]).length : Int) := by simp
    have hj1 : ¬ ((l'' ++ [p]).length : Int) = 0 := by omega
    have hjm : (l''.length : Int) < ((l'' ++ [p] ++ m :: r).length : Int) := by simp; omega
    have erec : ((Ty.at (Ty.pr (Ty.int IntKind.i64) (Ty.pr (Ty.int IntKind.i64) (Ty.int IntKind.i64))) rs p.toNat).1, (Ty.at (Ty.pr (Ty.int IntKind.i64) (Ty.pr (Ty.int IntKind.i64) (Ty.int IntKind.i64))) rs p.toNat).2.1, nx rs m) = (ky rs p, tk rs p, nx rs m) := rfl
    rw [hd, ec]
    unfold nxt
    by_cases hn : nx rs m = -1
    · have hr' := hr.1 hn
      subst hr'
      have hl : (l'' ++ [p] ++ []).getLastD (-1) = p := by rw [List.append_nil]; exact last_app
      rw [if_pos hn, if_pos hj0]
      simp only [w1]
      rw [if_pos ⟨by omega, hjm⟩]
      simp only [Option.bind_some, w1, Int.toNat_natCast, at_mid']
      rw [if_neg hj1, if_pos ⟨by omega, hjm⟩, if_pos ⟨hp.1, hp.2.1⟩, if_pos hpl]
      simp only [Option.bind_some, Int.toNat_natCast, at_mid]
      rw [if_pos ⟨by omega, hjl⟩, hl]
      rfl
    · have hne : r ≠ [] := fun e => hn (hr.2 e)
      have hl : (l'' ++ [p] ++ r).getLastD (-1) = t := by
        rw [← g.t]
        cases r with
        | nil => exact absurd rfl hne
        | cons z r => simp
      rw [if_neg hn]
      simp only [Option.bind_some, w1, Int.toNat_natCast, at_mid']
      rw [if_neg hj1, if_pos ⟨by omega, hjm⟩, if_pos ⟨hp.1, hp.2.1⟩, if_pos hpl]
      simp only [Option.bind_some, Int.toNat_natCast, at_mid]
      rw [if_pos ⟨by omega, hjl⟩, hl]
      rfl
theorem QOK.without_pre (g : QOK rs free h t f (l' ++ m :: r)) : torporref08_without ((rs, free), (h, t), (l'.length : Int)) = (torporref07_Give ((cutR rs l' m, free), m)).bind (fun x => bif !decide (x.2 = (0 : Int)) then some ((rs, free), (h, t), x.2) else some (x.1, ((l' ++ r).headD (-1), (l' ++ r).getLastD (-1)), 0)) := by
  obtain ⟨h1, h2, h3, h4⟩ := g.mid
  obtain ⟨c1, c2, c3, c4, c5, c6, c7⟩ := g.cut
  have hle := g.a.le
  have hll := g.len
  have hlen : (l' ++ m :: r).length = l'.length + r.length + 1 := by simp; omega
  have w1 : IntKind.i64.wrap ((l'.length : Int) + 1) = ((l'.length + 1 : Nat) : Int) := by rw [wrap_i64 (by omega)]; simp
  have e1 : (l' ++ m :: r).take l'.length = l' := by simp
  have e2 : (l' ++ m :: r).drop (l'.length + 1) = r := by
    rw [List.drop_append]; simp
  have e3 : r.take ((l' ++ m :: r).length - (l'.length + 1)) = r := List.take_of_length_le (by omega)
  unfold torporref08_without torporref08_without_g
  dsimp only
  rw [g.rplaces]
  simp only [Option.bind_some, w1, Int.toNat_natCast, List.drop_zero, Nat.sub_zero, e1, e2, e3, List.nil_append, at_mid]
  simp only [cond_b, decide_eq_true_eq, Bool.and_eq_true, Bool.not_eq_true', decide_eq_false_iff_not, Bool.or_eq_true, Bool.not_eq_eq_eq_not, Bool.not_true, Bool.not_false, beq_iff_eq, Option.bind_some, Bool.not_not, decide_eq_true_eq, Decidable.not_not, and_true]
  rw [if_pos (by omega), if_pos (by omega), if_pos (by simp; omega), if_pos (by simp; omega), Laid_eq _ _ _ (by omega) (by simp; omega) (fun i hi => by
    have := c3.rng i hi
    rw [c4] at this
    exact ⟨this.1, this.2.1⟩), c1]
  simp only [Option.bind_some]
  rw [if_pos (by omega), if_pos (by omega)]
theorem QOK.out_held (g : QOK rs free h t f (l' ++ m :: r)) (hh : Held (cutR rs l' m) m) : queue_out ((rs, free), (h, t), l' ++ m :: r, (l'.length : Int)) = some ((rs, free), (h, t), 8) ∧ torporref08_without ((rs, free), (h, t), (l'.length : Int)) = some ((rs, free), (h, t), 8) := by
  obtain ⟨c1, c2, c3, c4, c5, c6, c7⟩ := g.cut
  have hm := g.live (x := m) (by simp)
  obtain ⟨k1, k2⟩ := Give_held c2 hm.1 (by rw [c4]; exact hm.2.1) (by rw [c5]; exact hm.2.2) hh
  rw [g.out_pre, g.without_pre, k1, k2]
  exact ⟨rfl, rfl⟩
theorem QOK.out_ok (g : QOK rs free h t f (l' ++ m :: r)) (hh : ¬ Held (cutR rs l' m) m) : queue_out ((rs, free), (h, t), l' ++ m :: r, (l'.length : Int)) = some (((cutR rs l' m).set m.toNat (-1, -1, free), m), ((l' ++ r).headD (-1), (l' ++ r).getLastD (-1)), 0) ∧ torporref08_without ((rs, free), (h, t), (l'.length : Int)) = some (((cutR rs l' m).set m.toNat (-1, -1, free), m), ((l' ++ r).headD (-1), (l' ++ r).getLastD (-1)), 0) := by
  obtain ⟨c1, c2, c3, c4, c5, c6, c7⟩ := g.cut
  have hm := g.live (x := m) (by simp)
  obtain ⟨k1, k2⟩ := Give_free c2 hm.1 (by rw [c4]; exact hm.2.1) (by rw [c5]; exact hm.2.2) hh
  rw [g.out_pre, g.without_pre, k1, k2]
  exact ⟨rfl, rfl⟩
end
end Go.AX
end

section
/- The queue and its document answer alike. -/
set_option linter.unusedSimpArgs false
set_option linter.unusedVariables false
namespace Go.AX
open Go

theorem Index_no {T : List Int} {x : Int} (hl : T.length ≤ 1000000) (h : x ∉ T) : Index_int (T, x) = some (-1) := by
  unfold Index_int Index_int_g
  simp only [cond_b, decide_eq_true_eq, Bool.and_eq_true, Bool.not_eq_true', decide_eq_false_iff_not, Bool.or_eq_true, Bool.not_eq_eq_eq_not, Bool.not_true, Bool.not_false, beq_iff_eq, Option.bind_some, Bool.not_not, decide_eq_true_eq, Decidable.not_not, and_true]
  refine LOOP_m (σ := List Int × Int × Int × Int) (fun s => s.1 = T ∧ s.2.1 = x ∧ s.2.2.1 = T.length ∧ 0 ≤ s.2.2.2 ∧ s.2.2.2 ≤ T.length) (fun s => T.length - s.2.2.2.toNat) (fun s => -1) ?_ ⟨rfl, rfl, rfl, by simp, by simp⟩ (by have := big; simp; omega)
  rintro ⟨a, b, c, i⟩ ⟨ha, hb, hc, h0, h1⟩
  dsimp only at *
  subst ha
  subst hb
  subst hc
  have e : i < a.length → b ≠ Ty.at (Ty.int IntKind.i64) a i.toNat := fun g e => h (e ▸ at_mem (T := (Ty.int IntKind.i64)) (by omega))
  ((repeat' (first | (refine StepOK_ite (fun h => ?_) (fun h => ?_)) | (refine StepOK_inr ?_) | (refine StepOK_inl ⟨?_, ?_, ?_⟩))) <;> (try dsimp only) <;> (first | (exfalso; simp only [List.length_cons, List.length_nil] at *; omega) | grind [StepOK, wrap_i64, Prod]))
theorem at_pre {A B : List Int} {x : Int} (h : x ∉ A) {i : Nat} (hi : i < A.length) : Ty.at (Ty.int IntKind.i64) (A ++ x :: B) i ≠ x := by
  have : Ty.at (Ty.int IntKind.i64) (A ++ x :: B) i ∈ A := by
    simp only [Ty.at, List.getD_eq_getElem?_getD]
    rw [List.getElem?_append_left hi, List.getElem?_eq_getElem hi]
    exact List.getElem_mem hi
  exact fun e => h (e ▸ this)
theorem Index_at {A B : List Int} {x : Int} (hl : (A ++ x :: B).length ≤ 1000000) (h : x ∉ A) : Index_int (A ++ x :: B, x) = some (A.length : Int) := by
  unfold Index_int Index_int_g
  simp only [cond_b, decide_eq_true_eq, Bool.and_eq_true, Bool.not_eq_true', decide_eq_false_iff_not, Bool.or_eq_true, Bool.not_eq_eq_eq_not, Bool.not_true, Bool.not_false, beq_iff_eq, Option.bind_some, Bool.not_not, decide_eq_true_eq, Decidable.not_not, and_true]
  have hlen : (A ++ x :: B).length = A.length + B.length + 1 := by simp; omega
  refine LOOP_m (σ := List Int × Int × Int × Int) (s := (A ++ x :: B, x, ((A ++ x :: B).length : Int), 0)) (fun s => s.1 = A ++ x :: B ∧ s.2.1 = x ∧ s.2.2.1 = (A ++ x :: B).length ∧ 0 ≤ s.2.2.2 ∧ s.2.2.2 ≤ A.length) (fun s => A.length - s.2.2.2.toNat) (fun s => (A.length : Int)) ?_ ⟨rfl, rfl, rfl, by simp, by simp⟩ (by have := big; simp; omega)
  rintro ⟨a, b, c, i⟩ ⟨ha, hb, hc, h0, h1⟩
  dsimp only at *
  subst ha
  subst hb
  subst hc
  by_cases hi : i = A.length
  · subst hi
    simp only [Int.toNat_natCast, at_mid]
    rw [if_pos (by omega), if_pos (by omega), if_pos trivial]
    exact StepOK_inr rfl
  · have e := at_pre (B := B) h (i := i.toNat) (by omega)
    rw [if_pos (by omega), if_pos (by omega), if_neg (fun g => e g.symm), wrap_i64 (by omega)]
    exact StepOK_inl ⟨by dsimp only; omega, ⟨rfl, rfl, rfl, by dsimp only; omega, by dsimp only; omega⟩, rfl⟩
section
variable {rs : List R3} {free h t : Int} {f l l' r : List Int} {m : Int}
theorem QOK.pop_none (g : QOK rs free h t f []) : queue_Pop ((rs, free), h, t) = some ((rs, free), (h, t), 0, 7) ∧ torporref08_Pop ((rs, free), h, t) = some ((rs, free), (h, t), 0, 7) := by
  unfold queue_Pop queue_Pop_g torporref08_Pop torporref08_Pop_g
  dsimp only
  rw [g.right, g.rright, g.places, g.rtasks]
  exact ⟨rfl, rfl⟩
theorem QOK.pop_held (g : QOK rs free h t f (m :: r)) (hh : Held rs m) : queue_Pop ((rs, free), h, t) = some ((rs, free), (h, t), 0, 8) ∧ torporref08_Pop ((rs, free), h, t) = some ((rs, free), (h, t), 0, 8) := by
  have e := QOK.out_held (l' := []) g (by simpa [cutR] using hh)
  simp only [List.nil_append, List.length_nil, Int.natCast_zero] at e
  unfold queue_Pop queue_Pop_g torporref08_Pop torporref08_Pop_g
  dsimp only
  rw [g.right, g.rright, g.places, g.rtasks]
  simp only [cond_b, decide_eq_true_eq, Bool.and_eq_true, Bool.not_eq_true', decide_eq_false_iff_not, Bool.or_eq_true, Bool.not_eq_eq_eq_not, Bool.not_true, Bool.not_false, beq_iff_eq, Option.bind_some, Bool.not_not, decide_eq_true_eq, Decidable.not_not, and_true]
  have h1 : ¬ ((m :: r).length : Int) = 0 := by simp; omega
  have h2 : ¬ (((m :: r).map (tk rs)).length : Int) = 0 := by simp; omega
  rw [if_neg h1, if_neg h2]
  simp only [Bool.true_eq_false, if_false]
  rw [e.1, e.2]
  exact ⟨rfl, rfl⟩
theorem QOK.pop_ok (g : QOK rs free h t f (m :: r)) (hh : ¬ Held rs m) : queue_Pop ((rs, free), h, t) = some ((rs.set m.toNat (-1, -1, free), m), (r.headD (-1), r.getLastD (-1)), tk rs m, 0) ∧ torporref08_Pop ((rs, free), h, t) = some ((rs.set m.toNat (-1, -1, free), m), (r.headD (-1), r.getLastD (-1)), tk rs m, 0) := by
  have e := QOK.out_ok (l' := []) g (by simpa [cutR] using hh)
  simp only [List.nil_append, List.length_nil, cutR, if_true, Int.natCast_zero] at e
  have hm := g.live (x := m) (by simp)
  unfold queue_Pop queue_Pop_g torporref08_Pop torporref08_Pop_g
  dsimp only
  rw [g.right, g.rright, g.places, g.rtasks]
  simp only [cond_b, decide_eq_true_eq, Bool.and_eq_true, Bool.not_eq_true', decide_eq_false_iff_not, Bool.or_eq_true, Bool.not_eq_eq_eq_not, Bool.not_true, Bool.not_false, beq_iff_eq, Option.bind_some, Bool.not_not, decide_eq_true_eq, Decidable.not_not, and_true]
  have h1 : ¬ ((m :: r).length : Int) = 0 := by simp; omega
  have h2 : ¬ (((m :: r).map (tk rs)).length : Int) = 0 := by simp; omega
  rw [if_neg h1, if_neg h2]
  simp only [Bool.true_eq_false, if_false]
  rw [e.1, e.2]
  simp only [Option.bind_some]
  constructor
  · simp [Ty.at, tk, hm.1, hm.2.1]
  · simp [Ty.at, tk]
theorem QOK.drop_no (g : QOK rs free h t f l) {x : Int} (hx : x ∉ l.map (tk rs)) : queue_Drop ((rs, free), (h, t), x) = some ((rs, free), (h, t), 7) ∧ torporref08_Drop ((rs, free), (h, t), x) = some ((rs, free), (h, t), 7) := by
  have hl := g.len
  unfold queue_Drop queue_Drop_g torporref08_Drop torporref08_Drop_g
  dsimp only
  rw [g.right, g.rright, g.tasks, g.rtasks]
  constructor
  · simp only [Option.bind_some, Bool.not_true, cond_false]
    rw [Index_no (by simp; omega) hx]
    rfl
  · simp only [cond_b, decide_eq_true_eq, Bool.and_eq_true, Bool.not_eq_true', decide_eq_false_iff_not, Bool.or_eq_true, Bool.not_eq_eq_eq_not, Bool.not_true, Bool.not_false, beq_iff_eq, Option.bind_some, Bool.not_not, decide_eq_true_eq, Decidable.not_not, and_true, Bool.true_eq_false, if_false]
    refine LOOP_m (σ := (Int × Int) × (List R3 × Int) × (Int × Int) × Int × (Int × Int) × List Int) (fun s => s.1.1 = x ∧ s.2.1 = (rs, free) ∧ s.2.2.1 = (h, t) ∧ s.2.2.2.2.2 = l.map (tk rs) ∧ 0 ≤ s.1.2 ∧ s.1.2 ≤ l.length) (fun s => l.length - s.1.2.toNat) (fun s => ((rs, free), (h, t), 7)) ?_ ⟨rfl, rfl, rfl, rfl, by simp, by simp⟩ (by have := big; simp; omega)
    rintro ⟨⟨x', i⟩, a, b, c, d, T⟩ ⟨hx', ha, hb, hT, h0, h1⟩
    dsimp only at *
    subst hx'
    subst ha
    subst hb
    have hTl : T.length = l.length := by rw [hT]; simp
    have e : i < T.length → Ty.at (Ty.int IntKind.i64) T i.toNat ≠ x' := fun gi e => hx (by rw [← hT, ← e]; exact at_mem (T := (Ty.int IntKind.i64)) (by omega))
    ((repeat' (first | (refine StepOK_ite (fun h => ?_) (fun h => ?_)) | (refine StepOK_inr ?_) | (refine StepOK_inl ⟨?_, ?_, ?_⟩))) <;> (try dsimp only) <;> (first | (exfalso; simp only [List.length_cons, List.length_nil] at *; omega) | grind [StepOK, wrap_i64, Prod]))
theorem QOK.drop_at (g : QOK rs free h t f (l' ++ m :: r)) {x : Int} (hm : tk rs m = x) (hx : x ∉ l'.map (tk rs)) : queue_Drop ((rs, free), (h, t), x) = (queue_out ((rs, free), (h, t), l' ++ m :: r, (l'.length : Int))) ∧ torporref08_Drop ((rs, free), (h, t), x) = torporref08_without ((rs, free), (h, t), (l'.length : Int)) := by
  have hl := g.len
  have hlen : (l' ++ m :: r).length = l'.length + r.length + 1 := by simp; omega
  have hT : (l' ++ m :: r).map (tk rs) = l'.map (tk rs) ++ x :: r.map (tk rs) := by rw [← hm]; simp
  have hw : ∃ w, torporref08_without ((rs, free), (h, t), (l'.length : Int)) = some w := by
    by_cases hh : Held (cutR rs l' m) m
    · exact ⟨_, (g.out_held hh).2⟩
    · exact ⟨_, (g.out_ok hh).2⟩
  have hw1 : ∃ w, queue_out ((rs, free), (h, t), l' ++ m :: r, (l'.length : Int)) = some w := by
    by_cases hh : Held (cutR rs l' m) m
    · exact ⟨_, (g.out_held hh).1⟩
    · exact ⟨_, (g.out_ok hh).1⟩
  obtain ⟨w, hw⟩ := hw
  obtain ⟨w1, hw1⟩ := hw1
  unfold queue_Drop queue_Drop_g torporref08_Drop torporref08_Drop_g
  dsimp only
  rw [g.right, g.rright, g.tasks, g.rtasks, g.places, hT]
  constructor
  · simp only [Option.bind_some, Bool.not_true, cond_false]
    rw [Index_at (by rw [← hT]; simp; omega) hx]
    simp only [Option.bind_some, List.length_map]
    have : ¬ (l'.length : Int) < 0 := by omega
    simp only [this, decide_false, cond_false]
    rw [hw1]
    rfl
  · simp only [cond_b, decide_eq_true_eq, Bool.and_eq_true, Bool.not_eq_true', decide_eq_false_iff_not, Bool.or_eq_true, Bool.not_eq_eq_eq_not, Bool.not_true, Bool.not_false, beq_iff_eq, Option.bind_some, Bool.not_not, decide_eq_true_eq, Decidable.not_not, and_true, Bool.true_eq_false, if_false]
    rw [hw]
    have hTl : (l'.map (tk rs) ++ x :: r.map (tk rs)).length = l'.length + r.length + 1 := by rw [← hT]; simp; omega
    refine LOOP_m (σ := (Int × Int) × (List R3 × Int) × (Int × Int) × Int × (Int × Int) × List Int) (s := ((x, 0), (rs, free), (h, t), 0, (0, 0), l'.map (tk rs) ++ x :: r.map (tk rs))) (fun s => s.1.1 = x ∧ s.2.1 = (rs, free) ∧ s.2.2.1 = (h, t) ∧ s.2.2.2.2.2 = l'.map (tk rs) ++ x :: r.map (tk rs) ∧ 0 ≤ s.1.2 ∧ s.1.2 ≤ l'.length) (fun s => l'.length - s.1.2.toNat) (fun s => w) ?_ ⟨rfl, rfl, rfl, rfl, by simp, by simp⟩ (by have := big; simp; omega)
    rintro ⟨⟨x', i⟩, a, b, c, d, T⟩ ⟨hx', ha, hb, hT', h0, h1⟩
    dsimp only at *
    subst hx'
    subst ha
    subst hb
    by_cases hi : i = l'.length
    · subst hi
      have e : Ty.at (Ty.int IntKind.i64) T l'.length = x' := by
        rw [hT']
        have := at_mid (l' := l'.map (tk rs)) (r := r.map (tk rs)) (m := x')
        rwa [List.length_map] at this
      rw [if_pos (by rw [hT']; omega), if_pos (by rw [hT']; omega), if_pos (by rw [hT']; omega), Int.toNat_natCast, if_pos e, hw]
      exact StepOK_inr rfl
    · have e : Ty.at (Ty.int IntKind.i64) T i.toNat ≠ x' := by rw [hT']; exact at_pre hx (by simp; omega)
      rw [if_pos (by rw [hT']; omega), if_pos (by rw [hT']; omega), if_pos (by rw [hT']; omega), if_neg e, wrap_i64 (by omega)]
      exact StepOK_inl ⟨by dsimp only; omega, ⟨rfl, rfl, rfl, hT', by dsimp only; omega, by dsimp only; omega⟩, rfl⟩
theorem QOK.push_bad (g : QOK rs free h t f l) {k d : Int} (hb : k < 0 ∨ d < 0) (fr : Bool) : queue_Push ((rs, free), (h, t), k, d, fr) = some ((rs, free), (h, t), 1) ∧ torporref08_Push ((rs, free), (h, t), k, d, fr) = some ((rs, free), (h, t), 1) := by
  obtain ⟨k1, k2⟩ := Take_bad g.a hb
  unfold queue_Push queue_Push_g torporref08_Push torporref08_Push_g
  dsimp only
  rw [g.right, g.rright, g.rplaces, k1, k2]
  exact ⟨rfl, rfl⟩
theorem QOK.push_full (g : QOK rs free h t f l) {k d : Int} (hk : 0 ≤ k) (hd : 0 ≤ d) (hf : free = -1) (fr : Bool) : queue_Push ((rs, free), (h, t), k, d, fr) = some ((rs, free), (h, t), 6) ∧ torporref08_Push ((rs, free), (h, t), k, d, fr) = some ((rs, free), (h, t), 6) := by
  obtain ⟨k1, k2⟩ := Take_none g.a hk hd hf
  unfold queue_Push queue_Push_g torporref08_Push torporref08_Push_g
  dsimp only
  rw [g.right, g.rright, g.rplaces, k1, k2]
  exact ⟨rfl, rfl⟩
/-- A queue that is not right stays, whatever is asked. -/
theorem Wrong (h1 : queue_Right ((rs, free), h, t) = some false) (h2 : torporref08_Right ((rs, free), h, t) = some false) : (∀ k d fr, queue_Push ((rs, free), (h, t), k, d, fr) = some ((rs, free), (h, t), 1) ∧ torporref08_Push ((rs, free), (h, t), k, d, fr) = some ((rs, free), (h, t), 1)) ∧ (queue_Pop ((rs, free), h, t) = some ((rs, free), (h, t), 0, 1) ∧ torporref08_Pop ((rs, free), h, t) = some ((rs, free), (h, t), 0, 1)) ∧ ∀ x, queue_Drop ((rs, free), (h, t), x) = some ((rs, free), (h, t), 1) ∧ torporref08_Drop ((rs, free), (h, t), x) = some ((rs, free), (h, t), 1) := by
  unfold queue_Push queue_Push_g torporref08_Push torporref08_Push_g queue_Pop queue_Pop_g torporref08_Pop torporref08_Pop_g queue_Drop queue_Drop_g torporref08_Drop torporref08_Drop_g
  dsimp only
  rw [h1, h2]
  exact ⟨fun k d fr => ⟨rfl, rfl⟩, ⟨rfl, rfl⟩, fun x => ⟨rfl, rfl⟩⟩
end
end Go.AX
end

section
/- The queue's laws: answers, pushes, back. -/
set_option linter.unusedSimpArgs false
set_option linter.unusedVariables false
namespace Go.AX
open Go

theorem Q_alive : torporlaw08_alive () = some true := by decide +kernel
theorem first_at {l : List Int} {g : Int → Int} {x : Int} (h : x ∈ l.map g) : ∃ l' m r, l = l' ++ m :: r ∧ g m = x ∧ x ∉ l'.map g := by
  obtain ⟨A, B, e, hn⟩ := List.eq_append_cons_of_mem h
  obtain ⟨l', r', e1, e2, e3⟩ := List.map_eq_append_iff.1 e
  obtain ⟨m, r, e4, e5, e6⟩ := List.map_eq_cons_iff.1 e3
  exact ⟨l', m, r, by rw [e1, e4], e5, by rw [e2]; exact hn⟩
section
variable {rs : List R3} {free h t : Int}
theorem cutR_len {l' : List Int} {m : Int} : (cutR rs l' m).length = rs.length := by unfold cutR; split <;> simp
theorem Ag_pop (hl : rs.length ≤ 1000000) : ∃ a b c d e f, queue_Pop ((rs, free), h, t) = some ((a, b), (c, d), e, f) ∧ torporref08_Pop ((rs, free), h, t) = some ((a, b), (c, d), e, f) ∧ a.length ≤ 1000000 := by
  rcases Q_cases rs free h t hl with ⟨f, l, g⟩ | ⟨h1, h2, h3, h4⟩
  · cases l with
    | nil => exact ⟨_, _, _, _, _, _, g.pop_none.1, g.pop_none.2, hl⟩
    | cons m r =>
      by_cases hh : Held rs m
      · exact ⟨_, _, _, _, _, _, (g.pop_held hh).1, (g.pop_held hh).2, hl⟩
      · exact ⟨_, _, _, _, _, _, (g.pop_ok hh).1, (g.pop_ok hh).2, by simpa using hl⟩
  · have := (Wrong h1 h2).2.1
    exact ⟨_, _, _, _, _, _, this.1, this.2, hl⟩
theorem Ag_drop (hl : rs.length ≤ 1000000) (x : Int) : ∃ a b c d f, queue_Drop ((rs, free), (h, t), x) = some ((a, b), (c, d), f) ∧ torporref08_Drop ((rs, free), (h, t), x) = some ((a, b), (c, d), f) ∧ a.length ≤ 1000000 := by
  rcases Q_cases rs free h t hl with ⟨f, l, g⟩ | ⟨h1, h2, h3, h4⟩
  · by_cases hx : x ∈ l.map (tk rs)
    · obtain ⟨l', m, r, rfl, e, hn⟩ := first_at hx
      obtain ⟨k1, k2⟩ := g.drop_at e hn
      by_cases hh : Held (cutR rs l' m) m
      · exact ⟨_, _, _, _, _, k1.trans (g.out_held hh).1, k2.trans (g.out_held hh).2, hl⟩
      · exact ⟨_, _, _, _, _, k1.trans (g.out_ok hh).1, k2.trans (g.out_ok hh).2, by rw [List.length_set, cutR_len]; exact hl⟩
    · exact ⟨_, _, _, _, _, (g.drop_no hx).1, (g.drop_no hx).2, hl⟩
  · have := (Wrong h1 h2).2.2 x
    exact ⟨_, _, _, _, _, this.1, this.2, hl⟩
theorem Ag_tasks (hl : rs.length ≤ 1000000) : ∃ T, queue_Tasks ((rs, free), h, t) = some T ∧ torporref08_Tasks ((rs, free), h, t) = some T ∧ T.length ≤ 1000000 := by
  rcases Q_cases rs free h t hl with ⟨f, l, g⟩ | ⟨h1, h2, h3, h4⟩
  · exact ⟨_, g.tasks, g.rtasks, by have := g.len; simp; omega⟩
  · exact ⟨_, T_cases h3, rT_cases h4, by simp⟩
theorem Ag_places (hl : rs.length ≤ 1000000) : ∃ T, queue_Places ((rs, free), h, t) = some T ∧ torporref08_Places ((rs, free), h, t) = some T ∧ T.length ≤ 1000000 := by
  rcases Q_cases rs free h t hl with ⟨f, l, g⟩ | ⟨h1, h2, h3, h4⟩
  · exact ⟨_, g.places, g.rplaces, by have := g.len; omega⟩
  · exact ⟨_, h3, h4, by simp⟩
theorem Ag_right (hl : rs.length ≤ 1000000) : ∃ b, queue_Right ((rs, free), h, t) = some b ∧ torporref08_Right ((rs, free), h, t) = some b := by
  rcases Q_cases rs free h t hl with ⟨f, l, g⟩ | ⟨h1, h2, h3, h4⟩
  · exact ⟨_, g.right, g.rright⟩
  · exact ⟨_, h1, h2⟩
theorem QueueAnswers_eq (x : Int) : torporlaw08_QueueAnswers ((rs, free), (h, t), x) = some true := by
  unfold torporlaw08_QueueAnswers torporlaw08_QueueAnswers_g
  dsimp only
  rw [Q_alive]
  simp only [cond_b, decide_eq_true_eq, Bool.and_eq_true, Bool.not_eq_true', decide_eq_false_iff_not, Bool.or_eq_true, Bool.not_eq_eq_eq_not, Bool.not_true, Bool.not_false, beq_iff_eq, Option.bind_some, Bool.not_not, decide_eq_true_eq, Decidable.not_not, and_true, Bool.true_eq_false, if_false]
  by_cases h70 : (70 : Int) < rs.length
  · rw [if_pos h70]
  · rw [if_neg h70]
    have hl : rs.length ≤ 1000000 := by omega
    obtain ⟨a, b, c, d, e, f, k1, k2, k3⟩ := Ag_pop (free := free) (h := h) (t := t) hl
    obtain ⟨a', b', c', d', f', k1', k2', k3'⟩ := Ag_drop (free := free) (h := h) (t := t) hl x
    obtain ⟨T, m1, m2, m3⟩ := Ag_tasks (free := free) (h := h) (t := t) hl
    obtain ⟨P, p1, p2, p3⟩ := Ag_places (free := free) (h := h) (t := t) hl
    obtain ⟨B, q1, q2⟩ := Ag_right (free := free) (h := h) (t := t) hl
    rw [Copy_eq _ _ hl]
    simp only [Option.bind_some, k1, k2, k1', k2', m1, m2, p1, p2, q1, q2, Same_eq _ _ _ _ k3, Same_eq _ _ _ _ k3', Same_eq _ _ _ _ hl, Ints_eq _ _ m3, Ints_eq _ _ p3]
    simp
theorem Ag_push (hl : rs.length ≤ 1000000) (k d : Int) (fr : Bool) : (∃ c, c ≠ 0 ∧ queue_Push ((rs, free), (h, t), k, d, fr) = some ((rs, free), (h, t), c) ∧ torporref08_Push ((rs, free), (h, t), k, d, fr) = some ((rs, free), (h, t), c)) ∨ (∃ f l, QOK rs free h t (free :: f) l ∧ 0 ≤ k ∧ 0 ≤ d ∧ queue_Push ((rs, free), (h, t), k, d, fr) = some (pushed rs free h t k d fr) ∧ torporref08_Push ((rs, free), (h, t), k, d, fr) = some (pushed rs free h t k d fr)) := by
  rcases Q_cases rs free h t hl with ⟨f, l, g⟩ | ⟨h1, h2, h3, h4⟩
  · by_cases hb : k < 0 ∨ d < 0
    · exact .inl ⟨1, by decide, (g.push_bad hb fr).1, (g.push_bad hb fr).2⟩
    · have hk : 0 ≤ k := by omega
      have hd : 0 ≤ d := by omega
      have hg := g
      cases hg.a.ch with
      | nil => exact .inl ⟨6, by decide, (g.push_full hk hd rfl fr).1, (g.push_full hk hd rfl fr).2⟩
      | cons g1 g2 g3 g4 => exact .inr ⟨_, l, g, hk, hd, (g.push hk hd (by omega) fr).1, (g.push hk hd (by omega) fr).2⟩
  · have := (Wrong h1 h2).1 k d fr
    exact .inl ⟨1, by decide, this.1, this.2⟩
theorem QueuePushes_eq (k d e : Int) : torporlaw08_QueuePushes ((rs, free), (h, t), k, d, e) = some true := by
  unfold torporlaw08_QueuePushes torporlaw08_QueuePushes_g
  dsimp only
  rw [Q_alive]
  simp only [cond_b, decide_eq_true_eq, Bool.and_eq_true, Bool.not_eq_true', decide_eq_false_iff_not, Bool.or_eq_true, Bool.not_eq_eq_eq_not, Bool.not_true, Bool.not_false, beq_iff_eq, Option.bind_some, Bool.not_not, decide_eq_true_eq, Decidable.not_not, and_true, Bool.true_eq_false, if_false]
  by_cases h70 : (70 : Int) < rs.length
  · rw [if_pos h70]
  · rw [if_neg h70]
    have hl : rs.length ≤ 1000000 := by omega
    rw [Copy_eq _ _ hl]
    simp only [Option.bind_some]
    generalize hfr : (!decide (e.tmod 2 = 0)) = fr
    rcases Ag_push (free := free) (h := h) (t := t) hl k d fr with ⟨c, hc, k1, k2⟩ | ⟨f, l, g, hk, hd, k1, k2⟩
    · simp only [k1, k2, Option.bind_some, Same_eq _ _ _ _ hl]
      simp [hc]
    · obtain ⟨rs2, h2, t2, e1, g2, ht1, ht2, -⟩ := g.after hk hd fr
      have hl2 : rs2.length ≤ 1000000 := by have := g2.a.le; omega
      have hll := g.len
      have hll2 := g2.len
      have hmap : l.map (tk rs2) = l.map (tk rs) := List.map_congr_left ht1
      have ht := g2.tasks
      have hTl : (l.map (tk rs)).length ≤ 64 := by simpa using hll
      cases fr
      · have he : e.tmod 2 = 0 := by simpa using hfr
        have hT : (l ++ [free]).map (tk rs2) = l.map (tk rs) ++ [d] := by rw [List.map_append, hmap]; simp [ht2]
        simp only [cond_false] at ht
        rw [hT] at ht
        simp only [k1, k2, e1, Option.bind_some, Same_eq _ _ _ _ hl, Same_eq _ _ _ _ hl2, g.tasks, ht, he, List.nil_append, List.length_nil]
        generalize l.map (tk rs) = T at *
        simp only [not_true_eq_false, if_false, and_self, decide_true, if_true, Bool.false_eq_true, Bool.not_true]
        have e3 : (T ++ [d]).length ≤ 1000000 := by simp; omega
        have e4 : (0 + T.length) * 8 ≤ 140737488355328 := by omega
        have e5 : (T.length + [d].length) * 8 ≤ 140737488355328 := by simp; omega
        simp [Ints_eq _ _ e3]
        grind
      · have he : ¬ e.tmod 2 = 0 := by simpa using hfr
        have hT : (free :: l).map (tk rs2) = d :: l.map (tk rs) := by rw [List.map_cons, hmap, ht2]
        simp only [cond_true] at ht
        rw [hT] at ht
        simp only [k1, k2, e1, Option.bind_some, Same_eq _ _ _ _ hl, Same_eq _ _ _ _ hl2, g.tasks, ht, he, List.cons_append, List.nil_append]
        generalize l.map (tk rs) = T at *
        have e3 : (d :: T).length ≤ 1000000 := by simp; omega
        simp [Ints_eq _ _ e3]
        grind
theorem wrap_u8 {x : Int} (h0 : 0 ≤ x) (h1 : x < 256) : IntKind.i64.wrap x = x := wrap_i64 (by omega)
theorem QueueBack_eq {k d : Int} (hk0 : 0 ≤ k) (hk1 : k < 256) (hd0 : 0 ≤ d) (hd1 : d < 256) : torporlaw08_QueueBack ((rs, free), (h, t), k, d) = some true := by
  unfold torporlaw08_QueueBack torporlaw08_QueueBack_g
  dsimp only
  rw [Q_alive, wrap_u8 hk0 hk1, wrap_u8 hd0 hd1]
  simp only [cond_b, decide_eq_true_eq, Bool.and_eq_true, Bool.not_eq_true', decide_eq_false_iff_not, Bool.or_eq_true, Bool.not_eq_eq_eq_not, Bool.not_true, Bool.not_false, beq_iff_eq, Option.bind_some, Bool.not_not, decide_eq_true_eq, Decidable.not_not, and_true, Bool.true_eq_false, if_false]
  by_cases h70 : (70 : Int) < rs.length
  · rw [if_pos h70]
  · rw [if_neg h70]
    have hl : rs.length ≤ 1000000 := by omega
    rcases Ag_push (free := free) (h := h) (t := t) hl k d true with ⟨c, hc, k1, k2⟩ | ⟨f, l, g, hk, hd, k1, k2⟩
    · simp only [k1, Option.bind_some, Same_eq _ _ _ _ hl]
      simp [hc]
    · obtain ⟨rs2, h2, t2, e1, g2, ht1, ht2, hb⟩ := g.after hk hd true
      obtain ⟨b1, b2, b3, b4, b5⟩ := hb rfl
      have hl2 : rs2.length ≤ 1000000 := by have := g2.a.le; omega
      simp only [cond_true] at g2
      have hp := (g2.pop_ok b5).1
      rw [b1, ht2, g.q.head, g.t] at hp
      simp only [k1, e1, Option.bind_some, hp, g2.right, Same_eq _ _ _ _ hl]
      simp
end
end Go.AX
end

section
/- The queue's laws: turns. -/
set_option linter.unusedSimpArgs false
set_option linter.unusedVariables false
namespace Go.AX
open Go

theorem bind_ex {α β : Type} {x : Option α} {k : α → Option β} {y : Option β} (Q : α → Prop) (h : ∃ o, x = some o ∧ Q o) (hk : ∀ o, Q o → k o = y) : x.bind k = y := by
  obtain ⟨o, rfl, hq⟩ := h; exact hk o hq
def ints (n : Nat) : List Int := (List.range n).map (fun i : Nat => (i : Int))
def mkOK (n : Nat) : Bool := match torporref07_Make (n : Int) with
  | some ((fr, st), rs) => decide (st = 0) && decide (rs.length = n) && decide (wlk Emp rs fr = some (ints n)) && (List.range n).all (fun i => decide (ky rs (i : Int) = -1))
  | none => false
theorem mk_all : ∀ n : _root_.Fin 20, mkOK n.val = true := by decide +kernel
theorem Make_ok {n : Int} (h0 : 0 ≤ n) (h1 : n < 20) : ∃ rs fr f, torporref07_Make n = some ((fr, 0), rs) ∧ QOK rs fr (-1) (-1) f [] ∧ (f.length : Int) = n ∧ ∀ x : Int, 0 ≤ x → x < rs.length → ¬ 0 ≤ ky rs x := by
  obtain ⟨k, rfl⟩ : ∃ k : Nat, n = k := ⟨n.toNat, (toN_cast h0).symm⟩
  have h := mk_all ⟨k, by omega⟩
  unfold mkOK at h
  cases hm : torporref07_Make (k : Int) with
  | none => rw [hm] at h; cases h
  | some v =>
    obtain ⟨⟨fr, st⟩, rs⟩ := v
    rw [hm] at h
    simp only [Bool.and_eq_true, decide_eq_true_eq, List.all_eq_true, List.mem_range] at h
    obtain ⟨⟨⟨h2, h3⟩, h4⟩, h5⟩ := h
    subst h2
    have hneg : ∀ x : Int, 0 ≤ x → x < rs.length → ¬ 0 ≤ ky rs x := fun x x0 x1 => by
      have := h5 x.toNat (by omega)
      rw [toN_cast x0] at this
      omega
    refine ⟨rs, fr, ints k, rfl, ⟨.mk' (by omega) (wlk_iff.1 h4) (fun i i0 i1 i2 => ?_) (fun i i0 i1 i2 => absurd i2 (hneg i i0 i1)), .nil, rfl⟩, by simp [ints], hneg⟩
    exact List.mem_map.2 ⟨i.toNat, List.mem_range.2 (by omega), toN_cast i0⟩
/-- How the turns stand. -/
structure TOK (n i : Int) (rs : List R3) (free h t : Int) (L : List Int) (f l : List Int) : Prop where
  q : QOK rs free h t f l
  m : l.map (tk rs) = L
  c : (f.length : Int) + l.length = n
  all : ∀ x : Int, 0 ≤ x → x < rs.length → 0 ≤ ky rs x → x ∈ l
  nd : L.Nodup
  lt : ∀ x ∈ L, 0 ≤ x ∧ x < i
section
variable {n i : Int} {rs : List R3} {free h t : Int} {L f l : List Int}
theorem TOK.len (g : TOK n i rs free h t L f l) : (L.length : Int) = n - f.length := by
  have := g.c; rw [← g.m, List.length_map]; omega
theorem TOK.next (g : TOK n i rs free h t L f l) : TOK n (i + 1) rs free h t L f l := ⟨g.q, g.m, g.c, g.all, g.nd, fun x hx => by have := g.lt x hx; omega⟩
theorem TOK.push (g : TOK n i rs free h t L (free :: f) l) (hi : 0 ≤ i) (fr : Bool) : ∃ rs2 free2 h2 t2 l2, queue_Push ((rs, free), (h, t), 3, i, fr) = some ((rs2, free2), (h2, t2), 0) ∧ TOK n (i + 1) rs2 free2 h2 t2 (bif fr then i :: L else L ++ [i]) f l2 := by
  have hf : free ≠ -1 := by cases g.q.a.ch; omega
  obtain ⟨rs2, h2, t2, e1, g2, ht1, ht2, -⟩ := g.q.after (k := 3) (d := i) (by decide) hi fr
  refine ⟨rs2, _, h2, t2, _, ((g.q.push (by decide) hi hf fr).1).trans (congrArg some e1), g2, ?_, ?_, ?_, ?_, ?_⟩
  · have := List.map_congr_left ht1
    cases fr <;> simp only [cond_true, cond_false, List.map_append, List.map_cons, List.map_nil, this, ht2, g.m]
  · have := g.c
    cases fr <;> simp at this ⊢ <;> omega
  · intro x x0 x1 x2
    have hm := @AOK.mem _ _ _ g2.a x
    have hm0 := @AOK.mem _ _ _ g.q.a x
    have hlen : rs2.length = rs.length := by
      have e := congrArg (fun z => z.1.1.length) e1
      dsimp only at e
      rw [← e]; unfold pushed
      cases decide (h = -1) <;> cases fr <;> simp
    rw [hlen] at x1 hm
    by_cases hx : x ∈ free :: f
    · rcases List.mem_cons.1 hx with rfl | hx
      · cases fr <;> simp
      · have := (hm.1 hx).2.2; omega
    · have : 0 ≤ ky rs x := by
        by_cases hk : 0 ≤ ky rs x
        · exact hk
        · exact absurd (hm0.2 ⟨x0, x1, by omega⟩) hx
      have := g.all x x0 x1 this
      cases fr <;> simp [this]
  · have hni : i ∉ L := fun hm => by have := g.lt i hm; omega
    cases fr
    · simp only [cond_false]
      exact List.nodup_append.2 ⟨g.nd, by simp, fun a ha b hb => by simp at hb; rw [hb]; exact fun e => hni (e ▸ ha)⟩
    · exact List.nodup_cons.2 ⟨hni, g.nd⟩
  · intro x hx
    have : x = i ∨ x ∈ L := by cases fr <;> simp at hx <;> grind
    rcases this with rfl | hx
    · omega
    · have := g.lt x hx; omega
theorem TOK.gone {m : Int} {l' r : List Int} (g : TOK n i rs free h t L f (l' ++ m :: r)) : ¬ Held (cutR rs l' m) m ∧ TOK n (i + 1) ((cutR rs l' m).set m.toNat (-1, -1, free)) m ((l' ++ r).headD (-1)) ((l' ++ r).getLastD (-1)) (l'.map (tk rs) ++ r.map (tk rs)) (m :: f) (l' ++ r) := by
  have hh := g.q.notheld g.all
  obtain ⟨g2, ht⟩ := g.q.gone hh
  have hm := g.m
  have hnd := g.nd
  have hlt := g.lt
  rw [← hm] at hnd hlt
  simp only [List.map_append, List.map_cons] at hnd hlt
  refine ⟨hh, g2, ?_, ?_, ?_, ?_, ?_⟩
  · rw [List.map_congr_left ht, List.map_append]
  · have := g.c; simp at this ⊢; omega
  · intro x x0 x1 x2
    have hmem := @AOK.mem _ _ _ g2.a x
    obtain ⟨c1, c2, c3, c4, c5, c6, c7⟩ := g.q.cut
    have hml := g.q.live (x := m) (by simp)
    rw [List.length_set, c4] at x1
    have hne : x ≠ m := by
      rintro rfl
      rw [ky_upd hml.1 (by rw [c4]; exact hml.2.1) hml.1, if_pos rfl] at x2
      exact absurd (show (0 : Int) ≤ -1 from x2) (by decide)
    rw [ky_upd hml.1 (by rw [c4]; exact hml.2.1) x0, if_neg hne, (c7 x x0).1] at x2
    have := g.all x x0 x1 x2
    simp at this ⊢
    grind
  · have := List.nodup_append.1 hnd
    have h2 := List.nodup_cons.1 this.2.1
    exact List.nodup_append.2 ⟨this.1, h2.2, fun a ha b hb => this.2.2 a ha b (by simp [hb])⟩
  · intro x hx
    have := hlt x (by simp at hx ⊢; grind)
    omega
end
end Go.AX
end

section
/- The queue's laws: turns, the walk over them. -/
set_option linter.unusedSimpArgs false
set_option linter.unusedVariables false
namespace Go.AX
open Go

theorem sub_mid {A B : List Int} {x : Int} : ([] ++ ((A ++ x :: B).drop 0).take (A.length - 0)) ++ ((A ++ x :: B).drop (A.length + 1)).take ((A ++ x :: B).length - (A.length + 1)) = A ++ B := by
  have e2 : (A ++ x :: B).drop (A.length + 1) = B := by rw [List.drop_append]; simp
  rw [List.drop_zero, Nat.sub_zero, show (A ++ x :: B).take A.length = A by simp, e2, List.take_of_length_le (by simp; omega)]
  simp
abbrev TSt := (List Int × Int × Int) × (List R3 × Int) × (Int × Int) × List Int
abbrev TOut := (Int × (List R3 × Int) × (Int × Int) × List Int) ⊕ Bool
def TInv (B : List Int) (n : Int) (s : TSt) : Prop := s.1.1 = B ∧ s.1.2.1 = n ∧ 0 ≤ s.1.2.2 ∧ s.1.2.2 ≤ B.length ∧ ∃ f l, TOK n s.1.2.2 s.2.1.1 s.2.1.2 s.2.2.1.1 s.2.2.1.2 s.2.2.2 f l
def TFin (n : Int) (o : TOut) : Prop := ∃ rs free h t L f l i, o = .inl (n, (rs, free), (h, t), L) ∧ TOK n i rs free h t L f l
theorem QueueTurns_eq {x : Int} (B : List Int) (hx0 : 0 ≤ x) (hx1 : x < 256) : torporlaw08_QueueTurns (x, B) = some true := by
  unfold torporlaw08_QueueTurns torporlaw08_QueueTurns_g
  dsimp only
  rw [Q_alive, wrap_u8 hx0 hx1]
  simp only [cond_b, decide_eq_true_eq, Bool.and_eq_true, Bool.not_eq_true', decide_eq_false_iff_not, Bool.or_eq_true, Bool.not_eq_eq_eq_not, Bool.not_true, Bool.not_false, beq_iff_eq, Option.bind_some, Bool.not_not, decide_eq_true_eq, Decidable.not_not, and_true, Bool.true_eq_false, if_false]
  by_cases h60 : (60 : Int) < B.length
  · rw [if_pos h60]
  · rw [if_neg h60]
    have hn0 : 0 ≤ x.tmod 20 := Int.tmod_nonneg 20 hx0
    have hn1 : x.tmod 20 < 20 := Int.tmod_lt_of_pos x (by decide)
    generalize x.tmod 20 = n at *
    obtain ⟨rs, fr, f, e1, e2, e3, e4⟩ := Make_ok hn0 hn1
    rw [if_pos (by decide), e1]
    simp only [Option.bind_some, not_true_eq_false, if_false]
    refine bind_ex (TFin n) (LOOP_ex (σ := TSt) (O := TOut) (TInv B n) (fun s => B.length - s.1.2.2.toNat) (TFin n) ?_ ⟨rfl, rfl, by simp, by simp, f, [], e2, rfl, by simpa using e3, fun x x0 x1 x2 => absurd x2 (e4 x x0 x1), by simp, by simp⟩ (by have := big; simp; omega)) ?_
    · rintro ⟨⟨b, n', i⟩, ⟨rs, free⟩, ⟨h, t⟩, L⟩ ⟨hb, hn, h0, h1, f, l, g⟩
      dsimp only at *
      subst hb
      subst hn
      have hlen := g.len
      have hll := g.q.len
      have hLl : L.length = l.length := by rw [← g.m]; simp
      by_cases hi : i < b.length
      · right
        have hfin : ∀ rs2 free2 h2 t2 L2 f2 l2, TOK n' (i + 1) rs2 free2 h2 t2 L2 f2 l2 → (b.length - ((b, n', i + 1), (rs2, free2), (h2, t2), L2).1.2.2.toNat < b.length - i.toNat ∧ TInv b n' ((b, n', i + 1), (rs2, free2), (h2, t2), L2)) := fun rs2 free2 h2 t2 L2 f2 l2 g2 => ⟨by dsimp only; omega, rfl, rfl, by dsimp only; omega, by dsimp only; omega, f2, l2, g2⟩
        rw [if_pos hi, if_pos ⟨h0, hi⟩, wrap_i64 (by omega)]
        simp only [if_pos (show 0 ≤ i ∧ i < (b.length : Int) from ⟨h0, hi⟩), show ¬ (4 : Int) = 0 by decide, not_false_eq_true, if_true]
        generalize Ty.at (.int .u8) b i.toNat = v
        have w : IntKind.i64.wrap (i + 1) = i + 1 := wrap_i64 (by omega)
        by_cases hv : v.tmod 4 < 2
        · rw [if_pos hv]
          cases f with
          | nil =>
            have hfr : free = -1 := by
              have := g.q.a.ch
              cases this; rfl
            rw [(g.q.push_full (by decide) h0 hfr _).1]
            simp at hlen
            have : ¬ (L.length : Int) < n' := by omega
            simp only [Option.bind_some, this]
            exact ⟨_, rfl, hfin _ _ _ _ _ _ _ g.next⟩
          | cons f0 f =>
            have hfr : f0 = free := by
              have := g.q.a.ch.head
              simpa using this
            subst hfr
            obtain ⟨rs2, free2, h2, t2, l2, k1, g2⟩ := g.push h0 (decide (v.tmod 4 = 1))
            simp at hlen
            have : (L.length : Int) < n' := by omega
            have e5 : ([i].length + L.length) * 8 ≤ 140737488355328 := by simp; omega
            have e6 : (L.length + [i].length) * 8 ≤ 140737488355328 := by simp; omega
            rw [k1]
            simp only [Option.bind_some, this]
            by_cases hv1 : v.tmod 4 = 1
            · simp only [hv1, if_pos e5, if_true, decide_true, beq_self_eq_true, Bool.true_eq_false, if_false, not_true_eq_false, Bool.not_eq_true] at g2 ⊢
              exact ⟨_, rfl, hfin _ _ _ _ _ _ _ g2⟩
            · simp only [hv1, if_pos e6, if_true, decide_true, beq_self_eq_true, Bool.true_eq_false, if_false, not_true_eq_false, Bool.not_eq_true] at g2 ⊢
              exact ⟨_, rfl, hfin _ _ _ _ _ _ _ g2⟩
        · rw [if_neg hv]
          by_cases hv2 : v.tmod 4 = 2
          · rw [if_pos hv2]
            cases l with
            | nil =>
              have hL : L = [] := List.eq_nil_of_length_eq_zero (by simpa using hLl)
              subst hL
              rw [g.q.pop_none.1]
              refine ⟨_, rfl, ?_⟩
              dsimp only
              rw [w]
              exact hfin _ _ _ _ _ _ _ g.next
            | cons m r =>
              obtain ⟨hh, g2⟩ := TOK.gone (l' := []) g
              simp only [cutR, if_true, List.nil_append, List.map_nil] at hh g2
              rw [(g.q.pop_ok hh).1]
              have hL : L = tk rs m :: r.map (tk rs) := g.m.symm
              have hrl : (r.map (tk rs)).length = r.length := by simp
              generalize r.map (tk rs) = T at *
              subst hL
              have e7 : ([] : List Int) ++ (((tk rs m :: T).drop (1 : Int).toNat).take ((tk rs m :: T).length - (1 : Int).toNat)) = T := by simp
              have e8 : (0 : Int) < ((tk rs m :: T).length : Int) := by simp
              have e9 : Ty.at (Ty.int IntKind.i64) (tk rs m :: T) (0 : Int).toNat = tk rs m := rfl
              simp only [Option.bind_some, e8, e9, e7]
              simp
              refine ⟨_, _, _, _, _, _, _, _, ⟨by omega, ⟨by omega, by simp at hll; omega⟩, ⟨rfl, rfl, rfl⟩, ⟨rfl, rfl⟩, ⟨rfl, rfl⟩, rfl⟩, ?_⟩
              have := hfin _ _ _ _ _ _ _ g2
              simp at this
              rw [w]
              exact this
          · rw [if_neg hv2]
            generalize IntKind.i64.wrap (IntKind.u8.wrap (v.tdiv 4)) = d
            rw [Has_eq _ _ (by omega)]
            by_cases hd : d ∈ L
            · rw [← g.m] at hd
              obtain ⟨l', m, r, rfl, e, hn⟩ := first_at hd
              obtain ⟨hh, g2⟩ := TOK.gone g
              rw [((g.q.drop_at e hn).1).trans (g.q.out_ok hh).1]
              rw [g.m] at hd
              have hL : L = l'.map (tk rs) ++ d :: r.map (tk rs) := by rw [← g.m, ← e]; simp
              have hnd := g.nd
              rw [hL] at hnd
              have hd2 : d ∉ r.map (tk rs) := (List.nodup_cons.1 (List.nodup_append.1 hnd).2.1).1
              have hAl : (l'.map (tk rs)).length + (r.map (tk rs)).length + 1 = L.length := by rw [hL]; simp; omega
              have hL64 : L.length ≤ 64 := by omega
              simp only [Option.bind_some, hd, decide_true, beq_self_eq_true, Bool.true_eq_false, if_false]
              generalize l'.map (tk rs) = A at *
              generalize r.map (tk rs) = B' at *
              generalize (cutR rs l' m).set m.toNat (-1, -1, free) = rs2 at *
              generalize (l' ++ r).headD (-1) = h2 at *
              generalize (l' ++ r).getLastD (-1) = t2 at *
              refine ⟨_, LOOP_m (σ := (List Int × Int × Int × Int × Int × Int) × (List R3 × Int) × (Int × Int) × List Int × (List R3 × Int) × Int × Int) (s := ((b, n', i, d, 0, 0), (rs, free), (h, t), L, (rs2, m), h2, t2)) (fun s => s.1.1 = b ∧ s.1.2.1 = n' ∧ s.1.2.2.1 = i ∧ s.1.2.2.2.1 = d ∧ s.1.2.2.2.2.1 = 0 ∧ s.2.2.2.2 = ((rs2, m), h2, t2) ∧ 0 ≤ s.1.2.2.2.2.2 ∧ ((s.1.2.2.2.2.2 ≤ A.length ∧ s.2.2.2.1 = A ++ d :: B') ∨ (s.2.2.2.1 = A ++ B' ∧ s.1.2.2.2.2.2 ≤ A.length + B'.length + 1))) (fun s => A.length + B'.length + 2 - s.1.2.2.2.2.2.toNat) (fun s => (Sum.inl ((b, n', i + 1), (rs2, m), (h2, t2), A ++ B') : TSt ⊕ TOut)) ?_ ⟨rfl, rfl, rfl, rfl, rfl, rfl, by simp, .inl ⟨by simp, hL⟩⟩ (by have := big; simp; omega), hfin _ _ _ _ _ _ _ g2⟩
              rintro ⟨⟨a1, a2, a3, a4, a5, j⟩, a7, a8, X, a9⟩ ⟨c1, c2, c3, c4, c5, c6, j0, c7⟩
              dsimp only at *
              subst c1
              subst c2
              subst c3
              subst c4
              subst c5
              subst c6
              rcases c7 with ⟨j1, rfl⟩ | ⟨rfl, j1⟩
              · have hXl : (A ++ a4 :: B').length = A.length + B'.length + 1 := by simp; omega
                have wj : IntKind.i64.wrap (j + 1) = j + 1 := wrap_i64 (by omega)
                rw [if_pos (by omega), if_pos rfl, if_pos (by omega), if_pos (by omega)]
                by_cases hj : j = A.length
                · subst hj
                  have wA : ((A.length : Int) + 1).toNat = A.length + 1 := by omega
                  have hs := sub_mid (A := A) (B := B') (x := a4)
                  simp only [wj, wA, Int.toNat_natCast, at_mid]
                  rw [if_pos trivial, if_pos (by omega), if_pos (by omega), if_pos (by simp; omega), if_pos (by simp; omega), hs]
                  exact StepOK_inl ⟨by dsimp only; omega, ⟨rfl, rfl, rfl, rfl, rfl, rfl, by dsimp only; omega, .inr ⟨rfl, by dsimp only; omega⟩⟩, rfl⟩
                · rw [if_neg (at_pre hn (by omega)), wj]
                  exact StepOK_inl ⟨by dsimp only; omega, ⟨rfl, rfl, rfl, rfl, rfl, rfl, by dsimp only; omega, .inl ⟨by dsimp only; omega, rfl⟩⟩, rfl⟩
              · by_cases hj : j < ((A ++ B').length : Int)
                · have hne : Ty.at (Ty.int IntKind.i64) (A ++ B') j.toNat ≠ a4 := fun e => by
                    have := at_mem (T := (Ty.int IntKind.i64)) (l := A ++ B') (n := j.toNat) (by omega)
                    rw [e] at this
                    rcases List.mem_append.1 this with h' | h'
                    · exact hn h'
                    · exact hd2 h'
                  have wj : IntKind.i64.wrap (j + 1) = j + 1 := wrap_i64 (by omega)
                  have hXl : (A ++ B').length = A.length + B'.length := by simp
                  rw [if_pos hj, if_pos rfl, if_pos (by omega), if_pos (by omega), if_neg hne, wj]
                  exact StepOK_inl ⟨by dsimp only; omega, ⟨rfl, rfl, rfl, rfl, rfl, rfl, by dsimp only; omega, .inr ⟨rfl, by dsimp only; omega⟩⟩, rfl⟩
                · rw [if_neg hj, w]
                  exact StepOK_inr rfl
            · rw [← g.m] at hd
              rw [(g.q.drop_no hd).1]
              rw [g.m] at hd
              simp only [Option.bind_some, hd, decide_false, show ¬ (7 : Int) = 0 by decide, beq_self_eq_true, Bool.not_false, Bool.not_true, if_false, Bool.false_eq_true, Bool.true_eq_false]
              refine ⟨_, LOOP_m (σ := (List Int × Int × Int × Int × Int × Int) × (List R3 × Int) × (Int × Int) × List Int × (List R3 × Int) × Int × Int) (fun s => s.1.1 = b ∧ s.1.2.1 = n' ∧ s.1.2.2.1 = i ∧ s.1.2.2.2.2.1 = 7 ∧ s.2.2.2 = (L, (rs, free), h, t)) (fun s => 0) (fun s => (Sum.inl ((b, n', i + 1), (rs, free), (h, t), L) : TSt ⊕ TOut)) ?_ ⟨rfl, rfl, rfl, rfl, rfl⟩ (by have := big; simp; omega), hfin _ _ _ _ _ _ _ g.next⟩
              rintro ⟨⟨a1, a2, a3, a4, a5, a6⟩, a7, a8, a9⟩ ⟨c1, c2, c3, c4, c5⟩
              dsimp only at *
              subst c1
              subst c2
              subst c3
              subst c4
              subst c5
              have w1 : IntKind.i64.wrap (a3 + 1) = a3 + 1 := wrap_i64 (by omega)
              simp only [w1]
              ((repeat' (first | (refine StepOK_ite (fun h => ?_) (fun h => ?_)) | (refine StepOK_inr ?_) | (refine StepOK_inl ⟨?_, ?_, ?_⟩))) <;> (try dsimp only) <;> (first | (exfalso; simp only [List.length_cons, List.length_nil] at *; omega) | grind [StepOK, wrap_i64, Prod]))
      · left
        rw [if_neg hi]
        exact ⟨_, rfl, _, _, _, _, _, _, _, _, rfl, g⟩
    · rintro o ⟨rs, free, h, t, L, f, l, i, rfl, g⟩
      dsimp only
      have hlen := g.len
      have hll := g.q.len
      have hfl := g.q.a.ch.len
      have hle := g.q.a.le
      have hLl : L.length = l.length := by rw [← g.m]; simp
      rw [g.q.right, g.q.tasks, g.m, Free_eq g.q.a]
      simp only [Option.bind_some]
      rw [Ints_eq _ _ (by omega), wrap_i64 (by omega)]
      simp
      omega
end Go.AX
end

section
/- The queue's laws, as their rows want them. -/
set_option linter.unusedSimpArgs false
set_option linter.unusedVariables false
namespace Go.AX
open Go

abbrev AllOf (ts : List (Nat × SK)) (g : Val (StK.den ⟨ts, []⟩) → Option Bool) : Prop := ∀ x : Val (SK.denL (tsL ts)), SK.okL (tsL ts) x → g (mk2 x ()) = some true
theorem QueueAnswers_true : AllOf sg_torporlaw08_QueueAnswers.a.ts torporlaw08_QueueAnswers := by
  rintro ⟨⟨rs, free⟩, ⟨h, t⟩, k⟩ _
  exact QueueAnswers_eq k
theorem QueuePushes_true : AllOf sg_torporlaw08_QueuePushes.a.ts torporlaw08_QueuePushes := by
  rintro ⟨⟨rs, free⟩, ⟨h, t⟩, k, d, e⟩ _
  exact QueuePushes_eq k d e
theorem u8_of {n : Int} (h : (Lit.int .u8 n).wf = true) : 0 ≤ n ∧ n < 256 := by
  simp only [Lit.wf, Bool.and_eq_true, decide_eq_true_eq] at h
  have e1 : IntKind.u8.min = 0 := by decide
  have e2 : IntKind.u8.max = 255 := by decide
  rw [e1, e2] at h
  omega
theorem QueueBack_true : AllOf sg_torporlaw08_QueueBack.a.ts torporlaw08_QueueBack := by
  rintro ⟨⟨rs, free⟩, ⟨h, t⟩, k, d⟩ hx
  obtain ⟨_, _, hx, _⟩ := hx
  obtain ⟨h1, h2, _⟩ := hx
  have h1 := u8_of (n := k) h1
  have h2 := u8_of (n := d) h2
  exact QueueBack_eq h1.1 h1.2 h2.1 h2.2
theorem QueueTurns_true : AllOf sg_torporlaw08_QueueTurns.a.ts torporlaw08_QueueTurns := by
  rintro ⟨n, B⟩ hx
  obtain ⟨h1, _⟩ := hx
  have h1 := u8_of (n := n) h1
  exact QueueTurns_eq B h1.1 h1.2
end Go.AX
end
