/- The law SemaNormal, in plain terms: part one. -/
import Derived.Test.YtbflhammcjihgaaGreatGqSemaNormal
import Derived.Test.YtbflhammcjihgaaGreatGeB
set_option linter.unusedSimpArgs false
set_option linter.unusedVariables false
set_option linter.unusedSectionVars false
set_option maxRecDepth 100000
section

end
section
namespace Go.AX
open Go
abbrev R3 := Int × Int × Int
theorem big : 1000000000000 < FUEL := by decide
theorem drop_at {T : Ty} {l : List T.den} {i : Nat} (h : i < l.length) : l.drop i = Ty.at T l i :: l.drop (i + 1) := by rw [at_get h]; exact List.drop_eq_getElem_cons h
theorem toN1 {i : Int} (h : 0 ≤ i) : (i + 1).toNat = i.toNat + 1 := by omega
theorem Has_eq (l : List Int) (n : Int) (hl : l.length ≤ 1000000) : rf7_Has (l, n) = some (decide (n ∈ l)) := by
 unfold rf7_Has rf7_Has_g
 refine (LOOP_m (fun s => s.1 = l ∧ s.2.1 = n ∧ 0 ≤ s.2.2 ∧ s.2.2 ≤ (l.length : Int)) (fun s => l.length - s.2.2.toNat) (fun s => decide (n ∈ l.drop s.2.2.toNat)) ?_ ⟨rfl, rfl, by simp, by simp⟩ (by have := big; simp; omega)).trans (by simp)
 rintro ⟨a, b, i⟩ ⟨rfl, rfl, h0, h1⟩
 dsimp only at *
 simp only [cq1]
 (repeat' (first | (refine StepOK_ite (fun h => ?_) (fun h => ?_)) | (refine StepOK_inr ?_) | (refine StepOK_inl ⟨?_, ?_, ?_⟩)))
 all_goals try dsimp only
 ·rename_i h2 h3
  rw [drop_at (T := (Ty.int IntKind.i64)) (by omega)]; simp [← h]
 ·rw [wrap_i64 (by omega)]; omega
 ·rw [wrap_i64 (by omega)]; exact ⟨rfl, rfl, by omega, by omega⟩
 ·rename_i h2 h3
  rw [wrap_i64 (by omega), toN1 h0, drop_at (T := (Ty.int IntKind.i64)) (l := a) (i := i.toNat) (by omega)]
  have h' : ¬ b = Ty.at (Ty.int IntKind.i64) a i.toNat := fun e => h e.symm
  simp [h']
 ·omega
 ·rw [List.drop_of_length_le (by omega)]; simp
theorem Ints_eq (a b : List Int) (hl : a.length ≤ 1000000) : rf1_Ints (a, b) = some (decide (a = b)) := by
 unfold rf1_Ints rf1_Ints_g
 simp only [cq1]
 by_cases hlen : a.length = b.length
 ·rw [if_neg (by simp [hlen])]
  refine (LOOP_m (fun s => s.1 = a ∧ s.2.1 = b ∧ 0 ≤ s.2.2 ∧ s.2.2 ≤ (a.length : Int)) (fun s => a.length - s.2.2.toNat) (fun s => decide (a.drop s.2.2.toNat = b.drop s.2.2.toNat)) ?_ ⟨rfl, rfl, by simp, by simp⟩ (by have := big; simp; omega)).trans (by simp)
  rintro ⟨a', b', i⟩ ⟨rfl, rfl, h0, h1⟩
  dsimp only at *
  (repeat' (first | (refine StepOK_ite (fun h => ?_) (fun h => ?_)) | (refine StepOK_inr ?_) | (refine StepOK_inl ⟨?_, ?_, ?_⟩)))
  all_goals try dsimp only
  ·rw [drop_at (T := (Ty.int IntKind.i64)) (l := a') (by omega), drop_at (T := (Ty.int IntKind.i64)) (l := b') (by omega)]; simp only [List.cons.injEq]; rw [eq_comm, decide_eq_false_iff_not]; exact fun e => h e.1
  ·rw [wrap_i64 (by omega)]; omega
  ·rw [wrap_i64 (by omega)]; exact ⟨rfl, rfl, by omega, by omega⟩
  ·rw [wrap_i64 (by omega), toN1 h0, drop_at (T := (Ty.int IntKind.i64)) (l := a') (i := i.toNat) (by omega), drop_at (T := (Ty.int IntKind.i64)) (l := b') (i := i.toNat) (by omega)]
   have h' : Ty.at (Ty.int IntKind.i64) a' i.toNat = Ty.at (Ty.int IntKind.i64) b' i.toNat := Decidable.not_not.1 h
   simp [h']
  ·omega
  ·omega
  ·rw [List.drop_of_length_le (by omega), List.drop_of_length_le (by omega)]; simp
 ·rw [if_pos (by omega)]
  have : a ≠ b := fun e => hlen (by rw [e])
  simp [this]
end Go.AX
end
section
namespace Go.AX
open Go
theorem nodup_le : ∀ {m : Nat} {l : List Int}, l.Nodup → (∀ x ∈ l, 0 ≤ x ∧ x < m) → l.length ≤ m
 | 0, l, _, h => by
  cases l with
  | nil => simp
  | cons x r => have := h x (by simp); omega
 | m + 1, l, hn, h => by
  have h1 : (l.erase (m : Int)).length ≤ m := nodup_le (hn.erase _) fun x hx => by
   have h2 := h x (List.mem_of_mem_erase hx)
   have h3 : x ≠ m := ((List.Nodup.mem_erase_iff hn).1 hx).1
   omega
  have := List.length_erase (a := (m : Int)) (l := l)
  split at this <;> omega
inductive PCh (p : R3 → Prop) (rs : List R3) : Int → List Int → Prop where
 | nil : PCh p rs (-1) []
 | cons {i : Int} {r : List Int} : 0 ≤ i → i < rs.length → p (Ty.at t3 rs i.toNat) → PCh p rs (Ty.at t3 rs i.toNat).2.2 r → PCh p rs i (i :: r)
section
variable {p : R3 → Prop} {rs : List R3}
theorem PCh.det : ∀ {i : Int} {r r' : List Int}, PCh p rs i r → PCh p rs i r' → r = r'
 | _, [], r', h, h' => by
  cases h
  cases h' with
  | nil => rfl
  | cons h1 => omega
 | i, x :: r, r', h, h' => by
  cases h with
  | cons h1 h2 h3 h4 =>
   cases h' with
   | nil => omega
   | cons g1 g2 g3 g4 => rw [PCh.det h4 g4]
theorem PCh.suffix : ∀ {i : Int} {r : List Int} {x : Int}, PCh p rs i r → x ∈ r → ∃ a b, r = a ++ x :: b ∧ PCh p rs x (x :: b)
 | i, [], x, _, hx => by cases hx
 | i, y :: r, x, h, hx => by
  cases h with
  | cons h1 h2 h3 h4 =>
   rcases List.mem_cons.1 hx with rfl | hx
   ·exact ⟨[], r, rfl, .cons h1 h2 h3 h4⟩
   ·obtain ⟨a, b, e, hc⟩ := h4.suffix hx
    exact ⟨_ :: a, b, by rw [e]; rfl, hc⟩
theorem PCh.nodup : ∀ {i : Int} {r : List Int}, PCh p rs i r → r.Nodup
 | i, [], _ => List.nodup_nil
 | i, y :: r, h => by
  have hh := h
  cases h with
  | cons h1 h2 h3 h4 =>
   refine List.nodup_cons.2 ⟨fun hm => ?_, h4.nodup⟩
   obtain ⟨a, b, e, hc⟩ := h4.suffix hm
   have := hh.det hc
   simp only [List.cons.injEq, true_and] at this
   have hl := congrArg List.length e
   rw [this] at hl
   simp at hl
   omega
theorem PCh.rng : ∀ {i : Int} {r : List Int}, PCh p rs i r → ∀ x ∈ r, 0 ≤ x ∧ x < rs.length ∧ p ((Ty.at t3 rs x.toNat))
 | i, [], _ => by simp
 | i, y :: r, h => by
  cases h with
  | cons h1 h2 h3 h4 =>
   intro x hx
   rcases List.mem_cons.1 hx with rfl | hx
   ·exact ⟨h1, h2, h3⟩
   ·exact h4.rng x hx
theorem PCh.len {i : Int} {r : List Int} (h : PCh p rs i r) : r.length ≤ rs.length := nodup_le h.nodup fun x hx => ⟨(h.rng x hx).1, (h.rng x hx).2.1⟩
end
def chn (p : R3 → Prop) [DecidablePred p] (rs : List R3) : Nat → Int → Option (List Int)
 | 0, i => if i = -1 then some [] else none
 | n + 1, i => if i = -1 then some [] else if 0 ≤ i ∧ i < rs.length ∧ p (Ty.at t3 rs i.toNat) then (chn p rs n (Ty.at t3 rs i.toNat).2.2).map (i :: ·) else none
def wlk (p : R3 → Prop) [DecidablePred p] (rs : List R3) (i : Int) : Option (List Int) := chn p rs rs.length i
section
variable {p : R3 → Prop} [DecidablePred p] {rs : List R3}
theorem chn_ok : ∀ {n : Nat} {i : Int} {l : List Int}, chn p rs n i = some l → PCh p rs i l
 | 0, i, l, h => by
  simp only [chn] at h
  split at h
  ·rename_i hi; cases h; subst hi; exact .nil
  ·cases h
 | n + 1, i, l, h => by
  simp only [chn] at h
  split at h
  ·rename_i hi; cases h; subst hi; exact .nil
  ·split at h
   ·rename_i hc
    obtain ⟨m, h1, rfl⟩ := Option.map_eq_some_iff.1 h
    exact .cons hc.1 hc.2.1 hc.2.2 (chn_ok h1)
   ·cases h
theorem chn_of : ∀ {n : Nat} {i : Int} {l : List Int}, PCh p rs i l → l.length ≤ n → chn p rs n i = some l
 | 0, i, [], h, _ => by cases h; simp [chn]
 | 0, i, _ :: _, h, hl => by simp at hl
 | n + 1, i, [], h, _ => by cases h; simp [chn]
 | n + 1, i, x :: l, h, hl => by
  cases h with
  | cons h1 h2 h3 h4 =>
   simp only [chn]
   rw [if_neg (by omega), if_pos ⟨h1, h2, h3⟩, chn_of h4 (by simpa using hl)]; rfl
theorem wlk_iff {i : Int} {l : List Int} : wlk p rs i = some l ↔ PCh p rs i l := ⟨chn_ok, fun h => chn_of h h.len⟩
theorem wlk_end : wlk p rs (-1) = some [] := wlk_iff.2 .nil
theorem wlk_step {i : Int} (h1 : 0 ≤ i) (h2 : i < rs.length) (h3 : p (Ty.at t3 rs i.toNat)) : wlk p rs i = (wlk p rs (Ty.at t3 rs i.toNat).2.2).map (i :: ·) := by
 cases h : wlk p rs (Ty.at t3 rs i.toNat).2.2 with
 | some l => rw [wlk_iff.2 (.cons h1 h2 h3 (wlk_iff.1 h))]; rfl
 | none =>
  cases h' : wlk p rs i with
  | none => rfl
  | some l =>
   cases wlk_iff.1 h' with
   | nil => omega
   | cons _ _ _ g => rw [wlk_iff.2 g] at h; cases h
theorem wlk_none {i : Int} (h0 : ¬ i = -1) (h : ¬ (0 ≤ i ∧ i < rs.length ∧ p (Ty.at t3 rs i.toNat))) : wlk p rs i = none := by
 cases h' : wlk p rs i with
 | none => rfl
 | some l =>
  cases wlk_iff.1 h' with
  | nil => exact absurd rfl h0
  | cons h1 h2 h3 _ => exact absurd ⟨h1, h2, h3⟩ h
structure Gone (p : R3 → Prop) (rs : List R3) (st : Int) (acc : List Int) (i : Int) : Prop where
 c : ∀ s, PCh p rs i s → PCh p rs st (acc ++ s)
 d : acc.Nodup
 r : ∀ x ∈ acc, 0 ≤ x ∧ x < rs.length
theorem Gone.start {i : Int} : Gone p rs i [] i := ⟨fun s h => h, List.nodup_nil, fun x h => by cases h⟩
theorem Gone.le {st i : Int} {acc : List Int} (g : Gone p rs st acc i) : acc.length ≤ rs.length := nodup_le g.d g.r
theorem Gone.next {st i : Int} {acc : List Int} (g : Gone p rs st acc i) (h1 : 0 ≤ i) (h2 : i < rs.length) (h3 : p (Ty.at t3 rs i.toNat)) (h4 : i ∉ acc) : Gone p rs st (acc ++ [i]) (Ty.at t3 rs i.toNat).2.2 := by
 refine ⟨fun s hs => ?_, ?_, fun x hx => ?_⟩
 ·rw [List.append_assoc]; exact g.c _ (.cons h1 h2 h3 hs)
 ·exact List.nodup_append.2 ⟨g.d, by simp, fun a ha b hb => by simp only [List.mem_cons, List.not_mem_nil, or_false] at hb; rw [hb]; exact fun e => h4 (e ▸ ha)⟩
 ·rcases List.mem_append.1 hx with hx | hx
  ·exact g.r x hx
  ·simp only [List.mem_cons, List.not_mem_nil, or_false] at hx; subst hx; exact ⟨h1, h2⟩
structure GoneL (p : R3 → Prop) (rs : List R3) (st : Int) (acc : List Int) (i : Int) : Prop where
 c : ∀ s, PCh p rs i s → PCh p rs st (acc ++ s)
 le : acc.length ≤ rs.length
theorem GoneL.start {i : Int} : GoneL p rs i [] i := ⟨fun s h => h, Nat.zero_le _⟩
theorem GoneL.next {st i : Int} {acc : List Int} (g : GoneL p rs st acc i) (h1 : 0 ≤ i) (h2 : i < rs.length) (h3 : p (Ty.at t3 rs i.toNat)) (h4 : ¬ acc.length = rs.length) : GoneL p rs st (acc ++ [i]) (Ty.at t3 rs i.toNat).2.2 := by
 have := g.le
 refine ⟨fun s hs => ?_, by simp; omega⟩
 rw [List.append_assoc]; exact g.c _ (.cons h1 h2 h3 hs)
theorem GoneL.full {st i : Int} {acc : List Int} (g : GoneL p rs st acc i) (h : acc.length = rs.length) (h0 : ¬ i = -1) : wlk p rs i = none := by
 cases h' : wlk p rs i with
 | none => rfl
 | some l =>
  have hc := wlk_iff.1 h'
  have hn := (g.c _ hc).len
  cases hc with
  | nil => exact absurd rfl h0
  | cons => simp at hn; omega
theorem Gone.twice {st i : Int} {acc : List Int} (g : Gone p rs st acc i) (h : i ∈ acc) : wlk p rs i = none := by
 cases h' : wlk p rs i with
 | none => rfl
 | some l =>
  have hc := wlk_iff.1 h'
  have hn := (g.c _ hc).nodup
  cases hc with
  | nil => have := g.r _ h; omega
  | cons => exact absurd rfl ((List.nodup_append.1 hn).2.2 i h i (by simp))
def wres (p : R3 → Prop) [DecidablePred p] (rs : List R3) (acc : List Int) (i : Int) : Bool × List Int := match wlk p rs i with | some s => (true, acc ++ s) | none => (false, [])
theorem wres_end {acc : List Int} : wres p rs acc (-1) = (true, acc) := by simp [wres, wlk_end]
theorem wres_none {acc : List Int} {i : Int} (h : wlk p rs i = none) : wres p rs acc i = (false, []) := by simp [wres, h]
theorem wres_step {acc : List Int} {i : Int} (h1 : 0 ≤ i) (h2 : i < rs.length) (h3 : p (Ty.at t3 rs i.toNat)) : wres p rs (acc ++ [i]) (Ty.at t3 rs i.toNat).2.2 = wres p rs acc i := by
 simp only [wres, wlk_step h1 h2 h3]
 cases wlk p rs (Ty.at t3 rs i.toNat).2.2 <;> simp
end
end Go.AX
end
section
namespace Go.AX
open Go
abbrev Emp (r : R3) : Prop := r.1 = -1 ∧ r.2.1 = -1
theorem empty_eq (a b c : Int) : arena_empty (a, b, c) = some (decide (a = -1 ∧ b = -1)) := by
 unfold arena_empty arena_empty_g
 simp only [cq1]
 by_cases h : a = -1 <;> simp [h]
theorem list_eq (rs : List R3) (free : Int) (hl : rs.length ≤ 1000000) : arena_list (rs, free) = some (wres Emp rs [] free) := by
 unfold arena_list arena_list_g
 refine LOOP_m (σ := Int × (List R3 × Int) × List Int) (fun s => s.2.1.1 = rs ∧ s.2.1.2 = free ∧ GoneL Emp rs free s.2.2 s.1) (fun s => rs.length + 1 - s.2.2.length) (fun s => wres Emp rs s.2.2 s.1) ?_ ⟨rfl, rfl, .start⟩ (by have := big; simp; omega)
 rintro ⟨i, ⟨a, b⟩, acc⟩ ⟨rfl, rfl, g⟩
 dsimp only at *
 have hle := g.le
 simp only [cq1, empty_eq]
 ((repeat' (first | (refine StepOK_ite (fun h => ?_) (fun h => ?_)) | (refine StepOK_inr ?_) | (refine StepOK_inl ⟨?_, ?_, ?_⟩))) <;> (try dsimp only) <;> (first | (exfalso; simp only [List.length_cons, List.length_nil] at *; omega) | grind [StepOK, wrap_i64, wres_none, wlk_none, wres_end, GoneL.full, GoneL.next, wres_step]))
theorem walk_eq (rs : List R3) (free : Int) (hl : rs.length ≤ 1000000) : rf7_walk (rs, free) = some (wres Emp rs [] free) := by
 unfold rf7_walk rf7_walk_g
 refine LOOP_m (σ := Int × (List R3 × Int) × List Int) (fun s => s.2.1.1 = rs ∧ s.2.1.2 = free ∧ Gone Emp rs free s.2.2 s.1) (fun s => rs.length + 1 - s.2.2.length) (fun s => wres Emp rs s.2.2 s.1) ?_ ⟨rfl, rfl, .start⟩ (by have := big; simp; omega)
 rintro ⟨i, ⟨a, b⟩, acc⟩ ⟨rfl, rfl, g⟩
 dsimp only at *
 have hle := g.le
 rw [Has_eq _ _ (by omega)]
 simp only [cq1]
 ((repeat' (first | (refine StepOK_ite (fun h => ?_) (fun h => ?_)) | (refine StepOK_inr ?_) | (refine StepOK_inl ⟨?_, ?_, ?_⟩))) <;> (try dsimp only) <;> (first | (exfalso; simp only [List.length_cons, List.length_nil] at *; omega) | grind [StepOK, wrap_i64, wres_none, wlk_none, wres_end, Gone.twice, Gone.next, wres_step, Gone.le]))
theorem marks_eq (n : Nat) (l : List Int) (hn : n ≤ 1000000) (hl : l.length ≤ 1000000) (hr : ∀ x ∈ l, 0 ≤ x ∧ x < n) : ∃ m : List Bool, arena_marks ((n : Int), l) = some m ∧ m.length = n ∧ ∀ i, i < n → Ty.at .boo m i = decide ((i : Int) ∈ l) := by
 unfold arena_marks arena_marks_g
 simp only [cq1]
 rw [if_pos (by omega)]
 refine LOOP_ex (σ := (List Int × Int × Int) × List Bool) (O := List Bool) (fun s => s.1.1 = l ∧ s.1.2.1 = l.length ∧ 0 ≤ s.1.2.2 ∧ s.1.2.2 ≤ l.length ∧ s.2.length = n ∧ ∀ i, i < n → Ty.at .boo s.2 i = decide ((i : Int) ∈ l.take s.1.2.2.toNat)) (fun s => l.length - s.1.2.2.toNat) (fun m => m.length = n ∧ ∀ i, i < n → Ty.at .boo m i = decide ((i : Int) ∈ l)) ?_ ?_ ?_
 ·rintro ⟨⟨a, b, i⟩, m⟩ ⟨ha, hb, h0, h1, h2, h3⟩
  dsimp only at *
  subst ha
  subst hb
  by_cases h : i < (a.length : Int)
  ·right
   have hlt : i.toNat < a.length := by omega
   have hx := hr _ (at_mem (T := (Ty.int IntKind.i64)) hlt)
   rw [if_pos h, if_pos (by omega), if_pos (by rw [h2]; exact hx), if_pos (by rw [h2]; exact (Int.toNat_lt hx.1).2 hx.2), wrap_i64 (by omega)]
   refine ⟨_, rfl, by dsimp only; omega, rfl, rfl, by dsimp only; omega, by dsimp only; omega, by simp [h2], fun j hj => ?_⟩
   dsimp only
   rw [toN1 h0, List.take_add_one, List.getElem?_eq_getElem hlt, ← at_get (T := (Ty.int IntKind.i64)) hlt]
   generalize Ty.at (Ty.int IntKind.i64) a i.toNat = x at *
   simp only [Ty.at, List.getD_eq_getElem?_getD, List.getElem?_set, Option.toList_some, List.mem_append, List.mem_cons, List.not_mem_nil, or_false]
   have h4 := h3 j hj
   simp only [Ty.at, List.getD_eq_getElem?_getD] at h4
   split
   ·rename_i he
    have : (j : Int) = x := by omega
    rw [if_pos (by omega)]
    simp [this]
   ·rename_i he
    rw [h4]
    have : ¬ (j : Int) = x := fun e => he (by omega)
    simp [this]
  ·left
   rw [if_neg h]
   refine ⟨_, rfl, h2, fun j hj => ?_⟩
   rw [h3 j hj, List.take_of_length_le (by omega)]
 ·refine ⟨rfl, rfl, by simp, by simp, by simp, fun i hi => ?_⟩
  simp [Ty.at, List.getD_eq_getElem?_getD, hi]
 ·have := big; simp; omega
end Go.AX
end
section
namespace Go.AX
open Go
open Classical in
noncomputable def allF (P : Nat → Prop) (n i : Nat) : Bool := decide (∀ j, j < n → i ≤ j → P j)
theorem allF_step {P : Nat → Prop} {n i : Nat} (h : P i) : allF P n (i + 1) = allF P n i := by
 unfold allF
 congr 1
 apply propext
 constructor
 ·intro g j h1 h2
  by_cases e : i = j
  ·exact e ▸ h
  ·exact g j h1 (by omega)
 ·exact fun g j h1 h2 => g j h1 (by omega)
theorem allF_end {P : Nat → Prop} {n i : Nat} (h : n ≤ i) : allF P n i = true := by
 simp only [allF, decide_eq_true_eq]
 intro j h1 h2; omega
theorem allF_no {P : Nat → Prop} {n i : Nat} (h : i < n) (g : ¬ P i) : allF P n i = false := by
 simp only [allF, decide_eq_false_iff_not]
 exact fun k => g (k i h (Nat.le_refl i))
def RLl (rs : List R3) (l : List Int) (i : Nat) : Prop := 0 ≤ (Ty.at t3 rs i).1 ∧ 0 ≤ (Ty.at t3 rs i).2.1 ∧ ((Ty.at t3 rs i).2.2 = -1 ∨ (0 ≤ (Ty.at t3 rs i).2.2 ∧ (Ty.at t3 rs i).2.2 < rs.length ∧ (Ty.at t3 rs i).2.2 ∉ l))
def FitR (rs : List R3) (l : List Int) (i : Nat) : Prop := (i : Int) ∈ l ∨ RLl rs l i
theorem FitR_in {rs : List R3} {l : List Int} {i : Nat} (h : (i : Int) ∈ l) : FitR rs l i := .inl h
theorem FitR_out {rs : List R3} {l : List Int} {i : Nat} (h : (i : Int) ∉ l) : FitR rs l i ↔ RLl rs l i := ⟨fun g => g.resolve_left h, .inr⟩
theorem toN_cast {i : Int} (h : 0 ≤ i) : ((i.toNat : Nat) : Int) = i := Int.toNat_of_nonneg h
theorem mk_at {l : List Int} {m : List Bool} {n : Nat} (hm : ∀ i, i < n → Ty.at .boo m i = decide ((i : Int) ∈ l)) {i : Int} (h0 : 0 ≤ i) (h1 : i < n) : (Ty.at .boo m i.toNat = true) = (i ∈ l) := by
 rw [hm _ (by omega), toN_cast h0]; simp
noncomputable def arOK (rs : List R3) (free : Int) : Bool := match wlk Emp rs free with | some l => decide (rs.length ≤ 64) && allF (FitR rs l) rs.length 0 | none => false
theorem aRight_eq (rs : List R3) (free : Int) (hl : rs.length ≤ 1000000) : arena_Right (rs, free) = some (arOK rs free) := by
 unfold arena_Right arena_Right_g arOK
 dsimp only
 rw [list_eq rs free hl]
 simp only [cq1]
 unfold wres
 cases hw : wlk Emp rs free with
 | none => simp
 | some l =>
  have hc := wlk_iff.1 hw
  obtain ⟨m, hm1, hm2, hm3⟩ := marks_eq rs.length l hl (Nat.le_trans hc.len hl) (fun x hx => ⟨(hc.rng x hx).1, (hc.rng x hx).2.1⟩)
  simp only [List.nil_append, if_true]
  by_cases h64 : (64 : Int) < rs.length
  ·rw [if_pos h64]
   have : ¬ rs.length ≤ 64 := by omega
   simp [this]
  ·rw [if_neg h64, hm1]
   have : rs.length ≤ 64 := by omega
   simp only [Option.bind_some, this, decide_true, Bool.true_and]
   refine (LOOP_m (σ := (List R3 × Int × Int) × List Bool) (fun s => s.1.1 = rs ∧ s.1.2.1 = rs.length ∧ 0 ≤ s.1.2.2 ∧ s.1.2.2 ≤ rs.length ∧ s.2 = m) (fun s => rs.length - s.1.2.2.toNat) (fun s => allF (FitR rs l) rs.length s.1.2.2.toNat) ?_ ⟨rfl, rfl, by simp, by simp, rfl⟩ (by have := big; simp; omega))
   rintro ⟨⟨a, b, i⟩, mm⟩ ⟨ha, hb, h0, h1, h2⟩
   dsimp only at *
   subst ha
   subst h2
   subst hb
   have e1 : i < (a.length : Int) → (Ty.at .boo mm i.toNat = true) = ((i.toNat : Int) ∈ l) := fun h => by rw [toN_cast h0]; exact mk_at hm3 h0 (by omega)
   have e2 : 0 ≤ (Ty.at t3 a i.toNat).2.2 → (Ty.at t3 a i.toNat).2.2 < (a.length : Int) → (Ty.at .boo mm (Ty.at t3 a i.toNat).2.2.toNat = true) = ((Ty.at t3 a i.toNat).2.2 ∈ l) := fun g h => mk_at hm3 g h
   have e3 := toN1 h0
   ((repeat' (first | (refine StepOK_ite (fun h => ?_) (fun h => ?_)) | (refine StepOK_inr ?_) | (refine StepOK_inl ⟨?_, ?_, ?_⟩))) <;> (try dsimp only) <;> (first | (exfalso; simp only [List.length_cons, List.length_nil] at *; omega) | grind [StepOK, wrap_i64, allF_step, allF_end, allF_no, FitR_in, FitR_out, RLl]))
theorem rRight_eq (rs : List R3) (free : Int) (hl : rs.length ≤ 1000000) : rf7_Right (rs, free) = some (arOK rs free) := by
 unfold rf7_Right rf7_Right_g arOK
 dsimp only
 rw [walk_eq rs free hl]
 simp only [cq1]
 unfold wres
 by_cases h64 : (64 : Int) < rs.length
 ·rw [if_pos h64]
  have : ¬ rs.length ≤ 64 := by omega
  cases wlk Emp rs free <;> simp [this]
 ·rw [if_neg h64]
  have : rs.length ≤ 64 := by omega
  cases hw : wlk Emp rs free with
  | none => simp
  | some l =>
   have hc := wlk_iff.1 hw
   have hll := hc.len
   simp only [List.nil_append, Bool.true_eq_false, if_false, this, decide_true, Bool.true_and]
   refine (LOOP_m (σ := Int × (List R3 × Int) × List Int) (fun s => s.2.1.1 = rs ∧ 0 ≤ s.1 ∧ s.1 ≤ rs.length ∧ s.2.2 = l) (fun s => rs.length - s.1.toNat) (fun s => allF (FitR rs l) rs.length s.1.toNat) ?_ ⟨rfl, by simp, by simp, rfl⟩ (by have := big; simp; omega))
   rintro ⟨i, ⟨a, b⟩, mm⟩ ⟨ha, h0, h1, h2⟩
   dsimp only at *
   subst ha
   subst h2
   have e3 := toN1 h0
   have e4 := toN_cast h0
   have e5 : (-1 : Int) ∉ mm := fun h => by have := (hc.rng _ h).1; omega
   rw [Has_eq _ _ (by omega), Has_eq _ _ (by omega)]
   simp only [cq1]
   ((repeat' (first | (refine StepOK_ite (fun h => ?_) (fun h => ?_)) | (refine StepOK_inr ?_) | (refine StepOK_inl ⟨?_, ?_, ?_⟩))) <;> (try dsimp only) <;> (first | (exfalso; simp only [List.length_cons, List.length_nil] at *; omega) | grind [StepOK, wrap_i64, allF_step, allF_end, allF_no, FitR_in, FitR_out, RLl]))
end Go.AX
end
section
namespace Go.AX
open Go
def ky (rs : List R3) (i : Int) : Int := (Ty.at t3 rs i.toNat).1
def tk (rs : List R3) (i : Int) : Int := (Ty.at t3 rs i.toNat).2.1
def nx (rs : List R3) (i : Int) : Int := (Ty.at t3 rs i.toNat).2.2
structure AOK (rs : List R3) (free : Int) (f : List Int) : Prop where
 le : rs.length ≤ 64
 ch : PCh Emp rs free f
 fit : ∀ i, i < rs.length → FitR rs f i
theorem AOK.eq {rs : List R3} {free : Int} {f : List Int} (h : AOK rs free f) : arOK rs free = true := by
 unfold arOK
 rw [wlk_iff.2 h.ch]
 simp only [h.le, decide_true, Bool.true_and]
 simp only [allF, decide_eq_true_eq]
 exact fun j h1 _ => h.fit j h1
theorem AOK.of {rs : List R3} {free : Int} (h : arOK rs free = true) : ∃ f, AOK rs free f := by
 unfold arOK at h
 cases hw : wlk Emp rs free with
 | none => rw [hw] at h; cases h
 | some l =>
  rw [hw] at h
  simp only [Bool.and_eq_true, decide_eq_true_eq] at h
  refine ⟨l, h.1, wlk_iff.1 hw, fun i hi => ?_⟩
  have := h.2
  simp only [allF, decide_eq_true_eq] at this
  exact this i hi (Nat.zero_le _)
section
variable {rs : List R3} {free : Int} {f : List Int}
theorem AOK.right (h : AOK rs free f) : arena_Right (rs, free) = some true := by
 rw [aRight_eq _ _ (by have := h.le; omega), h.eq]
theorem AOK.rright (h : AOK rs free f) : rf7_Right (rs, free) = some true := by
 rw [rRight_eq _ _ (by have := h.le; omega), h.eq]
theorem Right_cases (rs : List R3) (free : Int) (hl : rs.length ≤ 1000000) : (∃ f, AOK rs free f) ∨ (arena_Right (rs, free) = some false ∧ rf7_Right (rs, free) = some false) := by
 rw [aRight_eq _ _ hl, rRight_eq _ _ hl]
 cases h : arOK rs free with
 | true => exact .inl (AOK.of h)
 | false => exact .inr ⟨rfl, rfl⟩
theorem AOK.mem (h : AOK rs free f) {i : Int} : i ∈ f ↔ 0 ≤ i ∧ i < rs.length ∧ ky rs i < 0 := by
 constructor
 ·intro hi
  have := h.ch.rng i hi
  exact ⟨this.1, this.2.1, by rw [ky, this.2.2.1]; decide⟩
 ·rintro ⟨h0, h1, h2⟩
  rcases h.fit i.toNat (by omega) with h3 | h3
  ·rwa [toN_cast h0] at h3
  ·exact absurd h3.1 (Int.not_le.2 h2)
theorem AOK.nlive (h : AOK rs free f) {i : Int} (h0 : 0 ≤ i) (h1 : i < rs.length) (h2 : 0 ≤ ky rs i) : 0 ≤ tk rs i ∧ (nx rs i = -1 ∨ (0 ≤ nx rs i ∧ nx rs i < rs.length ∧ 0 ≤ ky rs (nx rs i))) := by
 rcases h.fit i.toNat (by omega) with h3 | h3
 ·rw [toN_cast h0, h.mem] at h3; omega
 ·refine ⟨h3.2.1, h3.2.2.imp id fun h4 => ⟨h4.1, h4.2.1, ?_⟩⟩
  have h5 := h4.2.2
  rw [h.mem] at h5
  exact Int.not_lt.1 fun h6 => h5 ⟨h4.1, h4.2.1, h6⟩
theorem AOK.mk' (hle : rs.length ≤ 64) (hc : PCh Emp rs free f) (hm : ∀ i : Int, 0 ≤ i → i < rs.length → ky rs i < 0 → i ∈ f) (hn : ∀ i : Int, 0 ≤ i → i < rs.length → 0 ≤ ky rs i → 0 ≤ tk rs i ∧ (nx rs i = -1 ∨ (0 ≤ nx rs i ∧ nx rs i < rs.length ∧ 0 ≤ ky rs (nx rs i)))) : AOK rs free f := by
 refine ⟨hle, hc, fun i hi => ?_⟩
 by_cases h : (i : Int) ∈ f
 ·exact .inl h
 ·right
  have h1 : 0 ≤ ky rs (i : Int) := by
   have := hm i (by omega) (by omega)
   by_cases hk : ky rs (i : Int) < 0
   ·exact absurd (this hk) h
   ·omega
  have h2 := hn i (by omega) (by omega) h1
  refine ⟨h1, h2.1, h2.2.imp id fun h3 => ⟨h3.1, h3.2.1, fun h4 => ?_⟩⟩
  have h5 := (hc.rng _ h4).2.2.1
  have h6 := h3.2.2
  simp only [ky, nx, Int.toNat_natCast] at h5 h6
  omega
theorem AOK.free_rng (h : AOK rs free f) : free = -1 ∨ (0 ≤ free ∧ free < rs.length ∧ ky rs free = -1 ∧ tk rs free = -1) := by
 cases h.ch with
 | nil => exact .inl rfl
 | cons h1 h2 h3 h4 => exact .inr ⟨h1, h2, h3⟩
theorem Free_eq (h : AOK rs free f) : rf7_Free (rs, free) = some f := by
 unfold rf7_Free rf7_Free_g
 dsimp only
 rw [h.rright, walk_eq _ _ (by have := h.le; omega)]
 simp [cq1, wres, wlk_iff.2 h.ch]
theorem Live_eq (h : AOK rs free f) (i : Int) : rf7_Live ((rs, free), i) = some (decide (0 ≤ i ∧ i < rs.length ∧ 0 ≤ ky rs i)) := by
 have hf := h.ch.len
 have hle := h.le
 have hm := h.mem (i := i)
 unfold rf7_Live rf7_Live_g
 dsimp only
 rw [Free_eq h]
 simp only [cq1]
 rw [Has_eq _ _ (by omega)]
 simp only [cq1]
 grind
theorem Copy_eq (rs : List R3) (free : Int) (hl : rs.length ≤ 1000000) : rf7_Copy (rs, free) = some (free, rs) := by
 unfold rf7_Copy rf7_Copy_g
 simp only [cq1]
 rw [if_pos (by simp; omega)]
 simp
theorem own_eq (rs : List R3) (free : Int) (hl : rs.length ≤ 1000000) : arena_own (rs, free) = some (free, rs) := by
 unfold arena_own arena_own_g Clone_Rec cloneG
 simp only [cq1]
 rw [if_pos (by omega)]
 simp
theorem Same_eq (a : List R3) (b : Int) (c : List R3) (d : Int) (hl : a.length ≤ 1000000) : rf7_Same ((a, b), c, d) = some (decide (a = c ∧ b = d)) := by
 unfold rf7_Same rf7_Same_g
 simp only [cq1]
 by_cases hb : b = d
 ·rw [if_pos hb]
  by_cases hlen : a.length = c.length
  ·rw [if_neg (by simp [hlen])]
   refine (LOOP_m (σ := Int × (List R3 × Int) × List R3 × Int) (fun s => s.2.1.1 = a ∧ s.2.2.1 = c ∧ 0 ≤ s.1 ∧ s.1 ≤ (a.length : Int)) (fun s => a.length - s.1.toNat) (fun s => decide (a.drop s.1.toNat = c.drop s.1.toNat)) ?_ ⟨rfl, rfl, by simp, by simp⟩ (by have := big; simp; omega)).trans (by simp [hb])
   rintro ⟨i, ⟨a', b'⟩, c', d'⟩ ⟨h2, h3, h0, h1⟩
   dsimp only at *
   subst h2
   subst h3
   have e3 := toN1 h0
   have hd : i.toNat < a'.length → a'.drop i.toNat = Ty.at t3 a' i.toNat :: a'.drop (i.toNat + 1) := fun h => drop_at (T := t3) h
   have hd' : i.toNat < c'.length → c'.drop i.toNat = Ty.at t3 c' i.toNat :: c'.drop (i.toNat + 1) := fun h => drop_at (T := t3) h
   have hn : a'.length ≤ i.toNat → a'.drop i.toNat = [] := fun h => List.drop_of_length_le h
   have hn' : c'.length ≤ i.toNat → c'.drop i.toNat = [] := fun h => List.drop_of_length_le h
   ((repeat' (first | (refine StepOK_ite (fun h => ?_) (fun h => ?_)) | (refine StepOK_inr ?_) | (refine StepOK_inl ⟨?_, ?_, ?_⟩))) <;> (try dsimp only) <;> (first | (exfalso; simp only [List.length_cons, List.length_nil] at *; omega) | grind [StepOK, wrap_i64, Prod.ext_iff]))
  ·rw [if_pos (by omega)]
   have : a ≠ c := fun e => hlen (by rw [e])
   simp [this]
 ·rw [if_neg hb]; simp [hb]
end
end Go.AX
end
section
namespace Go.AX
open Go
abbrev Lv (r : R3) : Prop := 0 ≤ r.1
theorem at_upd {rs : List R3} {i j : Int} {v : R3} (h0 : 0 ≤ i) (h1 : i < rs.length) (hj : 0 ≤ j) : Ty.at t3 (rs.set i.toNat v) j.toNat = if j = i then v else Ty.at t3 rs j.toNat := by
 simp only [Ty.at, List.getD_eq_getElem?_getD, List.getElem?_set]
 by_cases h : j = i
 ·subst h
  rw [if_pos rfl, if_pos (by omega), if_pos rfl]; rfl
 ·rw [if_neg (by omega), if_neg h]
theorem PCh.set {p : R3 → Prop} {rs : List R3} {j : Int} {v : R3} (h0 : 0 ≤ j) (h1 : j < rs.length) : ∀ {i : Int} {l : List Int}, PCh p rs i l → j ∉ l → PCh p (rs.set j.toNat v) i l
 | _, [], h, _ => by cases h; exact .nil
 | x, _ :: r, h, hj => by
  cases h with
  | cons g1 g2 g3 g4 =>
   have hn : ¬ x = j := fun e => hj (by simp [e])
   have e := at_upd (v := v) h0 h1 g1
   rw [if_neg hn] at e
   refine .cons g1 (by simpa using g2) (by rw [e]; exact g3) ?_
   rw [e]
   exact g4.set h0 h1 fun hm => hj (by simp [hm])
theorem ky_upd {rs : List R3} {i j : Int} {v : R3} (h0 : 0 ≤ i) (h1 : i < rs.length) (hj : 0 ≤ j) : ky (rs.set i.toNat v) j = if j = i then v.1 else ky rs j := by
 unfold ky; rw [at_upd h0 h1 hj]; split <;> rfl
theorem tk_upd {rs : List R3} {i j : Int} {v : R3} (h0 : 0 ≤ i) (h1 : i < rs.length) (hj : 0 ≤ j) : tk (rs.set i.toNat v) j = if j = i then v.2.1 else tk rs j := by
 unfold tk; rw [at_upd h0 h1 hj]; split <;> rfl
theorem nx_upd {rs : List R3} {i j : Int} {v : R3} (h0 : 0 ≤ i) (h1 : i < rs.length) (hj : 0 ≤ j) : nx (rs.set i.toNat v) j = if j = i then v.2.2 else nx rs j := by
 unfold nx; rw [at_upd h0 h1 hj]; split <;> rfl
section
variable {rs : List R3} {free : Int} {f : List Int}
theorem AOK.put (h : AOK rs free f) {t w k d : Int} (h0 : 0 ≤ t) (h1 : t < rs.length) (hk : 0 ≤ ky rs t) (h2 : 0 ≤ k) (h3 : 0 ≤ d) (hw : w = -1 ∨ (0 ≤ w ∧ w < rs.length ∧ 0 ≤ ky rs w)) : AOK (rs.set t.toNat (k, d, w)) free f := by
 have ha := fun (j : Int) (hj : 0 ≤ j) => ky_upd (v := (k, d, w)) h0 h1 hj
 have hb := fun (j : Int) (hj : 0 ≤ j) => tk_upd (v := (k, d, w)) h0 h1 hj
 have hc := fun (j : Int) (hj : 0 ≤ j) => nx_upd (v := (k, d, w)) h0 h1 hj
 have hm := @AOK.mem _ _ _ h
 have hn := @AOK.nlive _ _ _ h
 have hle := h.le
 have hch := h.ch.set (v := (k, d, w)) h0 h1 (fun e => by have := (hm.1 e).2.2; omega)
 refine .mk' (by simpa using hle) hch (fun i g0 g1 g2 => ?_) (fun i g0 g1 g2 => ?_)
 ·rw [List.length_set] at *
  clear h hch
  grind
 ·simp only [List.length_set] at *
  by_cases e : i = t
  ·subst e
   rw [hb i g0, hc i g0, if_pos rfl, if_pos rfl]
   refine ⟨h3, hw.imp id fun h4 => ⟨h4.1, h4.2.1, ?_⟩⟩
   rw [ha w h4.1]
   split
   ·exact h2
   ·exact h4.2.2
  ·rw [ha i g0, if_neg e] at g2
   rw [hb i g0, hc i g0, if_neg e, if_neg e]
   refine ⟨(hn g0 g1 g2).1, (hn g0 g1 g2).2.imp id fun h4 => ⟨h4.1, h4.2.1, ?_⟩⟩
   rw [ha _ h4.1]
   split
   ·exact h2
   ·exact h4.2.2
theorem AOK.take (h : AOK rs free (free :: f)) {k d : Int} (h2 : 0 ≤ k) (h3 : 0 ≤ d) : AOK (rs.set free.toNat (k, d, -1)) (nx rs free) f := by
 have hc := h.ch
 have hnd := hc.nodup
 cases hc with
 | cons h0 h1 h4 hc =>
  have ha := fun (j : Int) (hj : 0 ≤ j) => ky_upd (v := (k, d, (-1 : Int))) h0 h1 hj
  have hb := fun (j : Int) (hj : 0 ≤ j) => tk_upd (v := (k, d, (-1 : Int))) h0 h1 hj
  have hc' := fun (j : Int) (hj : 0 ≤ j) => nx_upd (v := (k, d, (-1 : Int))) h0 h1 hj
  have hm := @AOK.mem _ _ _ h
  have hn := @AOK.nlive _ _ _ h
  have hle := h.le
  have hnf : free ∉ f := (List.nodup_cons.1 hnd).1
  refine .mk' (by simpa using hle) (hc.set h0 h1 hnf) (fun i g0 g1 g2 => ?_) (fun i g0 g1 g2 => ?_)
  ·rw [List.length_set] at *
   have := @hm i
   clear h hc h4 hm hn
   grind
  ·simp only [List.length_set] at *
   clear h hc h4 hm
   grind
theorem Take_ok (h : AOK rs free f) {k t : Int} (hk : 0 ≤ k) (ht : 0 ≤ t) (hf : free ≠ -1) : arena_Take ((rs, free), k, t) = some (.inl ((nx rs free, free, 0), rs.set free.toNat (k, t, -1))) := by
 have h1 := h.free_rng.resolve_left hf
 have hl := h.le
 unfold arena_Take arena_Take_g
 dsimp only
 rw [h.right, own_eq _ _ (by omega)]
 simp only [cq1]
 have e1 : ¬ k < 0 := by omega
 have e2 : ¬ t < 0 := by omega
 have e3 : free.toNat < rs.length := by omega
 simp [hf, h1.1, h1.2.1, e1, e2, e3, nx]
def Held (rs : List R3) (m : Int) : Prop := ∃ j : Int, 0 ≤ j ∧ j < rs.length ∧ 0 ≤ ky rs j ∧ nx rs j = m
end
end Go.AX
end
section
namespace Go.AX
open Go
def NH (rs : List R3) (m : Int) (j : Nat) : Prop := ¬ (0 ≤ ky rs j ∧ nx rs j = m)
section
variable {rs : List R3} {free : Int} {f : List Int}
end
end Go.AX
end
section
namespace Go.AX
open Go
def qres (rs : List R3) (t : Int) (acc : List Int) (i : Int) : Bool × List Int := match wlk Lv rs i with | some s => (decide ((acc ++ s).getLastD (-1) = t), acc ++ s) | none => (false, [])
theorem qres_end {rs : List R3} {t : Int} {acc : List Int} : qres rs t acc (-1) = (decide (acc.getLastD (-1) = t), acc) := by simp [qres, wlk_end]
theorem qres_none {rs : List R3} {t : Int} {acc : List Int} {i : Int} (h : wlk Lv rs i = none) : qres rs t acc i = (false, []) := by simp [qres, h]
theorem qres_step {rs : List R3} {t : Int} {acc : List Int} {i : Int} (h1 : 0 ≤ i) (h2 : i < rs.length) (h3 : Lv (Ty.at t3 rs i.toNat)) : qres rs t (acc ++ [i]) (Ty.at t3 rs i.toNat).2.2 = qres rs t acc i := by
 simp only [qres, wlk_step h1 h2 h3]
 cases wlk Lv rs (Ty.at t3 rs i.toNat).2.2 <;> simp
theorem last_app {l : List Int} {x d : Int} : (l ++ [x]).getLastD d = x := by simp
theorem qwalk_eq (rs : List R3) (free h t : Int) (hl : rs.length ≤ 1000000) : queue_walk ((rs, free), h, t) = some (qres rs t [] h) := by
 unfold queue_walk queue_walk_g
 refine LOOP_m (σ := (Int × Int) × (List R3 × Int) × (Int × Int) × List Int) (fun s => s.2.1.1 = rs ∧ s.2.2.1.2 = t ∧ s.1.1 = s.2.2.2.getLastD (-1) ∧ GoneL Lv rs h s.2.2.2 s.1.2) (fun s => rs.length + 1 - s.2.2.2.length) (fun s => qres rs t s.2.2.2 s.1.2) ?_ ⟨rfl, rfl, rfl, .start⟩ (by have := big; simp; omega)
 rintro ⟨⟨pv, i⟩, ⟨a, b⟩, ⟨c, d⟩, acc⟩ ⟨ha, hd, hp, g⟩
 dsimp only at *
 subst ha
 subst hd
 have hle := g.le
 simp only [cq1]
 have e1 : (Ty.at t3 a i.toNat).1 < 0 ↔ ¬ Lv (Ty.at t3 a i.toNat) := Int.not_le.symm
 have e2 : (acc ++ [i]).getLastD (-1) = i := last_app
 ((repeat' (first | (refine StepOK_ite (fun h => ?_) (fun h => ?_)) | (refine StepOK_inr ?_) | (refine StepOK_inl ⟨?_, ?_, ?_⟩))) <;> (try dsimp only) <;> (first | (exfalso; simp only [List.length_cons, List.length_nil] at *; omega) | grind [StepOK, wrap_i64, qres_none, wlk_none, qres_end, GoneL.full, GoneL.next, qres_step]))
section
variable {rs : List R3} {free : Int} {f : List Int}
theorem rplaces_eq (h : AOK rs free f) (hd t : Int) : rf8_places ((rs, free), hd, t) = some (qres rs t [] hd) := by
 unfold rf8_places rf8_places_g
 dsimp only
 rw [h.rright]
 simp only [cq1]
 simp only [Bool.true_eq_false, if_false]
 have hle := h.le
 refine LOOP_m (σ := (Int × Int) × (List R3 × Int) × (Int × Int) × List Int) (fun s => s.2.1.1 = rs ∧ s.2.1.2 = free ∧ s.2.2.1.2 = t ∧ s.1.2 = s.2.2.2.getLastD (-1) ∧ Gone Lv rs hd s.2.2.2 s.1.1) (fun s => rs.length + 1 - s.2.2.2.length) (fun s => qres rs t s.2.2.2 s.1.1) ?_ ⟨rfl, rfl, rfl, rfl, .start⟩ (by have := big; simp; omega)
 rintro ⟨⟨i, pv⟩, ⟨a, b⟩, ⟨c, d⟩, acc⟩ ⟨ha, hb, hd, hp, g⟩
 dsimp only at *
 subst ha
 subst hb
 subst hd
 have hle' := g.le
 rw [Has_eq _ _ (by omega), Live_eq h]
 simp only [cq1]
 have e1 : Lv (Ty.at t3 a i.toNat) = (0 ≤ ky a i) := rfl
 have e2 : (acc ++ [i]).getLastD (-1) = i := last_app
 ((repeat' (first | (refine StepOK_ite (fun h => ?_) (fun h => ?_)) | (refine StepOK_inr ?_) | (refine StepOK_inl ⟨?_, ?_, ?_⟩))) <;> (try dsimp only) <;> (first | (exfalso; simp only [List.length_cons, List.length_nil] at *; omega) | grind [StepOK, wrap_i64, qres_none, wlk_none, qres_end, Gone.twice, Gone.next, qres_step]))
end
structure QOK (rs : List R3) (free h t : Int) (f l : List Int) : Prop where
 a : AOK rs free f
 q : PCh Lv rs h l
 t : l.getLastD (-1) = t
section
variable {rs : List R3} {free h t : Int} {f l : List Int}
theorem QOK.res (g : QOK rs free h t f l) : qres rs t [] h = (true, l) := by simp only [qres, wlk_iff.2 g.q, List.nil_append, g.t, decide_true]
theorem QOK.right (g : QOK rs free h t f l) : queue_Right ((rs, free), h, t) = some true := by
 unfold queue_Right queue_Right_g
 dsimp only
 rw [qwalk_eq _ _ _ _ (by have := g.a.le; omega), g.res]
 simp [g.a.right]
theorem QOK.rright (g : QOK rs free h t f l) : rf8_Right ((rs, free), h, t) = some true := by
 unfold rf8_Right rf8_Right_g
 dsimp only
 rw [rplaces_eq g.a, g.res]
 simp
theorem QOK.places (g : QOK rs free h t f l) : queue_Places ((rs, free), h, t) = some l := by
 unfold queue_Places queue_Places_g
 dsimp only
 rw [qwalk_eq _ _ _ _ (by have := g.a.le; omega), g.res]
 simp [g.a.right]
theorem QOK.rplaces (g : QOK rs free h t f l) : rf8_Places ((rs, free), h, t) = some l := by
 unfold rf8_Places rf8_Places_g
 dsimp only
 rw [rplaces_eq g.a, g.res]
 simp
theorem Q_cases (rs : List R3) (free h t : Int) (hl : rs.length ≤ 1000000) : (∃ f l, QOK rs free h t f l) ∨ (queue_Right ((rs, free), h, t) = some false ∧ rf8_Right ((rs, free), h, t) = some false ∧ queue_Places ((rs, free), h, t) = some [] ∧ rf8_Places ((rs, free), h, t) = some []) := by
 unfold queue_Right queue_Right_g rf8_Right rf8_Right_g queue_Places queue_Places_g rf8_Places rf8_Places_g
 dsimp only
 rw [qwalk_eq _ _ _ _ hl]
 rcases Right_cases rs free hl with ⟨f, ha⟩ | ⟨h1, h2⟩
 ·rw [rplaces_eq ha, ha.right]
  unfold qres
  cases hw : wlk Lv rs h with
  | none => simp
  | some l =>
   by_cases hg : l.getLastD (-1) = t
   ·exact .inl ⟨f, l, ha, wlk_iff.1 hw, hg⟩
   ·simp only [List.nil_append, hg, decide_false]
    simp
 ·right
  have h3 : rf8_places ((rs, free), h, t) = some (false, []) := by
   unfold rf8_places rf8_places_g
   simp [h2]
  rw [h1, h3]
  cases (qres rs t [] h).1 <;> simp
end
end Go.AX
end
section
namespace Go.AX
open Go
theorem take_at {T : Ty} {l : List T.den} {i : Nat} (h : i < l.length) : l.take (i + 1) = l.take i ++ [Ty.at T l i] := by
 rw [List.take_add_one, List.getElem?_eq_getElem h, at_get h]; rfl
theorem tstep {l : List Int} {g : Int → Int} {j : Nat} (hj : j < l.length) : ((l.take j).map g ++ l.drop j).set j (g (Ty.at (Ty.int IntKind.i64) l j)) = (l.take (j + 1)).map g ++ l.drop (j + 1) := by
 rw [drop_at (T := (Ty.int IntKind.i64)) hj, take_at (T := (Ty.int IntKind.i64)) hj, List.map_append, List.set_append_right _ _ (by simp; omega)]
 have : j - (List.map g (List.take j l)).length = 0 := by simp; omega
 rw [this]
 simp
theorem tat {l : List Int} {g : Int → Int} {j : Nat} (hj : j < l.length) : Ty.at (Ty.int IntKind.i64) ((l.take j).map g ++ l.drop j) j = Ty.at (Ty.int IntKind.i64) l j := by
 simp only [Ty.at, List.getD_eq_getElem?_getD]
 rw [List.getElem?_append_right (by simp; omega)]
 have : j - (List.map g (List.take j l)).length = 0 := by simp; omega
 rw [this]
 simp
section
variable {rs : List R3} {free h t : Int} {f l : List Int}
theorem QOK.rng (g : QOK rs free h t f l) : ∀ x ∈ l, 0 ≤ x ∧ x < rs.length := fun x hx => ⟨(g.q.rng x hx).1, (g.q.rng x hx).2.1⟩
theorem QOK.len (g : QOK rs free h t f l) : l.length ≤ 64 := Nat.le_trans g.q.len g.a.le
theorem QOK.tasks (g : QOK rs free h t f l) : queue_Tasks ((rs, free), h, t) = some (l.map (tk rs)) := by
 unfold queue_Tasks queue_Tasks_g
 dsimp only
 rw [g.places]
 simp only [cq1]
 have hl := g.len
 refine LOOP_m (σ := (Int × Int) × (List R3 × Int) × List Int) (fun s => s.1.1 = l.length ∧ s.2.1.1 = rs ∧ 0 ≤ s.1.2 ∧ s.1.2 ≤ l.length ∧ s.2.2 = (l.take s.1.2.toNat).map (tk rs) ++ l.drop s.1.2.toNat) (fun s => l.length - s.1.2.toNat) (fun s => l.map (tk rs)) ?_ ⟨rfl, rfl, by simp, by simp, by simp⟩ (by have := big; simp; omega)
 rintro ⟨⟨n, j⟩, ⟨a, b⟩, x⟩ ⟨ha, hb, h0, h1, hx⟩
 dsimp only at *
 subst ha
 subst hb
 have hxl : x.length = l.length := by rw [hx]; simp; omega
 by_cases hj : j < l.length
 ·have hjn : j.toNat < l.length := by omega
  have e1 : Ty.at (Ty.int IntKind.i64) x j.toNat = Ty.at (Ty.int IntKind.i64) l j.toNat := by rw [hx]; exact tat hjn
  have e2 := g.rng _ (at_mem (T := (Ty.int IntKind.i64)) hjn)
  have e3 : x.set j.toNat (tk a (Ty.at (Ty.int IntKind.i64) l j.toNat)) = (l.take (j.toNat + 1)).map (tk a) ++ l.drop (j.toNat + 1) := by rw [hx]; exact tstep hjn
  have e4 : (Ty.at t3 a (Ty.at (Ty.int IntKind.i64) l j.toNat).toNat).2.1 = tk a (Ty.at (Ty.int IntKind.i64) l j.toNat) := rfl
  have e5 := toN1 h0
  rw [if_pos hj, if_pos (by omega), if_pos (by omega), e1, if_pos e2, if_pos (by omega), if_pos (by omega), wrap_i64 (by omega)]
  refine StepOK_inl ⟨by dsimp only; omega, ⟨rfl, rfl, by dsimp only; omega, by dsimp only; omega, ?_⟩, rfl⟩
  dsimp only
  rw [e5, ← e3, e4]
 ·rw [if_neg hj]
  refine StepOK_inr ?_
  try dsimp only
  rw [hx, List.take_of_length_le (by omega), List.drop_of_length_le (by omega), List.append_nil]
theorem QOK.rtasks (g : QOK rs free h t f l) : rf8_Tasks ((rs, free), h, t) = some (l.map (tk rs)) := by
 unfold rf8_Tasks rf8_Tasks_g
 dsimp only
 rw [g.rplaces]
 simp only [cq1]
 have hl := g.len
 refine LOOP_m (σ := Int × (List R3 × Int) × List Int × List Int) (fun s => s.2.2.2 = l ∧ s.2.1.1 = rs ∧ 0 ≤ s.1 ∧ s.1 ≤ l.length ∧ s.2.2.1 = (l.take s.1.toNat).map (tk rs)) (fun s => l.length - s.1.toNat) (fun s => l.map (tk rs)) ?_ ⟨rfl, rfl, by simp, by simp, by simp⟩ (by have := big; simp; omega)
 rintro ⟨j, ⟨a, b⟩, x, y⟩ ⟨ha, hb, h0, h1, hx⟩
 dsimp only at *
 subst ha
 subst hb
 have hxl : x.length = j.toNat := by rw [hx]; simp; omega
 by_cases hj : j < y.length
 ·have hjn : j.toNat < y.length := by omega
  have e2 := g.rng _ (at_mem (T := (Ty.int IntKind.i64)) hjn)
  have e4 : (Ty.at t3 a (Ty.at (Ty.int IntKind.i64) y j.toNat).toNat).2.1 = tk a (Ty.at (Ty.int IntKind.i64) y j.toNat) := rfl
  have e5 := toN1 h0
  rw [if_pos hj, if_pos (by omega), if_pos (by omega), if_pos e2, if_pos (by simp; omega), wrap_i64 (by omega)]
  refine StepOK_inl ⟨by dsimp only; omega, ⟨rfl, rfl, by dsimp only; omega, by dsimp only; omega, ?_⟩, rfl⟩
  dsimp only
  rw [e5, take_at (T := (Ty.int IntKind.i64)) hjn, List.map_append, hx, e4]
  rfl
 ·rw [if_neg hj]
  refine StepOK_inr ?_
  try dsimp only
  rw [hx, List.take_of_length_le (by omega)]
end
def nxt (rs : List R3) (a w : Int) : List R3 := rs.set a.toNat (ky rs a, tk rs a, w)
def lay : List R3 → List Int → List R3
 | rs, [] => rs
 | rs, a :: r => lay (nxt rs a (r.headD (-1))) r
@[simp] theorem nxt_len {rs : List R3} {a w : Int} : (nxt rs a w).length = rs.length := by simp [nxt]
end Go.AX
end
section
namespace Go.AX
open Go
theorem at_rec {rs : List R3} {a : Int} : Ty.at t3 rs a.toNat = (ky rs a, tk rs a, nx rs a) := rfl
theorem set_self {rs : List R3} {a : Int} (h0 : 0 ≤ a) (h1 : a < rs.length) : rs.set a.toNat (ky rs a, tk rs a, nx rs a) = rs := by
 have hn : a.toNat < rs.length := by omega
 rw [← at_rec, at_get hn]
 exact List.set_getElem_self _
theorem PCh.head {p : R3 → Prop} {rs : List R3} {i : Int} {l : List Int} (h : PCh p rs i l) : l.headD (-1) = i := by
 cases h <;> rfl
theorem PCh.cut {p : R3 → Prop} {rs : List R3} {t : Int} {v : R3} {s r : List Int} (hv : p v) : ∀ {i : Int} {l : List Int}, PCh p rs i (l ++ t :: s) → PCh p (rs.set t.toNat v) v.2.2 r → PCh p (rs.set t.toNat v) i (l ++ t :: r)
 | _, [], h, hr => by
  cases h with
  | cons g1 g2 g3 g4 =>
   have e := at_upd (v := v) g1 g2 g1
   rw [if_pos rfl] at e
   exact .cons g1 (by simpa using g2) (by rw [e]; exact hv) (by rw [e]; exact hr)
 | a, _ :: l, h, hr => by
  have hnd := h.nodup
  have ht := h.rng t (by simp)
  cases h with
  | cons g1 g2 g3 g4 =>
   have hn : ¬ a = t := fun e => (List.nodup_cons.1 hnd).1 (by simp [e])
   have e := at_upd (v := v) ht.1 ht.2.1 g1
   rw [if_neg hn] at e
   exact .cons g1 (by simpa using g2) (by rw [e]; exact g3) (by rw [e]; exact g4.cut hv hr)
theorem snoc_of {l : List Int} {t : Int} (h : l.getLastD (-1) = t) (hn : l ≠ []) : ∃ l', l = l' ++ [t] := by
 refine ⟨l.dropLast, ?_⟩
 rw [← h, List.getLastD_eq_getLast?, List.getLast?_eq_some_getLast hn]
 exact (List.dropLast_concat_getLast hn).symm
theorem set_at {rs : List R3} {i : Int} {v : R3} (h0 : 0 ≤ i) (h1 : i < rs.length) : Ty.at t3 (rs.set i.toNat v) i.toNat = v := by rw [at_upd h0 h1 h0, if_pos rfl]
section
variable {rs : List R3} {free h t : Int} {f l : List Int}
theorem QOK.ends (g : QOK rs free h t f l) : (l = [] ∧ h = -1 ∧ t = -1) ∨ (l ≠ [] ∧ h ≠ -1 ∧ h ∈ l ∧ t ∈ l) := by
 have hq := g.q
 have ht := g.t
 cases hq with
 | nil => exact .inl ⟨rfl, rfl, ht.symm⟩
 | cons g1 g2 g3 g4 =>
  refine .inr ⟨by simp, by omega, by simp, ?_⟩
  obtain ⟨l', e⟩ := snoc_of ht (by simp)
  rw [e]; simp
theorem QOK.live (g : QOK rs free h t f l) {x : Int} (hx : x ∈ l) : 0 ≤ x ∧ x < rs.length ∧ 0 ≤ ky rs x := g.q.rng x hx
def pushed (rs : List R3) (free h t k d : Int) (fr : Bool) : (List R3 × Int) × (Int × Int) × Int :=
 let rs1 := rs.set free.toNat (k, d, -1)
 bif decide (h = -1) then ((rs1, nx rs free), (free, free), 0)
 else bif fr then ((rs.set free.toNat (k, d, h), nx rs free), (free, t), 0)
 else ((rs1.set t.toNat (ky rs t, tk rs t, free), nx rs free), (h, free), 0)
theorem QOK.push (g : QOK rs free h t f l) {k d : Int} (hk : 0 ≤ k) (hd : 0 ≤ d) (hf : free ≠ -1) (fr : Bool) : queue_Push ((rs, free), (h, t), k, d, fr) = some (pushed rs free h t k d fr) := by
 have k1 := Take_ok g.a hk hd hf
 have hfr := g.a.free_rng.resolve_left hf
 have hle := g.a.le
 have hll := g.len
 have hnl : free ∉ l := fun e => by have := (g.live e).2.2; omega
 have hlt : free.toNat < rs.length := by omega
 have hq1 : PCh Lv (rs.set free.toNat (k, d, -1)) h l := g.q.set hfr.1 hfr.2.1 hnl
 have ha1 := set_at (rs := rs) (v := (k, d, -1)) hfr.1 hfr.2.1
 have hset : ∀ v w : R3, (rs.set free.toNat v).set free.toNat w = rs.set free.toNat w := fun v w => by simp
 ·unfold queue_Push queue_Push_g pushed
  dsimp only
  rw [g.right, k1]
  simp only [cq1]
  rcases g.ends with ⟨e1, e2, e3⟩ | ⟨e1, e2, e3, e4⟩
  ·simp [e2]
  ·have hlv := g.live e4
   have htn : ¬ t = free := fun e => hnl (e ▸ e4)
   have hat : Ty.at t3 (rs.set free.toNat (k, d, -1)) t.toNat = Ty.at t3 rs t.toNat := by rw [at_upd hfr.1 hfr.2.1 hlv.1, if_neg htn]
   have htl : t.toNat < rs.length := by omega
   cases fr
   ·simp [e2, hlv.1, hlv.2.1, htl, hat]; rfl
   ·simp [e2, hfr.1, hfr.2.1, hlt, ha1]
end
end Go.AX
end
section
namespace Go.AX
open Go
theorem set_nx {rs : List R3} {free : Int} (h0 : 0 ≤ free) (h1 : free < rs.length) (hk : ky rs free = -1) (ht : tk rs free = -1) (v : R3) : (rs.set free.toNat v).set free.toNat (-1, -1, nx rs free) = rs := by
 rw [List.set_set]
 have := set_self h0 h1
 rwa [hk, ht] at this
section
variable {rs : List R3} {free h t : Int} {f l : List Int}
theorem QOK.after (g : QOK rs free h t (free :: f) l) {k d : Int} (hk : 0 ≤ k) (hd : 0 ≤ d) (fr : Bool) : ∃ rs2 h2 t2, pushed rs free h t k d fr = ((rs2, nx rs free), (h2, t2), 0) ∧ QOK rs2 (nx rs free) h2 t2 f (bif fr then free :: l else l ++ [free]) ∧ (∀ x ∈ l, tk rs2 x = tk rs x) ∧ tk rs2 free = d ∧ (fr = true → rs2.set free.toNat (-1, -1, nx rs free) = rs ∧ nx rs2 free = h ∧ h2 = free ∧ t2 = (free :: l).getLastD (-1) ∧ ¬ Held rs2 free) := by
 have hf : free ≠ -1 := by cases g.a.ch; omega
 have hfr := g.a.free_rng.resolve_left hf
 have hle := g.a.le
 have hnl : free ∉ l := fun e => by have := (g.live e).2.2; omega
 have hlt : free.toNat < rs.length := by omega
 have ht1 := g.a.take hk hd
 have hq1 : ∀ v, PCh Lv (rs.set free.toNat v) h l := fun v => g.q.set hfr.1 hfr.2.1 hnl
 have hheld : ∀ w : Int, w ≠ free → ¬ Held (rs.set free.toNat (k, d, w)) free := by
  rintro w hw ⟨j, j0, j1, j2, j3⟩
  rw [List.length_set] at j1
  rw [nx_upd hfr.1 hfr.2.1 j0] at j3
  rw [ky_upd hfr.1 hfr.2.1 j0] at j2
  split at j3
  ·exact hw j3
  ·rename_i hne
   rw [if_neg hne] at j2
   have := (g.a.nlive j0 j1 j2).2
   rw [j3] at this
   omega
 have htk : ∀ w : Int, ∀ x ∈ l, tk (rs.set free.toNat (k, d, w)) x = tk rs x := fun w x hx => by
  rw [tk_upd hfr.1 hfr.2.1 (g.live hx).1, if_neg (fun e : x = free => hnl (e ▸ hx))]
 have htf : ∀ w : Int, tk (rs.set free.toNat (k, d, w)) free = d := fun w => by rw [tk_upd hfr.1 hfr.2.1 hfr.1, if_pos rfl]
 have hxf : ∀ w : Int, nx (rs.set free.toNat (k, d, w)) free = w := fun w => by rw [nx_upd hfr.1 hfr.2.1 hfr.1, if_pos rfl]
 unfold pushed
 rcases g.ends with ⟨e1, e2, e3⟩ | ⟨e1, e2, e3, e4⟩
 ·subst e1
  refine ⟨_, _, _, by simp only [e2, decide_true, cond_true]; rfl, ⟨ht1, ?_, by cases fr <;> rfl⟩, by simp, htf _, fun e => ⟨set_nx hfr.1 hfr.2.1 hfr.2.2.1 hfr.2.2.2 _, by rw [e2]; exact hxf _, rfl, rfl, hheld _ (by omega)⟩⟩
  have e := set_at (rs := rs) (v := (k, d, -1)) hfr.1 hfr.2.1
  have : PCh Lv (rs.set free.toNat (k, d, -1)) free [free] := .cons hfr.1 (by simpa using hfr.2.1) (by rw [e]; exact hk) (by rw [e]; exact .nil)
  cases fr <;> exact this
 ·have hlv := g.live e4
  cases fr
  ·refine ⟨_, _, _, by simp only [e2, decide_false, cond_false]; rfl, ⟨?_, ?_, ?_⟩, fun x hx => ?_, ?_, by simp⟩
   ·have hn := g.a.nlive hlv.1 hlv.2.1 hlv.2.2
    refine ht1.put hlv.1 (by simpa using hlv.2.1) ?_ hlv.2.2 hn.1 (.inr ⟨hfr.1, by simpa using hfr.2.1, ?_⟩)
    ·rw [ky_upd hfr.1 hfr.2.1 hlv.1]; split
     ·exact hk
     ·exact hlv.2.2
    ·rw [ky_upd hfr.1 hfr.2.1 hfr.1, if_pos rfl]; exact hk
   ·obtain ⟨l', rfl⟩ := snoc_of g.t e1
    simp only [cond_false, List.append_assoc]
    refine PCh.cut (s := []) (show Lv (ky rs t, tk rs t, free) from hlv.2.2) (hq1 _) ?_
    have htn : ¬ free = t := fun e => hnl (e ▸ e4)
    have e := at_upd (rs := rs.set free.toNat (k, d, -1)) (v := (ky rs t, tk rs t, free)) hlv.1 (by simpa using hlv.2.1) hfr.1
    rw [if_neg htn, set_at hfr.1 hfr.2.1] at e
    exact .cons hfr.1 (by simpa using hfr.2.1) (by rw [e]; exact hk) (by rw [e]; exact .nil)
   ·exact last_app
   ·rw [tk_upd hlv.1 (by simpa using hlv.2.1) (g.live hx).1]
    split
    ·rename_i e; rw [e]
    ·exact htk _ x hx
   ·have htn : ¬ free = t := fun e => hnl (e ▸ e4)
    rw [tk_upd hlv.1 (by simpa using hlv.2.1) hfr.1, if_neg htn]; exact htf _
  ·have hll := g.live e3
   have e := set_at (rs := rs) (v := (k, d, h)) hfr.1 hfr.2.1
   have hnh : h ≠ free := fun e => hnl (e ▸ e3)
   have htt : (free :: l).getLastD (-1) = t := by
    obtain ⟨l', rfl⟩ := snoc_of g.t e1
    rw [← List.cons_append]; exact last_app
   refine ⟨_, _, _, by simp only [e2, decide_false, cond_false, cond_true], ⟨?_, ?_, htt⟩, htk _, htf _, fun _ => ⟨set_nx hfr.1 hfr.2.1 hfr.2.2.1 hfr.2.2.2 _, hxf _, rfl, htt.symm, hheld _ hnh⟩⟩
   ·have := ht1.put (t := free) (k := k) (d := d) (w := h) hfr.1 (by simpa using hfr.2.1) (by rw [ky_upd hfr.1 hfr.2.1 hfr.1, if_pos rfl]; exact hk) hk hd (.inr ⟨hll.1, by simpa using hll.2.1, by rw [ky_upd hfr.1 hfr.2.1 hll.1, if_neg hnh]; exact hll.2.2⟩)
    rwa [List.set_set] at this
   ·exact .cons hfr.1 (by simpa using hfr.2.1) (by rw [e]; exact hk) (by rw [e]; exact hq1 _)
def cutR (rs : List R3) (l' : List Int) (m : Int) : List R3 := if l' = [] then rs else nxt rs (l'.getLastD (-1)) (nx rs m)
end
end Go.AX
end
section
namespace Go.AX
open Go
section
variable {rs : List R3} {free h t : Int} {f l' r : List Int} {m : Int}
end
end Go.AX
end
section
namespace Go.AX
open Go
section
variable {rs : List R3} {free h t : Int} {f l l' r : List Int} {m : Int}
end
end Go.AX
end
section
namespace Go.AX
open Go
section
variable {rs : List R3} {free h t : Int}
end
end Go.AX
end
section
namespace Go.AX
open Go
def ints (n : Nat) : List Int := (List.range n).map (fun i : Nat => (i : Int))
def mkOK (n : Nat) : Bool := match rf7_Make (n : Int) with
 | some ((fr, st), rs) => decide (st = 0) && decide (rs.length = n) && decide (wlk Emp rs fr = some (ints n)) && (List.range n).all (fun i => decide (ky rs (i : Int) = -1))
 | none => false
structure TOK (n i : Int) (rs : List R3) (free h t : Int) (L : List Int) (f l : List Int) : Prop where
 q : QOK rs free h t f l
 m : l.map (tk rs) = L
 c : (f.length : Int) + l.length = n
 all : ∀ x : Int, 0 ≤ x → x < rs.length → 0 ≤ ky rs x → x ∈ l
 nd : L.Nodup
 lt : ∀ x ∈ L, 0 ≤ x ∧ x < i
section
variable {n i : Int} {rs : List R3} {free h t : Int} {L f l : List Int}
end
end Go.AX
end
section
namespace Go.AX.Tr
open Go
abbrev Nd := I6
def ky (x : Nd) : Int := x.1
def pri (x : Nd) : Int := x.2.1
def lf (x : Nd) : Int := x.2.2.1
def rt (x : Nd) : Int := x.2.2.2.1
abbrev nn (N : List Nd) (i : Nat) : Nd := N.getD i (0, 0, 0, 0, 0, 0)
def abv (a b : Nd) : Prop := pri a < pri b ∨ (pri a = pri b ∧ ky a < ky b)
instance (a b : Nd) : Decidable (abv a b) := by unfold abv; infer_instance
inductive TT where
 | nil
 | nd (l : TT) (i : Nat) (r : TT)
def tp : TT → Int
 | .nil => -1
 | .nd _ i _ => (i : Int)
def pl : TT → List Nat
 | .nil => []
 | .nd l i r => pl l ++ i :: pl r
def Rep (N : List Nd) : TT → Prop
 | .nil => True
 | .nd l i r => i < N.length ∧ lf (nn N i) = tp l ∧ rt (nn N i) = tp r ∧ Rep N l ∧ Rep N r
def Bst (N : List Nd) : TT → Int → Int → Prop
 | .nil, _, _ => True
 | .nd l i r, low, high => low < ky (nn N i) ∧ (high = -1 ∨ ky (nn N i) < high) ∧ Bst N l low (ky (nn N i)) ∧ Bst N r (ky (nn N i)) high
def Hp (N : List Nd) : TT → Option Nd → Prop
 | .nil, _ => True
 | .nd l i r, top => (∀ t, top = some t → abv t (nn N i)) ∧ Hp N l (some (nn N i)) ∧ Hp N r (some (nn N i))
def mk (m : List Bool) : TT → List Bool
 | .nil => m
 | .nd l i r => mk (mk (m.set i true) l) r
def Fr (m : List Bool) : TT → Prop
 | .nil => True
 | .nd l i r => (i < m.length ∧ m.getD i true = false) ∧ Fr (m.set i true) l ∧ Fr (mk (m.set i true) l) r
theorem mk_len : ∀ {T : TT} {m : List Bool}, (mk m T).length = m.length
 | .nil, m => rfl
 | .nd l i r, m => by rw [mk, mk_len, mk_len, List.length_set]
def tok (top : Option Nd) (n : Nd) : Bool := match top with | none => true | some t => decide (abv t n)
def undF (N : List Nd) : Nat → Int → Int → Int → Option Nd → List Bool → Option (Bool × List Bool)
 | 0, _, _, _, _, _ => none
 | f + 1, a, low, high, top, m => if a = -1 then some (true, m) else
   if 0 ≤ a ∧ a < (m.length : Int) ∧ m.getD a.toNat true = false then
    (if low < ky (nn N a.toNat) ∧ (high = -1 ∨ ky (nn N a.toNat) < high) ∧ tok top (nn N a.toNat) = true then
     (match undF N f (lf (nn N a.toNat)) low (ky (nn N a.toNat)) (some (nn N a.toNat)) (m.set a.toNat true) with
      | none => none
      | some (b, m1) => if b = true then undF N f (rt (nn N a.toNat)) (ky (nn N a.toNat)) high (some (nn N a.toNat)) m1 else some (false, m1))
    else some (false, m.set a.toNat true))
   else some (false, m)
def un (m : List Bool) : Nat := m.count false
theorem un_set : ∀ {m : List Bool} {i : Nat}, m.getD i true = false → un (m.set i true) + 1 = un m
 | [], i, h => by simp at h
 | b :: m, 0, h => by
  simp at h
  subst h
  simp [un]
 | b :: m, i + 1, h => by
  have := un_set (m := m) (i := i) (by simpa using h)
  simp only [un, List.set_cons_succ, List.count_cons] at this ⊢
  omega
theorem Fr_lt {m : List Bool} {i : Nat} (h : m.getD i true = false) : i < m.length := by
 by_cases hi : i < m.length
 ·exact hi
 ·rw [List.getD_eq_getElem?_getD, List.getElem?_eq_none (by omega)] at h
  cases h
theorem undF_tot {N : List Nd} : ∀ {f : Nat} {a low high : Int} {top : Option Nd} {m : List Bool}, un m < f → ∃ b m', undF N f a low high top m = some (b, m') ∧ un m' ≤ un m ∧ m'.length = m.length
 | 0, _, _, _, _, _, h => by omega
 | f + 1, a, low, high, top, m, h => by
  rw [undF]
  split
  ·exact ⟨true, m, rfl, Nat.le_refl _, rfl⟩
  ·split
   ·rename_i hm
    have hs := un_set hm.2.2
    split
    ·obtain ⟨b, m1, e1, u1, l1⟩ := undF_tot (N := N) (f := f) (a := lf (nn N a.toNat)) (low := low) (high := ky (nn N a.toNat)) (top := some (nn N a.toNat)) (m := m.set a.toNat true) (by omega)
     rw [e1]
     dsimp only
     rw [List.length_set] at l1
     cases b with
     | false => exact ⟨false, m1, rfl, by omega, l1⟩
     | true =>
      obtain ⟨b2, m2, e2, u2, l2⟩ := undF_tot (N := N) (f := f) (a := rt (nn N a.toNat)) (low := ky (nn N a.toNat)) (high := high) (top := some (nn N a.toNat)) (m := m1) (by omega)
      exact ⟨b2, m2, by rw [if_pos rfl, e2], by omega, by omega⟩
    ·exact ⟨false, _, rfl, by omega, by rw [List.length_set]⟩
   ·exact ⟨false, m, rfl, Nat.le_refl _, rfl⟩
theorem undF_ok {N : List Nd} : ∀ {T : TT} {f : Nat} {low high : Int} {top : Option Nd} {m : List Bool}, Rep N T → Bst N T low high → Hp N T top → Fr m T → un m < f → undF N f (tp T) low high top m = some (true, mk m T) ∧ un (mk m T) ≤ un m
 | .nil, 0, low, high, top, m, _, _, _, _, hf => by omega
 | .nil, f + 1, low, high, top, m, _, _, _, _, hf => by rw [undF, if_pos (show tp TT.nil = -1 from rfl)]; exact ⟨rfl, Nat.le_refl _⟩
 | .nd l i r, 0, low, high, top, m, _, _, _, _, hf => by omega
 | .nd l i r, f + 1, low, high, top, m, hr, hb, hh, hf, hu => by
  obtain ⟨r1, r2, r3, r4, r5⟩ := hr
  obtain ⟨b1, b2, b3, b4⟩ := hb
  obtain ⟨h1, h2, h3⟩ := hh
  obtain ⟨⟨f1, f2⟩, f3, f4⟩ := hf
  have hs := un_set f2
  obtain ⟨e1, u1⟩ := undF_ok (f := f) r4 b3 h2 f3 (by omega)
  obtain ⟨e2, u2⟩ := undF_ok (f := f) r5 b4 h3 f4 (by omega)
  rw [undF, tp, if_neg (by omega), Int.toNat_natCast, if_pos ⟨by omega, by omega, f2⟩, if_pos ⟨b1, b2, by
   cases top with
   | none => rfl
   | some t => exact decide_eq_true (h1 t rfl)⟩, r2, r3, e1]
  dsimp only
  rw [if_pos rfl, e2]
  exact ⟨rfl, by rw [mk]; omega⟩
theorem undF_yes {N : List Nd} : ∀ {f : Nat} {a low high : Int} {top : Option Nd} {m m' : List Bool}, m.length = N.length → undF N f a low high top m = some (true, m') → ∃ T, a = tp T ∧ Rep N T ∧ Bst N T low high ∧ Hp N T top ∧ Fr m T ∧ m' = mk m T
 | 0, _, _, _, _, _, _, _, h => by cases h
 | f + 1, a, low, high, top, m, m', hl, h => by
  rw [undF] at h
  split at h
  ·rename_i ha
   cases h
   exact ⟨.nil, ha, trivial, trivial, trivial, trivial, rfl⟩
  ·split at h
   ·rename_i hm
    split at h
    ·rename_i hc
     split at h
     ·cases h
     ·rename_i b m1 e1
      split at h
      ·rename_i hb
       subst hb
       obtain ⟨L, l1, l2, l3, l4, l5, l6⟩ := undF_yes (by rw [List.length_set]; exact hl) e1
       obtain ⟨R, q1, q2, q3, q4, q5, q6⟩ := undF_yes (by rw [l6, mk_len, List.length_set]; exact hl) h
       obtain ⟨i, rfl⟩ := Int.eq_ofNat_of_zero_le hm.1
       rw [Int.toNat_natCast] at *
       subst l6
       refine ⟨.nd L i R, rfl, ⟨by have := hm.2.1; omega, l1, q1, l2, q2⟩, ⟨hc.1, hc.2.1, l3, q3⟩, ⟨fun t ht => ?_, l4, q4⟩, ⟨⟨by have := hm.2.1; omega, hm.2.2⟩, l5, q5⟩, q6⟩
       have := hc.2.2
       rw [ht] at this
       exact of_decide_eq_true this
      ·cases h
    ·cases h
   ·cases h
def bestF (p : Nat → Int) : List Nat → Nat → Nat → Nat → Nat
 | [], _, b, _ => b
 | x :: r, k, b, bx => if p x < p bx then bestF p r (k + 1) k x else bestF p r (k + 1) b bx
def best (p : Nat → Int) : List Nat → Nat
 | [] => 0
 | x :: r => bestF p r 1 0 x
def isBest (p : Nat → Int) (l : List Nat) (b : Nat) : Prop := b < l.length ∧ (∀ k, k < b → p (l.getD b 0) < p (l.getD k 0)) ∧ ∀ k, b ≤ k → k < l.length → p (l.getD b 0) ≤ p (l.getD k 0)
theorem isBest_uniq {p : Nat → Int} {l : List Nat} {a b : Nat} (ha : isBest p l a) (hb : isBest p l b) : a = b := by
 obtain ⟨a1, a2, a3⟩ := ha
 obtain ⟨b1, b2, b3⟩ := hb
 rcases Nat.lt_trichotomy a b with h | h | h
 ·have := b2 a h
  have := a3 b (by omega) b1
  omega
 ·exact h
 ·have := a2 b h
  have := b3 a (by omega) a1
  omega
theorem bestF_ok {p : Nat → Int} (l : List Nat) : ∀ (r : List Nat) (k b : Nat) , l.drop k = r → b < k → k ≤ l.length → (∀ j, j < b → p (l.getD b 0) < p (l.getD j 0)) → (∀ j, b ≤ j → j < k → p (l.getD b 0) ≤ p (l.getD j 0)) → isBest p l (bestF p r k b (l.getD b 0))
 | [], k, b, hd, hb, hk, h1, h2 => by
  rw [bestF]
  have hlen : l.length ≤ k := by
   have := congrArg List.length hd
   simp at this
   omega
  exact ⟨by omega, h1, fun j h3 h4 => h2 j h3 (by omega)⟩
 | x :: r, k, b, hd, hb, hk, h1, h2 => by
  have hlt : k < l.length := by
   have := congrArg List.length hd
   simp at this
   omega
  have hx : x = l.getD k 0 := by
   rw [List.drop_eq_getElem_cons hlt] at hd
   rw [List.getD_eq_getElem?_getD, List.getElem?_eq_getElem hlt, Option.getD_some]
   exact (List.cons.inj hd).1.symm
  have hr : l.drop (k + 1) = r := by
   rw [List.drop_eq_getElem_cons hlt] at hd
   exact (List.cons.inj hd).2
  rw [bestF]
  by_cases hp : p x < p (l.getD b 0)
  ·rw [if_pos hp, hx]
   rw [hx] at hp
   refine bestF_ok l r (k + 1) k hr (by omega) (by omega) (fun j hj => ?_) (fun j h3 h4 => ?_)
   ·by_cases hjb : j < b
    ·have := h1 j hjb; omega
    ·have := h2 j (by omega) hj; omega
   ·have : j = k := by omega
    subst this; omega
  ·rw [if_neg hp]
   refine bestF_ok l r (k + 1) b hr (by omega) (by omega) h1 (fun j h3 h4 => ?_)
   by_cases hjk : j = k
   ·subst hjk; rw [hx] at hp; omega
   ·exact h2 j h3 (by omega)
theorem best_ok {p : Nat → Int} {l : List Nat} (h : l ≠ []) : isBest p l (best p l) := by
 cases l with
 | nil => exact absurd rfl h
 | cons x r => exact bestF_ok (x :: r) r 1 0 rfl (by omega) (by simp) (fun j hj => by omega) (fun j h1 h2 => by
   have : j = 0 := by omega
   subst this; omega)
theorem best_lt {p : Nat → Int} {l : List Nat} (h : l ≠ []) : best p l < l.length := (best_ok h).1
def cart (p : Nat → Int) (l : List Nat) : TT :=
 if h : l = [] then .nil else .nd (cart p (l.take (best p l))) (l.getD (best p l) 0) (cart p (l.drop (best p l + 1)))
termination_by l.length
decreasing_by
 ·have := best_lt (p := p) h
  simp; omega
 ·have := best_lt (p := p) h
  simp; omega
theorem cart_nil {p : Nat → Int} : cart p [] = .nil := by rw [cart, dif_pos rfl]
theorem cart_cons {p : Nat → Int} {l : List Nat} (h : l ≠ []) : cart p l = .nd (cart p (l.take (best p l))) (l.getD (best p l) 0) (cart p (l.drop (best p l + 1))) := by rw [cart, dif_neg h]
theorem split_at {l : List Nat} {b : Nat} (h : b < l.length) : l = l.take b ++ l.getD b 0 :: l.drop (b + 1) := by
 rw [List.getD_eq_getElem?_getD, List.getElem?_eq_getElem h, Option.getD_some]
 have := List.drop_eq_getElem_cons h
 rw [← this, List.take_append_drop]
theorem pl_cart {p : Nat → Int} : ∀ (n : Nat) (l : List Nat), l.length = n → pl (cart p l) = l := by
 intro n
 induction n using Nat.strongRecOn with
 | ind n ih =>
  intro l hl
  by_cases h : l = []
  ·subst h; rw [cart_nil]; rfl
  ·have hb := best_lt (p := p) h
   rw [cart_cons h, pl, ih (l.take (best p l)).length (by simp; omega) _ rfl, ih (l.drop (best p l + 1)).length (by simp; omega) _ rfl]
   exact (split_at hb).symm
def KA (N : List Nd) (l : List Nat) : Prop := l.Pairwise fun a b => ky (nn N a) < ky (nn N b)
theorem Hp_pri {N : List Nd} : ∀ {T : TT} {t : Nd}, Hp N T (some t) → ∀ x ∈ pl T, pri t ≤ pri (nn N x) ∧ (pri t = pri (nn N x) → ky t < ky (nn N x))
 | .nil, t, h, x, hx => by cases hx
 | .nd l i r, t, h, x, hx => by
  obtain ⟨h1, h2, h3⟩ := h
  have h0 := h1 t rfl
  unfold abv at h0
  have hi : pri t ≤ pri (nn N i) ∧ (pri t = pri (nn N i) → ky t < ky (nn N i)) := by omega
  rw [pl, List.mem_append, List.mem_cons] at hx
  rcases hx with hx | rfl | hx
  ·have := Hp_pri h2 x hx
   refine ⟨by omega, fun e => ?_⟩
   have e2 := this.2 (by omega)
   have e3 := hi.2 (by omega)
   omega
  ·exact hi
  ·have := Hp_pri h3 x hx
   refine ⟨by omega, fun e => ?_⟩
   have e2 := this.2 (by omega)
   have e3 := hi.2 (by omega)
   omega
theorem Bst_mem {N : List Nd} : ∀ {T : TT} {low high : Int}, -1 ≤ low → Bst N T low high → ∀ x ∈ pl T, low < ky (nn N x) ∧ (high = -1 ∨ ky (nn N x) < high)
 | .nil, _, _, _, h, x, hx => by cases hx
 | .nd l i r, low, high, hl, ⟨h1, h2, h3, h4⟩, x, hx => by
  rw [pl, List.mem_append, List.mem_cons] at hx
  rcases hx with hx | rfl | hx
  ·have := Bst_mem hl h3 x hx
   refine ⟨this.1, ?_⟩
   rcases this.2 with e | e
   ·omega
   ·rcases h2 with h2 | h2
    ·exact .inl h2
    ·exact .inr (by omega)
  ·exact ⟨h1, h2⟩
  ·have := Bst_mem (by omega) h4 x hx
   exact ⟨by omega, this.2⟩
theorem Bst_asc {N : List Nd} : ∀ {T : TT} {low high : Int}, -1 ≤ low → Bst N T low high → KA N (pl T)
 | .nil, _, _, _, _ => .nil
 | .nd l i r, low, high, hl, ⟨h1, h2, h3, h4⟩ => by
  refine List.pairwise_append.2 ⟨Bst_asc hl h3, List.pairwise_cons.2 ⟨fun x hx => (Bst_mem (by omega) h4 x hx).1, Bst_asc (by omega) h4⟩, fun a ha b hb => ?_⟩
  have h5 := Bst_mem hl h3 a ha
  have h6 : ky (nn N a) < ky (nn N i) := by
   rcases h5.2 with e | e <;> omega
  rcases List.mem_cons.1 hb with rfl | hb
  ·exact h6
  ·have := (Bst_mem (by omega) h4 b hb).1
   omega
theorem cart_of {N : List Nd} : ∀ {T : TT} {low high : Int} {top : Option Nd}, -1 ≤ low → Bst N T low high → Hp N T top → cart (fun i => pri (nn N i)) (pl T) = T
 | .nil, _, _, _, _, _, _ => cart_nil
 | .nd l i r, low, high, top, hl, hb, hh => by
  have hb0 := hb
  obtain ⟨h1, h2, h3, h4⟩ := hb
  obtain ⟨g1, g2, g3⟩ := hh
  have hne : pl (.nd l i r) ≠ [] := by rw [pl]; simp
  have hi : (pl (.nd l i r)).getD (pl l).length 0 = i := by
   rw [pl, List.getD_eq_getElem?_getD, List.getElem?_append_right (Nat.le_refl _)]; simp
  have hbest : best (fun i => pri (nn N i)) (pl (.nd l i r)) = (pl l).length := by
   refine isBest_uniq (best_ok hne) ⟨by rw [pl]; simp, fun k hk => ?_, fun k hk1 hk2 => ?_⟩
   ·rw [hi]
    have hk' : (pl (.nd l i r)).getD k 0 = (pl l)[k] := by
     rw [pl, List.getD_eq_getElem?_getD, List.getElem?_append_left hk, List.getElem?_eq_getElem hk, Option.getD_some]
    rw [hk']
    have hm : (pl l)[k] ∈ pl l := List.getElem_mem hk
    have a1 := Hp_pri g2 _ hm
    have a2 := (Bst_mem hl h3 _ hm).2
    have a3 : ky (nn N (pl l)[k]) < ky (nn N i) := by rcases a2 with e | e <;> omega
    have : ¬ pri (nn N i) = pri (nn N (pl l)[k]) := fun e => by have := a1.2 e; omega
    have := a1.1
    show pri (nn N i) < pri (nn N (pl l)[k])
    omega
   ·rw [hi]
    show pri (nn N i) ≤ pri (nn N ((pl (.nd l i r)).getD k 0))
    by_cases hk : k = (pl l).length
    ·rw [hk, hi]; exact Int.le_refl _
    ·have hm : (pl (.nd l i r)).getD k 0 ∈ pl r := by
      rw [pl] at hk2 ⊢
      rw [List.getD_eq_getElem?_getD, List.getElem?_append_right (by omega)]
      obtain ⟨j, hj⟩ : ∃ j, k - (pl l).length = j + 1 := ⟨k - (pl l).length - 1, by omega⟩
      rw [hj, List.getElem?_cons_succ]
      have hjl : j < (pl r).length := by
       rw [List.length_append, List.length_cons] at hk2; omega
      rw [List.getElem?_eq_getElem hjl, Option.getD_some]
      exact List.getElem_mem hjl
     exact (Hp_pri g3 _ hm).1
  rw [cart_cons hne, hbest, hi]
  have e1 : (pl (.nd l i r)).take (pl l).length = pl l := by rw [pl]; exact List.take_left
  have e2 : (pl (.nd l i r)).drop ((pl l).length + 1) = pl r := by
   rw [pl, ← List.drop_drop, List.drop_left]; rfl
  rw [e1, e2, cart_of hl h3 g2, cart_of (by omega) h4 g3]
theorem getD_take {l : List Nat} {b k : Nat} (h : k < b) : (l.take b).getD k 0 = l.getD k 0 := by
 rw [List.getD_eq_getElem?_getD, List.getElem?_take_of_lt h, ← List.getD_eq_getElem?_getD]
theorem getD_drop' {l : List Nat} {b k : Nat} : (l.drop b).getD k 0 = l.getD (b + k) 0 := by
 rw [List.getD_eq_getElem?_getD, List.getElem?_drop, ← List.getD_eq_getElem?_getD]
theorem mem_getD {l : List Nat} {x : Nat} (h : x ∈ l) : ∃ k, k < l.length ∧ l.getD k 0 = x := by
 obtain ⟨k, hk, rfl⟩ := List.getElem_of_mem h
 exact ⟨k, hk, by rw [List.getD_eq_getElem?_getD, List.getElem?_eq_getElem hk, Option.getD_some]⟩
theorem cart_good {N : List Nd} : ∀ (n : Nat) (l : List Nat), l.length = n → ∀ {low high : Int} {top : Option Nd}, KA N l → (∀ x ∈ l, low < ky (nn N x) ∧ (high = -1 ∨ ky (nn N x) < high)) → (∀ x ∈ l, ∀ t, top = some t → abv t (nn N x)) →
  Bst N (cart (fun i => pri (nn N i)) l) low high ∧ Hp N (cart (fun i => pri (nn N i)) l) top := by
 intro n
 induction n using Nat.strongRecOn with
 | ind n ih =>
  intro l hl low high top hk hb ht
  by_cases h : l = []
  ·subst h; rw [cart_nil]; exact ⟨trivial, trivial⟩
  ·have hbt := best_lt (p := fun i => pri (nn N i)) h
   obtain ⟨_, b2, b3⟩ := best_ok (p := fun i => pri (nn N i)) h
   rw [cart_cons h]
   generalize best (fun i => pri (nn N i)) l = b at *
   have hsp := split_at hbt
   have hmem : l.getD b 0 ∈ l := by rw [List.getD_eq_getElem?_getD, List.getElem?_eq_getElem hbt, Option.getD_some]; exact List.getElem_mem hbt
   have hk' := hk
   unfold KA at hk'
   rw [hsp] at hk'
   obtain ⟨k1, k2, k3⟩ := List.pairwise_append.1 hk'
   obtain ⟨k4, k5⟩ := List.pairwise_cons.1 k2
   have hi := hb _ hmem
   have low1 : ∀ x ∈ l.take b, low < ky (nn N x) ∧ (ky (nn N (l.getD b 0)) = -1 ∨ ky (nn N x) < ky (nn N (l.getD b 0))) := fun x hx => ⟨(hb x (List.mem_of_mem_take hx)).1, .inr (k3 x hx _ (by simp))⟩
   have top1 : ∀ x ∈ l.take b, ∀ t, some (nn N (l.getD b 0)) = some t → abv t (nn N x) := by
    intro x hx t e
    cases e
    obtain ⟨k, hk1, hk2⟩ := mem_getD hx
    have hkb : k < b := by rw [List.length_take] at hk1; omega
    rw [getD_take hkb] at hk2
    have := b2 k hkb
    rw [hk2] at this
    exact .inl this
   have low2 : ∀ x ∈ l.drop (b + 1), ky (nn N (l.getD b 0)) < ky (nn N x) ∧ (high = -1 ∨ ky (nn N x) < high) := fun x hx => ⟨k4 x hx, (hb x (List.mem_of_mem_drop hx)).2⟩
   have top2 : ∀ x ∈ l.drop (b + 1), ∀ t, some (nn N (l.getD b 0)) = some t → abv t (nn N x) := by
    intro x hx t e
    cases e
    have hkx := k4 x hx
    obtain ⟨k, hk1, hk2⟩ := mem_getD hx
    rw [List.length_drop] at hk1
    rw [getD_drop'] at hk2
    have := b3 (b + 1 + k) (by omega) (by omega)
    rw [hk2] at this
    have this : pri (nn N (l.getD b 0)) ≤ pri (nn N x) := this
    unfold abv
    omega
   obtain ⟨i1, i2⟩ := ih (l.take b).length (by simp; omega) (l.take b) rfl (top := some (nn N (l.getD b 0))) k1 low1 top1
   obtain ⟨i3, i4⟩ := ih (l.drop (b + 1)).length (by simp; omega) (l.drop (b + 1)) rfl (top := some (nn N (l.getD b 0))) k5 low2 top2
   exact ⟨⟨hi.1, hi.2, i1, i3⟩, ⟨fun t e => ht _ hmem t e, i2, i4⟩⟩
theorem mk_get : ∀ {T : TT} {m : List Bool} {j : Nat}, (mk m T).getD j true = true ↔ m.getD j true = true ∨ j ∈ pl T
 | .nil, m, j => by simp [mk, pl]
 | .nd l i r, m, j => by
  rw [mk, mk_get, mk_get, pl, List.mem_append, List.mem_cons]
  have : (m.set i true).getD j true = true ↔ m.getD j true = true ∨ j = i := by
   by_cases h : i = j
   ·subst h
    by_cases hi : i < m.length
    ·simp [List.getD_eq_getElem?_getD, List.getElem?_set, hi]
    ·simp [List.getD_eq_getElem?_getD, List.getElem?_set, hi]
   ·have h' : ¬ j = i := fun e => h e.symm
    simp [List.getD_eq_getElem?_getD, List.getElem?_set, h, h']
  rw [this]
  constructor
  ·rintro ((h | h) | h)
   ·rcases h with h | h
    ·exact .inl h
    ·exact .inr (.inr (.inl h))
   ·exact .inr (.inl h)
   ·exact .inr (.inr (.inr h))
  ·rintro (h | h | h | h)
   ·exact .inl (.inl (.inl h))
   ·exact .inl (.inr h)
   ·exact .inl (.inl (.inr h))
   ·exact .inr h
theorem mk_no {T : TT} {m : List Bool} {j : Nat} : (mk m T).getD j true = false ↔ m.getD j true = false ∧ j ∉ pl T := by
 have h := mk_get (T := T) (m := m) (j := j)
 constructor
 ·intro e
  refine ⟨?_, fun hj => ?_⟩
  ·cases h2 : m.getD j true
   ·rfl
   ·rw [h.2 (.inl h2)] at e; cases e
  ·rw [h.2 (.inr hj)] at e; cases e
 ·rintro ⟨e1, e2⟩
  cases h2 : (mk m T).getD j true
  ·rfl
  ·rcases h.1 h2 with e | e
   ·rw [e1] at e; cases e
   ·exact absurd e e2
theorem set_no {m : List Bool} {i j : Nat} (h : m.getD j true = false) (hne : j ≠ i) : (m.set i true).getD j true = false := by
 rw [List.getD_eq_getElem?_getD, List.getElem?_set_ne (by omega), ← List.getD_eq_getElem?_getD]; exact h
theorem Fr_of : ∀ {T : TT} {m : List Bool}, (pl T).Nodup → (∀ x ∈ pl T, m.getD x true = false) → Fr m T
 | .nil, m, _, _ => trivial
 | .nd l i r, m, hn, hm => by
  rw [pl] at hn hm
  obtain ⟨n1, n2, n3⟩ := List.nodup_append.1 hn
  obtain ⟨n4, n5⟩ := List.nodup_cons.1 n2
  have hi := hm i (by simp)
  refine ⟨⟨Fr_lt hi, hi⟩, Fr_of n1 fun x hx => set_no (hm x (by simp [hx])) (fun e => n3 x hx i (by simp) e), Fr_of n5 fun x hx => ?_⟩
  refine mk_no.2 ⟨set_no (hm x (by simp [hx])) (fun e => n4 (e ▸ hx)), fun h => n3 x h x (by simp [hx]) rfl⟩
theorem Fr_nodup : ∀ {T : TT} {m : List Bool}, Fr m T → (pl T).Nodup ∧ ∀ x ∈ pl T, m.getD x true = false
 | .nil, m, _ => ⟨List.nodup_nil, fun x hx => by cases hx⟩
 | .nd l i r, m, ⟨⟨h1, h2⟩, h3, h4⟩ => by
  obtain ⟨a1, a2⟩ := Fr_nodup h3
  obtain ⟨b1, b2⟩ := Fr_nodup h4
  have ne : ∀ x, (m.set i true).getD x true = false → x ≠ i ∧ m.getD x true = false := by
   intro x hx
   by_cases e : x = i
   ·subst e
    rw [List.getD_eq_getElem?_getD, List.getElem?_set_self h1] at hx
    cases hx
   ·refine ⟨e, ?_⟩
    rw [List.getD_eq_getElem?_getD, List.getElem?_set_ne (by omega), ← List.getD_eq_getElem?_getD] at hx
    exact hx
  have c2 : ∀ x ∈ pl r, (x ≠ i ∧ m.getD x true = false) ∧ x ∉ pl l := fun x hx => by
   obtain ⟨q1, q2⟩ := mk_no.1 (b2 x hx)
   exact ⟨ne x q1, q2⟩
  rw [pl]
  refine ⟨List.nodup_append.2 ⟨a1, List.nodup_cons.2 ⟨fun h => (c2 i h).1.1 rfl, b1⟩, fun x hx y hy e => ?_⟩, fun x hx => ?_⟩
  ·subst e
   rcases List.mem_cons.1 hy with rfl | hy
   ·exact (ne _ (a2 _ hx)).1 rfl
   ·exact (c2 _ hy).2 hx
  ·rcases List.mem_append.1 hx with hx | hx
   ·exact (ne _ (a2 _ hx)).2
   ·rcases List.mem_cons.1 hx with rfl | hx
    ·exact h2
    ·exact (c2 _ hx).1.2
def setLf (x : Nd) (v : Int) : Nd := (x.1, x.2.1, v, x.2.2.2.1, x.2.2.2.2.1, x.2.2.2.2.2)
def setRt (x : Nd) (v : Int) : Nd := (x.1, x.2.1, x.2.2.1, v, x.2.2.2.2.1, x.2.2.2.2.2)
theorem setLf_id {x : Nd} : setLf x (lf x) = x := rfl
theorem setRt_id {x : Nd} : setRt x (rt x) = x := rfl
def wr (N : List Nd) : TT → List Nd
 | .nil => N
 | .nd l i r =>
  let n1 := (wr N l).set i (setLf (nn (wr N l) i) (tp l))
  (wr n1 r).set i (setRt (nn (wr n1 r) i) (tp r))
theorem nn_set {N : List Nd} {i j : Nat} {x : Nd} : nn (N.set i x) j = if i = j ∧ i < N.length then x else nn N j := by
 unfold nn
 rw [List.getD_eq_getElem?_getD, List.getElem?_set]
 by_cases h : i = j
 ·subst h
  by_cases hi : i < N.length
  ·simp [hi]
  ·simp [hi]
 ·simp [h]
theorem wr_len : ∀ {T : TT} {N : List Nd}, (wr N T).length = N.length
 | .nil, N => rfl
 | .nd l i r, N => by rw [wr]; simp only [List.length_set, wr_len]
def sameN (x y : Nd) : Prop := ky x = ky y ∧ pri x = pri y ∧ x.2.2.2.2 = y.2.2.2.2
theorem sameN.trans {x y z : Nd} (a : sameN x y) (b : sameN y z) : sameN x z := ⟨a.1.trans b.1, a.2.1.trans b.2.1, a.2.2.trans b.2.2⟩
theorem wr_same : ∀ {T : TT} {N : List Nd} {j : Nat}, sameN (nn (wr N T) j) (nn N j)
 | .nil, N, j => ⟨rfl, rfl, rfl⟩
 | .nd l i r, N, j => by
  have s1 : ∀ (M : List Nd) (k : Nat) (v : Int), sameN (nn (M.set k (setLf (nn M k) v)) j) (nn M j) := by
   intro M k v
   rw [nn_set]
   split
   ·rename_i h
    rw [h.1]; exact ⟨rfl, rfl, rfl⟩
   ·exact ⟨rfl, rfl, rfl⟩
  have s2 : ∀ (M : List Nd) (k : Nat) (v : Int), sameN (nn (M.set k (setRt (nn M k) v)) j) (nn M j) := by
   intro M k v
   rw [nn_set]
   split
   ·rename_i h
    rw [h.1]; exact ⟨rfl, rfl, rfl⟩
   ·exact ⟨rfl, rfl, rfl⟩
  rw [wr]
  exact (s2 _ _ _).trans (wr_same.trans ((s1 _ _ _).trans wr_same))
theorem wr_out : ∀ {T : TT} {N : List Nd} {j : Nat}, j ∉ pl T → nn (wr N T) j = nn N j
 | .nil, N, j, _ => rfl
 | .nd l i r, N, j, h => by
  rw [pl, List.mem_append, List.mem_cons] at h
  have h1 : ¬ j ∈ pl l := fun e => h (.inl e)
  have h2 : ¬ i = j := fun e => h (.inr (.inl e.symm))
  have h3 : ¬ j ∈ pl r := fun e => h (.inr (.inr e))
  rw [wr]
  rw [nn_set, if_neg (fun e => h2 e.1), wr_out h3, nn_set, if_neg (fun e => h2 e.1), wr_out h1]
theorem set_nn {N : List Nd} {i : Nat} : N.set i (nn N i) = N := by
 by_cases h : i < N.length
 ·apply List.ext_getElem (by simp)
  intro n h1 h2
  rw [List.getElem_set]
  split
  ·rename_i e
   subst e
   unfold nn
   rw [List.getD_eq_getElem?_getD, List.getElem?_eq_getElem h, Option.getD_some]
  ·rfl
 ·rw [List.set_eq_of_length_le (by omega)]
theorem wr_id : ∀ {T : TT} {N : List Nd}, Rep N T → wr N T = N
 | .nil, N, _ => rfl
 | .nd l i r, N, ⟨h1, h2, h3, h4, h5⟩ => by
  rw [wr, wr_id h4]
  rw [← h2, setLf_id, set_nn, wr_id h5, ← h3, setRt_id, set_nn]
theorem Rep_congr {N M : List Nd} (hl : M.length = N.length) : ∀ {T : TT}, (∀ x ∈ pl T, nn M x = nn N x) → Rep N T → Rep M T
 | .nil, _, _ => trivial
 | .nd l i r, h, ⟨h1, h2, h3, h4, h5⟩ => by
  have hi := h i (by simp [pl])
  exact ⟨by omega, by rw [hi]; exact h2, by rw [hi]; exact h3, Rep_congr hl (fun x hx => h x (by simp [pl, hx])) h4, Rep_congr hl (fun x hx => h x (by simp [pl, hx])) h5⟩
theorem wr_rep : ∀ {T : TT} {N : List Nd}, (pl T).Nodup → (∀ x ∈ pl T, x < N.length) → Rep (wr N T) T
 | .nil, N, _, _ => trivial
 | .nd l i r, N, hn, hlt => by
  rw [pl] at hn hlt
  obtain ⟨n1, n2, n3⟩ := List.nodup_append.1 hn
  obtain ⟨n4, n5⟩ := List.nodup_cons.1 n2
  have hi := hlt i (by simp)
  have hil : i ∉ pl l := fun h => n3 i h i (by simp) rfl
  have ihl := wr_rep (N := N) n1 fun x hx => hlt x (by simp [hx])
  rw [wr]
  generalize hn1 : (wr N l).set i (setLf (nn (wr N l) i) (tp l)) = M1
  have l1 : M1.length = N.length := by rw [← hn1, List.length_set, wr_len]
  have ihr := wr_rep (T := r) (N := M1) n5 fun x hx => by rw [l1]; exact hlt x (by simp [hx])
  have e1 : nn M1 i = setLf (nn (wr N l) i) (tp l) := by rw [← hn1, nn_set, if_pos ⟨rfl, by rw [wr_len]; exact hi⟩]
  have e2 : nn (wr M1 r) i = nn M1 i := wr_out n4
  have l2 : (wr M1 r).length = N.length := by rw [wr_len, l1]
  have e3 : ∀ x, x ≠ i → nn ((wr M1 r).set i (setRt (nn (wr M1 r) i) (tp r))) x = nn (wr M1 r) x := fun x hx => by rw [nn_set, if_neg (fun e => hx e.1.symm)]
  have e4 : nn ((wr M1 r).set i (setRt (nn (wr M1 r) i) (tp r))) i = setRt (setLf (nn (wr N l) i) (tp l)) (tp r) := by rw [nn_set, if_pos ⟨rfl, by omega⟩, e2, e1]
  refine ⟨by rw [List.length_set, l2]; exact hi, by rw [e4]; rfl, by rw [e4]; rfl, ?_, ?_⟩
  ·refine Rep_congr (by rw [List.length_set, l2, wr_len]) (fun x hx => ?_) ihl
   have hxi : x ≠ i := fun e => hil (e ▸ hx)
   rw [e3 x hxi, wr_out (fun h => n3 x hx x (by simp [h]) rfl), ← hn1, nn_set, if_neg (fun e => hxi e.1.symm)]
  ·refine Rep_congr (by rw [List.length_set]) (fun x hx => ?_) ihr
   exact e3 x fun e => n4 (e ▸ hx)
def insP (N : List Nd) (i : Nat) : List Nat → List Nat
 | [] => [i]
 | x :: r => if ky (nn N x) < ky (nn N i) then x :: insP N i r else i :: x :: r
def srt (N : List Nd) : List Nat → List Nat → List Nat
 | [], out => out
 | i :: r, out => srt N r (insP N i out)
theorem insP_perm {N : List Nd} {i : Nat} : ∀ {l : List Nat}, (insP N i l).Perm (i :: l)
 | [] => .refl _
 | x :: r => by
  rw [insP]
  split
  ·exact (insP_perm.cons x).trans (.swap i x r)
  ·exact .refl _
theorem srt_perm {N : List Nd} : ∀ {r out : List Nat}, (srt N r out).Perm (r ++ out)
 | [], out => .refl _
 | i :: r, out => by
  rw [srt]
  refine srt_perm.trans ((List.Perm.append_left r insP_perm).trans ?_)
  exact List.perm_middle
abbrev KL (N : List Nd) (l : List Nat) : Prop := l.Pairwise fun a b => ky (nn N a) ≤ ky (nn N b)
theorem insP_le {N : List Nd} {i : Nat} : ∀ {l : List Nat}, KL N l → KL N (insP N i l)
 | [], _ => by simp [insP]
 | x :: r, h => by
  have h := List.pairwise_cons.1 h
  rw [insP]
  split
  ·rename_i hx
   refine List.pairwise_cons.2 ⟨fun z hz => ?_, insP_le h.2⟩
   rcases List.mem_cons.1 (insP_perm.mem_iff.1 hz) with rfl | hz
   ·omega
   ·exact h.1 z hz
  ·rename_i hx
   refine List.pairwise_cons.2 ⟨fun z hz => ?_, List.pairwise_cons.2 h⟩
   rcases List.mem_cons.1 hz with rfl | hz
   ·omega
   ·have := h.1 z hz; omega
theorem srt_le {N : List Nd} : ∀ {r out : List Nat}, KL N out → KL N (srt N r out)
 | [], _, h => h
 | i :: r, out, h => by rw [srt]; exact srt_le (insP_le h)
theorem ka_ext {N : List Nd} : ∀ {l m : List Nat}, KA N l → KA N m → (∀ x, x ∈ l ↔ x ∈ m) → l = m
 | [], [], _, _, _ => rfl
 | [], y :: m, _, _, h => by have := (h y).2 (by simp); cases this
 | x :: l, [], _, _, h => by have := (h x).1 (by simp); cases this
 | x :: l, y :: m, hl, hm, h => by
  have hl := List.pairwise_cons.1 hl
  have hm := List.pairwise_cons.1 hm
  have hxy : x = y := by
   rcases List.mem_cons.1 ((h x).1 (by simp)) with e | e
   ·exact e
   ·rcases List.mem_cons.1 ((h y).2 (by simp)) with f | f
    ·exact f.symm
    ·have := hm.1 x e
     have := hl.1 y f
     omega
  subst hxy
  congr 1
  refine ka_ext hl.2 hm.2 fun z => ⟨fun hz => ?_, fun hz => ?_⟩
  ·rcases List.mem_cons.1 ((h z).1 (by simp [hz])) with e | e
   ·have := hl.1 z hz; rw [e] at this; omega
   ·exact e
  ·rcases List.mem_cons.1 ((h z).2 (by simp [hz])) with e | e
   ·have := hm.1 z hz; rw [e] at this; omega
   ·exact e
def rst (n : Nat) (F : List Nat) : List Nat := (List.range n).filter fun i => decide (i ∉ F)
theorem mem_rst {n : Nat} {F : List Nat} {x : Nat} : x ∈ rst n F ↔ x < n ∧ x ∉ F := by
 unfold rst
 rw [List.mem_filter, List.mem_range]
 simp
theorem rst_nodup {n : Nat} {F : List Nat} : (rst n F).Nodup := List.nodup_range.filter _
abbrev prF (N : List Nd) : Nat → Int := fun i => pri (nn N i)
def TR (N : List Nd) (root : Int) (F : List Nat) (T : TT) : Prop := root = tp T ∧ Rep N T ∧ Bst N T (-1) (-1) ∧ Hp N T none ∧ (pl T).Nodup ∧ ∀ x, x ∈ pl T ↔ x < N.length ∧ x ∉ F
def lst (N : List Nd) (F : List Nat) : List Nat := srt N (rst N.length F) []
theorem mem_lst {N : List Nd} {F : List Nat} {x : Nat} : x ∈ lst N F ↔ x < N.length ∧ x ∉ F := by
 unfold lst
 rw [srt_perm.mem_iff, List.append_nil, mem_rst]
theorem lst_nodup {N : List Nd} {F : List Nat} : (lst N F).Nodup := by
 have : (rst N.length F ++ []).Nodup := by rw [List.append_nil]; exact rst_nodup
 exact (srt_perm (N := N) (r := rst N.length F) (out := [])).nodup_iff.2 this
def TR0 (N : List Nd) (F : List Nat) (T : TT) : Prop := Bst N T (-1) (-1) ∧ Hp N T none ∧ (pl T).Nodup ∧ ∀ x, x ∈ pl T ↔ x < N.length ∧ x ∉ F
theorem TR.tr0 {N : List Nd} {root : Int} {F : List Nat} {T : TT} (h : TR N root F T) : TR0 N F T := ⟨h.2.2.1, h.2.2.2.1, h.2.2.2.2.1, h.2.2.2.2.2⟩
theorem lst_of0 {N : List Nd} {F : List Nat} {T : TT} (h : TR0 N F T) : lst N F = pl T := by
 obtain ⟨h3, _, h5, h6⟩ := h
 have hk := Bst_asc (by omega) h3
 have hp : (lst N F).Perm (pl T) := (List.perm_ext_iff_of_nodup lst_nodup h5).2 fun x => by rw [mem_lst, h6]
 have hd : (pl T).Pairwise fun a b => ky (nn N a) ≠ ky (nn N b) := hk.imp fun h => by omega
 have hd2 : (lst N F).Pairwise fun a b => ky (nn N a) ≠ ky (nn N b) := (hp.pairwise_iff (fun h => Ne.symm h)).2 hd
 have hle : KL N (lst N F) := srt_le .nil
 exact ka_ext ((List.Pairwise.and hle hd2).imp fun ⟨a, b⟩ => by omega) hk fun x => hp.mem_iff
theorem lst_of {N : List Nd} {root : Int} {F : List Nat} {T : TT} (h : TR N root F T) : lst N F = pl T := lst_of0 h.tr0
theorem cart_lst0 {N : List Nd} {F : List Nat} {T : TT} (h : TR0 N F T) : cart (prF N) (lst N F) = T := by
 rw [lst_of0 h]
 exact cart_of (by omega) h.1 h.2.1
theorem cart_lst {N : List Nd} {root : Int} {F : List Nat} {T : TT} (h : TR N root F T) : cart (prF N) (lst N F) = T := by
 rw [lst_of h]
 exact cart_of (by omega) h.2.2.1 h.2.2.2.1
theorem ref_iff {N : List Nd} {root : Int} {F : List Nat} : (∃ T, TR N root F T) ↔ ((∀ x ∈ lst N F, 0 ≤ ky (nn N x)) ∧ KA N (lst N F)) ∧ root = tp (cart (prF N) (lst N F)) ∧ wr N (cart (prF N) (lst N F)) = N := by
 constructor
 ·rintro ⟨T, h⟩
  rw [cart_lst h]
  have hl := lst_of h
  obtain ⟨h1, h2, h3, h4, h5, h6⟩ := h
  rw [hl]
  exact ⟨⟨fun x hx => by have := (Bst_mem (by omega) h3 x hx).1; omega, Bst_asc (by omega) h3⟩, h1, wr_id h2⟩
 ·rintro ⟨⟨h1, h2⟩, h3, h4⟩
  have hp : pl (cart (prF N) (lst N F)) = lst N F := pl_cart _ _ rfl
  obtain ⟨g1, g2⟩ := cart_good (N := N) _ (lst N F) rfl (low := -1) (high := -1) (top := none) h2 (fun x hx => ⟨by have := h1 x hx; omega, .inl rfl⟩) (fun x hx t e => by cases e)
  have hr := wr_rep (N := N) (T := cart (prF N) (lst N F)) (by rw [hp]; exact lst_nodup) (fun x hx => by rw [hp] at hx; exact (mem_lst.1 hx).1)
  rw [h4] at hr
  exact ⟨_, h3, hr, g1, g2, by rw [hp]; exact lst_nodup, fun x => by rw [hp]; exact mem_lst⟩
theorem prog_iff {N : List Nd} {root : Int} {F : List Nat} {m : List Bool} {f : Nat} (hm : m.length = N.length) (hF : ∀ j, j < N.length → (m.getD j true = true ↔ j ∈ F)) (hf : un m < f) :
  (∃ T, TR N root F T) ↔ ∃ m', undF N f root (-1) (-1) none m = some (true, m') ∧ ∀ j, m'.getD j true = true := by
 have hge : ∀ j, N.length ≤ j → m.getD j true = true := fun j hj => by rw [List.getD_eq_getElem?_getD, List.getElem?_eq_none (by omega)]; rfl
 constructor
 ·rintro ⟨T, h1, h2, h3, h4, h5, h6⟩
  have hno : ∀ x ∈ pl T, m.getD x true = false := by
   intro x hx
   obtain ⟨a, b⟩ := (h6 x).1 hx
   cases hq : m.getD x true
   ·rfl
   ·exact absurd ((hF x a).1 hq) b
  obtain ⟨e, _⟩ := undF_ok h2 h3 h4 (Fr_of h5 hno) hf
  rw [← h1] at e
  refine ⟨_, e, fun j => mk_get.2 ?_⟩
  by_cases hj : j < N.length
  ·by_cases hjF : j ∈ F
   ·exact .inl ((hF j hj).2 hjF)
   ·exact .inr ((h6 j).2 ⟨hj, hjF⟩)
  ·exact .inl (hge j (by omega))
 ·rintro ⟨m', e, hall⟩
  obtain ⟨T, h1, h2, h3, h4, h5, rfl⟩ := undF_yes hm e
  obtain ⟨n1, n2⟩ := Fr_nodup h5
  refine ⟨T, h1, h2, h3, h4, n1, fun x => ⟨fun hx => ?_, fun ⟨a, b⟩ => ?_⟩⟩
  ·have hx2 := n2 x hx
   have hlt := Fr_lt hx2
   rw [hm] at hlt
   refine ⟨hlt, fun hF' => ?_⟩
   rw [(hF x hlt).2 hF'] at hx2
   cases hx2
  ·rcases mk_get.1 (hall x) with h | h
   ·exact absurd ((hF x a).1 h) b
   ·exact h
def isE (n : Nd) : Prop := n = (-1, 0, lf n, -1, -1, -1)
instance (n : Nd) : Decidable (isE n) := by unfold isE; infer_instance
def frF (N : List Nd) : Nat → Int → List Nat → Option (List Nat)
 | 0, _, _ => none
 | f + 1, a, acc => if a = -1 then some acc else if (0 ≤ a ∧ a < (N.length : Int) ∧ a.toNat ∉ acc) ∧ isE (nn N a.toNat) then frF N f (lf (nn N a.toNat)) (acc ++ [a.toNat]) else none
theorem frF_ok {N : List Nd} : ∀ {f : Nat} {a : Int} {acc F : List Nat}, (∀ x ∈ acc, x < N.length ∧ isE (nn N x)) → acc.Nodup → frF N f a acc = some F → (∀ x ∈ F, x < N.length ∧ isE (nn N x)) ∧ F.Nodup ∧ ∀ x ∈ acc, x ∈ F
 | 0, a, acc, F, _, _, h => by cases h
 | f + 1, a, acc, F, h1, h2, h => by
  rw [frF] at h
  split at h
  ·cases h; exact ⟨h1, h2, fun x hx => hx⟩
  ·split at h
   ·rename_i hc
    obtain ⟨g1, g2, g3⟩ := frF_ok (fun x hx => by
     rcases List.mem_append.1 hx with hx | hx
     ·exact h1 x hx
     ·rw [List.mem_singleton] at hx
      subst hx
      exact ⟨by have := hc.1.2.1; omega, hc.2⟩) (List.nodup_append.2 ⟨h2, by simp, fun x hx y hy e => by
       rw [List.mem_singleton] at hy
       subst hy; subst e
       exact hc.1.2.2 hx⟩) h
    exact ⟨g1, g2, fun x hx => g3 x (List.mem_append_left _ hx)⟩
   ·cases h
theorem nodup_len : ∀ {n : Nat} {l : List Nat}, l.Nodup → (∀ x ∈ l, x < n) → l.length ≤ n
 | 0, [], _, _ => Nat.le_refl _
 | 0, x :: l, _, h => by have := h x (by simp); omega
 | n + 1, l, h, hl => by
  have h1 := List.length_eq_countP_add_countP (fun x => x == n) (l := l)
  have h2 : l.countP (fun x => x == n) ≤ 1 := List.nodup_iff_count.1 h n
  have h3 := nodup_len (n := n) (l := l.filter fun a => decide (¬ (a == n) = true)) (h.filter _) (fun x hx => by
   rw [List.mem_filter] at hx
   have := hl x hx.1
   have h4 := hx.2
   simp at h4
   omega)
  rw [← List.countP_eq_length_filter] at h3
  omega
structure Ch (N M : List Nd) (S : List Nat) : Prop where
 len : M.length = N.length
 out : ∀ j, j ∉ S → nn M j = nn N j
 same : ∀ j, sameN (nn M j) (nn N j)
theorem Ch.refl {N : List Nd} {S : List Nat} : Ch N N S := ⟨rfl, fun _ _ => rfl, fun _ => ⟨rfl, rfl, rfl⟩⟩
theorem Ch.trans {N M K : List Nd} {S : List Nat} (a : Ch N M S) (b : Ch M K S) : Ch N K S := ⟨b.len.trans a.len, fun j h => (b.out j h).trans (a.out j h), fun j => (b.same j).trans (a.same j)⟩
theorem Ch.mono {N M : List Nd} {S S' : List Nat} (a : Ch N M S) (h : ∀ x ∈ S, x ∈ S') : Ch N M S' := ⟨a.len, fun j hj => a.out j fun hx => hj (h j hx), a.same⟩
theorem ch_rt {N : List Nd} {i : Nat} {v : Int} {S : List Nat} (h : i ∈ S) : Ch N (N.set i (setRt (nn N i) v)) S := by
 refine ⟨by rw [List.length_set], fun j hj => ?_, fun j => ?_⟩
 ·rw [nn_set, if_neg (fun (e : i = j ∧ i < N.length) => hj (e.1 ▸ h))]
 ·rw [nn_set]
  split
  ·rename_i e; rw [e.1]; exact ⟨rfl, rfl, rfl⟩
  ·exact ⟨rfl, rfl, rfl⟩
theorem ch_lf {N : List Nd} {i : Nat} {v : Int} {S : List Nat} (h : i ∈ S) : Ch N (N.set i (setLf (nn N i) v)) S := by
 refine ⟨by rw [List.length_set], fun j hj => ?_, fun j => ?_⟩
 ·rw [nn_set, if_neg (fun (e : i = j ∧ i < N.length) => hj (e.1 ▸ h))]
 ·rw [nn_set]
  split
  ·rename_i e; rw [e.1]; exact ⟨rfl, rfl, rfl⟩
  ·exact ⟨rfl, rfl, rfl⟩
theorem Ch.pri {N M : List Nd} {S : List Nat} (a : Ch N M S) (j : Nat) : pri (nn M j) = pri (nn N j) := (a.same j).2.1
theorem Ch.rep {N M : List Nd} {S : List Nat} (a : Ch N M S) {T : TT} (h : Rep N T) (hd : ∀ x ∈ pl T, x ∉ S) : Rep M T := Rep_congr a.len (fun x hx => a.out x (hd x hx)) h
theorem bst_same {N M : List Nd} (h : ∀ j, ky (nn M j) = ky (nn N j)) : ∀ {T : TT} {low high : Int}, Bst N T low high → Bst M T low high
 | .nil, _, _, _ => trivial
 | .nd l i r, low, high, ⟨h1, h2, h3, h4⟩ => by
  unfold Bst
  rw [h i]
  exact ⟨h1, h2, bst_same h h3, bst_same h h4⟩
theorem abv_same {a b c d : Nd} (h1 : sameN a c) (h2 : sameN b d) : abv a b ↔ abv c d := by unfold abv; rw [h1.1, h1.2.1, h2.1, h2.2.1]
theorem hp_top {N : List Nd} {T : TT} {a b : Nd} (h : sameN b a) : Hp N T (some a) → Hp N T (some b) := by
 cases T with
 | nil => exact id
 | nd l i r =>
  rintro ⟨h1, h2⟩
  refine ⟨fun t e => ?_, h2⟩
  cases e
  exact (abv_same h ⟨rfl, rfl, rfl⟩).2 (h1 a rfl)
theorem hp_same {N M : List Nd} (h : ∀ j, sameN (nn M j) (nn N j)) : ∀ {T : TT} {top : Option Nd}, Hp N T top → Hp M T top
 | .nil, _, _ => trivial
 | .nd l i r, top, ⟨h1, h2, h3⟩ => by
  refine ⟨fun t e => (abv_same ⟨rfl, rfl, rfl⟩ (h i)).2 (h1 t e), ?_, ?_⟩
  ·exact hp_top (h i) (hp_same h h2)
  ·exact hp_top (h i) (hp_same h h3)
theorem eq_wr {N M : List Nd} {T : TT} (hc : Ch N M (pl T)) (hr : Rep M T) (hn : (pl T).Nodup) : M = wr N T := by
 have hlt : ∀ x ∈ pl T, x < N.length := by
  have : ∀ {T : TT}, Rep M T → ∀ x ∈ pl T, x < M.length := by
   intro T
   induction T with
   | nil => intro _ x hx; cases hx
   | nd l i r ihl ihr =>
    rintro ⟨h1, _, _, h4, h5⟩ x hx
    rw [pl, List.mem_append, List.mem_cons] at hx
    rcases hx with hx | rfl | hx
    ·exact ihl h4 x hx
    ·exact h1
    ·exact ihr h5 x hx
  intro x hx
  have := this hr x hx
  rw [hc.len] at this
  exact this
 have hw := wr_rep (N := N) hn hlt
 have links : ∀ {T : TT}, Rep M T → Rep (wr N T) T → ∀ {K : TT}, Rep M K → Rep (wr N T) K → ∀ x ∈ pl K, lf (nn M x) = lf (nn (wr N T) x) ∧ rt (nn M x) = rt (nn (wr N T) x) := by
  intro T _ _ K
  induction K with
  | nil => intro _ _ x hx; cases hx
  | nd l i r ihl ihr =>
   rintro ⟨_, a2, a3, a4, a5⟩ ⟨_, b2, b3, b4, b5⟩ x hx
   rw [pl, List.mem_append, List.mem_cons] at hx
   rcases hx with hx | rfl | hx
   ·exact ihl a4 b4 x hx
   ·exact ⟨a2.trans b2.symm, a3.trans b3.symm⟩
   ·exact ihr a5 b5 x hx
 apply List.ext_getElem (by rw [hc.len, wr_len])
 intro j h1 h2
 have key : nn M j = nn (wr N T) j := by
  by_cases hj : j ∈ pl T
  ·obtain ⟨l1, l2⟩ := links hr hw hr hw j hj
   obtain ⟨s1, s2, s3⟩ := (hc.same j).trans ⟨(wr_same (T := T) (N := N) (j := j)).1.symm, (wr_same (T := T) (N := N) (j := j)).2.1.symm, (wr_same (T := T) (N := N) (j := j)).2.2.symm⟩
   exact Prod.ext s1 (Prod.ext s2 (Prod.ext l1 (Prod.ext l2 s3)))
  ·rw [hc.out j hj, wr_out hj]
 unfold nn at key
 rw [List.getD_eq_getElem?_getD, List.getD_eq_getElem?_getD, List.getElem?_eq_getElem h1, List.getElem?_eq_getElem h2] at key
 exact key
def spl (N : List Nd) (key : Int) : TT → TT × TT
 | .nil => (.nil, .nil)
 | .nd l i r => if ky (nn N i) < key then (.nd l i (spl N key r).1, (spl N key r).2) else ((spl N key l).1, .nd (spl N key l).2 i r)
def spN (N : List Nd) (key : Int) : TT → List Nd
 | .nil => N
 | .nd l i r => if ky (nn N i) < key then (spN N key r).set i (setRt (nn (spN N key r) i) (tp (spl N key r).1)) else (spN N key l).set i (setLf (nn (spN N key l) i) (tp (spl N key l).2))
theorem spl_pl {N : List Nd} {key : Int} : ∀ {T : TT}, pl (spl N key T).1 ++ pl (spl N key T).2 = pl T
 | .nil => rfl
 | .nd l i r => by
  rw [spl]
  split
  ·show (pl l ++ i :: pl (spl N key r).1) ++ pl (spl N key r).2 = pl l ++ i :: pl r
   rw [List.append_assoc, List.cons_append, spl_pl]
  ·show pl (spl N key l).1 ++ (pl (spl N key l).2 ++ i :: pl r) = pl l ++ i :: pl r
   rw [← List.append_assoc, spl_pl]
theorem spN_ch {N : List Nd} {key : Int} : ∀ {T : TT}, Ch N (spN N key T) (pl T)
 | .nil => Ch.refl
 | .nd l i r => by
  rw [spN]
  split
  ·exact (spN_ch.mono fun x hx => by simp [pl, hx]).trans (ch_rt (by simp [pl]))
  ·exact (spN_ch.mono fun x hx => by simp [pl, hx]).trans (ch_lf (by simp [pl]))
theorem nodup_parts {l : TT} {i : Nat} {r : TT} (h : (pl (.nd l i r)).Nodup) : (pl l).Nodup ∧ (pl r).Nodup ∧ i ∉ pl l ∧ i ∉ pl r ∧ ∀ x ∈ pl l, x ∉ pl r := by
 rw [pl] at h
 obtain ⟨n1, n2, n3⟩ := List.nodup_append.1 h
 obtain ⟨n4, n5⟩ := List.nodup_cons.1 n2
 exact ⟨n1, n5, fun e => n3 i e i (by simp) rfl, n4, fun x hx hr => n3 x hx x (by simp [hr]) rfl⟩
theorem rep_set_rt {N : List Nd} {l : TT} {i : Nat} {r : TT} (hi : i < N.length) (hl : lf (nn N i) = tp l) (rl : Rep N l) (rr : Rep N r) (nl : i ∉ pl l) (nr : i ∉ pl r) : Rep (N.set i (setRt (nn N i) (tp r))) (.nd l i r) := by
 have e : nn (N.set i (setRt (nn N i) (tp r))) i = setRt (nn N i) (tp r) := by rw [nn_set, if_pos ⟨rfl, hi⟩]
 have c := ch_rt (N := N) (i := i) (v := tp r) (S := [i]) (by simp)
 exact ⟨by rw [List.length_set]; exact hi, by rw [e]; exact hl, by rw [e]; rfl, c.rep rl fun x hx hs => by rw [List.mem_singleton] at hs; exact nl (hs ▸ hx), c.rep rr fun x hx hs => by rw [List.mem_singleton] at hs; exact nr (hs ▸ hx)⟩
theorem rep_set_lf {N : List Nd} {l : TT} {i : Nat} {r : TT} (hi : i < N.length) (hr : rt (nn N i) = tp r) (rl : Rep N l) (rr : Rep N r) (nl : i ∉ pl l) (nr : i ∉ pl r) : Rep (N.set i (setLf (nn N i) (tp l))) (.nd l i r) := by
 have e : nn (N.set i (setLf (nn N i) (tp l))) i = setLf (nn N i) (tp l) := by rw [nn_set, if_pos ⟨rfl, hi⟩]
 have c := ch_lf (N := N) (i := i) (v := tp l) (S := [i]) (by simp)
 exact ⟨by rw [List.length_set]; exact hi, by rw [e]; rfl, by rw [e]; exact hr, c.rep rl fun x hx hs => by rw [List.mem_singleton] at hs; exact nl (hs ▸ hx), c.rep rr fun x hx hs => by rw [List.mem_singleton] at hs; exact nr (hs ▸ hx)⟩
theorem spN_rep {N : List Nd} {key : Int} : ∀ {T : TT}, Rep N T → (pl T).Nodup → Rep (spN N key T) (spl N key T).1 ∧ Rep (spN N key T) (spl N key T).2
 | .nil, _, _ => ⟨trivial, trivial⟩
 | .nd l i r, ⟨h1, h2, h3, h4, h5⟩, hn => by
  obtain ⟨n1, n2, n3, n4, n5⟩ := nodup_parts hn
  rw [spN, spl]
  split
  ·obtain ⟨a, b⟩ := spN_rep (key := key) h5 n2
   have c := spN_ch (N := N) (key := key) (T := r)
   have hp := spl_pl (N := N) (key := key) (T := r)
   have hA : ∀ x ∈ pl (spl N key r).1, x ∈ pl r := fun x hx => by rw [← hp]; simp [hx]
   have hB : ∀ x ∈ pl (spl N key r).2, x ∈ pl r := fun x hx => by rw [← hp]; simp [hx]
   refine ⟨rep_set_rt (by rw [c.len]; exact h1) (by rw [c.out i n4]; exact h2) (c.rep h4 n5) a n3 (fun h => n4 (hA i h)), ?_⟩
   exact (ch_rt (S := [i]) (by simp)).rep b fun x hx hs => by rw [List.mem_singleton] at hs; exact n4 (hs ▸ hB x hx)
  ·obtain ⟨a, b⟩ := spN_rep (key := key) h4 n1
   have c := spN_ch (N := N) (key := key) (T := l)
   have hp := spl_pl (N := N) (key := key) (T := l)
   have hA : ∀ x ∈ pl (spl N key l).1, x ∈ pl l := fun x hx => by rw [← hp]; simp [hx]
   have hB : ∀ x ∈ pl (spl N key l).2, x ∈ pl l := fun x hx => by rw [← hp]; simp [hx]
   refine ⟨?_, rep_set_lf (by rw [c.len]; exact h1) (by rw [c.out i n3]; exact h3) b (c.rep h5 fun x hx hl => n5 x hl hx) (fun h => n3 (hB i h)) n4⟩
   exact (ch_lf (S := [i]) (by simp)).rep a fun x hx hs => by rw [List.mem_singleton] at hs; exact n3 (hs ▸ hA x hx)
def Btw (N : List Nd) (T : TT) (low high : Int) : Prop := ∀ x ∈ pl T, low < ky (nn N x) ∧ (high = -1 ∨ ky (nn N x) < high)
theorem bst_iff {N : List Nd} : ∀ {T : TT} {low high : Int}, (∀ x ∈ pl T, 0 ≤ ky (nn N x)) → (Bst N T low high ↔ KA N (pl T) ∧ Btw N T low high) := by
 intro T
 induction T with
 | nil => intro low high _; exact ⟨fun _ => ⟨.nil, fun x hx => by cases hx⟩, fun _ => trivial⟩
 | nd l i r ihl ihr =>
  intro low high h0
  have hl0 : ∀ x ∈ pl l, 0 ≤ ky (nn N x) := fun x hx => h0 x (by simp [pl, hx])
  have hr0 : ∀ x ∈ pl r, 0 ≤ ky (nn N x) := fun x hx => h0 x (by simp [pl, hx])
  have hi0 := h0 i (by simp [pl])
  constructor
  ·rintro ⟨h1, h2, h3, h4⟩
   obtain ⟨a1, a2⟩ := (ihl hl0).1 h3
   obtain ⟨b1, b2⟩ := (ihr hr0).1 h4
   have ali : ∀ x ∈ pl l, ky (nn N x) < ky (nn N i) := fun x hx => by rcases (a2 x hx).2 with e | e <;> omega
   have bri : ∀ x ∈ pl r, ky (nn N i) < ky (nn N x) := fun x hx => (b2 x hx).1
   refine ⟨List.pairwise_append.2 ⟨a1, List.pairwise_cons.2 ⟨bri, b1⟩, fun a ha b hb => ?_⟩, fun x hx => ?_⟩
   ·rcases List.mem_cons.1 hb with rfl | hb
    ·exact ali a ha
    ·have := ali a ha; have := bri b hb; omega
   ·rw [pl, List.mem_append, List.mem_cons] at hx
    rcases hx with hx | rfl | hx
    ·refine ⟨(a2 x hx).1, ?_⟩
     have := ali x hx
     omega
    ·exact ⟨h1, h2⟩
    ·have := bri x hx
     exact ⟨by omega, (b2 x hx).2⟩
  ·rintro ⟨hk, hb⟩
   have hk' : (pl l ++ i :: pl r).Pairwise fun a b => ky (nn N a) < ky (nn N b) := hk
   obtain ⟨k1, k2, k3⟩ := List.pairwise_append.1 hk'
   obtain ⟨k4, k5⟩ := List.pairwise_cons.1 k2
   have hi := hb i (by simp [pl])
   exact ⟨hi.1, hi.2, (ihl hl0).2 ⟨k1, fun x hx => ⟨(hb x (by simp [pl, hx])).1, .inr (k3 x hx i (by simp))⟩⟩, (ihr hr0).2 ⟨k5, fun x hx => ⟨k4 x hx, (hb x (by simp [pl, hx])).2⟩⟩⟩
theorem hp_weak {N : List Nd} {T : TT} {t : Nd} (h : Hp N T (some t)) : Hp N T none := by
 cases T with
 | nil => trivial
 | nd l i r => exact ⟨(fun t e => by cases e), h.2⟩
theorem hp_any {N : List Nd} {T : TT} {top : Option Nd} (h : Hp N T none) (ht : ∀ t, top = some t → ∀ x ∈ pl T, abv t (nn N x)) : Hp N T top := by
 cases T with
 | nil => trivial
 | nd l i r => exact ⟨fun t e => ht t e i (by simp [pl]), h.2⟩
theorem hp_mem {N : List Nd} {T : TT} {t : Nd} (h : Hp N T (some t)) : ∀ x ∈ pl T, abv t (nn N x) := fun x hx => by
 have := Hp_pri h x hx
 unfold abv
 omega
theorem spl_hp {N : List Nd} {key : Int} : ∀ {T : TT} {top : Option Nd}, Hp N T top → Hp N (spl N key T).1 top ∧ Hp N (spl N key T).2 top
 | .nil, _, _ => ⟨trivial, trivial⟩
 | .nd l i r, top, ⟨h1, h2, h3⟩ => by
  have up : ∀ {K : TT}, Hp N K (some (nn N i)) → Hp N K top := by
   intro K hK
   cases top with
   | none => exact hp_weak hK
   | some t =>
    refine hp_any (hp_weak hK) fun t' e x hx => ?_
    cases e
    have a := h1 t rfl
    have b := hp_mem hK x hx
    unfold abv at a b ⊢
    omega
  rw [spl]
  split
  ·obtain ⟨a, b⟩ := spl_hp (key := key) h3
   exact ⟨⟨h1, h2, a⟩, up b⟩
  ·obtain ⟨a, b⟩ := spl_hp (key := key) h2
   exact ⟨up a, ⟨h1, b, h3⟩⟩
theorem spl_keys {N : List Nd} {key : Int} : ∀ {T : TT}, KA N (pl T) → (∀ x ∈ pl (spl N key T).1, ky (nn N x) < key) ∧ ∀ x ∈ pl (spl N key T).2, key ≤ ky (nn N x)
 | .nil, _ => ⟨(fun x hx => by cases hx), (fun x hx => by cases hx)⟩
 | .nd l i r, hk => by
  have hk' : (pl l ++ i :: pl r).Pairwise fun a b => ky (nn N a) < ky (nn N b) := hk
  obtain ⟨k1, k2, k3⟩ := List.pairwise_append.1 hk'
  obtain ⟨k4, k5⟩ := List.pairwise_cons.1 k2
  rw [spl]
  split
  ·rename_i hlt
   obtain ⟨a, b⟩ := spl_keys (key := key) (T := r) k5
   refine ⟨fun x hx => ?_, b⟩
   have hx : x ∈ pl l ++ i :: pl (spl N key r).1 := hx
   rw [List.mem_append, List.mem_cons] at hx
   rcases hx with hx | rfl | hx
   ·have := k3 x hx i (by simp); omega
   ·exact hlt
   ·exact a x hx
  ·rename_i hge
   obtain ⟨a, b⟩ := spl_keys (key := key) (T := l) k1
   refine ⟨a, fun x hx => ?_⟩
   have hx : x ∈ pl (spl N key l).2 ++ i :: pl r := hx
   rw [List.mem_append, List.mem_cons] at hx
   rcases hx with hx | rfl | hx
   ·exact b x hx
   ·omega
   ·have := k4 x hx; omega
def ins (N : List Nd) (i : Nat) : TT → TT
 | .nil => .nd .nil i .nil
 | .nd l j r => if abv (nn N i) (nn N j) then .nd (spl N (ky (nn N i)) (.nd l j r)).1 i (spl N (ky (nn N i)) (.nd l j r)).2 else if ky (nn N i) < ky (nn N j) then .nd (ins N i l) j r else .nd l j (ins N i r)
def hang (N : List Nd) (i : Nat) (A B : TT) : List Nd := (N.set i (setLf (nn N i) (tp A))).set i (setRt (nn (N.set i (setLf (nn N i) (tp A))) i) (tp B))
def insN (N : List Nd) (i : Nat) : TT → List Nd
 | .nil => hang N i .nil .nil
 | .nd l j r => if abv (nn N i) (nn N j) then hang (spN N (ky (nn N i)) (.nd l j r)) i (spl N (ky (nn N i)) (.nd l j r)).1 (spl N (ky (nn N i)) (.nd l j r)).2 else if ky (nn N i) < ky (nn N j) then (insN N i l).set j (setLf (nn (insN N i l) j) (tp (ins N i l))) else (insN N i r).set j (setRt (nn (insN N i r) j) (tp (ins N i r)))
theorem hang_ch {N : List Nd} {i : Nat} {A B : TT} {S : List Nat} (h : i ∈ S) : Ch N (hang N i A B) S := (ch_lf h).trans (ch_rt h)
theorem hang_rep {N : List Nd} {i : Nat} {A B : TT} (hi : i < N.length) (ra : Rep N A) (rb : Rep N B) (na : i ∉ pl A) (nb : i ∉ pl B) : Rep (hang N i A B) (.nd A i B) := by
 have c := ch_lf (N := N) (i := i) (v := tp A) (S := [i]) (by simp)
 refine rep_set_rt (by rw [List.length_set]; exact hi) (by rw [nn_set, if_pos ⟨rfl, hi⟩]; rfl) (c.rep ra fun x hx hs => ?_) (c.rep rb fun x hx hs => ?_) na nb
 ·rw [List.mem_singleton] at hs; exact na (hs ▸ hx)
 ·rw [List.mem_singleton] at hs; exact nb (hs ▸ hx)
theorem ins_pl {N : List Nd} {i : Nat} : ∀ {T : TT}, (pl (ins N i T)).Perm (i :: pl T)
 | .nil => .refl _
 | .nd l j r => by
  rw [ins]
  split
  ·show (pl (spl N (ky (nn N i)) (.nd l j r)).1 ++ i :: pl (spl N (ky (nn N i)) (.nd l j r)).2).Perm _
   rw [← spl_pl (N := N) (key := ky (nn N i)) (T := .nd l j r)]
   exact List.perm_middle
  ·split
   ·exact (List.Perm.append_right _ ins_pl)
   ·show (pl l ++ j :: pl (ins N i r)).Perm (i :: (pl l ++ j :: pl r))
    exact (List.Perm.append_left (pl l) ((List.Perm.cons j ins_pl).trans (.swap i j (pl r)))).trans List.perm_middle
theorem insN_ch {N : List Nd} {i : Nat} : ∀ {T : TT}, Ch N (insN N i T) (i :: pl T)
 | .nil => hang_ch (by simp)
 | .nd l j r => by
  rw [insN]
  split
  ·exact (spN_ch.mono fun x hx => by simp [hx]).trans (hang_ch (by simp))
  ·split
   ·exact (insN_ch.mono fun x hx => by rcases List.mem_cons.1 hx with rfl | hx <;> simp [pl, *]).trans (ch_lf (by simp [pl]))
   ·exact (insN_ch.mono fun x hx => by rcases List.mem_cons.1 hx with rfl | hx <;> simp [pl, *]).trans (ch_rt (by simp [pl]))
theorem insN_rep {N : List Nd} {i : Nat} : ∀ {T : TT}, i < N.length → Rep N T → (pl T).Nodup → i ∉ pl T → Rep (insN N i T) (ins N i T)
 | .nil, hi, _, _, _ => hang_rep hi trivial trivial (fun h => by cases h) (fun h => by cases h)
 | .nd l j r, hi, hr, hn, hni => by
  obtain ⟨n1, n2, n3, n4, n5⟩ := nodup_parts hn
  have hij : i ≠ j := fun e => hni (by simp [pl, e])
  have hil : i ∉ pl l := fun e => hni (by simp [pl, e])
  have hir : i ∉ pl r := fun e => hni (by simp [pl, e])
  rw [insN, ins]
  split
  ·obtain ⟨a, b⟩ := spN_rep (key := ky (nn N i)) hr hn
   have c := spN_ch (N := N) (key := ky (nn N i)) (T := .nd l j r)
   have hp := spl_pl (N := N) (key := ky (nn N i)) (T := .nd l j r)
   exact hang_rep (by rw [c.len]; exact hi) a b (fun h => hni (by rw [← hp]; exact List.mem_append_left _ h)) (fun h => hni (by rw [← hp]; exact List.mem_append_right _ h))
  ·obtain ⟨h1, h2, h3, h4, h5⟩ := hr
   split
   ·have a := insN_rep hi h4 n1 hil
    have c := insN_ch (N := N) (i := i) (T := l)
    have hm : ∀ x, x ∈ pl (ins N i l) ↔ x = i ∨ x ∈ pl l := fun x => by rw [ins_pl.mem_iff, List.mem_cons]
    have hjc : j ∉ i :: pl l := fun h => by
     rcases List.mem_cons.1 h with h | h
     ·exact hij h.symm
     ·exact n3 h
    refine rep_set_lf (by rw [c.len]; exact h1) (by rw [c.out j hjc]; exact h3) a (c.rep h5 fun x hx h => ?_) (fun h => ?_) n4
    ·rcases List.mem_cons.1 h with h | h
     ·exact hir (h ▸ hx)
     ·exact n5 x h hx
    ·rcases (hm j).1 h with h | h
     ·exact hij h.symm
     ·exact n3 h
   ·have a := insN_rep hi h5 n2 hir
    have c := insN_ch (N := N) (i := i) (T := r)
    have hm : ∀ x, x ∈ pl (ins N i r) ↔ x = i ∨ x ∈ pl r := fun x => by rw [ins_pl.mem_iff, List.mem_cons]
    have hjc : j ∉ i :: pl r := fun h => by
     rcases List.mem_cons.1 h with h | h
     ·exact hij h.symm
     ·exact n4 h
    refine rep_set_rt (by rw [c.len]; exact h1) (by rw [c.out j hjc]; exact h2) (c.rep h4 fun x hx h => ?_) a n3 (fun h => ?_)
    ·rcases List.mem_cons.1 h with h | h
     ·exact hil (h ▸ hx)
     ·exact n5 x hx h
    ·rcases (hm j).1 h with h | h
     ·exact hij h.symm
     ·exact n4 h
theorem ins_bst {N : List Nd} {i : Nat} : ∀ {T : TT} {low high : Int}, (∀ x ∈ pl T, 0 ≤ ky (nn N x)) → 0 ≤ ky (nn N i) → (∀ x ∈ pl T, ky (nn N x) ≠ ky (nn N i)) → Bst N T low high → low < ky (nn N i) → (high = -1 ∨ ky (nn N i) < high) → Bst N (ins N i T) low high
 | .nil, low, high, _, _, _, _, h1, h2 => ⟨h1, h2, trivial, trivial⟩
 | .nd l j r, low, high, h0, hi0, hne, hb, h1, h2 => by
  rw [ins]
  split
  ·obtain ⟨hk, hbt⟩ := (bst_iff h0).1 hb
   have hp := spl_pl (N := N) (key := ky (nn N i)) (T := .nd l j r)
   obtain ⟨s1, s2⟩ := spl_keys (key := ky (nn N i)) hk
   have mA : ∀ x ∈ pl (spl N (ky (nn N i)) (.nd l j r)).1, x ∈ pl (.nd l j r) := fun x hx => by rw [← hp]; exact List.mem_append_left _ hx
   have mB : ∀ x ∈ pl (spl N (ky (nn N i)) (.nd l j r)).2, x ∈ pl (.nd l j r) := fun x hx => by rw [← hp]; exact List.mem_append_right _ hx
   have hk2 : KA N (pl (spl N (ky (nn N i)) (.nd l j r)).1 ++ pl (spl N (ky (nn N i)) (.nd l j r)).2) := by rw [hp]; exact hk
   obtain ⟨k1, k2, _⟩ := List.pairwise_append.1 hk2
   refine ⟨h1, h2, (bst_iff fun x hx => h0 x (mA x hx)).2 ⟨k1, fun x hx => ⟨(hbt x (mA x hx)).1, .inr (s1 x hx)⟩⟩, (bst_iff fun x hx => h0 x (mB x hx)).2 ⟨k2, fun x hx => ⟨?_, (hbt x (mB x hx)).2⟩⟩⟩
   have := s2 x hx
   have := hne x (mB x hx)
   omega
  ·obtain ⟨b1, b2, b3, b4⟩ := hb
   have hj := hne j (by simp [pl])
   split
   ·rename_i hlt
    exact ⟨b1, b2, ins_bst (fun x hx => h0 x (by simp [pl, hx])) hi0 (fun x hx => hne x (by simp [pl, hx])) b3 h1 (.inr hlt), b4⟩
   ·rename_i hge
    exact ⟨b1, b2, b3, ins_bst (fun x hx => h0 x (by simp [pl, hx])) hi0 (fun x hx => hne x (by simp [pl, hx])) b4 (by omega) h2⟩
theorem abv_trans {a b c : Nd} (h1 : abv a b) (h2 : abv b c) : abv a c := by unfold abv at *; omega
theorem ins_hp {N : List Nd} {i : Nat} : ∀ {T : TT} {top : Option Nd}, (∀ x ∈ pl T, ky (nn N x) ≠ ky (nn N i)) → Hp N T top → (∀ t, top = some t → abv t (nn N i)) → Hp N (ins N i T) top
 | .nil, top, _, _, ht => ⟨ht, trivial, trivial⟩
 | .nd l j r, top, hne, hh, ht => by
  rw [ins]
  split
  ·rename_i hij
   have hjall : ∀ x ∈ pl (.nd l j r), abv (nn N i) (nn N x) := by
    intro x hx
    rw [pl, List.mem_append, List.mem_cons] at hx
    rcases hx with hx | rfl | hx
    ·exact abv_trans hij (hp_mem hh.2.1 x hx)
    ·exact hij
    ·exact abv_trans hij (hp_mem hh.2.2 x hx)
   have hp := spl_pl (N := N) (key := ky (nn N i)) (T := .nd l j r)
   obtain ⟨a, b⟩ := spl_hp (key := ky (nn N i)) (hp_any (top := none) ⟨(fun t e => by cases e), hh.2⟩ (fun t e => by cases e) : Hp N (.nd l j r) none)
   exact ⟨ht, hp_any a fun t e x hx => by cases e; exact hjall x (by rw [← hp]; exact List.mem_append_left _ hx), hp_any b fun t e x hx => by cases e; exact hjall x (by rw [← hp]; exact List.mem_append_right _ hx)⟩
  ·rename_i hij
   have hk := hne j (by simp [pl])
   have hji : abv (nn N j) (nn N i) := by unfold abv at *; omega
   obtain ⟨h1, h2, h3⟩ := hh
   split
   ·exact ⟨h1, ins_hp (fun x hx => hne x (by simp [pl, hx])) h2 (fun t e => by cases e; exact hji), h3⟩
   ·exact ⟨h1, h2, ins_hp (fun x hx => hne x (by simp [pl, hx])) h3 (fun t e => by cases e; exact hji)⟩
def mg (N : List Nd) : TT → TT → TT
 | .nil, B => B
 | A, .nil => A
 | .nd a i b, .nd c j d => if abv (nn N i) (nn N j) then .nd a i (mg N b (.nd c j d)) else .nd (mg N (.nd a i b) c) j d
termination_by A B => SizeOf.sizeOf A + SizeOf.sizeOf B
def mgN (N : List Nd) : TT → TT → List Nd
 | .nil, B => N
 | A, .nil => N
 | .nd a i b, .nd c j d => if abv (nn N i) (nn N j) then (mgN N b (.nd c j d)).set i (setRt (nn (mgN N b (.nd c j d)) i) (tp (mg N b (.nd c j d)))) else (mgN N (.nd a i b) c).set j (setLf (nn (mgN N (.nd a i b) c) j) (tp (mg N (.nd a i b) c)))
termination_by A B => SizeOf.sizeOf A + SizeOf.sizeOf B
theorem mgN_nil {N : List Nd} {B : TT} : mgN N .nil B = N := by rw [mgN]
theorem mgN_nil2 {N : List Nd} {A : TT} : mgN N A .nil = N := by cases A <;> rw [mgN]; intro h; cases h
theorem mgN_ch {N : List Nd} : ∀ (n : Nat) (A B : TT), SizeOf.sizeOf A + SizeOf.sizeOf B = n → Ch N (mgN N A B) (pl A ++ pl B) := by
 intro n
 induction n using Nat.strongRecOn with
 | ind n ih =>
  intro A B hn
  cases A with
  | nil => rw [mgN_nil]; exact Ch.refl
  | nd a i b =>
   cases B with
   | nil => rw [mgN_nil2]; exact Ch.refl
   | nd c j d =>
    rw [mgN]
    split
    ·exact ((ih (SizeOf.sizeOf b + SizeOf.sizeOf (TT.nd c j d)) (by simp at hn ⊢; omega) _ _ rfl).mono fun x hx => by
      rw [List.mem_append] at hx ⊢
      rcases hx with hx | hx
      ·exact .inl (by simp [pl, hx])
      ·exact .inr hx).trans (ch_rt (by simp [pl]))
    ·exact ((ih (SizeOf.sizeOf (TT.nd a i b) + SizeOf.sizeOf c) (by simp at hn ⊢; omega) _ _ rfl).mono fun x hx => by
      rw [List.mem_append] at hx ⊢
      rcases hx with hx | hx
      ·exact .inl hx
      ·exact .inr (by simp [pl, hx])).trans (ch_lf (by simp [pl]))
def wo (N : List Nd) (k : Int) : TT → TT
 | .nil => .nil
 | .nd l j r => if k < ky (nn N j) then .nd (wo N k l) j r else if ky (nn N j) < k then .nd l j (wo N k r) else mg N l r
def woN (N : List Nd) (k : Int) : TT → List Nd
 | .nil => N
 | .nd l j r => if k < ky (nn N j) then (woN N k l).set j (setLf (nn (woN N k l) j) (tp (wo N k l))) else if ky (nn N j) < k then (woN N k r).set j (setRt (nn (woN N k r) j) (tp (wo N k r))) else mgN N l r
theorem woN_ch {N : List Nd} {k : Int} : ∀ {T : TT}, Ch N (woN N k T) (pl T)
 | .nil => Ch.refl
 | .nd l j r => by
  rw [woN]
  split
  ·exact (woN_ch.mono fun x hx => by simp [pl, hx]).trans (ch_lf (by simp [pl]))
  ·split
   ·exact (woN_ch.mono fun x hx => by simp [pl, hx]).trans (ch_rt (by simp [pl]))
   ·exact (mgN_ch _ l r rfl).mono fun x hx => by
     rw [List.mem_append] at hx
     rcases hx with hx | hx <;> simp [pl, hx]
def fdT (N : List Nd) (key : Int) : TT → Nat → Int × Int × Bool
 | .nil, c => (0, (c : Int), false)
 | .nd l i r, c => if key < ky (nn N i) then fdT N key l (c + 1) else if ky (nn N i) < key then fdT N key r (c + 1) else ((i : Int), ((c + 1 : Nat) : Int), true)
theorem fdT_yes {N : List Nd} {key : Int} : ∀ {T : TT} {c : Nat}, KA N (pl T) → (∃ x ∈ pl T, ky (nn N x) = key) → ∃ i n, fdT N key T c = (((i : Nat) : Int), n, true) ∧ i ∈ pl T ∧ ky (nn N i) = key
 | .nil, c, _, ⟨x, hx, _⟩ => by cases hx
 | .nd l i r, c, hk, ⟨x, hx, he⟩ => by
  have hk' : (pl l ++ i :: pl r).Pairwise fun a b => ky (nn N a) < ky (nn N b) := hk
  obtain ⟨k1, k2, k3⟩ := List.pairwise_append.1 hk'
  obtain ⟨k4, k5⟩ := List.pairwise_cons.1 k2
  rw [pl, List.mem_append, List.mem_cons] at hx
  rw [fdT]
  split
  ·rename_i h
   rcases hx with hx | rfl | hx
   ·obtain ⟨j, n, e, m, q⟩ := fdT_yes (c := c + 1) k1 ⟨x, hx, he⟩
    exact ⟨j, n, e, by simp [pl, m], q⟩
   ·omega
   ·have := k4 x hx; omega
  ·split
   ·rename_i h1 h2
    rcases hx with hx | rfl | hx
    ·have := k3 x hx i (by simp); omega
    ·omega
    ·obtain ⟨j, n, e, m, q⟩ := fdT_yes (c := c + 1) k5 ⟨x, hx, he⟩
     exact ⟨j, n, e, by simp [pl, m], q⟩
   ·exact ⟨i, _, rfl, by simp [pl], by omega⟩
theorem fdT_no {N : List Nd} {key : Int} : ∀ {T : TT} {c : Nat}, (∀ x ∈ pl T, ky (nn N x) ≠ key) → ∃ n, fdT N key T c = (0, n, false)
 | .nil, c, _ => ⟨_, rfl⟩
 | .nd l i r, c, h => by
  have := h i (by simp [pl])
  rw [fdT]
  split
  ·exact fdT_no fun x hx => h x (by simp [pl, hx])
  ·split
   ·exact fdT_no fun x hx => h x (by simp [pl, hx])
   ·omega
theorem frF_shift {N M : List Nd} (hl : M.length = N.length) : ∀ {f : Nat} {a : Int} {acc acc' F : List Nat}, (∀ x ∈ acc', x ∈ acc) → frF N f a acc = some F → (∀ x ∈ F, x ∉ acc → nn M x = nn N x) → ∃ G, F = acc ++ G ∧ frF M f a acc' = some (acc' ++ G)
 | 0, _, _, _, _, _, h, _ => by cases h
 | f + 1, a, acc, acc', F, hs, h, hn => by
  rw [frF] at h
  split at h
  ·rename_i ha
   cases h
   exact ⟨[], by simp, by rw [frF, if_pos ha, List.append_nil]⟩
  ·rename_i ha
   split at h
   ·rename_i hc
    have hsub : ∀ {f : Nat} {a : Int} {acc F : List Nat}, frF N f a acc = some F → ∃ G, F = acc ++ G := by
     intro f
     induction f with
     | zero => intro a acc F h; cases h
     | succ f ih =>
      intro a acc F h
      rw [frF] at h
      split at h
      ·cases h; exact ⟨[], by simp⟩
      ·split at h
       ·obtain ⟨G, hG⟩ := ih h
        exact ⟨a.toNat :: G, by rw [hG, List.append_assoc]; rfl⟩
       ·cases h
    obtain ⟨G0, hG0⟩ := hsub h
    have hin : a.toNat ∈ F := by rw [hG0]; simp
    have hna := hn a.toNat hin hc.1.2.2
    obtain ⟨G, h1, h2⟩ := frF_shift hl (acc' := acc' ++ [a.toNat]) (fun x hx => by
     rcases List.mem_append.1 hx with hx | hx
     ·exact List.mem_append_left _ (hs x hx)
     ·exact List.mem_append_right _ hx) h (fun x hx hx' => hn x hx fun hxa => hx' (List.mem_append_left _ hxa))
    refine ⟨a.toNat :: G, by rw [h1, List.append_assoc]; rfl, ?_⟩
    rw [frF, if_neg ha, if_pos ⟨⟨hc.1.1, by rw [hl]; exact hc.1.2.1, fun hx => hc.1.2.2 (hs _ hx)⟩, by rw [hna]; exact hc.2⟩, hna, h2, List.append_assoc]
    rfl
   ·cases h
theorem frF_more {N : List Nd} : ∀ {f g : Nat} {a : Int} {acc F : List Nat}, f ≤ g → frF N f a acc = some F → frF N g a acc = some F
 | 0, _, _, _, _, _, h => by cases h
 | f + 1, 0, _, _, _, hg, _ => by omega
 | f + 1, g + 1, a, acc, F, hg, h => by
  rw [frF] at h ⊢
  split at h
  ·rename_i ha; rw [if_pos ha]; exact h
  ·rename_i ha
   rw [if_neg ha]
   split at h
   ·rename_i hc; rw [if_pos hc]; exact frF_more (by omega) h
   ·cases h
theorem bst_congr {N M : List Nd} : ∀ {T : TT} {low high : Int}, (∀ x ∈ pl T, nn M x = nn N x) → Bst N T low high → Bst M T low high
 | .nil, _, _, _, _ => trivial
 | .nd l i r, low, high, h, ⟨h1, h2, h3, h4⟩ => by
  unfold Bst
  rw [h i (by simp [pl])]
  exact ⟨h1, h2, bst_congr (fun x hx => h x (by simp [pl, hx])) h3, bst_congr (fun x hx => h x (by simp [pl, hx])) h4⟩
theorem hp_congr {N M : List Nd} : ∀ {T : TT} {top : Option Nd}, (∀ x ∈ pl T, nn M x = nn N x) → Hp N T top → Hp M T top
 | .nil, _, _, _ => trivial
 | .nd l i r, top, h, ⟨h1, h2, h3⟩ => by
  unfold Hp
  rw [h i (by simp [pl])]
  exact ⟨h1, hp_congr (fun x hx => h x (by simp [pl, hx])) h2, hp_congr (fun x hx => h x (by simp [pl, hx])) h3⟩
theorem act_ins {N : List Nd} {root : Int} {i : Nat} {F' : List Nat} {T : TT} {x : Nd} (h : TR N root (i :: F') T) (hi : i < N.length) (hF : (i :: F').Nodup) (hk : 0 ≤ ky x) (hne : ∀ y ∈ pl T, ky (nn N y) ≠ ky x) :
  TR0 (N.set i x) F' (ins (N.set i x) i T) ∧ insN (N.set i x) i T = wr (N.set i x) (ins (N.set i x) i T) ∧ Rep (insN (N.set i x) i T) (ins (N.set i x) i T) ∧ Ch (N.set i x) (insN (N.set i x) i T) (pl (ins (N.set i x) i T)) := by
 obtain ⟨h1, h2, h3, h4, h5, h6⟩ := h
 have hiT : i ∉ pl T := fun e => ((h6 i).1 e).2 (by simp)
 have hN : ∀ y, y ≠ i → nn (N.set i x) y = nn N y := fun y hy => by rw [nn_set, if_neg (fun e => hy e.1.symm)]
 have hi0 : nn (N.set i x) i = x := by rw [nn_set, if_pos ⟨rfl, hi⟩]
 have hT : ∀ y ∈ pl T, nn (N.set i x) y = nn N y := fun y hy => hN y fun e => hiT (e ▸ hy)
 have hkeys : ∀ y ∈ pl T, 0 ≤ ky (nn (N.set i x) y) := fun y hy => by rw [hT y hy]; have := (Bst_mem (by omega) h3 y hy).1; omega
 have hne2 : ∀ y ∈ pl T, ky (nn (N.set i x) y) ≠ ky (nn (N.set i x) i) := fun y hy => by rw [hT y hy, hi0]; exact hne y hy
 have hb := ins_bst hkeys (by rw [hi0]; exact hk) hne2 (bst_congr hT h3) (by rw [hi0]; omega) (.inl rfl)
 have hh := ins_hp hne2 (hp_congr hT h4) (fun t e => by cases e)
 have hp := ins_pl (N := N.set i x) (i := i) (T := T)
 have hr := insN_rep (N := N.set i x) (i := i) (T := T) (by rw [List.length_set]; exact hi) (Rep_congr (by rw [List.length_set]) hT h2) h5 hiT
 have hc : Ch (N.set i x) (insN (N.set i x) i T) (pl (ins (N.set i x) i T)) := insN_ch.mono fun y hy => hp.mem_iff.2 hy
 have hnd : (pl (ins (N.set i x) i T)).Nodup := hp.nodup_iff.2 (List.nodup_cons.2 ⟨hiT, h5⟩)
 refine ⟨⟨hb, hh, hnd, fun y => ?_⟩, eq_wr hc hr hnd, hr, hc⟩
 rw [hp.mem_iff, List.mem_cons, h6, List.mem_cons, List.length_set]
 constructor
 ·rintro (rfl | ⟨a, b⟩)
  ·exact ⟨hi, fun e => (List.nodup_cons.1 hF).1 e⟩
  ·exact ⟨a, fun e => b (.inr e)⟩
 ·rintro ⟨a, b⟩
  by_cases e : y = i
  ·exact .inl e
  ·exact .inr ⟨a, fun h => h.elim e b⟩
def frX (N : List Nd) : Nat → Int → List Bool → Bool × List Bool
 | 0, _, m => (false, m)
 | f + 1, a, m => if a = -1 then (true, m) else if 0 ≤ a ∧ a < (m.length : Int) ∧ m.getD a.toNat true = false then (if isE (nn N a.toNat) then frX N f (lf (nn N a.toNat)) (m.set a.toNat true) else (false, m.set a.toNat true)) else (false, m)
def Mk (N : List Nd) (m : List Bool) (acc : List Nat) : Prop := m.length = N.length ∧ ∀ j, j < N.length → (m.getD j true = true ↔ j ∈ acc)
theorem Mk_set {N : List Nd} {m : List Bool} {acc : List Nat} {i : Nat} (h : Mk N m acc) (hi : i < N.length) : Mk N (m.set i true) (acc ++ [i]) := by
 refine ⟨by rw [List.length_set]; exact h.1, fun j hj => ?_⟩
 rw [List.mem_append, List.mem_singleton, List.getD_eq_getElem?_getD, List.getElem?_set]
 by_cases e : i = j
 ·subst e
  rw [if_pos rfl, if_pos (by rw [h.1]; exact hi)]
  simp
 ·rw [if_neg e, ← List.getD_eq_getElem?_getD, h.2 j hj]
  constructor
  ·exact .inl
  ·rintro (g | g)
   ·exact g
   ·exact absurd g.symm e
theorem frX_frF {N : List Nd} : ∀ {f : Nat} {a : Int} {m : List Bool} {acc : List Nat}, Mk N m acc → match frF N f a acc with
  | some F => ∃ m', frX N f a m = (true, m') ∧ Mk N m' F ∧ un m' ≤ un m
  | none => (frX N f a m).1 = false
 | 0, a, m, acc, _ => rfl
 | f + 1, a, m, acc, h => by
  rw [frF, frX]
  by_cases ha : a = -1
  ·rw [if_pos ha, if_pos ha]; exact ⟨m, rfl, h, Nat.le_refl _⟩
  ·rw [if_neg ha, if_neg ha]
   by_cases hc : 0 ≤ a ∧ a < (N.length : Int) ∧ a.toNat ∉ acc
   ·have hlt : a.toNat < N.length := by omega
    have hm : m.getD a.toNat true = false := by
     cases hq : m.getD a.toNat true
     ·rfl
     ·exact absurd ((h.2 _ hlt).1 hq) hc.2.2
    rw [if_pos (show 0 ≤ a ∧ a < (m.length : Int) ∧ m.getD a.toNat true = false from ⟨hc.1, by rw [h.1]; exact hc.2.1, hm⟩)]
    by_cases he : isE (nn N a.toNat)
    ·rw [if_pos ⟨hc, he⟩, if_pos he]
     have ih := frX_frF (f := f) (a := lf (nn N a.toNat)) (Mk_set h hlt)
     have hs := un_set hm
     split at ih
     ·obtain ⟨m', e1, e2, e3⟩ := ih
      exact ⟨m', e1, e2, by omega⟩
     ·exact ih
    ·rw [if_neg (fun h => he h.2), if_neg he]
   ·have hc2 : ¬ (0 ≤ a ∧ a < (m.length : Int) ∧ m.getD a.toNat true = false) := by
     rintro ⟨h1, h2, h3⟩
     rw [h.1] at h2
     refine hc ⟨h1, h2, fun hin => ?_⟩
     rw [(h.2 a.toNat (by omega)).2 hin] at h3
     cases h3
    rw [if_neg (fun h => hc h.1), if_neg hc2]
def Rt (N : List Nd) (root fr : Int) : Prop := N.length ≤ 64 ∧ ∃ F, frF N (N.length + 1) fr [] = some F ∧ ∃ T, TR N root F T
theorem un_rep (n : Nat) : un (List.replicate n false) = n := by unfold un; rw [List.count_replicate_self]
theorem Mk_rep (N : List Nd) : Mk N (List.replicate N.length false) [] := by
 refine ⟨by rw [List.length_replicate], fun j hj => ?_⟩
 rw [List.getD_eq_getElem?_getD, List.getElem?_replicate, if_pos hj]
 simp
theorem all_iff {m : List Bool} : (∀ j, m.getD j true = true) ↔ ¬ false ∈ m := by
 constructor
 ·intro h hin
  obtain ⟨k, hk, e⟩ := List.getElem_of_mem hin
  have := h k
  rw [List.getD_eq_getElem?_getD, List.getElem?_eq_getElem hk, Option.getD_some, e] at this
  cases this
 ·intro h j
  by_cases hj : j < m.length
  ·rw [List.getD_eq_getElem?_getD, List.getElem?_eq_getElem hj, Option.getD_some]
   cases hq : m[j]
   ·exact absurd (hq ▸ List.getElem_mem hj) h
   ·rfl
  ·rw [List.getD_eq_getElem?_getD, List.getElem?_eq_none (by omega)]; rfl
def progR (N : List Nd) (root fr : Int) : Bool :=
 let x := frX N (N.length + 1) fr (List.replicate N.length false)
 if N.length ≤ 64 then (if x.1 = true then (match undF N (N.length + 1) root (-1) (-1) none x.2 with | some (true, m) => decide (¬ false ∈ m) | _ => false) else false) else false
theorem progR_iff {N : List Nd} {root fr : Int} : progR N root fr = true ↔ Rt N root fr := by
 unfold progR Rt
 by_cases h64 : N.length ≤ 64
 ·rw [if_pos h64]
  have hx := frX_frF (N := N) (f := N.length + 1) (a := fr) (Mk_rep N)
  cases hF : frF N (N.length + 1) fr [] with
  | none =>
   rw [hF] at hx
   dsimp only at hx ⊢
   rw [hx, if_neg (by decide)]
   constructor
   ·intro h; cases h
   ·rintro ⟨_, F, h, _⟩; cases h
  | some F =>
   rw [hF] at hx
   obtain ⟨m', e1, e2, e3⟩ := hx
   rw [e1]
   dsimp only
   rw [if_pos rfl]
   rw [un_rep] at e3
   have hp := prog_iff (N := N) (root := root) (F := F) (f := N.length + 1) e2.1 e2.2 (by omega)
   constructor
   ·intro h
    refine ⟨h64, F, rfl, hp.2 ?_⟩
    split at h
    ·rename_i m hm
     exact ⟨m, hm, all_iff.2 (of_decide_eq_true h)⟩
    ·cases h
   ·rintro ⟨_, F', hF', hT⟩
    cases hF'
    obtain ⟨m, hm, hall⟩ := hp.1 hT
    rw [hm]
    exact decide_eq_true (all_iff.1 hall)
 ·rw [if_neg h64]
  exact ⟨(fun h => by cases h), fun h => absurd h.1 h64⟩
def refR (N : List Nd) (root fr : Int) : Prop := N.length ≤ 64 ∧ ∃ F, frF N (N.length + 1) fr [] = some F ∧ ((∀ x ∈ lst N F, 0 ≤ ky (nn N x)) ∧ KA N (lst N F)) ∧ root = tp (cart (prF N) (lst N F)) ∧ wr N (cart (prF N) (lst N F)) = N
theorem refR_iff {N : List Nd} {root fr : Int} : refR N root fr ↔ Rt N root fr :=
 ⟨fun ⟨h, F, hF, g⟩ => ⟨h, F, hF, ref_iff.2 g⟩, fun ⟨h, F, hF, g⟩ => ⟨h, F, hF, ref_iff.1 g⟩⟩
def posP (N : List Nd) (i : Nat) : List Nat → Nat
 | [] => 0
 | x :: r => if ky (nn N x) < ky (nn N i) then posP N i r + 1 else 0
theorem insP_pos {N : List Nd} {i : Nat} : ∀ {l : List Nat}, insP N i l = l.take (posP N i l) ++ i :: l.drop (posP N i l)
 | [] => rfl
 | x :: r => by
  rw [insP, posP]
  split
  ·rw [insP_pos (l := r)]; simp
  ·rfl
theorem posP_le {N : List Nd} {i : Nat} : ∀ {l : List Nat}, posP N i l ≤ l.length
 | [] => Nat.le_refl _
 | x :: r => by
  rw [posP]
  have := posP_le (N := N) (i := i) (l := r)
  split
  ·simp; omega
  ·simp
def siz : TT → Nat
 | .nil => 0
 | .nd l _ r => siz l + siz r + 1
theorem siz_pl : ∀ {T : TT}, (pl T).length = siz T
 | .nil => rfl
 | .nd l i r => by rw [pl, List.length_append, List.length_cons, siz_pl, siz_pl, siz]; omega
theorem TR.siz {N : List Nd} {root : Int} {F : List Nat} {T : TT} (h : TR N root F T) : siz T ≤ N.length := by
 rw [← siz_pl]
 exact nodup_len h.2.2.2.2.1 fun x hx => ((h.2.2.2.2.2 x).1 hx).1
theorem TR.place {N : List Nd} {root : Int} {F : List Nat} {T : TT} (h : TR N root F T) (hF : ∀ x ∈ F, x < N.length ∧ isE (nn N x)) {key : Int} (hk : 0 ≤ key) {x : Nat} (hx : x < N.length) (he : ky (nn N x) = key) : x ∈ pl T := by
 refine (h.2.2.2.2.2 x).2 ⟨hx, fun hxF => ?_⟩
 have := (hF x hxF).2
 unfold isE at this
 have e : ky (nn N x) = -1 := by rw [this]; rfl
 omega
theorem KA.inj {N : List Nd} : ∀ {l : List Nat}, KA N l → ∀ a ∈ l, ∀ b ∈ l, ky (nn N a) = ky (nn N b) → a = b
 | [], _, a, ha => by cases ha
 | z :: l, hk, a, ha => by
  intro b hb hab
  have hk := List.pairwise_cons.1 hk
  rcases List.mem_cons.1 ha with e1 | ha
  ·rcases List.mem_cons.1 hb with e2 | hb
   ·rw [e1, e2]
   ·have := hk.1 b hb; rw [e1] at hab; omega
  ·rcases List.mem_cons.1 hb with e2 | hb
   ·have := hk.1 a ha; rw [e2] at hab; omega
   ·exact KA.inj hk.2 a ha b hb hab
def plc (key : Int) : List Nd → Nat → Int
 | [], _ => -1
 | x :: r, i => if ky x = key ∧ 0 ≤ key then (i : Int) else plc key r (i + 1)
theorem plc_no {key : Int} : ∀ {l : List Nd} {i : Nat}, (key < 0 ∨ ∀ x ∈ l, ky x ≠ key) → plc key l i = -1
 | [], i, _ => rfl
 | x :: r, i, h => by
  rw [plc, if_neg (fun e => by
   rcases h with h | h
   ·omega
   ·exact h x (by simp) e.1)]
  exact plc_no (h.imp id fun h y hy => h y (by simp [hy]))
theorem plc_yes {key : Int} (hk : 0 ≤ key) : ∀ {l : List Nd} {i j : Nat}, j < l.length → ky (l.getD j (0, 0, 0, 0, 0, 0)) = key → (∀ k, k < j → ky (l.getD k (0, 0, 0, 0, 0, 0)) ≠ key) → plc key l i = ((i + j : Nat) : Int)
 | [], i, j, h, _, _ => by simp at h
 | x :: r, i, 0, _, h, _ => by
  rw [plc, if_pos ⟨by simpa using h, hk⟩, Nat.add_zero]
 | x :: r, i, j + 1, hj, h, hn => by
  have h0 := hn 0 (by omega)
  rw [plc, if_neg (fun e => h0 (by simpa using e.1)), plc_yes hk (by simpa using hj) (by simpa using h) (fun k hkj => by simpa using hn (k + 1) (by omega))]
  congr 1; omega
theorem TR.find {N : List Nd} {root : Int} {F : List Nat} {T : TT} (h : TR N root F T) (hF : ∀ x ∈ F, x < N.length ∧ isE (nn N x)) (key : Int) :
  (∃ i n, fdT N key T 0 = (((i : Nat) : Int), n, true) ∧ i ∈ pl T ∧ ky (nn N i) = key ∧ plc key N 0 = (i : Int) ∧ 0 ≤ key) ∨ ((∃ n, fdT N key T 0 = (0, n, false)) ∧ plc key N 0 = -1 ∧ ∀ x ∈ pl T, ky (nn N x) ≠ key) := by
 have hka := Bst_asc (by omega) h.2.2.1
 by_cases hex : ∃ x ∈ pl T, ky (nn N x) = key
 ·obtain ⟨i, n, e1, e2, e3⟩ := fdT_yes (c := 0) hka hex
  have hk : 0 ≤ key := by have := (Bst_mem (by omega) h.2.2.1 i e2).1; omega
  refine .inl ⟨i, n, e1, e2, e3, ?_, hk⟩
  have hi := ((h.2.2.2.2.2 i).1 e2).1
  have := plc_yes hk (l := N) (i := 0) hi e3 (fun k hkj hkk => by
   have hkl : k < N.length := by omega
   have hkm := h.place hF hk hkl hkk
   have := hka.inj k hkm i e2 (hkk.trans e3.symm)
   omega)
  rw [this, Nat.zero_add]
 ·have hno : ∀ x ∈ pl T, ky (nn N x) ≠ key := fun x hx e => hex ⟨x, hx, e⟩
  refine .inr ⟨fdT_no hno, plc_no ?_, hno⟩
  by_cases hk : 0 ≤ key
  ·refine .inr fun x hx e => ?_
   obtain ⟨k, hkl, rfl⟩ := List.getElem_of_mem hx
   have : ky (nn N k) = key := by
    unfold nn
    rw [List.getD_eq_getElem?_getD, List.getElem?_eq_getElem hkl, Option.getD_some]; exact e
   exact hex ⟨k, h.place hF hk hkl this, this⟩
  ·exact .inl (by omega)
def Alk (N M : List Nd) : TT → TT → Prop
 | .nil, .nil => True
 | .nd l i r, .nd l' i' r' => (ky (nn N i) = ky (nn M i') ∧ pri (nn N i) = pri (nn M i')) ∧ Alk N M l l' ∧ Alk N M r r'
 | _, _ => False
def Sim2 (N M : List Nd) (l m : List Nat) : Prop := l.length = m.length ∧ ∀ k, k < l.length → ky (nn N (l.getD k 0)) = ky (nn M (m.getD k 0)) ∧ pri (nn N (l.getD k 0)) = pri (nn M (m.getD k 0))
abbrev Tr_best (M : List Nd) (m : List Nat) : Nat := best (prF M) m
end Go.AX.Tr
end
section
namespace Go.AX.Tr
open Go Go.AX
theorem big : 1000000000000 < FUEL := by decide
theorem empty_eq (x : Int) : treap_empty x = some (-1, 0, x, -1, -1, -1) := rfl
theorem rempty_eq (x : Int) : rf9_empty x = some (-1, 0, x, -1, -1, -1) := rfl
theorem above_eq (a b : Nd) : treap_above (a, b) = some (decide (abv a b)) := by
 obtain ⟨a1, a2, a3, a4, a5, a6⟩ := a
 obtain ⟨b1, b2, b3, b4, b5, b6⟩ := b
 unfold treap_above treap_above_g abv
 simp only [cq1]
 simp only [pri, ky]
 by_cases h1 : a2 < b2
 ·first | rw [if_neg (fun h => h h1)] | rw [if_pos h1]
  simp [h1]
 ·first | rw [if_pos h1] | rw [if_neg h1]
  by_cases h2 : a2 = b2
  ·rw [if_pos h2]; simp [h2]
  ·rw [if_neg h2]; simp [h1, h2]
theorem boo_at {m : List Bool} {i : Nat} (h : i < m.length) : Ty.at .boo m i = m.getD i true := by
 show m.getD i false = m.getD i true
 rw [List.getD_eq_getElem?_getD, List.getD_eq_getElem?_getD, List.getElem?_eq_getElem h]; rfl
theorem there_eq {N : List Nd} {r f a : Int} {m : List Bool} : there (a, (N, r, f), m) = some (if 0 ≤ a ∧ a < (m.length : Int) ∧ m.getD a.toNat true = false then (true, (N, r, f), m.set a.toNat true) else (false, (N, r, f), m)) := by
 unfold there there_g
 simp only [cq1]
 by_cases h1 : a < 0
 ·rw [if_neg (fun h => h h1), if_neg (by omega)]
 ·rw [if_pos h1]
  by_cases h2 : (m.length : Int) ≤ a
  ·rw [if_neg (fun h => h h2), if_neg (by omega)]
  ·rw [if_pos h2, if_pos ⟨by omega, by omega⟩, if_pos (by omega), boo_at (by omega)]
   cases h3 : m.getD a.toNat true with
   | true => rw [if_pos rfl, if_neg (fun h => by cases h.2.2)]
   | false => rw [if_neg (by decide), if_pos ⟨by omega, by omega⟩, if_pos (by omega), if_pos ⟨by omega, by omega, rfl⟩]
theorem isE_iff (x : Nd) : (x.1 = -1 ∧ x.2.1 = 0 ∧ x.2.2.1 = lf x ∧ x.2.2.2.1 = -1 ∧ x.2.2.2.2.1 = -1 ∧ x.2.2.2.2.2 = -1) ↔ isE x := by
 obtain ⟨a, b, c, d, e, f⟩ := x
 unfold isE
 simp only [Prod.mk.injEq, lf]
theorem bnd {α β : Type} {x : Option α} {r : α} {k : α → Option β} {y : Option β} (h : x = some r) (h2 : k r = y) : x.bind k = y := by rw [h]; exact h2
theorem isEb (x : Nd) : (x.1 == -1 && (x.2.1 == 0 && (x.2.2.1 == x.2.2.1 && (x.2.2.2.1 == -1 && (x.2.2.2.2.1 == -1 && (x.2.2.2.2.2 == -1 && true)))))) = decide (isE x) := by
 rw [Bool.eq_iff_iff, decide_eq_true_iff, ← isE_iff]
 simp [lf]
theorem free_eq {N : List Nd} {r f : Int} {m : List Bool} (hm : m.length = N.length) (hN : N.length ≤ 1000000) : free ((N, r, f), m) = some ((frX N (un m + 1) f m).1, (N, r, f), (frX N (un m + 1) f m).2) := by
 unfold free free_g
 dsimp only
 have hun : ∀ m : List Bool, un m ≤ m.length := fun m => List.count_le_length
 refine LOOP_m (σ := Int × (List Nd × Int × Int) × List Bool) (O := Bool × (List Nd × Int × Int) × List Bool) (fun s => s.2.1 = (N, r, f) ∧ s.2.2.length = N.length) (fun s => un s.2.2) (fun s => ((frX N (un s.2.2 + 1) s.1 s.2.2).1, (N, r, f), (frX N (un s.2.2 + 1) s.1 s.2.2).2)) ?_ ⟨rfl, hm⟩ (by have := big; have := hun m; dsimp only; omega)
 clear hm
 rintro ⟨a, ⟨N', r', f'⟩, m⟩ ⟨e1, hm⟩
 dsimp only at e1 hm ⊢
 simp only [Prod.mk.injEq] at e1
 obtain ⟨rfl, rfl, rfl⟩ := e1
 simp only [cq1, there_eq]
 have hfx : frX N' (un m + 1) a m = if a = -1 then (true, m) else if 0 ≤ a ∧ a < (m.length : Int) ∧ m.getD a.toNat true = false then (if isE (nn N' a.toNat) then frX N' (un m) (lf (nn N' a.toNat)) (m.set a.toNat true) else (false, m.set a.toNat true)) else (false, m) := rfl
 by_cases ha : a = -1
 ·rw [if_neg (fun h => h ha)]
  refine StepOK_inr ?_
  dsimp only
  rw [hfx, if_pos ha]
 ·rw [if_pos ha]
  by_cases hc : 0 ≤ a ∧ a < (m.length : Int) ∧ m.getD a.toNat true = false
  ·rw [if_pos hc]
   simp only [Option.bind_some]
   have hb : 0 ≤ a ∧ a < (N'.length : Int) := by omega
   rw [if_pos trivial, if_pos hb, if_pos hb, empty_eq]
   simp only [Option.bind_some]
   have hs := un_set hc.2.2
   have hx : nn N' a.toNat = Ty.at tN N' a.toNat := rfl
   rw [hx] at hfx
   clear hx
   generalize Ty.at tN N' a.toNat = x at *
   rw [isEb x]
   by_cases he : isE x
   ·rw [decide_eq_true he, if_neg (by decide), if_pos hb]
    refine StepOK_inl ⟨by dsimp only; omega, ⟨rfl, by dsimp only; rw [List.length_set]; exact hm⟩, ?_⟩
    dsimp only
    rw [hfx, if_neg ha, if_pos hc, if_pos he, hs]
    rfl
   ·rw [decide_eq_false he, if_pos rfl]
    refine StepOK_inr ?_
    dsimp only
    rw [hfx, if_neg ha, if_pos hc, if_neg he]
  ·rw [if_neg hc]
   simp only [Option.bind_some]
   first | rw [if_neg (by decide)] | rw [if_neg (fun h => h trivial)] | skip
   refine StepOK_inr ?_
   dsimp only
   rw [hfx, if_neg ha, if_neg hc]
theorem under_fix {N : List Nd} {r f : Int} : ∀ (n : Nat) {a low high : Int} {m : List Bool} {t : Nd}, m.length = N.length → un m < n →
  fixN n (fun g => under_g LOOPx g treap_above there) ((a, low, high), (N, r, f), m, t) = (undF N n a low high (some t) m).map fun x => (x.1, (N, r, f), x.2, t)
 | 0, _, _, _, _, _, _, h => by omega
 | n + 1, a, low, high, m, t, hm, h => by
  obtain ⟨t1, t2, t3, t4, t5, t6⟩ := t
  show under_g LOOPx (fixN n fun g => under_g LOOPx g treap_above there) treap_above there ((a, low, high), (N, r, f), m, t1, t2, t3, t4, t5, t6) = _
  have ih := fun {a low high : Int} {m : List Bool} {t : Nd} => under_fix (N := N) (r := r) (f := f) n (a := a) (low := low) (high := high) (m := m) (t := t)
  generalize fixN n (fun g => under_g LOOPx g treap_above there) = G at ih ⊢
  unfold under_g
  dsimp only
  simp only [cq1, there_eq]
  have hu : undF N (n + 1) a low high (some (t1, t2, t3, t4, t5, t6)) m = if a = -1 then some (true, m) else
   if 0 ≤ a ∧ a < (m.length : Int) ∧ m.getD a.toNat true = false then
    (if low < ky (nn N a.toNat) ∧ (high = -1 ∨ ky (nn N a.toNat) < high) ∧ tok (some (t1, t2, t3, t4, t5, t6)) (nn N a.toNat) = true then
     (match undF N n (lf (nn N a.toNat)) low (ky (nn N a.toNat)) (some (nn N a.toNat)) (m.set a.toNat true) with
      | none => none
      | some (b, m1) => if b = true then undF N n (rt (nn N a.toNat)) (ky (nn N a.toNat)) high (some (nn N a.toNat)) m1 else some (false, m1))
    else some (false, m.set a.toNat true))
   else some (false, m) := rfl
  rw [hu]
  clear hu
  by_cases ha : a = -1
  ·rw [if_pos ha, if_pos ha]; rfl
  ·rw [if_neg ha, if_neg ha]
   by_cases hc : 0 ≤ a ∧ a < (m.length : Int) ∧ m.getD a.toNat true = false
   ·rw [if_pos hc, if_pos hc]
    simp only [Option.bind_some]
    have hb : 0 ≤ a ∧ a < (N.length : Int) := by omega
    have hs := un_set hc.2.2
    have hl1 : (m.set a.toNat true).length = N.length := by rw [List.length_set]; exact hm
    generalize m.set a.toNat true = m1 at *
    first | rw [if_neg (by decide)] | rw [if_neg (fun h => by cases h)] | skip
    rw [if_pos hb]
    have hx : nn N a.toNat = Ty.at tN N a.toNat := rfl
    rw [hx]
    clear hx
    generalize Ty.at tN N a.toNat = x at *
    obtain ⟨k, p, l, rr, qh, qt, rfl⟩ : ∃ k p l rr qh qt : Int, x = (k, p, l, rr, qh, qt) := ⟨x.1, x.2.1, x.2.2.1, x.2.2.2.1, x.2.2.2.2.1, x.2.2.2.2.2, rfl⟩
    dsimp only
    have hlt : un m1 < n := by omega
    by_cases hC : low < k ∧ (high = -1 ∨ k < high) ∧ abv (t1, t2, t3, t4, t5, t6) (k, p, l, rr, qh, qt)
    ·rw [if_pos (show low < ky (k, p, l, rr, qh, qt) ∧ (high = -1 ∨ ky (k, p, l, rr, qh, qt) < high) ∧ tok (some (t1, t2, t3, t4, t5, t6)) (k, p, l, rr, qh, qt) = true from ⟨hC.1, hC.2.1, decide_eq_true hC.2.2⟩)]
     refine bnd (r := .inl ((low, high), (N, r, f), m1, (t1, t2, t3, t4, t5, t6), k, p, l, rr, qh, qt)) ?_ ?_
     ·rw [if_pos (show ¬ k ≤ low by omega), above_eq, decide_eq_true hC.2.2]
      simp only [Option.bind_some]
      by_cases hh : high = -1
      ·rw [if_neg (fun h => h hh), if_neg (by decide)]
      ·rw [if_pos hh, if_pos (by omega), if_neg (by decide)]
     ·dsimp only
      rw [ih hl1 hlt]
      obtain ⟨b, m2, e1, u1, l1⟩ := undF_tot (N := N) (f := n) (a := l) (low := low) (high := k) (top := some (k, p, l, rr, qh, qt)) (m := m1) hlt
      have e1' : undF N n (lf (k, p, l, rr, qh, qt)) low (ky (k, p, l, rr, qh, qt)) (some (k, p, l, rr, qh, qt)) m1 = some (b, m2) := e1
      rw [e1, e1']
      simp only [Option.map_some, Option.bind_some]
      cases b with
      | false => rw [if_neg (by decide), if_neg (by decide)]; rfl
      | true =>
       rw [if_pos rfl, if_pos rfl, ih (by omega) (by omega)]
       obtain ⟨b2, m3, e2, _, _⟩ := undF_tot (N := N) (f := n) (a := rr) (low := k) (high := high) (top := some (k, p, l, rr, qh, qt)) (m := m2) (by omega)
       have e2' : undF N n (rt (k, p, l, rr, qh, qt)) (ky (k, p, l, rr, qh, qt)) high (some (k, p, l, rr, qh, qt)) m2 = some (b2, m3) := e2
       rw [e2, e2']
       rfl
    ·rw [if_neg (show ¬ (low < ky (k, p, l, rr, qh, qt) ∧ (high = -1 ∨ ky (k, p, l, rr, qh, qt) < high) ∧ tok (some (t1, t2, t3, t4, t5, t6)) (k, p, l, rr, qh, qt) = true) from fun h => hC ⟨h.1, h.2.1, of_decide_eq_true h.2.2⟩)]
     refine bnd (r := .inr (false, (N, r, f), m1, t1, t2, t3, t4, t5, t6)) ?_ ?_
     ·by_cases h1 : k ≤ low
      ·rw [if_neg (fun h => h h1)]
      ·rw [if_pos h1, above_eq]
       simp only [Option.bind_some]
       by_cases hh : high = -1
       ·rw [if_neg (fun h => h hh), decide_eq_false (fun h => hC ⟨by omega, .inl hh, h⟩), if_pos rfl]
       ·rw [if_pos hh]
        by_cases h2 : high ≤ k
        ·rw [if_neg (fun h => h h2)]
        ·rw [if_pos h2, decide_eq_false (fun h => hC ⟨by omega, .inr (by omega), h⟩), if_pos rfl]
     ·rfl
   ·rw [if_neg hc, if_neg hc]
    simp only [Option.bind_some]
    first | rw [if_pos rfl] | rw [if_pos trivial] | skip
    rfl
end Go.AX.Tr
end
section
namespace Go.AX.Tr
open Go Go.AX
theorem undF_same {N : List Nd} : ∀ {f g : Nat} {a low high : Int} {top : Option Nd} {m : List Bool}, un m < f → un m < g → undF N f a low high top m = undF N g a low high top m
 | 0, _, _, _, _, _, _, h, _ => by omega
 | _ + 1, 0, _, _, _, _, _, _, h => by omega
 | f + 1, g + 1, a, low, high, top, m, hf, hg => by
  rw [undF, undF]
  by_cases ha : a = -1
  ·rw [if_pos ha, if_pos ha]
  ·rw [if_neg ha, if_neg ha]
   by_cases hc : 0 ≤ a ∧ a < (m.length : Int) ∧ m.getD a.toNat true = false
   ·rw [if_pos hc, if_pos hc]
    have hs := un_set hc.2.2
    have h1 := undF_same (N := N) (f := f) (g := g) (a := lf (nn N a.toNat)) (low := low) (high := ky (nn N a.toNat)) (top := some (nn N a.toNat)) (m := m.set a.toNat true) (by omega) (by omega)
    obtain ⟨b, m1, e1, u1, l1⟩ := undF_tot (N := N) (f := f) (a := lf (nn N a.toNat)) (low := low) (high := ky (nn N a.toNat)) (top := some (nn N a.toNat)) (m := m.set a.toNat true) (by omega)
    have h2 := undF_same (N := N) (f := f) (g := g) (a := rt (nn N a.toNat)) (low := ky (nn N a.toNat)) (high := high) (top := some (nn N a.toNat)) (m := m1) (by omega) (by omega)
    rw [← h1, e1]
    dsimp only
    rw [h2]
   ·rw [if_neg hc, if_neg hc]
theorem under_eq {N : List Nd} {r f a low high : Int} {m : List Bool} {t : Nd} {n : Nat} (hm : m.length = N.length) (hN : N.length ≤ 1000000) (hn : un m < n) :
  under ((a, low, high), (N, r, f), m, t) = (undF N n a low high (some t) m).map fun x => (x.1, (N, r, f), x.2, t) := by
 have hl : un m ≤ m.length := List.count_le_length
 have := big
 rw [← undF_same (f := FUEL) (g := n) (by omega) hn]
 exact under_fix FUEL hm (by omega)
theorem under_nil_eq {N : List Nd} {r f a low high : Int} {m : List Bool} {n : Nat} (hm : m.length = N.length) (hN : N.length ≤ 1000000) (hn : un m < n + 1) :
  under_nil ((a, low, high), (N, r, f), m) = (undF N (n + 1) a low high none m).map fun x => (x.1, (N, r, f), x.2) := by
 unfold under_nil under_nil_g
 dsimp only
 simp only [cq1, there_eq]
 have hu : undF N (n + 1) a low high none m = if a = -1 then some (true, m) else
   if 0 ≤ a ∧ a < (m.length : Int) ∧ m.getD a.toNat true = false then
    (if low < ky (nn N a.toNat) ∧ (high = -1 ∨ ky (nn N a.toNat) < high) ∧ tok none (nn N a.toNat) = true then
     (match undF N n (lf (nn N a.toNat)) low (ky (nn N a.toNat)) (some (nn N a.toNat)) (m.set a.toNat true) with
      | none => none
      | some (b, m1) => if b = true then undF N n (rt (nn N a.toNat)) (ky (nn N a.toNat)) high (some (nn N a.toNat)) m1 else some (false, m1))
    else some (false, m.set a.toNat true))
   else some (false, m) := rfl
 rw [hu]
 clear hu
 by_cases ha : a = -1
 ·rw [if_pos ha, if_pos ha]; rfl
 ·rw [if_neg ha, if_neg ha]
  by_cases hc : 0 ≤ a ∧ a < (m.length : Int) ∧ m.getD a.toNat true = false
  ·rw [if_pos hc, if_pos hc]
   simp only [Option.bind_some]
   have hb : 0 ≤ a ∧ a < (N.length : Int) := by omega
   have hs := un_set hc.2.2
   have hl1 : (m.set a.toNat true).length = N.length := by rw [List.length_set]; exact hm
   generalize m.set a.toNat true = m1 at *
   first | rw [if_neg (by decide)] | rw [if_neg (fun h => by cases h)] | skip
   rw [if_pos hb]
   have hx : nn N a.toNat = Ty.at tN N a.toNat := rfl
   rw [hx]
   clear hx
   generalize Ty.at tN N a.toNat = x at *
   obtain ⟨k, p, l, rr, qh, qt, rfl⟩ : ∃ k p l rr qh qt : Int, x = (k, p, l, rr, qh, qt) := ⟨x.1, x.2.1, x.2.2.1, x.2.2.2.1, x.2.2.2.2.1, x.2.2.2.2.2, rfl⟩
   dsimp only
   have hlt : un m1 < n := by omega
   by_cases hC : low < k ∧ (high = -1 ∨ k < high)
   ·rw [if_pos (show low < ky (k, p, l, rr, qh, qt) ∧ (high = -1 ∨ ky (k, p, l, rr, qh, qt) < high) ∧ tok none (k, p, l, rr, qh, qt) = true from ⟨hC.1, hC.2, rfl⟩)]
    refine bnd (r := .inl ((low, high), (N, r, f), m1, k, p, l, rr, qh, qt)) ?_ ?_
    ·rw [if_pos (show ¬ k ≤ low by omega)]
     by_cases hh : high = -1
     ·rw [if_neg (fun h => h hh)]
     ·rw [if_pos hh, if_pos (by omega)]
    ·dsimp only
     rw [under_eq hl1 hN hlt]
     obtain ⟨b, m2, e1, u1, l1⟩ := undF_tot (N := N) (f := n) (a := l) (low := low) (high := k) (top := some (k, p, l, rr, qh, qt)) (m := m1) hlt
     have e1' : undF N n (lf (k, p, l, rr, qh, qt)) low (ky (k, p, l, rr, qh, qt)) (some (k, p, l, rr, qh, qt)) m1 = some (b, m2) := e1
     rw [e1, e1']
     simp only [Option.map_some, Option.bind_some]
     cases b with
     | false => rw [if_neg (by decide), if_neg (by decide)]; rfl
     | true =>
      rw [if_pos rfl, if_pos rfl, under_eq (n := n) (by omega) hN (by omega)]
      obtain ⟨b2, m3, e2, _, _⟩ := undF_tot (N := N) (f := n) (a := rr) (low := k) (high := high) (top := some (k, p, l, rr, qh, qt)) (m := m2) (by omega)
      have e2' : undF N n (rt (k, p, l, rr, qh, qt)) (ky (k, p, l, rr, qh, qt)) high (some (k, p, l, rr, qh, qt)) m2 = some (b2, m3) := e2
      rw [e2, e2']
      rfl
   ·rw [if_neg (show ¬ (low < ky (k, p, l, rr, qh, qt) ∧ (high = -1 ∨ ky (k, p, l, rr, qh, qt) < high) ∧ tok none (k, p, l, rr, qh, qt) = true) from fun h => hC ⟨h.1, h.2.1⟩)]
    refine bnd (r := .inr (false, (N, r, f), m1)) ?_ ?_
    ·by_cases h1 : k ≤ low
     ·rw [if_neg (fun h => h h1)]
     ·rw [if_pos h1]
      by_cases hh : high = -1
      ·exact absurd ⟨by omega, .inl hh⟩ hC
      ·rw [if_pos hh, if_neg (fun h => hC ⟨by omega, .inr (by omega)⟩)]
    ·rfl
  ·rw [if_neg hc, if_neg hc]
   simp only [Option.bind_some]
   first | rw [if_pos rfl] | rw [if_pos trivial] | skip
   rfl
theorem Index_eq (l : List Bool) (x : Bool) (hl : l.length ≤ 1000000) : ∃ k, Index_bool (l, x) = some k ∧ (0 ≤ k ↔ x ∈ l) := by
 unfold Index_bool Index_bool_g
 refine LOOP_ex (σ := List Bool × Bool × Int × Int) (O := Int) (fun s => s.1 = l ∧ s.2.1 = x ∧ s.2.2.1 = (l.length : Int) ∧ 0 ≤ s.2.2.2 ∧ s.2.2.2 ≤ (l.length : Int) ∧ (x ∈ l ↔ x ∈ l.drop s.2.2.2.toNat)) (fun s => l.length - s.2.2.2.toNat) _ ?_ ⟨rfl, rfl, rfl, by simp, by simp, by simp⟩ (by have := big; simp; omega)
 rintro ⟨a, b, n, i⟩ ⟨rfl, rfl, e, h0, h1, h2⟩
 dsimp only at e h0 h1 h2 hl ⊢
 subst e
 simp only [cq1]
 by_cases h : i < (a.length : Int)
 ·rw [if_pos h, if_pos ⟨h0, h⟩]
  have hd : a.drop i.toNat = Ty.at .boo a i.toNat :: a.drop (i.toNat + 1) := by rw [at_get (by omega)]; exact List.drop_eq_getElem_cons (by omega)
  rw [hd] at h2
  by_cases hq : b = Ty.at .boo a i.toNat
  ·rw [if_pos hq]
   refine .inl ⟨i, rfl, ?_⟩
   rw [h2]
   exact ⟨fun _ => by rw [← hq]; exact List.mem_cons_self, fun _ => h0⟩
  ·rw [if_neg hq]
   refine .inr ⟨_, rfl, ?_⟩
   dsimp only
   rw [wrap_i64 (by omega), show (i + 1).toNat = i.toNat + 1 by omega]
   refine ⟨by omega, rfl, rfl, rfl, by omega, by omega, ?_⟩
   rw [h2]
   exact ⟨fun h => by rcases List.mem_cons.1 h with h | h; exact absurd h hq; exact h, fun h => List.mem_cons_of_mem _ h⟩
 ·rw [if_neg h]
  refine .inl ⟨-1, rfl, ?_⟩
  rw [h2, List.drop_of_length_le (by omega)]
  constructor
  ·intro h; omega
  ·intro h; cases h
theorem Contains_eq (l : List Bool) (x : Bool) (hl : l.length ≤ 1000000) : Contains_bool (l, x) = some (decide (x ∈ l)) := by
 unfold Contains_bool Contains_bool_g
 obtain ⟨k, e, h⟩ := Index_eq l x hl
 dsimp only
 rw [e, Option.bind_some]
 congr 1
 rw [decide_eq_decide]
 exact h
theorem Right_eq {N : List Nd} {r f : Int} (hN : N.length ≤ 1000000) : treap_Right (N, r, f) = some (progR N r f) := by
 unfold treap_Right treap_Right_g
 dsimp only
 simp only [cq1]
 rw [if_pos (by refine ⟨by omega, Int.le_refl _, by omega, by omega⟩)]
 unfold progR
 by_cases h64 : N.length ≤ 64
 ·rw [if_pos (show (N.length : Int) ≤ 64 by omega), if_pos h64]
  rw [show ((N.length : Int)).toNat = N.length from rfl, free_eq (by rw [List.length_replicate]) hN, un_rep]
  simp only [Option.bind_some]
  have hlen : ∀ (n : Nat) (a : Int) (m : List Bool), (frX N n a m).2.length = m.length ∧ un (frX N n a m).2 ≤ un m := by
   intro n
   induction n with
   | zero => intro a m; exact ⟨rfl, Nat.le_refl _⟩
   | succ n ih =>
    intro a m
    rw [frX]
    split
    ·exact ⟨rfl, Nat.le_refl _⟩
    ·split
     ·rename_i h1 h2
      have := un_set h2.2.2
      split
      ·have := ih (lf (nn N a.toNat)) (m.set a.toNat true)
       rw [List.length_set] at this
       exact ⟨this.1, by omega⟩
      ·exact ⟨by rw [List.length_set], by dsimp only; omega⟩
     ·exact ⟨rfl, Nat.le_refl _⟩
  have hx := hlen (N.length + 1) f (List.replicate N.length false)
  rw [List.length_replicate, un_rep] at hx
  generalize frX N (N.length + 1) f (List.replicate N.length false) = x at *
  obtain ⟨b, m⟩ := x
  dsimp only at hx ⊢
  cases b with
  | false => rw [if_neg (by decide), if_neg (by decide)]
  | true =>
   rw [if_pos rfl, if_pos rfl, under_nil_eq (n := N.length) hx.1 hN (by omega)]
   obtain ⟨b2, m3, e2, _, l2⟩ := undF_tot (N := N) (f := N.length + 1) (a := r) (low := -1) (high := -1) (top := none) (m := m) (by omega)
   rw [e2]
   simp only [Option.map_some, Option.bind_some]
   cases b2 with
   | false => rw [if_neg (by decide)]
   | true =>
    rw [if_pos rfl, Contains_eq _ _ (by omega), Option.bind_some]
    congr 1
    simp
 ·rw [if_neg (show ¬ (N.length : Int) ≤ 64 by omega), if_neg h64]
end Go.AX.Tr
end
section
namespace Go.AX.Tr
open Go Go.AX
theorem nz (i : Nat) : ¬ ((i : Int) = -1) := by omega
theorem nb {i n : Nat} (h : i < n) : 0 ≤ (i : Int) ∧ (i : Int) < (n : Int) := by omega
theorem split_fix {N : List Nd} {key r f : Int} : ∀ {T : TT} (n : Nat), Rep N T → siz T < n →
  fixN n (fun g => split_g LOOPx g) ((tp T, key), (r, f), N) = some ((tp (spl N key T).1, tp (spl N key T).2), (r, f), spN N key T)
 | _, 0, _, h => by omega
 | .nil, n + 1, _, _ => by
  show split_g LOOPx (fixN n fun g => split_g LOOPx g) ((-1, key), (r, f), N) = _
  unfold split_g
  rfl
 | .nd l i rr, n + 1, hr, hs => by
  obtain ⟨hi, e1, e2, r1, r2⟩ := hr
  rw [siz] at hs
  show split_g LOOPx (fixN n fun g => split_g LOOPx g) (((i : Int), key), (r, f), N) = _
  have ihl := split_fix (N := N) (key := key) (r := r) (f := f) (T := l) n r1 (by omega)
  have ihr := split_fix (N := N) (key := key) (r := r) (f := f) (T := rr) n r2 (by omega)
  have hl1 := (spN_ch (N := N) (key := key) (T := l)).len
  have hl2 := (spN_ch (N := N) (key := key) (T := rr)).len
  generalize fixN n (fun g => split_g LOOPx g) = G at ihl ihr ⊢
  unfold split_g
  dsimp only
  simp only [cq1, Int.toNat_natCast]
  rw [if_neg (nz i), if_pos (nb hi), if_pos hi, spl, spN]
  by_cases hk : ky (nn N i) < key
  ·rw [if_pos hk, if_pos hk, if_pos (show (Ty.at tN N i).1 < key from hk), if_pos hi]
   refine bnd (r := ((tp (spl N key rr).1, tp (spl N key rr).2), (r, f), spN N key rr)) ?_ ?_
   ·rw [← ihr, ← e2]; rfl
   ·dsimp only
    rw [if_pos (by omega)]
    rfl
  ·rw [if_neg hk, if_neg hk, if_neg (show ¬ (Ty.at tN N i).1 < key from hk), if_pos hi]
   refine bnd (r := ((tp (spl N key l).1, tp (spl N key l).2), (r, f), spN N key l)) ?_ ?_
   ·rw [← ihl, ← e1]; rfl
   ·dsimp only
    rw [if_pos (by omega)]
    rfl
theorem split_eq {N : List Nd} {key r f : Int} {T : TT} (h : Rep N T) (hs : siz T ≤ 1000000) :
  split ((tp T, key), (r, f), N) = some ((tp (spl N key T).1, tp (spl N key T).2), (r, f), spN N key T) := split_fix FUEL h (by have := big; omega)
theorem insert_fix {N : List Nd} {i : Nat} {r f : Int} (hi : i < N.length) : ∀ {T : TT} (n : Nat), Rep N T → siz T < n → siz T ≤ 1000000 →
  fixN n (fun g => insert_g LOOPx g treap_above split) ((tp T, (i : Int)), (r, f), N) = some (tp (ins N i T), (r, f), insN N i T)
 | _, 0, _, h, _ => by omega
 | .nil, n + 1, _, _, _ => by
  show insert_g LOOPx (fixN n fun g => insert_g LOOPx g treap_above split) treap_above split ((-1, (i : Int)), (r, f), N) = _
  generalize fixN n (fun g => insert_g LOOPx g treap_above split) = G
  unfold insert_g
  dsimp only
  simp only [cq1, Int.toNat_natCast]
  rw [if_neg (fun h => h trivial)]
  simp only [Option.bind_some, Int.toNat_natCast]
  rw [if_pos trivial, if_pos (nb hi), if_pos hi]
  refine bnd (split_eq (T := .nil) trivial (by decide)) ?_
  simp only [spN, spl]
  refine (if_pos (nb hi)).trans ((if_pos hi).trans ((if_pos ?_).trans ((if_pos ?_).trans ?_)))
  ·rw [List.length_set]; exact nb hi
  ·rw [List.length_set]; exact hi
  ·rfl
 | .nd l j rr, n + 1, hr, hs, hsm => by
  have hr0 := hr
  obtain ⟨hj, e1, e2, r1, r2⟩ := hr
  have hs0 := hsm
  rw [siz] at hs hsm
  show insert_g LOOPx (fixN n fun g => insert_g LOOPx g treap_above split) treap_above split (((j : Int), (i : Int)), (r, f), N) = _
  have ihl := insert_fix (r := r) (f := f) hi (T := l) n r1 (by omega) (by omega)
  have ihr := insert_fix (r := r) (f := f) hi (T := rr) n r2 (by omega) (by omega)
  have hl1 := (insN_ch (N := N) (i := i) (T := l)).len
  have hl2 := (insN_ch (N := N) (i := i) (T := rr)).len
  have hl3 := (spN_ch (N := N) (key := ky (nn N i)) (T := .nd l j rr)).len
  generalize fixN n (fun g => insert_g LOOPx g treap_above split) = G at ihl ihr ⊢
  unfold insert_g
  dsimp only
  simp only [cq1, Int.toNat_natCast]
  rw [if_pos (nz j), if_pos (nb hi), if_pos hi, if_pos (nb hj), if_pos hj]
  refine bnd (r := .inl (((j : Int), (i : Int), decide (abv (nn N i) (nn N j))), (r, f), N)) (bnd (above_eq (nn N i) (nn N j)) rfl) ?_
  simp only [Int.toNat_natCast]
  rw [ins, insN]
  by_cases ha : abv (nn N i) (nn N j)
  ·rw [decide_eq_true ha, if_pos rfl, if_pos ha, if_pos ha, if_pos (nb hi), if_pos hi]
   refine bnd (split_eq (key := ky (nn N i)) (T := .nd l j rr) hr0 hs0) ?_
   dsimp only
   generalize spN N (ky (nn N i)) (.nd l j rr) = M at *
   generalize spl N (ky (nn N i)) (.nd l j rr) = S at *
   have hM : i < M.length := by omega
   rw [if_pos (nb hM), if_pos hM, if_pos (by rw [List.length_set]; exact nb hM), if_pos (by rw [List.length_set]; exact hM)]
   rfl
  ·rw [decide_eq_false ha, if_neg (by decide), if_neg ha, if_neg ha, if_pos (nb hj), if_pos (nb hi), if_pos hi, if_pos hj]
   by_cases hk : ky (nn N i) < ky (nn N j)
   ·rw [if_pos hk, if_pos hk, if_pos (show (Ty.at tN N i).1 < (Ty.at tN N j).1 from hk), if_pos hj]
    refine bnd (r := (tp (ins N i l), (r, f), insN N i l)) ?_ ?_
    ·rw [← ihl, ← e1]; rfl
    ·dsimp only
     rw [if_pos (by omega)]
     rfl
   ·rw [if_neg hk, if_neg hk, if_neg (show ¬ (Ty.at tN N i).1 < (Ty.at tN N j).1 from hk), if_pos hj]
    refine bnd (r := (tp (ins N i rr), (r, f), insN N i rr)) ?_ ?_
    ·rw [← ihr, ← e2]; rfl
    ·dsimp only
     rw [if_pos (by omega)]
     rfl
theorem insert_eq {N : List Nd} {i : Nat} {r f : Int} {T : TT} (hi : i < N.length) (h : Rep N T) (hs : siz T ≤ 1000000) :
  insert ((tp T, (i : Int)), (r, f), N) = some (tp (ins N i T), (r, f), insN N i T) := insert_fix hi FUEL h (by have := big; omega) hs
end Go.AX.Tr
end
section
namespace Go.AX.Tr
open Go Go.AX
theorem drop_at {T : Ty} {l : List T.den} {i : Nat} (h : i < l.length) : l.drop i = Ty.at T l i :: l.drop (i + 1) := by rw [at_get h]; exact List.drop_eq_getElem_cons h
theorem toN1 {i : Int} (h : 0 ≤ i) : (i + 1).toNat = i.toNat + 1 := by omega
theorem Has_eq (l : List Int) (n : Int) (hl : l.length ≤ 1000000) : rf7_Has (l, n) = some (decide (n ∈ l)) := by
 unfold rf7_Has rf7_Has_g
 refine (LOOP_m (fun s => s.1 = l ∧ s.2.1 = n ∧ 0 ≤ s.2.2 ∧ s.2.2 ≤ (l.length : Int)) (fun s => l.length - s.2.2.toNat) (fun s => decide (n ∈ l.drop s.2.2.toNat)) ?_ ⟨rfl, rfl, by simp, by simp⟩ (by have := big; simp; omega)).trans (by simp)
 rintro ⟨a, b, i⟩ ⟨rfl, rfl, h0, h1⟩
 dsimp only at *
 simp only [cq1]
 (repeat' (first | (refine StepOK_ite (fun h => ?_) (fun h => ?_)) | (refine StepOK_inr ?_) | (refine StepOK_inl ⟨?_, ?_, ?_⟩)))
 all_goals try dsimp only
 ·rename_i h2 h3
  rw [drop_at (T := (Ty.int IntKind.i64)) (by omega)]; simp [← h]
 ·rw [wrap_i64 (by omega)]; omega
 ·rw [wrap_i64 (by omega)]; exact ⟨rfl, rfl, by omega, by omega⟩
 ·rename_i h2 h3
  rw [wrap_i64 (by omega), toN1 h0, drop_at (T := (Ty.int IntKind.i64)) (l := a) (i := i.toNat) (by omega)]
  have h' : ¬ b = Ty.at (Ty.int IntKind.i64) a i.toNat := fun e => h e.symm
  simp [h']
 ·omega
 ·rw [List.drop_of_length_le (by omega)]; simp
theorem Copy_eq (N : List Nd) (r f : Int) (hN : N.length ≤ 1000000) : rf9_Copy (N, r, f) = some ((r, f), N) := by
 unfold rf9_Copy rf9_Copy_g
 dsimp only
 simp only [cq1]
 rw [if_pos (by rw [List.length_nil]; omega)]
 rfl
theorem nd_eta (x y : Nd) : (x.1 == y.1 && (x.2.1 == y.2.1 && (x.2.2.1 == y.2.2.1 && (x.2.2.2.1 == y.2.2.2.1 && (x.2.2.2.2.1 == y.2.2.2.2.1 && (x.2.2.2.2.2 == y.2.2.2.2.2 && true)))))) = decide (x = y) := by
 obtain ⟨a, b, c, d, e, f⟩ := x
 obtain ⟨a', b', c', d', e', f'⟩ := y
 rw [Bool.eq_iff_iff, decide_eq_true_iff]
 simp only [Prod.mk.injEq, Bool.and_eq_true, beq_iff_eq, and_true]
theorem Same_eq (A B : List Nd) (r f r' f' : Int) (hA : A.length ≤ 1000000) : rf9_Same ((A, r, f), (B, r', f')) = some (decide (A = B ∧ r = r' ∧ f = f')) := by
 unfold rf9_Same rf9_Same_g
 dsimp only
 simp only [nd_eta, cq1]
 by_cases h1 : r = r'
 ·rw [if_pos h1]
  by_cases h2 : f = f'
  ·rw [if_pos h2]
   by_cases hlen : A.length = B.length
   ·rw [if_neg (by omega)]
    refine Eq.trans (LOOP_m (σ := Int × (List Nd × Int × Int) × List Nd × Int × Int) (O := Bool) (fun s => s.2.1.1 = A ∧ s.2.2.1 = B ∧ 0 ≤ s.1 ∧ s.1 ≤ (A.length : Int)) (fun s => A.length - s.1.toNat) (fun s => decide (A.drop s.1.toNat = B.drop s.1.toNat)) ?_ ⟨rfl, rfl, by simp, by simp⟩ (by have := big; simp; omega)) (by simp [h1, h2])
    rintro ⟨i, ⟨a', r1, f1⟩, b', r2, f2⟩ ⟨e1, e2, h0, h3⟩
    dsimp only at e1 e2 h0 h3 ⊢
    subst e1; subst e2
    by_cases hi : i < (a'.length : Int)
    ·rw [if_pos hi, if_pos ⟨h0, hi⟩, if_pos (by omega)]
     have d1 : a'.drop i.toNat = Ty.at tN a' i.toNat :: a'.drop (i.toNat + 1) := drop_at (T := tN) (by omega)
     have d2 : b'.drop i.toNat = Ty.at tN b' i.toNat :: b'.drop (i.toNat + 1) := drop_at (T := tN) (by omega)
     by_cases hq : Ty.at tN a' i.toNat = Ty.at tN b' i.toNat
     ·rw [if_neg (fun h => h hq)]
      refine StepOK_inl ⟨?_, ⟨rfl, rfl, ?_, ?_⟩, ?_⟩
      ·dsimp only; rw [wrap_i64 (by omega)]; omega
      ·dsimp only; rw [wrap_i64 (by omega)]; omega
      ·dsimp only; rw [wrap_i64 (by omega)]; omega
      ·dsimp only; rw [wrap_i64 (by omega), toN1 h0, d1, d2, hq]; simp
     ·rw [if_pos hq]
      refine StepOK_inr ?_
      dsimp only
      rw [d1, d2]
      simp [hq]
    ·rw [if_neg hi]
     refine StepOK_inr ?_
     dsimp only
     rw [List.drop_of_length_le (by omega), List.drop_of_length_le (by omega)]; simp
   ·rw [if_pos (by omega)]
    have : A ≠ B := fun e => hlen (by rw [e])
    simp [this]
  ·rw [if_neg h2]; simp [h2]
 ·rw [if_neg h1]; simp [h1]
end Go.AX.Tr
end
section
namespace Go.AX.Tr
open Go Go.AX
theorem bst {σ O α : Type} {Inv : σ → Prop} {μ : σ → Nat} {res : σ → O} {s : σ} {x : Option α} {r : α} {k : α → Option (σ ⊕ O)} (h : x = some r) (h2 : StepOK Inv μ res s (k r)) : StepOK Inv μ res s (x.bind k) := by rw [h]; exact h2
theorem tnd (N : List Nd) (i : Nat) : Ty.at tN N i = nn N i := rfl
def toI (l : List Nat) : List Int := l.map fun x : Nat => (x : Int)
theorem toI_len {l : List Nat} : (toI l).length = l.length := by unfold toI; rw [List.length_map]
theorem toI_back {l : List Nat} : (toI l).map Int.toNat = l := by
 unfold toI
 rw [List.map_map]
 have : (Int.toNat ∘ fun x : Nat => (x : Int)) = id := by funext x; simp
 rw [this, List.map_id]
theorem mem_toI {l : List Nat} {a : Int} (h : 0 ≤ a) : a ∈ toI l ↔ a.toNat ∈ l := by
 unfold toI
 rw [List.mem_map]
 constructor
 ·rintro ⟨x, hx, rfl⟩; exact hx
 ·intro hx; exact ⟨a.toNat, hx, by omega⟩
theorem toI_at {l : List Nat} {i : Nat} (h : i < l.length) : Ty.at (Ty.int IntKind.i64) (toI l) i = ((l.getD i 0 : Nat) : Int) := by
 rw [at_get (by rw [toI_len]; exact h)]
 simp only [toI, List.getElem_map]
 rw [List.getD_eq_getElem?_getD, List.getElem?_eq_getElem h, Option.getD_some]
theorem toI_app {a b : List Nat} : toI (a ++ b) = toI a ++ toI b := by unfold toI; rw [List.map_append]
def frO : Option (List Nat) → Bool × List Int
 | some F => (true, toI F)
 | none => (false, [])
theorem rfree_eq {N : List Nd} {r f : Int} (hN : N.length ≤ 1000000) : rf9_free (N, r, f) = some (frO (frF N (N.length + 1) f [])) := by
 unfold rf9_free rf9_free_g
 dsimp only
 refine Eq.trans (LOOP_m (σ := Int × (List Nd × Int × Int) × List Int) (O := Bool × List Int) (fun s => s.2.1 = (N, r, f) ∧ ∃ acc, s.2.2 = toI acc ∧ acc.Nodup ∧ ∀ x ∈ acc, x < N.length) (fun s => N.length - s.2.2.length) (fun s => frO (frF N (N.length + 1 - s.2.2.length) s.1 (s.2.2.map Int.toNat))) ?_ ⟨rfl, [], rfl, List.nodup_nil, by simp⟩ (by have := big; dsimp only; omega)) rfl
 rintro ⟨a, ⟨N', r', f'⟩, out⟩ ⟨e1, acc, e2, hn, hlt⟩
 dsimp only at e1 e2
 subst e2
 simp only [Prod.mk.injEq] at e1
 obtain ⟨rfl, rfl, rfl⟩ := e1
 have hlen := nodup_len hn hlt
 have hfr : frF N' (N'.length + 1 - (toI acc).length) a ((toI acc).map Int.toNat) = if a = -1 then some acc else if (0 ≤ a ∧ a < (N'.length : Int) ∧ a.toNat ∉ acc) ∧ isE (nn N' a.toNat) then frF N' (N'.length - acc.length) (lf (nn N' a.toNat)) (acc ++ [a.toNat]) else none := by
  rw [toI_back, toI_len, show N'.length + 1 - acc.length = (N'.length - acc.length) + 1 by omega]; rfl
 dsimp only
 simp only [cq1, tnd]
 by_cases ha : a = -1
 ·rw [if_neg (fun h => h ha)]
  refine StepOK_inr ?_
  dsimp only
  rw [hfr, if_pos ha]; rfl
 ·rw [if_pos ha]
  rw [if_neg ha] at hfr
  by_cases h0 : a < 0
  ·rw [if_neg (fun h => h h0)]
   refine StepOK_inr ?_
   dsimp only
   rw [hfr, if_neg (fun h => by omega)]; rfl
  ·rw [if_pos h0]
   by_cases h1 : (N'.length : Int) ≤ a
   ·rw [if_neg (fun h => h h1)]
    refine StepOK_inr ?_
    dsimp only
    rw [hfr, if_neg (fun h => by omega)]; rfl
   ·rw [if_pos h1]
    refine bst (Has_eq _ _ (by rw [toI_len]; omega)) ?_
    by_cases h2 : a.toNat ∈ acc
    ·rw [decide_eq_true ((mem_toI (by omega)).2 h2), if_neg (by decide)]
     refine StepOK_inr ?_
     dsimp only
     rw [hfr, if_neg (fun h => h.1.2.2 h2)]; rfl
    ·rw [decide_eq_false (fun h => h2 ((mem_toI (by omega)).1 h)), if_pos rfl, if_pos (by omega), if_pos (by omega)]
     refine bst (rempty_eq _) ?_
     dsimp only
     rw [isEb (nn N' a.toNat)]
     by_cases h3 : isE (nn N' a.toNat)
     ·rw [decide_eq_true h3, if_neg (by decide)]
      rw [if_pos (by rw [toI_len]; show (acc.length + 1) * 8 ≤ _; omega), if_pos (by omega)]
      have hx : a.toNat < N'.length := by omega
      have hn2 : (acc ++ [a.toNat]).Nodup := by
       rw [List.nodup_append]
       refine ⟨hn, by simp, fun x hx y hy => ?_⟩
       rw [List.mem_singleton] at hy
       rintro rfl
       exact h2 (hy ▸ hx)
      have hlt2 : ∀ x ∈ acc ++ [a.toNat], x < N'.length := fun x hx => by
       rcases List.mem_append.1 hx with h | h
       ·exact hlt x h
       ·rw [List.mem_singleton] at h; omega
      have hlen2 := nodup_len hn2 hlt2
      have he : toI acc ++ [a] = toI (acc ++ [a.toNat]) := by rw [toI_app]; simp [toI]; omega
      refine StepOK_inl ⟨?_, ⟨rfl, acc ++ [a.toNat], he, hn2, hlt2⟩, ?_⟩
      ·dsimp only
       rw [he, toI_len, toI_len]
       rw [List.length_append] at hlen2 ⊢
       simp only [List.length_singleton] at hlen2 ⊢
       omega
      ·dsimp only
       rw [hfr, if_pos ⟨⟨by omega, by omega, h2⟩, h3⟩, he, toI_back, toI_len, List.length_append, List.length_singleton, show N'.length + 1 - (acc.length + 1) = N'.length - acc.length by omega]
       rfl
     ·rw [decide_eq_false h3, if_pos rfl]
      refine StepOK_inr ?_
      dsimp only
      rw [hfr, if_neg (fun h => h3 h.2)]; rfl
def Fl (N : List Nd) (f : Int) : List Nat := (frF N (N.length + 1) f []).getD []
theorem frO_2 {x : Option (List Nat)} : (frO x).2 = toI (x.getD []) := by cases x <;> rfl
theorem Fl_ok {N : List Nd} {f : Int} : (∀ x ∈ Fl N f, x < N.length) ∧ (Fl N f).Nodup := by
 unfold Fl
 cases h : frF N (N.length + 1) f [] with
 | none => simp
 | some F =>
  have := frF_ok (acc := []) (by simp) (by simp) h
  exact ⟨fun x hx => (this.1 x hx).1, this.2.1⟩
theorem sorted_eq {N : List Nd} {r f : Int} (hN : N.length ≤ 1000000) : rf9_sorted (N, r, f) = some (toI (lst N (Fl N f))) := by
 unfold rf9_sorted rf9_sorted_g
 dsimp only
 rw [rfree_eq hN]
 rw [Option.bind_some, frO_2]
 obtain ⟨hF1, hF2⟩ := Fl_ok (N := N) (f := f)
 change LOOPx _ _ _ (0, (N, r, f), toI (Fl N f), []) = _
 generalize Fl N f = F at *
 have hFl := nodup_len hF2 hF1
 refine Eq.trans (LOOP_m (σ := Int × (List Nd × Int × Int) × List Int × List Int) (O := List Int) (fun s => s.2.1 = (N, r, f) ∧ s.2.2.1 = toI F ∧ 0 ≤ s.1 ∧ s.1 ≤ (N.length : Int) ∧ ∃ out, s.2.2.2 = toI out ∧ out.length ≤ s.1.toNat ∧ ∀ x ∈ out, x < N.length) (fun s => N.length - s.1.toNat) (fun s => toI (srt N (((List.range' s.1.toNat (N.length - s.1.toNat))).filter fun i => decide (i ∉ F)) (s.2.2.2.map Int.toNat))) ?_ ⟨rfl, rfl, by simp, by simp, [], rfl, by simp, by simp⟩ (by have := big; dsimp only; omega)) ?_
 ·rintro ⟨i, ⟨N', r', f'⟩, F', out'⟩ ⟨e1, e2, h0, h1, out, e3, hl, hlt⟩
  dsimp only at e1 e2 e3 h0 h1 hl
  subst e2; subst e3
  simp only [Prod.mk.injEq] at e1
  obtain ⟨rfl, rfl, rfl⟩ := e1
  simp only [cq1]
  by_cases hi : i < (N'.length : Int)
  ·rw [if_pos hi]
   have hr : List.range' i.toNat (N'.length - i.toNat) = i.toNat :: List.range' (i + 1).toNat (N'.length - (i + 1).toNat) := by
    rw [toN1 h0, show N'.length - i.toNat = (N'.length - (i.toNat + 1)) + 1 by omega, List.range'_succ]
   refine bst (Has_eq _ _ (by rw [toI_len]; omega)) ?_
   by_cases hm : i.toNat ∈ F
   ·rw [decide_eq_true ((mem_toI h0).2 hm), if_pos rfl]
    refine StepOK_inl ⟨?_, ⟨rfl, rfl, ?_, ?_, out, rfl, ?_, hlt⟩, ?_⟩
    ·dsimp only; rw [wrap_i64 (by omega)]; omega
    ·dsimp only; rw [wrap_i64 (by omega)]; omega
    ·dsimp only; rw [wrap_i64 (by omega)]; omega
    ·dsimp only; rw [wrap_i64 (by omega)]; omega
    ·dsimp only
     rw [wrap_i64 (by omega), hr, List.filter_cons_of_neg (by simp [hm])]
   ·rw [decide_eq_false (fun h => hm ((mem_toI h0).1 h)), if_neg (by decide)]
    refine bst (r := .inl ((i, ((posP N' i.toNat out : Nat) : Int)), (N', r', f'), toI F, toI out)) ?_ ?_
    ·refine Eq.trans (LOOP_m (σ := (Int × Int) × (List Nd × Int × Int) × List Int × List Int) (O := ((Int × Int) × (List Nd × Int × Int) × List Int × List Int) ⊕ ((Int × (List Nd × Int × Int) × List Int × List Int) ⊕ List Int)) (fun s => s.1.1 = i ∧ s.2 = ((N', r', f'), toI F, toI out) ∧ 0 ≤ s.1.2 ∧ s.1.2 ≤ (out.length : Int)) (fun s => out.length - s.1.2.toNat) (fun s => .inl ((i, s.1.2 + ((posP N' i.toNat (out.drop s.1.2.toNat) : Nat) : Int)), (N', r', f'), toI F, toI out)) ?_ ⟨rfl, rfl, by simp, by simp⟩ (by have := big; dsimp only; omega)) ?_
     ·rintro ⟨⟨i', k⟩, ⟨N1, r1, f1⟩, F1, out1⟩ ⟨g1, g2, g3, g4⟩
      dsimp only at g1 g2 g3 g4
      simp only [Prod.mk.injEq] at g2
      obtain ⟨⟨rfl, rfl, rfl⟩, rfl, rfl⟩ := g2
      subst g1
      dsimp only
      rw [toI_len]
      by_cases hk : k < (out.length : Int)
      ·have hkn : k.toNat < out.length := by omega
       have hox : out.getD k.toNat 0 < N1.length := by
        rw [List.getD_eq_getElem?_getD, List.getElem?_eq_getElem hkn]
        exact hlt _ (List.getElem_mem hkn)
       have hd : out.drop k.toNat = out.getD k.toNat 0 :: out.drop (k.toNat + 1) := by
        rw [List.getD_eq_getElem?_getD, List.getElem?_eq_getElem hkn]
        exact List.drop_eq_getElem_cons hkn
       rw [if_pos hk, if_pos ⟨g3, hk⟩, if_pos hkn, toI_at hkn, if_pos (nb hox), if_pos ⟨h0, hi⟩, Int.toNat_natCast]
       by_cases hq : ky (nn N1 (out.getD k.toNat 0)) < ky (nn N1 i'.toNat)
       ·rw [if_pos (show (Ty.at tN N1 (out.getD k.toNat 0)).1 < (Ty.at tN N1 i'.toNat).1 from hq)]
        refine StepOK_inl ⟨?_, ⟨rfl, rfl, ?_, ?_⟩, ?_⟩
        ·dsimp only; rw [wrap_i64 (by omega)]; omega
        ·dsimp only; rw [wrap_i64 (by omega)]; omega
        ·dsimp only; rw [wrap_i64 (by omega)]; omega
        ·dsimp only
         rw [wrap_i64 (by omega), toN1 g3, hd, posP, if_pos hq]
         congr 3
         omega
       ·rw [if_neg (show ¬ (Ty.at tN N1 (out.getD k.toNat 0)).1 < (Ty.at tN N1 i'.toNat).1 from hq)]
        refine StepOK_inr ?_
        dsimp only
        rw [hd, posP, if_neg hq]
        congr 3
        omega
      ·rw [if_neg hk]
       refine StepOK_inr ?_
       dsimp only
       rw [List.drop_of_length_le (by omega), posP]
       congr 3
       omega
     ·dsimp only
      simp
    ·have hp := posP_le (N := N') (i := i.toNat) (l := out)
     dsimp only
     have hpI := insP_pos (N := N') (i := i.toNat) (l := out)
     have hpp := insP_perm (N := N') (i := i.toNat) (l := out)
     generalize posP N' i.toNat out = p at *
     simp only [toI_len, Int.toNat_natCast]
     have hq1 : ((toI out).drop 0).take (p - 0) = toI (out.take p) := by unfold toI; simp [List.map_take]
     have hq2 : ((toI out).drop p).take (out.length - p) = toI (out.drop p) := by
      unfold toI
      rw [List.take_of_length_le (by rw [List.length_drop, List.length_map]; omega), List.map_drop]
     rw [hq1, hq2, List.nil_append, if_pos (by omega), if_pos (by omega)]
     rw [if_pos (by rw [toI_len, List.length_take]; show 0 + (p - 0) ≤ _ ∧ (0 + _) * 8 ≤ _; omega)]
     rw [if_pos (by rw [toI_len, List.length_take]; show (_ + 1) * 8 ≤ _; omega)]
     rw [if_pos (by rw [List.length_append, toI_len, toI_len, List.length_take, List.length_drop]; show _ ∧ (_ + 1 + _) * 8 ≤ _; omega)]
     have he : (toI (out.take p) ++ [i]) ++ toI (out.drop p) = toI (insP N' i.toNat out) := by
      rw [hpI, toI_app, List.append_assoc]
      congr 1
      simp [toI]
      omega
     rw [he]
     refine StepOK_inl ⟨?_, ⟨rfl, rfl, ?_, ?_, insP N' i.toNat out, rfl, ?_, ?_⟩, ?_⟩
     ·dsimp only; rw [wrap_i64 (by omega)]; omega
     ·dsimp only; rw [wrap_i64 (by omega)]; omega
     ·dsimp only; rw [wrap_i64 (by omega)]; omega
     ·dsimp only; rw [wrap_i64 (by omega), hpp.length_eq, List.length_cons]; omega
     ·intro x hx
      rcases List.mem_cons.1 (hpp.mem_iff.1 hx) with h | h
      ·omega
      ·exact hlt x h
     ·dsimp only
      rw [wrap_i64 (by omega), hr, List.filter_cons_of_pos (by simp [hm]), srt, toI_back, toI_back]
  ·rw [if_neg hi]
   refine StepOK_inr ?_
   dsimp only
   rw [show N'.length - i.toNat = 0 by omega]
   simp only [List.range'_zero, List.filter_nil, srt, toI_back]
 ·dsimp only
  unfold lst rst
  rw [List.range_eq_range']
  rfl
end Go.AX.Tr
end
