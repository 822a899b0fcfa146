/- The arena, plainly: both ways to go over the free list come to the same. -/
import Derived.Test.YtjmknbbipadjbaaArC
set_option linter.unusedSimpArgs false
set_option linter.unusedVariables false
namespace Go.AX
open Go

theorem nodup_le : ∀ {m : Nat} {l : List Int}, l.Nodup → (∀ x ∈ l, 0 ≤ x ∧ x < m) → l.length ≤ m
  | 0, l, _, h => by
    cases l with
    | nil => simp
    | cons x r => have := h x (by simp); omega
  | m + 1, l, hn, h => by
    have h1 : (l.erase (m : Int)).length ≤ m := nodup_le (hn.erase _) fun x hx => by
      have h2 := h x (List.mem_of_mem_erase hx)
      have h3 : x ≠ m := ((List.Nodup.mem_erase_iff hn).1 hx).1
      omega
    have := List.length_erase (a := (m : Int)) (l := l)
    split at this <;> omega
/-- The free list that begins at a place. -/
inductive Chain (rs : List Rec) : Int → List Int → Prop where
  | nil : Chain rs (-1) []
  | cons {i : Int} {r : List Int} : 0 ≤ i → i < rs.length → (ga rs i.toNat).emp → Chain rs (ga rs i.toNat).next r → Chain rs i (i :: r)
theorem Chain.det {rs : List Rec} : ∀ {i : Int} {r r' : List Int}, Chain rs i r → Chain rs i r' → r = r'
  | _, [], r', h, h' => by
    cases h
    cases h' with
    | nil => rfl
    | cons h1 => omega
  | i, x :: r, r', h, h' => by
    cases h with
    | cons h1 h2 h3 h4 =>
      cases h' with
      | nil => omega
      | cons g1 g2 g3 g4 => rw [Chain.det h4 g4]
theorem Chain.suffix {rs : List Rec} : ∀ {i : Int} {r : List Int} {x : Int}, Chain rs i r → x ∈ r → ∃ a b, r = a ++ x :: b ∧ Chain rs x (x :: b)
  | i, [], x, _, hx => by cases hx
  | i, y :: r, x, h, hx => by
    cases h with
    | cons h1 h2 h3 h4 =>
      rcases List.mem_cons.1 hx with rfl | hx
      · exact ⟨[], r, rfl, .cons h1 h2 h3 h4⟩
      · obtain ⟨a, b, e, hc⟩ := h4.suffix hx
        exact ⟨_ :: a, b, by rw [e]; rfl, hc⟩
theorem Chain.nodup {rs : List Rec} : ∀ {i : Int} {r : List Int}, Chain rs i r → r.Nodup
  | i, [], _ => List.nodup_nil
  | i, y :: r, h => by
    have hh := h
    cases h with
    | cons h1 h2 h3 h4 =>
      refine List.nodup_cons.2 ⟨fun hm => ?_, h4.nodup⟩
      obtain ⟨a, b, e, hc⟩ := h4.suffix hm
      have := hh.det hc
      simp only [List.cons.injEq, true_and] at this
      have hl := congrArg List.length e
      rw [this] at hl
      simp at hl
      omega
theorem Chain.rng {rs : List Rec} : ∀ {i : Int} {r : List Int}, Chain rs i r → ∀ x ∈ r, 0 ≤ x ∧ x < rs.length ∧ (ga rs x.toNat).emp
  | i, [], _ => by simp
  | i, y :: r, h => by
    cases h with
    | cons h1 h2 h3 h4 =>
      intro x hx
      rcases List.mem_cons.1 hx with rfl | hx
      · exact ⟨h1, h2, h3⟩
      · exact h4.rng x hx
theorem listGo_chain {rs : List Rec} : ∀ {n : Nat} {l : List Int} {i : Int} {r : List Int}, n = rs.length + 1 - l.length → l.length ≤ rs.length → (listGo rs n l i = some r ↔ ∃ s, r = l ++ s ∧ Chain rs i s ∧ r.length ≤ rs.length)
  | 0, l, i, r, hn, hl => by omega
  | n + 1, l, i, r, hn, hl => by
    simp only [listGo]
    split
    · rename_i hi
      subst hi
      constructor
      · intro h; simp only [Option.some.injEq] at h; subst h
        exact ⟨[], by simp, .nil, hl⟩
      · rintro ⟨s, rfl, hc, hr⟩
        cases hc with
        | nil => simp
        | cons h1 => omega
    · rename_i hi
      split
      · rename_i hbad
        constructor
        · intro h; cases h
        · rintro ⟨s, rfl, hc, hr⟩
          cases hc with
          | nil => exact absurd rfl hi
          | cons h1 h2 h3 h4 =>
            simp only [List.length_append, List.length_cons] at hr
            rcases hbad with h | h | h | h
            · omega
            · omega
            · omega
            · exact absurd h3 h
      · rename_i hbad
        simp only [not_or, Decidable.not_not] at hbad
        obtain ⟨b1, b2, b3, b4⟩ := hbad
        rw [listGo_chain (n := n) (l := l ++ [i]) (by simp; omega) (by simp; omega)]
        constructor
        · rintro ⟨s, rfl, hc, hr⟩
          exact ⟨i :: s, by simp, .cons (by omega) (by omega) b4 hc, hr⟩
        · rintro ⟨s, rfl, hc, hr⟩
          cases hc with
          | nil => exact absurd rfl hi
          | cons h1 h2 h3 h4 => exact ⟨_, by simp, h4, hr⟩
theorem list_chain {rs : List Rec} {i : Int} {r : List Int} : listGo rs (rs.length + 1) [] i = some r ↔ Chain rs i r := by
  rw [listGo_chain (by simp) (by simp)]
  constructor
  · rintro ⟨s, rfl, hc, _⟩; simpa using hc
  · intro h; exact ⟨r, rfl, h, nodup_le h.nodup fun x hx => ⟨(h.rng x hx).1, (h.rng x hx).2.1⟩⟩

def walkGo (rs : List Rec) : Nat → List Int → Int → Option (List Int)
  | 0, _, _ => none
  | n + 1, l, i => if i = -1 then some l else if i < 0 ∨ rs.length ≤ i ∨ i ∈ l ∨ ¬ (ga rs i.toNat).key = -1 ∨ ¬ (ga rs i.toNat).task = -1 then none else walkGo rs n (l ++ [i]) (ga rs i.toNat).next
theorem walkGo_chain {rs : List Rec} : ∀ {n : Nat} {l : List Int} {i : Int} {r : List Int}, n = rs.length + 1 - l.length → l.Nodup → (∀ x ∈ l, 0 ≤ x ∧ x < rs.length) → (walkGo rs n l i = some r ↔ ∃ s, r = l ++ s ∧ Chain rs i s ∧ r.Nodup)
  | 0, l, i, r, hn, hd, hr => by have := nodup_le hd hr; omega
  | n + 1, l, i, r, hn, hd, hrg => by
    simp only [walkGo]
    split
    · rename_i hi
      subst hi
      constructor
      · intro h; simp only [Option.some.injEq] at h; subst h
        exact ⟨[], by simp, .nil, hd⟩
      · rintro ⟨s, rfl, hc, hr⟩
        cases hc with
        | nil => simp
        | cons h1 => omega
    · rename_i hi
      split
      · rename_i hbad
        constructor
        · intro h; cases h
        · rintro ⟨s, rfl, hc, hr⟩
          cases hc with
          | nil => exact absurd rfl hi
          | cons h1 h2 h3 h4 =>
            rcases hbad with h | h | h | h | h
            · omega
            · omega
            · have := (List.nodup_append.1 hr).2.2 i h i (by simp)
              exact absurd rfl this
            · exact absurd h3.1 h
            · exact absurd h3.2 h
      · rename_i hbad
        simp only [not_or, Decidable.not_not] at hbad
        obtain ⟨b1, b2, b3, b4, b5⟩ := hbad
        have hd' : (l ++ [i]).Nodup := List.nodup_append.2 ⟨hd, by simp, fun a ha b hb => by simp only [List.mem_cons, List.not_mem_nil, or_false] at hb; rw [hb]; exact fun e => b3 (e ▸ ha)⟩
        have hr' : ∀ x ∈ l ++ [i], 0 ≤ x ∧ x < rs.length := fun x hx => by
          rcases List.mem_append.1 hx with hx | hx
          · exact hrg x hx
          · simp only [List.mem_cons, List.not_mem_nil, or_false] at hx; subst hx; omega
        rw [walkGo_chain (n := n) (l := l ++ [i]) (by simp; omega) hd' hr']
        constructor
        · rintro ⟨s, rfl, hc, hr⟩
          exact ⟨i :: s, by simp, .cons (by omega) (by omega) ⟨b4, b5⟩ hc, hr⟩
        · rintro ⟨s, rfl, hc, hr⟩
          cases hc with
          | nil => exact absurd rfl hi
          | cons h1 h2 h3 h4 => exact ⟨_, by simp, h4, hr⟩
theorem walk_chain {rs : List Rec} {i : Int} {r : List Int} : walkGo rs (rs.length + 1) [] i = some r ↔ Chain rs i r := by
  rw [walkGo_chain (by simp) List.nodup_nil (by simp)]
  constructor
  · rintro ⟨s, rfl, hc, _⟩; simpa using hc
  · intro h; exact ⟨r, rfl, h, h.nodup⟩
theorem walk_list {rs : List Rec} {i : Int} : walkGo rs (rs.length + 1) [] i = listGo rs (rs.length + 1) [] i := by
  cases h : listGo rs (rs.length + 1) [] i with
  | some r => exact walk_chain.2 (list_chain.1 h)
  | none =>
    cases h' : walkGo rs (rs.length + 1) [] i with
    | none => rfl
    | some r => rw [list_chain.2 (walk_chain.1 h')] at h; cases h
end Go.AX
