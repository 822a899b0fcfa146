/- Arena: what is taken and given, in plain terms. -/
import Derived.Test.YtjmknbbipadjbaaArE
set_option linter.unusedSimpArgs false
set_option linter.unusedVariables false
set_option maxRecDepth 4000
namespace Go.AX
open Go

/-- A right arena, with its free list. -/
structure AOk (rs : List Rec) (free : Int) (l : List Int) : Prop where
  len : rs.length ≤ 64
  ch : Chain rs free l
  rc : ∀ k, k < rs.length → (k : Int) ∈ l ∨ (0 ≤ (ga rs k).key ∧ 0 ≤ (ga rs k).task ∧ -1 ≤ (ga rs k).next ∧ (ga rs k).next < rs.length ∧ (ga rs k).next ∉ l)
theorem rightQ_all {rs : List Rec} {l : List Int} : ∀ (d k : Nat), d + k = rs.length → (rightQ rs l k (rs.drop k) ↔ ∀ j, k ≤ j → j < rs.length → (j : Int) ∈ l ∨ (0 ≤ (ga rs j).key ∧ 0 ≤ (ga rs j).task ∧ -1 ≤ (ga rs j).next ∧ (ga rs j).next < rs.length ∧ (ga rs j).next ∉ l))
  | 0, k, h => by
    rw [List.drop_eq_nil_of_le (by omega)]
    exact ⟨fun _ j h1 h2 => by omega, fun _ => trivial⟩
  | d + 1, k, h => by
    rw [rightQ_at (by omega), rightQ_all d (k + 1) (by omega)]
    constructor
    · rintro ⟨h1, h2⟩ j h3 h4
      by_cases e : j = k
      · subst e
        exact h1.imp id fun h => by simp only [not_or] at h; exact ⟨by omega, by omega, by omega, by omega, h.2.2.2.2⟩
      · exact h2 j (by omega) h4
    · intro h1
      refine ⟨(h1 k (by omega) (by omega)).imp id fun h => ?_, fun j h3 h4 => h1 j (by omega) h4⟩
      rintro (h' | h' | h' | h' | h')
      · omega
      · omega
      · omega
      · omega
      · exact h.2.2.2.2 h'
theorem right_ok {rs : List Rec} {free : Int} : arRight rs free = true ↔ ∃ l, AOk rs free l := by
  rw [right_iff]
  constructor
  · rintro ⟨h1, l, h2, h3⟩
    refine ⟨l, h1, list_chain.1 h2, fun k hk => ?_⟩
    have := (rightQ_all (rs := rs) (l := l) rs.length 0 (by omega)).1 (by simpa using h3)
    exact this k (Nat.zero_le _) hk
  · rintro ⟨l, h⟩
    refine ⟨h.len, l, list_chain.2 h.ch, ?_⟩
    have := (rightQ_all (l := l) rs.length 0 (by omega)).2 fun j _ hj => h.rc j hj
    simpa using this
theorem AOk.right {rs : List Rec} {free : Int} {l : List Int} (h : AOk rs free l) : arRight rs free = true := right_ok.2 ⟨l, h⟩
theorem AOk.free {rs : List Rec} {free : Int} {l : List Int} (h : AOk rs free l) : arFree rs free = l := by
  unfold arFree
  rw [if_pos h.right, list_chain.2 h.ch]
  rfl
theorem ga_mem {α : Type} [Inhabited α] {l : List α} {k : Nat} (h : k < l.length) : ga l k ∈ l := List.mem_of_getElem? (ga_some h)
theorem ga_set {α : Type} [Inhabited α] {l : List α} {i j : Nat} {v : α} (h : j < l.length) : ga (l.set i v) j = if i = j then v else ga l j := by
  simp only [ga, List.getD_eq_getElem?_getD, List.getElem?_set]
  split
  · subst_vars; simp [h]
  · rfl
theorem Chain.set {rs : List Rec} {j : Nat} {v : Rec} : ∀ {i : Int} {r : List Int}, Chain rs i r → (j : Int) ∉ r → Chain (rs.set j v) i r
  | _, [], h, _ => by cases h; exact .nil
  | i, x :: r, h, hj => by
    cases h with
    | cons h1 h2 h3 h4 =>
      simp only [List.mem_cons, not_or] at hj
      have hne : ¬ j = i.toNat := by omega
      have hg : ga (rs.set j v) i.toNat = ga rs i.toNat := by rw [ga_set (by omega), if_neg hne]
      exact .cons h1 (by simpa using h2) (by rw [hg]; exact h3) (by rw [hg]; exact h4.set hj.2)
theorem AOk.take {rs : List Rec} {free key task : Int} {l : List Int} (h : AOk rs free (free :: l)) (hk : 0 ≤ key) (ht : 0 ≤ task) : AOk (rs.set free.toNat ⟨key, task, -1⟩) (ga rs free.toNat).next l := by
  have hnd := h.ch.nodup
  obtain ⟨h1, h2, h3⟩ := h.ch.rng free (by simp)
  have hc : Chain rs (ga rs free.toNat).next l := by
    have := h.ch
    cases this with
    | cons _ _ _ h4 => exact h4
  have hni : free ∉ l := (List.nodup_cons.1 hnd).1
  have hneg : (-1 : Int) ∉ l := fun hm => by have := hc.rng _ hm; omega
  refine ⟨by simpa using h.len, hc.set (by rw [show ((free.toNat : Nat) : Int) = free by omega]; exact hni), fun k hk' => ?_⟩
  simp only [List.length_set] at hk' ⊢
  rw [ga_set hk']
  split
  · right
    exact ⟨hk, ht, by simp, by show (-1 : Int) < _; omega, hneg⟩
  · rename_i hne
    rcases h.rc k hk' with h4 | h4
    · left
      rcases List.mem_cons.1 h4 with h5 | h5
      · omega
      · exact h5
    · exact .inr ⟨h4.1, h4.2.1, h4.2.2.1, h4.2.2.2.1, fun hm => h4.2.2.2.2 (by simp [hm])⟩
theorem AOk.taken {rs : List Rec} {free i : Int} {l : List Int} (h : AOk rs free l) (hi : 0 ≤ i) (hi' : i < rs.length) : arTaken rs i ↔ i ∉ l := by
  have := live_taken h.right (i := i)
  rw [← this]
  unfold arLive
  rw [h.free]
  simp [hi, hi']
theorem AOk.give {rs : List Rec} {free i : Int} {l : List Int} (h : AOk rs free l) (ht : arTaken rs i) (hl : ¬ rs.any (leads i) = true) : AOk (rs.set i.toNat ⟨-1, -1, free⟩) i (i :: l) := by
  obtain ⟨h1, h2, h3⟩ := ht
  have hni : i ∉ l := (h.taken h1 h2).1 ⟨h1, h2, h3⟩
  have hii : ((i.toNat : Nat) : Int) = i := by omega
  have hg : ga (rs.set i.toNat ⟨-1, -1, free⟩) i.toNat = ⟨-1, -1, free⟩ := by rw [ga_set (by omega), if_pos rfl]
  refine ⟨by simpa using h.len, .cons h1 (by simpa using h2) (by rw [hg]; exact ⟨rfl, rfl⟩) (by rw [hg]; exact h.ch.set (by rw [hii]; exact hni)), fun k hk => ?_⟩
  simp only [List.length_set] at hk ⊢
  by_cases e : i.toNat = k
  · left; subst e; rw [hii]; simp
  · rw [ga_set hk, if_neg e]
    rcases h.rc k hk with h4 | h4
    · exact .inl (by simp [h4])
    · right
      refine ⟨h4.1, h4.2.1, h4.2.2.1, h4.2.2.2.1, fun hm => ?_⟩
      rcases List.mem_cons.1 hm with h5 | h5
      · apply hl
        rw [List.any_eq_true]
        refine ⟨ga rs k, ga_mem hk, ?_⟩
        simp only [leads, decide_eq_true_eq, Rec.emp]
        exact ⟨fun he => by have := he.1; omega, h5⟩
      · exact h4.2.2.2.2 h5

theorem makes_all : ∀ n, n < 65 → arRight (arMake (n : Nat)).1 (arMake (n : Nat)).2.1 = true ∧ (arFree (arMake (n : Nat)).1 (arMake (n : Nat)).2.1).length = n := by decide +kernel
theorem make_len (n : Int) : (arMake n).1.length ≤ 64 := by
  unfold arMake
  split
  · simp
  · split
    · simp
    · simp [row_len]; omega
theorem makes_ok {n : Int} (h : (arMake n).2.2 = 0) : arRight (arMake n).1 (arMake n).2.1 = true ∧ ((arFree (arMake n).1 (arMake n).2.1).length : Int) = n := by
  have hn : 0 ≤ n ∧ n ≤ 64 := by
    unfold arMake at h
    split at h
    · simp at h
    · omega
  have := makes_all n.toNat (by omega)
  rw [show ((n.toNat : Nat) : Int) = n by omega] at this
  exact ⟨this.1, by omega⟩
end Go.AX
