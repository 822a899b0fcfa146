/- Parts: TmA TmB TmC TmD TmE TmF TmG TmH TmI TmJ TmK TmL TmM TmN TmO TmP TmQ TmR TmS TmT TmU TmV TmW TmX TmY TmZ TmZb. -/
import Derived.Test.YtjcclccdjeekkaaGeB
import Derived.Test.YtjcclccdjeekkaaGqA

section
/- Heaps of four children: plain facts. -/
set_option linter.unusedSimpArgs false
set_option linter.unusedVariables false
namespace Go.AX
open Go

abbrev T2 := Int × Int
/-- A timer is before another one. -/
def bef (a b : T2) : Prop := a.1 < b.1 ∨ (a.1 = b.1 ∧ a.2 < b.2)
instance (a b : T2) : Decidable (bef a b) := by unfold bef; exact inferInstance
/-- A timer is not behind another one. -/
def lq (a b : T2) : Prop := ¬ bef b a
theorem lq_refl (a : T2) : lq a a := by unfold lq bef; omega
theorem lq_trans {a b c : T2} (h : lq a b) (g : lq b c) : lq a c := by unfold lq bef at *; omega
theorem lq_of_bef {a b : T2} (h : bef a b) : lq a b := by unfold lq bef at *; omega
theorem lq_or (a b : T2) : lq a b ∨ bef b a := by unfold lq; exact (Decidable.em (bef b a)).symm
theorem bef_lq {a b c : T2} (h : bef a b) (g : lq b c) : bef a c := by unfold lq bef at *; omega
theorem lq_bef {a b c : T2} (h : lq a b) (g : bef b c) : bef a c := by unfold lq bef at *; omega
/-- What stands at a place. -/
def ta (h : List T2) (i : Nat) : T2 := h.getD i (0, 0)
def swp (h : List T2) (a b : Nat) : List T2 := (h.set a (ta h b)).set b (ta h a)
@[simp] theorem swp_len {h : List T2} {a b : Nat} : (swp h a b).length = h.length := by simp [swp]
theorem ta_set {h : List T2} {a k : Nat} {v : T2} (ha : a < h.length) : ta (h.set a v) k = if k = a then v else ta h k := by
  simp only [ta, List.getD_eq_getElem?_getD, List.getElem?_set]
  by_cases e : a = k
  · subst e; simp [ha]
  · have : ¬ k = a := fun x => e x.symm
    simp [e, this]
theorem ta_swp {h : List T2} {a b k : Nat} (ha : a < h.length) (hb : b < h.length) : ta (swp h a b) k = if k = b then ta h a else if k = a then ta h b else ta h k := by
  unfold swp
  rw [ta_set (by simpa using hb), ta_set ha]
def par (i : Nat) : Nat := (i - 1) / 4
theorem par_lt {i : Nat} (h : 0 < i) : par i < i := by unfold par; omega
/-- No timer is before the one above it. -/
def HP (h : List T2) : Prop := ∀ k, 0 < k → k < h.length → lq (ta h (par k)) (ta h k)
/-- But for one place and the one above it. -/
structure UpOK (h : List T2) (j : Nat) : Prop where
  e : ∀ k, 0 < k → k < h.length → k ≠ j → lq (ta h (par k)) (ta h k)
  g : ∀ c, 0 < c → c < h.length → par c = j → 0 < j → lq (ta h (par j)) (ta h c)
theorem UpOK.done {h : List T2} {j : Nat} (u : UpOK h j) (hd : j = 0 ∨ lq (ta h (par j)) (ta h j)) : HP h := by
  intro k h0 h1
  by_cases e : k = j
  · subst e
    rcases hd with rfl | hd
    · omega
    · exact hd
  · exact u.e k h0 h1 e
theorem UpOK.step {h : List T2} {j : Nat} (u : UpOK h j) (h0 : 0 < j) (h1 : j < h.length) (hb : bef (ta h j) (ta h (par j))) : UpOK (swp h j (par j)) (par j) := by
  have hp := par_lt h0
  have hpl : par j < h.length := by omega
  have hs := fun k => @ta_swp h j (par j) k h1 hpl
  refine ⟨fun k k0 k1 kne => ?_, fun c c0 c1 cp p0 => ?_⟩
  · rw [swp_len] at k1
    have hkp := par_lt k0
    rw [hs, hs]
    by_cases e1 : k = j
    · subst e1
      rw [if_pos rfl, if_neg kne, if_pos rfl]
      exact lq_of_bef hb
    · rw [if_neg kne, if_neg e1]
      by_cases e2 : par k = par j
      · rw [if_pos e2]
        exact lq_trans (lq_of_bef hb) (e2 ▸ u.e k k0 k1 e1)
      · rw [if_neg e2]
        by_cases e3 : par k = j
        · rw [if_pos e3]; exact u.g k k0 k1 e3 h0
        · rw [if_neg e3]; exact u.e k k0 k1 e1
  · rw [swp_len] at c1
    have hcp := par_lt c0
    have hpp := par_lt p0
    rw [hs, hs]
    have n1 : ¬ par (par j) = par j := by omega
    have n2 : ¬ par (par j) = j := by omega
    have n3 : ¬ c = par j := by omega
    rw [if_neg n1, if_neg n2, if_neg n3]
    have up := u.e (par j) p0 hpl (by omega)
    by_cases e1 : c = j
    · rw [if_pos e1]; exact up
    · rw [if_neg e1]
      exact lq_trans up (cp ▸ u.e c c0 c1 e1)
/-- On the way down: from a place, where one is. -/
structure DnOK (h : List T2) (i j : Nat) : Prop where
  e : ∀ k, 0 < k → k < h.length → k ≠ i → par k ≠ j → lq (ta h (par k)) (ta h k)
  g : ∀ c, 0 < c → c < h.length → par c = j → 0 < j → lq (ta h (par j)) (ta h c)
  gi : ∀ c, 0 < c → c < h.length → par c = i → 0 < i → lq (ta h (par i)) (ta h c)
  t : j ≠ i → 0 < i → lq (ta h (par i)) (ta h i)
  le : i ≤ j
theorem DnOK.done {h : List T2} {i j : Nat} (d : DnOK h i j) (hc : ∀ c, 0 < c → c < h.length → par c = j → lq (ta h j) (ta h c)) : UpOK h i := by
  refine ⟨fun k h0 h1 hne => ?_, d.gi⟩
  by_cases e : par k = j
  · rw [e]; exact hc k h0 h1 e
  · exact d.e k h0 h1 hne e
theorem DnOK.step {h : List T2} {i j b : Nat} (d : DnOK h i j) (b0 : 0 < b) (b1 : b < h.length) (bp : par b = j) (hmin : ∀ c, 0 < c → c < h.length → par c = j → lq (ta h b) (ta h c)) (hb : bef (ta h b) (ta h j)) : DnOK (swp h j b) i b := by
  have hjb : j < b := by rw [← bp]; exact par_lt b0
  have hjl : j < h.length := by omega
  have hs := fun k => @ta_swp h j b k hjl b1
  have hle := d.le
  refine ⟨fun k k0 k1 kne kp => ?_, fun c c0 c1 cp _ => ?_, fun c c0 c1 cp i0 => ?_, fun _ i0 => ?_, by omega⟩
  · rw [swp_len] at k1
    have hkp := par_lt k0
    rw [hs, hs, if_neg kp]
    by_cases e1 : par k = j
    · rw [if_pos e1]
      by_cases e2 : k = b
      · rw [if_pos e2]; exact lq_of_bef hb
      · rw [if_neg e2, if_neg (by omega)]; exact hmin k k0 k1 e1
    · rw [if_neg e1]
      have e2 : ¬ k = b := fun e => e1 (e ▸ bp)
      rw [if_neg e2]
      by_cases e3 : k = j
      · rw [if_pos e3]
        subst e3
        exact d.g b b0 b1 bp k0
      · rw [if_neg e3]; exact d.e k k0 k1 kne e1
  · rw [swp_len] at c1
    have hcp := par_lt c0
    rw [hs, hs, bp, if_neg (by omega), if_pos rfl, if_neg (by omega), if_neg (by omega)]
    have := d.e c c0 c1 (by omega) (by omega)
    rwa [cp] at this
  · rw [swp_len] at c1
    have hcp := par_lt c0
    have hip := par_lt i0
    rw [hs, hs, if_neg (by omega), if_neg (by omega)]
    by_cases e1 : j = i
    · subst e1
      by_cases e2 : c = b
      · rw [if_pos e2]
        exact lq_trans (d.gi b b0 b1 bp i0) (lq_of_bef hb)
      · rw [if_neg e2, if_neg (by omega)]; exact d.gi c c0 c1 cp i0
    · have ht := d.t e1 i0
      by_cases e2 : c = b
      · exfalso; rw [e2, bp] at cp; exact e1 cp
      · rw [if_neg e2]
        by_cases e3 : c = j
        · rw [if_pos e3]
          subst e3
          have := d.g b b0 b1 bp c0
          rw [cp] at this
          exact lq_trans ht this
        · rw [if_neg e3]; exact d.gi c c0 c1 cp i0
  · have hip := par_lt i0
    rw [hs, hs, if_neg (by omega), if_neg (by omega), if_neg (by omega)]
    by_cases e1 : j = i
    · rw [if_pos e1.symm]
      subst e1
      exact d.gi b b0 b1 bp i0
    · rw [if_neg (fun e => e1 e.symm)]; exact d.t e1 i0
end Go.AX
end

section
/- Heaps of four children: up and down, as functions. -/
set_option linter.unusedSimpArgs false
set_option linter.unusedVariables false
namespace Go.AX
open Go

theorem ta_get {h : List T2} {i : Nat} (hi : i < h.length) : ta h i = h[i] := by
  rw [ta, List.getD_eq_getElem?_getD, List.getElem?_eq_getElem hi, Option.getD_some]
theorem swp_perm {h : List T2} {a b : Nat} (ha : a < h.length) (hb : b < h.length) : (swp h a b).Perm h := by
  rw [List.perm_iff_count]
  intro x
  unfold swp
  rw [List.count_set (by simpa using hb), List.count_set ha, List.getElem_set, ta_get ha, ta_get hb]
  have ca : h[a] = x → 0 < h.count x := fun e => List.count_pos_iff.2 (e ▸ List.getElem_mem ha)
  have cb : h[b] = x → 0 < h.count x := fun e => List.count_pos_iff.2 (e ▸ List.getElem_mem hb)
  by_cases e : a = b
  · subst e
    simp only [if_true]
    by_cases e1 : h[a] = x
    · have := ca e1
      simp [e1]; omega
    · simp [e1]
  · simp only [e, if_false]
    by_cases e1 : h[a] = x <;> by_cases e2 : h[b] = x
    · have := ca e1; simp [e1, e2]; omega
    · have := ca e1; simp [e1, e2]; omega
    · have := cb e2; simp [e1, e2]
    · simp [e1, e2]
def upF : Nat → List T2 → Nat → List T2
  | 0, h, _ => h
  | n + 1, h, j => if 0 < j ∧ bef (ta h j) (ta h (par j)) then upF n (swp h j (par j)) (par j) else h
theorem upF_perm : ∀ {n : Nat} {h : List T2} {j : Nat}, j < h.length → (upF n h j).Perm h
  | 0, h, _, _ => .refl _
  | n + 1, h, j, hj => by
    simp only [upF]
    split
    · rename_i hc
      have hp := par_lt hc.1
      exact (upF_perm (by rw [swp_len]; omega)).trans (swp_perm hj (by omega))
    · exact .refl _
theorem upF_ok : ∀ {n : Nat} {h : List T2} {j : Nat}, UpOK h j → j < h.length → j < n → HP (upF n h j)
  | 0, h, _, _, _, hn => by omega
  | n + 1, h, j, u, hj, hn => by
    simp only [upF]
    split
    · rename_i hc
      have hp := par_lt hc.1
      exact upF_ok (u.step hc.1 hj hc.2) (by rw [swp_len]; omega) (by omega)
    · rename_i hc
      refine u.done ?_
      by_cases h0 : j = 0
      · exact .inl h0
      · exact .inr (fun hb => hc ⟨by omega, hb⟩)
def bst : Nat → List T2 → Nat → Nat → Nat
  | 0, _, b, _ => b
  | m + 1, h, b, k => if k < h.length then bst m h (if bef (ta h k) (ta h b) then k else b) (k + 1) else b
theorem bst_spec : ∀ {m : Nat} {h : List T2} {b k : Nat}, (bst m h b k = b ∨ (k ≤ bst m h b k ∧ bst m h b k < k + m ∧ bst m h b k < h.length ∧ bef (ta h (bst m h b k)) (ta h b))) ∧ lq (ta h (bst m h b k)) (ta h b) ∧ ∀ x, k ≤ x → x < k + m → x < h.length → lq (ta h (bst m h b k)) (ta h x)
  | 0, h, b, k => ⟨.inl rfl, lq_refl _, fun x h1 h2 _ => by omega⟩
  | m + 1, h, b, k => by
    simp only [bst]
    by_cases hk : k < h.length
    · rw [if_pos hk]
      by_cases hb : bef (ta h k) (ta h b)
      · rw [if_pos hb]
        obtain ⟨s1, s2, s3⟩ := @bst_spec m h k (k + 1)
        generalize bst m h k (k + 1) = c at *
        refine ⟨.inr ?_, lq_trans s2 (lq_of_bef hb), fun x x1 x2 x3 => ?_⟩
        · rcases s1 with rfl | ⟨s1, s4, s5, s6⟩
          · exact ⟨by omega, by omega, hk, hb⟩
          · exact ⟨by omega, by omega, s5, bef_lq s6 (lq_of_bef hb)⟩
        · by_cases e : x = k
          · rw [e]; exact s2
          · exact s3 x (by omega) (by omega) x3
      · rw [if_neg hb]
        obtain ⟨s1, s2, s3⟩ := @bst_spec m h b (k + 1)
        generalize bst m h b (k + 1) = c at *
        refine ⟨?_, s2, fun x x1 x2 x3 => ?_⟩
        · rcases s1 with s1 | ⟨s1, s4, s5, s6⟩
          · exact .inl s1
          · exact .inr ⟨by omega, by omega, s5, s6⟩
        · by_cases e : x = k
          · rw [e]; exact lq_trans s2 hb
          · exact s3 x (by omega) (by omega) x3
    · rw [if_neg hk]
      exact ⟨.inl rfl, lq_refl _, fun x x1 x2 x3 => by omega⟩
/-- The best of the place and its children, or of the children alone. -/
theorem bst_cmp : ∀ {m : Nat} {h : List T2} {j a k : Nat}, lq (ta h j) (ta h a) → bst m h j k = if bef (ta h (bst m h a k)) (ta h j) then bst m h a k else j
  | 0, h, j, a, k, hq => (if_neg (show ¬ bef (ta h (bst 0 h a k)) (ta h j) from hq)).symm
  | m + 1, h, j, a, k, hq => by
    simp only [bst]
    by_cases hk : k < h.length
    · simp only [hk, if_true]
      by_cases h1 : bef (ta h k) (ta h a)
      · rw [if_pos h1]
        by_cases h2 : bef (ta h k) (ta h j)
        · rw [if_pos h2, if_pos (lq_bef (@bst_spec m h k (k + 1)).2.1 h2)]
        · rw [if_neg h2]; exact bst_cmp h2
      · rw [if_neg h1]
        have h2 : ¬ bef (ta h k) (ta h j) := lq_trans hq h1
        rw [if_neg h2]; exact bst_cmp hq
    · simp only [hk, if_false]
      rw [if_neg hq]
theorem bst_two {h : List T2} {j : Nat} (hj : 4 * j + 1 < h.length) : bst 4 h j (4 * j + 1) = if bef (ta h (bst 3 h (4 * j + 1) (4 * j + 2))) (ta h j) then bst 3 h (4 * j + 1) (4 * j + 2) else j := by
  have e : bst 4 h j (4 * j + 1) = if 4 * j + 1 < h.length then bst 3 h (if bef (ta h (4 * j + 1)) (ta h j) then 4 * j + 1 else j) (4 * j + 2) else j := rfl
  rw [e, if_pos hj]
  by_cases h1 : bef (ta h (4 * j + 1)) (ta h j)
  · rw [if_pos h1, if_pos (lq_bef (@bst_spec 3 h (4 * j + 1) (4 * j + 2)).2.1 h1)]
  · rw [if_neg h1]; exact bst_cmp h1
theorem bst_far {h : List T2} {j : Nat} (hj : ¬ 4 * j + 1 < h.length) : bst 4 h j (4 * j + 1) = j := by
  simp only [bst, hj, if_false]
def dnF : Nat → List T2 → Nat → List T2
  | 0, h, _ => h
  | n + 1, h, j => if bst 4 h j (4 * j + 1) = j then h else dnF n (swp h j (bst 4 h j (4 * j + 1))) (bst 4 h j (4 * j + 1))
theorem bst_in {h : List T2} {j : Nat} (hne : ¬ bst 4 h j (4 * j + 1) = j) : j < bst 4 h j (4 * j + 1) ∧ bst 4 h j (4 * j + 1) < h.length ∧ par (bst 4 h j (4 * j + 1)) = j ∧ bef (ta h (bst 4 h j (4 * j + 1))) (ta h j) := by
  obtain ⟨s1, s2, s3⟩ := @bst_spec 4 h j (4 * j + 1)
  rcases s1 with s1 | ⟨s1, s4, s5, s6⟩
  · exact absurd s1 hne
  · exact ⟨by omega, s5, by unfold par; omega, s6⟩
theorem bst_min {h : List T2} {j : Nat} : ∀ c, 0 < c → c < h.length → par c = j → lq (ta h (bst 4 h j (4 * j + 1))) (ta h c) := fun c c0 c1 cp =>
  (@bst_spec 4 h j (4 * j + 1)).2.2 c (by unfold par at cp; omega) (by unfold par at cp; omega) c1
theorem dnF_perm : ∀ {n : Nat} {h : List T2} {j : Nat}, j < h.length → (dnF n h j).Perm h
  | 0, h, _, _ => .refl _
  | n + 1, h, j, hj => by
    simp only [dnF]
    split
    · exact .refl _
    · rename_i hc
      obtain ⟨k1, k2, k3, k4⟩ := bst_in hc
      exact (dnF_perm (by rw [swp_len]; exact k2)).trans (swp_perm hj k2)
theorem dnF_ok : ∀ {n : Nat} {h : List T2} {i j : Nat}, DnOK h i j → j < h.length → h.length < n + j + 1 → UpOK (dnF n h j) i
  | 0, h, i, j, d, hj, hn => by omega
  | n + 1, h, i, j, d, hj, hn => by
    simp only [dnF]
    split
    · rename_i hc
      exact d.done fun c c0 c1 cp => by have := @bst_min h j c c0 c1 cp; rwa [hc] at this
    · rename_i hc
      obtain ⟨k1, k2, k3, k4⟩ := bst_in hc
      exact dnF_ok (d.step (by omega) k2 k3 bst_min k4) (by rw [swp_len]; exact k2) (by rw [swp_len]; omega)
end Go.AX
end

section
/- The timers' small functions: what they come to. -/
set_option linter.unusedSimpArgs false
set_option linter.unusedVariables false
namespace Go.AX
open Go

theorem big : 1000000000000 < FUEL := by decide
theorem toN1 {i : Int} (h : 0 ≤ i) : (i + 1).toNat = i.toNat + 1 := by omega
theorem toN_cast {i : Int} (h : 0 ≤ i) : ((i.toNat : Nat) : Int) = i := Int.toNat_of_nonneg h
theorem drop_at {T : Ty} {l : List T.den} {i : Nat} (h : i < l.length) : l.drop i = Ty.at T l i :: l.drop (i + 1) := by rw [at_get h]; exact List.drop_eq_getElem_cons h
theorem at_ta (h : List T2) (i : Nat) : Ty.at (Ty.pr (Ty.int IntKind.i64) (Ty.int IntKind.i64)) h i = ta h i := rfl
theorem Before_eq (a b c d : Int) : torporref12_Before ((a, b), c, d) = some (decide (bef (a, b) (c, d))) := by
  unfold torporref12_Before torporref12_Before_g bef
  simp only [cond_b, decide_eq_true_eq, Bool.and_eq_true, Bool.not_eq_true', decide_eq_false_iff_not, Bool.or_eq_true, Bool.not_eq_eq_eq_not, Bool.not_true, Bool.not_false, beq_iff_eq, Option.bind_some, Bool.not_not, decide_eq_true_eq, Decidable.not_not, and_true]
  by_cases h : a < c <;> by_cases h2 : a = c <;> simp [h, h2]
theorem Before_eq' (x y : T2) : torporref12_Before (x, y) = some (decide (bef x y)) := Before_eq x.1 x.2 y.1 y.2
theorem Or_eq (a b : Int) : cmp_Or_int [a, b] = some (if a = 0 then b else a) := by
  unfold cmp_Or_int cmp_Or_int_g
  simp only [cond_b, decide_eq_true_eq, Bool.and_eq_true, Bool.not_eq_true', decide_eq_false_iff_not, Bool.or_eq_true, Bool.not_eq_eq_eq_not, Bool.not_true, Bool.not_false, beq_iff_eq, Option.bind_some, Bool.not_not, decide_eq_true_eq, Decidable.not_not, and_true]
  refine LOOP_m (σ := Int × List Int × Int × Int) (fun s => s.1 = 0 ∧ s.2.1 = [a, b] ∧ s.2.2.1 = 2 ∧ (s.2.2.2 = 0 ∨ (s.2.2.2 = 1 ∧ a = 0) ∨ (s.2.2.2 = 2 ∧ a = 0 ∧ b = 0))) (fun s => 2 - s.2.2.2.toNat) (fun s => if a = 0 then b else a) ?_ ⟨rfl, rfl, rfl, .inl rfl⟩ (by have := big; simp; omega)
  rintro ⟨x, l, n, i⟩ ⟨rfl, rfl, rfl, hi⟩
  dsimp only at *
  have e0 : Ty.at (Ty.int IntKind.i64) [a, b] 0 = a := rfl
  have e1 : Ty.at (Ty.int IntKind.i64) [a, b] 1 = b := rfl
  rcases hi with rfl | ⟨rfl, rfl⟩ | ⟨rfl, rfl, rfl⟩
  · simp only [show (0 : Int).toNat = 0 from rfl, e0]
    ((repeat' (first | (refine StepOK_ite (fun h => ?_) (fun h => ?_)) | (refine StepOK_inr ?_) | (refine StepOK_inl ⟨?_, ?_, ?_⟩))) <;> (try dsimp only) <;> (first | (exfalso; simp only [List.length_cons, List.length_nil] at *; omega) | grind [StepOK, wrap_i64, Prod]))
  · simp only [show (1 : Int).toNat = 1 from rfl, e1]
    ((repeat' (first | (refine StepOK_ite (fun h => ?_) (fun h => ?_)) | (refine StepOK_inr ?_) | (refine StepOK_inl ⟨?_, ?_, ?_⟩))) <;> (try dsimp only) <;> (first | (exfalso; simp only [List.length_cons, List.length_nil] at *; omega) | grind [StepOK, wrap_i64, Prod]))
  · ((repeat' (first | (refine StepOK_ite (fun h => ?_) (fun h => ?_)) | (refine StepOK_inr ?_) | (refine StepOK_inl ⟨?_, ?_, ?_⟩))) <;> (try dsimp only) <;> (first | (exfalso; simp only [List.length_cons, List.length_nil] at *; omega) | grind [StepOK, wrap_i64, Prod]))
theorem Compare1_eq (a b : Int) : cmp_Compare_int64 (a, b) = some (if a < b then -1 else if b < a then 1 else 0) := by
  unfold cmp_Compare_int64 cmp_Compare_int64_g cmp_isNaN_int64 cmp_isNaN_int64_g
  simp only [cond_b, decide_eq_true_eq, Bool.and_eq_true, Bool.not_eq_true', decide_eq_false_iff_not, Bool.or_eq_true, Bool.not_eq_eq_eq_not, Bool.not_true, Bool.not_false, beq_iff_eq, Option.bind_some, Bool.not_not, decide_eq_true_eq, Decidable.not_not, and_true]
  simp
  split
  · rfl
  · split <;> rfl
theorem Compare2_eq (a b : Int) : cmp_Compare_int (a, b) = some (if a < b then -1 else if b < a then 1 else 0) := by
  unfold cmp_Compare_int cmp_Compare_int_g cmp_isNaN_int cmp_isNaN_int_g
  simp only [cond_b, decide_eq_true_eq, Bool.and_eq_true, Bool.not_eq_true', decide_eq_false_iff_not, Bool.or_eq_true, Bool.not_eq_eq_eq_not, Bool.not_true, Bool.not_false, beq_iff_eq, Option.bind_some, Bool.not_not, decide_eq_true_eq, Decidable.not_not, and_true]
  simp
  split
  · rfl
  · split <;> rfl
/-- Go's order of timers, by a number. -/
def tcmp (x y : T2) : Int := if x.1 < y.1 then -1 else if y.1 < x.1 then 1 else if x.2 < y.2 then -1 else if y.2 < x.2 then 1 else 0
theorem compare_eq (x y : T2) : timer_compare (x, y) = some (tcmp x y) := by
  obtain ⟨a, b⟩ := x
  obtain ⟨c, d⟩ := y
  unfold timer_compare timer_compare_g tcmp
  dsimp only
  rw [Compare1_eq, Compare2_eq]
  simp only [Option.bind_some, Or_eq]
  congr 1
  split <;> (try split) <;> (try split) <;> (try split) <;> (try split) <;> first | rfl | omega | (exfalso; omega) | skip
theorem tcmp_bef (x y : T2) : tcmp x y < 0 ↔ bef x y := by
  unfold tcmp bef
  split <;> (try split) <;> (try split) <;> (try split) <;> omega
theorem before_eq (x y : T2) : timer_before (x, y) = some (decide (bef x y)) := by
  unfold timer_before timer_before_g
  obtain ⟨a, b⟩ := x
  obtain ⟨c, d⟩ := y
  dsimp only
  rw [compare_eq]
  simp only [Option.bind_some, tcmp_bef]
theorem par_w {i : Int} (h0 : 0 ≤ i) (h1 : i ≤ 1000000) : IntKind.i64.wrap ((IntKind.i64.wrap (i - 1)).tdiv 4) = (par i.toNat : Int) := by
  rw [wrap_i64 (x := i - 1) (by omega)]
  unfold par
  by_cases e : i = 0
  · subst e; decide
  · have : (i - 1).tdiv 4 = (i - 1) / 4 := Int.tdiv_eq_ediv_of_nonneg (by omega)
    rw [this, wrap_i64 (by omega)]
    omega
theorem parent_eq {i : Int} (h0 : 0 ≤ i) (h1 : i ≤ 1000000) : timer_parent i = some (par i.toNat : Int) := by
  unfold timer_parent timer_parent_g
  rw [par_w h0 h1]
  simp [cond_b, decide_eq_true_eq, Bool.and_eq_true, Bool.not_eq_true', decide_eq_false_iff_not, Bool.or_eq_true, Bool.not_eq_eq_eq_not, Bool.not_true, Bool.not_false, beq_iff_eq, Option.bind_some, Bool.not_not, decide_eq_true_eq, Decidable.not_not, and_true]
theorem TCopy_eq (h : List T2) (hl : h.length ≤ 1000000) : torporref12_Copy h = some h := by
  unfold torporref12_Copy torporref12_Copy_g
  simp only [cond_b, decide_eq_true_eq, Bool.and_eq_true, Bool.not_eq_true', decide_eq_false_iff_not, Bool.or_eq_true, Bool.not_eq_eq_eq_not, Bool.not_true, Bool.not_false, beq_iff_eq, Option.bind_some, Bool.not_not, decide_eq_true_eq, Decidable.not_not, and_true]
  rw [if_pos (by simp; omega)]
  simp
theorem TClone_eq (h : List T2) (hl : h.length ≤ 1000000) : Clone_Timer h = some h := by
  unfold Clone_Timer cloneG
  simp only [cond_b, decide_eq_true_eq, Bool.and_eq_true, Bool.not_eq_true', decide_eq_false_iff_not, Bool.or_eq_true, Bool.not_eq_eq_eq_not, Bool.not_true, Bool.not_false, beq_iff_eq, Option.bind_some, Bool.not_not, decide_eq_true_eq, Decidable.not_not, and_true]
  rw [if_pos (by omega)]
end Go.AX
end

section
/- The timers: places, sameness, what may be. -/
set_option linter.unusedSimpArgs false
set_option linter.unusedVariables false
namespace Go.AX
open Go

theorem Place_no {h : List T2} {t : Int} (hl : h.length ≤ 1000000) (hn : ∀ k, k < h.length → (ta h k).2 ≠ t) : torporref12_Place (h, t) = some (-1) ∧ timer_place (h, t) = some (-1) := by
  constructor
  · unfold torporref12_Place torporref12_Place_g
    simp only [cond_b, decide_eq_true_eq, Bool.and_eq_true, Bool.not_eq_true', decide_eq_false_iff_not, Bool.or_eq_true, Bool.not_eq_eq_eq_not, Bool.not_true, Bool.not_false, beq_iff_eq, Option.bind_some, Bool.not_not, decide_eq_true_eq, Decidable.not_not, and_true, at_ta]
    refine LOOP_m (σ := List T2 × Int × Int) (fun s => s.1 = h ∧ s.2.1 = t ∧ 0 ≤ s.2.2 ∧ s.2.2 ≤ h.length) (fun s => h.length - s.2.2.toNat) (fun s => -1) ?_ ⟨rfl, rfl, by simp, by simp⟩ (by have := big; simp; omega)
    rintro ⟨a, b, i⟩ ⟨rfl, rfl, h0, h1⟩
    dsimp only at *
    have e : i < a.length → (ta a i.toNat).2 ≠ b := fun g => hn _ (by omega)
    ((repeat' (first | (refine StepOK_ite (fun h => ?_) (fun h => ?_)) | (refine StepOK_inr ?_) | (refine StepOK_inl ⟨?_, ?_, ?_⟩))) <;> (try dsimp only) <;> (first | (exfalso; simp only [List.length_cons, List.length_nil] at *; omega) | grind [StepOK, wrap_i64, Prod]))
  · unfold timer_place timer_place_g IndexFunc_place IndexFunc_place_g timer_place_1 timer_place_1_g
    simp only [cond_b, decide_eq_true_eq, Bool.and_eq_true, Bool.not_eq_true', decide_eq_false_iff_not, Bool.or_eq_true, Bool.not_eq_eq_eq_not, Bool.not_true, Bool.not_false, beq_iff_eq, Option.bind_some, Bool.not_not, decide_eq_true_eq, Decidable.not_not, and_true, at_ta]
    rw [LOOP_m (σ := List T2 × Int × Int × Int) (O := Int) (s := (h, t, (h.length : Int), 0)) (fun s => s.1 = h ∧ s.2.1 = t ∧ s.2.2.1 = h.length ∧ 0 ≤ s.2.2.2 ∧ s.2.2.2 ≤ h.length) (fun s => h.length - s.2.2.2.toNat) (fun s => -1) ?_ ⟨rfl, rfl, rfl, by simp, by simp⟩ (by have := big; simp; omega)]
    · rfl
    rintro ⟨a, b, c, i⟩ ⟨ha, hb, hc, h0, h1⟩
    dsimp only at *
    subst ha
    subst hb
    subst hc
    have e : i < a.length → (ta a i.toNat).2 ≠ b := fun g => hn _ (by omega)
    ((repeat' (first | (refine StepOK_ite (fun h => ?_) (fun h => ?_)) | (refine StepOK_inr ?_) | (refine StepOK_inl ⟨?_, ?_, ?_⟩))) <;> (try dsimp only) <;> (first | (exfalso; simp only [List.length_cons, List.length_nil] at *; omega) | grind [StepOK, wrap_i64, Prod]))
theorem Place_at {h : List T2} {t : Int} {k : Nat} (hl : h.length ≤ 1000000) (hk : k < h.length) (he : (ta h k).2 = t) (hn : ∀ j, j < k → (ta h j).2 ≠ t) : torporref12_Place (h, t) = some (k : Int) ∧ timer_place (h, t) = some (k : Int) := by
  constructor
  · unfold torporref12_Place torporref12_Place_g
    simp only [cond_b, decide_eq_true_eq, Bool.and_eq_true, Bool.not_eq_true', decide_eq_false_iff_not, Bool.or_eq_true, Bool.not_eq_eq_eq_not, Bool.not_true, Bool.not_false, beq_iff_eq, Option.bind_some, Bool.not_not, decide_eq_true_eq, Decidable.not_not, and_true, at_ta]
    refine LOOP_m (σ := List T2 × Int × Int) (s := (h, t, 0)) (fun s => s.1 = h ∧ s.2.1 = t ∧ 0 ≤ s.2.2 ∧ s.2.2 ≤ k) (fun s => k - s.2.2.toNat) (fun s => (k : Int)) ?_ ⟨rfl, rfl, by simp, by simp⟩ (by have := big; simp; omega)
    rintro ⟨a, b, i⟩ ⟨rfl, rfl, h0, h1⟩
    dsimp only at *
    have e : i < k → (ta a i.toNat).2 ≠ b := fun g => hn _ (by omega)
    have e2 : i = k → (ta a i.toNat).2 = b := fun g => by rw [g]; exact he
    ((repeat' (first | (refine StepOK_ite (fun h => ?_) (fun h => ?_)) | (refine StepOK_inr ?_) | (refine StepOK_inl ⟨?_, ?_, ?_⟩))) <;> (try dsimp only) <;> (first | (exfalso; simp only [List.length_cons, List.length_nil] at *; omega) | grind [StepOK, wrap_i64, Prod]))
  · unfold timer_place timer_place_g IndexFunc_place IndexFunc_place_g timer_place_1 timer_place_1_g
    simp only [cond_b, decide_eq_true_eq, Bool.and_eq_true, Bool.not_eq_true', decide_eq_false_iff_not, Bool.or_eq_true, Bool.not_eq_eq_eq_not, Bool.not_true, Bool.not_false, beq_iff_eq, Option.bind_some, Bool.not_not, decide_eq_true_eq, Decidable.not_not, and_true, at_ta]
    rw [LOOP_m (σ := List T2 × Int × Int × Int) (O := Int) (s := (h, t, (h.length : Int), 0)) (fun s => s.1 = h ∧ s.2.1 = t ∧ s.2.2.1 = h.length ∧ 0 ≤ s.2.2.2 ∧ s.2.2.2 ≤ k) (fun s => k - s.2.2.2.toNat) (fun s => (k : Int)) ?_ ⟨rfl, rfl, rfl, by simp, by simp⟩ (by have := big; simp; omega)]
    · rfl
    rintro ⟨a, b, c, i⟩ ⟨ha, hb, hc, h0, h1⟩
    dsimp only at *
    subst ha
    subst hb
    subst hc
    have e : i < k → (ta a i.toNat).2 ≠ b := fun g => hn _ (by omega)
    have e2 : i = k → (ta a i.toNat).2 = b := fun g => by rw [g]; exact he
    ((repeat' (first | (refine StepOK_ite (fun h => ?_) (fun h => ?_)) | (refine StepOK_inr ?_) | (refine StepOK_inl ⟨?_, ?_, ?_⟩))) <;> (try dsimp only) <;> (first | (exfalso; simp only [List.length_cons, List.length_nil] at *; omega) | grind [StepOK, wrap_i64, Prod]))
theorem Place_cases (h : List T2) (t : Int) : (∀ k, k < h.length → (ta h k).2 ≠ t) ∨ ∃ k, k < h.length ∧ (ta h k).2 = t ∧ ∀ j, j < k → (ta h j).2 ≠ t := by
  by_cases hx : ∃ k, k < h.length ∧ (ta h k).2 = t
  · right
    have : ∀ n k, k < n → k < h.length → (ta h k).2 = t → ∃ k, k < h.length ∧ (ta h k).2 = t ∧ ∀ j, j < k → (ta h j).2 ≠ t := by
      intro n
      induction n with
      | zero => intro k hk; omega
      | succ n ih =>
        intro k hk h1 h2
        by_cases hj : ∃ j, j < k ∧ (ta h j).2 = t
        · obtain ⟨j, j1, j2⟩ := hj
          exact ih j (by omega) (by omega) j2
        · exact ⟨k, h1, h2, fun j j1 j2 => hj ⟨j, j1, j2⟩⟩
    obtain ⟨k, h1, h2⟩ := hx
    exact this (k + 1) k (by omega) h1 h2
  · left
    exact fun k h1 h2 => hx ⟨k, h1, h2⟩
theorem TSame_eq (a b : List T2) (hl : a.length ≤ 1000000) : torporref12_Same (a, b) = some (decide (a = b)) := by
  unfold torporref12_Same torporref12_Same_g
  simp only [cond_b, decide_eq_true_eq, Bool.and_eq_true, Bool.not_eq_true', decide_eq_false_iff_not, Bool.or_eq_true, Bool.not_eq_eq_eq_not, Bool.not_true, Bool.not_false, beq_iff_eq, Option.bind_some, Bool.not_not, decide_eq_true_eq, Decidable.not_not, and_true]
  by_cases hlen : a.length = b.length
  · rw [if_neg (by simp [hlen])]
    refine (LOOP_m (σ := List T2 × List T2 × Int) (fun s => s.1 = a ∧ s.2.1 = b ∧ 0 ≤ s.2.2 ∧ s.2.2 ≤ (a.length : Int)) (fun s => a.length - s.2.2.toNat) (fun s => decide (a.drop s.2.2.toNat = b.drop s.2.2.toNat)) ?_ ⟨rfl, rfl, by simp, by simp⟩ (by have := big; simp; omega)).trans (by simp)
    rintro ⟨a', c', i⟩ ⟨h2, h3, h0, h1⟩
    dsimp only at *
    subst h2
    subst h3
    have e3 := toN1 h0
    have hd : i.toNat < a'.length → a'.drop i.toNat = Ty.at (Ty.pr (Ty.int IntKind.i64) (Ty.int IntKind.i64)) a' i.toNat :: a'.drop (i.toNat + 1) := fun h => drop_at (T := (Ty.pr (Ty.int IntKind.i64) (Ty.int IntKind.i64))) h
    have hd' : i.toNat < c'.length → c'.drop i.toNat = Ty.at (Ty.pr (Ty.int IntKind.i64) (Ty.int IntKind.i64)) c' i.toNat :: c'.drop (i.toNat + 1) := fun h => drop_at (T := (Ty.pr (Ty.int IntKind.i64) (Ty.int IntKind.i64))) h
    have hn : a'.length ≤ i.toNat → a'.drop i.toNat = [] := fun h => List.drop_of_length_le h
    have hn' : c'.length ≤ i.toNat → c'.drop i.toNat = [] := fun h => List.drop_of_length_le h
    ((repeat' (first | (refine StepOK_ite (fun h => ?_) (fun h => ?_)) | (refine StepOK_inr ?_) | (refine StepOK_inl ⟨?_, ?_, ?_⟩))) <;> (try dsimp only) <;> (first | (exfalso; simp only [List.length_cons, List.length_nil] at *; omega) | grind [StepOK, wrap_i64, Prod.ext_iff]))
  · rw [if_pos (by omega)]
    have : a ≠ b := fun e => hlen (by rw [e])
    simp [this]
end Go.AX
end

section
/- The timers: what may be. -/
set_option linter.unusedSimpArgs false
set_option linter.unusedVariables false
namespace Go.AX
open Go

open Classical in
/-- All numbers from a place on. -/
noncomputable def allF (P : Nat → Prop) (n i : Nat) : Bool := decide (∀ j, j < n → i ≤ j → P j)
theorem allF_step {P : Nat → Prop} {n i : Nat} (h : P i) : allF P n (i + 1) = allF P n i := by
  unfold allF
  congr 1
  apply propext
  constructor
  · intro g j h1 h2
    by_cases e : i = j
    · exact e ▸ h
    · exact g j h1 (by omega)
  · exact fun g j h1 h2 => g j h1 (by omega)
theorem allF_end {P : Nat → Prop} {n i : Nat} (h : n ≤ i) : allF P n i = true := by
  simp only [allF, decide_eq_true_eq]
  intro j h1 h2; omega
theorem allF_no {P : Nat → Prop} {n i : Nat} (h : i < n) (g : ¬ P i) : allF P n i = false := by
  simp only [allF, decide_eq_false_iff_not]
  exact fun k => g (k i h (Nat.le_refl i))
theorem allF_iff {P : Nat → Prop} {n i : Nat} : allF P n i = true ↔ ∀ j, j < n → i ≤ j → P j := by simp [allF]
/-- No task before this one is the same. -/
def neq (h : List T2) (i k : Nat) : Prop := (ta h k).2 ≠ (ta h i).2
def lone (h : List T2) (i : Nat) : Prop := allF (neq h i) i 0 = true
def edge (h : List T2) (i : Nat) : Prop := 0 < i → lq (ta h (par i)) (ta h i)
def pos (h : List T2) (i : Nat) : Prop := 0 ≤ (ta h i).1 ∧ 0 ≤ (ta h i).2
def rOK (h : List T2) (i : Nat) : Prop := pos h i ∧ edge h i ∧ lone h i
theorem edge_bef {h : List T2} {i : Nat} : edge h i ↔ ¬ (0 < i ∧ bef (ta h i) (ta h (par i))) := by
  unfold edge lq
  constructor
  · rintro g ⟨a, b⟩; exact g a b
  · exact fun g a b => g ⟨a, b⟩
theorem place_lone {h : List T2} {i : Nat} (hl : h.length ≤ 1000000) (hi : i < h.length) : ∃ r : Int, timer_place (h, (ta h i).2) = some r ∧ (r = (i : Int) ↔ lone h i) := by
  rcases Place_cases h (ta h i).2 with hn | ⟨k, k1, k2, k3⟩
  · exact absurd rfl (hn i hi)
  · refine ⟨k, (Place_at hl k1 k2 k3).2, ?_⟩
    unfold lone
    rw [allF_iff]
    constructor
    · intro e j j1 _
      exact k3 j (by omega)
    · intro g
      have h1 : ¬ k < i := fun hk => g k hk (Nat.zero_le _) k2
      have h2 : ¬ i < k := fun hk => k3 i hk rfl
      omega
theorem rRightT_eq (h : List T2) : torporref12_Right h = some (decide (h.length ≤ 12) && allF (rOK h) h.length 0) := by
  unfold torporref12_Right torporref12_Right_g
  simp only [cond_b, decide_eq_true_eq, Bool.and_eq_true, Bool.not_eq_true', decide_eq_false_iff_not, Bool.or_eq_true, Bool.not_eq_eq_eq_not, Bool.not_true, Bool.not_false, beq_iff_eq, Option.bind_some, Bool.not_not, decide_eq_true_eq, Decidable.not_not, and_true, at_ta, Before_eq']
  by_cases hl : (12 : Int) < h.length
  · rw [if_pos hl]
    have : ¬ h.length ≤ 12 := by omega
    simp [this]
  · rw [if_neg hl]
    have : h.length ≤ 12 := by omega
    simp only [this, decide_true, Bool.true_and]
    refine LOOP_m (σ := List T2 × Int) (fun s => s.1 = h ∧ 0 ≤ s.2 ∧ s.2 ≤ h.length) (fun s => h.length - s.2.toNat) (fun s => allF (rOK h) h.length s.2.toNat) ?_ ⟨rfl, by simp, by simp⟩ (by have := big; simp; omega)
    rintro ⟨a, i⟩ ⟨ha, h0, h1⟩
    dsimp only at *
    subst ha
    rw [par_w h0 (by omega)]
    have hpl : 0 < i → i < a.length → (par i.toNat : Int) < a.length := fun g _ => by have := @par_lt i.toNat (by omega); omega
    have hno : i < a.length → ¬ rOK a i.toNat → false = allF (rOK a) a.length i.toNat := fun g1 g2 => (allF_no (by omega) g2).symm
    have hi0 : 0 < i ↔ 0 < i.toNat := by omega
    (repeat' (first | (with_reducible refine StepOK_ite (fun h => ?_) (fun h => ?_)) | (with_reducible refine StepOK_bite (fun h => ?_) (fun h => ?_)) | (with_reducible refine StepOK_bsome ?_; try dsimp only) | (with_reducible refine StepOK_inr ?_) | (with_reducible refine StepOK_inl ⟨?_, ?_, ?_⟩)))
    all_goals try dsimp only
    all_goals first
      | (exfalso; omega)
      | (with_reducible refine StepOK_eq (LOOP_m (σ := List T2 × Int × Int) (s := (a, i, 0)) (O := (List T2 × Int) ⊕ Bool) (fun s => s.1 = a ∧ s.2.1 = i ∧ 0 ≤ s.2.2 ∧ s.2.2 ≤ i) (fun s => i.toNat - s.2.2.toNat) (fun s => bif allF (neq a i.toNat) i.toNat s.2.2.toNat then Sum.inl (a, i + 1) else Sum.inr false) ?_ ⟨rfl, rfl, Int.le_refl 0, h0⟩ ?_) ?_)
      | grind [rOK, pos, edge_bef, allF_end]
    all_goals first
      | (have := big; dsimp only; omega)
      | (rintro ⟨x, y, k⟩ ⟨hx, hy, k0, k1⟩
         dsimp only at *
         subst hx
         subst hy
         have e3 := toN1 k0
         have e4 : k < y → (neq x y.toNat k.toNat ↔ ¬ (ta x k.toNat).2 = (ta x y.toNat).2) := fun _ => Iff.rfl
         (repeat' (first | (refine StepOK_ite (fun h => ?_) (fun h => ?_)) | (refine StepOK_inr ?_) | (refine StepOK_inl ⟨?_, ?_, ?_⟩))) <;> (try dsimp only) <;> first | (exfalso; omega) | grind [wrap_i64, allF_step, allF_end, allF_no])
      | (have hpos : pos a i.toNat := by unfold pos; grind
         have hed : edge a i.toNat := by rw [edge_bef]; grind
         have hlo : allF (neq a i.toNat) i.toNat 0 = true ↔ lone a i.toNat := Iff.rfl
         cases hall : allF (neq a i.toNat) i.toNat (a, i, (0 : Int)).snd.snd.toNat with
         | true =>
           rw [cond_true]
           refine StepOK_inl ⟨by dsimp only; omega, ⟨rfl, by dsimp only; omega, by dsimp only; omega⟩, ?_⟩
           dsimp only
           rw [toN1 h0]
           exact allF_step ⟨hpos, hed, hlo.1 hall⟩
         | false =>
           rw [cond_false]
           refine StepOK_inr (hno (by omega) fun g => ?_)
           have := hlo.2 g.2.2
           rw [show (a, i, (0 : Int)).snd.snd.toNat = 0 from rfl] at hall
           rw [hall] at this; cases this)
end Go.AX
end

section
/- The timers: the program's Right. -/
set_option linter.unusedSimpArgs false
set_option linter.unusedVariables false
namespace Go.AX
open Go

theorem odd_eq (x : T2) : timer_odd x = some (decide (x.1 < 0 ∨ x.2 < 0)) := by
  obtain ⟨a, b⟩ := x
  unfold timer_odd timer_odd_g
  simp only [cond_b, decide_eq_true_eq, Bool.and_eq_true, Bool.not_eq_true', decide_eq_false_iff_not, Bool.or_eq_true, Bool.not_eq_eq_eq_not, Bool.not_true, Bool.not_false, beq_iff_eq, Option.bind_some, Bool.not_not, decide_eq_true_eq, Decidable.not_not, and_true]
  by_cases h : a < 0 <;> simp [h]
theorem IndexOdd_eq (h : List T2) (hl : h.length ≤ 1000000) : ∃ r, IndexFunc_odd h = some r ∧ (0 ≤ r ↔ allF (pos h) h.length 0 = false) := by
  unfold IndexFunc_odd IndexFunc_odd_g
  simp only [cond_b, decide_eq_true_eq, Bool.and_eq_true, Bool.not_eq_true', decide_eq_false_iff_not, Bool.or_eq_true, Bool.not_eq_eq_eq_not, Bool.not_true, Bool.not_false, beq_iff_eq, Option.bind_some, Bool.not_not, decide_eq_true_eq, Decidable.not_not, and_true, at_ta]
  refine LOOP_ex (σ := List T2 × Int × Int) (fun s => s.1 = h ∧ s.2.1 = h.length ∧ 0 ≤ s.2.2 ∧ s.2.2 ≤ h.length ∧ allF (pos h) h.length s.2.2.toNat = allF (pos h) h.length 0) (fun s => h.length - s.2.2.toNat) (fun r => (0 ≤ r ↔ allF (pos h) h.length 0 = false)) ?_ ⟨rfl, rfl, by simp, by simp, rfl⟩ (by have := big; simp; omega)
  rintro ⟨a, c, i⟩ ⟨ha, hc, h0, h1, h2⟩
  dsimp only at *
  subst ha
  subst hc
  by_cases hi : i < a.length
  · rw [if_pos hi, if_pos ⟨h0, hi⟩, show ((ta a i.toNat).1, (ta a i.toNat).2) = ta a i.toNat from rfl, odd_eq]
    simp only [Option.bind_some, decide_eq_true_eq]
    by_cases hh : (ta a i.toNat).1 < 0 ∨ (ta a i.toNat).2 < 0
    · left
      rw [if_pos hh]
      refine ⟨_, rfl, ?_⟩
      rw [← h2, allF_no (by omega) (by unfold pos; omega)]
      simp [h0]
    · right
      rw [if_neg hh, wrap_i64 (by omega)]
      refine ⟨_, rfl, by dsimp only; omega, rfl, rfl, by dsimp only; omega, by dsimp only; omega, ?_⟩
      dsimp only
      rw [toN1 h0, allF_step (by unfold pos; omega), h2]
  · left
    rw [if_neg hi]
    refine ⟨_, rfl, ?_⟩
    rw [← h2, allF_end (by omega)]
    simp
theorem ContainsOdd_eq (h : List T2) (hl : h.length ≤ 1000000) : ContainsFunc_odd h = some (!allF (pos h) h.length 0) := by
  unfold ContainsFunc_odd ContainsFunc_odd_g
  obtain ⟨r, h1, h2⟩ := IndexOdd_eq h hl
  simp only [h1, Option.bind_some]
  cases hh : allF (pos h) h.length 0 <;> simp [hh] at h2 ⊢ <;> omega
def eOK (h : List T2) (i : Nat) : Prop := edge h i ∧ lone h i
theorem rOK_split (h : List T2) : allF (rOK h) h.length 0 = (allF (pos h) h.length 0 && allF (eOK h) h.length 0) := by
  rw [Bool.eq_iff_iff, Bool.and_eq_true]
  simp only [allF_iff]
  exact ⟨fun g => ⟨fun j a b => (g j a b).1, fun j a b => (g j a b).2⟩, fun g j a b => ⟨g.1 j a b, g.2 j a b⟩⟩
theorem RightT_eq (h : List T2) : timer_Right h = some (decide (h.length ≤ 12) && allF (rOK h) h.length 0) := by
  unfold timer_Right timer_Right_g
  simp only [cond_b, decide_eq_true_eq, Bool.and_eq_true, Bool.not_eq_true', decide_eq_false_iff_not, Bool.or_eq_true, Bool.not_eq_eq_eq_not, Bool.not_true, Bool.not_false, beq_iff_eq, Option.bind_some, Bool.not_not, decide_eq_true_eq, Decidable.not_not, and_true, at_ta, before_eq]
  by_cases hl : (12 : Int) < h.length
  · rw [if_neg (by omega)]
    have : ¬ h.length ≤ 12 := by omega
    simp [this]
  · rw [if_pos hl, ContainsOdd_eq h (by omega), rOK_split]
    have : h.length ≤ 12 := by omega
    simp only [this, decide_true, Bool.true_and, Option.bind_some]
    cases hp : allF (pos h) h.length 0 with
    | false => simp
    | true =>
      simp only [Bool.not_true, Bool.true_and, Bool.false_eq_true, if_false]
      refine LOOP_m (σ := List T2 × List T2 × Int × Int) (fun s => s.1 = h ∧ s.2.1 = h ∧ s.2.2.1 = h.length ∧ 0 ≤ s.2.2.2 ∧ s.2.2.2 ≤ h.length) (fun s => h.length - s.2.2.2.toNat) (fun s => allF (eOK h) h.length s.2.2.2.toNat) ?_ ⟨rfl, rfl, rfl, by simp, by simp⟩ (by have := big; simp; omega)
      rintro ⟨a, b, c, i⟩ ⟨ha, hb, hc, h0, h1⟩
      dsimp only at *
      subst ha
      subst hb
      subst hc
      by_cases hi : i < b.length
      · obtain ⟨r, p1, p2⟩ := @place_lone b i.toNat (by omega) (by omega)
        have hpl : 0 < i → (par i.toNat : Int) < b.length := fun g => by have := @par_lt i.toNat (by omega); omega
        have hno : ¬ eOK b i.toNat → false = allF (eOK b) b.length i.toNat := fun g2 => (allF_no (by omega) g2).symm
        have hst : eOK b i.toNat → allF (eOK b) b.length (i + 1).toNat = allF (eOK b) b.length i.toNat := fun g => by rw [toN1 h0]; exact allF_step g
        have hi0 : 0 < i ↔ 0 < i.toNat := by omega
        have hri : r = i ↔ lone b i.toNat := by rw [← p2, toN_cast h0]
        rw [parent_eq h0 (by omega), p1, wrap_i64 (by omega)]
        simp only [Option.bind_some]
        (repeat' (first | (with_reducible refine StepOK_ite (fun h => ?_) (fun h => ?_)) | (with_reducible refine StepOK_bite (fun h => ?_) (fun h => ?_)) | (with_reducible refine StepOK_bsome ?_; try dsimp only) | (with_reducible refine StepOK_inr ?_) | (with_reducible refine StepOK_inl ⟨?_, ?_, ?_⟩)))
        all_goals try dsimp only
        all_goals first
          | (exfalso; omega)
          | grind [eOK, edge_bef]
      · rw [if_neg hi]
        refine StepOK_inr ?_
        dsimp only
        exact (allF_end (by omega)).symm
end Go.AX
end

section
/- The timers: up, in the program and its document. -/
set_option linter.unusedSimpArgs false
set_option linter.unusedVariables false
namespace Go.AX
open Go

theorem upF_fuel : ∀ {n m : Nat} {h : List T2} {j : Nat}, j < n → j < m → upF n h j = upF m h j
  | 0, _, _, _, hn, _ => by omega
  | _ + 1, 0, _, _, _, hm => by omega
  | n + 1, m + 1, h, j, hn, hm => by
    simp only [upF]
    split
    · rename_i hc
      have hp := par_lt hc.1
      exact upF_fuel (by omega) (by omega)
    · rfl
theorem upF_step {h : List T2} {i : Nat} (hi : 0 < i) (hb : bef (ta h i) (ta h (par i))) : upF (par i + 1) (swp h i (par i)) (par i) = upF (i + 1) h i := by
  have hp := par_lt hi
  rw [upF.eq_2 h i i, if_pos ⟨hi, hb⟩]
  exact upF_fuel (by omega) (by omega)
theorem upF_stop {h : List T2} {i : Nat} (hb : ¬ (0 < i ∧ bef (ta h i) (ta h (par i)))) : upF (i + 1) h i = h := by
  rw [upF.eq_2 h i i, if_neg hb]
theorem up_eq {h : List T2} {i : Int} (h0 : 0 ≤ i) (h1 : i < h.length) (hl : h.length ≤ 1000) : timer_heap_up (i, h) = some (upF (i.toNat + 1) h i.toNat) := by
  unfold timer_heap_up timer_heap_up_g
  refine LOOP_m (σ := Int × List T2) (s := (i, h)) (fun s => 0 ≤ s.1 ∧ s.1 < s.2.length ∧ s.2.length ≤ 1000) (fun s => s.1.toNat) (fun s => upF (s.1.toNat + 1) s.2 s.1.toNat) ?_ ⟨h0, h1, hl⟩ (by have := big; simp; omega)
  rintro ⟨j, a⟩ ⟨j0, j1, j2⟩
  dsimp only at *
  simp only [cond_b, decide_eq_true_eq, Bool.and_eq_true, Bool.not_eq_true', decide_eq_false_iff_not, Bool.or_eq_true, Bool.not_eq_eq_eq_not, Bool.not_true, Bool.not_false, beq_iff_eq, Option.bind_some, Bool.not_not, decide_eq_true_eq, Decidable.not_not, and_true, at_ta, before_eq]
  rw [parent_eq j0 (by omega)]
  simp only [Option.bind_some]
  have hpl : 0 < j → (par j.toNat : Int) < j := fun g => by have := @par_lt j.toNat (by omega); omega
  have e1 := @upF_step a j.toNat
  have e2 := @upF_stop a j.toNat
  by_cases hj : 0 < j
  · have hp := hpl hj
    have hp2 : par j.toNat < a.length := by omega
    simp only [if_pos hj, Int.toNat_natCast, List.length_set]
    rw [if_pos (by omega), if_pos (by omega), if_pos (by omega), if_pos (by omega)]
    by_cases hb : bef (ta a j.toNat) (ta a (par j.toNat))
    · rw [if_pos hb, if_pos (by omega), if_pos (by omega), if_pos (by omega), if_pos (by omega), if_pos (by omega), if_pos (by omega), if_pos (by first | omega | (simp; omega)), if_pos (by first | omega | (simp; omega))]
      refine StepOK_inl ⟨by dsimp only; omega, ⟨by dsimp only; omega, by simp; omega, by simpa using j2⟩, ?_⟩
      dsimp only
      rw [Int.toNat_natCast]
      exact e1 (by omega) hb
    · rw [if_neg hb]
      exact StepOK_inr (e2 fun g => hb g.2).symm
  · rw [if_neg hj]
    exact StepOK_inr (e2 fun g => by omega).symm
theorem rUp_eq {h : List T2} {i : Int} (h0 : 0 ≤ i) (h1 : i < h.length) (hl : h.length ≤ 1000) : torporref12_Up (h, i) = some (upF (i.toNat + 1) h i.toNat) := by
  unfold torporref12_Up torporref12_Up_g
  simp only [TCopy_eq h (show h.length ≤ 1000000 by omega), Option.bind_some, cond_b, decide_eq_true_eq, Bool.and_eq_true, Bool.not_eq_true', decide_eq_false_iff_not, Bool.or_eq_true, Bool.not_eq_eq_eq_not, Bool.not_true, Bool.not_false, beq_iff_eq, Option.bind_some, Bool.not_not, decide_eq_true_eq, Decidable.not_not, and_true, at_ta, Before_eq']
  refine LOOP_m (σ := Int × List T2) (s := (i, h)) (fun s => 0 ≤ s.1 ∧ s.1 < s.2.length ∧ s.2.length ≤ 1000) (fun s => s.1.toNat) (fun s => upF (s.1.toNat + 1) s.2 s.1.toNat) ?_ ⟨h0, h1, hl⟩ (by have := big; simp; omega)
  rintro ⟨j, a⟩ ⟨j0, j1, j2⟩
  dsimp only at *
  rw [par_w j0 (by omega)]
  have hpl : 0 < j → (par j.toNat : Int) < j := fun g => by have := @par_lt j.toNat (by omega); omega
  have e1 := @upF_step a j.toNat
  have e2 := @upF_stop a j.toNat
  by_cases hj : 0 < j
  · have hp := hpl hj
    have hp2 : par j.toNat < a.length := by omega
    simp only [if_pos hj, Int.toNat_natCast, List.length_set, show ¬ (4 : Int) = 0 by decide, not_false_eq_true, if_true]
    rw [if_pos (by omega), if_pos (by omega), if_pos (by omega), if_pos (by omega)]
    simp only [Option.bind_some, decide_eq_true_eq]
    by_cases hb : bef (ta a j.toNat) (ta a (par j.toNat))
    · rw [if_pos hb, if_pos (by omega), if_pos (by omega), if_pos (by omega), if_pos (by omega), if_pos (by omega), if_pos (by omega), if_pos (by first | omega | (simp; omega)), if_pos (by first | omega | (simp; omega))]
      refine StepOK_inl ⟨by dsimp only; omega, ⟨by dsimp only; omega, by simp; omega, by simpa using j2⟩, ?_⟩
      dsimp only
      rw [Int.toNat_natCast]
      exact e1 (by omega) hb
    · rw [if_neg hb]
      exact StepOK_inr (e2 fun g => hb g.2).symm
  · rw [if_neg hj]
    exact StepOK_inr (e2 fun g => by omega).symm
end Go.AX
end

section
/- The timers: down, in the program and its document. -/
set_option linter.unusedSimpArgs false
set_option linter.unusedVariables false
namespace Go.AX
open Go

theorem dnF_fuel : ∀ {n m : Nat} {h : List T2} {j : Nat}, j < h.length → h.length < n + j + 1 → h.length < m + j + 1 → dnF n h j = dnF m h j
  | 0, _, _, _, hj, hn, _ => by omega
  | _ + 1, 0, _, _, hj, _, hm => by omega
  | n + 1, m + 1, h, j, hj, hn, hm => by
    simp only [dnF]
    split
    · rfl
    · rename_i hc
      obtain ⟨k1, k2, k3, k4⟩ := bst_in hc
      exact dnF_fuel (by rw [swp_len]; exact k2) (by rw [swp_len]; omega) (by rw [swp_len]; omega)
def dn (h : List T2) (j : Nat) : List T2 := dnF h.length h j
theorem dn_stop {h : List T2} {j : Nat} (hj : j < h.length) (hb : bst 4 h j (4 * j + 1) = j) : dn h j = h := by
  unfold dn
  rw [dnF_fuel (m := h.length + 1) hj (by omega) (by omega)]
  rw [dnF.eq_2 h j h.length, if_pos hb]
theorem dn_step {h : List T2} {j : Nat} (hj : j < h.length) (hb : ¬ bst 4 h j (4 * j + 1) = j) : dn (swp h j (bst 4 h j (4 * j + 1))) (bst 4 h j (4 * j + 1)) = dn h j := by
  obtain ⟨k1, k2, k3, k4⟩ := bst_in hb
  unfold dn
  rw [dnF_fuel (h := h) (m := h.length + 1) hj (by omega) (by omega)]
  rw [dnF.eq_2 h j h.length, if_neg hb, swp_len]
theorem bst_next {m : Nat} {h : List T2} {b k : Nat} (hk : k < h.length) : bst m h (if bef (ta h k) (ta h b) then k else b) (k + 1) = bst (m + 1) h b k := by
  rw [bst.eq_2 h b k m, if_pos hk]
theorem bst_over {m : Nat} {h : List T2} {b k : Nat} (hk : ¬ k < h.length) : bst m h b k = b := by
  cases m with
  | zero => rfl
  | succ m => rw [bst.eq_2 h b k m, if_neg hk]
theorem down_eq {h : List T2} {i : Int} (h0 : 0 ≤ i) (h1 : i < h.length) (hl : h.length ≤ 1000) : timer_heap_down (i, h) = some (dn h i.toNat) := by
  unfold timer_heap_down timer_heap_down_g
  simp only [cond_b, decide_eq_true_eq, Bool.and_eq_true, Bool.not_eq_true', decide_eq_false_iff_not, Bool.or_eq_true, Bool.not_eq_eq_eq_not, Bool.not_true, Bool.not_false, beq_iff_eq, Option.bind_some, Bool.not_not, decide_eq_true_eq, Decidable.not_not, and_true, at_ta, before_eq]
  refine LOOP_m (σ := Int × List T2) (s := (i, h)) (fun s => 0 ≤ s.1 ∧ s.1 < s.2.length ∧ s.2.length ≤ 1000) (fun s => s.2.length - s.1.toNat) (fun s => dn s.2 s.1.toNat) ?_ ⟨h0, h1, hl⟩ (by have := big; simp; omega)
  rintro ⟨j, a⟩ ⟨j0, j1, j2⟩
  dsimp only at *
  have w1 : IntKind.i64.wrap (4 * j) = 4 * j := wrap_i64 (by omega)
  have w2 : IntKind.i64.wrap (4 * j + 1) = 4 * j + 1 := wrap_i64 (by omega)
  have w3 : IntKind.i64.wrap (4 * j + 4) = 4 * j + 4 := wrap_i64 (by omega)
  simp only [w1, w2]
  rw [LOOP_m (σ := (Int × Int × Int) × List T2) (O := ((Int × Int) × List T2) ⊕ ((Int × List T2) ⊕ List T2)) (s := ((j, j, 4 * j + 1), a)) (fun s => s.1.1 = j ∧ s.2 = a ∧ 0 ≤ s.1.2.1 ∧ s.1.2.1 < a.length ∧ 4 * j + 1 ≤ s.1.2.2 ∧ s.1.2.2 ≤ 4 * j + 5) (fun s => (4 * j + 5 - s.1.2.2).toNat) (fun s => Sum.inl ((j, (bst (4 * j + 5 - s.1.2.2).toNat a s.1.2.1.toNat s.1.2.2.toNat : Nat)), a)) ?_ ⟨rfl, rfl, j0, j1, by dsimp only; omega, by dsimp only; omega⟩ (by have := big; simp; omega)]
  · have e0 : (4 * j + 5 - (4 * j + 1)).toNat = 4 := by omega
    have e1 : (4 * j + 1).toNat = 4 * j.toNat + 1 := by omega
    dsimp only
    rw [e0, e1]
    have hjn : j.toNat < a.length := by omega
    by_cases hb : bst 4 a j.toNat (4 * j.toNat + 1) = j.toNat
    · simp only [Option.bind_some, hb]
      rw [if_pos (by omega)]
      exact StepOK_inr (dn_stop hjn hb).symm
    · obtain ⟨k1, k2, k3, k4⟩ := bst_in hb
      have hs := dn_step hjn hb
      generalize bst 4 a j.toNat (4 * j.toNat + 1) = c at *
      simp only [Option.bind_some, Int.toNat_natCast, List.length_set]
      rw [if_neg (by omega), if_pos (by omega), if_pos (by omega), if_pos (by omega), if_pos (by omega), if_pos (by omega), if_pos (by omega), if_pos (by first | omega | (simp; omega)), if_pos (by first | omega | (simp; omega))]
      refine StepOK_inl ⟨by dsimp only; simp; omega, ⟨by dsimp only; omega, by simp; omega, by simpa using j2⟩, ?_⟩
      dsimp only
      rw [Int.toNat_natCast]
      exact hs
  · rintro ⟨⟨x, b, k⟩, y⟩ ⟨hx, hy, b0, b1, k0, k1⟩
    dsimp only at *
    subst hx
    subst hy
    have wk : IntKind.i64.wrap (k + 1) = k + 1 := wrap_i64 (by omega)
    simp only [w1, w3, wk]
    by_cases h4 : k ≤ 4 * x + 4
    · by_cases hk : k < y.length
      · have hkn : k.toNat < y.length := by omega
        have hn := @bst_next (4 * x + 4 - k).toNat y b.toNat k.toNat hkn
        have em : (4 * x + 5 - k).toNat = (4 * x + 4 - k).toNat + 1 := by omega
        rw [if_pos h4, if_pos hk, if_pos (by omega), if_pos (by omega), if_pos (by omega), if_pos (by omega)]
        by_cases hb : bef (ta y k.toNat) (ta y b.toNat)
        · rw [if_pos hb] at hn ⊢
          refine StepOK_inl ⟨by dsimp only; omega, ⟨rfl, rfl, by dsimp only; omega, by dsimp only; omega, by dsimp only; omega, by dsimp only; omega⟩, ?_⟩
          dsimp only
          rw [em, ← hn, show (4 * x + 5 - (k + 1)).toNat = (4 * x + 4 - k).toNat by omega, toN1 (by omega)]
        · rw [if_neg hb] at hn ⊢
          refine StepOK_inl ⟨by dsimp only; omega, ⟨rfl, rfl, by dsimp only; omega, by dsimp only; omega, by dsimp only; omega, by dsimp only; omega⟩, ?_⟩
          dsimp only
          rw [em, ← hn, show (4 * x + 5 - (k + 1)).toNat = (4 * x + 4 - k).toNat by omega, toN1 (by omega)]
      · rw [if_pos h4, if_neg hk]
        refine StepOK_inr ?_
        dsimp only
        rw [bst_over (by omega), Int.toNat_of_nonneg b0]
    · rw [if_neg h4]
      refine StepOK_inr ?_
      dsimp only
      rw [show (4 * x + 5 - k).toNat = 0 by omega, bst.eq_1, Int.toNat_of_nonneg b0]
end Go.AX
end

section
/- The timers: the document's down. -/
set_option linter.unusedSimpArgs false
set_option linter.unusedVariables false
namespace Go.AX
open Go

theorem rDown_eq {h : List T2} {i : Int} (h0 : 0 ≤ i) (h1 : i < h.length) (hl : h.length ≤ 1000) : torporref12_Down (h, i) = some (dn h i.toNat) := by
  unfold torporref12_Down torporref12_Down_g
  simp only [TCopy_eq h (show h.length ≤ 1000000 by omega), Option.bind_some, cond_b, decide_eq_true_eq, Bool.and_eq_true, Bool.not_eq_true', decide_eq_false_iff_not, Bool.or_eq_true, Bool.not_eq_eq_eq_not, Bool.not_true, Bool.not_false, beq_iff_eq, Option.bind_some, Bool.not_not, decide_eq_true_eq, Decidable.not_not, and_true, at_ta, Before_eq']
  refine LOOP_m (σ := Int × List T2) (s := (i, h)) (fun s => 0 ≤ s.1 ∧ s.1 < s.2.length ∧ s.2.length ≤ 1000) (fun s => s.2.length - s.1.toNat) (fun s => dn s.2 s.1.toNat) ?_ ⟨h0, h1, hl⟩ (by have := big; simp; omega)
  rintro ⟨j, a⟩ ⟨j0, j1, j2⟩
  dsimp only at *
  have w1 : IntKind.i64.wrap (4 * j) = 4 * j := wrap_i64 (by omega)
  have w2 : IntKind.i64.wrap (4 * j + 1) = 4 * j + 1 := wrap_i64 (by omega)
  have w3 : IntKind.i64.wrap (4 * j + 4) = 4 * j + 4 := wrap_i64 (by omega)
  have w4 : IntKind.i64.wrap (4 * j + 1 + 1) = 4 * j + 1 + 1 := wrap_i64 (by omega)
  simp only [w1, w2, w4]
  have hjn : j.toNat < a.length := by omega
  by_cases hfar : 4 * j + 1 < a.length
  · rw [if_pos hfar]
    rw [LOOP_m (σ := (Int × Int × Int) × List T2) (O := ((Int × Int) × List T2) ⊕ ((Int × List T2) ⊕ List T2)) (s := ((j, 4 * j + 1, 4 * j + 1 + 1), a)) (fun s => s.1.1 = j ∧ s.2 = a ∧ 0 ≤ s.1.2.1 ∧ s.1.2.1 < a.length ∧ 4 * j + 2 ≤ s.1.2.2 ∧ s.1.2.2 ≤ 4 * j + 5) (fun s => (4 * j + 5 - s.1.2.2).toNat) (fun s => Sum.inl ((j, (bst (4 * j + 5 - s.1.2.2).toNat a s.1.2.1.toNat s.1.2.2.toNat : Nat)), a)) ?_ ⟨rfl, rfl, by dsimp only; omega, by dsimp only; omega, by dsimp only; omega, by dsimp only; omega⟩ (by have := big; simp; omega)]
    · have e0 : (4 * j + 5 - (4 * j + 1 + 1)).toNat = 3 := by omega
      have e1 : (4 * j + 1).toNat = 4 * j.toNat + 1 := by omega
      have e2 : (4 * j + 1 + 1).toNat = 4 * j.toNat + 2 := by omega
      dsimp only
      rw [e0, e1, e2]
      have ht := @bst_two a j.toNat (by omega)
      have hsp := @bst_spec 3 a (4 * j.toNat + 1) (4 * j.toNat + 2)
      have hc2 : bst 3 a (4 * j.toNat + 1) (4 * j.toNat + 2) < a.length ∧ j.toNat < bst 3 a (4 * j.toNat + 1) (4 * j.toNat + 2) := by
        rcases hsp.1 with e | ⟨e, _, f, _⟩ <;> omega
      generalize bst 3 a (4 * j.toNat + 1) (4 * j.toNat + 2) = c at *
      obtain ⟨c1, c2⟩ := hc2
      simp only [Option.bind_some, Int.toNat_natCast, List.length_set]
      rw [if_pos (by omega), if_pos (by omega), if_pos (by omega), if_pos (by omega)]
      by_cases hb : bef (ta a c) (ta a j.toNat)
      · rw [if_pos hb] at ht
        have hne : ¬ bst 4 a j.toNat (4 * j.toNat + 1) = j.toNat := by omega
        have hs := dn_step hjn hne
        rw [ht] at hs
        rw [if_neg (fun g => g hb)]
        rw [if_pos (by omega), if_pos (by omega), if_pos (by omega), if_pos (by omega), if_pos (by omega), if_pos (by omega), if_pos (by first | omega | (simp; omega)), if_pos (by first | omega | (simp; omega))]
        refine StepOK_inl ⟨by dsimp only; simp; omega, ⟨by dsimp only; omega, by simp; omega, by simpa using j2⟩, ?_⟩
        dsimp only
        rw [Int.toNat_natCast]
        exact hs
      · rw [if_neg hb] at ht
        rw [if_pos hb]
        exact StepOK_inr (dn_stop hjn ht).symm
    · rintro ⟨⟨x, b, k⟩, y⟩ ⟨hx, hy, b0, b1, k0, k1⟩
      dsimp only at *
      subst hx
      subst hy
      have wk : IntKind.i64.wrap (k + 1) = k + 1 := wrap_i64 (by omega)
      simp only [w1, w3, wk]
      by_cases hk : k < y.length
      · by_cases h4 : k ≤ 4 * x + 4
        · have hkn : k.toNat < y.length := by omega
          have hn := @bst_next (4 * x + 4 - k).toNat y b.toNat k.toNat hkn
          have em : (4 * x + 5 - k).toNat = (4 * x + 4 - k).toNat + 1 := by omega
          rw [if_pos hk, if_pos h4, if_pos (by omega), if_pos (by omega), if_pos (by omega), if_pos (by omega)]
          by_cases hb : bef (ta y k.toNat) (ta y b.toNat)
          · rw [if_pos hb] at hn
            simp only [hb, decide_true, if_true]
            refine StepOK_inl ⟨by dsimp only; omega, ⟨rfl, rfl, by dsimp only; omega, by dsimp only; omega, by dsimp only; omega, by dsimp only; omega⟩, ?_⟩
            dsimp only
            rw [em, ← hn, show (4 * x + 5 - (k + 1)).toNat = (4 * x + 4 - k).toNat by omega, toN1 (by omega)]
          · rw [if_neg hb] at hn
            simp only [hb, decide_false, Bool.false_eq_true, if_false]
            refine StepOK_inl ⟨by dsimp only; omega, ⟨rfl, rfl, by dsimp only; omega, by dsimp only; omega, by dsimp only; omega, by dsimp only; omega⟩, ?_⟩
            dsimp only
            rw [em, ← hn, show (4 * x + 5 - (k + 1)).toNat = (4 * x + 4 - k).toNat by omega, toN1 (by omega)]
        · rw [if_pos hk, if_neg h4]
          refine StepOK_inr ?_
          dsimp only
          rw [show (4 * x + 5 - k).toNat = 0 by omega, bst.eq_1, Int.toNat_of_nonneg b0]
      · rw [if_neg hk]
        refine StepOK_inr ?_
        dsimp only
        rw [bst_over (by omega), Int.toNat_of_nonneg b0]
  · rw [if_neg hfar]
    exact StepOK_inr (dn_stop hjn (bst_far (by omega))).symm
end Go.AX
end

section
/- The timers: what goes; both alike. -/
set_option linter.unusedSimpArgs false
set_option linter.unusedVariables false
namespace Go.AX
open Go

/-- The heap without what stands at a place. -/
def wout (h : List T2) (i : Nat) : List T2 :=
  if i + 1 < h.length then upF (i + 1) (dn ((h.set i (ta h (h.length - 1))).take (h.length - 1)) i) i else h.take (h.length - 1)
theorem dn_len {h : List T2} {j : Nat} (hj : j < h.length) : (dn h j).length = h.length := (dnF_perm hj).length_eq
theorem away_eq {h : List T2} {i : Int} (h0 : 0 ≤ i) (h1 : i < h.length) (hl : h.length ≤ 1000) : timer_away (h, i) = some (wout h i.toNat) := by
  unfold timer_away timer_away_g wout
  simp only [TClone_eq h (show h.length ≤ 1000000 by omega), Option.bind_some, cond_b, decide_eq_true_eq, Bool.and_eq_true, Bool.not_eq_true', decide_eq_false_iff_not, Bool.or_eq_true, Bool.not_eq_eq_eq_not, Bool.not_true, Bool.not_false, beq_iff_eq, Option.bind_some, Bool.not_not, decide_eq_true_eq, Decidable.not_not, and_true, at_ta, List.length_set]
  have w : IntKind.i64.wrap ((h.length : Int) - 1) = ((h.length - 1 : Nat) : Int) := by rw [wrap_i64 (by omega)]; omega
  rw [w]
  simp only [Int.toNat_natCast]
  rw [if_pos (by omega), if_pos (by omega), if_pos (by omega), if_pos (by omega), if_pos (by omega)]
  by_cases hi : i < ((h.length - 1 : Nat) : Int)
  · rw [if_pos hi, if_pos (by omega)]
    have hlen : ((h.set i.toNat (ta h (h.length - 1))).take (h.length - 1)).length = h.length - 1 := by simp
    have e : ((ta h (h.length - 1)).1, (ta h (h.length - 1)).2) = ta h (h.length - 1) := rfl
    rw [e, down_eq h0 (by rw [hlen]; exact hi) (by omega)]
    simp only [Option.bind_some]
    rw [up_eq h0 (by rw [dn_len (by omega), hlen]; exact hi) (by rw [dn_len (by omega)]; omega)]
    rfl
  · rw [if_neg hi, if_neg (by omega)]
    have : i.toNat = h.length - 1 := by omega
    rw [this, List.take_set_of_le (by omega)]
theorem without_eq {h : List T2} {i : Int} (h0 : 0 ≤ i) (h1 : i < h.length) (hl : h.length ≤ 1000) : torporref12_without (h, i) = some (wout h i.toNat) := by
  unfold torporref12_without torporref12_without_g wout
  have w : IntKind.i64.wrap ((h.length : Int) - 1) = ((h.length - 1 : Nat) : Int) := by rw [wrap_i64 (by omega)]; omega
  simp only [w, Int.toNat_natCast, List.drop_zero, cond_b, decide_eq_true_eq, Bool.and_eq_true, Bool.not_eq_true', decide_eq_false_iff_not, Bool.or_eq_true, Bool.not_eq_eq_eq_not, Bool.not_true, Bool.not_false, beq_iff_eq, Option.bind_some, Bool.not_not, decide_eq_true_eq, Decidable.not_not, and_true, at_ta]
  have hlen : (h.take (h.length - 1)).length = h.length - 1 := by simp
  rw [if_pos (by omega), TCopy_eq _ (by omega)]
  simp only [Option.bind_some]
  by_cases hi : i < ((h.length - 1 : Nat) : Int)
  · rw [if_neg (by omega), if_pos (by omega), if_pos (by omega), if_pos (by omega), if_pos (by omega)]
    have e : ((ta h (h.length - 1)).1, (ta h (h.length - 1)).2) = ta h (h.length - 1) := rfl
    have hs : (h.take (h.length - 1)).set i.toNat (ta h (h.length - 1)) = (h.set i.toNat (ta h (h.length - 1))).take (h.length - 1) := by rw [List.take_set]
    have hlen2 : ((h.set i.toNat (ta h (h.length - 1))).take (h.length - 1)).length = h.length - 1 := by simp
    rw [e, hs, rDown_eq h0 (by rw [hlen2]; exact hi) (by omega)]
    simp only [Option.bind_some]
    rw [rUp_eq h0 (by rw [dn_len (by omega), hlen2]; exact hi) (by rw [dn_len (by omega)]; omega)]
    rfl
  · rw [if_pos (by omega), if_neg (by omega)]
end Go.AX
end

section
/- The timers: pushed, popped, dropped: both alike. -/
set_option linter.unusedSimpArgs false
set_option linter.unusedVariables false
namespace Go.AX
open Go

noncomputable def okT (h : List T2) : Bool := decide (h.length ≤ 12) && allF (rOK h) h.length 0
theorem okT_len {h : List T2} (g : okT h = true) : h.length ≤ 12 := by
  unfold okT at g
  simp only [Bool.and_eq_true, decide_eq_true_eq] at g
  exact g.1
theorem AgT_pop (h : List T2) : ∃ a t e, timer_Pop h = some (a, t, e) ∧ torporref12_Pop h = some (a, t, e) ∧ (a.length ≤ h.length) ∧ (e = 0 ↔ (okT h = true ∧ h ≠ [])) ∧ (e = 0 → a = wout h 0 ∧ t = ta h 0) ∧ (e ≠ 0 → a = h) := by
  unfold timer_Pop timer_Pop_g torporref12_Pop torporref12_Pop_g
  rw [RightT_eq, rRightT_eq]
  rw [show (decide (h.length ≤ 12) && allF (rOK h) h.length 0) = okT h from rfl]
  simp only [Option.bind_some, cond_b, decide_eq_true_eq, Bool.and_eq_true, Bool.not_eq_true', decide_eq_false_iff_not, Bool.or_eq_true, Bool.not_eq_eq_eq_not, Bool.not_true, Bool.not_false, beq_iff_eq, Option.bind_some, Bool.not_not, decide_eq_true_eq, Decidable.not_not, and_true, at_ta]
  cases hk : okT h with
  | false => exact ⟨h, (0, 0), 1, by simp, by simp, Nat.le_refl _, by simp, by simp, by simp⟩
  | true =>
    have hl := okT_len hk
    cases h with
    | nil => exact ⟨[], (0, 0), 7, by simp, by simp, Nat.le_refl _, by simp, by simp, by simp⟩
    | cons x r =>
      have e1 := away_eq (h := x :: r) (i := 0) (by omega) (by simp) (by omega)
      have e2 := without_eq (h := x :: r) (i := 0) (by omega) (by simp) (by omega)
      rw [e1, e2]
      have hw : (wout (x :: r) 0).length ≤ (x :: r).length := by
        unfold wout
        split
        · rename_i hlt
          have hl1 : (((x :: r).set 0 (ta (x :: r) ((x :: r).length - 1))).take ((x :: r).length - 1)).length = (x :: r).length - 1 := by simp
          rw [(upF_perm (by rw [dn_len (by rw [hl1]; omega), hl1]; omega)).length_eq, dn_len (by rw [hl1]; omega), hl1]
          omega
        · simp
      refine ⟨wout (x :: r) 0, ta (x :: r) 0, 0, ?_, ?_, hw, by simp, by simp, by simp⟩
      · simp; omega
      · simp; omega
end Go.AX
end

section
/- The timers: pushed and dropped: both alike. -/
set_option linter.unusedSimpArgs false
set_option linter.unusedVariables false
namespace Go.AX
open Go

theorem wout_len {h : List T2} {i : Nat} (hi : i < h.length) : (wout h i).length = h.length - 1 := by
  unfold wout
  split
  · rename_i hlt
    have hl1 : ((h.set i (ta h (h.length - 1))).take (h.length - 1)).length = h.length - 1 := by simp
    rw [(upF_perm (by rw [dn_len (by rw [hl1]; omega), hl1]; omega)).length_eq, dn_len (by rw [hl1]; omega), hl1]
  · simp
theorem AgT_drop (h : List T2) (t : Int) : ∃ a e, timer_Drop (h, t) = some (a, e) ∧ torporref12_Drop (h, t) = some (a, e) ∧ a.length ≤ h.length := by
  unfold timer_Drop timer_Drop_g torporref12_Drop torporref12_Drop_g
  dsimp only
  rw [RightT_eq, rRightT_eq]
  rw [show (decide (h.length ≤ 12) && allF (rOK h) h.length 0) = okT h from rfl]
  simp only [Option.bind_some, cond_b, decide_eq_true_eq, Bool.and_eq_true, Bool.not_eq_true', decide_eq_false_iff_not, Bool.or_eq_true, Bool.not_eq_eq_eq_not, Bool.not_true, Bool.not_false, beq_iff_eq, Option.bind_some, Bool.not_not, decide_eq_true_eq, Decidable.not_not, and_true]
  cases hk : okT h with
  | false => exact ⟨h, 1, by simp, by simp, Nat.le_refl _⟩
  | true =>
    have hl := okT_len hk
    rcases Place_cases h t with hn | ⟨k, k1, k2, k3⟩
    · obtain ⟨p1, p2⟩ := Place_no (by omega) hn
      rw [p1, p2]
      exact ⟨h, 7, by simp, by simp, Nat.le_refl _⟩
    · obtain ⟨p1, p2⟩ := Place_at (by omega) k1 k2 k3
      rw [p1, p2]
      have e1 := away_eq (h := h) (i := (k : Int)) (by omega) (by omega) (by omega)
      have e2 := without_eq (h := h) (i := (k : Int)) (by omega) (by omega) (by omega)
      refine ⟨wout h k, 0, ?_, ?_, by rw [wout_len k1]; omega⟩
      · simp only [Option.bind_some, e1]
        simp
      · simp only [Option.bind_some, e2]
        simp
end Go.AX
end

section
/- The timers: pushed: both alike. -/
set_option linter.unusedSimpArgs false
set_option linter.unusedVariables false
namespace Go.AX
open Go

def pushH (h : List T2) (x : T2) : List T2 := upF (h.length + 1) (h ++ [x]) h.length
theorem AgT_push (h : List T2) (x y : Int) : (∃ e, e ≠ 0 ∧ timer_Push (h, x, y) = some (h, e) ∧ torporref12_Push (h, x, y) = some (h, e)) ∨ (okT h = true ∧ 0 ≤ x ∧ 0 ≤ y ∧ h.length < 12 ∧ (∀ k, k < h.length → (ta h k).2 ≠ y) ∧ timer_Push (h, x, y) = some (pushH h (x, y), 0) ∧ torporref12_Push (h, x, y) = some (pushH h (x, y), 0)) := by
  unfold timer_Push timer_Push_g torporref12_Push torporref12_Push_g
  dsimp only
  rw [RightT_eq, rRightT_eq, odd_eq]
  rw [show (decide (h.length ≤ 12) && allF (rOK h) h.length 0) = okT h from rfl]
  simp only [Option.bind_some, cond_b, decide_eq_true_eq, Bool.and_eq_true, Bool.not_eq_true', decide_eq_false_iff_not, Bool.or_eq_true, Bool.not_eq_eq_eq_not, Bool.not_true, Bool.not_false, beq_iff_eq, Option.bind_some, Bool.not_not, decide_eq_true_eq, Decidable.not_not, and_true]
  cases hk : okT h with
  | false =>
    refine .inl ⟨1, by decide, ?_, by simp⟩
    by_cases ho : x < 0 ∨ y < 0 <;> simp [ho]
  | true =>
    have hl := okT_len hk
    by_cases ho : x < 0 ∨ y < 0
    · refine .inl ⟨1, by decide, by simp [ho], ?_⟩
      by_cases h1 : x < 0
      · simp [h1]
      · have : y < 0 := by omega
        simp [h1, this]
    · have h1 : ¬ x < 0 := by omega
      have h2 : ¬ y < 0 := by omega
      rcases Place_cases h y with hn | ⟨k, k1, k2, k3⟩
      · obtain ⟨p1, p2⟩ := Place_no (by omega) hn
        by_cases h12 : h.length = 12
        · refine .inl ⟨6, by decide, ?_, ?_⟩
          · simp [p2, h12, h1, h2]
          · simp [p1, h12, h1, h2]
        · have hlt : h.length < 12 := by omega
          refine .inr ⟨rfl, by omega, by omega, hlt, hn, ?_, ?_⟩
          · have e := up_eq (h := h ++ [(x, y)]) (i := (h.length : Int)) (by omega) (by simp; omega) (by simp; omega)
            rw [p2, TClone_eq h (by omega)]
            simp only [Option.bind_some, e, Int.toNat_natCast]
            have a1 : ¬ (h.length : Int) = 12 := by omega
            have a2 : (h.length + [(x, y)].length) * 16 ≤ 140737488355328 := by simp; omega
            simp [h1, h2, a1, pushH]
            omega
          · have e := rUp_eq (h := h ++ [(x, y)]) (i := (h.length : Int)) (by omega) (by simp; omega) (by simp; omega)
            rw [p1, TCopy_eq h (by omega)]
            simp only [Option.bind_some, e, Int.toNat_natCast]
            have a1 : ¬ (12 : Int) ≤ (h.length : Int) := by omega
            simp [h1, h2, a1, pushH]
            omega
      · obtain ⟨p1, p2⟩ := Place_at (by omega) k1 k2 k3
        refine .inl ⟨8, by decide, ?_, ?_⟩
        · simp [p2, h1, h2]
        · simp [p1, h1, h2]
end Go.AX
end

section
/- The timers: what is popped, pushed, dropped may be. -/
set_option linter.unusedSimpArgs false
set_option linter.unusedVariables false
namespace Go.AX
open Go

/-- A heap that may be. -/
structure TOKh (h : List T2) : Prop where
  le : h.length ≤ 12
  p : ∀ x ∈ h, 0 ≤ x.1 ∧ 0 ≤ x.2
  hp : HP h
  nd : (h.map (·.2)).Nodup
theorem ta_mem {h : List T2} {i : Nat} (hi : i < h.length) : ta h i ∈ h := by rw [ta_get hi]; exact List.getElem_mem hi
theorem okT_iff {h : List T2} : okT h = true ↔ TOKh h := by
  unfold okT
  rw [Bool.and_eq_true, decide_eq_true_eq, allF_iff]
  constructor
  · rintro ⟨h1, h2⟩
    refine ⟨h1, fun x hx => ?_, fun k k0 k1 => (h2 k k1 (Nat.zero_le _)).2.1 k0, ?_⟩
    · obtain ⟨i, hi, rfl⟩ := List.getElem_of_mem hx
      have := (h2 i hi (Nat.zero_le _)).1
      rwa [pos, ta_get hi] at this
    · rw [List.nodup_iff_pairwise_ne, List.pairwise_iff_getElem]
      intro i j hi hj hij
      simp only [List.length_map] at hi hj
      have := (allF_iff.1 (h2 j hj (Nat.zero_le _)).2.2) i hij (Nat.zero_le _)
      rw [neq, ta_get hi, ta_get hj] at this
      simpa using this
  · intro g
    refine ⟨g.le, fun j hj _ => ⟨?_, fun j0 => g.hp j j0 hj, ?_⟩⟩
    · exact g.p _ (ta_mem hj)
    · rw [lone, allF_iff]
      intro k hk _
      have := g.nd
      rw [List.nodup_iff_pairwise_ne, List.pairwise_iff_getElem] at this
      have := this k j (by simp; omega) (by simp; omega) hk
      rw [neq, ta_get (by omega), ta_get hj]
      simpa using this
end Go.AX
end

section
/- The timers: what is left may be. -/
set_option linter.unusedSimpArgs false
set_option linter.unusedVariables false
namespace Go.AX
open Go

theorem TOKh.of_perm {h a : List T2} (g : TOKh h) (hp : a.Sublist h ∨ ∃ b, b.Sublist h ∧ a.Perm b) (hh : HP a) : TOKh a := by
  obtain ⟨b, hs, hb⟩ : ∃ b, b.Sublist h ∧ a.Perm b := hp.elim (fun s => ⟨a, s, .refl _⟩) id
  refine ⟨by rw [hb.length_eq]; exact Nat.le_trans hs.length_le g.le, fun x hx => g.p x (hs.subset (hb.subset hx)), hh, ?_⟩
  exact ((hb.map _).nodup_iff).2 ((hs.map _).nodup g.nd)
theorem cut_dn {h : List T2} (g : HP h) {i : Nat} (hi : i + 1 < h.length) : DnOK ((h.set i (ta h (h.length - 1))).take (h.length - 1)) i i := by
  have hlen : ((h.set i (ta h (h.length - 1))).take (h.length - 1)).length = h.length - 1 := by simp
  have ht : ∀ k, k < h.length - 1 → k ≠ i → ta ((h.set i (ta h (h.length - 1))).take (h.length - 1)) k = ta h k := fun k hk hne => by
    have h1 : ta ((h.set i (ta h (h.length - 1))).take (h.length - 1)) k = ta (h.set i (ta h (h.length - 1))) k := by
      simp only [ta, List.getD_eq_getElem?_getD, List.getElem?_take, if_pos hk]
    rw [h1, ta_set (by omega), if_neg hne]
  have gr : ∀ c, 0 < c → c < h.length - 1 → par c = i → 0 < i → lq (ta h (par i)) (ta h c) := fun c c0 c1 cp i0 => by
    have a := g c c0 (by omega)
    have b := g i i0 (by omega)
    rw [cp] at a
    exact lq_trans b a
  refine ⟨fun k k0 k1 kne kp => ?_, fun c c0 c1 cp i0 => ?_, fun c c0 c1 cp i0 => ?_, fun e => absurd rfl e, Nat.le_refl _⟩
  · rw [hlen] at k1
    have := par_lt k0
    rw [ht _ (by omega) kp, ht _ k1 kne]
    exact g k k0 (by omega)
  · rw [hlen] at c1
    have := par_lt c0
    have := par_lt i0
    rw [ht _ (by omega) (by omega), ht _ c1 (by omega)]
    exact gr c c0 c1 cp i0
  · rw [hlen] at c1
    have := par_lt c0
    have := par_lt i0
    rw [ht _ (by omega) (by omega), ht _ c1 (by omega)]
    exact gr c c0 c1 cp i0
end Go.AX
end

section
/- The timers: what is left is a heap, of what was there. -/
set_option linter.unusedSimpArgs false
set_option linter.unusedVariables false
namespace Go.AX
open Go

theorem wout_hp {h : List T2} (g : HP h) {i : Nat} (hi : i < h.length) : HP (wout h i) := by
  unfold wout
  split
  · rename_i hlt
    have hlen : ((h.set i (ta h (h.length - 1))).take (h.length - 1)).length = h.length - 1 := by simp
    have d := cut_dn g hlt
    have u : UpOK (dn ((h.set i (ta h (h.length - 1))).take (h.length - 1)) i) i := dnF_ok d (by rw [hlen]; omega) (by omega)
    exact upF_ok u (by rw [dn_len (by rw [hlen]; omega), hlen]; omega) (by omega)
  · intro k k0 k1
    have hk : k < h.length - 1 := by simpa using k1
    have hp := par_lt k0
    have ht : ∀ j, j < h.length - 1 → ta (h.take (h.length - 1)) j = ta h j := fun j hj => by
      simp only [ta, List.getD_eq_getElem?_getD, List.getElem?_take, if_pos hj]
    rw [ht _ (by omega), ht _ hk]
    exact g k k0 (by omega)
end Go.AX
end

section
/- The timers: what is pushed stands in a heap; permutations. -/
set_option linter.unusedSimpArgs false
set_option linter.unusedVariables false
namespace Go.AX
open Go

theorem pushH_perm (h : List T2) (x : T2) : (pushH h x).Perm (x :: h) := by
  unfold pushH
  exact (upF_perm (by simp)).trans (List.perm_append_singleton x h)
theorem pushH_hp {h : List T2} (g : HP h) (x : T2) : HP (pushH h x) := by
  unfold pushH
  have ht : ∀ j, j < h.length → ta (h ++ [x]) j = ta h j := fun j hj => by
    simp only [ta, List.getD_eq_getElem?_getD, List.getElem?_append_left hj]
  refine upF_ok ⟨fun k k0 k1 kne => ?_, fun c c0 c1 cp p0 => ?_⟩ (by simp) (by omega)
  · have hk : k < h.length := by simp at k1; omega
    have hp := par_lt k0
    rw [ht _ (by omega), ht _ hk]
    exact g k k0 hk
  · simp at c1
    have := par_lt c0
    omega
theorem TOKh.push {h : List T2} (g : TOKh h) {x y : Int} (hl : h.length < 12) (hx : 0 ≤ x) (hy : 0 ≤ y) (hn : ∀ k, k < h.length → (ta h k).2 ≠ y) : TOKh (pushH h (x, y)) := by
  have hp := pushH_perm h (x, y)
  refine ⟨by rw [hp.length_eq]; simp; omega, fun z hz => ?_, pushH_hp g.hp _, ?_⟩
  · rcases List.mem_cons.1 (hp.subset hz) with rfl | hz
    · exact ⟨hx, hy⟩
    · exact g.p z hz
  · refine ((hp.map _).nodup_iff).2 (List.nodup_cons.2 ⟨fun hm => ?_, g.nd⟩)
    obtain ⟨z, hz, hz2⟩ := List.mem_map.1 hm
    obtain ⟨k, hk, rfl⟩ := List.getElem_of_mem hz
    exact hn k hk (by rw [ta_get hk]; exact hz2)
end Go.AX
end

section
/- The timers: what is left, and what went, are what was there. -/
set_option linter.unusedSimpArgs false
set_option linter.unusedVariables false
namespace Go.AX
open Go

theorem split_last {h : List T2} (hn : 0 < h.length) : h = h.take (h.length - 1) ++ [ta h (h.length - 1)] := by
  have : h.length - 1 < h.length := by omega
  rw [ta_get this]
  have e := List.take_append_drop (h.length - 1) h
  rw [List.drop_eq_getElem_cons this, List.drop_of_length_le (by omega)] at e
  exact e.symm
theorem set_perm {h : List T2} {i : Nat} {v : T2} (hi : i < h.length) : (ta h i :: h.set i v).Perm (v :: h) := by
  rw [List.perm_iff_count]
  intro x
  rw [List.count_cons, List.count_cons, List.count_set hi, ta_get hi]
  have : h[i] = x → 0 < h.count x := fun e => List.count_pos_iff.2 (e ▸ List.getElem_mem hi)
  by_cases e1 : h[i] = x <;> by_cases e2 : v = x
  · have := this e1; simp [e1, e2]; omega
  · have := this e1; simp [e1, e2]; omega
  · simp [e1, e2]
  · simp [e1, e2]
theorem wout_perm {h : List T2} {i : Nat} (hi : i < h.length) : (ta h i :: wout h i).Perm h := by
  have hs := split_last (h := h) (by omega)
  unfold wout
  split
  · rename_i hlt
    have hlen : (h.take (h.length - 1)).length = h.length - 1 := by simp
    have ht : ta (h.take (h.length - 1)) i = ta h i := by
      simp only [ta, List.getD_eq_getElem?_getD, List.getElem?_take, if_pos (show i < h.length - 1 by omega)]
    rw [List.take_set]
    have p1 := @set_perm (h.take (h.length - 1)) i (ta h (h.length - 1)) (by omega)
    rw [ht] at p1
    have hl2 : ((h.take (h.length - 1)).set i (ta h (h.length - 1))).length = h.length - 1 := by simp
    have p2 : (upF (i + 1) (dn ((h.take (h.length - 1)).set i (ta h (h.length - 1))) i) i).Perm ((h.take (h.length - 1)).set i (ta h (h.length - 1))) :=
      (upF_perm (by rw [dn_len (by omega)]; omega)).trans (dnF_perm (by omega))
    refine ((p2.cons _).trans p1).trans ?_
    have p3 := (List.perm_append_singleton (ta h (h.length - 1)) (h.take (h.length - 1))).symm
    rw [← hs] at p3
    exact p3
  · have : i = h.length - 1 := by omega
    subst this
    have p3 := (List.perm_append_singleton (ta h (h.length - 1)) (h.take (h.length - 1))).symm
    rw [← hs] at p3
    exact p3
end Go.AX
end

section
/- The timers: what is left may be, too. -/
set_option linter.unusedSimpArgs false
set_option linter.unusedVariables false
namespace Go.AX
open Go

theorem TOKh.wout {h : List T2} (g : TOKh h) {i : Nat} (hi : i < h.length) : TOKh (wout h i) := by
  have hp := wout_perm hi
  have hl := wout_len hi
  have hnd := ((hp.map (·.2)).nodup_iff).2 g.nd
  exact ⟨by rw [hl]; have := g.le; omega, fun x hx => g.p x (hp.subset (List.mem_cons_of_mem _ hx)), wout_hp g.hp hi, (List.nodup_cons.1 hnd).2⟩
end Go.AX
end

section
/- Timers in turn: sorted lists, plain facts. -/
set_option linter.unusedSimpArgs false
set_option linter.unusedVariables false
namespace Go.AX
open Go

theorem lq_anti {a b : T2} (h : lq a b) (g : lq b a) : a = b := by
  unfold lq bef at *
  obtain ⟨a1, a2⟩ := a
  obtain ⟨b1, b2⟩ := b
  simp only [Prod.mk.injEq] at *
  omega
/-- Each is not behind the next ones. -/
abbrev Sd (l : List T2) : Prop := l.Pairwise lq
theorem Sd_iff {l : List T2} : Sd l ↔ ∀ p q, p < q → q < l.length → lq (ta l p) (ta l q) := by
  rw [Sd, List.pairwise_iff_getElem]
  constructor
  · intro h p q hp hq
    rw [ta_get (by omega), ta_get hq]
    exact h p q (by omega) hq hp
  · intro h i j hi hj hij
    have := h i j hij hj
    rwa [ta_get hi, ta_get hj] at this
instance (a b : T2) : Decidable (lq a b) := by unfold lq; exact inferInstance
/-- All in turn. -/
def srt (h : List T2) : List T2 := h.mergeSort fun a b => decide (lq a b)
theorem srt_perm (h : List T2) : (srt h).Perm h := List.mergeSort_perm ..
theorem srt_sd (h : List T2) : Sd (srt h) := by
  have := List.pairwise_mergeSort (le := fun a b : T2 => decide (lq a b)) (fun a b c h1 h2 => by simp only [decide_eq_true_eq] at *; exact lq_trans h1 h2) (fun a b => by
    simp only [Bool.or_eq_true, decide_eq_true_eq]
    exact (lq_or a b).imp id lq_of_bef) h
  exact this.imp (by intro a b h; exact of_decide_eq_true h)
theorem sd_unique {a b : List T2} (hp : a.Perm b) (ha : Sd a) (hb : Sd b) : a = b := List.Perm.eq_of_pairwise (fun _ _ _ _ h g => lq_anti h g) ha hb hp
theorem srt_eq {a h : List T2} (hp : a.Perm h) (ha : Sd a) : a = srt h := sd_unique (hp.trans (srt_perm h).symm) ha (srt_sd h)
theorem srt_congr {a b : List T2} (hp : a.Perm b) : srt a = srt b := srt_eq ((srt_perm a).trans hp) (srt_sd a)
theorem srt_len (h : List T2) : (srt h).length = h.length := (srt_perm h).length_eq
theorem srt_cons {x : T2} {l : List T2} (hx : ∀ y ∈ l, lq x y) : srt (x :: l) = x :: srt l := by
  refine (srt_eq ((srt_perm l).cons x) (List.pairwise_cons.2 ⟨fun y hy => hx y ((srt_perm l).subset hy), srt_sd l⟩)).symm
/-- One goes on till its place, in what is sorted. -/
def insF : Nat → List T2 → Nat → List T2
  | 0, l, _ => l
  | n + 1, l, j => if 0 < j ∧ bef (ta l j) (ta l (j - 1)) then insF n (swp l j (j - 1)) (j - 1) else l
theorem insF_fuel : ∀ {n m : Nat} {h : List T2} {j : Nat}, j < n → j < m → insF n h j = insF m h j
  | 0, _, _, _, hn, _ => by omega
  | _ + 1, 0, _, _, _, hm => by omega
  | n + 1, m + 1, h, j, hn, hm => by
    simp only [insF]
    split
    · rename_i hc
      exact insF_fuel (by omega) (by omega)
    · rfl
theorem insF_step {h : List T2} {i : Nat} (hi : 0 < i) (hb : bef (ta h i) (ta h (i - 1))) : insF i (swp h i (i - 1)) (i - 1) = insF (i + 1) h i := by
  rw [insF.eq_2 h i i, if_pos ⟨hi, hb⟩]
theorem insF_stop {h : List T2} {i : Nat} (hb : ¬ (0 < i ∧ bef (ta h i) (ta h (i - 1)))) : insF (i + 1) h i = h := by
  rw [insF.eq_2 h i i, if_neg hb]
theorem insF_perm : ∀ {n : Nat} {h : List T2} {j : Nat}, j < h.length → (insF n h j).Perm h
  | 0, h, _, _ => .refl _
  | n + 1, h, j, hj => by
    simp only [insF]
    split
    · rename_i hc
      exact (insF_perm (by rw [swp_len]; omega)).trans (swp_perm hj (by omega))
    · exact .refl _
/-- Sorted up to a place, but for one that goes on. -/
structure InsOK (l : List T2) (i j : Nat) : Prop where
  e : ∀ p q, p < q → q ≤ i → p ≠ j → q ≠ j → lq (ta l p) (ta l q)
  g : ∀ q, j < q → q ≤ i → lq (ta l j) (ta l q)
  le : j ≤ i
theorem InsOK.done {l : List T2} {i j : Nat} (h : InsOK l i j) (hd : j = 0 ∨ lq (ta l (j - 1)) (ta l j)) : ∀ p q, p < q → q ≤ i → lq (ta l p) (ta l q) := by
  intro p q hpq hq
  by_cases e1 : p = j
  · subst e1; exact h.g q hpq hq
  · by_cases e2 : q = j
    · subst e2
      rcases hd with rfl | hd
      · omega
      · by_cases e3 : p = q - 1
        · subst e3; exact hd
        · exact lq_trans (h.e p (q - 1) (by omega) (by omega) e1 (by omega)) hd
    · exact h.e p q hpq hq e1 e2
theorem InsOK.step {l : List T2} {i j : Nat} (h : InsOK l i j) (hi : i < l.length) (h0 : 0 < j) (hb : bef (ta l j) (ta l (j - 1))) : InsOK (swp l j (j - 1)) i (j - 1) := by
  have hle := h.le
  have hs := fun k => @ta_swp l j (j - 1) k (by omega) (by omega)
  refine ⟨fun p q hpq hq e1 e2 => ?_, fun q hjq hq => ?_, by omega⟩
  · rw [hs, hs, if_neg e1, if_neg e2]
    by_cases e3 : p = j
    · rw [if_pos e3, if_neg (by omega)]; exact h.e (j - 1) q (by omega) hq (by omega) (by omega)
    · rw [if_neg e3]
      by_cases e4 : q = j
      · rw [if_pos e4]; exact h.e p (j - 1) (by omega) (by omega) e3 (by omega)
      · rw [if_neg e4]; exact h.e p q hpq hq e3 e4
  · rw [hs, hs, if_pos rfl, if_neg (by omega)]
    by_cases e4 : q = j
    · rw [if_pos e4]; exact lq_of_bef hb
    · rw [if_neg e4]; exact h.g q (by omega) hq
theorem insF_ok : ∀ {n : Nat} {l : List T2} {i j : Nat}, InsOK l i j → i < l.length → j < n → ∀ p q, p < q → q ≤ i → lq (ta (insF n l j) p) (ta (insF n l j) q)
  | 0, l, _, _, _, _, hn => by omega
  | n + 1, l, i, j, u, hi, hn => by
    simp only [insF]
    split
    · rename_i hc
      exact insF_ok (u.step hi hc.1 hc.2) (by rw [swp_len]; exact hi) (by omega)
    · rename_i hc
      refine u.done ?_
      by_cases h0 : j = 0
      · exact .inl h0
      · exact .inr (fun hb => hc ⟨by omega, hb⟩)
end Go.AX
end

section
/- Timers in turn: the program's Sorted. -/
set_option linter.unusedSimpArgs false
set_option linter.unusedVariables false
namespace Go.AX
open Go

def SInv (l : List T2) (i : Int) (m : List T2) : Prop := m.Perm l ∧ ∀ p q : Nat, p < q → (q : Int) < i → lq (ta m p) (ta m q)
theorem SInv.next {l m : List T2} {i : Nat} (h : SInv l (i : Int) m) (hi : i < l.length) : SInv l ((i + 1 : Nat) : Int) (insF (i + 1) m i) := by
  have hm := h.1.length_eq
  refine ⟨(insF_perm (by omega)).trans h.1, fun p q hpq hq => insF_ok (i := i) ⟨fun p q h1 h2 h3 h4 => h.2 p q h1 (by omega), fun q h1 h2 => by omega, Nat.le_refl _⟩ (by omega) (by omega) p q hpq (by omega)⟩
theorem insSort_eq (l : List T2) (hl : l.length ≤ 12) : insertionSort_Timer ((0, (l.length : Int)), l) = some (srt l) := by
  unfold insertionSort_Timer insertionSort_Timer_g
  dsimp only
  rw [show IntKind.i64.wrap (0 + 1) = 1 by decide]
  refine LOOP_m (σ := (Int × Int × Int) × List T2) (s := ((0, (l.length : Int), 1), l)) (fun s => s.1.1 = 0 ∧ s.1.2.1 = l.length ∧ 1 ≤ s.1.2.2 ∧ SInv l s.1.2.2 s.2) (fun s => l.length - s.1.2.2.toNat) (fun _ => srt l) ?_
    ⟨rfl, rfl, Int.le_refl _, .refl _, fun p q h1 h2 => by dsimp only at h2; omega⟩ (by have := big; simp; omega)
  rintro ⟨⟨a, n, i⟩, m⟩ ⟨ha, hn, hi, hS⟩
  dsimp only at ha hn hi hS
  subst ha
  subst hn
  have hm := hS.1.length_eq
  dsimp only
  by_cases h1 : i < l.length
  · simp only [cond_d, if_pos h1]
    refine StepOK_eq (LOOP_m (σ := (Int × Int × Int × Int) × List T2) (O := ((Int × Int × Int) × List T2) ⊕ List T2) (s := ((0, (l.length : Int), i, i), m))
      (fun s => s.1.1 = 0 ∧ s.1.2.1 = l.length ∧ s.1.2.2.1 = i ∧ 0 ≤ s.1.2.2.2 ∧ s.1.2.2.2 ≤ i ∧ s.2.length = l.length) (fun s => s.1.2.2.2.toNat) (fun s => .inl ((0, (l.length : Int), i + 1), insF (s.1.2.2.2.toNat + 1) s.2 s.1.2.2.2.toNat)) ?_ ⟨rfl, rfl, rfl, by dsimp only; omega, Int.le_refl _, hm⟩ (by have := big; simp; omega)) ?_
    · rintro ⟨⟨a, n, i', j⟩, b⟩ ⟨ha, hn, hi', hj0, hj1, hb⟩
      dsimp only at ha hn hi' hj0 hj1 hb
      subst ha
      subst hn
      subst hi'
      dsimp only
      have e1 := @insF_step b j.toNat
      have e2 := @insF_stop b j.toNat
      have w1 : IntKind.i64.wrap (i' + 1) = i' + 1 := wrap_i64 (by omega)
      have w2 : IntKind.i64.wrap (j - 1) = j - 1 := wrap_i64 (by omega)
      by_cases hj : 0 < j
      · have ej : (j - 1).toNat = j.toNat - 1 := by omega
        simp only [cond_b, decide_eq_true_eq, Bool.and_eq_true, Bool.not_eq_true', decide_eq_false_iff_not, Bool.or_eq_true, Bool.not_eq_eq_eq_not, Bool.not_true, Bool.not_false, beq_iff_eq, Option.bind_some, Bool.not_not, decide_eq_true_eq, Decidable.not_not, and_true, at_ta, w1, w2, ej, compare_eq, tcmp_bef, List.length_set, Option.bind_some, if_pos hj]
        rw [if_pos (by omega), if_pos (by omega), if_pos (by omega), if_pos (by omega)]
        by_cases hbf : bef (ta b j.toNat) (ta b (j.toNat - 1))
        · rw [if_pos hbf, if_pos (by omega), if_pos (by omega), if_pos (by omega), if_pos (by omega), if_pos (by omega), if_pos (by omega), if_pos (by omega), if_pos (by omega)]
          refine StepOK_inl ⟨by dsimp only; omega, ⟨rfl, rfl, rfl, by dsimp only; omega, by dsimp only; omega, by simpa using hb⟩, ?_⟩
          dsimp only
          rw [ej, show j.toNat - 1 + 1 = j.toNat by omega]
          congr 2
          exact e1 (by omega) hbf
        · rw [if_neg hbf]
          refine StepOK_inr ?_
          congr 2
          exact (e2 fun g => hbf g.2).symm
      · simp only [cond_d, if_neg hj, w1]
        refine StepOK_inr ?_
        congr 2
        exact (e2 fun g => by omega).symm
    · dsimp only
      refine StepOK_inl ⟨by dsimp only; omega, ⟨rfl, rfl, by dsimp only; omega, ?_⟩, rfl⟩
      dsimp only
      obtain ⟨k, rfl⟩ : ∃ k : Nat, i = k := ⟨i.toNat, by omega⟩
      rw [Int.toNat_natCast]
      exact hS.next (by omega)
  · simp only [cond_d, if_neg h1]
    refine StepOK_inr (srt_eq hS.1 (Sd_iff.2 fun p q hpq hq => hS.2 p q hpq (by omega)))
end Go.AX
end

section
/- Timers in turn: the program's Sorted, whole. -/
set_option linter.unusedSimpArgs false
set_option linter.unusedVariables false
namespace Go.AX
open Go

theorem Len_all : ∀ n : _root_.Fin 13, (math_bits_Len (n.val : Int)).isSome = true := by decide +kernel
theorem SortFunc_eq (l : List T2) (hl : l.length ≤ 12) : SortFunc_Timer l = some (srt l) := by
  unfold SortFunc_Timer SortFunc_Timer_g
  have w : IntKind.u64.wrap (l.length : Int) = l.length := by
    have : ∀ n : _root_.Fin 13, IntKind.u64.wrap (n.val : Int) = n.val := by decide
    exact this ⟨l.length, by omega⟩
  rw [w]
  obtain ⟨y, hy⟩ := Option.isSome_iff_exists.1 (Len_all ⟨l.length, by omega⟩)
  dsimp only at hy
  rw [hy]
  simp only [Option.bind_some]
  suffices h : pdqsort_Timer ((0, (l.length : Int), y), l) = some (srt l) by rw [h]; rfl
  unfold pdqsort_Timer pdqsort_Timer_g
  dsimp only
  refine LOOP_m (σ := (Int × Int × Int × Bool × Bool) × List T2) (s := ((0, (l.length : Int), y, true, true), l)) (fun s => s = ((0, (l.length : Int), y, true, true), l)) (fun s => 0) (fun _ => srt l) ?_ rfl (by have := big; omega)
  rintro _ rfl
  dsimp only
  rw [Int.sub_zero, wrap_i64 (by omega), cond_d, if_pos (by omega), insSort_eq l hl]
  exact StepOK_inr rfl
theorem okT_false {h : List T2} (g : ¬ okT h = true) : okT h = false := by cases hk : okT h <;> simp_all
theorem Sorted_eq (h : List T2) : timer_Sorted h = some (if okT h = true then srt h else []) := by
  unfold timer_Sorted timer_Sorted_g SortedFunc_Timer SortedFunc_Timer_g Collect_Timer Collect_Timer_g AppendSeq_Timer appendSeqG Values_Timer Values_Timer_g
  rw [RightT_eq, show (decide (h.length ≤ 12) && allF (rOK h) h.length 0) = okT h from rfl]
  simp only [Option.bind_some]
  cases hk : okT h with
  | false => rfl
  | true =>
    have hl := okT_len hk
    simp only [Bool.not_true, cond_false, cond_d, if_pos (show h.length ≤ 1000000 by omega), Option.bind_some, SortFunc_eq h hl, if_true]
end Go.AX
end

section
/- Timers in turn: the document's Sorted. -/
set_option linter.unusedSimpArgs false
set_option linter.unusedVariables false
namespace Go.AX
open Go

/-- The place of one among those that are sorted. -/
def plc (x : T2) (l : List T2) : Nat → Nat
  | 0 => 0
  | k + 1 => if bef x (ta l k) then plc x l k else k + 1
theorem plc_le {x : T2} {l : List T2} : ∀ {k : Nat}, plc x l k ≤ k
  | 0 => Nat.le_refl _
  | k + 1 => by
    simp only [plc]
    split
    · exact Nat.le_succ_of_le plc_le
    · exact Nat.le_refl _
theorem plc_ge {x : T2} {l : List T2} : ∀ {k : Nat} {q : Nat}, plc x l k ≤ q → q < k → bef x (ta l q)
  | 0, q, _, h => by omega
  | k + 1, q, h1, h2 => by
    simp only [plc] at h1
    split at h1
    · rename_i hb
      by_cases e : q = k
      · subst e; exact hb
      · exact plc_ge h1 (by omega)
    · omega
theorem plc_lt {x : T2} {l : List T2} : ∀ {k : Nat}, 0 < plc x l k → lq (ta l (plc x l k - 1)) x
  | 0, h => by simp [plc] at h
  | k + 1, h => by
    simp only [plc] at h ⊢
    split at h
    · rename_i hb
      rw [if_pos hb]
      exact plc_lt h
    · rename_i hb
      rw [if_neg hb]
      exact hb
def insl (x : T2) (l : List T2) : List T2 := l.take (plc x l l.length) ++ x :: l.drop (plc x l l.length)
theorem insl_perm (x : T2) (l : List T2) : (insl x l).Perm (x :: l) := by
  unfold insl
  refine List.perm_middle.trans ?_
  rw [List.take_append_drop]
theorem insl_sd {x : T2} {l : List T2} (h : Sd l) : Sd (insl x l) := by
  unfold insl
  have hk := @plc_le x l l.length
  have hi := Sd_iff.1 h
  rw [Sd, List.pairwise_append, List.pairwise_cons]
  have hlo : ∀ a ∈ l.take (plc x l l.length), lq a x := by
    intro a ha
    obtain ⟨i, hi1, rfl⟩ := List.getElem_of_mem ha
    simp only [List.length_take] at hi1
    have h0 : 0 < plc x l l.length := by omega
    have := plc_lt h0
    rw [List.getElem_take, ← ta_get (by omega)]
    by_cases e : i = plc x l l.length - 1
    · rw [e]; exact this
    · exact lq_trans (hi i (plc x l l.length - 1) (by omega) (by omega)) this
  have hhi : ∀ b ∈ l.drop (plc x l l.length), lq x b := by
    intro b hb
    obtain ⟨i, hi1, rfl⟩ := List.getElem_of_mem hb
    simp only [List.length_drop] at hi1
    rw [List.getElem_drop, ← ta_get (by omega)]
    exact lq_of_bef (plc_ge (k := l.length) (by omega) (by omega))
  refine ⟨h.sublist (List.take_sublist _ _), ⟨hhi, h.sublist (List.drop_sublist _ _)⟩, fun a ha b hb => ?_⟩
  rcases List.mem_cons.1 hb with rfl | hb
  · exact hlo a ha
  · exact lq_trans (hlo a ha) (hhi b hb)
theorem StepOK_bind {α σ O : Type} {Inv : σ → Prop} {μ : σ → Nat} {res : σ → O} {s : σ} {x : Option α} {k : α → Option (σ ⊕ O)} {r : α} (h : x = some r) (g : StepOK Inv μ res s (k r)) : StepOK Inv μ res s (x.bind k) := by subst h; exact g
theorem rSorted_eq (h : List T2) : torporref12_Sorted h = some (if okT h = true then srt h else []) := by
  unfold torporref12_Sorted torporref12_Sorted_g
  rw [rRightT_eq, show (decide (h.length ≤ 12) && allF (rOK h) h.length 0) = okT h from rfl]
  simp only [Option.bind_some]
  cases hk : okT h with
  | false => rfl
  | true =>
    have hl := okT_len hk
    simp only [Bool.not_true, cond_false, if_true]
    refine LOOP_m (σ := (List T2 × Int) × List T2) (s := ((h, 0), [])) (fun s => s.1.1 = h ∧ 0 ≤ s.1.2 ∧ s.1.2 ≤ h.length ∧ s.2.Perm (h.take s.1.2.toNat) ∧ Sd s.2) (fun s => h.length - s.1.2.toNat) (fun _ => srt h) ?_
      ⟨rfl, Int.le_refl _, by simp, by simp, List.Pairwise.nil⟩ (by have := big; simp; omega)
    rintro ⟨⟨h', i⟩, out⟩ ⟨hh, hi0, hi1, hp, hs⟩
    dsimp only at hh hi0 hi1 hp hs
    subst hh
    have hol : out.length = i.toNat := by rw [hp.length_eq]; simp; omega
    by_cases h1 : i < h'.length
    · simp only [cond_d, if_pos h1]
      refine StepOK_bind (LOOP_m (σ := (List T2 × Int × Int) × List T2) (O := ((List T2 × Int × Int) × List T2) ⊕ (((List T2 × Int) × List T2) ⊕ List T2)) (s := ((h', i, (out.length : Int)), out)) (fun s => s.1.1 = h' ∧ s.1.2.1 = i ∧ s.2 = out ∧ 0 ≤ s.1.2.2 ∧ s.1.2.2 ≤ out.length) (fun s => s.1.2.2.toNat)
        (fun s => .inl ((h', i, (plc (ta h' i.toNat) out s.1.2.2.toNat : Nat)), out)) ?_ ⟨rfl, rfl, rfl, by dsimp only; omega, Int.le_refl _⟩ (by have := big; simp; omega)) ?_
      · rintro ⟨⟨h2, i2, k⟩, o2⟩ ⟨e1, e2, e3, k0, k1⟩
        dsimp only at e1 e2 e3 k0 k1
        subst e1
        subst e2
        subst e3
        dsimp only
        have w2 : IntKind.i64.wrap (k - 1) = k - 1 := wrap_i64 (by omega)
        by_cases hk0 : 0 < k
        · have ek : (k - 1).toNat = k.toNat - 1 := by omega
          obtain ⟨n, hn⟩ : ∃ n, k.toNat = n + 1 := ⟨k.toNat - 1, by omega⟩
          simp only [cond_b, decide_eq_true_eq, Bool.and_eq_true, Bool.not_eq_true', decide_eq_false_iff_not, Bool.or_eq_true, Bool.not_eq_eq_eq_not, Bool.not_true, Bool.not_false, beq_iff_eq, Option.bind_some, Bool.not_not, decide_eq_true_eq, Decidable.not_not, and_true, at_ta, w2, ek, Before_eq', Option.bind_some, if_pos hk0, decide_eq_true_eq]
          rw [if_pos (by omega), if_pos (by omega), if_pos (by omega)]
          by_cases hb : bef (ta h2 i2.toNat) (ta o2 (k.toNat - 1))
          · rw [if_pos hb]
            refine StepOK_inl ⟨by dsimp only; omega, ⟨rfl, rfl, rfl, by dsimp only; omega, by dsimp only; omega⟩, ?_⟩
            dsimp only
            rw [ek, hn]
            rw [hn] at hb
            simp only [plc, Nat.add_sub_cancel] at hb ⊢
            rw [if_pos hb]
          · rw [if_neg hb]
            refine StepOK_inr ?_
            rw [hn] at hb ⊢
            simp only [plc, Nat.add_sub_cancel] at hb ⊢
            rw [if_neg hb, ← hn, Int.toNat_of_nonneg k0]
        · simp only [cond_d, if_neg hk0]
          have : k = 0 := by omega
          subst this
          exact StepOK_inr rfl
      · have hpl := @plc_le (ta h' i.toNat) out out.length
        have w3 : IntKind.i64.wrap (i + 1) = i + 1 := wrap_i64 (by omega)
        dsimp only
        simp only [cond_b, decide_eq_true_eq, Bool.and_eq_true, Bool.not_eq_true', decide_eq_false_iff_not, Bool.or_eq_true, Bool.not_eq_eq_eq_not, Bool.not_true, Bool.not_false, beq_iff_eq, Option.bind_some, Bool.not_not, decide_eq_true_eq, Decidable.not_not, and_true, at_ta, w3, Int.toNat_natCast, List.length_append, List.length_take, List.length_drop, List.length_nil, List.length_cons]
        rw [if_pos (by omega), if_pos (by omega), if_pos (by omega), if_pos (by omega), if_pos (by omega), if_pos (by omega)]
        have el : (([] : List T2) ++ (out.drop 0).take (plc (ta h' i.toNat) out out.length - 0)) ++ [((ta h' i.toNat).1, (ta h' i.toNat).2)] ++ (out.drop (plc (ta h' i.toNat) out out.length)).take (out.length - plc (ta h' i.toNat) out out.length) = insl (ta h' i.toNat) out := by
          unfold insl
          have e2 : (out.drop (plc (ta h' i.toNat) out out.length)).take (out.length - plc (ta h' i.toNat) out out.length) = out.drop (plc (ta h' i.toNat) out out.length) := List.take_of_length_le (by rw [List.length_drop]; exact Nat.le_refl _)
          rw [e2, List.drop_zero, Nat.sub_zero, List.nil_append, List.append_assoc]
          rfl
        rw [el]
        refine StepOK_inl ⟨by dsimp only; omega, ⟨rfl, by dsimp only; omega, by dsimp only; omega, ?_, insl_sd hs⟩, rfl⟩
        dsimp only
        rw [show (i + 1).toNat = i.toNat + 1 by omega, List.take_succ_eq_append_getElem (by omega), ← ta_get (by omega)]
        exact (insl_perm _ _).trans ((hp.cons _).trans (List.perm_append_singleton _ _).symm)
    · simp only [cond_d, if_neg h1]
      have : i.toNat = h'.length := by omega
      rw [this, List.take_length] at hp
      exact StepOK_inr (srt_eq hp hs)
end Go.AX
end

section
/- Who is due, in the program and its document. -/
set_option linter.unusedSimpArgs false
set_option linter.unusedVariables false
namespace Go.AX
open Go

theorem root_le {h : List T2} (g : HP h) : ∀ k, k < h.length → lq (ta h 0) (ta h k) := by
  intro k
  induction k using Nat.strongRecOn with
  | ind k ih =>
    intro hk
    by_cases e : k = 0
    · subst e; exact lq_refl _
    · have hp := par_lt (i := k) (by omega)
      exact lq_trans (ih (par k) hp (by omega)) (g k (by omega) hk)
theorem srt_pop {h : List T2} (g : TOKh h) (hn : 0 < h.length) : srt h = ta h 0 :: srt (wout h 0) := by
  have hp := wout_perm hn
  rw [← srt_congr hp]
  refine srt_cons fun y hy => ?_
  obtain ⟨k, hk, rfl⟩ := List.getElem_of_mem (hp.subset (List.mem_cons_of_mem _ hy))
  rw [← ta_get hk]
  exact root_le g.hp k hk
def dueF : Nat → List T2 → Int → List Int → List T2 × List Int
  | 0, h, _, l => (h, l)
  | n + 1, h, t, l => if 0 < h.length ∧ (ta h 0).1 ≤ t then dueF n (wout h 0) t (l ++ [(ta h 0).2]) else (h, l)
theorem dueF_spec : ∀ {n : Nat} {h : List T2} {t : Int} {l : List Int}, TOKh h → h.length < n → ∃ D, (dueF n h t l).2 = l ++ D.map (·.2) ∧ TOKh (dueF n h t l).1 ∧ srt h = D ++ srt (dueF n h t l).1 ∧ (∀ x ∈ D, x.1 ≤ t) ∧ ∀ x ∈ srt (dueF n h t l).1, t < x.1
  | 0, h, t, l, g, hn => by omega
  | n + 1, h, t, l, g, hn => by
    simp only [dueF]
    split
    · rename_i hc
      have hl := wout_len hc.1
      obtain ⟨D, h1, h2, h3, h4, h5⟩ := @dueF_spec n (wout h 0) t (l ++ [(ta h 0).2]) (g.wout hc.1) (by omega)
      refine ⟨ta h 0 :: D, by rw [h1]; simp, h2, by rw [srt_pop g hc.1, h3]; rfl, fun x hx => ?_, h5⟩
      rcases List.mem_cons.1 hx with rfl | hx
      · exact hc.2
      · exact h4 x hx
    · rename_i hc
      refine ⟨[], by simp, g, rfl, fun x hx => by simp at hx, fun x hx => ?_⟩
      obtain ⟨k, hk, rfl⟩ := List.getElem_of_mem ((srt_perm h).subset hx)
      have := root_le g.hp k hk
      rw [← ta_get hk]
      unfold lq bef at this
      have : ¬ (ta h 0).1 ≤ t := fun h1 => hc ⟨by omega, h1⟩
      omega
theorem timer_Due_eq (h : List T2) (t : Int) : timer_Due (h, t) = some (if okT h = true then ((dueF 13 h t []).1, 0) else (h, 1), if okT h = true then (dueF 13 h t []).2 else []) := by
  unfold timer_Due timer_Due_g
  dsimp only
  rw [RightT_eq, show (decide (h.length ≤ 12) && allF (rOK h) h.length 0) = okT h from rfl]
  simp only [Option.bind_some]
  cases hk : okT h with
  | false => rfl
  | true =>
    have hl := okT_len hk
    simp only [Bool.not_true, cond_false, if_true]
    generalize hD : dueF 13 h t [] = D
    refine LOOP_m (σ := (List T2 × Int) × List Int) (s := ((h, t), [])) (fun s => s.1.2 = t ∧ ∃ n, n ≤ 13 ∧ s.1.1.length < n ∧ s.2.length + s.1.1.length ≤ 12 ∧ dueF n s.1.1 t s.2 = D) (fun s => s.1.1.length) (fun s => ((D.1, 0), D.2)) ?_
      ⟨rfl, 13, Nat.le_refl _, by dsimp only; omega, by simpa using hl, hD⟩ (by have := big; simp; omega)
    rintro ⟨⟨a, t'⟩, l⟩ ⟨ht, n, hn, hlt, hll, he⟩
    dsimp only at ht hlt hll he
    subst ht
    obtain ⟨n, rfl⟩ : ∃ m, n = m + 1 := ⟨n - 1, by omega⟩
    simp only [dueF] at he
    dsimp only
    simp only [cond_b, decide_eq_true_eq, Bool.and_eq_true, Bool.not_eq_true', decide_eq_false_iff_not, Bool.or_eq_true, Bool.not_eq_eq_eq_not, Bool.not_true, Bool.not_false, beq_iff_eq, Option.bind_some, Bool.not_not, decide_eq_true_eq, Decidable.not_not, and_true]
    by_cases ha : 0 < a.length
    · rw [if_pos (by omega), if_pos (by omega)]
      by_cases hd : (ta a 0).1 ≤ t'
      · rw [if_pos ⟨ha, hd⟩] at he
        rw [if_pos (show (Ty.at (Ty.pr (Ty.int IntKind.i64) (Ty.int IntKind.i64)) a (Int.toNat 0)).1 ≤ t' from hd), if_pos (by omega), if_pos (by simp; omega), away_eq (h := a) (i := 0) (by omega) (by omega) (by omega)]
        have hw := wout_len ha
        exact StepOK_inl ⟨by dsimp only [Int.toNat_zero]; omega, ⟨rfl, n, by omega, by dsimp only [Int.toNat_zero]; omega, by simp [hw]; omega, he⟩, rfl⟩
      · rw [if_neg fun g => hd g.2] at he
        rw [if_neg (show ¬ (Ty.at (Ty.pr (Ty.int IntKind.i64) (Ty.int IntKind.i64)) a (Int.toNat 0)).1 ≤ t' from hd)]
        refine StepOK_inr ?_
        rw [← he]
    · rw [if_neg fun g => ha g.1] at he
      rw [if_neg (by omega)]
      refine StepOK_inr ?_
      rw [← he]
theorem rDue_eq (h : List T2) (t : Int) : torporref12_Due (h, t) = some (if okT h = true then ((dueF 13 h t []).1, 0) else (h, 1), if okT h = true then (dueF 13 h t []).2 else []) := by
  unfold torporref12_Due torporref12_Due_g
  dsimp only
  rw [rRightT_eq, show (decide (h.length ≤ 12) && allF (rOK h) h.length 0) = okT h from rfl]
  simp only [Option.bind_some]
  cases hk : okT h with
  | false => rfl
  | true =>
    have hl := okT_len hk
    simp only [Bool.not_true, cond_false, if_true]
    generalize hD : dueF 13 h t [] = D
    refine LOOP_m (σ := (List T2 × Int) × List Int) (s := ((h, t), [])) (fun s => s.1.2 = t ∧ TOKh s.1.1 ∧ ∃ n, n ≤ 13 ∧ s.1.1.length < n ∧ s.2.length + s.1.1.length ≤ 12 ∧ dueF n s.1.1 t s.2 = D) (fun s => s.1.1.length) (fun s => ((D.1, 0), D.2)) ?_
      ⟨rfl, okT_iff.1 hk, 13, Nat.le_refl _, by dsimp only; omega, by simpa using hl, hD⟩ (by have := big; simp; omega)
    rintro ⟨⟨a, t'⟩, l⟩ ⟨ht, hT, n, hn, hlt, hll, he⟩
    dsimp only at ht hT hlt hll he
    subst ht
    obtain ⟨n, rfl⟩ : ∃ m, n = m + 1 := ⟨n - 1, by omega⟩
    simp only [dueF] at he
    dsimp only
    simp only [cond_b, decide_eq_true_eq, Bool.and_eq_true, Bool.not_eq_true', decide_eq_false_iff_not, Bool.or_eq_true, Bool.not_eq_eq_eq_not, Bool.not_true, Bool.not_false, beq_iff_eq, Option.bind_some, Bool.not_not, decide_eq_true_eq, Decidable.not_not, and_true]
    by_cases ha : 0 < a.length
    · rw [if_pos (by omega), if_pos (by omega)]
      by_cases hd : (ta a 0).1 ≤ t'
      · rw [if_pos ⟨ha, hd⟩] at he
        obtain ⟨b, y, e, p1, p2, p3, p4, p5, p6⟩ := AgT_pop a
        have e0 : e = 0 := p4.2 ⟨okT_iff.2 hT, fun h => by rw [h] at ha; simp at ha⟩
        obtain ⟨rfl, rfl⟩ := p5 e0
        rw [if_pos (show (Ty.at (Ty.pr (Ty.int IntKind.i64) (Ty.int IntKind.i64)) a (Int.toNat 0)).1 ≤ t' from hd), p2]
        have hw := wout_len ha
        simp only [Option.bind_some]
        rw [if_pos (by simp; omega)]
        exact StepOK_inl ⟨by dsimp only; omega, ⟨rfl, hT.wout ha, n, by omega, by dsimp only; omega, by simp [hw]; omega, he⟩, rfl⟩
      · rw [if_neg fun g => hd g.2] at he
        rw [if_neg (show ¬ (Ty.at (Ty.pr (Ty.int IntKind.i64) (Ty.int IntKind.i64)) a (Int.toNat 0)).1 ≤ t' from hd)]
        refine StepOK_inr ?_
        rw [← he]
    · rw [if_neg fun g => ha g.1] at he
      rw [if_neg (by omega)]
      refine StepOK_inr ?_
      rw [← he]
end Go.AX
end

section
/- The timers' laws. -/
set_option linter.unusedSimpArgs false
set_option linter.unusedVariables false
namespace Go.AX
open Go

theorem bind_ex {α β : Type} {x : Option α} {k : α → Option β} {y : Option β} (Q : α → Prop) (h : ∃ o, x = some o ∧ Q o) (hk : ∀ o, Q o → k o = y) : x.bind k = y := by
  obtain ⟨o, rfl, hq⟩ := h; exact hk o hq
theorem T_alive : torporlaw12_alive () = some true := by decide +kernel
theorem Answers_eq (h : List T2) (x y k : Int) : torporlaw12_TimerAnswers (h, (x, y), k) = some true := by
  unfold torporlaw12_TimerAnswers torporlaw12_TimerAnswers_g
  dsimp only
  rw [T_alive]
  simp only [cond_b, decide_eq_true_eq, Bool.and_eq_true, Bool.not_eq_true', decide_eq_false_iff_not, Bool.or_eq_true, Bool.not_eq_eq_eq_not, Bool.not_true, Bool.not_false, beq_iff_eq, Option.bind_some, Bool.not_not, decide_eq_true_eq, Decidable.not_not, and_true, Bool.true_eq_false, if_false]
  by_cases h30 : (30 : Int) < h.length
  · rw [if_pos h30]
  · rw [if_neg h30, TCopy_eq h (by omega)]
    obtain ⟨c, t, e, p1, p2, p3, _⟩ := AgT_pop h
    obtain ⟨d, f, q1, q2, q3⟩ := AgT_drop h k
    obtain ⟨a, g, r1, r2, r3⟩ : ∃ a g, timer_Push (h, x, y) = some (a, g) ∧ torporref12_Push (h, x, y) = some (a, g) ∧ a.length ≤ 1000000 := by
      rcases AgT_push h x y with ⟨e, _, h1, h2⟩ | ⟨_, _, _, hl, _, h1, h2⟩
      · exact ⟨h, e, h1, h2, by omega⟩
      · exact ⟨_, 0, h1, h2, by rw [(pushH_perm h _).length_eq]; simp; omega⟩
    simp only [Option.bind_some, r1, r2, p1, p2, q1, q2, RightT_eq, rRightT_eq, TSame_eq a a r3, TSame_eq c c (by omega), TSame_eq d d (by omega), TSame_eq h h (by omega)]
    simp
theorem bef_of {a b : T2} (h : lq a b) (hne : a ≠ b) : bef a b := by
  rcases lq_or b a with g | g
  · exact absurd (lq_anti h g) hne
  · exact g
theorem root_bef {h : List T2} (g : TOKh h) (hn : 0 < h.length) {i : Nat} (hi : i < (wout h 0).length) : bef (ta h 0) (ta (wout h 0) i) := by
  have hp := wout_perm hn
  have hnd := ((hp.map (·.2)).nodup_iff).2 g.nd
  have hm := ta_mem hi
  refine bef_of ?_ fun e => ?_
  · obtain ⟨k, hk, e⟩ := List.getElem_of_mem (hp.subset (List.mem_cons_of_mem _ hm))
    rw [← e, ← ta_get hk]
    exact root_le g.hp k hk
  · exact (List.nodup_cons.1 hnd).1 (List.mem_map.2 ⟨_, hm, by rw [e]⟩)
theorem Least_eq (h : List T2) : torporlaw12_TimerLeast h = some true := by
  unfold torporlaw12_TimerLeast torporlaw12_TimerLeast_g
  dsimp only
  rw [T_alive]
  simp only [cond_b, decide_eq_true_eq, Bool.and_eq_true, Bool.not_eq_true', decide_eq_false_iff_not, Bool.or_eq_true, Bool.not_eq_eq_eq_not, Bool.not_true, Bool.not_false, beq_iff_eq, Option.bind_some, Bool.not_not, decide_eq_true_eq, Decidable.not_not, and_true, Bool.true_eq_false, if_false]
  by_cases h30 : (30 : Int) < h.length
  · rw [if_pos h30]
  · rw [if_neg h30]
    obtain ⟨a, t, e, p1, _, p3, p4, p5, p6⟩ := AgT_pop h
    rw [p1]
    simp only [Option.bind_some]
    by_cases he : e = 0
    · obtain ⟨hk, hne⟩ := p4.1 he
      obtain ⟨rfl, rfl⟩ := p5 he
      have hT := okT_iff.1 hk
      have hn : 0 < h.length := List.length_pos_iff.2 hne
      have hw := wout_len hn
      have hTw := hT.wout hn
      have hl := hT.le
      have hs := srt_pop hT hn
      have hsl := srt_len h
      rw [if_neg (by simp [he])]
      refine bind_ex (fun o => o = .inl ((h, wout h 0), ta h 0)) (LOOP_ex (σ := (List T2 × List T2 × Int) × Int × Int) (fun s => s.1.1 = h ∧ s.1.2.1 = wout h 0 ∧ s.2 = ta h 0 ∧ 0 ≤ s.1.2.2 ∧ s.1.2.2 ≤ (wout h 0).length) (fun s => (wout h 0).length - s.1.2.2.toNat) _ ?_ ⟨rfl, rfl, rfl, Int.le_refl _, by dsimp only; omega⟩ (by have := big; simp; omega)) ?_
      · rintro ⟨⟨h', w, i⟩, t⟩ ⟨e1, e2, e3, i0, i1⟩
        dsimp only at e1 e2 e3 i0 i1
        subst e1 e2 e3
        simp only [at_ta, Before_eq', Option.bind_some]
        by_cases hi : i < (wout h' 0).length
        · right
          have hlq : bef (ta h' 0) (ta (wout h' 0) i.toNat) := root_bef hT hn (by omega)
          rw [if_pos hi, if_pos (by omega)]
          simp only [hlq, decide_true, not_true_eq_false, if_false]
          have w3 : IntKind.i64.wrap (i + 1) = i + 1 := wrap_i64 (by omega)
          rw [w3]
          exact ⟨_, rfl, by dsimp only; omega, rfl, rfl, rfl, by dsimp only; omega, by dsimp only; omega⟩
        · left
          rw [if_neg hi]
          exact ⟨_, rfl, rfl⟩
      · rintro _ rfl
        dsimp only
        rw [Sorted_eq, Sorted_eq, RightT_eq, if_pos hk, if_pos (okT_iff.2 hTw)]
        rw [show (decide ((wout h 0).length ≤ 12) && allF (rOK (wout h 0)) (wout h 0).length 0) = okT (wout h 0) from rfl, okT_iff.2 hTw]
        have w4 : IntKind.i64.wrap ((h.length : Int) - 1) = (h.length : Int) - 1 := wrap_i64 (by omega)
        have e1 : (ta h 0 :: srt (wout h 0)).length = h.length := by rw [← hs]; exact hsl
        have e5 : ((ta h 0 :: srt (wout h 0)).drop (Int.toNat 1)).take (h.length - Int.toNat 1) = srt (wout h 0) := by
          show ((ta h 0 :: srt (wout h 0)).drop 1).take (h.length - 1) = _
          rw [List.drop_one, List.tail_cons, List.take_of_length_le (by rw [srt_len, hw]; exact Nat.le_refl _)]
        have e6 : ta (ta h 0 :: srt (wout h 0)) (Int.toNat 0) = ta h 0 := rfl
        have e7 : (0 : Int).toNat < h.length := by simpa using hn
        have e8 : (1 : Int).toNat = 1 := rfl
        simp only [Option.bind_some, w4, hw, at_ta, hs, if_true, e1, e5, e6, TSame_eq _ _ (show (srt (wout h 0)).length ≤ 1000000 by rw [srt_len]; omega)]
        rw [if_pos (by omega), if_pos (by omega), if_pos e7, if_pos ⟨trivial, trivial⟩, if_pos (by omega), if_pos (by omega)]
        simp
    · rw [p6 he]
      have : ¬ (okT h = true ∧ h ≠ []) := fun g => he (p4.2 g)
      rw [if_pos (by simpa using he), TSame_eq h h (by omega), rRightT_eq, show (decide (h.length ≤ 12) && allF (rOK h) h.length 0) = okT h from rfl]
      simp only [Option.bind_some, decide_true, if_true]
      by_cases hz : h = []
      · subst hz; rfl
      · have : okT h = false := okT_false fun g => this ⟨g, hz⟩
        rw [this]
        by_cases hl0 : (h.length : Int) = 0
        · rw [if_neg (by simp [hl0])]
        · rw [if_pos (by simpa using hl0)]; rfl
end Go.AX
end

section
/- The timers' laws: who is due; pushed and dropped. -/
set_option linter.unusedSimpArgs false
set_option linter.unusedVariables false
namespace Go.AX
open Go

theorem TInts_eq (a b : List Int) (hl : a.length ≤ 1000000) : torporref01_Ints (a, b) = some (decide (a = b)) := by
  unfold torporref01_Ints torporref01_Ints_g
  simp only [cond_b, decide_eq_true_eq, Bool.and_eq_true, Bool.not_eq_true', decide_eq_false_iff_not, Bool.or_eq_true, Bool.not_eq_eq_eq_not, Bool.not_true, Bool.not_false, beq_iff_eq, Option.bind_some, Bool.not_not, decide_eq_true_eq, Decidable.not_not, and_true]
  by_cases hlen : a.length = b.length
  · rw [if_neg (by simp [hlen])]
    refine (LOOP_m (fun s => s.1 = a ∧ s.2.1 = b ∧ 0 ≤ s.2.2 ∧ s.2.2 ≤ (a.length : Int)) (fun s => a.length - s.2.2.toNat) (fun s => decide (a.drop s.2.2.toNat = b.drop s.2.2.toNat)) ?_ ⟨rfl, rfl, by simp, by simp⟩ (by have := big; simp; omega)).trans (by simp)
    rintro ⟨a', b', i⟩ ⟨rfl, rfl, h0, h1⟩
    dsimp only at *
    (repeat' (first | (refine StepOK_ite (fun h => ?_) (fun h => ?_)) | (refine StepOK_inr ?_) | (refine StepOK_inl ⟨?_, ?_, ?_⟩)))
    all_goals try dsimp only
    · rw [drop_at (T := (Ty.int IntKind.i64)) (l := a') (by omega), drop_at (T := (Ty.int IntKind.i64)) (l := b') (by omega)]; simp only [List.cons.injEq]; rw [eq_comm, decide_eq_false_iff_not]; exact fun e => h e.1
    · rw [wrap_i64 (by omega)]; omega
    · rw [wrap_i64 (by omega)]; exact ⟨rfl, rfl, by omega, by omega⟩
    · rw [wrap_i64 (by omega), toN1 h0, drop_at (T := (Ty.int IntKind.i64)) (l := a') (i := i.toNat) (by omega), drop_at (T := (Ty.int IntKind.i64)) (l := b') (i := i.toNat) (by omega)]
      have h' : Ty.at (Ty.int IntKind.i64) a' i.toNat = Ty.at (Ty.int IntKind.i64) b' i.toNat := Decidable.not_not.1 h
      simp [h']
    · omega
    · omega
    · rw [List.drop_of_length_le (by omega), List.drop_of_length_le (by omega)]; simp
  · rw [if_pos (by omega)]
    have : a ≠ b := fun e => hlen (by rw [e])
    simp [this]
theorem Back_eq (h : List T2) (x y : Int) : torporlaw12_TimerBack (h, x, y) = some true := by
  unfold torporlaw12_TimerBack torporlaw12_TimerBack_g
  dsimp only
  rw [T_alive]
  simp only [cond_b, decide_eq_true_eq, Bool.and_eq_true, Bool.not_eq_true', decide_eq_false_iff_not, Bool.or_eq_true, Bool.not_eq_eq_eq_not, Bool.not_true, Bool.not_false, beq_iff_eq, Option.bind_some, Bool.not_not, decide_eq_true_eq, Decidable.not_not, and_true, Bool.true_eq_false, if_false]
  by_cases h30 : (30 : Int) < h.length
  · rw [if_pos h30]
  · rw [if_neg h30]
    rcases AgT_push h x y with ⟨e, he, h1, _⟩ | ⟨hk, hx, hy, hl, hn, h1, _⟩
    · rw [h1]
      simp only [Option.bind_some]
      rw [if_pos (by simpa using he), TSame_eq h h (by omega)]
      simp
    · have hT := okT_iff.1 hk
      have hp := pushH_perm h (x, y)
      have hT2 := hT.push hl hx hy hn
      have hlen : (pushH h (x, y)).length = h.length + 1 := by rw [hp.length_eq]; rfl
      -- the place of the new one
      obtain ⟨k, k1, k2, k3⟩ : ∃ k, k < (pushH h (x, y)).length ∧ (ta (pushH h (x, y)) k).2 = y ∧ ∀ j, j < k → (ta (pushH h (x, y)) j).2 ≠ y := by
        rcases Place_cases (pushH h (x, y)) y with hno | hk
        · exfalso
          obtain ⟨i, hi, e⟩ := List.getElem_of_mem (hp.symm.subset (List.mem_cons_self ..))
          exact hno i hi (by rw [ta_get hi, e])
        · exact hk
      have hxk : ta (pushH h (x, y)) k = (x, y) := by
        have hm := hp.subset (ta_mem k1)
        rcases List.mem_cons.1 hm with e | hm
        · exact e
        · obtain ⟨i, hi, e⟩ := List.getElem_of_mem hm
          exact absurd (by rw [ta_get hi, e]; exact k2) (hn i hi)
      have hTw := hT2.wout k1
      have hpw : (wout (pushH h (x, y)) k).Perm h := by
        have := (wout_perm k1).trans hp
        rw [hxk] at this
        exact this.cons_inv
      have hd : timer_Drop (pushH h (x, y), y) = some (wout (pushH h (x, y)) k, 0) := by
        unfold timer_Drop timer_Drop_g
        dsimp only
        obtain ⟨p1, p2⟩ := Place_at (by omega) k1 k2 k3
        rw [RightT_eq, show (decide ((pushH h (x, y)).length ≤ 12) && allF (rOK (pushH h (x, y))) (pushH h (x, y)).length 0) = okT (pushH h (x, y)) from rfl, okT_iff.2 hT2, p2]
        have e1 := away_eq (h := pushH h (x, y)) (i := (k : Int)) (by omega) (by omega) (by omega)
        simp only [Option.bind_some, e1, cond_b, decide_eq_true_eq, Bool.and_eq_true, Bool.not_eq_true', decide_eq_false_iff_not, Bool.or_eq_true, Bool.not_eq_eq_eq_not, Bool.not_true, Bool.not_false, beq_iff_eq, Option.bind_some, Bool.not_not, decide_eq_true_eq, Decidable.not_not, and_true]
        simp
      rw [h1]
      simp only [Option.bind_some, hd, RightT_eq, Sorted_eq]
      rw [show (decide ((pushH h (x, y)).length ≤ 12) && allF (rOK (pushH h (x, y))) (pushH h (x, y)).length 0) = okT (pushH h (x, y)) from rfl, okT_iff.2 hT2,
        show (decide ((wout (pushH h (x, y)) k).length ≤ 12) && allF (rOK (wout (pushH h (x, y)) k)) (wout (pushH h (x, y)) k).length 0) = okT (wout (pushH h (x, y)) k) from rfl, okT_iff.2 hTw, hk]
      have w : IntKind.i64.wrap ((h.length : Int) + 1) = h.length + 1 := wrap_i64 (by omega)
      have hpl : ∃ r, torporref12_Place (srt (pushH h (x, y)), y) = some r ∧ 0 ≤ r := by
        rcases Place_cases (srt (pushH h (x, y))) y with hno | ⟨q, q1, q2, q3⟩
        · exfalso
          obtain ⟨i, hi, e⟩ := List.getElem_of_mem ((srt_perm (pushH h (x, y))).symm.subset (ta_mem k1))
          exact hno i hi (by rw [ta_get hi, e]; exact k2)
        · exact ⟨_, (Place_at (by rw [srt_len]; omega) q1 q2 q3).1, by omega⟩
      obtain ⟨r, hr, hr0⟩ := hpl
      simp only [if_true, srt_congr hpw, TSame_eq _ _ (show (srt h).length ≤ 1000000 by rw [srt_len]; omega), Option.bind_some, hlen, w, hr]
      simp
      omega
theorem Dues_eq (h : List T2) (t : Int) : torporlaw12_TimerDues (h, t) = some true := by
  unfold torporlaw12_TimerDues torporlaw12_TimerDues_g
  dsimp only
  rw [T_alive]
  simp only [Option.bind_some, Bool.not_true, cond_false, cond_d]
  by_cases h30 : (30 : Int) < h.length
  · rw [if_pos h30]
  · rw [if_neg h30, TCopy_eq h (by omega)]
    -- what both come to
    obtain ⟨a, e, l, D, q1, q2, q3, q4, q5, q6, q7, q8, q9⟩ : ∃ a e l D, timer_Due (h, t) = some ((a, e), l) ∧ torporref12_Due (h, t) = some ((a, e), l) ∧ a.length ≤ 30 ∧ (if okT h = true then srt h else []) = D ++ (if okT a = true then srt a else []) ∧ l = D.map (·.2) ∧ (∀ x ∈ D, x.1 ≤ t) ∧ (∀ x ∈ (if okT a = true then srt a else []), t < x.1) ∧ D.length ≤ 30 ∧ (if okT h = true then srt h else []).length ≤ 30 := by
      rw [timer_Due_eq, rDue_eq]
      cases hk : okT h with
      | false => exact ⟨h, 1, [], [], rfl, rfl, by omega, by simp [hk], rfl, by simp, by simp [hk], by simp, by simp⟩
      | true =>
        have hT := okT_iff.1 hk
        have hl := hT.le
        obtain ⟨D, h1, h2, h3, h4, h5⟩ := @dueF_spec 13 h t [] hT (by omega)
        have h6 := okT_iff.2 h2
        have hlen : (srt h).length = D.length + (srt (dueF 13 h t []).1).length := by rw [h3, List.length_append]
        rw [srt_len] at hlen
        refine ⟨(dueF 13 h t []).1, 0, (dueF 13 h t []).2, D, rfl, rfl, by have := h2.le; omega, ?_, by rw [h1]; simp, h4, ?_, by omega, ?_⟩
        · rw [if_pos rfl, if_pos h6, h3]
        · rw [if_pos h6]; exact h5
        · rw [if_pos rfl, srt_len]; omega
    generalize hsa : (if okT a = true then srt a else []) = sa at *
    generalize hsh : (if okT h = true then srt h else []) = sh at *
    have hll : l.length = D.length := by rw [q5]; simp
    have hshl : sh.length = D.length + sa.length := by rw [q4, List.length_append]
    have sS : timer_Sorted h = some sh := by rw [Sorted_eq, hsh]
    have rS : torporref12_Sorted h = some sh := by rw [rSorted_eq, hsh]
    have aS : timer_Sorted a = some sa := by rw [Sorted_eq, hsa]
    simp only [Option.bind_some, q1, q2, TSame_eq a a (by omega), TInts_eq l l (by omega), TSame_eq sh sh (by omega), TSame_eq h h (by omega), sS, rS, aS, decide_true, Bool.not_true, Bool.not_false, cond_true, cond_false]
    refine bind_ex (fun o => o = .inl (a, l, sh)) (LOOP_ex (σ := (Int × List T2 × Int) × List Int × List T2) (fun s => s.1.1 = t ∧ s.1.2.1 = a ∧ 0 ≤ s.1.2.2 ∧ s.1.2.2 ≤ sh.length ∧ s.2.1 = l ∧ s.2.2 = sh) (fun s => sh.length - s.1.2.2.toNat) _ ?_ ⟨rfl, rfl, Int.le_refl _, by dsimp only; omega, rfl, rfl⟩ (by have := big; simp; omega)) ?_
    · rintro ⟨⟨t', a', i⟩, l', s'⟩ ⟨e1, e2, i0, i1, e3, e4⟩
      dsimp only at e1 e2 i0 i1 e3 e4
      subst e1 e2 e3 e4
      dsimp only
      have w : IntKind.i64.wrap (i + 1) = i + 1 := wrap_i64 (by omega)
      have ats : ∀ (h : i.toNat < s'.length), Ty.at (Ty.pr (Ty.int IntKind.i64) (Ty.int IntKind.i64)) s' i.toNat = s'[i.toNat] := fun h => at_get h
      by_cases hi : i < s'.length
      · right
        have hi2 : i.toNat < s'.length := by omega
        have key : decide (i < (l'.length : Int)) = decide ((Ty.at (Ty.pr (Ty.int IntKind.i64) (Ty.int IntKind.i64)) s' i.toNat).1 ≤ t') ∧ (i < (l'.length : Int) → Ty.at (Ty.int IntKind.i64) l' i.toNat = (Ty.at (Ty.pr (Ty.int IntKind.i64) (Ty.int IntKind.i64)) s' i.toNat).2) := by
          rw [ats hi2]
          by_cases hD : i.toNat < D.length
          · have e : s'[i.toNat] = D[i.toNat] := by simp only [q4]; exact List.getElem_append_left hD
            have h1 := q6 _ (List.getElem_mem hD)
            refine ⟨?_, fun hl => ?_⟩
            · rw [e]; simp [h1]; omega
            · rw [at_get (T := (Ty.int IntKind.i64)) (l := l') (n := i.toNat) (by omega), e]
              simp [q5]
          · have hsl : i.toNat - D.length < sa.length := by omega
            have e : s'[i.toNat] = sa[i.toNat - D.length] := by simp only [q4]; exact List.getElem_append_right (by omega)
            have h1 := q7 _ (List.getElem_mem hsl)
            refine ⟨?_, fun hl => by omega⟩
            rw [e]
            have : ¬ sa[i.toNat - D.length].1 ≤ t' := by omega
            simp [this]; omega
        obtain ⟨k1, k2⟩ := key
        simp only [cond_d, if_pos hi, k1, w]
        have hb : (0 ≤ i ∧ i < (s'.length : Int)) := ⟨i0, hi⟩
        simp only [decide_eq_true hb.1, decide_eq_true hb.2, decide_eq_true hi2, Bool.and_self, cond_true, beq_self_eq_true, Bool.not_true, Bool.not_false]
        by_cases hl : i < (l'.length : Int)
        · have hl2 : i.toNat < l'.length := by omega
          rw [← k1]
          simp only [decide_eq_true hl, decide_eq_true hl2, decide_eq_true i0, Bool.and_self, cond_true, k2 hl, decide_true, Bool.not_true, cond_false]
          exact ⟨((t', a', i + 1), l', s'), by rw [if_pos hi2, if_pos hl, if_pos hl2, if_pos hi2], by dsimp only; omega, rfl, rfl, by dsimp only; omega, by dsimp only; omega, rfl, rfl⟩
        · rw [← k1]
          simp only [decide_eq_false hl, cond_false]
          exact ⟨((t', a', i + 1), l', s'), by rw [if_pos hi2, if_neg hl], by dsimp only; omega, rfl, rfl, by dsimp only; omega, by dsimp only; omega, rfl, rfl⟩
      · left
        simp only [cond_d, if_neg hi]
        exact ⟨_, rfl, rfl⟩
    · rintro _ rfl
      dsimp only
      have e9 : (sh.drop (Int.toNat (l.length : Int))).take (sh.length - Int.toNat (l.length : Int)) = sa := by
        rw [Int.toNat_natCast, hll, q4, List.drop_left, List.take_of_length_le (by simp)]
      simp only [aS, Option.bind_some, e9, TSame_eq sa sa (by omega), decide_true]
      rw [decide_eq_true (show (0 : Int) ≤ (l.length : Int) by omega), decide_eq_true (show (l.length : Int) ≤ (sh.length : Int) by omega), decide_eq_true (show Int.toNat (l.length : Int) + (sh.length - Int.toNat (l.length : Int)) ≤ sh.length by omega)]
      rfl
end Go.AX
end

section
/- The timers' laws, as their rows want them. -/
set_option linter.unusedSimpArgs false
set_option linter.unusedVariables false
namespace Go.AX
open Go

abbrev AllOf (ts : List (Nat × SK)) (g : Val (StK.den ⟨ts, []⟩) → Option Bool) : Prop := ∀ x : Val (SK.denL (tsL ts)), SK.okL (tsL ts) x → g (mk2 x ()) = some true
theorem TimerAnswers_true : AllOf sg_torporlaw12_TimerAnswers.a.ts torporlaw12_TimerAnswers := by
  rintro ⟨h, ⟨x, y⟩, k⟩ _
  exact Answers_eq h x y k
theorem TimerDues_true : AllOf sg_torporlaw12_TimerDues.a.ts torporlaw12_TimerDues := by
  rintro ⟨h, t⟩ _
  exact Dues_eq h t
theorem TimerLeast_true : AllOf sg_torporlaw12_TimerLeast.a.ts torporlaw12_TimerLeast := by
  intro h _
  exact Least_eq h
theorem TimerBack_true : AllOf sg_torporlaw12_TimerBack.a.ts torporlaw12_TimerBack := by
  rintro ⟨h, x, y⟩ _
  exact Back_eq h x y
end Go.AX
end
