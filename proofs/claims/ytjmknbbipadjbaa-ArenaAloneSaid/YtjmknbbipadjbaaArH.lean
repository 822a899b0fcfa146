/- Arena: whatever is taken and given back: plain terms. -/
import Derived.Test.YtjmknbbipadjbaaArG
set_option linter.unusedSimpArgs false
set_option linter.unusedVariables false
set_option maxRecDepth 4000
namespace Go.AX
open Go

structure AlInv (size : Nat) (rs : List Rec) (free : Int) (T l : List Int) : Prop where
  ok : AOk rs free l
  len : rs.length = size
  mem : ∀ k ∈ T, 0 ≤ k ∧ k < size ∧ k ∉ l
  cnt : l.length + T.length = size
  nd : T.Nodup
  nx : ∀ k, k < size → (k : Int) ∈ l ∨ (ga rs k).next = -1
theorem AlInv.le {size : Nat} {rs : List Rec} {free : Int} {T l : List Int} (h : AlInv size rs free T l) : size ≤ 64 ∧ T.length ≤ 64 ∧ rs.length ≤ 64 := by
  have := h.ok.len
  have := h.len
  have := h.cnt
  omega
theorem AlInv.take {size : Nat} {rs : List Rec} {free i : Int} {T l : List Int} (h : AlInv size rs free T l) (hi : 0 ≤ i) :
    (T.length = size ∧ arTake rs free i i = (rs, free, 0, 6)) ∨
    (T.length < size ∧ free ∉ T ∧ ∃ rs' nx l', arTake rs free i i = (rs', nx, free, 0) ∧ AlInv size rs' nx (T ++ [free]) l') := by
  have hch := h.ok.ch
  have hc : ¬ (i < 0 ∨ i < 0 ∨ ¬ arRight rs free = true) := by simp [h.ok.right]; omega
  cases hch with
  | nil =>
    left
    refine ⟨by have := h.cnt; simpa using this, ?_⟩
    unfold arTake
    rw [if_neg hc, if_pos rfl]
  | @cons _ l' c1 c2 c3 c4 =>
    right
    have hcnt := h.cnt
    simp only [List.length_cons] at hcnt
    have hnt : free ∉ T := fun hm => (h.mem free hm).2.2 (by simp)
    refine ⟨by omega, hnt, rs.set free.toNat ⟨i, i, -1⟩, (ga rs free.toNat).next, l', ?_, ?_⟩
    · unfold arTake
      rw [if_neg hc, if_neg (by omega)]
    · have hni : free ∉ l' := (List.nodup_cons.1 h.ok.ch.nodup).1
      refine ⟨h.ok.take hi hi, by simpa using h.len, fun k hk => ?_, by simp; omega, ?_, fun k hk => ?_⟩
      · rcases List.mem_append.1 hk with hk | hk
        · obtain ⟨a, b, c⟩ := h.mem k hk
          exact ⟨a, b, fun hm => c (by simp [hm])⟩
        · simp only [List.mem_cons, List.not_mem_nil, or_false] at hk
          subst hk
          exact ⟨c1, by have := h.len; omega, hni⟩
      · exact List.nodup_append.2 ⟨h.nd, by simp, fun a ha b hb => by simp only [List.mem_cons, List.not_mem_nil, or_false] at hb; rw [hb]; exact fun e => hnt (e ▸ ha)⟩
      · rw [ga_set (by rw [h.len]; exact hk)]
        split
        · exact .inr rfl
        · rename_i hne
          rcases h.nx k hk with h5 | h5
          · left
            rcases List.mem_cons.1 h5 with h6 | h6
            · omega
            · exact h6
          · exact .inr h5
theorem split_at {T : List Int} {j : Nat} (h : j < T.length) : T = T.take j ++ ga T j :: T.drop (j + 1) := by
  have : ga T j = T[j] := ga_eq (List.getElem?_eq_getElem h)
  rw [this, ← List.drop_eq_getElem_cons h, List.take_append_drop]
theorem AlInv.give {size : Nat} {rs : List Rec} {free : Int} {T l : List Int} {j : Nat} (h : AlInv size rs free T l) (hj : j < T.length) :
    ∃ rs', arGive rs free (ga T j) = (rs', ga T j, 0) ∧ AlInv size rs' (ga T j) (T.take j ++ T.drop (j + 1)) (ga T j :: l) := by
  have hs := split_at hj
  generalize hA : T.take j = A at *
  generalize hB : T.drop (j + 1) = B at *
  generalize hk : ga T j = k at *
  obtain ⟨k1, k2, k3⟩ := h.mem k (by rw [hs]; simp)
  have hlen := h.len
  have ht : arTaken rs k := (h.ok.taken k1 (by omega)).2 k3
  have hnl : ¬ rs.any (leads k) = true := by
    intro ha
    obtain ⟨r, hr1, hr2⟩ := List.any_eq_true.1 ha
    obtain ⟨m, hm1⟩ := List.mem_iff_getElem?.1 hr1
    have hm2 : m < rs.length := (List.getElem?_eq_some_iff.1 hm1).1
    have hm3 := ga_eq hm1
    simp only [leads, decide_eq_true_eq] at hr2
    rcases h.nx m (by omega) with h5 | h5
    · have := (h.ok.ch.rng _ h5).2.2
      rw [Int.toNat_natCast, hm3] at this
      exact hr2.1 this
    · rw [hm3] at h5
      omega
  have hnd := h.nd
  rw [hs] at hnd
  have hnd' := List.nodup_append.1 hnd
  have hcnt := h.cnt
  refine ⟨rs.set k.toNat ⟨-1, -1, free⟩, ?_, h.ok.give ht hnl, by simpa using hlen, fun x hx => ?_, ?_, ?_, fun m hm => ?_⟩
  · unfold arGive
    rw [if_neg (by simp [h.ok.right]), if_neg (by simp [ht]), if_neg hnl]
  · have hxT : x ∈ T := by
      rw [hs]
      rcases List.mem_append.1 hx with hx | hx
      · simp [hx]
      · simp [hx]
    obtain ⟨a, b, c⟩ := h.mem x hxT
    refine ⟨a, b, fun hm => ?_⟩
    rcases List.mem_cons.1 hm with e | e
    · subst e
      rcases List.mem_append.1 hx with hx | hx
      · exact hnd'.2.2 x hx x (by simp) rfl
      · exact (List.nodup_cons.1 hnd'.2.1).1 hx
    · exact c e
  · have : T.length = A.length + (B.length + 1) := by rw [hs]; simp
    simp; omega
  · exact List.nodup_append.2 ⟨hnd'.1, (List.nodup_cons.1 hnd'.2.1).2, fun a ha b hb => hnd'.2.2 a ha b (by simp [hb])⟩
  · rw [ga_set (by omega)]
    split
    · rename_i e
      left
      have : (m : Int) = k := by omega
      rw [this]; simp
    · exact (h.nx m hm).imp (fun h => by simp [h]) id
theorem AlInv.make {n : Nat} (h : n < 65) : ∃ rs free l, arMake n = (rs, free, 0) ∧ AlInv n rs free [] l := by
  have h2 := makes_all n h
  have h0 : (arMake n).2.2 = 0 ∧ (arMake n).1.length = n := by
    unfold arMake
    rw [if_neg (by omega)]
    split
    · rename_i e
      simp; omega
    · simp [row_len]
  generalize arMake n = z at *
  obtain ⟨rs, free, e⟩ := z
  simp only at h0 h2
  obtain ⟨rfl, hl⟩ := h0
  obtain ⟨l, hl1⟩ := right_ok.1 h2.1
  rw [hl1.free] at h2
  have hall : ∀ k, k < n → (k : Int) ∈ l := by
    intro k hk
    refine Classical.byContradiction fun hn => ?_
    have : (((k : Int)) :: l).Nodup := List.nodup_cons.2 ⟨hn, hl1.ch.nodup⟩
    have := nodup_le (m := n) this fun x hx => by
      rcases List.mem_cons.1 hx with e | e
      · subst e; omega
      · have := hl1.ch.rng x e; omega
    simp at this; omega
  exact ⟨rs, free, l, rfl, hl1, hl, by simp, by simp [h2.2], by simp, fun k hk => .inl (hall k hk)⟩
end Go.AX
