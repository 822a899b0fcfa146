/- The law SemaRows, in plain terms: part two. -/
import Derived.Test.YtbflhammcjihgaaGpSemaRows
import Derived.Test.YtbflhammcjihgaaGeB
set_option linter.unusedSimpArgs false
set_option linter.unusedVariables false
set_option maxRecDepth 100000
section
namespace Go.AX.Tr
open Go Go.AX
theorem big : 1000000000000 < FUEL := by decide
theorem empty_eq (x : Int) : treap_empty x = some (-1, 0, x, -1, -1, -1) := rfl
theorem rempty_eq (x : Int) : rf9_empty x = some (-1, 0, x, -1, -1, -1) := rfl
theorem above_eq (a b : Nd) : treap_above (a, b) = some (decide (abv a b)) := by
 obtain ⟨a1, a2, a3, a4, a5, a6⟩ := a
 obtain ⟨b1, b2, b3, b4, b5, b6⟩ := b
 unfold treap_above treap_above_g abv
 simp only [cq1]
 simp only [pri, ky]
 by_cases h1 : a2 < b2
 ·first | rw [if_neg (fun h => h h1)] | rw [if_pos h1]
  simp [h1]
 ·first | rw [if_pos h1] | rw [if_neg h1]
  by_cases h2 : a2 = b2
  ·rw [if_pos h2]; simp [h2]
  ·rw [if_neg h2]; simp [h1, h2]
theorem boo_at {m : List Bool} {i : Nat} (h : i < m.length) : Ty.at .boo m i = m.getD i true := by
 show m.getD i false = m.getD i true
 rw [List.getD_eq_getElem?_getD, List.getD_eq_getElem?_getD, List.getElem?_eq_getElem h]; rfl
theorem there_eq {N : List Nd} {r f a : Int} {m : List Bool} : there (a, (N, r, f), m) = some (if 0 ≤ a ∧ a < (m.length : Int) ∧ m.getD a.toNat true = false then (true, (N, r, f), m.set a.toNat true) else (false, (N, r, f), m)) := by
 unfold there there_g
 simp only [cq1]
 by_cases h1 : a < 0
 ·rw [if_neg (fun h => h h1), if_neg (by omega)]
 ·rw [if_pos h1]
  by_cases h2 : (m.length : Int) ≤ a
  ·rw [if_neg (fun h => h h2), if_neg (by omega)]
  ·rw [if_pos h2, if_pos ⟨by omega, by omega⟩, if_pos (by omega), boo_at (by omega)]
   cases h3 : m.getD a.toNat true with
   | true => rw [if_pos rfl, if_neg (fun h => by cases h.2.2)]
   | false => rw [if_neg (by decide), if_pos ⟨by omega, by omega⟩, if_pos (by omega), if_pos ⟨by omega, by omega, rfl⟩]
theorem isE_iff (x : Nd) : (x.1 = -1 ∧ x.2.1 = 0 ∧ x.2.2.1 = lf x ∧ x.2.2.2.1 = -1 ∧ x.2.2.2.2.1 = -1 ∧ x.2.2.2.2.2 = -1) ↔ isE x := by
 obtain ⟨a, b, c, d, e, f⟩ := x
 unfold isE
 simp only [Prod.mk.injEq, lf]
theorem bnd {α β : Type} {x : Option α} {r : α} {k : α → Option β} {y : Option β} (h : x = some r) (h2 : k r = y) : x.bind k = y := by rw [h]; exact h2
theorem isEb (x : Nd) : (x.1 == -1 && (x.2.1 == 0 && (x.2.2.1 == x.2.2.1 && (x.2.2.2.1 == -1 && (x.2.2.2.2.1 == -1 && (x.2.2.2.2.2 == -1 && true)))))) = decide (isE x) := by
 rw [Bool.eq_iff_iff, decide_eq_true_iff, ← isE_iff]
 simp [lf]
theorem free_eq {N : List Nd} {r f : Int} {m : List Bool} (hm : m.length = N.length) (hN : N.length ≤ 1000000) : free ((N, r, f), m) = some ((frX N (un m + 1) f m).1, (N, r, f), (frX N (un m + 1) f m).2) := by
 unfold free free_g
 dsimp only
 have hun : ∀ m : List Bool, un m ≤ m.length := fun m => List.count_le_length
 refine LOOP_m (σ := Int × (List Nd × Int × Int) × List Bool) (O := Bool × (List Nd × Int × Int) × List Bool) (fun s => s.2.1 = (N, r, f) ∧ s.2.2.length = N.length) (fun s => un s.2.2) (fun s => ((frX N (un s.2.2 + 1) s.1 s.2.2).1, (N, r, f), (frX N (un s.2.2 + 1) s.1 s.2.2).2)) ?_ ⟨rfl, hm⟩ (by have := big; have := hun m; dsimp only; omega)
 clear hm
 rintro ⟨a, ⟨N', r', f'⟩, m⟩ ⟨e1, hm⟩
 dsimp only at e1 hm ⊢
 simp only [Prod.mk.injEq] at e1
 obtain ⟨rfl, rfl, rfl⟩ := e1
 simp only [cq1, there_eq]
 have hfx : frX N' (un m + 1) a m = if a = -1 then (true, m) else if 0 ≤ a ∧ a < (m.length : Int) ∧ m.getD a.toNat true = false then (if isE (nn N' a.toNat) then frX N' (un m) (lf (nn N' a.toNat)) (m.set a.toNat true) else (false, m.set a.toNat true)) else (false, m) := rfl
 by_cases ha : a = -1
 ·rw [if_neg (fun h => h ha)]
  refine StepOK_inr ?_
  dsimp only
  rw [hfx, if_pos ha]
 ·rw [if_pos ha]
  by_cases hc : 0 ≤ a ∧ a < (m.length : Int) ∧ m.getD a.toNat true = false
  ·rw [if_pos hc]
   simp only [Option.bind_some]
   have hb : 0 ≤ a ∧ a < (N'.length : Int) := by omega
   rw [if_pos trivial, if_pos hb, if_pos hb, empty_eq]
   simp only [Option.bind_some]
   have hs := un_set hc.2.2
   have hx : nn N' a.toNat = Ty.at tN N' a.toNat := rfl
   rw [hx] at hfx
   clear hx
   generalize Ty.at tN N' a.toNat = x at *
   rw [isEb x]
   by_cases he : isE x
   ·rw [decide_eq_true he, if_neg (by decide), if_pos hb]
    refine StepOK_inl ⟨by dsimp only; omega, ⟨rfl, by dsimp only; rw [List.length_set]; exact hm⟩, ?_⟩
    dsimp only
    rw [hfx, if_neg ha, if_pos hc, if_pos he, hs]
    rfl
   ·rw [decide_eq_false he, if_pos rfl]
    refine StepOK_inr ?_
    dsimp only
    rw [hfx, if_neg ha, if_pos hc, if_neg he]
  ·rw [if_neg hc]
   simp only [Option.bind_some]
   first | rw [if_neg (by decide)] | rw [if_neg (fun h => h trivial)] | skip
   refine StepOK_inr ?_
   dsimp only
   rw [hfx, if_neg ha, if_neg hc]
theorem under_fix {N : List Nd} {r f : Int} : ∀ (n : Nat) {a low high : Int} {m : List Bool} {t : Nd}, m.length = N.length → un m < n →
  fixN n (fun g => under_g LOOPx g treap_above there) ((a, low, high), (N, r, f), m, t) = (undF N n a low high (some t) m).map fun x => (x.1, (N, r, f), x.2, t)
 | 0, _, _, _, _, _, _, h => by omega
 | n + 1, a, low, high, m, t, hm, h => by
  obtain ⟨t1, t2, t3, t4, t5, t6⟩ := t
  show under_g LOOPx (fixN n fun g => under_g LOOPx g treap_above there) treap_above there ((a, low, high), (N, r, f), m, t1, t2, t3, t4, t5, t6) = _
  have ih := fun {a low high : Int} {m : List Bool} {t : Nd} => under_fix (N := N) (r := r) (f := f) n (a := a) (low := low) (high := high) (m := m) (t := t)
  generalize fixN n (fun g => under_g LOOPx g treap_above there) = G at ih ⊢
  unfold under_g
  dsimp only
  simp only [cq1, there_eq]
  have hu : undF N (n + 1) a low high (some (t1, t2, t3, t4, t5, t6)) m = if a = -1 then some (true, m) else
   if 0 ≤ a ∧ a < (m.length : Int) ∧ m.getD a.toNat true = false then
    (if low < ky (nn N a.toNat) ∧ (high = -1 ∨ ky (nn N a.toNat) < high) ∧ tok (some (t1, t2, t3, t4, t5, t6)) (nn N a.toNat) = true then
     (match undF N n (lf (nn N a.toNat)) low (ky (nn N a.toNat)) (some (nn N a.toNat)) (m.set a.toNat true) with
      | none => none
      | some (b, m1) => if b = true then undF N n (rt (nn N a.toNat)) (ky (nn N a.toNat)) high (some (nn N a.toNat)) m1 else some (false, m1))
    else some (false, m.set a.toNat true))
   else some (false, m) := rfl
  rw [hu]
  clear hu
  by_cases ha : a = -1
  ·rw [if_pos ha, if_pos ha]; rfl
  ·rw [if_neg ha, if_neg ha]
   by_cases hc : 0 ≤ a ∧ a < (m.length : Int) ∧ m.getD a.toNat true = false
   ·rw [if_pos hc, if_pos hc]
    simp only [Option.bind_some]
    have hb : 0 ≤ a ∧ a < (N.length : Int) := by omega
    have hs := un_set hc.2.2
    have hl1 : (m.set a.toNat true).length = N.length := by rw [List.length_set]; exact hm
    generalize m.set a.toNat true = m1 at *
    first | rw [if_neg (by decide)] | rw [if_neg (fun h => by cases h)] | skip
    rw [if_pos hb]
    have hx : nn N a.toNat = Ty.at tN N a.toNat := rfl
    rw [hx]
    clear hx
    generalize Ty.at tN N a.toNat = x at *
    obtain ⟨k, p, l, rr, qh, qt, rfl⟩ : ∃ k p l rr qh qt : Int, x = (k, p, l, rr, qh, qt) := ⟨x.1, x.2.1, x.2.2.1, x.2.2.2.1, x.2.2.2.2.1, x.2.2.2.2.2, rfl⟩
    dsimp only
    have hlt : un m1 < n := by omega
    by_cases hC : low < k ∧ (high = -1 ∨ k < high) ∧ abv (t1, t2, t3, t4, t5, t6) (k, p, l, rr, qh, qt)
    ·rw [if_pos (show low < ky (k, p, l, rr, qh, qt) ∧ (high = -1 ∨ ky (k, p, l, rr, qh, qt) < high) ∧ tok (some (t1, t2, t3, t4, t5, t6)) (k, p, l, rr, qh, qt) = true from ⟨hC.1, hC.2.1, decide_eq_true hC.2.2⟩)]
     refine bnd (r := .inl ((low, high), (N, r, f), m1, (t1, t2, t3, t4, t5, t6), k, p, l, rr, qh, qt)) ?_ ?_
     ·rw [if_pos (show ¬ k ≤ low by omega), above_eq, decide_eq_true hC.2.2]
      simp only [Option.bind_some]
      by_cases hh : high = -1
      ·rw [if_neg (fun h => h hh), if_neg (by decide)]
      ·rw [if_pos hh, if_pos (by omega), if_neg (by decide)]
     ·dsimp only
      rw [ih hl1 hlt]
      obtain ⟨b, m2, e1, u1, l1⟩ := undF_tot (N := N) (f := n) (a := l) (low := low) (high := k) (top := some (k, p, l, rr, qh, qt)) (m := m1) hlt
      have e1' : undF N n (lf (k, p, l, rr, qh, qt)) low (ky (k, p, l, rr, qh, qt)) (some (k, p, l, rr, qh, qt)) m1 = some (b, m2) := e1
      rw [e1, e1']
      simp only [Option.map_some, Option.bind_some]
      cases b with
      | false => rw [if_neg (by decide), if_neg (by decide)]; rfl
      | true =>
       rw [if_pos rfl, if_pos rfl, ih (by omega) (by omega)]
       obtain ⟨b2, m3, e2, _, _⟩ := undF_tot (N := N) (f := n) (a := rr) (low := k) (high := high) (top := some (k, p, l, rr, qh, qt)) (m := m2) (by omega)
       have e2' : undF N n (rt (k, p, l, rr, qh, qt)) (ky (k, p, l, rr, qh, qt)) high (some (k, p, l, rr, qh, qt)) m2 = some (b2, m3) := e2
       rw [e2, e2']
       rfl
    ·rw [if_neg (show ¬ (low < ky (k, p, l, rr, qh, qt) ∧ (high = -1 ∨ ky (k, p, l, rr, qh, qt) < high) ∧ tok (some (t1, t2, t3, t4, t5, t6)) (k, p, l, rr, qh, qt) = true) from fun h => hC ⟨h.1, h.2.1, of_decide_eq_true h.2.2⟩)]
     refine bnd (r := .inr (false, (N, r, f), m1, t1, t2, t3, t4, t5, t6)) ?_ ?_
     ·by_cases h1 : k ≤ low
      ·rw [if_neg (fun h => h h1)]
      ·rw [if_pos h1, above_eq]
       simp only [Option.bind_some]
       by_cases hh : high = -1
       ·rw [if_neg (fun h => h hh), decide_eq_false (fun h => hC ⟨by omega, .inl hh, h⟩), if_pos rfl]
       ·rw [if_pos hh]
        by_cases h2 : high ≤ k
        ·rw [if_neg (fun h => h h2)]
        ·rw [if_pos h2, decide_eq_false (fun h => hC ⟨by omega, .inr (by omega), h⟩), if_pos rfl]
     ·rfl
   ·rw [if_neg hc, if_neg hc]
    simp only [Option.bind_some]
    first | rw [if_pos rfl] | rw [if_pos trivial] | skip
    rfl
end Go.AX.Tr
end
section
namespace Go.AX.Tr
open Go Go.AX
theorem undF_same {N : List Nd} : ∀ {f g : Nat} {a low high : Int} {top : Option Nd} {m : List Bool}, un m < f → un m < g → undF N f a low high top m = undF N g a low high top m
 | 0, _, _, _, _, _, _, h, _ => by omega
 | _ + 1, 0, _, _, _, _, _, _, h => by omega
 | f + 1, g + 1, a, low, high, top, m, hf, hg => by
  rw [undF, undF]
  by_cases ha : a = -1
  ·rw [if_pos ha, if_pos ha]
  ·rw [if_neg ha, if_neg ha]
   by_cases hc : 0 ≤ a ∧ a < (m.length : Int) ∧ m.getD a.toNat true = false
   ·rw [if_pos hc, if_pos hc]
    have hs := un_set hc.2.2
    have h1 := undF_same (N := N) (f := f) (g := g) (a := lf (nn N a.toNat)) (low := low) (high := ky (nn N a.toNat)) (top := some (nn N a.toNat)) (m := m.set a.toNat true) (by omega) (by omega)
    obtain ⟨b, m1, e1, u1, l1⟩ := undF_tot (N := N) (f := f) (a := lf (nn N a.toNat)) (low := low) (high := ky (nn N a.toNat)) (top := some (nn N a.toNat)) (m := m.set a.toNat true) (by omega)
    have h2 := undF_same (N := N) (f := f) (g := g) (a := rt (nn N a.toNat)) (low := ky (nn N a.toNat)) (high := high) (top := some (nn N a.toNat)) (m := m1) (by omega) (by omega)
    rw [← h1, e1]
    dsimp only
    rw [h2]
   ·rw [if_neg hc, if_neg hc]
theorem under_eq {N : List Nd} {r f a low high : Int} {m : List Bool} {t : Nd} {n : Nat} (hm : m.length = N.length) (hN : N.length ≤ 1000000) (hn : un m < n) :
  under ((a, low, high), (N, r, f), m, t) = (undF N n a low high (some t) m).map fun x => (x.1, (N, r, f), x.2, t) := by
 have hl : un m ≤ m.length := List.count_le_length
 have := big
 rw [← undF_same (f := FUEL) (g := n) (by omega) hn]
 exact under_fix FUEL hm (by omega)
theorem under_nil_eq {N : List Nd} {r f a low high : Int} {m : List Bool} {n : Nat} (hm : m.length = N.length) (hN : N.length ≤ 1000000) (hn : un m < n + 1) :
  under_nil ((a, low, high), (N, r, f), m) = (undF N (n + 1) a low high none m).map fun x => (x.1, (N, r, f), x.2) := by
 unfold under_nil under_nil_g
 dsimp only
 simp only [cq1, there_eq]
 have hu : undF N (n + 1) a low high none m = if a = -1 then some (true, m) else
   if 0 ≤ a ∧ a < (m.length : Int) ∧ m.getD a.toNat true = false then
    (if low < ky (nn N a.toNat) ∧ (high = -1 ∨ ky (nn N a.toNat) < high) ∧ tok none (nn N a.toNat) = true then
     (match undF N n (lf (nn N a.toNat)) low (ky (nn N a.toNat)) (some (nn N a.toNat)) (m.set a.toNat true) with
      | none => none
      | some (b, m1) => if b = true then undF N n (rt (nn N a.toNat)) (ky (nn N a.toNat)) high (some (nn N a.toNat)) m1 else some (false, m1))
    else some (false, m.set a.toNat true))
   else some (false, m) := rfl
 rw [hu]
 clear hu
 by_cases ha : a = -1
 ·rw [if_pos ha, if_pos ha]; rfl
 ·rw [if_neg ha, if_neg ha]
  by_cases hc : 0 ≤ a ∧ a < (m.length : Int) ∧ m.getD a.toNat true = false
  ·rw [if_pos hc, if_pos hc]
   simp only [Option.bind_some]
   have hb : 0 ≤ a ∧ a < (N.length : Int) := by omega
   have hs := un_set hc.2.2
   have hl1 : (m.set a.toNat true).length = N.length := by rw [List.length_set]; exact hm
   generalize m.set a.toNat true = m1 at *
   first | rw [if_neg (by decide)] | rw [if_neg (fun h => by cases h)] | skip
   rw [if_pos hb]
   have hx : nn N a.toNat = Ty.at tN N a.toNat := rfl
   rw [hx]
   clear hx
   generalize Ty.at tN N a.toNat = x at *
   obtain ⟨k, p, l, rr, qh, qt, rfl⟩ : ∃ k p l rr qh qt : Int, x = (k, p, l, rr, qh, qt) := ⟨x.1, x.2.1, x.2.2.1, x.2.2.2.1, x.2.2.2.2.1, x.2.2.2.2.2, rfl⟩
   dsimp only
   have hlt : un m1 < n := by omega
   by_cases hC : low < k ∧ (high = -1 ∨ k < high)
   ·rw [if_pos (show low < ky (k, p, l, rr, qh, qt) ∧ (high = -1 ∨ ky (k, p, l, rr, qh, qt) < high) ∧ tok none (k, p, l, rr, qh, qt) = true from ⟨hC.1, hC.2, rfl⟩)]
    refine bnd (r := .inl ((low, high), (N, r, f), m1, k, p, l, rr, qh, qt)) ?_ ?_
    ·rw [if_pos (show ¬ k ≤ low by omega)]
     by_cases hh : high = -1
     ·rw [if_neg (fun h => h hh)]
     ·rw [if_pos hh, if_pos (by omega)]
    ·dsimp only
     rw [under_eq hl1 hN hlt]
     obtain ⟨b, m2, e1, u1, l1⟩ := undF_tot (N := N) (f := n) (a := l) (low := low) (high := k) (top := some (k, p, l, rr, qh, qt)) (m := m1) hlt
     have e1' : undF N n (lf (k, p, l, rr, qh, qt)) low (ky (k, p, l, rr, qh, qt)) (some (k, p, l, rr, qh, qt)) m1 = some (b, m2) := e1
     rw [e1, e1']
     simp only [Option.map_some, Option.bind_some]
     cases b with
     | false => rw [if_neg (by decide), if_neg (by decide)]; rfl
     | true =>
      rw [if_pos rfl, if_pos rfl, under_eq (n := n) (by omega) hN (by omega)]
      obtain ⟨b2, m3, e2, _, _⟩ := undF_tot (N := N) (f := n) (a := rr) (low := k) (high := high) (top := some (k, p, l, rr, qh, qt)) (m := m2) (by omega)
      have e2' : undF N n (rt (k, p, l, rr, qh, qt)) (ky (k, p, l, rr, qh, qt)) high (some (k, p, l, rr, qh, qt)) m2 = some (b2, m3) := e2
      rw [e2, e2']
      rfl
   ·rw [if_neg (show ¬ (low < ky (k, p, l, rr, qh, qt) ∧ (high = -1 ∨ ky (k, p, l, rr, qh, qt) < high) ∧ tok none (k, p, l, rr, qh, qt) = true) from fun h => hC ⟨h.1, h.2.1⟩)]
    refine bnd (r := .inr (false, (N, r, f), m1)) ?_ ?_
    ·by_cases h1 : k ≤ low
     ·rw [if_neg (fun h => h h1)]
     ·rw [if_pos h1]
      by_cases hh : high = -1
      ·exact absurd ⟨by omega, .inl hh⟩ hC
      ·rw [if_pos hh, if_neg (fun h => hC ⟨by omega, .inr (by omega)⟩)]
    ·rfl
  ·rw [if_neg hc, if_neg hc]
   simp only [Option.bind_some]
   first | rw [if_pos rfl] | rw [if_pos trivial] | skip
   rfl
theorem Index_eq (l : List Bool) (x : Bool) (hl : l.length ≤ 1000000) : ∃ k, Index_bool (l, x) = some k ∧ (0 ≤ k ↔ x ∈ l) := by
 unfold Index_bool Index_bool_g
 refine LOOP_ex (σ := List Bool × Bool × Int × Int) (O := Int) (fun s => s.1 = l ∧ s.2.1 = x ∧ s.2.2.1 = (l.length : Int) ∧ 0 ≤ s.2.2.2 ∧ s.2.2.2 ≤ (l.length : Int) ∧ (x ∈ l ↔ x ∈ l.drop s.2.2.2.toNat)) (fun s => l.length - s.2.2.2.toNat) _ ?_ ⟨rfl, rfl, rfl, by simp, by simp, by simp⟩ (by have := big; simp; omega)
 rintro ⟨a, b, n, i⟩ ⟨rfl, rfl, e, h0, h1, h2⟩
 dsimp only at e h0 h1 h2 hl ⊢
 subst e
 simp only [cq1]
 by_cases h : i < (a.length : Int)
 ·rw [if_pos h, if_pos ⟨h0, h⟩]
  have hd : a.drop i.toNat = Ty.at .boo a i.toNat :: a.drop (i.toNat + 1) := by rw [at_get (by omega)]; exact List.drop_eq_getElem_cons (by omega)
  rw [hd] at h2
  by_cases hq : b = Ty.at .boo a i.toNat
  ·rw [if_pos hq]
   refine .inl ⟨i, rfl, ?_⟩
   rw [h2]
   exact ⟨fun _ => by rw [← hq]; exact List.mem_cons_self, fun _ => h0⟩
  ·rw [if_neg hq]
   refine .inr ⟨_, rfl, ?_⟩
   dsimp only
   rw [wrap_i64 (by omega), show (i + 1).toNat = i.toNat + 1 by omega]
   refine ⟨by omega, rfl, rfl, rfl, by omega, by omega, ?_⟩
   rw [h2]
   exact ⟨fun h => by rcases List.mem_cons.1 h with h | h; exact absurd h hq; exact h, fun h => List.mem_cons_of_mem _ h⟩
 ·rw [if_neg h]
  refine .inl ⟨-1, rfl, ?_⟩
  rw [h2, List.drop_of_length_le (by omega)]
  constructor
  ·intro h; omega
  ·intro h; cases h
theorem Contains_eq (l : List Bool) (x : Bool) (hl : l.length ≤ 1000000) : Contains_bool (l, x) = some (decide (x ∈ l)) := by
 unfold Contains_bool Contains_bool_g
 obtain ⟨k, e, h⟩ := Index_eq l x hl
 dsimp only
 rw [e, Option.bind_some]
 congr 1
 rw [decide_eq_decide]
 exact h
theorem Right_eq {N : List Nd} {r f : Int} (hN : N.length ≤ 1000000) : treap_Right (N, r, f) = some (progR N r f) := by
 unfold treap_Right treap_Right_g
 dsimp only
 simp only [cq1]
 rw [if_pos (by refine ⟨by omega, Int.le_refl _, by omega, by omega⟩)]
 unfold progR
 by_cases h64 : N.length ≤ 64
 ·rw [if_pos (show (N.length : Int) ≤ 64 by omega), if_pos h64]
  rw [show ((N.length : Int)).toNat = N.length from rfl, free_eq (by rw [List.length_replicate]) hN, un_rep]
  simp only [Option.bind_some]
  have hlen : ∀ (n : Nat) (a : Int) (m : List Bool), (frX N n a m).2.length = m.length ∧ un (frX N n a m).2 ≤ un m := by
   intro n
   induction n with
   | zero => intro a m; exact ⟨rfl, Nat.le_refl _⟩
   | succ n ih =>
    intro a m
    rw [frX]
    split
    ·exact ⟨rfl, Nat.le_refl _⟩
    ·split
     ·rename_i h1 h2
      have := un_set h2.2.2
      split
      ·have := ih (lf (nn N a.toNat)) (m.set a.toNat true)
       rw [List.length_set] at this
       exact ⟨this.1, by omega⟩
      ·exact ⟨by rw [List.length_set], by dsimp only; omega⟩
     ·exact ⟨rfl, Nat.le_refl _⟩
  have hx := hlen (N.length + 1) f (List.replicate N.length false)
  rw [List.length_replicate, un_rep] at hx
  generalize frX N (N.length + 1) f (List.replicate N.length false) = x at *
  obtain ⟨b, m⟩ := x
  dsimp only at hx ⊢
  cases b with
  | false => rw [if_neg (by decide), if_neg (by decide)]
  | true =>
   rw [if_pos rfl, if_pos rfl, under_nil_eq (n := N.length) hx.1 hN (by omega)]
   obtain ⟨b2, m3, e2, _, l2⟩ := undF_tot (N := N) (f := N.length + 1) (a := r) (low := -1) (high := -1) (top := none) (m := m) (by omega)
   rw [e2]
   simp only [Option.map_some, Option.bind_some]
   cases b2 with
   | false => rw [if_neg (by decide)]
   | true =>
    rw [if_pos rfl, Contains_eq _ _ (by omega), Option.bind_some]
    congr 1
    simp
 ·rw [if_neg (show ¬ (N.length : Int) ≤ 64 by omega), if_neg h64]
end Go.AX.Tr
end
section
namespace Go.AX.Tr
open Go Go.AX
theorem nz (i : Nat) : ¬ ((i : Int) = -1) := by omega
theorem nb {i n : Nat} (h : i < n) : 0 ≤ (i : Int) ∧ (i : Int) < (n : Int) := by omega
theorem split_fix {N : List Nd} {key r f : Int} : ∀ {T : TT} (n : Nat), Rep N T → siz T < n →
  fixN n (fun g => split_g LOOPx g) ((tp T, key), (r, f), N) = some ((tp (spl N key T).1, tp (spl N key T).2), (r, f), spN N key T)
 | _, 0, _, h => by omega
 | .nil, n + 1, _, _ => by
  show split_g LOOPx (fixN n fun g => split_g LOOPx g) ((-1, key), (r, f), N) = _
  unfold split_g
  rfl
 | .nd l i rr, n + 1, hr, hs => by
  obtain ⟨hi, e1, e2, r1, r2⟩ := hr
  rw [siz] at hs
  show split_g LOOPx (fixN n fun g => split_g LOOPx g) (((i : Int), key), (r, f), N) = _
  have ihl := split_fix (N := N) (key := key) (r := r) (f := f) (T := l) n r1 (by omega)
  have ihr := split_fix (N := N) (key := key) (r := r) (f := f) (T := rr) n r2 (by omega)
  have hl1 := (spN_ch (N := N) (key := key) (T := l)).len
  have hl2 := (spN_ch (N := N) (key := key) (T := rr)).len
  generalize fixN n (fun g => split_g LOOPx g) = G at ihl ihr ⊢
  unfold split_g
  dsimp only
  simp only [cq1, Int.toNat_natCast]
  rw [if_neg (nz i), if_pos (nb hi), if_pos hi, spl, spN]
  by_cases hk : ky (nn N i) < key
  ·rw [if_pos hk, if_pos hk, if_pos (show (Ty.at tN N i).1 < key from hk), if_pos hi]
   refine bnd (r := ((tp (spl N key rr).1, tp (spl N key rr).2), (r, f), spN N key rr)) ?_ ?_
   ·rw [← ihr, ← e2]; rfl
   ·dsimp only
    rw [if_pos (by omega)]
    rfl
  ·rw [if_neg hk, if_neg hk, if_neg (show ¬ (Ty.at tN N i).1 < key from hk), if_pos hi]
   refine bnd (r := ((tp (spl N key l).1, tp (spl N key l).2), (r, f), spN N key l)) ?_ ?_
   ·rw [← ihl, ← e1]; rfl
   ·dsimp only
    rw [if_pos (by omega)]
    rfl
theorem split_eq {N : List Nd} {key r f : Int} {T : TT} (h : Rep N T) (hs : siz T ≤ 1000000) :
  split ((tp T, key), (r, f), N) = some ((tp (spl N key T).1, tp (spl N key T).2), (r, f), spN N key T) := split_fix FUEL h (by have := big; omega)
theorem insert_fix {N : List Nd} {i : Nat} {r f : Int} (hi : i < N.length) : ∀ {T : TT} (n : Nat), Rep N T → siz T < n → siz T ≤ 1000000 →
  fixN n (fun g => insert_g LOOPx g treap_above split) ((tp T, (i : Int)), (r, f), N) = some (tp (ins N i T), (r, f), insN N i T)
 | _, 0, _, h, _ => by omega
 | .nil, n + 1, _, _, _ => by
  show insert_g LOOPx (fixN n fun g => insert_g LOOPx g treap_above split) treap_above split ((-1, (i : Int)), (r, f), N) = _
  generalize fixN n (fun g => insert_g LOOPx g treap_above split) = G
  unfold insert_g
  dsimp only
  simp only [cq1, Int.toNat_natCast]
  rw [if_neg (fun h => h trivial)]
  simp only [Option.bind_some, Int.toNat_natCast]
  rw [if_pos trivial, if_pos (nb hi), if_pos hi]
  refine bnd (split_eq (T := .nil) trivial (by decide)) ?_
  simp only [spN, spl]
  refine (if_pos (nb hi)).trans ((if_pos hi).trans ((if_pos ?_).trans ((if_pos ?_).trans ?_)))
  ·rw [List.length_set]; exact nb hi
  ·rw [List.length_set]; exact hi
  ·rfl
 | .nd l j rr, n + 1, hr, hs, hsm => by
  have hr0 := hr
  obtain ⟨hj, e1, e2, r1, r2⟩ := hr
  have hs0 := hsm
  rw [siz] at hs hsm
  show insert_g LOOPx (fixN n fun g => insert_g LOOPx g treap_above split) treap_above split (((j : Int), (i : Int)), (r, f), N) = _
  have ihl := insert_fix (r := r) (f := f) hi (T := l) n r1 (by omega) (by omega)
  have ihr := insert_fix (r := r) (f := f) hi (T := rr) n r2 (by omega) (by omega)
  have hl1 := (insN_ch (N := N) (i := i) (T := l)).len
  have hl2 := (insN_ch (N := N) (i := i) (T := rr)).len
  have hl3 := (spN_ch (N := N) (key := ky (nn N i)) (T := .nd l j rr)).len
  generalize fixN n (fun g => insert_g LOOPx g treap_above split) = G at ihl ihr ⊢
  unfold insert_g
  dsimp only
  simp only [cq1, Int.toNat_natCast]
  rw [if_pos (nz j), if_pos (nb hi), if_pos hi, if_pos (nb hj), if_pos hj]
  refine bnd (r := .inl (((j : Int), (i : Int), decide (abv (nn N i) (nn N j))), (r, f), N)) (bnd (above_eq (nn N i) (nn N j)) rfl) ?_
  simp only [Int.toNat_natCast]
  rw [ins, insN]
  by_cases ha : abv (nn N i) (nn N j)
  ·rw [decide_eq_true ha, if_pos rfl, if_pos ha, if_pos ha, if_pos (nb hi), if_pos hi]
   refine bnd (split_eq (key := ky (nn N i)) (T := .nd l j rr) hr0 hs0) ?_
   dsimp only
   generalize spN N (ky (nn N i)) (.nd l j rr) = M at *
   generalize spl N (ky (nn N i)) (.nd l j rr) = S at *
   have hM : i < M.length := by omega
   rw [if_pos (nb hM), if_pos hM, if_pos (by rw [List.length_set]; exact nb hM), if_pos (by rw [List.length_set]; exact hM)]
   rfl
  ·rw [decide_eq_false ha, if_neg (by decide), if_neg ha, if_neg ha, if_pos (nb hj), if_pos (nb hi), if_pos hi, if_pos hj]
   by_cases hk : ky (nn N i) < ky (nn N j)
   ·rw [if_pos hk, if_pos hk, if_pos (show (Ty.at tN N i).1 < (Ty.at tN N j).1 from hk), if_pos hj]
    refine bnd (r := (tp (ins N i l), (r, f), insN N i l)) ?_ ?_
    ·rw [← ihl, ← e1]; rfl
    ·dsimp only
     rw [if_pos (by omega)]
     rfl
   ·rw [if_neg hk, if_neg hk, if_neg (show ¬ (Ty.at tN N i).1 < (Ty.at tN N j).1 from hk), if_pos hj]
    refine bnd (r := (tp (ins N i rr), (r, f), insN N i rr)) ?_ ?_
    ·rw [← ihr, ← e2]; rfl
    ·dsimp only
     rw [if_pos (by omega)]
     rfl
theorem insert_eq {N : List Nd} {i : Nat} {r f : Int} {T : TT} (hi : i < N.length) (h : Rep N T) (hs : siz T ≤ 1000000) :
  insert ((tp T, (i : Int)), (r, f), N) = some (tp (ins N i T), (r, f), insN N i T) := insert_fix hi FUEL h (by have := big; omega) hs
theorem merge_fix {N : List Nd} {r f : Int} : ∀ (n : Nat) (A B : TT), Rep N A → Rep N B → siz A + siz B < n →
  fixN n (fun g => merge_g LOOPx g treap_above) ((tp A, tp B), (r, f), N) = some (tp (mg N A B), (r, f), mgN N A B)
 | 0, _, _, _, _, h => by omega
 | n + 1, A, B, ra, rb, hs => by
  show merge_g LOOPx (fixN n fun g => merge_g LOOPx g treap_above) treap_above ((tp A, tp B), (r, f), N) = _
  have ih := merge_fix (N := N) (r := r) (f := f) n
  generalize fixN n (fun g => merge_g LOOPx g treap_above) = G at ih ⊢
  unfold merge_g
  dsimp only
  simp only [cq1]
  cases A with
  | nil => rw [show tp .nil = -1 from rfl, if_pos rfl, mg_nil, mgN_nil]
  | nd a i b =>
   rw [show tp (.nd a i b) = (i : Int) from rfl, if_neg (nz i)]
   cases B with
   | nil => rw [show tp .nil = -1 from rfl, if_pos rfl, mg_nil2, mgN_nil2]; rfl
   | nd c j d =>
    rw [show tp (.nd c j d) = (j : Int) from rfl, if_neg (nz j)]
    have ra0 := ra
    have rb0 := rb
    obtain ⟨hi, e1, e2, ra1, ra2⟩ := ra
    obtain ⟨hj, e3, e4, rb1, rb2⟩ := rb
    simp only [siz] at hs
    simp only [Int.toNat_natCast]
    rw [if_pos (nb hi), if_pos hi, if_pos (nb hj), if_pos hj, mg, mgN]
    refine bnd (above_eq (nn N i) (nn N j)) ?_
    by_cases ha : abv (nn N i) (nn N j)
    ·have ihr := ih b (.nd c j d) ra2 rb0 (by simp only [siz]; omega)
     have hl := (mgN_ch (N := N) _ b (.nd c j d) rfl).len
     rw [decide_eq_true ha, if_pos rfl, if_pos ha, if_pos ha, if_pos (nb hi), if_pos hi]
     refine bnd (r := (tp (mg N b (.nd c j d)), (r, f), mgN N b (.nd c j d))) ?_ ?_
     ·rw [← ihr, ← e2]; rfl
     ·dsimp only
      rw [if_pos (by omega), if_pos (by omega)]
      rfl
    ·have ihl := ih (.nd a i b) c ra0 rb1 (by simp only [siz]; omega)
     have hl := (mgN_ch (N := N) _ (.nd a i b) c rfl).len
     rw [decide_eq_false ha, if_neg (by decide), if_neg ha, if_neg ha, if_pos (nb hj), if_pos hj]
     refine bnd (r := (tp (mg N (.nd a i b) c), (r, f), mgN N (.nd a i b) c)) ?_ ?_
     ·rw [← ihl, ← e3]; rfl
     ·dsimp only
      rw [if_pos (by omega), if_pos (by omega)]
      rfl
theorem merge_eq {N : List Nd} {r f : Int} {A B : TT} (ha : Rep N A) (hb : Rep N B) (hs : siz A + siz B ≤ 1000000) :
  merge ((tp A, tp B), (r, f), N) = some (tp (mg N A B), (r, f), mgN N A B) := merge_fix FUEL A B ha hb (by have := big; omega)
theorem without_fix {N : List Nd} {i : Nat} {r f : Int} (hi : i < N.length) : ∀ {T : TT} (n : Nat), Rep N T → KA N (pl T) → i ∈ pl T → siz T < n → siz T ≤ 1000000 →
  fixN n (fun g => without_g LOOPx g merge) ((tp T, (i : Int)), (r, f), N) = some (tp (wo N (ky (nn N i)) T), (r, f), woN N (ky (nn N i)) T)
 | _, 0, _, _, _, h, _ => by omega
 | .nil, n + 1, _, _, hm, _, _ => by cases hm
 | .nd l j rr, n + 1, hr, hka, hm, hs, hsm => by
  obtain ⟨hj, e1, e2, r1, r2⟩ := hr
  rw [siz] at hs hsm
  show without_g LOOPx (fixN n fun g => without_g LOOPx g merge) merge (((j : Int), (i : Int)), (r, f), N) = _
  rw [pl] at hka hm
  have hka' := List.pairwise_append.1 hka
  have hka2 := List.pairwise_cons.1 hka'.2.1
  have ihl := fun h => without_fix (r := r) (f := f) hi (T := l) n r1 hka'.1 h (by omega) (by omega)
  have ihr := fun h => without_fix (r := r) (f := f) hi (T := rr) n r2 hka2.2 h (by omega) (by omega)
  have hl1 := (woN_ch (N := N) (k := ky (nn N i)) (T := l)).len
  have hl2 := (woN_ch (N := N) (k := ky (nn N i)) (T := rr)).len
  generalize fixN n (fun g => without_g LOOPx g merge) = G at ihl ihr ⊢
  unfold without_g
  dsimp only
  simp only [cq1, Int.toNat_natCast]
  rw [if_pos (nb hj), if_pos (nb hi), if_pos hi, if_pos hj, wo, woN]
  by_cases h1 : ky (nn N i) < ky (nn N j)
  ·rw [if_pos h1, if_pos h1, if_pos (show (Ty.at tN N i).1 < (Ty.at tN N j).1 from h1), if_pos hj]
   have hin : i ∈ pl l := by
    rcases List.mem_append.1 hm with h | h
    ·exact h
    ·rcases List.mem_cons.1 h with h | h
     ·subst h; omega
     ·have := hka2.1 i h; omega
   refine bnd (r := (tp (wo N (ky (nn N i)) l), (r, f), woN N (ky (nn N i)) l)) ?_ ?_
   ·rw [← ihl hin, ← e1]; rfl
   ·dsimp only
    rw [if_pos (by omega)]
    rfl
  ·rw [if_neg h1, if_neg h1, if_neg (show ¬ (Ty.at tN N i).1 < (Ty.at tN N j).1 from h1), if_pos hj]
   by_cases h2 : ky (nn N j) < ky (nn N i)
   ·rw [if_pos h2, if_pos h2, if_pos (show (Ty.at tN N j).1 < (Ty.at tN N i).1 from h2), if_pos hj]
    have hin : i ∈ pl rr := by
     rcases List.mem_append.1 hm with h | h
     ·have := hka'.2.2 i h j List.mem_cons_self; omega
     ·rcases List.mem_cons.1 h with h | h
      ·subst h; omega
      ·exact h
    refine bnd (r := (tp (wo N (ky (nn N i)) rr), (r, f), woN N (ky (nn N i)) rr)) ?_ ?_
    ·rw [← ihr hin, ← e2]; rfl
    ·dsimp only
     rw [if_pos (by omega)]
     rfl
   ·rw [if_neg h2, if_neg h2, if_neg (show ¬ (Ty.at tN N j).1 < (Ty.at tN N i).1 from h2), if_pos hj, if_pos hj]
    refine bnd (r := (tp (mg N l rr), (r, f), mgN N l rr)) ?_ rfl
    rw [← merge_eq r1 r2 (by omega), ← e1, ← e2]
    rfl
theorem without_eq {N : List Nd} {i : Nat} {r f : Int} {T : TT} (hi : i < N.length) (h : Rep N T) (hk : KA N (pl T)) (hm : i ∈ pl T) (hs : siz T ≤ 1000000) :
  without ((tp T, (i : Int)), (r, f), N) = some (tp (wo N (ky (nn N i)) T), (r, f), woN N (ky (nn N i)) T) := without_fix hi FUEL h hk hm (by have := big; omega) hs
end Go.AX.Tr
end
section
namespace Go.AX.Tr
open Go Go.AX
end Go.AX.Tr
end
section
namespace Go.AX.Tr
open Go Go.AX
theorem tnd (N : List Nd) (i : Nat) : Ty.at tN N i = nn N i := rfl
def toI (l : List Nat) : List Int := l.map fun x : Nat => (x : Int)
def frO : Option (List Nat) → Bool × List Int
 | some F => (true, toI F)
 | none => (false, [])
def Fl (N : List Nd) (f : Int) : List Nat := (frF N (N.length + 1) f []).getD []
end Go.AX.Tr
end
section
namespace Go.AX.Tr
open Go Go.AX
def LD (N : List Nd) (f : Int) : TT := cart (prF N) (lst N (Fl N f))
def chk (N : List Nd) (l : List Nat) (k : Nat) : Prop := ∀ j, k ≤ j → j < l.length → 0 ≤ ky (nn N (l.getD j 0)) ∧ (0 < j → ky (nn N (l.getD (j - 1) 0)) ≠ ky (nn N (l.getD j 0)))
end Go.AX.Tr
end
section
namespace Go.AX.Tr
open Go Go.AX
structure Ok (N : List Nd) (r f : Int) (F : List Nat) (T : TT) : Prop where
 len : N.length ≤ 64
 fr : frF N (N.length + 1) f [] = some F
 tr : TR N r F T
theorem Ok.free {N : List Nd} {r f : Int} {F : List Nat} {T : TT} (h : Ok N r f F T) : (∀ x ∈ F, x < N.length ∧ isE (nn N x)) ∧ F.Nodup := by
 have := frF_ok (acc := []) (by simp) (by simp) h.fr
 exact ⟨this.1, this.2.1⟩
theorem Ok.rt {N : List Nd} {r f : Int} {F : List Nat} {T : TT} (h : Ok N r f F T) : progR N r f = true := progR_iff.2 ⟨h.len, F, h.fr, T, h.tr⟩
theorem ok_of {N : List Nd} {r f : Int} (h : progR N r f = true) : ∃ F T, Ok N r f F T := by
 obtain ⟨h1, F, h2, T, h3⟩ := progR_iff.1 h
 exact ⟨F, T, h1, h2, h3⟩
theorem Ok.siz {N : List Nd} {r f : Int} {F : List Nat} {T : TT} (h : Ok N r f F T) : siz T ≤ 64 := Nat.le_trans h.tr.siz h.len
theorem Ok.ka {N : List Nd} {r f : Int} {F : List Nat} {T : TT} (h : Ok N r f F T) : KA N (pl T) := Bst_asc (by omega) h.tr.2.2.1
theorem Ok.nodup {N : List Nd} {r f : Int} {F : List Nat} {T : TT} (h : Ok N r f F T) : (pl T).Nodup := h.tr.2.2.2.2.1
theorem Ok.mem {N : List Nd} {r f : Int} {F : List Nat} {T : TT} (h : Ok N r f F T) (x : Nat) : x ∈ pl T ↔ x < N.length ∧ x ∉ F := h.tr.2.2.2.2.2 x
theorem Ok.key {N : List Nd} {r f : Int} {F : List Nat} {T : TT} (h : Ok N r f F T) : ∀ x ∈ pl T, 0 ≤ ky (nn N x) := fun x hx => by
 have := (Bst_mem (by omega) h.tr.2.2.1 x hx).1
 omega
theorem find_loop {N : List Nd} {key r fr : Int} {g : ((Int × Int × Int) × List Nd × Int × Int) → Option (((Int × Int × Int) × List Nd × Int × Int) ⊕ (Int × Int × Bool))}
  (h1 : ∀ c : Nat, g ((key, (c : Int), -1), N, r, fr) = some (.inr (0, (c : Int), false)))
  (h2 : ∀ (i c : Nat), i < N.length → c < 1000000 → g ((key, (c : Int), (i : Int)), N, r, fr) = if key < ky (nn N i) then some (.inl ((key, ((c + 1 : Nat) : Int), lf (nn N i)), N, r, fr)) else if ky (nn N i) < key then some (.inl ((key, ((c + 1 : Nat) : Int), rt (nn N i)), N, r, fr)) else some (.inr ((i : Int), ((c + 1 : Nat) : Int), true))) :
  ∀ {T : TT} (n c : Nat), Rep N T → siz T < n → c + siz T ≤ 1000000 → loopN n g ((key, (c : Int), tp T), N, r, fr) = some (fdT N key T c)
 | _, 0, _, _, h, _ => by omega
 | .nil, n + 1, c, _, _, _ => by
  rw [loopN, show tp .nil = -1 from rfl, h1 c]; rfl
 | .nd l i rr, n + 1, c, hr, hs, hc => by
  obtain ⟨hi, e1, e2, r1, r2⟩ := hr
  rw [siz] at hs hc
  rw [loopN, show tp (.nd l i rr) = (i : Int) from rfl, h2 i c hi (by omega), fdT]
  by_cases ha : key < ky (nn N i)
  ·rw [if_pos ha, if_pos ha]
   dsimp only
   rw [e1]
   exact find_loop h1 h2 n (c + 1) r1 (by omega) (by omega)
  ·rw [if_neg ha, if_neg ha]
   by_cases hb : ky (nn N i) < key
   ·rw [if_pos hb, if_pos hb]
    dsimp only
    rw [e2]
    exact find_loop h1 h2 n (c + 1) r2 (by omega) (by omega)
   ·rw [if_neg hb, if_neg hb]
theorem find_LOOP {N : List Nd} {key r fr : Int} {g : ((Int × Int × Int) × List Nd × Int × Int) → Option (((Int × Int × Int) × List Nd × Int × Int) ⊕ (Int × Int × Bool))} {T : TT} (hr : Rep N T) (hs : siz T ≤ 64)
  (h1 : ∀ c : Nat, g ((key, (c : Int), -1), N, r, fr) = some (.inr (0, (c : Int), false)))
  (h2 : ∀ (i c : Nat), i < N.length → c < 1000000 → g ((key, (c : Int), (i : Int)), N, r, fr) = if key < ky (nn N i) then some (.inl ((key, ((c + 1 : Nat) : Int), lf (nn N i)), N, r, fr)) else if ky (nn N i) < key then some (.inl ((key, ((c + 1 : Nat) : Int), rt (nn N i)), N, r, fr)) else some (.inr ((i : Int), ((c + 1 : Nat) : Int), true))) :
  LOOPx ((Int × Int × Int) × List Nd × Int × Int) (Int × Int × Bool) g ((key, 0, tp T), N, r, fr) = some (fdT N key T 0) :=
 find_loop h1 h2 FUEL 0 hr (by have := big; omega) (by omega)
theorem Find_eq {N : List Nd} {r f : Int} {F : List Nat} {T : TT} (h : Ok N r f F T) (key : Int) : treap_Find ((N, r, f), key) = some (fdT N key T 0) := by
 have hlen := h.len
 unfold treap_Find treap_Find_g
 dsimp only
 rw [Right_eq (by omega), h.rt]
 simp only [Option.bind_some]
 refine (show cond (!true) _ _ = cond false _ _ from rfl).trans ?_
 rw [cond_false, show r = tp T from h.tr.1]
 refine find_LOOP h.tr.2.1 h.siz ?_ ?_
 ·intro c; rfl
 ·intro i c hi hc
  dsimp only
  simp only [cq1, Int.toNat_natCast]
  rw [if_pos (nz i), if_pos (nb hi), wrap_i64 (by omega)]
  by_cases ha : key < ky (nn N i)
  ·rw [if_pos ha, if_pos (show key < (Ty.at tN N i).1 from ha)]; rfl
  ·rw [if_neg ha, if_neg (show ¬ key < (Ty.at tN N i).1 from ha)]
   by_cases hb : ky (nn N i) < key
   ·rw [if_pos hb, if_pos (show (Ty.at tN N i).1 < key from hb)]; rfl
   ·rw [if_neg hb, if_neg (show ¬ (Ty.at tN N i).1 < key from hb)]; rfl
theorem own_eq {N : List Nd} {r f : Int} (hN : N.length ≤ 1000000) : treap_own (N, r, f) = some ((r, f), N) := by
 unfold treap_own treap_own_g Clone_Node cloneG
 dsimp only
 simp only [cq1]
 rw [if_pos (by have : (List.length (α := Nd) N) * 48 ≤ 140737488355328 := by omega
                exact this)]
 rfl
def kys (N : List Nd) : List Int := (N.filter fun x => decide (ky x ≠ -1)).map ky
def kysT (N : List Nd) (T : TT) : List Int := (pl T).map fun x => ky (nn N x)
end Go.AX.Tr
end
section
namespace Go.AX.Tr
open Go Go.AX
theorem frF_pre {N : List Nd} {f : Nat} {a : Int} {acc F : List Nat} (h : frF N f a acc = some F) : ∃ G, F = acc ++ G := by
 obtain ⟨G, h1, _⟩ := frF_shift (M := N) rfl (acc' := acc) (fun x hx => hx) h (fun _ _ _ => rfl)
 exact ⟨G, h1⟩
theorem frF_put {N M : List Nd} (hl : M.length = N.length) {i : Nat} : ∀ {f : Nat} {a : Int} {acc F : List Nat}, frF N f a acc = some F → i ∉ F → (∀ x ∈ F, x ∉ acc → nn M x = nn N x) → frF M (F.length - acc.length + 1) a (i :: acc) = some (i :: F)
 | 0, _, _, _, h, _, _ => by cases h
 | f + 1, a, acc, F, h, hi, hn => by
  rw [frF] at h
  by_cases ha : a = -1
  ·rw [if_pos ha] at h
   cases h
   rw [Nat.sub_self, frF, if_pos ha]
  ·rw [if_neg ha] at h
   by_cases hc : (0 ≤ a ∧ a < (N.length : Int) ∧ a.toNat ∉ acc) ∧ isE (nn N a.toNat)
   ·rw [if_pos hc] at h
    obtain ⟨G, hG⟩ := frF_pre h
    have hin : a.toNat ∈ F := by rw [hG]; simp
    have hlen : acc.length + 1 ≤ F.length := by rw [hG]; simp only [List.length_append, List.length_singleton]; omega
    have ih := frF_put hl h hi (fun x hx hx' => hn x hx fun hxa => hx' (List.mem_append_left _ hxa))
    rw [List.length_append, List.length_singleton] at ih
    have hne : a.toNat ≠ i := fun e => hi (e ▸ hin)
    have hna := hn a.toNat hin hc.1.2.2
    rw [show F.length - acc.length + 1 = (F.length - (acc.length + 1) + 1) + 1 by omega, frF, if_neg ha, if_pos ⟨⟨hc.1.1, by rw [hl]; exact hc.1.2.1, fun hx => by
     rcases List.mem_cons.1 hx with e | e
     ·exact hne e
     ·exact hc.1.2.2 e⟩, by rw [hna]; exact hc.2⟩, hna]
    exact ih
   ·rw [if_neg hc] at h; cases h
theorem ok_wr {N : List Nd} {f : Int} {F : List Nat} {T : TT} (h0 : TR0 N F T) (hr : Rep (wr N T) T) (hf : frF N (N.length + 1) f [] = some F) (hlen : N.length ≤ 64) : Ok (wr N T) (tp T) f F T := by
 have hl : (wr N T).length = N.length := wr_len
 have hs : ∀ j, sameN (nn (wr N T) j) (nn N j) := fun j => wr_same
 have hout : ∀ x ∈ F, nn (wr N T) x = nn N x := fun x hx => wr_out fun hx' => ((h0.2.2.2 x).1 hx').2 hx
 refine ⟨by rw [hl]; exact hlen, ?_, rfl, hr, bst_same (fun j => (hs j).1) h0.1, hp_same hs h0.2.1, h0.2.2.1, fun x => by rw [h0.2.2.2, hl]⟩
 ·obtain ⟨G, h1, h2⟩ := frF_shift hl (acc' := []) (fun x hx => hx) hf (fun x hx _ => hout x hx)
  rw [hl, h2, h1]
theorem Ok.pop {N : List Nd} {r f : Int} {F : List Nat} {T : TT} (h : Ok N r f F T) (hf : f ≠ -1) : ∃ (i : Nat) (F' : List Nat), f = (i : Int) ∧ F = i :: F' ∧ i < N.length ∧ isE (nn N i) ∧ ∀ x : Nd, frF (N.set i x) (N.length + 1) (lf (nn N i)) [] = some F' := by
 have h1 := h.fr
 rw [frF, if_neg hf] at h1
 by_cases hc : (0 ≤ f ∧ f < (N.length : Int) ∧ f.toNat ∉ []) ∧ isE (nn N f.toNat)
 ·rw [if_pos hc] at h1
  have hF := h.free
  rw [List.nil_append] at h1
  refine ⟨f.toNat, ?_⟩
  obtain ⟨G, hG⟩ := frF_pre h1
  rw [List.cons_append, List.nil_append] at hG
  refine ⟨G, by omega, hG, by omega, hc.2, fun x => ?_⟩
  obtain ⟨G', g1, g2⟩ := frF_shift (M := N.set f.toNat x) (by rw [List.length_set]) (acc' := []) (by simp) h1 (fun y hy hy' => by
   rw [nn_set, if_neg (fun e => hy' (by rw [e.1]; simp))])
  rw [hG] at g1
  have : G = G' := by simpa using g1
  rw [this]
  exact frF_more (by omega) g2
 ·rw [if_neg hc] at h1; cases h1
theorem ins_all {N : List Nd} {r f : Int} {F : List Nat} {T : TT} (h : Ok N r f F T) (hf : f ≠ -1) {x : Nd} (hk : 0 ≤ ky x) (hne : ∀ y ∈ pl T, ky (nn N y) ≠ ky x) :
  ∃ (i : Nat) (F' : List Nat), f = (i : Int) ∧ F = i :: F' ∧ i < N.length ∧ isE (nn N i) ∧ Rep (N.set i x) T ∧ insN (N.set i x) i T = wr (N.set i x) (ins (N.set i x) i T) ∧ Ok (insN (N.set i x) i T) (tp (ins (N.set i x) i T)) (lf (nn N i)) F' (ins (N.set i x) i T) := by
 obtain ⟨i, F', e1, e2, hi, he, hfr⟩ := h.pop hf
 subst e2
 have hiT : i ∉ pl T := fun e => ((h.mem i).1 e).2 (by simp)
 obtain ⟨a1, a2, a3, a4⟩ := act_ins (x := x) h.tr hi h.free.2 hk hne
 rw [a2] at a3
 have b1 := ok_wr a1 a3 (by rw [List.length_set]; exact hfr x) (by rw [List.length_set]; exact h.len)
 refine ⟨i, F', e1, rfl, hi, he, ?_, a2, by rw [a2]; exact b1⟩
 exact Rep_congr (by rw [List.length_set]) (fun y hy => by rw [nn_set, if_neg (fun e => hiT (by rw [e.1]; exact hy))]) h.tr.2.1
theorem del_all {N : List Nd} {r f : Int} {F : List Nat} {T : TT} (h : Ok N r f F T) {i : Nat} (hi : i ∈ pl T) :
  (woN N (ky (nn N i)) T).set i (-1, 0, f, -1, -1, -1) = wr (N.set i (-1, 0, f, -1, -1, -1)) (wo N (ky (nn N i)) T) ∧ Ok ((woN N (ky (nn N i)) T).set i (-1, 0, f, -1, -1, -1)) (tp (wo N (ky (nn N i)) T)) (i : Int) (i :: F) (wo N (ky (nn N i)) T) := by
 obtain ⟨a1, a2, a3⟩ := act_del (x := (-1, 0, f, -1, -1, -1)) h.tr hi
 have hm := (h.mem i).1 hi
 have hF := h.free
 have hlen := nodup_len (n := N.length) (List.nodup_cons.2 ⟨hm.2, hF.2⟩) (fun x hx => by
  rcases List.mem_cons.1 hx with e | e
  ·rw [e]; exact hm.1
  ·exact (hF.1 x e).1)
 rw [List.length_cons] at hlen
 have hfr : frF (N.set i (-1, 0, f, -1, -1, -1)) (N.length + 1) (i : Int) [] = some (i :: F) := by
  have hi0 : nn (N.set i (-1, 0, f, -1, -1, -1)) i = (-1, 0, f, -1, -1, -1) := by rw [nn_set, if_pos ⟨rfl, hm.1⟩]
  rw [frF, if_neg (nz i), Int.toNat_natCast, hi0, if_pos ⟨⟨by omega, by rw [List.length_set]; omega, by simp⟩, rfl⟩]
  have hp := frF_put (M := N.set i (-1, 0, f, -1, -1, -1)) (by rw [List.length_set]) (i := i) h.fr hm.2 (fun x hx _ => by
   rw [nn_set, if_neg (fun e => hm.2 (by rw [e.1]; exact hx))])
  rw [List.length_nil] at hp
  exact frF_more (by omega) hp
 rw [a2] at a3
 have b1 := ok_wr a1 a3 (by rw [List.length_set]; exact hfr) (by rw [List.length_set]; exact h.len)
 exact ⟨a2, by rw [a2]; exact b1⟩
end Go.AX.Tr
end
section
namespace Go.AX.Tr
open Go Go.AX
theorem tset {N : List Nd} {i : Nat} {x : Nd} (h : i < N.length) : Ty.at tN (N.set i x) i = x := by
 show nn (N.set i x) i = x
 rw [nn_set, if_pos ⟨rfl, h⟩]
theorem Insert_full {N : List Nd} {r key prio : Int} {F : List Nat} {T : TT} (h : Ok N r (-1) F T) (hk : 0 ≤ key) (hno : ∀ x ∈ pl T, ky (nn N x) ≠ key) :
  treap_Insert ((N, r, -1), key, prio) = some ((N, r, -1), 0, 6) := by
 have hlen := h.len
 rcases h.tr.find h.free.1 key with ⟨i, n, e1, e2, e3, e4, e5⟩ | ⟨⟨n, e1⟩, e2, _⟩
 ·exact absurd e3 (hno i e2)
 ·unfold treap_Insert treap_Insert_g
  dsimp only
  rw [Right_eq (by omega), Find_eq h, h.rt, e1]
  simp only [cq1]
  rw [if_pos (by omega), if_neg (by decide), if_neg (by decide), if_pos trivial]
theorem Insert_ok {N : List Nd} {r f key prio : Int} {F : List Nat} {T : TT} (h : Ok N r f F T) (hk : 0 ≤ key) (hno : ∀ x ∈ pl T, ky (nn N x) ≠ key) (hf : f ≠ -1) :
  ∃ (i : Nat) (F' : List Nat), f = (i : Int) ∧ F = i :: F' ∧ i < N.length ∧ isE (nn N i) ∧ insN (N.set i (key, prio, -1, -1, -1, -1)) i T = wr (N.set i (key, prio, -1, -1, -1, -1)) (ins (N.set i (key, prio, -1, -1, -1, -1)) i T) ∧ Ok (insN (N.set i (key, prio, -1, -1, -1, -1)) i T) (tp (ins (N.set i (key, prio, -1, -1, -1, -1)) i T)) (lf (nn N i)) F' (ins (N.set i (key, prio, -1, -1, -1, -1)) i T) ∧
   treap_Insert ((N, r, f), key, prio) = some ((insN (N.set i (key, prio, -1, -1, -1, -1)) i T, tp (ins (N.set i (key, prio, -1, -1, -1, -1)) i T), lf (nn N i)), (i : Int), 0) := by
 obtain ⟨i, F', g1, g2, hi, g3, g4, g6, g7⟩ := ins_all h hf (x := (key, prio, -1, -1, -1, -1)) hk hno
 refine ⟨i, F', g1, g2, hi, g3, g6, g7, ?_⟩
 have hlen := h.len
 have hsz := h.siz
 have hr := h.tr.1
 have hi2 : i < (N.set i (key, prio, -1, -1, -1, -1)).length := by rw [List.length_set]; exact hi
 have hin := insert_eq (N := N.set i (key, prio, -1, -1, -1, -1)) (r := r) (f := lf (nn N i)) hi2 g4 (by omega)
 rw [← hr] at hin
 rcases h.tr.find h.free.1 key with ⟨j, n, e1, e2, e3, e4, e5⟩ | ⟨⟨n, e1⟩, e2, _⟩
 ·exact absurd e3 (hno j e2)
 ·clear g7 g6 g4 hno
  have hFi := Find_eq h key
  have hRt := h.rt
  clear h
  subst g1
  unfold treap_Insert treap_Insert_g
  dsimp only
  rw [Right_eq (by omega), hFi, hRt, e1, own_eq (by omega)]
  simp only [cq1, empty_eq, Int.toNat_natCast, List.length_set, List.set_set]
  rw [if_pos (by omega), if_neg (by decide), if_neg (by decide), if_neg (nz i), if_pos (nb hi), if_pos hi, if_pos (nb hi), if_pos hi, if_pos (nb hi), if_pos hi, if_pos (nb hi), if_pos hi]
  simp only [tset hi]
  refine bnd hin ?_
  rfl
theorem found_yes {N : List Nd} {r f key : Int} {F : List Nat} {T : TT} (h : Ok N r f F T) {i : Nat} (hi : i ∈ pl T) (hk : ky (nn N i) = key) : treap_found ((N, r, f), key) = some ((i : Int), 0) ∧ plc key N 0 = (i : Int) := by
 have hlen := h.len
 rcases h.tr.find h.free.1 key with ⟨j, n, e1, e2, e3, e4, e5⟩ | ⟨_, _, hno⟩
 ·have := h.ka.inj j e2 i hi (e3.trans hk.symm)
  subst this
  unfold treap_found treap_found_g
  dsimp only
  rw [Right_eq (by omega), h.rt, Find_eq h, e1]
  exact ⟨rfl, e4⟩
 ·exact absurd hk (hno i hi)
def qh (x : Nd) : Int := x.2.2.2.2.1
def qt (x : Nd) : Int := x.2.2.2.2.2
theorem Delete_ok {N : List Nd} {r f key : Int} {F : List Nat} {T : TT} (h : Ok N r f F T) {i : Nat} (hi : i ∈ pl T) (hk : ky (nn N i) = key) (hq : qh (nn N i) = -1 ∧ qt (nn N i) = -1) :
  treap_Delete ((N, r, f), key) = some (((woN N key T).set i (-1, 0, f, -1, -1, -1), tp (wo N key T), (i : Int)), 0) := by
 have hlen := h.len
 have hm := ((h.mem i).1 hi).1
 have hsz := h.siz
 have hwo := without_eq (N := N) (i := i) (r := r) (f := f) hm h.tr.2.1 h.ka hi (by omega)
 rw [← h.tr.1] at hwo
 rw [hk] at hwo
 have hwl : (woN N key T).length = N.length := woN_ch.len
 unfold treap_Delete treap_Delete_g
 dsimp only
 obtain ⟨e1, e2⟩ := found_yes h hi hk
 rw [e1]
 simp only [cq1, empty_eq, rempty_eq, Int.toNat_natCast]
 have hq1 : (Ty.at tN N i).2.2.2.2.1 = -1 := hq.1
 have hq2 : (Ty.at tN N i).2.2.2.2.2 = -1 := hq.2
 rw [hq1, hq2]
 rw [if_neg (fun h => h trivial), if_pos (nb hm), if_neg (by decide), own_eq (by omega)]
 simp only [Option.bind_some]
 refine bnd hwo ?_
 dsimp only
 rw [if_pos (by omega), if_pos (by omega)]
end Go.AX.Tr
end
section
namespace Go.AX.Tr
open Go Go.AX
theorem ok_uniq {N M : List Nd} {r s f g : Int} {F : List Nat} {T S : TT} (h : Ok N r f F T) (k : Ok M s g F S) (hl : M.length = N.length) (hs : ∀ j, sameN (nn M j) (nn N j)) (ho : ∀ j, j ∉ pl T → nn M j = nn N j) : M = N ∧ s = r ∧ S = T := by
 have hpl : pl T = pl S := by
  refine ka_ext h.ka (List.Pairwise.imp ?_ k.ka) fun x => ?_
  ·intro a b hab; rw [(hs a).1, (hs b).1] at hab; exact hab
  ·rw [h.mem, k.mem, hl]
 have hpr : prF M = prF N := by funext j; exact (hs j).2.1
 have hTS : S = T := by
  have h1 := cart_lst h.tr
  have h2 := cart_lst k.tr
  rw [lst_of h.tr] at h1
  rw [lst_of k.tr, ← hpl, hpr] at h2
  exact h2.symm.trans h1
 subst hTS
 refine ⟨?_, k.tr.1.trans h.tr.1.symm, rfl⟩
 have hc : Ch N M (pl S) := ⟨hl, ho, hs⟩
 rw [eq_wr hc k.tr.2.1 h.nodup, wr_id h.tr.2.1]
end Go.AX.Tr
end
section
namespace Go.AX.Sm
open Go Go.AX
theorem mfd_some {n : Int} : ∀ {L : List (Int × Int × Int)} {p : Int × Int}, mfd n L = some p → (n, p) ∈ L
 | [], _, h => by cases h
 | e :: r, p, h => by
  rw [mfd] at h
  by_cases he : n = e.1
  ·rw [decide_eq_true he] at h
   cases h
   rw [he]
   exact List.mem_cons_self
  ·rw [decide_eq_false he] at h
   exact List.mem_cons_of_mem _ (mfd_some h)
theorem mfd_none {n : Int} : ∀ {L : List (Int × Int × Int)}, mfd n L = none → ∀ e ∈ L, e.1 ≠ n
 | [], _, e, h => by cases h
 | x :: r, h, e, he => by
  rw [mfd] at h
  by_cases hx : n = x.1
  ·rw [decide_eq_true hx] at h; cases h
  ·rw [decide_eq_false hx] at h
   rcases List.mem_cons.1 he with rfl | he
   ·exact fun h => hx h.symm
   ·exact mfd_none h e he
theorem mfd_app {n : Int} {q : Int × Int} : ∀ {L : List (Int × Int × Int)}, mfd n L = none → mfd n (L ++ [(n, q)]) = some q
 | [], _ => by
  show (bif decide (n = n) then _ else _) = _
  rw [decide_eq_true rfl]; rfl
 | x :: r, h => by
  rw [mfd] at h
  show (bif decide (n = x.1) then _ else _) = _
  by_cases hx : n = x.1
  ·rw [decide_eq_true hx] at h; cases h
  ·rw [decide_eq_false hx] at h ⊢
   exact mfd_app h
theorem mfd_rep {n x : Int} {p : Int × Int} : ∀ {L : List (Int × Int × Int)}, mfd n L = some p → mfd n (mrep n x L) = some (x, p.2)
 | [], h => by cases h
 | e :: r, h => by
  rw [mfd] at h
  show mfd n (bif decide (n = e.1) then _ else _) = _
  by_cases hx : n = e.1
  ·rw [decide_eq_true hx] at h ⊢
   cases h
   show (bif decide (n = e.1) then _ else _) = _
   rw [decide_eq_true hx]; rfl
  ·rw [decide_eq_false hx] at h ⊢
   show (bif decide (n = e.1) then _ else _) = _
   rw [decide_eq_false hx]
   exact mfd_rep h
structure MI (M : MapI) (l : List Int) : Prop where
 k : ∀ n, n ∈ l ↔ ∃ e ∈ M.1, e.1 = n
 v : ∀ e ∈ M.1, e.2.1 = 1
 len : M.1.length = l.length
theorem MI.nil {c : Int} : MI ([], c) [] := ⟨by simp, by simp, rfl⟩
theorem MI.get {M : MapI} {l : List Int} (h : MI M l) (n : Int) : mget 0 n M = if n ∈ l then 1 else 0 := by
 unfold mget
 cases hm : mfd n M.1 with
 | some p =>
  have := mfd_some hm
  rw [if_pos ((h.k n).2 ⟨_, this, rfl⟩)]
  exact h.v _ this
 | none =>
  rw [if_neg (fun hn => by obtain ⟨e, he, he2⟩ := (h.k n).1 hn; exact mfd_none hm e he he2)]
theorem MI.new {M : MapI} {l : List Int} (h : MI M l) {n : Int} (hn : n ∉ l) : MI (mset n 1 M) (l ++ [n]) := by
 have hm : mfd n M.1 = none := by
  cases hm : mfd n M.1 with
  | none => rfl
  | some p => exact absurd ((h.k n).2 ⟨_, mfd_some hm, rfl⟩) hn
 have e : mset n 1 M = (M.1 ++ [(n, 1, M.2)], M.2 + 1) := by unfold mset; rw [hm]
 have hk := mfd_none hm
 rw [e]
 refine ⟨fun m => ?_, fun x hx => ?_, by simp [h.len]⟩
 ·dsimp only
  rw [List.mem_append, h.k m]
  constructor
  ·rintro (⟨e, he, rfl⟩ | hm)
   ·exact ⟨e, List.mem_append_left _ he, rfl⟩
   ·rw [List.mem_singleton] at hm
    exact ⟨(n, 1, M.2), by simp, hm.symm⟩
  ·rintro ⟨e, he, rfl⟩
   rcases List.mem_append.1 he with he | he
   ·exact .inl ⟨e, he, rfl⟩
   ·rw [List.mem_singleton] at he; rw [he]; right; simp
 ·rcases List.mem_append.1 hx with hx | hx
  ·exact h.v x hx
  ·rw [List.mem_singleton] at hx; rw [hx]
theorem get_set {M : MapI} {n x : Int} : mget 0 n (mset n x M) = x := by
 unfold mset mget
 cases hm : mfd n M.1 with
 | some p =>
  dsimp only
  rw [mfd_rep hm]
 | none =>
  dsimp only
  rw [mfd_app hm]
end Go.AX.Sm
end
section
namespace Go.AX.Sm
open Go Go.AX
abbrev Nd := Tr.Nd
abbrev LV (rs : List R3) (x : Int) : Prop := 0 ≤ x ∧ x < rs.length ∧ 0 ≤ ky rs x
def PL (rs : List R3) (free h t : Int) : List Int := (queue_Places ((rs, free), h, t)).getD []
theorem PL_eq {rs : List R3} {free h t : Int} (hl : rs.length ≤ 1000000) : queue_Places ((rs, free), h, t) = some (PL rs free h t) ∧ rf8_Places ((rs, free), h, t) = some (PL rs free h t) ∧
  ((∃ f, QOK rs free h t f (PL rs free h t) ∧ queue_Right ((rs, free), h, t) = some true ∧ rf8_Right ((rs, free), h, t) = some true) ∨ (PL rs free h t = [] ∧ queue_Right ((rs, free), h, t) = some false ∧ rf8_Right ((rs, free), h, t) = some false)) := by
 unfold PL
 rcases Q_cases rs free h t hl with ⟨f, l, g⟩ | ⟨h1, h2, h3, h4⟩
 ·rw [g.places, g.rplaces]
  exact ⟨rfl, rfl, .inl ⟨f, g, g.right, g.rright⟩⟩
 ·rw [h3, h4]
  exact ⟨rfl, rfl, .inr ⟨rfl, h1, h2⟩⟩
theorem PL_of {rs : List R3} {free h t : Int} {f l : List Int} (g : QOK rs free h t f l) : PL rs free h t = l := by
 unfold PL; rw [g.places]; rfl
theorem AOK.len' {rs : List R3} {free : Int} {f : List Int} (h : AOK rs free f) : rs.length ≤ 1000000 := by have := h.le; omega
def inr (rs : List R3) (k : Int) : List Int → List Int → Option (List Int)
 | [], acc => some acc
 | x :: l, acc => if ky rs x ≠ k ∨ x ∈ acc ∨ tk rs x ∈ acc.map (tk rs) then none else inr rs k l (acc ++ [x])
theorem inr_iff {rs : List R3} {k : Int} : ∀ {l acc a' : List Int}, (acc.map (tk rs)).Nodup → (inr rs k l acc = some a' ↔ a' = acc ++ l ∧ (∀ x ∈ l, ky rs x = k) ∧ ((acc ++ l).map (tk rs)).Nodup)
 | [], acc, a', hn => by
  simp only [inr, Option.some.injEq, List.append_nil]
  exact ⟨fun h => ⟨h.symm, by simp, hn⟩, fun h => h.1.symm⟩
 | x :: l, acc, a', hn => by
  rw [inr]
  by_cases hc : ky rs x ≠ k ∨ x ∈ acc ∨ tk rs x ∈ acc.map (tk rs)
  ·rw [if_pos hc]
   constructor
   ·intro h; cases h
   ·rintro ⟨_, h1, h2⟩
    exfalso
    have ht : tk rs x ∉ acc.map (tk rs) := fun hm => by
     rw [List.map_append, List.nodup_append] at h2
     exact h2.2.2 _ hm (tk rs x) (by simp) rfl
    rcases hc with hc | hc | hc
    ·exact hc (h1 x (by simp))
    ·exact ht (List.mem_map.2 ⟨x, hc, rfl⟩)
    ·exact ht hc
  ·rw [if_neg hc]
   have h1 : ky rs x = k := Decidable.byContradiction fun h => hc (.inl h)
   have h2 : tk rs x ∉ acc.map (tk rs) := fun h => hc (.inr (.inr h))
   have hn2 : ((acc ++ [x]).map (tk rs)).Nodup := by
    rw [List.map_append, List.nodup_append]
    refine ⟨hn, by simp, fun a ha b hb => ?_⟩
    simp only [List.map_cons, List.map_nil, List.mem_singleton] at hb
    rw [hb]; exact fun e => h2 (e ▸ ha)
   rw [inr_iff hn2, List.append_assoc, List.singleton_append]
   constructor
   ·rintro ⟨g1, g2, g3⟩
    refine ⟨g1, fun y hy => ?_, g3⟩
    rcases List.mem_cons.1 hy with rfl | hy
    ·exact h1
    ·exact g2 y hy
   ·rintro ⟨g1, g2, g3⟩
    exact ⟨g1, fun y hy => g2 y (List.mem_cons_of_mem _ hy), g3⟩
def NP (rs : List R3) (free : Int) (n : Nd) : List Int := PL rs free (Tr.qh n) (Tr.qt n)
def otr (rs : List R3) (free : Int) : List Nd → List Int → Option (List Int)
 | [], acc => some acc
 | n :: N, acc => if Tr.ky n = -1 then otr rs free N acc else if NP rs free n = [] then none else (inr rs (Tr.ky n) (NP rs free n) acc).bind (otr rs free N)
def rowF (rs : List R3) (free : Int) (n : Nd) : List Int := if Tr.ky n = -1 then [] else NP rs free n
def rowsAll (rs : List R3) (free : Int) (N : List Nd) : List Int := N.flatMap (rowF rs free)
def GoodN (rs : List R3) (free : Int) (n : Nd) : Prop := Tr.ky n ≠ -1 → NP rs free n ≠ [] ∧ ∀ x ∈ NP rs free n, ky rs x = Tr.ky n
theorem otr_iff {rs : List R3} {free : Int} : ∀ {N : List Nd} {acc a' : List Int}, (acc.map (tk rs)).Nodup → (otr rs free N acc = some a' ↔ a' = acc ++ rowsAll rs free N ∧ (∀ n ∈ N, GoodN rs free n) ∧ (a'.map (tk rs)).Nodup)
 | [], acc, a', hn => by
  simp only [otr, Option.some.injEq, rowsAll, List.flatMap_nil, List.append_nil]
  constructor
  ·rintro rfl; exact ⟨rfl, by simp, hn⟩
  ·exact fun h => h.1.symm
 | n :: N, acc, a', hn => by
  rw [otr]
  have e : rowsAll rs free (n :: N) = rowF rs free n ++ rowsAll rs free N := by unfold rowsAll; rw [List.flatMap_cons]
  rw [e]
  unfold rowF
  by_cases hk : Tr.ky n = -1
  ·rw [if_pos hk, if_pos hk, otr_iff hn, List.nil_append]
   constructor
   ·rintro ⟨g1, g2, g3⟩
    refine ⟨g1, fun m hm => ?_, g3⟩
    rcases List.mem_cons.1 hm with rfl | hm
    ·exact fun h => absurd hk h
    ·exact g2 m hm
   ·rintro ⟨g1, g2, g3⟩
    exact ⟨g1, fun m hm => g2 m (List.mem_cons_of_mem _ hm), g3⟩
  ·rw [if_neg hk, if_neg hk]
   by_cases hp : NP rs free n = []
   ·rw [if_pos hp]
    constructor
    ·intro h; cases h
    ·rintro ⟨_, g2, _⟩
     exact absurd hp (g2 n (by simp) hk).1
   ·rw [if_neg hp]
    constructor
    ·intro h
     obtain ⟨b, hb, h⟩ := Option.bind_eq_some_iff.1 h
     obtain ⟨e1, e2, e3⟩ := (inr_iff hn).1 hb
     subst e1
     obtain ⟨g1, g2, g3⟩ := (otr_iff e3).1 h
     rw [List.append_assoc] at g1
     refine ⟨g1, fun m hm => ?_, g3⟩
     rcases List.mem_cons.1 hm with rfl | hm
     ·exact fun _ => ⟨hp, e2⟩
     ·exact g2 m hm
    ·rintro ⟨g1, g2, g3⟩
     have hd : ((acc ++ NP rs free n).map (tk rs)).Nodup := by
      rw [g1, ← List.append_assoc, List.map_append] at g3
      exact (List.nodup_append.1 g3).1
     rw [(inr_iff hn).2 ⟨rfl, (g2 n (by simp) hk).2, hd⟩]
     show otr rs free N _ = _
     rw [otr_iff hd, List.append_assoc]
     exact ⟨g1, fun m hm => g2 m (List.mem_cons_of_mem _ hm), g3⟩
structure SOK (rs : List R3) (free : Int) (N : List Nd) (r f : Int) (fa : List Int) (F : List Nat) (T : Tr.TT) : Prop where
 a : AOK rs free fa
 t : Tr.Ok N r f F T
 q : ∀ i ∈ Tr.pl T, NP rs free (Tr.nn N i) ≠ [] ∧ QOK rs free (Tr.qh (Tr.nn N i)) (Tr.qt (Tr.nn N i)) fa (NP rs free (Tr.nn N i)) ∧ ∀ x ∈ NP rs free (Tr.nn N i), ky rs x = Tr.ky (Tr.nn N i)
 u : ∀ x y, LV rs x → LV rs y → tk rs x = tk rs y → x = y
 all : ∀ x, LV rs x → ∃ i ∈ Tr.pl T, x ∈ NP rs free (Tr.nn N i)
theorem nn_mem {N : List Nd} {i : Nat} (h : i < N.length) : Tr.nn N i ∈ N := by
 show N.getD i _ ∈ N
 rw [List.getD_eq_getElem?_getD, List.getElem?_eq_getElem h]
 exact List.getElem_mem h
theorem nn_get {N : List Nd} {i : Nat} (h : i < N.length) : N[i] = Tr.nn N i := by
 show _ = N.getD i _
 rw [List.getD_eq_getElem?_getD, List.getElem?_eq_getElem h]
 rfl
theorem mem_nn {N : List Nd} {n : Nd} (h : n ∈ N) : ∃ i, i < N.length ∧ Tr.nn N i = n := by
 obtain ⟨i, hi, e⟩ := List.mem_iff_getElem.1 h
 exact ⟨i, hi, (nn_get hi).symm.trans e⟩
section
variable {rs : List R3} {free : Int} {N : List Nd} {r f : Int} {fa : List Int} {F : List Nat} {T : Tr.TT}
theorem live_pl (hT : Tr.Ok N r f F T) {i : Nat} (hi : i < N.length) : Tr.ky (Tr.nn N i) ≠ -1 ↔ i ∈ Tr.pl T := by
 rw [hT.mem]
 constructor
 ·intro hk
  refine ⟨hi, fun hF => hk ?_⟩
  have := (hT.free.1 i hF).2
  unfold Tr.isE at this
  rw [this]; rfl
 ·intro h
  have := hT.key i ((hT.mem i).2 h)
  omega
theorem NP_live (hA : AOK rs free fa) {n : Nd} : ∀ x ∈ NP rs free n, LV rs x := by
 intro x hx
 rcases (PL_eq (rs := rs) (free := free) (h := Tr.qh n) (t := Tr.qt n) (AOK.len' hA)).2.2 with ⟨g, hg, _⟩ | ⟨h1, _⟩
 ·exact hg.live hx
 ·unfold NP at hx; rw [h1] at hx; cases hx
theorem rows_live (hA : AOK rs free fa) : ∀ x ∈ rowsAll rs free N, LV rs x := by
 intro x hx
 unfold rowsAll at hx
 obtain ⟨n, _, hx⟩ := List.mem_flatMap.1 hx
 unfold rowF at hx
 split at hx
 ·cases hx
 ·exact NP_live hA x hx
theorem SOK.scan (h : SOK rs free N r f fa F T) : otr rs free N [] = some (rowsAll rs free N) ∧ ∀ x, LV rs x → x ∈ rowsAll rs free N := by
 have hp : ∀ i, i < N.length → Tr.ky (Tr.nn N i) ≠ -1 → i ∈ Tr.pl T := fun i hi hk => (live_pl h.t hi).1 hk
 constructor
 ·rw [otr_iff (by simp), List.nil_append]
  refine ⟨rfl, fun n hn hk => ?_, ?_⟩
  ·obtain ⟨i, hi, rfl⟩ := mem_nn hn
   have := h.q i (hp i hi hk)
   exact ⟨this.1, this.2.2⟩
  ·unfold rowsAll List.Nodup
   rw [List.pairwise_map, List.pairwise_flatMap]
   have hlv : ∀ n, ∀ x ∈ rowF rs free n, LV rs x := fun n x hx => by
    unfold rowF at hx
    split at hx
    ·cases hx
    ·exact NP_live h.a x hx
   constructor
   ·intro n hn
    have hd : (rowF rs free n).Nodup := by
     obtain ⟨i, hi, rfl⟩ := mem_nn hn
     unfold rowF
     by_cases hk : Tr.ky (Tr.nn N i) = -1
     ·rw [if_pos hk]; exact List.nodup_nil
     ·rw [if_neg hk]; exact (h.q i (hp i hi hk)).2.1.q.nodup
    exact List.Pairwise.imp_of_mem (fun {a b} ha hb hab e => hab (h.u a b (hlv n a ha) (hlv n b hb) e)) hd
   ·rw [List.pairwise_iff_getElem]
    intro i j hi hj hij x hx y hy e
    rw [nn_get hi] at hx
    rw [nn_get hj] at hy
    have hxy : x = y := h.u x y (hlv _ x hx) (hlv _ y hy) e
    subst hxy
    unfold rowF at hx hy
    by_cases hki : Tr.ky (Tr.nn N i) = -1
    ·rw [if_pos hki] at hx; cases hx
    ·by_cases hkj : Tr.ky (Tr.nn N j) = -1
     ·rw [if_pos hkj] at hy; cases hy
     ·rw [if_neg hki] at hx
      rw [if_neg hkj] at hy
      have h1 := (h.q i (hp i hi hki)).2.2 x hx
      have h2 := (h.q j (hp j hj hkj)).2.2 x hy
      have := h.t.ka.inj i (hp i hi hki) j (hp j hj hkj) (h1.symm.trans h2)
      omega
 ·intro x hx
  obtain ⟨i, hi, hx⟩ := h.all x hx
  have hi2 := (h.t.mem i).1 hi
  unfold rowsAll
  refine List.mem_flatMap.2 ⟨_, nn_mem hi2.1, ?_⟩
  unfold rowF
  rw [if_neg ((live_pl h.t hi2.1).2 hi)]
  exact hx
theorem sub_len : ∀ {l m : List Int}, l.Nodup → (∀ x ∈ l, x ∈ m) → l.length ≤ m.length
 | [], m, _, _ => Nat.zero_le _
 | x :: l, m, hn, hs => by
  rw [List.nodup_cons] at hn
  have h1 := hs x (by simp)
  have h2 : l.length ≤ (m.erase x).length := sub_len hn.2 fun y hy => by
   have hne : y ≠ x := fun e => hn.1 (e ▸ hy)
   exact (List.mem_erase_of_ne hne).2 (hs y (by simp [hy]))
  have h3 := List.length_erase_of_mem h1
  have h4 : 0 < m.length := List.length_pos_of_mem h1
  simp only [List.length_cons]
  omega
theorem count_all (hA : AOK rs free fa) {acc : List Int} (hn : acc.Nodup) (hl : ∀ x ∈ acc, LV rs x) : acc.length + fa.length = rs.length ↔ ∀ x, LV rs x → x ∈ acc := by
 have hfn := hA.ch.nodup
 have hd : (acc ++ fa).Nodup := by
  rw [List.nodup_append]
  refine ⟨hn, hfn, fun a ha b hb e => ?_⟩
  have h1 := hl a ha
  have h2 := hA.mem.1 hb
  subst e
  have := h1.2.2
  omega
 have hr : ∀ x ∈ acc ++ fa, 0 ≤ x ∧ x < rs.length := fun x hx => by
  rcases List.mem_append.1 hx with hx | hx
  ·exact ⟨(hl x hx).1, (hl x hx).2.1⟩
  ·exact ⟨(hA.mem.1 hx).1, (hA.mem.1 hx).2.1⟩
 constructor
 ·intro he x hx
  refine Decidable.byContradiction fun hno => ?_
  have hx2 : x ∉ fa := fun h => by have := (hA.mem.1 h).2.2; have := hx.2.2; omega
  have := nodup_le (m := rs.length) (l := x :: (acc ++ fa)) (List.nodup_cons.2 ⟨by rw [List.mem_append]; exact fun h => h.elim hno hx2, hd⟩) (fun y hy => by
   rcases List.mem_cons.1 hy with rfl | hy
   ·exact ⟨hx.1, hx.2.1⟩
   ·exact hr y hy)
  simp only [List.length_cons, List.length_append] at this
  omega
 ·intro hall
  have h1 := nodup_le (m := rs.length) hd hr
  have h2 : (ints rs.length).length ≤ (acc ++ fa).length := sub_len (by
   unfold ints List.Nodup
   rw [List.pairwise_map]
   exact List.Pairwise.imp (fun {a b} h e => h (by omega)) List.nodup_range) fun x hx => by
   unfold ints at hx
   obtain ⟨i, hi, rfl⟩ := List.mem_map.1 hx
   rw [List.mem_range] at hi
   rw [List.mem_append]
   by_cases hk : 0 ≤ ky rs i
   ·exact .inl (hall _ ⟨by omega, by omega, hk⟩)
   ·exact .inr (hA.mem.2 ⟨by omega, by omega, by omega⟩)
  have h3 : (ints rs.length).length = rs.length := by unfold ints; simp
  rw [List.length_append] at h1 h2
  omega
end
end Go.AX.Sm
end
section
namespace Go.AX.Sm
open Go Go.AX
def TM (N : List Nd) (T : Tr.TT) (k h t : Int) : Prop := ∃ i ∈ Tr.pl T, Tr.ky (Tr.nn N i) = k ∧ Tr.qh (Tr.nn N i) = h ∧ Tr.qt (Tr.nn N i) = t
def hup (x : Nd) (a b : Int) : Nd := (x.1, x.2.1, x.2.2.1, x.2.2.2.1, a, b)
theorem same_q {x y : Nd} (h : Tr.sameN x y) : Tr.ky x = Tr.ky y ∧ Tr.qh x = Tr.qh y ∧ Tr.qt x = Tr.qt y := ⟨h.1, congrArg Prod.fst h.2.2, congrArg Prod.snd h.2.2⟩
theorem rep_lr {N M : List Nd} (hl : M.length = N.length) (h : ∀ j, Tr.lf (Tr.nn M j) = Tr.lf (Tr.nn N j) ∧ Tr.rt (Tr.nn M j) = Tr.rt (Tr.nn N j)) : ∀ {T : Tr.TT}, Tr.Rep N T → Tr.Rep M T
 | .nil, _ => trivial
 | .nd l i r, ⟨h1, h2, h3, h4, h5⟩ => ⟨by omega, (h i).1.trans h2, (h i).2.trans h3, rep_lr hl h h4, rep_lr hl h h5⟩
theorem hp_kp {N M : List Nd} (h : ∀ j, Tr.pri (Tr.nn M j) = Tr.pri (Tr.nn N j) ∧ Tr.ky (Tr.nn M j) = Tr.ky (Tr.nn N j)) : ∀ {T : Tr.TT} {top top' : Option Nd}, (∀ t', top' = some t' → ∃ t, top = some t ∧ Tr.pri t = Tr.pri t' ∧ Tr.ky t = Tr.ky t') → Tr.Hp N T top → Tr.Hp M T top'
 | .nil, _, _, _, _ => trivial
 | .nd l i r, top, top', ht, ⟨h1, h2, h3⟩ => by
  refine ⟨fun t' e => ?_, hp_kp h ?_ h2, hp_kp h ?_ h3⟩
  ·obtain ⟨t, e1, e2, e3⟩ := ht t' e
   have := h1 t e1
   unfold Tr.abv at this ⊢
   rw [(h i).1, (h i).2, ← e2, ← e3]
   exact this
  ·intro t' e; cases e; exact ⟨_, rfl, (h i).1.symm, (h i).2.symm⟩
  ·intro t' e; cases e; exact ⟨_, rfl, (h i).1.symm, (h i).2.symm⟩
section
variable {N : List Nd} {r f : Int} {F : List Nat} {T : Tr.TT}
theorem TM.det (h : Tr.Ok N r f F T) {k a b a' b' : Int} (h1 : TM N T k a b) (h2 : TM N T k a' b') : a = a' ∧ b = b' := by
 obtain ⟨i, hi, e1, e2, e3⟩ := h1
 obtain ⟨j, hj, g1, g2, g3⟩ := h2
 have := h.ka.inj i hi j hj (e1.trans g1.symm)
 subst this
 exact ⟨e2.symm.trans g2, e3.symm.trans g3⟩
theorem hang_ok (h : Tr.Ok N r f F T) {i : Nat} (hi : i ∈ Tr.pl T) {key a b : Int} (hk : Tr.ky (Tr.nn N i) = key) :
  treap_Hang ((N, r, f), key, a, b) = some ((N.set i (hup (Tr.nn N i) a b), r, f), 0) ∧
  Tr.Ok (N.set i (hup (Tr.nn N i) a b)) r f F T ∧ ∀ k x y, TM (N.set i (hup (Tr.nn N i) a b)) T k x y ↔ (k = key ∧ x = a ∧ y = b) ∨ (k ≠ key ∧ TM N T k x y) := by
 have hlen := h.len
 have hm := ((h.mem i).1 hi).1
 have hnn : ∀ j, Tr.nn (N.set i (hup (Tr.nn N i) a b)) j = if j = i then hup (Tr.nn N i) a b else Tr.nn N j := fun j => by
  rw [Tr.nn_set]
  by_cases e : i = j
  ·rw [if_pos ⟨e, hm⟩, if_pos e.symm]
  ·rw [if_neg (fun h => e h.1), if_neg (fun h => e h.symm)]
 have hkp : ∀ j, Tr.pri (Tr.nn (N.set i (hup (Tr.nn N i) a b)) j) = Tr.pri (Tr.nn N j) ∧ Tr.ky (Tr.nn (N.set i (hup (Tr.nn N i) a b)) j) = Tr.ky (Tr.nn N j) := fun j => by
  rw [hnn]; split
  ·rename_i e; rw [e]; exact ⟨rfl, rfl⟩
  ·exact ⟨rfl, rfl⟩
 have hlr : ∀ j, Tr.lf (Tr.nn (N.set i (hup (Tr.nn N i) a b)) j) = Tr.lf (Tr.nn N j) ∧ Tr.rt (Tr.nn (N.set i (hup (Tr.nn N i) a b)) j) = Tr.rt (Tr.nn N j) := fun j => by
  rw [hnn]; split
  ·rename_i e; rw [e]; exact ⟨rfl, rfl⟩
  ·exact ⟨rfl, rfl⟩
 have hll : (N.set i (hup (Tr.nn N i) a b)).length = N.length := List.length_set
 obtain ⟨e1, e2⟩ := Tr.found_yes h hi hk
 have hR := h.rt
 refine ⟨?_, ⟨by omega, ?_, h.tr.1, rep_lr hll hlr h.tr.2.1, Tr.bst_same (fun j => (hkp j).2) h.tr.2.2.1, hp_kp hkp (fun t' e => by cases e) h.tr.2.2.2.1, h.nodup, fun x => by rw [hll]; exact h.mem x⟩, fun k x y => ?_⟩
 ·unfold treap_Hang treap_Hang_g
  dsimp only
  rw [e1]
  simp only [cq1, Int.toNat_natCast]
  rw [if_neg (fun h => h trivial), Tr.own_eq (by omega)]
  simp only [Option.bind_some]
  rw [if_pos (Tr.nb hm), if_pos hm]
  rfl
 ·rw [hll]
  obtain ⟨G, g1, g2⟩ := Tr.frF_shift (acc' := []) hll (by simp) h.fr (fun x hx _ => by rw [hnn, if_neg (fun (e : x = i) => ((h.mem i).1 hi).2 (e ▸ hx))])
  rw [g2, g1]
 ·constructor
  ·rintro ⟨j, hj, g1, g2, g3⟩
   rw [hnn] at g1 g2 g3
   by_cases e : j = i
   ·subst e
    rw [if_pos rfl] at g1 g2 g3
    exact .inl ⟨g1.symm.trans hk, g2.symm, g3.symm⟩
   ·rw [if_neg e] at g1 g2 g3
    refine .inr ⟨fun ek => e (h.ka.inj j hj i hi ?_), j, hj, g1, g2, g3⟩
    rw [g1, hk, ek]
  ·rintro (⟨rfl, rfl, rfl⟩ | ⟨hne, j, hj, g1, g2, g3⟩)
   ·refine ⟨i, hi, ?_⟩
    rw [hnn, if_pos rfl]
    exact ⟨hk, rfl, rfl⟩
   ·refine ⟨j, hj, ?_⟩
    rw [hnn, if_neg (fun e => hne (by rw [← g1, e, hk]))]
    exact ⟨g1, g2, g3⟩
theorem insert_tm (h : Tr.Ok N r f F T) {key prio : Int} (hk : 0 ≤ key) (hno : ∀ x ∈ Tr.pl T, Tr.ky (Tr.nn N x) ≠ key) (hf : f ≠ -1) :
  ∃ (M : List Nd) (s g : Int) (i : Nat) (G : List Nat) (S : Tr.TT), treap_Insert ((N, r, f), key, prio) = some ((M, s, g), (i : Int), 0) ∧ Tr.Ok M s g G S ∧ M.length = N.length ∧ F = i :: G ∧
   (i ∈ Tr.pl S ∧ Tr.ky (Tr.nn M i) = key ∧ Tr.qh (Tr.nn M i) = -1 ∧ Tr.qt (Tr.nn M i) = -1) ∧ (∀ k x y, TM M S k x y ↔ (k = key ∧ x = -1 ∧ y = -1) ∨ TM N T k x y) ∧ treap_Delete ((M, s, g), key) = some ((N, r, f), 0) := by
 obtain ⟨i, F', g1, g2, hi, g3, g4, g5, g6⟩ := Tr.Insert_ok (prio := prio) h hk hno hf
 have hpl := Tr.ins_pl (N := N.set i (key, prio, -1, -1, -1, -1)) (i := i) (T := T)
 have hi1 : Tr.nn (N.set i (key, prio, -1, -1, -1, -1)) i = (key, prio, -1, -1, -1, -1) := by rw [Tr.nn_set, if_pos ⟨rfl, hi⟩]
 have hsm : ∀ j, Tr.sameN (Tr.nn (Tr.insN (N.set i (key, prio, -1, -1, -1, -1)) i T) j) (Tr.nn (N.set i (key, prio, -1, -1, -1, -1)) j) := fun j => by rw [g4]; exact Tr.wr_same
 have hML : (Tr.insN (N.set i (key, prio, -1, -1, -1, -1)) i T).length = N.length := by rw [Tr.insN_ch.len, List.length_set]
 have hout : ∀ j, j ≠ i → j ∉ Tr.pl T → Tr.nn (Tr.insN (N.set i (key, prio, -1, -1, -1, -1)) i T) j = Tr.nn N j := fun j hj hjT => by
  rw [g4, Tr.wr_out (fun hx => by
   rcases List.mem_cons.1 (hpl.mem_iff.1 hx) with e | e
   ·exact hj e
   ·exact hjT e), Tr.nn_set, if_neg (fun e => hj e.1.symm)]
 have hsmN : ∀ j, j ≠ i → Tr.sameN (Tr.nn (Tr.insN (N.set i (key, prio, -1, -1, -1, -1)) i T) j) (Tr.nn N j) := fun j hj => by
  have := hsm j
  rw [Tr.nn_set, if_neg (fun e => hj e.1.symm)] at this
  exact this
 have hiT1 : i ∈ Tr.pl (Tr.ins (N.set i (key, prio, -1, -1, -1, -1)) i T) := hpl.mem_iff.2 List.mem_cons_self
 have hmT1 : ∀ j, j ∈ Tr.pl (Tr.ins (N.set i (key, prio, -1, -1, -1, -1)) i T) ↔ j = i ∨ j ∈ Tr.pl T := fun j => by rw [hpl.mem_iff, List.mem_cons]
 have hsi := hsm i
 rw [hi1] at hsi
 have hiT : i ∉ Tr.pl T := fun e => ((h.mem i).1 e).2 (by rw [g2]; exact List.mem_cons_self)
 generalize Tr.insN (N.set i (key, prio, -1, -1, -1, -1)) i T = M at *
 generalize Tr.ins (N.set i (key, prio, -1, -1, -1, -1)) i T = S at *
 have hki : Tr.ky (Tr.nn M i) = key := hsi.1
 have hqi : Tr.qh (Tr.nn M i) = -1 ∧ Tr.qt (Tr.nn M i) = -1 := by
  have := hsi.2.2
  exact ⟨congrArg Prod.fst this, congrArg Prod.snd this⟩
 refine ⟨M, _, _, i, F', S, g6, g5, hML, g2, ⟨hiT1, hki, hqi.1, hqi.2⟩, fun k x y => ?_, ?_⟩
 ·constructor
  ·rintro ⟨j, hj, e1, e2, e3⟩
   rcases (hmT1 j).1 hj with rfl | hj2
   ·exact .inl ⟨e1.symm.trans hki, e2.symm.trans hqi.1, e3.symm.trans hqi.2⟩
   ·have hji : j ≠ i := fun e => hiT (e ▸ hj2)
    obtain ⟨q1, q2, q3⟩ := same_q (hsmN j hji)
    exact .inr ⟨j, hj2, q1.symm.trans e1, q2.symm.trans e2, q3.symm.trans e3⟩
  ·rintro (⟨rfl, rfl, rfl⟩ | ⟨j, hj, e1, e2, e3⟩)
   ·exact ⟨i, hiT1, hki, hqi.1, hqi.2⟩
   ·have hji : j ≠ i := fun e => hiT (e ▸ hj)
    obtain ⟨q1, q2, q3⟩ := same_q (hsmN j hji)
    exact ⟨j, (hmT1 j).2 (.inr hj), q1.trans e1, q2.trans e2, q3.trans e3⟩
 ·have hD := Tr.Delete_ok g5 hiT1 hki hqi
  obtain ⟨d2, d3⟩ := Tr.del_all g5 hiT1
  rw [hki] at d2 d3
  have hM0 : ∀ x, x ≠ i → Tr.nn (M.set i (-1, 0, Tr.lf (Tr.nn N i), -1, -1, -1)) x = Tr.nn M x := fun x hx => by rw [Tr.nn_set, if_neg (fun e => hx e.1.symm)]
  have hM1 : Tr.nn (M.set i (-1, 0, Tr.lf (Tr.nn N i), -1, -1, -1)) i = Tr.nn N i := by rw [Tr.nn_set, if_pos ⟨rfl, by omega⟩]; exact g3.symm
  subst g2
  have hu := Tr.ok_uniq h d3 (by rw [List.length_set, Tr.woN_ch.len]; exact hML) (fun x => by
   rw [d2]
   refine (Tr.wr_same).trans ?_
   by_cases hx : x = i
   ·subst hx; rw [hM1]; exact ⟨rfl, rfl, rfl⟩
   ·rw [hM0 x hx]; exact hsmN x hx) (fun x hx => by
   rw [d2]
   have hpw : x ∉ Tr.pl (Tr.wo M key S) := fun hx2 => by
    have h1 := (d3.mem x).1 hx2
    have h2 := (not_congr (h.mem x)).1 hx
    rw [List.length_set, Tr.woN_ch.len, hML] at h1
    exact h2 h1
   rw [Tr.wr_out hpw]
   by_cases hxj : x = i
   ·subst hxj; exact hM1
   ·rw [hM0 x hxj]; exact hout x hxj hx)
  rw [hu.1, hu.2.1, ← g1] at hD
  exact hD
theorem delete_tm (h : Tr.Ok N r f F T) {i : Nat} (hi : i ∈ Tr.pl T) {key : Int} (hk : Tr.ky (Tr.nn N i) = key) (hq : Tr.qh (Tr.nn N i) = -1 ∧ Tr.qt (Tr.nn N i) = -1) :
  ∃ (M : List Nd) (s g : Int) (S : Tr.TT), treap_Delete ((N, r, f), key) = some ((M, s, g), 0) ∧ Tr.Ok M s g (i :: F) S ∧ M.length = N.length ∧ ∀ k x y, TM M S k x y ↔ (k ≠ key ∧ TM N T k x y) := by
 have a := Tr.Delete_ok h hi hk hq
 obtain ⟨d2, d3⟩ := Tr.del_all h hi
 rw [hk] at d2 d3
 refine ⟨_, _, _, _, a, d3, by rw [List.length_set, Tr.woN_ch.len], fun k x y => ?_⟩
 have hpl := Tr.wo_pl (k := key) h.ka
 have hsm : ∀ j, j ≠ i → Tr.sameN (Tr.nn ((Tr.woN N key T).set i (-1, 0, f, -1, -1, -1)) j) (Tr.nn N j) := fun j hj => by
  rw [d2]
  have := Tr.wr_same (T := Tr.wo N key T) (N := N.set i (-1, 0, f, -1, -1, -1)) (j := j)
  rw [Tr.nn_set, if_neg (fun e => hj e.1.symm)] at this
  exact this
 constructor
 ·rintro ⟨j, hj, e1, e2, e3⟩
  rw [hpl, List.mem_filter, decide_eq_true_eq] at hj
  have hji : j ≠ i := fun e => hj.2 (e ▸ hk)
  obtain ⟨q1, q2, q3⟩ := same_q (hsm j hji)
  exact ⟨fun e => hj.2 (by rw [← q1, e1, e]), j, hj.1, q1.symm.trans e1, q2.symm.trans e2, q3.symm.trans e3⟩
 ·rintro ⟨hne, j, hj, e1, e2, e3⟩
  have hji : j ≠ i := fun e => hne (by rw [← e1, e, hk])
  obtain ⟨q1, q2, q3⟩ := same_q (hsm j hji)
  refine ⟨j, ?_, q1.trans e1, q2.trans e2, q3.trans e3⟩
  rw [hpl, List.mem_filter, decide_eq_true_eq]
  exact ⟨hj, fun e => hne (by rw [← e1, e])⟩
end
end Go.AX.Sm
end
section
namespace Go.AX.Sm
open Go Go.AX
def SX {σ O : Type} (Inv : σ → Prop) (μ : σ → Nat) (Q : O → Prop) (s : σ) (x : Option (σ ⊕ O)) : Prop := (∃ o, x = some (.inr o) ∧ Q o) ∨ ∃ s', x = some (.inl s') ∧ μ s' < μ s ∧ Inv s'
theorem LOOP_bind {σ O R : Type} {f : σ → Option (σ ⊕ O)} {s : σ} {k : O → Option R} {y : Option R} (Inv : σ → Prop) (μ : σ → Nat) (Q : O → Prop)
  (h : ∀ s, Inv s → SX Inv μ Q s (f s)) (hi : Inv s) (hm : μ s < FUEL) (hk : ∀ o, Q o → k o = y) : (LOOPx σ O f s).bind k = y := by
 obtain ⟨o, h1, h2⟩ := LOOP_ex Inv μ Q h hi hm
 rw [h1]; exact hk o h2
theorem SX_inr {σ O : Type} {Inv : σ → Prop} {μ : σ → Nat} {Q : O → Prop} {s : σ} {o : O} (h : Q o) : SX Inv μ Q s (some (.inr o)) := .inl ⟨o, rfl, h⟩
theorem SX_inl {σ O : Type} {Inv : σ → Prop} {μ : σ → Nat} {Q : O → Prop} {s s' : σ} (h : μ s' < μ s) (h2 : Inv s') : SX Inv μ Q s (some (.inl s')) := .inr ⟨s', rfl, h, h2⟩
theorem SX_bind {σ O α : Type} {Inv : σ → Prop} {μ : σ → Nat} {Q : O → Prop} {s : σ} {x : Option α} {r : α} {k : α → Option (σ ⊕ O)} (h : x = some r) (h2 : SX Inv μ Q s (k r)) : SX Inv μ Q s (x.bind k) := by rw [h]; exact h2
theorem SX_loop {σ O τ : Type} {Inv : σ → Prop} {μ : σ → Nat} {Q : O → Prop} {s : σ} {g : τ → Option (τ ⊕ (σ ⊕ O))} {t : τ} (Inv' : τ → Prop) (μ' : τ → Nat) (Q' : (σ ⊕ O) → Prop)
  (h : ∀ s, Inv' s → SX Inv' μ' Q' s (g s)) (hi : Inv' t) (hm : μ' t < FUEL) (hk : ∀ o, Q' o → SX Inv μ Q s (some o)) : SX Inv μ Q s (LOOPx τ (σ ⊕ O) g t) := by
 obtain ⟨o, h1, h2⟩ := LOOP_ex Inv' μ' Q' h hi hm
 rw [h1]; exact hk o h2
theorem LOOP_is {σ O : Type} {f : σ → Option (σ ⊕ O)} {s : σ} {y : O} (Inv : σ → Prop) (μ : σ → Nat) (Q : O → Prop) (h : ∀ s, Inv s → SX Inv μ Q s (f s)) (hi : Inv s) (hm : μ s < FUEL) (hk : ∀ o, Q o → o = y) : LOOPx σ O f s = some y := by
 obtain ⟨o, h1, h2⟩ := LOOP_ex Inv μ Q h hi hm
 rw [h1, hk o h2]
theorem aFree_eq {rs : List R3} {free : Int} {fa : List Int} (hA : AOK rs free fa) : arena_Free (rs, free) = some fa := by
 unfold arena_Free arena_Free_g
 dsimp only
 rw [hA.right, list_eq rs free (AOK.len' hA)]
 simp only [cq1]
 rw [if_neg (by decide)]
 simp only [wres, wlk_iff.2 hA.ch, List.nil_append]
structure CN (rs : List R3) (MT MP : MapI) (acc : List Int) : Prop where
 t : MI MT (acc.map (tk rs))
 p : MI MP acc
 n : (acc.map (tk rs)).Nodup
theorem CN.le {rs : List R3} {MT MP : MapI} {acc : List Int} {fa : List Int} {free : Int} (h : CN rs MT MP acc) (hA : AOK rs free fa) (hl : ∀ x ∈ acc, LV rs x) : acc.length ≤ 64 := by
 have hn : acc.Nodup := by
  have := h.n
  unfold List.Nodup at this
  rw [List.pairwise_map] at this
  exact List.Pairwise.imp (fun {a b} hab e => hab (by rw [e])) this
 have := nodup_le (m := rs.length) hn fun x hx => ⟨(hl x hx).1, (hl x hx).2.1⟩
 have := hA.le
 omega
theorem CN.next {rs : List R3} {MT MP : MapI} {acc : List Int} (h : CN rs MT MP acc) {x : Int} (hx : x ∉ acc) (ht : tk rs x ∉ acc.map (tk rs)) : CN rs (mset (tk rs x) 1 MT) (mset x 1 MP) (acc ++ [x]) := by
 refine ⟨?_, h.p.new hx, ?_⟩
 ·rw [List.map_append]; exact h.t.new ht
 ·rw [List.map_append, List.nodup_append]
  refine ⟨h.n, by simp, fun a ha b hb => ?_⟩
  simp only [List.map_cons, List.map_nil, List.mem_singleton] at hb
  rw [hb]; exact fun e => ht (e ▸ ha)
section
variable {rs : List R3} {free : Int} {N : List Nd} {r f : Int} {fa : List Int} {F : List Nat} {T : Tr.TT}
abbrev TAB := List R3 × Int × List Nd × Int × Int
def ans (x : Option (List Int)) (p : List Int → Bool) : Bool := match x with | some acc => p acc | none => false
theorem inr_step {k : Int} {l acc : List Int} {j : Nat} (hj : j < l.length) : inr rs k (l.drop j) acc = if ky rs (Ty.at (Ty.int IntKind.i64) l j) ≠ k ∨ Ty.at (Ty.int IntKind.i64) l j ∈ acc ∨ tk rs (Ty.at (Ty.int IntKind.i64) l j) ∈ acc.map (tk rs) then none else inr rs k (l.drop (j + 1)) (acc ++ [Ty.at (Ty.int IntKind.i64) l j]) := by
 rw [drop_at (T := (Ty.int IntKind.i64)) hj]; rfl
theorem sRight_eq (hA : AOK rs free fa) (hT : Tr.Ok N r f F T) : sema_Right (rs, free, N, r, f) = some (ans (otr rs free N []) fun acc => decide (acc.length + fa.length = rs.length)) := by
 have hle := hA.le
 have hlen := hT.len
 unfold sema_Right sema_Right_g
 dsimp only
 rw [hA.right, Tr.Right_eq (by omega), hT.rt]
 simp only [cq1]
 rw [if_pos trivial, if_neg (by decide)]
 refine LOOP_bind (fun s : (List Nd × Int × Int) × TAB × MapI × MapI => ∃ (i : Nat) (acc : List Int), s.1 = (N, (N.length : Int), (i : Int)) ∧ s.2.1 = (rs, free, N, r, f) ∧ i ≤ N.length ∧ CN rs s.2.2.1 s.2.2.2 acc ∧ (∀ x ∈ acc, LV rs x) ∧ otr rs free (N.drop i) acc = otr rs free N [])
  (fun s => N.length - s.1.2.2.toNat)
  (fun o => match otr rs free N [] with | some acc => ∃ MT MP, o = .inl ((rs, free, N, r, f), MP) ∧ CN rs MT MP acc ∧ ∀ x ∈ acc, LV rs x | none => o = .inr false) ?_ ⟨0, [], rfl, rfl, by simp, ⟨MI.nil, MI.nil, List.nodup_nil⟩, by simp, rfl⟩ (by have := Tr.big; simp; omega) ?_
 ·rintro ⟨⟨a1, a2, a3⟩, ⟨b1, b2, b3, b4, b5⟩, MT, MP⟩ ⟨i, acc, e1, e2, hi, hc, hlv, ho⟩
  simp only [Prod.mk.injEq] at e1 e2
  obtain ⟨rfl, rfl, rfl⟩ := e1
  obtain ⟨rfl, rfl, rfl, rfl, rfl⟩ := e2
  dsimp only at hc ⊢
  by_cases hlt : i < b3.length
  ·rw [if_pos (by omega), if_pos (by omega)]
   have hd : b3.drop i = Tr.nn b3 i :: b3.drop (i + 1) := by
    rw [List.drop_eq_getElem_cons hlt, nn_get hlt]
   rw [hd, otr] at ho
   simp only [Int.toNat_natCast]
   by_cases hk : Tr.ky (Tr.nn b3 i) = -1
   ·rw [if_pos hk] at ho
    rw [if_pos (show (Ty.at tN b3 i).1 = -1 from hk), wrap_i64 (by omega)]
    refine SX_inl (by dsimp only; omega) ⟨i + 1, acc, rfl, rfl, by omega, hc, hlv, ho⟩
   ·rw [if_neg hk] at ho
    rw [if_neg (show ¬ (Ty.at tN b3 i).1 = -1 from hk)]
    obtain ⟨p1, p2, p3⟩ := PL_eq (rs := b1) (free := b2) (h := Tr.qh (Tr.nn b3 i)) (t := Tr.qt (Tr.nn b3 i)) (AOK.len' hA)
    refine SX_bind p1 ?_
    change (if NP b1 b2 (Tr.nn b3 i) = [] then _ else _) = _ at ho
    by_cases hnp : NP b1 b2 (Tr.nn b3 i) = []
    ·rw [if_pos hnp] at ho
     rw [if_neg (show ¬ ¬ (((PL b1 b2 (Tr.qh (Tr.nn b3 i)) (Tr.qt (Tr.nn b3 i))).length : Int) = 0) from fun h => h (by change (((NP b1 b2 (Tr.nn b3 i)).length : Int) = 0); rw [hnp]; rfl))]
     refine SX_inr ?_
     rw [← ho]
    ·rw [if_neg hnp] at ho
     have hpos : 0 < (NP b1 b2 (Tr.nn b3 i)).length := List.length_pos_iff.2 hnp
     rw [if_pos (show ¬ (((PL b1 b2 (Tr.qh (Tr.nn b3 i)) (Tr.qt (Tr.nn b3 i))).length : Int) = 0) from fun h => by change (((NP b1 b2 (Tr.nn b3 i)).length : Int) = 0) at h; omega)]
     have hR : queue_Right ((b1, b2), Tr.qh (Tr.nn b3 i), Tr.qt (Tr.nn b3 i)) = some true := by
      rcases p3 with ⟨_, _, q, _⟩ | ⟨q, _⟩
      ·exact q
      ·exact absurd q hnp
     refine SX_bind hR ?_
     rw [if_neg (by decide)]
     have hrl : ∀ x ∈ NP b1 b2 (Tr.nn b3 i), LV b1 x := NP_live hA
     have hrn : (NP b1 b2 (Tr.nn b3 i)).length ≤ 64 := by
      rcases p3 with ⟨_, q, _⟩ | ⟨q, _⟩
      ·exact q.len
      ·exact absurd q hnp
     change Option.bind (inr b1 (Tr.ky (Tr.nn b3 i)) (NP b1 b2 (Tr.nn b3 i)) acc) _ = _ at ho
     show SX _ _ _ _ (LOOPx _ _ _ ((b3, (b3.length : Int), (i : Int), ((NP b1 b2 (Tr.nn b3 i)).length : Int), (0 : Int)), (b1, b2, b3, b4, b5), MT, MP, Tr.nn b3 i, NP b1 b2 (Tr.nn b3 i)))
     generalize hl : NP b1 b2 (Tr.nn b3 i) = l at *
     generalize hn : Tr.nn b3 i = n at *
     refine SX_loop (fun s : (List Nd × Int × Int × Int × Int) × TAB × MapI × MapI × Nd × List Int => ∃ (j : Nat) (a : List Int), s.1 = (b3, (b3.length : Int), (i : Int), (l.length : Int), (j : Int)) ∧ s.2.1 = (b1, b2, b3, b4, b5) ∧ j ≤ l.length ∧ CN b1 s.2.2.1 s.2.2.2.1 a ∧ (∀ x ∈ a, LV b1 x) ∧ s.2.2.2.2 = (n, l) ∧ inr b1 (Tr.ky n) (l.drop j) a = inr b1 (Tr.ky n) l acc)
      (fun s => l.length - s.1.2.2.2.2.toNat)
      (fun o => match inr b1 (Tr.ky n) l acc with | some a => ∃ MT MP, o = .inl ((b3, (b3.length : Int), ((i + 1 : Nat) : Int)), (b1, b2, b3, b4, b5), MT, MP) ∧ CN b1 MT MP a ∧ ∀ x ∈ a, LV b1 x | none => o = .inr (.inr false)) ?_ ⟨0, acc, rfl, rfl, by omega, hc, hlv, rfl, rfl⟩ (by have := Tr.big; dsimp only; omega) ?_
     ·rintro ⟨⟨c1, c2, c3, c4, c5⟩, ⟨d1, d2, d3, d4, d5⟩, MT, MP, ⟨n1, n2, n3, n4, n5, n6⟩, l'⟩ ⟨j, a, e1, e2, hj, hc, hlv, e3, hin⟩
      simp only [Prod.mk.injEq] at e1 e2 e3
      obtain ⟨rfl, rfl, rfl, rfl, rfl⟩ := e1
      obtain ⟨rfl, rfl, rfl, rfl, rfl⟩ := e2
      obtain ⟨rfl, rfl⟩ := e3
      dsimp only at hc ⊢
      by_cases hjl : j < l'.length
      ·rw [if_pos (by omega), if_pos (by omega)]
       simp only [Int.toNat_natCast]
       have hx := hrl _ (at_mem (T := (Ty.int IntKind.i64)) hjl)
       rw [inr_step hjl] at hin
       generalize Ty.at (Ty.int IntKind.i64) l' j = x at *
       rw [if_pos hjl, if_pos ⟨hx.1, hx.2.1⟩]
       change (if ky d1 x ≠ n1 ∨ x ∈ a ∨ tk d1 x ∈ a.map (tk d1) then _ else _) = _ at hin
       by_cases hk1 : ky d1 x = n1
       ·rw [if_pos (show (Ty.at t3 d1 x.toNat).1 = n1 from hk1)]
        have gp := hc.p.get x
        have gt := hc.t.get (tk d1 x)
        have e0 : ((Ty.at t3 d1 x.toNat).2).1 = tk d1 x := rfl
        simp only [get_set, e0, gp, gt]
        by_cases hxa : x ∈ a
        ·rw [if_pos (.inr (.inl hxa))] at hin
         rw [if_pos hxa, if_neg (by decide)]
         exact SX_inr (by rw [← hin])
        ·rw [if_neg hxa]
         rw [if_pos (by decide)]
         by_cases hxt : tk d1 x ∈ a.map (tk d1)
         ·rw [if_pos (.inr (.inr hxt))] at hin
          rw [if_pos hxt, if_pos (by decide)]
          exact SX_inr (by rw [← hin])
         ·rw [if_neg hxt, if_neg (by decide)]
          rw [if_neg (by rintro (h | h | h); exact h hk1; exact hxa h; exact hxt h)] at hin
          have hw : IntKind.i64.wrap ((0 : Int) + 1) = 1 := by decide
          rw [wrap_i64 (by omega), hw]
          refine SX_inl (by dsimp only; omega) ⟨j + 1, a ++ [x], rfl, rfl, by omega, hc.next hxa hxt, fun y hy => ?_, rfl, hin⟩
          rcases List.mem_append.1 hy with hy | hy
          ·exact hlv y hy
          ·rw [List.mem_singleton] at hy; rw [hy]; exact hx
       ·rw [if_neg (show ¬ (Ty.at t3 d1 x.toNat).1 = n1 from hk1)]
        rw [if_pos (.inl hk1)] at hin
        exact SX_inr (by rw [← hin])
      ·rw [if_neg (by omega)]
       rw [List.drop_of_length_le (by omega)] at hin
       rw [wrap_i64 (by omega)]
       refine SX_inr ?_
       rw [← hin]
       exact ⟨MT, MP, rfl, hc, hlv⟩
     ·intro o hq
      cases hs : inr b1 (Tr.ky n) l acc with
      | none =>
       rw [hs] at hq ho
       rw [hq]
       exact SX_inr (by rw [← ho]; rfl)
      | some a =>
       rw [hs] at hq ho
       obtain ⟨MT', MP', rfl, h1, h2⟩ := hq
       exact SX_inl (by dsimp only; omega) ⟨i + 1, a, rfl, rfl, by omega, h1, h2, ho⟩
  ·rw [if_neg (by omega)]
   rw [List.drop_of_length_le (by omega)] at ho
   refine SX_inr ?_
   rw [← ho]
   exact ⟨MT, MP, rfl, hc, hlv⟩
 ·intro o hq
  cases hs : otr rs free N [] with
  | none =>
   rw [hs] at hq
   rw [hq]
   rfl
  | some acc =>
   rw [hs] at hq
   obtain ⟨MT, MP, rfl, h1, h2⟩ := hq
   dsimp only [ans]
   rw [aFree_eq hA]
   simp only [Option.bind_some]
   have := h1.le hA h2
   have := hA.ch.len
   rw [h1.p.len, wrap_i64 (by omega)]
   congr 1
   exact decide_eq_decide.2 ⟨fun h => by omega, fun h => by omega⟩
end
end Go.AX.Sm
end
section
namespace Go.AX.Sm
open Go Go.AX
section
variable {rs : List R3} {free : Int} {N : List Nd} {r f : Int} {fa : List Int} {F : List Nat} {T : Tr.TT}
theorem SOK.rights (h : SOK rs free N r f fa F T) : sema_Right (rs, free, N, r, f) = some true := by
 obtain ⟨h1, h2⟩ := h.scan
 rw [sRight_eq h.a h.t, h1]
 dsimp only [ans]
 have hn : (rowsAll rs free N).Nodup := by
  have := ((otr_iff (by simp)).1 h1).2.2
  unfold List.Nodup at this
  rw [List.pairwise_map] at this
  exact List.Pairwise.imp (fun {a b} hab e => hab (by rw [e])) this
 rw [decide_eq_true ((count_all h.a hn (rows_live h.a)).2 h2)]
theorem SOK.place (h : SOK rs free N r f fa F T) (key : Int) :
  (∃ i : Nat, i ∈ Tr.pl T ∧ i < N.length ∧ Tr.ky (Tr.nn N i) = key ∧ 0 ≤ key ∧ sema_node ((rs, free, N, r, f), key) = some ((Tr.qh (Tr.nn N i), Tr.qt (Tr.nn N i)), true)) ∨
  ((∀ i ∈ Tr.pl T, Tr.ky (Tr.nn N i) ≠ key) ∧ sema_node ((rs, free, N, r, f), key) = some ((-1, -1), false)) := by
 have hlen := h.t.len
 rcases h.t.tr.find h.t.free.1 key with ⟨i, n, e1, e2, e3, e4, e5⟩ | ⟨⟨n, e1⟩, e2, hno⟩
 ·have hi := ((h.t.mem i).1 e2).1
  refine .inl ⟨i, e2, hi, e3, e5, ?_⟩
  unfold sema_node sema_node_g
  dsimp only
  rw [Tr.Find_eq h.t, e1]
  simp only [cq1]
  rw [if_neg (by decide), if_pos (Tr.nb hi)]
  rfl
 ·refine .inr ⟨hno, ?_⟩
  unfold sema_node sema_node_g
  dsimp only
  rw [Tr.Find_eq h.t, e1]
  rfl
theorem empty_q (hA : AOK rs free fa) : QOK rs free (-1) (-1) fa [] := ⟨hA, .nil, rfl⟩
theorem SOK.waits (h : SOK rs free N r f fa F T) (key : Int) : ∃ L, sema_Waits ((rs, free, N, r, f), key) = some L ∧ L.length ≤ 64 ∧
  ((∃ i ∈ Tr.pl T, Tr.ky (Tr.nn N i) = key ∧ L = (NP rs free (Tr.nn N i)).map (tk rs)) ∨ ((∀ i ∈ Tr.pl T, Tr.ky (Tr.nn N i) ≠ key) ∧ L = [])) := by
 unfold sema_Waits sema_Waits_g
 dsimp only
 rw [h.rights]
 simp only [cq1]
 rw [if_neg (by decide)]
 rcases h.place key with ⟨i, e1, e2, e3, e4, e5⟩ | ⟨e1, e2⟩
 ·rw [e5]
  simp only [Option.bind_some]
  obtain ⟨q1, q2, q3⟩ := h.q i e1
  have t1 := q2.tasks
  exact ⟨_, by rw [t1]; rfl, by rw [List.length_map]; exact q2.len, .inl ⟨i, e1, e3, rfl⟩⟩
 ·rw [e2]
  simp only [Option.bind_some]
  exact ⟨[], by rw [(empty_q h.a).tasks]; rfl, by simp, .inr ⟨e1, rfl⟩⟩
theorem idxW (hA : AOK rs free fa) (t : Int) : ∃ i, IndexFunc_Where (rs, t) = some i ∧ ((LV rs i ∧ tk rs i = t) ∨ (i = -1 ∧ ∀ x, LV rs x → tk rs x ≠ t)) := by
 have hle := hA.le
 unfold IndexFunc_Where IndexFunc_Where_g
 simp only [cq1]
 refine LOOP_ex (σ := List R3 × Int × Int × Int) (fun s => ∃ i : Nat, s = (rs, t, (rs.length : Int), (i : Int)) ∧ i ≤ rs.length ∧ ∀ j : Nat, j < i → LV rs j → tk rs j ≠ t) (fun s => rs.length - s.2.2.2.toNat) (fun o => (LV rs o ∧ tk rs o = t) ∨ (o = -1 ∧ ∀ x, LV rs x → tk rs x ≠ t)) ?_ ⟨0, rfl, by omega, fun j hj => by omega⟩ (by have := Tr.big; show rs.length - _ < _; omega)
 rintro _ ⟨i, rfl, hi, hj⟩
 show SX _ _ _ _ _
 dsimp only
 by_cases hlt : i < rs.length
 ·rw [if_pos (by omega), if_pos (by omega)]
  have hw : Where_is (((Ty.at t3 rs (i : Int).toNat).1, ((Ty.at t3 rs (i : Int).toNat).2).1, ((Ty.at t3 rs (i : Int).toNat).2).2), t) = some (decide (tk rs i = t ∧ 0 ≤ ky rs i)) := by
   unfold Where_is Where_is_g
   simp only [cq1]
   show (if tk rs i = t then some (!decide (ky rs i = -1)) else some false) = _
   by_cases h1 : tk rs i = t
   ·rw [if_pos h1]
    by_cases h2 : 0 ≤ ky rs i
    ·rw [decide_eq_false (by omega), decide_eq_true ⟨h1, h2⟩]; rfl
    ·rw [decide_eq_true ((hA.emp (by omega) (by omega) (by omega)).1), decide_eq_false (fun h => h2 h.2)]; rfl
   ·rw [if_neg h1, decide_eq_false (fun h => h1 h.1)]
  refine SX_bind hw ?_
  by_cases hb : tk rs i = t ∧ 0 ≤ ky rs i
  ·rw [if_pos (by rw [decide_eq_true hb])]
   exact SX_inr (.inl ⟨⟨by omega, by omega, hb.2⟩, hb.1⟩)
  ·rw [if_neg (by rw [decide_eq_false hb]; decide), wrap_i64 (by omega)]
   refine SX_inl (by show rs.length - _ < rs.length - _; simp only [Int.toNat_natCast]; omega) ⟨i + 1, rfl, by omega, fun j hj2 hl => ?_⟩
   by_cases hji : j = i
   ·subst hji; exact fun e => hb ⟨e, hl.2.2⟩
   ·exact hj j (by omega) hl
 ·rw [if_neg (by omega)]
  refine SX_inr (.inr ⟨rfl, fun x hx => ?_⟩)
  have := hj x.toNat (by have := hx.1; have := hx.2.1; omega)
  rw [Int.toNat_of_nonneg hx.1] at this
  exact this hx
def IsW (rs : List R3) (t k : Int) : Prop := (∃ x, LV rs x ∧ tk rs x = t ∧ k = ky rs x) ∨ (k = -1 ∧ ∀ x, LV rs x → tk rs x ≠ t)
theorem IsW.uniq (h : SOK rs free N r f fa F T) {t k k' : Int} (h1 : IsW rs t k) (h2 : IsW rs t k') : k = k' := by
 rcases h1 with ⟨x, a1, a2, a3⟩ | ⟨a1, a2⟩ <;> rcases h2 with ⟨y, b1, b2, b3⟩ | ⟨b1, b2⟩
 ·rw [a3, b3, h.u x y a1 b1 (a2.trans b2.symm)]
 ·exact absurd a2 (b2 x a1)
 ·exact absurd b2 (a2 y b1)
 ·rw [a1, b1]
theorem SOK.whereP (h : SOK rs free N r f fa F T) (t : Int) : ∃ k, sema_Where ((rs, free, N, r, f), t) = some k ∧ IsW rs t k := by
 unfold sema_Where sema_Where_g
 dsimp only
 rw [h.rights]
 simp only [cq1]
 rw [if_neg (by decide)]
 obtain ⟨i, e1, e2⟩ := idxW h.a t
 rw [e1]
 simp only [cq1]
 rcases e2 with ⟨e2, e3⟩ | ⟨e2, e3⟩
 ·rw [if_neg (by have := e2.1; omega), if_pos ⟨e2.1, e2.2.1⟩]
  exact ⟨ky rs i, rfl, .inl ⟨i, e2, e3, rfl⟩⟩
 ·rw [if_pos (by omega)]
  exact ⟨-1, rfl, .inr ⟨rfl, e3⟩⟩
end
end Go.AX.Sm
end
section
namespace Go.AX.Sm
open Go Go.AX
structure AS (rs : List R3) (free : Int) (fa : List Int) (A : Int → Int → Int → Prop) : Prop where
 a : AOK rs free fa
 q : ∀ k h t, A k h t → PL rs free h t ≠ [] ∧ QOK rs free h t fa (PL rs free h t) ∧ ∀ x ∈ PL rs free h t, ky rs x = k
 u : ∀ x y, LV rs x → LV rs y → tk rs x = tk rs y → x = y
 all : ∀ x, LV rs x → ∃ h t, A (ky rs x) h t ∧ x ∈ PL rs free h t
theorem PL_live {rs : List R3} {free : Int} {fa : List Int} (hA : AOK rs free fa) {h t : Int} : ∀ x ∈ PL rs free h t, LV rs x := by
 intro x hx
 rcases (PL_eq (rs := rs) (free := free) (h := h) (t := t) (AOK.len' hA)).2.2 with ⟨g, hg, _⟩ | ⟨h1, _⟩
 ·exact hg.live hx
 ·rw [h1] at hx; cases hx
section
variable {rs : List R3} {free : Int} {N : List Nd} {r f : Int} {fa : List Int} {F : List Nat} {T : Tr.TT}
theorem SOK.as (h : SOK rs free N r f fa F T) : AS rs free fa (TM N T) := by
 refine ⟨h.a, ?_, h.u, fun x hx => ?_⟩
 ·rintro k a b ⟨i, hi, rfl, rfl, rfl⟩
  exact h.q i hi
 ·obtain ⟨i, hi, hxi⟩ := h.all x hx
  exact ⟨_, _, ⟨i, hi, ((h.q i hi).2.2 x hxi).symm, rfl, rfl⟩, hxi⟩
theorem AS.sok {A : Int → Int → Int → Prop} (h : AS rs free fa A) (hT : Tr.Ok N r f F T) (hA : ∀ k x y, TM N T k x y ↔ A k x y) : SOK rs free N r f fa F T := by
 refine ⟨h.a, hT, fun i hi => h.q _ _ _ ((hA _ _ _).1 ⟨i, hi, rfl, rfl, rfl⟩), h.u, fun x hx => ?_⟩
 obtain ⟨a, b, h1, h2⟩ := h.all x hx
 obtain ⟨i, hi, _, rfl, rfl⟩ := (hA _ _ _).2 h1
 exact ⟨i, hi, h2⟩
theorem PCh_same {p : R3 → Prop} {rs2 : List R3} (hl : rs2.length = rs.length) : ∀ {i : Int} {l : List Int}, PCh p rs i l → (∀ x ∈ l, Ty.at t3 rs2 x.toNat = Ty.at t3 rs x.toNat) → PCh p rs2 i l
 | _, [], h, _ => by cases h; exact .nil
 | i, x :: l, h, hs => by
  cases h with
  | cons h1 h2 h3 h4 =>
   have e := hs i List.mem_cons_self
   exact .cons h1 (by omega) (by rw [e]; exact h3) (by rw [e]; exact PCh_same hl h4 fun y hy => hs y (List.mem_cons_of_mem _ hy))
theorem at_of {rs2 : List R3} {x : Int} (h1 : ky rs2 x = ky rs x) (h2 : tk rs2 x = tk rs x) (h3 : nx rs2 x = nx rs x) : Ty.at t3 rs2 x.toNat = Ty.at t3 rs x.toNat := Prod.ext h1 (Prod.ext h2 h3)
theorem pushed_rec {h t : Int} {fr' l : List Int} (g : QOK rs free h t (free :: fr') l) (k d : Int) (fr : Bool) {rs2 : List R3} {e h2 t2 : Int} (hp : pushed rs free h t k d fr = ((rs2, e), (h2, t2), 0)) :
  rs2.length = rs.length ∧ (∀ x : Int, 0 ≤ x → ky rs2 x = if x = free then k else ky rs x) ∧ (∀ x : Int, 0 ≤ x → tk rs2 x = if x = free then d else tk rs x) ∧ ∀ x : Int, 0 ≤ x → x ≠ free → x ∉ l → nx rs2 x = nx rs x := by
 have hf : free ≠ -1 := by cases g.a.ch; omega
 have hfr := g.a.free_rng.resolve_left hf
 unfold pushed at hp
 have one : ∀ w : Int, ((rs.set free.toNat (k, d, w)).length = rs.length) ∧ (∀ x : Int, 0 ≤ x → ky (rs.set free.toNat (k, d, w)) x = if x = free then k else ky rs x) ∧ (∀ x : Int, 0 ≤ x → tk (rs.set free.toNat (k, d, w)) x = if x = free then d else tk rs x) ∧ ∀ x : Int, 0 ≤ x → x ≠ free → x ∉ l → nx (rs.set free.toNat (k, d, w)) x = nx rs x := fun w =>
  ⟨by simp, fun x hx => by rw [ky_upd hfr.1 hfr.2.1 hx], fun x hx => by rw [tk_upd hfr.1 hfr.2.1 hx], fun x hx hne _ => by rw [nx_upd hfr.1 hfr.2.1 hx, if_neg hne]⟩
 by_cases hh : h = -1
 ·simp only [hh, decide_true, cond_true, Prod.mk.injEq] at hp
  rw [← hp.1.1]; exact one _
 ·simp only [hh, decide_false, cond_false] at hp
  cases fr with
  | true =>
   simp only [cond_true, Prod.mk.injEq] at hp
   rw [← hp.1.1]; exact one _
  | false =>
   simp only [cond_false, Prod.mk.injEq] at hp
   rw [← hp.1.1]
   obtain ⟨o1, o2, o3, o4⟩ := one (-1)
   have hlt : t ∈ l := by
    rcases g.ends with ⟨_, e, _⟩ | ⟨_, _, _, e⟩
    ·exact absurd e hh
    ·exact e
   have hlv := g.live hlt
   have htf : t ≠ free := fun e => by have := hlv.2.2; rw [e, hfr.2.2.1] at this; omega
   have ht1 : t < (rs.set free.toNat (k, d, -1)).length := by simpa using hlv.2.1
   refine ⟨by simp, fun x hx => ?_, fun x hx => ?_, fun x hx hne hxl => ?_⟩
   ·rw [ky_upd hlv.1 ht1 hx]
    split
    ·rename_i e; rw [e, if_neg htf]
    ·exact o2 x hx
   ·rw [tk_upd hlv.1 ht1 hx]
    split
    ·rename_i e; rw [e, if_neg htf]
    ·exact o3 x hx
   ·rw [nx_upd hlv.1 ht1 hx, if_neg (fun (e : x = t) => hxl (e ▸ hlt))]
    exact o4 x hx hne hxl
theorem AS.push {A : Int → Int → Int → Prop} {f' l : List Int} {h t k d : Int} (hs : AS rs free (free :: f') A) (g : QOK rs free h t (free :: f') l)
  (hA : (A k h t ∧ PL rs free h t = l ∧ ∀ x y, A k x y → x = h ∧ y = t) ∨ (l = [] ∧ ∀ x y, ¬ A k x y)) (hk : 0 ≤ k) (hd : 0 ≤ d) (hnew : ∀ x, LV rs x → tk rs x ≠ d) (fr : Bool) :
  ∃ rs2 h2 t2, pushed rs free h t k d fr = ((rs2, nx rs free), (h2, t2), 0) ∧ AS rs2 (nx rs free) f' (fun k' x y => (k' = k ∧ x = h2 ∧ y = t2) ∨ (k' ≠ k ∧ A k' x y)) ∧ QOK rs2 (nx rs free) h2 t2 f' (bif fr then free :: l else l ++ [free]) ∧
   rs2.length = rs.length ∧ h2 ≠ -1 ∧ (∀ x : Int, 0 ≤ x → tk rs2 x = if x = free then d else tk rs x) ∧ (∀ x : Int, 0 ≤ x → ky rs2 x = if x = free then k else ky rs x) ∧ (∀ k' x y, k' ≠ k → A k' x y → PL rs2 (nx rs free) x y = PL rs free x y) ∧ (0 ≤ free ∧ free < rs.length ∧ ky rs free = -1) ∧
   (fr = true → rs2.set free.toNat (-1, -1, nx rs free) = rs ∧ nx rs2 free = h ∧ h2 = free ∧ t2 = (free :: l).getLastD (-1) ∧ ¬ Held rs2 free) := by
 obtain ⟨rs2, h2, t2, p1, p2, p3, p4, p5⟩ := g.after hk hd fr
 obtain ⟨r1, r2, r3, r4⟩ := pushed_rec g k d fr p1
 have hf : free ≠ -1 := by cases g.a.ch; omega
 have hfr := g.a.free_rng.resolve_left hf
 have hkl : ∀ x ∈ l, ky rs x = k := by
  rcases hA with ⟨h1, h2, _⟩ | ⟨h1, _⟩
  ·intro x hx; rw [← h2] at hx; exact (hs.q k h t h1).2.2 x hx
  ·rw [h1]; intro x hx; cases hx
 have hmem : ∀ x, x ∈ (bif fr then free :: l else l ++ [free]) ↔ x = free ∨ x ∈ l := fun x => by cases fr <;> simp [or_comm]
 have hlive : ∀ x, LV rs2 x ↔ x = free ∨ LV rs x := fun x => by
  constructor
  ·rintro ⟨x0, x1, x2⟩
   rw [r2 x x0] at x2
   by_cases e : x = free
   ·exact .inl e
   ·rw [if_neg e] at x2; exact .inr ⟨x0, by omega, x2⟩
  ·rintro (rfl | ⟨x0, x1, x2⟩)
   ·exact ⟨hfr.1, by omega, by rw [r2 x hfr.1, if_pos rfl]; exact hk⟩
   ·exact ⟨x0, by omega, by rw [r2 x x0]; split; exact hk; exact x2⟩
 have hnf : ∀ x, LV rs x → x ≠ free := fun x hx e => by have := hx.2.2; rw [e, hfr.2.2.1] at this; omega
 have hoth : ∀ k' x y, k' ≠ k → A k' x y → QOK rs2 (nx rs free) x y f' (PL rs free x y) := fun k' x y hne h => by
  obtain ⟨q1, q2, q3⟩ := hs.q k' x y h
  refine ⟨p2.a, PCh_same r1 q2.q fun z hz => ?_, q2.t⟩
  have hz0 := PL_live hs.a z hz
  have hzf := hnf z hz0
  have hzl : z ∉ l := fun hzl => hne (by rw [← q3 z hz, hkl z hzl])
  exact at_of (by rw [r2 z hz0.1, if_neg hzf]) (by rw [r3 z hz0.1, if_neg hzf]) (r4 z hz0.1 hzf hzl)
 have hPL2 : PL rs2 (nx rs free) h2 t2 = (bif fr then free :: l else l ++ [free]) := PL_of p2
 refine ⟨rs2, h2, t2, p1, ⟨p2.a, ?_, ?_, ?_⟩, p2, r1, ?_, r3, r2, fun k' x y hne h => PL_of (hoth k' x y hne h), ⟨hfr.1, hfr.2.1, hfr.2.2.1⟩, p5⟩
 ·rintro k' x y (⟨rfl, rfl, rfl⟩ | ⟨hne, h⟩)
  ·rw [hPL2]
   refine ⟨by cases fr <;> simp, p2, fun z hz => ?_⟩
   rcases (hmem z).1 hz with rfl | hz
   ·rw [r2 z hfr.1, if_pos rfl]
   ·have hz0 := g.live hz
    rw [r2 z hz0.1, if_neg (hnf z hz0)]; exact hkl z hz
  ·have hq := hoth k' x y hne h
   rw [PL_of hq]
   obtain ⟨q1, q2, q3⟩ := hs.q k' x y h
   refine ⟨q1, hq, fun z hz => ?_⟩
   have hz0 := PL_live hs.a z hz
   rw [r2 z hz0.1, if_neg (hnf z hz0)]; exact q3 z hz
 ·intro x y hx hy e
  rw [r3 x hx.1, r3 y hy.1] at e
  rcases (hlive x).1 hx with rfl | hx' <;> rcases (hlive y).1 hy with rfl | hy'
  ·rfl
  ·rw [if_pos rfl, if_neg (hnf y hy')] at e; exact absurd e.symm (hnew y hy')
  ·rw [if_pos rfl, if_neg (hnf x hx')] at e; exact absurd e (hnew x hx')
  ·rw [if_neg (hnf x hx'), if_neg (hnf y hy')] at e; exact hs.u x y hx' hy' e
 ·intro x hx
  rw [r2 x hx.1]
  rcases (hlive x).1 hx with rfl | hx'
  ·rw [if_pos rfl]
   exact ⟨h2, t2, .inl ⟨rfl, rfl, rfl⟩, by rw [hPL2, hmem]; exact .inl rfl⟩
  ·rw [if_neg (hnf x hx')]
   obtain ⟨a, b, h1, h3⟩ := hs.all x hx'
   by_cases e : ky rs x = k
   ·refine ⟨h2, t2, .inl ⟨e, rfl, rfl⟩, ?_⟩
    rw [hPL2, hmem]
    right
    rcases hA with ⟨_, e2, e3⟩ | ⟨_, e3⟩
    ·obtain ⟨rfl, rfl⟩ := e3 a b (e ▸ h1)
     rw [← e2]; exact h3
    ·exact absurd (e ▸ h1) (e3 a b)
   ·refine ⟨a, b, .inr ⟨e, h1⟩, ?_⟩
    rw [PL_of (hoth _ a b e h1)]; exact h3
 ·intro e
  rcases p2.ends with ⟨e1, _, _⟩ | ⟨_, e2, _⟩
  ·have := (hmem free).2 (.inl rfl)
   rw [e1] at this; cases this
  ·exact e2 e
theorem cutR_nx {l' : List Int} {m x : Int} (hlv : ∀ y ∈ l', LV rs y) (hx0 : 0 ≤ x) (hx : x ∉ l') : nx (cutR rs l' m) x = nx rs x := by
 unfold cutR
 split
 ·rfl
 ·rename_i hne
  have hm : l'.getLastD (-1) ∈ l' := by
   obtain ⟨z, e⟩ := snoc_of rfl hne
   rw [e]; simp
  have hy := hlv _ hm
  unfold nxt
  rw [nx_upd hy.1 hy.2.1 hx0, if_neg (fun (e : x = l'.getLastD (-1)) => hx (e ▸ hm))]
theorem AS.notheld {A : Int → Int → Int → Prop} (hs : AS rs free fa A) (hf : ∀ k x y x' y', A k x y → A k x' y' → x = x' ∧ y = y') {k h t m : Int} {l' r' : List Int} (hA : A k h t) (hl : PL rs free h t = l' ++ m :: r') : ¬ Held (cutR rs l' m) m := by
 have g := (hs.q k h t hA).2.1
 have hk := (hs.q k h t hA).2.2
 rw [hl] at g hk
 obtain ⟨h1, h2, h3, h4⟩ := g.mid
 obtain ⟨c1, c2, c3, c4, c5, c6, c7⟩ := g.cut
 have hm := g.live (x := m) (by simp)
 rintro ⟨j, j0, j1, j2, j3⟩
 rw [(c7 j j0).1] at j2
 rw [c4] at j1
 have hj : j ∈ l' ++ m :: r' := by
  refine Decidable.byContradiction fun hno => ?_
  rw [cutR_nx (fun y hy => g.live (by simp [hy])) j0 (fun e => hno (by simp [e]))] at j3
  obtain ⟨a, b, e1, e2⟩ := hs.all j ⟨j0, j1, j2⟩
  have q := hs.q _ a b e1
  rcases q.2.1.q.nx_mem e2 with e | e
  ·rw [j3] at e; omega
  ·rw [j3] at e
   have e3 := q.2.2 m e
   rw [hk m (by simp)] at e3
   obtain ⟨rfl, rfl⟩ := hf k h t a b hA (e3 ▸ e1)
   rw [hl] at e2
   exact hno e2
 have : j = m ∨ j ∈ l' ++ r' := by simp at hj ⊢; grind
 rcases this with rfl | hj
 ·rw [c6] at j3
  have e := h1.head
  rw [j3] at e
  cases r' with
  | nil => simp at e; omega
  | cons z r' => simp at e; exact h3 (by simp [e])
 ·rcases c3.nx_mem hj with e | e
  ·rw [j3] at e; omega
  ·rw [j3] at e
   have : m ∉ l' ++ r' := by simp [h2, h3]
   exact this e
theorem AS.take {A : Int → Int → Int → Prop} (hs : AS rs free fa A) (hf : ∀ k x y x' y', A k x y → A k x' y' → x = x' ∧ y = y') {k h t m : Int} {l' r' : List Int} (hA : A k h t) (hl : PL rs free h t = l' ++ m :: r') :
  AS ((cutR rs l' m).set m.toNat (-1, -1, free)) m (m :: fa) (fun k' x y => (k' = k ∧ l' ++ r' ≠ [] ∧ x = (l' ++ r').headD (-1) ∧ y = (l' ++ r').getLastD (-1)) ∨ (k' ≠ k ∧ A k' x y)) ∧
  QOK ((cutR rs l' m).set m.toNat (-1, -1, free)) m ((l' ++ r').headD (-1)) ((l' ++ r').getLastD (-1)) (m :: fa) (l' ++ r') ∧ (∀ x : Int, 0 ≤ x → tk ((cutR rs l' m).set m.toNat (-1, -1, free)) x = if x = m then -1 else tk rs x) ∧
  (∀ k' x y, k' ≠ k → A k' x y → PL ((cutR rs l' m).set m.toNat (-1, -1, free)) m x y = PL rs free x y) ∧ ((cutR rs l' m).set m.toNat (-1, -1, free)).length = rs.length ∧ LV rs m := by
 have hnh := hs.notheld hf hA hl
 have g := (hs.q k h t hA).2.1
 have hk := (hs.q k h t hA).2.2
 rw [hl] at g hk
 obtain ⟨h1, h2, h3, h4⟩ := g.mid
 obtain ⟨c1, c2, c3, c4, c5, c6, c7⟩ := g.cut
 obtain ⟨g2, g3⟩ := g.gone hnh
 have hm := g.live (x := m) (by simp)
 have hm1 : m < (cutR rs l' m).length := by rw [c4]; exact hm.2.1
 have hmn : m ∉ l' ++ r' := by simp [h2, h3]
 have r2 : ∀ x : Int, 0 ≤ x → ky ((cutR rs l' m).set m.toNat (-1, -1, free)) x = if x = m then -1 else ky rs x := fun x hx => by
  rw [ky_upd hm.1 hm1 hx]
  split
  ·rfl
  ·exact (c7 x hx).1
 have r3 : ∀ x : Int, 0 ≤ x → tk ((cutR rs l' m).set m.toNat (-1, -1, free)) x = if x = m then -1 else tk rs x := fun x hx => by
  rw [tk_upd hm.1 hm1 hx]
  split
  ·rfl
  ·exact (c7 x hx).2
 have r4 : ∀ x : Int, 0 ≤ x → x ∉ l' ++ m :: r' → nx ((cutR rs l' m).set m.toNat (-1, -1, free)) x = nx rs x := fun x hx hno => by
  rw [nx_upd hm.1 hm1 hx, if_neg (fun e => hno (by simp [e])), cutR_nx (fun y hy => g.live (by simp [hy])) hx (fun e => hno (by simp [e]))]
 have hrl : ((cutR rs l' m).set m.toNat (-1, -1, free)).length = rs.length := by rw [List.length_set, c4]
 generalize (cutR rs l' m).set m.toNat (-1, -1, free) = rs2 at *
 have hlive : ∀ x, LV rs2 x ↔ x ≠ m ∧ LV rs x := fun x => by
  constructor
  ·rintro ⟨x0, x1, x2⟩
   rw [r2 x x0] at x2
   by_cases e : x = m
   ·rw [if_pos e] at x2; omega
   ·rw [if_neg e] at x2; exact ⟨e, x0, by omega, x2⟩
  ·rintro ⟨e, x0, x1, x2⟩
   exact ⟨x0, by omega, by rw [r2 x x0, if_neg e]; exact x2⟩
 have hoth : ∀ k' x y, k' ≠ k → A k' x y → QOK rs2 m x y (m :: fa) (PL rs free x y) := fun k' x y hne h => by
  obtain ⟨q1, q2, q3⟩ := hs.q k' x y h
  refine ⟨g2.a, PCh_same hrl q2.q fun z hz => ?_, q2.t⟩
  have hz0 := PL_live hs.a z hz
  have hzl : z ∉ l' ++ m :: r' := fun hzl => hne (by rw [← q3 z hz, hk z hzl])
  have hzm : z ≠ m := fun e => hzl (by simp [e])
  exact at_of (by rw [r2 z hz0.1, if_neg hzm]) (by rw [r3 z hz0.1, if_neg hzm]) (r4 z hz0.1 hzl)
 refine ⟨⟨g2.a, ?_, ?_, ?_⟩, g2, r3, fun k' x y hne h => PL_of (hoth k' x y hne h), hrl, hm⟩
 ·rintro k' x y (⟨rfl, hne, rfl, rfl⟩ | ⟨hne, h⟩)
  ·rw [PL_of g2]
   refine ⟨hne, g2, fun z hz => ?_⟩
   have hzl : z ∈ l' ++ m :: r' := by simp at hz ⊢; grind
   have hz0 := g.live hzl
   rw [r2 z hz0.1, if_neg (fun (e : z = m) => hmn (e ▸ hz))]; exact hk z hzl
  ·have hq := hoth k' x y hne h
   rw [PL_of hq]
   obtain ⟨q1, q2, q3⟩ := hs.q k' x y h
   refine ⟨q1, hq, fun z hz => ?_⟩
   have hz0 := PL_live hs.a z hz
   have hzm : z ≠ m := fun e => hne (by rw [← q3 z hz, e]; exact hk m (by simp))
   rw [r2 z hz0.1, if_neg hzm]; exact q3 z hz
 ·intro x y hx hy e
  obtain ⟨x1, x2⟩ := (hlive x).1 hx
  obtain ⟨y1, y2⟩ := (hlive y).1 hy
  rw [r3 x hx.1, r3 y hy.1, if_neg x1, if_neg y1] at e
  exact hs.u x y x2 y2 e
 ·intro x hx
  obtain ⟨x1, x2⟩ := (hlive x).1 hx
  rw [r2 x hx.1, if_neg x1]
  obtain ⟨a, b, e1, e2⟩ := hs.all x x2
  by_cases e : ky rs x = k
  ·obtain ⟨rfl, rfl⟩ := hf k a b h t (e ▸ e1) hA
   rw [hl] at e2
   have hx' : x ∈ l' ++ r' := by simp at e2 ⊢; grind
   have hne : l' ++ r' ≠ [] := fun e0 => by rw [e0] at hx'; cases hx'
   exact ⟨_, _, .inl ⟨e, hne, rfl, rfl⟩, by rw [PL_of g2]; exact hx'⟩
  ·exact ⟨a, b, .inr ⟨e, e1⟩, by rw [PL_of (hoth _ a b e e1)]; exact e2⟩
end
end Go.AX.Sm
end
section
namespace Go.AX.Sm
open Go Go.AX
section
variable {rs : List R3} {free : Int} {N : List Nd} {r f : Int} {fa : List Int} {F : List Nat} {T : Tr.TT}
theorem hung_full {key a b : Int} (ha : a ≠ -1) {M : List Nd} {s g : Int} {e : Int} (h1 : treap_Hang ((N, r, f), key, a, b) = some ((M, s, g), e)) :
  sema_hung ((N, r, f), (rs, free), key, a, b) = some (rs, free, M, s, g) := by
 unfold sema_hung sema_hung_g
 dsimp only
 rw [h1]
 simp only [cq1]
 rw [if_neg ha]
theorem hung_none {key a b : Int} (ha : a = -1) {M M' : List Nd} {s g s' g' : Int} {e e' : Int} (h1 : treap_Hang ((N, r, f), key, a, b) = some ((M, s, g), e)) (h3 : treap_Delete ((M, s, g), key) = some ((M', s', g'), e')) :
  sema_hung ((N, r, f), (rs, free), key, a, b) = some (rs, free, M', s', g') := by
 unfold sema_hung sema_hung_g
 dsimp only
 rw [h1]
 simp only [cq1]
 rw [if_pos ha, h3]
 rfl
theorem SOK.fn (h : SOK rs free N r f fa F T) : ∀ k x y x' y', TM N T k x y → TM N T k x' y' → x = x' ∧ y = y' := fun k x y x' y' h1 h2 => TM.det h.t h1 h2
theorem SOK.out (h : SOK rs free N r f fa F T) {i : Nat} (hi : i ∈ Tr.pl T) {key m : Int} (hk : Tr.ky (Tr.nn N i) = key) {l' r' : List Int} (hl : NP rs free (Tr.nn N i) = l' ++ m :: r') :
  ∃ M s g F' S, sema_hung ((N, r, f), ((cutR rs l' m).set m.toNat (-1, -1, free), m), key, (l' ++ r').headD (-1), (l' ++ r').getLastD (-1)) = some ((cutR rs l' m).set m.toNat (-1, -1, free), m, M, s, g) ∧
   SOK ((cutR rs l' m).set m.toNat (-1, -1, free)) m M s g (m :: fa) F' S ∧ M.length = N.length ∧
   (∀ k x y, TM M S k x y ↔ (k = key ∧ l' ++ r' ≠ [] ∧ x = (l' ++ r').headD (-1) ∧ y = (l' ++ r').getLastD (-1)) ∨ (k ≠ key ∧ TM N T k x y)) := by
 have hA : TM N T key (Tr.qh (Tr.nn N i)) (Tr.qt (Tr.nn N i)) := ⟨i, hi, hk, rfl, rfl⟩
 obtain ⟨t1, t2, t3, t4, t5, t6⟩ := h.as.take h.fn hA hl
 by_cases hne : l' ++ r' = []
 ·have e1 : (l' ++ r').headD (-1) = -1 := by rw [hne]; rfl
  have e2 : (l' ++ r').getLastD (-1) = -1 := by rw [hne]; rfl
  generalize (l' ++ r').headD (-1) = hd at *
  generalize (l' ++ r').getLastD (-1) = lt at *
  subst e1
  subst e2
  obtain ⟨g1, g3, g4⟩ := hang_ok h.t hi (a := -1) (b := -1) hk
  have hi2 := ((h.t.mem i).1 hi).1
  have hnn : Tr.nn (N.set i (hup (Tr.nn N i) (-1) (-1))) i = hup (Tr.nn N i) (-1) (-1) := by rw [Tr.nn_set, if_pos ⟨rfl, hi2⟩]
  obtain ⟨M, s, g, S, d1, d3, d4, d5⟩ := delete_tm g3 hi (key := key) (by rw [hnn]; exact hk) (by rw [hnn]; exact ⟨rfl, rfl⟩)
  have hTM : ∀ k x y, TM M S k x y ↔ (k = key ∧ l' ++ r' ≠ [] ∧ x = -1 ∧ y = -1) ∨ (k ≠ key ∧ TM N T k x y) := fun k x y => by
   rw [d5, g4]
   constructor
   ·rintro ⟨a, b | b⟩
    ·exact absurd b.1 a
    ·exact .inr b
   ·rintro (⟨_, b, _⟩ | b)
    ·exact absurd hne b
    ·exact ⟨b.1, .inr b⟩
  exact ⟨M, s, g, _, S, hung_none rfl g1 d1, t1.sok d3 hTM, by rw [d4, List.length_set], hTM⟩
 ·have e1 : (l' ++ r').headD (-1) ≠ -1 := fun e => by
   rcases t2.ends with ⟨a, _, _⟩ | ⟨_, a, _⟩
   ·exact hne a
   ·exact a e
  obtain ⟨g1, g3, g4⟩ := hang_ok h.t hi (a := (l' ++ r').headD (-1)) (b := (l' ++ r').getLastD (-1)) hk
  have u1 := hung_full (rs := (cutR rs l' m).set m.toNat (-1, -1, free)) (free := m) e1 g1
  have hTM : ∀ k x y, TM (N.set i (hup (Tr.nn N i) ((l' ++ r').headD (-1)) ((l' ++ r').getLastD (-1)))) T k x y ↔ (k = key ∧ l' ++ r' ≠ [] ∧ x = (l' ++ r').headD (-1) ∧ y = (l' ++ r').getLastD (-1)) ∨ (k ≠ key ∧ TM N T k x y) := fun k x y => by
   rw [g4]
   constructor
   ·rintro (⟨a, b, c⟩ | b)
    ·exact .inl ⟨a, hne, b, c⟩
    ·exact .inr b
   ·rintro (⟨a, _, b, c⟩ | b)
    ·exact .inl ⟨a, b, c⟩
    ·exact .inr b
  exact ⟨_, _, _, _, _, u1, t1.sok g3 hTM, List.length_set, hTM⟩
theorem cutR_nil {m : Int} : cutR rs [] m = rs := by unfold cutR; rw [if_pos rfl]
theorem SOK.wake (h : SOK rs free N r f fa F T) {i : Nat} (hi : i ∈ Tr.pl T) {key m : Int} (hk : Tr.ky (Tr.nn N i) = key) {r' : List Int} (hl : NP rs free (Tr.nn N i) = m :: r') {y : TAB}
  (hy : sema_hung ((N, r, f), (rs.set m.toNat (-1, -1, free), m), key, r'.headD (-1), r'.getLastD (-1)) = some y) :
  sema_Wake ((rs, free, N, r, f), key) = some (y, tk rs m, 0) := by
 obtain ⟨y1, y2, y3, y4, y5⟩ := y
 have hi2 := ((h.t.mem i).1 hi).1
 have hnh := h.as.notheld h.fn (l' := []) ⟨i, hi, hk, rfl, rfl⟩ hl
 rw [cutR_nil] at hnh
 have g := (h.q i hi).2.1
 rw [hl] at g
 obtain ⟨p1, p2⟩ := g.pop_ok hnh
 unfold sema_Wake sema_Wake_g
 dsimp only
 rw [h.rights]
 rcases h.place key with ⟨j, e1, e2, e3, e4, e5⟩ | ⟨e1, e2⟩
 ·have := h.t.ka.inj j e1 i hi (e3.trans hk.symm)
  subst this
  rw [e5]
  simp only [cq1]
  rw [if_neg (by decide), if_neg (by decide), p1]
  simp only [cq1]
  rw [if_neg (fun h => h trivial), hy]
  rfl
 ·exact absurd hk (e1 i hi)
theorem SOK.wake_no (h : SOK rs free N r f fa F T) {key : Int} (hk : ∀ i ∈ Tr.pl T, Tr.ky (Tr.nn N i) ≠ key) :
  sema_Wake ((rs, free, N, r, f), key) = some ((rs, free, N, r, f), 0, 7) := by
 unfold sema_Wake sema_Wake_g
 dsimp only
 rw [h.rights]
 rcases h.place key with ⟨j, e1, e2, e3, e4, e5⟩ | ⟨e1, e2⟩
 ·exact absurd e3 (hk j e1)
 ·rw [e2]
  rfl
theorem SOK.cancel (h : SOK rs free N r f fa F T) {i : Nat} (hi : i ∈ Tr.pl T) {key m t : Int} (hk : Tr.ky (Tr.nn N i) = key) {l' r' : List Int} (hl : NP rs free (Tr.nn N i) = l' ++ m :: r') (hm : tk rs m = t) {y : TAB}
  (hy : sema_hung ((N, r, f), ((cutR rs l' m).set m.toNat (-1, -1, free), m), key, (l' ++ r').headD (-1), (l' ++ r').getLastD (-1)) = some y) :
  sema_Cancel ((rs, free, N, r, f), t) = some (y, 0) := by
 obtain ⟨y1, y2, y3, y4, y5⟩ := y
 have hi2 := ((h.t.mem i).1 hi).1
 have hpos := h.t.key i hi
 have hnh := h.as.notheld h.fn ⟨i, hi, hk, rfl, rfl⟩ hl
 have g := (h.q i hi).2.1
 have hx := (h.q i hi).2.2 m (by rw [hl]; simp)
 have hnd := g.q.nodup
 have hlv : ∀ z ∈ NP rs free (Tr.nn N i), LV rs z := NP_live h.a
 rw [hl] at g hnd hlv
 have ht : t ∉ l'.map (tk rs) := fun e => by
  obtain ⟨z, hz, ez⟩ := List.mem_map.1 e
  have := h.u z m (hlv z (by simp [hz])) (hlv m (by simp)) (ez.trans hm.symm)
  subst this
  exact (List.nodup_append.1 hnd).2.2 z hz z (by simp) rfl
 have p1 := (g.drop_at hm ht).1.trans (g.out_ok hnh).1
 obtain ⟨k, w1, w2⟩ := h.whereP t
 have hkk : k = key := IsW.uniq h w2 (.inl ⟨m, hlv m (by simp), hm, by rw [hx, hk]⟩)
 subst hkk
 unfold sema_Cancel sema_Cancel_g
 dsimp only
 rw [h.rights, w1]
 rcases h.place k with ⟨j, e1, e2, e3, e4, e5⟩ | ⟨e1, e2⟩
 ·have := h.t.ka.inj j e1 i hi (e3.trans hk.symm)
  subst this
  simp only [cq1]
  rw [if_neg (by decide), if_neg (by omega), e5]
  simp only [cq1]
  rw [p1]
  simp only [cq1]
  rw [if_neg (fun h => h trivial), hy]
  rfl
 ·exact absurd hk (e1 i hi)
theorem SOK.cancel_no (h : SOK rs free N r f fa F T) {t : Int} (hk : ∀ x, LV rs x → tk rs x ≠ t) :
  sema_Cancel ((rs, free, N, r, f), t) = some ((rs, free, N, r, f), 7) := by
 obtain ⟨k, w1, w3⟩ := h.whereP t
 have hkk : k = -1 := IsW.uniq h w3 (.inr ⟨rfl, hk⟩)
 subst hkk
 unfold sema_Cancel sema_Cancel_g
 dsimp only
 rw [h.rights, w1]
 rfl
theorem SOK.at (h : SOK rs free N r f fa F T) {x : Int} (hx : LV rs x) : ∃ i ∈ Tr.pl T, ∃ l' r', NP rs free (Tr.nn N i) = l' ++ x :: r' := by
 obtain ⟨i, hi, hxi⟩ := h.all x hx
 obtain ⟨l', r', e⟩ := List.append_of_mem hxi
 exact ⟨i, hi, l', r', e⟩
end
end Go.AX.Sm
end
section
namespace Go.AX.Sm
open Go Go.AX
section
variable {rs : List R3} {free : Int} {N : List Nd} {r f : Int} {fa : List Int} {F : List Nat} {T : Tr.TT}
theorem hup_hup {x : Nd} {a b c d : Int} : hup (hup x a b) c d = hup x c d := rfl
theorem hup_id {x : Nd} : hup x (Tr.qh x) (Tr.qt x) = x := rfl
structure Kd (rs : List R3) (free : Int) (N : List Nd) (r f : Int) (fa : List Int) (T : Tr.TT) (key : Int) (M : List Nd) (s g : Int) (i : Nat) (F G : List Nat) (S : Tr.TT) (a b : Int) (l : List Int) : Prop where
 t : Tr.Ok M s g G S
 mi : i ∈ Tr.pl S
 k : Tr.ky (Tr.nn M i) = key
 qh : Tr.qh (Tr.nn M i) = a
 qt : Tr.qt (Tr.nn M i) = b
 len : M.length = N.length
 q : QOK rs free a b fa l
 o : (TM N T key a b ∧ PL rs free a b = l ∧ ∀ x y, TM N T key x y → x = a ∧ y = b) ∨ (l = [] ∧ ∀ x y, ¬ TM N T key x y)
 tm : ∀ k x y, k ≠ key → (TM M S k x y ↔ TM N T k x y)
 fl : F.length ≤ G.length + 1
 back : ∀ (c d : Int) (rs' : List R3) (free' : Int), sema_hung ((M.set i (hup (Tr.nn M i) c d), s, g), (rs', free'), key, a, b) = some (rs', free', N, r, f)
theorem kd_old (h : SOK rs free N r f fa F T) {i : Nat} (hi : i ∈ Tr.pl T) {key : Int} (hk : Tr.ky (Tr.nn N i) = key) :
  Kd rs free N r f fa T key N r f i F F T (Tr.qh (Tr.nn N i)) (Tr.qt (Tr.nn N i)) (NP rs free (Tr.nn N i)) := by
 have hq := h.q i hi
 have hi2 := ((h.t.mem i).1 hi).1
 refine ⟨h.t, hi, hk, rfl, rfl, rfl, hq.2.1, .inl ⟨⟨i, hi, hk, rfl, rfl⟩, rfl, fun x y hxy => TM.det h.t hxy ⟨i, hi, hk, rfl, rfl⟩⟩, fun k x y _ => Iff.rfl, by omega, fun c d rs' free' => ?_⟩
 obtain ⟨g1, g3, g4⟩ := hang_ok h.t hi (a := c) (b := d) hk
 have hnn : Tr.nn (N.set i (hup (Tr.nn N i) c d)) i = hup (Tr.nn N i) c d := by rw [Tr.nn_set, if_pos ⟨rfl, hi2⟩]
 obtain ⟨k1, k3, k4⟩ := hang_ok g3 hi (key := key) (a := Tr.qh (Tr.nn N i)) (b := Tr.qt (Tr.nn N i)) (by rw [hnn]; exact hk)
 rw [hnn, hup_hup, hup_id, List.set_set, Tr.set_nn] at k1
 refine hung_full ?_ k1
 rcases hq.2.1.ends with ⟨e, _, _⟩ | ⟨_, e, _⟩
 ·exact absurd e hq.1
 ·exact e
theorem kd_new (h : SOK rs free N r f fa F T) {key prio : Int} (hk : 0 ≤ key) (hno : ∀ x ∈ Tr.pl T, Tr.ky (Tr.nn N x) ≠ key) (hf : f ≠ -1) :
  ∃ M s g i G S, Kd rs free N r f fa T key M s g i F G S (-1) (-1) [] ∧ treap_Insert ((N, r, f), key, prio) = some ((M, s, g), (i : Int), 0) := by
 obtain ⟨M, s, g, i, G, S, a1, a3, a4, a5, ⟨b1, b2, b3, b4⟩, a6, a7⟩ := insert_tm (prio := prio) h.t hk hno hf
 have hi2 := ((a3.mem i).1 b1).1
 refine ⟨M, s, g, i, G, S, ⟨a3, b1, b2, b3, b4, a4, empty_q h.a, .inr ⟨rfl, fun x y ⟨j, hj, e, _⟩ => hno j hj e⟩, fun k x y hne => ?_, by rw [a5]; simp, fun c d rs' free' => ?_⟩, a1⟩
 ·rw [a6]
  exact ⟨fun h => h.resolve_left fun h => hne h.1, .inr⟩
 ·obtain ⟨g1, g3, g4⟩ := hang_ok a3 b1 (a := c) (b := d) b2
  have hnn : Tr.nn (M.set i (hup (Tr.nn M i) c d)) i = hup (Tr.nn M i) c d := by rw [Tr.nn_set, if_pos ⟨rfl, hi2⟩]
  obtain ⟨k1, k3, k4⟩ := hang_ok g3 b1 (key := key) (a := -1) (b := -1) (by rw [hnn]; exact b2)
  have hid : hup (Tr.nn M i) (-1) (-1) = Tr.nn M i := by
   have := hup_id (x := Tr.nn M i)
   rwa [b3, b4] at this
  rw [hnn, hup_hup, List.set_set, hid, Tr.set_nn] at k1
  exact hung_none rfl k1 a7
structure Pk (rs : List R3) (free : Int) (N : List Nd) (r f : Int) (fa : List Int) (F : List Nat) (T : Tr.TT) (key task : Int) (fr : Bool) (M : List Nd) (s g : Int) (i : Nat) (G : List Nat) (S : Tr.TT) (a b : Int) (l : List Int) (rs2 : List R3) (h2 t2 : Int) (f' : List Int) : Prop where
 kd : Kd rs free N r f fa T key M s g i F G S a b l
 efa : fa = free :: f'
 ok : SOK rs2 (nx rs free) (M.set i (hup (Tr.nn M i) h2 t2)) s g f' G S
 tm : ∀ k x y, TM (M.set i (hup (Tr.nn M i) h2 t2)) S k x y ↔ (k = key ∧ x = h2 ∧ y = t2) ∨ (k ≠ key ∧ TM N T k x y)
 q : QOK rs2 (nx rs free) h2 t2 f' (bif fr then free :: l else l ++ [free])
 len : rs2.length = rs.length
 tk : ∀ x : Int, 0 ≤ x → tk rs2 x = if x = free then task else Go.AX.tk rs x
 ky : ∀ x : Int, 0 ≤ x → ky rs2 x = if x = free then key else Go.AX.ky rs x
 oth : ∀ k' x y, k' ≠ key → TM N T k' x y → PL rs2 (nx rs free) x y = PL rs free x y
 fr0 : 0 ≤ free ∧ free < rs.length ∧ Go.AX.ky rs free = -1
 front : fr = true → rs2.set free.toNat (-1, -1, nx rs free) = rs ∧ nx rs2 free = a ∧ h2 = free ∧ t2 = (free :: l).getLastD (-1) ∧ ¬ Held rs2 free
theorem park_ok (h : SOK rs free N r f fa F T) {key task : Int} (hk : 0 ≤ key) (ht : 0 ≤ task) (hnew : ∀ x, LV rs x → tk rs x ≠ task) (hf : free ≠ -1) (fr : Bool) {M : List Nd} {s g : Int} {i : Nat} {G : List Nat} {S : Tr.TT} {a b : Int} {l : List Int}
  (kd : Kd rs free N r f fa T key M s g i F G S a b l) : ∃ rs2 h2 t2 f', pushed rs free a b key task fr = ((rs2, nx rs free), (h2, t2), 0) ∧ h2 ≠ -1 ∧ Pk rs free N r f fa F T key task fr M s g i G S a b l rs2 h2 t2 f' := by
 obtain ⟨f', e⟩ : ∃ f', fa = free :: f' := by
  have hc := h.a.ch
  cases fa with
  | nil => cases hc; exact absurd rfl hf
  | cons z f' => exact ⟨f', by cases hc; rfl⟩
 subst e
 obtain ⟨rs2, h2, t2, p1, p2, p3, p4, p5, p6, p7, p8, p9, p10⟩ := h.as.push kd.q kd.o hk ht hnew fr
 obtain ⟨g1, g3, g4⟩ := hang_ok kd.t kd.mi (a := h2) (b := t2) kd.k
 have hTM : ∀ k x y, TM (M.set i (hup (Tr.nn M i) h2 t2)) S k x y ↔ (k = key ∧ x = h2 ∧ y = t2) ∨ (k ≠ key ∧ TM N T k x y) := fun k x y => by
  rw [g4]
  constructor
  ·rintro (c | ⟨c1, c2⟩)
   ·exact .inl c
   ·exact .inr ⟨c1, (kd.tm k x y c1).1 c2⟩
  ·rintro (c | ⟨c1, c2⟩)
   ·exact .inl c
   ·exact .inr ⟨c1, (kd.tm k x y c1).2 c2⟩
 exact ⟨rs2, h2, t2, f', p1, p5, kd, rfl, p2.sok g3 hTM, hTM, p3, p4, p6, p7, p8, p9, p10⟩
def ParkNo (rs : List R3) (free : Int) (N : List Nd) (f : Int) (T : Tr.TT) (key task e : Int) : Prop :=
 (e = 1 ∧ (key < 0 ∨ task < 0)) ∨ (e = 8 ∧ ∃ x, LV rs x ∧ tk rs x = task) ∨ (e = 6 ∧ (∀ x, LV rs x → tk rs x ≠ task) ∧ (free = -1 ∨ (f = -1 ∧ ∀ i ∈ Tr.pl T, Tr.ky (Tr.nn N i) ≠ key)))
theorem park_cases (h : SOK rs free N r f fa F T) (key task : Int) (fr : Bool) (prio : Int) :
  (∃ e, ParkNo rs free N f T key task e ∧ sema_Park ((rs, free, N, r, f), key, task, fr, prio) = some ((rs, free, N, r, f), e)) ∨
  (0 ≤ key ∧ 0 ≤ task ∧ (∀ x, LV rs x → tk rs x ≠ task) ∧ ∃ M s g i G S a b l rs2 h2 t2 f', Pk rs free N r f fa F T key task fr M s g i G S a b l rs2 h2 t2 f' ∧
   sema_Park ((rs, free, N, r, f), key, task, fr, prio) = some ((rs2, nx rs free, M.set i (hup (Tr.nn M i) h2 t2), s, g), 0)) := by
 have hlen := h.t.len
 unfold sema_Park sema_Park_g
 dsimp only
 rw [h.rights]
 by_cases hk : key < 0
 ·left
  simp only [cq1]
  rw [if_neg (fun h => h hk)]
  exact ⟨1, .inl ⟨rfl, .inl hk⟩, rfl⟩
 ·by_cases ht : task < 0
  ·left
   simp only [cq1]
   rw [if_pos hk, if_neg (fun h => h ht)]
   exact ⟨1, .inl ⟨rfl, .inr ht⟩, rfl⟩
  ·obtain ⟨w, w1, w3⟩ := h.whereP task
   rw [w1]
   simp only [cq1]
   rw [if_pos hk, if_pos ht, if_neg (by decide)]
   rcases w3 with ⟨x, x1, x2, x3⟩ | ⟨x1, x2⟩
   ·left
    have := x1.2.2
    rw [if_pos (by omega)]
    exact ⟨8, .inr (.inl ⟨rfl, x, x1, x2⟩), rfl⟩
   ·rw [if_neg (fun h => h x1)]
    have hk : 0 ≤ key := by omega
    have ht : 0 ≤ task := by omega
    rcases h.place key with ⟨i, e1, e2, e3, e4, e5⟩ | ⟨e1, e2⟩
    ·rw [e5]
     simp only [cq1]
     rw [if_neg (by decide)]
     simp only [Option.bind_some]
     have kd := kd_old h e1 e3
     by_cases hf : free = -1
     ·left
      obtain ⟨q1, q2⟩ := kd.q.push_full hk ht hf fr
      refine ⟨6, .inr (.inr ⟨rfl, x2, .inl hf⟩), Tr.bnd q1 rfl⟩
     ·right
      obtain ⟨rs2, h2, t2, f', p1, p2, p3⟩ := park_ok h hk ht x2 hf fr kd
      obtain ⟨q1, q2⟩ := kd.q.push hk ht hf fr
      rw [p1] at q1 q2
      obtain ⟨g1, _⟩ := hang_ok kd.t kd.mi (a := h2) (b := t2) kd.k
      refine ⟨hk, ht, x2, _, _, _, _, _, _, _, _, _, _, _, _, _, p3, Tr.bnd q1 ?_⟩
      ·dsimp only
       rw [if_neg (fun h => h rfl), hung_full p2 g1]
       rfl
    ·rw [e2]
     simp only [cq1]
     rw [if_pos trivial]
     by_cases hff : f = -1
     ·left
      subst hff
      have i1 := Tr.Insert_full (prio := prio) h.t hk e1
      rw [i1]
      exact ⟨6, .inr (.inr ⟨rfl, x2, .inr ⟨rfl, e1⟩⟩), rfl⟩
     ·obtain ⟨M, s, g, i, G, S, kd, i1⟩ := kd_new (prio := prio) h hk e1 hff
      rw [i1]
      simp only [cq1]
      rw [if_neg (fun h => h trivial)]
      simp only [Option.bind_some]
      have hMl := kd.t.len
      by_cases hf : free = -1
      ·left
       obtain ⟨q1, q2⟩ := kd.q.push_full hk ht hf fr
       refine ⟨6, .inr (.inr ⟨rfl, x2, .inl hf⟩), Tr.bnd q1 rfl⟩
      ·right
       obtain ⟨rs2, h2, t2, f', p1, p2, p3⟩ := park_ok h hk ht x2 hf fr kd
       obtain ⟨q1, q2⟩ := kd.q.push hk ht hf fr
       rw [p1] at q1 q2
       obtain ⟨g1, _⟩ := hang_ok kd.t kd.mi (a := h2) (b := t2) kd.k
       refine ⟨hk, ht, x2, _, _, _, _, _, _, _, _, _, _, _, _, _, p3, Tr.bnd q1 ?_⟩
       ·dsimp only
        rw [if_neg (fun h => h rfl), hung_full p2 g1]
        rfl
end
end Go.AX.Sm
end
section
namespace Go.AX.Sm
open Go Go.AX
set_option synthInstance.maxSize 4000 in
theorem aMake_eq : ∀ n : Nat, n < 65 → (match arena_Make (n : Int) with | some x => Nat.ble x.2.length 64 | none => false) = true ∧ arena_Make (n : Int) = rf7_Make (n : Int) := by decide +kernel
theorem aMake_all (n : Int) : ∃ x, arena_Make n = some x ∧ rf7_Make n = some x ∧ x.2.length ≤ 64 := by
 by_cases h1 : n < 0
 ·refine ⟨((0, 1), []), ?_, ?_, by simp⟩
  ·unfold arena_Make arena_Make_g; simp [h1]
  ·unfold rf7_Make rf7_Make_g; simp [h1]
 ·by_cases h2 : 64 < n
  ·refine ⟨((0, 1), []), ?_, ?_, by simp⟩
   ·unfold arena_Make arena_Make_g; simp [h1, h2]
   ·unfold rf7_Make rf7_Make_g; simp [h1, h2]
  ·have h := aMake_eq n.toNat (by omega)
   have e : ((n.toNat : Nat) : Int) = n := by omega
   rw [e] at h
   obtain ⟨ha, hb⟩ := h
   cases hx : arena_Make n with
   | none => rw [hx] at ha; cases ha
   | some x =>
    rw [hx] at ha hb
    exact ⟨x, rfl, hb.symm, Nat.le_of_ble_eq_true ha⟩
theorem al10 : torporlaw10_alive () = some true := by decide +kernel
end Go.AX.Sm
end
section
namespace Go.AX.Sm
open Go Go.AX
section
variable {rs : List R3} {free : Int} {N : List Nd} {r f : Int} {fa : List Int} {F : List Nat} {T : Tr.TT}
end
end Go.AX.Sm
end
section
namespace Go.AX.Sm
open Go Go.AX
def RowIs (rs : List R3) (free : Int) (N : List Nd) (T : Tr.TT) (k : Int) (L : List Int) : Prop := (∃ h t, TM N T k h t ∧ L = (PL rs free h t).map (tk rs)) ∨ (L = [] ∧ ∀ h t, ¬ TM N T k h t)
def upd (R : Int → List Int) (k : Int) (L : List Int) : Int → List Int := fun j => if j = k then L else R j
theorem upd_self {R : Int → List Int} {k : Int} {L : List Int} : upd R k L k = L := if_pos rfl
theorem upd_other {R : Int → List Int} {k j : Int} {L : List Int} (h : j ≠ k) : upd R k L j = R j := if_neg h
structure RJ (rs : List R3) (free : Int) (N : List Nd) (r f : Int) (fa : List Int) (F : List Nat) (T : Tr.TT) (size : Nat) (w : Int) (R : Int → List Int) : Prop where
 ok : SOK rs free N r f fa F T
 l1 : rs.length = size
 l2 : N.length = size
 cnt : (fa.length : Int) + w = size
 row : ∀ k, RowIs rs free N T k (R k)
 rng : ∀ k h t, TM N T k h t → 0 ≤ k ∧ k < 5
def RI (t : TAB) (size : Nat) (w : Int) (R : Int → List Int) : Prop := ∃ fa F T, RJ t.1 t.2.1 t.2.2.1 t.2.2.2.1 t.2.2.2.2 fa F T size w R
section
variable {rs : List R3} {free : Int} {N : List Nd} {r f : Int} {fa : List Int} {F : List Nat} {T : Tr.TT} {size : Nat} {w : Int} {R : Int → List Int}
theorem RJ.task (h : RJ rs free N r f fa F T size w R) {k t : Int} : t ∈ R k ↔ ∃ x, LV rs x ∧ tk rs x = t ∧ ky rs x = k := by
 constructor
 ·intro hm
  rcases h.row k with ⟨a, b, h1, h2⟩ | ⟨h1, _⟩
  ·rw [h2] at hm
   obtain ⟨x, hx, e⟩ := List.mem_map.1 hm
   exact ⟨x, PL_live h.ok.a x hx, e, (h.ok.as.q k a b h1).2.2 x hx⟩
  ·rw [h1] at hm; cases hm
 ·rintro ⟨x, hx, rfl, rfl⟩
  obtain ⟨a, b, h1, h2⟩ := h.ok.as.all x hx
  rcases h.row (ky rs x) with ⟨a', b', h3, h4⟩ | ⟨_, h3⟩
  ·obtain ⟨rfl, rfl⟩ := h.ok.fn _ _ _ _ _ h1 h3
   rw [h4]
   exact List.mem_map.2 ⟨x, h2, rfl⟩
  ·exact absurd h1 (h3 a b)
theorem RJ.key (h : RJ rs free N r f fa F T size w R) {x : Int} (hx : LV rs x) : 0 ≤ ky rs x ∧ ky rs x < 5 := by
 obtain ⟨a, b, h1, h2⟩ := h.ok.as.all x hx
 exact h.rng _ _ _ h1
theorem RJ.uniq (h : RJ rs free N r f fa F T size w R) {k k' t : Int} (h1 : t ∈ R k) (h2 : t ∈ R k') : k = k' := by
 obtain ⟨x, a1, a2, a3⟩ := h.task.1 h1
 obtain ⟨y, b1, b2, b3⟩ := h.task.1 h2
 rw [← a3, ← b3, h.ok.u x y a1 b1 (a2.trans b2.symm)]
theorem RJ.nodup (h : RJ rs free N r f fa F T size w R) (k : Int) : (R k).Nodup := by
 rcases h.row k with ⟨a, b, h1, h2⟩ | ⟨h1, _⟩
 ·rw [h2]
  unfold List.Nodup
  rw [List.pairwise_map]
  have hn := (h.ok.as.q k a b h1).2.1.q.nodup
  exact List.Pairwise.imp_of_mem (fun {x y} hx hy hxy e => hxy (h.ok.u x y (PL_live h.ok.a x hx) (PL_live h.ok.a y hy) e)) hn
 ·rw [h1]; exact List.nodup_nil
theorem RJ.room (h : RJ rs free N r f fa F T size w R) : fa.length ≤ F.length := by
 have hp : (Tr.pl T).length + F.length = N.length := by
  have hd : (Tr.pl T ++ F).Nodup := by
   rw [List.nodup_append]
   exact ⟨h.ok.t.nodup, h.ok.t.free.2, fun a ha b hb e => ((h.ok.t.mem a).1 ha).2 (e ▸ hb)⟩
  have h1 := Tr.nodup_len (n := N.length) hd fun x hx => by
   rcases List.mem_append.1 hx with hx | hx
   ·exact ((h.ok.t.mem x).1 hx).1
   ·exact (h.ok.t.free.1 x hx).1
  have h2 : N.length ≤ (Tr.pl T ++ F).length := by
   have := sub_len (l := (List.range N.length).map fun x : Nat => (x : Int)) (m := (Tr.pl T ++ F).map fun x : Nat => (x : Int)) (by
    unfold List.Nodup
    rw [List.pairwise_map]
    exact List.Pairwise.imp (fun {a b} h e => h (by omega)) List.nodup_range) fun x hx => by
    obtain ⟨i, hi, rfl⟩ := List.mem_map.1 hx
    rw [List.mem_range] at hi
    refine List.mem_map.2 ⟨i, ?_, rfl⟩
    rw [List.mem_append]
    by_cases hF : i ∈ F
    ·exact .inr hF
    ·exact .inl ((h.ok.t.mem i).2 ⟨hi, hF⟩)
   simpa using this
  rw [List.length_append] at h1 h2
  omega
 have hq : (Tr.pl T).length + fa.length ≤ rs.length := by
  have hh : ∀ i ∈ Tr.pl T, Tr.qh (Tr.nn N i) ∈ NP rs free (Tr.nn N i) := fun i hi => by
   obtain ⟨q1, q2, q3⟩ := h.ok.q i hi
   rcases q2.ends with ⟨e, _⟩ | ⟨_, _, e, _⟩
   ·exact absurd e q1
   ·exact e
  have hd : ((Tr.pl T).map (fun i => Tr.qh (Tr.nn N i)) ++ fa).Nodup := by
   rw [List.nodup_append]
   refine ⟨?_, h.ok.a.ch.nodup, fun a ha b hb e => ?_⟩
   ·unfold List.Nodup
    rw [List.pairwise_map]
    refine List.Pairwise.imp_of_mem (fun {i j} hi hj hij e => hij ?_) h.ok.t.nodup
    refine h.ok.t.ka.inj i hi j hj ?_
    have e1 := (h.ok.q i hi).2.2 _ (hh i hi)
    have e2 := (h.ok.q j hj).2.2 _ (hh j hj)
    rw [← e1, ← e2, e]
   ·obtain ⟨i, hi, rfl⟩ := List.mem_map.1 ha
    have h1 := NP_live h.ok.a _ (hh i hi)
    have h2 := (h.ok.a.mem.1 (e ▸ hb)).2.2
    have := h1.2.2
    omega
  have := nodup_le (m := rs.length) hd fun x hx => by
   rcases List.mem_append.1 hx with hx | hx
   ·obtain ⟨i, hi, rfl⟩ := List.mem_map.1 hx
    have := NP_live h.ok.a _ (hh i hi)
    exact ⟨this.1, this.2.1⟩
   ·exact ⟨(h.ok.a.mem.1 hx).1, (h.ok.a.mem.1 hx).2.1⟩
  rw [List.length_append, List.length_map] at this
  omega
 have := h.l1
 have := h.l2
 omega
theorem RJ.full (h : RJ rs free N r f fa F T size w R) : free = -1 ↔ ¬ w < size := by
 have hc := h.cnt
 have hch := h.ok.a.ch
 cases fa with
 | nil => cases hch; simp at hc; exact ⟨fun _ => by omega, fun _ => rfl⟩
 | cons z fa =>
  cases hch with
  | cons a b c d =>
   simp only [List.length_cons] at hc
   exact ⟨fun e => by omega, fun e => by omega⟩
theorem RJ.tfull (h : RJ rs free N r f fa F T size w R) (hf : f = -1) : free = -1 := by
 have hr := h.room
 have hF : F = [] := by
  have := h.ok.t.fr
  rw [hf] at this
  unfold Tr.frF at this
  rw [if_pos rfl] at this
  cases this; rfl
 rw [hF] at hr
 have hch := h.ok.a.ch
 cases fa with
 | nil => cases hch; rfl
 | cons z fa => simp at hr
theorem RJ.park (h : RJ rs free N r f fa F T size w R) {key task : Int} (hk : 0 ≤ key ∧ key < 5) (ht : 0 ≤ task) (fr : Bool) (p : Int) :
  ∃ t' e, sema_Park ((rs, free, N, r, f), key, task, fr, p) = some (t', e) ∧ ((e = 0 ∧ (∀ k, task ∉ R k) ∧ w < size ∧ RI t' size (w + 1) (upd R key (bif fr then task :: R key else R key ++ [task]))) ∨ (e = 8 ∧ (∃ k, 0 ≤ k ∧ k < 5 ∧ task ∈ R k) ∧ t' = (rs, free, N, r, f)) ∨ (e = 6 ∧ (∀ k, task ∉ R k) ∧ ¬ w < size ∧ t' = (rs, free, N, r, f))) := by
 have hno : (∀ x, LV rs x → tk rs x ≠ task) → ∀ k, task ∉ R k := fun hn k hm => by
  obtain ⟨x, a1, a2, _⟩ := h.task.1 hm
  exact hn x a1 a2
 rcases park_cases h.ok key task fr p with ⟨e, c, a⟩ | ⟨_, _, hnew, M, s, g, i, G, S, a, b, l, rs2, h2, t2, f', q, p1⟩
 ·refine ⟨_, e, a, ?_⟩
  rcases c with ⟨c, d⟩ | ⟨rfl, x, x1, x2⟩ | ⟨rfl, c, d⟩
  ·omega
  ·have := h.key x1
   exact .inr (.inl ⟨rfl, ⟨_, this.1, this.2, h.task.2 ⟨x, x1, x2, rfl⟩⟩, rfl⟩)
  ·refine .inr (.inr ⟨rfl, hno c, h.full.1 ?_, rfl⟩)
   rcases d with d | ⟨d, _⟩
   ·exact d
   ·exact h.tfull d
 ·refine ⟨_, 0, p1, .inl ⟨rfl, hno hnew, ?_, f', G, S, q.ok, ?_, ?_, ?_, fun k => ?_, fun k x y hxy => ?_⟩⟩
  ·refine Decidable.byContradiction fun hn => ?_
   have := h.full.2 hn
   have := q.fr0.1
   omega
  ·dsimp only; rw [q.len]; exact h.l1
  ·dsimp only; rw [List.length_set, q.kd.len]; exact h.l2
  ·have := h.cnt
   rw [q.efa] at this
   simp only [List.length_cons] at this
   omega
  ·dsimp only
   have hlv : ∀ x ∈ l, LV rs x := fun x hx => q.kd.q.live hx
   have hxf : ∀ x, LV rs x → x ≠ free := fun x hx e => by have := hx.2.2; rw [e, q.fr0.2.2] at this; omega
   have htk : ∀ l' : List Int, (∀ x ∈ l', LV rs x) → l'.map (tk rs2) = l'.map (tk rs) := fun l' hl' => List.map_congr_left fun x hx => by rw [q.tk x (hl' x hx).1, if_neg (hxf x (hl' x hx))]
   by_cases hkk : k = key
   ·subst hkk
    rw [upd_self]
    left
    refine ⟨h2, t2, (q.tm _ _ _).2 (.inl ⟨rfl, rfl, rfl⟩), ?_⟩
    rw [PL_of q.q]
    have hR : R k = l.map (tk rs) := by
     rcases q.kd.o with ⟨o1, o2, o3⟩ | ⟨o1, o2⟩
     ·rcases h.row k with ⟨x, y, r1, r2⟩ | ⟨_, r2⟩
      ·obtain ⟨rfl, rfl⟩ := o3 x y r1
       rw [r2, o2]
      ·exact absurd o1 (r2 _ _)
     ·rcases h.row k with ⟨x, y, r1, r2⟩ | ⟨r1, _⟩
      ·exact absurd r1 (o2 x y)
      ·rw [r1, o1]; rfl
    have hfree : tk rs2 free = task := by rw [q.tk free q.fr0.1, if_pos rfl]
    rw [hR, ← htk l hlv]
    cases fr
    ·simp only [cond_false, List.map_append, List.map_cons, List.map_nil, hfree]
    ·simp only [cond_true, List.map_cons, hfree]
   ·rw [upd_other hkk]
    rcases h.row k with ⟨x, y, r1, r2⟩ | ⟨r1, r2⟩
    ·left
     refine ⟨x, y, (q.tm _ _ _).2 (.inr ⟨hkk, r1⟩), ?_⟩
     rw [q.oth k x y hkk r1, r2, htk _ (PL_live h.ok.a)]
    ·right
     refine ⟨r1, fun x y hxy => ?_⟩
     rcases (q.tm _ _ _).1 hxy with ⟨e, _⟩ | ⟨_, e⟩
     ·exact hkk e
     ·exact r2 x y e
  ·rcases (q.tm _ _ _).1 hxy with ⟨e, _⟩ | ⟨_, e⟩
   ·rw [e]; exact hk
   ·exact h.rng k x y e
theorem RJ.out (h : RJ rs free N r f fa F T size w R) {i : Nat} (hi : i ∈ Tr.pl T) {key m : Int} (hk : Tr.ky (Tr.nn N i) = key) {l' r' : List Int} (hl : NP rs free (Tr.nn N i) = l' ++ m :: r') :
  ∃ y, sema_hung ((N, r, f), ((cutR rs l' m).set m.toNat (-1, -1, free), m), key, (l' ++ r').headD (-1), (l' ++ r').getLastD (-1)) = some y ∧ RI y size (w - 1) (upd R key ((l' ++ r').map (tk rs))) ∧ R key = (l' ++ m :: r').map (tk rs) := by
 have hA : TM N T key (Tr.qh (Tr.nn N i)) (Tr.qt (Tr.nn N i)) := ⟨i, hi, hk, rfl, rfl⟩
 obtain ⟨t1, t2, t3, t4, t5, t6⟩ := h.ok.as.take h.ok.fn hA hl
 obtain ⟨M, s, g, F', S, o1, o3, o4, o5⟩ := h.ok.out hi hk hl
 have hR : R key = (l' ++ m :: r').map (tk rs) := by
  rcases h.row key with ⟨x, y, r1, r2⟩ | ⟨_, r2⟩
  ·obtain ⟨rfl, rfl⟩ := h.ok.fn _ _ _ _ _ r1 hA
   rw [r2, ← hl]; rfl
  ·exact absurd hA (r2 _ _)
 have hlv : ∀ x ∈ l' ++ m :: r', LV rs x := fun x hx => NP_live h.ok.a x (by rw [hl]; exact hx)
 have hnd : (l' ++ m :: r').Nodup := by rw [← hl]; exact (h.ok.q i hi).2.1.q.nodup
 have hmn : m ∉ l' ++ r' := by
  rw [List.nodup_append, List.nodup_cons] at hnd
  intro hm
  rcases List.mem_append.1 hm with hm | hm
  ·exact hnd.2.2 m hm m (by simp) rfl
  ·exact hnd.2.1.1 hm
 have htk : ∀ lx : List Int, (∀ x ∈ lx, LV rs x ∧ x ≠ m) → lx.map (tk ((cutR rs l' m).set m.toNat (-1, -1, free))) = lx.map (tk rs) := fun lx hlx => List.map_congr_left fun x hx => by rw [t3 x (hlx x hx).1.1, if_neg (hlx x hx).2]
 refine ⟨_, o1, ⟨m :: fa, F', S, o3, ?_, ?_, ?_, fun k => ?_, fun k x y hxy => ?_⟩, hR⟩
 ·dsimp only; rw [t5]; exact h.l1
 ·dsimp only; rw [o4]; exact h.l2
 ·have := h.cnt; simp only [List.length_cons]; omega
 ·dsimp only
  by_cases hkk : k = key
  ·subst hkk
   rw [upd_self]
   by_cases hne : l' ++ r' = []
   ·right
    refine ⟨by rw [hne]; rfl, fun x y hxy => ?_⟩
    rcases (o5 _ _ _).1 hxy with ⟨_, e, _⟩ | ⟨e, _⟩
    ·exact e hne
    ·exact e rfl
   ·left
    refine ⟨_, _, (o5 _ _ _).2 (.inl ⟨rfl, hne, rfl, rfl⟩), ?_⟩
    rw [PL_of t2, htk _ (fun x hx => ⟨hlv x (by simp at hx ⊢; grind), fun e => hmn (e ▸ hx)⟩)]
  ·rw [upd_other hkk]
   rcases h.row k with ⟨x, y, r1, r2⟩ | ⟨r1, r2⟩
   ·left
    refine ⟨x, y, (o5 _ _ _).2 (.inr ⟨hkk, r1⟩), ?_⟩
    have hq := (h.ok.as.q k x y r1).2.2
    have hkm : ky rs m = key := by rw [← hk]; exact (h.ok.q i hi).2.2 m (by rw [hl]; simp)
    rw [t4 k x y hkk r1, r2, htk _ (fun z hz => ⟨PL_live h.ok.a z hz, fun e => hkk (by rw [← hq z hz, e, hkm])⟩)]
   ·right
    refine ⟨r1, fun x y hxy => ?_⟩
    rcases (o5 _ _ _).1 hxy with ⟨e, _⟩ | ⟨_, e⟩
    ·exact hkk e
    ·exact r2 x y e
 ·rcases (o5 _ _ _).1 hxy with ⟨e, _⟩ | ⟨_, e⟩
  ·rw [e]; exact h.rng _ _ _ hA
  ·exact h.rng k x y e
theorem RJ.wake (h : RJ rs free N r f fa F T size w R) (key : Int) : ∃ t' v e, sema_Wake ((rs, free, N, r, f), key) = some (t', v, e) ∧ ((e = 0 ∧ ∃ L, R key = v :: L ∧ RI t' size (w - 1) (upd R key L)) ∨ (e = 7 ∧ R key = [] ∧ t' = (rs, free, N, r, f))) := by
 rcases h.row key with ⟨a, b, ⟨i, hi, hk, rfl, rfl⟩, r2⟩ | ⟨r1, r2⟩
 ·cases hnp : NP rs free (Tr.nn N i) with
  | nil => exact absurd hnp (h.ok.q i hi).1
  | cons m r' =>
   obtain ⟨y, y1, y2, y3⟩ := h.out hi hk (l' := []) hnp
   rw [cutR_nil] at y1
   exact ⟨y, _, 0, h.ok.wake hi hk hnp y1, .inl ⟨rfl, r'.map (tk rs), y3, y2⟩⟩
 ·have hno : ∀ i ∈ Tr.pl T, Tr.ky (Tr.nn N i) ≠ key := fun i hi e => r2 _ _ ⟨i, hi, e, rfl, rfl⟩
  exact ⟨_, _, 7, h.ok.wake_no hno, .inr ⟨rfl, r1, rfl⟩⟩
theorem filter_out {g : Int → Int} {l' r' : List Int} {m : Int} (hn : ((l' ++ m :: r').map g).Nodup) : ((l' ++ m :: r').map g).filter (fun x => decide (x ≠ g m)) = (l' ++ r').map g := by
 simp only [List.map_append, List.map_cons] at hn ⊢
 rw [List.nodup_append, List.nodup_cons] at hn
 rw [List.filter_append, List.filter_cons, if_neg (by simp), List.filter_eq_self.2, List.filter_eq_self.2]
 ·intro x hx
  exact decide_eq_true fun e => hn.2.1.1 (e ▸ hx)
 ·intro x hx
  exact decide_eq_true fun e => hn.2.2 x hx (g m) (by simp) e
theorem RJ.cancel (h : RJ rs free N r f fa F T size w R) (t : Int) : ∃ t' e, sema_Cancel ((rs, free, N, r, f), t) = some (t', e) ∧ ((e = 0 ∧ ∃ k, 0 ≤ k ∧ k < 5 ∧ t ∈ R k ∧ RI t' size (w - 1) (upd R k ((R k).filter fun x => decide (x ≠ t)))) ∨ (e = 7 ∧ (∀ k, t ∉ R k) ∧ t' = (rs, free, N, r, f))) := by
 by_cases hex : ∀ x, LV rs x → tk rs x ≠ t
 ·refine ⟨_, 7, h.ok.cancel_no hex, .inr ⟨rfl, fun k hm => ?_, rfl⟩⟩
  obtain ⟨x, a1, a2, _⟩ := h.task.1 hm
  exact hex x a1 a2
 ·have : ∃ x, LV rs x ∧ tk rs x = t := Classical.byContradiction fun hno => hex fun x hx e => hno ⟨x, hx, e⟩
  obtain ⟨x, hx, hxt⟩ := this
  obtain ⟨i, hi, l', r', hnp⟩ := h.ok.at hx
  obtain ⟨y, y1, y2, y3⟩ := h.out hi rfl hnp
  have hkx : ky rs x = Tr.ky (Tr.nn N i) := (h.ok.q i hi).2.2 x (by rw [hnp]; simp)
  have hkr := h.key hx
  rw [hkx] at hkr
  refine ⟨y, 0, h.ok.cancel hi rfl hnp hxt y1, .inl ⟨rfl, _, hkr.1, hkr.2, h.task.2 ⟨x, hx, hxt, hkx⟩, ?_⟩⟩
  have hn := h.nodup (Tr.ky (Tr.nn N i))
  rw [y3] at hn
  rw [y3, ← hxt, filter_out hn]
  exact y2
theorem RJ.waits (h : RJ rs free N r f fa F T size w R) (k : Int) : sema_Waits ((rs, free, N, r, f), k) = some (R k) ∧ (R k).length ≤ 64 := by
 obtain ⟨L, a, c, d⟩ := h.ok.waits k
 have : L = R k := by
  rcases d with ⟨i, d1, d2, d3⟩ | ⟨d1, d2⟩ <;> rcases h.row k with ⟨x, y, r1, r2⟩ | ⟨r1, r2⟩
  ·obtain ⟨e1, e2⟩ := h.ok.fn _ _ _ _ _ r1 ⟨i, d1, d2, rfl, rfl⟩
   rw [d3, r2, e1, e2]; rfl
  ·exact absurd ⟨i, d1, d2, rfl, rfl⟩ (r2 _ _)
  ·obtain ⟨i, i1, i2, _⟩ := r1
   exact absurd i2 (d1 i i1)
  ·rw [d2, r1]
 rw [← this]
 exact ⟨a, c⟩
end
end Go.AX.Sm
end
section
namespace Go.AX.Sm
open Go Go.AX
theorem without_eq (l : List Int) (n : Int) (hl : l.length ≤ 1000000) : torporlaw10_without (l, n) = some (l.filter fun x => decide (x ≠ n)) := by
 unfold torporlaw10_without torporlaw10_without_g
 simp only [cq1]
 refine LOOP_is (σ := (List Int × Int × Int) × List Int) (O := List Int) (fun s => ∃ i : Nat, s.1 = (l, n, (i : Int)) ∧ i ≤ l.length ∧ s.2 = (l.take i).filter fun x => decide (x ≠ n)) (fun s => l.length - s.1.2.2.toNat) (fun o => o = l.filter fun x => decide (x ≠ n)) ?_ ⟨0, rfl, by omega, by simp⟩ (by have := Tr.big; show l.length - _ < _; omega) (fun o h => h)
 rintro ⟨⟨a, b, c⟩, out⟩ ⟨i, e, hi, e2⟩
 simp only [Prod.mk.injEq] at e
 obtain ⟨rfl, rfl, rfl⟩ := e
 dsimp only at e2 ⊢
 have hol : out.length ≤ 1000000 := by
  rw [e2]
  exact Nat.le_trans (List.length_filter_le _ _) (by rw [List.length_take]; omega)
 by_cases hlt : i < a.length
 ·rw [if_pos (by omega), if_pos (by omega)]
  simp only [Int.toNat_natCast]
  have ht : (a.take (i + 1)).filter (fun x => decide (x ≠ b)) = out ++ (if Ty.at (Ty.int IntKind.i64) a i = b then [] else [Ty.at (Ty.int IntKind.i64) a i]) := by
   rw [take_at (T := (Ty.int IntKind.i64)) hlt, List.filter_append, ← e2]
   by_cases hb : Ty.at (Ty.int IntKind.i64) a i = b
   ·rw [if_pos hb, List.filter_cons, if_neg (by simp [hb])]; rfl
   ·rw [if_neg hb, List.filter_cons, if_pos (by simp [hb])]; rfl
  by_cases hb : Ty.at (Ty.int IntKind.i64) a i = b
  ·rw [if_neg (fun h => h hb), wrap_i64 (by omega)]
   rw [if_pos hb, List.append_nil] at ht
   exact SX_inl (by dsimp only; omega) ⟨i + 1, rfl, by omega, ht.symm⟩
  ·rw [if_pos hb, if_pos (by omega), if_pos (by simp; omega), wrap_i64 (by omega)]
   rw [if_neg hb] at ht
   exact SX_inl (by dsimp only; omega) ⟨i + 1, rfl, by omega, ht.symm⟩
 ·rw [if_neg (by omega)]
  rw [List.take_of_length_le (by omega)] at e2
  exact SX_inr e2
def R5 (a b c d e : List Int) : Int → List Int := fun k => if k = 0 then a else if k = 1 then b else if k = 2 then c else if k = 3 then d else if k = 4 then e else []
theorem upd0 {a b c d e L : List Int} : upd (R5 a b c d e) 0 L = R5 L b c d e := by funext k; unfold upd R5; split <;> rfl
theorem upd1 {a b c d e L : List Int} : upd (R5 a b c d e) 1 L = R5 a L c d e := by
 funext k; unfold upd R5
 by_cases h : k = 1
 ·subst h; rfl
 ·rw [if_neg h, if_neg h]; simp only [if_neg h]
theorem upd2 {a b c d e L : List Int} : upd (R5 a b c d e) 2 L = R5 a b L d e := by
 funext k; unfold upd R5
 by_cases h : k = 2
 ·subst h; rfl
 ·simp only [if_neg h]
theorem upd3 {a b c d e L : List Int} : upd (R5 a b c d e) 3 L = R5 a b c L e := by
 funext k; unfold upd R5
 by_cases h : k = 3
 ·subst h; rfl
 ·simp only [if_neg h]
theorem upd4 {a b c d e L : List Int} : upd (R5 a b c d e) 4 L = R5 a b c d L := by
 funext k; unfold upd R5
 by_cases h : k = 4
 ·subst h; rfl
 ·simp only [if_neg h]
theorem five {k : Int} (h0 : 0 ≤ k) (h1 : k < 5) : k = 0 ∨ k = 1 ∨ k = 2 ∨ k = 3 ∨ k = 4 := by omega
def AtIs (R : Int → List Int) (t at_ : Int) : Prop := (at_ = -1 ∧ ∀ k, t ∉ R k) ∨ (0 ≤ at_ ∧ at_ < 5 ∧ t ∈ R at_)
theorem SX_lbind {σ O τ U : Type} {Inv : σ → Prop} {μ : σ → Nat} {Q : O → Prop} {s : σ} {g : τ → Option (τ ⊕ U)} {t : τ} {k : U → Option (σ ⊕ O)} (Inv' : τ → Prop) (μ' : τ → Nat) (Q' : U → Prop)
  (h : ∀ s, Inv' s → SX Inv' μ' Q' s (g s)) (hi : Inv' t) (hm : μ' t < FUEL) (hk : ∀ o, Q' o → SX Inv μ Q s (k o)) : SX Inv μ Q s ((LOOPx τ U g t).bind k) := by
 obtain ⟨o, h1, h2⟩ := LOOP_ex Inv' μ' Q' h hi hm
 rw [h1]; exact hk o h2
theorem RI.nodup5 {t : TAB} {size : Nat} {w : Int} {R : Int → List Int} (h : RI t size w R) (k : Int) : (R k).length ≤ 64 := by
 obtain ⟨fa, F, T, j⟩ := h
 exact (j.waits k).2
theorem RI.park {t : TAB} {size : Nat} {w : Int} {R : Int → List Int} (h : RI t size w R) {key task : Int} (hk : 0 ≤ key ∧ key < 5) (ht : 0 ≤ task) (fr : Bool) (p : Int) :
  ∃ t' e, sema_Park (t, key, task, fr, p) = some (t', e) ∧ ((e = 0 ∧ (∀ k, task ∉ R k) ∧ w < size ∧ RI t' size (w + 1) (upd R key (bif fr then task :: R key else R key ++ [task]))) ∨ (e = 8 ∧ (∃ k, 0 ≤ k ∧ k < 5 ∧ task ∈ R k) ∧ t' = t) ∨ (e = 6 ∧ (∀ k, task ∉ R k) ∧ ¬ w < size ∧ t' = t)) := by
 obtain ⟨fa, F, T, j⟩ := h
 obtain ⟨rs, free, N, r, f⟩ := t
 exact j.park hk ht fr p
theorem RI.wake {t : TAB} {size : Nat} {w : Int} {R : Int → List Int} (h : RI t size w R) (key : Int) : ∃ t' v e, sema_Wake (t, key) = some (t', v, e) ∧ ((e = 0 ∧ ∃ L, R key = v :: L ∧ RI t' size (w - 1) (upd R key L)) ∨ (e = 7 ∧ R key = [] ∧ t' = t)) := by
 obtain ⟨fa, F, T, j⟩ := h
 obtain ⟨rs, free, N, r, f⟩ := t
 exact j.wake key
theorem RI.cancel {t : TAB} {size : Nat} {w : Int} {R : Int → List Int} (h : RI t size w R) (a : Int) : ∃ t' e, sema_Cancel (t, a) = some (t', e) ∧ ((e = 0 ∧ ∃ k, 0 ≤ k ∧ k < 5 ∧ a ∈ R k ∧ RI t' size (w - 1) (upd R k ((R k).filter fun x => decide (x ≠ a)))) ∨ (e = 7 ∧ (∀ k, a ∉ R k) ∧ t' = t)) := by
 obtain ⟨fa, F, T, j⟩ := h
 obtain ⟨rs, free, N, r, f⟩ := t
 exact j.cancel a
theorem RI.uniq {t : TAB} {size : Nat} {w : Int} {R : Int → List Int} (h : RI t size w R) {k k' a : Int} (h1 : a ∈ R k) (h2 : a ∈ R k') : k = k' := by
 obtain ⟨fa, F, T, j⟩ := h
 exact j.uniq h1 h2
theorem RI.waits {t : TAB} {size : Nat} {w : Int} {R : Int → List Int} (h : RI t size w R) (k : Int) : sema_Waits (t, k) = some (R k) := by
 obtain ⟨fa, F, T, j⟩ := h
 obtain ⟨rs, free, N, r, f⟩ := t
 exact (j.waits k).1
theorem RI.right {t : TAB} {size : Nat} {w : Int} {R : Int → List Int} (h : RI t size w R) : sema_Right t = some true := by
 obtain ⟨fa, F, T, j⟩ := h
 obtain ⟨rs, free, N, r, f⟩ := t
 exact j.ok.rights
end Go.AX.Sm
end
section
namespace Go.AX.Sm
open Go Go.AX
def mk12 (n : Nat) : Bool := match treap_Make (n : Int) with
 | some (((r, f), e), N) => decide (e = 0) && (Tr.progR N r f && (Nat.beq N.length n && N.all fun x => decide (Tr.ky x = -1)))
 | none => false
theorem mk12_all : ∀ n : _root_.Fin 12, mk12 n.val = true := by decide +kernel
theorem RI_make {n : Int} (h0 : 0 ≤ n) (h1 : n < 12) : ∃ a b c l m, sema_Make n = some (((a, b, c), 0), l, m) ∧ RI (l, a, m, b, c) n.toNat 0 fun _ => [] := by
 obtain ⟨rs, fr, fa, e1, e2, e3, e4⟩ := Make_ok h0 (by omega)
 obtain ⟨x, a1, a2, a3⟩ := aMake_all n
 rw [e1] at a2
 cases a2
 have ht := mk12_all ⟨n.toNat, by omega⟩
 simp only [mk12] at ht
 have en : ((n.toNat : Nat) : Int) = n := by omega
 rw [en] at ht
 cases hm : treap_Make n with
 | none => rw [hm] at ht; cases ht
 | some y =>
  obtain ⟨⟨⟨r, f⟩, e⟩, N⟩ := y
  rw [hm] at ht
  simp only [Bool.and_eq_true, decide_eq_true_eq] at ht
  obtain ⟨rfl, hp, hl, ha⟩ := ht
  have hl := Nat.eq_of_beq_eq_true hl
  obtain ⟨F, T, hT⟩ := Tr.ok_of hp
  have hno : ∀ i, i ∉ Tr.pl T := fun i hi => by
   have h1 := hT.key i hi
   have h2 := List.all_eq_true.1 ha _ (nn_mem ((hT.mem i).1 hi).1)
   rw [decide_eq_true_eq] at h2
   omega
  have hTM : ∀ k x y, ¬ TM N T k x y := fun k x y ⟨i, hi, _⟩ => hno i hi
  have hnl : ∀ x, ¬ LV rs x := fun x hx => e4 x hx.1 hx.2.1 hx.2.2
  have hrl : rs.length = n.toNat := by
   have := (count_all e2.a (acc := []) List.nodup_nil (by simp)).2 fun x hx => absurd hx (hnl x)
   simp at this
   omega
  refine ⟨fr, r, f, rs, N, ?_, fa, F, T, ⟨e2.a, hT, fun i hi => absurd hi (hno i), fun x y hx => absurd hx (hnl x), fun x hx => absurd hx (hnl x)⟩, hrl, hl, ?_, fun k => .inr ⟨rfl, hTM k⟩, fun k x y h => absurd h (hTM k x y)⟩
  ·unfold sema_Make sema_Make_g
   rw [a1, hm]
   rfl
  ·rw [e3]; omega
abbrev A5 := Int × Int × Int × Bool × Int
abbrev YA : Ty := .pr (.int .u8) (.pr (.int .u8) (.pr (.int .u8) (.pr (.boo) (.int .u32))))
def Okay (a : A5) : Prop := (0 ≤ a.1 ∧ a.1 < 256) ∧ (0 ≤ a.2.1 ∧ a.2.1 < 256) ∧ (0 ≤ a.2.2.1 ∧ a.2.2.1 < 256)
abbrev L5 := List Int × List Int × List Int × List Int × List Int
def rows (l : L5) : Int → List Int := R5 l.1 l.2.1 l.2.2.1 l.2.2.2.1 l.2.2.2.2
theorem rows_nil : rows ([], [], [], [], []) = fun _ => [] := by
 funext k
 unfold rows R5
 simp
theorem tmod_u8 {x m : Int} (h : 0 ≤ x ∧ x < 256) (hm : 0 < m ∧ m < 256) : IntKind.i64.wrap (x.tmod m) = x % m ∧ 0 ≤ x % m ∧ x % m < m := by
 have e : x.tmod m = x % m := Int.tmod_eq_emod_of_nonneg h.1
 have h1 := Int.emod_nonneg x (show m ≠ 0 by omega)
 have h2 := Int.emod_lt_of_pos x hm.1
 rw [e, wrap_i64 (by omega)]
 exact ⟨rfl, h1, h2⟩
theorem rows_out {l : L5} {k : Int} (h : k < 0 ∨ 5 ≤ k) : rows l k = [] := by
 unfold rows R5
 rw [if_neg (by omega), if_neg (by omega), if_neg (by omega), if_neg (by omega), if_neg (by omega)]
def AtK (R : Int → List Int) (t at_ : Int) (k : Nat) : Prop := (at_ = -1 ∧ ∀ j : Int, 0 ≤ j → j < k → t ∉ R j) ∨ (0 ≤ at_ ∧ at_ < 5 ∧ t ∈ R at_)
theorem AtK.yes {R : Int → List Int} {t at_ : Int} {k k' : Nat} {j : Int} (h : AtK R t at_ k) (hj : 0 ≤ j ∧ j < 5) (hm : t ∈ R j) : AtK R t j k' := .inr ⟨hj.1, hj.2, hm⟩
theorem AtK.no {R : Int → List Int} {t at_ : Int} {k : Nat} (h : AtK R t at_ k) (hm : t ∉ R k) : AtK R t at_ (k + 1) := by
 rcases h with ⟨e, h⟩ | h
 ·refine .inl ⟨e, fun j h0 h1 => ?_⟩
  by_cases hj : j = k
  ·rw [hj]; exact hm
  ·exact h j h0 (by omega)
 ·exact .inr h
theorem AtK.end {l : L5} {t at_ : Int} (h : AtK (rows l) t at_ 5) : AtIs (rows l) t at_ := by
 rcases h with ⟨e, h⟩ | h
 ·refine .inl ⟨e, fun k => ?_⟩
  by_cases hk : 0 ≤ k ∧ k < 5
  ·exact h k hk.1 hk.2
  ·rw [rows_out (by omega)]; simp
 ·exact .inr h
theorem updr0 {a b c d e L : List Int} : upd (rows (a, b, c, d, e)) 0 L = rows (L, b, c, d, e) := upd0
theorem updr1 {a b c d e L : List Int} : upd (rows (a, b, c, d, e)) 1 L = rows (a, L, c, d, e) := upd1
theorem updr2 {a b c d e L : List Int} : upd (rows (a, b, c, d, e)) 2 L = rows (a, b, L, d, e) := upd2
theorem updr3 {a b c d e L : List Int} : upd (rows (a, b, c, d, e)) 3 L = rows (a, b, c, L, e) := upd3
theorem updr4 {a b c d e L : List Int} : upd (rows (a, b, c, d, e)) 4 L = rows (a, b, c, d, L) := upd4
theorem has_br {σ O : Type} {Inv : σ → Prop} {μ : σ → Nat} {Q : O → Prop} {s A B : σ} {l : List Int} {t : Int} (hl : l.length ≤ 1000000) (h1 : t ∈ l → μ A < μ s ∧ Inv A) (h2 : t ∉ l → μ B < μ s ∧ Inv B) :
  SX Inv μ Q s ((rf7_Has (l, t)).bind fun x => if x = true then some (.inl A) else some (.inl B)) := by
 refine SX_bind (Has_eq l t hl) ?_
 by_cases hm : t ∈ l
 ·rw [if_pos (by rw [decide_eq_true hm])]
  exact SX_inl (h1 hm).1 (h1 hm).2
 ·rw [if_neg (by rw [decide_eq_false hm]; decide)]
  exact SX_inl (h2 hm).1 (h2 hm).2
theorem drop1 {v : Int} {L : List Int} : ([] : List Int) ++ List.take ((v :: L).length - Int.toNat 1) (List.drop (Int.toNat 1) (v :: L)) = L := by simp
theorem Rows_law {x : Int × List A5} (h1 : 0 ≤ x.1 ∧ x.1 < 256) (h2 : ∀ a ∈ x.2, Okay a) : torporlaw10_SemaRows x = some true := by
 obtain ⟨n, acts⟩ := x
 dsimp only at h1 h2
 unfold torporlaw10_SemaRows torporlaw10_SemaRows_g
 simp only [al10, cq1]
 rw [if_neg (by decide)]
 by_cases hl : (40 : Int) < acts.length
 ·rw [if_pos hl]
 ·rw [if_neg hl, if_pos (by decide)]
  have hm : n.tmod 12 = n % 12 := Int.tmod_eq_emod_of_nonneg h1.1
  have s2 : 0 ≤ n % 12 := by omega
  have s3 : n % 12 < 12 := by omega
  rw [show IntKind.i64.wrap n = n from wrap_i64 (by omega), hm]
  generalize n % 12 = size at *
  obtain ⟨a, b, c, l, m, e1, e2⟩ := RI_make s2 s3
  refine Tr.bnd e1 ?_
  dsimp only
  rw [if_neg (fun h => h rfl)]
  have hsz : ((size.toNat : Nat) : Int) = size := by omega
  refine LOOP_bind (fun s : (List A5 × Int × Int × Int) × TAB × L5 => ∃ (i : Nat) (w : Int), s.1 = (acts, size, w, (i : Int)) ∧ i ≤ acts.length ∧ -(i : Int) ≤ w ∧ w ≤ i ∧ RI s.2.1 size.toNat w (rows s.2.2)) (fun s => acts.length - s.1.2.2.2.toNat)
   (fun o => ∃ t l w, o = .inl (t, l) ∧ RI t size.toNat w (rows l)) ?_ ⟨0, 0, rfl, by omega, by omega, by omega, by rw [show rows _ = fun _ => [] from rows_nil]; exact e2⟩ (by have := Tr.big; show acts.length - _ < _; omega) ?_
  ·rintro ⟨⟨a1, a2, a3, a4⟩, ⟨t1, t2, t3, t4, t5⟩, ⟨l1, l2, l3, l4, l5⟩⟩ ⟨i, w, e, hi, hw0, hw1, hR⟩
   simp only [Prod.mk.injEq] at e
   obtain ⟨rfl, rfl, rfl, rfl⟩ := e
   dsimp only at hR ⊢
   by_cases hlt : i < a1.length
   ·rw [if_pos (by omega), if_pos (by omega), if_pos (by decide), if_pos (by omega), if_pos (by decide)]
    simp only [Int.toNat_natCast]
    have ha := h2 _ (at_mem (T := YA) hlt)
    obtain ⟨ha0, ha1, ha2⟩ := ha
    obtain ⟨q1, q2, q3⟩ := tmod_u8 (m := 5) ha1 (by decide)
    obtain ⟨r1, r2, r3⟩ := tmod_u8 (m := 12) ha2 (by decide)
    rw [q1, r1]
    generalize (Ty.at YA a1 i).2.1 % 5 = key at *
    generalize (Ty.at YA a1 i).2.2.1 % 12 = task at *
    have hlen : ∀ j : Int, (rows (l1, l2, l3, l4, l5) j).length ≤ 1000000 := fun j => by have := hR.nodup5 j; omega
    refine SX_lbind (fun s : (List A5 × Int × I6) × TAB × L5 => ∃ (k : Nat) (at_ : Int), s = ((a1, a2, a3, (i : Int), key, task, at_, (k : Int)), (t1, t2, t3, t4, t5), (l1, l2, l3, l4, l5)) ∧ k ≤ 5 ∧ AtK (rows (l1, l2, l3, l4, l5)) task at_ k) (fun s => 5 - s.1.2.2.2.2.2.2.2.toNat)
     (fun o => ∃ at_, o = .inl ((a1, a2, a3, (i : Int), key, task, at_), (t1, t2, t3, t4, t5), (l1, l2, l3, l4, l5)) ∧ AtIs (rows (l1, l2, l3, l4, l5)) task at_) ?_ ⟨0, -1, rfl, by omega, .inl ⟨rfl, fun j h0 h1 => by omega⟩⟩ (by have := Tr.big; show 5 - _ < _; omega) ?_
    ·rintro _ ⟨k, at_, rfl, hk, hat⟩
     dsimp only
     by_cases hk5 : k < 5
     ·rw [if_pos (by omega)]
      have : k = 0 ∨ k = 1 ∨ k = 2 ∨ k = 3 ∨ k = 4 := by omega
      rcases this with rfl | rfl | rfl | rfl | rfl
      all_goals (repeat rw [if_neg (by decide)])
      all_goals rw [if_pos (by decide), wrap_i64 (by omega)]
      ·exact has_br (hlen 0) (fun hm => ⟨by dsimp only; decide, 1, 0, rfl, by omega, hat.yes (by omega) hm⟩) fun hm => ⟨by dsimp only; decide, 1, _, rfl, by omega, hat.no hm⟩
      ·exact has_br (hlen 1) (fun hm => ⟨by dsimp only; decide, 2, 1, rfl, by omega, hat.yes (by omega) hm⟩) fun hm => ⟨by dsimp only; decide, 2, _, rfl, by omega, hat.no hm⟩
      ·exact has_br (hlen 2) (fun hm => ⟨by dsimp only; decide, 3, 2, rfl, by omega, hat.yes (by omega) hm⟩) fun hm => ⟨by dsimp only; decide, 3, _, rfl, by omega, hat.no hm⟩
      ·exact has_br (hlen 3) (fun hm => ⟨by dsimp only; decide, 4, 3, rfl, by omega, hat.yes (by omega) hm⟩) fun hm => ⟨by dsimp only; decide, 4, _, rfl, by omega, hat.no hm⟩
      ·exact has_br (hlen 4) (fun hm => ⟨by dsimp only; decide, 5, 4, rfl, by omega, hat.yes (by omega) hm⟩) fun hm => ⟨by dsimp only; decide, 5, _, rfl, by omega, hat.no hm⟩
     ·rw [if_neg (by omega)]
      have : k = 5 := by omega
      subst this
      exact SX_inr ⟨at_, rfl, hat.end⟩
    ·rintro o ⟨at_, rfl, hat⟩
     dsimp only
     rw [if_pos (by omega), if_pos (by decide)]
     simp only [Int.toNat_natCast]
     have g1 : l1.length ≤ 1000000 := hlen 0
     have g2 : l2.length ≤ 1000000 := hlen 1
     have g3 : l3.length ≤ 1000000 := hlen 2
     have g4 : l4.length ≤ 1000000 := hlen 3
     have g5 : l5.length ≤ 1000000 := hlen 4
     by_cases h3 : (Ty.at YA a1 i).1.tmod 3 = 0
     ·rw [if_pos (show (Ty.at YA a1 i).1.tmod 3 = 0 from h3), if_pos (by omega), if_pos (by omega)]
      obtain ⟨⟨u1, u2, u3, u4, u5⟩, e, p1, p2⟩ := hR.park ⟨q2, q3⟩ r2 (Ty.at YA a1 i).2.2.2.1 (Ty.at YA a1 i).2.2.2.2
      refine SX_bind p1 ?_
      dsimp only
      rcases p2 with ⟨rfl, hno, hw, hR2⟩ | ⟨rfl, ⟨k0, k1, k2, k3⟩, ht⟩ | ⟨rfl, hno, hw, ht⟩
      ·have hat1 : at_ = -1 := hat.elim (fun h => h.1) (fun h => absurd h.2.2 (hno _))
       subst hat1
       rw [if_pos (by decide), if_pos (by rw [decide_eq_true (show a3 < a2 by omega)]; rfl), if_neg (by simp)]
       simp only [Option.bind_some, Int.toNat_natCast]
       rw [if_pos trivial, if_pos (by omega)]
       by_cases hfr : (Ty.at YA a1 i).2.2.2.1 = true
       ·rw [if_pos (show (Ty.at YA a1 i).2.2.2.1 = true from hfr)]
        rw [hfr] at hR2
        simp only [cond_true] at hR2
        rcases five q2 q3 with rfl | rfl | rfl | rfl | rfl
        all_goals (repeat rw [if_neg (by decide)])
        all_goals rw [if_pos (by decide), if_pos (by simp only [List.length_cons, List.length_nil]; omega), if_pos trivial, wrap_i64 (by omega), wrap_i64 (by omega)]
        all_goals first | rw [updr0] at hR2 | rw [updr1] at hR2 | rw [updr2] at hR2 | rw [updr3] at hR2 | rw [updr4] at hR2
        all_goals exact SX_inl (by dsimp only; omega) ⟨i + 1, a3 + 1, rfl, by omega, by omega, by omega, hR2⟩
       ·rw [if_neg (show ¬ (Ty.at YA a1 i).2.2.2.1 = true from hfr), if_pos trivial]
        rw [Bool.not_eq_true] at hfr
        rw [hfr] at hR2
        simp only [cond_false] at hR2
        rcases five q2 q3 with rfl | rfl | rfl | rfl | rfl
        all_goals (repeat rw [if_neg (by decide)])
        all_goals rw [if_pos (by decide), if_pos (by simp only [List.length_cons, List.length_nil]; omega), if_pos trivial, wrap_i64 (by omega), wrap_i64 (by omega)]
        all_goals first | rw [updr0] at hR2 | rw [updr1] at hR2 | rw [updr2] at hR2 | rw [updr3] at hR2 | rw [updr4] at hR2
        all_goals exact SX_inl (by dsimp only; omega) ⟨i + 1, a3 + 1, rfl, by omega, by omega, by omega, hR2⟩
      ·have hat1 : 0 ≤ at_ := hat.elim (fun h => absurd k3 (h.2 k0)) (fun h => h.1)
       cases ht
       rw [if_neg (by omega), if_pos (by decide), if_neg (by rw [decide_eq_true hat1]; simp)]
       simp only [Option.bind_some, Int.toNat_natCast]
       rw [if_neg (by decide), if_neg (by decide), if_neg (by decide), wrap_i64 (by omega)]
       exact SX_inl (by dsimp only; omega) ⟨i + 1, a3, rfl, by omega, by omega, by omega, hR⟩
      ·have hat1 : at_ = -1 := hat.elim (fun h => h.1) (fun h => absurd h.2.2 (hno _))
       subst hat1
       cases ht
       rw [if_pos (by decide), if_pos (by rw [decide_eq_false (show ¬ a3 < a2 by omega)]; rfl), if_neg (by simp)]
       simp only [Option.bind_some, Int.toNat_natCast]
       rw [if_neg (by decide), if_neg (by decide), if_neg (by decide), wrap_i64 (by omega)]
       exact SX_inl (by dsimp only; omega) ⟨i + 1, a3, rfl, by omega, by omega, by omega, hR⟩
     ·rw [if_neg (show ¬ (Ty.at YA a1 i).1.tmod 3 = 0 from h3)]
      by_cases h4 : (Ty.at YA a1 i).1.tmod 3 = 1
      ·rw [if_pos (show (Ty.at YA a1 i).1.tmod 3 = 1 from h4)]
       obtain ⟨⟨u1, u2, u3, u4, u5⟩, v, e, p1, p2⟩ := hR.wake key
       refine SX_bind p1 ?_
       dsimp only
       rcases p2 with ⟨rfl, L, hL, hR2⟩ | ⟨rfl, hL, ht⟩
       ·refine SX_bind (r := .inl ((a1, a2, a3, (i : Int), key, 0), (t1, t2, t3, t4, t5), (u1, u2, u3, u4, u5), l1, l2, l3, l4, l5)) ?_ ?_
        ·rcases five q2 q3 with rfl | rfl | rfl | rfl | rfl
         all_goals (repeat rw [if_neg (by decide)])
         all_goals first | (have hL' : l1 = v :: L := hL; subst hL') | (have hL' : l2 = v :: L := hL; subst hL') | (have hL' : l3 = v :: L := hL; subst hL') | (have hL' : l4 = v :: L := hL; subst hL') | (have hL' : l5 = v :: L := hL; subst hL')
         all_goals rw [if_pos (by decide), if_pos (by simp), if_pos rfl, if_pos (by rw [List.length_cons]; omega), if_pos (by rw [List.length_cons]; omega), if_neg (fun h => h rfl)]
        ·dsimp only
         rw [if_pos rfl]
         rcases five q2 q3 with rfl | rfl | rfl | rfl | rfl
         all_goals (repeat rw [if_neg (by decide)])
         all_goals rw [if_pos (by decide)]
         all_goals first | (have hL' : l1 = v :: L := hL; subst hL') | (have hL' : l2 = v :: L := hL; subst hL') | (have hL' : l3 = v :: L := hL; subst hL') | (have hL' : l4 = v :: L := hL; subst hL') | (have hL' : l5 = v :: L := hL; subst hL')
         all_goals (rw [if_pos (by rw [List.length_cons]; omega), if_pos (by rw [List.length_take, List.length_drop, List.length_nil]; simp only [List.length_cons] at *; omega), drop1, wrap_i64 (by omega), wrap_i64 (by omega)])
         all_goals first | rw [updr0] at hR2 | rw [updr1] at hR2 | rw [updr2] at hR2 | rw [updr3] at hR2 | rw [updr4] at hR2
         all_goals exact SX_inl (by dsimp only; omega) ⟨i + 1, a3 - 1, rfl, by omega, by omega, by omega, hR2⟩
       ·refine SX_bind (r := .inl ((a1, a2, a3, (i : Int), key, 7), (t1, t2, t3, t4, t5), (u1, u2, u3, u4, u5), l1, l2, l3, l4, l5)) ?_ ?_
        ·rcases five q2 q3 with rfl | rfl | rfl | rfl | rfl
         all_goals (repeat rw [if_neg (by decide)])
         all_goals first | (have hL' : l1 = [] := hL; subst hL') | (have hL' : l2 = [] := hL; subst hL') | (have hL' : l3 = [] := hL; subst hL') | (have hL' : l4 = [] := hL; subst hL') | (have hL' : l5 = [] := hL; subst hL')
         all_goals rw [if_pos (by decide), if_pos (by simp), if_neg (by decide)]
        ·dsimp only
         cases ht
         rw [if_neg (by decide), wrap_i64 (by omega)]
         exact SX_inl (by dsimp only; omega) ⟨i + 1, a3, rfl, by omega, by omega, by omega, hR⟩
      ·rw [if_neg (show ¬ (Ty.at YA a1 i).1.tmod 3 = 1 from h4)]
       obtain ⟨⟨u1, u2, u3, u4, u5⟩, e, p1, p2⟩ := hR.cancel task
       refine SX_bind p1 ?_
       dsimp only
       rcases p2 with ⟨rfl, k, k0, k1, k2, hR2⟩ | ⟨rfl, hno, ht⟩
       ·have hk : at_ = k := hat.elim (fun h => absurd k2 (h.2 k)) (fun h => hR.uniq h.2.2 k2)
        subst hk
        rw [if_neg (by rw [decide_eq_true k0]; simp), if_pos rfl]
        rcases five k0 k1 with rfl | rfl | rfl | rfl | rfl
        all_goals (repeat rw [if_neg (by decide)])
        all_goals (rw [if_pos (by decide)]; refine SX_bind (without_eq _ task (by assumption)) ?_; rw [wrap_i64 (by omega), wrap_i64 (by omega)])
        all_goals first | rw [updr0] at hR2 | rw [updr1] at hR2 | rw [updr2] at hR2 | rw [updr3] at hR2 | rw [updr4] at hR2
        all_goals exact SX_inl (by dsimp only; omega) ⟨i + 1, a3 - 1, rfl, by omega, by omega, by omega, hR2⟩
       ·have hat1 : at_ = -1 := hat.elim (fun h => h.1) (fun h => absurd h.2.2 (hno _))
        subst hat1
        cases ht
        rw [if_neg (by simp), if_neg (by decide), wrap_i64 (by omega)]
        exact SX_inl (by dsimp only; omega) ⟨i + 1, a3, rfl, by omega, by omega, by omega, hR⟩
   ·rw [if_neg (by omega)]
    exact SX_inr ⟨_, _, _, rfl, hR⟩
  ·rintro o ⟨⟨t1, t2, t3, t4, t5⟩, ⟨l1, l2, l3, l4, l5⟩, w, rfl, hR⟩
   dsimp only
   refine LOOP_is (fun s : Int × TAB × L5 => ∃ k : Nat, s = ((k : Int), (t1, t2, t3, t4, t5), (l1, l2, l3, l4, l5)) ∧ k ≤ 5) (fun s => 5 - s.1.toNat) (fun o => o = true) ?_ ⟨0, rfl, by omega⟩ (by have := Tr.big; show 5 - _ < _; omega) (fun o h => h)
   rintro _ ⟨k, rfl, hk⟩
   dsimp only
   have hlen : ∀ j : Int, (rows (l1, l2, l3, l4, l5) j).length ≤ 1000000 := fun j => by have := hR.nodup5 j; omega
   by_cases hlt : k < 5
   ·rw [if_pos (by omega)]
    have : k = 0 ∨ k = 1 ∨ k = 2 ∨ k = 3 ∨ k = 4 := by omega
    rcases this with rfl | rfl | rfl | rfl | rfl
    ·rw [if_pos (by decide)]
     refine SX_bind (hR.waits 0) (SX_bind (Ints_eq _ _ (hlen 0)) ?_)
     rw [if_neg (by simp [rows, R5]), wrap_i64 (by omega)]
     exact SX_inl (by dsimp only; decide) ⟨1, rfl, by omega⟩
    ·rw [if_neg (by decide), if_pos (by decide)]
     refine SX_bind (hR.waits 1) (SX_bind (Ints_eq _ _ (hlen 1)) ?_)
     rw [if_neg (by simp [rows, R5]), wrap_i64 (by omega)]
     exact SX_inl (by dsimp only; decide) ⟨2, rfl, by omega⟩
    ·rw [if_neg (by decide), if_neg (by decide), if_pos (by decide)]
     refine SX_bind (hR.waits 2) (SX_bind (Ints_eq _ _ (hlen 2)) ?_)
     rw [if_neg (by simp [rows, R5]), wrap_i64 (by omega)]
     exact SX_inl (by dsimp only; decide) ⟨3, rfl, by omega⟩
    ·rw [if_neg (by decide), if_neg (by decide), if_neg (by decide), if_pos (by decide)]
     refine SX_bind (hR.waits 3) (SX_bind (Ints_eq _ _ (hlen 3)) ?_)
     rw [if_neg (by simp [rows, R5]), wrap_i64 (by omega)]
     exact SX_inl (by dsimp only; decide) ⟨4, rfl, by omega⟩
    ·rw [if_neg (by decide), if_neg (by decide), if_neg (by decide), if_neg (by decide), if_pos (by decide)]
     refine SX_bind (hR.waits 4) (SX_bind (Ints_eq _ _ (hlen 4)) ?_)
     rw [if_neg (by simp [rows, R5]), wrap_i64 (by omega)]
     exact SX_inl (by dsimp only; decide) ⟨5, rfl, by omega⟩
   ·rw [if_neg (by omega), hR.right]
    exact SX_inr rfl
end Go.AX.Sm
end
section
namespace Go.AX
open Go
abbrev AllOf (ts : List (Nat × SK)) (g : Val (StK.den ⟨ts, []⟩) → Option Bool) : Prop := ∀ x : Val (SK.denL (tsL ts)), SK.okL (tsL ts) x → g (mk2 x ()) = some true
theorem u8_ok {n : Int} (h : (Lit.int .u8 n).wf = true) : 0 ≤ n ∧ n < 256 := by
 simp only [Lit.wf, Bool.and_eq_true, decide_eq_true_eq] at h
 have e1 : IntKind.u8.min = 0 := by decide
 have e2 : IntKind.u8.max = 255 := by decide
 rw [e1, e2] at h
 omega
theorem SemaRows_true : AllOf sg_torporlaw10_SemaRows.a.ts torporlaw10_SemaRows := by
 rintro ⟨n, acts⟩ hx
 obtain ⟨h1, h2, _⟩ := hx
 have h2 : Ty.ok (.sl Sm.YA) acts := h2
 refine Sm.Rows_law (x := (n, acts)) (u8_ok (n := n) h1) fun a ha => ?_
 have h3 := h2.2 a ha
 exact ⟨u8_ok (n := a.1) h3.1, u8_ok (n := a.2.1) h3.2.1, u8_ok (n := a.2.2.1) h3.2.2.1⟩
end Go.AX
end
