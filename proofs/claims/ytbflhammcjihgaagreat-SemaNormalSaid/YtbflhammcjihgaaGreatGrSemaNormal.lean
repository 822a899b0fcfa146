/- The law SemaNormal, in plain terms: part two. -/
import Derived.Test.YtbflhammcjihgaaGreatGpSemaNormal
import Derived.Test.YtbflhammcjihgaaGreatGeB
set_option linter.unusedSimpArgs false
set_option linter.unusedVariables false
set_option maxRecDepth 100000
section
namespace Go.AX.Tr
open Go Go.AX
theorem prF_ch {N M : List Nd} {S : List Nat} (h : Ch N M S) : prF M = prF N := by funext j; exact h.pri j
theorem prF_wr {N : List Nd} {T : TT} : prF (wr N T) = prF N := by funext j; exact (wr_same (T := T) (N := N) (j := j)).2.1
theorem toI_take {l : List Nat} {b : Nat} : ((toI l).take b).drop 0 = toI (l.take b) := by unfold toI; simp [List.map_take]
theorem toI_drop {l : List Nat} {b : Nat} : ((toI l).take l.length).drop b = toI (l.drop b) := by
 unfold toI
 rw [List.take_of_length_le (by rw [List.length_map]; exact Nat.le_refl _), List.map_drop]
theorem getD_mem {l : List Nat} {b : Nat} (h : b < l.length) : l.getD b 0 ∈ l := by
 rw [List.getD_eq_getElem?_getD, List.getElem?_eq_getElem h, Option.getD_some]
 exact List.getElem_mem h
theorem drop_getD {l : List Nat} {k : Nat} (h : k < l.length) : l.drop k = l.getD k 0 :: l.drop (k + 1) := by
 rw [List.getD_eq_getElem?_getD, List.getElem?_eq_getElem h]
 exact List.drop_eq_getElem_cons h
theorem laid_fix : ∀ (n : Nat) (l : List Nat) (N : List Nd), (∀ x ∈ l, x < N.length) → l.length < n → l.length ≤ 1000000 →
  fixN n (fun g => rf9_laid_g LOOPx g) (toI l, N) = some (tp (cart (prF N) l), wr N (cart (prF N) l))
 | 0, _, _, _, h, _ => by omega
 | n + 1, l, N, hl, hn, hm => by
  show rf9_laid_g LOOPx (fixN n fun g => rf9_laid_g LOOPx g) (toI l, N) = _
  have ih := laid_fix n
  generalize fixN n (fun g => rf9_laid_g LOOPx g) = G at ih ⊢
  unfold rf9_laid_g
  dsimp only
  simp only [cq1]
  by_cases he : l = []
  ·subst he
   rw [if_pos (by rw [toI_len]; rfl), cart_nil]
   rfl
  ·have hpos : 0 < l.length := List.length_pos_iff.2 he
   rw [if_neg (by rw [toI_len]; omega)]
   refine bnd (r := .inl ((toI l, ((best (prF N) l : Nat) : Int)), N)) ?_ ?_
   ·refine Eq.trans (LOOP_m (σ := (List Int × Int × Int) × List Nd) (O := ((List Int × Int) × List Nd) ⊕ (Int × List Nd)) (fun s => s.1.1 = toI l ∧ s.2 = N ∧ 0 ≤ s.1.2.1 ∧ s.1.2.1 < s.1.2.2 ∧ s.1.2.2 ≤ (l.length : Int)) (fun s => l.length - s.1.2.2.toNat) (fun s => .inl ((toI l, ((bestF (prF N) (l.drop s.1.2.2.toNat) s.1.2.2.toNat s.1.2.1.toNat (l.getD s.1.2.1.toNat 0) : Nat) : Int)), N)) ?_ ⟨rfl, rfl, by simp, by simp, by dsimp only; omega⟩ (by have := big; dsimp only; omega)) ?_
    ·rintro ⟨⟨l', b, k⟩, N'⟩ ⟨e1, e2, h0, h1, h2⟩
     dsimp only at e1 e2 h0 h1 h2
     subst e1; subst e2
     dsimp only
     rw [toI_len]
     by_cases hk : k < (l.length : Int)
     ·have hkn : k.toNat < l.length := by omega
      have hbn : b.toNat < l.length := by omega
      have hkx := hl _ (getD_mem hkn)
      have hbx := hl _ (getD_mem hbn)
      rw [if_pos hk, if_pos ⟨by omega, hk⟩, toI_at hkn, toI_at hbn, if_pos (nb hkx), if_pos (by rw [Int.toNat_natCast]; exact hkx), if_pos (by omega), if_pos (nb hbx), if_pos (by rw [Int.toNat_natCast]; exact hbx)]
      by_cases hq : prF N' (l.getD k.toNat 0) < prF N' (l.getD b.toNat 0)
      ·rw [if_pos (show (Ty.at tN N' ((l.getD k.toNat 0 : Nat) : Int).toNat).2.1 < (Ty.at tN N' ((l.getD b.toNat 0 : Nat) : Int).toNat).2.1 from hq)]
       refine StepOK_inl ⟨?_, ⟨rfl, rfl, ?_, ?_, ?_⟩, ?_⟩
       ·dsimp only; rw [wrap_i64 (by omega)]; omega
       ·dsimp only; omega
       ·dsimp only; rw [wrap_i64 (by omega)]; omega
       ·dsimp only; rw [wrap_i64 (by omega)]; omega
       ·dsimp only
        rw [wrap_i64 (by omega), toN1 (by omega), drop_getD hkn, bestF, if_pos hq]
      ·rw [if_neg (show ¬ (Ty.at tN N' ((l.getD k.toNat 0 : Nat) : Int).toNat).2.1 < (Ty.at tN N' ((l.getD b.toNat 0 : Nat) : Int).toNat).2.1 from hq)]
       refine StepOK_inl ⟨?_, ⟨rfl, rfl, ?_, ?_, ?_⟩, ?_⟩
       ·dsimp only; rw [wrap_i64 (by omega)]; omega
       ·dsimp only; omega
       ·dsimp only; rw [wrap_i64 (by omega)]; omega
       ·dsimp only; rw [wrap_i64 (by omega)]; omega
       ·dsimp only
        rw [wrap_i64 (by omega), toN1 (by omega), drop_getD hkn, bestF, if_neg hq]
     ·rw [if_neg hk]
      refine StepOK_inr ?_
      dsimp only
      rw [List.drop_of_length_le (by omega), bestF]
      congr 3
      omega
    ·dsimp only
     cases l with
     | nil => exact absurd rfl he
     | cons x r => rfl
   ·dsimp only
    have hb := best_lt (p := prF N) he
    rw [cart_cons he]
    generalize best (prF N) l = b at *
    have hx := hl _ (getD_mem hb)
    have h1 := ih (l.take b) N (fun x hx => hl x (List.mem_of_mem_take hx)) (by rw [List.length_take]; omega) (by rw [List.length_take]; omega)
    have hw : (wr N (cart (prF N) (l.take b))).length = N.length := wr_len
    have hpw : prF (wr N (cart (prF N) (l.take b))) = prF N := prF_wr
    simp only [toI_len, Int.toNat_natCast]
    rw [if_pos (nb hb), if_pos (by omega), toI_at hb, toI_take, Int.toNat_natCast]
    refine bnd h1 ?_
    dsimp only
    generalize cart (prF N) (l.take b) = L at *
    rw [show ∀ (A B : TT) (i : Nat), tp (.nd A i B) = (i : Int) from fun _ _ _ => rfl]
    simp only [wr]
    generalize wr N L = M at *
    generalize l.getD b 0 = i at *
    have hiM : i < M.length := by omega
    have hM2 : (M.set i (setLf (nn M i) (tp L))).length = N.length := by rw [List.length_set]; exact hw
    have hp2 : prF (M.set i (setLf (nn M i) (tp L))) = prF N := (prF_ch (ch_lf (S := [i]) (by simp))).trans hpw
    have h2 := ih (l.drop (b + 1)) (M.set i (setLf (nn M i) (tp L))) (fun x hx => by rw [hM2]; exact hl x (List.mem_of_mem_drop hx)) (by rw [List.length_drop]; omega) (by rw [List.length_drop]; omega)
    rw [if_pos (nb hiM), if_pos hiM, wrap_i64 (by omega), if_pos (by omega), if_pos (by omega), show ((b : Int) + 1).toNat = b + 1 by omega, toI_drop]
    rw [hp2] at h2
    refine bnd h2 ?_
    dsimp only
    generalize cart (prF N) (l.drop (b + 1)) = R at *
    have hiW : i < (wr (M.set i (setLf (nn M i) (tp L))) R).length := by rw [wr_len, hM2]; exact hx
    rw [if_pos (nb hiW), if_pos hiW, if_pos (by omega)]
    rfl
theorem laid_eq {l : List Nat} {N : List Nd} (h : ∀ x ∈ l, x < N.length) (hl : l.length ≤ 1000000) : rf9_laid (toI l, N) = some (tp (cart (prF N) l), wr N (cart (prF N) l)) := laid_fix FUEL l N h (by have := big; omega) hl
theorem lst_len {N : List Nd} {F : List Nat} : (lst N F).length ≤ N.length := nodup_len lst_nodup fun x hx => (mem_lst.1 hx).1
def LD (N : List Nd) (f : Int) : TT := cart (prF N) (lst N (Fl N f))
theorem Laid_eq {N : List Nd} {r f : Int} (hN : N.length ≤ 1000000) : rf9_Laid (N, r, f) = some ((tp (LD N f), f), wr N (LD N f)) := by
 unfold rf9_Laid rf9_Laid_g
 dsimp only
 rw [Copy_eq N r f hN]
 simp only [Option.bind_some]
 rw [sorted_eq hN]
 simp only [Option.bind_some]
 have := lst_len (N := N) (F := Fl N f)
 rw [laid_eq (fun x hx => (mem_lst.1 hx).1) (by omega)]
 rfl
theorem ka_next {N : List Nd} {l : List Nat} (hle : KL N l) : ((∀ x ∈ l, 0 ≤ ky (nn N x)) ∧ KA N l) ↔ ∀ j, 0 ≤ j → j < l.length → 0 ≤ ky (nn N (l.getD j 0)) ∧ (0 < j → ky (nn N (l.getD (j - 1) 0)) ≠ ky (nn N (l.getD j 0))) := by
 have hle := List.pairwise_iff_getElem.1 hle
 have hg : ∀ {j : Nat} (h : j < l.length), l.getD j 0 = l[j] := fun h => by rw [List.getD_eq_getElem?_getD, List.getElem?_eq_getElem h, Option.getD_some]
 constructor
 ·rintro ⟨h1, h2⟩ j _ hj
  have h2 := List.pairwise_iff_getElem.1 h2
  refine ⟨h1 _ (getD_mem hj), fun h0 => ?_⟩
  have := h2 (j - 1) j (by omega) hj (by omega)
  rw [hg hj, hg (by omega)]
  omega
 ·intro h
  refine ⟨fun x hx => ?_, List.pairwise_iff_getElem.2 fun i j hi hj hij => ?_⟩
  ·obtain ⟨k, hk, rfl⟩ := mem_getD hx
   exact (h k (by omega) hk).1
  ·have h1 := (h j (by omega) hj).2 (by omega)
   rw [hg hj, hg (by omega)] at h1
   have h2 := hle (j - 1) j (by omega) hj (by omega)
   by_cases e : i = j - 1
   ·subst e; omega
   ·have h3 := hle i (j - 1) hi (by omega) (by omega)
    omega
def chk (N : List Nd) (l : List Nat) (k : Nat) : Prop := ∀ j, k ≤ j → j < l.length → 0 ≤ ky (nn N (l.getD j 0)) ∧ (0 < j → ky (nn N (l.getD (j - 1) 0)) ≠ ky (nn N (l.getD j 0)))
open Classical in
theorem rRight_eq {N : List Nd} {r f : Int} (hN : N.length ≤ 1000000) : rf9_Right (N, r, f) = some (progR N r f) := by
 have hkey : rf9_Right (N, r, f) = some (decide (refR N r f)) := by
  unfold rf9_Right rf9_Right_g
  dsimp only
  simp only [cq1]
  unfold refR
  by_cases h64 : N.length ≤ 64
  ·rw [if_neg (by omega), rfree_eq hN]
   simp only [Option.bind_some]
   have hFl : Fl N f = (frF N (N.length + 1) f []).getD [] := rfl
   cases hF : frF N (N.length + 1) f [] with
   | none =>
    rw [show (frO none).1 = false from rfl, if_pos rfl]
    simp
   | some F =>
    rw [show (frO (some F)).1 = true from rfl, if_neg (by decide), sorted_eq hN]
    rw [hF, Option.getD_some] at hFl
    rw [hFl]
    simp only [Option.bind_some]
    have hlen := lst_len (N := N) (F := F)
    have hlt : ∀ x ∈ lst N F, x < N.length := fun x hx => (mem_lst.1 hx).1
    have hnx := ka_next (N := N) (l := lst N F) (srt_le List.Pairwise.nil)
    have hLD : LD N f = cart (prF N) (lst N F) := by unfold LD; rw [hFl]
    have hLa := Laid_eq (N := N) (r := r) (f := f) hN
    rw [hLD] at hLa
    generalize hl' : lst N F = l at *
    refine bnd (r := if chk N l 0 then .inl (N, r, f) else .inr false) ?_ ?_
    ·refine Eq.trans (LOOP_m (σ := Int × (List Nd × Int × Int) × List Int) (O := (List Nd × Int × Int) ⊕ Bool) (fun s => s.2 = ((N, r, f), toI l) ∧ 0 ≤ s.1 ∧ s.1 ≤ (l.length : Int)) (fun s => l.length - s.1.toNat) (fun s => if chk N l s.1.toNat then .inl (N, r, f) else .inr false) ?_ ⟨rfl, by simp, by simp⟩ (by have := big; dsimp only; omega)) rfl
     rintro ⟨k, ⟨N', r', f'⟩, l'⟩ ⟨e1, h0, h1⟩
     dsimp only at e1 h0 h1
     simp only [Prod.mk.injEq] at e1
     obtain ⟨⟨rfl, rfl, rfl⟩, rfl⟩ := e1
     dsimp only
     rw [toI_len]
     by_cases hk : k < (l.length : Int)
     ·have hkn : k.toNat < l.length := by omega
      have hkx := hlt _ (getD_mem hkn)
      rw [if_pos hk, if_pos ⟨h0, hk⟩, if_pos hkn, toI_at hkn, if_pos (nb hkx), Int.toNat_natCast]
      have hc : chk N' l k.toNat ↔ (0 ≤ ky (nn N' (l.getD k.toNat 0)) ∧ (0 < k.toNat → ky (nn N' (l.getD (k.toNat - 1) 0)) ≠ ky (nn N' (l.getD k.toNat 0)))) ∧ chk N' l (k.toNat + 1) := by
       constructor
       ·intro h; exact ⟨h _ (Nat.le_refl _) hkn, fun j hj => h j (by omega)⟩
       ·rintro ⟨ha, hb⟩ j hj hjl
        by_cases e : j = k.toNat
        ·subst e; exact ha
        ·exact hb j (by omega) hjl
      by_cases hq : ky (nn N' (l.getD k.toNat 0)) < 0
      ·rw [if_neg (show ¬ ¬ (Ty.at tN N' (l.getD k.toNat 0)).1 < 0 from fun h => h hq)]
       refine StepOK_inr ?_
       dsimp only
       rw [if_neg (fun h => by have := (hc.1 h).1.1; omega)]
      ·rw [if_pos (show ¬ (Ty.at tN N' (l.getD k.toNat 0)).1 < 0 from hq)]
       have hnext : (0 < k.toNat → ky (nn N' (l.getD (k.toNat - 1) 0)) ≠ ky (nn N' (l.getD k.toNat 0))) → StepOK (fun s => s.2 = ((N', r', f'), toI l) ∧ 0 ≤ s.1 ∧ s.1 ≤ (l.length : Int)) (fun s => l.length - s.1.toNat) (fun s => if chk N' l s.1.toNat then (Sum.inl (N', r', f') : (List Nd × Int × Int) ⊕ Bool) else .inr false) (k, (N', r', f'), toI l) (some (.inl (IntKind.i64.wrap (k + 1), (N', r', f'), toI l))) := by
        intro hne
        refine StepOK_inl ⟨?_, ⟨rfl, ?_, ?_⟩, ?_⟩
        ·dsimp only; rw [wrap_i64 (by omega)]; omega
        ·dsimp only; rw [wrap_i64 (by omega)]; omega
        ·dsimp only; rw [wrap_i64 (by omega)]; omega
        ·dsimp only
         rw [wrap_i64 (by omega), toN1 h0]
         by_cases hy : chk N' l (k.toNat + 1)
         ·rw [if_pos hy, if_pos (hc.2 ⟨⟨by omega, hne⟩, hy⟩)]
         ·rw [if_neg hy, if_neg (fun h => hy (hc.1 h).2)]
       by_cases hk0 : 0 < k
       ·have hjn : (k - 1).toNat < l.length := by omega
        have hjx := hlt _ (getD_mem hjn)
        rw [if_pos hk0, wrap_i64 (by omega), if_pos (by omega), if_pos hjn, toI_at hjn, if_pos (nb hjx), Int.toNat_natCast]
        have hj1 : (k - 1).toNat = k.toNat - 1 := by omega
        rw [hj1]
        by_cases hqq : ky (nn N' (l.getD (k.toNat - 1) 0)) = ky (nn N' (l.getD k.toNat 0))
        ·rw [if_pos (show (Ty.at tN N' (l.getD (k.toNat - 1) 0)).1 = (Ty.at tN N' (l.getD k.toNat 0)).1 from hqq)]
         refine StepOK_inr ?_
         dsimp only
         rw [if_neg (fun h => (hc.1 h).1.2 (by omega) hqq)]
        ·rw [if_neg (show ¬ (Ty.at tN N' (l.getD (k.toNat - 1) 0)).1 = (Ty.at tN N' (l.getD k.toNat 0)).1 from hqq)]
         exact hnext fun _ => hqq
       ·rw [if_neg hk0]
        exact hnext fun h => by omega
     ·rw [if_neg hk]
      refine StepOK_inr ?_
      dsimp only
      rw [if_pos (show chk N' l k.toNat from fun j h2 h3 => by omega)]
    ·by_cases hc : chk N l 0
     ·rw [if_pos hc]
      dsimp only
      rw [hLa]
      simp only [Option.bind_some]
      rw [Same_eq _ _ _ _ _ _ (by rw [wr_len]; exact hN)]
      simp only [Option.bind_some]
      congr 1
      rw [decide_eq_decide]
      constructor
      ·rintro ⟨e1, e2, _⟩
       exact ⟨h64, F, rfl, by rw [hl']; exact hnx.2 hc, by rw [hl']; exact e2.symm, by rw [hl']; exact e1⟩
      ·rintro ⟨_, F', e, _, e2, e1⟩
       cases e
       rw [hl'] at e1 e2
       exact ⟨e1, e2.symm, trivial⟩
     ·rw [if_neg hc]
      dsimp only
      congr 1
      rw [eq_comm, decide_eq_false_iff_not]
      rintro ⟨_, F', e, e2, _⟩
      cases e
      rw [hl'] at e2
      exact hc (hnx.1 e2)
  ·rw [if_pos (by omega)]
   congr 1
   rw [eq_comm, decide_eq_false_iff_not]
   exact fun h => h64 h.1
 rw [hkey]
 congr 1
 rw [Bool.eq_iff_iff, decide_eq_true_iff, progR_iff, refR_iff]
end Go.AX.Tr
end
section
namespace Go.AX.Tr
open Go Go.AX
structure Ok (N : List Nd) (r f : Int) (F : List Nat) (T : TT) : Prop where
 len : N.length ≤ 64
 fr : frF N (N.length + 1) f [] = some F
 tr : TR N r F T
theorem Ok.free {N : List Nd} {r f : Int} {F : List Nat} {T : TT} (h : Ok N r f F T) : (∀ x ∈ F, x < N.length ∧ isE (nn N x)) ∧ F.Nodup := by
 have := frF_ok (acc := []) (by simp) (by simp) h.fr
 exact ⟨this.1, this.2.1⟩
theorem Ok.rt {N : List Nd} {r f : Int} {F : List Nat} {T : TT} (h : Ok N r f F T) : progR N r f = true := progR_iff.2 ⟨h.len, F, h.fr, T, h.tr⟩
theorem ok_of {N : List Nd} {r f : Int} (h : progR N r f = true) : ∃ F T, Ok N r f F T := by
 obtain ⟨h1, F, h2, T, h3⟩ := progR_iff.1 h
 exact ⟨F, T, h1, h2, h3⟩
theorem Ok.siz {N : List Nd} {r f : Int} {F : List Nat} {T : TT} (h : Ok N r f F T) : siz T ≤ 64 := Nat.le_trans h.tr.siz h.len
theorem Ok.ka {N : List Nd} {r f : Int} {F : List Nat} {T : TT} (h : Ok N r f F T) : KA N (pl T) := Bst_asc (by omega) h.tr.2.2.1
theorem Ok.nodup {N : List Nd} {r f : Int} {F : List Nat} {T : TT} (h : Ok N r f F T) : (pl T).Nodup := h.tr.2.2.2.2.1
theorem Ok.mem {N : List Nd} {r f : Int} {F : List Nat} {T : TT} (h : Ok N r f F T) (x : Nat) : x ∈ pl T ↔ x < N.length ∧ x ∉ F := h.tr.2.2.2.2.2 x
theorem Ok.key {N : List Nd} {r f : Int} {F : List Nat} {T : TT} (h : Ok N r f F T) : ∀ x ∈ pl T, 0 ≤ ky (nn N x) := fun x hx => by
 have := (Bst_mem (by omega) h.tr.2.2.1 x hx).1
 omega
theorem find_loop {N : List Nd} {key r fr : Int} {g : ((Int × Int × Int) × List Nd × Int × Int) → Option (((Int × Int × Int) × List Nd × Int × Int) ⊕ (Int × Int × Bool))}
  (h1 : ∀ c : Nat, g ((key, (c : Int), -1), N, r, fr) = some (.inr (0, (c : Int), false)))
  (h2 : ∀ (i c : Nat), i < N.length → c < 1000000 → g ((key, (c : Int), (i : Int)), N, r, fr) = if key < ky (nn N i) then some (.inl ((key, ((c + 1 : Nat) : Int), lf (nn N i)), N, r, fr)) else if ky (nn N i) < key then some (.inl ((key, ((c + 1 : Nat) : Int), rt (nn N i)), N, r, fr)) else some (.inr ((i : Int), ((c + 1 : Nat) : Int), true))) :
  ∀ {T : TT} (n c : Nat), Rep N T → siz T < n → c + siz T ≤ 1000000 → loopN n g ((key, (c : Int), tp T), N, r, fr) = some (fdT N key T c)
 | _, 0, _, _, h, _ => by omega
 | .nil, n + 1, c, _, _, _ => by
  rw [loopN, show tp .nil = -1 from rfl, h1 c]; rfl
 | .nd l i rr, n + 1, c, hr, hs, hc => by
  obtain ⟨hi, e1, e2, r1, r2⟩ := hr
  rw [siz] at hs hc
  rw [loopN, show tp (.nd l i rr) = (i : Int) from rfl, h2 i c hi (by omega), fdT]
  by_cases ha : key < ky (nn N i)
  ·rw [if_pos ha, if_pos ha]
   dsimp only
   rw [e1]
   exact find_loop h1 h2 n (c + 1) r1 (by omega) (by omega)
  ·rw [if_neg ha, if_neg ha]
   by_cases hb : ky (nn N i) < key
   ·rw [if_pos hb, if_pos hb]
    dsimp only
    rw [e2]
    exact find_loop h1 h2 n (c + 1) r2 (by omega) (by omega)
   ·rw [if_neg hb, if_neg hb]
theorem find_LOOP {N : List Nd} {key r fr : Int} {g : ((Int × Int × Int) × List Nd × Int × Int) → Option (((Int × Int × Int) × List Nd × Int × Int) ⊕ (Int × Int × Bool))} {T : TT} (hr : Rep N T) (hs : siz T ≤ 64)
  (h1 : ∀ c : Nat, g ((key, (c : Int), -1), N, r, fr) = some (.inr (0, (c : Int), false)))
  (h2 : ∀ (i c : Nat), i < N.length → c < 1000000 → g ((key, (c : Int), (i : Int)), N, r, fr) = if key < ky (nn N i) then some (.inl ((key, ((c + 1 : Nat) : Int), lf (nn N i)), N, r, fr)) else if ky (nn N i) < key then some (.inl ((key, ((c + 1 : Nat) : Int), rt (nn N i)), N, r, fr)) else some (.inr ((i : Int), ((c + 1 : Nat) : Int), true))) :
  LOOPx ((Int × Int × Int) × List Nd × Int × Int) (Int × Int × Bool) g ((key, 0, tp T), N, r, fr) = some (fdT N key T 0) :=
 find_loop h1 h2 FUEL 0 hr (by have := big; omega) (by omega)
theorem Find_eq {N : List Nd} {r f : Int} {F : List Nat} {T : TT} (h : Ok N r f F T) (key : Int) : treap_Find ((N, r, f), key) = some (fdT N key T 0) := by
 have hlen := h.len
 unfold treap_Find treap_Find_g
 dsimp only
 rw [Right_eq (by omega), h.rt]
 simp only [Option.bind_some]
 refine (show cond (!true) _ _ = cond false _ _ from rfl).trans ?_
 rw [cond_false, show r = tp T from h.tr.1]
 refine find_LOOP h.tr.2.1 h.siz ?_ ?_
 ·intro c; rfl
 ·intro i c hi hc
  dsimp only
  simp only [cq1, Int.toNat_natCast]
  rw [if_pos (nz i), if_pos (nb hi), wrap_i64 (by omega)]
  by_cases ha : key < ky (nn N i)
  ·rw [if_pos ha, if_pos (show key < (Ty.at tN N i).1 from ha)]; rfl
  ·rw [if_neg ha, if_neg (show ¬ key < (Ty.at tN N i).1 from ha)]
   by_cases hb : ky (nn N i) < key
   ·rw [if_pos hb, if_pos (show (Ty.at tN N i).1 < key from hb)]; rfl
   ·rw [if_neg hb, if_neg (show ¬ (Ty.at tN N i).1 < key from hb)]; rfl
theorem Place_eq {N : List Nd} {r f : Int} (hN : N.length ≤ 1000000) (key : Int) : rf9_Place ((N, r, f), key) = some (plc key N 0) := by
 unfold rf9_Place rf9_Place_g
 dsimp only
 refine Eq.trans (LOOP_m (σ := (Int × Int) × List Nd × Int × Int) (O := Int) (fun s => s.1.1 = key ∧ s.2.1 = N ∧ 0 ≤ s.1.2 ∧ s.1.2 ≤ (N.length : Int)) (fun s => N.length - s.1.2.toNat) (fun s => plc key (N.drop s.1.2.toNat) s.1.2.toNat) ?_ ⟨rfl, rfl, by simp, by simp⟩ (by have := big; dsimp only; omega)) rfl
 rintro ⟨⟨k, i⟩, N', r', f'⟩ ⟨e1, e2, h0, h1⟩
 dsimp only at e1 e2 h0 h1
 subst e1; subst e2
 simp only [cq1]
 by_cases hi : i < (N'.length : Int)
 ·have hd : N'.drop i.toNat = nn N' i.toNat :: N'.drop (i.toNat + 1) := drop_at (T := tN) (by omega)
  rw [if_pos hi, if_pos ⟨h0, hi⟩]
  have hin : (plc k (N'.drop i.toNat) i.toNat) = if ky (nn N' i.toNat) = k ∧ 0 ≤ k then ((i.toNat : Nat) : Int) else plc k (N'.drop (i.toNat + 1)) (i.toNat + 1) := by rw [hd, plc]
  have hgo : ¬ (ky (nn N' i.toNat) = k ∧ 0 ≤ k) → StepOK (fun s => s.1.1 = k ∧ s.2.1 = N' ∧ 0 ≤ s.1.2 ∧ s.1.2 ≤ (N'.length : Int)) (fun s => N'.length - s.1.2.toNat) (fun s => plc k (N'.drop s.1.2.toNat) s.1.2.toNat) ((k, i), N', r', f') (some (.inl ((k, IntKind.i64.wrap (i + 1)), N', r', f'))) := by
   intro hne
   refine StepOK_inl ⟨?_, ⟨rfl, rfl, ?_, ?_⟩, ?_⟩
   ·dsimp only; rw [wrap_i64 (by omega)]; omega
   ·dsimp only; rw [wrap_i64 (by omega)]; omega
   ·dsimp only; rw [wrap_i64 (by omega)]; omega
   ·dsimp only
    rw [wrap_i64 (by omega), toN1 h0, hin, if_neg hne]
  by_cases ha : ky (nn N' i.toNat) = k
  ·rw [if_pos (show (Ty.at tN N' i.toNat).1 = k from ha)]
   by_cases hk : 0 ≤ k
   ·rw [if_pos hk]
    refine StepOK_inr ?_
    dsimp only
    rw [hin, if_pos ⟨ha, hk⟩]; omega
   ·rw [if_neg hk]; exact hgo fun h => hk h.2
  ·rw [if_neg (show ¬ (Ty.at tN N' i.toNat).1 = k from ha)]
   exact hgo fun h => ha h.1
 ·rw [if_neg hi]
  refine StepOK_inr ?_
  dsimp only
  rw [List.drop_of_length_le (by omega)]; rfl
theorem own_eq {N : List Nd} {r f : Int} (hN : N.length ≤ 1000000) : treap_own (N, r, f) = some ((r, f), N) := by
 unfold treap_own treap_own_g Clone_Node cloneG
 dsimp only
 simp only [cq1]
 rw [if_pos (by have : (List.length (α := Nd) N) * 48 ≤ 140737488355328 := by omega
                exact this)]
 rfl
set_option synthInstance.maxSize 4000 in
theorem Make_eq : ∀ n : Nat, n < 65 → (match treap_Make (n : Int) with | some x => Nat.ble x.2.length 64 | none => false) = true ∧ treap_Make (n : Int) = rf9_Make (n : Int) := by decide +kernel
def kys (N : List Nd) : List Int := (N.filter fun x => decide (ky x ≠ -1)).map ky
theorem rKeys_loop {N : List Nd} {r f : Int} (hN : N.length ≤ 1000000) (h : progR N r f = true) : rf9_Keys (N, r, f) = some ((lst N (Fl N f)).map fun x => ky (nn N x)) := by
 unfold rf9_Keys rf9_Keys_g
 dsimp only
 rw [rRight_eq hN, h]
 simp only [Option.bind_some]
 refine (show cond (!true) _ _ = cond false _ _ from rfl).trans ?_
 rw [cond_false, sorted_eq hN]
 simp only [Option.bind_some]
 have hlen := lst_len (N := N) (F := Fl N f)
 have hlt : ∀ x ∈ lst N (Fl N f), x < N.length := fun x hx => (mem_lst.1 hx).1
 generalize lst N (Fl N f) = l at *
 refine Eq.trans (LOOP_m (σ := Int × (List Nd × Int × Int) × List Int × List Int) (O := List Int) (fun s => s.2.1.1 = N ∧ s.2.2.2 = toI l ∧ 0 ≤ s.1 ∧ s.1 ≤ (l.length : Int) ∧ (s.2.2.1.length : Int) ≤ s.1) (fun s => l.length - s.1.toNat) (fun s => s.2.2.1 ++ (l.drop s.1.toNat).map fun x => ky (nn N x)) ?_ ⟨rfl, rfl, by simp, by simp, by simp⟩ (by have := big; dsimp only; omega)) (by simp)
 rintro ⟨i, ⟨N', r', f'⟩, out, l'⟩ ⟨e1, e2, h0, h1, h2⟩
 dsimp only at e1 e2 h0 h1 h2
 subst e1; subst e2
 simp only [cq1, toI_len]
 by_cases hi : i < (l.length : Int)
 ·have hin : i.toNat < l.length := by omega
  have hx := hlt _ (getD_mem hin)
  rw [if_pos hi, if_pos ⟨h0, hi⟩, if_pos hin, toI_at hin, if_pos (nb hx), if_pos (by show (out.length + 1) * 8 ≤ _; omega)]
  refine StepOK_inl ⟨?_, ⟨rfl, rfl, ?_, ?_, ?_⟩, ?_⟩
  ·dsimp only; rw [wrap_i64 (by omega)]; omega
  ·dsimp only; rw [wrap_i64 (by omega)]; omega
  ·dsimp only; rw [wrap_i64 (by omega)]; omega
  ·dsimp only; rw [wrap_i64 (by omega), List.length_append]; show ((out.length + 1 : Nat) : Int) ≤ _; omega
  ·dsimp only
   rw [wrap_i64 (by omega), toN1 h0, drop_getD hin, List.map_cons, List.append_assoc]
   rfl
 ·rw [if_neg hi]
  refine StepOK_inr ?_
  dsimp only
  rw [List.drop_of_length_le (by omega)]
  simp
def kysT (N : List Nd) (T : TT) : List Int := (pl T).map fun x => ky (nn N x)
end Go.AX.Tr
end
section
namespace Go.AX.Tr
open Go Go.AX
theorem frF_pre {N : List Nd} {f : Nat} {a : Int} {acc F : List Nat} (h : frF N f a acc = some F) : ∃ G, F = acc ++ G := by
 obtain ⟨G, h1, _⟩ := frF_shift (M := N) rfl (acc' := acc) (fun x hx => hx) h (fun _ _ _ => rfl)
 exact ⟨G, h1⟩
theorem ok_wr {N : List Nd} {f : Int} {F : List Nat} {T : TT} (h0 : TR0 N F T) (hr : Rep (wr N T) T) (hf : frF N (N.length + 1) f [] = some F) (hlen : N.length ≤ 64) : Ok (wr N T) (tp T) f F T ∧ LD N f = T := by
 have hl : (wr N T).length = N.length := wr_len
 have hfl : Fl N f = F := by unfold Fl; rw [hf]; rfl
 have hs : ∀ j, sameN (nn (wr N T) j) (nn N j) := fun j => wr_same
 have hout : ∀ x ∈ F, nn (wr N T) x = nn N x := fun x hx => wr_out fun hx' => ((h0.2.2.2 x).1 hx').2 hx
 refine ⟨⟨by rw [hl]; exact hlen, ?_, rfl, hr, bst_same (fun j => (hs j).1) h0.1, hp_same hs h0.2.1, h0.2.2.1, fun x => by rw [h0.2.2.2, hl]⟩, ?_⟩
 ·obtain ⟨G, h1, h2⟩ := frF_shift hl (acc' := []) (fun x hx => hx) hf (fun x hx _ => hout x hx)
  rw [hl, h2, h1]
 ·unfold LD
  rw [hfl, cart_lst0 h0]
theorem Ok.pop {N : List Nd} {r f : Int} {F : List Nat} {T : TT} (h : Ok N r f F T) (hf : f ≠ -1) : ∃ (i : Nat) (F' : List Nat), f = (i : Int) ∧ F = i :: F' ∧ i < N.length ∧ isE (nn N i) ∧ ∀ x : Nd, frF (N.set i x) (N.length + 1) (lf (nn N i)) [] = some F' := by
 have h1 := h.fr
 rw [frF, if_neg hf] at h1
 by_cases hc : (0 ≤ f ∧ f < (N.length : Int) ∧ f.toNat ∉ []) ∧ isE (nn N f.toNat)
 ·rw [if_pos hc] at h1
  have hF := h.free
  rw [List.nil_append] at h1
  refine ⟨f.toNat, ?_⟩
  obtain ⟨G, hG⟩ := frF_pre h1
  rw [List.cons_append, List.nil_append] at hG
  refine ⟨G, by omega, hG, by omega, hc.2, fun x => ?_⟩
  obtain ⟨G', g1, g2⟩ := frF_shift (M := N.set f.toNat x) (by rw [List.length_set]) (acc' := []) (by simp) h1 (fun y hy hy' => by
   rw [nn_set, if_neg (fun e => hy' (by rw [e.1]; simp))])
  rw [hG] at g1
  have : G = G' := by simpa using g1
  rw [this]
  exact frF_more (by omega) g2
 ·rw [if_neg hc] at h1; cases h1
theorem ins_all {N : List Nd} {r f : Int} {F : List Nat} {T : TT} (h : Ok N r f F T) (hf : f ≠ -1) {x : Nd} (hk : 0 ≤ ky x) (hne : ∀ y ∈ pl T, ky (nn N y) ≠ ky x) :
  ∃ (i : Nat) (F' : List Nat), f = (i : Int) ∧ F = i :: F' ∧ i < N.length ∧ isE (nn N i) ∧ Rep (N.set i x) T ∧ LD (N.set i x) (lf (nn N i)) = ins (N.set i x) i T ∧ insN (N.set i x) i T = wr (N.set i x) (ins (N.set i x) i T) ∧ Ok (insN (N.set i x) i T) (tp (ins (N.set i x) i T)) (lf (nn N i)) F' (ins (N.set i x) i T) := by
 obtain ⟨i, F', e1, e2, hi, he, hfr⟩ := h.pop hf
 subst e2
 have hiT : i ∉ pl T := fun e => ((h.mem i).1 e).2 (by simp)
 obtain ⟨a1, a2, a3, a4⟩ := act_ins (x := x) h.tr hi h.free.2 hk hne
 rw [a2] at a3
 obtain ⟨b1, b2⟩ := ok_wr a1 a3 (by rw [List.length_set]; exact hfr x) (by rw [List.length_set]; exact h.len)
 refine ⟨i, F', e1, rfl, hi, he, ?_, b2, a2, by rw [a2]; exact b1⟩
 exact Rep_congr (by rw [List.length_set]) (fun y hy => by rw [nn_set, if_neg (fun e => hiT (by rw [e.1]; exact hy))]) h.tr.2.1
end Go.AX.Tr
end
section
namespace Go.AX.Tr
open Go Go.AX
theorem tset {N : List Nd} {i : Nat} {x : Nd} (h : i < N.length) : Ty.at tN (N.set i x) i = x := by
 show nn (N.set i x) i = x
 rw [nn_set, if_pos ⟨rfl, h⟩]
theorem Insert_ok {N : List Nd} {r f key prio : Int} {F : List Nat} {T : TT} (h : Ok N r f F T) (hk : 0 ≤ key) (hno : ∀ x ∈ pl T, ky (nn N x) ≠ key) (hf : f ≠ -1) :
  ∃ (i : Nat) (F' : List Nat), f = (i : Int) ∧ F = i :: F' ∧ i < N.length ∧ isE (nn N i) ∧ insN (N.set i (key, prio, -1, -1, -1, -1)) i T = wr (N.set i (key, prio, -1, -1, -1, -1)) (ins (N.set i (key, prio, -1, -1, -1, -1)) i T) ∧ Ok (insN (N.set i (key, prio, -1, -1, -1, -1)) i T) (tp (ins (N.set i (key, prio, -1, -1, -1, -1)) i T)) (lf (nn N i)) F' (ins (N.set i (key, prio, -1, -1, -1, -1)) i T) ∧
   treap_Insert ((N, r, f), key, prio) = some ((insN (N.set i (key, prio, -1, -1, -1, -1)) i T, tp (ins (N.set i (key, prio, -1, -1, -1, -1)) i T), lf (nn N i)), (i : Int), 0) := by
 obtain ⟨i, F', g1, g2, hi, g3, g4, g5, g6, g7⟩ := ins_all h hf (x := (key, prio, -1, -1, -1, -1)) hk hno
 refine ⟨i, F', g1, g2, hi, g3, g6, g7, ?_⟩
 have hlen := h.len
 have hsz := h.siz
 have hr := h.tr.1
 have hi2 : i < (N.set i (key, prio, -1, -1, -1, -1)).length := by rw [List.length_set]; exact hi
 have hin := insert_eq (N := N.set i (key, prio, -1, -1, -1, -1)) (r := r) (f := lf (nn N i)) hi2 g4 (by omega)
 rw [← hr] at hin
 rcases h.tr.find h.free.1 key with ⟨j, n, e1, e2, e3, e4, e5⟩ | ⟨⟨n, e1⟩, e2, _⟩
 ·exact absurd e3 (hno j e2)
 ·clear g7 g6 g5 g4 hno
  have hFi := Find_eq h key
  have hRt := h.rt
  clear h
  subst g1
  unfold treap_Insert treap_Insert_g
  dsimp only
  rw [Right_eq (by omega), hFi, hRt, e1, own_eq (by omega)]
  simp only [cq1, empty_eq, Int.toNat_natCast, List.length_set, List.set_set]
  rw [if_pos (by omega), if_neg (by decide), if_neg (nz i), if_pos (nb hi), if_pos hi, if_pos (nb hi), if_pos hi, if_pos (nb hi), if_pos hi, if_pos (nb hi), if_pos hi]
  simp only [tset hi]
  refine bnd hin ?_
  rfl
theorem found_yes {N : List Nd} {r f key : Int} {F : List Nat} {T : TT} (h : Ok N r f F T) {i : Nat} (hi : i ∈ pl T) (hk : ky (nn N i) = key) : treap_found ((N, r, f), key) = some ((i : Int), 0) ∧ plc key N 0 = (i : Int) := by
 have hlen := h.len
 rcases h.tr.find h.free.1 key with ⟨j, n, e1, e2, e3, e4, e5⟩ | ⟨_, _, hno⟩
 ·have := h.ka.inj j e2 i hi (e3.trans hk.symm)
  subst this
  unfold treap_found treap_found_g
  dsimp only
  rw [Right_eq (by omega), h.rt, Find_eq h, e1]
  exact ⟨rfl, e4⟩
 ·exact absurd hk (hno i hi)
def qh (x : Nd) : Int := x.2.2.2.2.1
def qt (x : Nd) : Int := x.2.2.2.2.2
end Go.AX.Tr
end
section
namespace Go.AX.Tr
open Go Go.AX
end Go.AX.Tr
end
section
namespace Go.AX.Sm
open Go Go.AX
theorem mfd_some {n : Int} : ∀ {L : List (Int × Int × Int)} {p : Int × Int}, mfd n L = some p → (n, p) ∈ L
 | [], _, h => by cases h
 | e :: r, p, h => by
  rw [mfd] at h
  by_cases he : n = e.1
  ·rw [decide_eq_true he] at h
   cases h
   rw [he]
   exact List.mem_cons_self
  ·rw [decide_eq_false he] at h
   exact List.mem_cons_of_mem _ (mfd_some h)
theorem mfd_none {n : Int} : ∀ {L : List (Int × Int × Int)}, mfd n L = none → ∀ e ∈ L, e.1 ≠ n
 | [], _, e, h => by cases h
 | x :: r, h, e, he => by
  rw [mfd] at h
  by_cases hx : n = x.1
  ·rw [decide_eq_true hx] at h; cases h
  ·rw [decide_eq_false hx] at h
   rcases List.mem_cons.1 he with rfl | he
   ·exact fun h => hx h.symm
   ·exact mfd_none h e he
theorem mfd_app {n : Int} {q : Int × Int} : ∀ {L : List (Int × Int × Int)}, mfd n L = none → mfd n (L ++ [(n, q)]) = some q
 | [], _ => by
  show (bif decide (n = n) then _ else _) = _
  rw [decide_eq_true rfl]; rfl
 | x :: r, h => by
  rw [mfd] at h
  show (bif decide (n = x.1) then _ else _) = _
  by_cases hx : n = x.1
  ·rw [decide_eq_true hx] at h; cases h
  ·rw [decide_eq_false hx] at h ⊢
   exact mfd_app h
theorem mfd_rep {n x : Int} {p : Int × Int} : ∀ {L : List (Int × Int × Int)}, mfd n L = some p → mfd n (mrep n x L) = some (x, p.2)
 | [], h => by cases h
 | e :: r, h => by
  rw [mfd] at h
  show mfd n (bif decide (n = e.1) then _ else _) = _
  by_cases hx : n = e.1
  ·rw [decide_eq_true hx] at h ⊢
   cases h
   show (bif decide (n = e.1) then _ else _) = _
   rw [decide_eq_true hx]; rfl
  ·rw [decide_eq_false hx] at h ⊢
   show (bif decide (n = e.1) then _ else _) = _
   rw [decide_eq_false hx]
   exact mfd_rep h
structure MI (M : MapI) (l : List Int) : Prop where
 k : ∀ n, n ∈ l ↔ ∃ e ∈ M.1, e.1 = n
 v : ∀ e ∈ M.1, e.2.1 = 1
 len : M.1.length = l.length
theorem MI.nil {c : Int} : MI ([], c) [] := ⟨by simp, by simp, rfl⟩
theorem MI.get {M : MapI} {l : List Int} (h : MI M l) (n : Int) : mget 0 n M = if n ∈ l then 1 else 0 := by
 unfold mget
 cases hm : mfd n M.1 with
 | some p =>
  have := mfd_some hm
  rw [if_pos ((h.k n).2 ⟨_, this, rfl⟩)]
  exact h.v _ this
 | none =>
  rw [if_neg (fun hn => by obtain ⟨e, he, he2⟩ := (h.k n).1 hn; exact mfd_none hm e he he2)]
theorem MI.new {M : MapI} {l : List Int} (h : MI M l) {n : Int} (hn : n ∉ l) : MI (mset n 1 M) (l ++ [n]) := by
 have hm : mfd n M.1 = none := by
  cases hm : mfd n M.1 with
  | none => rfl
  | some p => exact absurd ((h.k n).2 ⟨_, mfd_some hm, rfl⟩) hn
 have e : mset n 1 M = (M.1 ++ [(n, 1, M.2)], M.2 + 1) := by unfold mset; rw [hm]
 have hk := mfd_none hm
 rw [e]
 refine ⟨fun m => ?_, fun x hx => ?_, by simp [h.len]⟩
 ·dsimp only
  rw [List.mem_append, h.k m]
  constructor
  ·rintro (⟨e, he, rfl⟩ | hm)
   ·exact ⟨e, List.mem_append_left _ he, rfl⟩
   ·rw [List.mem_singleton] at hm
    exact ⟨(n, 1, M.2), by simp, hm.symm⟩
  ·rintro ⟨e, he, rfl⟩
   rcases List.mem_append.1 he with he | he
   ·exact .inl ⟨e, he, rfl⟩
   ·rw [List.mem_singleton] at he; rw [he]; right; simp
 ·rcases List.mem_append.1 hx with hx | hx
  ·exact h.v x hx
  ·rw [List.mem_singleton] at hx; rw [hx]
theorem get_set {M : MapI} {n x : Int} : mget 0 n (mset n x M) = x := by
 unfold mset mget
 cases hm : mfd n M.1 with
 | some p =>
  dsimp only
  rw [mfd_rep hm]
 | none =>
  dsimp only
  rw [mfd_app hm]
end Go.AX.Sm
end
section
namespace Go.AX.Sm
open Go Go.AX
abbrev Nd := Tr.Nd
abbrev LV (rs : List R3) (x : Int) : Prop := 0 ≤ x ∧ x < rs.length ∧ 0 ≤ ky rs x
def PL (rs : List R3) (free h t : Int) : List Int := (queue_Places ((rs, free), h, t)).getD []
theorem PL_eq {rs : List R3} {free h t : Int} (hl : rs.length ≤ 1000000) : queue_Places ((rs, free), h, t) = some (PL rs free h t) ∧ rf8_Places ((rs, free), h, t) = some (PL rs free h t) ∧
  ((∃ f, QOK rs free h t f (PL rs free h t) ∧ queue_Right ((rs, free), h, t) = some true ∧ rf8_Right ((rs, free), h, t) = some true) ∨ (PL rs free h t = [] ∧ queue_Right ((rs, free), h, t) = some false ∧ rf8_Right ((rs, free), h, t) = some false)) := by
 unfold PL
 rcases Q_cases rs free h t hl with ⟨f, l, g⟩ | ⟨h1, h2, h3, h4⟩
 ·rw [g.places, g.rplaces]
  exact ⟨rfl, rfl, .inl ⟨f, g, g.right, g.rright⟩⟩
 ·rw [h3, h4]
  exact ⟨rfl, rfl, .inr ⟨rfl, h1, h2⟩⟩
theorem PL_of {rs : List R3} {free h t : Int} {f l : List Int} (g : QOK rs free h t f l) : PL rs free h t = l := by
 unfold PL; rw [g.places]; rfl
theorem AOK.det {rs : List R3} {free : Int} {f g : List Int} (h : AOK rs free f) (k : AOK rs free g) : f = g := h.ch.det k.ch
theorem AOK.len' {rs : List R3} {free : Int} {f : List Int} (h : AOK rs free f) : rs.length ≤ 1000000 := by have := h.le; omega
def inr (rs : List R3) (k : Int) : List Int → List Int → Option (List Int)
 | [], acc => some acc
 | x :: l, acc => if ky rs x ≠ k ∨ x ∈ acc ∨ tk rs x ∈ acc.map (tk rs) then none else inr rs k l (acc ++ [x])
theorem inr_iff {rs : List R3} {k : Int} : ∀ {l acc a' : List Int}, (acc.map (tk rs)).Nodup → (inr rs k l acc = some a' ↔ a' = acc ++ l ∧ (∀ x ∈ l, ky rs x = k) ∧ ((acc ++ l).map (tk rs)).Nodup)
 | [], acc, a', hn => by
  simp only [inr, Option.some.injEq, List.append_nil]
  exact ⟨fun h => ⟨h.symm, by simp, hn⟩, fun h => h.1.symm⟩
 | x :: l, acc, a', hn => by
  rw [inr]
  by_cases hc : ky rs x ≠ k ∨ x ∈ acc ∨ tk rs x ∈ acc.map (tk rs)
  ·rw [if_pos hc]
   constructor
   ·intro h; cases h
   ·rintro ⟨_, h1, h2⟩
    exfalso
    have ht : tk rs x ∉ acc.map (tk rs) := fun hm => by
     rw [List.map_append, List.nodup_append] at h2
     exact h2.2.2 _ hm (tk rs x) (by simp) rfl
    rcases hc with hc | hc | hc
    ·exact hc (h1 x (by simp))
    ·exact ht (List.mem_map.2 ⟨x, hc, rfl⟩)
    ·exact ht hc
  ·rw [if_neg hc]
   have h1 : ky rs x = k := Decidable.byContradiction fun h => hc (.inl h)
   have h2 : tk rs x ∉ acc.map (tk rs) := fun h => hc (.inr (.inr h))
   have hn2 : ((acc ++ [x]).map (tk rs)).Nodup := by
    rw [List.map_append, List.nodup_append]
    refine ⟨hn, by simp, fun a ha b hb => ?_⟩
    simp only [List.map_cons, List.map_nil, List.mem_singleton] at hb
    rw [hb]; exact fun e => h2 (e ▸ ha)
   rw [inr_iff hn2, List.append_assoc, List.singleton_append]
   constructor
   ·rintro ⟨g1, g2, g3⟩
    refine ⟨g1, fun y hy => ?_, g3⟩
    rcases List.mem_cons.1 hy with rfl | hy
    ·exact h1
    ·exact g2 y hy
   ·rintro ⟨g1, g2, g3⟩
    exact ⟨g1, fun y hy => g2 y (List.mem_cons_of_mem _ hy), g3⟩
def NP (rs : List R3) (free : Int) (n : Nd) : List Int := PL rs free (Tr.qh n) (Tr.qt n)
def otr (rs : List R3) (free : Int) : List Nd → List Int → Option (List Int)
 | [], acc => some acc
 | n :: N, acc => if Tr.ky n = -1 then otr rs free N acc else if NP rs free n = [] then none else (inr rs (Tr.ky n) (NP rs free n) acc).bind (otr rs free N)
def rowF (rs : List R3) (free : Int) (n : Nd) : List Int := if Tr.ky n = -1 then [] else NP rs free n
def rowsAll (rs : List R3) (free : Int) (N : List Nd) : List Int := N.flatMap (rowF rs free)
def GoodN (rs : List R3) (free : Int) (n : Nd) : Prop := Tr.ky n ≠ -1 → NP rs free n ≠ [] ∧ ∀ x ∈ NP rs free n, ky rs x = Tr.ky n
theorem otr_iff {rs : List R3} {free : Int} : ∀ {N : List Nd} {acc a' : List Int}, (acc.map (tk rs)).Nodup → (otr rs free N acc = some a' ↔ a' = acc ++ rowsAll rs free N ∧ (∀ n ∈ N, GoodN rs free n) ∧ (a'.map (tk rs)).Nodup)
 | [], acc, a', hn => by
  simp only [otr, Option.some.injEq, rowsAll, List.flatMap_nil, List.append_nil]
  constructor
  ·rintro rfl; exact ⟨rfl, by simp, hn⟩
  ·exact fun h => h.1.symm
 | n :: N, acc, a', hn => by
  rw [otr]
  have e : rowsAll rs free (n :: N) = rowF rs free n ++ rowsAll rs free N := by unfold rowsAll; rw [List.flatMap_cons]
  rw [e]
  unfold rowF
  by_cases hk : Tr.ky n = -1
  ·rw [if_pos hk, if_pos hk, otr_iff hn, List.nil_append]
   constructor
   ·rintro ⟨g1, g2, g3⟩
    refine ⟨g1, fun m hm => ?_, g3⟩
    rcases List.mem_cons.1 hm with rfl | hm
    ·exact fun h => absurd hk h
    ·exact g2 m hm
   ·rintro ⟨g1, g2, g3⟩
    exact ⟨g1, fun m hm => g2 m (List.mem_cons_of_mem _ hm), g3⟩
  ·rw [if_neg hk, if_neg hk]
   by_cases hp : NP rs free n = []
   ·rw [if_pos hp]
    constructor
    ·intro h; cases h
    ·rintro ⟨_, g2, _⟩
     exact absurd hp (g2 n (by simp) hk).1
   ·rw [if_neg hp]
    constructor
    ·intro h
     obtain ⟨b, hb, h⟩ := Option.bind_eq_some_iff.1 h
     obtain ⟨e1, e2, e3⟩ := (inr_iff hn).1 hb
     subst e1
     obtain ⟨g1, g2, g3⟩ := (otr_iff e3).1 h
     rw [List.append_assoc] at g1
     refine ⟨g1, fun m hm => ?_, g3⟩
     rcases List.mem_cons.1 hm with rfl | hm
     ·exact fun _ => ⟨hp, e2⟩
     ·exact g2 m hm
    ·rintro ⟨g1, g2, g3⟩
     have hd : ((acc ++ NP rs free n).map (tk rs)).Nodup := by
      rw [g1, ← List.append_assoc, List.map_append] at g3
      exact (List.nodup_append.1 g3).1
     rw [(inr_iff hn).2 ⟨rfl, (g2 n (by simp) hk).2, hd⟩]
     show otr rs free N _ = _
     rw [otr_iff hd, List.append_assoc]
     exact ⟨g1, fun m hm => g2 m (List.mem_cons_of_mem _ hm), g3⟩
structure SOK (rs : List R3) (free : Int) (N : List Nd) (r f : Int) (fa : List Int) (F : List Nat) (T : Tr.TT) : Prop where
 a : AOK rs free fa
 t : Tr.Ok N r f F T
 q : ∀ i ∈ Tr.pl T, NP rs free (Tr.nn N i) ≠ [] ∧ QOK rs free (Tr.qh (Tr.nn N i)) (Tr.qt (Tr.nn N i)) fa (NP rs free (Tr.nn N i)) ∧ ∀ x ∈ NP rs free (Tr.nn N i), ky rs x = Tr.ky (Tr.nn N i)
 u : ∀ x y, LV rs x → LV rs y → tk rs x = tk rs y → x = y
 all : ∀ x, LV rs x → ∃ i ∈ Tr.pl T, x ∈ NP rs free (Tr.nn N i)
theorem inj_of {α β : Type} {f : α → β} : ∀ {l : List α}, (l.map f).Nodup → ∀ x ∈ l, ∀ y ∈ l, f x = f y → x = y
 | [], _, _, h, _, _, _ => by cases h
 | z :: l, hn, x, hx, y, hy, e => by
  rw [List.map_cons, List.nodup_cons] at hn
  rcases List.mem_cons.1 hx with rfl | hx' <;> rcases List.mem_cons.1 hy with rfl | hy'
  ·rfl
  ·exact absurd (List.mem_map.2 ⟨y, hy', e.symm⟩) hn.1
  ·exact absurd (List.mem_map.2 ⟨x, hx', e⟩) hn.1
  ·exact inj_of hn.2 x hx' y hy' e
theorem nn_mem {N : List Nd} {i : Nat} (h : i < N.length) : Tr.nn N i ∈ N := by
 show N.getD i _ ∈ N
 rw [List.getD_eq_getElem?_getD, List.getElem?_eq_getElem h]
 exact List.getElem_mem h
theorem nn_get {N : List Nd} {i : Nat} (h : i < N.length) : N[i] = Tr.nn N i := by
 show _ = N.getD i _
 rw [List.getD_eq_getElem?_getD, List.getElem?_eq_getElem h]
 rfl
theorem mem_nn {N : List Nd} {n : Nd} (h : n ∈ N) : ∃ i, i < N.length ∧ Tr.nn N i = n := by
 obtain ⟨i, hi, e⟩ := List.mem_iff_getElem.1 h
 exact ⟨i, hi, (nn_get hi).symm.trans e⟩
section
variable {rs : List R3} {free : Int} {N : List Nd} {r f : Int} {fa : List Int} {F : List Nat} {T : Tr.TT}
theorem live_pl (hT : Tr.Ok N r f F T) {i : Nat} (hi : i < N.length) : Tr.ky (Tr.nn N i) ≠ -1 ↔ i ∈ Tr.pl T := by
 rw [hT.mem]
 constructor
 ·intro hk
  refine ⟨hi, fun hF => hk ?_⟩
  have := (hT.free.1 i hF).2
  unfold Tr.isE at this
  rw [this]; rfl
 ·intro h
  have := hT.key i ((hT.mem i).2 h)
  omega
theorem NP_live (hA : AOK rs free fa) {n : Nd} : ∀ x ∈ NP rs free n, LV rs x := by
 intro x hx
 rcases (PL_eq (rs := rs) (free := free) (h := Tr.qh n) (t := Tr.qt n) (AOK.len' hA)).2.2 with ⟨g, hg, _⟩ | ⟨h1, _⟩
 ·exact hg.live hx
 ·unfold NP at hx; rw [h1] at hx; cases hx
theorem rows_live (hA : AOK rs free fa) : ∀ x ∈ rowsAll rs free N, LV rs x := by
 intro x hx
 unfold rowsAll at hx
 obtain ⟨n, _, hx⟩ := List.mem_flatMap.1 hx
 unfold rowF at hx
 split at hx
 ·cases hx
 ·exact NP_live hA x hx
theorem SOK_of (hA : AOK rs free fa) (hT : Tr.Ok N r f F T) {acc : List Int} (hs : otr rs free N [] = some acc) (hall : ∀ x, LV rs x → x ∈ acc) : SOK rs free N r f fa F T := by
 obtain ⟨e, g, hn⟩ := (otr_iff (by simp)).1 hs
 rw [List.nil_append] at e
 refine ⟨hA, hT, fun i hi => ?_, fun x y hx hy => inj_of hn x (hall x hx) y (hall y hy), fun x hx => ?_⟩
 ·have hi2 := (hT.mem i).1 hi
  have hk := (live_pl hT hi2.1).2 hi
  obtain ⟨g1, g2⟩ := g _ (nn_mem hi2.1) hk
  refine ⟨g1, ?_, g2⟩
  rcases (PL_eq (rs := rs) (free := free) (h := Tr.qh (Tr.nn N i)) (t := Tr.qt (Tr.nn N i)) (AOK.len' hA)).2.2 with ⟨f', hf, _⟩ | ⟨h1, _⟩
  ·have := AOK.det hA hf.a
   subst this
   exact hf
  ·exact absurd h1 g1
 ·have := hall x hx
  rw [e] at this
  obtain ⟨n, hn', hx'⟩ := List.mem_flatMap.1 this
  obtain ⟨i, hi, rfl⟩ := mem_nn hn'
  unfold rowF at hx'
  by_cases hk : Tr.ky (Tr.nn N i) = -1
  ·rw [if_pos hk] at hx'; cases hx'
  ·rw [if_neg hk] at hx'
   exact ⟨i, (live_pl hT hi).1 hk, hx'⟩
theorem SOK.scan (h : SOK rs free N r f fa F T) : otr rs free N [] = some (rowsAll rs free N) ∧ ∀ x, LV rs x → x ∈ rowsAll rs free N := by
 have hp : ∀ i, i < N.length → Tr.ky (Tr.nn N i) ≠ -1 → i ∈ Tr.pl T := fun i hi hk => (live_pl h.t hi).1 hk
 constructor
 ·rw [otr_iff (by simp), List.nil_append]
  refine ⟨rfl, fun n hn hk => ?_, ?_⟩
  ·obtain ⟨i, hi, rfl⟩ := mem_nn hn
   have := h.q i (hp i hi hk)
   exact ⟨this.1, this.2.2⟩
  ·unfold rowsAll List.Nodup
   rw [List.pairwise_map, List.pairwise_flatMap]
   have hlv : ∀ n, ∀ x ∈ rowF rs free n, LV rs x := fun n x hx => by
    unfold rowF at hx
    split at hx
    ·cases hx
    ·exact NP_live h.a x hx
   constructor
   ·intro n hn
    have hd : (rowF rs free n).Nodup := by
     obtain ⟨i, hi, rfl⟩ := mem_nn hn
     unfold rowF
     by_cases hk : Tr.ky (Tr.nn N i) = -1
     ·rw [if_pos hk]; exact List.nodup_nil
     ·rw [if_neg hk]; exact (h.q i (hp i hi hk)).2.1.q.nodup
    exact List.Pairwise.imp_of_mem (fun {a b} ha hb hab e => hab (h.u a b (hlv n a ha) (hlv n b hb) e)) hd
   ·rw [List.pairwise_iff_getElem]
    intro i j hi hj hij x hx y hy e
    rw [nn_get hi] at hx
    rw [nn_get hj] at hy
    have hxy : x = y := h.u x y (hlv _ x hx) (hlv _ y hy) e
    subst hxy
    unfold rowF at hx hy
    by_cases hki : Tr.ky (Tr.nn N i) = -1
    ·rw [if_pos hki] at hx; cases hx
    ·by_cases hkj : Tr.ky (Tr.nn N j) = -1
     ·rw [if_pos hkj] at hy; cases hy
     ·rw [if_neg hki] at hx
      rw [if_neg hkj] at hy
      have h1 := (h.q i (hp i hi hki)).2.2 x hx
      have h2 := (h.q j (hp j hj hkj)).2.2 x hy
      have := h.t.ka.inj i (hp i hi hki) j (hp j hj hkj) (h1.symm.trans h2)
      omega
 ·intro x hx
  obtain ⟨i, hi, hx⟩ := h.all x hx
  have hi2 := (h.t.mem i).1 hi
  unfold rowsAll
  refine List.mem_flatMap.2 ⟨_, nn_mem hi2.1, ?_⟩
  unfold rowF
  rw [if_neg ((live_pl h.t hi2.1).2 hi)]
  exact hx
theorem sub_len : ∀ {l m : List Int}, l.Nodup → (∀ x ∈ l, x ∈ m) → l.length ≤ m.length
 | [], m, _, _ => Nat.zero_le _
 | x :: l, m, hn, hs => by
  rw [List.nodup_cons] at hn
  have h1 := hs x (by simp)
  have h2 : l.length ≤ (m.erase x).length := sub_len hn.2 fun y hy => by
   have hne : y ≠ x := fun e => hn.1 (e ▸ hy)
   exact (List.mem_erase_of_ne hne).2 (hs y (by simp [hy]))
  have h3 := List.length_erase_of_mem h1
  have h4 : 0 < m.length := List.length_pos_of_mem h1
  simp only [List.length_cons]
  omega
theorem count_all (hA : AOK rs free fa) {acc : List Int} (hn : acc.Nodup) (hl : ∀ x ∈ acc, LV rs x) : acc.length + fa.length = rs.length ↔ ∀ x, LV rs x → x ∈ acc := by
 have hfn := hA.ch.nodup
 have hd : (acc ++ fa).Nodup := by
  rw [List.nodup_append]
  refine ⟨hn, hfn, fun a ha b hb e => ?_⟩
  have h1 := hl a ha
  have h2 := hA.mem.1 hb
  subst e
  have := h1.2.2
  omega
 have hr : ∀ x ∈ acc ++ fa, 0 ≤ x ∧ x < rs.length := fun x hx => by
  rcases List.mem_append.1 hx with hx | hx
  ·exact ⟨(hl x hx).1, (hl x hx).2.1⟩
  ·exact ⟨(hA.mem.1 hx).1, (hA.mem.1 hx).2.1⟩
 constructor
 ·intro he x hx
  refine Decidable.byContradiction fun hno => ?_
  have hx2 : x ∉ fa := fun h => by have := (hA.mem.1 h).2.2; have := hx.2.2; omega
  have := nodup_le (m := rs.length) (l := x :: (acc ++ fa)) (List.nodup_cons.2 ⟨by rw [List.mem_append]; exact fun h => h.elim hno hx2, hd⟩) (fun y hy => by
   rcases List.mem_cons.1 hy with rfl | hy
   ·exact ⟨hx.1, hx.2.1⟩
   ·exact hr y hy)
  simp only [List.length_cons, List.length_append] at this
  omega
 ·intro hall
  have h1 := nodup_le (m := rs.length) hd hr
  have h2 : (ints rs.length).length ≤ (acc ++ fa).length := sub_len (by
   unfold ints List.Nodup
   rw [List.pairwise_map]
   exact List.Pairwise.imp (fun {a b} h e => h (by omega)) List.nodup_range) fun x hx => by
   unfold ints at hx
   obtain ⟨i, hi, rfl⟩ := List.mem_map.1 hx
   rw [List.mem_range] at hi
   rw [List.mem_append]
   by_cases hk : 0 ≤ ky rs i
   ·exact .inl (hall _ ⟨by omega, by omega, hk⟩)
   ·exact .inr (hA.mem.2 ⟨by omega, by omega, by omega⟩)
  have h3 : (ints rs.length).length = rs.length := by unfold ints; simp
  rw [List.length_append] at h1 h2
  omega
end
end Go.AX.Sm
end
section
namespace Go.AX.Sm
open Go Go.AX
def TM (N : List Nd) (T : Tr.TT) (k h t : Int) : Prop := ∃ i ∈ Tr.pl T, Tr.ky (Tr.nn N i) = k ∧ Tr.qh (Tr.nn N i) = h ∧ Tr.qt (Tr.nn N i) = t
def hup (x : Nd) (a b : Int) : Nd := (x.1, x.2.1, x.2.2.1, x.2.2.2.1, a, b)
theorem same_q {x y : Nd} (h : Tr.sameN x y) : Tr.ky x = Tr.ky y ∧ Tr.qh x = Tr.qh y ∧ Tr.qt x = Tr.qt y := ⟨h.1, congrArg Prod.fst h.2.2, congrArg Prod.snd h.2.2⟩
theorem rep_lr {N M : List Nd} (hl : M.length = N.length) (h : ∀ j, Tr.lf (Tr.nn M j) = Tr.lf (Tr.nn N j) ∧ Tr.rt (Tr.nn M j) = Tr.rt (Tr.nn N j)) : ∀ {T : Tr.TT}, Tr.Rep N T → Tr.Rep M T
 | .nil, _ => trivial
 | .nd l i r, ⟨h1, h2, h3, h4, h5⟩ => ⟨by omega, (h i).1.trans h2, (h i).2.trans h3, rep_lr hl h h4, rep_lr hl h h5⟩
theorem hp_kp {N M : List Nd} (h : ∀ j, Tr.pri (Tr.nn M j) = Tr.pri (Tr.nn N j) ∧ Tr.ky (Tr.nn M j) = Tr.ky (Tr.nn N j)) : ∀ {T : Tr.TT} {top top' : Option Nd}, (∀ t', top' = some t' → ∃ t, top = some t ∧ Tr.pri t = Tr.pri t' ∧ Tr.ky t = Tr.ky t') → Tr.Hp N T top → Tr.Hp M T top'
 | .nil, _, _, _, _ => trivial
 | .nd l i r, top, top', ht, ⟨h1, h2, h3⟩ => by
  refine ⟨fun t' e => ?_, hp_kp h ?_ h2, hp_kp h ?_ h3⟩
  ·obtain ⟨t, e1, e2, e3⟩ := ht t' e
   have := h1 t e1
   unfold Tr.abv at this ⊢
   rw [(h i).1, (h i).2, ← e2, ← e3]
   exact this
  ·intro t' e; cases e; exact ⟨_, rfl, (h i).1.symm, (h i).2.symm⟩
  ·intro t' e; cases e; exact ⟨_, rfl, (h i).1.symm, (h i).2.symm⟩
section
variable {N : List Nd} {r f : Int} {F : List Nat} {T : Tr.TT}
theorem TM.det (h : Tr.Ok N r f F T) {k a b a' b' : Int} (h1 : TM N T k a b) (h2 : TM N T k a' b') : a = a' ∧ b = b' := by
 obtain ⟨i, hi, e1, e2, e3⟩ := h1
 obtain ⟨j, hj, g1, g2, g3⟩ := h2
 have := h.ka.inj i hi j hj (e1.trans g1.symm)
 subst this
 exact ⟨e2.symm.trans g2, e3.symm.trans g3⟩
theorem hang_ok (h : Tr.Ok N r f F T) {i : Nat} (hi : i ∈ Tr.pl T) {key a b : Int} (hk : Tr.ky (Tr.nn N i) = key) :
  treap_Hang ((N, r, f), key, a, b) = some ((N.set i (hup (Tr.nn N i) a b), r, f), 0) ∧
  Tr.Ok (N.set i (hup (Tr.nn N i) a b)) r f F T ∧ ∀ k x y, TM (N.set i (hup (Tr.nn N i) a b)) T k x y ↔ (k = key ∧ x = a ∧ y = b) ∨ (k ≠ key ∧ TM N T k x y) := by
 have hlen := h.len
 have hm := ((h.mem i).1 hi).1
 have hnn : ∀ j, Tr.nn (N.set i (hup (Tr.nn N i) a b)) j = if j = i then hup (Tr.nn N i) a b else Tr.nn N j := fun j => by
  rw [Tr.nn_set]
  by_cases e : i = j
  ·rw [if_pos ⟨e, hm⟩, if_pos e.symm]
  ·rw [if_neg (fun h => e h.1), if_neg (fun h => e h.symm)]
 have hkp : ∀ j, Tr.pri (Tr.nn (N.set i (hup (Tr.nn N i) a b)) j) = Tr.pri (Tr.nn N j) ∧ Tr.ky (Tr.nn (N.set i (hup (Tr.nn N i) a b)) j) = Tr.ky (Tr.nn N j) := fun j => by
  rw [hnn]; split
  ·rename_i e; rw [e]; exact ⟨rfl, rfl⟩
  ·exact ⟨rfl, rfl⟩
 have hlr : ∀ j, Tr.lf (Tr.nn (N.set i (hup (Tr.nn N i) a b)) j) = Tr.lf (Tr.nn N j) ∧ Tr.rt (Tr.nn (N.set i (hup (Tr.nn N i) a b)) j) = Tr.rt (Tr.nn N j) := fun j => by
  rw [hnn]; split
  ·rename_i e; rw [e]; exact ⟨rfl, rfl⟩
  ·exact ⟨rfl, rfl⟩
 have hll : (N.set i (hup (Tr.nn N i) a b)).length = N.length := List.length_set
 obtain ⟨e1, e2⟩ := Tr.found_yes h hi hk
 have hR := h.rt
 refine ⟨?_, ⟨by omega, ?_, h.tr.1, rep_lr hll hlr h.tr.2.1, Tr.bst_same (fun j => (hkp j).2) h.tr.2.2.1, hp_kp hkp (fun t' e => by cases e) h.tr.2.2.2.1, h.nodup, fun x => by rw [hll]; exact h.mem x⟩, fun k x y => ?_⟩
 ·unfold treap_Hang treap_Hang_g
  dsimp only
  rw [e1]
  simp only [cq1, Int.toNat_natCast]
  rw [if_neg (fun h => h trivial), Tr.own_eq (by omega)]
  simp only [Option.bind_some]
  rw [if_pos (Tr.nb hm), if_pos hm]
  rfl
 ·rw [hll]
  obtain ⟨G, g1, g2⟩ := Tr.frF_shift (acc' := []) hll (by simp) h.fr (fun x hx _ => by rw [hnn, if_neg (fun (e : x = i) => ((h.mem i).1 hi).2 (e ▸ hx))])
  rw [g2, g1]
 ·constructor
  ·rintro ⟨j, hj, g1, g2, g3⟩
   rw [hnn] at g1 g2 g3
   by_cases e : j = i
   ·subst e
    rw [if_pos rfl] at g1 g2 g3
    exact .inl ⟨g1.symm.trans hk, g2.symm, g3.symm⟩
   ·rw [if_neg e] at g1 g2 g3
    refine .inr ⟨fun ek => e (h.ka.inj j hj i hi ?_), j, hj, g1, g2, g3⟩
    rw [g1, hk, ek]
  ·rintro (⟨rfl, rfl, rfl⟩ | ⟨hne, j, hj, g1, g2, g3⟩)
   ·refine ⟨i, hi, ?_⟩
    rw [hnn, if_pos rfl]
    exact ⟨hk, rfl, rfl⟩
   ·refine ⟨j, hj, ?_⟩
    rw [hnn, if_neg (fun e => hne (by rw [← g1, e, hk]))]
    exact ⟨g1, g2, g3⟩
theorem insert_tm (h : Tr.Ok N r f F T) {key prio : Int} (hk : 0 ≤ key) (hno : ∀ x ∈ Tr.pl T, Tr.ky (Tr.nn N x) ≠ key) (hf : f ≠ -1) :
  ∃ (M : List Nd) (s g : Int) (i : Nat) (G : List Nat) (S : Tr.TT), treap_Insert ((N, r, f), key, prio) = some ((M, s, g), (i : Int), 0) ∧ Tr.Ok M s g G S ∧ M.length = N.length ∧ F = i :: G ∧
   (i ∈ Tr.pl S ∧ Tr.ky (Tr.nn M i) = key ∧ Tr.qh (Tr.nn M i) = -1 ∧ Tr.qt (Tr.nn M i) = -1) ∧ (∀ k x y, TM M S k x y ↔ (k = key ∧ x = -1 ∧ y = -1) ∨ TM N T k x y) := by
 obtain ⟨i, F', g1, g2, hi, g3, g4, g5, g6⟩ := Tr.Insert_ok (prio := prio) h hk hno hf
 have hpl := Tr.ins_pl (N := N.set i (key, prio, -1, -1, -1, -1)) (i := i) (T := T)
 have hi1 : Tr.nn (N.set i (key, prio, -1, -1, -1, -1)) i = (key, prio, -1, -1, -1, -1) := by rw [Tr.nn_set, if_pos ⟨rfl, hi⟩]
 have hsm : ∀ j, Tr.sameN (Tr.nn (Tr.insN (N.set i (key, prio, -1, -1, -1, -1)) i T) j) (Tr.nn (N.set i (key, prio, -1, -1, -1, -1)) j) := fun j => by rw [g4]; exact Tr.wr_same
 have hML : (Tr.insN (N.set i (key, prio, -1, -1, -1, -1)) i T).length = N.length := by rw [Tr.insN_ch.len, List.length_set]
 have hout : ∀ j, j ≠ i → j ∉ Tr.pl T → Tr.nn (Tr.insN (N.set i (key, prio, -1, -1, -1, -1)) i T) j = Tr.nn N j := fun j hj hjT => by
  rw [g4, Tr.wr_out (fun hx => by
   rcases List.mem_cons.1 (hpl.mem_iff.1 hx) with e | e
   ·exact hj e
   ·exact hjT e), Tr.nn_set, if_neg (fun e => hj e.1.symm)]
 have hsmN : ∀ j, j ≠ i → Tr.sameN (Tr.nn (Tr.insN (N.set i (key, prio, -1, -1, -1, -1)) i T) j) (Tr.nn N j) := fun j hj => by
  have := hsm j
  rw [Tr.nn_set, if_neg (fun e => hj e.1.symm)] at this
  exact this
 have hiT1 : i ∈ Tr.pl (Tr.ins (N.set i (key, prio, -1, -1, -1, -1)) i T) := hpl.mem_iff.2 List.mem_cons_self
 have hmT1 : ∀ j, j ∈ Tr.pl (Tr.ins (N.set i (key, prio, -1, -1, -1, -1)) i T) ↔ j = i ∨ j ∈ Tr.pl T := fun j => by rw [hpl.mem_iff, List.mem_cons]
 have hsi := hsm i
 rw [hi1] at hsi
 have hiT : i ∉ Tr.pl T := fun e => ((h.mem i).1 e).2 (by rw [g2]; exact List.mem_cons_self)
 generalize Tr.insN (N.set i (key, prio, -1, -1, -1, -1)) i T = M at *
 generalize Tr.ins (N.set i (key, prio, -1, -1, -1, -1)) i T = S at *
 have hki : Tr.ky (Tr.nn M i) = key := hsi.1
 have hqi : Tr.qh (Tr.nn M i) = -1 ∧ Tr.qt (Tr.nn M i) = -1 := by
  have := hsi.2.2
  exact ⟨congrArg Prod.fst this, congrArg Prod.snd this⟩
 refine ⟨M, _, _, i, F', S, g6, g5, hML, g2, ⟨hiT1, hki, hqi.1, hqi.2⟩, fun k x y => ?_⟩
 ·constructor
  ·rintro ⟨j, hj, e1, e2, e3⟩
   rcases (hmT1 j).1 hj with rfl | hj2
   ·exact .inl ⟨e1.symm.trans hki, e2.symm.trans hqi.1, e3.symm.trans hqi.2⟩
   ·have hji : j ≠ i := fun e => hiT (e ▸ hj2)
    obtain ⟨q1, q2, q3⟩ := same_q (hsmN j hji)
    exact .inr ⟨j, hj2, q1.symm.trans e1, q2.symm.trans e2, q3.symm.trans e3⟩
  ·rintro (⟨rfl, rfl, rfl⟩ | ⟨j, hj, e1, e2, e3⟩)
   ·exact ⟨i, hiT1, hki, hqi.1, hqi.2⟩
   ·have hji : j ≠ i := fun e => hiT (e ▸ hj)
    obtain ⟨q1, q2, q3⟩ := same_q (hsmN j hji)
    exact ⟨j, (hmT1 j).2 (.inr hj), q1.trans e1, q2.trans e2, q3.trans e3⟩
end
end Go.AX.Sm
end
section
namespace Go.AX.Sm
open Go Go.AX
def SX {σ O : Type} (Inv : σ → Prop) (μ : σ → Nat) (Q : O → Prop) (s : σ) (x : Option (σ ⊕ O)) : Prop := (∃ o, x = some (.inr o) ∧ Q o) ∨ ∃ s', x = some (.inl s') ∧ μ s' < μ s ∧ Inv s'
theorem LOOP_bind {σ O R : Type} {f : σ → Option (σ ⊕ O)} {s : σ} {k : O → Option R} {y : Option R} (Inv : σ → Prop) (μ : σ → Nat) (Q : O → Prop)
  (h : ∀ s, Inv s → SX Inv μ Q s (f s)) (hi : Inv s) (hm : μ s < FUEL) (hk : ∀ o, Q o → k o = y) : (LOOPx σ O f s).bind k = y := by
 obtain ⟨o, h1, h2⟩ := LOOP_ex Inv μ Q h hi hm
 rw [h1]; exact hk o h2
theorem SX_inr {σ O : Type} {Inv : σ → Prop} {μ : σ → Nat} {Q : O → Prop} {s : σ} {o : O} (h : Q o) : SX Inv μ Q s (some (.inr o)) := .inl ⟨o, rfl, h⟩
theorem SX_inl {σ O : Type} {Inv : σ → Prop} {μ : σ → Nat} {Q : O → Prop} {s s' : σ} (h : μ s' < μ s) (h2 : Inv s') : SX Inv μ Q s (some (.inl s')) := .inr ⟨s', rfl, h, h2⟩
theorem SX_bind {σ O α : Type} {Inv : σ → Prop} {μ : σ → Nat} {Q : O → Prop} {s : σ} {x : Option α} {r : α} {k : α → Option (σ ⊕ O)} (h : x = some r) (h2 : SX Inv μ Q s (k r)) : SX Inv μ Q s (x.bind k) := by rw [h]; exact h2
theorem SX_loop {σ O τ : Type} {Inv : σ → Prop} {μ : σ → Nat} {Q : O → Prop} {s : σ} {g : τ → Option (τ ⊕ (σ ⊕ O))} {t : τ} (Inv' : τ → Prop) (μ' : τ → Nat) (Q' : (σ ⊕ O) → Prop)
  (h : ∀ s, Inv' s → SX Inv' μ' Q' s (g s)) (hi : Inv' t) (hm : μ' t < FUEL) (hk : ∀ o, Q' o → SX Inv μ Q s (some o)) : SX Inv μ Q s (LOOPx τ (σ ⊕ O) g t) := by
 obtain ⟨o, h1, h2⟩ := LOOP_ex Inv' μ' Q' h hi hm
 rw [h1]; exact hk o h2
theorem LOOP_is {σ O : Type} {f : σ → Option (σ ⊕ O)} {s : σ} {y : O} (Inv : σ → Prop) (μ : σ → Nat) (Q : O → Prop) (h : ∀ s, Inv s → SX Inv μ Q s (f s)) (hi : Inv s) (hm : μ s < FUEL) (hk : ∀ o, Q o → o = y) : LOOPx σ O f s = some y := by
 obtain ⟨o, h1, h2⟩ := LOOP_ex Inv μ Q h hi hm
 rw [h1, hk o h2]
theorem aFree_eq {rs : List R3} {free : Int} {fa : List Int} (hA : AOK rs free fa) : arena_Free (rs, free) = some fa := by
 unfold arena_Free arena_Free_g
 dsimp only
 rw [hA.right, list_eq rs free (AOK.len' hA)]
 simp only [cq1]
 rw [if_neg (by decide)]
 simp only [wres, wlk_iff.2 hA.ch, List.nil_append]
structure CN (rs : List R3) (MT MP : MapI) (acc : List Int) : Prop where
 t : MI MT (acc.map (tk rs))
 p : MI MP acc
 n : (acc.map (tk rs)).Nodup
theorem CN.le {rs : List R3} {MT MP : MapI} {acc : List Int} {fa : List Int} {free : Int} (h : CN rs MT MP acc) (hA : AOK rs free fa) (hl : ∀ x ∈ acc, LV rs x) : acc.length ≤ 64 := by
 have hn : acc.Nodup := by
  have := h.n
  unfold List.Nodup at this
  rw [List.pairwise_map] at this
  exact List.Pairwise.imp (fun {a b} hab e => hab (by rw [e])) this
 have := nodup_le (m := rs.length) hn fun x hx => ⟨(hl x hx).1, (hl x hx).2.1⟩
 have := hA.le
 omega
theorem CN.next {rs : List R3} {MT MP : MapI} {acc : List Int} (h : CN rs MT MP acc) {x : Int} (hx : x ∉ acc) (ht : tk rs x ∉ acc.map (tk rs)) : CN rs (mset (tk rs x) 1 MT) (mset x 1 MP) (acc ++ [x]) := by
 refine ⟨?_, h.p.new hx, ?_⟩
 ·rw [List.map_append]; exact h.t.new ht
 ·rw [List.map_append, List.nodup_append]
  refine ⟨h.n, by simp, fun a ha b hb => ?_⟩
  simp only [List.map_cons, List.map_nil, List.mem_singleton] at hb
  rw [hb]; exact fun e => ht (e ▸ ha)
section
variable {rs : List R3} {free : Int} {N : List Nd} {r f : Int} {fa : List Int} {F : List Nat} {T : Tr.TT}
abbrev TAB := List R3 × Int × List Nd × Int × Int
def ans (x : Option (List Int)) (p : List Int → Bool) : Bool := match x with | some acc => p acc | none => false
theorem inr_step {k : Int} {l acc : List Int} {j : Nat} (hj : j < l.length) : inr rs k (l.drop j) acc = if ky rs (Ty.at (Ty.int IntKind.i64) l j) ≠ k ∨ Ty.at (Ty.int IntKind.i64) l j ∈ acc ∨ tk rs (Ty.at (Ty.int IntKind.i64) l j) ∈ acc.map (tk rs) then none else inr rs k (l.drop (j + 1)) (acc ++ [Ty.at (Ty.int IntKind.i64) l j]) := by
 rw [drop_at (T := (Ty.int IntKind.i64)) hj]; rfl
theorem sRight_eq (hA : AOK rs free fa) (hT : Tr.Ok N r f F T) : sema_Right (rs, free, N, r, f) = some (ans (otr rs free N []) fun acc => decide (acc.length + fa.length = rs.length)) := by
 have hle := hA.le
 have hlen := hT.len
 unfold sema_Right sema_Right_g
 dsimp only
 rw [hA.right, Tr.Right_eq (by omega), hT.rt]
 simp only [cq1]
 rw [if_pos trivial, if_neg (by decide)]
 refine LOOP_bind (fun s : (List Nd × Int × Int) × TAB × MapI × MapI => ∃ (i : Nat) (acc : List Int), s.1 = (N, (N.length : Int), (i : Int)) ∧ s.2.1 = (rs, free, N, r, f) ∧ i ≤ N.length ∧ CN rs s.2.2.1 s.2.2.2 acc ∧ (∀ x ∈ acc, LV rs x) ∧ otr rs free (N.drop i) acc = otr rs free N [])
  (fun s => N.length - s.1.2.2.toNat)
  (fun o => match otr rs free N [] with | some acc => ∃ MT MP, o = .inl ((rs, free, N, r, f), MP) ∧ CN rs MT MP acc ∧ ∀ x ∈ acc, LV rs x | none => o = .inr false) ?_ ⟨0, [], rfl, rfl, by simp, ⟨MI.nil, MI.nil, List.nodup_nil⟩, by simp, rfl⟩ (by have := Tr.big; simp; omega) ?_
 ·rintro ⟨⟨a1, a2, a3⟩, ⟨b1, b2, b3, b4, b5⟩, MT, MP⟩ ⟨i, acc, e1, e2, hi, hc, hlv, ho⟩
  simp only [Prod.mk.injEq] at e1 e2
  obtain ⟨rfl, rfl, rfl⟩ := e1
  obtain ⟨rfl, rfl, rfl, rfl, rfl⟩ := e2
  dsimp only at hc ⊢
  by_cases hlt : i < b3.length
  ·rw [if_pos (by omega), if_pos (by omega)]
   have hd : b3.drop i = Tr.nn b3 i :: b3.drop (i + 1) := by
    rw [List.drop_eq_getElem_cons hlt, nn_get hlt]
   rw [hd, otr] at ho
   simp only [Int.toNat_natCast]
   by_cases hk : Tr.ky (Tr.nn b3 i) = -1
   ·rw [if_pos hk] at ho
    rw [if_pos (show (Ty.at tN b3 i).1 = -1 from hk), wrap_i64 (by omega)]
    refine SX_inl (by dsimp only; omega) ⟨i + 1, acc, rfl, rfl, by omega, hc, hlv, ho⟩
   ·rw [if_neg hk] at ho
    rw [if_neg (show ¬ (Ty.at tN b3 i).1 = -1 from hk)]
    obtain ⟨p1, p2, p3⟩ := PL_eq (rs := b1) (free := b2) (h := Tr.qh (Tr.nn b3 i)) (t := Tr.qt (Tr.nn b3 i)) (AOK.len' hA)
    refine SX_bind p1 ?_
    change (if NP b1 b2 (Tr.nn b3 i) = [] then _ else _) = _ at ho
    by_cases hnp : NP b1 b2 (Tr.nn b3 i) = []
    ·rw [if_pos hnp] at ho
     rw [if_neg (show ¬ ¬ (((PL b1 b2 (Tr.qh (Tr.nn b3 i)) (Tr.qt (Tr.nn b3 i))).length : Int) = 0) from fun h => h (by change (((NP b1 b2 (Tr.nn b3 i)).length : Int) = 0); rw [hnp]; rfl))]
     refine SX_inr ?_
     rw [← ho]
    ·rw [if_neg hnp] at ho
     have hpos : 0 < (NP b1 b2 (Tr.nn b3 i)).length := List.length_pos_iff.2 hnp
     rw [if_pos (show ¬ (((PL b1 b2 (Tr.qh (Tr.nn b3 i)) (Tr.qt (Tr.nn b3 i))).length : Int) = 0) from fun h => by change (((NP b1 b2 (Tr.nn b3 i)).length : Int) = 0) at h; omega)]
     have hR : queue_Right ((b1, b2), Tr.qh (Tr.nn b3 i), Tr.qt (Tr.nn b3 i)) = some true := by
      rcases p3 with ⟨_, _, q, _⟩ | ⟨q, _⟩
      ·exact q
      ·exact absurd q hnp
     refine SX_bind hR ?_
     rw [if_neg (by decide)]
     have hrl : ∀ x ∈ NP b1 b2 (Tr.nn b3 i), LV b1 x := NP_live hA
     have hrn : (NP b1 b2 (Tr.nn b3 i)).length ≤ 64 := by
      rcases p3 with ⟨_, q, _⟩ | ⟨q, _⟩
      ·exact q.len
      ·exact absurd q hnp
     change Option.bind (inr b1 (Tr.ky (Tr.nn b3 i)) (NP b1 b2 (Tr.nn b3 i)) acc) _ = _ at ho
     show SX _ _ _ _ (LOOPx _ _ _ ((b3, (b3.length : Int), (i : Int), ((NP b1 b2 (Tr.nn b3 i)).length : Int), (0 : Int)), (b1, b2, b3, b4, b5), MT, MP, Tr.nn b3 i, NP b1 b2 (Tr.nn b3 i)))
     generalize hl : NP b1 b2 (Tr.nn b3 i) = l at *
     generalize hn : Tr.nn b3 i = n at *
     refine SX_loop (fun s : (List Nd × Int × Int × Int × Int) × TAB × MapI × MapI × Nd × List Int => ∃ (j : Nat) (a : List Int), s.1 = (b3, (b3.length : Int), (i : Int), (l.length : Int), (j : Int)) ∧ s.2.1 = (b1, b2, b3, b4, b5) ∧ j ≤ l.length ∧ CN b1 s.2.2.1 s.2.2.2.1 a ∧ (∀ x ∈ a, LV b1 x) ∧ s.2.2.2.2 = (n, l) ∧ inr b1 (Tr.ky n) (l.drop j) a = inr b1 (Tr.ky n) l acc)
      (fun s => l.length - s.1.2.2.2.2.toNat)
      (fun o => match inr b1 (Tr.ky n) l acc with | some a => ∃ MT MP, o = .inl ((b3, (b3.length : Int), ((i + 1 : Nat) : Int)), (b1, b2, b3, b4, b5), MT, MP) ∧ CN b1 MT MP a ∧ ∀ x ∈ a, LV b1 x | none => o = .inr (.inr false)) ?_ ⟨0, acc, rfl, rfl, by omega, hc, hlv, rfl, rfl⟩ (by have := Tr.big; dsimp only; omega) ?_
     ·rintro ⟨⟨c1, c2, c3, c4, c5⟩, ⟨d1, d2, d3, d4, d5⟩, MT, MP, ⟨n1, n2, n3, n4, n5, n6⟩, l'⟩ ⟨j, a, e1, e2, hj, hc, hlv, e3, hin⟩
      simp only [Prod.mk.injEq] at e1 e2 e3
      obtain ⟨rfl, rfl, rfl, rfl, rfl⟩ := e1
      obtain ⟨rfl, rfl, rfl, rfl, rfl⟩ := e2
      obtain ⟨rfl, rfl⟩ := e3
      dsimp only at hc ⊢
      by_cases hjl : j < l'.length
      ·rw [if_pos (by omega), if_pos (by omega)]
       simp only [Int.toNat_natCast]
       have hx := hrl _ (at_mem (T := (Ty.int IntKind.i64)) hjl)
       rw [inr_step hjl] at hin
       generalize Ty.at (Ty.int IntKind.i64) l' j = x at *
       rw [if_pos hjl, if_pos ⟨hx.1, hx.2.1⟩]
       change (if ky d1 x ≠ n1 ∨ x ∈ a ∨ tk d1 x ∈ a.map (tk d1) then _ else _) = _ at hin
       by_cases hk1 : ky d1 x = n1
       ·rw [if_pos (show (Ty.at t3 d1 x.toNat).1 = n1 from hk1)]
        have gp := hc.p.get x
        have gt := hc.t.get (tk d1 x)
        have e0 : ((Ty.at t3 d1 x.toNat).2).1 = tk d1 x := rfl
        simp only [get_set, e0, gp, gt]
        by_cases hxa : x ∈ a
        ·rw [if_pos (.inr (.inl hxa))] at hin
         rw [if_pos hxa, if_neg (by decide)]
         exact SX_inr (by rw [← hin])
        ·rw [if_neg hxa]
         rw [if_pos (by decide)]
         by_cases hxt : tk d1 x ∈ a.map (tk d1)
         ·rw [if_pos (.inr (.inr hxt))] at hin
          rw [if_pos hxt, if_pos (by decide)]
          exact SX_inr (by rw [← hin])
         ·rw [if_neg hxt, if_neg (by decide)]
          rw [if_neg (by rintro (h | h | h); exact h hk1; exact hxa h; exact hxt h)] at hin
          have hw : IntKind.i64.wrap ((0 : Int) + 1) = 1 := by decide
          rw [wrap_i64 (by omega), hw]
          refine SX_inl (by dsimp only; omega) ⟨j + 1, a ++ [x], rfl, rfl, by omega, hc.next hxa hxt, fun y hy => ?_, rfl, hin⟩
          rcases List.mem_append.1 hy with hy | hy
          ·exact hlv y hy
          ·rw [List.mem_singleton] at hy; rw [hy]; exact hx
       ·rw [if_neg (show ¬ (Ty.at t3 d1 x.toNat).1 = n1 from hk1)]
        rw [if_pos (.inl hk1)] at hin
        exact SX_inr (by rw [← hin])
      ·rw [if_neg (by omega)]
       rw [List.drop_of_length_le (by omega)] at hin
       rw [wrap_i64 (by omega)]
       refine SX_inr ?_
       rw [← hin]
       exact ⟨MT, MP, rfl, hc, hlv⟩
     ·intro o hq
      cases hs : inr b1 (Tr.ky n) l acc with
      | none =>
       rw [hs] at hq ho
       rw [hq]
       exact SX_inr (by rw [← ho]; rfl)
      | some a =>
       rw [hs] at hq ho
       obtain ⟨MT', MP', rfl, h1, h2⟩ := hq
       exact SX_inl (by dsimp only; omega) ⟨i + 1, a, rfl, rfl, by omega, h1, h2, ho⟩
  ·rw [if_neg (by omega)]
   rw [List.drop_of_length_le (by omega)] at ho
   refine SX_inr ?_
   rw [← ho]
   exact ⟨MT, MP, rfl, hc, hlv⟩
 ·intro o hq
  cases hs : otr rs free N [] with
  | none =>
   rw [hs] at hq
   rw [hq]
   rfl
  | some acc =>
   rw [hs] at hq
   obtain ⟨MT, MP, rfl, h1, h2⟩ := hq
   dsimp only [ans]
   rw [aFree_eq hA]
   simp only [Option.bind_some]
   have := h1.le hA h2
   have := hA.ch.len
   rw [h1.p.len, wrap_i64 (by omega)]
   congr 1
   exact decide_eq_decide.2 ⟨fun h => by omega, fun h => by omega⟩
end
end Go.AX.Sm
end
section
namespace Go.AX.Sm
open Go Go.AX
section
variable {rs : List R3} {free : Int} {N : List Nd} {r f : Int} {fa : List Int} {F : List Nat} {T : Tr.TT}
structure CL (rs : List R3) (lp lt : List Int) (acc : List Int) : Prop where
 p : lp = acc
 t : lt = acc.map (tk rs)
 n : (acc.map (tk rs)).Nodup
theorem CL.nodup {lp lt acc : List Int} (h : CL rs lp lt acc) : acc.Nodup := by
 have := h.n
 unfold List.Nodup at this
 rw [List.pairwise_map] at this
 exact List.Pairwise.imp (fun {a b} hab e => hab (by rw [e])) this
theorem CL.le {lp lt acc : List Int} (h : CL rs lp lt acc) (hA : AOK rs free fa) (hl : ∀ x ∈ acc, LV rs x) : acc.length ≤ 64 := by
 have := nodup_le (m := rs.length) h.nodup fun x hx => ⟨(hl x hx).1, (hl x hx).2.1⟩
 have := hA.le
 omega
theorem CL.next {lp lt acc : List Int} (h : CL rs lp lt acc) {x : Int} (ht : tk rs x ∉ acc.map (tk rs)) : CL rs (lp ++ [x]) (lt ++ [tk rs x]) (acc ++ [x]) := by
 refine ⟨by rw [h.p], by rw [h.t, List.map_append]; rfl, ?_⟩
 rw [List.map_append, List.nodup_append]
 refine ⟨h.n, by simp, fun a ha b hb => ?_⟩
 simp only [List.map_cons, List.map_nil, List.mem_singleton] at hb
 rw [hb]; exact fun e => ht (e ▸ ha)
theorem cov_iff (hA : AOK rs free fa) {acc : List Int} (hn : acc.Nodup) (hl : ∀ x ∈ acc, LV rs x) : (acc.length + fa.length = rs.length) ↔ ∀ j : Nat, j < rs.length → (0 ≤ ky rs j ↔ (j : Int) ∈ acc) := by
 rw [count_all hA hn hl]
 constructor
 ·intro h j hj
  exact ⟨fun hk => h j ⟨by omega, by omega, hk⟩, fun hm => (hl _ hm).2.2⟩
 ·intro h x hx
  have := (h x.toNat (by have := hx.1; have := hx.2.1; omega)).1
  rw [Int.toNat_of_nonneg hx.1] at this
  exact this hx.2.2
theorem rRight_eq (hA : AOK rs free fa) (hT : Tr.Ok N r f F T) : rg0_Right (rs, free, N, r, f) = some (ans (otr rs free N []) fun acc => decide (acc.length + fa.length = rs.length)) := by
 have hle := hA.le
 have hlen := hT.len
 unfold rg0_Right rg0_Right_g
 dsimp only
 rw [hA.rright, Tr.rRight_eq (by omega), hT.rt]
 simp only [cq1]
 rw [if_pos trivial, if_neg (by decide)]
 refine LOOP_bind (fun s : Int × TAB × List Int × List Int => ∃ (i : Nat) (acc : List Int), s.1 = (i : Int) ∧ s.2.1 = (rs, free, N, r, f) ∧ i ≤ N.length ∧ CL rs s.2.2.1 s.2.2.2 acc ∧ (∀ x ∈ acc, LV rs x) ∧ otr rs free (N.drop i) acc = otr rs free N [])
  (fun s => N.length - s.1.toNat)
  (fun o => match otr rs free N [] with | some acc => o = .inl ((rs, free, N, r, f), acc) ∧ (∀ x ∈ acc, LV rs x) ∧ acc.Nodup | none => o = .inr false) ?_ ⟨0, [], rfl, rfl, by simp, ⟨rfl, rfl, List.nodup_nil⟩, by simp, rfl⟩ (by have := Tr.big; simp; omega) ?_
 ·rintro ⟨a3, ⟨b1, b2, b3, b4, b5⟩, lp, lt⟩ ⟨i, acc, e1, e2, hi, hc, hlv, ho⟩
  simp only [Prod.mk.injEq] at e1 e2
  subst e1
  obtain ⟨rfl, rfl, rfl, rfl, rfl⟩ := e2
  dsimp only at hc ⊢
  by_cases hlt : i < b3.length
  ·rw [if_pos (by omega), if_pos (by omega)]
   have hd : b3.drop i = Tr.nn b3 i :: b3.drop (i + 1) := by
    rw [List.drop_eq_getElem_cons hlt, nn_get hlt]
   rw [hd, otr] at ho
   simp only [Int.toNat_natCast]
   by_cases hk : Tr.ky (Tr.nn b3 i) = -1
   ·rw [if_pos hk] at ho
    rw [if_pos (show (Ty.at tN b3 i).1 = -1 from hk), wrap_i64 (by omega)]
    refine SX_inl (by dsimp only; omega) ⟨i + 1, acc, rfl, rfl, by omega, hc, hlv, ho⟩
   ·rw [if_neg hk] at ho
    rw [if_neg (show ¬ (Ty.at tN b3 i).1 = -1 from hk)]
    obtain ⟨p1, p2, p3⟩ := PL_eq (rs := b1) (free := b2) (h := Tr.qh (Tr.nn b3 i)) (t := Tr.qt (Tr.nn b3 i)) (AOK.len' hA)
    refine SX_bind p2 ?_
    change (if NP b1 b2 (Tr.nn b3 i) = [] then _ else _) = _ at ho
    by_cases hnp : NP b1 b2 (Tr.nn b3 i) = []
    ·rw [if_pos hnp] at ho
     rw [if_neg (show ¬ ¬ (((PL b1 b2 (Tr.qh (Tr.nn b3 i)) (Tr.qt (Tr.nn b3 i))).length : Int) = 0) from fun h => h (by change (((NP b1 b2 (Tr.nn b3 i)).length : Int) = 0); rw [hnp]; rfl))]
     refine SX_inr ?_
     rw [← ho]
    ·rw [if_neg hnp] at ho
     have hpos : 0 < (NP b1 b2 (Tr.nn b3 i)).length := List.length_pos_iff.2 hnp
     rw [if_pos (show ¬ (((PL b1 b2 (Tr.qh (Tr.nn b3 i)) (Tr.qt (Tr.nn b3 i))).length : Int) = 0) from fun h => by change (((NP b1 b2 (Tr.nn b3 i)).length : Int) = 0) at h; omega)]
     have hR : rf8_Right ((b1, b2), Tr.qh (Tr.nn b3 i), Tr.qt (Tr.nn b3 i)) = some true := by
      rcases p3 with ⟨_, _, _, q⟩ | ⟨q, _⟩
      ·exact q
      ·exact absurd q hnp
     refine SX_bind hR ?_
     rw [if_neg (by decide)]
     have hrl : ∀ x ∈ NP b1 b2 (Tr.nn b3 i), LV b1 x := NP_live hA
     have hrn : (NP b1 b2 (Tr.nn b3 i)).length ≤ 64 := by
      rcases p3 with ⟨_, q, _⟩ | ⟨q, _⟩
      ·exact q.len
      ·exact absurd q hnp
     change Option.bind (inr b1 (Tr.ky (Tr.nn b3 i)) (NP b1 b2 (Tr.nn b3 i)) acc) _ = _ at ho
     show SX _ _ _ _ (LOOPx _ _ _ (((i : Int), (0 : Int)), (b1, b2, b3, b4, b5), lp, lt, Tr.nn b3 i, NP b1 b2 (Tr.nn b3 i)))
     generalize hl : NP b1 b2 (Tr.nn b3 i) = l at *
     generalize hn : Tr.nn b3 i = n at *
     refine SX_loop (fun s : (Int × Int) × TAB × List Int × List Int × Nd × List Int => ∃ (j : Nat) (a : List Int), s.1 = ((i : Int), (j : Int)) ∧ s.2.1 = (b1, b2, b3, b4, b5) ∧ j ≤ l.length ∧ CL b1 s.2.2.1 s.2.2.2.1 a ∧ (∀ x ∈ a, LV b1 x) ∧ s.2.2.2.2 = (n, l) ∧ inr b1 (Tr.ky n) (l.drop j) a = inr b1 (Tr.ky n) l acc)
      (fun s => l.length - s.1.2.toNat)
      (fun o => match inr b1 (Tr.ky n) l acc with | some a => ∃ lp lt, o = .inl (((i + 1 : Nat) : Int), (b1, b2, b3, b4, b5), lp, lt) ∧ CL b1 lp lt a ∧ ∀ x ∈ a, LV b1 x | none => o = .inr (.inr false)) ?_ ⟨0, acc, rfl, rfl, by omega, hc, hlv, rfl, rfl⟩ (by have := Tr.big; dsimp only; omega) ?_
     ·rintro ⟨⟨c3, c5⟩, ⟨d1, d2, d3, d4, d5⟩, lp, lt, ⟨n1, n2, n3, n4, n5, n6⟩, l'⟩ ⟨j, a, e1, e2, hj, hc, hlv, e3, hin⟩
      simp only [Prod.mk.injEq] at e1 e2 e3
      obtain ⟨rfl, rfl⟩ := e1
      obtain ⟨rfl, rfl, rfl, rfl, rfl⟩ := e2
      obtain ⟨rfl, rfl⟩ := e3
      dsimp only at hc ⊢
      by_cases hjl : j < l'.length
      ·rw [if_pos (by omega), if_pos (by omega)]
       simp only [Int.toNat_natCast]
       have hx := hrl _ (at_mem (T := (Ty.int IntKind.i64)) hjl)
       rw [inr_step hjl] at hin
       generalize Ty.at (Ty.int IntKind.i64) l' j = x at *
       rw [if_pos hjl, if_pos ⟨hx.1, hx.2.1⟩]
       change (if ky d1 x ≠ n1 ∨ x ∈ a ∨ tk d1 x ∈ a.map (tk d1) then _ else _) = _ at hin
       by_cases hk1 : ky d1 x = n1
       ·rw [if_pos (show (Ty.at t3 d1 x.toNat).1 = n1 from hk1)]
        have hal := hc.le hA hlv
        obtain ⟨hcp, hct, hcn⟩ := hc
        subst hcp
        subst hct
        rw [if_pos ⟨by omega, by omega⟩, if_pos hjl]
        refine SX_bind (Has_eq _ x (by omega)) ?_
        by_cases hxa : x ∈ lp
        ·rw [if_pos (.inr (.inl hxa))] at hin
         rw [if_neg (by rw [decide_eq_true hxa]; decide)]
         exact SX_inr (by rw [← hin])
        ·rw [if_pos (by rw [decide_eq_false hxa])]
         refine SX_bind (Has_eq _ (tk d1 x) (by rw [List.length_map]; omega)) ?_
         by_cases hxt : tk d1 x ∈ lp.map (tk d1)
         ·rw [if_pos (.inr (.inr hxt))] at hin
          rw [if_pos (by rw [decide_eq_true hxt])]
          exact SX_inr (by rw [← hin])
         ·rw [if_neg (by rw [decide_eq_false hxt]; decide), if_pos ⟨by omega, by omega⟩, if_pos hjl]
          rw [if_neg (by rintro (h | h | h); exact h hk1; exact hxa h; exact hxt h)] at hin
          rw [if_pos (by simp only [List.length_cons, List.length_nil]; omega), if_pos (by simp only [List.length_cons, List.length_nil, List.length_map]; omega), wrap_i64 (by omega)]
          refine SX_inl (by dsimp only; omega) ⟨j + 1, lp ++ [x], rfl, rfl, by omega, CL.next ⟨rfl, rfl, hcn⟩ hxt, fun y hy => ?_, rfl, hin⟩
          rcases List.mem_append.1 hy with hy | hy
          ·exact hlv y hy
          ·rw [List.mem_singleton] at hy; rw [hy]; exact hx
       ·rw [if_neg (show ¬ (Ty.at t3 d1 x.toNat).1 = n1 from hk1)]
        rw [if_pos (.inl hk1)] at hin
        exact SX_inr (by rw [← hin])
      ·rw [if_neg (by omega)]
       rw [List.drop_of_length_le (by omega)] at hin
       rw [wrap_i64 (by omega)]
       refine SX_inr ?_
       rw [← hin]
       exact ⟨lp, lt, rfl, hc, hlv⟩
     ·intro o hq
      cases hs : inr b1 (Tr.ky n) l acc with
      | none =>
       rw [hs] at hq ho
       rw [hq]
       exact SX_inr (by rw [← ho]; rfl)
      | some a =>
       rw [hs] at hq ho
       obtain ⟨lp', lt', rfl, h1, h2⟩ := hq
       exact SX_inl (by dsimp only; omega) ⟨i + 1, a, rfl, rfl, by omega, h1, h2, ho⟩
  ·rw [if_neg (by omega)]
   rw [List.drop_of_length_le (by omega)] at ho
   refine SX_inr ?_
   rw [← ho]
   exact ⟨by rw [hc.p], hlv, hc.nodup⟩
 ·intro o hq
  cases hs : otr rs free N [] with
  | none =>
   rw [hs] at hq
   rw [hq]
   rfl
  | some acc =>
   rw [hs] at hq
   obtain ⟨rfl, h1, h2⟩ := hq
   have hal : acc.length ≤ 64 := by
    have := nodup_le (m := rs.length) h2 fun x hx => ⟨(h1 x hx).1, (h1 x hx).2.1⟩
    omega
   dsimp only [ans]
   refine LOOP_is (fun s : Int × TAB × List Int => ∃ i : Nat, s = ((i : Int), (rs, free, N, r, f), acc) ∧ i ≤ rs.length ∧ ∀ j : Nat, j < i → (0 ≤ ky rs j ↔ (j : Int) ∈ acc))
    (fun s => rs.length - s.1.toNat) (fun o : Bool => o = true ↔ ∀ j : Nat, j < rs.length → (0 ≤ ky rs j ↔ (j : Int) ∈ acc)) ?_ ⟨0, rfl, by omega, fun j hj => by omega⟩ (by have := Tr.big; show rs.length - _ < _; omega) (fun o hb => by
     rw [Bool.eq_iff_iff, hb, decide_eq_true_eq, cov_iff hA h2 h1])
   ·rintro _ ⟨i, rfl, hi, hj⟩
    dsimp only
    by_cases hlt : i < rs.length
    ·rw [if_pos (by omega)]
     refine SX_bind (Live_eq hA i) ?_
     refine SX_bind (Has_eq acc i (by omega)) ?_
     have e : decide (0 ≤ (i : Int) ∧ (i : Int) < rs.length ∧ 0 ≤ ky rs i) = decide (0 ≤ ky rs i) := by
      refine decide_eq_decide.2 ⟨fun h => h.2.2, fun h => ⟨by omega, by omega, h⟩⟩
     rw [e]
     by_cases hb : (0 ≤ ky rs i ↔ (i : Int) ∈ acc)
     ·rw [if_neg (by rw [show decide (0 ≤ ky rs i) = decide ((i : Int) ∈ acc) from decide_eq_decide.2 hb]; simp), wrap_i64 (by omega)]
      refine SX_inl (by dsimp only; omega) ⟨i + 1, rfl, by omega, fun j hj2 => ?_⟩
      by_cases hji : j = i
      ·rw [hji]; exact hb
      ·exact hj j (by omega)
     ·rw [if_pos (by
       by_cases h1 : 0 ≤ ky rs i <;> by_cases h2 : (i : Int) ∈ acc
       ·exact absurd (iff_of_true h1 h2) hb
       ·rw [decide_eq_true h1, decide_eq_false h2]; decide
       ·rw [decide_eq_false h1, decide_eq_true h2]; decide
       ·exact absurd (iff_of_false h1 h2) hb)]
      exact SX_inr ⟨fun h => by simp at h, fun h => absurd (h i hlt) hb⟩
    ·rw [if_neg (by omega)]
     exact SX_inr ⟨fun _ j hj2 => hj j (by omega), fun _ => rfl⟩
end
end Go.AX.Sm
end
section
namespace Go.AX.Sm
open Go Go.AX
section
variable {rs : List R3} {free : Int} {N : List Nd} {r f : Int} {fa : List Int} {F : List Nat} {T : Tr.TT}
theorem SOK.rights (h : SOK rs free N r f fa F T) : sema_Right (rs, free, N, r, f) = some true ∧ rg0_Right (rs, free, N, r, f) = some true := by
 obtain ⟨h1, h2⟩ := h.scan
 rw [sRight_eq h.a h.t, rRight_eq h.a h.t, h1]
 dsimp only [ans]
 have hn : (rowsAll rs free N).Nodup := by
  have := ((otr_iff (by simp)).1 h1).2.2
  unfold List.Nodup at this
  rw [List.pairwise_map] at this
  exact List.Pairwise.imp (fun {a b} hab e => hab (by rw [e])) this
 rw [decide_eq_true ((count_all h.a hn (rows_live h.a)).2 h2)]
 exact ⟨rfl, rfl⟩
theorem R_cases (rs : List R3) (free : Int) (N : List Nd) (r f : Int) (hl : rs.length ≤ 1000000) (hN : N.length ≤ 1000000) : (∃ fa F T, SOK rs free N r f fa F T) ∨ (sema_Right (rs, free, N, r, f) = some false ∧ rg0_Right (rs, free, N, r, f) = some false) := by
 rcases Right_cases rs free hl with ⟨fa, hA⟩ | ⟨a1, a2⟩
 ·cases hR : Tr.progR N r f with
  | true =>
   obtain ⟨F, T, hT⟩ := Tr.ok_of hR
   rw [sRight_eq hA hT, rRight_eq hA hT]
   cases hs : otr rs free N [] with
   | none => exact .inr ⟨rfl, rfl⟩
   | some acc =>
    dsimp only [ans]
    by_cases hc : acc.length + fa.length = rs.length
    ·obtain ⟨e, _, hn⟩ := (otr_iff (by simp)).1 hs
     rw [List.nil_append] at e
     have hn' : acc.Nodup := by
      unfold List.Nodup at hn
      rw [List.pairwise_map] at hn
      exact List.Pairwise.imp (fun {a b} hab e => hab (by rw [e])) hn
     exact .inl ⟨fa, F, T, SOK_of hA hT hs ((count_all hA hn' (by rw [e]; exact rows_live hA)).1 hc)⟩
    ·rw [decide_eq_false hc]
     exact .inr ⟨rfl, rfl⟩
  | false =>
   right
   unfold sema_Right sema_Right_g rg0_Right rg0_Right_g
   dsimp only
   rw [hA.right, hA.rright, Tr.Right_eq hN, Tr.rRight_eq hN, hR]
   exact ⟨rfl, rfl⟩
 ·right
  unfold sema_Right sema_Right_g rg0_Right rg0_Right_g
  dsimp only
  rw [a1, a2]
  exact ⟨rfl, rfl⟩
theorem SOK.place (h : SOK rs free N r f fa F T) (key : Int) :
  (∃ i : Nat, i ∈ Tr.pl T ∧ i < N.length ∧ Tr.ky (Tr.nn N i) = key ∧ 0 ≤ key ∧ sema_node ((rs, free, N, r, f), key) = some ((Tr.qh (Tr.nn N i), Tr.qt (Tr.nn N i)), true) ∧ rf9_Place ((N, r, f), key) = some (i : Int)) ∨
  ((∀ i ∈ Tr.pl T, Tr.ky (Tr.nn N i) ≠ key) ∧ sema_node ((rs, free, N, r, f), key) = some ((-1, -1), false) ∧ rf9_Place ((N, r, f), key) = some (-1)) := by
 have hlen := h.t.len
 rcases h.t.tr.find h.t.free.1 key with ⟨i, n, e1, e2, e3, e4, e5⟩ | ⟨⟨n, e1⟩, e2, hno⟩
 ·have hi := ((h.t.mem i).1 e2).1
  refine .inl ⟨i, e2, hi, e3, e5, ?_, by rw [Tr.Place_eq (by omega), e4]⟩
  unfold sema_node sema_node_g
  dsimp only
  rw [Tr.Find_eq h.t, e1]
  simp only [cq1]
  rw [if_neg (by decide), if_pos (Tr.nb hi)]
  rfl
 ·refine .inr ⟨hno, ?_, by rw [Tr.Place_eq (by omega), e2]⟩
  unfold sema_node sema_node_g
  dsimp only
  rw [Tr.Find_eq h.t, e1]
  rfl
theorem empty_q (hA : AOK rs free fa) : QOK rs free (-1) (-1) fa [] := ⟨hA, .nil, rfl⟩
theorem SOK.waits (h : SOK rs free N r f fa F T) (key : Int) : ∃ L, sema_Waits ((rs, free, N, r, f), key) = some L ∧ rg0_Waits ((rs, free, N, r, f), key) = some L ∧ L.length ≤ 64 ∧
  ((∃ i ∈ Tr.pl T, Tr.ky (Tr.nn N i) = key ∧ L = (NP rs free (Tr.nn N i)).map (tk rs)) ∨ ((∀ i ∈ Tr.pl T, Tr.ky (Tr.nn N i) ≠ key) ∧ L = [])) := by
 obtain ⟨R1, R2⟩ := h.rights
 unfold sema_Waits sema_Waits_g rg0_Waits rg0_Waits_g
 dsimp only
 rw [R1, R2]
 simp only [cq1]
 rw [if_neg (by decide), if_neg (by decide)]
 rcases h.place key with ⟨i, e1, e2, e3, e4, e5, e6⟩ | ⟨e1, e2, e3⟩
 ·rw [e5, e6]
  simp only [cq1]
  rw [if_neg (by omega), if_pos (Tr.nb e2), Int.toNat_natCast]
  obtain ⟨q1, q2, q3⟩ := h.q i e1
  have t1 := q2.tasks
  have t2 := q2.rtasks
  refine ⟨_, by rw [t1]; rfl, ?_, by rw [List.length_map]; exact q2.len, .inl ⟨i, e1, e3, rfl⟩⟩
  refine Tr.bnd t2 rfl
 ·rw [e2, e3]
  simp only [cq1]
  rw [if_pos (by decide)]
  refine ⟨[], by rw [(empty_q h.a).tasks]; rfl, rfl, by simp, .inr ⟨e1, rfl⟩⟩
theorem rKeys_eq (hT : Tr.Ok N r f F T) : rf9_Keys (N, r, f) = some (Tr.kysT N T) := by
 have hlen := hT.len
 rw [Tr.rKeys_loop (by omega) hT.rt]
 have : Tr.Fl N f = F := by unfold Tr.Fl; rw [hT.fr]; rfl
 rw [this, Tr.lst_of hT.tr]
 rfl
def IsW (rs : List R3) (t k : Int) : Prop := (∃ x, LV rs x ∧ tk rs x = t ∧ k = ky rs x) ∨ (k = -1 ∧ ∀ x, LV rs x → tk rs x ≠ t)
end
end Go.AX.Sm
end
section
namespace Go.AX.Sm
open Go Go.AX
structure AS (rs : List R3) (free : Int) (fa : List Int) (A : Int → Int → Int → Prop) : Prop where
 a : AOK rs free fa
 q : ∀ k h t, A k h t → PL rs free h t ≠ [] ∧ QOK rs free h t fa (PL rs free h t) ∧ ∀ x ∈ PL rs free h t, ky rs x = k
 u : ∀ x y, LV rs x → LV rs y → tk rs x = tk rs y → x = y
 all : ∀ x, LV rs x → ∃ h t, A (ky rs x) h t ∧ x ∈ PL rs free h t
theorem PL_live {rs : List R3} {free : Int} {fa : List Int} (hA : AOK rs free fa) {h t : Int} : ∀ x ∈ PL rs free h t, LV rs x := by
 intro x hx
 rcases (PL_eq (rs := rs) (free := free) (h := h) (t := t) (AOK.len' hA)).2.2 with ⟨g, hg, _⟩ | ⟨h1, _⟩
 ·exact hg.live hx
 ·rw [h1] at hx; cases hx
section
variable {rs : List R3} {free : Int} {N : List Nd} {r f : Int} {fa : List Int} {F : List Nat} {T : Tr.TT}
theorem SOK.as (h : SOK rs free N r f fa F T) : AS rs free fa (TM N T) := by
 refine ⟨h.a, ?_, h.u, fun x hx => ?_⟩
 ·rintro k a b ⟨i, hi, rfl, rfl, rfl⟩
  exact h.q i hi
 ·obtain ⟨i, hi, hxi⟩ := h.all x hx
  exact ⟨_, _, ⟨i, hi, ((h.q i hi).2.2 x hxi).symm, rfl, rfl⟩, hxi⟩
theorem AS.sok {A : Int → Int → Int → Prop} (h : AS rs free fa A) (hT : Tr.Ok N r f F T) (hA : ∀ k x y, TM N T k x y ↔ A k x y) : SOK rs free N r f fa F T := by
 refine ⟨h.a, hT, fun i hi => h.q _ _ _ ((hA _ _ _).1 ⟨i, hi, rfl, rfl, rfl⟩), h.u, fun x hx => ?_⟩
 obtain ⟨a, b, h1, h2⟩ := h.all x hx
 obtain ⟨i, hi, _, rfl, rfl⟩ := (hA _ _ _).2 h1
 exact ⟨i, hi, h2⟩
theorem PCh_same {p : R3 → Prop} {rs2 : List R3} (hl : rs2.length = rs.length) : ∀ {i : Int} {l : List Int}, PCh p rs i l → (∀ x ∈ l, Ty.at t3 rs2 x.toNat = Ty.at t3 rs x.toNat) → PCh p rs2 i l
 | _, [], h, _ => by cases h; exact .nil
 | i, x :: l, h, hs => by
  cases h with
  | cons h1 h2 h3 h4 =>
   have e := hs i List.mem_cons_self
   exact .cons h1 (by omega) (by rw [e]; exact h3) (by rw [e]; exact PCh_same hl h4 fun y hy => hs y (List.mem_cons_of_mem _ hy))
theorem at_of {rs2 : List R3} {x : Int} (h1 : ky rs2 x = ky rs x) (h2 : tk rs2 x = tk rs x) (h3 : nx rs2 x = nx rs x) : Ty.at t3 rs2 x.toNat = Ty.at t3 rs x.toNat := Prod.ext h1 (Prod.ext h2 h3)
theorem pushed_rec {h t : Int} {fr' l : List Int} (g : QOK rs free h t (free :: fr') l) (k d : Int) (fr : Bool) {rs2 : List R3} {e h2 t2 : Int} (hp : pushed rs free h t k d fr = ((rs2, e), (h2, t2), 0)) :
  rs2.length = rs.length ∧ (∀ x : Int, 0 ≤ x → ky rs2 x = if x = free then k else ky rs x) ∧ (∀ x : Int, 0 ≤ x → tk rs2 x = if x = free then d else tk rs x) ∧ ∀ x : Int, 0 ≤ x → x ≠ free → x ∉ l → nx rs2 x = nx rs x := by
 have hf : free ≠ -1 := by cases g.a.ch; omega
 have hfr := g.a.free_rng.resolve_left hf
 unfold pushed at hp
 have one : ∀ w : Int, ((rs.set free.toNat (k, d, w)).length = rs.length) ∧ (∀ x : Int, 0 ≤ x → ky (rs.set free.toNat (k, d, w)) x = if x = free then k else ky rs x) ∧ (∀ x : Int, 0 ≤ x → tk (rs.set free.toNat (k, d, w)) x = if x = free then d else tk rs x) ∧ ∀ x : Int, 0 ≤ x → x ≠ free → x ∉ l → nx (rs.set free.toNat (k, d, w)) x = nx rs x := fun w =>
  ⟨by simp, fun x hx => by rw [ky_upd hfr.1 hfr.2.1 hx], fun x hx => by rw [tk_upd hfr.1 hfr.2.1 hx], fun x hx hne _ => by rw [nx_upd hfr.1 hfr.2.1 hx, if_neg hne]⟩
 by_cases hh : h = -1
 ·simp only [hh, decide_true, cond_true, Prod.mk.injEq] at hp
  rw [← hp.1.1]; exact one _
 ·simp only [hh, decide_false, cond_false] at hp
  cases fr with
  | true =>
   simp only [cond_true, Prod.mk.injEq] at hp
   rw [← hp.1.1]; exact one _
  | false =>
   simp only [cond_false, Prod.mk.injEq] at hp
   rw [← hp.1.1]
   obtain ⟨o1, o2, o3, o4⟩ := one (-1)
   have hlt : t ∈ l := by
    rcases g.ends with ⟨_, e, _⟩ | ⟨_, _, _, e⟩
    ·exact absurd e hh
    ·exact e
   have hlv := g.live hlt
   have htf : t ≠ free := fun e => by have := hlv.2.2; rw [e, hfr.2.2.1] at this; omega
   have ht1 : t < (rs.set free.toNat (k, d, -1)).length := by simpa using hlv.2.1
   refine ⟨by simp, fun x hx => ?_, fun x hx => ?_, fun x hx hne hxl => ?_⟩
   ·rw [ky_upd hlv.1 ht1 hx]
    split
    ·rename_i e; rw [e, if_neg htf]
    ·exact o2 x hx
   ·rw [tk_upd hlv.1 ht1 hx]
    split
    ·rename_i e; rw [e, if_neg htf]
    ·exact o3 x hx
   ·rw [nx_upd hlv.1 ht1 hx, if_neg (fun (e : x = t) => hxl (e ▸ hlt))]
    exact o4 x hx hne hxl
theorem AS.push {A : Int → Int → Int → Prop} {f' l : List Int} {h t k d : Int} (hs : AS rs free (free :: f') A) (g : QOK rs free h t (free :: f') l)
  (hA : (A k h t ∧ PL rs free h t = l ∧ ∀ x y, A k x y → x = h ∧ y = t) ∨ (l = [] ∧ ∀ x y, ¬ A k x y)) (hk : 0 ≤ k) (hd : 0 ≤ d) (hnew : ∀ x, LV rs x → tk rs x ≠ d) (fr : Bool) :
  ∃ rs2 h2 t2, pushed rs free h t k d fr = ((rs2, nx rs free), (h2, t2), 0) ∧ AS rs2 (nx rs free) f' (fun k' x y => (k' = k ∧ x = h2 ∧ y = t2) ∨ (k' ≠ k ∧ A k' x y)) ∧ QOK rs2 (nx rs free) h2 t2 f' (bif fr then free :: l else l ++ [free]) ∧
   rs2.length = rs.length ∧ h2 ≠ -1 ∧ (∀ x : Int, 0 ≤ x → tk rs2 x = if x = free then d else tk rs x) ∧ (∀ x : Int, 0 ≤ x → ky rs2 x = if x = free then k else ky rs x) ∧ (∀ k' x y, k' ≠ k → A k' x y → PL rs2 (nx rs free) x y = PL rs free x y) ∧ (0 ≤ free ∧ free < rs.length ∧ ky rs free = -1) ∧
   (fr = true → rs2.set free.toNat (-1, -1, nx rs free) = rs ∧ nx rs2 free = h ∧ h2 = free ∧ t2 = (free :: l).getLastD (-1) ∧ ¬ Held rs2 free) := by
 obtain ⟨rs2, h2, t2, p1, p2, p3, p4, p5⟩ := g.after hk hd fr
 obtain ⟨r1, r2, r3, r4⟩ := pushed_rec g k d fr p1
 have hf : free ≠ -1 := by cases g.a.ch; omega
 have hfr := g.a.free_rng.resolve_left hf
 have hkl : ∀ x ∈ l, ky rs x = k := by
  rcases hA with ⟨h1, h2, _⟩ | ⟨h1, _⟩
  ·intro x hx; rw [← h2] at hx; exact (hs.q k h t h1).2.2 x hx
  ·rw [h1]; intro x hx; cases hx
 have hmem : ∀ x, x ∈ (bif fr then free :: l else l ++ [free]) ↔ x = free ∨ x ∈ l := fun x => by cases fr <;> simp [or_comm]
 have hlive : ∀ x, LV rs2 x ↔ x = free ∨ LV rs x := fun x => by
  constructor
  ·rintro ⟨x0, x1, x2⟩
   rw [r2 x x0] at x2
   by_cases e : x = free
   ·exact .inl e
   ·rw [if_neg e] at x2; exact .inr ⟨x0, by omega, x2⟩
  ·rintro (rfl | ⟨x0, x1, x2⟩)
   ·exact ⟨hfr.1, by omega, by rw [r2 x hfr.1, if_pos rfl]; exact hk⟩
   ·exact ⟨x0, by omega, by rw [r2 x x0]; split; exact hk; exact x2⟩
 have hnf : ∀ x, LV rs x → x ≠ free := fun x hx e => by have := hx.2.2; rw [e, hfr.2.2.1] at this; omega
 have hoth : ∀ k' x y, k' ≠ k → A k' x y → QOK rs2 (nx rs free) x y f' (PL rs free x y) := fun k' x y hne h => by
  obtain ⟨q1, q2, q3⟩ := hs.q k' x y h
  refine ⟨p2.a, PCh_same r1 q2.q fun z hz => ?_, q2.t⟩
  have hz0 := PL_live hs.a z hz
  have hzf := hnf z hz0
  have hzl : z ∉ l := fun hzl => hne (by rw [← q3 z hz, hkl z hzl])
  exact at_of (by rw [r2 z hz0.1, if_neg hzf]) (by rw [r3 z hz0.1, if_neg hzf]) (r4 z hz0.1 hzf hzl)
 have hPL2 : PL rs2 (nx rs free) h2 t2 = (bif fr then free :: l else l ++ [free]) := PL_of p2
 refine ⟨rs2, h2, t2, p1, ⟨p2.a, ?_, ?_, ?_⟩, p2, r1, ?_, r3, r2, fun k' x y hne h => PL_of (hoth k' x y hne h), ⟨hfr.1, hfr.2.1, hfr.2.2.1⟩, p5⟩
 ·rintro k' x y (⟨rfl, rfl, rfl⟩ | ⟨hne, h⟩)
  ·rw [hPL2]
   refine ⟨by cases fr <;> simp, p2, fun z hz => ?_⟩
   rcases (hmem z).1 hz with rfl | hz
   ·rw [r2 z hfr.1, if_pos rfl]
   ·have hz0 := g.live hz
    rw [r2 z hz0.1, if_neg (hnf z hz0)]; exact hkl z hz
  ·have hq := hoth k' x y hne h
   rw [PL_of hq]
   obtain ⟨q1, q2, q3⟩ := hs.q k' x y h
   refine ⟨q1, hq, fun z hz => ?_⟩
   have hz0 := PL_live hs.a z hz
   rw [r2 z hz0.1, if_neg (hnf z hz0)]; exact q3 z hz
 ·intro x y hx hy e
  rw [r3 x hx.1, r3 y hy.1] at e
  rcases (hlive x).1 hx with rfl | hx' <;> rcases (hlive y).1 hy with rfl | hy'
  ·rfl
  ·rw [if_pos rfl, if_neg (hnf y hy')] at e; exact absurd e.symm (hnew y hy')
  ·rw [if_pos rfl, if_neg (hnf x hx')] at e; exact absurd e (hnew x hx')
  ·rw [if_neg (hnf x hx'), if_neg (hnf y hy')] at e; exact hs.u x y hx' hy' e
 ·intro x hx
  rw [r2 x hx.1]
  rcases (hlive x).1 hx with rfl | hx'
  ·rw [if_pos rfl]
   exact ⟨h2, t2, .inl ⟨rfl, rfl, rfl⟩, by rw [hPL2, hmem]; exact .inl rfl⟩
  ·rw [if_neg (hnf x hx')]
   obtain ⟨a, b, h1, h3⟩ := hs.all x hx'
   by_cases e : ky rs x = k
   ·refine ⟨h2, t2, .inl ⟨e, rfl, rfl⟩, ?_⟩
    rw [hPL2, hmem]
    right
    rcases hA with ⟨_, e2, e3⟩ | ⟨_, e3⟩
    ·obtain ⟨rfl, rfl⟩ := e3 a b (e ▸ h1)
     rw [← e2]; exact h3
    ·exact absurd (e ▸ h1) (e3 a b)
   ·refine ⟨a, b, .inr ⟨e, h1⟩, ?_⟩
    rw [PL_of (hoth _ a b e h1)]; exact h3
 ·intro e
  rcases p2.ends with ⟨e1, _, _⟩ | ⟨_, e2, _⟩
  ·have := (hmem free).2 (.inl rfl)
   rw [e1] at this; cases this
  ·exact e2 e
end
end Go.AX.Sm
end
section
namespace Go.AX.Sm
open Go Go.AX
section
variable {rs : List R3} {free : Int} {N : List Nd} {r f : Int} {fa : List Int} {F : List Nat} {T : Tr.TT}
end
end Go.AX.Sm
end
section
namespace Go.AX.Sm
open Go Go.AX
section
variable {rs : List R3} {free : Int} {N : List Nd} {r f : Int} {fa : List Int} {F : List Nat} {T : Tr.TT}
theorem hup_hup {x : Nd} {a b c d : Int} : hup (hup x a b) c d = hup x c d := rfl
structure Kd (rs : List R3) (free : Int) (N : List Nd) (r f : Int) (fa : List Int) (T : Tr.TT) (key : Int) (M : List Nd) (s g : Int) (i : Nat) (F G : List Nat) (S : Tr.TT) (a b : Int) (l : List Int) : Prop where
 t : Tr.Ok M s g G S
 mi : i ∈ Tr.pl S
 k : Tr.ky (Tr.nn M i) = key
 qh : Tr.qh (Tr.nn M i) = a
 qt : Tr.qt (Tr.nn M i) = b
 len : M.length = N.length
 q : QOK rs free a b fa l
 o : (TM N T key a b ∧ PL rs free a b = l ∧ ∀ x y, TM N T key x y → x = a ∧ y = b) ∨ (l = [] ∧ ∀ x y, ¬ TM N T key x y)
 tm : ∀ k x y, k ≠ key → (TM M S k x y ↔ TM N T k x y)
 fl : F.length ≤ G.length + 1
theorem kd_old (h : SOK rs free N r f fa F T) {i : Nat} (hi : i ∈ Tr.pl T) {key : Int} (hk : Tr.ky (Tr.nn N i) = key) :
  Kd rs free N r f fa T key N r f i F F T (Tr.qh (Tr.nn N i)) (Tr.qt (Tr.nn N i)) (NP rs free (Tr.nn N i)) := by
 have hq := h.q i hi
 have hi2 := ((h.t.mem i).1 hi).1
 refine ⟨h.t, hi, hk, rfl, rfl, rfl, hq.2.1, .inl ⟨⟨i, hi, hk, rfl, rfl⟩, rfl, fun x y hxy => TM.det h.t hxy ⟨i, hi, hk, rfl, rfl⟩⟩, fun k x y _ => Iff.rfl, by omega⟩
theorem kd_new (h : SOK rs free N r f fa F T) {key prio : Int} (hk : 0 ≤ key) (hno : ∀ x ∈ Tr.pl T, Tr.ky (Tr.nn N x) ≠ key) (hf : f ≠ -1) :
  ∃ M s g i G S, Kd rs free N r f fa T key M s g i F G S (-1) (-1) [] ∧ treap_Insert ((N, r, f), key, prio) = some ((M, s, g), (i : Int), 0) := by
 obtain ⟨M, s, g, i, G, S, a1, a3, a4, a5, ⟨b1, b2, b3, b4⟩, a6⟩ := insert_tm (prio := prio) h.t hk hno hf
 have hi2 := ((a3.mem i).1 b1).1
 refine ⟨M, s, g, i, G, S, ⟨a3, b1, b2, b3, b4, a4, empty_q h.a, .inr ⟨rfl, fun x y ⟨j, hj, e, _⟩ => hno j hj e⟩, fun k x y hne => ?_, by rw [a5]; simp⟩, a1⟩
 ·rw [a6]
  exact ⟨fun h => h.resolve_left fun h => hne h.1, .inr⟩
structure Pk (rs : List R3) (free : Int) (N : List Nd) (r f : Int) (fa : List Int) (F : List Nat) (T : Tr.TT) (key task : Int) (fr : Bool) (M : List Nd) (s g : Int) (i : Nat) (G : List Nat) (S : Tr.TT) (a b : Int) (l : List Int) (rs2 : List R3) (h2 t2 : Int) (f' : List Int) : Prop where
 kd : Kd rs free N r f fa T key M s g i F G S a b l
 efa : fa = free :: f'
 ok : SOK rs2 (nx rs free) (M.set i (hup (Tr.nn M i) h2 t2)) s g f' G S
 tm : ∀ k x y, TM (M.set i (hup (Tr.nn M i) h2 t2)) S k x y ↔ (k = key ∧ x = h2 ∧ y = t2) ∨ (k ≠ key ∧ TM N T k x y)
 q : QOK rs2 (nx rs free) h2 t2 f' (bif fr then free :: l else l ++ [free])
 len : rs2.length = rs.length
 tk : ∀ x : Int, 0 ≤ x → tk rs2 x = if x = free then task else Go.AX.tk rs x
 ky : ∀ x : Int, 0 ≤ x → ky rs2 x = if x = free then key else Go.AX.ky rs x
 oth : ∀ k' x y, k' ≠ key → TM N T k' x y → PL rs2 (nx rs free) x y = PL rs free x y
 fr0 : 0 ≤ free ∧ free < rs.length ∧ Go.AX.ky rs free = -1
 front : fr = true → rs2.set free.toNat (-1, -1, nx rs free) = rs ∧ nx rs2 free = a ∧ h2 = free ∧ t2 = (free :: l).getLastD (-1) ∧ ¬ Held rs2 free
theorem park_ok (h : SOK rs free N r f fa F T) {key task : Int} (hk : 0 ≤ key) (ht : 0 ≤ task) (hnew : ∀ x, LV rs x → tk rs x ≠ task) (hf : free ≠ -1) (fr : Bool) {M : List Nd} {s g : Int} {i : Nat} {G : List Nat} {S : Tr.TT} {a b : Int} {l : List Int}
  (kd : Kd rs free N r f fa T key M s g i F G S a b l) : ∃ rs2 h2 t2 f', pushed rs free a b key task fr = ((rs2, nx rs free), (h2, t2), 0) ∧ h2 ≠ -1 ∧ Pk rs free N r f fa F T key task fr M s g i G S a b l rs2 h2 t2 f' := by
 obtain ⟨f', e⟩ : ∃ f', fa = free :: f' := by
  have hc := h.a.ch
  cases fa with
  | nil => cases hc; exact absurd rfl hf
  | cons z f' => exact ⟨f', by cases hc; rfl⟩
 subst e
 obtain ⟨rs2, h2, t2, p1, p2, p3, p4, p5, p6, p7, p8, p9, p10⟩ := h.as.push kd.q kd.o hk ht hnew fr
 obtain ⟨g1, g3, g4⟩ := hang_ok kd.t kd.mi (a := h2) (b := t2) kd.k
 have hTM : ∀ k x y, TM (M.set i (hup (Tr.nn M i) h2 t2)) S k x y ↔ (k = key ∧ x = h2 ∧ y = t2) ∨ (k ≠ key ∧ TM N T k x y) := fun k x y => by
  rw [g4]
  constructor
  ·rintro (c | ⟨c1, c2⟩)
   ·exact .inl c
   ·exact .inr ⟨c1, (kd.tm k x y c1).1 c2⟩
  ·rintro (c | ⟨c1, c2⟩)
   ·exact .inl c
   ·exact .inr ⟨c1, (kd.tm k x y c1).2 c2⟩
 exact ⟨rs2, h2, t2, f', p1, p5, kd, rfl, p2.sok g3 hTM, hTM, p3, p4, p6, p7, p8, p9, p10⟩
def ParkNo (rs : List R3) (free : Int) (N : List Nd) (f : Int) (T : Tr.TT) (key task e : Int) : Prop :=
 (e = 1 ∧ (key < 0 ∨ task < 0)) ∨ (e = 8 ∧ ∃ x, LV rs x ∧ tk rs x = task) ∨ (e = 6 ∧ (∀ x, LV rs x → tk rs x ≠ task) ∧ (free = -1 ∨ (f = -1 ∧ ∀ i ∈ Tr.pl T, Tr.ky (Tr.nn N i) ≠ key)))
end
end Go.AX.Sm
end
section
namespace Go.AX.Sm
open Go Go.AX
set_option synthInstance.maxSize 4000 in
theorem aMake_eq : ∀ n : Nat, n < 65 → (match arena_Make (n : Int) with | some x => Nat.ble x.2.length 64 | none => false) = true ∧ arena_Make (n : Int) = rf7_Make (n : Int) := by decide +kernel
theorem Same10 {rs rs' : List R3} {free free' : Int} {N N' : List Nd} {r f r' f' : Int} (hl : rs.length ≤ 1000000) (hN : N.length ≤ 1000000) : rg0_Same ((rs, free, N, r, f), rs', free', N', r', f') = some (decide ((rs = rs' ∧ free = free') ∧ N = N' ∧ r = r' ∧ f = f')) := by
 unfold rg0_Same rg0_Same_g
 dsimp only
 rw [Go.AX.Same_eq _ _ _ _ hl, Tr.Same_eq _ _ _ _ _ _ hN]
 simp only [cq1]
 by_cases h : rs = rs' ∧ free = free'
 ·rw [if_pos h]
  congr 1
  exact decide_eq_decide.2 ⟨fun g => ⟨h, g⟩, fun g => g.2⟩
 ·rw [if_neg h, decide_eq_false (fun g => h g.1)]
theorem Great10 {rs : List R3} {free : Int} {N : List Nd} {r f : Int} : rg0_Great (rs, free, N, r, f) = some (decide (30 < rs.length ∨ 30 < N.length)) := by
 unfold rg0_Great rg0_Great_g
 simp only [cq1]
 by_cases h : (30 : Int) < rs.length
 ·rw [if_neg (fun g => g h), decide_eq_true (.inl (by omega))]
 ·rw [if_pos h]
  congr 1
  exact decide_eq_decide.2 ⟨fun g => .inr (by omega), fun g => by omega⟩
theorem al10 : torporlaw10_alive () = some true := by decide +kernel
end Go.AX.Sm
end
section
namespace Go.AX.Sm
open Go Go.AX
def RowIs (rs : List R3) (free : Int) (N : List Nd) (T : Tr.TT) (k : Int) (L : List Int) : Prop := (∃ h t, TM N T k h t ∧ L = (PL rs free h t).map (tk rs)) ∨ (L = [] ∧ ∀ h t, ¬ TM N T k h t)
def upd (R : Int → List Int) (k : Int) (L : List Int) : Int → List Int := fun j => if j = k then L else R j
structure RJ (rs : List R3) (free : Int) (N : List Nd) (r f : Int) (fa : List Int) (F : List Nat) (T : Tr.TT) (size : Nat) (w : Int) (R : Int → List Int) : Prop where
 ok : SOK rs free N r f fa F T
 l1 : rs.length = size
 l2 : N.length = size
 cnt : (fa.length : Int) + w = size
 row : ∀ k, RowIs rs free N T k (R k)
 rng : ∀ k h t, TM N T k h t → 0 ≤ k ∧ k < 5
def RI (t : TAB) (size : Nat) (w : Int) (R : Int → List Int) : Prop := ∃ fa F T, RJ t.1 t.2.1 t.2.2.1 t.2.2.2.1 t.2.2.2.2 fa F T size w R
section
variable {rs : List R3} {free : Int} {N : List Nd} {r f : Int} {fa : List Int} {F : List Nat} {T : Tr.TT} {size : Nat} {w : Int} {R : Int → List Int}
end
end Go.AX.Sm
end
section
namespace Go.AX.Sm
open Go Go.AX
def rowR (k : Int) : Nat → List Int → List R3
 | _, [] => []
 | p, [t] => [(k, t, -1)]
 | p, t :: u :: r => (k, t, ((p + 1 : Nat) : Int)) :: rowR k (p + 1) (u :: r)
def restR : Nat → Nat → List R3
 | _, 0 => []
 | p, m + 1 => (-1, -1, if m = 0 then -1 else ((p + 1 : Nat) : Int)) :: restR (p + 1) m
def frI (p m : Nat) : Int := if m = 0 then -1 else (p : Int)
theorem rowR_len {k : Int} : ∀ {p : Nat} {l : List Int}, (rowR k p l).length = l.length
 | _, [] => rfl
 | _, [t] => rfl
 | p, t :: u :: r => by rw [rowR, List.length_cons, rowR_len]; rfl
theorem restR_len : ∀ {p m : Nat}, (restR p m).length = m
 | _, 0 => rfl
 | p, m + 1 => by rw [restR, List.length_cons, restR_len]
theorem rowR_snoc {k t : Int} : ∀ {p : Nat} {l : List Int}, l ≠ [] → rowR k p (l ++ [t]) = (rowR k p l).set (l.length - 1) (k, l.getLastD (-1), ((p + l.length : Nat) : Int)) ++ [(k, t, -1)]
 | p, [], h => absurd rfl h
 | p, [a], _ => by simp [rowR]
 | p, a :: b :: r, _ => by
  have ih := rowR_snoc (k := k) (t := t) (p := p + 1) (l := b :: r) (by simp)
  show (k, a, _) :: rowR k (p + 1) ((b :: r) ++ [t]) = _
  rw [ih]
  have e1 : (a :: b :: r).length - 1 = (b :: r).length - 1 + 1 := by simp
  have e2 : (a :: b :: r).getLastD (-1) = (b :: r).getLastD (-1) := by simp [List.getLastD_cons]
  have e3 : p + (a :: b :: r).length = p + 1 + (b :: r).length := by simp only [List.length_cons]; omega
  rw [rowR, e1, e2, e3, List.set_cons_succ, List.cons_append]
theorem set_app_here {α : Type} {X Y : List α} {a b : α} {n : Nat} (h : n = X.length) : (X ++ a :: Y).set n b = X ++ b :: Y := by
 subst h
 rw [List.set_append_right _ _ (Nat.le_refl _), Nat.sub_self]; rfl
theorem set_app_left {α : Type} {X Y : List α} {b : α} {n : Nat} (h : n < X.length) : (X ++ Y).set n b = X.set n b ++ Y := List.set_append_left _ _ h
theorem at_app_here {X Y : List R3} {a : R3} {n : Nat} (h : n = X.length) : Ty.at t3 (X ++ a :: Y) n = a := by
 subst h
 rw [at_get (by simp)]
 simp
theorem push_first {X : List R3} {p m : Nat} (hp : p = X.length) {k t : Int} : pushed (X ++ restR p (m + 1)) (frI p (m + 1)) (-1) (-1) k t false = ((X ++ rowR k p [t] ++ restR (p + 1) m, frI (p + 1) m), ((p : Int), (p : Int)), 0) := by
 unfold pushed
 have hf : frI p (m + 1) = (p : Int) := if_neg (by omega)
 rw [decide_eq_true rfl, cond_true, hf, Int.toNat_natCast, restR, set_app_here hp]
 have hn : nx (X ++ (-1, -1, if m = 0 then -1 else ((p + 1 : Nat) : Int)) :: restR (p + 1) m) (p : Int) = frI (p + 1) m := by
  unfold nx
  rw [Int.toNat_natCast, at_app_here hp]
  rfl
 rw [hn]
 rw [show X ++ (k, t, -1) :: restR (p + 1) m = X ++ rowR k p [t] ++ restR (p + 1) m by simp [rowR]]
theorem push_more {X : List R3} {p m : Nat} {l : List Int} (hp : p = X.length) (hl : l ≠ []) {k t : Int} {h : Int} (hh : h ≠ -1) :
  pushed (X ++ rowR k p l ++ restR (p + l.length) (m + 1)) (frI (p + l.length) (m + 1)) h ((p + l.length - 1 : Nat) : Int) k t false = ((X ++ rowR k p (l ++ [t]) ++ restR (p + l.length + 1) m, frI (p + l.length + 1) m), (h, ((p + l.length : Nat) : Int)), 0) := by
 have hpos : 0 < l.length := List.length_pos_iff.2 hl
 have hq : p + l.length = (X ++ rowR k p l).length := by rw [List.length_append, rowR_len]; omega
 unfold pushed
 have hf : frI (p + l.length) (m + 1) = ((p + l.length : Nat) : Int) := if_neg (by omega)
 rw [decide_eq_false hh, cond_false, cond_false, hf, Int.toNat_natCast, Int.toNat_natCast, restR, set_app_here hq]
 have hn : nx (X ++ rowR k p l ++ (-1, -1, if m = 0 then -1 else ((p + l.length + 1 : Nat) : Int)) :: restR (p + l.length + 1) m) ((p + l.length : Nat) : Int) = frI (p + l.length + 1) m := by
  unfold nx
  rw [Int.toNat_natCast, at_app_here hq]
  rfl
 rw [hn]
 have hsp : ∃ Z d, rowR k p l = Z ++ [(k, d, -1)] ∧ Z.length = l.length - 1 ∧ d = l.getLastD (-1) := by
  clear hn hf hq hp
  induction l generalizing p with
  | nil => exact absurd rfl hl
  | cons a r ih =>
   cases r with
   | nil => exact ⟨[], a, rfl, rfl, rfl⟩
   | cons b r =>
    obtain ⟨Z, d, e1, e2, e3⟩ := ih (p := p + 1) (by simp) (by simp)
    refine ⟨(k, a, ((p + 1 : Nat) : Int)) :: Z, d, by rw [rowR, e1]; rfl, by simp [e2], ?_⟩
    rw [e3]; simp [List.getLastD_cons]
 obtain ⟨Z, d, e1, e2, e3⟩ := hsp
 have hat : ∀ R : List R3, Ty.at t3 (X ++ rowR k p l ++ R) (p + l.length - 1) = (k, d, -1) := fun R => by
  rw [e1, show X ++ (Z ++ [(k, d, -1)]) ++ R = (X ++ Z) ++ (k, d, -1) :: R by simp]
  exact at_app_here (by rw [List.length_append, e2]; omega)
 have hky : ∀ R : List R3, ky (X ++ rowR k p l ++ R) ((p + l.length - 1 : Nat) : Int) = k := fun R => by
  unfold ky; rw [Int.toNat_natCast, hat]
 have htk : ∀ R : List R3, tk (X ++ rowR k p l ++ R) ((p + l.length - 1 : Nat) : Int) = d := fun R => by
  unfold tk; rw [Int.toNat_natCast, hat]
 rw [hky, htk, rowR_snoc hl, e3, set_app_left (by rw [List.length_append, rowR_len]; omega), List.set_append_right _ _ (by omega)]
 have e4 : p + l.length - 1 - X.length = l.length - 1 := by omega
 rw [e4]
 simp
end Go.AX.Sm
end
section
namespace Go.AX.Sm
open Go Go.AX
abbrev DD := Int × Int × List Int
def tot : List DD → Nat
 | [] => 0
 | d :: D => d.2.2.length + tot D
def arr : Nat → List DD → List R3
 | _, [] => []
 | p, d :: D => rowR d.1 p d.2.2 ++ arr (p + d.2.2.length) D
theorem arr_len : ∀ {p : Nat} {D : List DD}, (arr p D).length = tot D
 | _, [] => rfl
 | p, d :: D => by rw [arr, List.length_append, rowR_len, arr_len]; rfl
theorem tot_app {D E : List DD} : tot (D ++ E) = tot D + tot E := by
 induction D with
 | nil => simp [tot]
 | cons d D ih => rw [List.cons_append, tot, tot, ih]; omega
theorem arr_app : ∀ {p : Nat} {D E : List DD}, arr p (D ++ E) = arr p D ++ arr (p + tot D) E
 | _, [], E => by simp [arr, tot]
 | p, d :: D, E => by
  rw [List.cons_append, arr, arr, arr_app, tot, List.append_assoc, Nat.add_assoc]
def tsk : List DD → List Int
 | [] => []
 | d :: D => d.2.2 ++ tsk D
theorem tsk_app {D E : List DD} : tsk (D ++ E) = tsk D ++ tsk E := by
 induction D with
 | nil => rfl
 | cons d D ih => rw [List.cons_append, tsk, tsk, ih, List.append_assoc]
structure IN (X : List R3) (p n : Nat) (k : Int) (TS : List Int) (M : List Nd) (s g : Int) (i : Nat) (G : List Nat) (S : Tr.TT) (l : List Int) (rs : List R3) (free h t : Int) (fa : List Int) : Prop where
 ok : SOK rs free (M.set i (hup (Tr.nn M i) h t)) s g fa G S
 mi : i ∈ Tr.pl S
 kk : Tr.ky (Tr.nn M i) = k
 ne : l ≠ []
 le : p + l.length ≤ n
 ers : rs = X ++ rowR k p l ++ restR (p + l.length) (n - (p + l.length))
 efr : free = frI (p + l.length) (n - (p + l.length))
 eh : h = (p : Int)
 et : t = ((p + l.length - 1 : Nat) : Int)
 lt : ∀ x, LV rs x → tk rs x ∈ TS ++ l
 tm : ∀ k' x y, TM (M.set i (hup (Tr.nn M i) h t)) S k' x y → k' = k ∨ TM M S k' x y
section
variable {rs : List R3} {free : Int} {N : List Nd} {r f : Int} {fa : List Int} {F : List Nat} {T : Tr.TT}
theorem ins_nodes (h : Tr.Ok N r f F T) {key prio : Int} (hk : 0 ≤ key) (hno : ∀ x ∈ Tr.pl T, Tr.ky (Tr.nn N x) ≠ key) (hf : f ≠ -1) :
  ∃ (M : List Nd) (s : Int) (i : Nat), treap_Insert ((N, r, f), key, prio) = some ((M, s, Tr.lf (Tr.nn N i)), (i : Int), 0) ∧ f = (i : Int) ∧ i < N.length ∧ (∀ j, j ≠ i → Tr.sameN (Tr.nn M j) (Tr.nn N j)) ∧ Tr.sameN (Tr.nn M i) (key, prio, -1, -1, -1, -1) ∧ ∀ j, j ≠ i → j ∉ Tr.pl T → Tr.nn M j = Tr.nn N j := by
 obtain ⟨i, F', g1, g2, hi, g3, g4, g5, g6⟩ := Tr.Insert_ok (prio := prio) h hk hno hf
 have hpl := Tr.ins_pl (N := N.set i (key, prio, -1, -1, -1, -1)) (i := i) (T := T)
 have hi1 : Tr.nn (N.set i (key, prio, -1, -1, -1, -1)) i = (key, prio, -1, -1, -1, -1) := by rw [Tr.nn_set, if_pos ⟨rfl, hi⟩]
 have hsm : ∀ j, Tr.sameN (Tr.nn (Tr.insN (N.set i (key, prio, -1, -1, -1, -1)) i T) j) (Tr.nn (N.set i (key, prio, -1, -1, -1, -1)) j) := fun j => by rw [g4]; exact Tr.wr_same
 refine ⟨_, _, i, g6, g1, hi, fun j hj => ?_, ?_, fun j hj hjT => ?_⟩
 ·have := hsm j
  rwa [Tr.nn_set, if_neg (fun e => hj e.1.symm)] at this
 ·have := hsm i
  rwa [hi1] at this
 ·rw [g4, Tr.wr_out (fun hx => by
   rcases List.mem_cons.1 (hpl.mem_iff.1 hx) with e | e
   ·exact hj e
   ·exact hjT e), Tr.nn_set, if_neg (fun e => hj e.1.symm)]
theorem IN.first {X : List R3} {p n : Nat} {TS : List Int} (h : SOK rs free N r f fa F T) (hp : p = X.length) (hpn : p < n) (hrs : rs = X ++ restR p (n - p)) (hfr : free = frI p (n - p)) (hlt : ∀ x, LV rs x → tk rs x ∈ TS) {key task : Int} (hk : 0 ≤ key) (ht : 0 ≤ task) (hnew : task ∉ TS)
  {M : List Nd} {s g : Int} {i : Nat} {G : List Nat} {S : Tr.TT} (kd : Kd rs free N r f fa T key M s g i F G S (-1) (-1) []) :
  ∃ rs2 free2 fa2, queue_Push ((rs, free), (-1, -1), key, task, false) = some ((rs2, free2), ((p : Int), (p : Int)), 0) ∧ IN X p n key TS M s g i G S [task] rs2 free2 (p : Int) (p : Int) fa2 := by
 obtain ⟨m, hm⟩ : ∃ m, n - p = m + 1 := ⟨n - p - 1, by omega⟩
 rw [hm] at hrs hfr
 have hf : free ≠ -1 := by rw [hfr]; unfold frI; rw [if_neg (by omega)]; omega
 obtain ⟨rs2, h2, t2, f', p1, p2, pk⟩ := park_ok h hk ht (fun x hx e => hnew (e ▸ hlt x hx)) hf false kd
 have hq := kd.q.push hk ht hf false
 have hpf := push_first (m := m) hp (k := key) (t := task)
 rw [← hrs, ← hfr] at hpf
 rw [hpf] at hq p1
 simp only [Prod.mk.injEq, and_true] at p1
 obtain ⟨⟨q1, q2⟩, q3, q4⟩ := p1
 subst q3
 subst q4
 refine ⟨_, _, f', hq, ?_⟩
 have hok := pk.ok
 rw [← q1, ← q2] at hok
 have hm2 : n - (p + 1) = m := by omega
 refine ⟨hok, kd.mi, kd.k, by simp, by simp; omega, ?_, ?_, rfl, ?_, fun x hx => ?_, fun k' x y hxy => ?_⟩
 ·simp only [List.length_cons, List.length_nil, Nat.zero_add, hm2]
 ·simp only [List.length_cons, List.length_nil, Nat.zero_add, hm2]
 ·simp
 ·rw [q1] at hx ⊢
  have h1 := pk.tk x hx.1
  have h2 := pk.ky x hx.1
  rw [h1]
  by_cases e : x = free
  ·rw [if_pos e]; simp
  ·rw [if_neg e]
   refine List.mem_append_left _ (hlt x ⟨hx.1, by have := hx.2.1; rw [pk.len] at this; exact this, ?_⟩)
   have := hx.2.2
   rw [h2, if_neg e] at this
   exact this
 ·rcases (pk.tm k' x y).1 hxy with ⟨e, _⟩ | ⟨e, e2⟩
  ·exact .inl e
  ·exact .inr ((kd.tm k' x y e).2 e2)
theorem IN.more {X : List R3} {p n : Nat} {k : Int} {TS : List Int} {M : List Nd} {s g : Int} {i : Nat} {G : List Nat} {S : Tr.TT} {l : List Int} {h t : Int} (hX : p = X.length) (hM : Tr.Ok M s g G S) (a : IN X p n k TS M s g i G S l rs free h t fa) (hk : 0 ≤ k) {task : Int} (ht : 0 ≤ task) (hnew : task ∉ TS ++ l) (hle : p + l.length < n) :
  ∃ rs2 free2 t2 fa2, queue_Push ((rs, free), (h, t), k, task, false) = some ((rs2, free2), (h, t2), 0) ∧ IN X p n k TS M s g i G S (l ++ [task]) rs2 free2 h t2 fa2 := by
 obtain ⟨m, hm⟩ : ∃ m, n - (p + l.length) = m + 1 := ⟨n - (p + l.length) - 1, by omega⟩
 have hi2 := ((hM.mem i).1 a.mi).1
 have hnn : Tr.nn (M.set i (hup (Tr.nn M i) h t)) i = hup (Tr.nn M i) h t := by rw [Tr.nn_set, if_pos ⟨rfl, hi2⟩]
 have kd := kd_old a.ok a.mi (key := k) (by rw [hnn]; exact a.kk)
 have e1 : Tr.qh (Tr.nn (M.set i (hup (Tr.nn M i) h t)) i) = h := by rw [hnn]; rfl
 have e2 : Tr.qt (Tr.nn (M.set i (hup (Tr.nn M i) h t)) i) = t := by rw [hnn]; rfl
 rw [e1, e2] at kd
 have hf : free ≠ -1 := by rw [a.efr, hm]; unfold frI; rw [if_neg (by omega)]; omega
 obtain ⟨rs2, h2, t2, f', p1, p2, pk⟩ := park_ok a.ok hk ht (fun x hx e => hnew (e ▸ a.lt x hx)) hf false kd
 have hq := kd.q.push hk ht hf false
 have hh : h ≠ -1 := by rw [a.eh]; omega
 have hpf := push_more (m := m) hX a.ne (k := k) (t := task) hh
 have hrs := a.ers
 have hfr := a.efr
 rw [hm] at hrs hfr
 rw [← hrs, ← hfr, ← a.et] at hpf
 rw [hpf] at hq p1
 simp only [Prod.mk.injEq, and_true] at p1
 obtain ⟨⟨q1, q2⟩, q3, q4⟩ := p1
 subst q3
 subst q4
 have hset : (M.set i (hup (Tr.nn M i) h t)).set i (hup (Tr.nn (M.set i (hup (Tr.nn M i) h t)) i) h ((p + l.length : Nat) : Int)) = M.set i (hup (Tr.nn M i) h ((p + l.length : Nat) : Int)) := by
  rw [hnn, hup_hup, List.set_set]
 have hok := pk.ok
 rw [← q1, ← q2, hset] at hok
 have hm2 : n - (p + (l ++ [task]).length) = m := by simp; omega
 refine ⟨_, _, _, f', hq, ⟨hok, a.mi, a.kk, by simp, by simp; omega, ?_, ?_, a.eh, ?_, fun x hx => ?_, fun k' x y hxy => ?_⟩⟩
 ·rw [hm2]
  try simp only [List.length_append, List.length_cons, List.length_nil, Nat.zero_add, Nat.add_assoc]
 ·rw [hm2]
  try simp only [List.length_append, List.length_cons, List.length_nil, Nat.zero_add, Nat.add_assoc]
 ·congr 1; simp
 ·rw [q1] at hx ⊢
  have h1 := pk.tk x hx.1
  have h2 := pk.ky x hx.1
  rw [h1]
  by_cases e : x = free
  ·rw [if_pos e]; simp
  ·rw [if_neg e, ← List.append_assoc]
   refine List.mem_append_left _ (a.lt x ⟨hx.1, by have := hx.2.1; rw [pk.len] at this; exact this, ?_⟩)
   have := hx.2.2
   rw [h2, if_neg e] at this
   exact this
 ·have htm := pk.tm k' x y
  rw [hset] at htm
  rcases htm.1 hxy with ⟨e, _⟩ | ⟨e, e2⟩
  ·exact .inl e
  ·exact a.tm k' x y e2
end
end Go.AX.Sm
end
section
namespace Go.AX.Sm
open Go Go.AX
def NodeIs (x : Nd) (d : DD) (p : Nat) : Prop := Tr.ky x = d.1 ∧ Tr.pri x = d.2.1 ∧ Tr.qh x = (p : Int) ∧ Tr.qt x = ((p + d.2.2.length - 1 : Nat) : Int)
def empN (i m : Nat) : Nd := (-1, 0, frI (i + 1) (m - (i + 1)), -1, -1, -1)
structure PN (n m : Nat) (D : List DD) (rs : List R3) (free : Int) (N : List Nd) (r f : Int) (fa : List Int) (F : List Nat) (T : Tr.TT) : Prop where
 ok : SOK rs free N r f fa F T
 ers : rs = arr 0 D ++ restR (tot D) (n - tot D)
 efr : free = frI (tot D) (n - tot D)
 le : tot D ≤ n
 nl : N.length = m
 dl : D.length ≤ m
 nodes : ∀ A d B, D = A ++ d :: B → NodeIs (Tr.nn N A.length) d (tot A)
 rest : ∀ i, D.length ≤ i → i < m → Tr.nn N i = empN i m
 eff : f = frI D.length (m - D.length)
 lt : ∀ x, LV rs x → tk rs x ∈ tsk D
 keys : ∀ k x y, TM N T k x y → k ∈ D.map (·.1)
section
variable {rs : List R3} {free : Int} {N : List Nd} {r f : Int} {fa : List Int} {F : List Nat} {T : Tr.TT} {n m : Nat} {D : List DD}
structure NK (N M : List Nd) (i m : Nat) (key prio : Int) (T : Tr.TT) : Prop where
 oth : ∀ j, j ≠ i → Tr.sameN (Tr.nn M j) (Tr.nn N j)
 it : Tr.sameN (Tr.nn M i) (key, prio, -1, -1, -1, -1)
 out : ∀ j, j ≠ i → j ∉ Tr.pl T → Tr.nn M j = Tr.nn N j
theorem PN.start (h : PN n m D rs free N r f fa F T) {key prio : Int} (hk : 0 ≤ key) (hnew : key ∉ D.map (·.1)) (hlt : D.length < m) :
  ∃ M s g G S, treap_Insert ((N, r, f), key, prio) = some ((M, s, g), (D.length : Int), 0) ∧ Kd rs free N r f fa T key M s g D.length F G S (-1) (-1) [] ∧ NK N M D.length m key prio T ∧ g = frI (D.length + 1) (m - (D.length + 1)) := by
 have hf : f = (D.length : Int) := by rw [h.eff]; unfold frI; rw [if_neg (by omega)]
 have hno : ∀ x ∈ Tr.pl T, Tr.ky (Tr.nn N x) ≠ key := fun x hx e => hnew (by rw [← e]; exact h.keys _ _ _ ⟨x, hx, rfl, rfl, rfl⟩)
 obtain ⟨M, s, g, i, G, S, kd, hI⟩ := kd_new (prio := prio) h.ok hk hno (by rw [hf]; omega)
 obtain ⟨M', s', i', h1, h2, h3, h4, h5, h6⟩ := ins_nodes (prio := prio) h.ok.t hk hno (by rw [hf]; omega)
 have hi' : i' = D.length := by omega
 subst hi'
 rw [hI] at h1
 simp only [Option.some.injEq, Prod.mk.injEq, and_true] at h1
 obtain ⟨⟨e1, e2, e3⟩, e4⟩ := h1
 have hi : i = D.length := by omega
 subst hi
 subst e1
 refine ⟨M, s, g, G, S, hI, kd, ⟨h4, h5, h6⟩, ?_⟩
 rw [e3, h.rest _ (Nat.le_refl _) hlt]
 rfl
theorem PN.done (h : PN n m D rs free N r f fa F T) {key prio : Int} (hk : 0 ≤ key) (hlt : D.length < m) {M : List Nd} {s g : Int} {G : List Nat} {S : Tr.TT} (kd : Kd rs free N r f fa T key M s g D.length F G S (-1) (-1) []) (nk : NK N M D.length m key prio T) (hg : g = frI (D.length + 1) (m - (D.length + 1)))
  {l : List Int} {rs2 : List R3} {free2 a b : Int} {fa2 : List Int} (hin : IN (arr 0 D) (tot D) n key (tsk D) M s g D.length G S l rs2 free2 a b fa2) :
  PN n m (D ++ [(key, prio, l)]) rs2 free2 (M.set D.length (hup (Tr.nn M D.length) a b)) s g fa2 G S := by
 have hiM : D.length < M.length := by rw [kd.len, h.nl]; exact hlt
 have hnn : ∀ j, Tr.nn (M.set D.length (hup (Tr.nn M D.length) a b)) j = if j = D.length then hup (Tr.nn M D.length) a b else Tr.nn M j := fun j => by
  rw [Tr.nn_set]
  by_cases e : D.length = j
  ·rw [if_pos ⟨e, hiM⟩, if_pos e.symm]
  ·rw [if_neg (fun h => e h.1), if_neg (fun h => e h.symm)]
 have htot : tot (D ++ [(key, prio, l)]) = tot D + l.length := by rw [tot_app]; simp [tot]
 have hlen : (D ++ [(key, prio, l)]).length = D.length + 1 := by simp
 refine ⟨hin.ok, ?_, ?_, ?_, ?_, ?_, ?_, ?_, ?_, ?_, ?_⟩
 ·rw [hin.ers, arr_app, htot]
  simp [arr]
 ·rw [hin.efr, htot]
 ·rw [htot]; exact hin.le
 ·rw [List.length_set, kd.len]; exact h.nl
 ·rw [hlen]; omega
 ·intro A d B e
  rcases List.eq_nil_or_concat B with rfl | ⟨B', z, rfl⟩
  ·have e := List.append_inj' e rfl
   obtain ⟨rfl, e2⟩ := e
   cases e2
   rw [hnn, if_pos rfl]
   have hs := nk.it
   exact ⟨hs.1, hs.2.1, hin.eh, hin.et⟩
  ·have e' : D ++ [(key, prio, l)] = (A ++ d :: B') ++ [z] := by rw [e]; simp
   obtain ⟨e1, _⟩ := List.append_inj' e' rfl
   have hA : A.length ≠ D.length := by rw [e1]; simp
   rw [hnn, if_neg hA]
   obtain ⟨q1, q2, q3, q4⟩ := h.nodes A d B' e1
   have hs := nk.oth A.length hA
   obtain ⟨g1, g2, g3⟩ := same_q hs
   exact ⟨g1.trans q1, hs.2.1.trans q2, g2.trans q3, g3.trans q4⟩
 ·intro i h1 h2
  rw [hlen] at h1
  rw [hnn, if_neg (by omega), nk.out i (by omega) ?_]
  ·exact h.rest i (by omega) h2
  ·intro hi
   have h3 := h.ok.t.key i hi
   rw [h.rest i (by omega) h2] at h3
   have : Tr.ky (empN i m) = -1 := rfl
   omega
 ·rw [hlen]; exact hg
 ·intro x hx
  have := hin.lt x hx
  rw [tsk_app]
  simpa [tsk] using this
 ·intro k x y hxy
  rw [List.map_append, List.mem_append]
  rcases hin.tm k x y hxy with e | e
  ·exact .inr (by rw [e]; simp)
  ·by_cases e2 : k = key
   ·exact .inr (by rw [e2]; simp)
   ·exact .inl (h.keys k x y ((kd.tm k x y e2).1 e))
end
end Go.AX.Sm
end
section
namespace Go.AX.Sm
open Go Go.AX
def dat (rs : List R3) (free : Int) (x : Nd) : DD := (Tr.ky x, Tr.pri x, (NP rs free x).map (tk rs))
def data (rs : List R3) (free : Int) (N : List Nd) (T : Tr.TT) : List DD := (Tr.pl T).map fun i => dat rs free (Tr.nn N i)
def plcs (rs : List R3) (free : Int) (N : List Nd) (l : List Nat) : List Int := l.flatMap fun i => NP rs free (Tr.nn N i)
theorem tsk_map {rs : List R3} {free : Int} {N : List Nd} : ∀ {l : List Nat}, tsk (l.map fun i => dat rs free (Tr.nn N i)) = (plcs rs free N l).map (tk rs)
 | [] => rfl
 | i :: l => by
  rw [List.map_cons, tsk, tsk_map]
  unfold plcs
  rw [List.flatMap_cons, List.map_append]
  rfl
theorem tot_tsk : ∀ {D : List DD}, tot D = (tsk D).length
 | [] => rfl
 | d :: D => by rw [tot, tsk, List.length_append, tot_tsk]
section
variable {rs : List R3} {free : Int} {N : List Nd} {r f : Int} {fa : List Int} {F : List Nat} {T : Tr.TT}
theorem SOK.tsk_nodup (h : SOK rs free N r f fa F T) : (tsk (data rs free N T)).Nodup := by
 unfold data
 rw [tsk_map]
 unfold plcs List.Nodup
 rw [List.pairwise_map, List.pairwise_flatMap]
 constructor
 ·intro i hi
  have hn := (h.q i hi).2.1.q.nodup
  exact List.Pairwise.imp_of_mem (fun {a b} ha hb hab e => hab (h.u a b (NP_live h.a a ha) (NP_live h.a b hb) e)) hn
 ·refine List.Pairwise.imp_of_mem (fun {i j} hi hj hij x hx y hy e => hij ?_) h.t.nodup
  have hxy := h.u x y (NP_live h.a x hx) (NP_live h.a y hy) e
  subst hxy
  exact h.t.ka.inj i hi j hj (((h.q i hi).2.2 x hx).symm.trans ((h.q j hj).2.2 x hy))
theorem SOK.tsk_pos (h : SOK rs free N r f fa F T) : ∀ t ∈ tsk (data rs free N T), 0 ≤ t := by
 intro t ht
 unfold data at ht
 rw [tsk_map] at ht
 obtain ⟨x, hx, rfl⟩ := List.mem_map.1 ht
 obtain ⟨i, hi, hx⟩ := List.mem_flatMap.1 hx
 have hl := NP_live h.a x hx
 exact (h.a.nlive hl.1 hl.2.1 hl.2.2).1
theorem SOK.tot_le (h : SOK rs free N r f fa F T) : tot (data rs free N T) ≤ rs.length := by
 have hn := h.tsk_nodup
 rw [tot_tsk]
 unfold data at hn ⊢
 rw [tsk_map] at hn ⊢
 rw [List.length_map]
 have hp : (plcs rs free N (Tr.pl T)).Nodup := by
  unfold List.Nodup at hn
  rw [List.pairwise_map] at hn
  exact List.Pairwise.imp (fun {a b} hab e => hab (by rw [e])) hn
 refine nodup_le hp fun x hx => ?_
 obtain ⟨i, hi, hx⟩ := List.mem_flatMap.1 hx
 have hl := NP_live h.a x hx
 exact ⟨hl.1, hl.2.1⟩
theorem SOK.data_len (h : SOK rs free N r f fa F T) : (data rs free N T).length ≤ N.length := by
 unfold data
 rw [List.length_map]
 exact Tr.nodup_len h.t.nodup fun x hx => ((h.t.mem x).1 hx).1
theorem SOK.data_keys (h : SOK rs free N r f fa F T) : ((data rs free N T).map (·.1)).Pairwise (fun a b => a < b) := by
 unfold data
 rw [List.map_map, List.pairwise_map]
 exact h.t.ka
theorem SOK.data_mem (h : SOK rs free N r f fa F T) : ∀ d ∈ data rs free N T, 0 ≤ d.1 ∧ d.2.2 ≠ [] := by
 intro d hd
 unfold data at hd
 obtain ⟨i, hi, rfl⟩ := List.mem_map.1 hd
 refine ⟨h.t.key i hi, fun e => ?_⟩
 have := (h.q i hi).1
 unfold dat at e
 exact this (List.map_eq_nil_iff.1 e)
def live (N : List Nd) : List Nd := N.filter fun x => decide (Tr.ky x ≠ -1)
theorem live_dis (h : Tr.Ok N r f F T) : (live N).Pairwise (fun x y : Nd => x.1 ≠ y.1) ∧ (live N).Perm ((Tr.pl T).map fun i => Tr.nn N i) := by
 have hN : N = (List.range N.length).map fun i => Tr.nn N i := by
  refine List.ext_getElem (by simp) fun i h1 h2 => ?_
  rw [List.getElem_map, List.getElem_range, nn_get h1]
 have hl : live N = ((List.range N.length).filter fun i => decide (Tr.ky (Tr.nn N i) ≠ -1)).map fun i => Tr.nn N i := by
  unfold live
  conv => lhs; rw [hN]
  rw [List.filter_map]
  rfl
 have hp : ((List.range N.length).filter fun i => decide (Tr.ky (Tr.nn N i) ≠ -1)).Perm (Tr.pl T) := by
  refine (List.perm_ext_iff_of_nodup (List.nodup_range.filter _) h.nodup).2 fun x => ?_
  rw [List.mem_filter, List.mem_range, decide_eq_true_iff]
  constructor
  ·rintro ⟨a, b⟩
   exact (live_pl h a).1 b
  ·intro hx
   have hx2 := ((h.mem x).1 hx).1
   exact ⟨hx2, (live_pl h hx2).2 hx⟩
 have hperm : (live N).Perm ((Tr.pl T).map fun i => Tr.nn N i) := by rw [hl]; exact hp.map _
 refine ⟨?_, hperm⟩
 have hd : ((Tr.pl T).map fun i => Tr.nn N i).Pairwise (fun x y : Nd => x.1 ≠ y.1) := by
  rw [List.pairwise_map]
  exact h.ka.imp fun {a b} hab => by have h2 : Tr.ky (Tr.nn N a) < Tr.ky (Tr.nn N b) := hab; unfold Tr.ky at h2; omega
 exact (hperm.pairwise_iff (fun {x y} h => Ne.symm h)).2 hd
theorem sorted_live (h : Tr.Ok N r f F T) : sortK (live N) = (Tr.pl T).map fun i => Tr.nn N i := by
 obtain ⟨hd, hp⟩ := live_dis h
 refine kuniq (sortK_asc _) ?_ (((sortK_perm (live N)).pairwise_iff (fun {x y} h => Ne.symm h)).2 hd) ((sortK_perm _).trans hp)
 show ((Tr.pl T).map fun i => Tr.nn N i).Pairwise (fun x y : Nd => x.1 ≤ y.1)
 rw [List.pairwise_map]
 exact h.ka.imp fun {a b} hab => by have h2 : Tr.ky (Tr.nn N a) < Tr.ky (Tr.nn N b) := hab; unfold Tr.ky at h2; omega
set_option synthInstance.maxSize 4000 in
theorem small_nil : SortFunc_small [] = some [] := by decide +kernel
theorem SortNode (h : Tr.Ok N r f F T) : SortFunc_Node (live N) = some ((Tr.pl T).map fun i => Tr.nn N i) := by
 have hlen := h.len
 have hll : (live N).length ≤ N.length := List.length_filter_le _ _
 unfold SortFunc_Node orG
 by_cases h0 : (live N).length = 0
 ·have hn : live N = [] := List.eq_nil_of_length_eq_zero h0
  have hp := (live_dis h).2
  rw [hn] at hp ⊢
  rw [← hp.nil_eq]
  have h1 : sortG (.pr (.int .u32) (.pr (.int .i64) t3)) [] = none := rfl
  rw [h1]
  exact small_nil
 ·have hs : sortG (.pr (.int .u32) (.pr (.int .i64) t3)) (live N) = some (sortK (live N)) := by
   unfold sortG
   rw [show Nat.blt 0 (live N).length = true from by rw [Nat.blt_eq]; omega, show Nat.ble (live N).length 1000000 = true from Nat.ble_eq_true_of_le (by omega)]
   rw [show decide (KDis (live N)) = true from decide_eq_true (live_dis h).1]
   rfl
  rw [hs, sorted_live h]
end
set_option synthInstance.maxSize 4000 in
theorem aMake_is : ∀ n : Nat, n < 65 → arena_Make (n : Int) = some ((frI 0 n, 0), restR 0 n) := by decide +kernel
set_option synthInstance.maxSize 4000 in
theorem tMake_is : ∀ n : Nat, n < 65 → treap_Make (n : Int) = some (((-1, frI 0 n), 0), (List.range n).map fun i => empN i n) := by decide +kernel
end Go.AX.Sm
end
section
namespace Go.AX.Sm
open Go Go.AX
abbrev N0 (m : Nat) : List Nd := (List.range m).map fun i => empN i m
theorem aR_is : ∀ n : _root_.Fin 65, (arena_Right (restR 0 n.val, frI 0 n.val) == some true) = true ∧ (restR 0 n.val).all (fun x => decide (x.1 = -1)) = true := by decide +kernel
theorem tR_is : ∀ n : _root_.Fin 65, Tr.progR (N0 n.val) (-1) (frI 0 n.val) = true := by decide +kernel
theorem N0_at {m i : Nat} (h : i < m) : Tr.nn (N0 m) i = empN i m := by
 show (N0 m).getD i _ = _
 rw [List.getD_eq_getElem?_getD, List.getElem?_map, List.getElem?_range h]
 rfl
theorem PN0 {n m : Nat} (hn : n < 65) (hm : m < 65) : ∃ fa F T, PN n m [] (restR 0 n) (frI 0 n) (N0 m) (-1) (frI 0 m) fa F T := by
 obtain ⟨h1, h2⟩ := aR_is ⟨n, hn⟩
 have h3 := tR_is ⟨m, hm⟩
 dsimp only at h1 h2 h3
 have h1 := eq_of_beq h1
 have hl : (restR 0 n).length = n := restR_len
 rcases Right_cases (restR 0 n) (frI 0 n) (by rw [hl]; omega) with ⟨fa, hA⟩ | ⟨e, _⟩
 ·obtain ⟨F, T, hT⟩ := Tr.ok_of h3
  have hN : (N0 m).length = m := by simp
  have hno : ∀ i, i ∉ Tr.pl T := fun i hi => by
   have k1 := hT.key i hi
   have k2 := ((hT.mem i).1 hi).1
   rw [N0_at (by omega)] at k1
   have : Tr.ky (empN i m) = -1 := rfl
   omega
  have hnl : ∀ x, ¬ LV (restR 0 n) x := fun x hx => by
   have := List.all_eq_true.1 h2 _ (at_mem (T := t3) (n := x.toNat) (by have := hx.1; have := hx.2.1; omega))
   rw [decide_eq_true_eq] at this
   have h3 := hx.2.2
   unfold ky at h3
   omega
  refine ⟨fa, F, T, ⟨hA, hT, fun i hi => absurd hi (hno i), fun x y hx => absurd hx (hnl x), fun x hx => absurd hx (hnl x)⟩, by simp [arr, tot], by simp [tot], by simp [tot], hN, by simp, fun A d B e => by simp at e, fun i _ hi => N0_at hi, by simp, fun x hx => absurd hx (hnl x), fun k x y ⟨i, hi, _⟩ => absurd hi (hno i)⟩
 ·rw [h1] at e; cases e
section
variable {rs : List R3} {free : Int} {N : List Nd} {r f : Int} {fa : List Int} {F : List Nat} {T : Tr.TT}
theorem SX_lbind {σ O τ U : Type} {Inv : σ → Prop} {μ : σ → Nat} {Q : O → Prop} {s : σ} {g : τ → Option (τ ⊕ U)} {t : τ} {k : U → Option (σ ⊕ O)} (Inv' : τ → Prop) (μ' : τ → Nat) (Q' : U → Prop)
  (h : ∀ s, Inv' s → SX Inv' μ' Q' s (g s)) (hi : Inv' t) (hm : μ' t < FUEL) (hk : ∀ o, Q' o → SX Inv μ Q s (k o)) : SX Inv μ Q s ((LOOPx τ U g t).bind k) := by
 obtain ⟨o, h1, h2⟩ := LOOP_ex Inv' μ' Q' h hi hm
 rw [h1]; exact hk o h2
theorem exb {α R : Type} {P : R → Prop} {x : Option α} {a : α} {k : α → Option R} (h : x = some a) (h2 : ∃ y, P y ∧ k a = some y) : ∃ y, P y ∧ x.bind k = some y := by rw [h]; exact h2
theorem LOOP_exb {σ O R : Type} {P : R → Prop} {g : σ → Option (σ ⊕ O)} {s : σ} {k : O → Option R} (Inv : σ → Prop) (μ : σ → Nat) (Q : O → Prop) (h : ∀ s, Inv s → SX Inv μ Q s (g s)) (hi : Inv s) (hm : μ s < FUEL) (hk : ∀ o, Q o → ∃ y, P y ∧ k o = some y) : ∃ y, P y ∧ (LOOPx σ O g s).bind k = some y := by
 obtain ⟨o, h1, h2⟩ := LOOP_ex Inv μ Q h hi hm
 exact exb h1 (hk o h2)
theorem LOOP_exo {σ O : Type} {P : O → Prop} {g : σ → Option (σ ⊕ O)} {s : σ} (Inv : σ → Prop) (μ : σ → Nat) (h : ∀ s, Inv s → SX Inv μ P s (g s)) (hi : Inv s) (hm : μ s < FUEL) : ∃ y, P y ∧ LOOPx σ O g s = some y := by
 obtain ⟨o, h1, h2⟩ := LOOP_ex Inv μ P h hi hm
 exact ⟨o, h2, h1⟩
theorem at_getD' {l : List Nd} {i : Nat} : Ty.at tN l i = l.getD i (default) := rfl
theorem data_take {j : Nat} (hj : j < (Tr.pl T).length) : (data rs free N T).take (j + 1) = (data rs free N T).take j ++ [dat rs free (Tr.nn N ((Tr.pl T).getD j 0))] := by
 unfold data
 rw [← List.map_take, ← List.map_take, List.take_add_one, List.getElem?_eq_getElem hj, List.map_append, List.getD_eq_getElem?_getD, List.getElem?_eq_getElem hj]
 rfl
theorem data_split {j : Nat} (hj : j < (Tr.pl T).length) : data rs free N T = (data rs free N T).take j ++ dat rs free (Tr.nn N ((Tr.pl T).getD j 0)) :: (data rs free N T).drop (j + 1) := by
 conv => lhs; rw [← List.take_append_drop (j + 1) (data rs free N T)]
 rw [data_take hj]
 simp
theorem Normal_prog (h : SOK rs free N r f fa F T) : ∃ rs2 free2 N2 r2 f2 fa2 F2 T2, sema_Normal (rs, free, N, r, f) = some (rs2, free2, N2, r2, f2) ∧ PN rs.length N.length (data rs free N T) rs2 free2 N2 r2 f2 fa2 F2 T2 := by
 have hn := h.a.le
 have hm := h.t.len
 have hL : ((Tr.pl T).map fun i => Tr.nn N i).length = (Tr.pl T).length := by simp
 have hpl : (Tr.pl T).length ≤ 64 := by rw [Tr.siz_pl]; exact h.t.siz
 unfold sema_Normal sema_Normal_g
 simp only [h.rights.1, aMake_is rs.length (by omega), tMake_is N.length (by omega), cq1]
 rw [if_neg (by decide)]
 suffices hs : ∃ o : TAB, (∃ fa2 F2 T2, PN rs.length N.length (data rs free N T) o.1 o.2.1 o.2.2.1 o.2.2.2.1 o.2.2.2.2 fa2 F2 T2) ∧ _ = some o by
  obtain ⟨⟨o1, o2, o3, o4, o5⟩, ⟨fa2, F2, T2, hp⟩, e⟩ := hs
  exact ⟨o1, o2, o3, o4, o5, fa2, F2, T2, e, hp⟩
 refine LOOP_exb (fun s : (List Nd × Int × Int) × TAB × (Int × Int × Int) × Int × (Int × Int) × List Nd × List R3 × List Nd => ∃ i : Nat, s = ((N, (N.length : Int), (i : Int)), (rs, free, N, r, f), (0, 0, 0), frI 0 rs.length, (-1, frI 0 N.length), live (N.take i), restR 0 rs.length, N0 N.length) ∧ i ≤ N.length)
  (fun s => N.length - s.1.2.2.toNat) (fun o => o = .inl ((rs, free, N, r, f), (0, 0, 0), frI 0 rs.length, (-1, frI 0 N.length), live N, restR 0 rs.length, N0 N.length)) ?_ ⟨0, rfl, by omega⟩ (by have := Tr.big; show N.length - _ < _; omega) ?_
 ·rintro _ ⟨i, rfl, hi⟩
  dsimp only
  by_cases hlt : i < N.length
  ·rw [if_pos (by omega), if_pos (by omega)]
   simp only [Int.toNat_natCast]
   have hll : (live (N.take i)).length ≤ 64 := Nat.le_trans (List.length_filter_le _ _) (by rw [List.length_take]; omega)
   have ht : live (N.take (i + 1)) = live (N.take i) ++ (if Tr.ky (Tr.nn N i) = -1 then [] else [Tr.nn N i]) := by
    unfold live
    rw [List.take_add_one, List.getElem?_eq_getElem hlt, nn_get hlt, List.filter_append]
    by_cases hk : Tr.ky (Tr.nn N i) = -1
    ·rw [if_pos hk]; rw [show (some (Tr.nn N i)).toList = [Tr.nn N i] from rfl, List.filter_cons, if_neg (by rw [decide_eq_true_eq]; exact fun g => g hk)]; rfl
    ·rw [if_neg hk]; rw [show (some (Tr.nn N i)).toList = [Tr.nn N i] from rfl, List.filter_cons, if_pos (by rw [decide_eq_true_eq]; exact hk)]; rfl
   by_cases hk : Tr.ky (Tr.nn N i) = -1
   ·rw [if_neg (show ¬ ¬ (Ty.at tN N i).1 = -1 from fun g => g hk), wrap_i64 (by omega)]
    rw [if_pos hk, List.append_nil] at ht
    exact SX_inl (by show N.length - _ < N.length - _; simp only [Int.toNat_natCast]; omega) ⟨i + 1, by rw [ht]; rfl, by omega⟩
   ·rw [if_pos (show ¬ (Ty.at tN N i).1 = -1 from hk), if_pos (by simp only [List.length_cons, List.length_nil]; omega), wrap_i64 (by omega)]
    rw [if_neg hk] at ht
    exact SX_inl (by show N.length - _ < N.length - _; simp only [Int.toNat_natCast]; omega) ⟨i + 1, by rw [ht]; rfl, by omega⟩
  ·rw [if_neg (by omega)]
   rw [List.take_of_length_le (by omega)]
   exact SX_inr rfl
 ·rintro o rfl
  dsimp only
  refine exb (SortNode h.t) ?_
  refine LOOP_exo (fun s : (Int × Int) × TAB × (Int × Int × Int) × (List R3 × Int) × (List Nd × Int × Int) × List Nd => ∃ (j : Nat) (rs1 : List R3) (free1 : Int) (N1 : List Nd) (r1 f1 : Int) (fa1 : List Int) (F1 : List Nat) (T1 : Tr.TT), s = (((((Tr.pl T).map fun i => Tr.nn N i).length : Int), (j : Int)), (rs, free, N, r, f), (0, 0, 0), (rs1, free1), (N1, r1, f1), (Tr.pl T).map fun i => Tr.nn N i) ∧ j ≤ (Tr.pl T).length ∧ PN rs.length N.length ((data rs free N T).take j) rs1 free1 N1 r1 f1 fa1 F1 T1)
   (fun s => (Tr.pl T).length - s.1.2.toNat) ?_ ?_ (by have := Tr.big; show (Tr.pl T).length - _ < _; omega)
  ·rintro _ ⟨j, rs1, free1, N1, r1, f1, fa1, F1, T1, rfl, hj, hp⟩
   dsimp only
   by_cases hlt : j < (Tr.pl T).length
   ·rw [if_pos (by rw [hL]; omega), if_pos (by rw [hL]; omega)]
    simp only [Int.toNat_natCast]
    rw [if_pos (by rw [hL]; exact hlt)]
    obtain ⟨i0, hi0⟩ : ∃ i0, i0 = (Tr.pl T).getD j 0 := ⟨_, rfl⟩
    have hm0 : i0 ∈ Tr.pl T := by
     rw [hi0, List.getD_eq_getElem?_getD, List.getElem?_eq_getElem hlt]
     exact List.getElem_mem hlt
    have hat : Ty.at tN ((Tr.pl T).map fun i => Tr.nn N i) j = Tr.nn N i0 := by
     rw [at_getD', List.getD_eq_getElem?_getD, List.getElem?_map, hi0, List.getD_eq_getElem?_getD, List.getElem?_eq_getElem hlt]
     rfl
    simp only [hat]
    have hdt := data_take (rs := rs) (free := free) (N := N) hlt
    have hsp := data_split (rs := rs) (free := free) (N := N) hlt
    rw [← hi0] at hdt hsp
    have hDl : ((data rs free N T).take j).length = j := by
     rw [List.length_take]; unfold data; rw [List.length_map]; omega
    generalize (data rs free N T).take j = D at hp hdt hsp hDl
    generalize (data rs free N T).drop (j + 1) = E at hsp
    have hnd := h.tsk_nodup
    have hps := h.tsk_pos
    have htl := h.tot_le
    have hdk := h.data_keys
    have hdl := h.data_len
    rw [hsp] at hnd hps htl hdk hdl
    obtain ⟨ts, hts⟩ : ∃ ts, ts = (dat rs free (Tr.nn N i0)).2.2 := ⟨_, rfl⟩
    rw [tsk_app, tsk, ← hts] at hnd hps
    rw [tot_app, tot, ← hts] at htl
    have hkey : (dat rs free (Tr.nn N i0)).1 = Tr.ky (Tr.nn N i0) := rfl
    have hnew : Tr.ky (Tr.nn N i0) ∉ D.map (·.1) := fun hx => by
     rw [List.map_append, List.map_cons, hkey] at hdk
     have := (List.pairwise_append.1 hdk).2.2 _ hx _ (List.mem_cons_self)
     omega
    rw [List.length_append, List.length_cons] at hdl
    have hk0 := h.t.key _ hm0
    obtain ⟨M, s, g, G, S, e1, kd, nk, eg⟩ := hp.start (prio := Tr.pri (Tr.nn N i0)) hk0 hnew (by omega)
    refine SX_bind e1 ?_
    dsimp only
    have htq : queue_Tasks ((rs, free), (Tr.nn N i0).2.2.2.2.1, (Tr.nn N i0).2.2.2.2.2) = some ts := by rw [hts]; exact (h.q i0 hm0).2.1.tasks
    rw [htq]
    simp only [Option.bind_some]
    have hX : tot D = (arr 0 D).length := arr_len.symm
    refine SX_lbind (fun s' : (Int × Int × Int × Int) × TAB × (Int × Int × Int) × (List R3 × Int) × (List Nd × Int × Int) × Nd × (Int × Int) × List Nd × List Int => ∃ (q : Nat) (rs2 : List R3) (free2 a b : Int), s' = (((((Tr.pl T).map fun i => Tr.nn N i).length : Int), (j : Int), (ts.length : Int), (q : Int)), (rs, free, N, r, f), (0, 0, 0), (rs2, free2), (M, s, g), Tr.nn N i0, (a, b), (Tr.pl T).map (fun i => Tr.nn N i), ts) ∧ q ≤ ts.length ∧ ((q = 0 ∧ rs2 = rs1 ∧ free2 = free1 ∧ a = -1 ∧ b = -1) ∨ (0 < q ∧ ∃ fa2, IN (arr 0 D) (tot D) rs.length (Tr.ky (Tr.nn N i0)) (tsk D) M s g D.length G S (ts.take q) rs2 free2 a b fa2)))
     (fun s' => ts.length - s'.1.2.2.2.toNat)
     (fun o => ∃ (rs2 : List R3) (free2 a b : Int) (fa2 : List Int), o = .inl (((((Tr.pl T).map fun i => Tr.nn N i).length : Int), (j : Int)), (rs, free, N, r, f), (0, 0, 0), (rs2, free2), (M, s, g), Tr.nn N i0, (a, b), (Tr.pl T).map (fun i => Tr.nn N i)) ∧ IN (arr 0 D) (tot D) rs.length (Tr.ky (Tr.nn N i0)) (tsk D) M s g D.length G S ts rs2 free2 a b fa2) ?_ ⟨0, rs1, free1, -1, -1, rfl, by omega, .inl ⟨rfl, rfl, rfl, rfl, rfl⟩⟩ (by have := Tr.big; show ts.length - _ < _; omega) ?_
    ·rintro _ ⟨q, rs2, free2, a, b, rfl, hq, hin⟩
     dsimp only
     by_cases hql : q < ts.length
     ·rw [if_pos (by omega), if_pos (by omega)]
      simp only [Int.toNat_natCast]
      rw [if_pos hql]
      have htk : ts.take (q + 1) = ts.take q ++ [Ty.at (Ty.int IntKind.i64) ts q] := take_at (T := (Ty.int IntKind.i64)) hql
      have hin1 : Ty.at (Ty.int IntKind.i64) ts q ∈ ts := at_mem (T := (Ty.int IntKind.i64)) hql
      have hp0 : 0 ≤ Ty.at (Ty.int IntKind.i64) ts q := hps _ (List.mem_append_right _ (List.mem_append_left _ hin1))
      have hnD : Ty.at (Ty.int IntKind.i64) ts q ∉ tsk D := fun hx => (List.nodup_append.1 hnd).2.2 _ hx _ (List.mem_append_left _ hin1) rfl
      have hn2 : Ty.at (Ty.int IntKind.i64) ts q ∉ ts.take q := fun hx => by
       have h1 := (List.nodup_append.1 (List.nodup_append.1 hnd).2.1).1
       rw [← List.take_append_drop (q + 1) ts, htk, List.append_assoc] at h1
       exact (List.nodup_append.1 h1).2.2 _ hx _ (by simp) rfl
      rcases hin with ⟨rfl, rfl, rfl, rfl, rfl⟩ | ⟨hq0, fa2, hin⟩
      ·obtain ⟨rs3, free3, fa3, e2, hin2⟩ := IN.first hp.ok hX (by omega) hp.ers hp.efr hp.lt hk0 hp0 hnD kd
       refine SX_bind e2 ?_
       dsimp only
       rw [wrap_i64 (by omega)]
       refine SX_inl (by dsimp only; omega) ⟨1, rs3, free3, _, _, rfl, by omega, .inr ⟨by omega, fa3, ?_⟩⟩
       rw [htk]; exact hin2
      ·have hlen : (ts.take q).length = q := by rw [List.length_take]; omega
       obtain ⟨rs3, free3, t3, fa3, e2, hin2⟩ := IN.more hX kd.t hin hk0 hp0 (fun hx => (List.mem_append.1 hx).elim hnD hn2) (by rw [hlen]; omega)
       refine SX_bind e2 ?_
       dsimp only
       rw [wrap_i64 (by omega)]
       refine SX_inl (by dsimp only; omega) ⟨q + 1, rs3, free3, _, _, rfl, by omega, .inr ⟨by omega, fa3, ?_⟩⟩
       rw [htk]; exact hin2
     ·rw [if_neg (by omega)]
      have hne : ts ≠ [] := by
       rw [hts]
       intro e
       exact (h.q i0 hm0).1 (List.map_eq_nil_iff.1 e)
      have := List.length_pos_iff.2 hne
      rcases hin with ⟨rfl, _⟩ | ⟨hq0, fa2, hin⟩
      ·omega
      ·rw [List.take_of_length_le (by omega)] at hin
       exact SX_inr ⟨rs2, free2, a, b, fa2, rfl, hin⟩
    ·rintro o ⟨rs2, free2, a, b, fa2, rfl, hin⟩
     dsimp only
     refine SX_bind (hang_ok kd.t kd.mi kd.k).1 ?_
     dsimp only
     rw [wrap_i64 (by omega)]
     have hdn := hp.done hk0 (by omega) kd nk eg hin
     have he : D ++ [(Tr.ky (Tr.nn N i0), Tr.pri (Tr.nn N i0), ts)] = (data rs free N T).take (j + 1) := by rw [hdt, hts]; rfl
     rw [he] at hdn
     exact SX_inl (by dsimp only; omega) ⟨j + 1, rs2, free2, _, _, _, fa2, G, S, rfl, by omega, hdn⟩
   ·rw [if_neg (by rw [hL]; omega)]
    refine SX_inr ⟨fa1, F1, T1, ?_⟩
    have : (data rs free N T).take j = data rs free N T := List.take_of_length_le (by unfold data; rw [List.length_map]; omega)
    rw [this] at hp
    exact hp
  ·obtain ⟨fa0, F0, T0, h0⟩ := PN0 (n := rs.length) (m := N.length) (by omega) (by omega)
   exact ⟨0, _, _, _, _, _, fa0, F0, T0, rfl, by omega, h0⟩
end
end Go.AX.Sm
end
section
namespace Go.AX.Sm
open Go Go.AX
def ndD (d : DD) (p : Nat) : Nd := (d.1, d.2.1, -1, -1, (p : Int), ((p + d.2.2.length - 1 : Nat) : Int))
def ndsD : Nat → List DD → List Nd
 | _, [] => []
 | p, d :: D => ndD d p :: ndsD (p + d.2.2.length) D
theorem ndsD_len : ∀ {p : Nat} {D : List DD}, (ndsD p D).length = D.length
 | _, [] => rfl
 | p, d :: D => by rw [ndsD, List.length_cons, ndsD_len]; rfl
theorem ndsD_app : ∀ {p : Nat} {D E : List DD}, ndsD p (D ++ E) = ndsD p D ++ ndsD (p + tot D) E
 | _, [], E => by simp [ndsD, tot]
 | p, d :: D, E => by
  rw [List.cons_append, ndsD, ndsD, ndsD_app, tot, List.cons_append, Nat.add_assoc]
def eN (m : Nat) : Nat → Nat → List Nd
 | _, 0 => []
 | p, c + 1 => empN p m :: eN m (p + 1) c
theorem eN_len {m : Nat} : ∀ {p c : Nat}, (eN m p c).length = c
 | _, 0 => rfl
 | p, c + 1 => by rw [eN, List.length_cons, eN_len]
theorem eN_at {m : Nat} : ∀ {p c i : Nat}, i < c → (eN m p c)[i]? = some (empN (p + i) m)
 | _, 0, i, h => by omega
 | p, c + 1, 0, _ => by rw [eN]; rfl
 | p, c + 1, i + 1, h => by
  rw [eN, List.getElem?_cons_succ, eN_at (by omega), show p + 1 + i = p + (i + 1) by omega]
theorem N0_eN {m : Nat} : N0 m = eN m 0 m := by
 refine List.ext_getElem? fun i => ?_
 by_cases h : i < m
 ·rw [eN_at h, List.getElem?_map, List.getElem?_range h]; simp
 ·rw [List.getElem?_eq_none (by rw [List.length_map, List.length_range]; omega), List.getElem?_eq_none (by rw [eN_len]; omega)]
def NFw (m : Nat) (D : List DD) : List Nd := ndsD 0 D ++ eN m D.length (m - D.length)
def NFr (n : Nat) (D : List DD) : List R3 := arr 0 D ++ restR (tot D) (n - tot D)
theorem NFw_len {m : Nat} {D : List DD} (h : D.length ≤ m) : (NFw m D).length = m := by
 unfold NFw; rw [List.length_append, ndsD_len, eN_len]; omega
theorem NFr_len {n : Nat} {D : List DD} (h : tot D ≤ n) : (NFr n D).length = n := by
 unfold NFr; rw [List.length_append, arr_len, restR_len]; omega
theorem NFw_row {m : Nat} {A : List DD} {d : DD} {B : List DD} : Tr.nn (NFw m (A ++ d :: B)) A.length = ndD d (tot A) := by
 show (NFw m (A ++ d :: B)).getD A.length _ = _
 unfold NFw
 rw [ndsD_app, ndsD, List.getD_eq_getElem?_getD, List.append_assoc, List.getElem?_append_right (by rw [ndsD_len]; exact Nat.le_refl _), ndsD_len, Nat.sub_self]
 simp
theorem NFw_rest {m : Nat} {D : List DD} {j : Nat} (h1 : D.length ≤ j) (h2 : j < m) : Tr.nn (NFw m D) j = empN j m := by
 show (NFw m D).getD j _ = _
 unfold NFw
 rw [List.getD_eq_getElem?_getD, List.getElem?_append_right (by rw [ndsD_len]; exact h1), ndsD_len, eN_at (by omega), show D.length + (j - D.length) = j by omega]
 rfl
section
variable {rs : List R3} {free : Int} {N : List Nd} {r f : Int} {fa : List Int} {F : List Nat} {T : Tr.TT} {n m : Nat} {D : List DD}
theorem split_at {j : Nat} (h : j < D.length) : ∃ A d B, D = A ++ d :: B ∧ A.length = j := ⟨D.take j, D[j], D.drop (j + 1), by rw [← List.drop_eq_getElem_cons h, List.take_append_drop], by rw [List.length_take]; omega⟩
theorem PN.same (h : PN n m D rs free N r f fa F T) (hk : ∀ d ∈ D, 0 ≤ d.1) (j : Nat) : Tr.sameN (Tr.nn N j) (Tr.nn (NFw m D) j) ∧ (j ∉ Tr.pl T → Tr.nn N j = Tr.nn (NFw m D) j) := by
 by_cases h1 : j < D.length
 ·obtain ⟨A, d, B, e, hA⟩ := split_at h1
  obtain ⟨n1, n2, n3, n4⟩ := h.nodes A d B e
  have hw : Tr.nn (NFw m D) j = ndD d (tot A) := by rw [e, ← hA]; exact NFw_row
  rw [hA] at n1 n2 n3 n4
  refine ⟨by rw [hw]; exact ⟨n1, n2, Prod.ext n3 n4⟩, fun hj => absurd ((live_pl h.ok.t (by have := h.dl; have := h.nl; omega)).1 ?_) hj⟩
  have := hk d (by rw [e]; simp)
  rw [n1]; omega
 ·have hl := h.nl
  by_cases h2 : j < m
  ·have e : Tr.nn N j = Tr.nn (NFw m D) j := by rw [h.rest j (by omega) h2, NFw_rest (by omega) h2]
   rw [e]
   exact ⟨⟨rfl, rfl, rfl⟩, fun _ => rfl⟩
  ·have e : Tr.nn N j = Tr.nn (NFw m D) j := by
    show N.getD j _ = (NFw m D).getD j _
    rw [List.getD_eq_getElem?_getD, List.getD_eq_getElem?_getD, List.getElem?_eq_none (by omega), List.getElem?_eq_none (by rw [NFw_len h.dl]; omega)]
   rw [e]
   exact ⟨⟨rfl, rfl, rfl⟩, fun _ => rfl⟩
abbrev NFf (m : Nat) (D : List DD) : Int := frI D.length (m - D.length)
abbrev NFt (m : Nat) (D : List DD) : Tr.TT := Tr.LD (NFw m D) (NFf m D)
def NF (n m : Nat) (D : List DD) : TAB := (NFr n D, frI (tot D) (n - tot D), Tr.wr (NFw m D) (NFt m D), Tr.tp (NFt m D), NFf m D)
theorem PN.nf (h : PN n m D rs free N r f fa F T) (hk : ∀ d ∈ D, 0 ≤ d.1) : (rs, free, N, r, f) = NF n m D ∧ NFt m D = T := by
 have hs := h.same hk
 have hT := h.ok.t
 obtain ⟨t1, t2, t3, t4, t5, t6⟩ := hT.tr
 have hl : (NFw m D).length = N.length := by rw [NFw_len h.dl, h.nl]
 have hch : Tr.Ch (NFw m D) N (Tr.pl T) := ⟨hl.symm, fun j hj => (hs j).2 hj, fun j => (hs j).1⟩
 have hN := Tr.eq_wr hch t2 t5
 have hsm : ∀ j, Tr.sameN (Tr.nn (NFw m D) j) (Tr.nn N j) := fun j => ⟨(hs j).1.1.symm, (hs j).1.2.1.symm, (hs j).1.2.2.symm⟩
 have h0 : Tr.TR0 (NFw m D) F T := ⟨Tr.bst_same (fun j => (hsm j).1) t3, Tr.hp_same hsm t4, t5, fun x => by rw [hl]; exact t6 x⟩
 have hfr : Tr.frF (NFw m D) ((NFw m D).length + 1) (NFf m D) [] = some F := by
  obtain ⟨G, g1, g2⟩ := Tr.frF_shift hl (acc' := []) (fun x hx => hx) hT.fr (fun x hx _ => ((hs x).2 fun hx2 => ((t6 x).1 hx2).2 hx).symm)
  rw [hl, show NFf m D = f from h.eff.symm, g2, ← g1]
 have hLD := (Tr.ok_wr h0 (by rw [← hN]; exact t2) hfr (by rw [hl]; exact hT.len)).2
 refine ⟨?_, hLD⟩
 unfold NF
 rw [show NFt m D = T from hLD, ← hN, h.ers, h.efr, h.eff, t1]
 rfl
end
end Go.AX.Sm
end
section
namespace Go.AX.Sm
open Go Go.AX
def rawR (k : Int) : Nat → List Int → List R3
 | _, [] => []
 | p, t :: r => (k, t, ((p + 1 : Nat) : Int)) :: rawR k (p + 1) r
theorem rawR_len {k : Int} : ∀ {p : Nat} {l : List Int}, (rawR k p l).length = l.length
 | _, [] => rfl
 | p, t :: r => by rw [rawR, List.length_cons, rawR_len]; rfl
theorem rawR_snoc {k t : Int} : ∀ {p : Nat} {l : List Int}, rawR k p (l ++ [t]) = rawR k p l ++ [(k, t, ((p + l.length + 1 : Nat) : Int))]
 | p, [] => rfl
 | p, a :: r => by
  rw [List.cons_append, rawR, rawR, rawR_snoc, List.length_cons, show p + 1 + r.length + 1 = p + (r.length + 1) + 1 by omega]
  rfl
theorem rowR_raw {k t : Int} : ∀ {p : Nat} {l : List Int}, rowR k p (l ++ [t]) = rawR k p l ++ [(k, t, -1)]
 | p, [] => rfl
 | p, [a] => rfl
 | p, a :: b :: r => by
  have ih := rowR_raw (k := k) (t := t) (p := p + 1) (l := b :: r)
  show (k, a, _) :: rowR k (p + 1) ((b :: r) ++ [t]) = _
  rw [ih]; rfl
theorem restR_put {X : List R3} {p c : Nat} {x : R3} (hp : p = X.length) : (X ++ restR p (c + 1)).set p x = X ++ [x] ++ restR (p + 1) c := by
 rw [restR, set_app_here hp]; simp
theorem eN_put {X : List Nd} {m p c : Nat} {x : Nd} (hp : p = X.length) : (X ++ eN m p (c + 1)).set p x = X ++ [x] ++ eN m (p + 1) c := by
 rw [eN, set_app_here hp]; simp
theorem raw_end {X R : List R3} {k : Int} {p : Nat} {l : List Int} (hp : p = X.length) (hl : l ≠ []) :
  (X ++ rawR k p l ++ R).set (p + l.length - 1) ((Ty.at t3 (X ++ rawR k p l ++ R) (p + l.length - 1)).1, (Ty.at t3 (X ++ rawR k p l ++ R) (p + l.length - 1)).2.1, -1) = X ++ rowR k p l ++ R := by
 obtain ⟨Z, t, rfl⟩ : ∃ Z t, l = Z ++ [t] := by
  rcases List.eq_nil_or_concat l with e | ⟨Z, t, e⟩
  ·exact absurd e hl
  ·exact ⟨Z, t, e.trans (List.concat_eq_append ..)⟩
 rw [rawR_snoc, rowR_raw, List.length_append, List.length_singleton]
 have e : X ++ (rawR k p Z ++ [(k, t, ((p + Z.length + 1 : Nat) : Int))]) ++ R = (X ++ rawR k p Z) ++ (k, t, ((p + Z.length + 1 : Nat) : Int)) :: R := by simp
 have hq : p + (Z.length + 1) - 1 = (X ++ rawR k p Z).length := by rw [List.length_append, rawR_len]; omega
 rw [e, at_app_here hq, set_app_here hq]
 simp
section
variable {rs : List R3} {free : Int} {N : List Nd} {r f : Int} {fa : List Int} {F : List Nat} {T : Tr.TT}
theorem Normal_doc (h : SOK rs free N r f fa F T) : rg0_Normal (rs, free, N, r, f) = some ((frI (tot (data rs free N T)) (rs.length - tot (data rs free N T)), Tr.tp (NFt N.length (data rs free N T)), NFf N.length (data rs free N T)), NFr rs.length (data rs free N T), Tr.wr (NFw N.length (data rs free N T)) (NFt N.length (data rs free N T))) := by
 have hn := h.a.le
 have hm := h.t.len
 have hL : (Tr.kysT N T).length = (Tr.pl T).length := by unfold Tr.kysT; simp
 have hpl : (Tr.pl T).length ≤ 64 := by rw [Tr.siz_pl]; exact h.t.siz
 have hDl : (data rs free N T).length = (Tr.pl T).length := by unfold data; rw [List.length_map]
 have htl0 := h.tot_le
 have hdl0 := h.data_len
 unfold rg0_Normal rg0_Normal_g
 simp only [h.rights.2, ← (aMake_eq rs.length (by omega)).2, ← (Tr.Make_eq N.length (by omega)).2, aMake_is rs.length (by omega), tMake_is N.length (by omega), rKeys_eq h.t, cq1]
 rw [if_neg (by decide)]
 refine LOOP_bind (fun s : (Int × Int) × TAB × (Int × Int × Int) × Int × (Int × Int) × List Int × List R3 × List Nd => ∃ j : Nat, s = (((tot ((data rs free N T).take j) : Int), (j : Int)), (rs, free, N, r, f), (0, 0, 0), frI 0 rs.length, (-1, frI 0 N.length), Tr.kysT N T, NFr rs.length ((data rs free N T).take j), NFw N.length ((data rs free N T).take j)) ∧ j ≤ (Tr.pl T).length)
  (fun s => (Tr.pl T).length - s.1.2.toNat) (fun o => o = .inl ((tot (data rs free N T) : Int), (0, 0, 0), frI 0 rs.length, (-1, frI 0 N.length), Tr.kysT N T, NFr rs.length (data rs free N T), NFw N.length (data rs free N T))) ?_ ⟨0, ?_, by omega⟩ (by have := Tr.big; show (Tr.pl T).length - _ < _; omega) ?_
 ·rintro _ ⟨j, rfl, hj⟩
  dsimp only
  by_cases hlt : j < (Tr.pl T).length
  ·rw [if_pos (by omega), if_pos (by omega)]
   simp only [Int.toNat_natCast]
   obtain ⟨i0, hi0⟩ : ∃ i0, i0 = (Tr.pl T).getD j 0 := ⟨_, rfl⟩
   have hm0 : i0 ∈ Tr.pl T := by
    rw [hi0, List.getD_eq_getElem?_getD, List.getElem?_eq_getElem hlt]
    exact List.getElem_mem hlt
   have hat : Ty.at (Ty.int IntKind.i64) (Tr.kysT N T) j = Tr.ky (Tr.nn N i0) := by
    show (Tr.kysT N T).getD j _ = _
    unfold Tr.kysT
    rw [List.getD_eq_getElem?_getD, List.getElem?_map, hi0, List.getD_eq_getElem?_getD, List.getElem?_eq_getElem hlt]
    rfl
   obtain ⟨ts, hts⟩ : ∃ ts, ts = (dat rs free (Tr.nn N i0)).2.2 := ⟨_, rfl⟩
   have hw : rg0_Waits ((rs, free, N, r, f), Tr.ky (Tr.nn N i0)) = some ts := by
    obtain ⟨L, _, w2, _, w4⟩ := h.waits (Tr.ky (Tr.nn N i0))
    rcases w4 with ⟨i, w5, w6, w7⟩ | ⟨w5, _⟩
    ·rw [w2, w7, h.t.ka.inj i w5 i0 hm0 w6, hts]; rfl
    ·exact absurd rfl (w5 i0 hm0)
   have hp : rf9_Place ((N, r, f), Tr.ky (Tr.nn N i0)) = some (i0 : Int) := by
    rcases h.place (Tr.ky (Tr.nn N i0)) with ⟨i, w5, _, w6, _, _, w7⟩ | ⟨w5, _⟩
    ·rw [w7, h.t.ka.inj i w5 i0 hm0 w6]
    ·exact absurd rfl (w5 i0 hm0)
   have hi2 := ((h.t.mem i0).1 hm0).1
   have hdt := data_take (rs := rs) (free := free) (N := N) hlt
   have hsp := data_split (rs := rs) (free := free) (N := N) hlt
   rw [← hi0] at hdt hsp
   have hDj : ((data rs free N T).take j).length = j := by rw [List.length_take]; omega
   have htl : tot ((data rs free N T).take j) + ts.length ≤ rs.length := by
    rw [hsp, tot_app, tot, ← hts] at htl0; omega
   have hne : ts ≠ [] := by
    rw [hts]; intro e
    exact (h.q i0 hm0).1 (List.map_eq_nil_iff.1 e)
   have hne2 := List.length_pos_iff.2 hne
   generalize hD : (data rs free N T).take j = D at hdt hDj htl
   rw [if_pos (by omega), hat]
   refine SX_bind hw ?_
   rw [if_pos (by omega), if_pos (by omega)]
   refine SX_bind hp ?_
   have hlN := NFw_len (D := D) (m := N.length) (by omega)
   have hlR := NFr_len (D := D) (n := rs.length) (by omega)
   rw [if_pos (by omega), if_pos (by omega), if_pos (by omega), if_pos (by rw [hlN]; omega), if_pos (by rw [hlN]; omega)]
   obtain ⟨d, hd⟩ : ∃ d, d = dat rs free (Tr.nn N i0) := ⟨_, rfl⟩
   have hd1 : Tr.ky (Tr.nn N i0) = d.1 := by rw [hd]; rfl
   have hd2 : Tr.pri (Tr.nn N i0) = d.2.1 := by rw [hd]; rfl
   have hd3 : ts = d.2.2 := by rw [hts, hd]
   rw [← hd] at hdt
   have htd : tot (D ++ [d]) = tot D + ts.length := by rw [tot_app, tot, tot, ← hd3]; rfl
   have hset : (NFw N.length D).set j (Tr.ky (Tr.nn N i0), (Ty.at tN N ((i0 : Int)).toNat).2.1, -1, -1, (tot D : Int), IntKind.i64.wrap (IntKind.i64.wrap ((tot D : Int) + (ts.length : Int)) - 1)) = NFw N.length (D ++ [d]) := by
    rw [wrap_i64 (x := (tot D : Int) + (ts.length : Int)) (by omega), wrap_i64 (by omega), show (Ty.at tN N ((i0 : Int)).toNat).2.1 = d.2.1 from hd2, hd1, show (tot D : Int) + (ts.length : Int) - 1 = ((tot D + d.2.2.length - 1 : Nat) : Int) by rw [← hd3]; omega]
    unfold NFw
    obtain ⟨c, hc⟩ : ∃ c, N.length - D.length = c + 1 := ⟨N.length - D.length - 1, by omega⟩
    rw [hc, ndsD_app, List.length_append, List.length_singleton, show N.length - (D.length + 1) = c by omega, hDj, eN_put (by rw [ndsD_len]; exact hDj.symm), Nat.zero_add]
    rfl
   rw [hset]
   refine SX_loop (fun s' : (Int × Int × Int) × TAB × (Int × Int × Int) × Int × (Int × Int) × List Int × List Int × List R3 × List Nd => ∃ q : Nat, s' = ((((tot D + q : Nat) : Int), (j : Int), (q : Int)), (rs, free, N, r, f), (0, 0, 0), frI 0 rs.length, (-1, frI 0 N.length), Tr.kysT N T, ts, arr 0 D ++ rawR (Tr.ky (Tr.nn N i0)) (tot D) (ts.take q) ++ restR (tot D + q) (rs.length - (tot D + q)), NFw N.length (D ++ [d])) ∧ q ≤ ts.length)
    (fun s' => ts.length - s'.1.2.2.toNat)
    (fun o => o = .inl (((tot (D ++ [d]) : Int), ((j + 1 : Nat) : Int)), (rs, free, N, r, f), (0, 0, 0), frI 0 rs.length, (-1, frI 0 N.length), Tr.kysT N T, NFr rs.length (D ++ [d]), NFw N.length (D ++ [d]))) ?_ ⟨0, ?_, by omega⟩ (by have := Tr.big; show ts.length - _ < _; omega) ?_
   ·rintro _ ⟨q, rfl, hq⟩
    dsimp only
    have hX : tot D = (arr 0 D).length := arr_len.symm
    have hXl : (arr 0 D ++ rawR (Tr.ky (Tr.nn N i0)) (tot D) (ts.take q) ++ restR (tot D + q) (rs.length - (tot D + q))).length = rs.length := by
     rw [List.length_append, List.length_append, arr_len, rawR_len, restR_len, List.length_take]; omega
    by_cases hql : q < ts.length
    ·rw [if_pos (by omega), if_pos (by omega)]
     simp only [Int.toNat_natCast]
     rw [if_pos (by omega), if_pos (by omega), if_pos hql, if_pos (by rw [hXl]; omega), if_pos (by rw [hXl]; omega), wrap_i64 (by omega), wrap_i64 (by omega), hat]
     refine SX_inl (by dsimp only; omega) ⟨q + 1, ?_, by omega⟩
     obtain ⟨c, hc⟩ : ∃ c, rs.length - (tot D + q) = c + 1 := ⟨rs.length - (tot D + q) - 1, by omega⟩
     have htk : ts.take (q + 1) = ts.take q ++ [Ty.at (Ty.int IntKind.i64) ts q] := take_at (T := (Ty.int IntKind.i64)) hql
     have hlq : (ts.take q).length = q := by rw [List.length_take]; omega
     rw [hc, show rs.length - (tot D + (q + 1)) = c by omega, htk, restR_put (by rw [List.length_append, rawR_len, hlq, hX]), rawR_snoc, hlq]
     simp only [List.append_assoc]
     rfl
    ·rw [if_neg (by omega)]
     have hqe : q = ts.length := by omega
     subst hqe
     rw [List.take_of_length_le (Nat.le_refl _)] at hXl ⊢
     rw [wrap_i64 (by omega), show ((tot D + ts.length : Nat) : Int) - 1 = ((tot D + ts.length - 1 : Nat) : Int) by omega]
     simp only [Int.toNat_natCast]
     rw [if_pos (by rw [hXl]; omega), if_pos (by rw [hXl]; omega), wrap_i64 (by omega), raw_end hX hne]
     refine SX_inr ?_
     rw [htd]
     unfold NFr
     rw [htd, arr_app, arr, arr, List.append_nil, Nat.zero_add, ← hd3, hd1]
     rfl
   ·rw [List.take_zero]
    unfold NFr
    simp only [rawR, List.append_nil, Nat.add_zero]
    rfl
   ·rintro o rfl
    refine SX_inl (by dsimp only; omega) ⟨j + 1, ?_, by omega⟩
    rw [hdt]
  ·rw [if_neg (by omega)]
   rw [List.take_of_length_le (by omega)]
   exact SX_inr rfl
 ·simp only [List.take_zero]
  have : NFw N.length [] = N0 N.length := by unfold NFw; rw [N0_eN]; rfl
  rw [this]
  rfl
 ·rintro o rfl
  dsimp only
  have hlw := NFw_len (m := N.length) hdl0
  have hLa := Tr.Laid_eq (N := NFw N.length (data rs free N T)) (r := -1) (f := NFf N.length (data rs free N T)) (by omega)
  by_cases h1 : tot (data rs free N T) = rs.length
  ·rw [if_pos (by rw [NFr_len htl0, h1])]
   simp only [Option.bind_some]
   rw [show frI (tot (data rs free N T)) (rs.length - tot (data rs free N T)) = -1 from if_pos (by omega)]
   by_cases h2 : (data rs free N T).length = N.length
   ·rw [if_pos (by rw [hlw, hL]; omega)]
    simp only [Option.bind_some]
    have e : NFf N.length (data rs free N T) = -1 := if_pos (by omega)
    rw [(congrArg (fun z : Int => rf9_Laid (NFw N.length (data rs free N T), -1, z)) e.symm).trans hLa]
    rfl
   ·rw [if_neg (by rw [hlw, hL]; omega)]
    simp only [Option.bind_some]
    rw [show ((Tr.kysT N T).length : Int) = NFf N.length (data rs free N T) by rw [hL, ← hDl]; exact (if_neg (by omega)).symm, hLa]
    rfl
  ·rw [if_neg (by rw [NFr_len htl0]; omega)]
   simp only [Option.bind_some]
   rw [show frI (tot (data rs free N T)) (rs.length - tot (data rs free N T)) = (tot (data rs free N T) : Int) from if_neg (by omega)]
   by_cases h2 : (data rs free N T).length = N.length
   ·rw [if_pos (by rw [hlw, hL]; omega)]
    simp only [Option.bind_some]
    have e : NFf N.length (data rs free N T) = -1 := if_pos (by omega)
    rw [(congrArg (fun z : Int => rf9_Laid (NFw N.length (data rs free N T), -1, z)) e.symm).trans hLa]
    rfl
   ·rw [if_neg (by rw [hlw, hL]; omega)]
    simp only [Option.bind_some]
    rw [show ((Tr.kysT N T).length : Int) = NFf N.length (data rs free N T) by rw [hL, ← hDl]; exact (if_neg (by omega)).symm, hLa]
    rfl
end
end Go.AX.Sm
end
section
namespace Go.AX.Sm
open Go Go.AX
def seqI : Nat → Nat → List Int
 | _, 0 => []
 | p, c + 1 => (p : Int) :: seqI (p + 1) c
theorem row_ch {k : Int} (hk : 0 ≤ k) : ∀ {l : List Int} {p : Nat} {X R : List R3}, l ≠ [] → p = X.length →
  PCh Lv (X ++ rowR k p l ++ R) (p : Int) (seqI p l.length) ∧ (seqI p l.length).map (tk (X ++ rowR k p l ++ R)) = l
 | [], _, _, _, h, _ => absurd rfl h
 | [t], p, X, R, _, hp => by
  have e : X ++ rowR k p [t] ++ R = X ++ (k, t, -1) :: R := by rw [rowR]; simp
  have ea : Ty.at t3 (X ++ rowR k p [t] ++ R) p = (k, t, -1) := by rw [e]; exact at_app_here hp
  refine ⟨.cons (by omega) (by rw [e]; simp only [List.length_append, List.length_cons]; omega) ?_ ?_, ?_⟩
  ·rw [Int.toNat_natCast, ea]; exact hk
  ·rw [Int.toNat_natCast, ea]; exact .nil
  ·show [tk _ (p : Int)] = [t]
   unfold tk
   rw [Int.toNat_natCast, ea]
 | t :: u :: r, p, X, R, _, hp => by
  have e : X ++ rowR k p (t :: u :: r) ++ R = (X ++ [(k, t, ((p + 1 : Nat) : Int))]) ++ rowR k (p + 1) (u :: r) ++ R := by rw [rowR]; simp
  have e2 : X ++ rowR k p (t :: u :: r) ++ R = X ++ (k, t, ((p + 1 : Nat) : Int)) :: (rowR k (p + 1) (u :: r) ++ R) := by rw [rowR]; simp
  have ea : Ty.at t3 (X ++ rowR k p (t :: u :: r) ++ R) p = (k, t, ((p + 1 : Nat) : Int)) := by rw [e2]; exact at_app_here hp
  obtain ⟨h1, h2⟩ := row_ch hk (l := u :: r) (p := p + 1) (X := X ++ [(k, t, ((p + 1 : Nat) : Int))]) (R := R) (by simp) (by simp [hp])
  rw [← e] at h1 h2
  refine ⟨.cons (by omega) (by rw [e2]; simp only [List.length_append, List.length_cons]; omega) ?_ ?_, ?_⟩
  ·rw [Int.toNat_natCast, ea]; exact hk
  ·rw [Int.toNat_natCast, ea]; exact h1
  ·show tk _ (p : Int) :: (seqI (p + 1) (u :: r).length).map _ = _
   rw [h2]
   unfold tk
   rw [Int.toNat_natCast, ea]
section
variable {rs : List R3} {free : Int} {N : List Nd} {r f : Int} {fa : List Int} {F : List Nat} {T : Tr.TT} {n m : Nat} {D : List DD}
theorem PN.dat_eq (h : PN n m D rs free N r f fa F T) (hk : ∀ d ∈ D, 0 ≤ d.1 ∧ d.2.2 ≠ []) {j : Nat} (hj : j < D.length) : j ∈ Tr.pl T ∧ dat rs free (Tr.nn N j) = D[j] := by
 obtain ⟨A, d, B, e, hA⟩ := split_at hj
 obtain ⟨n1, n2, n3, n4⟩ := h.nodes A d B e
 have hd := hk d (by rw [e]; simp)
 have hDj : D[j] = d := by
  subst e; subst hA
  simp
 rw [hA] at n1 n2 n3 n4
 have hj2 : j ∈ Tr.pl T := (live_pl h.ok.t (by have := h.dl; have := h.nl; omega)).1 (by rw [n1]; omega)
 refine ⟨hj2, ?_⟩
 have hers : rs = arr 0 A ++ rowR d.1 (tot A) d.2.2 ++ (arr (tot A + d.2.2.length) B ++ restR (tot D) (n - tot D)) := by
  conv => lhs; rw [h.ers, e, arr_app, arr]
  simp [e]
 obtain ⟨c1, c2⟩ := row_ch hd.1 (l := d.2.2) (p := tot A) (X := arr 0 A) (R := arr (tot A + d.2.2.length) B ++ restR (tot D) (n - tot D)) hd.2 arr_len.symm
 rw [← hers] at c1 c2
 have hq := (h.ok.q j hj2).2.1.q
 rw [n3] at hq
 have hNP := PCh.det hq c1
 rw [hDj]
 unfold dat
 rw [hNP, c2, n1, n2]
theorem PN.data_eq (h : PN n m D rs free N r f fa F T) (hk : ∀ d ∈ D, 0 ≤ d.1 ∧ d.2.2 ≠ []) (hp : (D.map (·.1)).Pairwise (fun a b => a < b)) : data rs free N T = D := by
 have h1 : (List.range D.length).map (fun i => dat rs free (Tr.nn N i)) = D := by
  refine List.ext_getElem (by simp) fun i h1 h2 => ?_
  rw [List.getElem_map, List.getElem_range]
  exact (h.dat_eq hk h2).2
 have hpl : Tr.pl T = List.range D.length := by
  refine Tr.ka_ext h.ok.t.ka ?_ fun x => ?_
  ·have hp2 := hp
   rw [← h1, List.map_map, List.pairwise_map] at hp2
   exact hp2
  ·rw [List.mem_range]
   constructor
   ·intro hx
    refine Decidable.byContradiction fun hx2 => ?_
    have hx3 := ((h.ok.t.mem x).1 hx).1
    have hx4 := h.ok.t.key x hx
    rw [h.rest x (by omega) (by rw [← h.nl]; exact hx3)] at hx4
    have : Tr.ky (empN x m) = -1 := rfl
    omega
   ·intro hx
    exact (h.dat_eq hk hx).1
 unfold data
 rw [hpl, h1]
theorem SOK.waitsD (h : SOK rs free N r f fa F T) (key : Int) : ∃ L, sema_Waits ((rs, free, N, r, f), key) = some L ∧ L.length ≤ 64 ∧
  ((∃ d ∈ data rs free N T, d.1 = key ∧ L = d.2.2) ∨ ((∀ d ∈ data rs free N T, d.1 ≠ key) ∧ L = [])) := by
 obtain ⟨L, h1, _, h2, h3⟩ := h.waits key
 refine ⟨L, h1, h2, ?_⟩
 rcases h3 with ⟨i, a, b, c⟩ | ⟨a, b⟩
 ·exact .inl ⟨_, List.mem_map.2 ⟨i, a, rfl⟩, b, c⟩
 ·refine .inr ⟨fun d hd => ?_, b⟩
  obtain ⟨i, hi, rfl⟩ := List.mem_map.1 hd
  exact a i hi
theorem keys_data : Tr.kysT N T = (data rs free N T).map (·.1) := by
 unfold data Tr.kysT
 rw [List.map_map]
 rfl
end
theorem Waits_same {rs rs' : List R3} {free free' : Int} {N N' : List Nd} {r f r' f' : Int} {fa fa' : List Int} {F F' : List Nat} {T T' : Tr.TT} (h : SOK rs free N r f fa F T) (h' : SOK rs' free' N' r' f' fa' F' T') (hd : data rs' free' N' T' = data rs free N T) (key : Int) :
  ∃ L, sema_Waits ((rs, free, N, r, f), key) = some L ∧ sema_Waits ((rs', free', N', r', f'), key) = some L ∧ L.length ≤ 64 := by
 obtain ⟨L, a1, a2, a3⟩ := h.waitsD key
 obtain ⟨L', b1, b2, b3⟩ := h'.waitsD key
 rw [hd] at b3
 have hk := h.data_keys
 have e : L = L' := by
  rcases a3 with ⟨d, c1, c2, c3⟩ | ⟨c1, c2⟩ <;> rcases b3 with ⟨d', e1, e2, e3⟩ | ⟨e1, e2⟩
  ·have : d = d' := inj_of (hk.imp fun h => by omega) d c1 d' e1 (c2.trans e2.symm)
   rw [c3, e3, this]
  ·exact absurd c2 (e1 d c1)
  ·exact absurd e2 (c1 d' e1)
  ·rw [c2, e2]
 subst e
 exact ⟨L, a1, b1, a2⟩
theorem NF_len {n m : Nat} {D : List DD} {rs free N r f} (h : (rs, free, N, r, f) = NF n m D) (h1 : tot D ≤ n) (h2 : D.length ≤ m) : rs.length = n ∧ N.length = m := by
 unfold NF at h
 simp only [Prod.mk.injEq] at h
 obtain ⟨rfl, _, rfl, _⟩ := h
 exact ⟨NFr_len h1, by rw [Tr.wr_len]; exact NFw_len h2⟩
theorem Normal_law (x : TAB) : torporlaw10_SemaNormal x = some true := by
 obtain ⟨rs, free, N, r, f⟩ := x
 unfold torporlaw10_SemaNormal torporlaw10_SemaNormal_g
 dsimp only
 rw [al10, Great10]
 simp only [cq1]
 rw [if_neg (by decide)]
 by_cases hg : 30 < rs.length ∨ 30 < N.length
 ·rw [if_pos hg]
 ·rw [if_neg hg]
  have hl : rs.length ≤ 1000000 := by omega
  have hN : N.length ≤ 1000000 := by omega
  rcases R_cases rs free N r f hl hN with ⟨fa, F, T, h⟩ | ⟨h1, h2⟩
  ·obtain ⟨rs2, free2, N2, r2, f2, fa2, F2, T2, e1, p1⟩ := Normal_prog h
   have hk := h.data_mem
   have hkk := h.data_keys
   have d2 := p1.data_eq hk hkk
   obtain ⟨nf1, _⟩ := p1.nf fun d hd => (hk d hd).1
   obtain ⟨l1, l2⟩ := NF_len nf1 h.tot_le h.data_len
   obtain ⟨rs3, free3, N3, r3, f3, fa3, F3, T3, e3, p3⟩ := Normal_prog p1.ok
   rw [d2, l1, l2] at p3
   obtain ⟨nf3, _⟩ := p3.nf fun d hd => (hk d hd).1
   rw [← nf1] at nf3
   rw [e1]
   simp only [Option.bind_some]
   rw [h.rights.2]
   simp only [Option.bind_some]
   rw [if_neg (by decide), rKeys_eq h.t]
   simp only [Option.bind_some]
   rw [rKeys_eq p1.ok.t, Normal_doc h]
   simp only [Option.bind_some]
   rw [Same10 (by omega) (by omega)]
   have hs : ((rs2 = NFr rs.length (data rs free N T) ∧ free2 = frI (tot (data rs free N T)) (rs.length - tot (data rs free N T))) ∧ N2 = Tr.wr (NFw N.length (data rs free N T)) (NFt N.length (data rs free N T)) ∧ r2 = Tr.tp (NFt N.length (data rs free N T)) ∧ f2 = NFf N.length (data rs free N T)) := by
    have := nf1
    unfold NF at this
    simp only [Prod.mk.injEq] at this
    exact ⟨⟨this.1, this.2.1⟩, this.2.2.1, this.2.2.2.1, this.2.2.2.2⟩
   rw [decide_eq_true hs, e3]
   simp only [Option.bind_some]
   rw [if_pos (by decide), Same10 (by have := congrArg (fun z : TAB => z.1.length) nf3; dsimp only at this; omega) (by have := congrArg (fun z : TAB => z.2.2.1.length) nf3; dsimp only at this; omega)]
   simp only [Prod.mk.injEq] at nf3
   rw [decide_eq_true ⟨⟨nf3.1, nf3.2.1⟩, nf3.2.2.1, nf3.2.2.2.1, nf3.2.2.2.2⟩]
   simp only [Option.bind_some]
   rw [if_pos (by decide), p1.ok.rights.1]
   simp only [Option.bind_some]
   have hkl : (Tr.kysT N T).length ≤ 64 := by rw [keys_data (rs := rs) (free := free), List.length_map]; have := h.data_len; have := h.t.len; omega
   have hke : Tr.kysT N T = Tr.kysT N2 T2 := by rw [keys_data (rs := rs) (free := free), keys_data (rs := rs2) (free := free2), d2]
   rw [if_pos (by decide), Go.AX.Ints_eq _ _ (by omega), decide_eq_true hke]
   simp only [Option.bind_some]
   rw [if_neg (by decide)]
   refine LOOP_is (fun s : Int × TAB × TAB × List Int => ∃ i : Nat, s = ((i : Int), (rs, free, N, r, f), (rs2, free2, N2, r2, f2), Tr.kysT N T) ∧ i ≤ (Tr.kysT N T).length) (fun s => (Tr.kysT N T).length - s.1.toNat) (fun o => o = true) ?_ ⟨0, rfl, by omega⟩ (by have := Tr.big; show (Tr.kysT N T).length - _ < _; omega) (fun o h => h)
   rintro _ ⟨i, rfl, hi⟩
   dsimp only
   by_cases hlt : i < (Tr.kysT N T).length
   ·rw [if_pos (by omega), if_pos (by omega)]
    simp only [Int.toNat_natCast]
    obtain ⟨L, w1, w2, w3⟩ := Waits_same h p1.ok d2 (Ty.at (Ty.int IntKind.i64) (Tr.kysT N T) i)
    rw [if_pos hlt, if_pos (by omega), if_pos hlt]
    refine SX_bind w2 ?_
    refine SX_bind w1 ?_
    refine SX_bind (Go.AX.Ints_eq L L (by omega)) ?_
    rw [decide_eq_true rfl, if_neg (by decide), wrap_i64 (by omega)]
    exact SX_inl (by dsimp only; omega) ⟨i + 1, rfl, by omega⟩
   ·rw [if_neg (by omega)]
    exact SX_inr rfl
  ·have e1 : sema_Normal (rs, free, N, r, f) = some ([], 0, [], 0, 0) := by
    unfold sema_Normal sema_Normal_g
    simp only [h1, cq1]
    rw [if_pos (by decide)]
   rw [e1, h2]
   rfl
end Go.AX.Sm
end
section
namespace Go.AX
open Go
abbrev AllOf (ts : List (Nat × SK)) (g : Val (StK.den ⟨ts, []⟩) → Option Bool) : Prop := ∀ x : Val (SK.denL (tsL ts)), SK.okL (tsL ts) x → g (mk2 x ()) = some true
theorem SemaNormal_true : AllOf sg_torporlaw10_SemaNormal.a.ts torporlaw10_SemaNormal := fun x h => Sm.Normal_law x
end Go.AX
end
