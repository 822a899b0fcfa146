/- Delta: the law of what is refused. -/
import Derived.Test.YtgmacflaicapaabGpR
set_option linter.unusedSimpArgs false
set_option linter.unusedVariables false
set_option maxRecDepth 100000
namespace Go.AX
open Go

theorem al28 : torporlaw28_alive () = some true := by decide +kernel
theorem diffL_len {a b : List Int} : ∀ {k i : Nat}, (diffL a b i k).length ≤ k
  | 0, i => Nat.le_refl _
  | k + 1, i => by
    rw [diffL]
    have := diffL_len (a := a) (b := b) (k := k) (i := i + 1)
    split
    · omega
    · simp only [List.length_cons]; omega
theorem diffL_byt {a b : List Int} (hb : Byt b) : ∀ {k i : Nat}, BytL (diffL a b i k)
  | 0, i, x, h => by cases h
  | k + 1, i, x, h => by
    rw [diffL] at h
    split at h
    · exact diffL_byt hb x h
    · rcases List.mem_cons.1 h with rfl | h
      · exact bl_byt hb i
      · exact diffL_byt hb x h
theorem nb_le {n : Nat} (h : n ≤ 65535) : nb n ≤ 4096 := by unfold nb; omega
theorem set_same {l : List Int} {i : Nat} : l.set i (l.getD i 0) = l := by
  by_cases h : i < l.length
  · apply List.ext_getElem (by simp)
    intro n h1 h2
    rw [List.getElem_set]
    split
    · rename_i e
      subst e
      rw [List.getD_eq_getElem?_getD, List.getElem?_eq_getElem h, Option.getD_some]
    · rfl
  · rw [List.set_eq_of_length_le (by omega)]
theorem Byt_set {l : List Int} {i : Nat} {x : Int} (h : Byt l) (hx : 0 ≤ x ∧ x < 256) : Byt (l.set i x) := by
  intro y hy
  rcases List.mem_or_eq_of_mem_set hy with hy | rfl
  · exact h y hy
  · exact hx
theorem Refuses_eq {a b : List Int} {k x : Int} (ha : Byt a) (hb : Byt b) (hk : 0 ≤ k ∧ k < 65536) (hx : 0 ≤ x ∧ x < 65536) : torporlaw28_DeltaRefuses (a, b, k, x) = some true := by
  unfold torporlaw28_DeltaRefuses torporlaw28_DeltaRefuses_g
  dsimp only
  simp only [cond_b, decide_eq_true_eq, Bool.and_eq_true, Bool.not_eq_true', decide_eq_false_iff_not, Bool.or_eq_true, Bool.not_eq_eq_eq_not, Bool.not_true, Bool.not_false, beq_iff_eq, Option.bind_some, Bool.not_not, decide_eq_true_eq, Decidable.not_not, and_true, al28]
  rw [if_neg (by decide)]
  by_cases h1 : (1000 : Int) < a.length
  · rw [if_neg (by omega)]
  rw [if_pos h1]
  by_cases h2 : (1000 : Int) < b.length
  · rw [if_pos h2]
  rw [if_neg h2]
  have hlen := diffL_len (a := a) (b := b) (k := nb b.length) (i := 0)
  have hnb := nb_le (n := b.length) (by omega)
  have hap := dif_ap (a := a) (b := b) (by omega) (by omega)
  have hri := dif_right (a := a) (b := b) (by omega) (by omega)
  have hL := diffL_byt (a := a) (b := b) hb (k := nb b.length) (i := 0)
  unfold apS difD at hap
  unfold RtS difD at hri
  dsimp only at hap hri
  rw [sDiff_eq ha hb (by omega) (by omega)]
  simp only [Option.bind_some, List.nil_append, List.length_nil, Nat.zero_add]
  have hx8 : IntKind.u8.wrap x = x % 256 := by rw [IntKind.wrap_u8]
  rw [hx8]
  have hx2 : 0 ≤ x % 256 ∧ x % 256 < 256 := by omega
  generalize x % 256 = y at *
  have hlong : Byt (a ++ [y]) := ha.app (fun z hz => by rw [List.mem_singleton] at hz; subst hz; exact hx2)
  generalize diffL a b 0 (nb b.length) = L at *
  rw [if_pos (by omega), if_pos (by simp only [List.length_cons, List.length_nil]; omega), sApply_eq hlong (by simp; omega) hL (by omega)]
  have e1 : applyS (a ++ [y]) (a.length : Int) (cs a) (b.length : Int) (cs b) L = (9, []) := by
    unfold applyS
    rw [if_pos hri, if_neg (fun h => by have := h.1; rw [List.length_append] at this; simp only [List.length_cons, List.length_nil] at this; omega)]
  rw [e1]
  simp only [Option.bind_some]
  rw [if_pos trivial]
  by_cases h0 : (a.length : Int) = 0
  · rw [if_pos h0]; rfl
  rw [if_neg h0]
  obtain ⟨m, hm⟩ : ∃ m, a.length = m + 1 := ⟨a.length - 1, by omega⟩
  obtain ⟨k, rfl⟩ := Int.eq_ofNat_of_zero_le hk.1
  have eK : (IntKind.i64.wrap (k : Int)).tmod (a.length : Int) = ((k % a.length : Nat) : Int) := by rw [wrap_i64 (by omega)]; rfl
  rw [eK]
  have hkl : k % a.length < a.length := Nat.mod_lt _ (by omega)
  generalize k % a.length = q at *
  simp only [Int.toNat_natCast, List.length_set]
  have eW : (IntKind.i64.wrap ((a.length : Int) - 1)).toNat = m := by rw [wrap_i64 (by omega)]; omega
  have eW2 : 0 ≤ IntKind.i64.wrap ((a.length : Int) - 1) ∧ IntKind.i64.wrap ((a.length : Int) - 1) ≤ (a.length : Int) := by rw [wrap_i64 (by omega)]; omega
  have hq2 : (0 : Int) ≤ (q : Int) ∧ (q : Int) < (a.length : Int) := by omega
  have e3 : applyS (a.take m) (a.length : Int) (cs a) (b.length : Int) (cs b) L = (9, []) := by
    unfold applyS
    rw [if_pos hri, if_neg (fun h => by have := h.1; rw [List.length_take] at this; omega)]
  have e2 : applyS (a.set q y) (a.length : Int) (cs a) (b.length : Int) (cs b) L = if y = a.getD q 0 then (0, b) else (9, []) := by
    by_cases hy : y = a.getD q 0
    · rw [if_pos hy, hy, set_same, hap]
    · rw [if_neg hy]
      unfold applyS
      rw [if_pos hri, if_neg (fun h => hy ((cs_set ha hkl hx2).1 h.2))]
  have hA : a.length * 1 ≤ 140737488355328 := by omega
  rw [if_pos hA, if_pos h0, if_pos hq2, if_pos hkl, sApply_eq (Byt_set ha hx2) (by simp; omega) hL (by omega), e2]
  simp only [Option.bind_some]
  rw [if_pos eW2, eW, List.drop_zero, sApply_eq (ha.take m) (by simp; omega) hL (by omega), e3]
  simp only [Option.bind_some]
  have eS : (a.set q y).getD q 0 = y := by
    rw [List.getD_eq_getElem?_getD, List.getElem?_set_self hkl]; rfl
  rw [if_pos hq2, if_pos hkl, if_pos hq2]
  change (if decide ((if y = a.getD q 0 then ((0 : Int), b) else (9, [])).1 = 0) = decide ((a.set q y).getD q 0 = a.getD q 0) then _ else _) = _
  rw [eS]
  by_cases hy : y = a.getD q 0
  · rw [if_pos hy]
    simp [hy]
  · rw [if_neg hy, decide_eq_false hy]
    simp
abbrev AllOf (ts : List (Nat × SK)) (g : Val (StK.den ⟨ts, []⟩) → Option Bool) : Prop := ∀ x : Val (SK.denL (tsL ts)), SK.okL (tsL ts) x → g (mk2 x ()) = some true
theorem u8_ok {n : Int} (h : (Lit.int .u8 n).wf = true) : 0 ≤ n ∧ n < 256 := by
  simp only [Lit.wf, Bool.and_eq_true, decide_eq_true_eq] at h
  have h1 : IntKind.u8.min = 0 := rfl
  have h2 : IntKind.u8.max = 255 := rfl
  rw [h1, h2] at h
  omega
theorem u16_ok {n : Int} (h : (Lit.int .u16 n).wf = true) : 0 ≤ n ∧ n < 65536 := by
  simp only [Lit.wf, Bool.and_eq_true, decide_eq_true_eq] at h
  have h1 : IntKind.u16.min = 0 := rfl
  have h2 : IntKind.u16.max = 65535 := rfl
  rw [h1, h2] at h
  omega
theorem Byt_ok {l : List Int} (h : Ty.ok (.sl (.int .u8)) l) : Byt l := fun x hx => u8_ok (h.2 x hx)
theorem DeltaRefuses_true : AllOf sg_torporlaw28_DeltaRefuses.a.ts torporlaw28_DeltaRefuses := by
  rintro ⟨a, b, k, x⟩ h
  have h1 : Ty.ok (.sl (.int .u8)) a := h.1
  have h2 : Ty.ok (.sl (.int .u8)) b := h.2.1
  have h3 : (Lit.int .u16 k).wf = true := h.2.2.1.1
  have h4 : (Lit.int .u16 x).wf = true := h.2.2.1.2.1
  exact Refuses_eq (Byt_ok h1) (Byt_ok h2) (u16_ok h3) (u16_ok h4)
end Go.AX
