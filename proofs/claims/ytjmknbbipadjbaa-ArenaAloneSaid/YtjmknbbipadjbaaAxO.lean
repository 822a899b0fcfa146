/- AX, part O: a region whose order is drawn. -/
import Derived.Test.YtjmknbbipadjbaaAxKb
set_option linter.unusedSimpArgs false
set_option linter.unusedVariables false
namespace Go.AX
open Go

section
variable {P : Program} {nt : Nat} {D : Nat → Prop} {j : Inj} {a : Act} {o : Oper} {E : Env}

/-- A block that an operation makes: what it yields in the world. -/
theorem alo_run {w : World} {H H' : AH} {v : AV} (R : Rel nt D j E a.tmps) {vo : VOp} (hc : vo.cls = 1) (hr : resV P nt o = some vo) (h : vop vo E H = some (v, H')) :
    ∃ l t, H' = H.al l ∧ AV.okL D l ∧ AV.scL l = true ∧
      ((v = .pt H.nx 0 ∧ (execOp a.eval o).run P w = .ok (.value (.pointer (some ⟨w.heap.size, 0, none⟩))) { w with heap := w.heap.push (.cells (AV.conL j l).toArray t (0, 0)) }) ∨
       (∃ n c, v = .sl H.nx 0 n c ∧ (execOp a.eval o).run P w = .ok (.value (.slice (some ⟨w.heap.size, 0, none⟩) n c)) { w with heap := w.heap.push (.cells (AV.conL j l).toArray t (0, 0)) })) := by
  have nr : ∀ (t : TypeId) (l : List AV), (newRow t (AV.conL j l).toArray).run P w = .ok ⟨w.heap.size, 0, none⟩ { w with heap := w.heap.push (.cells (AV.conL j l).toArray t (0, 0)) } := fun t l => by simp [newRow]
  unfold resV at hr
  split at hr
  all_goals first
    | (obtain ⟨x', hx, rfl⟩ := Option.map_eq_some_iff.1 hr; exact absurd hc (show ¬ ((0 : Nat) = 1) by decide))
    | skip
  · simp only [Option.bind_eq_some_iff, Option.map_eq_some_iff] at hr
    obtain ⟨_, _, _, _, _, _, rfl⟩ := hr
    exact absurd hc (show ¬ ((0 : Nat) = 1) by decide)
  · rename_i e ho
    obtain ⟨z, hz, rfl⟩ := Option.map_eq_some_iff.1 hr
    simp only [vop, Option.some.injEq, Prod.mk.injEq] at h; obtain ⟨rfl, rfl⟩ := h
    obtain ⟨zv, hzv, hcc, h1, h2⟩ := run_zero' hz j D w
    refine ⟨z, e, rfl, h1, h2, .inl ⟨rfl, ?_⟩⟩
    simp [execOp, ho, Instr.alloc, hzv, newVar, hcc, nr e z]
  · rename_i e x ho
    obtain ⟨x', hx, rfl⟩ := Option.map_eq_some_iff.1 hr
    obtain ⟨l, hl, h⟩ := Option.map_eq_some_iff.1 h
    simp only [Prod.mk.injEq] at h; obtain ⟨rfl, rfl⟩ := h
    obtain ⟨x1, x2⟩ := R.ev hx
    obtain ⟨c1, c2, c3⟩ := cl_con (j := j) hl x2
    refine ⟨l, e, rfl, c2, c3, .inl ⟨rfl, ?_⟩⟩
    simp [execOp, ho, Instr.box, newVar, x1, c1, nr e l]
  · simp only [Option.bind_eq_some_iff, Option.map_eq_some_iff] at hr
    obtain ⟨_, _, _, _, _, _, rfl⟩ := hr
    exact absurd hc (show ¬ ((0 : Nat) = 1) by decide)
  · rename_i t n ps ho
    split at hr
    · rename_i e hu
      simp only [Option.bind_eq_some_iff] at hr
      obtain ⟨s, hs, hr⟩ := hr
      split at hr
      · rename_i hns
        simp only [Option.bind_eq_some_iff] at hr
        obtain ⟨z, hz, hr⟩ := hr
        split at hr
        · rename_i hzl
          obtain ⟨q, hq, rfl⟩ := Option.map_eq_some_iff.1 hr
          obtain ⟨l, hl, h⟩ := Option.map_eq_some_iff.1 h
          simp only [Prod.mk.injEq] at h; obtain ⟨rfl, rfl⟩ := h
          obtain ⟨hns, hs0⟩ := hns
          obtain ⟨zv, hzv, hcc, h1, h2⟩ := run_zero' hz j D w
          obtain ⟨f1, f2, f3, f4⟩ := vfill_run R (pl := fun i => some (i * s, s)) (pl' := fun i => some (i * s, s)) (fun i => rfl) ps.toList q (List.replicate n z).flatten l hq hl (okL_flat h1) (scL_flat h2)
          refine ⟨l, e, rfl, f2, f3, .inr ⟨n, n, rfl, ?_⟩⟩
          have hm : (ps.map fun (x : Nat × Operand) => (x.1, a.eval x.2)).toList = ps.toList.map fun x => (x.1, a.eval x.2) := by simp
          have hmade := flat_made j z n
          rw [hzl] at hmade
          simp only [madeCells] at hmade
          have r := nr e l
          by_cases h0 : n * s = 0
          · have hn : n = 0 := by
              rcases Nat.mul_eq_zero.1 h0 with h | h <;> omega
            subst hn
            simp only [List.replicate_zero, List.flatten_nil] at f1
            simp only [AV.conL] at f1
            simp only [execOp, ho, Instr.buildSlice, Sem.run_bind, run_underlying hu, Result.andThen_ok, run_sizeOf' hs, h0]
            have hr0 : (Array.range 0).map (fun (x : Nat) => (default : Value)) = #[] := by simp [Array.range_zero']
            simp [hr0, hm, f1, r]
          · simp only [execOp, ho, Instr.buildSlice, Sem.run_bind, run_underlying hu, Result.andThen_ok, run_sizeOf' hs]
            rw [if_neg (by omega), if_neg h0]
            simp only [Sem.run_bind, hzv, Result.andThen_ok, Sem.run_pure, hcc]
            rw [show (Array.range (n * s)).map (fun (x : Nat) => (AV.conL j z).toArray[x % (AV.conL j z).toArray.size]!) = (AV.conL j (List.replicate n z).flatten).toArray from hmade]
            simp [hm, f1, r]
        · cases hr
      · cases hr
    · cases hr
  · simp only [Option.bind_eq_some_iff, Option.map_eq_some_iff] at hr
    obtain ⟨ag, _, _, _, _, _, rfl⟩ := hr
    cases ag <;> exact absurd hc (show ¬ ((0 : Nat) = 1) by decide)
  · simp only [Option.bind_eq_some_iff, Option.map_eq_some_iff] at hr
    obtain ⟨_, _, _, _, _, _, rfl⟩ := hr
    exact absurd hc (show ¬ ((2 : Nat) = 1) by decide)
  · simp only [Option.bind_eq_some_iff, Option.map_eq_some_iff] at hr
    obtain ⟨_, _, _, _, rfl⟩ := hr
    exact absurd hc (show ¬ ((0 : Nat) = 1) by decide)
  · split at hr
    · obtain ⟨x', hx, rfl⟩ := Option.map_eq_some_iff.1 hr; exact absurd hc (show ¬ ((0 : Nat) = 1) by decide)
    · split at hr
      · obtain ⟨x', hx, rfl⟩ := Option.map_eq_some_iff.1 hr; exact absurd hc (show ¬ ((0 : Nat) = 1) by decide)
      · cases hr
    · cases hr
  · split at hr
    · cases hr
    · cases hr
    · obtain ⟨x', hx, rfl⟩ := Option.map_eq_some_iff.1 hr; exact absurd hc (show ¬ ((0 : Nat) = 1) by decide)
  · simp only [Option.bind_eq_some_iff, Option.map_eq_some_iff] at hr
    obtain ⟨_, _, _, _, rfl⟩ := hr
    exact absurd hc (show ¬ ((0 : Nat) = 1) by decide)
  · rename_i t l c ho
    split at hr
    · rename_i e hu
      simp only [Option.bind_eq_some_iff] at hr
      obtain ⟨i, hi, z, hz, hr⟩ := hr
      split at hr
      · rename_i hzl
        simp only [Option.bind_eq_some_iff, Option.map_eq_some_iff] at hr
        obtain ⟨l', hl, c', hc', rfl⟩ := hr
        obtain ⟨l1, l2⟩ := R.ev hl
        obtain ⟨c1, c2⟩ := R.ev hc'
        obtain ⟨i', zv, hi', hzv, hzc, z1, z2⟩ := zerT_built hz j D
        rw [hi] at hi'
        obtain rfl := Option.some.inj hi'
        simp only [vop] at h
        generalize ev E l' = u at *
        generalize ev E c' = q at *
        cases u <;> cases q <;> simp only [vmks, reduceCtorEq] at h
        rename_i kl lv kc cv
        split at h
        · rename_i hb
          simp only [Option.some.injEq, Prod.mk.injEq] at h
          obtain ⟨rfl, rfl⟩ := h
          have r := run_make (P := P) w t e i zv hu hi hzv kl kc lv cv hb.1 hb.2.1 (by omega) hb.2.2.1
          have hmade := flat_made j z cv.toNat
          rw [hzl] at hmade
          rw [hzc, hmade] at r
          refine ⟨_, e, rfl, okL_flat z1, scL_flat z2, .inr ⟨_, _, rfl, ?_⟩⟩
          simp only [execOp, ho, l1, c1, AV.con, Sem.run_bind, r, Result.andThen_ok, Sem.run_pure]
          rfl
        · cases h
      · cases hr
    · cases hr
  · split at hr
    · simp only [Option.bind_eq_some_iff] at hr
      obtain ⟨_, _, _, _, _, _, _, _, _, _, hr⟩ := hr
      split at hr
      · cases hr
      · simp only [Option.some.injEq] at hr; subst hr; exact absurd hc (show ¬ ((0 : Nat) = 1) by decide)
    · split at hr
      · cases hr
      · simp only [Option.bind_eq_some_iff, Option.map_eq_some_iff] at hr
        obtain ⟨_, _, _, _, _, _, rfl⟩ := hr
        exact absurd hc (show ¬ ((0 : Nat) = 1) by decide)
    · simp only [Option.bind_eq_some_iff] at hr
      obtain ⟨_, _, _, _, _, _, _, _, _, _, hr⟩ := hr
      split at hr
      · cases hr
      · simp only [Option.some.injEq] at hr; subst hr; exact absurd hc (show ¬ ((0 : Nat) = 1) by decide)
    · cases hr
  · simp only [Option.bind_eq_some_iff] at hr
    obtain ⟨f, hf, s, hs, hr⟩ := hr
    split at hr
    · cases hr
    · obtain ⟨x', hx, rfl⟩ := Option.map_eq_some_iff.1 hr; exact absurd hc (show ¬ ((0 : Nat) = 1) by decide)
  · simp only [Option.bind_eq_some_iff, Option.map_eq_some_iff] at hr
    obtain ⟨_, _, _, _, _, _, _, _, rfl⟩ := hr
    exact absurd hc (show ¬ ((0 : Nat) = 1) by decide)
  · split at hr
    · simp only [Option.bind_eq_some_iff, Option.map_eq_some_iff] at hr
      obtain ⟨_, _, _, _, _, _, rfl⟩ := hr
      exact absurd hc (show ¬ ((0 : Nat) = 1) by decide)
    · simp only [Option.bind_eq_some_iff, Option.map_eq_some_iff] at hr
      obtain ⟨_, _, _, _, _, _, rfl⟩ := hr
      exact absurd hc (show ¬ ((0 : Nat) = 1) by decide)
    · cases hr
  · split at hr
    · simp only [Option.bind_eq_some_iff, Option.map_eq_some_iff] at hr
      obtain ⟨_, _, _, _, _, _, _, _, rfl⟩ := hr
      exact absurd hc (show ¬ ((0 : Nat) = 1) by decide)
    · simp only [Option.bind_eq_some_iff, Option.map_eq_some_iff] at hr
      obtain ⟨_, _, _, _, rfl⟩ := hr
      exact absurd hc (show ¬ ((0 : Nat) = 1) by decide)
    · cases hr
  · split at hr
    · cases hr
    · cases hr
    · split at hr
      · simp only [Option.bind_eq_some_iff, Option.map_eq_some_iff] at hr
        obtain ⟨_, _, _, _, rfl⟩ := hr
        exact absurd hc (show ¬ ((0 : Nat) = 1) by decide)
      · cases hr
  · exfalso
    rename_i c ho
    have hcls : vo.cls = 0 ∨ vo.cls = 2 := by
      unfold resCall at hr
      split at hr
      · split at hr
        · split at hr
          · obtain ⟨x', hx, rfl⟩ := Option.map_eq_some_iff.1 hr; exact .inl rfl
          · obtain ⟨x', hx, rfl⟩ := Option.map_eq_some_iff.1 hr; exact .inl rfl
          · obtain ⟨x', hx, rfl⟩ := Option.map_eq_some_iff.1 hr; exact .inl rfl
          · simp only [Option.some.injEq] at hr; subst hr; exact .inl rfl
          · split at hr
            · simp only [Option.some.injEq] at hr; subst hr; exact .inl rfl
            · cases hr
          · cases hr
        · cases hr
      · split at hr
        · split at hr
          · obtain ⟨x', hx, rfl⟩ := Option.map_eq_some_iff.1 hr; exact .inl rfl
          · cases hr
        · cases hr
      · obtain ⟨x', hx, rfl⟩ := Option.map_eq_some_iff.1 hr; exact .inl rfl
      · obtain ⟨x', hx, rfl⟩ := Option.map_eq_some_iff.1 hr; exact .inl rfl
      · split at hr
        · split at hr
          · simp only [Option.bind_eq_some_iff] at hr
            obtain ⟨i, hi, hr⟩ := hr
            split at hr
            · simp only [Option.bind_eq_some_iff, Option.map_eq_some_iff] at hr
              obtain ⟨_, _, _, _, rfl⟩ := hr; exact .inr rfl
            · cases hr
          · cases hr
        · cases hr
      · split at hr
        · split at hr
          · simp only [Option.bind_eq_some_iff] at hr
            obtain ⟨i, hi, hr⟩ := hr
            split at hr
            · simp only [Option.bind_eq_some_iff, Option.map_eq_some_iff] at hr
              obtain ⟨_, _, _, _, rfl⟩ := hr; exact .inr rfl
            · cases hr
          · cases hr
        · cases hr
      · cases hr
    omega
  · cases hr
end

end Go.AX
