/- AX, part Kb: small runs. -/
import Derived.Test.YtjmknbbipadjbaaAxK
set_option linter.unusedSimpArgs false
set_option linter.unusedVariables false
namespace Go.AX
open Go

section
variable {P : Program} {nt : Nat}

theorem wanted_run {D : Nat → Prop} {j : Inj} {E : Env} {a : Act} (R : Rel nt D j E a.tmps) {ops : Array Oper} {o : Oper} {g : Option (Nat × Bool)} {c : Bool} (hg : resG ops o.guard = some g) (hd : dstOk nt (g.map (·.1)) = true) (hw : gwant E g = some c) :
    Region.wanted o (yielded ops a.tmps) = c := by
  unfold Region.wanted
  cases ho : o.guard with
  | none =>
    rw [ho] at hg
    simp only [resG, Option.some.injEq] at hg; subst hg
    simp only [gwant, Option.some.injEq] at hw
    exact hw
  | some ib =>
    obtain ⟨i, b⟩ := ib
    rw [ho] at hg
    simp only [resG, Option.map_eq_some_iff] at hg
    obtain ⟨d, hdst, rfl⟩ := hg
    simp only [Option.map_some, dstOk, decide_eq_true_eq] at hd
    simp only [gwant] at hw
    split at hw
    · rename_i c' he
      simp only [Option.some.injEq] at hw; subst hw
      have ht := R.get d hd
      rw [he] at ht
      have hs := R.size
      have hy : yielded ops a.tmps i = some c' := by
        unfold yielded
        rw [hdst]
        have : a.tmps[d]? = some (.bool c') := by
          have hlt : d < a.tmps.size := by omega
          simp [Array.getD, hlt, AV.con] at ht
          simp [hlt, ht]
        simp [this]
      simp only [hy]
      cases c' <;> cases b <;> rfl
    · rename_i he
      simp only [Option.some.injEq] at hw; subst hw
      have ht := R.get d hd
      rw [he] at ht
      have hs := R.size
      have hy : yielded ops a.tmps i = none := by
        unfold yielded
        rw [hdst]
        have : a.tmps[d]? = some (.tuple #[]) := by
          have hlt : d < a.tmps.size := by omega
          simp [Array.getD, hlt, AV.con, AV.conL] at ht
          simp [hlt, ht]
        simp [this]
      simp only [hy]
      rfl
    · cases hw

theorem resL_arr {D : Nat → Prop} {j : Inj} {E : Env} {a : Act} (R : Rel nt D j E a.tmps) {xs : Array Operand} {ys : List Opd} (h : resL nt xs.toList = some ys) : xs.map a.eval = (AV.conL j (vals E ys)).toArray ∧ AV.okL D (vals E ys) := by
  obtain ⟨r1, r2⟩ := resL_run R h
  refine ⟨?_, r2⟩
  apply Array.ext'
  rw [Array.toList_map, r1]; rfl
theorem callFunc_run {f : FuncId} {args : Array Value} {fn : Func} {w : World} (hf : P.funcs[f]? = some fn) (hb : (fn.body.isSome && !(fn.name == "runtime.NumGoroutine")) = true) : (callFunc f args).run P w = .ok (.enter f args) w := by
  simp only [Bool.and_eq_true, Bool.not_eq_true'] at hb
  obtain ⟨h1, h2⟩ := hb
  have h3 : fn.body ≠ none := by cases h : fn.body <;> simp [h] at h1 ⊢
  have h4 : fn.name ≠ "runtime.NumGoroutine" := by simpa using h2
  simp [callFunc, hf, h4, h3]

end

end Go.AX
