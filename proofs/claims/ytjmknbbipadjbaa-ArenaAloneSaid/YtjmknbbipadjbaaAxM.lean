/- AX, part M: a function, called; the rules of the walk. -/
import Derived.Test.YtjmknbbipadjbaaAxL
set_option linter.unusedSimpArgs false
set_option linter.unusedVariables false
namespace Go.AX
open Go

/-- A result: a temporary, or a variable in memory. -/
inductive RRes where
  | t (t : Nat)
  | c (t n : Nat)
  | c1 (t : Nat)
structure RFun where
  nt : Nat
  rs : List RRes
  body : RC
def resRes (P : Program) (nt : Nat) : List ResultVar → Option (List RRes)
  | [] => some []
  | .tmp t :: r => if t < nt then (resRes P nt r).map (.t t :: ·) else none
  | .cell t ty :: r => if t < nt then (aggT P ty).bind fun a => (sizT P ty).bind fun n => (resRes P nt r).map ((if a then .c t n else .c1 t) :: ·) else none
def resF (P : Program) (f : FuncId) : Option RFun :=
  (P.funcs[f]?).bind fun fn => fn.body.bind fun c => (resC P fn.ntmps c).bind fun rc => (resRes P fn.ntmps fn.results.toList).map fun rs => ⟨fn.ntmps, rs, rc⟩

def rvals (E : Env) (H : AH) : List RRes → Option (List AV)
  | [] => some []
  | .t t :: r => (rvals E H r).map (E t :: ·)
  | .c t n :: r => (vld n H (E t)).bind fun v => (rvals E H r).map (v :: ·)
  | .c1 t :: r => (vld1 H (E t)).bind fun v => (rvals E H r).map (v :: ·)
def rtup : List AV → AV
  | [v] => v
  | l => .tu l

/-- How a function's body ends that defers nothing. -/
def FinV (rs : List RRes) (Q : AEnd → AH → Prop) : Fin := fun out E H ds =>
  ds = [] ∧ match out with
    | .ret => ∃ l, rvals E H rs = some l ∧ Q (.ret (rtup l)) H
    | .pan p => Q (.pan p) H
def Call (P : Program) (f : FuncId) (args : List AV) (H : AH) (Q : AEnd → AH → Prop) : Prop := ∃ r H', CallT P f args H r H' ∧ Q r H'
theorem Call.mono {P : Program} {f : FuncId} {args : List AV} {H : AH} {Q Q' : AEnd → AH → Prop} (h : Call P f args H Q) (hq : ∀ r H', Q r H' → Q' r H') : Call P f args H Q' :=
  let ⟨r, H', h1, h2⟩ := h; ⟨r, H', h1, hq _ _ h2⟩
def env (args : List AV) : Env := fun i => args.getD i (.tu [])

section
variable {P : Program}
theorem Rel.env {nt : Nat} {D : Nat → Prop} {j : Inj} {args : List AV} (ha : AV.okL D args) (hn : args.length ≤ nt) : Rel nt D j (env args) ((AV.conL j args).toArray ++ Array.replicate (nt - (AV.conL j args).toArray.size) undef) := by
  refine ⟨by simp [conL_length]; omega, fun t ht => ?_, fun t ht => ?_⟩
  · simp only [Array.getD_eq_getD_getElem?, AX.env, List.getD_eq_getElem?_getD]
    rw [Array.getElem?_append]
    simp only [List.size_toArray, conL_length, List.getElem?_toArray]
    by_cases h : t < args.length
    · rw [if_pos h, conL_get]
      simp [h]
    · rw [if_neg h]
      have : args[t]? = none := List.getElem?_eq_none (by omega)
      simp only [this, Option.getD_none, undef_con, Array.getElem?_replicate]
      split <;> rfl
  · simp only [AX.env, List.getD_eq_getElem?_getD]
    by_cases h : t < args.length
    · simp only [List.getElem?_eq_getElem h, Option.getD_some]
      exact okL_iff.1 ha _ (List.getElem_mem h)
    · have : args[t]? = none := List.getElem?_eq_none (by omega)
      simp [this, AV.ok, AV.okL]

def rread (tm : Array Value) : ResultVar → Sem Value
  | .tmp t => pure (tm.getD t undef)
  | .cell a t => do loadVar t (← asAddr (tm.getD a undef))
theorem resRes_run {base nt : Nat} {D : Nat → Prop} {j : Inj} {H : AH} {E : Env} {w : World} {tm : Array Value} (S : Sim base D j H w) (R : Rel nt D j E tm) : ∀ (l : List ResultVar) (rs : List RRes) (vs : List AV), resRes P nt l = some rs → rvals E H rs = some vs →
    (l.mapM (m := Sem) (rread tm)).run P w = .ok (AV.conL j vs) w ∧ AV.okL D vs
  | [], rs, vs, h, hv => by
    simp only [resRes, Option.some.injEq] at h; subst h
    simp only [rvals, Option.some.injEq] at hv; subst hv
    exact ⟨by simp [AV.conL], by simp only [AV.okL]⟩
  | .tmp t :: r, rs, vs, h, hv => by
    simp only [resRes] at h
    split at h
    · rename_i ht
      obtain ⟨rs', hr, rfl⟩ := Option.map_eq_some_iff.1 h
      obtain ⟨vs', hv', rfl⟩ := Option.map_eq_some_iff.1 hv
      obtain ⟨i1, i2⟩ := resRes_run S R r rs' vs' hr hv'
      refine ⟨?_, R.ok t ht, i2⟩
      have hg := R.get t ht
      simp only [List.mapM_cons, Sem.run_bind, rread, Sem.run_pure, Result.andThen_ok, AV.conL, hg]
      rw [i1]; rfl
    · cases h
  | .cell t ty :: r, rs, vs, h, hv => by
    simp only [resRes] at h
    split at h
    · rename_i ht
      simp only [Option.bind_eq_some_iff, Option.map_eq_some_iff] at h
      obtain ⟨ag, ha, n, hn, rs', hr, rfl⟩ := h
      have hg := R.get t ht
      have hok := R.ok t ht
      cases ag with
      | true =>
        simp only [if_true, rvals, Option.bind_eq_some_iff, Option.map_eq_some_iff] at hv
        obtain ⟨v, hv1, vs', hv', rfl⟩ := hv
        obtain ⟨i1, i2⟩ := resRes_run S R r rs' vs' hr hv'
        generalize E t = u at *
        cases u <;> simp only [vld, reduceCtorEq] at hv1
        rename_i b p
        obtain ⟨l, hl, rfl⟩ := Option.map_eq_some_iff.1 hv1
        obtain ⟨r1, r2, r3, r4⟩ := S.loadCells (P := P) hok hl
        refine ⟨?_, ⟨r2, r3⟩, i2⟩
        have hst : (rread tm (.cell t ty)).run P w = .ok (.agg (AV.conL j l).toArray) w := by
          simp only [rread, Sem.run_bind, hg, AV.con, asAddr, Sem.run_pure, Result.andThen_ok, loadVar, run_isAgg' ha, if_true, run_sizeOf' hn, r1]
        simp only [List.mapM_cons, Sem.run_bind, hst, Result.andThen_ok, AV.conL]
        rw [i1]; rfl
      | false =>
        simp only [Bool.false_eq_true, if_false, rvals, Option.bind_eq_some_iff, Option.map_eq_some_iff] at hv
        obtain ⟨v, hv1, vs', hv', rfl⟩ := hv
        obtain ⟨i1, i2⟩ := resRes_run S R r rs' vs' hr hv'
        generalize E t = u at *
        cases u <;> simp only [vld1, reduceCtorEq] at hv1
        rename_i b p
        obtain ⟨r1, r2, r3⟩ := S.cell hok hv1
        refine ⟨?_, r2, i2⟩
        have hst : (rread tm (.cell t ty)).run P w = .ok (v.con j) w := by
          simp only [rread, Sem.run_bind, hg, AV.con, asAddr, Sem.run_pure, Result.andThen_ok, loadVar, run_isAgg' ha, Bool.false_eq_true, if_false, run_load, r1]
        simp only [List.mapM_cons, Sem.run_bind, hst, Result.andThen_ok, AV.conL]
        rw [i1]; rfl
    · cases h
theorem rtup_run {j : Inj} {D : Nat → Prop} {vs : List AV} (h : AV.okL D vs) : (if hs : (AV.conL j vs).toArray.size = 1 then (AV.conL j vs).toArray[0] else .tuple (AV.conL j vs).toArray) = (rtup vs).con j ∧ (rtup vs).ok D := by
  cases vs with
  | nil => exact ⟨by simp [rtup, AV.conL, AV.con], by simp [rtup, AV.ok, AV.okL]⟩
  | cons v r =>
    cases r with
    | nil => exact ⟨by simp [rtup, AV.conL], h.1⟩
    | cons u r => exact ⟨by simp [rtup, AV.conL, AV.con], h⟩

theorem call_of_X {f : FuncId} {rf : RFun} {args : List AV} {H : AH} {Q : AEnd → AH → Prop} (hf : resF P f = some rf) (hn : args.length ≤ rf.nt) (h : X P (FinV rf.rs Q) [.c rf.body] (env args) H []) : Call P f args H Q := by
  simp only [resF, Option.bind_eq_some_iff, Option.map_eq_some_iff] at hf
  obtain ⟨fn, hfn, c, hc, rc, hrc, rs, hrs, rfl⟩ := hf
  obtain ⟨n, h⟩ := h
  obtain ⟨out, E', H', ds', hR, hrun⟩ := x_runs (nt := fn.ntmps) (FinV rs Q) n _ _ _ _ h
  obtain ⟨rfl, hR⟩ := hR
  have start : ∀ base D j w, Sim base D j H w → AV.okL D args → ∀ cs, ∃ a' w' j', Post base D j H w H' w' j' ∧ Rel fn.ntmps (Dnew D H H') j' E' a'.tmps ∧ a'.defers = [] ∧ out.ok (Dnew D H H') ∧
      Reach P (lone (Frame.enter P f (AV.conL j args).toArray .normal) cs w) { (default : Frame) with fn := f, kind := .normal } cs out j' a' w' := by
    intro base D j w S ha cs
    have henter : Frame.enter P f (AV.conL j args).toArray .normal = ({ (default : Frame) with fn := f, kind := .normal } : Frame).at { tmps := (AV.conL j args).toArray ++ Array.replicate (fn.ntmps - (AV.conL j args).toArray.size) undef, defers := [] } [.code c] := by
      simp [Frame.enter, Frame.at, hfn, hc]
    rw [henter]
    obtain ⟨a', w', j', p1, p2, p3, p4, p5⟩ := hrun base D j w { tmps := (AV.conL j args).toArray ++ Array.replicate (fn.ntmps - (AV.conL j args).toArray.size) undef, defers := [] } _ cs [.code c] (.c hrc .nil) S (Rel.env ha hn) .nil
    refine ⟨a', w', j', p1, p2, ?_, p4, p5⟩
    cases hd : a'.defers with
    | nil => rfl
    | cons d r => rw [hd] at p3; cases p3
  cases out with
  | ret =>
    obtain ⟨l, hl, hQ⟩ := hR
    refine ⟨_, _, ?_, hQ⟩
    intro base D j w S ha cs
    obtain ⟨a', w', j', p1, p2, p3, p4, t', ht⟩ := start base D j w S ha cs
    obtain ⟨r1, r2⟩ := resRes_run (P := P) p1.sim p2 _ _ _ hrs hl
    obtain ⟨r3, r4⟩ := rtup_run (j := j') r2
    refine ⟨.returned ((rtup l).con j'), w', _, ⟨j', rfl, r4, p1⟩, ht, rfl, rfl, p3, rfl, fn, hfn, ?_⟩
    have h0 : results fn a'.tmps = (do let vs ← fn.results.mapM (rread a'.tmps); pure (if h : vs.size = 1 then vs[0] else .tuple vs)) := by
      unfold results
      congr 1
    have h1 : (fn.results.mapM (m := Sem) (rread a'.tmps)).run P w' = .ok (AV.conL j' l).toArray w' := by
      rw [Array.mapM_eq_mapM_toList]
      simp only [Sem.run_map, r1, Result.andThen_ok]
    show (results fn a'.tmps).run P w' = _
    rw [h0, Sem.run_bind, h1, Result.andThen_ok, ← r3]
    rfl
  | pan p =>
    refine ⟨_, _, ?_, hR⟩
    intro base D j w S ha cs
    obtain ⟨a', w', j', p1, p2, p3, p4, t', ht⟩ := start base D j w S ha cs
    exact ⟨.panicked (p.map (PE.con j')), w', _, ⟨j', rfl, p4, p1⟩, ht, rfl, rfl, p3, fn, hfn⟩
end

end Go.AX
