/- AX, part K: what runs over the abstract heap runs so in the world. -/
import Derived.Test.YtjmknbbipadjbaaAxJ
set_option linter.unusedSimpArgs false
set_option linter.unusedVariables false
namespace Go.AX
open Go

inductive F2 {α β : Type} (R : α → β → Prop) : List α → List β → Prop where
  | nil : F2 R [] []
  | cons {a : α} {b : β} {l : List α} {m : List β} : R a b → F2 R l m → F2 R (a :: l) (b :: m)
inductive Cor (P : Program) (nt : Nat) : List It → List Item → Prop where
  | nil : Cor P nt [] []
  | c {c : Code} {rc : RC} {k : List It} {t : List Item} : resC P nt c = some rc → Cor P nt k t → Cor P nt (.c rc :: k) (.code c :: t)
  | o {ops : Array Oper} {ix : List Nat} {l : List ROper} {k : List It} {t : List Item} : F2 (fun i ro => ∃ o, ops[i]? = some o ∧ resR P nt ops o = some ro) ix l → Cor P nt k t → Cor P nt (.o l :: k) (.inRegion ops ix :: t)
  | blk {id : Nat} {k : List It} {t : List Item} : Cor P nt k t → Cor P nt (.blk id :: k) (.inBlock id :: t)
  | lp {c : Code} {rc : RC} {k : List It} {t : List Item} : resC P nt c = some rc → Cor P nt k t → Cor P nt (.lp rc :: k) (.inLoop c :: t)

theorem Cor.exit {P : Program} {nt id : Nat} {k k' : List It} {t : List Item} (h : Cor P nt k t) (he : itExit id k = some k') : ∃ t', exitTo id t = some t' ∧ Cor P nt k' t' := by
  induction h with
  | nil => simp [itExit] at he
  | c hc hk ih => simp only [itExit] at he; simp only [exitTo]; exact ih he
  | o hc hk ih => simp only [itExit] at he; simp only [exitTo]; exact ih he
  | lp hc hk ih => simp only [itExit] at he; simp only [exitTo]; exact ih he
  | @blk i k t hk ih =>
    simp only [itExit] at he
    simp only [exitTo]
    split at he
    · rename_i hb
      simp only [Option.some.injEq] at he; subst he
      exact ⟨t, by rw [if_pos hb], hk⟩
    · rename_i hb
      obtain ⟨t', h1, h2⟩ := ih he
      exact ⟨t', by rw [if_neg hb]; exact h1, h2⟩

def DRel (D : Nat → Prop) (j : Inj) (ds : List ADef) (dd : List Deferred) : Prop :=
  F2 (fun (d : ADef) (e : Deferred) => AV.okL D d.args ∧ ∃ cap args, e = { target := .fn (.func d.f) cap, args := args } ∧ args ++ cap = (AV.conL j d.args).toArray) ds dd
theorem DRel.mono {D D' : Nat → Prop} {j j' : Inj} {ds : List ADef} {dd : List Deferred} (h : DRel D j ds dd) (hD : ∀ b, D b → D' b) (hj : ∀ b, D b → j' b = j b) : DRel D' j' ds dd := by
  induction h with
  | nil => exact .nil
  | cons h1 _ ih =>
    obtain ⟨ho, cap, args, he, hc⟩ := h1
    exact .cons ⟨okL_mono hD _ ho, cap, args, he, by rw [hc, conL_congr hj _ ho]⟩ ih
theorem Rel.mono {nt : Nat} {D D' : Nat → Prop} {j j' : Inj} {E : Env} {tm : Array Value} (R : Rel nt D j E tm) (hD : ∀ b, D b → D' b) (hj : ∀ b, D b → j' b = j b) : Rel nt D' j' E tm :=
  ⟨R.size, fun t ht => by rw [R.get t ht, con_congr hj _ (R.ok t ht)], fun t ht => ok_mono hD _ (R.ok t ht)⟩
theorem Rel.put {nt : Nat} {D : Nat → Prop} {j : Inj} {E : Env} {a : Act} (R : Rel nt D j E a.tmps) {d : Option Nat} {v : AV} (hd : dstOk nt d = true) (hv : v.ok D) : Rel nt D j (E.put d v) (a.put d (v.con j)).tmps := by
  cases d with
  | none => exact R
  | some d =>
    simp only [dstOk, decide_eq_true_eq] at hd
    refine ⟨by simp [Act.put, R.size], fun t ht => ?_, fun t ht => ?_⟩
    · have hr := R.get t ht
      have hs := R.size
      simp only [Act.put, Env.put, Env.st]
      by_cases he : t = d
      · subst he
        simp [Array.getD, hs, hd]
      · rw [if_neg he]
        simp only [Array.getD_eq_getD_getElem?] at hr ⊢
        rw [Array.getElem?_setIfInBounds_ne (fun e => he e.symm)]
        exact hr
    · simp only [Env.put, Env.st]
      split
      · exact hv
      · exact R.ok t ht
theorem undef_con {j : Inj} : (AV.tu []).con j = undef := rfl

def Reach (P : Program) (m : Machine) (b : Frame) (cs : List Frame) (out : BOut) (j' : Inj) (a' : Act) (w' : World) : Prop :=
  match out with
  | .ret => ∃ t', Steps P m (lone { b.at a' t' with mode := .returning } cs w')
  | .pan l => ∃ t', Steps P m (lone { b.at a' t' with mode := .panicking (l.map (PE.con j')) } cs w')
def BOut.ok (D : Nat → Prop) : BOut → Prop
  | .ret => True
  | .pan l => ∀ p ∈ l, p.v.ok D
def RunsTo (P : Program) (nt : Nat) (k : List It) (E : Env) (H : AH) (ds : List ADef) (out : BOut) (E' : Env) (H' : AH) (ds' : List ADef) : Prop :=
  ∀ base D j w (a : Act) (b : Frame) cs t, Cor P nt k t → Sim base D j H w → Rel nt D j E a.tmps → DRel D j ds a.defers →
    ∃ a' w' j', Post base D j H w H' w' j' ∧ Rel nt (Dnew D H H') j' E' a'.tmps ∧ DRel (Dnew D H H') j' ds' a'.defers ∧ out.ok (Dnew D H H') ∧ Reach P (lone (b.at a t) cs w) b cs out j' a' w'

theorem Reach.of_steps {P : Program} {m m1 : Machine} {b : Frame} {cs : List Frame} {out : BOut} {j' : Inj} {a' : Act} {w' : World} (h : Steps P m m1) (r : Reach P m1 b cs out j' a' w') : Reach P m b cs out j' a' w' := by
  cases out with
  | ret => obtain ⟨t, ht⟩ := r; exact ⟨t, h.trans ht⟩
  | pan l => obtain ⟨t, ht⟩ := r; exact ⟨t, h.trans ht⟩
theorem dnew_trans {D : Nat → Prop} {H H1 H2 : AH} (h1 : H.nx ≤ H1.nx) (h2 : H1.nx ≤ H2.nx) (b : Nat) : Dnew (Dnew D H H1) H1 H2 b ↔ Dnew D H H2 b := by
  unfold Dnew
  constructor
  · rintro ((h | ⟨h3, h4⟩) | ⟨h3, h4⟩)
    · exact .inl h
    · exact .inr ⟨h3, by omega⟩
    · exact .inr ⟨by omega, h4⟩
  · rintro (h | ⟨h3, h4⟩)
    · exact .inl (.inl h)
    · rcases Nat.lt_or_ge b H1.nx with h5 | h5
      · exact .inl (.inr ⟨h3, h5⟩)
      · exact .inr ⟨h5, h4⟩
theorem dnew_eq {D : Nat → Prop} {H H1 H2 : AH} (h1 : H.nx ≤ H1.nx) (h2 : H1.nx ≤ H2.nx) : Dnew (Dnew D H H1) H1 H2 = Dnew D H H2 := funext fun b => propext (dnew_trans h1 h2 b)

section
variable {P : Program} {nt : Nat}
/-- A step that leaves the memory as it is. -/
theorem RunsTo.step {k k1 : List It} {E : Env} {H : AH} {ds ds' : List ADef} {out : BOut} {E' : Env} {H' : AH} (h : RunsTo P nt k1 E H ds out E' H' ds')
    (hs : ∀ (a : Act) (b : Frame) cs w t D j, Cor P nt k t → Rel nt D j E a.tmps → ∃ t1, Cor P nt k1 t1 ∧ step P (lone (b.at a t) cs w) = .next (lone (b.at a t1) cs w)) : RunsTo P nt k E H ds out E' H' ds' := by
  intro base D j w a b cs t hc S Rl DR
  obtain ⟨t1, hc1, hst⟩ := hs a b cs w t D j hc Rl
  obtain ⟨a', w', j', p1, p2, p3, p4, p5⟩ := h base D j w a b cs t1 hc1 S Rl DR
  exact ⟨a', w', j', p1, p2, p3, p4, .of_steps (.one hst) p5⟩

/-- Behind some steps that end in a post. -/
theorem RunsTo.after {k k1 : List It} {E E1 : Env} {H H1 : AH} {ds ds1 ds' : List ADef} {out : BOut} {E' : Env} {H' : AH} (h : RunsTo P nt k1 E1 H1 ds1 out E' H' ds')
    (hs : ∀ base D j w (a : Act) (b : Frame) cs t, Cor P nt k t → Sim base D j H w → Rel nt D j E a.tmps → DRel D j ds a.defers →
      ∃ a1 w1 j1 t1, Cor P nt k1 t1 ∧ Post base D j H w H1 w1 j1 ∧ Rel nt (Dnew D H H1) j1 E1 a1.tmps ∧ DRel (Dnew D H H1) j1 ds1 a1.defers ∧ Steps P (lone (b.at a t) cs w) (lone (b.at a1 t1) cs w1)) : RunsTo P nt k E H ds out E' H' ds' := by
  intro base D j w a b cs t hc S Rl DR
  obtain ⟨a1, w1, j1, t1, hc1, q1, q2, q3, q4⟩ := hs base D j w a b cs t hc S Rl DR
  obtain ⟨a', w', j', p1, p2, p3, p4, p5⟩ := h base (Dnew D H H1) j1 w1 a1 b cs t1 hc1 q1.sim q2 q3
  have e := dnew_eq (D := D) q1.evo.nx p1.evo.nx
  rw [e] at p2 p3 p4
  exact ⟨a', w', j', q1.trans p1 S.lt, p2, p3, p4, .of_steps q4 p5⟩

theorem step_value {b : Frame} {a : Act} {k : List Item} {cs : List Frame} {w w' : World} {ops : Array Oper} {i : Nat} {rest : List Nat} {o : Oper} {v : Value} (ho : ops[i]? = some o) (hw : Region.wanted o (yielded ops a.tmps) = true)
    (hr : (execOp a.eval o).run P w = .ok (.value v) w') : step P (lone (b.at a (.inRegion ops (i :: rest) :: k)) cs w) = .next (lone (b.at (a.put o.dst v) (.inRegion ops rest :: k)) cs w') := by
  have hg := stepG_op (P := P) (b := b) (k := k) (cs := cs) (w := w) (rest := rest) ho hw
  have hfin : (b.at a (.inRegion ops (i :: rest) :: k)).finish v = b.at (a.put o.dst v) (.inRegion ops rest :: k) := by rw [Frame.finish_at, ho]; rfl
  refine step_lone_go ?_
  rw [hg, ← hfin]; simp [stepG.apply, hr]
theorem step_skipv {b : Frame} {a : Act} {k : List Item} {cs : List Frame} {w w' : World} {ops : Array Oper} {i : Nat} {rest : List Nat} {o : Oper} (ho : ops[i]? = some o) (hw : Region.wanted o (yielded ops a.tmps) = true)
    (hr : (execOp a.eval o).run P w = .ok .skip w') : step P (lone (b.at a (.inRegion ops (i :: rest) :: k)) cs w) = .next (lone (b.at (a.put o.dst undef) (.inRegion ops rest :: k)) cs w') := by
  have hg := stepG_op (P := P) (b := b) (k := k) (cs := cs) (w := w) (rest := rest) ho hw
  have hfin : (b.at a (.inRegion ops (i :: rest) :: k)).finish undef = b.at (a.put o.dst undef) (.inRegion ops rest :: k) := by rw [Frame.finish_at, ho]; rfl
  refine step_lone_go ?_
  rw [hg, ← hfin]; simp [stepG.apply, hr]
theorem step_unwanted {b : Frame} {a : Act} {k : List Item} {cs : List Frame} {w : World} {ops : Array Oper} {i : Nat} {rest : List Nat} {o : Oper} (ho : ops[i]? = some o) (hw : Region.wanted o (yielded ops a.tmps) = false) :
    step P (lone (b.at a (.inRegion ops (i :: rest) :: k)) cs w) = .next (lone (b.at (a.put o.dst undef) (.inRegion ops rest :: k)) cs w) := by
  have := step_op_skip (P := P) (b := b) (a := a) (k := k) (cs := cs) (w := w) (ops := ops) (i := i) (rest := rest) (by simp [ho, hw])
  simpa [ho] using this
theorem step_panic {b : Frame} {a : Act} {k : List Item} {cs : List Frame} {w w' : World} {ops : Array Oper} {i : Nat} {rest : List Nat} {o : Oper} {v : Value} (ho : ops[i]? = some o) (hw : Region.wanted o (yielded ops a.tmps) = true)
    (hr : (execOp a.eval o).run P w = .halt (.panic v) w') : step P (lone (b.at a (.inRegion ops (i :: rest) :: k)) cs w) = .next (lone { b.at a (.inRegion ops (i :: rest) :: k) with mode := .panicking [{ v, recovered := false }] } cs w') := by
  have hg := stepG_op (P := P) (b := b) (k := k) (cs := cs) (w := w) (rest := rest) ho hw
  refine step_lone_go ?_
  rw [hg, ← Frame.raise_at]; simp [stepG.apply, hr]
theorem step_defer' {b : Frame} {a : Act} {k : List Item} {cs : List Frame} {w w' : World} {ops : Array Oper} {i : Nat} {rest : List Nat} {o : Oper} {d : Deferred} (ho : ops[i]? = some o) (hw : Region.wanted o (yielded ops a.tmps) = true)
    (hr : (execOp a.eval o).run P w = .ok (.defer d) w') : step P (lone (b.at a (.inRegion ops (i :: rest) :: k)) cs w) = .next (lone (b.at ({ a with defers := d :: a.defers }.put o.dst undef) (.inRegion ops rest :: k)) cs w') := by
  have hg := stepG_op (P := P) (b := b) (k := k) (cs := cs) (w := w) (rest := rest) ho hw
  have hfin : ({ b.at a (.inRegion ops (i :: rest) :: k) with defers := d :: a.defers } : Frame).finish undef = b.at ({ a with defers := d :: a.defers }.put o.dst undef) (.inRegion ops rest :: k) := by
    have := Frame.finish_at b { a with defers := d :: a.defers } ops i rest k undef
    rw [ho] at this; exact this
  refine step_lone_go ?_
  rw [hg]; simp only [stepG.apply, Sem.runT_eq, hr, GStep.bare_after]
  exact congrArg (fun fr => GStep.go { frame := fr, callers := cs, status := .running, dying := none } w') hfin
/-- A call's steps. -/
theorem step_call {b : Frame} {a : Act} {k : List Item} {cs : List Frame} {w w1 : World} {ops : Array Oper} {i : Nat} {rest : List Nat} {o : Oper} {f : FuncId} {args : Array Value} {Q : Ending → World → Prop} (ho : ops[i]? = some o) (hw : Region.wanted o (yielded ops a.tmps) = true)
    (hr : (execOp a.eval o).run P w = .ok (.enter f args) w1) (hc : Calls P f args w1 Q) (hno : ∀ w', ¬ Q .outgrown w') :
    (∃ v w', Q (.returned v) w' ∧ Steps P (lone (b.at a (.inRegion ops (i :: rest) :: k)) cs w) (lone (b.at (a.put o.dst v) (.inRegion ops rest :: k)) cs w')) ∨
    (∃ ch w', Q (.panicked ch) w' ∧ Steps P (lone (b.at a (.inRegion ops (i :: rest) :: k)) cs w) (lone { b.at a (.inRegion ops (i :: rest) :: k) with mode := .panicking ch } cs w')) := by
  have hg := stepG_op (P := P) (b := b) (k := k) (cs := cs) (w := w) (rest := rest) ho hw
  obtain ⟨e, w', fr, hR, hsteps, _, hleave⟩ := hc (b.at a (.inRegion ops (i :: rest) :: k) :: cs)
  have henter : step P (lone (b.at a (.inRegion ops (i :: rest) :: k)) cs w) = .next (lone (Frame.enter P f args .normal) (b.at a (.inRegion ops (i :: rest) :: k) :: cs) w1) :=
    step_lone_go (by rw [hg]; simp [stepG.apply, hr, Frame.at])
  cases e with
  | returned v =>
    refine .inl ⟨v, w', hR, .head henter (Steps.trans hsteps (.one ?_))⟩
    have hfin : (b.at a (.inRegion ops (i :: rest) :: k)).finish v = b.at (a.put o.dst v) (.inRegion ops rest :: k) := by rw [Frame.finish_at, ho]; rfl
    rw [← hfin]; exact step_leave_returned hleave
  | panicked ch =>
    refine .inr ⟨ch, w', hR, .head henter (Steps.trans hsteps (.one ?_))⟩
    rw [← Frame.raise_at]; exact step_leave_panicked hleave
  | outgrown => exact absurd hR (hno w')
end

end Go.AX
