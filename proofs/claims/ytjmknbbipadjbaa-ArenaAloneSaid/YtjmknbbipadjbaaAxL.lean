/- AX, part L: the runs of a body. -/
import Derived.Test.YtjmknbbipadjbaaAxS
set_option linter.unusedSimpArgs false
set_option linter.unusedVariables false
namespace Go.AX
open Go

section
variable {P : Program} {nt : Nat}

theorem resOps_get {ops : Array Oper} : ∀ (l0 : List Oper) (l1 : List ROper), resOps P nt ops l0 = some l1 → l1.length = l0.length ∧ ∀ q o, l0[q]? = some o → resR P nt ops o = some (l1.getD q default)
  | [], l1, h => by
    simp only [resOps, Option.some.injEq] at h; subst h
    exact ⟨rfl, fun q o h => by simp at h⟩
  | o :: r, l1, h => by
    simp only [resOps, Option.bind_eq_some_iff, Option.map_eq_some_iff] at h
    obtain ⟨x, hx, l2, hl2, rfl⟩ := h
    obtain ⟨h1, h2⟩ := resOps_get r l2 hl2
    refine ⟨by simp [h1], fun q o' hq => ?_⟩
    cases q with
    | zero =>
      simp only [List.getElem?_cons_zero, Option.some.injEq] at hq
      subst hq; exact hx
    | succ q =>
      simp only [List.getElem?_cons_succ] at hq
      exact h2 q o' hq
theorem draw_steps {ops : Array Oper} {id : Nat} {L : List DOp} (hL : resD P nt ops = some L) {E E' : Env} {H H' : AH} (h : DT P L E H E' H') {base : Nat} {D : Nat → Prop} {j : Inj} {w : World} {a : Act}
    (Sm : Sim base D j H w) (R : Rel nt D j E a.tmps) (b : Frame) (t : List Item) (cs : List Frame) :
    ∃ a' w' j', Post base D j H w H' w' j' ∧ Rel nt (Dnew D H H') j' E' a'.tmps ∧ a'.defers = a.defers ∧ Steps P (lone (b.at a (.code (.region id ops true) :: t)) cs w) (lone (b.at a' t) cs w') := by
  unfold resD at hL
  split at hL
  · rename_i hm
    obtain ⟨l0, h0, hL⟩ := Option.bind_eq_some_iff.1 hL
    generalize mkCl ops.toList [] = cl at hL
    generalize greedy (l0.zip (ops.toList.map preE)) ops.size 0 = ord at hL
    unfold resD1 resD2 at hL
    split at hL
    · rename_i hok
      simp only [Option.some.injEq] at hL; subst hL
      have G := Good.of hok
      obtain ⟨hl0, hg0⟩ := resOps_get _ _ h0
      obtain ⟨Es, Hs, e0, e1, e2, e3, hst⟩ := DT.funs h
      have hlen : (mkD cl ord (ord.map fun i => l0.getD i default)).length = ops.size := by
        have := G.lenL
        simp only [List.length_map] at this
        simp [mkD, this]
      rw [hlen] at e2 e3
      have S : DSet P nt ops cl ord (ord.map fun i => l0.getD i default) Es Hs := by
        refine ⟨G, fun p hp => hst p _ ?_, fun p hp => ?_⟩
        · have hl := G.lenL
          unfold mkD
          rw [hl, List.getElem?_map, List.getElem?_range hp]; rfl
        · have hb := G.bnd p hp
          refine ⟨ops[ord.getD p 0], Array.getElem?_eq_getElem hb, ?_⟩
          rw [hg0 (ord.getD p 0) ops[ord.getD p 0] (by simp)]
          have hpo : p < ord.length := by rw [G.lenO]; exact hp
          simp [List.getD_eq_getElem?_getD, hpo]
      obtain ⟨e, a', w', ⟨rfl, j', hp, hr, hd⟩, harr⟩ := draw_any (id := id) S hm e0 e1 e2 e3 Sm R b t cs
      exact ⟨a', w', j', hp, hr, hd, harr⟩
    · cases hL
  · cases hL

theorem runs_op (R : Fin) (n : Nat) (ih : ∀ k E H ds, XF P R n k E H ds → ∃ out E' H' ds', R out E' H' ds' ∧ RunsTo P nt k E H ds out E' H' ds') (o : ROper) (l : List ROper) (k : List It) (E : Env) (H : AH) (ds : List ADef)
    (h : XF P R (n + 1) (.o (o :: l) :: k) E H ds) : ∃ out E' H' ds', R out E' H' ds' ∧ RunsTo P nt (.o (o :: l) :: k) E H ds out E' H' ds' := by
  simp only [XF] at h
  obtain ⟨g, hg, h⟩ := h
  -- what stands in the world
  have open_ : ∀ t, Cor P nt (.o (o :: l) :: k) t → ∃ ops i rest t' oo, t = .inRegion ops (i :: rest) :: t' ∧ ops[i]? = some oo ∧ dstOk nt oo.dst = true ∧ oo.dst = o.d ∧ resG ops oo.guard = some o.g ∧ dstOk nt (o.g.map (·.1)) = true ∧ resP P nt oo = some o.o ∧
      Cor P nt (.o l :: k) (.inRegion ops rest :: t') := by
    intro t hc
    cases hc with
    | @o ops ix l' k' t' hf hk =>
      cases hf with
      | @cons i ro ix' l'' h1 h2 =>
        obtain ⟨oo, ho, hr⟩ := h1
        simp only [resR] at hr
        split at hr
        · rename_i hd
          simp only [Option.bind_eq_some_iff] at hr
          obtain ⟨g', hg', hr⟩ := hr
          split at hr
          · rename_i hgd
            obtain ⟨r, hr', he⟩ := Option.map_eq_some_iff.1 hr
            subst he
            exact ⟨ops, i, ix', t', oo, rfl, ho, hd, rfl, hg', hgd, hr', .o h2 hk⟩
          · cases hr
        · cases hr
  cases g with
  | false =>
    simp only [Bool.false_eq_true, if_false] at h
    obtain ⟨out, E', H', ds', hR, hrun⟩ := ih _ _ _ _ h
    refine ⟨out, E', H', ds', hR, hrun.after ?_⟩
    intro base D j w a b cs t hc S Rl DR
    obtain ⟨ops, i, rest, t', oo, rfl, ho, hd, hdst, hgr, hgd, hres, hc1⟩ := open_ t hc
    have hw := wanted_run Rl hgr hgd hg
    refine ⟨a.put oo.dst undef, w, j, _, hc1, Post.refl S, ?_, ?_, .one (step_unwanted ho hw)⟩
    · rw [← hdst]; exact (Rl.mono (fun _ => .inl) (fun _ _ => rfl)).put (v := .tu []) hd (by simp [AV.ok, AV.okL])
    · have : (a.put oo.dst undef).defers = a.defers := by cases oo.dst <;> rfl
      rw [this]; exact DR.mono (fun _ => .inl) (fun _ _ => rfl)
  | true =>
    simp only [if_true] at h
    have putD : ∀ (a : Act) (d : Option Tmp) (v : Value), (a.put d v).defers = a.defers := fun a d v => by cases d <;> rfl
    -- a call
    have call : ∀ (f : FuncId) (as : List AV) (r : AEnd) (H1 : AH), CallT P f as H r H1 → AtEnd R (XF P R n) r o.d l k E H1 ds →
        (∀ D j (a : Act) (oo : Oper) w, Rel nt D j E a.tmps → resP P nt oo = some o.o → (execOp a.eval oo).run P w = .ok (.enter f (AV.conL j as).toArray) w ∧ AV.okL D as) →
        ∃ out E' H' ds', R out E' H' ds' ∧ RunsTo P nt (.o (o :: l) :: k) E H ds out E' H' ds' := by
      intro f as r H1 hcall hend hex
      cases r with
      | ret v =>
        simp only [AtEnd] at hend
        obtain ⟨out, E', H', ds', hR, hrun⟩ := ih _ _ _ _ hend
        refine ⟨out, E', H', ds', hR, hrun.after ?_⟩
        intro base D j w a b cs t hc S Rl DR
        obtain ⟨ops, i, rest, t', oo, rfl, ho, hd, hdst, hgr, hgd, hres, hc1⟩ := open_ t hc
        have hw := wanted_run Rl hgr hgd hg
        obtain ⟨he, hok⟩ := hex D j a oo w Rl hres
        rcases step_call (b := b) (k := t') (cs := cs) (rest := rest) ho hw he (hcall base D j w S hok) (fun w' hq => by obtain ⟨_, he, _⟩ := hq; cases he) with ⟨v', w', ⟨j', hv, hvo, hp⟩, hst⟩ | ⟨ch, w', ⟨j', hv, _⟩, _⟩
        · simp only [AEnd.con, Ending.returned.injEq] at hv
          subst hv
          refine ⟨a.put oo.dst (v.con j'), w', j', _, hc1, hp, ?_, ?_, hst⟩
          · rw [← hdst]; exact (Rl.mono (fun _ => .inl) hp.agr).put hd hvo
          · rw [putD]; exact DR.mono (fun _ => .inl) hp.agr
        · simp [AEnd.con] at hv
      | pan p =>
        simp only [AtEnd] at hend
        refine ⟨_, _, _, _, hend, ?_⟩
        intro base D j w a b cs t hc S Rl DR
        obtain ⟨ops, i, rest, t', oo, rfl, ho, hd, hdst, hgr, hgd, hres, hc1⟩ := open_ t hc
        have hw := wanted_run Rl hgr hgd hg
        obtain ⟨he, hok⟩ := hex D j a oo w Rl hres
        rcases step_call (b := b) (k := t') (cs := cs) (rest := rest) ho hw he (hcall base D j w S hok) (fun w' hq => by obtain ⟨_, he, _⟩ := hq; cases he) with ⟨v', w', ⟨j', hv, hvo, hp⟩, hst⟩ | ⟨ch, w', ⟨j', hv, hvo, hp⟩, hst⟩
        · simp [AEnd.con] at hv
        · simp only [AEnd.con, Ending.panicked.injEq] at hv
          subst hv
          exact ⟨a, w', j', hp, Rl.mono (fun _ => .inl) hp.agr, DR.mono (fun _ => .inl) hp.agr, hvo, _, hst⟩
    cases hop : o.o with
    | v vo =>
      rw [hop] at h
      obtain ⟨v, H1, hv, h⟩ := h
      obtain ⟨out, E', H', ds', hR, hrun⟩ := ih _ _ _ _ h
      refine ⟨out, E', H', ds', hR, hrun.after ?_⟩
      intro base D j w a b cs t hc S Rl DR
      obtain ⟨ops, i, rest, t', oo, rfl, ho, hd, hdst, hgr, hgd, hres, hc1⟩ := open_ t hc
      have hw := wanted_run Rl hgr hgd hg
      rw [hop] at hres
      have hrv : resV P nt oo = some vo := by
        unfold resP at hres
        split at hres
        · split at hres
          · split at hres
            · obtain ⟨q, hq, he⟩ := Option.map_eq_some_iff.1 hres; cases he
            · cases hres
          · cases hres
        · simp only [Option.bind_eq_some_iff, Option.map_eq_some_iff] at hres
          obtain ⟨_, _, _, _, he⟩ := hres; cases he
        · obtain ⟨q, hq, he⟩ := Option.map_eq_some_iff.1 hres; cases he
        · simp only [Option.bind_eq_some_iff, Option.map_eq_some_iff] at hres
          obtain ⟨_, _, _, _, he⟩ := hres; cases he
        · obtain ⟨q, hq, he⟩ := Option.map_eq_some_iff.1 hres
          simp only [ROp.v.injEq] at he; subst he; exact hq
      obtain ⟨nx, w', j', hr, hn, hvo, hp⟩ := vop_sound (o := oo) Rl S hrv hv
      rcases hn with rfl | ⟨rfl, rfl⟩
      · refine ⟨a.put oo.dst (v.con j'), w', j', _, hc1, hp, ?_, ?_, .one (step_value ho hw hr)⟩
        · rw [← hdst]; exact (Rl.mono (fun _ => .inl) hp.agr).put hd hvo
        · rw [putD]; exact DR.mono (fun _ => .inl) hp.agr
      · refine ⟨a.put oo.dst undef, w', j', _, hc1, hp, ?_, ?_, .one (step_skipv ho hw hr)⟩
        · rw [← hdst]; exact (Rl.mono (fun _ => .inl) hp.agr).put (v := .tu []) hd hvo
        · rw [putD]; exact DR.mono (fun _ => .inl) hp.agr
    | call f args =>
      rw [hop] at h
      obtain ⟨r, H1, hcall, hend⟩ := h
      refine call f _ r H1 hcall hend ?_
      intro D j a oo w Rl hres
      rw [hop] at hres
      unfold resP at hres
      split at hres
      · rename_i f' args' at' hq
        split at hres
        · rename_i fn hf
          split at hres
          · rename_i hb
            obtain ⟨as, has, he⟩ := Option.map_eq_some_iff.1 hres
            simp only [ROp.call.injEq] at he
            obtain ⟨rfl, rfl⟩ := he
            obtain ⟨r1, r2⟩ := resL_arr Rl has
            refine ⟨?_, r2⟩
            simp only [execOp, hq, resolve, Sem.run_bind, Act.eval, Deferred.ofValue, Sem.run_pure, Result.andThen_ok, invoke, Array.empty_append, Array.append_empty]
            rw [show (Array.map (fun x => a.eval x) args') = _ from r1]
            exact callFunc_run hf hb
          · cases hres
        · cases hres
      · simp only [Option.bind_eq_some_iff, Option.map_eq_some_iff] at hres
        obtain ⟨_, _, _, _, he⟩ := hres; cases he
      · obtain ⟨q, hq, he⟩ := Option.map_eq_some_iff.1 hres; cases he
      · simp only [Option.bind_eq_some_iff, Option.map_eq_some_iff] at hres
        obtain ⟨_, _, _, _, he⟩ := hres; cases he
      · obtain ⟨q, hq, he⟩ := Option.map_eq_some_iff.1 hres; cases he
    | calv x args =>
      rw [hop] at h
      obtain ⟨f, as, hfun, ⟨fn, hf, hb⟩, r, H1, hcall, hend⟩ := h
      refine call f as r H1 hcall hend ?_
      intro D j a oo w Rl hres
      rw [hop] at hres
      unfold resP at hres
      split at hres
      · split at hres
        · split at hres
          · obtain ⟨q, hq, he⟩ := Option.map_eq_some_iff.1 hres; cases he
          · cases hres
        · cases hres
      · rename_i x0 args' at' hne hq
        simp only [Option.bind_eq_some_iff, Option.map_eq_some_iff] at hres
        obtain ⟨x', hx, as', has, he⟩ := hres
        simp only [ROp.calv.injEq] at he
        obtain ⟨rfl, rfl⟩ := he
        obtain ⟨x1, x2⟩ := Rl.ev hx
        obtain ⟨r1, r2⟩ := resL_arr Rl has
        generalize ev E x' = u at *
        unfold funOf at hfun
        split at hfun
        · rename_i f' p c
          simp only [Option.some.injEq, Prod.mk.injEq] at hfun
          obtain ⟨rfl, rfl⟩ := hfun
          refine ⟨?_, ?_⟩
          · simp only [execOp, hq, resolve, Sem.run_bind, x1, AV.con, Deferred.ofValue, Sem.run_pure, Result.andThen_ok, invoke]
            rw [show (Array.map (fun x => a.eval x) args') = _ from r1]
            have : (AV.conL j p).toArray ++ (AV.conL j (vals E as')).toArray ++ (AV.conL j c).toArray = (AV.conL j (p ++ vals E as' ++ c)).toArray := by simp [conL_append]
            rw [this]
            exact callFunc_run hf hb
          · exact okL_append (okL_append x2.1 r2) x2.2
        · cases hfun
      · obtain ⟨q, hq, he⟩ := Option.map_eq_some_iff.1 hres; cases he
      · simp only [Option.bind_eq_some_iff, Option.map_eq_some_iff] at hres
        obtain ⟨_, _, _, _, he⟩ := hres; cases he
      · obtain ⟨q, hq, he⟩ := Option.map_eq_some_iff.1 hres; cases he
    | pan x =>
      rw [hop] at h
      obtain ⟨ty, v, hx, hR⟩ := h
      refine ⟨_, _, _, _, hR, ?_⟩
      intro base D j w a b cs t hc S Rl DR
      obtain ⟨ops, i, rest, t', oo, rfl, ho, hd, hdst, hgr, hgd, hres, hc1⟩ := open_ t hc
      have hw := wanted_run Rl hgr hgd hg
      rw [hop] at hres
      have hq : ∃ x0, oo.op = .panic x0 ∧ resO nt x0 = some x := by
        unfold resP at hres
        split at hres
        · split at hres
          · split at hres
            · obtain ⟨q, hq, he⟩ := Option.map_eq_some_iff.1 hres; cases he
            · cases hres
          · cases hres
        · simp only [Option.bind_eq_some_iff, Option.map_eq_some_iff] at hres
          obtain ⟨_, _, _, _, he⟩ := hres; cases he
        · rename_i x0 hq
          obtain ⟨q, hq', he⟩ := Option.map_eq_some_iff.1 hres
          simp only [ROp.pan.injEq] at he; subst he
          exact ⟨x0, hq, hq'⟩
        · simp only [Option.bind_eq_some_iff, Option.map_eq_some_iff] at hres
          obtain ⟨_, _, _, _, he⟩ := hres; cases he
        · obtain ⟨q, hq, he⟩ := Option.map_eq_some_iff.1 hres; cases he
      obtain ⟨x0, hq, hx0⟩ := hq
      obtain ⟨x1, x2⟩ := Rl.ev hx0
      rw [hx] at x1 x2
      have hr : (execOp a.eval oo).run P w = .halt (.panic ((AV.fc ty v).con j)) w := by
        simp [execOp, hq, Instr.panic, x1, AV.con, goPanic]
      refine ⟨a, w, j, Post.refl S, Rl.mono (fun _ => .inl) (fun _ _ => rfl), DR.mono (fun _ => .inl) (fun _ _ => rfl), ?_, _, .one (step_panic ho hw hr)⟩
      intro p hp
      simp only [List.mem_singleton] at hp
      subst hp
      exact ok_Dnew x2
    | dfr x args =>
      rw [hop] at h
      obtain ⟨f, as, hfun, h⟩ := h
      obtain ⟨out, E', H', ds', hR, hrun⟩ := ih _ _ _ _ h
      refine ⟨out, E', H', ds', hR, hrun.after ?_⟩
      intro base D j w a b cs t hc S Rl DR
      obtain ⟨ops, i, rest, t', oo, rfl, ho, hd, hdst, hgr, hgd, hres, hc1⟩ := open_ t hc
      have hw := wanted_run Rl hgr hgd hg
      rw [hop] at hres
      have hq : ∃ x0 args' at', oo.op = .defer { callee := .value x0, args := args', argTypes := at' } ∧ resO nt x0 = some x ∧ resL nt args'.toList = some args := by
        unfold resP at hres
        split at hres
        · split at hres
          · split at hres
            · obtain ⟨q, hq, he⟩ := Option.map_eq_some_iff.1 hres; cases he
            · cases hres
          · cases hres
        · simp only [Option.bind_eq_some_iff, Option.map_eq_some_iff] at hres
          obtain ⟨_, _, _, _, he⟩ := hres; cases he
        · obtain ⟨q, hq, he⟩ := Option.map_eq_some_iff.1 hres; cases he
        · rename_i x0 args' at' hq
          simp only [Option.bind_eq_some_iff, Option.map_eq_some_iff] at hres
          obtain ⟨x', hx, as', has, he⟩ := hres
          simp only [ROp.dfr.injEq] at he
          obtain ⟨rfl, rfl⟩ := he
          exact ⟨x0, args', at', hq, hx, has⟩
        · obtain ⟨q, hq, he⟩ := Option.map_eq_some_iff.1 hres; cases he
      obtain ⟨x0, args', at', hq, hx, has⟩ := hq
      obtain ⟨x1, x2⟩ := Rl.ev hx
      obtain ⟨r1, r2⟩ := resL_arr Rl has
      generalize ev E x = u at *
      unfold funOf at hfun
      split at hfun
      · rename_i f' p c
        simp only [Option.some.injEq, Prod.mk.injEq] at hfun
        obtain ⟨rfl, rfl⟩ := hfun
        have hr : (execOp a.eval oo).run P w = .ok (.defer { target := .fn (.func f') (AV.conL j c).toArray, args := (AV.conL j p).toArray ++ (AV.conL j (vals E args)).toArray }) w := by
          simp only [execOp, hq, resolve, Sem.run_bind, x1, AV.con, Deferred.ofValue, Sem.run_pure, Result.andThen_ok]
          rw [show (Array.map (fun x => a.eval x) args') = _ from r1]
        refine ⟨_, w, j, _, hc1, Post.refl S, ?_, ?_, .one (step_defer' ho hw hr)⟩
        · rw [← hdst]; exact Rel.put (a := { a with defers := _ :: a.defers }) (Rl.mono (fun _ => .inl) (fun _ _ => rfl)) (v := .tu []) hd (by simp [AV.ok, AV.okL])
        · rw [putD]
          refine .cons ⟨okL_mono (fun _ => .inl) _ (okL_append (okL_append x2.1 r2) x2.2), _, _, rfl, by simp [conL_append]⟩ (DR.mono (fun _ => .inl) (fun _ _ => rfl))
      · cases hfun

theorem x_runs (R : Fin) : ∀ n k E H ds, XF P R n k E H ds → ∃ out E' H' ds', R out E' H' ds' ∧ RunsTo P nt k E H ds out E' H' ds' := by
  intro n
  induction n with
  | zero => intro k E H ds h; simp [XF] at h
  | succ n ih =>
    intro k E H ds h
    cases k with
    | nil =>
      simp only [XF] at h
      refine ⟨_, _, _, _, h, ?_⟩
      intro base D j w a b cs t hc S Rl DR
      cases hc
      exact ⟨a, w, j, Post.refl S, Rl.mono (fun _ => .inl) (fun _ _ => rfl), DR.mono (fun _ => .inl) (fun _ _ => rfl), trivial, _, .one step_end⟩
    | cons it k =>
      cases it with
      | blk id =>
        simp only [XF] at h
        obtain ⟨out, E', H', ds', hR, hrun⟩ := ih _ _ _ _ h
        refine ⟨out, E', H', ds', hR, hrun.step ?_⟩
        intro a b cs w t D j hc Rl
        cases hc with
        | blk hk => exact ⟨_, hk, step_inBlock⟩
      | lp c =>
        simp only [XF] at h
        obtain ⟨out, E', H', ds', hR, hrun⟩ := ih _ _ _ _ h
        refine ⟨out, E', H', ds', hR, hrun.step ?_⟩
        intro a b cs w t D j hc Rl
        cases hc with
        | lp h1 hk => exact ⟨_, .c h1 (.lp h1 hk), step_inLoop⟩
      | o l =>
        cases l with
        | nil =>
          simp only [XF] at h
          obtain ⟨out, E', H', ds', hR, hrun⟩ := ih _ _ _ _ h
          refine ⟨out, E', H', ds', hR, hrun.step ?_⟩
          intro a b cs w t D j hc Rl
          cases hc with
          | o hf hk =>
            cases hf
            exact ⟨_, hk, step_region_end⟩
        | cons o l => exact runs_op R n ih o l k E H ds h
      | c rc =>
        have one : ∀ {k1 : List It}, XF P R n k1 E H ds → (∀ (a : Act) (b : Frame) cs w t D j, Cor P nt (.c rc :: k) t → Rel nt D j E a.tmps → ∃ t1, Cor P nt k1 t1 ∧ step P (lone (b.at a t) cs w) = .next (lone (b.at a t1) cs w)) →
            ∃ out E' H' ds', R out E' H' ds' ∧ RunsTo P nt (.c rc :: k) E H ds out E' H' ds' := by
          intro k1 h1 hs
          obtain ⟨out, E', H', ds', hR, hrun⟩ := ih _ _ _ _ h1
          exact ⟨out, E', H', ds', hR, hrun.step hs⟩
        cases rc with
        | skip =>
          simp only [XF] at h
          refine one h ?_
          intro a b cs w t D j hc Rl
          cases hc with
          | @c c _ _ t' h1 hk =>
            cases c <;> simp only [resC, Option.some.injEq, reduceCtorEq, Option.bind_eq_some_iff, Option.map_eq_some_iff, and_false, exists_false] at h1
            · exact ⟨_, hk, step_skip⟩
            · split at h1 <;> simp at h1
        | reg l =>
          simp only [XF] at h
          refine one h ?_
          intro a b cs w t D j hc Rl
          cases hc with
          | @c c _ _ t' h1 hk =>
            cases c <;> simp only [resC, Option.some.injEq, reduceCtorEq, Option.bind_eq_some_iff, Option.map_eq_some_iff, and_false, exists_false] at h1
            rename_i id ops draw
            split at h1
            · obtain ⟨_, _, he⟩ := Option.map_eq_some_iff.1 h1; cases he
            · rename_i hd
              obtain ⟨l', hl, he⟩ := Option.map_eq_some_iff.1 h1
              simp only [RC.reg.injEq] at he; subst he
              have hdf : draw = false := by simpa using hd
              subst hdf
              refine ⟨_, .o ?_ hk, step_region⟩
              have key : ∀ (l0 : List Oper) (l1 : List ROper) (s : Nat), resOps P nt ops l0 = some l1 → (∀ q, l0[q]? = ops[s + q]?) → F2 (fun i ro => ∃ o, ops[i]? = some o ∧ resR P nt ops o = some ro) (List.range' s l0.length) l1 := by
                intro l0
                induction l0 with
                | nil => intro l1 s h1 _; simp only [resOps, Option.some.injEq] at h1; subst h1; exact .nil
                | cons o l0 ihl =>
                  intro l1 s h1 h2
                  simp only [resOps, Option.bind_eq_some_iff, Option.map_eq_some_iff] at h1
                  obtain ⟨x, hx, l1', hl1, rfl⟩ := h1
                  simp only [List.length_cons, List.range'_succ]
                  refine .cons ⟨o, by have := h2 0; simpa using this.symm, hx⟩ (ihl l1' (s + 1) hl1 fun q => ?_)
                  have := h2 (q + 1)
                  simpa [Nat.add_assoc, Nat.add_comm 1 q] using this
              have := key ops.toList l' 0 hl (fun q => by simp)
              simpa [List.range_eq_range'] using this
        | regd L =>
          simp only [XF] at h
          obtain ⟨E1, H1, hDT, h⟩ := h
          obtain ⟨out, E', H', ds', hR, hrun⟩ := ih _ _ _ _ h
          refine ⟨out, E', H', ds', hR, hrun.after ?_⟩
          intro base D j w a b cs t hc S Rl DR
          cases hc with
          | @c c _ _ t' h1 hk =>
            cases c <;> simp only [resC, Option.some.injEq, reduceCtorEq, Option.bind_eq_some_iff, Option.map_eq_some_iff, and_false, exists_false] at h1
            rename_i id ops draw
            split at h1
            · rename_i hd
              subst hd
              obtain ⟨L', hL, he⟩ := Option.map_eq_some_iff.1 h1
              simp only [RC.regd.injEq] at he; subst he
              obtain ⟨a', w', j', hp, hr, hdf, hst⟩ := draw_steps hL hDT S Rl b t' cs
              refine ⟨a', w', j', t', hk, hp, hr, ?_, hst⟩
              rw [hdf]; exact DR.mono (fun _ => .inl) hp.agr
            · obtain ⟨q, hq, he⟩ := Option.map_eq_some_iff.1 h1; cases he
        | seq x y =>
          simp only [XF] at h
          refine one h ?_
          intro a b cs w t D j hc Rl
          cases hc with
          | @c c _ _ t' h1 hk =>
            cases c <;> simp only [resC, Option.some.injEq, reduceCtorEq, Option.bind_eq_some_iff, Option.map_eq_some_iff, and_false, exists_false, RC.seq.injEq] at h1
            · split at h1 <;> simp at h1
            · obtain ⟨x', hx, y', hy, rfl, rfl⟩ := h1
              exact ⟨_, .c hx (.c hy hk), step_seq⟩
        | cond c x y =>
          simp only [XF] at h
          obtain ⟨tt, htt, h⟩ := h
          refine one h ?_
          intro a b cs w t D j hc Rl
          cases hc with
          | @c c' _ _ t' h1 hk =>
            cases c' <;> simp only [resC, Option.some.injEq, reduceCtorEq, Option.bind_eq_some_iff, Option.map_eq_some_iff, and_false, exists_false, RC.cond.injEq] at h1
            · split at h1 <;> simp at h1
            · obtain ⟨c'', hc'', x', hx, y', hy, rfl, rfl, rfl⟩ := h1
              obtain ⟨e1, _⟩ := Rl.ev hc''
              rw [htt] at e1
              cases tt
              · exact ⟨_, .c hy hk, step_cond (t := false) e1⟩
              · exact ⟨_, .c hx hk, step_cond (t := true) e1⟩
        | block id x =>
          simp only [XF] at h
          refine one h ?_
          intro a b cs w t D j hc Rl
          cases hc with
          | @c c _ _ t' h1 hk =>
            cases c <;> simp only [resC, Option.some.injEq, reduceCtorEq, Option.bind_eq_some_iff, Option.map_eq_some_iff, and_false, exists_false, RC.block.injEq] at h1
            · split at h1 <;> simp at h1
            · obtain ⟨x', hx, rfl, rfl⟩ := h1
              exact ⟨_, .c hx (.blk hk), step_block⟩
        | loop x =>
          simp only [XF] at h
          refine one h ?_
          intro a b cs w t D j hc Rl
          cases hc with
          | @c c _ _ t' h1 hk =>
            cases c <;> simp only [resC, Option.some.injEq, reduceCtorEq, Option.bind_eq_some_iff, Option.map_eq_some_iff, and_false, exists_false, RC.loop.injEq] at h1
            · split at h1 <;> simp at h1
            · obtain ⟨x', hx, rfl⟩ := h1
              exact ⟨_, .c hx (.lp hx hk), step_loop⟩
        | exit id =>
          simp only [XF] at h
          obtain ⟨k', he, h⟩ := h
          refine one h ?_
          intro a b cs w t D j hc Rl
          cases hc with
          | @c c _ _ t' h1 hk =>
            cases c <;> simp only [resC, Option.some.injEq, reduceCtorEq, Option.bind_eq_some_iff, Option.map_eq_some_iff, and_false, exists_false, RC.exit.injEq] at h1
            · split at h1 <;> simp at h1
            · subst h1
              obtain ⟨t1, ht1, hc1⟩ := hk.exit he
              exact ⟨t1, hc1, step_exit ht1⟩
        | ret =>
          simp only [XF] at h
          refine ⟨_, _, _, _, h, ?_⟩
          intro base D j w a b cs t hc S Rl DR
          cases hc with
          | @c c _ _ t' h1 hk =>
            cases c <;> simp only [resC, Option.some.injEq, reduceCtorEq, Option.bind_eq_some_iff, Option.map_eq_some_iff, and_false, exists_false] at h1
            · split at h1 <;> simp at h1
            · exact ⟨a, w, j, Post.refl S, Rl.mono (fun _ => .inl) (fun _ _ => rfl), DR.mono (fun _ => .inl) (fun _ _ => rfl), trivial, _, .one step_ret⟩
end

end Go.AX
