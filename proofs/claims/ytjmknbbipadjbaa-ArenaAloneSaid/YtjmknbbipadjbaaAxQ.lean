/- AX, part Q: what is kept while a region that draws runs, whichever order it takes. -/
import Derived.Test.YtjmknbbipadjbaaAxP
set_option linter.unusedSimpArgs false
set_option linter.unusedVariables false
namespace Go.AX
open Go

structure PostD (base : Nat) (D DL : Nat → Prop) (j : Inj) (H : AH) (w : World) (H' : AH) (w' : World) (j' : Inj) : Prop where
  evo : Evo H H'
  agr : ∀ b, D b → j' b = j b
  sub : ∀ b, D b → DL b
  sim : Sim base DL j' H' w'
  fr : Fr D j H w w'
  fresh : ∀ b, DL b → ¬ D b → H'.g b ≠ .no → w.heap.size ≤ (j' b).k ∨ ∃ b0, D b0 ∧ (H.g b0).own = true ∧ H'.g b0 = .no ∧ (j b0).k = (j' b).k

section
variable {base : Nat} {D DL : Nat → Prop} {j j1 j2 : Inj} {H H1 H2 : AH} {w w1 w2 : World}
theorem PostD.refl (h : Sim base D j H w) : PostD base D D j H w H w j :=
  ⟨Evo.refl H, fun _ _ => rfl, fun _ h => h, h, Fr.refl .., fun b h1 h2 _ => absurd h1 h2⟩
theorem PostD.step (a : PostD base D DL j H w H1 w1 j1) (c : Post base DL j1 H1 w1 H2 w2 j2) (hlt : ∀ b, D b → b < H.nx) : PostD base D (Dnew DL H1 H2) j H w H2 w2 j2 := by
  have e1 := a.evo.nx
  have e2 := c.evo.nx
  refine ⟨a.evo.trans c.evo, fun b hb => (c.agr b (a.sub b hb)).trans (a.agr b hb), fun b hb => .inl (a.sub b hb), c.sim, ⟨c.fr.os.trans a.fr.os, c.fr.tape.trans a.fr.tape, c.fr.output.trans a.fr.output, Nat.le_trans a.fr.size c.fr.size, ?_⟩, ?_⟩
  · intro k hk hn
    have hk1 : w1.heap[k]? = w.heap[k]? := a.fr.block k hk hn
    rw [← hk1]
    refine c.fr.block k (Nat.lt_of_lt_of_le hk a.fr.size) ?_
    intro b hb hl
    by_cases hd : D b
    · rw [a.agr b hd]
      exact hn b hd (a.evo.back (hlt b hd) hl)
    · rcases a.fresh b hb hd (fun e => by rw [e] at hl; simp [Blk.own] at hl) with h3 | ⟨b0, hb0, hg0, _, hk0⟩
      · omega
      · rw [← hk0]; exact hn b0 hb0 hg0
  · intro b hb hd hno
    rcases hb with hb | ⟨h1, h2⟩
    · have h3 := a.sim.lt b hb
      have hno1 : H1.g b ≠ .no := fun e => hno (c.evo.no b h3 e)
      rw [c.agr b hb]
      rcases a.fresh b hb hd hno1 with h4 | ⟨b0, hb0, hg0, hn0, hk0⟩
      · exact .inl h4
      · exact .inr ⟨b0, hb0, hg0, c.evo.no b0 (Nat.lt_of_lt_of_le (hlt b0 hb0) e1) hn0, hk0⟩
    · rcases c.fresh b h1 h2 hno with h4 | ⟨b0, hb0, hg0, hn0, hk0⟩
      · exact .inl (Nat.le_trans a.fr.size h4)
      · by_cases hd0 : D b0
        · rw [a.agr b0 hd0] at hk0
          exact .inr ⟨b0, hd0, a.evo.back (hlt b0 hd0) hg0, hn0, hk0⟩
        · rcases a.fresh b0 hb0 hd0 (fun e => by rw [e] at hg0; simp [Blk.own] at hg0) with h7 | ⟨b1, hb1, hg1, hn1, hk1⟩
          · exact .inl (by omega)
          · exact .inr ⟨b1, hb1, hg1, c.evo.no b1 (Nat.lt_of_lt_of_le (hlt b1 hb1) e1) hn1, hk1.trans hk0⟩
/-- A block told that stands nowhere yet. -/
theorem Sim.lift (S : Sim base D j H w) (l : List AV) : Sim base D j (H.al l) w := by
  have hg : ∀ b, D b → (H.al l).g b = H.g b := fun b hb => by
    have := S.lt b hb
    simp only [AH.al]; rw [if_neg (by omega)]
  refine ⟨fun b hb => Nat.lt_succ_of_lt (S.lt b hb), fun b hb => ?_, S.size, fun b l hb h => S.ro b l hb (by rw [← hg b hb]; exact h), fun b l hb h => S.rw b l hb (by rw [← hg b hb]; exact h), fun b l hb h => S.mp b l hb (by rw [← hg b hb]; exact h), fun b b' hb hb' h1 h2 h3 => S.inj b b' hb hb' (by rw [← hg b hb]; exact h1) (by rw [← hg b' hb']; exact h2) h3⟩
  simp only [AH.al] at hb ⊢
  rw [if_neg (by omega)]
  exact S.wf b (by omega)
theorem PostD.lift (a : PostD base D DL j H w H1 w1 j1) (l : List AV) (hlt : ∀ b, D b → b < H.nx) : PostD base D DL j H w (H1.al l) w1 j1 := by
  have hg : ∀ b, b < H1.nx → (H1.al l).g b = H1.g b := fun b hb => by simp only [AH.al]; rw [if_neg (by omega)]
  refine ⟨a.evo.trans (Evo.al H1 l), a.agr, a.sub, a.sim.lift l, a.fr, fun b hb hd hno => ?_⟩
  rw [hg b (a.sim.lt b hb)] at hno
  rcases a.fresh b hb hd hno with h | ⟨b0, h1, h2, h3, h4⟩
  · exact .inl h
  · exact .inr ⟨b0, h1, h2, by rw [hg b0 (Nat.lt_of_lt_of_le (hlt b0 h1) a.evo.nx)]; exact h3, h4⟩

theorem heap_push {k : Nat} {x o : Obj} {h : Array Obj} (hk : h[k]? = some o) : (h.push x)[k]? = some o := by
  have := (Array.getElem?_eq_some_iff.1 hk).1
  rw [Array.getElem?_push, if_neg (by omega)]; exact hk
/-- A block told comes to stand. -/
theorem Sim.grow (S : Sim base D j H w) {b0 : Nat} {l : List AV} {t : TypeId} (h0 : ¬ D b0) (hb0 : b0 < H.nx) (hg : H.g b0 = .rw l) (hl : AV.okL D l) (hs : AV.scL l = true) :
    Sim base (fun b => D b ∨ b = b0) (j.put b0 (.new w.heap.size l.length)) H { w with heap := w.heap.push (.cells (AV.conL j l).toArray t (0, 0)) } := by
  have hj : ∀ b, D b → j.put b0 (.new w.heap.size l.length) b = j b := fun b hb => by
    simp only [Inj.put]; rw [if_neg]; rintro rfl; exact h0 hb
  have hj0 : j.put b0 (.new w.heap.size l.length) b0 = (.new w.heap.size l.length) := by simp [Inj.put]
  have row : ∀ {k vs}, RowAt w k vs → RowAt { w with heap := w.heap.push (.cells (AV.conL j l).toArray t (0, 0)) } k vs := fun {k vs} ⟨cs, t', fr, h1, h2⟩ => ⟨cs, t', fr, heap_push h1, h2⟩
  refine ⟨?_, S.wf, ?_, ?_, ?_, ?_, ?_⟩
  · rintro b (hb | rfl)
    · exact S.lt b hb
    · exact hb0
  · simp only [Array.size_push]; have := S.size; omega
  · rintro b l' (hb | rfl) h
    · obtain ⟨h1, h2, h3⟩ := S.ro b l' hb h
      rw [hj b hb, conL_congr hj _ h2]
      exact ⟨row h1, okL_mono (fun _ => .inl) _ h2, h3⟩
    · rw [hg] at h; cases h
  · rintro b l' (hb | rfl) h
    · obtain ⟨h1, h2, h3, h4⟩ := S.rw b l' hb h
      rw [hj b hb, conL_congr hj _ h2]
      obtain ⟨cs, t', fr, q1, q2⟩ := h1
      exact ⟨⟨cs, t', fr, heap_push q1, q2⟩, okL_mono (fun _ => .inl) _ h2, h3, h4⟩
    · rw [hg] at h
      simp only [Blk.rw.injEq] at h; subst h
      rw [hj0, conL_congr hj _ hl]
      refine ⟨⟨(AV.conL j l).toArray, t, (0, 0), by simp, fun i v hv => by simpa using hv, by simp [conL_length], by simp [conL_length], .inl rfl⟩, okL_mono (fun _ => .inl) _ hl, hs, S.size, rfl, rfl⟩
  · rintro b l' (hb | rfl) h
    · obtain ⟨h1, h2, h3⟩ := S.mp b l' hb h
      rw [hj b hb, conM_congr hj h2]
      obtain ⟨en, c, q1, q2⟩ := h1
      exact ⟨⟨en, c, heap_push q1, q2⟩, okM_mono (fun _ => .inl) h2, h3⟩
    · rw [hg] at h; cases h
  · rintro b b' (hb | rfl) (hb' | rfl) h1 h2 h3
    · rw [hj b hb, hj b' hb'] at h3
      exact S.inj b b' hb hb' h1 h2 h3
    · rw [hj b hb, hj0] at h3
      have := S.row_lt hb (fun e => by rw [e] at h1; simp [Blk.own] at h1)
      simp only at h3; omega
    · rw [hj b' hb', hj0] at h3
      have := S.row_lt hb' h2
      simp only at h3; omega
    · rfl
theorem PostD.grow (a : PostD base D DL j H w H1 w1 j1) {b0 : Nat} {l : List AV} {t : TypeId} (h0 : ¬ DL b0) (hb0 : b0 < H1.nx) (hg : H1.g b0 = .rw l) (hl : AV.okL DL l) (hs : AV.scL l = true) :
    PostD base D (fun b => DL b ∨ b = b0) j H w H1 { w1 with heap := w1.heap.push (.cells (AV.conL j1 l).toArray t (0, 0)) } (j1.put b0 (.new w1.heap.size l.length)) := by
  have hj : ∀ b, DL b → j1.put b0 (.new w1.heap.size l.length) b = j1 b := fun b hb => by
    simp only [Inj.put]; rw [if_neg]; rintro rfl; exact h0 hb
  refine ⟨a.evo, fun b hb => (hj b (a.sub b hb)).trans (a.agr b hb), fun b hb => .inl (a.sub b hb), a.sim.grow h0 hb0 hg hl hs, ⟨a.fr.os, a.fr.tape, a.fr.output, ?_, ?_⟩, ?_⟩
  · simp only [Array.size_push]; have := a.fr.size; omega
  · intro k hk hn
    have := a.fr.size
    rw [← a.fr.block k hk hn]
    simp only
    rw [Array.getElem?_push, if_neg (by omega)]
  · rintro b (hb | rfl) hd hno
    · rw [hj b hb]; exact a.fresh b hb hd hno
    · left; simp only [Inj.put, if_pos]; exact a.fr.size
end

theorem cls1_al {vo : VOp} {E : Env} {H H' : AH} {v : AV} (hc : vo.cls = 1) (h : vop vo E H = some (v, H')) : ∃ l, H' = H.al l ∧ (v = .pt H.nx 0 ∨ ∃ n c, v = .sl H.nx 0 n c) := by
  cases vo
  all_goals first
    | exact absurd hc (show ¬ ((0 : Nat) = 1) by decide)
    | exact absurd hc (show ¬ ((2 : Nat) = 1) by decide)
    | skip
  case alloc z =>
    simp only [vop, Option.some.injEq, Prod.mk.injEq] at h
    exact ⟨z, h.2.symm, .inl h.1.symm⟩
  case box x =>
    obtain ⟨l, _, h⟩ := Option.map_eq_some_iff.1 h
    simp only [Prod.mk.injEq] at h
    exact ⟨l, h.2.symm, .inl h.1.symm⟩
  case bsl n z ps =>
    obtain ⟨l, _, h⟩ := Option.map_eq_some_iff.1 h
    simp only [Prod.mk.injEq] at h
    exact ⟨l, h.2.symm, .inr ⟨_, _, h.1.symm⟩⟩
  case mks by_ z l c =>
    simp only [vop] at h
    generalize ev E l = u at *
    generalize ev E c = q at *
    cases u <;> cases q <;> simp only [vmks, reduceCtorEq] at h
    split at h
    · simp only [Option.some.injEq, Prod.mk.injEq] at h
      exact ⟨_, h.2.symm, .inr ⟨_, _, h.1.symm⟩⟩
    · cases h

/-! ### What an operation's text says -/
section
variable {P : Program} {nt : Nat} {oo : Oper}
theorem resP_v {vo : VOp} (hres : resP P nt oo = some (.v vo)) : resV P nt oo = some vo := by
  unfold resP at hres
  split at hres
  · split at hres
    · split at hres
      · obtain ⟨q, hq, he⟩ := Option.map_eq_some_iff.1 hres; cases he
      · cases hres
    · cases hres
  · simp only [Option.bind_eq_some_iff, Option.map_eq_some_iff] at hres
    obtain ⟨_, _, _, _, he⟩ := hres; cases he
  · obtain ⟨q, hq, he⟩ := Option.map_eq_some_iff.1 hres; cases he
  · simp only [Option.bind_eq_some_iff, Option.map_eq_some_iff] at hres
    obtain ⟨_, _, _, _, he⟩ := hres; cases he
  · obtain ⟨q, hq, he⟩ := Option.map_eq_some_iff.1 hres
    simp only [ROp.v.injEq] at he; subst he; exact hq
theorem resP_call {f : FuncId} {args : List Opd} {D : Nat → Prop} {j : Inj} {E : Env} {a : Act} {w : World} (Rl : Rel nt D j E a.tmps) (hres : resP P nt oo = some (.call f args)) :
    (execOp a.eval oo).run P w = .ok (.enter f (AV.conL j (vals E args)).toArray) w ∧ AV.okL D (vals E args) := by
  unfold resP at hres
  split at hres
  · rename_i f' args' at' hq
    split at hres
    · rename_i fn hf
      split at hres
      · rename_i hb
        obtain ⟨as, has, he⟩ := Option.map_eq_some_iff.1 hres
        simp only [ROp.call.injEq] at he
        obtain ⟨rfl, rfl⟩ := he
        obtain ⟨r1, r2⟩ := resL_arr Rl has
        refine ⟨?_, r2⟩
        simp only [execOp, hq, resolve, Sem.run_bind, Act.eval, Deferred.ofValue, Sem.run_pure, Result.andThen_ok, invoke, Array.empty_append, Array.append_empty]
        rw [show (Array.map (fun x => a.eval x) args') = _ from r1]
        exact callFunc_run hf hb
      · cases hres
    · cases hres
  · simp only [Option.bind_eq_some_iff, Option.map_eq_some_iff] at hres
    obtain ⟨_, _, _, _, he⟩ := hres; cases he
  · obtain ⟨q, hq, he⟩ := Option.map_eq_some_iff.1 hres; cases he
  · simp only [Option.bind_eq_some_iff, Option.map_eq_some_iff] at hres
    obtain ⟨_, _, _, _, he⟩ := hres; cases he
  · obtain ⟨q, hq, he⟩ := Option.map_eq_some_iff.1 hres; cases he
theorem resP_calv {x : Opd} {args : List Opd} {D : Nat → Prop} {j : Inj} {E : Env} {a : Act} {w : World} {f : FuncId} {as : List AV} {fn : Func} (Rl : Rel nt D j E a.tmps) (hres : resP P nt oo = some (.calv x args))
    (hfun : funOf (vals E args) (ev E x) = some (f, as)) (hf : P.funcs[f]? = some fn) (hb : (fn.body.isSome && !(fn.name == "runtime.NumGoroutine")) = true) :
    (execOp a.eval oo).run P w = .ok (.enter f (AV.conL j as).toArray) w ∧ AV.okL D as := by
  unfold resP at hres
  split at hres
  · split at hres
    · split at hres
      · obtain ⟨q, hq, he⟩ := Option.map_eq_some_iff.1 hres; cases he
      · cases hres
    · cases hres
  · rename_i x0 args' at' hne hq
    simp only [Option.bind_eq_some_iff, Option.map_eq_some_iff] at hres
    obtain ⟨x', hx, as', has, he⟩ := hres
    simp only [ROp.calv.injEq] at he
    obtain ⟨rfl, rfl⟩ := he
    obtain ⟨x1, x2⟩ := Rl.ev hx
    obtain ⟨r1, r2⟩ := resL_arr Rl has
    generalize ev E x' = u at *
    unfold funOf at hfun
    split at hfun
    · rename_i f' p c
      simp only [Option.some.injEq, Prod.mk.injEq] at hfun
      obtain ⟨rfl, rfl⟩ := hfun
      refine ⟨?_, ?_⟩
      · simp only [execOp, hq, resolve, Sem.run_bind, x1, AV.con, Deferred.ofValue, Sem.run_pure, Result.andThen_ok, invoke]
        rw [show (Array.map (fun x => a.eval x) args') = _ from r1]
        have : (AV.conL j p).toArray ++ (AV.conL j (vals E as')).toArray ++ (AV.conL j c).toArray = (AV.conL j (p ++ vals E as' ++ c)).toArray := by simp [conL_append]
        rw [this]
        exact callFunc_run hf hb
      · exact okL_append (okL_append x2.1 r2) x2.2
    · cases hfun
  · obtain ⟨q, hq, he⟩ := Option.map_eq_some_iff.1 hres; cases he
  · simp only [Option.bind_eq_some_iff, Option.map_eq_some_iff] at hres
    obtain ⟨_, _, _, _, he⟩ := hres; cases he
  · obtain ⟨q, hq, he⟩ := Option.map_eq_some_iff.1 hres; cases he
theorem resR_parts {ops : Array Oper} {r : ROper} (h : resR P nt ops oo = some r) : dstOk nt oo.dst = true ∧ oo.dst = r.d ∧ resG ops oo.guard = some r.g ∧ dstOk nt (r.g.map (·.1)) = true ∧ resP P nt oo = some r.o := by
  simp only [resR] at h
  split at h
  · rename_i hd
    simp only [Option.bind_eq_some_iff] at h
    obtain ⟨g', hg', h⟩ := h
    split at h
    · rename_i hgd
      obtain ⟨r', hr', he⟩ := Option.map_eq_some_iff.1 h
      subst he
      exact ⟨hd, rfl, hg', hgd, hr'⟩
    · cases h
  · cases h
end

end Go.AX
