/- AX, part G: slices cut, lengths, append, copy. -/
import Derived.Test.YtjmknbbipadjbaaAxF
set_option linter.unusedSimpArgs false
set_option linter.unusedVariables false
namespace Go.AX
open Go

section
variable {P : Program} {base nt : Nat} {D : Nat → Prop} {j : Inj} {H H' : AH} {w : World} {a : Act} {o : Oper} {v : AV} {E : Env}


/-- A bound, taken. -/
theorem bnd_run (R : Rel nt D j E a.tmps) {x : Operand} {x' : Opd} (hx : resO nt x = some x') {d top r : Nat} (hb : bnd E d top (some x') = some r) (code : BoundsCode) :
    (Instr.sliceBound (a.eval x) top code).run P w = .ok r w := by
  obtain ⟨x1, x2⟩ := R.ev hx
  rw [x1]
  simp only [bnd] at hb
  split at hb
  · rename_i k i he
    split at hb
    · rename_i hi
      simp only [Option.some.injEq] at hb; subst hb
      rw [he]
      simp [AV.con, Instr.sliceBound, asIntOf, hi.1, hi.2]
    · cases hb
  · cases hb
theorem bounds_run (R : Rel nt D j E a.tmps) {lo hi mx : Option Operand} {lo' hi' mx' : Option Opd} (hlo : resOO nt lo = some lo') (hhi : resOO nt hi = some hi') (hmx : resOO nt mx = some mx') (hsome : (mx'.isSome && hi'.isNone) = false)
    {len cap l h m : Nat} (hm : bnd E cap cap mx' = some m) (hh : bnd E len m hi' = some h) (hl : bnd E 0 h lo' = some l) (isSlice : Bool) :
    (Instr.sliceBounds isSlice len cap (lo.map a.eval) (hi.map a.eval) (mx.map a.eval)).run P w = .ok (l, h, m) w := by
  cases mx with
  | none =>
    simp only [resOO, Option.some.injEq] at hmx; subst hmx
    simp only [bnd, Option.some.injEq] at hm; subst hm
    cases hi with
    | none =>
      simp only [resOO, Option.some.injEq] at hhi; subst hhi
      simp only [bnd, Option.some.injEq] at hh; subst hh
      simp only [Instr.sliceBounds, Option.map_none, Sem.run_bind, Sem.run_pure, Result.andThen_ok]
      cases lo with
      | none =>
        simp only [resOO, Option.some.injEq] at hlo; subst hlo
        simp only [bnd, Option.some.injEq] at hl; subst hl
        simp
      | some x =>
        obtain ⟨x', hx, rfl⟩ := Option.map_eq_some_iff.1 hlo
        have hL := fun code => bnd_run (P := P) (w := w) R hx hl code
        simp [hL]
    | some y =>
      obtain ⟨y', hy, rfl⟩ := Option.map_eq_some_iff.1 hhi
      have hH := bnd_run (P := P) (w := w) R hy hh (if isSlice then .sliceAcap else .sliceAlen)
      simp only [Instr.sliceBounds, Option.map_none, Option.map_some, Sem.run_bind, Sem.run_pure, Result.andThen_ok, hH]
      cases lo with
      | none =>
        simp only [resOO, Option.some.injEq] at hlo; subst hlo
        simp only [bnd, Option.some.injEq] at hl; subst hl
        simp
      | some x =>
        obtain ⟨x', hx, rfl⟩ := Option.map_eq_some_iff.1 hlo
        have hL := fun code => bnd_run (P := P) (w := w) R hx hl code
        simp [hL]
  | some z =>
    obtain ⟨z', hz, rfl⟩ := Option.map_eq_some_iff.1 hmx
    have hM := bnd_run (P := P) (w := w) R hz hm (if isSlice then .slice3Acap else .slice3Alen)
    cases hi with
    | none =>
      simp only [resOO, Option.some.injEq] at hhi; subst hhi
      simp at hsome
    | some y =>
      obtain ⟨y', hy, rfl⟩ := Option.map_eq_some_iff.1 hhi
      have hH := bnd_run (P := P) (w := w) R hy hh .slice3B
      simp only [Instr.sliceBounds, Option.map_some, Sem.run_bind, Sem.run_pure, Result.andThen_ok, hM, hH]
      cases lo with
      | none =>
        simp only [resOO, Option.some.injEq] at hlo; subst hlo
        simp only [bnd, Option.some.injEq] at hl; subst hl
        simp
      | some x =>
        obtain ⟨x', hx, rfl⟩ := Option.map_eq_some_iff.1 hlo
        have hL := fun code => bnd_run (P := P) (w := w) R hx hl code
        simp [hL]

theorem bnd_le {d top r : Nat} {x : Option Opd} (h : bnd E d top x = some r) (hd : d ≤ top) : r ≤ top := by
  cases x with
  | none => simp only [bnd, Option.some.injEq] at h; omega
  | some x =>
    simp only [bnd] at h
    split at h
    · split at h
      · simp only [Option.some.injEq] at h; omega
      · cases h
    · cases h
theorem slcSl_con {es b o l h m : Nat} : (slcSl es b o l h m).con j = .slice (some (if m = l then (j b).at o else ((j b).at o).add (l * es))) (h - l) (m - l) := by
  simp only [slcSl, AV.con, at_add]
  split <;> rfl

theorem snd_slc (R : Rel nt D j E a.tmps) (S : Sim base D j H w) {t e : TypeId} {s : Nat} {x : Operand} {x' : Opd} {lo hi mx : Option Operand} {lo' hi' mx' : Option Opd} (ho : o.op = .slice t x lo hi mx) (hu : P.underlying t = some (.slice e)) (hs : sizT P e = some s)
    (hx : resO nt x = some x') (hlo : resOO nt lo = some lo') (hhi : resOO nt hi = some hi') (hmx : resOO nt mx = some mx') (hsome : (mx'.isSome && hi'.isNone) = false)
    (h : vslc s H E (ev E x') lo' hi' mx' = some v) : Snd P base D j H w a.eval o v H := by
  obtain ⟨x1, x2⟩ := R.ev hx
  have fin : ∀ (vv : AV) ad len cap l h m, vv.ok D → a.eval x = .slice ad len cap → (∀ isSlice, (Instr.sliceBounds isSlice len cap (lo.map a.eval) (hi.map a.eval) (mx.map a.eval)).run P w = .ok (l, h, m) w) →
      vv.con j = .slice (if m = l then ad else ad.map (·.add (l * s))) (h - l) (m - l) → Snd P base D j H w a.eval o vv H := by
    intro vv ad len cap l h m hv hxe hb hc
    refine Snd.same S ?_ hv
    simp only [execOp, ho, Instr.sliceAt, Instr.slice, Sem.run_bind, run_underlying hu, Result.andThen_ok, hxe, hb, run_sizeOf' hs, Sem.run_pure, hc]
  generalize ev E x' = u at *
  unfold vslc at h
  split at h
  · simp only [Option.bind_eq_some_iff] at h
    obtain ⟨m, hm, h', hh, l, hl, hv⟩ := h
    simp only [Option.some.injEq] at hv; subst hv
    have e1 := bnd_le hm (Nat.le_refl _)
    have e2 := bnd_le hh (Nat.zero_le _)
    have e3 := bnd_le hl (Nat.zero_le _)
    refine fin .sn none 0 0 l h' m (by simp [AV.ok]) (by simpa [AV.con] using x1) (fun i => bounds_run R hlo hhi hmx hsome hm hh hl i) ?_
    have q1 : m = 0 := by omega
    have q2 : h' = 0 := by omega
    have q3 : l = 0 := by omega
    subst q1; subst q2; subst q3
    simp [AV.con]
  · rename_i b off n c
    simp only [Option.bind_eq_some_iff] at h
    obtain ⟨m, hm, h', hh, l, hl, hv⟩ := h
    simp only [Option.some.injEq] at hv; subst hv
    refine fin _ (some ((j b).at off)) n c l h' m x2 (by simpa [AV.con] using x1) (fun i => bounds_run R hlo hhi hmx hsome hm hh hl i) ?_
    rw [slcSl_con]
    split <;> simp
  · rename_i b off q n es'
    split at h
    · rename_i hc
      obtain ⟨rfl, hes, hfit, hown⟩ := hc
      obtain ⟨hcap, hne⟩ := room S x2 hes (isRw_own hown) hfit
      split at h
      · simp only [Option.bind_eq_some_iff] at h
        obtain ⟨h', hh, l, hl, hv⟩ := h
        have e2 := bnd_le hh (Nat.le_refl _)
        have e3 := bnd_le hl (Nat.zero_le _)
        have hm : bnd E (((j b).e - off) / es') (((j b).e - off) / es') none = some (((j b).e - off) / es') := rfl
        have hh' : bnd E n (((j b).e - off) / es') hi' = some h' := by
          cases hi' with
          | none => exact hh
          | some y =>
            simp only [bnd] at hh ⊢
            split at hh
            · split at hh
              · rename_i hz; rw [if_pos ⟨hz.1, by omega⟩]; exact hh
              · cases hh
            · cases hh
        have hx1 : a.eval x = .slice (some ⟨(j b).k, if ((j b).e - off) / es' = 0 then q else off, none⟩) n (((j b).e - off) / es') := by simpa only [AV.con] using x1
        simp only [Option.some.injEq] at hv
        refine fin v _ n _ l h' _ ?_ hx1 (fun i => bounds_run R hlo hhi hmx hsome hm hh' hl i) ?_
        · subst hv; split <;> exact x2
        · subst hv
          by_cases hl0 : l = 0
          · subst hl0
            simp only [if_true, AV.con, Nat.sub_zero]
            split
            · rfl
            · simp [addr_add]
          · rw [if_neg hl0]
            have hpos : ((j b).e - off) / es' ≠ 0 := hne (by omega)
            have hdiv : ((j b).e - (off + l * es')) / es' = ((j b).e - off) / es' - l := by
              rw [← Nat.sub_sub, Nat.mul_comm l es', Nat.sub_mul_div]
            simp only [AV.con, hdiv, if_neg hpos]
            have hle : l ≤ ((j b).e - off) / es' := by omega
            by_cases hz : ((j b).e - off) / es' = l
            · rw [if_pos (by omega), if_pos hz]
            · rw [if_neg (by omega), if_neg hz]
              simp [addr_add]
      · rename_i mo
        simp only [Option.bind_eq_some_iff] at h
        obtain ⟨m, hm, h', hh, l, hl, h⟩ := h
        have e1 := bnd_le hm (Nat.le_refl _)
        have hm' : bnd E (((j b).e - off) / es') (((j b).e - off) / es') (some mo) = some m := by
          simp only [bnd] at hm ⊢
          split at hm
          · split at hm
            · rename_i hz; rw [if_pos ⟨hz.1, by omega⟩]; exact hm
            · cases hm
          · cases hm
        have hx1 : a.eval x = .slice (some ⟨(j b).k, if ((j b).e - off) / es' = 0 then q else off, none⟩) n (((j b).e - off) / es') := by simpa only [AV.con] using x1
        split at h
        · rename_i hq
          simp only [Option.some.injEq] at h; subst h
          refine fin _ _ n _ l h' m x2 hx1 (fun i => bounds_run R hlo hhi hmx hsome hm' hh hl i) ?_
          rw [slcSl_con, S.own_at x2 hown]
          have hoff : (if ((j b).e - off) / es' = 0 then q else off) = off := by
            split
            · rename_i hz
              rcases hq with hq | hq
              · exact hq.symm
              · exact absurd hz (hne (by omega))
            · rfl
          rw [hoff]
          split <;> simp
        · cases h
    · cases h
  · cases h

theorem snd_slca (R : Rel nt D j E a.tmps) (S : Sim base D j H w) {t e : TypeId} {n s : Nat} {x : Operand} {x' : Opd} {lo hi mx : Option Operand} {lo' hi' mx' : Option Opd} (ho : o.op = .slice t x lo hi mx) (hu : P.underlying t = some (.array n e)) (hs : sizT P e = some s)
    (hx : resO nt x = some x') (hlo : resOO nt lo = some lo') (hhi : resOO nt hi = some hi') (hmx : resOO nt mx = some mx') (hsome : (mx'.isSome && hi'.isNone) = false)
    (h : vslca n s E (ev E x') lo' hi' mx' = some v) : Snd P base D j H w a.eval o v H := by
  obtain ⟨x1, x2⟩ := R.ev hx
  generalize ev E x' = u at *
  unfold vslca at h
  split at h
  · rename_i b off
    simp only [Option.bind_eq_some_iff] at h
    obtain ⟨m, hm, h', hh, l, hl, hv⟩ := h
    simp only [Option.some.injEq] at hv; subst hv
    refine Snd.same S ?_ x2
    have hb := bounds_run (P := P) (w := w) R hlo hhi hmx hsome hm hh hl false
    rw [slcSl_con]
    simp only [execOp, ho, Instr.sliceAt, Sem.run_bind, run_underlying hu, Result.andThen_ok, x1, AV.con, Instr.sureAddr, Sem.run_pure, hb, run_sizeOf' hs]
  · cases h
theorem snd_slcs (R : Rel nt D j E a.tmps) (S : Sim base D j H w) {t : TypeId} {x : Operand} {x' : Opd} {lo hi : Option Operand} {lo' hi' : Option Opd} (ho : o.op = .slice t x lo hi none) (hu : P.underlying t = some .string)
    (hx : resO nt x = some x') (hlo : resOO nt lo = some lo') (hhi : resOO nt hi = some hi') (h : vslcs E (ev E x') lo' hi' = some v) : Snd P base D j H w a.eval o v H := by
  obtain ⟨x1, x2⟩ := R.ev hx
  generalize ev E x' = u at *
  unfold vslcs at h
  split at h
  · rename_i st
    simp only [Option.bind_eq_some_iff] at h
    obtain ⟨h', hh, l, hl, hv⟩ := h
    simp only [Option.some.injEq] at hv; subst hv
    refine Snd.same S ?_ (by simp [AV.ok])
    have hb := bounds_run (P := P) (w := w) R hlo hhi (mx := none) (mx' := none) rfl (by simp) (cap := st.size) (m := st.size) rfl hh hl false
    simp only [Option.map_none] at hb
    simp only [execOp, ho, Instr.sliceAt, Instr.slice, Sem.run_bind, run_underlying hu, Result.andThen_ok, x1, AV.con, Option.map_none, Option.isSome_none, Bool.false_eq_true, if_false, Sem.run_pure, hb]
  · cases h

/-- Only the tape has gone on. -/
theorem Sim.world {w' : World} (S : Sim base D j H w) (h : w'.heap = w.heap) : Sim base D j H w' := by
  refine ⟨S.lt, S.wf, by rw [h]; exact S.size, fun b l hb hg => ?_, fun b l hb hg => ?_, fun b l hb hg => ?_, S.inj⟩
  · obtain ⟨⟨cs, t, fr, h1, h2⟩, h3⟩ := S.ro b l hb hg
    exact ⟨⟨cs, t, fr, by rw [h]; exact h1, h2⟩, h3⟩
  · obtain ⟨⟨cs, t, fr, h1, h2⟩, h3⟩ := S.rw b l hb hg
    exact ⟨⟨cs, t, fr, by rw [h]; exact h1, h2⟩, h3⟩
  · obtain ⟨⟨en, c, h1, h2⟩, h3⟩ := S.mp b l hb hg
    exact ⟨⟨en, c, by rw [h]; exact h1, h2⟩, h3⟩

theorem cvsame_post (S : Sim base D j H w) {b : Nat} (hb : D b) (hown : (H.g b).own = true) {w' : World} (hw : ∀ cs t fr, w.heap[(j b).k]? = some (.cells cs t fr) → w' = w.freeze ⟨(j b).k, cs.size, none⟩ 1)
    (hmap : (∀ cs t fr, w.heap[(j b).k]? ≠ some (.cells cs t fr)) → w' = w) : Post base D j H w H w' j := by
  cases hg : H.g b with
  | no => rw [hg] at hown; simp [Blk.own] at hown
  | ro l => rw [hg] at hown; simp [Blk.own] at hown
  | mp l =>
    obtain ⟨⟨en, c, g1, g2⟩, g3⟩ := S.mp b l hb hg
    have := hmap (fun cs t fr e => by rw [g1] at e; cases e)
    subst this
    exact Post.refl S
  | rw l =>
    obtain ⟨⟨cs, t, fr, g1, g2, g5, g6, g7⟩, g3, g4, g8⟩ := S.rw b l hb hg
    have hw' := hw cs t fr g1
    subst hw'
    have hk : (w.freeze ⟨(j b).k, cs.size, none⟩ 1).heap[(j b).k]? = some (.cells cs t (if fr.1 = fr.2 then (cs.size, cs.size + 1) else (min fr.1 cs.size, max fr.2 (cs.size + 1)))) := by
      simp only [World.freeze, Nat.one_ne_zero, if_false, Array.getElem?_modify, if_true, g1, Option.map_some]
      obtain ⟨lo, hi⟩ := fr
      simp
    have hother : ∀ k, k ≠ (j b).k → (w.freeze ⟨(j b).k, cs.size, none⟩ 1).heap[k]? = w.heap[k]? := by
      intro k hk
      simp only [World.freeze, Nat.one_ne_zero, if_false, Array.getElem?_modify]
      rw [if_neg (fun e => hk e.symm)]
    have hold : ∀ x, D x → x ≠ b → H.g x ≠ .no → (j x).k ≠ (j b).k := fun x hx hne hn e => hne (S.inj b x hb hx hown hn e)
    refine ⟨Evo.refl H, fun _ _ => rfl, Sim.iffD (D := D) ⟨S.lt, S.wf, ?_, ?_, ?_, ?_, S.inj⟩ (fun x => Dnew.self), ⟨?_, ?_, ?_, ?_, ?_⟩, fun x h1 h2 _ => by omega⟩
    · have := S.size
      simpa [World.freeze] using this
    · intro x lx hx hro
      obtain ⟨⟨cs1, t1, fr1, h1, h2⟩, h3⟩ := S.ro x lx hx hro
      have hne : x ≠ b := fun e => by subst e; rw [hg] at hro; cases hro
      exact ⟨⟨cs1, t1, fr1, by rw [hother _ (hold x hx hne (by rw [hro]; simp))]; exact h1, h2⟩, h3⟩
    · intro x lx hx hrw
      by_cases hne : x = b
      · subst hne
        rw [hg] at hrw
        simp only [Blk.rw.injEq] at hrw
        subst hrw
        refine ⟨⟨cs, t, _, hk, g2, g5, g6, ?_⟩, g3, g4, g8⟩
        split
        · exact .inr (Nat.le_refl _)
        · rename_i hne
          rcases g7 with g7 | g7
          · exact absurd g7 hne
          · exact .inr (by simp; omega)
      · obtain ⟨⟨cs1, t1, fr1, h1, h2⟩, h3⟩ := S.rw x lx hx hrw
        exact ⟨⟨cs1, t1, fr1, by rw [hother _ (hold x hx hne (by rw [hrw]; simp))]; exact h1, h2⟩, h3⟩
    · intro x lx hx hrw
      have hne : x ≠ b := fun e => by subst e; rw [hg] at hrw; cases hrw
      obtain ⟨⟨cs1, t1, h1, h2⟩, h3⟩ := S.mp x lx hx hrw
      exact ⟨⟨cs1, t1, by rw [hother _ (hold x hx hne (by rw [hrw]; simp))]; exact h1, h2⟩, h3⟩
    · simp [World.freeze]
    · simp [World.freeze]
    · simp [World.freeze]
    · simp [World.freeze]
    · intro k _ hn
      exact hother k (fun e => hn b hb hown e.symm)

theorem snd_cvsame (R : Rel nt D j E a.tmps) (S : Sim base D j H w) {s e : TypeId} {x : Operand} {x' : Opd} (ho : o.op = .convert s s x) (hu : P.underlying s = some (.slice e)) (he : isU8 P e = true) (hx : resO nt x = some x') (h : vcvsame H (ev E x') = some v) :
    Snd P base D j H w a.eval o v H := by
  obtain ⟨x1, x2⟩ := R.ev hx
  generalize ev E x' = u at *
  unfold vcvsame at h
  split at h
  · rename_i b off n c
    split at h
    · rename_i hown
      simp only [Option.some.injEq] at h; subst h
      have hue : (underlying e).run P w = .ok (.int .u8) w := by
        unfold isU8 at he
        split at he
        · rename_i hd; exact run_underlying hd w
        · cases he
      have hrun : (execOp a.eval o).run P w = ((markStringish ((j b).at off)).run P w).andThen fun _ w' => .ok (.value ((AV.sl b off n c).con j)) w' := by
        simp only [execOp, ho, convert, Sem.run_bind, run_underlying hu, Result.andThen_ok, x1, AV.con, hue, beq_self_eq_true, Sem.run_pure]
        cases (markStringish ((j b).at off)).run P w <;> rfl
      have hblk : ((j b).at off).block = (j b).k := by unfold CB.at Addr.add; split <;> rfl
      by_cases hc : ∃ cs t fr, w.heap[(j b).k]? = some (.cells cs t fr)
      · obtain ⟨cs, t, fr, hcs⟩ := hc
        have hsh : w.shape? (j b).k = some (t, cs.size) := by simp [World.shape?, hcs]
        have hm : (markStringish ((j b).at off)).run P w = .ok () (w.freeze ⟨(j b).k, cs.size, none⟩ 1) := by
          simp [markStringish, hblk, hsh]
        refine ⟨_, _, j, by rw [hrun, hm]; rfl, .inl rfl, ok_Dnew x2, cvsame_post S x2 hown (fun cs' t' fr' h' => ?_) (fun hn => absurd hcs (hn _ _ _))⟩
        rw [hcs] at h'
        simp only [Option.some.injEq, Obj.cells.injEq] at h'
        rw [h'.1]
      · have hsh : w.shape? (j b).k = none := by
          unfold World.shape?
          split
          · rename_i c e' f hh; exact absurd ⟨_, _, _, hh⟩ hc
          · rfl
        have hm : (markStringish ((j b).at off)).run P w = .ok () w := by
          simp [markStringish, hblk, hsh]
        exact ⟨_, _, j, by rw [hrun, hm]; rfl, .inl rfl, ok_Dnew x2, Post.refl S⟩
    · cases h
  · cases h

/-! ### Lengths, the least and the greatest -/
theorem call_run {c : Call} {b : Builtin} (ho : o.op = .call c) (hc : c.callee = .builtin b) {r : Result Next} (h : (builtin b c.argTypes o.type (c.args.map fun | .const _ => true | _ => false) (c.args.map a.eval)).run P w = r) : (execOp a.eval o).run P w = r := by
  simp only [execOp, ho, resolve, hc, Sem.run_bind, Sem.run_pure, Result.andThen_ok, invoke]
  exact h
theorem args_one {c : Call} {x : Operand} (hx : c.args.toList = [x]) : c.args.map a.eval = #[a.eval x] := by
  apply Array.ext'; simp [hx]
theorem args_two {c : Call} {x y : Operand} (hx : c.args.toList = [x, y]) : c.args.map a.eval = #[a.eval x, a.eval y] := by
  apply Array.ext'; simp [hx]
theorem snd_lenk (S : Sim base D j H w) {n : Nat} {x : Operand} {t e : TypeId} {c : Call} (ho : o.op = .call c) (hc : c.callee = .builtin .len) (ht : c.argTypes[0]? = some t) (hx : c.args.toList = [x])
    (hu : P.underlying t = some (.array n e) ∨ ∃ ar, P.underlying t = some (.pointer ar) ∧ P.underlying ar = some (.array n e)) : Snd P base D j H w a.eval o (.it .i64 n) H := by
  refine Snd.same S (call_run ho hc ?_) (by simp [AV.ok])
  rcases hu with hu | ⟨ar, hu, hv⟩
  · simp [builtin, Builtin.len_, ht, args_one hx, run_underlying hu, AV.con, goInt]
  · simp [builtin, Builtin.len_, ht, args_one hx, run_underlying hu, run_underlying hv, AV.con, goInt]
theorem snd_len (R : Rel nt D j E a.tmps) (S : Sim base D j H w) {k : Nat} {x : Operand} {x' : Opd} {t : TypeId} {c : Call} (ho : o.op = .call c) (hc : c.callee = .builtin .len) (ht : c.argTypes[0]? = some t) (hx : c.args.toList = [x]) (hx' : resO nt x = some x')
    (hu : k = 0 ∧ P.underlying t = some .string ∨ k = 1 ∧ (∃ e, P.underlying t = some (.slice e)) ∨ k = 2 ∧ ∃ q e, P.underlying t = some (.map q e)) (h : vlen k H (ev E x') = some v) : Snd P base D j H w a.eval o v H := by
  obtain ⟨x1, x2⟩ := R.ev hx'
  have fin : ∀ vv : AV, vv.ok D → (Builtin.len_ c.argTypes o.type #[a.eval x]).run P w = .ok (vv.con j) w → Snd P base D j H w a.eval o vv H := by
    intro vv hv hr
    refine Snd.same S (call_run ho hc ?_) hv
    simp [builtin, args_one hx, hr]
  generalize ev E x' = u at *
  rcases hu with ⟨rfl, hu⟩ | ⟨rfl, e, hu⟩ | ⟨rfl, q, e, hu⟩
  · simp only [vlen] at h
    split at h
    · simp only [Option.some.injEq] at h; subst h
      refine fin _ (by simp [AV.ok]) ?_
      simp [Builtin.len_, ht, x1, AV.con, run_underlying hu, goInt]
    · cases h
  · simp only [vlen] at h
    split at h
    · simp only [Option.some.injEq] at h; subst h
      refine fin _ (by simp [AV.ok]) ?_
      simp [Builtin.len_, ht, x1, AV.con, run_underlying hu, goInt]
    · simp only [Option.some.injEq] at h; subst h
      refine fin _ (by simp [AV.ok]) ?_
      simp [Builtin.len_, ht, x1, AV.con, run_underlying hu, goInt]
    · simp only [Option.some.injEq] at h; subst h
      refine fin _ (by simp [AV.ok]) ?_
      simp [Builtin.len_, ht, x1, AV.con, run_underlying hu, goInt]
    · cases h
  · simp only [vlen] at h
    split at h
    · simp only [Option.some.injEq] at h; subst h
      refine fin _ (by simp [AV.ok]) ?_
      simp [Builtin.len_, ht, x1, AV.con, run_underlying hu, goInt]
    · rename_i b
      split at h
      · rename_i es hg
        simp only [Option.some.injEq] at h; subst h
        obtain ⟨⟨en, cl, g1, g2⟩, _⟩ := S.mp b es x2 hg
        have hlen : en.size = es.length := by
          have := congrArg List.length g2
          simpa [conM] using this
        refine fin _ (by simp [AV.ok]) ?_
        have hgo : (getObj (j b).k).run P w = .ok (.map en cl) w := by
          simp [getObj, Sem.run, g1]
        simp [Builtin.len_, ht, x1, AV.con, run_underlying hu, goInt, hgo, hlen]
      · cases h
    · cases h
theorem snd_cap (R : Rel nt D j E a.tmps) (S : Sim base D j H w) {x : Operand} {x' : Opd} {t e : TypeId} {c : Call} (ho : o.op = .call c) (hc : c.callee = .builtin .cap) (ht : c.argTypes[0]? = some t) (hx : c.args.toList = [x]) (hx' : resO nt x = some x')
    (hu : P.underlying t = some (.slice e)) (h : vcap (ev E x') = some v) : Snd P base D j H w a.eval o v H := by
  obtain ⟨x1, x2⟩ := R.ev hx'
  generalize ev E x' = u at *
  unfold vcap at h
  split at h
  · simp only [Option.some.injEq] at h; subst h
    refine Snd.same S (call_run ho hc ?_) (by simp [AV.ok])
    simp [builtin, Builtin.cap_, ht, args_one hx, x1, AV.con, run_underlying hu, goInt]
  · simp only [Option.some.injEq] at h; subst h
    refine Snd.same S (call_run ho hc ?_) (by simp [AV.ok])
    simp [builtin, Builtin.cap_, ht, args_one hx, x1, AV.con, run_underlying hu, goInt]
  · cases h
theorem mm2_run {mx : Bool} {x y : AV} (h : mm2 mx x y = some v) : ((match mx with | true => Builtin.max2 | false => Builtin.min2) (x.con j) (y.con j)).run P w = .ok (v.con j) w ∧ v.ok D := by
  cases x <;> cases y <;> simp only [mm2, Option.some.injEq, reduceCtorEq] at h
  subst h
  cases mx <;> exact ⟨by simp [AV.con, Builtin.max2, Builtin.min2], by simp [AV.ok]⟩
theorem mmL_run {mx : Bool} : ∀ {ys : List AV} {x v : AV}, x.ok D → mmL mx x ys = some v → ((AV.conL j ys).foldlM (m := Sem) (match mx with | true => Builtin.max2 | false => Builtin.min2) (x.con j)).run P w = .ok (v.con j) w ∧ v.ok D
  | [], x, v, hx, h => by
    simp only [mmL, Option.some.injEq] at h; subst h
    exact ⟨by simp [AV.conL], hx⟩
  | y :: r, x, v, hx, h => by
    simp only [mmL, Option.bind_eq_some_iff] at h
    obtain ⟨c, hc, h⟩ := h
    obtain ⟨r1, r2⟩ := mm2_run (P := P) (j := j) (w := w) (D := D) hc
    obtain ⟨r3, r4⟩ := mmL_run r2 h
    refine ⟨?_, r4⟩
    simp only [AV.conL, List.foldlM_cons, Sem.run_bind, r1, Result.andThen_ok]
    exact r3
theorem snd_mm (R : Rel nt D j E a.tmps) (S : Sim base D j H w) {mx : Bool} {xs : List Opd} {c : Call} (ho : o.op = .call c) (hc : c.callee = .builtin (if mx then .max else .min)) (hx : resL nt c.args.toList = some xs)
    (h : (match xs with | [] => none | x :: r => mmL mx (ev E x) (r.map (ev E))) = some v) : Snd P base D j H w a.eval o v H := by
  obtain ⟨r1, r2⟩ := resL_run R hx
  cases xs with
  | nil => simp at h
  | cons x r =>
    simp only [List.map_cons] at r1 r2 h
    have r2' : (ev E x).ok D ∧ AV.okL D (r.map (ev E)) := r2
    obtain ⟨q1, q2⟩ := mmL_run (P := P) (j := j) (w := w) r2'.1 h
    refine Snd.same S (call_run ho hc ?_) q2
    have hl : (c.args.map a.eval).toList = (ev E x).con j :: AV.conL j (r.map (ev E)) := by
      rw [Array.toList_map, r1]; rfl
    cases mx
    · simp only [Bool.false_eq_true, if_false, builtin, Builtin.min_, hl, Sem.run_bind]
      rw [q1]; rfl
    · simp only [if_true, builtin, Builtin.max_, hl, Sem.run_bind]
      rw [q1]; rfl
end

end Go.AX
