/- AX, part I: copy; and every operation. -/
import Derived.Test.YtjmknbbipadjbaaAxH
set_option linter.unusedSimpArgs false
set_option linter.unusedVariables false
namespace Go.AX
open Go

section
variable {P : Program} {base nt : Nat} {D : Nat → Prop} {j : Inj} {H H' : AH} {w : World} {a : Act} {o : Oper} {v : AV} {E : Env}

theorem okL_take {l : List AV} {k : Nat} (h : AV.okL D l) : AV.okL D (l.take k) := okL_iff.2 fun v hv => okL_iff.1 h v (List.mem_of_mem_take hv)
theorem scL_take {l : List AV} {k : Nat} (h : AV.scL l = true) : AV.scL (l.take k) = true := List.all_eq_true.2 fun v hv => List.all_eq_true.1 h v (List.mem_of_mem_take hv)
theorem snd_cpy (R : Rel nt D j E a.tmps) (S : Sim base D j H w) {d s : Operand} {d' s' : Opd} {t e : TypeId} {es : Nat} {c : Call} (ho : o.op = .call c) (hc : c.callee = .builtin .copy) (ht0 : c.argTypes[0]? = some t) (hx : c.args.toList = [d, s])
    (ht : P.underlying t = some (.slice e)) (hs : sizT P e = some es) (hes : 0 < es) (hd' : resO nt d = some d') (hs' : resO nt s = some s') {n : Nat} {m : List AV} (hsc : H.sc es (ev E s') = some (n, m)) (h : vcpy es H (ev E d') n m = some (v, H')) :
    Snd P base D j H w a.eval o v H' := by
  obtain ⟨d1, d2⟩ := R.ev hd'
  obtain ⟨s1, s2⟩ := R.ev hs'
  obtain ⟨src1, src2, src3, src4, src5⟩ := src_run (P := P) S s2 hsc
  have fin : ∀ (vv : AV) HH w' j', (Builtin.copy_ c.argTypes o.type #[a.eval d, a.eval s]).run P w = .ok (vv.con j') w' → vv.ok (Dnew D H HH) → Post base D j H w HH w' j' → Snd P base D j H w a.eval o vv HH := by
    intro vv HH w' j' hr hv hp
    refine ⟨_, w', j', call_run ho hc (r := .ok (.value (vv.con j')) w') ?_, .inl rfl, hv, hp⟩
    simp [builtin, args_two hx, hr]
  have run : ∀ (ad : Option Addr) (k cp : Nat) (w' : World), a.eval d = .slice ad k cp → (∀ b, ad = some b → (storeCells b (AV.conL j (m.take (min n k * es)))).run P w = .ok () w') → (ad = none → w' = w) →
      (Builtin.copy_ c.argTypes o.type #[a.eval d, a.eval s]).run P w = .ok (.int .i64 (min n k : Nat)) w' := by
    intro ad k cp w' hd hst hn
    have hf := src2 (min n k) w (Nat.min_le_left _ _) rfl
    rw [hd, s1]
    cases ad with
    | none =>
      have := hn rfl
      subst this
      simp [Builtin.copy_, ht0, run_underlying ht, run_sizeOf' hs, src1, hf, goInt]
    | some b =>
      have := hst b rfl
      simp [Builtin.copy_, ht0, run_underlying ht, run_sizeOf' hs, src1, hf, goInt, this]
  generalize ev E d' = u at *
  unfold vcpy at h
  split at h
  · simp only [Option.some.injEq, Prod.mk.injEq] at h
    obtain ⟨rfl, rfl⟩ := h
    refine fin _ H w j ?_ (by simp [AV.ok]) (Post.refl S)
    have := run none 0 0 w (by simpa [AV.con] using d1) (fun b hb => by cases hb) (fun _ => rfl)
    simpa [AV.con] using this
  · rename_i b p k cp
    obtain ⟨H1, hw, h⟩ := Option.map_eq_some_iff.1 h
    simp only [Prod.mk.injEq] at h
    obtain ⟨rfl, rfl⟩ := h
    obtain ⟨w', r, pst⟩ := S.store (P := P) (o := p) d2 hw (okL_take src3) (scL_take src4)
    refine fin _ H1 w' j ?_ (by simp [AV.ok]) pst
    exact run (some ((j b).at p)) k cp w' d1 (fun q hq => by obtain rfl := Option.some.inj hq; exact r) (fun hn => by cases hn)
  · rename_i b p q k es'
    split at h
    · rename_i hcnd
      obtain ⟨rfl, _, hk, hfit, hown⟩ := hcnd
      obtain ⟨H1, hw, h⟩ := Option.map_eq_some_iff.1 h
      simp only [Prod.mk.injEq] at h
      obtain ⟨rfl, rfl⟩ := h
      obtain ⟨w', r, pst⟩ := S.store_k (P := P) (o := p) d2 hw (okL_take src3) (scL_take src4)
      obtain ⟨_, hne⟩ := room S d2 hes hown hfit
      refine fin _ H1 w' j ?_ (by simp [AV.ok]) pst
      have hz := hne hk
      refine run (some ⟨(j b).k, p, none⟩) k (((j b).e - p) / es') w' (by rw [d1]; simp only [AV.con, if_neg hz]) (fun q hq => by obtain rfl := Option.some.inj hq; exact r) (fun hn => by cases hn)
    · cases h
  · cases h

theorem map_pair {x : Option AV} {v : AV} {H H' : AH} (h : x.map (·, H) = some (v, H')) : x = some v ∧ H' = H := by
  obtain ⟨u, hu, he⟩ := Option.map_eq_some_iff.1 h
  simp only [Prod.mk.injEq] at he
  obtain ⟨rfl, rfl⟩ := he
  exact ⟨hu, rfl⟩

/-- Every operation that is resolved yields what is told of it. -/
theorem vop_sound (R : Rel nt D j E a.tmps) (S : Sim base D j H w) {vo : VOp} (hr : resV P nt o = some vo) (h : vop vo E H = some (v, H')) : Snd P base D j H w a.eval o v H' := by
  unfold resV at hr
  split at hr
  · rename_i x ho
    obtain ⟨x', hx, rfl⟩ := Option.map_eq_some_iff.1 hr
    simp only [vop, Option.some.injEq, Prod.mk.injEq] at h; obtain ⟨rfl, rfl⟩ := h
    exact snd_mv R S (.inl ho) hx
  · rename_i x ho
    obtain ⟨x', hx, rfl⟩ := Option.map_eq_some_iff.1 hr
    simp only [vop, Option.some.injEq, Prod.mk.injEq] at h; obtain ⟨rfl, rfl⟩ := h
    exact snd_mv R S (.inr ho) hx
  · rename_i c x y ho
    simp only [Option.bind_eq_some_iff, Option.map_eq_some_iff] at hr
    obtain ⟨c', hc, x', hx, y', hy, rfl⟩ := hr
    simp only [vop, if_true, Bool.false_eq_true, if_false] at h
    have hq := map_pair h
    clear h
    obtain ⟨h, rfl⟩ := hq
    exact snd_pick R S ho hc hx hy h
  · rename_i e ho
    obtain ⟨z, hz, rfl⟩ := Option.map_eq_some_iff.1 hr
    simp only [vop, Option.some.injEq, Prod.mk.injEq] at h; obtain ⟨rfl, rfl⟩ := h
    exact snd_alloc S ho hz
  · rename_i e x ho
    obtain ⟨x', hx, rfl⟩ := Option.map_eq_some_iff.1 hr
    obtain ⟨l, hl, h⟩ := Option.map_eq_some_iff.1 h
    simp only [Prod.mk.injEq] at h; obtain ⟨rfl, rfl⟩ := h
    exact snd_box R S ho hx hl
  · rename_i t ps ho
    simp only [Option.bind_eq_some_iff, Option.map_eq_some_iff] at hr
    obtain ⟨pl, hpl, z, hz, q, hq, rfl⟩ := hr
    obtain ⟨l, hl, h⟩ := Option.map_eq_some_iff.1 h
    simp only [Prod.mk.injEq] at h; obtain ⟨rfl, rfl⟩ := h
    exact snd_bld R S ho hpl hz hq hl
  · rename_i t n ps ho
    split at hr
    · rename_i e hu
      simp only [Option.bind_eq_some_iff] at hr
      obtain ⟨s, hs, hr⟩ := hr
      split at hr
      · rename_i hns
        simp only [Option.bind_eq_some_iff] at hr
        obtain ⟨z, hz, hr⟩ := hr
        split at hr
        · rename_i hzl
          obtain ⟨q, hq, rfl⟩ := Option.map_eq_some_iff.1 hr
          obtain ⟨l, hl, h⟩ := Option.map_eq_some_iff.1 h
          simp only [Prod.mk.injEq] at h; obtain ⟨rfl, rfl⟩ := h
          exact snd_bsl R S ho hu hs hns.1 hns.2 hz hzl hq hl
        · cases hr
      · cases hr
    · cases hr
  · rename_i t x ho
    simp only [Option.bind_eq_some_iff, Option.map_eq_some_iff] at hr
    obtain ⟨ag, ha, n, hn, x', hx, rfl⟩ := hr
    cases ag with
    | true =>
      simp only [vop, if_true, Bool.false_eq_true, if_false] at h
      have hq := map_pair h
      clear h
      obtain ⟨h, rfl⟩ := hq
      exact snd_ld R S ho ha hn hx h
    | false =>
      simp only [vop, if_true, Bool.false_eq_true, if_false] at h
      have hq := map_pair h
      clear h
      obtain ⟨h, rfl⟩ := hq
      exact snd_ld1 R S ho ha hx h
  · rename_i t p x ho
    simp only [Option.bind_eq_some_iff, Option.map_eq_some_iff] at hr
    obtain ⟨n, hn, p', hp, x', hx, rfl⟩ := hr
    exact snd_sto R S ho hn hp hx h
  · rename_i x ho
    obtain ⟨x', hx, rfl⟩ := Option.map_eq_some_iff.1 hr
    simp only [vop, if_true, Bool.false_eq_true, if_false] at h
    have hq := map_pair h
    clear h
    obtain ⟨h, rfl⟩ := hq
    exact snd_nilc R S ho hx h
  · rename_i op t x y t' ho
    simp only [Option.bind_eq_some_iff, Option.map_eq_some_iff] at hr
    obtain ⟨x', hx, y', hy, rfl⟩ := hr
    simp only [vop, if_true, Bool.false_eq_true, if_false] at h
    have hq := map_pair h
    clear h
    obtain ⟨h, rfl⟩ := hq
    exact snd_bin R S ho hx hy h
  · rename_i op t x ho
    obtain ⟨x', hx, rfl⟩ := Option.map_eq_some_iff.1 hr
    simp only [vop, if_true, Bool.false_eq_true, if_false] at h
    have hq := map_pair h
    clear h
    obtain ⟨h, rfl⟩ := hq
    exact snd_un R S ho hx h
  · rename_i s d x ho
    split at hr
    · rename_i k k' hs hd
      obtain ⟨x', hx, rfl⟩ := Option.map_eq_some_iff.1 hr
      simp only [vop, if_true, Bool.false_eq_true, if_false] at h
      have hq := map_pair h
      clear h
      obtain ⟨h, rfl⟩ := hq
      exact snd_cvi R S ho hs hd hx h
    · rename_i e e' hs hd
      split at hr
      · rename_i he
        obtain ⟨rfl, he⟩ := he
        obtain ⟨x', hx, rfl⟩ := Option.map_eq_some_iff.1 hr
        simp only [vop, if_true, Bool.false_eq_true, if_false] at h
        have hq := map_pair h
        clear h
        obtain ⟨h, rfl⟩ := hq
        exact snd_cvsame R S ho hd he hx h
      · cases hr
    · cases hr
  · rename_i t x ho
    split at hr
    · cases hr
    · cases hr
    · rename_i hne1 hne2
      obtain ⟨x', hx, rfl⟩ := Option.map_eq_some_iff.1 hr
      simp only [vop, Option.some.injEq, Prod.mk.injEq] at h; obtain ⟨rfl, rfl⟩ := h
      cases hu : P.underlying t with
      | none => exact absurd hu hne2
      | some dd => exact snd_mkif R S ho hu (fun ms e => hne1 ms (by rw [hu, e])) hx
  · rename_i f p c ho
    simp only [Option.bind_eq_some_iff, Option.map_eq_some_iff] at hr
    obtain ⟨p', hp, c', hc, rfl⟩ := hr
    simp only [vop, Option.some.injEq, Prod.mk.injEq] at h; obtain ⟨rfl, rfl⟩ := h
    exact snd_mkfn R S ho hp hc
  · rename_i t l c ho
    split at hr
    · rename_i e hu
      simp only [Option.bind_eq_some_iff] at hr
      obtain ⟨i, hi, z, hz, hr⟩ := hr
      split at hr
      · rename_i hzl
        simp only [Option.bind_eq_some_iff, Option.map_eq_some_iff] at hr
        obtain ⟨l', hl, c', hc, rfl⟩ := hr
        exact snd_mks R S ho hu hi hz hzl hl hc h
      · cases hr
    · cases hr
  · rename_i t x lo hi mx ho
    split at hr
    · rename_i e hu
      simp only [Option.bind_eq_some_iff] at hr
      obtain ⟨s, hs, x', hx, lo', hlo, hi', hhi, mx', hmx, hr⟩ := hr
      split at hr
      · cases hr
      · rename_i hsome
        simp only [Option.some.injEq] at hr; subst hr
        simp only [vop, if_true, Bool.false_eq_true, if_false] at h
        have hq := map_pair h
        clear h
        obtain ⟨h, rfl⟩ := hq
        exact snd_slc R S ho hu hs hx hlo hhi hmx (Bool.eq_false_iff.2 hsome) h
    · rename_i hu
      split at hr
      · cases hr
      · rename_i hmx
        simp only [Option.bind_eq_some_iff, Option.map_eq_some_iff] at hr
        obtain ⟨x', hx, lo', hlo, hi', hhi, rfl⟩ := hr
        simp only [vop, if_true, Bool.false_eq_true, if_false] at h
        have hq := map_pair h
        clear h
        obtain ⟨h, rfl⟩ := hq
        have : mx = none := by cases mx <;> simp at hmx ⊢
        subst this
        exact snd_slcs R S ho hu hx hlo hhi h
    · rename_i n e hu
      simp only [Option.bind_eq_some_iff] at hr
      obtain ⟨s, hs, x', hx, lo', hlo, hi', hhi, mx', hmx, hr⟩ := hr
      split at hr
      · cases hr
      · rename_i hsome
        simp only [Option.some.injEq] at hr; subst hr
        simp only [vop, if_true, Bool.false_eq_true, if_false] at h
        have hq := map_pair h
        clear h
        obtain ⟨h, rfl⟩ := hq
        exact snd_slca R S ho hu hs hx hlo hhi hmx (Bool.eq_false_iff.2 hsome) h
    · cases hr
  · rename_i t x i ho
    simp only [Option.bind_eq_some_iff] at hr
    obtain ⟨f, hf, s, hs, hr⟩ := hr
    split at hr
    · cases hr
    · rename_i hs0
      obtain ⟨x', hx, rfl⟩ := Option.map_eq_some_iff.1 hr
      simp only [vop, if_true, Bool.false_eq_true, if_false] at h
      have hq := map_pair h
      clear h
      obtain ⟨h, rfl⟩ := hq
      exact snd_fa R S ho hf hs hs0 hx h
  · rename_i t x i ho
    simp only [Option.bind_eq_some_iff, Option.map_eq_some_iff] at hr
    obtain ⟨f, hf, s, hs, ag, ha, x', hx, rfl⟩ := hr
    simp only [vop, if_true, Bool.false_eq_true, if_false] at h
    have hq := map_pair h
    clear h
    obtain ⟨h, rfl⟩ := hq
    exact snd_fld R S ho hf hs ha hx h
  · rename_i t x i ho
    split at hr
    · rename_i e hu
      simp only [Option.bind_eq_some_iff, Option.map_eq_some_iff] at hr
      obtain ⟨s, hs, x', hx, i', hi, rfl⟩ := hr
      simp only [vop, if_true, Bool.false_eq_true, if_false] at h
      have hq := map_pair h
      clear h
      obtain ⟨h, rfl⟩ := hq
      exact snd_ia R S ho hu hs hx hi h
    · rename_i n e hu
      simp only [Option.bind_eq_some_iff, Option.map_eq_some_iff] at hr
      obtain ⟨s, hs, x', hx, i', hi, rfl⟩ := hr
      simp only [vop, if_true, Bool.false_eq_true, if_false] at h
      have hq := map_pair h
      clear h
      obtain ⟨h, rfl⟩ := hq
      exact snd_iaa R S ho hu hs hx hi h
    · cases hr
  · rename_i t x i ho
    split at hr
    · rename_i n e hu
      simp only [Option.bind_eq_some_iff, Option.map_eq_some_iff] at hr
      obtain ⟨s, hs, ag, ha, x', hx, i', hi, rfl⟩ := hr
      simp only [vop, if_true, Bool.false_eq_true, if_false] at h
      have hq := map_pair h
      clear h
      obtain ⟨h, rfl⟩ := hq
      exact snd_ix R S ho hu hs ha hx hi h
    · rename_i hu
      simp only [Option.bind_eq_some_iff, Option.map_eq_some_iff] at hr
      obtain ⟨x', hx, i', hi, rfl⟩ := hr
      simp only [vop, if_true, Bool.false_eq_true, if_false] at h
      have hq := map_pair h
      clear h
      obtain ⟨h, rfl⟩ := hq
      exact snd_ixs R S ho hu hx hi h
    · cases hr
  · rename_i x i ho
    obtain ⟨x', hx, rfl⟩ := Option.map_eq_some_iff.1 hr
    simp only [vop, if_true, Bool.false_eq_true, if_false] at h
    have hq := map_pair h
    clear h
    obtain ⟨h, rfl⟩ := hq
    exact snd_ext R S ho hx h
  · rename_i x xt t ok ho
    split at hr
    · cases hr
    · cases hr
    · rename_i dd hne hu
      split at hr
      · rename_i hok
        simp only [Option.bind_eq_some_iff, Option.map_eq_some_iff] at hr
        obtain ⟨z, ⟨i, hi, zv, hzv, hz⟩, x', hx, rfl⟩ := hr
        simp only [vop, if_true, Bool.false_eq_true, if_false] at h
        have hq := map_pair h
        clear h
        obtain ⟨h, rfl⟩ := hq
        subst hok
        exact snd_ta R S ho hu (fun ms e => hne ms e) (by simp [hi, hzv, hz]) hx h
      · cases hr
  · rename_i c ho
    unfold resCall at hr
    split at hr
    · rename_i hc
      split at hr
      · rename_i t x ht hx
        split at hr
        · rename_i hu
          obtain ⟨x', hx', rfl⟩ := Option.map_eq_some_iff.1 hr
          simp only [vop, if_true, Bool.false_eq_true, if_false] at h
          have hq := map_pair h
          clear h
          obtain ⟨h, rfl⟩ := hq
          exact snd_len R S ho hc ht hx hx' (.inl ⟨rfl, hu⟩) h
        · rename_i e hu
          obtain ⟨x', hx', rfl⟩ := Option.map_eq_some_iff.1 hr
          simp only [vop, if_true, Bool.false_eq_true, if_false] at h
          have hq := map_pair h
          clear h
          obtain ⟨h, rfl⟩ := hq
          exact snd_len R S ho hc ht hx hx' (.inr (.inl ⟨rfl, e, hu⟩)) h
        · rename_i k e hu
          obtain ⟨x', hx', rfl⟩ := Option.map_eq_some_iff.1 hr
          simp only [vop, if_true, Bool.false_eq_true, if_false] at h
          have hq := map_pair h
          clear h
          obtain ⟨h, rfl⟩ := hq
          exact snd_len R S ho hc ht hx hx' (.inr (.inr ⟨rfl, k, e, hu⟩)) h
        · rename_i n e hu
          simp only [Option.some.injEq] at hr; subst hr
          simp only [vop, Option.some.injEq, Prod.mk.injEq] at h; obtain ⟨rfl, rfl⟩ := h
          exact snd_lenk S ho hc ht hx (.inl hu)
        · rename_i ar hu
          split at hr
          · rename_i n e hv
            simp only [Option.some.injEq] at hr; subst hr
            simp only [vop, Option.some.injEq, Prod.mk.injEq] at h; obtain ⟨rfl, rfl⟩ := h
            exact snd_lenk S ho hc ht hx (.inr ⟨ar, hu, hv⟩)
          · cases hr
        · cases hr
      · cases hr
    · rename_i hc
      split at hr
      · rename_i t x ht hx
        split at hr
        · rename_i e hu
          obtain ⟨x', hx', rfl⟩ := Option.map_eq_some_iff.1 hr
          simp only [vop, if_true, Bool.false_eq_true, if_false] at h
          have hq := map_pair h
          clear h
          obtain ⟨h, rfl⟩ := hq
          exact snd_cap R S ho hc ht hx hx' hu h
        · cases hr
      · cases hr
    · rename_i hc
      obtain ⟨xs, hxs, rfl⟩ := Option.map_eq_some_iff.1 hr
      simp only [vop] at h
      cases xs with
      | nil => cases h
      | cons x r =>
        have hq := map_pair h
        clear h
        obtain ⟨h, rfl⟩ := hq
        exact snd_mm (mx := false) R S ho hc hxs h
    · rename_i hc
      obtain ⟨xs, hxs, rfl⟩ := Option.map_eq_some_iff.1 hr
      simp only [vop] at h
      cases xs with
      | nil => cases h
      | cons x r =>
        have hq := map_pair h
        clear h
        obtain ⟨h, rfl⟩ := hq
        exact snd_mm (mx := true) R S ho hc hxs h
    · rename_i hc
      split at hr
      · rename_i t u s x htu hx
        split at hr
        · rename_i e e' ht hu
          simp only [Option.bind_eq_some_iff] at hr
          obtain ⟨i, hi, hr⟩ := hr
          split at hr
          · rename_i hcnd
            simp only [Option.bind_eq_some_iff, Option.map_eq_some_iff] at hr
            obtain ⟨s', hs', x', hx', rfl⟩ := hr
            simp only [vop, Option.bind_eq_some_iff] at h
            obtain ⟨⟨n, m⟩, hnm, h⟩ := h
            exact snd_app R S ho hc htu hx ht ⟨e', hu⟩ hi hcnd.1 hcnd.2.1 hcnd.2.2 hs' hx' hnm h
          · cases hr
        · cases hr
      · cases hr
    · rename_i hc
      split at hr
      · rename_i t d s ht0 hx
        split at hr
        · rename_i e ht
          simp only [Option.bind_eq_some_iff] at hr
          obtain ⟨n, hn, hr⟩ := hr
          split at hr
          · rename_i hn0
            simp only [Option.bind_eq_some_iff, Option.map_eq_some_iff] at hr
            obtain ⟨d', hd', s', hs', rfl⟩ := hr
            simp only [vop, Option.bind_eq_some_iff] at h
            obtain ⟨⟨q, m⟩, hnm, h⟩ := h
            exact snd_cpy R S ho hc ht0 hx ht hn hn0 hd' hs' hnm h
          · cases hr
        · cases hr
      · cases hr
    · cases hr
  · cases hr
end

end Go.AX
