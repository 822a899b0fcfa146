/- AX, part S: a region that draws comes to one end. -/
import Derived.Test.YtjmknbbipadjbaaAxR
set_option linter.unusedSimpArgs false
set_option linter.unusedVariables false
namespace Go.AX
open Go

section
variable {P : Program} {nt : Nat} {ops : Array Oper} {cl ord : List Nat} {l : List ROper} {Es : Nat → Env} {Hs : Nat → AH}
variable {base : Nat} {D : Nat → Prop} {j0 : Inj} {H : AH} {w0 : World} {dd : List Deferred} {L : Array Bool} {s : Nat} {a : Act} {w : World} {j : Inj} {EL : Env}

theorem put_defers' (a : Act) (d : Option Tmp) (v : Value) : (a.put d v).defers = a.defers := by cases d <;> rfl
theorem Dnew_same {D : Nat → Prop} {H H' : AH} (h : H' = H) : Dnew D H H' = D := by
  subst h; funext b; exact propext Dnew.self

/-- One operation that stands ready is run. -/
theorem Inv.op (I : Inv nt ops ord l Es Hs base D j0 H w0 dd L s a w j EL) (S : DSet P nt ops cl ord l Es Hs) (hlt : ∀ b, D b → b < H.nx) (hH : Hs 0 = H) {q : Nat} (R : Rdy ops ord L q) {Q : Exit → Act → World → Prop} {K : Act → World → Prop}
    (hK : ∀ s' a' w' j' EL', Inv nt ops ord l Es Hs base D j0 H w0 dd (L.setIfInBounds (ord.getD q 0) true) s' a' w' j' EL' → K a' w') : wpOp P ops Q (ord.getD q 0) K a w := by
  obtain ⟨o, ho, hr⟩ := S.rs q R.lt
  obtain ⟨hd, hdst, hgr, hgd, hres⟩ := resR_parts hr
  have st := S.st q R.lt
  have hrd := I.reads S R
  have hgw : gwant EL (l.getD q default).g = gwant (Es q) (l.getD q default).g := gwant_congr hrd
  have hev := ev_congr hrd
  -- no act between what is done and what stands ready
  have noact : ∀ r, s ≤ r → r < q → (l.getD r default).act = false := by
    intro r h1 h2
    cases ha : (l.getD r default).act with
    | false => rfl
    | true =>
      have := (I.acts r (by have := R.lt; omega) ha).1 (I.before S R (S.G.A r q h2 R.lt ha))
      omega
  -- where an act is ready, all acts before it are done
  have sq : (l.getD q default).act = true → s ≤ q := by
    intro ha
    rcases Nat.lt_or_ge q s with h | h
    · exact absurd ((I.acts q R.lt ha).2 h) R.un
    · exact h
  have toQ : (l.getD q default).act = true → Inv nt ops ord l Es Hs base D j0 H w0 dd L q a w j EL := fun ha => I.raise S hlt (sq ha) (Nat.le_of_lt R.lt) noact
  have past : (l.getD q default).act = false → ∃ s1, q < s1 ∧ Inv nt ops ord l Es Hs base D j0 H w0 dd L s1 a w j EL := by
    intro ha
    rcases Nat.lt_or_ge q s with h | h
    · exact ⟨s, h, I⟩
    · exact ⟨q + 1, Nat.lt_succ_self q, (I.raise S hlt h (Nat.le_of_lt R.lt) noact).raise1 S hlt R.lt ha⟩
  have wpo : ∀ {c : Bool}, Region.wanted o (yielded ops a.tmps) = c → (c = true → o.wp P a w K Q) → (c = false → K (a.put o.dst undef) w) → wpOp P ops Q (ord.getD q 0) K a w := by
    intro c hc h1 h2
    unfold wpOp
    rw [ho]
    simp only [hc]
    cases c with
    | true => rw [if_pos rfl]; exact .inl (h1 rfl)
    | false => rw [if_neg (by decide)]; exact h2 rfl
  obtain ⟨g, hg, hst⟩ := id st
  simp only at hg hst
  have hw := wanted_run I.rel hgr hgd (hgw.trans hg)
  refine wpo hw (fun hgt => ?_) (fun hgf => ?_)
  · subst hgt
    simp only [if_true] at hst
    -- a call's end
    have call : ∀ (f : FuncId) (as : List AV) (v : AV), (l.getD q default).act = true → CallT P f as (Hs q) (.ret v) (Hs (q + 1)) → Es (q + 1) = (Es q).put (l.getD q default).d v →
        (execOp a.eval o).run P w = .ok (.enter f (AV.conL j as).toArray) w → AV.okL (DL ord Hs ops.size D L) as → o.wp P a w K Q := by
      intro f as v ha hcall hE hex hok
      have I' := toQ ha
      unfold Oper.wp
      rw [hex, Oper.upon_enter]
      refine Calls.mono (hcall base _ j w I'.post.sim hok) ?_
      rintro e w' ⟨j', rfl, hvo, hp⟩
      simp only [AEnd.con]
      refine hK _ _ _ _ _ (I'.next S R hE (.inr ⟨rfl, rfl, hp.evo, hp.sim.wf⟩) ?_ (by rw [put_defers']; exact I.dfr) (I'.post.step hp hlt))
      rw [← hdst]
      exact (I.rel.mono (fun _ => .inl) hp.agr).put hd hvo
    cases hop : (l.getD q default).o with
    | v vo =>
      rw [hop] at hst hres
      obtain ⟨v, hv, hE, hck⟩ := hst
      have hrv := resP_v hres
      have hvL : vop vo EL (Hs q) = some (v, Hs (q + 1)) := by rw [← hv]; exact vop_congr fun x hx => hev x (by rw [hop]; exact hx)
      by_cases hc2 : vo.cls = 2
      · have ha : (l.getD q default).act = true := by rw [act_v hop, hc2]; rfl
        have I' := toQ ha
        obtain ⟨nx, w', j', hr', hn, hvo, hp⟩ := vop_sound (o := o) I.rel I'.post.sim hrv hvL
        unfold Oper.wp
        rw [hr']
        rcases hn with rfl | ⟨rfl, rfl⟩
        · rw [Oper.upon_value]
          refine hK _ _ _ _ _ (I'.next S R hE (.inr ⟨rfl, rfl, hp.evo, hp.sim.wf⟩) ?_ (by rw [put_defers']; exact I.dfr) (I'.post.step hp hlt))
          rw [← hdst]
          exact (I.rel.mono (fun _ => .inl) hp.agr).put hd hvo
        · rw [Oper.upon_skip]
          refine hK _ _ _ _ _ (I'.next S R hE (.inr ⟨rfl, rfl, hp.evo, hp.sim.wf⟩) ?_ (by rw [put_defers']; exact I.dfr) (I'.post.step hp hlt))
          rw [← hdst]
          exact (I.rel.mono (fun _ => .inl) hp.agr).put (v := .tu []) hd hvo
      · have hc : vo.cls = 0 ∨ vo.cls = 1 := by
          cases vo <;> first | exact .inl rfl | exact .inr rfl | exact absurd rfl hc2
        have ha : (l.getD q default).act = false := by
          rw [act_v hop]
          rcases hc with hc | hc <;> rw [hc] <;> rfl
        obtain ⟨s1, hs1, I'⟩ := past ha
        have hcmp : ∀ r, q < r → r < s1 → (l.getD r default).act = true → cmpB cl (ord.getD q 0) (ord.getD r 0) = false := by
          intro r h1 h2 h3
          have hrn : r < ops.size := Nat.lt_of_lt_of_le h2 I'.sn
          cases h : cmpB cl (ord.getD q 0) (ord.getD r 0) with
          | false => rfl
          | true => exact absurd (I'.behind S hrn ((I'.acts r hrn h3).2 h2) h) R.un
        rcases hc with hc | hc
        · have h0 := cls0 hc hv
          rw [h0] at hv
          have hvs := S.chain0 I'.sn hs1 hop hc hg hv hE hcmp (fun r hr => I'.wf r (Nat.le_of_lt hr) _ (Nat.le_refl _)) s1 (Nat.le_of_lt hs1) (Nat.le_refl _)
          have hvs : vop vo EL (Hs s1) = some (v, Hs s1) := by rw [← hvs]; exact vop_congr fun x hx => hev x (by rw [hop]; exact hx)
          obtain ⟨nx, w', j', hr', hn, hvo, hp⟩ := vop_sound (o := o) I.rel I'.post.sim hrv hvs
          have hDe : Dnew (DL ord Hs ops.size D L) (Hs s1) (Hs s1) = Dnew (DL ord Hs ops.size D L) (Hs q) (Hs (q + 1)) := by rw [Dnew_same rfl, Dnew_same h0]
          have hpost := I'.post.step hp hlt
          rw [hDe] at hvo hpost
          unfold Oper.wp
          rw [hr']
          rcases hn with rfl | ⟨rfl, rfl⟩
          · rw [Oper.upon_value]
            refine hK _ _ _ _ _ (I'.next S R hE (.inl ⟨rfl, hs1, ha⟩) ?_ (by rw [put_defers']; exact I.dfr) hpost)
            rw [← hdst]
            exact (I.rel.mono (fun _ => .inl) hp.agr).put hd hvo
          · rw [Oper.upon_skip]
            refine hK _ _ _ _ _ (I'.next S R hE (.inl ⟨rfl, hs1, ha⟩) ?_ (by rw [put_defers']; exact I.dfr) hpost)
            rw [← hdst]
            exact (I.rel.mono (fun _ => .inl) hp.agr).put (v := .tu []) hd hvo
        · obtain ⟨m, t, hm, hml, hms, hrun⟩ := alo_run (w := w) I.rel hc hrv hvL
          have hvv : v = .pt (Hs q).nx 0 ∨ ∃ n c, v = .sl (Hs q).nx 0 n c := by
            rcases hrun with ⟨h, _⟩ | ⟨n, c, h, _⟩
            · exact .inl h
            · exact .inr ⟨n, c, h⟩
          obtain ⟨hg1, hg2⟩ := S.chain1 I'.sn hop hc hg hm hvv hE hcmp I'.ev s1 hs1 (Nat.le_refl _)
          have nxm : ∀ p, p ≤ s1 → ∀ r, r ≤ p → (Hs r).nx ≤ (Hs p).nx := by
            intro p
            induction p with
            | zero => intro _ r hr; obtain rfl : r = 0 := by omega
                      exact Nat.le_refl _
            | succ p ih =>
              intro hp r hr
              rcases Nat.lt_or_ge p r with h | h
              · obtain rfl : r = p + 1 := by omega
                exact Nat.le_refl _
              · exact Nat.le_trans (ih (by omega) r h) (I'.ev p hp).nx
          have hnD : ¬ DL ord Hs ops.size D L (Hs q).nx := by
            rintro (h | ⟨p, hp, hl, h1, h2⟩)
            · have := hlt _ h
              have := nxm q (Nat.le_of_lt hs1) 0 (Nat.zero_le _)
              rw [hH] at this
              omega
            · have hps := I'.low p hp hl
              rcases Nat.lt_trichotomy p q with h | h | h
              · have := nxm q (Nat.le_of_lt hs1) (p + 1) h
                omega
              · subst h; exact R.un hl
              · have := nxm p (Nat.le_of_lt hps) (q + 1) h
                rw [hm] at this
                simp only [AH.al] at this
                omega
          have hgrow := I'.post.grow (t := t) hnD hg2 hg1 hml hms
          have hDe : (fun b => DL ord Hs ops.size D L b ∨ b = (Hs q).nx) = Dnew (DL ord Hs ops.size D L) (Hs q) (Hs (q + 1)) := by
            funext b
            apply propext
            unfold Dnew
            rw [hm]
            simp only [AH.al]
            exact or_congr Iff.rfl ⟨fun h => by omega, fun h => by omega⟩
          rw [hDe] at hgrow
          have hj : ∀ b, DL ord Hs ops.size D L b → j.put (Hs q).nx (.new w.heap.size m.length) b = j b := fun b hb => by
            simp only [Inj.put]; rw [if_neg]; rintro rfl; exact hnD hb
          have hbn : Dnew (DL ord Hs ops.size D L) (Hs q) (Hs (q + 1)) (Hs q).nx := .inr ⟨Nat.le_refl _, by rw [hm]; simp [AH.al]⟩
          unfold Oper.wp
          rcases hrun with ⟨rfl, hr'⟩ | ⟨n, c, rfl, hr'⟩
          · rw [hr', Oper.upon_value]
            refine hK _ _ _ _ _ (I'.next S R hE (.inl ⟨rfl, hs1, ha⟩) ?_ (by rw [put_defers']; exact I.dfr) hgrow)
            rw [← hdst]
            have := (I.rel.mono (D' := Dnew (DL ord Hs ops.size D L) (Hs q) (Hs (q + 1))) (fun _ => .inl) hj).put (v := .pt (Hs q).nx 0) hd hbn
            simpa [AV.con, Inj.put, at_new] using this
          · rw [hr', Oper.upon_value]
            refine hK _ _ _ _ _ (I'.next S R hE (.inl ⟨rfl, hs1, ha⟩) ?_ (by rw [put_defers']; exact I.dfr) hgrow)
            rw [← hdst]
            have := (I.rel.mono (D' := Dnew (DL ord Hs ops.size D L) (Hs q) (Hs (q + 1))) (fun _ => .inl) hj).put (v := .sl (Hs q).nx 0 n c) hd hbn
            simpa [AV.con, Inj.put, at_new] using this
    | call f args =>
      rw [hop] at hst hres
      obtain ⟨v, hcall, hE, hck⟩ := hst
      have ha : (l.getD q default).act = true := by unfold ROper.act; rw [hop]
      have hvals : vals EL args = vals (Es q) args := vals_congr fun x hx => hev x (by rw [hop]; exact hx)
      obtain ⟨h1, h2⟩ := resP_call (w := w) I.rel hres
      rw [hvals] at h1 h2
      exact call f _ v ha hcall hE h1 h2
    | calv c args =>
      rw [hop] at hst hres
      obtain ⟨f, as, v, hfun, ⟨fn, hf, hb⟩, hcall, hE, hck⟩ := hst
      have ha : (l.getD q default).act = true := by unfold ROper.act; rw [hop]
      have hvals : vals EL args = vals (Es q) args := vals_congr fun x hx => hev x (by rw [hop]; exact List.mem_cons_of_mem _ hx)
      have hc' : Go.AX.ev EL c = Go.AX.ev (Es q) c := hev c (by rw [hop]; exact List.mem_cons_self)
      rw [← hvals, ← hc'] at hfun
      obtain ⟨h1, h2⟩ := resP_calv (w := w) I.rel hres hfun hf hb
      exact call f _ v ha hcall hE h1 h2
    | pan x => rw [hop] at hst; exact hst.elim
    | dfr x args => rw [hop] at hst; exact hst.elim
  · subst hgf
    obtain ⟨hE, hHe⟩ := st.off hg
    simp only at hE
    have hDe : Dnew (DL ord Hs ops.size D L) (Hs q) (Hs (q + 1)) = DL ord Hs ops.size D L := Dnew_same hHe
    have hrel : Rel nt (Dnew (DL ord Hs ops.size D L) (Hs q) (Hs (q + 1))) j (EL.put (l.getD q default).d (.tu [])) (a.put o.dst undef).tmps := by
      rw [hDe, ← hdst]; exact I.rel.put (v := .tu []) hd (by simp [AV.ok, AV.okL])
    cases ha : (l.getD q default).act with
    | true =>
      have I' := toQ ha
      refine hK _ _ _ _ _ (I'.next S R hE (.inr ⟨rfl, rfl, by rw [hHe]; exact Evo.refl _, by rw [hHe]; exact I'.post.sim.wf⟩) hrel (by rw [put_defers']; exact I.dfr) ?_)
      rw [hDe, hHe]; exact I'.post
    | false =>
      obtain ⟨s1, hs1, I'⟩ := past ha
      refine hK _ _ _ _ _ (I'.next S R hE (.inl ⟨rfl, hs1, ha⟩) hrel (by rw [put_defers']; exact I.dfr) ?_)
      rw [hDe]; exact I'.post

def cnt (f : Nat → Bool) : Nat → Nat
  | 0 => 0
  | n + 1 => cnt f n + if f n = true then 1 else 0
theorem cnt_le {f g : Nat → Bool} : ∀ {n : Nat}, (∀ i, i < n → g i = true → f i = true) → cnt g n ≤ cnt f n
  | 0, _ => Nat.le_refl _
  | n + 1, h => by
    have ih := cnt_le (n := n) fun i hi => h i (Nat.lt_succ_of_lt hi)
    simp only [cnt]
    by_cases hg : g n = true
    · rw [if_pos hg, if_pos (h n (Nat.lt_succ_self n) hg)]; omega
    · rw [if_neg hg]; omega
theorem cnt_lt {f g : Nat → Bool} {k : Nat} : ∀ {n : Nat}, (∀ i, i < n → g i = true → f i = true) → k < n → f k = true → g k = false → cnt g n < cnt f n
  | 0, _, hk, _, _ => absurd hk (Nat.not_lt_zero _)
  | n + 1, h, hk, hf, hg => by
    simp only [cnt]
    rcases Nat.lt_or_ge k n with h' | h'
    · have ih := cnt_lt (n := n) (fun i hi => h i (Nat.lt_succ_of_lt hi)) h' hf hg
      by_cases hg : g n = true
      · rw [if_pos hg, if_pos (h n (Nat.lt_succ_self n) hg)]; omega
      · rw [if_neg hg]; omega
    · obtain rfl : k = n := by omega
      have ih := cnt_le (n := k) fun i hi => h i (Nat.lt_succ_of_lt hi)
      rw [if_pos hf, if_neg (by simp [hg])]; omega
theorem cnt_zero {f : Nat → Bool} : ∀ {n : Nat}, cnt f n = 0 → ∀ i, i < n → f i = false
  | 0, _, i, hi => absurd hi (Nat.not_lt_zero _)
  | n + 1, h, i, hi => by
    simp only [cnt, Nat.add_eq_zero_iff] at h
    rcases Nat.lt_or_ge i n with h' | h'
    · exact cnt_zero h.1 i h'
    · obtain rfl : i = n := by omega
      cases hf : f i with
      | false => rfl
      | true => rw [if_pos hf] at h; exact absurd h.2 (by decide)

theorem getD_tf {L : Array Bool} {i : Nat} (h : i < L.size) : L.getD i true = L.getD i false := by simp [Array.getD, h]
theorem rdy_of (G : Good ops cl ord l) (hL : L.size = ops.size) {i : Nat} (h : i ∈ Region.ready .any ops L) : ∃ q, ord.getD q 0 = i ∧ Rdy ops ord L q := by
  unfold Region.ready at h
  obtain ⟨h1, h2⟩ := List.mem_filter.1 h
  have hi := List.mem_range.1 h1
  simp only [Bool.and_eq_true, Bool.not_eq_true'] at h2
  obtain ⟨q, hq, rfl⟩ := G.sur i hi
  refine ⟨q, rfl, hq, fun hl => ?_, fun e he hb => ?_⟩
  · rw [getD_tf (by omega)] at h2
    unfold lst at hl
    rw [hl] at h2
    exact absurd h2.1 (by decide)
  · have h3 := h2.2
    have hget : ops[ord.getD q 0]? = some (ops.getD (ord.getD q 0) default) := by
      rw [Array.getD_eq_getD_getElem?]
      rw [Array.getElem?_eq_getElem hi]; rfl
    rw [hget] at h3
    simp only [Option.map_some, Option.getD_some] at h3
    rw [← Array.all_toList, List.all_eq_true] at h3
    have := h3 e he
    rw [hb] at this
    exact this
theorem rdy_in (hL : L.size = ops.size) {i : Nat} (hi : i < ops.size) (hn : ¬ lst L i) (hp : ∀ e ∈ (ops.getD i default).after.toList, Region.binds .any e = true → lst L e.on) : i ∈ Region.ready .any ops L := by
  unfold Region.ready
  refine List.mem_filter.2 ⟨List.mem_range.2 hi, ?_⟩
  have hget : ops[i]? = some (ops.getD i default) := by
    rw [Array.getD_eq_getD_getElem?, Array.getElem?_eq_getElem hi]; rfl
  rw [hget]
  simp only [Option.map_some, Option.getD_some, Bool.and_eq_true, Bool.not_eq_true']
  refine ⟨?_, ?_⟩
  · rw [getD_tf (by omega)]
    unfold lst at hn
    simpa using hn
  · rw [← Array.all_toList, List.all_eq_true]
    intro e he
    cases hb : Region.binds .any e with
    | false => rfl
    | true => exact hp e he hb
theorem done_all (G : Good ops cl ord l) (hL : L.size = ops.size) (h : Region.ready .any ops L = []) : ∀ i, i < ops.size → lst L i := by
  intro i
  induction i using Nat.strongRecOn with
  | _ i ih =>
    intro hi
    by_cases hl : lst L i
    · exact hl
    · have := rdy_in hL hi hl fun e he hb => ih e.on (G.edge i hi e he hb) (by have := G.edge i hi e he hb; omega)
      rw [h] at this; cases this

def DEnd (nt : Nat) (ops : Array Oper) (ord : List Nat) (l : List ROper) (Es : Nat → Env) (Hs : Nat → AH) (base : Nat) (D : Nat → Prop) (j0 : Inj) (H : AH) (w0 : World) (dd : List Deferred) (e : Exit) (a : Act) (w : World) : Prop :=
  e = .normal ∧ ∃ L s j EL, Inv nt ops ord l Es Hs base D j0 H w0 dd L s a w j EL ∧ ∀ i, i < ops.size → lst L i
theorem any_runs (S : DSet P nt ops cl ord l Es Hs) (hlt : ∀ b, D b → b < H.nx) (hH : Hs 0 = H) : ∀ (fuel : Nat) (L : Array Bool) (s : Nat) (a : Act) (w : World) (j : Inj) (EL : Env),
    Inv nt ops ord l Es Hs base D j0 H w0 dd L s a w j EL → cnt (fun i => !L.getD i false) ops.size ≤ fuel → wpAny P .any ops (DEnd nt ops ord l Es Hs base D j0 H w0 dd) fuel L a w := by
  intro fuel
  induction fuel with
  | zero =>
    intro L s a w j EL I hc
    have hall : ∀ i, i < ops.size → lst L i := fun i hi => by
      have := cnt_zero (Nat.le_zero.1 hc) i hi
      simpa [lst] using this
    refine ⟨?_, rfl, L, s, j, EL, I, hall⟩
    apply List.eq_nil_iff_forall_not_mem.2
    intro i hi
    obtain ⟨q, rfl, R⟩ := rdy_of S.G I.size hi
    exact R.un (hall _ (S.G.bnd q R.lt))
  | succ fuel ih =>
    intro L s a w j EL I hc
    refine ⟨fun h => ⟨rfl, L, s, j, EL, I, done_all S.G I.size h⟩, fun i hi => ?_⟩
    obtain ⟨q, rfl, R⟩ := rdy_of S.G I.size hi
    refine I.op S hlt hH R fun s' a' w' j' EL' I' => ih _ s' a' w' j' EL' I' ?_
    have hb := S.G.bnd q R.lt
    refine Nat.le_of_lt_succ (Nat.lt_of_lt_of_le (cnt_lt (k := ord.getD q 0) ?_ hb ?_ ?_) hc)
    · intro i hi h
      simp only [Bool.not_eq_true'] at h ⊢
      cases hL : L.getD i false with
      | false => rfl
      | true =>
        have := (lst_set (L := L) (i := ord.getD q 0) (k := i) (by rw [I.size]; exact hb)).2 (.inl hL)
        unfold lst at this
        rw [this] at h; cases h
    · have := R.un
      unfold lst at this
      simpa using this
    · have := (lst_set (L := L) (i := ord.getD q 0) (k := ord.getD q 0) (by rw [I.size]; exact hb)).2 (.inr rfl)
      unfold lst at this
      simp only [this, Bool.not_true]
end

section
variable {P : Program} {nt : Nat} {ops : Array Oper} {cl ord : List Nat} {l : List ROper} {Es : Nat → Env} {Hs : Nat → AH}
variable {base : Nat} {D : Nat → Prop} {j : Inj} {H H' : AH} {w : World} {E E' : Env} {a : Act}
theorem draw_any (S : DSet P nt ops cl ord l Es Hs) (hm : P.follows .mixedOrders = true) {id : Nat} (hE0 : Es 0 = E) (hH0 : Hs 0 = H) (hEn : Es ops.size = E') (hHn : Hs ops.size = H') (Sm : Sim base D j H w) (R : Rel nt D j E a.tmps) :
    (Code.region id ops true).wp P (fun e a' w' => e = .normal ∧ ∃ j', Post base D j H w H' w' j' ∧ Rel nt (Dnew D H H') j' E' a'.tmps ∧ a'.defers = a.defers) a w := by
  have hl0 : ∀ i, ¬ lst (Array.replicate ops.size false) i := fun i h => by
    unfold lst at h
    simp only [Array.getD_eq_getD_getElem?, Array.getElem?_replicate] at h
    split at h <;> simp at h
  have hD0 : DL ord Hs ops.size D (Array.replicate ops.size false) = D := by
    funext b
    apply propext
    unfold DL
    exact ⟨fun h => h.elim (fun h => h) fun ⟨p, _, h, _⟩ => absurd h (hl0 _), .inl⟩
  have I0 : Inv nt ops ord l Es Hs base D j H w a.defers (Array.replicate ops.size false) 0 a { w with drawn := w.drawn + 1 } j E := by
    refine ⟨by simp, fun i _ h => absurd h (hl0 i), Nat.zero_le _, fun p _ _ => ⟨fun h => absurd h (hl0 _), fun h => absurd h (Nat.not_lt_zero _)⟩, fun p _ h => absurd h (hl0 _), fun r h => absurd h (Nat.not_lt_zero _), ?_, ?_, by rw [hD0]; exact R, rfl, ?_⟩
    · intro r hr
      obtain rfl : r = 0 := by omega
      rw [hH0]; exact Sm.wf
    · intro p hp t ht
      rw [← hE0]
      refine (S.same (Nat.zero_le p) hp fun s _ hs hd => ?_).symm
      exact absurd ((ht s (by omega) hd).2 hs) (hl0 _)
    · rw [hD0, hH0]
      exact ⟨Evo.refl H, fun _ _ => rfl, fun _ h => h, ⟨Sm.lt, Sm.wf, Sm.size, Sm.ro, Sm.rw, Sm.mp, Sm.inj⟩, ⟨rfl, rfl, rfl, Nat.le_refl _, fun _ _ _ => rfl⟩, fun b h1 h2 _ => absurd h1 h2⟩
  have hc : cnt (fun i => !(Array.replicate ops.size false).getD i false) ops.size ≤ ops.size := by
    have : ∀ (f : Nat → Bool) n, cnt f n ≤ n := by
      intro f n
      induction n with
      | zero => exact Nat.le_refl _
      | succ n ih => simp only [cnt]; split <;> omega
    exact this _ _
  refine Code.wp_mono ?_ (wp_region_any hm (any_runs S Sm.lt hH0 ops.size _ 0 a _ j E I0 hc))
  rintro e a' w' ⟨rfl, L, s, j', EL, I, hall⟩
  have hal : ∀ p, p < ops.size → lst L (ord.getD p 0) := fun p hp => hall _ (S.G.bnd p hp)
  have I' := I.raise S Sm.lt I.sn (Nat.le_refl _) fun r h1 h2 => by
    cases ha : (l.getD r default).act with
    | false => rfl
    | true => have := (I.acts r h2 ha).1 (hal r h2); omega
  have nxm : ∀ p, p ≤ ops.size → (Hs 0).nx ≤ (Hs p).nx ∧ ∀ b, (Hs 0).nx ≤ b → b < (Hs p).nx → ∃ q, q < p ∧ (Hs q).nx ≤ b ∧ b < (Hs (q + 1)).nx := by
    intro p
    induction p with
    | zero => intro _; exact ⟨Nat.le_refl _, fun b h1 h2 => by omega⟩
    | succ p ih =>
      intro hp
      obtain ⟨h1, h2⟩ := ih (by omega)
      have h3 := (I'.ev p hp).nx
      refine ⟨Nat.le_trans h1 h3, fun b hb1 hb2 => ?_⟩
      rcases Nat.lt_or_ge b (Hs p).nx with h | h
      · obtain ⟨q, hq, hq2⟩ := h2 b hb1 h
        exact ⟨q, Nat.lt_succ_of_lt hq, hq2⟩
      · exact ⟨p, Nat.lt_succ_self p, h, hb2⟩
  have nx0 : ∀ p, p ≤ ops.size → (Hs p).nx ≤ (Hs ops.size).nx := by
    intro p hp
    have : ∀ k, p + k ≤ ops.size → (Hs p).nx ≤ (Hs (p + k)).nx := by
      intro k
      induction k with
      | zero => intro _; exact Nat.le_refl _
      | succ k ih => intro hk; exact Nat.le_trans (ih (by omega)) (I'.ev (p + k) (by omega)).nx
    have := this (ops.size - p) (by omega)
    rw [Nat.add_sub_cancel' hp] at this
    exact this
  have hDL : DL ord Hs ops.size D L = Dnew D H H' := by
    funext b
    apply propext
    unfold DL Dnew
    rw [← hH0, ← hHn]
    constructor
    · rintro (h | ⟨p, hp, _, h1, h2⟩)
      · exact .inl h
      · exact .inr ⟨Nat.le_trans (nxm p (Nat.le_of_lt hp)).1 h1, Nat.lt_of_lt_of_le h2 (nx0 (p + 1) hp)⟩
    · rintro (h | ⟨h1, h2⟩)
      · exact .inl h
      · obtain ⟨q, hq, h3, h4⟩ := (nxm ops.size (Nat.le_refl _)).2 b h1 h2
        exact .inr ⟨q, hq, hal q hq, h3, h4⟩
  have hEL : EL = E' := by
    rw [← hEn]
    funext t
    exact I'.val ops.size (Nat.le_refl _) t fun p hp _ => ⟨fun _ => hp, fun _ => hal p hp⟩
  have hp := I'.post
  have hr := I'.rel
  rw [hDL] at hp hr
  rw [hHn] at hp
  rw [hEL] at hr
  refine ⟨rfl, j', ⟨hp.evo, hp.agr, hp.sim, hp.fr, fun b h1 h2 hno => ?_⟩, hr, I'.dfr⟩
  exact hp.fresh b (.inr ⟨h1, h2⟩) (fun h => by have := Sm.lt b h; omega) hno
end

end Go.AX
