/- AY, part D: slices cut, lengths; all operations that leave memory as it is. -/
import Derived.Test.YtjmknbbipadjbaaAyC
set_option linter.unusedSimpArgs false
set_option linter.unusedVariables false
namespace Go.AX
open Go

section
variable {L : Lk} {H : AH} {B : List PB} {E : Nat → PV} {Ea : Env}
def plen (B : List PB) : PV → Option PV
  | .sn => some (.it .i64 0)
  | .vs _ _ l => some (.it .i64 l.length)
  | .gr b => match B[b]? with | some (.gs _ _ l) => some (.it .i64 l.length) | some (.fz _ l) => some (.it .i64 l.length) | _ => none
  | .gp _ _ _ n => some (.it .i64 n)
  | _ => none
theorem Rc_vs_len {F : Nat → Prop} {w es : Nat} {l : List PV} {a : AV} (h : Rc F H (.vs w es l) a) : vlen 1 H a = some (.it .i64 l.length) := by
  obtain ⟨⟨cs, h1, _⟩, _⟩ := h
  exact h1.len H
theorem GsX.len {F : Nat → Prop} {es : Nat} {l : List PV} {a : AV} {X : Nat} (h : GsX F H es l a X) : vlen 1 H a = some (.it .i64 l.length) := by
  obtain ⟨_, _, _, _, _, ⟨rfl, _⟩ | ⟨_, _, rfl, _⟩⟩ := h <;> rfl
theorem plen_ok (h : HR L H B) {x v : PV} {a : AV} (hx : Rp L H x a) (hv : plen B x = some v) : ∃ c, vlen 1 H a = some c ∧ Rp L H v c := by
  unfold plen at hv
  split at hv
  · simp only [Option.some.injEq] at hv; subst hv
    simp only [Rp] at hx; subst hx
    exact ⟨_, rfl, rfl⟩
  · simp only [Option.some.injEq] at hv; subst hv
    exact ⟨_, Rc_vs_len hx, rfl⟩
  · obtain ⟨h0, rfl, _⟩ := hx
    split at hv
    · rename_i he
      simp only [Option.some.injEq] at hv; subst hv
      obtain ⟨⟨h1, _⟩ | ⟨X, _, h1⟩, _⟩ := h.bk _ _ he
      · exact ⟨_, Rc_vs_len h1, rfl⟩
      · exact ⟨_, h1.len, rfl⟩
    · rename_i he
      simp only [Option.some.injEq] at hv; subst hv
      obtain ⟨⟨h1, _⟩ | ⟨X, _, h1⟩, _⟩ := h.bk _ _ he
      · exact ⟨_, Rc_vs_len h1, rfl⟩
      · exact ⟨_, h1.len, rfl⟩
    · cases hv
  · simp only [Option.some.injEq] at hv; subst hv
    obtain ⟨_, ⟨rfl, h1⟩ | ⟨_, _, ⟨_, _, rfl, _⟩ | ⟨_, _, _, rfl, _⟩⟩⟩ := hx
    · exact ⟨_, Rc_vs_len h1, rfl⟩
    · exact ⟨_, rfl, rfl⟩
    · exact ⟨_, rfl, rfl⟩
  · cases hv
def plen0 : PV → Option PV
  | .st s => some (.it .i64 s.size)
  | _ => none

/-! ### Cut -/
def pslc (es : Nat) (B : List PB) (E : Nat → PV) (x : PV) (lo hi mx : Option Opd) : Option PV :=
  match x with
  | .sn => match mx with | none => (pbnd E 0 0 hi).bind fun h => (pbnd E 0 h lo).bind fun l => some .sn | some _ => none
  | .vs w es' l =>
    if es' = es then
      match mx with
      | none => (pbnd E l.length l.length hi).bind fun h => (pbnd E 0 h lo).bind fun k => some (.vs (if lo = none then min w 1 else if 2 ≤ w then 1 else 0) es ((l.take h).drop k))
      | some m => match hi with
        | none => none
        | some hi => (pbnd E l.length l.length (some m)).bind fun m => (pbnd E l.length m (some hi)).bind fun h => (pbnd E 0 h lo).bind fun k => if 1 ≤ w ∨ k < m then some (.vs (if h = m then 2 else 1) es ((l.take h).drop k)) else none
    else none
  | .gr b => (pblk B b).bind fun p => if p.1 = es then match mx with
      | none => (pbnd E p.2.length p.2.length hi).bind fun h => (pbnd E 0 h lo).bind fun k => some (.gp es b k (h - k))
      | some _ => none
    else none
  | _ => none
theorem pbnd_le {d top k : Nat} {x : Option Opd} (hd : d ≤ top) (h : pbnd E d top x = some k) : k ≤ top := by
  cases x with
  | none => simp only [pbnd, Option.some.injEq] at h; omega
  | some x =>
    simp only [pbnd] at h
    split at h
    · split at h
      · simp only [Option.some.injEq] at h; omega
      · cases h
    · cases h
theorem bnd_more {d top top' k : Nat} {x : Option Opd} (ht : top ≤ top') (h : bnd Ea d top x = some k) : bnd Ea d top' x = some k := by
  cases x with
  | none => exact h
  | some x =>
    simp only [bnd] at h ⊢
    split at h
    · split at h
      · rw [if_pos ⟨by omega, by omega⟩]; exact h
      · cases h
    · cases h
theorem sl_sub {es n X o : Nat} {cs : List AV} (h : Rd H X o cs) (k h' : Nat) (hk : k ≤ h') (hh : h' * es ≤ cs.length) : Rd H X (o + k * es) ((cs.take (h' * es)).drop (k * es)) := by
  have hm : k * es ≤ h' * es := Nat.mul_le_mul_right _ hk
  refine ⟨fun i v hi => ?_, ?_⟩
  · rw [List.getElem?_drop, List.getElem?_take] at hi
    split at hi
    · rw [Nat.add_assoc]; exact h.1 _ v hi
    · cases hi
  · have := h.2; simp; omega
theorem slcSl_bk {es b o l h m : Nat} : (slcSl es b o l h m).bk = some b := rfl
theorem Rc_cut {F : Nat → Prop} {es X o n h' k m : Nat} {l : List PV} {cs : List AV} (hb : X < H.nx) (hF : F X) (hr : Rd H X o cs) (he : RcE F H es l cs) (hn : l.length = n) (hk : k ≤ h') (hh : h' ≤ n) (hm : h' ≤ m) {w : Nat} (hw : 2 ≤ w → h' = m) :
    Rc F H (.vs w es ((l.take h').drop k)) (slcSl es X o k h' m) := by
  have hl := he.len
  have hmul : h' * es ≤ cs.length := by rw [hl, hn]; exact Nat.mul_le_mul_right _ hh
  have hlen : ((l.take h').drop k).length = h' - k := by simp; omega
  have h1 := sl_sub (es := es) (n := n) hr k h' hk hmul
  have hclen : ((cs.take (h' * es)).drop (k * es)).length = (h' - k) * es := by
    have : k * es ≤ h' * es := Nat.mul_le_mul_right _ hk
    simp; rw [Nat.sub_mul]; omega
  refine ⟨⟨(cs.take (h' * es)).drop (k * es), ?_, fun b hb => ?_, (he.take h').drop k⟩, fun _ b o' q n' e h => by simp [slcSl] at h, fun h2 => ?_⟩
  · rw [hlen]
    unfold slcSl
    by_cases hmk : m = k
    · rw [if_pos hmk]
      have : h' = k := by omega
      subst this
      have hnil : (cs.take (h' * es)).drop (h' * es) = [] := List.drop_of_length_le (by simp; omega)
      rw [hnil]
      exact .sl hb (fun i v hi => by simp at hi) (by have := hr.2; simp; omega) (by simp) (by omega)
    · rw [if_neg hmk]
      exact .sl hb h1.1 h1.2 hclen (by omega)
  · simp only [slcSl_bk, Option.some.injEq] at hb; subst hb; exact hF
  · rw [hlen]
    have := hw h2
    subst this
    exact .inr ⟨X, _, rfl⟩
theorem Rc_snil {F : Nat → Prop} {w es : Nat} : Rc F H (.vs w es []) .sn :=
  ⟨⟨[], ⟨Sl.sn, fun b hb => by simp [AV.bk] at hb, by simp only [RcE]⟩⟩, (by intro _ b o q n e h; cases h), (by intro _; exact Or.inl rfl)⟩
theorem pslc_ok (hR : HR L H B) (hE : ER L H E Ea) {es : Nat} {x v : PV} {a : AV} {lo hi mx : Option Opd} (hx : Rp L H x a) (hv : pslc es B E x lo hi mx = some v) : ∃ c, vslc es H Ea a lo hi mx = some c ∧ Rp L H v c := by
  unfold pslc at hv
  split at hv
  · simp only [Rp] at hx; subst hx
    split at hv
    · simp only [Option.bind_eq_some_iff, Option.some.injEq] at hv
      obtain ⟨h, hh, k, hk, rfl⟩ := hv
      have h1 := pbnd_ok hE hh
      have h2 := pbnd_ok hE hk
      refine ⟨.sn, ?_, rfl⟩
      simp only [vslc]
      have h3 : bnd Ea 0 0 none = some 0 := rfl
      simp only [h3, Option.bind_some, h1, h2]
    · cases hv
  · rename_i w es' l
    split at hv
    · rename_i he; subst he
      obtain ⟨⟨cs, h1, h2, h3⟩, h4, h5⟩ := hx
      generalize hlen : l.length = n at *
      split at hv
      · simp only [Option.bind_eq_some_iff, Option.some.injEq] at hv
        obtain ⟨h, hh, k, hk, rfl⟩ := hv
        have hn := pbnd_le (Nat.le_refl _) hh
        have hkh := pbnd_le (Nat.zero_le _) hk
        have b1 := pbnd_ok hE hh
        have b2 := pbnd_ok hE hk
        cases h1 with
        | sn =>
          have : l = [] := List.eq_nil_of_length_eq_zero hlen
          subst this
          have b3 : bnd Ea 0 0 none = some 0 := rfl
          refine ⟨.sn, by simp only [vslc, b3, Option.bind_some, b1, b2], ?_⟩
          have hnil : (List.take h ([] : List PV)).drop k = [] := by simp
          rw [hnil]
          exact Rc_snil
        | @sl X o _ c _ g1 g2 g3 g4 g5 =>
          have b3 : bnd Ea c c none = some c := rfl
          refine ⟨slcSl es' X o k h c, by simp only [vslc, b3, Option.bind_some, bnd_more g5 b1, b2], ?_⟩
          refine Rc_cut g1 (h2 X rfl) ⟨g2, g3⟩ h3 hlen hkh hn (by omega) (fun hw => ?_)
          exfalso
          split at hw
          · omega
          · split at hw <;> omega
        | @sg X o q _ _ g1 g2 g3 g4 g5 g6 =>
          have hmul : n * es' ≤ (H.g X).cells.length - o := by omega
          have hl := h3.len
          have hlen2 : ((l.take h).drop k).length = h - k := by simp; omega
          have hrd := sl_sub (es := es') (n := n) ⟨g2, g3⟩ k h hkh (by rw [g5]; exact Nat.mul_le_mul_right _ hn)
          have hclen : ((cs.take (h * es')).drop (k * es')).length = (h - k) * es' := by
            have t1 : k * es' ≤ h * es' := Nat.mul_le_mul_right _ hkh
            have t2 : h * es' ≤ n * es' := Nat.mul_le_mul_right _ hn
            simp; rw [Nat.sub_mul]; omega
          refine ⟨if k = 0 then .sg X o q h es' else .sg X (o + k * es') o (h - k) es', ?_, ?_⟩
          · simp only [vslc]
            rw [if_pos ⟨trivial, g6, by omega, g4⟩]
            simp only [b1, b2, Option.bind_some]
          · by_cases hk0 : k = 0
            · subst hk0
              rw [if_pos rfl]
              simp only [Nat.zero_mul, Nat.add_zero, Nat.sub_zero] at hrd hclen hlen2
              refine ⟨⟨_, by rw [hlen2]; exact .sg g1 hrd.1 hrd.2 g4 hclen g6, fun b hb => h2 b hb, by simpa using (h3.take h).drop 0⟩, fun hw b o' q' n' e he => ?_, fun hw => ?_⟩
              · simp only [AV.sg.injEq] at he
                obtain ⟨rfl, rfl, rfl, _⟩ := he
                have hw1 : 1 ≤ w := by
                  split at hw
                  · omega
                  · split at hw <;> omega
                exact h4 hw1 _ _ _ _ _ rfl
              · exfalso
                split at hw
                · omega
                · split at hw <;> omega
            · rw [if_neg hk0]
              refine ⟨⟨_, by rw [hlen2]; exact .sg g1 hrd.1 hrd.2 g4 hclen g6, fun b hb => h2 b hb, (h3.take h).drop k⟩, fun hw => ?_, fun hw => ?_⟩
              · exfalso
                split at hw
                · rename_i hl0; rw [hl0] at hk; simp only [pbnd, Option.some.injEq] at hk; omega
                · split at hw
                  · rename_i hw2
                    rcases h5 hw2 with h5 | ⟨_, _, h5⟩ <;> cases h5
                  · omega
              · exfalso
                split at hw
                · omega
                · split at hw <;> omega
      · rename_i m
        split at hv
        · cases hv
        rename_i hi
        simp only [Option.bind_eq_some_iff] at hv
        obtain ⟨m', hm, h, hh, k, hk, hv⟩ := hv
        split at hv
        · rename_i hcnd
          simp only [Option.some.injEq] at hv; subst hv
          have hmn := pbnd_le (Nat.le_refl _) hm
          have b1 := pbnd_ok hE hm
          have b2 := pbnd_ok hE hh
          have b3 := pbnd_ok hE hk
          have hkh := pbnd_le (Nat.zero_le _) hk
          have hhm : h ≤ m' := by
            simp only [pbnd] at hh
            split at hh
            · split at hh
              · simp only [Option.some.injEq] at hh; omega
              · cases hh
            · cases hh
          have hw2 : 2 ≤ (if h = m' then 2 else 1) → h = m' := fun hw => by split at hw <;> omega
          cases h1 with
          | sn =>
            have : l = [] := List.eq_nil_of_length_eq_zero hlen
            subst this
            refine ⟨.sn, by simp only [vslc, show bnd Ea 0 0 (some m) = some m' from b1, Option.bind_some, show bnd Ea 0 m' (some hi) = some h from b2, b3], ?_⟩
            have hnil : (List.take h ([] : List PV)).drop k = [] := by simp
            rw [hnil]
            exact Rc_snil
          | @sl X o _ c _ g1 g2 g3 g4 g5 =>
            refine ⟨slcSl es' X o k h m', by simp only [vslc, show bnd Ea c c (some m) = some m' from bnd_more g5 b1, Option.bind_some, b2, b3], ?_⟩
            exact Rc_cut g1 (h2 X rfl) ⟨g2, g3⟩ h3 hlen hkh (by omega) hhm hw2
          | @sg X o q _ _ g1 g2 g3 g4 g5 g6 =>
            refine ⟨slcSl es' X o k h m', ?_, Rc_cut g1 (h2 X rfl) ⟨g2, g3⟩ h3 hlen hkh (by omega) hhm hw2⟩
            simp only [vslc]
            rw [if_pos ⟨trivial, g6, by omega, g4⟩]
            simp only [b1, b2, b3, Option.bind_some]
            rw [if_pos]
            rcases hcnd with hw | hkm
            · exact .inl (h4 hw _ _ _ _ _ rfl)
            · exact .inr hkm
        · cases hv
    · cases hv
  · rename_i b
    obtain ⟨h0, rfl, _⟩ := hx
    simp only [Option.bind_eq_some_iff] at hv
    obtain ⟨⟨es', l⟩, hb, hv⟩ := hv
    split at hv
    · rename_i he
      simp only at he; subst he
      split at hv
      · simp only [Option.bind_eq_some_iff, Option.some.injEq] at hv
        obtain ⟨h, hh, k, hk, rfl⟩ := hv
        have hn := pbnd_le (Nat.le_refl _) hh
        have hkh := pbnd_le (Nat.zero_le _) hk
        have b1 := pbnd_ok hE hh
        have b2 := pbnd_ok hE hk
        rcases pblk_ok hR hb with ⟨⟨⟨cs, h1, h1b, h1c⟩, _, h5⟩, hnil⟩ | ⟨X, h1⟩
        · subst hnil
          simp only [List.length_nil] at hn b1 h5
          rcases h5 (Nat.le_refl _) with h5 | ⟨X, o, h5⟩
          · rw [h5]
            exact ⟨.sn, by simp only [vslc, show bnd Ea 0 0 none = some 0 from rfl, Option.bind_some, b1, b2], h0, .inl ⟨by omega, Rc_snil⟩⟩
          · rw [h5]
            refine ⟨slcSl es' X o k h 0, by simp only [vslc, show bnd Ea 0 0 none = some 0 from rfl, Option.bind_some, b1, b2], h0, .inl ⟨by omega, ?_⟩⟩
            have hk0 : k = 0 := by omega
            have hh0 : h = 0 := by omega
            subst hk0; subst hh0
            rw [h5] at h1 h1b
            simp only [slcSl, if_true]
            exact ⟨⟨cs, h1, h1b, h1c⟩, (by intro hw; omega), (by intro hw; omega)⟩
        · have hX := h1.bk
          obtain ⟨cs, sp, g1, g2, g3, g4⟩ := h1
          have hl := g3.len
          rcases g4 with ⟨g4, g5⟩ | ⟨c, g5, g4, _⟩
          · rw [show vslc es' H Ea (L.m b) lo hi none = vslc es' H Ea (.sg X 0 0 l.length es') lo hi none by rw [g4]]
            refine ⟨if k = 0 then .sg X 0 0 h es' else .sg X (0 + k * es') 0 (h - k) es', ?_, h0, .inr ⟨X, hX, .inr ?_⟩⟩
            · simp only [vslc]
              rw [if_pos ⟨trivial, g5, by rw [g2]; simp [Blk.cells]; omega, by rw [g2]; rfl⟩]
              simp only [b1, b2, Option.bind_some]
            · by_cases hk0 : k = 0
              · subst hk0
                exact ⟨0, 0, _, by rw [if_pos rfl]; rfl, g5, by simp, g4⟩
              · exact ⟨_, _, _, by rw [if_neg hk0], g5, by simp, g4⟩
          · rw [g4]
            refine ⟨slcSl es' X 0 k h c, by simp only [vslc, show bnd Ea c c none = some c from rfl, Option.bind_some, bnd_more g5 b1, b2], h0, .inr ⟨X, hX, .inl ⟨_, _, rfl, by omega, ?_⟩⟩⟩
            by_cases hck : c = k
            · left; rw [if_pos hck]; exact ⟨by omega, Nat.zero_le _⟩
            · right; rw [if_neg hck, Nat.zero_add]
      · cases hv
    · cases hv
  · cases hv

/-! ### What leaves memory as it is -/
def pvop (E : Nat → PV) (B : List PB) : VOp → Option PV
  | .mv x => some (pev E x)
  | .pick c a b => ppick (pev E c) (pev E a) (pev E b)
  | .bld z ps => (pfill E (z.map ofAV) ps).map .ag
  | .ld n x => pld n B (pev E x)
  | .ld1 x => pld1 B (pev E x)
  | .nilc x => pnilc (pev E x)
  | .bin op te cn x y => pbin op te cn (pev E x) (pev E y)
  | .un op x => pun op (pev E x)
  | .cvi k x => pcvi k (pev E x)
  | .mkif t x => some (.fc t (pev E x))
  | .mkfn f a c => some (.fn f (a.map (pev E)) (c.map (pev E)))
  | .slc es x lo hi mx => pslc es B E (pev E x) lo hi mx
  | .fa o x => pfa o (pev E x)
  | .fld o n ag x => pfld o n ag (pev E x)
  | .ia es x i => pia es B (pev E x) (pev E i)
  | .iaa n es x i => piaa n es (pev E x) (pev E i)
  | .ix n es ag x i => pix n es ag (pev E x) (pev E i)
  | .ext x i => pext i (pev E x)
  | .len 1 x => plen B (pev E x)
  | .len 0 x => plen0 (pev E x)
  | .lenk n => some (.it .i64 n)
  | .mm mx (x :: r) => pmmL mx (pev E x) (r.map (pev E))
  | _ => none
theorem ppick_ok {x y z v : PV} {a b c : AV} (hx : Rp L H x a) (hy : Rp L H y b) (hz : Rp L H z c) (h : ppick x y z = some v) : ∃ d, AV.pick a b c = some d ∧ Rp L H v d := by
  cases x <;> simp only [ppick, reduceCtorEq, Option.some.injEq] at h
  rename_i t
  simp only [Rp] at hx; subst hx; subst h
  cases t
  · exact ⟨c, rfl, hz⟩
  · exact ⟨b, rfl, hy⟩
theorem RpL_ofAV : ∀ (z : List AV), RpL L H (z.map ofAV) z
  | [] => by simp [RpL]
  | v :: r => ⟨v, r, rfl, Rc.p _ (Rc_of v), RpL_ofAV r⟩
theorem pvop_ok (hR : HR L H B) (hE : ER L H E Ea) {vo : VOp} {v : PV} (hv : pvop E B vo = some v) : ∃ c, vop vo Ea H = some (c, H) ∧ Rp L H v c := by
  have fin : ∀ {r : Option AV}, vop vo Ea H = r.map (·, H) → (∃ c, r = some c ∧ Rp L H v c) → ∃ c, vop vo Ea H = some (c, H) ∧ Rp L H v c := by
    rintro r h ⟨c, rfl, h2⟩
    exact ⟨c, h, h2⟩
  unfold pvop at hv
  split at hv
  · simp only [Option.some.injEq] at hv; subst hv
    exact ⟨_, rfl, Rp_ev hE _⟩
  · exact fin rfl (ppick_ok (Rp_ev hE _) (Rp_ev hE _) (Rp_ev hE _) hv)
  · obtain ⟨l, hl, rfl⟩ := Option.map_eq_some_iff.1 hv
    obtain ⟨l', h1, h2⟩ := pfill_ok hE _ (RpL_ofAV _) hl
    exact ⟨.ag l', by simp only [vop, h1, Option.map_some], ⟨_, rfl, h2⟩⟩
  · exact fin rfl (pld_ok hR (Rp_ev hE _) hv)
  · exact fin rfl (pld1_ok hR (Rp_ev hE _) hv)
  · exact fin rfl (pnilc_ok (Rp_ev hE _) hv)
  · exact fin rfl (pbin_ok (Rp_ev hE _) (Rp_ev hE _) hv)
  · exact fin rfl (pun_ok (Rp_ev hE _) hv)
  · exact fin rfl (pcvi_ok (Rp_ev hE _) hv)
  · simp only [Option.some.injEq] at hv; subst hv
    exact ⟨_, rfl, ⟨_, rfl, Rp_ev hE _⟩⟩
  · simp only [Option.some.injEq] at hv; subst hv
    exact ⟨_, rfl, ⟨_, _, rfl, RpL_map hE _, RpL_map hE _⟩⟩
  · exact fin rfl (pslc_ok hR hE (Rp_ev hE _) hv)
  · obtain ⟨b, p, h1, h2⟩ := pfa_ok (Rp_ev hE _) hv
    exact ⟨_, by simp only [vop, h1, vfa, Option.map_some], h2⟩
  · exact fin rfl (pfld_ok (Rp_ev hE _) hv)
  · exact fin rfl (pia_ok hR (Rp_ev hE _) (Rp_ev hE _) hv)
  · exact fin rfl (piaa_ok (Rp_ev hE _) (Rp_ev hE _) hv)
  · exact fin rfl (pix_ok (Rp_ev hE _) (Rp_ev hE _) hv)
  · exact fin rfl (pext_ok (Rp_ev hE _) hv)
  · exact fin rfl (plen_ok hR (Rp_ev hE _) hv)
  · rename_i x
    have hx := Rp_ev hE x
    generalize pev E x = u at *
    cases u <;> simp only [plen0, reduceCtorEq, Option.some.injEq] at hv
    subst hv
    simp only [Rp] at hx
    exact ⟨_, by simp only [vop, hx, vlen, Option.map_some], rfl⟩
  · simp only [Option.some.injEq] at hv; subst hv
    exact ⟨_, rfl, rfl⟩
  · exact fin rfl (pmmL_ok (Rp_ev hE _) (RpL_map hE _) hv)
  · cases hv
end
end Go.AX
